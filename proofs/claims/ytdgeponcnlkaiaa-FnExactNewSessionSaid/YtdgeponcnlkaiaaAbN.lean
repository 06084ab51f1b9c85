/- Keys of maps that are rows of ints: they are told apart as lists are. No condition. -/
import Derived.Test.YtdgeponcnlkaiaaAbM
import Derived.Laws.StructEq
import Derived.WideKeyRuns
namespace Go.Proofs.Ytdgeponcnlkaiaa.Ab
open Go
set_option linter.unusedSimpArgs false
set_option linter.unusedVariables false
set_option linter.unusedSectionVars false

section
variable {P : Program} {T : TT}

def iv (l : List Int) : Array Value := (l.map (Value.int .i64)).toArray
def valT (kd : TK) (l : List Int) : Value := if isAggK kd then keyV l else .int .i64 (l.headD 0)
theorem keyV_iv (l : List Int) : keyV l = .agg (iv l) := rfl
def seg (l : List Int) (off n : Nat) : List Int := (l.drop off).take n
theorem seg_length {l : List Int} {off n : Nat} (h : off + n ≤ l.length) : (seg l off n).length = n := by
  simp only [seg, List.length_take, List.length_drop]
  omega
theorem iv_extract (l : List Int) (off n : Nat) (h : off + n ≤ l.length) : (iv l).extract off (off + n) = iv (seg l off n) := by
  apply Array.ext'
  simp only [iv, seg, Array.toList_extract, List.extract_eq_take_drop, Nat.add_sub_cancel_left, List.map_take, List.map_drop]

theorem flat_part {t : Nat} {i : TI} (hT : tabB P T = true) (hi : tget T t = some i) (h1 : isAggK i.kd = false → i.size = 1) {l : List Int} {off : Nat} (hl : off + i.size ≤ l.length) (w : World) :
    (part t (iv l) off).run P w = .ok (valT i.kd (seg l off i.size)) w := by
  have hrow := tab_ok hT hi
  unfold part
  simp only [Sem.run_bind, hrow.agg, Result.andThen_ok]
  by_cases ha : isAggK i.kd = true
  · simp only [ha, if_true, Sem.run_bind, hrow.size, Result.andThen_ok, Sem.run_pure, iv_extract l off i.size hl, valT, keyV_iv]
  · simp only [ha, Bool.false_eq_true, if_false]
    have h2 := h1 (by simpa using ha)
    rw [h2] at hl ⊢
    have hlt : off < l.length := by omega
    have : (iv l)[off]? = some (.int .i64 l[off]) := by
      simp [iv, List.getElem?_map, List.getElem?_eq_getElem hlt]
    rw [this]
    simp only [valT, ha, Bool.false_eq_true, if_false, seg]
    have e : (List.take 1 (List.drop off l)).headD 0 = l[off] := by
      rw [List.drop_eq_getElem_cons hlt]
      rfl
    rw [e]
    simp

theorem flat_one {m t : Nat} {i : TI} (hf : flatInt T m t = true) (hi : tget T t = some i) : isAggK i.kd = false → i.size = 1 := by
  intro ha
  cases m with
  | zero => simp [flatInt] at hf
  | succ m =>
    simp only [flatInt, hi] at hf
    split at hf
    · simpa using hf
    · rename_i hk; rw [hk] at ha; simp [isAggK] at ha
    · rename_i hk; rw [hk] at ha; simp [isAggK] at ha
    · simp at hf

/-- Two segments from an offset on are one. -/
theorem seg_append (a : List Int) (off n m : Nat) : seg a off (n + m) = seg a off n ++ seg a (off + n) m := by
  simp only [seg, List.take_add, List.drop_drop]

theorem seg_eq_split {a b : List Int} {off n m : Nat} (ha : off + n ≤ a.length) (hb : off + n ≤ b.length) : (seg a off (n + m) = seg b off (n + m)) ↔ (seg a off n = seg b off n ∧ seg a (off + n) m = seg b (off + n) m) := by
  rw [seg_append, seg_append]
  refine ⟨fun h => List.append_inj h (by rw [seg_length ha, seg_length hb]), fun h => by rw [h.1, h.2]⟩

def EqT (P : Program) (T : TT) (d t : Nat) : Prop := ∀ (w : World) (i : TI) (a b : List Int), tget T t = some i → a.length = i.size → b.length = i.size →
  (Op.equalIn d t (valT i.kd a) (valT i.kd b)).run P w = .ok (decide (a = b)) w

theorem eqItems_run {d e : Nat} {j : TI} (hT : tabB P T = true) (hj : tget T e = some j) (h1 : isAggK j.kd = false → j.size = 1) (IH : EqT P T d e) {a b : List Int} (w : World) :
    ∀ (n s : Nat), (s + n) * j.size ≤ a.length → (s + n) * j.size ≤ b.length →
      (Op.eqItems d e j.size (iv a) (iv b) (List.range' s n)).run P w = .ok (decide (seg a (s * j.size) (n * j.size) = seg b (s * j.size) (n * j.size))) w
  | 0, s, ha, hb => by simp [Op.eqItems, seg]
  | n + 1, s, ha, hb => by
    have e1 : (s + (n + 1)) * j.size = s * j.size + j.size + n * j.size := by rw [Nat.add_mul, Nat.add_mul]; omega
    have e2 : (n + 1) * j.size = j.size + n * j.size := by rw [Nat.add_mul]; omega
    have e3 : (s + 1) * j.size = s * j.size + j.size := by rw [Nat.add_mul]; omega
    rw [e1] at ha hb
    have hla : s * j.size + j.size ≤ a.length := by omega
    have hlb : s * j.size + j.size ≤ b.length := by omega
    simp only [List.range'_succ, Op.eqItems, Sem.run_bind, flat_part hT hj h1 hla, flat_part hT hj h1 hlb, Result.andThen_ok, IH w j _ _ hj (seg_length hla) (seg_length hlb)]
    have ih := eqItems_run hT hj h1 IH w (a := a) (b := b) n (s + 1) (by rw [Nat.add_mul, e3]; omega) (by rw [Nat.add_mul, e3]; omega)
    rw [e2]
    have hsp := seg_eq_split (m := n * j.size) hla hlb
    by_cases hd : seg a (s * j.size) j.size = seg b (s * j.size) j.size
    · simp only [hd, decide_true, Bool.not_true, Bool.false_eq_true, if_false]
      rw [ih, e3]
      congr 1
      rw [decide_eq_decide, hsp]
      simp [hd]
    · simp only [hd, decide_false, Bool.not_false, if_true, Sem.run_pure]
      congr 1
      rw [eq_comm, decide_eq_false_iff_not, hsp]
      simp [hd]

theorem eqFields_run {d n : Nat} (hT : tabB P T = true) {a b : List Int} (ha : a.length = n) (hb : b.length = n) (w : World) :
    ∀ (fl : List Field) (o : Nat), tileB T (fl.map fun f => (f.offset, f.type)) o n = true → (∀ f ∈ fl, f.name ≠ "_") → (∀ f ∈ fl, EqT P T d f.type ∧ ∀ j, tget T f.type = some j → isAggK j.kd = false → j.size = 1) →
      o ≤ n ∧ (Op.eqFields d (iv a) (iv b) fl).run P w = .ok (decide (seg a o (n - o) = seg b o (n - o))) w
  | [], o, ht, _, _ => by
    simp only [List.map_nil, tileB, beq_iff_eq] at ht
    subst ht
    exact ⟨Nat.le_refl _, by simp [Op.eqFields, seg]⟩
  | f :: fl, o, ht, hn, hall => by
    simp only [List.map_cons, tileB, Bool.and_eq_true, beq_iff_eq] at ht
    obtain ⟨e0, ht⟩ := ht
    split at ht
    · rename_i j hj
      obtain ⟨h1, ih⟩ := eqFields_run hT ha hb w fl (o + j.size) ht (fun g hg => hn g (List.mem_cons_of_mem _ hg)) (fun g hg => hall g (List.mem_cons_of_mem _ hg))
      obtain ⟨IH, hone⟩ := hall f (List.mem_cons_self ..)
      have hla : o + j.size ≤ a.length := by omega
      have hlb : o + j.size ≤ b.length := by omega
      refine ⟨by omega, ?_⟩
      simp only [Op.eqFields, hn f (List.mem_cons_self ..), ne_eq, not_false_eq_true, if_true, Sem.run_bind, e0, flat_part hT hj (hone j hj) hla, flat_part hT hj (hone j hj) hlb, Result.andThen_ok, IH w j _ _ hj (seg_length hla) (seg_length hlb)]
      have hsp := seg_eq_split (m := n - (o + j.size)) hla hlb
      rw [show n - o = j.size + (n - (o + j.size)) by omega]
      by_cases hd : seg a o j.size = seg b o j.size
      · simp only [hd, decide_true, Bool.not_true, Bool.false_eq_true, if_false]
        rw [ih]
        congr 1
        rw [decide_eq_decide, hsp]
        simp [hd]
      · simp only [hd, decide_false, Bool.not_false, if_true, Sem.run_pure]
        congr 1
        rw [eq_comm, decide_eq_false_iff_not, hsp]
        simp [hd]
    · simp at ht

theorem seg_all {a : List Int} {n : Nat} (h : a.length = n) : seg a 0 n = a := by
  subst h
  simp [seg]

theorem info_of_tget (hT : tabB P T = true) {t : Nat} {i : TI} (hi : tget T t = some i) : ∃ ti, P.info? t = some ti := by
  obtain ⟨ti, h, _⟩ := (tab_ok hT hi).info
  exact ⟨ti, h⟩

theorem flat_equal (hT : tabB P T = true) : ∀ (m d t : Nat), flatInt T m t = true → EqT P T (d + m) t
  | 0, d, t, h => by simp [flatInt] at h
  | m + 1, d, t, h => by
    intro w i a b hi ha hb
    have hone := flat_one h hi
    simp only [flatInt, hi] at h
    have hrow := tab_ok hT hi
    split at h
    · rename_i hk
      have hu := kd_int hrow hk
      have hs : i.size = 1 := by simpa using h
      rw [hs] at ha hb
      match a, b, ha, hb with
      | [x], [y], _, _ =>
        simp only [hk, valT, isAggK, Bool.false_eq_true, if_false, List.headD_cons]
        rw [show d + (m + 1) = (d + m) + 1 from rfl, run_equalIn_int w (d + m) t .i64 .i64 x y hu]
        simp [eq_comm]
        rfl
    · rename_i n e hk
      simp only [Bool.and_eq_true] at h
      obtain ⟨h1, h2⟩ := h
      split at h1
      · rename_i j hj
        simp only [Bool.and_eq_true, beq_iff_eq, bne_iff_ne, ne_eq] at h1
        obtain ⟨ji, hji⟩ := info_of_tget hT hj
        simp only [hk, valT, isAggK, if_true, keyV_iv]
        rw [show d + (m + 1) = (d + m) + 1 from rfl, run_equalIn_array w (d + m) (iv a) (iv b) (kd_arr hrow hk) hji, (tab_ok hT hj).cells, List.range_eq_range']
        have := eqItems_run hT hj (flat_one h2 hj) (flat_equal hT m d e h2) (a := a) (b := b) w n 0 (by rw [Nat.zero_add, ← h1.1, ha]; exact Nat.le_refl _) (by rw [Nat.zero_add, ← h1.1, hb]; exact Nat.le_refl _)
        rw [this, Nat.zero_mul, ← h1.1, seg_all ha, seg_all hb]
      · simp at h1
    · rename_i fs hk
      simp only [Bool.and_eq_true, List.all_eq_true] at h
      obtain ⟨h1, h2⟩ := h
      obtain ⟨l, hu, he, hn, hst⟩ := kd_st hrow hk
      have hfo : P.fieldsOf t = l := by simp [Program.fieldsOf, hu]
      simp only [hk, valT, isAggK, if_true, keyV_iv]
      rw [show d + (m + 1) = (d + m) + 1 from rfl, run_equalIn_struct w (d + m) t (iv a) (iv b) (by rw [hfo]; exact hu) hst, hfo]
      subst he
      obtain ⟨_, h3⟩ := eqFields_run (d := d + m) hT ha hb w l.toList 0 h1 (fun f hf => (hn f hf).1) (fun f hf => by
        have := h2 (f.offset, f.type) (List.mem_map.2 ⟨f, hf, rfl⟩)
        exact ⟨flat_equal hT m d f.type this, fun j hj => flat_one this hj⟩)
      rw [h3, Nat.sub_zero, seg_all ha, seg_all hb]
    · simp at h

def CkT (P : Program) (T : TT) (em : Bool) (d t : Nat) : Prop := ∀ (w : World) (i : TI) (a : List Int), tget T t = some i → a.length = i.size → (Instr.checkKey em d t (valT i.kd a)).run P w = .ok () w

theorem flat_check (hT : tabB P T = true) (em : Bool) : ∀ (m d t : Nat), flatInt T m t = true → CkT P T em (d + m) t
  | 0, d, t, h => by simp [flatInt] at h
  | m + 1, d, t, h => by
    intro w i a hi ha
    simp only [flatInt, hi] at h
    have hrow := tab_ok hT hi
    split at h
    · rename_i hk
      have hu := kd_int hrow hk
      simp only [hk, valT, isAggK, Bool.false_eq_true, if_false]
      rw [show d + (m + 1) = (d + m) + 1 from rfl]
      simp [Instr.checkKey, run_underlying hu]
    · rename_i n e hk
      simp only [Bool.and_eq_true] at h
      obtain ⟨h1, h2⟩ := h
      split at h1
      · rename_i j hj
        simp only [Bool.and_eq_true, beq_iff_eq, bne_iff_ne, ne_eq] at h1
        have hu := kd_arr hrow hk
        simp only [hk, valT, isAggK, if_true, keyV_iv]
        rw [show d + (m + 1) = (d + m) + 1 from rfl, Instr.checkKey]
        simp only [Sem.run_bind, run_underlying hu, Result.andThen_ok]
        simp only [Std.Legacy.Range.forIn_eq_forIn_range', Std.Legacy.Range.size, Nat.sub_zero, Nat.add_one_sub_one, Nat.div_one]
        have each : ∀ x ∈ List.range' 0 n, x * j.size + j.size ≤ a.length := fun x hx => by
          have hx' : x < n := by simpa [List.mem_range'] using hx
          rw [ha, h1.1]
          have := Nat.mul_le_mul_right j.size (show x + 1 ≤ n from hx')
          rw [Nat.add_mul, Nat.one_mul] at this
          exact this
        generalize List.range' 0 n = is at each
        induction is with
        | nil => simp
        | cons x is ih =>
          have hl := each x (List.mem_cons_self ..)
          simp only [List.forIn_cons, Sem.run_bind, (tab_ok hT hj).size, Result.andThen_ok, flat_part hT hj (flat_one h2 hj) hl, flat_check hT em m d e h2 w j _ hj (seg_length hl), Sem.run_pure]
          exact ih fun y hy => each y (List.mem_cons_of_mem _ hy)
      · simp at h1
    · rename_i fs hk
      simp only [Bool.and_eq_true, List.all_eq_true] at h
      obtain ⟨h1, h2⟩ := h
      obtain ⟨l, hu, he, hn, hst⟩ := kd_st hrow hk
      simp only [hk, valT, isAggK, if_true, keyV_iv]
      rw [show d + (m + 1) = (d + m) + 1 from rfl, Instr.checkKey]
      simp only [Sem.run_bind, run_underlying hu, Result.andThen_ok]
      rw [← Array.forIn_toList]
      subst he
      have go : ∀ (fl : List Field) (o : Nat), tileB T (fl.map fun f => (f.offset, f.type)) o i.size = true → (∀ f ∈ fl, f.name ≠ "_") → (∀ f ∈ fl, flatInt T m f.type = true) →
          o ≤ i.size ∧ (forIn fl PUnit.unit fun f r => (if f.name ≠ "_" then (do Instr.checkKey em (d + m) f.type (← part f.type (iv a) f.offset); pure (ForInStep.yield PUnit.unit)) else pure (ForInStep.yield PUnit.unit) : Sem (ForInStep PUnit))).run P w = .ok PUnit.unit w := by
        intro fl
        induction fl with
        | nil =>
          intro o ht _ _
          simp only [List.map_nil, tileB, beq_iff_eq] at ht
          exact ⟨by omega, by simp⟩
        | cons f fl ih =>
          intro o ht hn hf
          simp only [List.map_cons, tileB, Bool.and_eq_true, beq_iff_eq] at ht
          obtain ⟨e0, ht⟩ := ht
          split at ht
          · rename_i j hj
            obtain ⟨g1, g2⟩ := ih (o + j.size) ht (fun g hg => hn g (List.mem_cons_of_mem _ hg)) (fun g hg => hf g (List.mem_cons_of_mem _ hg))
            have hff := hf f (List.mem_cons_self ..)
            have hl : f.offset + j.size ≤ a.length := by omega
            refine ⟨by omega, ?_⟩
            simp only [List.forIn_cons, Sem.run_bind, hn f (List.mem_cons_self ..), ne_eq, not_false_eq_true, if_true, flat_part hT hj (flat_one hff hj) hl, Result.andThen_ok, flat_check hT em m d f.type hff w j _ hj (seg_length hl), Sem.run_pure]
            simpa using g2
          · simp at ht
      have g := (go l.toList 0 h1 (fun f hf => (hn f hf).1) (fun f hf => h2 (f.offset, f.type) (List.mem_map.2 ⟨f, hf, rfl⟩))).2
      rw [g]
      rfl
    · simp at h

end
end Go.Proofs.Ytdgeponcnlkaiaa.Ab
