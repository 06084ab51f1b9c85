/- What a silent operation yields: types from the table, operands, loads, places, arithmetic. No condition. -/
import Derived.Test.YtdgeponcnlkaiaaAbH
import Derived.Laws.Slices
import Derived.ChangeKeysEq
namespace Go.Proofs.Ytdgeponcnlkaiaa.Ab
open Go
set_option linter.unusedSimpArgs false
set_option linter.unusedVariables false
set_option linter.unusedSectionVars false

/-! ### The table of types is true of the program -/
def zeroB : Value → Value → Bool
  | .int k n, .int k' n' => k == k' && n == n'
  | .bool a, .bool b => a == b
  | .string s, .string t => s.size == 0 && t.size == 0
  | .pointer none, .pointer none => true
  | .slice none 0 0, .slice none 0 0 => true
  | .map none, .map none => true
  | .nilFunc, .nilFunc => true
  | .nilIface, .nilIface => true
  | _, _ => false
theorem zeroB_eq {x y : Value} (h : zeroB x y = true) : x = y ∧ x.oneCell' = true := by
  unfold zeroB at h
  split at h <;> simp_all [Value.oneCell']
def zerosB : List Value → List Value → Bool
  | [], [] => true
  | x :: r, y :: s => zeroB x y && zerosB r s
  | _, _ => false
theorem zerosB_eq : ∀ {x y : List Value}, zerosB x y = true → x = y ∧ ∀ v ∈ x, v.oneCell' = true
  | [], [], _ => ⟨rfl, by simp⟩
  | x :: r, y :: s, h => by
    simp only [zerosB, Bool.and_eq_true] at h
    obtain ⟨rfl, h1⟩ := zeroB_eq h.1
    obtain ⟨rfl, h2⟩ := zerosB_eq h.2
    exact ⟨rfl, by simpa using ⟨h1, h2⟩⟩
  | [], _ :: _, h => by simp [zerosB] at h
  | _ :: _, [], h => by simp [zerosB] at h

def fieldsB (P : Program) : List (Nat × Nat) → List Field → Bool
  | [], [] => true
  | x :: r, f :: s => x.1 == f.offset && x.2 == f.type && !(f.name == "_") && (P.info? f.type).isSome && fieldsB P r s
  | _, _ => false
theorem fieldsB_eq {P : Program} : ∀ {fs : List (Nat × Nat)} {l : List Field}, fieldsB P fs l = true → fs = l.map (fun f => (f.offset, f.type)) ∧ ∀ f ∈ l, f.name ≠ "_" ∧ (P.info? f.type).isSome = true
  | [], [], _ => ⟨rfl, by simp⟩
  | x :: r, f :: s, h => by
    simp only [fieldsB, Bool.and_eq_true, beq_iff_eq, Bool.not_eq_true', beq_eq_false_iff_ne] at h
    obtain ⟨e, h2⟩ := fieldsB_eq h.2
    refine ⟨by rw [List.map_cons, ← e]; obtain ⟨a, b⟩ := x; simp_all, ?_⟩
    intro g hg
    rcases List.mem_cons.1 hg with rfl | hg
    · exact ⟨h.1.1.2, h.1.2⟩
    · exact h2 g hg
  | [], _ :: _, h => by simp [fieldsB] at h
  | _ :: _, [], h => by simp [fieldsB] at h

def kdB (P : Program) (t : Nat) (kd : TK) : Bool :=
  match kd, P.underlying t with
  | .int k, some (.int k') => k == k'
  | .bool, some .bool => true
  | .str, some .string => true
  | .sl e, some (.slice e') => e == e'
  | .arr n e, some (.array n' e') => n == n' && e == e'
  | .st fs, some (.struct l) => fieldsB P fs l.toList && !P.stoodInHeld t
  | .map k e, some (.map k' e') => k == k' && e == e'
  | .other, some (.pointer _) => true
  | .other, some (.func _ _ _) => true
  | .other, some (.tuple _) => true
  | .other, some (.interface _) => true
  | _, _ => false
def rowB (P : Program) (t : Nat) (i : TI) : Bool :=
  match P.info? t with
  | some ti => ti.size == i.size && ti.bytes == i.bytes && (match ti.zero with | some z => zerosB i.zero z.cells.toList && (isAggK i.kd || z.oneCell') | none => false) && (i.zero.length == i.size) && kdB P t i.kd
  | none => false
def tabB (P : Program) : TT → Bool
  | [] => true
  | x :: r => rowB P x.1 x.2 && tabB P r
structure RowOk (P : Program) (t : Nat) (i : TI) : Prop where
  info : ∃ ti, P.info? t = some ti ∧ ti.size = i.size ∧ ti.bytes = i.bytes ∧ ∃ z, ti.zero = some z ∧ z.cells.toList = i.zero ∧ (isAggK i.kd = false → z.oneCell' = true)
  one : ∀ v ∈ i.zero, v.oneCell' = true
  len : i.zero.length = i.size
  kd : kdB P t i.kd = true
theorem row_ok {P : Program} {t : Nat} {i : TI} (h : rowB P t i = true) : RowOk P t i := by
  unfold rowB at h
  cases hi : P.info? t with
  | none => simp [hi] at h
  | some ti =>
    simp only [hi, Bool.and_eq_true, beq_iff_eq] at h
    cases hz : ti.zero with
    | none => simp [hz] at h
    | some z =>
      simp only [hz] at h
      obtain ⟨g1, g2⟩ := Bool.and_eq_true_iff.1 h.1.1.2
      obtain ⟨e, h1⟩ := zerosB_eq g1
      exact ⟨⟨ti, hi, h.1.1.1.1, h.1.1.1.2, z, hz, e.symm, fun ha => by rw [ha] at g2; simpa using g2⟩, h1, h.1.2, h.2⟩
theorem tab_ok {P : Program} : ∀ {T : TT}, tabB P T = true → ∀ {t i}, tget T t = some i → RowOk P t i
  | [], _, t, i, h => by simp [tget] at h
  | (a, x) :: r, hT, t, i, h => by
    simp only [tabB, Bool.and_eq_true] at hT
    simp only [tget] at h
    split at h
    · rename_i e
      subst e
      injection h with h
      subst h
      exact row_ok hT.1
    · exact tab_ok hT.2 h

section types
variable {P : Program} {t : Nat} {i : TI}
theorem RowOk.size (h : RowOk P t i) (w : World) : (sizeOf t).run P w = .ok i.size w := by
  obtain ⟨ti, h1, h2, _⟩ := h.info
  simp [sizeOf, typeInfo, h1, h2]
theorem RowOk.cells (h : RowOk P t i) : P.cellsOf t = i.size := by
  obtain ⟨ti, h1, h2, _⟩ := h.info
  simp [Program.cellsOf, h1, h2]
theorem RowOk.zeroV (h : RowOk P t i) : ∃ z, z.cells.toList = i.zero ∧ (isAggK i.kd = false → z.oneCell' = true) ∧ ∀ w, (zeroValue t).run P w = .ok z w := by
  obtain ⟨ti, h1, h2, h3, z, h4, h5, h6⟩ := h.info
  exact ⟨z, h5, h6, fun w => by simp [zeroValue, typeInfo, h1, h4]⟩
theorem RowOk.und (h : RowOk P t i) : ∃ d, P.underlying t = some d ∧ ∀ w, (underlying t).run P w = .ok d w := by
  have := h.kd
  unfold kdB at this
  cases hd : P.underlying t with
  | none => simp [hd] at this
  | some d => exact ⟨d, rfl, fun w => run_underlying hd w⟩
theorem RowOk.agg (h : RowOk P t i) (w : World) : (isAgg t).run P w = .ok (isAggK i.kd) w := by
  have h1 := h.kd
  unfold kdB at h1
  obtain ⟨d, hd, hr⟩ := h.und
  rw [hd] at h1
  unfold isAgg
  simp only [Sem.run_bind, hr, Result.andThen]
  cases hk : i.kd <;> rw [hk] at h1 <;> cases d <;> simp_all [isAggK]
theorem kd_int {k : IntKind} (h : RowOk P t i) (e : i.kd = .int k) : P.underlying t = some (.int k) := by
  have h1 := h.kd
  rw [e] at h1
  unfold kdB at h1
  split at h1 <;> simp_all
theorem kd_bool (h : RowOk P t i) (e : i.kd = .bool) : P.underlying t = some .bool := by
  have h1 := h.kd
  rw [e] at h1
  unfold kdB at h1
  split at h1 <;> simp_all
theorem kd_str (h : RowOk P t i) (e : i.kd = .str) : P.underlying t = some .string := by
  have h1 := h.kd
  rw [e] at h1
  unfold kdB at h1
  split at h1 <;> simp_all
theorem kd_sl {k : Nat} (h : RowOk P t i) (e : i.kd = .sl k) : P.underlying t = some (.slice k) := by
  have h1 := h.kd
  rw [e] at h1
  unfold kdB at h1
  split at h1 <;> simp_all
theorem kd_arr {n k : Nat} (h : RowOk P t i) (e : i.kd = .arr n k) : P.underlying t = some (.array n k) := by
  have h1 := h.kd
  rw [e] at h1
  unfold kdB at h1
  split at h1 <;> simp_all
theorem kd_map {n k : Nat} (h : RowOk P t i) (e : i.kd = .map n k) : P.underlying t = some (.map n k) := by
  have h1 := h.kd
  rw [e] at h1
  unfold kdB at h1
  split at h1 <;> simp_all
theorem kd_st {fs : List (Nat × Nat)} (h : RowOk P t i) (e : i.kd = .st fs) : ∃ l, P.underlying t = some (.struct l) ∧ fs = l.toList.map (fun f => (f.offset, f.type)) ∧ (∀ f ∈ l.toList, f.name ≠ "_" ∧ (P.info? f.type).isSome = true) ∧ P.stoodInHeld t = false := by
  have h1 := h.kd
  rw [e] at h1
  unfold kdB at h1
  split at h1 <;> simp_all
  obtain ⟨h2, h3⟩ := fieldsB_eq h1.1
  exact ⟨h2, by simpa using h3⟩
end types

/-! ### Later worlds: what was there lies there still -/
def Later (w w' : World) : Prop := w.heap.size ≤ w'.heap.size ∧ ∀ b, b < w.heap.size → w'.heap[b]? = w.heap[b]?
theorem Later.refl (w : World) : Later w w := ⟨Nat.le_refl _, fun _ _ => rfl⟩
theorem Later.trans {a b c : World} (h : Later a b) (k : Later b c) : Later a c :=
  ⟨Nat.le_trans h.1 k.1, fun x hx => (k.2 x (Nat.lt_of_lt_of_le hx h.1)).trans (h.2 x hx)⟩
theorem Later.cell {w w' : World} (h : Later w w') {a : Addr} {v : Value} (hc : w.cell? a = some v) : w'.cell? a = some v := by
  have := World.block_lt_of_cell? w a hc
  unfold World.cell? at hc ⊢
  rw [h.2 _ this]
  exact hc
theorem Later.heap {w w' : World} (h : Later w w') {b : Nat} {o : Obj} (hc : w.heap[b]? = some o) : w'.heap[b]? = some o := by
  rw [h.2 b (by
    rcases Nat.lt_or_ge b w.heap.size with h' | h'
    · exact h'
    · simp [Array.getElem?_eq_none h'] at hc), hc]

end Go.Proofs.Ytdgeponcnlkaiaa.Ab
