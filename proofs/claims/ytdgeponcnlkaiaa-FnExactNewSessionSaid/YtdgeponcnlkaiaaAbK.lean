/- What the other silent operations yield: places, parts of slices, arithmetic, structs. No condition. -/
import Derived.Test.YtdgeponcnlkaiaaAbJ
import Derived.Laws.Tables
namespace Go.Proofs.Ytdgeponcnlkaiaa.Ab
open Go
set_option linter.unusedSimpArgs false
set_option linter.unusedVariables false
set_option linter.unusedSectionVars false

section
variable {w0 w : World} {fp0 : List Nat} {ok : Nat → Prop} {P : Program} {σ : St} {θ : Nat → Value} {ρ : Rn → Value} {φ : Rn → List Nat}

theorem FR_int {k : IntKind} {n : Int} {u : Value} (h : FR w ok σ ρ (.d (.v (.int k n))) u) : u = .int k n := by simpa [FR, Sh] using h
theorem FR_v {x u : Value} (h : FR w ok σ ρ (.d (.v x)) u) : u = x := by simpa [FR, Sh] using h

theorem addOff_sound {a f : FV} {u : Value} {n : Nat} (hs : addOff a n = some f) (hu : FR w ok σ ρ a u) :
    ∃ b o, u = .pointer (some ⟨b, o, none⟩) ∧ FR w ok σ ρ f (.pointer (some ⟨b, o + n, none⟩)) := by
  unfold addOff at hs
  split at hs
  · rename_i r p off
    injection hs with hs
    subst hs
    simp only [FR] at hu ⊢
    obtain ⟨o, cs, hv, b, q, h1, h2, h3, h4, h5⟩ := hu
    exact ⟨b, q + off, h5, o, cs, hv, b, q, h1, h2, h3, h4, by rw [Nat.add_assoc]⟩
  · rename_i cs off
    injection hs with hs
    subst hs
    simp only [FR] at hu ⊢
    obtain ⟨b, o, h1, h2, h3⟩ := hu
    exact ⟨b, o + off, h1, b, o, by rw [Nat.add_assoc], h2, h3⟩
  · rename_i cs
    injection hs with hs
    subst hs
    simp only [FR, Sh] at hu ⊢
    obtain ⟨b, o, h1, h2, h3⟩ := hu
    exact ⟨b, o, h1, b, o, rfl, h2, h3⟩
  · rename_i fs off
    injection hs with hs
    subst hs
    simp only [FR] at hu ⊢
    obtain ⟨b, vs, h1, h2, h3, h4⟩ := hu
    exact ⟨b, off, h1, b, vs, rfl, h2, h3, h4⟩
  · simp at hs

theorem field_sound {T : TT} (hT : tabB P T = true) {t i off : Nat} {a f : FV} {u : Value} (hf : fieldOff T t i = some off) (hs : addOff a off = some f) (hu : FR w ok σ ρ a u) :
    ∃ v, FR w ok σ ρ f v ∧ ∀ w', (Instr.fieldAt t u i).run P w' = .ok v w' := by
  unfold fieldOff at hf
  split at hf
  · rename_i ti hti
    split at hf
    · rename_i fs hfs
      split at hf
      · rename_i off' ft hft
        split at hf
        · rename_i j hj
          split at hf
          · simp at hf
          · rename_i hne
            injection hf with hf
            subst hf
            obtain ⟨l, hl, he, _⟩ := kd_st (tab_ok hT hti) hfs
            obtain ⟨b, o, rfl, h2⟩ := addOff_sound hs hu
            refine ⟨_, h2, fun w' => ?_⟩
            rw [he, List.getElem?_map] at hft
            cases hfl : l[i]? with
            | none => simp [hfl] at hft
            | some fl =>
              simp [hfl] at hft
              obtain ⟨e1, e2⟩ := hft
              have hsz := (tab_ok hT hj).size w'
              rw [← e2] at hsz
              simp [Instr.fieldAt, run_underlying hl, hfl, Instr.sureAddr, fieldPlace, hsz, hne, Addr_add, e1]
        · simp at hf
      · simp at hf
    · simp at hf
  · simp at hf

/-- An owned slice that has elements has a block. -/
theorem al_block (h : Rel w0 fp0 ok σ θ w ρ φ) {r : Rn} {p : List Nat} {k N : Nat} {cs : List D} {hv : Value} (ho : σ.obj r p = some (.ow k N cs)) (hh : hdr w (ρ r) p = some hv) :
    (∃ b o c, hv = .slice (some ⟨b, o, none⟩) N c ∧ N ≤ c ∧ baseOf hv = some (b, o)) ∨ (N = 0 ∧ ∃ a, hv = .slice a 0 0) := by
  obtain ⟨hv', fo, hat⟩ := h.rts_.at_ (r := r) (p := p) ho
  have e : hv' = hv := by have := hat.hdr; rw [hh] at this; injection this with this; exact this.symm
  subst e
  have := hat.own
  simp only [Ow] at this
  rcases this with ⟨e1, _, _, a, e2⟩ | ⟨b, o, c, arr, T, fp', e1, _, _, h2, _⟩
  · exact .inr ⟨e1, a, e2⟩
  · exact .inl ⟨b, o, c, e1, h2.1, by subst e1; rfl⟩

theorem kOf_eq {r : Rn} {p : List Nat} {k N : Nat} {cs : List D} (ho : σ.obj r p = some (.ow k N cs)) : σ.kOf r p = k := by simp [St.kOf, ho]

theorem index_sound {T : TT} (hT : tabB P T = true) (h : Rel w0 fp0 ok σ θ w ρ φ) {t : Nat} {a i f : FV} {u v : Value} {c : Prop} (hs : indexF T σ t a i = some (c, f)) (hc : c) (hu : FR w ok σ ρ a u) (hi : FR w ok σ ρ i v) :
    ∃ x, FR w ok σ ρ f x ∧ ∀ w', (Instr.indexAt t u v).run P w' = .ok x w' := by
  unfold indexF at hs
  split at hs
  · rename_i ti k0 x hti
    have hv := FR_int hi
    subst hv
    have hrow := tab_ok hT hti
    split at hs
    · rename_i e he
      have hu0 := kd_sl hrow he
      split at hs
      · rename_i k hk
        have hsz : ∀ w' : World, (sizeOf e).run P w' = .ok k w' := fun w' => by
          unfold tsize at hk
          split at hk
          · rename_i j hj
            injection hk with hk
            rw [← hk]
            exact (tab_ok hT hj).size w'
          · simp at hk
        have run : ∀ (b o n cp : Nat), 0 ≤ x ∧ x < n → ∀ w' : World, (Instr.indexAt t (.slice (some ⟨b, o, none⟩) n cp) (.int k0 x)).run P w' = .ok (.pointer (some ⟨b, o + x.toNat * k, none⟩)) w' := by
          intro b o n cp hx w'
          simp [Instr.indexAt, run_underlying hu0, asIntOf, hx, hsz, Addr_add]
        split at hs
        · rename_i r p lo n
          split at hs
          · rename_i hkk
            injection hs with hs
            injection hs with h1 h2
            subst h2
            rw [← h1] at hc
            simp only [FR] at hu
            obtain ⟨k', N, cs, hv, g1, g2, g3, g4⟩ := hu
            rw [kOf_eq g1] at hkk
            subst hkk
            rcases al_block h g1 g2 with ⟨b, o, cp, e1, e2, e3⟩ | ⟨e1, _⟩
            · rcases g4 with ⟨rfl, a', N', c', e4, e5⟩ | ⟨hlo, b', o', N', c', e4, e5, e6⟩
              · rw [e1] at e4
                cases e4
                subst e5
                refine ⟨_, ?_, run b o n cp hc⟩
                simp only [FR]
                exact ⟨_, cs, hv, b, o, g1, rfl, g2, e3, by rw [Nat.mul_comm]; simp⟩
              · rw [e1] at e4
                cases e4
                rcases e6 with ⟨_, rfl⟩ | ⟨_, rfl, _⟩
                · refine ⟨_, ?_, run b _ n _ hc⟩
                  simp only [FR]
                  exact ⟨_, cs, hv, b, o, g1, rfl, g2, e3, by rw [Nat.mul_comm x.toNat, Nat.add_assoc, ← Nat.mul_add]⟩
                · omega
            · omega
          · simp at hs
        · rename_i r p off n
          split at hs
          · rename_i hk1
            subst hk1
            injection hs with hs
            injection hs with h1 h2
            subst h2
            rw [← h1] at hc
            simp only [FR] at hu
            obtain ⟨o, cs, hv, b, q, cp, g1, g2, g3, g4, g5, g6, g7⟩ := hu
            rcases g7 with rfl | ⟨rfl, _⟩
            · refine ⟨_, ?_, run b _ n cp hc⟩
              simp only [FR]
              exact ⟨o, cs, hv, b, q, g1, g2, g3, g4, by rw [Nat.mul_one, Nat.add_assoc]⟩
            · omega
          · simp at hs
        · rename_i k' n cs
          split at hs
          · rename_i hk1
            obtain ⟨hk1, hkp⟩ := hk1
            subst hk1
            injection hs with hs
            injection hs with h1 h2
            subst h2
            rw [← h1] at hc
            simp only [FR, Sh] at hu
            obtain ⟨a', cp, e1, e2, e3, e4⟩ := hu
            rcases e4 with e4 | ⟨b, o, e4, e5, e6⟩
            · subst e4
              subst e1
              simp only [List.length_nil] at e3
              have hn : n ≠ 0 := by omega
              exact absurd e3.symm (Nat.ne_of_gt (Nat.mul_pos hkp (Nat.pos_of_ne_zero hn)))
            · subst e4
              subst e1
              refine ⟨_, ?_, run b o n cp hc⟩
              simp only [FR]
              exact ⟨b, o, by rw [Nat.mul_comm], e5, e6⟩
          · simp at hs
        · simp at hs
      · simp at hs
    · rename_i n e he
      have hu0 := kd_arr hrow he
      split at hs
      · rename_i k hk
        have hsz : ∀ w' : World, (sizeOf e).run P w' = .ok k w' := fun w' => by
          unfold tsize at hk
          split at hk
          · rename_i j hj
            injection hk with hk
            rw [← hk]
            exact (tab_ok hT hj).size w'
          · simp at hk
        split at hs
        · rename_i g hg
          injection hs with hs
          injection hs with h1 h2
          subst h2
          rw [← h1] at hc
          obtain ⟨b, o, rfl, h3⟩ := addOff_sound hg hu
          refine ⟨_, h3, fun w' => ?_⟩
          simp [Instr.indexAt, run_underlying hu0, Instr.sureAddr, asIntOf, hc, hsz, Addr_add, Nat.mul_comm]
        · simp at hs
      · simp at hs
    · simp at hs
  · simp at hs

/-! ### Arithmetic -/
theorem run_equal_bool {t : Nat} {a b : Bool} (h : P.underlying t = some .bool) (w' : World) : (Op.equal t (.bool a) (.bool b)).run P w' = .ok (a == b) w' := run_equalIn_bool w' 9999 t a b h

theorem binInt_sound {op : BinOp} {k : IntKind} {a b : Int} {t : Nat} {x y : Operand} {c : Prop} {v : Value} (hs : binInt op k a b = some (c, v)) (hc : c) (w' : World) :
    (do eqGuard op t x y (.int k a) (.int k b); binOp op t (.int k a) (.int k b) : Sem Value).run P w' = .ok v w' := by
  have hg : (eqGuard op t x y (.int k a) (.int k b)).run P w' = .ok () w' := by
    unfold eqGuard
    split <;> rfl
  simp only [Sem.run_bind, hg, Result.andThen]
  cases op <;> simp only [binInt, bitsV, Option.some.injEq, Prod.mk.injEq, reduceCtorEq] at hs <;> obtain ⟨h1, rfl⟩ := hs <;> first
    | (rw [← h1] at hc; simp [binOp, Op.intArith, Op.intDiv, Op.intBits, Op.intCmp, Op.shift, hc]; done)
    | (rw [← h1] at hc; have := Int.not_lt.2 hc; simp [binOp, Op.shift, this])

theorem bin_sound {T : TT} (hT : tabB P T = true) {op : BinOp} {t : Nat} {a b f : FV} {u v : Value} {x y : Operand} {c : Prop} (hs : binF T op t a b = some (c, f)) (hc : c) (hu : FR w ok σ ρ a u) (hv : FR w ok σ ρ b v) :
    ∃ z, FR w ok σ ρ f z ∧ ∀ w', (do eqGuard op t x y u v; binOp op t u v : Sem Value).run P w' = .ok z w' := by
  unfold binF at hs
  split at hs
  · rename_i k n k' m
    have := FR_v hu
    subst this
    have := FR_v hv
    subst this
    split at hs
    · rename_i hk
      subst hk
      split at hs
      · rename_i c' z hz
        injection hs with hs
        injection hs with h1 h2
        subst h2
        rw [← h1] at hc
        exact ⟨z, by simp [FR, Sh], fun w' => binInt_sound hz hc w'⟩
      · simp at hs
    · simp at hs
  · rename_i n m
    have := FR_v hu
    subst this
    have := FR_v hv
    subst this
    split at hs
    · rename_i i hi
      split at hs
      · rename_i hk
        have hb := kd_bool (tab_ok hT hi) hk
        have hg : ∀ w', (eqGuard op t x y (.bool n) (.bool m)).run P w' = .ok () w' := fun w' => by
          unfold eqGuard
          split <;> rfl
        split at hs
        · injection hs with hs
          injection hs with h1 h2
          subst h2
          exact ⟨.bool (n == m), by simp [FR, Sh], fun w' => by simp [hg, binOp, run_equal_bool hb]⟩
        · injection hs with hs
          injection hs with h1 h2
          subst h2
          exact ⟨.bool (!(n == m)), by simp [FR, Sh], fun w' => by simp [hg, binOp, run_equal_bool hb]⟩
        · simp at hs
      · simp at hs
    · simp at hs
  · rename_i n m
    have := FR_v hu
    subst this
    have := FR_v hv
    subst this
    have hg : ∀ w', (eqGuard op t x y (.string n) (.string m)).run P w' = .ok () w' := fun w' => by
      unfold eqGuard
      split <;> rfl
    split at hs
    · injection hs with hs
      injection hs with h1 h2
      subst h2
      rw [← h1] at hc
      refine ⟨.string (n ++ m), by simp [FR, Sh], fun w' => ?_⟩
      have : ¬ ((n.size + m.size : Nat) : Int) > IntKind.i64.max := by
        have : IntKind.i64.max = 9223372036854775807 := by decide
        rw [this]
        omega
      simp [hg, binOp, Op.stringOp]
      omega
    · injection hs with hs
      injection hs with h1 h2
      subst h2
      exact ⟨.bool (n.toList == m.toList), by simp [FR, Sh], fun w' => by simp [hg, binOp, Op.stringOp]⟩
    · injection hs with hs
      injection hs with h1 h2
      subst h2
      exact ⟨.bool (!(n.toList == m.toList)), by simp [FR, Sh], fun w' => by simp [hg, binOp, Op.stringOp]⟩
    · simp at hs
  · simp at hs

end
end Go.Proofs.Ytdgeponcnlkaiaa.Ab
