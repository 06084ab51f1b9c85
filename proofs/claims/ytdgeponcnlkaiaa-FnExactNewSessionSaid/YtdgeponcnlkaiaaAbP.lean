/- All silent operations: what they yield, now or later. No condition. -/
import Derived.Test.YtdgeponcnlkaiaaAbO
namespace Go.Proofs.Ytdgeponcnlkaiaa.Ab
open Go
set_option linter.unusedSimpArgs false
set_option linter.unusedVariables false
set_option linter.unusedSectionVars false

section
variable {w0 w : World} {fp0 : List Nat} {ok : Nat → Prop} {P : Program} {T : TT} {σ : St} {θ : Nat → Value} {ρ : Rn → Value} {φ : Rn → List Nat}

theorem FRP_of {a : Act} : ∀ (ps : List (Nat × Operand)), (∀ x ∈ ps.map (·.2), FR w ok σ ρ (opv σ x) (a.eval x)) → FRP w ok σ ρ (ps.map fun x => (x.1, opv σ x.2)) (ps.map fun x => (x.1, a.eval x.2))
  | [], _ => by simp [FRP]
  | p :: ps, h => by
    simp only [List.map_cons, FRP]
    exact ⟨_, _, rfl, rfl, h p.2 (by simp), FRP_of ps fun x hx => h x (by simp only [List.map_cons, List.mem_cons]; exact .inr hx)⟩

theorem FRO_of {a : Act} {x : Option Operand} (h : ∀ y, x = some y → FR w ok σ ρ (opv σ y) (a.eval y)) : FRO w ok σ ρ (x.map (opv σ)) (x.map a.eval) := by
  cases x with
  | none => simp [FRO]
  | some y => exact h y rfl

theorem len_sound {a : FV} {u : Value} {n t ty e : Nat} (h : Rel w0 fp0 ok σ θ w ρ φ) (hu : P.underlying t = some (.slice e)) (hl : lenF a = some n) (hv : FR w ok σ ρ a u) (w' : World) :
    (Builtin.len_ #[t] ty #[u]).run P w' = .ok (.int .i64 n) w' := by
  have key : ∀ (x : Option Addr) (m c : Nat), u = .slice x m c → m = n → (Builtin.len_ #[t] ty #[u]).run P w' = .ok (.int .i64 n) w' := by
    intro x m c e1 e2
    subst e1; subst e2
    simp [Builtin.len_, run_underlying hu, goInt]
  unfold lenF at hl
  split at hl
  · rename_i r p lo n'
    injection hl with hl
    subst hl
    obtain ⟨x, c, e1, _⟩ := al_sub h rfl hv
    exact key x _ c e1 rfl
  · rename_i r p n'
    injection hl with hl
    subst hl
    simp only [FR] at hv
    obtain ⟨k, N, cs, hv', x, M, c, _, _, _, _, e1⟩ := hv
    exact key x _ _ e1 rfl
  · rename_i r p off n'
    injection hl with hl
    subst hl
    simp only [FR] at hv
    obtain ⟨o, cs, hv', b, q, c, _, _, _, _, _, _, e1 | ⟨e0, x, e1⟩⟩ := hv
    · exact key _ _ _ e1 rfl
    · exact key _ _ _ e1 e0.symm
  · rename_i k n' cs
    injection hl with hl
    subst hl
    simp only [FR, Sh] at hv
    obtain ⟨x, c, e1, _⟩ := hv
    exact key _ _ _ e1 rfl
  · injection hl with hl
    subst hl
    simp only [FR, Sh] at hv
    obtain ⟨x, e1⟩ := hv
    exact key _ _ _ e1 rfl
  · injection hl with hl
    subst hl
    exact key _ _ _ (FR_v hv) rfl
  · simp at hl

theorem mapAt_size {m : Nat} {es : List (List Int × Int)} {en : Array MapEntry} {cl : Nat} (h : MapAt w m es en cl) : en.size = es.length := by
  have := congrArg List.length h.kv
  simpa using this

theorem silCall_sound (hT : tabB P T = true) (h : Rel w0 fp0 ok σ θ w ρ φ) (a : Act) (b : Builtin) (c : Call) (hcb : c.callee = .builtin b) (o : Oper) (hop : o.op = .call c) {q : Prop} {f : FV}
    (hs : silCall T σ b c.args.toList c.argTypes.toList = some (q, f)) (hq : q) (ho : ∀ x ∈ c.args.toList, FR w ok σ ρ (opv σ x) (a.eval x)) :
    ∃ v, FR w ok σ ρ f v ∧ ∀ w', ((match b with | .len => true | _ => false) = true → Later w w') → (execOp a.eval o).run P w' = .ok (.value v) w' := by
  have hex : execOp a.eval o = builtin b c.argTypes o.type (c.args.map fun | .const _ => true | _ => false) (c.args.map a.eval) := by
    simp only [execOp, hop, resolve, hcb]
    rfl
  rw [hex]
  unfold silCall at hs
  split at hs
  · split at hs
    · rename_i x t hx ht
      have hargs : c.args = #[x] := by rw [← Array.toList_inj]; exact hx
      have htys : c.argTypes = #[t] := by rw [← Array.toList_inj]; exact ht
      rw [hargs, htys]
      have hxv := ho x (by rw [hx]; simp)
      split at hs
      · rename_i i hi
        have hrow := tab_ok hT hi
        split at hs
        · rename_i e hk
          split at hs
          · rename_i n hn
            injection hs with hs
            injection hs with h1 h2
            subst h2
            refine ⟨.int .i64 n, by simp [FR, Sh], fun w' _ => ?_⟩
            simp [builtin, len_sound h (kd_sl hrow hk) hn hxv]
          · simp at hs
        · rename_i hk
          split at hs
          · rename_i s hsx
            injection hs with hs
            injection hs with h1 h2
            subst h2
            rw [hsx] at hxv
            refine ⟨.int .i64 s.size, by simp [FR, Sh], fun w' _ => ?_⟩
            simp [builtin, FR_v hxv, Builtin.len_, run_underlying (kd_str hrow hk), goInt]
          · simp at hs
        · rename_i k e hk
          split at hs
          · rename_i r p hmr
            split at hs
            · rename_i es hes
              injection hs with hs
              injection hs with h1 h2
              subst h2
              rw [hmr] at hxv
              obtain ⟨m, en, cl, hm1, hm2, _⟩ := mr_map h hes hxv
              refine ⟨.int .i64 es.length, by simp [FR, Sh], fun w' hw => ?_⟩
              have hb := (hw rfl).heap hm2.at_
              simp [builtin, hm1, Builtin.len_, run_underlying (kd_map hrow hk), goInt, MapKept.run_getObj_map hb, mapAt_size hm2]
            · simp at hs
          · simp at hs
        · simp at hs
      · simp at hs
    · simp at hs
  · split at hs
    · rename_i x y hx
      have hargs : c.args = #[x, y] := by rw [← Array.toList_inj]; exact hx
      rw [hargs]
      have hxv := ho x (by rw [hx]; simp)
      have hyv := ho y (by rw [hx]; simp)
      split at hs
      · rename_i n m e1 e2
        injection hs with hs
        injection hs with h1 h2
        subst h2
        rw [e1] at hxv
        rw [e2] at hyv
        refine ⟨.int .i64 (max n m), by simp [FR, Sh], fun w' _ => ?_⟩
        simp only [builtin, FR_v hxv, FR_v hyv, Builtin.max_, List.map_toArray, List.map_cons, List.map_nil]
        simp [Builtin.max2]
        omega
      · simp at hs
    · simp at hs
  · split at hs
    · rename_i x y hx
      have hargs : c.args = #[x, y] := by rw [← Array.toList_inj]; exact hx
      rw [hargs]
      have hxv := ho x (by rw [hx]; simp)
      have hyv := ho y (by rw [hx]; simp)
      split at hs
      · rename_i n m e1 e2
        injection hs with hs
        injection hs with h1 h2
        subst h2
        rw [e1] at hxv
        rw [e2] at hyv
        refine ⟨.int .i64 (min n m), by simp [FR, Sh], fun w' _ => ?_⟩
        simp only [builtin, FR_v hxv, FR_v hyv, Builtin.min_, List.map_toArray, List.map_cons, List.map_nil]
        simp [Builtin.min2]
        omega
      · simp at hs
    · simp at hs
  · simp at hs

theorem FRL_ints : ∀ (k : List Int), FRL w ok σ ρ (k.map fun n => .int n) (k.map (Value.int .i64))
  | [] => by simp [FRL]
  | n :: k => by
    simp only [List.map_cons, FRL]
    exact ⟨_, _, rfl, by simp [FR, Sh], FRL_ints k⟩

theorem entry_sound (h : Rel w0 fp0 ok σ θ w ρ φ) {r m : Rn} {p : List Nat} {rest : List (List Int × Int)} {k : List Int} {c : Int} {u : Value} (hu : FR w ok σ ρ (.it r m p rest (some (k, c))) u) :
    ∃ v, FR w ok σ ρ (.tu [.ag (k.map fun n => .int n), .int c]) v ∧ ∀ w', Later w w' → (Instr.entry u).run P w' = .ok v w' := by
  simp only [FR] at hu
  obtain ⟨_, _, b, mb, es, en, clock, seen, e2, h3, h4, h5, h6, h7, h8⟩ := hu
  obtain ⟨st, g1, e, g2, g3, g4⟩ := h8 _ rfl
  refine ⟨.tuple #[keyV k, .int .i64 c], ?_, fun w' hw => ?_⟩
  · simp only [FR]
    refine ⟨_, rfl, ?_⟩
    simp only [FRL, FR]
    exact ⟨_, _, rfl, ⟨_, rfl, by simpa using FRL_ints k⟩, _, _, rfl, by simp [Sh], rfl⟩
  · subst e2
    have hb := hw.heap h3
    have hm := hw.heap h6.at_
    have r1 : (getObj b).run P w' = .ok (.mapIter (some mb) clock seen clock) w' := by simp [getObj, Sem.run, hb]
    simp [Instr.entry, r1, g1, MapKept.run_getObj_map hm, g2, g3, g4]

theorem sil_sound (hT : tabB P T = true) (h : Rel w0 fp0 ok σ θ w ρ φ) (a : Act) (o : Oper) {c : Prop} {f : FV} (hs : sil T σ o.op = some (c, f)) (hc : c)
    (ho : ∀ x ∈ o.op.operands.toList, FR w ok σ ρ (opv σ x) (a.eval x)) : ∃ v, FR w ok σ ρ f v ∧ ∀ w', (readsB o.op = true → Later w w') → (execOp a.eval o).run P w' = .ok (.value v) w' := by
  obtain ⟨dst, op, type, pos, after, guard⟩ := o
  cases op <;> simp only [sil, reduceCtorEq] at hs <;> simp only [Op.operands] at ho
  case move x =>
    injection hs with hs
    injection hs with h1 h2
    subst h2
    exact ⟨_, ho x (by simp), fun w' _ => by simp [execOp]⟩
  case assign x =>
    injection hs with hs
    injection hs with h1 h2
    subst h2
    exact ⟨_, ho x (by simp), fun w' _ => by simp [execOp]⟩
  case pick x y z =>
    split at hs
    · rename_i t ht
      injection hs with hs
      injection hs with h1 h2
      subst h2
      have hx := ho x (by simp)
      rw [ht] at hx
      refine ⟨if t then a.eval y else a.eval z, ?_, fun w' _ => ?_⟩
      · cases t
        · exact ho z (by simp)
        · exact ho y (by simp)
      · simp only [execOp, FR_v hx, asBool]
        cases t <;> simp
    · simp at hs
  case load t x =>
    split at hs
    · rename_i g hg
      injection hs with hs
      injection hs with h1 h2
      subst h2
      obtain ⟨v, h3, h4⟩ := load_sound (P := P) hT h hg (ho x (by simp))
      exact ⟨v, h3, fun w' hw => by simp [execOp, h4 w' (hw rfl)]⟩
    · simp at hs
  case nilCheck x =>
    have hx := ho x (by simp)
    split at hs
    · rename_i r p off e
      injection hs with hs
      injection hs with h1 h2
      subst h2
      rw [e] at hx
      refine ⟨_, hx, fun w' _ => ?_⟩
      simp only [FR] at hx
      obtain ⟨o, cs, hv, b, q, _, _, _, _, e5⟩ := hx
      simp [execOp, e5]
    · rename_i cs off e
      injection hs with hs
      injection hs with h1 h2
      subst h2
      rw [e] at hx
      refine ⟨_, hx, fun w' _ => ?_⟩
      simp only [FR] at hx
      obtain ⟨b, o, e5, _⟩ := hx
      simp [execOp, e5]
    · rename_i cs e
      injection hs with hs
      injection hs with h1 h2
      subst h2
      rw [e] at hx
      refine ⟨_, hx, fun w' _ => ?_⟩
      simp only [FR, Sh] at hx
      obtain ⟨b, o, e5, _⟩ := hx
      simp [execOp, e5]
    · simp at hs
  case fieldAddr t x i =>
    split at hs
    · rename_i off hoff
      split at hs
      · rename_i g hg
        injection hs with hs
        injection hs with h1 h2
        subst h2
        obtain ⟨v, h3, h4⟩ := field_sound (P := P) hT hoff hg (ho x (by simp))
        exact ⟨v, h3, fun w' _ => by simp [execOp, h4 w']⟩
      · simp at hs
    · simp at hs
  case indexAddr t x i =>
    obtain ⟨v, h3, h4⟩ := index_sound (P := P) hT h hs hc (ho x (by simp)) (ho i (by simp))
    exact ⟨v, h3, fun w' _ => by simp [execOp, h4 w']⟩
  case binOp op t x y z =>
    obtain ⟨v, h3, h4⟩ := bin_sound (P := P) (x := x) (y := y) hT hs hc (ho x (by simp)) (ho y (by simp))
    refine ⟨v, h3, fun w' _ => ?_⟩
    have := h4 w'
    simp only [execOp, Sem.run_bind] at this ⊢
    rw [this]
    simp
  case unOp op t x =>
    have hx := ho x (by simp)
    split at hs
    · rename_i k n e
      injection hs with hs
      injection hs with h1 h2
      subst h2
      rw [e] at hx
      exact ⟨.int k (k.wrap (0 - n)), by simp [FR, Sh], fun w' _ => by simp [execOp, FR_v hx, Op.unary, Op.intArith]⟩
    · rename_i b e
      injection hs with hs
      injection hs with h1 h2
      subst h2
      rw [e] at hx
      exact ⟨.bool (!b), by simp [FR, Sh], fun w' _ => by simp [execOp, FR_v hx, Op.unary]⟩
    · simp at hs
  case convert src d x =>
    have hx := ho x (by simp)
    split at hs
    · rename_i j i k n hj hi e
      split at hs
      · rename_i k' hk
        injection hs with hs
        injection hs with h1 h2
        subst h2
        rw [e] at hx
        obtain ⟨ds, hd, hr⟩ := (tab_ok hT hj).und
        refine ⟨.int k' (k'.wrap n), by simp [FR, Sh], fun w' _ => ?_⟩
        simp [execOp, FR_v hx, convert, hr, run_underlying (kd_int (tab_ok hT hi) hk), Conv.intToInt]
      · simp at hs
    · simp at hs
  case extract x i =>
    have hx := ho x (by simp)
    split at hs
    · rename_i fs e
      split at hs
      · rename_i g hg
        injection hs with hs
        injection hs with h1 h2
        subst h2
        rw [e] at hx
        simp only [FR] at hx
        obtain ⟨vs, e1, h3⟩ := hx
        obtain ⟨u, h4, h5⟩ := FRL_get h3 hg
        have h4' : vs[i]? = some u := by simpa using h4
        exact ⟨u, h5, fun w' _ => by simp [execOp, e1, Instr.extract, h4']⟩
      · simp at hs
    · simp at hs
  case slice t x lo hi mx =>
    obtain ⟨v, h3, h4⟩ := slice_sound (P := P) (a := a) hT h hs hc (ho x (by simp)) (FRO_of fun y hy => ho y (by simp [hy])) (FRO_of fun y hy => ho y (by simp [hy])) (FRO_of fun y hy => ho y (by simp [hy]))
    exact ⟨v, h3, fun w' _ => by simp [execOp, h4 w']⟩
  case build t parts =>
    split at hs
    · rename_i g hg
      injection hs with hs
      injection hs with h1 h2
      subst h2
      have hp : FRP w ok σ ρ (parts.toList.map fun x => (x.1, opv σ x.2)) (parts.map fun (i, x) => (i, a.eval x)).toList := by
        rw [Array.toList_map]
        exact FRP_of _ fun x hx => ho x (by simpa using hx)
      obtain ⟨v, h3, h4⟩ := build_sound (P := P) hT h hg hp
      exact ⟨v, h3, fun w' _ => by simp [execOp, h4 w']⟩
    · simp at hs
  case entry x =>
    have hx := ho x (by simp)
    split at hs
    · rename_i r m p rest k n e
      injection hs with hs
      injection hs with h1 h2
      subst h2
      rw [e] at hx
      obtain ⟨v, h3, h4⟩ := entry_sound (P := P) h hx
      exact ⟨v, h3, fun w' hw => by simp [execOp, h4 w' (hw rfl)]⟩
    · simp at hs
  case lookup t m k b =>
    split at hs
    · rename_i sz r p fs ht e1 e2
      split at hs
      · rename_i es key he hk
        split at hs
        · rename_i hl
          injection hs with hs
          injection hs with h1 h2
          subst h2
          rw [← h1] at hc
          have hm := ho m (by simp)
          have hkk := ho k (by simp)
          rw [e1] at hm
          rw [e2] at hkk
          exact ⟨.int .i64 ((mget key es).getD 0), by simp [FR, Sh], fun w' hw => by simp [execOp, lookup_sound hT h ht he hk hl hc hm hkk w' (hw rfl)]⟩
        · simp at hs
      · simp at hs
    · simp at hs
  case call cl =>
    split at hs
    · rename_i b hb
      obtain ⟨v, h3, h4⟩ := silCall_sound (P := P) hT h a b cl hb ⟨dst, .call cl, type, pos, after, guard⟩ rfl hs hc (fun x hx => ho x (by simp only [Call.operands, hb, List.nil_append]; simpa using hx))
      refine ⟨v, h3, fun w' hw => h4 w' fun hb' => hw ?_⟩
      simp only [readsB, hb]
      exact hb'
    · simp at hs

end
end Go.Proofs.Ytdgeponcnlkaiaa.Ab
