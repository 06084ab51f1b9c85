/- What the simplifier may unfold where a function is evaluated. No condition. -/
import Derived.Test.YtdgeponcnlkaiaaAcG
namespace Go.Proofs.Ytdgeponcnlkaiaa.Ab
open Go

/-- What a call is asked for, held together. -/
def Back (σ : St) (ios : List Io) (outs : List D) (dst : Option Nat) (res : List RV) (K : St → Prop) : Prop :=
  match putOuts σ ios outs with
  | some σ1 => (match dst with
    | some d => (match unpackR d σ1 0 res with
      | some (fs, σ2, _) => K { σ2 with env := upd σ2.env d (resFV fs) }
      | none => False)
    | none => K σ1)
  | none => False
def CallsTo (P : Program) (f : Nat) (args : List FV) (lent : List Rn) (ios : List Io) (dst : Option Nat) (σ : St) (K : St → Prop) : Prop :=
  ∃ pure Q, ACalls P f args (ios.map fun io => (io.name, io.d)) pure Q ∧ (pure = true ∨ lent = []) ∧ ∀ outs res, Q outs res → Back σ ios outs dst res K
@[congr] theorem CallsTo.congr' {P : Program} {f : Nat} {args args' : List FV} {lent lent' : List Rn} {ios ios' : List Io} {dst : Option Nat} {σ : St} {K : St → Prop} (h1 : args = args') (h2 : lent = lent') (h3 : ios = ios') : CallsTo P f args lent ios dst σ K = CallsTo P f args' lent' ios' dst σ K := by
  rw [h1, h2, h3]
theorem callTo_eq (C : Ctx) (f : Nat) (fvs : List FV) (dst : Option Nat) (σ : St) (K : St → Prop) : callTo C f fvs dst σ K = (match passL σ 0 (aget [] C.M f) fvs with
  | some (args, lent, ios) => ((ios.map (·.r)).Nodup ∧ (ios.map (·.name)).Nodup) ∧ (∀ r ∈ ios.map (·.r), r ∉ lent) ∧ CallsTo C.P f args lent ios dst σ K
  | none => False) := rfl
theorem wcall {P : Program} {f : Nat} {args args' : List FV} {lent : List Rn} {ios : List Io} {dst : Option Nat} {σ : St} {K : St → Prop} {ros : List (Rn × D)} {pure : Bool} {Q : List D → List RV → Prop}
    (h : ACalls P f args' ros pure Q) (ha : args = args') (hr : (ios.map fun io => (io.name, io.d)) = ros) (hp : pure = true ∨ lent = []) (hk : ∀ outs res, Q outs res → Back σ ios outs dst res K) : CallsTo P f args lent ios dst σ K :=
  ⟨pure, Q, by rw [hr, ha]; exact h, hp, hk⟩
theorem wcall1 {P : Program} {f : Nat} {args args' : List FV} {lent : List Rn} {ios : List Io} {dst : Option Nat} {σ : St} {K : St → Prop} {ros : List (Rn × D)} {os : List D} {rs : List RV}
    (h : ACalls P f args' ros true (fun outs res => outs = os ∧ res = rs)) (ha : args = args') (hr : (ios.map fun io => (io.name, io.d)) = ros) (hk : Back σ ios os dst rs K) : CallsTo P f args lent ios dst σ K :=
  wcall h ha hr (.inl rfl) fun outs res ⟨h1, h2⟩ => by rw [h1, h2]; exact hk

theorem AOpG_eq (C : Ctx) (ops : Array Oper) (o : Oper) (σ : St) (K : St → Prop) : AOpG C ops o σ K ↔ (match o.guard with
  | none => AOp C o σ K
  | some (j, want) => (match (ops[j]?).bind (·.dst) with
    | some t => (match σ.env t with
      | .d (.v (.bool b)) => if b = want then AOp C o σ K else K (σ.set o.dst (.tu []))
      | .tu [] => K (σ.set o.dst (.tu []))
      | _ => False)
    | none => False)) := by
  unfold AOpG
  rcases o.guard with _ | ⟨j, want⟩
  · exact Iff.rfl
  · simp only
    rcases (ops[j]?).bind (·.dst) with _ | t
    · exact Iff.rfl
    · simp only
      generalize σ.env t = f
      split
      · rename_i b
        by_cases h : b = want <;> simp [h]
      · exact Iff.rfl
      · rename_i h h'
        split
        · exact absurd rfl (h _)
        · exact absurd rfl h'
        · exact Iff.rfl
theorem takeCells_self (k n : Nat) (cs : List D) : takeCells k n n cs = cs := if_pos rfl
attribute [simp] fbB frzB okAtom pickF
attribute [simp ↓] AFb AFrz
attribute [simp ↓] AOps AOpG_eq AOp silK ABuiltin ARun ARunL callTo_eq AAlloc ABox ABuildSlice AMake AMapUpd ARange ANext AAppend ACopy ADelete AStore ANil
attribute [simp] sil silCall isNilC opv constFV aget norm normWith names addNames watchers ofL_nil ofL_cons upd_at St.set FV.roots FV.rootsL FV.ren FV.renL ofRO_nil ofRO_cons lenF binF binInt bitsV
attribute [simp] indexF tsize addOff loadF pickL isAggK renR AEx.seq AEx.block cellFV argL watchL wFV ofR_nil ofR_cons endQ endK resVals FV.whole D.leaf exportN exportD pend unpend atomsL FV.atoms groupR noShR noShL noSh Value.oneCell'
attribute [simp] St.kOf St.nOf St.obj look St.storeL St.store1 St.absorb St.put putAt D.cells? D.setCells D.quiet FV.isLeaf root_env root_rts getElem_ints length_ints leafL_ints noShL_ints shareL_ints ints_set ints_append ints_take ints_drop
attribute [simp] wk1 wkAll isNil0
attribute [simp] nilIs fieldOff fieldPl sliceF boundsF isZero buildF fillF setAtoms mapIdx2 keyInts appSrc appNew takeCells_self St.take St.kill St.killBelow FV.under FV.underL FV.deep FV.deepL belowB isPre stripP Mv.place FV.move FV.moveL
attribute [simp] Back passL viewFV viewL ioAtom ioL ioFV putOuts unpackD unpackL unpackR resFV share shareL leafL solidL D.solid FV.rootIs St.dropIt St.setIt FV.notIt FV.hasIt FV.hasItL zerosD goneL

end Go.Proofs.Ytdgeponcnlkaiaa.Ab
