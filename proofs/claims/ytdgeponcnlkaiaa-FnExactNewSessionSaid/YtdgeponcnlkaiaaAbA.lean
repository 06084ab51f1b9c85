/- The words of an abstract calculus for Go code: values as trees, a frame and a store of owned trees, and what the operations do with them. No condition. -/
import Derived.Orders
import Derived.Laws.Cells
import Derived.Laws.AppendOwn
import Derived.KernelRfl
namespace Go.Proofs.Ytdgeponcnlkaiaa.Ab
open Go

/-- Data as trees. -/
inductive D where
  | v (x : Value)
  | ez
  | sh (k n : Nat) (cs : List D)
  | vp (cs : List D)
  | fn (f : Nat) (caps : List D)
  | ow (k n : Nat) (cs : List D)
  | bx (cs : List D)
  | mp (es : List (List Int × Int))
  | itr
  | gone

abbrev Rn := Nat × Nat

/-- What a temporary holds. -/
inductive FV where
  | d (x : D)
  | sp (cs : List D) (off : Nat)
  | al (r : Rn) (p : List Nat) (lo n : Nat)
  | cu (r : Rn) (p : List Nat) (n : Nat)
  | pt (r : Rn) (p : List Nat) (off : Nat)
  | ar (r : Rn) (p : List Nat) (off n : Nat)
  | mr (r : Rn) (p : List Nat)
  | it (r m : Rn) (p : List Nat) (rest : List (List Int × Int)) (cur : Option (List Int × Int))
  | ag (fs : List FV)
  | tu (fs : List FV)
  | cl (f : Nat) (caps : List FV)
  | fb (fs : List FV) (off : Nat)
  | dead

abbrev nilS : Value := .slice none 0 0
abbrev D.int (n : Int) : D := .v (.int .i64 n)
abbrev D.bool (b : Bool) : D := .v (.bool b)
abbrev FV.int (n : Int) : FV := .d (.v (.int .i64 n))
abbrev FV.bool (b : Bool) : FV := .d (.v (.bool b))

structure St where
  env : Nat → FV
  rts : Rn → Option D

/-! ### Types -/
inductive TK where
  | int (k : IntKind) | bool | str | sl (e : Nat) | arr (n e : Nat) | st (fs : List (Nat × Nat)) | map (k e : Nat) | other
structure TI where
  kd : TK
  size : Nat
  bytes : Nat
  zero : List Value
abbrev TT := List (Nat × TI)
def tget : TT → Nat → Option TI
  | [], _ => none
  | (i, x) :: r, t => if i = t then some x else tget r t
def tsize (T : TT) (t : Nat) : Option Nat := match tget T t with | some i => some i.size | none => none

/-! ### Trees: places -/
def D.cells? : D → Option (List D)
  | .ow _ _ cs => some cs
  | .bx cs => some cs
  | _ => none
def D.setCells : D → List D → D
  | .ow k n _, cs => .ow k n cs
  | .bx _, cs => .bx cs
  | d, _ => d
def D.leaf : D → Bool
  | .v x => x.oneCell'
  | .ez => true
  | .sh .. => true
  | .vp _ => true
  | .fn .. => true
  | _ => false
def look : D → List Nat → Option D
  | d, [] => some d
  | d, i :: p => match d.cells? with
    | some cs => (match cs[i]? with | some x => look x p | none => none)
    | none => none
def putAt : D → List Nat → D → D
  | _, [], e => e
  | d, i :: p, e => match d.cells? with
    | some cs => d.setCells (cs.modify i fun x => putAt x p e)
    | none => d
def St.obj (σ : St) (r : Rn) (p : List Nat) : Option D := match σ.rts r with | some d => look d p | none => none
def St.put (σ : St) (r : Rn) (p : List Nat) (e : D) : St :=
  match σ.rts r with
  | some d => { σ with rts := fun q => if q = r then some (putAt d p e) else σ.rts q }
  | none => σ

mutual
def share : D → D
  | .ow k n cs => .sh k n (shareL cs)
  | .bx cs => .vp (shareL cs)
  | .sh k n cs => .sh k n cs
  | .vp cs => .vp cs
  | .mp _ => .gone
  | .itr => .gone
  | d => d
def shareL : List D → List D
  | [] => []
  | d :: r => share d :: shareL r
end

/-! ### The frame -/
def upd {α : Type} (e : Nat → α) (t : Nat) (f : α) : Nat → α := fun s => if s = t then f else e s
def St.set (σ : St) (d : Option Nat) (f : FV) : St :=
  match d with
  | some t => { σ with env := upd σ.env t f }
  | none => σ
def ofL : List (Nat × FV) → Nat → FV
  | [], _ => .dead
  | (i, f) :: r, t => if i = t then f else ofL r t
def ofR : List (Rn × D) → Rn → Option D
  | [], _ => none
  | (i, f) :: r, t => if i = t then some f else ofR r t

mutual
def FV.roots : FV → List Rn
  | .al r _ _ _ => [r]
  | .cu r _ _ => [r]
  | .pt r _ _ => [r]
  | .ar r _ _ _ => [r]
  | .mr r _ => [r]
  | .it r m _ _ _ => [r, m]
  | .ag fs => FV.rootsL fs
  | .tu fs => FV.rootsL fs
  | .cl _ fs => FV.rootsL fs
  | .fb fs _ => FV.rootsL fs
  | .d _ => []
  | .sp _ _ => []
  | .dead => []
def FV.rootsL : List FV → List Rn
  | [] => []
  | f :: r => f.roots ++ FV.rootsL r
end

/-- One move of places: what lies at (r, p) and below goes to (r', p'). -/
structure Mv where
  r : Rn
  p : List Nat
  r' : Rn
  p' : List Nat
def stripP : List Nat → List Nat → Option (List Nat)
  | [], q => some q
  | i :: p, j :: q => if i = j then stripP p q else none
  | _ :: _, [] => none
def Mv.place (m : Mv) (r : Rn) (p : List Nat) : Rn × List Nat :=
  if r = m.r then (match stripP m.p p with | some q => (m.r', m.p' ++ q) | none => (r, p)) else (r, p)
mutual
def FV.move (m : Mv) : FV → FV
  | .al r p lo n => .al (m.place r p).1 (m.place r p).2 lo n
  | .cu r p n => .cu (m.place r p).1 (m.place r p).2 n
  | .pt r p o => .pt (m.place r p).1 (m.place r p).2 o
  | .ar r p o n => .ar (m.place r p).1 (m.place r p).2 o n
  | .mr r p => .mr (m.place r p).1 (m.place r p).2
  | .it _ _ _ _ _ => .dead
  | .ag fs => .ag (FV.moveL m fs)
  | .tu fs => .tu (FV.moveL m fs)
  | .cl f fs => .cl f (FV.moveL m fs)
  | .fb fs o => .fb (FV.moveL m fs) o
  | .d x => .d x
  | .sp cs o => .sp cs o
  | .dead => .dead
def FV.moveL (m : Mv) : List FV → List FV
  | [] => []
  | f :: r => f.move m :: FV.moveL m r
end
def isPre : List Nat → List Nat → Bool
  | [], _ => true
  | i :: p, j :: q => if i = j then isPre p q else false
  | _ :: _, [] => false
mutual
/-- Does an alias lead to (r, p) or below? -/
def FV.under (r : Rn) (p : List Nat) : FV → Bool
  | .al q s _ _ => if q = r then isPre p s else false
  | .cu q s _ => if q = r then isPre p s else false
  | .pt q s _ => if q = r then isPre p s else false
  | .ar q s _ _ => if q = r then isPre p s else false
  | .mr q s => if q = r then isPre p s else false
  | .it q m s _ _ => if q = r then true else if m = r then isPre p s else false
  | .ag fs => FV.underL r p fs
  | .tu fs => FV.underL r p fs
  | .cl _ fs => FV.underL r p fs
  | .fb fs _ => FV.underL r p fs
  | .d _ => false
  | .sp _ _ => false
  | .dead => false
def FV.underL (r : Rn) (p : List Nat) : List FV → Bool
  | [] => false
  | f :: l => f.under r p || FV.underL r p l
end
/-- Aliases that lead to (r, p) or below are forgotten. -/
def St.kill (σ : St) (r : Rn) (p : List Nat) : St :=
  { σ with env := fun t => if (σ.env t).under r p then .dead else σ.env t }
/-- Aliases that lead below the object at (r, p), but not to itself, are forgotten. -/
def belowB (r : Rn) (p : List Nat) (q : Rn) (s : List Nat) : Bool := if q = r then (match stripP p s with | some (_ :: _) => true | _ => false) else false
mutual
def FV.deep (r : Rn) (p : List Nat) : FV → Bool
  | .al q s _ _ => belowB r p q s
  | .cu q s _ => belowB r p q s
  | .pt q s _ => belowB r p q s
  | .ar q s _ _ => belowB r p q s
  | .mr q s => belowB r p q s
  | .it _ _ _ _ _ => true
  | .ag fs => FV.deepL r p fs
  | .tu fs => FV.deepL r p fs
  | .cl _ fs => FV.deepL r p fs
  | .fb fs _ => FV.deepL r p fs
  | .d _ => false
  | .sp _ _ => false
  | .dead => false
def FV.deepL (r : Rn) (p : List Nat) : List FV → Bool
  | [] => false
  | f :: l => f.deep r p || FV.deepL r p l
end
def St.killBelow (σ : St) (r : Rn) (p : List Nat) : St :=
  { σ with env := fun t => if (σ.env t).deep r p then .dead else σ.env t }

/-! ### Taking an owned tree out of its place -/
/-- The tree at a place that the alias names whole; the store without it. -/
def St.take (σ : St) (r : Rn) (p : List Nat) : St :=
  match p with
  | [] => { σ with rts := fun q => if q = r then none else σ.rts q }
  | _ :: _ => σ.put r p .gone
/-- One cell's tree out of an atom, moved to (r', p'): the tree, and the store behind the move. -/
def St.absorb (σ : St) (f : FV) (r' : Rn) (p' : List Nat) : Option (D × St) :=
  match f with
  | .d x => if x.leaf then some (x, σ) else none
  | .al r p lo n => match σ.obj r p with
    | some (.ow k N cs) => if lo = 0 ∧ n = N then
        some (.ow k N cs, { (σ.take r p) with env := fun t => (σ.env t).move ⟨r, p, r', p'⟩ }) else none
    | _ => none
  | .pt r p o => match σ.obj r p with
    | some (.bx cs) => if o = 0 then some (.bx cs, { (σ.take r p) with env := fun t => (σ.env t).move ⟨r, p, r', p'⟩ }) else none
    | _ => none
  | .mr r p => match σ.obj r p with
    | some (.mp es) => some (.mp es, { (σ.take r p) with env := fun t => (σ.env t).move ⟨r, p, r', p'⟩ })
    | _ => none
  | _ => none

def FV.atoms : FV → List FV
  | .ag fs => fs
  | f => [f]

end Go.Proofs.Ytdgeponcnlkaiaa.Ab
