/- What a call promises, and the calculus: operations, regions and code over abstract states. No condition. -/
import Derived.Test.YtdgeponcnlkaiaaAbB
namespace Go.Proofs.Ytdgeponcnlkaiaa.Ab
open Go

/-! ### Results -/
inductive RV where
  | one (d : D)
  | ag (ds : List D)
def OwVs (w : World) (ok : Nat → Prop) : List D → List Value → List Nat → Prop
  | [], vs, fp => vs = [] ∧ fp = []
  | d :: ds, vs, fp => ∃ u us f1 f2, vs = u :: us ∧ fp = f1 ++ f2 ∧ Ow w ok d u f1 ∧ OwVs w ok ds us f2
def OwRV (w : World) (ok : Nat → Prop) : RV → Value → List Nat → Prop
  | .one d, u, fp => Ow w ok d u fp
  | .ag ds, u, fp => ∃ vs, u = .agg vs ∧ OwVs w ok ds vs.toList fp
def OwRs (w : World) (ok : Nat → Prop) : List RV → List Value → List Nat → Prop
  | [], vs, fp => vs = [] ∧ fp = []
  | d :: ds, vs, fp => ∃ u us f1 f2, vs = u :: us ∧ fp = f1 ++ f2 ∧ OwRV w ok d u f1 ∧ OwRs w ok ds us f2
def resultOf : List Value → Value
  | [v] => v
  | vs => .tuple vs.toArray

def Callable (P : Program) (f : FuncId) : Prop := ∃ fn c, P.funcs[f]? = some fn ∧ fn.body = some c ∧ (fn.name == "runtime.NumGoroutine") = false

structure Done (w : World) (ok : Nat → Prop) (ρ : Rn → Value) (fp0 : List Nat) (names : List Rn) (pure : Bool) (outs : List D) (res : List RV) (v : Value) (w' : World)
    (ok' : Nat → Prop) (φ : Rn → List Nat) (fr : List Nat) : Prop where
  len : outs.length = names.length
  out : ∀ r d, ofR (names.zip outs) r = some d → Ow w' (if pure then fun _ => False else ok') d (ρ r) (φ r) ∧ (φ r).Nodup ∧ ∀ b ∈ φ r, ¬ ok' b ∧ (b ∈ fp0 ∨ w.heap.size ≤ b) ∧ b < w'.heap.size
  dis : ∀ r r' d d', r ≠ r' → ofR (names.zip outs) r = some d → ofR (names.zip outs) r' = some d' → ∀ b ∈ φ r, b ∉ φ r'
  res : ∃ vs, v = resultOf vs ∧ OwRs w' (if pure then fun _ => False else ok') res vs fr
  nod : fr.Nodup
  bl : ∀ b ∈ fr, ¬ ok' b ∧ (b ∈ fp0 ∨ w.heap.size ≤ b) ∧ b < w'.heap.size
  disr : ∀ r d, ofR (names.zip outs) r = some d → ∀ b ∈ φ r, b ∉ fr
  frm : Keeps w fp0 w'
  okm : ∀ b, ok b → ok' b
  okn : ∀ b, ok' b → (ok b ∨ w.heap.size ≤ b) ∧ b < w'.heap.size

def argEnv (args : List FV) : Nat → FV := fun t => args.getD t .dead

/-- Called with these arguments and these owned trees, f returns; Q says of the trees behind the call and of the results. -/
def ACalls (P : Program) (f : FuncId) (args : List FV) (ros : List (Rn × D)) (pure : Bool) (Q : List D → List RV → Prop) : Prop :=
  Callable P f ∧ ∀ (w : World) (fp0 : List Nat) (ok : Nat → Prop) (vs : List Value) (ρ : Rn → Value) (φ : Rn → List Nat), vs.length = args.length →
    Rel w fp0 ok ⟨argEnv args, ofR ros⟩ (fun t => vs.getD t undef) w ρ φ →
    Calls P f vs.toArray w fun e w' => ∃ v outs res ok' φ' fr, e = .returned v ∧ Q outs res ∧ Done w ok ρ fp0 (ros.map (·.1)) pure outs res v w' ok' φ' fr

/-! ### The silent operations: a value out of the operands and the store -/
def constFV : Value → FV
  | .agg cs => .ag (cs.toList.map fun x => .d (.v x))
  | x => .d (.v x)
def opv (σ : St) : Operand → FV
  | .tmp t => σ.env t
  | .const v => constFV v
  | .global _ => .dead
  | .func f => .d (.fn f [])

def cellFV (r : Rn) (p : List Nat) (i : Nat) : D → FV
  | .ow _ n _ => .al r (p ++ [i]) 0 n
  | .bx _ => .pt r (p ++ [i]) 0
  | .mp _ => .mr r (p ++ [i])
  | .gone => .dead
  | .itr => .dead
  | x => .d x

/-- The cells from an offset on, as many as asked for. -/
def pickL (cs : List D) (off : Nat) : Nat → Option (List D)
  | 0 => some []
  | n + 1 => match cs[off]? with
    | some c => (match pickL cs (off + 1) n with | some r => some (c :: r) | none => none)
    | none => none
def mapIdx2 (g : Nat → D → FV) : Nat → List D → List FV
  | _, [] => []
  | i, c :: r => g i c :: mapIdx2 g (i + 1) r

def isAggK : TK → Bool
  | .arr _ _ => true
  | .st _ => true
  | _ => false

def pickF (fs : List FV) (off : Nat) : Nat → Option (List FV)
  | 0 => some []
  | n + 1 => match fs[off]? with
    | some c => (match pickF fs (off + 1) n with | some r => some (c :: r) | none => none)
    | none => none
def loadF (T : TT) (σ : St) (t : Nat) (a : FV) : Option FV :=
  match tget T t with
  | none => none
  | some i =>
    match a with
    | .pt r p off => (match σ.obj r p with
      | some o => (match o.cells? with
        | some cs => (match pickL cs off i.size with
          | some l => if isAggK i.kd then some (.ag (mapIdx2 (cellFV r p) off l)) else (match l with | [c] => some (cellFV r p off c) | _ => none)
          | none => none)
        | none => none)
      | none => none)
    | .sp cs off => (match pickL cs off i.size with
      | some l => if isAggK i.kd then some (.ag (l.map .d)) else (match l with | [c] => some (.d c) | _ => none)
      | none => none)
    | .d (.vp cs) => (match pickL cs 0 i.size with
      | some l => if isAggK i.kd then some (.ag (l.map .d)) else (match l with | [c] => some (.d c) | _ => none)
      | none => none)
    | .fb fs off => (match pickF fs off i.size with
      | some l => if isAggK i.kd then some (.ag l) else (match l with | [c] => some c | _ => none)
      | none => none)
    | _ => none

def fieldOff (T : TT) (t f : Nat) : Option Nat :=
  match tget T t with
  | some i => (match i.kd with
    | .st fs => (match fs[f]? with
      | some (off, ft) => (match tget T ft with | some j => if j.size = 0 then none else some off | none => none)
      | none => none)
    | _ => none)
  | none => none

def addOff (a : FV) (n : Nat) : Option FV :=
  match a with
  | .pt r p off => some (.pt r p (off + n))
  | .sp cs off => some (.sp cs (off + n))
  | .d (.vp cs) => some (.sp cs n)
  | .fb fs o => some (.fb fs (o + n))
  | _ => none

/-- The size of the elements that a place holds. -/
def St.kOf (σ : St) (r : Rn) (p : List Nat) : Nat := match σ.obj r p with | some (.ow k _ _) => k | _ => 0
/-- How many cells an object has. -/
def St.nOf (σ : St) (r : Rn) (p : List Nat) : Nat := match σ.obj r p with | some o => (match o.cells? with | some cs => cs.length | none => 0) | none => 0
def indexF (T : TT) (σ : St) (t : Nat) (a i : FV) : Option (Prop × FV) :=
  match tget T t, i with
  | some ti, .d (.v (.int _ x)) => (match ti.kd with
    | .sl e => (match tsize T e with
      | some k => (match a with
        | .al r p lo n => if σ.kOf r p = k then some (0 ≤ x ∧ x < n, .pt r p (k * (lo + x.toNat))) else none
        | .ar r p off n => if k = 1 then some (0 ≤ x ∧ x < n, .pt r p (off + x.toNat)) else none
        | .d (.sh k' n cs) => if k' = k ∧ 0 < k then some (0 ≤ x ∧ x < n, .sp cs (k * x.toNat)) else none
        | _ => none)
      | none => none)
    | .arr n e => (match tsize T e with
      | some k => (match addOff a (k * x.toNat) with
        | some f => some (0 ≤ x ∧ x < n, f)
        | none => none)
      | none => none)
    | _ => none)
  | _, _ => none

def bitsV (op : BinOp) (k : IntKind) (x y : Int) : Option Int :=
  match op with
  | .and => some (k.wrap (BitVec.ofInt k.bits x &&& BitVec.ofInt k.bits y).toNat)
  | .or => some (k.wrap (BitVec.ofInt k.bits x ||| BitVec.ofInt k.bits y).toNat)
  | .xor => some (k.wrap (BitVec.ofInt k.bits x ^^^ BitVec.ofInt k.bits y).toNat)
  | _ => none

def binInt (op : BinOp) (k : IntKind) (a b : Int) : Option (Prop × Value) :=
  match op with
  | .add => some (True, .int k (k.wrap (a + b)))
  | .sub => some (True, .int k (k.wrap (a - b)))
  | .mul => some (True, .int k (k.wrap (a * b)))
  | .quo => some (b ≠ 0, .int k (k.wrap (a.tdiv b)))
  | .rem => some (b ≠ 0, .int k (a.tmod b))
  | .eql => some (True, .bool (a == b))
  | .neq => some (True, .bool (a != b))
  | .lss => some (True, .bool (decide (a < b)))
  | .leq => some (True, .bool (decide (a ≤ b)))
  | .gtr => some (True, .bool (decide (a > b)))
  | .geq => some (True, .bool (decide (a ≥ b)))
  | .and => match bitsV .and k a b with | some n => some (True, .int k n) | none => none
  | .or => match bitsV .or k a b with | some n => some (True, .int k n) | none => none
  | .xor => match bitsV .xor k a b with | some n => some (True, .int k n) | none => none
  | .shr => some (0 ≤ b, .int k (a.fdiv (2 ^ (min b.toNat k.bits))))
  | .shl => some (0 ≤ b, .int k (k.wrap (a * 2 ^ (min b.toNat k.bits))))
  | _ => none

def binF (T : TT) (op : BinOp) (t : Nat) (x y : FV) : Option (Prop × FV) :=
  match x, y with
  | .d (.v (.int k a)), .d (.v (.int k' b)) => if k = k' then (match binInt op k a b with | some (c, v) => some (c, .d (.v v)) | none => none) else none
  | .d (.v (.bool a)), .d (.v (.bool b)) => (match tget T t with
    | some i => (match i.kd with
      | .bool => (match op with
        | .eql => some (True, .bool (a == b))
        | .neq => some (True, .bool (!(a == b)))
        | _ => none)
      | _ => none)
    | none => none)
  | .d (.v (.string a)), .d (.v (.string b)) => (match op with
    | .add => some (((a.size + b.size : Nat) : Int) ≤ 9223372036854775807, .d (.v (.string (a ++ b))))
    | .eql => some (True, .bool (a.toList == b.toList))
    | .neq => some (True, .bool (!(a.toList == b.toList)))
    | _ => none)
  | _, _ => none

def boundsF (lo hi : Option FV) (n : Nat) : Option (Prop × Nat × Nat) :=
  match lo, hi with
  | none, none => some (True, 0, n)
  | some (.d (.v (.int _ l))), none => some (0 ≤ l ∧ l ≤ n, l.toNat, n)
  | none, some (.d (.v (.int _ h))) => some (0 ≤ h ∧ h ≤ n, 0, h.toNat)
  | some (.d (.v (.int _ l))), some (.d (.v (.int _ h))) => some (0 ≤ l ∧ l ≤ h ∧ h ≤ n, l.toNat, h.toNat)
  | _, _ => none

def isZero : Option Operand → Bool
  | some (.const (.int _ 0)) => true
  | _ => false

def sliceF (T : TT) (σ : St) (t : Nat) (a : FV) (lo hi mx : Option Operand) (l h m : Option FV) : Option (Prop × FV) :=
  match tget T t with
  | none => none
  | some ti =>
    match ti.kd with
    | .sl e => (match tsize T e with
      | none => none
      | some k =>
        (match isZero mx, isZero lo, isZero hi, a with
        | true, true, true, .al .. => some (True, .d .ez)
        | true, true, true, .d (.sh ..) => some (True, .d .ez)
        | _, _, _, _ =>
          (match a with
          | .al r p lo0 n => if σ.kOf r p = k then (match boundsF l h n with
            | some (c, x, y) => (match m with
              | none => some (c, .al r p (lo0 + x) (y - x))
              | some (.d (.v (.int _ z))) => if lo0 = 0 ∧ l.isNone ∧ h.isSome then some (c ∧ (y : Int) = z, .cu r p y) else none
              | _ => none)
            | none => none) else none
          | .d (.sh k' n cs) => (match m, boundsF l h n with
            | none, some (c, x, y) => if k' = k then some (c, .d (.sh k (y - x) ((cs.drop (k * x)).take (k * (y - x))))) else none
            | _, _ => none)
          | _ => none)))
    | .arr n e => (match tsize T e, m with
      | some k, none => if k = 1 then
          (match boundsF l h n with
          | some (c, x, y) => (match a with
            | .pt r p off => some (c ∧ off + n ≤ σ.nOf r p, .ar r p (off + x) (y - x))
            | _ => none)
          | none => none) else none
      | _, _ => none)
    | _ => none

def setAtoms (l : List FV) (off : Nat) : List FV → List FV
  | [] => l
  | f :: r => setAtoms (l.set off f) (off + 1) r

/-- The cells of what is surely one value of one cell, or an aggregate. -/
def FV.whole : FV → Bool
  | .d x => x.leaf
  | .al .. => true
  | .cu .. => true
  | .pt .. => true
  | .ar .. => true
  | .mr .. => true
  | .sp .. => true
  | .cl .. => true
  | .ag _ => true
  | _ => false
def fillF (place : Nat → Option (Nat × Nat)) (l : List FV) : List (Nat × FV) → Option (List FV)
  | [] => some l
  | (i, f) :: r => match place i with
    | some (off, size) => if f.whole = true ∧ f.atoms.length = size ∧ off + size ≤ l.length then fillF place (setAtoms l off f.atoms) r else none
    | none => none

def fieldPl (T : TT) (fs : List (Nat × Nat)) (i : Nat) : Option (Nat × Nat) :=
  match fs[i]? with
  | some (off, ft) => (match tget T ft with | some j => some (off, j.size) | none => none)
  | none => none

def buildF (T : TT) (t : Nat) (parts : List (Nat × FV)) : Option FV :=
  match tget T t with
  | some ti => (match ti.kd with
    | .st fs => (match fillF (fieldPl T fs) (ti.zero.map fun z => .d (.v z)) parts with | some l => some (.ag l) | none => none)
    | _ => none)
  | none => none

def lenF : FV → Option Nat
  | .al _ _ _ n => some n
  | .cu _ _ n => some n
  | .ar _ _ _ n => some n
  | .d (.sh _ n _) => some n
  | .d .ez => some 0
  | .d (.v (.slice none 0 0)) => some 0
  | _ => none

def mget (k : List Int) : List (List Int × Int) → Option Int
  | [] => none
  | x :: r => if x.1 = k then some x.2 else mget k r
def mset (k : List Int) (v : Int) : List (List Int × Int) → List (List Int × Int)
  | [] => [(k, v)]
  | x :: r => if x.1 = k then (k, v) :: r else x :: mset k v r
def mdel (k : List Int) : List (List Int × Int) → List (List Int × Int)
  | [] => []
  | x :: r => if x.1 = k then r else x :: mdel k r

def keyInts : List FV → Option (List Int)
  | [] => some []
  | .d (.v (.int .i64 n)) :: r => (match keyInts r with | some l => some (n :: l) | none => none)
  | _ => none
/-- Fields that lie one behind the other, from an offset to the end. -/
def tileB (T : TT) : List (Nat × Nat) → Nat → Nat → Bool
  | [], o, n => o == n
  | f :: fs, o, n => f.1 == o && (match tget T f.2 with | some j => tileB T fs (o + j.size) n | none => false)
/-- Is a type an int, an array of such, or a struct of such? -/
def flatInt (T : TT) : Nat → Nat → Bool
  | 0, _ => false
  | d + 1, t => match tget T t with
    | some i => (match i.kd with
      | .int .i64 => i.size == 1
      | .arr n e => (match tget T e with | some j => i.size == n * j.size && j.size != 0 | none => false) && flatInt T d e
      | .st fs => tileB T fs 0 i.size && fs.all fun f => flatInt T d f.2
      | _ => false)
    | none => false
def mapLen (n : Nat) (es : List (List Int × Int)) : Prop := ∀ x ∈ es, x.1.length = n

def mapKV (T : TT) (t : Nat) : Option Nat :=
  match tget T t with
  | some i => (match i.kd with
    | .map k e => (match tget T k, tget T e with
      | some ki, some ei => (match ei.kd, ei.zero with
        | .int .i64, [.int .i64 0] => if flatInt T 4 k && isAggK ki.kd then some ki.size else none
        | _, _ => none)
      | _, _ => none)
    | _ => none)
  | none => none

def silCall (T : TT) (σ : St) (b : Builtin) (args : List Operand) (tys : List Nat) : Option (Prop × FV) :=
  match b with
  | .len => (match args, tys with
    | [x], [t] => (match tget T t with
      | some i => (match i.kd with
        | .sl _ => (match lenF (opv σ x) with | some n => some (True, .int n) | none => none)
        | .str => (match opv σ x with | .d (.v (.string s)) => some (True, .int s.size) | _ => none)
        | .map _ _ => (match opv σ x with
          | .mr r p => (match σ.obj r p with | some (.mp es) => some (True, .int es.length) | _ => none)
          | _ => none)
        | _ => none)
      | none => none)
    | _, _ => none)
  | .max => (match args with
    | [x, y] => (match opv σ x, opv σ y with
      | .d (.v (.int .i64 a)), .d (.v (.int .i64 b)) => some (True, .int (max a b))
      | _, _ => none)
    | _ => none)
  | .min => (match args with
    | [x, y] => (match opv σ x, opv σ y with
      | .d (.v (.int .i64 a)), .d (.v (.int .i64 b)) => some (True, .int (min a b))
      | _, _ => none)
    | _ => none)
  | _ => none

/-- A silent operation's value, and what it asks. -/
def sil (T : TT) (σ : St) (o : Op) : Option (Prop × FV) :=
  match o with
  | .move x => some (True, opv σ x)
  | .assign x => some (True, opv σ x)
  | .pick c a b => (match opv σ c with
    | .d (.v (.bool t)) => some (True, if t then opv σ a else opv σ b)
    | _ => none)
  | .load t a => (match loadF T σ t (opv σ a) with | some f => some (True, f) | none => none)
  | .nilCheck x => (match opv σ x with
    | .pt r p off => some (True, .pt r p off)
    | .sp cs off => some (True, .sp cs off)
    | .d (.vp cs) => some (True, .d (.vp cs))
    | _ => none)
  | .fieldAddr t x f => (match fieldOff T t f with
    | some off => (match addOff (opv σ x) off with | some g => some (True, g) | none => none)
    | none => none)
  | .indexAddr t x i => indexF T σ t (opv σ x) (opv σ i)
  | .binOp op t x y _ => binF T op t (opv σ x) (opv σ y)
  | .unOp op _ x => (match op, opv σ x with
    | .neg, .d (.v (.int k n)) => some (True, .d (.v (.int k (k.wrap (0 - n)))))
    | .not, .d (.v (.bool b)) => some (True, .bool (!b))
    | _, _ => none)
  | .convert src dst x => (match tget T src, tget T dst, opv σ x with
    | some _, some i, .d (.v (.int _ n)) => (match i.kd with
      | .int k => some (True, .d (.v (.int k (k.wrap n))))
      | _ => none)
    | _, _, _ => none)
  | .extract t i => (match opv σ t with
    | .tu fs => (match fs[i]? with | some f => some (True, f) | none => none)
    | _ => none)
  | .slice t x lo hi mx => sliceF T σ t (opv σ x) lo hi mx (lo.map (opv σ)) (hi.map (opv σ)) (mx.map (opv σ))
  | .build t parts => (match buildF T t (parts.toList.map fun x => (x.1, opv σ x.2)) with | some f => some (True, f) | none => none)
  | .entry x => (match opv σ x with
    | .it _ _ _ _ (some (k, c)) => some (True, .tu [.ag (k.map fun n => .int n), .int c])
    | _ => none)
  | .lookup t m k ok => (match mapKV T t, opv σ m, opv σ k, ok with
    | some sz, .mr r p, .ag fs, false => (match σ.obj r p, keyInts fs with
      | some (.mp es), some key => if key.length = sz then some (mapLen sz es, .int ((mget key es).getD 0)) else none
      | _, _ => none)
    | _, _, _, _ => none)
  | .call c => (match c.callee with
    | .builtin b => silCall T σ b c.args.toList c.argTypes.toList
    | _ => none)
  | _ => none

/-! ### Stores -/
def D.quiet : D → Bool
  | .gone => true
  | d => d.leaf
def FV.isLeaf : FV → Bool
  | .d x => x.leaf
  | _ => false
def St.store1 (σ : St) (r : Rn) (p : List Nat) (i : Nat) (f : FV) : Option St :=
  match σ.obj r p with
  | some o => (match o.cells? with
    | some cs => (match cs[i]? with
      | some old =>
        (match St.absorb (if old.quiet then σ else σ.kill r (p ++ [i])) f r (p ++ [i]) with
        | some (e, σ1) => (match σ1.obj r p with
          | some o1 => (match o1.cells? with
            | some cs1 => some (σ1.put r p (o1.setCells (cs1.set i e)))
            | none => none)
          | none => none)
        | none => none)
      | none => none)
    | none => none)
  | none => none
/-- Atoms that still wait lie in the frame from 2000 on. -/
def pend : List FV → Nat → (Nat → FV) → (Nat → FV)
  | [], _, e => e
  | f :: r, t, e => pend r (t + 1) (upd e t f)
def unpend (e : Nat → FV) : Nat → Nat → List FV
  | _, 0 => []
  | t, n + 1 => e t :: unpend e (t + 1) n
def St.storeL (σ : St) (r : Rn) (p : List Nat) : Nat → Nat → List FV → Option St
  | _, _, [] => some σ
  | 0, _, _ => none
  | m + 1, off, f :: fs =>
    if fs.all FV.isLeaf then
      (match σ.store1 r p off f with
      | some σ1 => σ1.storeL r p m (off + 1) fs
      | none => none)
    else
      (match St.store1 { σ with env := pend fs 2000 σ.env } r p off f with
      | some σ1 => σ1.storeL r p m (off + 1) (unpend σ1.env 2000 fs.length)
      | none => none)
def St.root (σ : St) (r : Rn) (d : D) : St := { σ with rts := fun q => if q = r then some d else σ.rts q }

def zerosD (z : List Value) : Nat → List D
  | 0 => []
  | n + 1 => z.map .v ++ zerosD z n
def goneL : Nat → List D
  | 0 => []
  | n + 1 => .gone :: goneL n

mutual
def noSh : D → Prop
  | .v _ => True
  | .ez => True
  | .sh .. => False
  | .vp _ => False
  | .fn .. => False
  | .ow _ _ cs => noShL cs
  | .bx cs => noShL cs
  | .mp _ => True
  | .itr => False
  | .gone => False
def noShL : List D → Prop
  | [] => True
  | d :: r => noSh d ∧ noShL r
end
def noShR : List RV → Prop
  | [] => True
  | .one d :: r => noSh d ∧ noShR r
  | .ag ds :: r => noShL ds ∧ noShR r
/-- Cells that hold one value for sure. -/
def D.solid : D → Bool
  | .ow .. => true
  | .bx _ => true
  | .mp _ => true
  | d => d.leaf
def solidL : List D → Prop
  | [] => True
  | d :: r => d.solid = true ∧ solidL r
def leafL : List D → Prop
  | [] => True
  | d :: r => d.leaf = true ∧ leafL r

/-! ### Calls -/
/- An argument as the callee sees it without leave to write; the roots that are lent. -/
mutual
def viewFV (σ : St) : FV → Option (FV × List Rn)
  | .d x => if x.leaf then some (.d x, []) else none
  | .sp cs off => some (.d (.vp (cs.drop off)), [])
  | .al r p lo n => match σ.obj r p with
    | some (.ow k N cs) => if lo = 0 ∧ n = N then some (.d (.sh k n (shareL cs)), [r]) else some (.d (.sh k n (shareL ((cs.drop (k * lo)).take (k * n)))), [r])
    | _ => none
  | .cu r p n => match σ.obj r p with
    | some (.ow k N cs) => some (.d (.sh k n (shareL (cs.take (k * n)))), [r])
    | _ => none
  | .pt r p off => match σ.obj r p with
    | some (.bx cs) => some (.d (.vp (shareL (cs.drop off))), [r])
    | some (.ow _ _ (c :: cs)) => some (.d (.vp (shareL ((c :: cs).drop off))), [r])
    | _ => none
  | .ar r p off n => match σ.obj r p with
    | some o => (match o.cells? with | some cs => some (.d (.sh 1 n (shareL ((cs.drop off).take n))), [r]) | none => none)
    | none => none
  | .ag fs => match viewL σ fs with | some (l, q) => some (.ag l, q) | none => none
  | .cl f fs => match viewL σ fs with | some (l, q) => some (.cl f l, q) | none => none
  | .mr _ _ => none
  | .it _ _ _ _ _ => none
  | .tu _ => none
  | .fb _ _ => none
  | .dead => none
def viewL (σ : St) : List FV → Option (List FV × List Rn)
  | [] => some ([], [])
  | f :: r => match viewFV σ f with
    | some (g, q) => (match viewL σ r with | some (gs, qs) => some (g :: gs, q ++ qs) | none => none)
    | none => none
end
/-- An argument that the callee may write: its trees get names of the callee's. -/
structure Io where
  name : Rn
  r : Rn
  p : List Nat
  d : D
def ioAtom (σ : St) (nm : Rn) : FV → Option (FV × List Io)
  | .d x => if x.leaf then some (.d x, []) else none
  | .al r p lo n => match σ.obj r p with
    | some (.ow k N cs) => if lo = 0 ∧ n = N then some (.al nm [] 0 n, [⟨nm, r, p, .ow k N cs⟩]) else none
    | _ => none
  | .pt r p off => match σ.obj r p with
    | some (.bx cs) => if off = 0 then some (.pt nm [] 0, [⟨nm, r, p, .bx cs⟩]) else none
    | _ => none
  | _ => none
def ioL (σ : St) (i : Nat) : Nat → List FV → Option (List FV × List Io)
  | _, [] => some ([], [])
  | j, f :: r => match ioAtom σ (i, j) f with
    | some (g, q) => (match ioL σ i (j + 1) r with | some (gs, qs) => some (g :: gs, q ++ qs) | none => none)
    | none => none
def ioFV (σ : St) (i : Nat) : FV → Option (FV × List Io)
  | .ag fs => match ioL σ i 0 fs with | some (l, q) => some (.ag l, q) | none => none
  | f => ioAtom σ (i, 0) f
def passL (σ : St) : Nat → List Bool → List FV → Option (List FV × List Rn × List Io)
  | _, _, [] => some ([], [], [])
  | i, ms, f :: r =>
    match passL σ (i + 1) ms.tail r with
    | some (gs, lent, ios) =>
      if ms.headD false then (match ioFV σ i f with | some (g, q) => some (g :: gs, lent, q ++ ios) | none => none)
      else (match viewFV σ f with | some (g, q) => some (g :: gs, q ++ lent, ios) | none => none)
    | none => none

/-- The caller's store behind the call: what was written through each argument. -/
def putOuts (σ : St) : List Io → List D → Option St
  | [], [] => some σ
  | io :: r, d :: ds =>
    (match io.d, d with
    | .ow k n _, .ow k' n' cs => if k = k' ∧ n = n' then putOuts ((σ.killBelow io.r io.p).put io.r io.p (.ow k n cs)) r ds else none
    | .bx cs, .bx cs' => if cs.length = cs'.length then putOuts ((σ.killBelow io.r io.p).put io.r io.p (.bx cs')) r ds else none
    | _, _ => none)
  | _, _ => none

/-- A result as the caller holds it: new roots under the names (d, j), (d, j + 1) .. -/
def unpackD (d : Nat) (σ : St) (j : Nat) : D → Option (FV × St × Nat)
  | .ow k n cs => if (σ.rts (d, j)).isNone then some (.al (d, j) [] 0 n, σ.root (d, j) (.ow k n cs), j + 1) else none
  | .bx cs => if (σ.rts (d, j)).isNone then some (.pt (d, j) [] 0, σ.root (d, j) (.bx cs), j + 1) else none
  | .mp es => if (σ.rts (d, j)).isNone then some (.mr (d, j) [], σ.root (d, j) (.mp es), j + 1) else none
  | x => if x.leaf then some (.d x, σ, j) else none
def unpackL (d : Nat) : St → Nat → List D → Option (List FV × St × Nat)
  | σ, j, [] => some ([], σ, j)
  | σ, j, x :: r => match unpackD d σ j x with
    | some (f, σ1, j1) => (match unpackL d σ1 j1 r with | some (fs, σ2, j2) => some (f :: fs, σ2, j2) | none => none)
    | none => none
def unpackR (d : Nat) : St → Nat → List RV → Option (List FV × St × Nat)
  | σ, j, [] => some ([], σ, j)
  | σ, j, .one x :: r => (match unpackD d σ j x with
    | some (f, σ1, j1) => (match unpackR d σ1 j1 r with | some (fs, σ2, j2) => some (f :: fs, σ2, j2) | none => none)
    | none => none)
  | σ, j, .ag ds :: r => (match unpackL d σ j ds with
    | some (l, σ1, j1) => (match unpackR d σ1 j1 r with | some (fs, σ2, j2) => some (.ag l :: fs, σ2, j2) | none => none)
    | none => none)
def resFV : List FV → FV
  | [f] => f
  | fs => .tu fs

inductive Plan where
  | done
  | take (i : Nat) (p : Plan)
  | all (ps : List (Nat × Plan))

structure Ctx where
  P : Program
  T : TT
  M : List (Nat × List Bool)
  nW : Nat
  kp : List (Nat × List Nat)
  lp : List (Nat × List Nat)
  pl : List (Nat × Plan)
  fb : List Nat := []

def aget {α : Type} (d : α) : List (Nat × α) → Nat → α
  | [], _ => d
  | (i, x) :: r, t => if i = t then x else aget d r t

def callTo (C : Ctx) (f : Nat) (fvs : List FV) (dst : Option Nat) (σ : St) (K : St → Prop) : Prop :=
  match passL σ 0 (aget [] C.M f) fvs with
  | some (args, lent, ios) =>
    ((ios.map (·.r)).Nodup ∧ (ios.map (·.name)).Nodup) ∧ (∀ r ∈ ios.map (·.r), r ∉ lent) ∧
    ∃ pure Q, ACalls C.P f args (ios.map fun io => (io.name, io.d)) pure Q ∧ (pure = true ∨ lent = []) ∧
      ∀ outs res, Q outs res → match putOuts σ ios outs with
        | some σ1 => (match dst with
          | some d => (match unpackR d σ1 0 res with
            | some (fs, σ2, _) => K { σ2 with env := upd σ2.env d (resFV fs) }
            | none => False)
          | none => K σ1)
        | none => False
  | none => False

def takeCells (k n N : Nat) (cs : List D) : List D := if n = N then cs else cs.take (k * n)

/-- append: the source's elements, the store without it. -/
def appSrc (σ : St) (k : Nat) : FV → Option (Nat × List D × St)
  | .d (.v (.slice none 0 0)) => some (0, [], σ)
  | .d .ez => some (0, [], σ)
  | .al r p 0 n => match σ.obj r p with
    | some (.ow k' N cs) => if k' = k then some (n, takeCells k n N cs, (σ.take r p).kill r p) else none
    | _ => none
  | _ => none
def FV.rootIs (f : FV) (r : Rn) : Bool := match f with | .al q _ _ _ => q == r | _ => false
/-- append: what comes behind; some: it is moved out of this root where it holds what one owns. -/
def appNew (σ : St) (k : Nat) : FV → Option (Nat × List D × Option Rn)
  | .d (.v (.slice none 0 0)) => some (0, [], none)
  | .d .ez => some (0, [], none)
  | .d (.sh k' n cs) => if k' = k then some (n, cs, none) else none
  | .al r p lo n => match σ.obj r p with
    | some (.ow k' N cs) => if k' = k then (if lo = 0 ∧ n = N ∧ p = [] then some (n, cs, some r) else some (n, (cs.drop (k * lo)).take (k * n), none)) else none
    | _ => none
  | .ar r p off n => match σ.obj r p with
    | some o => (match o.cells? with | some cs => if k = 1 then some (n, (cs.drop off).take n, none) else none | none => none)
    | none => none
  | _ => none

mutual
/-- Does it hold an iterator? -/
def FV.hasIt : FV → Bool
  | .it _ _ _ _ _ => true
  | .ag fs => FV.hasItL fs
  | .tu fs => FV.hasItL fs
  | .cl _ fs => FV.hasItL fs
  | .fb fs _ => FV.hasItL fs
  | .al .. => false
  | .cu .. => false
  | .pt .. => false
  | .ar .. => false
  | .mr .. => false
  | .d _ => false
  | .sp _ _ => false
  | .dead => false
def FV.hasItL : List FV → Bool
  | [] => false
  | f :: r => f.hasIt || FV.hasItL r
end
def St.dropIt (σ : St) : St :=
  { σ with env := fun t => if (σ.env t).hasIt then .dead else σ.env t }
def FV.notIt (r : Rn) (f : FV) : FV := if f.hasIt then (match f with | .it q m p l c => if q = r then .dead else .it q m p l c | _ => .dead) else f
def St.setIt (σ : St) (r : Rn) (t : Nat) (f : FV) : St :=
  { σ with env := fun s => if s = t then f else (σ.env s).notIt r }

def silK (C : Ctx) (o : Oper) (σ : St) (K : St → Prop) : Prop :=
  match sil C.T σ o.op with
  | some (c, f) => c ∧ K (σ.set o.dst f)
  | none => False

def AAlloc (C : Ctx) (dst : Option Nat) (t : Nat) (σ : St) (K : St → Prop) : Prop :=
  match dst, tget C.T t with
  | some d, some i => σ.rts (d, 0) = none ∧ K { (σ.root (d, 0) (.bx (i.zero.map .v))) with env := upd σ.env d (.pt (d, 0) [] 0) }
  | _, _ => False

def ABox (C : Ctx) (dst : Option Nat) (t : Nat) (f : FV) (σ : St) (K : St → Prop) : Prop :=
  match dst, tget C.T t with
  | some d, some i => σ.rts (d, 0) = none ∧ f.whole = true ∧ f.atoms.length = i.size ∧
      (match (σ.root (d, 0) (.bx (goneL i.size))).storeL (d, 0) [] i.size 0 f.atoms with
      | some σ1 => K { σ1 with env := upd σ1.env d (.pt (d, 0) [] 0) }
      | none => False)
  | _, _ => False

/-- A box that nobody will write: what it holds is remembered as it is. -/
def AFb (C : Ctx) (dst : Option Nat) (t : Nat) (f : FV) (σ : St) (K : St → Prop) : Prop :=
  match dst, tget C.T t with
  | some d, some _ => f.whole = true ∧ K { σ with env := upd σ.env d (.fb f.atoms 0) }
  | _, _ => False
def fbB (C : Ctx) (dst : Option Nat) : Bool := match dst with | some d => C.fb.contains d | none => false

def ABuildSlice (C : Ctx) (dst : Option Nat) (t len : Nat) (parts : List (Nat × FV)) (σ : St) (K : St → Prop) : Prop :=
  match dst, tget C.T t with
  | some d, some ti => (match ti.kd with
    | .sl e => (match tget C.T e with
      | some i => σ.rts (d, 0) = none ∧ len * i.size ≤ 16777216 ∧
        (match fillF (fun j => some (j * i.size, i.size)) ((zerosD i.zero len).map .d) parts with
        | some l => (match (σ.root (d, 0) (.ow i.size len (goneL (len * i.size)))).storeL (d, 0) [] (len * i.size) 0 l with
          | some σ1 => K { σ1 with env := upd σ1.env d (.al (d, 0) [] 0 len) }
          | none => False)
        | none => False)
      | none => False)
    | _ => False)
  | _, _ => False

def AMake (C : Ctx) (dst : Option Nat) (t : Nat) (l c : FV) (σ : St) (K : St → Prop) : Prop :=
  match dst, tget C.T t, l, c with
  | some d, some ti, .d (.v (.int .i64 x)), .d (.v (.int .i64 y)) => (match ti.kd with
    | .sl e => (match tget C.T e with
      | some i => σ.rts (d, 0) = none ∧ (0 ≤ x ∧ x ≤ y ∧ i.bytes * y ≤ 281474976710656 ∧ y ≤ 281474976710656) ∧
          K { (σ.root (d, 0) (.ow i.size x.toNat (zerosD i.zero x.toNat))) with env := upd σ.env d (.al (d, 0) [] 0 x.toNat) }
      | none => False)
    | _ => False)
  | _, _, _, _ => False

def AStore (C : Ctx) (dst : Option Nat) (t : Nat) (a f : FV) (σ : St) (K : St → Prop) : Prop :=
  match tget C.T t, a with
  | some i, .pt r p off => f.whole = true ∧ f.atoms.length = i.size ∧
      (match σ.storeL r p i.size off f.atoms with | some σ1 => K (σ1.set dst .dead) | none => False)
  | _, _ => False

def okAtom : FV → Bool
  | .d x => x.leaf
  | .al .. => true
  | .pt .. => true
  | _ => false
/-- A box of zeros is filled once; nobody will write it again: what it holds is remembered as it is. -/
def AFrz (C : Ctx) (dst : Option Nat) (t d : Nat) (f : FV) (σ : St) (K : St → Prop) : Prop :=
  match tget C.T t, σ.env d with
  | some i, .pt r [] 0 => (match σ.rts r with
    | some (.bx cs) => C.nW = 0 ∧ f.whole = true ∧ f.atoms.all okAtom = true ∧ f.atoms.length = i.size ∧ cs.length = i.size ∧ FV.underL r [] f.atoms = false ∧
        K ({ ((σ.take r []).kill r []) with env := upd ((σ.take r []).kill r []).env d (.fb f.atoms 0) }.set dst .dead)
    | _ => False)
  | _, _ => False
def frzB (C : Ctx) : Operand → Option Nat
  | .tmp d => if C.fb.contains d then some d else none
  | _ => none

def AMapUpd (C : Ctx) (dst : Option Nat) (t : Nat) (m k x : FV) (σ : St) (K : St → Prop) : Prop :=
  match mapKV C.T t, m, k, x with
  | some sz, .mr r p, .ag fs, .d (.v (.int .i64 c)) => (match σ.obj r p, keyInts fs with
    | some (.mp es), some key => key.length = sz ∧ mapLen sz es ∧ K ((((σ.dropIt).put r p (.mp (mset key c es)))).set dst .dead)
    | _, _ => False)
  | _, _, _, _ => False

def ARange (C : Ctx) (dst : Option Nat) (t : Nat) (m : FV) (σ : St) (K : St → Prop) : Prop :=
  match mapKV C.T t, dst, m with
  | some _, some d, .mr r p => (match σ.obj r p with
    | some (.mp es) => σ.rts (d, 0) = none ∧ K { (σ.root (d, 0) .itr) with env := upd σ.env d (.it (d, 0) r p es none) }
    | _ => False)
  | _, _, _ => False

def ANext (dst : Option Nat) (x : Operand) (s : Bool) (σ : St) (K : St → Prop) : Prop :=
  match x, s, dst with
  | .tmp t, false, some d => (match σ.env t with
    | .it r m p rest _ => d ≠ t ∧
        (rest = [] → K { σ with env := upd σ.env d (.tu [.bool false]) }) ∧
        ∀ i x, rest[i]? = some x → K { (σ.setIt r t (.it r m p (rest.eraseIdx i) (some x))) with env := upd (σ.setIt r t (.it r m p (rest.eraseIdx i) (some x))).env d (.tu [.bool true, .ag (x.1.map fun n => .int n), .int x.2]) }
    | _ => False)
  | _, _, _ => False

def AAppend (C : Ctx) (dst : Option Nat) (t t' : Nat) (s x : FV) (σ : St) (K : St → Prop) : Prop :=
  match dst, tget C.T t, tget C.T t' with
  | some d, some ti, some ti' => (match ti.kd, ti'.kd with
    | .sl e, .sl _ => (match tget C.T e with
      | some i => (match appSrc σ i.size s with
        | some (n, cs, σ1) => (match appNew σ i.size x with
          | some (m, cs2, mv) => (0 < i.bytes ∧ 0 < i.size) ∧ σ1.rts (d, 0) = none ∧ (n + m) * i.bytes ≤ 140737488355328 ∧
              (leafL cs2 → K { (σ1.root (d, 0) (.ow i.size (n + m) (cs ++ cs2))) with env := upd σ1.env d (.al (d, 0) [] 0 (n + m)) }) ∧
              (¬ leafL cs2 → solidL cs2 ∧ match mv with
                | some r2 => (match σ1.rts r2 with
                  | some _ => (r2 ≠ (d, 0) ∧ s.rootIs r2 = false) ∧ K { ((((σ1.take r2 []).kill r2 []).root (d, 0) (.ow i.size (n + m) (cs ++ cs2)))) with env := upd ((σ1.take r2 []).kill r2 []).env d (.al (d, 0) [] 0 (n + m)) }
                  | none => False)
                | none => False)
          | none => False)
        | none => False)
      | none => False)
    | _, _ => False)
  | _, _, _ => False

def ACopy (C : Ctx) (dst : Option Nat) (t t' : Nat) (s x : FV) (σ : St) (K : St → Prop) : Prop :=
  match tget C.T t, tget C.T t', s with
  | some ti, some ti', .ar r p off n => (match ti.kd, ti'.kd with
    | .sl e, .sl _ => (match tget C.T e, appNew σ 1 x, σ.obj r p with
      | some i, some (m, cs2, _), some ob => (match ob.cells? with
        | some cs => i.size = 1 ∧ leafL cs2 ∧ leafL cs ∧ off + n ≤ cs.length ∧
            K ((σ.dropIt.put r p (ob.setCells (cs.take off ++ cs2.take (min m n) ++ cs.drop (off + min m n)))).set dst (.int ((min m n : Nat) : Int)))
        | none => False)
      | _, _, _ => False)
    | _, _ => False)
  | _, _, _ => False

def ADelete (C : Ctx) (dst : Option Nat) (t : Nat) (m k : FV) (σ : St) (K : St → Prop) : Prop :=
  match mapKV C.T t, m, k with
  | some sz, .mr r p, .ag fs => (match σ.obj r p, keyInts fs with
    | some (.mp es), some key => key.length = sz ∧ mapLen sz es ∧ K ((((σ.dropIt).put r p (.mp (mdel key es)))).set dst (.tu []))
    | _, _ => False)
  | _, _, _ => False

def ABuiltin (C : Ctx) (o : Oper) (b : Builtin) (args : List Operand) (tys : List Nat) (σ : St) (K : St → Prop) : Prop :=
  match b with
  | .len => silK C o σ K
  | .max => silK C o σ K
  | .min => silK C o σ K
  | .append => (match args, tys with
    | [s, x], [t, t'] => AAppend C o.dst t t' (opv σ s) (opv σ x) σ K
    | _, _ => False)
  | .copy => (match args, tys with
    | [s, x], [t, t'] => ACopy C o.dst t t' (opv σ s) (opv σ x) σ K
    | _, _ => False)
  | .delete => (match args, tys with
    | [m, k], [t, _] => ADelete C o.dst t (opv σ m) (opv σ k) σ K
    | _, _ => False)
  | _ => False

/-- A slice held against nil: what it says where it is not empty. -/
def nilIs (f : FV) (K : Bool → Prop) : Prop :=
  match f with
  | .d (.v (.slice none 0 0)) => K true
  | .d .ez => ∀ b : Bool, K b
  | .al _ _ _ n => ∀ b : Bool, (n ≠ 0 → b = false) → K b
  | .d (.sh k n _) => ∀ b : Bool, (n ≠ 0 ∧ k ≠ 0 → b = false) → K b
  | _ => False
def isNilC : Operand → Bool
  | .const (.slice none 0 0) => true
  | _ => false
def ANil (C : Ctx) (dst : Option Nat) (op : BinOp) (t : Nat) (x : FV) (σ : St) (K : St → Prop) : Prop :=
  match tget C.T t with
  | some i => (match i.kd with
    | .sl _ => (match op with
      | .eql => nilIs x fun b => K (σ.set dst (.bool b))
      | .neq => nilIs x fun b => K (σ.set dst (.bool (!b)))
      | _ => False)
    | _ => False)
  | none => False

/-- One operation. -/
def AOp (C : Ctx) (o : Oper) (σ : St) (K : St → Prop) : Prop :=
  match o.op with
  | .move _ => silK C o σ K
  | .assign _ => silK C o σ K
  | .pick .. => silK C o σ K
  | .load .. => silK C o σ K
  | .nilCheck _ => silK C o σ K
  | .fieldAddr .. => silK C o σ K
  | .indexAddr .. => silK C o σ K
  | .unOp .. => silK C o σ K
  | .convert .. => silK C o σ K
  | .extract .. => silK C o σ K
  | .slice .. => silK C o σ K
  | .build .. => silK C o σ K
  | .lookup .. => silK C o σ K
  | .entry _ => silK C o σ K
  | .binOp op t x y _ => if isNilC y then ANil C o.dst op t (opv σ x) σ K else silK C o σ K
  | .alloc t => AAlloc C o.dst t σ K
  | .box t x => if fbB C o.dst = true then AFb C o.dst t (opv σ x) σ K else ABox C o.dst t (opv σ x) σ K
  | .buildSlice t len parts => ABuildSlice C o.dst t len (parts.toList.map fun x => (x.1, opv σ x.2)) σ K
  | .makeSlice t l c => AMake C o.dst t (opv σ l) (opv σ c) σ K
  | .makeMap _ r => (match o.dst, r with
    | some d, none => σ.rts (d, 0) = none ∧ K { (σ.root (d, 0) (.mp [])) with env := upd σ.env d (.mr (d, 0) []) }
    | _, _ => False)
  | .store t a x => (match frzB C a with
    | some d => AFrz C o.dst t d (opv σ x) σ K
    | none => AStore C o.dst t (opv σ a) (opv σ x) σ K)
  | .mapUpdate t m k x => AMapUpd C o.dst t (opv σ m) (opv σ k) (opv σ x) σ K
  | .range t m => ARange C o.dst t (opv σ m) σ K
  | .next x s => ANext o.dst x s σ K
  | .call c => (match c.callee with
    | .builtin b => ABuiltin C o b c.args.toList c.argTypes.toList σ K
    | .value f => (match opv σ f with
      | .d (.fn g caps) => callTo C g (c.args.toList.map (opv σ) ++ caps.map .d) o.dst σ K
      | .cl g caps => callTo C g (c.args.toList.map (opv σ) ++ caps) o.dst σ K
      | _ => False)
    | _ => False)
  | _ => False

def AOpG (C : Ctx) (ops : Array Oper) (o : Oper) (σ : St) (K : St → Prop) : Prop :=
  match o.guard with
  | none => AOp C o σ K
  | some (j, want) => (match (ops[j]?).bind (·.dst) with
    | some t => (match σ.env t with
      | .d (.v (.bool b)) => (b = want → AOp C o σ K) ∧ (b ≠ want → K (σ.set o.dst (.tu [])))
      | .tu [] => K (σ.set o.dst (.tu []))
      | _ => False)
    | none => False)

def AOps (C : Ctx) (ops : Array Oper) : List Oper → St → (St → Prop) → Prop
  | [], σ, K => K σ
  | o :: r, σ, K => AOpG C ops o σ fun σ' => AOps C ops r σ' K

mutual
def ARun (C : Ctx) (ops : Array Oper) : Plan → St → (St → Prop) → Prop
  | .done, σ, K => K σ
  | .take i p, σ, K => (match ops[i]? with
    | some o => AOpG C ops o σ fun σ' => ARun C ops p σ' K
    | none => False)
  | .all ps, σ, K => ARunL C ops ps σ K
def ARunL (C : Ctx) (ops : Array Oper) : List (Nat × Plan) → St → (St → Prop) → Prop
  | [], _, _ => True
  | (i, p) :: r, σ, K => (match ops[i]? with
    | some o => AOpG C ops o σ fun σ' => ARun C ops p σ' K
    | none => False) ∧ ARunL C ops r σ K
end

/-! ### Normal states -/
def addNames (t : Nat) : Nat → List Rn → List (Rn × Rn) → List (Rn × Rn)
  | _, [], acc => acc
  | j, r :: rs, acc => if acc.any (fun x => x.1 == r) then addNames t j rs acc else addNames t (j + 1) rs (acc ++ [(r, (t, j))])
def names (e : Nat → FV) : List Nat → List (Rn × Rn) → List (Rn × Rn)
  | [], acc => acc
  | t :: ks, acc => names e ks (addNames t 0 (e t).roots acc)
def renR (m : List (Rn × Rn)) (r : Rn) : Option Rn :=
  match m with
  | [] => none
  | (o, n) :: l => if o = r then some n else renR l r
mutual
def FV.ren (m : List (Rn × Rn)) : FV → FV
  | .al r p lo n => match renR m r with | some q => .al q p lo n | none => .dead
  | .cu r p n => match renR m r with | some q => .cu q p n | none => .dead
  | .pt r p o => match renR m r with | some q => .pt q p o | none => .dead
  | .ar r p o n => match renR m r with | some q => .ar q p o n | none => .dead
  | .mr r p => match renR m r with | some q => .mr q p | none => .dead
  | .it r s p l c => match renR m r, renR m s with | some q, some x => .it q x p l c | _, _ => .dead
  | .ag fs => .ag (FV.renL m fs)
  | .tu fs => .tu (FV.renL m fs)
  | .cl f fs => .cl f (FV.renL m fs)
  | .fb fs o => .fb (FV.renL m fs) o
  | .d x => .d x
  | .sp cs o => .sp cs o
  | .dead => .dead
def FV.renL (m : List (Rn × Rn)) : List FV → List FV
  | [] => []
  | f :: r => f.ren m :: FV.renL m r
end
def ofRO : List (Rn × Option D) → Rn → Option D
  | [], _ => none
  | (i, f) :: r, t => if i = t then f else ofRO r t
def watchers : Nat → List Nat
  | 0 => []
  | n + 1 => watchers n ++ [1000 + n]
def normWith (m : List (Rn × Rn)) (ks : List Nat) (σ : St) : St :=
  ⟨ofL (ks.map fun t => (t, (σ.env t).ren m)), ofRO (m.map fun x => (x.2, σ.rts x.1))⟩
def norm (C : Ctx) (ks : List Nat) (σ : St) : St :=
  normWith (names σ.env (ks ++ watchers C.nW) []) (ks ++ watchers C.nW) σ

/-! ### Code -/
inductive AEx where
  | normal
  | exit (id : Nat)
  | ret
def AEx.seq (K : St → Prop) (Q : AEx → St → Prop) : AEx → St → Prop
  | .normal, σ => K σ
  | e, σ => Q e σ
def AEx.block (id : Nat) (Q : AEx → St → Prop) : AEx → St → Prop
  | .exit j, σ => if j = id then Q .normal σ else Q (.exit j) σ
  | e, σ => Q e σ

/-! Is an operation one that may be carried out first; may it write? -/
def silB : Op → Bool
  | .move _ => true
  | .assign _ => true
  | .pick .. => true
  | .load .. => true
  | .nilCheck _ => true
  | .fieldAddr .. => true
  | .indexAddr .. => true
  | .binOp _ _ _ y _ => !isNilC y
  | .unOp .. => true
  | .convert .. => true
  | .extract .. => true
  | .slice .. => true
  | .build .. => true
  | .lookup .. => true
  | .call c => (match c.callee with
    | .builtin b => (match b with | .len => true | .max => true | .min => true | _ => false)
    | _ => false)
  | _ => false
def readsB : Op → Bool
  | .load .. => true
  | .entry _ => true
  | .lookup .. => true
  | .call c => (match c.callee with
    | .builtin b => (match b with | .len => true | _ => false)
    | _ => false)
  | _ => false
/-- An operation that surely leaves what lies in memory as it is (it may lay new blocks). -/
def keepsB (M : List (Nat × List Bool)) : Op → Bool
  | .alloc _ => true
  | .box .. => true
  | .buildSlice .. => true
  | .makeSlice .. => true
  | .makeMap .. => true
  | .call c => (match c.callee with
    | .value f => (match f with | .func g => !(aget [] M g).any id | _ => false)
    | .builtin b => (match b with | .len => true | .max => true | .min => true | _ => false)
    | _ => false)
  | op => silB op
def bindsB (e : Edge) : Bool := Region.binds .any e
/-- Number j waits for number i, at once or through others. -/
def waitsB (ops : Array Oper) (i : Nat) : Nat → Nat → Bool
  | 0, _ => false
  | n + 1, j => match ops[j]? with
    | some oj => (oj.after.any fun e => bindsB e && e.on == i) || (oj.after.any fun e => bindsB e && (decide (i < e.on) && waitsB ops i n e.on))
    | none => false
/-- Number i may be taken now: nobody that has not come up and does not wait for it touches what it touches. -/
def freeB (M : List (Nat × List Bool)) (ops : Array Oper) (listed : Array Bool) (i : Nat) : Bool :=
  match ops[i]? with
  | some oi => silB oi.op && (List.range ops.size).all fun j => j == i || listed.getD j true || (match ops[j]? with
    | some oj => (oi.apart ops oj && (!readsB oi.op || keepsB M oj.op)) || waitsB ops i ops.size j
    | none => true)
  | none => false
mutual
def planB (M : List (Nat × List Bool)) (ops : Array Oper) : Plan → Array Bool → Bool
  | .done, listed => (Region.ready .any ops listed).isEmpty
  | .take i p, listed => (Region.ready .any ops listed).contains i && freeB M ops listed i && planB M ops p (listed.setIfInBounds i true)
  | .all ps, listed => (Region.ready .any ops listed == ps.map (·.1)) && !ps.isEmpty && planBL M ops ps listed
def planBL (M : List (Nat × List Bool)) (ops : Array Oper) : List (Nat × Plan) → Array Bool → Bool
  | [], _ => true
  | (i, p) :: r, listed => planB M ops p (listed.setIfInBounds i true) && planBL M ops r listed
end
def Plan.ok (C : Ctx) (ops : Array Oper) (p : Plan) : Prop :=
  planB C.M ops p (Array.replicate ops.size false) = true ∧ Region.noSelect ops = true

/-! ### An empty slice may be held for one that is owned -/
inductive Wk where
  | tmp (t k : Nat)
  | cell (r : Rn) (p : List Nat) (i k : Nat)
def isNil0 : D → Bool
  | .v (.slice none 0 0) => true
  | .ez => true
  | _ => false
def wk1 (σ : St) : Wk → Option St
  | .tmp t k => match σ.env t with
    | .d x => if isNil0 x = true ∧ (σ.rts (t, 0)).isNone = true then some { (σ.root (t, 0) (.ow k 0 [])) with env := upd σ.env t (.al (t, 0) [] 0 0) } else none
    | _ => none
  | .cell r p i k => match σ.obj r p with
    | some o => (match o.cells? with
      | some cs => (match cs[i]? with
        | some x => if isNil0 x = true ∧ (σ.rts (9999, 0)).isNone = true then (σ.root (9999, 0) (.ow k 0 [])).store1 r p i (.al (9999, 0) [] 0 0) else none
        | none => none)
      | none => none)
    | none => none
def wkAll : List Wk → St → Option St
  | [], σ => some σ
  | x :: l, σ => match wk1 σ x with
    | some σ1 => wkAll l σ1
    | none => none

def AWp (C : Ctx) : Code → Nat → (AEx → St → Prop) → St → Prop
  | .skip, _, Q, σ => Q .normal σ
  | .region id ops draw, _, Q, σ =>
    if draw then ∃ p : Plan, p.ok C ops ∧ ARun C ops p σ fun σ' => Q .normal (norm C (aget [] C.kp id) σ')
    else AOps C ops ops.toList σ fun σ' => Q .normal (norm C (aget [] C.kp id) σ')
  | .seq a b, i, Q, σ => AWp C a i (AEx.seq (AWp C b i Q) Q) σ
  | .cond c a b, i, Q, σ => ∃ t : Bool, opv σ c = .d (.v (.bool t)) ∧ (t = true → AWp C a i Q σ) ∧ (t = false → AWp C b i Q σ)
  | .block id c, _, Q, σ => AWp C c id (AEx.block id Q) σ
  | .loop c, i, Q, σ => ∃ (I : St → Prop) (μ : St → Nat), (∃ l σ0, wkAll l (norm C (aget [] C.lp i) σ) = some σ0 ∧ I σ0) ∧
      ∀ σ, I σ → AWp C c i (AEx.seq (fun σ' => ∃ l σ1, wkAll l (norm C (aget [] C.lp i) σ') = some σ1 ∧ I σ1 ∧ μ σ1 < μ σ) Q) σ
  | .exit id, _, Q, σ => Q (.exit id) σ
  | .ret, _, Q, σ => Q .ret σ
  | _, _, _, _ => False

end Go.Proofs.Ytdgeponcnlkaiaa.Ab
