/- What a tree says of memory: shared trees, owned trees with their blocks, places and their headers. No condition. -/
import Derived.Test.YtdgeponcnlkaiaaAbA
namespace Go.Proofs.Ytdgeponcnlkaiaa.Ab
open Go

def baseOf : Value → Option (Nat × Nat)
  | .slice (some ⟨b, o, none⟩) _ _ => some (b, o)
  | .pointer (some ⟨b, o, none⟩) => some (b, o)
  | _ => none

def keyV (k : List Int) : Value := .agg (k.map (Value.int .i64)).toArray

structure MapAt (w : World) (m : Nat) (es : List (List Int × Int)) (en : Array MapEntry) (clock : Nat) : Prop where
  at_ : w.heap[m]? = some (.map en clock)
  kv : en.toList.map (fun e => (e.key, e.val)) = es.map fun x => (keyV x.1, .int .i64 x.2)
  born : ∀ e ∈ en.toList, e.born < clock
  uniq : (en.toList.map (·.born)).Nodup
  keys : (es.map (·.1)).Nodup

mutual
/-- The one-cell value u reads as the tree, through blocks that are ok (which nobody writes). -/
def Sh (w : World) (ok : Nat → Prop) : D → Value → Prop
  | .v x, u => u = x
  | .ez, u => ∃ a, u = .slice a 0 0
  | .sh k n cs, u => ∃ a c, u = .slice a n c ∧ n ≤ c ∧ cs.length = k * n ∧ (cs = [] ∨ ∃ b o, a = some ⟨b, o, none⟩ ∧ ok b ∧ ShL w ok b cs o)
  | .vp cs, u => ∃ b o, u = .pointer (some ⟨b, o, none⟩) ∧ ok b ∧ ShL w ok b cs o
  | .fn f caps, u => ∃ vs, u = .func (.func f) #[] vs ∧ ShV w ok caps vs.toList
  | .ow .., _ => False
  | .bx _, _ => False
  | .mp _, _ => False
  | .itr, _ => False
  | .gone, _ => True
def ShL (w : World) (ok : Nat → Prop) (b : Nat) : List D → Nat → Prop
  | [], _ => True
  | d :: ds, o => (∃ u, w.cell? ⟨b, o, none⟩ = some u ∧ Sh w ok d u) ∧ ShL w ok b ds (o + 1)
def ShV (w : World) (ok : Nat → Prop) : List D → List Value → Prop
  | [], vs => vs = []
  | d :: ds, vs => ∃ u us, vs = u :: us ∧ Sh w ok d u ∧ ShV w ok ds us
end

mutual
/-- The one-cell value u owns the tree: its blocks are fp, no other block of the tree may be written. -/
def Ow (w : World) (ok : Nat → Prop) : D → Value → List Nat → Prop
  | .ow k n cs, u, fp => (n = 0 ∧ cs = [] ∧ fp = [] ∧ ∃ a, u = .slice a 0 0) ∨
      ∃ b o c arr T fp', u = .slice (some ⟨b, o, none⟩) n c ∧ fp = b :: fp' ∧ w.heap[b]? = some (.cells arr T (0, 0)) ∧ (n ≤ c ∧ c ≠ 0) ∧ o + k * c ≤ arr.size ∧
        cs.length = k * n ∧ OwL w ok b cs o fp'
  | .bx cs, u, fp => ∃ b arr T fp', u = .pointer (some ⟨b, 0, none⟩) ∧ fp = b :: fp' ∧ w.heap[b]? = some (.cells arr T (0, 0)) ∧ cs.length ≤ arr.size ∧ OwL w ok b cs 0 fp'
  | .mp es, u, fp => ∃ m en clock, u = .map (some m) ∧ fp = [m] ∧ MapAt w m es en clock
  | .itr, u, fp => ∃ b m s x l, u = .pointer (some ⟨b, 0, none⟩) ∧ fp = [b] ∧ w.heap[b]? = some (.mapIter m s x l)
  | .gone, _, fp => fp = []
  | .v x, u, fp => fp = [] ∧ u = x
  | .ez, u, fp => fp = [] ∧ Sh w ok .ez u
  | .sh k n cs, u, fp => fp = [] ∧ Sh w ok (.sh k n cs) u
  | .vp cs, u, fp => fp = [] ∧ Sh w ok (.vp cs) u
  | .fn f cs, u, fp => fp = [] ∧ Sh w ok (.fn f cs) u
def OwL (w : World) (ok : Nat → Prop) (b : Nat) : List D → Nat → List Nat → Prop
  | [], _, fp => fp = []
  | d :: ds, o, fp => ∃ u f1 f2, w.cell? ⟨b, o, none⟩ = some u ∧ fp = f1 ++ f2 ∧ Ow w ok d u f1 ∧ OwL w ok b ds (o + 1) f2
end

/-- The header of the object at a path. -/
def hdr (w : World) : Value → List Nat → Option Value
  | u, [] => some u
  | u, i :: p => match baseOf u with
    | some (b, o) => (match w.cell? ⟨b, o + i, none⟩ with | some v => hdr w v p | none => none)
    | none => none

/-- u is the part of the slice hv from element lo on, n elements of k cells, with all the room behind it. -/
def SubSl (k : Nat) (hv : Value) (lo n : Nat) (u : Value) : Prop :=
  (lo = 0 ∧ ∃ a N c, hv = .slice a N c ∧ u = .slice a n c) ∨
  (0 < lo ∧ ∃ b o N c, hv = .slice (some ⟨b, o, none⟩) N c ∧ lo + n ≤ c ∧
    ((lo < c ∧ u = .slice (some ⟨b, o + k * lo, none⟩) n (c - lo)) ∨ (lo = c ∧ n = 0 ∧ ∃ a, u = .slice a 0 0)))

mutual
/-- What a temporary's value says. -/
def FR (w : World) (ok : Nat → Prop) (σ : St) (ρ : Rn → Value) : FV → Value → Prop
  | .d x, u => Sh w ok x u
  | .sp cs off, u => ∃ b o, u = .pointer (some ⟨b, o + off, none⟩) ∧ ok b ∧ ShL w ok b cs o
  | .al r p lo n, u => ∃ k N cs hv, σ.obj r p = some (.ow k N cs) ∧ hdr w (ρ r) p = some hv ∧ lo + n ≤ N ∧ SubSl k hv lo n u
  | .cu r p n, u => ∃ k N cs hv a M c, σ.obj r p = some (.ow k N cs) ∧ hdr w (ρ r) p = some hv ∧ n ≤ N ∧ hv = .slice a M c ∧ u = .slice a n n
  | .pt r p off, u => ∃ o cs hv b q, σ.obj r p = some o ∧ o.cells? = some cs ∧ hdr w (ρ r) p = some hv ∧ baseOf hv = some (b, q) ∧ u = .pointer (some ⟨b, q + off, none⟩)
  | .ar r p off n, u => ∃ o cs hv b q c, σ.obj r p = some o ∧ o.cells? = some cs ∧ hdr w (ρ r) p = some hv ∧ baseOf hv = some (b, q) ∧ off + n ≤ cs.length ∧ n ≤ c ∧
      (u = .slice (some ⟨b, q + off, none⟩) n c ∨ (n = 0 ∧ ∃ a, u = .slice a 0 0))
  | .mr r p, u => ∃ es hv, σ.obj r p = some (.mp es) ∧ hdr w (ρ r) p = some hv ∧ u = hv
  | .it r m p rest cur, u => u = ρ r ∧ σ.rts r = some .itr ∧ ∃ b mb es en clock seen, u = .pointer (some ⟨b, 0, none⟩) ∧ w.heap[b]? = some (.mapIter (some mb) clock seen clock) ∧
      σ.obj m p = some (.mp es) ∧ hdr w (ρ m) p = some (.map (some mb)) ∧ MapAt w mb es en clock ∧
      (en.toList.filter fun e => !seen.contains e.born).map (fun e => (e.key, e.val)) = rest.map (fun x => (keyV x.1, Value.int .i64 x.2)) ∧
      (∀ x, cur = some x → ∃ st, seen.back? = some st ∧ ∃ e, en.find? (·.born == st) = some e ∧ e.key = keyV x.1 ∧ e.val = .int .i64 x.2)
  | .ag fs, u => ∃ vs, u = .agg vs ∧ FRL w ok σ ρ fs vs.toList
  | .tu fs, u => ∃ vs, u = .tuple vs ∧ FRL w ok σ ρ fs vs.toList
  | .cl f fs, u => ∃ vs, u = .func (.func f) #[] vs ∧ FRL w ok σ ρ fs vs.toList
  | .fb fs off, u => ∃ b vs, u = .pointer (some ⟨b, off, none⟩) ∧ ok b ∧ (∀ (j : Nat) (v : Value), vs[j]? = some v → w.cell? ⟨b, j, none⟩ = some v) ∧ FRL w ok σ ρ fs vs
  | .dead, _ => True
def FRL (w : World) (ok : Nat → Prop) (σ : St) (ρ : Rn → Value) : List FV → List Value → Prop
  | [], vs => vs = []
  | f :: fs, vs => ∃ u us, vs = u :: us ∧ FR w ok σ ρ f u ∧ FRL w ok σ ρ fs us
end

/-- What a call may have changed: the blocks fp0 and new ones. -/
structure Keeps (w0 : World) (fp0 : List Nat) (w : World) : Prop where
  os : w.os = w0.os
  out : w.output = w0.output
  tape : w.tape = w0.tape
  size : w0.heap.size ≤ w.heap.size
  old : ∀ b, b < w0.heap.size → b ∉ fp0 → w.heap[b]? = w0.heap[b]?

/-- The state and the world belong together. -/
structure Rel (w0 : World) (fp0 : List Nat) (ok : Nat → Prop) (σ : St) (θ : Nat → Value) (w : World) (ρ : Rn → Value) (φ : Rn → List Nat) : Prop where
  own : ∀ r d, σ.rts r = some d → Ow w ok d (ρ r) (φ r) ∧ (φ r).Nodup ∧ ∀ b ∈ φ r, ¬ ok b ∧ (b ∈ fp0 ∨ w0.heap.size ≤ b) ∧ b < w.heap.size
  dis : ∀ r r' d d', r ≠ r' → σ.rts r = some d → σ.rts r' = some d' → ∀ b ∈ φ r, b ∉ φ r'
  env : ∀ t, FR w ok σ ρ (σ.env t) (θ t)
  okb : ∀ b, ok b → b < w.heap.size
  frm : Keeps w0 fp0 w

end Go.Proofs.Ytdgeponcnlkaiaa.Ab
