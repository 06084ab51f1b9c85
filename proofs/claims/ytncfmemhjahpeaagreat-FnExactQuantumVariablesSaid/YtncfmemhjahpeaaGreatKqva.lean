/- The words of an abstract calculus for Go code: values as trees, a frame and a store of owned trees, and what the operations do with them. What a tree says of memory: shared trees, owned trees with their blocks, places and their headers. What a call promises, and the calculus: operations, regions and code over abstract states. Laws of trees in memory: what stays where nothing of a tree is written, sharing, places and what is put there. The store of owned trees: an object taken out of its place, one cell written, and what becomes of places. The frame: what a temporary says is carried over changes of the store; one cell is stored into. One cell is stored into: the state and the world go together. Several cells are stored into; new roots; the frame and the temporaries. What a silent operation yields: types from the table, operands, loads, places, arithmetic. What a load yields: cells of owned trees and of shared ones. What the other silent operations yield: places, parts of slices, arithmetic, structs. What a part of a slice and a built struct are. What a built struct is. Keys of maps that are rows of ints: they are told apart as lists are. Maps: where a key stands; what a lookup yields. Then all silent operations. All silent operations: what they yield, now or later. The machine and the state step together: silent operations, new blocks, stores. New variables, new slices, new maps, stores: sound. make, new maps, stores: sound. No condition. -/
import Derived.Orders
import Derived.Laws.Cells
import Derived.Laws.AppendOwn
import Derived.KernelRfl
import Derived.Laws.BytesArg
import Derived.Below
import Derived.Laws.Slices
import Derived.ChangeKeysEq
import Derived.Laws.StructEq
import Derived.Laws.Tables
import Derived.WideKeyRuns
import Derived.Laws.MakeOwn
set_option linter.unusedVariables false
set_option linter.unusedSimpArgs false
set_option linter.unusedSectionVars false
namespace Go.Proofs.YtncfmemhjahpeaaGreat.Ab
open Go
inductive D where
 | v (x:Value)
 | ez
 | sh (k n:Nat) (cs:List D)
 | vp (cs:List D)
 | fn (f:Nat) (caps:List D)
 | ow (k n:Nat) (cs:List D)
 | bx (cs:List D)
 | mp (es:List (List Int×Int))
 | itr
 | gone
abbrev Rn:=Nat×Nat
inductive FV where
 | d (x:D)
 | sp (cs:List D) (off:Nat)
 | al (r:Rn) (p:List Nat) (lo n:Nat)
 | cu (r:Rn) (p:List Nat) (n:Nat)
 | pt (r:Rn) (p:List Nat) (off:Nat)
 | ar (r:Rn) (p:List Nat) (off n:Nat)
 | mr (r:Rn) (p:List Nat)
 | it (r m:Rn) (p:List Nat) (rest:List (List Int×Int)) (cur:Option (List Int×Int))
 | ag (fs:List FV)
 | tu (fs:List FV)
 | cl (f:Nat) (caps:List FV)
 | fb (fs:List FV) (off:Nat)
 | dead
abbrev D.int (n:Int):D:=.v (.int .i64 n)
abbrev D.bool (b:Bool):D:=.v (.bool b)
abbrev FV.int (n:Int):FV:=.d (.v (.int .i64 n))
abbrev FV.bool (b:Bool):FV:=.d (.v (.bool b))
structure St where
 env:Nat->FV
 rts:Rn->Option D
inductive TK where
 | int (k:IntKind) | bool | str | sl (e:Nat) | arr (n e:Nat) | st (fs:List (Nat×Nat)) | map (k e:Nat) | other
structure TI where
 kd:TK
 size:Nat
 bytes:Nat
 zero:List Value
abbrev TT:=List (Nat×TI)
def bH:TT->Nat->Option TI
 | [],_=>none
 | (i,x) :: r,t=>if i=t then some x else bH r t
def mA (T:TT) (t:Nat):Option Nat:=match bH T t with | some i=>some i.size | none=>none
def D.cells?:D->Option (List D)
 | .ow _ _ cs=>some cs
 | .bx cs=>some cs
 | _=>none
def D.setCells:D->List D->D
 | .ow k n _,cs=>.ow k n cs
 | .bx _,cs=>.bx cs
 | d,_=>d
def D.leaf:D->Bool
 | .v x=>x.oneCell'
 | .ez=>true
 | .sh ..=>true
 | .vp _=>true
 | .fn ..=>true
 | _=>false
def bw:D->List Nat->Option D
 | d,[]=>some d
 | d,i :: p=>match d.cells? with
  | some cs=>(match cs[i]? with | some x=>bw x p | none=>none)
  | none=>none
def c5:D->List Nat->D->D
 | _,[],e=>e
 | d,i :: p,e=>match d.cells? with
  | some cs=>d.setCells (cs.modify i fun x=>c5 x p e)
  | none=>d
def St.obj (σ:St) (r:Rn) (p:List Nat):Option D:=match σ.rts r with | some d=>bw d p | none=>none
def St.put (σ:St) (r:Rn) (p:List Nat) (e:D):St:=
 match σ.rts r with
 | some d=>{ σ with rts:=fun q=>if q=r then some (c5 d p e) else σ.rts q }
 | none=>σ
mutual
def eX:D->D
 | .ow k n cs=>.sh k n (shareL cs)
 | .bx cs=>.vp (shareL cs)
 | .sh k n cs=>.sh k n cs
 | .vp cs=>.vp cs
 | .mp _=>.gone
 | .itr=>.gone
 | d=>d
def shareL:List D->List D
 | []=>[]
 | d :: r=>eX d :: shareL r
end
def upd {α:Type} (e:Nat->α) (t:Nat) (f:α):Nat->α:=fun s=>if s=t then f else e s
def St.set (σ:St) (d:Option Nat) (f:FV):St:=
 match d with
 | some t=>{ σ with env:=upd σ.env t f }
 | none=>σ
def ofL:List (Nat×FV)->Nat->FV
 | [],_=>.dead
 | (i,f) :: r,t=>if i=t then f else ofL r t
def ofR:List (Rn×D)->Rn->Option D
 | [],_=>none
 | (i,f) :: r,t=>if i=t then some f else ofR r t
mutual
def FV.roots:FV->List Rn
 | .al r _ _ _=>[r]
 | .cu r _ _=>[r]
 | .pt r _ _=>[r]
 | .ar r _ _ _=>[r]
 | .mr r _=>[r]
 | .it r m _ _ _=>[r,m]
 | .ag fs=>FV.rootsL fs
 | .tu fs=>FV.rootsL fs
 | .cl _ fs=>FV.rootsL fs
 | .fb fs _=>FV.rootsL fs
 | .d _=>[]
 | .sp _ _=>[]
 | .dead=>[]
def FV.rootsL:List FV->List Rn
 | []=>[]
 | f :: r=>f.roots ++ FV.rootsL r
end
structure Mv where
 r:Rn
 p:List Nat
 r':Rn
 p':List Nat
def ix:List Nat->List Nat->Option (List Nat)
 | [],q=>some q
 | i :: p,j :: q=>if i=j then ix p q else none
 | _ :: _,[]=>none
def Mv.place (m:Mv) (r:Rn) (p:List Nat):Rn×List Nat:=
 if r=m.r then (match ix m.p p with | some q=>(m.r',m.p' ++ q) | none=>(r,p)) else (r,p)
mutual
def FV.move (m:Mv):FV->FV
 | .al r p lo n=>.al (m.place r p).1 (m.place r p).2 lo n
 | .cu r p n=>.cu (m.place r p).1 (m.place r p).2 n
 | .pt r p o=>.pt (m.place r p).1 (m.place r p).2 o
 | .ar r p o n=>.ar (m.place r p).1 (m.place r p).2 o n
 | .mr r p=>.mr (m.place r p).1 (m.place r p).2
 | .it r x p l c=>.it r (m.place x p).1 (m.place x p).2 l c
 | .ag fs=>.ag (FV.moveL m fs)
 | .tu fs=>.tu (FV.moveL m fs)
 | .cl f fs=>.cl f (FV.moveL m fs)
 | .fb fs o=>.fb (FV.moveL m fs) o
 | .d x=>.d x
 | .sp cs o=>.sp cs o
 | .dead=>.dead
def FV.moveL (m:Mv):List FV->List FV
 | []=>[]
 | f :: r=>f.move m :: FV.moveL m r
end
def cj:List Nat->List Nat->Bool
 | [],_=>true
 | i :: p,j :: q=>if i=j then cj p q else false
 | _ :: _,[]=>false
mutual
def FV.under (r:Rn) (p:List Nat):FV->Bool
 | .al q s _ _=>if q=r then cj p s else false
 | .cu q s _=>if q=r then cj p s else false
 | .pt q s _=>if q=r then cj p s else false
 | .ar q s _ _=>if q=r then cj p s else false
 | .mr q s=>if q=r then cj p s else false
 | .it q m s _ _=>if q=r then true else if m=r then cj p s else false
 | .ag fs=>FV.underL r p fs
 | .tu fs=>FV.underL r p fs
 | .cl _ fs=>FV.underL r p fs
 | .fb fs _=>FV.underL r p fs
 | .d _=>false
 | .sp _ _=>false
 | .dead=>false
def FV.underL (r:Rn) (p:List Nat):List FV->Bool
 | []=>false
 | f :: l=>f.under r p || FV.underL r p l
end
def St.kill (σ:St) (r:Rn) (p:List Nat):St:=
 { σ with env:=fun t=>if (σ.env t).under r p then .dead else σ.env t }
def iZ (r:Rn) (p:List Nat) (q:Rn) (s:List Nat):Bool:=if q=r then (match ix p s with | some (_ :: _)=>true | _=>false) else false
mutual
def FV.deep (r:Rn) (p:List Nat):FV->Bool
 | .al q s _ _=>iZ r p q s
 | .cu q s _=>iZ r p q s
 | .pt q s _=>iZ r p q s
 | .ar q s _ _=>iZ r p q s
 | .mr q s=>iZ r p q s
 | .it _ _ _ _ _=>true
 | .ag fs=>FV.deepL r p fs
 | .tu fs=>FV.deepL r p fs
 | .cl _ fs=>FV.deepL r p fs
 | .fb fs _=>FV.deepL r p fs
 | .d _=>false
 | .sp _ _=>false
 | .dead=>false
def FV.deepL (r:Rn) (p:List Nat):List FV->Bool
 | []=>false
 | f :: l=>f.deep r p || FV.deepL r p l
end
def St.killBelow (σ:St) (r:Rn) (p:List Nat):St:=
 { σ with env:=fun t=>if (σ.env t).deep r p then .dead else σ.env t }
def St.take (σ:St) (r:Rn) (p:List Nat):St:=
 match p with
 | []=>{ σ with rts:=fun q=>if q=r then none else σ.rts q }
 | _ :: _=>σ.put r p .gone
def St.absorb (σ:St) (f:FV) (r':Rn) (p':List Nat):Option (D×St):=
 match f with
 | .d x=>if x.leaf then some (x,σ) else none
 | .al r p lo n=>match σ.obj r p with
  | some (.ow k N cs)=>if lo=0/\n=N then
    some (.ow k N cs,{ (σ.take r p) with env:=fun t=>(σ.env t).move ⟨r,p,r',p'⟩ }) else none
  | _=>none
 | .pt r p o=>match σ.obj r p with
  | some (.bx cs)=>if o=0 then some (.bx cs,{ (σ.take r p) with env:=fun t=>(σ.env t).move ⟨r,p,r',p'⟩ }) else none
  | _=>none
 | .mr r p=>match σ.obj r p with
  | some (.mp es)=>some (.mp es,{ (σ.take r p) with env:=fun t=>(σ.env t).move ⟨r,p,r',p'⟩ })
  | _=>none
 | _=>none
def FV.atoms:FV->List FV
 | .ag fs=>fs
 | f=>[f]
def gZ:Value->Option (Nat×Nat)
 | .slice (some ⟨b,o,none⟩) _ _=>some (b,o)
 | .pointer (some ⟨b,o,none⟩)=>some (b,o)
 | _=>none
def eO (k:List Int):Value:=.agg (k.map (Value.int .i64)).toArray
structure jW (w:World) (m:Nat) (es:List (List Int×Int)) (en:Array MapEntry) (clock:Nat):Prop where
 at_:w.heap[m]? = some (.map en clock)
 kv:en.toList.map (fun e=>(e.key,e.val))=es.map fun x=>(eO x.1,.int .i64 x.2)
 born:∀ e∈en.toList,e.born < clock
 uniq:(en.toList.map (·.born)).Nodup
 keys:(es.map (·.1)).Nodup
mutual
def Sh (w:World) (ok:Nat->Prop):D->Value->Prop
 | .v x,u=>u=x
 | .ez,u=>∃ a,u = .slice a 0 0
 | .sh k n cs,u=>∃ a c,u = .slice a n c/\n<=c/\cs.length=k*n/\(cs=[]\/∃ b o,a=some ⟨b,o,none⟩/\ok b/\ShL w ok b cs o)
 | .vp cs,u=>∃ b o,u = .pointer (some ⟨b,o,none⟩)/\ok b/\ShL w ok b cs o
 | .fn f caps,u=>∃ vs,u = .func (.func f) #[] vs/\ShV w ok caps vs.toList
 | .ow ..,_=>False
 | .bx _,_=>False
 | .mp _,_=>False
 | .itr,_=>False
 | .gone,_=>True
def ShL (w:World) (ok:Nat->Prop) (b:Nat):List D->Nat->Prop
 | [],_=>True
 | d :: ds,o=>(∃ u,w.cell? ⟨b,o,none⟩ = some u/\Sh w ok d u)/\ShL w ok b ds (o+1)
def ShV (w:World) (ok:Nat->Prop):List D->List Value->Prop
 | [],vs=>vs=[]
 | d :: ds,vs=>∃ u us,vs=u :: us/\Sh w ok d u/\ShV w ok ds us
end
mutual
def Ow (w:World) (ok:Nat->Prop):D->Value->List Nat->Prop
 | .ow k n cs,u,fp=>(n=0/\cs=[]/\fp=[]/\∃ a,u = .slice a 0 0) \/
   ∃ b o c arr T fp',u = .slice (some ⟨b,o,none⟩) n c/\fp=b :: fp'/\w.heap[b]? = some (.cells arr T (0,0))/\(n<=c/\c≠0)/\o+k*c<=arr.size /\
    cs.length=k*n/\OwL w ok b cs o fp'
 | .bx cs,u,fp=>∃ b arr T fp',u = .pointer (some ⟨b,0,none⟩)/\fp=b :: fp'/\w.heap[b]? = some (.cells arr T (0,0))/\cs.length<=arr.size/\OwL w ok b cs 0 fp'
 | .mp es,u,fp=>∃ m en clock,u = .map (some m)/\fp=[m]/\jW w m es en clock
 | .itr,u,fp=>∃ b m s x l,u = .pointer (some ⟨b,0,none⟩)/\fp=[b]/\w.heap[b]? = some (.mapIter m s x l)
 | .gone,_,fp=>fp=[]
 | .v x,u,fp=>fp=[]/\u=x
 | .ez,u,fp=>fp=[]/\Sh w ok .ez u
 | .sh k n cs,u,fp=>fp=[]/\Sh w ok (.sh k n cs) u
 | .vp cs,u,fp=>fp=[]/\Sh w ok (.vp cs) u
 | .fn f cs,u,fp=>fp=[]/\Sh w ok (.fn f cs) u
def OwL (w:World) (ok:Nat->Prop) (b:Nat):List D->Nat->List Nat->Prop
 | [],_,fp=>fp=[]
 | d :: ds,o,fp=>∃ u f1 f2,w.cell? ⟨b,o,none⟩ = some u/\fp=f1 ++ f2/\Ow w ok d u f1/\OwL w ok b ds (o+1) f2
end
def hdr (w:World):Value->List Nat->Option Value
 | u,[]=>some u
 | u,i :: p=>match gZ u with
  | some (b,o)=>(match w.cell? ⟨b,o+i,none⟩ with | some v=>hdr w v p | none=>none)
  | none=>none
def Hh (k:Nat) (hv:Value) (lo n:Nat) (u:Value):Prop:=
 (lo=0/\∃ a N c,hv = .slice a N c/\u = .slice a n c) \/
 (0 < lo/\∃ b o N c,hv = .slice (some ⟨b,o,none⟩) N c/\lo+n<=c /\
  ((lo < c/\u = .slice (some ⟨b,o+k*lo,none⟩) n (c - lo))\/(lo=c/\n=0/\∃ a,u = .slice a 0 0)))
mutual
def FR (w:World) (ok:Nat->Prop) (σ:St) (ρ:Rn->Value):FV->Value->Prop
 | .d x,u=>Sh w ok x u
 | .sp cs off,u=>∃ b o,u = .pointer (some ⟨b,o+off,none⟩)/\ok b/\ShL w ok b cs o
 | .al r p lo n,u=>∃ k N cs hv,σ.obj r p=some (.ow k N cs)/\hdr w (ρ r) p=some hv/\lo+n<=N/\Hh k hv lo n u
 | .cu r p n,u=>∃ k N cs hv a M c,σ.obj r p=some (.ow k N cs)/\hdr w (ρ r) p=some hv/\n<=N/\hv = .slice a M c/\u = .slice a n n
 | .pt r p off,u=>∃ o cs hv b q,σ.obj r p=some o/\o.cells? = some cs/\hdr w (ρ r) p=some hv/\gZ hv=some (b,q)/\u = .pointer (some ⟨b,q+off,none⟩)
 | .ar r p off n,u=>∃ o cs hv b q c,σ.obj r p=some o/\o.cells? = some cs/\hdr w (ρ r) p=some hv/\gZ hv=some (b,q)/\off+n<=cs.length/\n<=c /\
   (u = .slice (some ⟨b,q+off,none⟩) n c\/(n=0/\∃ a,u = .slice a 0 0))
 | .mr r p,u=>∃ es hv,σ.obj r p=some (.mp es)/\hdr w (ρ r) p=some hv/\u=hv
 | .it r m p rest cur,u=>u=ρ r/\σ.rts r=some .itr/\∃ b mb es en clock seen,u = .pointer (some ⟨b,0,none⟩)/\w.heap[b]? = some (.mapIter (some mb) clock seen clock) /\
   σ.obj m p=some (.mp es)/\hdr w (ρ m) p=some (.map (some mb))/\jW w mb es en clock /\
   (en.toList.filter fun e=>!seen.contains e.born).map (fun e=>(e.key,e.val))=rest.map (fun x=>(eO x.1,Value.int .i64 x.2)) /\
   (∀ x,cur=some x->∃ st,seen.back? = some st/\∃ e,en.find? (·.born == st)=some e/\e.key=eO x.1/\e.val = .int .i64 x.2)
 | .ag fs,u=>∃ vs,u = .agg vs/\FRL w ok σ ρ fs vs.toList
 | .tu fs,u=>∃ vs,u = .tuple vs/\FRL w ok σ ρ fs vs.toList
 | .cl f fs,u=>∃ vs,u = .func (.func f) #[] vs/\FRL w ok σ ρ fs vs.toList
 | .fb fs off,u=>∃ b vs,u = .pointer (some ⟨b,off,none⟩)/\ok b/\(∀ (j:Nat) (v:Value),vs[j]? = some v->w.cell? ⟨b,j,none⟩ = some v)/\FRL w ok σ ρ fs vs
 | .dead,_=>True
def FRL (w:World) (ok:Nat->Prop) (σ:St) (ρ:Rn->Value):List FV->List Value->Prop
 | [],vs=>vs=[]
 | f :: fs,vs=>∃ u us,vs=u :: us/\FR w ok σ ρ f u/\FRL w ok σ ρ fs us
end
structure de (w0:World) (fp0:List Nat) (w:World):Prop where
 os:w.os=w0.os
 out:w.output=w0.output
 tape:w.tape=w0.tape
 drawn:w0.drawn<=w.drawn
 size:w0.heap.size<=w.heap.size
 old:∀ b,b < w0.heap.size->b ∉ fp0->w.heap[b]? = w0.heap[b]?
structure Rel (w0:World) (fp0:List Nat) (ok:Nat->Prop) (σ:St) (θ:Nat->Value) (w:World) (ρ:Rn->Value) (φ:Rn->List Nat):Prop where
 own:∀ r d,σ.rts r=some d->Ow w ok d (ρ r) (φ r)/\(φ r).Nodup/\∀ b∈φ r,¬ ok b/\(b∈fp0\/w0.heap.size<=b)/\b < w.heap.size
 dis:∀ r r' d d',r≠r'->σ.rts r=some d->σ.rts r'=some d'->∀ b∈φ r,b ∉ φ r'
 env:∀ t,FR w ok σ ρ (σ.env t) (θ t)
 okb:∀ b,ok b->b < w.heap.size
 frm:de w0 fp0 w
inductive RV where
 | one (d:D)
 | ag (ds:List D)
def bO (w:World) (ok:Nat->Prop):List D->List Value->List Nat->Prop
 | [],vs,fp=>vs=[]/\fp=[]
 | d :: ds,vs,fp=>∃ u us f1 f2,vs=u :: us/\fp=f1 ++ f2/\Ow w ok d u f1/\bO w ok ds us f2
def j9 (w:World) (ok:Nat->Prop):RV->Value->List Nat->Prop
 | .one d,u,fp=>Ow w ok d u fp
 | .ag ds,u,fp=>∃ vs,u = .agg vs/\bO w ok ds vs.toList fp
def fj (w:World) (ok:Nat->Prop):List RV->List Value->List Nat->Prop
 | [],vs,fp=>vs=[]/\fp=[]
 | d :: ds,vs,fp=>∃ u us f1 f2,vs=u :: us/\fp=f1 ++ f2/\j9 w ok d u f1/\fj w ok ds us f2
def j7:List Value->Value
 | [v]=>v
 | vs=>.tuple vs.toArray
def ng (P : Program) (f : FuncId) : Prop := ∃ fn c, P.funcs[f]? = some fn ∧ fn.body = some c ∧ (fn.name == "runtime.NumGoroutine") = false
structure qr (w:World) (ok:Nat->Prop) (ρ:Rn->Value) (fp0:List Nat) (names:List Rn) (pure:Bool) (outs:List D) (res:List RV) (v:Value) (w':World)
  (ok':Nat->Prop) (φ:Rn->List Nat) (fr:List Nat):Prop where
 len:outs.length=names.length
 out:∀ r d,ofR (names.zip outs) r=some d->Ow w' (if pure then fun _=>False else ok') d (ρ r) (φ r)/\(φ r).Nodup/\∀ b∈φ r,¬ ok' b/\(b∈fp0\/w.heap.size<=b)/\b < w'.heap.size
 dis:∀ r r' d d',r≠r'->ofR (names.zip outs) r=some d->ofR (names.zip outs) r'=some d'->∀ b∈φ r,b ∉ φ r'
 res:∃ vs,v=j7 vs/\fj w' (if pure then fun _=>False else ok') res vs fr
 nod:fr.Nodup
 bl:∀ b∈fr,¬ ok' b/\(b∈fp0\/w.heap.size<=b)/\b < w'.heap.size
 disr:∀ r d,ofR (names.zip outs) r=some d->∀ b∈φ r,b ∉ fr
 frm:de w fp0 w'
 okm:∀ b,ok b->ok' b
 okn:∀ b,ok' b->(ok b\/w.heap.size<=b)/\b < w'.heap.size
def fL (args:List FV):Nat->FV:=fun t=>args.getD t .dead
def af (P:Program) (f:FuncId) (args:List FV) (ros:List (Rn×D)) (pure:Bool) (Q:List D->List RV->Prop):Prop:=
 ng P f/\∀ (w:World) (fp0:List Nat) (ok:Nat->Prop) (vs:List Value) (ρ:Rn->Value) (φ:Rn->List Nat),vs.length=args.length ->
  Rel w fp0 ok ⟨fL args,ofR ros⟩ (fun t=>vs.getD t undef) w ρ φ ->
  Calls P f vs.toArray w fun e w'=>∃ v outs res ok' φ' fr,e = .returned v/\Q outs res/\qr w ok ρ fp0 (ros.map (·.1)) pure outs res v w' ok' φ' fr
def sr:Value->FV
 | .agg cs=>.ag (cs.toList.map fun x=>.d (.v x))
 | x=>.d (.v x)
def u8s:List D->Option (List Int)
 | []=>some []
 | .v (.int .u8 n) :: r=>(match u8s r with | some l=>some (n :: l) | none=>none)
 | _ :: _=>none
def opv (σ:St):Operand->FV
 | .tmp t=>σ.env t
 | .const v=>sr v
 | .global _=>.dead
 | .func f=>.d (.fn f [])
def ge (r:Rn) (p:List Nat) (i:Nat):D->FV
 | .ow _ n _=>.al r (p ++ [i]) 0 n
 | .bx _=>.pt r (p ++ [i]) 0
 | .mp _=>.mr r (p ++ [i])
 | .gone=>.dead
 | .itr=>.dead
 | x=>.d x
def mz (cs:List D) (off:Nat):Nat->Option (List D)
 | 0=>some []
 | n+1=>match cs[off]? with
  | some c=>(match mz cs (off+1) n with | some r=>some (c :: r) | none=>none)
  | none=>none
def jd (g:Nat->D->FV):Nat->List D->List FV
 | _,[]=>[]
 | i,c :: r=>g i c :: jd g (i+1) r
def cQ:TK->Bool
 | .arr _ _=>true
 | .st _=>true
 | _=>false
def rQ (fs:List FV) (off:Nat):Nat->Option (List FV)
 | 0=>some []
 | n+1=>match fs[off]? with
  | some c=>(match rQ fs (off+1) n with | some r=>some (c :: r) | none=>none)
  | none=>none
def vI (T:TT) (σ:St) (t:Nat) (a:FV):Option FV:=
 match bH T t with
 | none=>none
 | some i=>
  match a with
  | .pt r p off=>(match σ.obj r p with
   | some o=>(match o.cells? with
    | some cs=>(match mz cs off i.size with
     | some l=>if cQ i.kd then some (.ag (jd (ge r p) off l)) else (match l with | [c]=>some (ge r p off c) | _=>none)
     | none=>none)
    | none=>none)
   | none=>none)
  | .sp cs off=>(match mz cs off i.size with
   | some l=>if cQ i.kd then some (.ag (l.map .d)) else (match l with | [c]=>some (.d c) | _=>none)
   | none=>none)
  | .d (.vp cs)=>(match mz cs 0 i.size with
   | some l=>if cQ i.kd then some (.ag (l.map .d)) else (match l with | [c]=>some (.d c) | _=>none)
   | none=>none)
  | .fb fs off=>(match rQ fs off i.size with
   | some l=>if cQ i.kd then some (.ag l) else (match l with | [c]=>some c | _=>none)
   | none=>none)
  | _=>none
def pN (T:TT) (t f:Nat):Option Nat:=
 match bH T t with
 | some i=>(match i.kd with
  | .st fs=>(match fs[f]? with
   | some (off,ft)=>(match bH T ft with | some j=>if j.size=0 then none else some off | none=>none)
   | none=>none)
  | _=>none)
 | none=>none
def oJ (a:FV) (n:Nat):Option FV:=
 match a with
 | .pt r p off=>some (.pt r p (off+n))
 | .sp cs off=>some (.sp cs (off+n))
 | .d (.vp cs)=>some (.sp cs n)
 | .fb fs o=>some (.fb fs (o+n))
 | _=>none
def vF (T:TT) (t f:Nat) (x:FV):Option FV:=
 match bH T t,x with
 | some i,.ag l=>(match i.kd with
  | .st fs=>(match fs[f]? with
   | some (off,ft)=>(match bH T ft with | some j=>if cQ j.kd=false then l[off]? else none | none=>none)
   | none=>none)
  | _=>none)
 | _,_=>none
def St.kOf (σ:St) (r:Rn) (p:List Nat):Nat:=match σ.obj r p with | some (.ow k _ _)=>k | _=>0
def St.nOf (σ:St) (r:Rn) (p:List Nat):Nat:=match σ.obj r p with | some o=>(match o.cells? with | some cs=>cs.length | none=>0) | none=>0
def vy (T:TT) (σ:St) (t:Nat) (a i:FV):Option (Prop×FV):=
 match bH T t,i with
 | some ti,.d (.v (.int _ x))=>(match ti.kd with
  | .sl e=>(match mA T e with
   | some k=>(match a with
    | .al r p lo n=>if σ.kOf r p=k then some (0<=x/\x < n,.pt r p (k*(lo+x.toNat))) else none
    | .ar r p off n=>if k=1 then some (0<=x/\x < n,.pt r p (off+x.toNat)) else none
    | .d (.sh k' n cs)=>if k'=k/\0 < k then some (0<=x/\x < n,.sp cs (k*x.toNat)) else none
    | _=>none)
   | none=>none)
  | .arr n e=>(match mA T e with
   | some k=>(match oJ a (k*x.toNat) with
    | some f=>some (0<=x/\x < n,f)
    | none=>none)
   | none=>none)
  | _=>none)
 | _,_=>none
def un (op:BinOp) (k:IntKind) (x y:Int):Option Int:=
 match op with
 | .and=>some (k.wrap (BitVec.ofInt k.bits x &&& BitVec.ofInt k.bits y).toNat)
 | .or=>some (k.wrap (BitVec.ofInt k.bits x ||| BitVec.ofInt k.bits y).toNat)
 | .xor=>some (k.wrap (BitVec.ofInt k.bits x ^^^ BitVec.ofInt k.bits y).toNat)
 | _=>none
def uT (op:BinOp) (k:IntKind) (a b:Int):Option (Prop×Value):=
 match op with
 | .add=>some (True,.int k (k.wrap (a+b)))
 | .sub=>some (True,.int k (k.wrap (a - b)))
 | .mul=>some (True,.int k (k.wrap (a*b)))
 | .quo=>some (b≠0,.int k (k.wrap (a.tdiv b)))
 | .rem=>some (b≠0,.int k (a.tmod b))
 | .eql=>some (True,.bool (a == b))
 | .neq=>some (True,.bool (a != b))
 | .lss=>some (True,.bool (decide (a < b)))
 | .leq=>some (True,.bool (decide (a<=b)))
 | .gtr=>some (True,.bool (decide (a > b)))
 | .geq=>some (True,.bool (decide (a ≥ b)))
 | .and=>match un .and k a b with | some n=>some (True,.int k n) | none=>none
 | .or=>match un .or k a b with | some n=>some (True,.int k n) | none=>none
 | .xor=>match un .xor k a b with | some n=>some (True,.int k n) | none=>none
 | .shr=>some (0<=b,.int k (a.fdiv (2 ^ (min b.toNat k.bits))))
 | .shl=>some (0<=b,.int k (k.wrap (a*2 ^ (min b.toNat k.bits))))
 | _=>none
def pq (op:BinOp) (k:IntKind) (a b:Int):Option (Prop×Value):=
 match op with
 | .shr=>some (0<=b,.int k (a.fdiv (2 ^ (min b.toNat k.bits))))
 | .shl=>some (0<=b,.int k (k.wrap (a*2 ^ (min b.toNat k.bits))))
 | _=>none
def Cp (T:TT) (op:BinOp) (t:Nat) (x y:FV):Option (Prop×FV):=
 match x,y with
 | .d (.v (.int k a)),.d (.v (.int k' b))=>if k=k' then (match uT op k a b with | some (c,v)=>some (c,.d (.v v)) | none=>none) else (match pq op k a b with | some (c,v)=>some (c,.d (.v v)) | none=>none)
 | .d (.v (.bool a)),.d (.v (.bool b))=>(match bH T t with
  | some i=>(match i.kd with
   | .bool=>(match op with
    | .eql=>some (True,.bool (a == b))
    | .neq=>some (True,.bool (!(a == b)))
    | _=>none)
   | _=>none)
  | none=>none)
 | .d (.v (.string a)),.d (.v (.string b))=>(match op with
  | .add=>some (((a.size+b.size:Nat):Int)<=9223372036854775807,.d (.v (.string (a ++ b))))
  | .eql=>some (True,.bool (a.toList == b.toList))
  | .neq=>some (True,.bool (!(a.toList == b.toList)))
  | _=>none)
 | .ag [.d (.v (.int .i64 a)),.d (.v (.int .i64 b))],.ag [.d (.v (.int .i64 c)),.d (.v (.int .i64 e))]=>(match bH T t with
  | some i=>(match i.kd with
   | .st [(0,t1),(1,t2)]=>(match bH T t1,bH T t2 with
    | some i1,some i2=>(match i1.kd,i2.kd with
     | .int _,.int _=>(match op with
      | .eql=>some (True,.bool (a == c && b == e))
      | .neq=>some (True,.bool (!(a == c && b == e)))
      | _=>none)
     | _,_=>none)
    | _,_=>none)
   | _=>none)
  | none=>none)
 | _,_=>none
def ly (lo hi:Option FV) (n:Nat):Option (Prop×Nat×Nat):=
 match lo,hi with
 | none,none=>some (True,0,n)
 | some (.d (.v (.int _ l))),none=>some (0<=l/\l<=n,l.toNat,n)
 | none,some (.d (.v (.int _ h)))=>some (0<=h/\h<=n,0,h.toNat)
 | some (.d (.v (.int _ l))),some (.d (.v (.int _ h)))=>some (0<=l/\l<=h/\h<=n,l.toNat,h.toNat)
 | _,_=>none
def kV:Option Operand->Bool
 | some (.const (.int _ 0))=>true
 | _=>false
def vi (T:TT) (σ:St) (t:Nat) (a:FV) (lo hi mx:Option Operand) (l h m:Option FV):Option (Prop×FV):=
 match bH T t with
 | none=>none
 | some ti=>
  match ti.kd with
  | .sl e=>(match mA T e with
   | none=>none
   | some k=>
    (match kV mx,kV lo,kV hi,a with
    | true,true,true,.al ..=>some (True,.d .ez)
    | true,true,true,.d (.sh ..)=>some (True,.d .ez)
    | _,_,_,_=>
     (match a with
     | .al r p lo0 n=>if σ.kOf r p=k then (match ly l h n with
      | some (c,x,y)=>(match m with
       | none=>some (c,.al r p (lo0+x) (y - x))
       | some (.d (.v (.int _ z)))=>if lo0=0/\l.isNone/\h.isSome then some (c/\(y:Int)=z,.cu r p y) else none
       | _=>none)
      | none=>none) else none
     | .d (.sh k' n cs)=>(match m,ly l h n with
      | none,some (c,x,y)=>if k'=k then some (c,.d (.sh k (y - x) ((cs.drop (k*x)).take (k*(y - x))))) else none
      | _,_=>none)
     | _=>none)))
  | .arr n e=>(match mA T e,m with
   | some k,none=>if k=1 then
     (match ly l h n with
     | some (c,x,y)=>(match a with
      | .pt r p off=>some (c/\off+n<=σ.nOf r p,.ar r p (off+x) (y - x))
      | _=>none)
     | none=>none) else none
   | _,_=>none)
  | _=>none
def jo (l:List FV) (off:Nat):List FV->List FV
 | []=>l
 | f :: r=>jo (l.set off f) (off+1) r
def FV.whole:FV->Bool
 | .d x=>x.leaf
 | .al ..=>true
 | .cu ..=>true
 | .pt ..=>true
 | .ar ..=>true
 | .mr ..=>true
 | .sp ..=>true
 | .cl ..=>true
 | .ag _=>true
 | _=>false
def nA (place:Nat->Option (Nat×Nat)) (l:List FV):List (Nat×FV)->Option (List FV)
 | []=>some l
 | (i,f) :: r=>match place i with
  | some (off,size)=>if f.whole=true/\f.atoms.length=size/\off+size<=l.length then nA place (jo l off f.atoms) r else none
  | none=>none
def su (T:TT) (fs:List (Nat×Nat)) (i:Nat):Option (Nat×Nat):=
 match fs[i]? with
 | some (off,ft)=>(match bH T ft with | some j=>some (off,j.size) | none=>none)
 | none=>none
def vx (T:TT) (t:Nat) (parts:List (Nat×FV)):Option FV:=
 match bH T t with
 | some ti=>(match ti.kd with
  | .st fs=>(match nA (su T fs) (ti.zero.map fun z=>.d (.v z)) parts with | some l=>some (.ag l) | none=>none)
  | _=>none)
 | none=>none
def BQ:FV->Option Nat
 | .al _ _ _ n=>some n
 | .cu _ _ n=>some n
 | .ar _ _ _ n=>some n
 | .d (.sh _ n _)=>some n
 | .d .ez=>some 0
 | .d (.v (.slice none 0 0))=>some 0
 | _=>none
def dQ (k:List Int):List (List Int×Int)->Option Int
 | []=>none
 | x :: r=>if x.1=k then some x.2 else dQ k r
def iS (k:List Int) (v:Int):List (List Int×Int)->List (List Int×Int)
 | []=>[(k,v)]
 | x :: r=>if x.1=k then (k,v) :: r else x :: iS k v r
def iL (k:List Int):List (List Int×Int)->List (List Int×Int)
 | []=>[]
 | x :: r=>if x.1=k then r else x :: iL k r
def i9:List FV->Option (List Int)
 | []=>some []
 | .d (.v (.int .i64 n)) :: r=>(match i9 r with | some l=>some (n :: l) | none=>none)
 | _=>none
def jE (T:TT):List (Nat×Nat)->Nat->Nat->Bool
 | [],o,n=>o == n
 | f :: fs,o,n=>f.1 == o && (match bH T f.2 with | some j=>jE T fs (o+j.size) n | none=>false)
def dP (T:TT):Nat->Nat->Bool
 | 0,_=>false
 | d+1,t=>match bH T t with
  | some i=>(match i.kd with
   | .int .i64=>i.size == 1
   | .arr n e=>(match bH T e with | some j=>i.size == n*j.size && j.size != 0 | none=>false) && dP T d e
   | .st fs=>jE T fs 0 i.size && fs.all fun f=>dP T d f.2
   | _=>false)
  | none=>false
def kB (n:Nat) (es:List (List Int×Int)):Prop:=∀ x∈es,x.1.length=n
def jV (T:TT) (t:Nat):Option Nat:=
 match bH T t with
 | some i=>(match i.kd with
  | .map k e=>(match bH T k,bH T e with
   | some ki,some ei=>(match ei.kd,ei.zero with
    | .int .i64,[.int .i64 0]=>if dP T 4 k && cQ ki.kd then some ki.size else none
    | _,_=>none)
   | _,_=>none)
  | _=>none)
 | none=>none
def sy (T:TT) (σ:St) (b:Builtin) (args:List Operand) (tys:List Nat):Option (Prop×FV):=
 match b with
 | .len=>(match args,tys with
  | [x],[t]=>(match bH T t with
   | some i=>(match i.kd with
    | .sl _=>(match BQ (opv σ x) with | some n=>some (True,.int n) | none=>none)
    | .str=>(match opv σ x with | .d (.v (.string s))=>some (True,.int s.size) | _=>none)
    | .map _ _=>(match opv σ x with
     | .mr r p=>(match σ.obj r p with | some (.mp es)=>some (True,.int es.length) | _=>none)
     | _=>none)
    | _=>none)
   | none=>none)
  | _,_=>none)
 | .max=>(match args with
  | [x,y]=>(match opv σ x,opv σ y with
   | .d (.v (.int .i64 a)),.d (.v (.int .i64 b))=>some (True,.int (max a b))
   | _,_=>none)
  | _=>none)
 | .min=>(match args with
  | [x,y]=>(match opv σ x,opv σ y with
   | .d (.v (.int .i64 a)),.d (.v (.int .i64 b))=>some (True,.int (min a b))
   | _,_=>none)
  | _=>none)
 | _=>none
def sil (T:TT) (σ:St) (o:Op):Option (Prop×FV):=
 match o with
 | .move x=>some (True,opv σ x)
 | .assign x=>some (True,opv σ x)
 | .pick c a b=>(match opv σ c with
  | .d (.v (.bool t))=>some (True,if t then opv σ a else opv σ b)
  | _=>none)
 | .load t a=>(match vI T σ t (opv σ a) with | some f=>some (True,f) | none=>none)
 | .nilCheck x=>(match opv σ x with
  | .pt r p off=>some (True,.pt r p off)
  | .sp cs off=>some (True,.sp cs off)
  | .d (.vp cs)=>some (True,.d (.vp cs))
  | _=>none)
 | .fieldAddr t x f=>(match pN T t f with
  | some off=>(match oJ (opv σ x) off with | some g=>some (True,g) | none=>none)
  | none=>none)
 | .field t x f=>(match vF T t f (opv σ x) with | some g=>some (True,g) | none=>none)
 | .indexAddr t x i=>vy T σ t (opv σ x) (opv σ i)
 | .binOp op t x y _=>Cp T op t (opv σ x) (opv σ y)
 | .unOp op _ x=>(match op,opv σ x with
  | .neg,.d (.v (.int k n))=>some (True,.d (.v (.int k (k.wrap (0 - n)))))
  | .not,.d (.v (.bool b))=>some (True,.bool (!b))
  | _,_=>none)
 | .convert src dst x=>(match bH T src,bH T dst,opv σ x with
  | some _,some i,.d (.v (.int _ n))=>(match i.kd with
   | .int k=>some (True,.d (.v (.int k (k.wrap n))))
   | _=>none)
  | some j,some i,.al r p 0 n=>(match j.kd,i.kd,σ.obj r p with
   | .sl e,.str,some (.ow 1 N cs)=>(match bH T e,u8s cs with
    | some ei,some xs=>(match ei.kd with
     | .int .u8=>some (n=N,.d (.v (.string (strOfNums xs))))
     | _=>none)
    | _,_=>none)
   | _,_,_=>none)
  | _,_,_=>none)
 | .extract t i=>(match opv σ t with
  | .tu fs=>(match fs[i]? with | some f=>some (True,f) | none=>none)
  | _=>none)
 | .slice t x lo hi mx=>vi T σ t (opv σ x) lo hi mx (lo.map (opv σ)) (hi.map (opv σ)) (mx.map (opv σ))
 | .build t parts=>(match vx T t (parts.toList.map fun x=>(x.1,opv σ x.2)) with | some f=>some (True,f) | none=>none)
 | .entry x=>(match opv σ x with
  | .it _ _ _ _ (some (k,c))=>some (True,.tu [.ag (k.map fun n=>.int n),.int c])
  | _=>none)
 | .lookup t m k ok=>(match jV T t,opv σ m,opv σ k,ok with
  | some sz,.mr r p,.ag fs,false=>(match σ.obj r p,i9 fs with
   | some (.mp es),some key=>if key.length=sz then some (kB sz es,.int ((dQ key es).getD 0)) else none
   | _,_=>none)
  | _,_,_,_=>none)
 | .call c=>(match c.callee with
  | .builtin b=>sy T σ b c.args.toList c.argTypes.toList
  | _=>none)
 | .makeFunc fn first caps=>(match fn with
  | .func g=>if first.isEmpty=true then some (True,.cl g (caps.toList.map (opv σ))) else none
  | _=>none)
 | _=>none
def D.quiet:D->Bool
 | .gone=>true
 | d=>d.leaf
def FV.isLeaf:FV->Bool
 | .d x=>x.leaf
 | _=>false
def St.store1 (σ:St) (r:Rn) (p:List Nat) (i:Nat) (f:FV):Option St:=
 match σ.obj r p with
 | some o=>(match o.cells? with
  | some cs=>(match cs[i]? with
   | some old=>
    (match St.absorb (if old.quiet then σ else σ.kill r (p ++ [i])) f r (p ++ [i]) with
    | some (e,σ1)=>(match σ1.obj r p with
     | some o1=>(match o1.cells? with
      | some cs1=>some (σ1.put r p (o1.setCells (cs1.set i e)))
      | none=>none)
     | none=>none)
    | none=>none)
   | none=>none)
  | none=>none)
 | none=>none
def oU:List FV->Nat->(Nat->FV)->(Nat->FV)
 | [],_,e=>e
 | f :: r,t,e=>oU r (t+1) (upd e t f)
def mW (e:Nat->FV):Nat->Nat->List FV
 | _,0=>[]
 | t,n+1=>e t :: mW e (t+1) n
def St.storeL (σ:St) (r:Rn) (p:List Nat):Nat->Nat->List FV->Option St
 | _,_,[]=>some σ
 | 0,_,_=>none
 | m+1,off,f :: fs=>
  if fs.all FV.isLeaf then
   (match σ.store1 r p off f with
   | some σ1=>σ1.storeL r p m (off+1) fs
   | none=>none)
  else
   (match St.store1 { σ with env:=oU fs 2000 σ.env } r p off f with
   | some σ1=>σ1.storeL r p m (off+1) (mW σ1.env 2000 fs.length)
   | none=>none)
def St.root (σ:St) (r:Rn) (d:D):St:={ σ with rts:=fun q=>if q=r then some d else σ.rts q }
def gY (z:List Value):Nat->List D
 | 0=>[]
 | n+1=>z.map .v ++ gY z n
def jg:Nat->List D
 | 0=>[]
 | n+1=>.gone :: jg n
mutual
def ij:D->Prop
 | .v _=>True
 | .ez=>True
 | .sh ..=>False
 | .vp _=>False
 | .fn ..=>False
 | .ow _ _ cs=>noShL cs
 | .bx cs=>noShL cs
 | .mp _=>True
 | .itr=>False
 | .gone=>True
def noShL:List D->Prop
 | []=>True
 | d :: r=>ij d/\noShL r
end
def um:List RV->Prop
 | []=>True
 | .one d :: r=>ij d/\um r
 | .ag ds :: r=>noShL ds/\um r
def D.solid:D->Bool
 | .ow ..=>true
 | .bx _=>true
 | .mp _=>true
 | d=>d.leaf
def jQ:List D->Prop
 | []=>True
 | d :: r=>d.solid=true/\jQ r
def er:List D->Prop
 | []=>True
 | d :: r=>d.leaf=true/\er r
/- An argument as the callee sees it without leave to write; the roots that are lent. -/
mutual
def eQ (σ:St):FV->Option (FV×List Rn)
 | .d x=>if x.leaf then some (.d x,[]) else none
 | .sp cs off=>some (.d (.vp (cs.drop off)),[])
 | .al r p lo n=>match σ.obj r p with
  | some (.ow k N cs)=>if lo=0/\n=N then some (.d (.sh k n (shareL cs)),[r]) else some (.d (.sh k n (shareL ((cs.drop (k*lo)).take (k*n)))),[r])
  | _=>none
 | .cu r p n=>match σ.obj r p with
  | some (.ow k _ cs)=>some (.d (.sh k n (shareL (cs.take (k*n)))),[r])
  | _=>none
 | .pt r p off=>match σ.obj r p with
  | some (.bx cs)=>some (.d (.vp (shareL (cs.drop off))),[r])
  | some (.ow _ _ (c :: cs))=>some (.d (.vp (shareL ((c :: cs).drop off))),[r])
  | _=>none
 | .ar r p off n=>match σ.obj r p with
  | some o=>(match o.cells? with | some cs=>some (.d (.sh 1 n (shareL ((cs.drop off).take n))),[r]) | none=>none)
  | none=>none
 | .ag fs=>match viewL σ fs with | some (l,q)=>some (.ag l,q) | none=>none
 | .cl f fs=>match viewL σ fs with | some (l,q)=>some (.cl f l,q) | none=>none
 | .mr _ _=>none
 | .it _ _ _ _ _=>none
 | .tu fs=>match viewL σ fs with | some (l,q)=>some (.tu l,q) | none=>none
 | .fb _ _=>none
 | .dead=>none
def viewL (σ:St):List FV->Option (List FV×List Rn)
 | []=>some ([],[])
 | f :: r=>match eQ σ f with
  | some (g,q)=>(match viewL σ r with | some (gs,qs)=>some (g :: gs,q ++ qs) | none=>none)
  | none=>none
end
structure Io where
 name:Rn
 r:Rn
 p:List Nat
 d:D
def qR (σ:St) (nm:Rn):FV->Option (FV×List Io)
 | .d x=>if x.leaf then some (.d x,[]) else none
 | .al r p lo n=>match σ.obj r p with
  | some (.ow k N cs)=>if lo=0/\n=N then some (.al nm [] 0 n,[⟨nm,r,p,.ow k N cs⟩]) else none
  | _=>none
 | .pt r p off=>match σ.obj r p with
  | some (.bx cs)=>if off=0 then some (.pt nm [] 0,[⟨nm,r,p,.bx cs⟩]) else none
  | _=>none
 | _=>none
def ioL (σ:St) (i:Nat):Nat->List FV->Option (List FV×List Io)
 | _,[]=>some ([],[])
 | j,f :: r=>match qR σ (i,j) f with
  | some (g,q)=>(match ioL σ i (j+1) r with | some (gs,qs)=>some (g :: gs,q ++ qs) | none=>none)
  | none=>none
def Cl (σ:St) (i:Nat):FV->Option (FV×List Io)
 | .ag fs=>match ioL σ i 0 fs with | some (l,q)=>some (.ag l,q) | none=>none
 | f=>qR σ (i,0) f
def jF (σ:St):Nat->List Bool->List FV->Option (List FV×List Rn×List Io)
 | _,_,[]=>some ([],[],[])
 | i,ms,f :: r=>
  match jF σ (i+1) ms.tail r with
  | some (gs,lent,ios)=>
   if ms.headD false then (match Cl σ i f with | some (g,q)=>some (g :: gs,lent,q ++ ios) | none=>none)
   else (match eQ σ f with | some (g,q)=>some (g :: gs,q ++ lent,ios) | none=>none)
  | none=>none
def gH (σ:St):List Io->List D->Option St
 | [],[]=>some σ
 | io :: r,d :: ds=>
  (match io.d,d with
  | .ow k n _,.ow k' n' cs=>if k=k'/\n=n' then gH ((σ.killBelow io.r io.p).put io.r io.p (.ow k n cs)) r ds else none
  | .bx cs,.bx cs'=>if cs.length=cs'.length then gH ((σ.killBelow io.r io.p).put io.r io.p (.bx cs')) r ds else none
  | _,.gone=>gH (((σ.killBelow io.r io.p).kill io.r io.p).put io.r io.p .gone) r ds
  | _,_=>none)
 | _,_=>none
def oA (d:Nat) (σ:St) (j:Nat):D->Option (FV×St×Nat)
 | .ow k n cs=>if (σ.rts (d,j)).isNone then some (.al (d,j) [] 0 n,σ.root (d,j) (.ow k n cs),j+1) else none
 | .bx cs=>if (σ.rts (d,j)).isNone then some (.pt (d,j) [] 0,σ.root (d,j) (.bx cs),j+1) else none
 | .mp es=>if (σ.rts (d,j)).isNone then some (.mr (d,j) [],σ.root (d,j) (.mp es),j+1) else none
 | x=>if x.leaf then some (.d x,σ,j) else none
def mH (d:Nat):St->Nat->List D->Option (List FV×St×Nat)
 | σ,j,[]=>some ([],σ,j)
 | σ,j,x :: r=>match oA d σ j x with
  | some (f,σ1,j1)=>(match mH d σ1 j1 r with | some (fs,σ2,j2)=>some (f :: fs,σ2,j2) | none=>none)
  | none=>none
def i8 (d:Nat):St->Nat->List RV->Option (List FV×St×Nat)
 | σ,j,[]=>some ([],σ,j)
 | σ,j,.one x :: r=>(match oA d σ j x with
  | some (f,σ1,j1)=>(match i8 d σ1 j1 r with | some (fs,σ2,j2)=>some (f :: fs,σ2,j2) | none=>none)
  | none=>none)
 | σ,j,.ag ds :: r=>(match mH d σ j ds with
  | some (l,σ1,j1)=>(match i8 d σ1 j1 r with | some (fs,σ2,j2)=>some (.ag l :: fs,σ2,j2) | none=>none)
  | none=>none)
def pS:List FV->FV
 | [f]=>f
 | fs=>.tu fs
inductive jM where
 | done
 | take (i:Nat) (p:jM)
 | all (ps:List (Nat×jM))
structure Ctx where
 P:Program
 T:TT
 M:List (Nat×List Bool)
 nW:Nat
 kp:List (Nat×List Nat)
 lp:List (Nat×List Nat)
 pl:List (Nat×jM)
 fb:List Nat:=[]
def aA {α:Type} (d:α):List (Nat×α)->Nat->α
 | [],_=>d
 | (i,x) :: r,t=>if i=t then x else aA d r t
def rg (C:Ctx) (f:Nat) (fvs:List FV) (dst:Option Nat) (σ:St) (K:St->Prop):Prop:=
 match jF σ 0 (aA [] C.M f) fvs with
 | some (args,lent,ios)=>
  ((ios.map (·.r)).Nodup/\(ios.map (·.name)).Nodup)/\(∀ r∈ios.map (·.r),r ∉ lent) /\
  ∃ pure Q,af C.P f args (ios.map fun io=>(io.name,io.d)) pure Q/\(pure=true\/lent=[]) /\
   ∀ outs res,Q outs res->match gH σ ios outs with
    | some σ1=>(match dst with
     | some d=>(match i8 d σ1 0 res with
      | some (fs,σ2,_)=>K { σ2 with env:=upd σ2.env d (pS fs) }
      | none=>False)
     | none=>K σ1)
    | none=>False
 | none=>False
def kr (k n N:Nat) (cs:List D):List D:=if n=N then cs else cs.take (k*n)
def vA (σ:St) (k:Nat):FV->Option (Nat×List D×St)
 | .d (.v (.slice none 0 0))=>some (0,[],σ)
 | .d .ez=>some (0,[],σ)
 | .al r p 0 n=>match σ.obj r p with
  | some (.ow k' N cs)=>if k'=k then some (n,kr k n N cs,(σ.take r p).kill r p) else none
  | _=>none
 | _=>none
def FV.rootIs (f:FV) (r:Rn):Bool:=match f with | .al q _ _ _=>q == r | _=>false
def oI (σ:St) (k:Nat):FV->Option (Nat×List D×Option Rn)
 | .d (.v (.slice none 0 0))=>some (0,[],none)
 | .d .ez=>some (0,[],none)
 | .d (.sh k' n cs)=>if k'=k then some (n,cs,none) else none
 | .al r p lo n=>match σ.obj r p with
  | some (.ow k' N cs)=>if k'=k then (if lo=0/\n=N/\p=[] then some (n,cs,some r) else some (n,(cs.drop (k*lo)).take (k*n),none)) else none
  | _=>none
 | .ar r p off n=>match σ.obj r p with
  | some o=>(match o.cells? with | some cs=>if k=1 then some (n,(cs.drop off).take n,none) else none | none=>none)
  | none=>none
 | _=>none
mutual
def FV.hasIt:FV->Bool
 | .it _ _ _ _ _=>true
 | .ag fs=>FV.hasItL fs
 | .tu fs=>FV.hasItL fs
 | .cl _ fs=>FV.hasItL fs
 | .fb fs _=>FV.hasItL fs
 | .al ..=>false
 | .cu ..=>false
 | .pt ..=>false
 | .ar ..=>false
 | .mr ..=>false
 | .d _=>false
 | .sp _ _=>false
 | .dead=>false
def FV.hasItL:List FV->Bool
 | []=>false
 | f :: r=>f.hasIt || FV.hasItL r
end
def St.dropIt (σ:St):St:=
 { σ with env:=fun t=>if (σ.env t).hasIt then .dead else σ.env t }
def FV.notIt (r:Rn) (f:FV):FV:=if f.hasIt then (match f with | .it q m p l c=>if q=r then .dead else .it q m p l c | _=>.dead) else f
def St.setIt (σ:St) (r:Rn) (t:Nat) (f:FV):St:=
 { σ with env:=fun s=>if s=t then f else (σ.env s).notIt r }
def gm (C:Ctx) (o:Oper) (σ:St) (K:St->Prop):Prop:=
 match sil C.T σ o.op with
 | some (c,f)=>c/\K (σ.set o.dst f)
 | none=>False
def uI (C:Ctx) (dst:Option Nat) (t:Nat) (σ:St) (K:St->Prop):Prop:=
 match dst,bH C.T t with
 | some d,some i=>σ.rts (d,0)=none/\K { (σ.root (d,0) (.bx (i.zero.map .v))) with env:=upd σ.env d (.pt (d,0) [] 0) }
 | _,_=>False
def BM (C:Ctx) (dst:Option Nat) (t:Nat) (f:FV) (σ:St) (K:St->Prop):Prop:=
 match dst,bH C.T t with
 | some d,some i=>σ.rts (d,0)=none/\f.whole=true/\f.atoms.length=i.size /\
   (match (σ.root (d,0) (.bx (jg i.size))).storeL (d,0) [] i.size 0 f.atoms with
   | some σ1=>K { σ1 with env:=upd σ1.env d (.pt (d,0) [] 0) }
   | none=>False)
 | _,_=>False
def AFb (C:Ctx) (dst:Option Nat) (t:Nat) (f:FV) (σ:St) (K:St->Prop):Prop:=
 match dst,bH C.T t with
 | some d,some _=>f.whole=true/\K { σ with env:=upd σ.env d (.fb f.atoms 0) }
 | _,_=>False
def fbB (C:Ctx) (dst:Option Nat):Bool:=match dst with | some d=>C.fb.contains d | none=>false
def lI (C:Ctx) (dst:Option Nat) (t len:Nat) (parts:List (Nat×FV)) (σ:St) (K:St->Prop):Prop:=
 match dst,bH C.T t with
 | some d,some ti=>(match ti.kd with
  | .sl e=>(match bH C.T e with
   | some i=>σ.rts (d,0)=none/\len*i.size<=16777216 /\
    (match nA (fun j=>some (j*i.size,i.size)) ((gY i.zero len).map .d) parts with
    | some l=>(match (σ.root (d,0) (.ow i.size len (jg (len*i.size)))).storeL (d,0) [] (len*i.size) 0 l with
     | some σ1=>K { σ1 with env:=upd σ1.env d (.al (d,0) [] 0 len) }
     | none=>False)
    | none=>False)
   | none=>False)
  | _=>False)
 | _,_=>False
def oy:List FV->Option (List D)
 | []=>some []
 | .d x :: r=>if x.leaf then (match oy r with | some l=>some (x :: l) | none=>none) else none
 | _ :: _=>none
def AFz (C:Ctx) (dst:Option Nat) (t len:Nat) (parts:List (Nat×FV)) (σ:St) (K:St->Prop):Prop:=
 match dst,bH C.T t with
 | some d,some ti=>(match ti.kd with
  | .sl e=>(match bH C.T e with
   | some i=>len*i.size<=16777216 /\
    (match nA (fun j=>some (j*i.size,i.size)) ((gY i.zero len).map .d) parts with
    | some l=>(match oy l with
     | some cs=>cs.length=i.size*len/\K { σ with env:=upd σ.env d (.d (.sh i.size len cs)) }
     | none=>False)
    | none=>False)
   | none=>False)
  | _=>False)
 | _,_=>False
def BR (dst:Option Nat) (f:FV) (σ:St) (K:St->Prop):Prop:=
 match dst,f with
 | some d,.cu r [] n=>(match σ.rts r with
  | some (.ow k N cs)=>(((σ.take r []).kill r []).rts (d,0)=none/\n<=N)/\K { (((σ.take r []).kill r []).root (d,0) (.ow k n (cs.take (k*n)))) with env:=upd ((σ.take r []).kill r []).env d (.al (d,0) [] 0 n) }
  | _=>False)
 | some d,.al r [] 0 n=>(match σ.rts r with
  | some (.ow k N cs)=>(((σ.take r []).kill r []).rts (d,0)=none/\n<=N)/\K { (((σ.take r []).kill r []).root (d,0) (.ow k n (cs.take (k*n)))) with env:=upd ((σ.take r []).kill r []).env d (.al (d,0) [] 0 n) }
  | _=>False)
 | _,_=>False
def oh (C:Ctx) (o:Oper) (σ:St) (K:St->Prop):Prop:=
 match sil C.T σ o.op with
 | some (c,f)=>c/\BR o.dst f σ K
 | none=>False
def tN (C:Ctx) (dst:Option Nat) (x:Operand) (σ:St) (K:St->Prop):Prop:=
 match dst,x,opv σ x with
 | some d,.tmp s,.al r [] 0 n=>(match σ.rts r with
  | some (.ow k N cs)=>(C.nW=0/\n=N)/\K { ((σ.take r []).kill r []) with env:=upd (upd ((σ.take r []).kill r []).env s (.d (.sh k n (shareL cs)))) d (.d (.sh k n (shareL cs))) }
  | _=>False)
 | some d,.tmp s,.tu fs=>(match viewL σ fs with
  | some (gs,[r])=>(match σ.rts r with
   | some (.ow _ _ _)=>C.nW=0/\K { ((σ.take r []).kill r []) with env:=upd (upd ((σ.take r []).kill r []).env s (.tu gs)) d (.tu gs) }
   | _=>False)
  | _=>False)
 | _,_,_=>False
def yb (C:Ctx) (dst:Option Nat) (t:Nat) (l c:FV) (σ:St) (K:St->Prop):Prop:=
 match dst,bH C.T t,l,c with
 | some d,some ti,.d (.v (.int .i64 x)),.d (.v (.int .i64 y))=>(match ti.kd with
  | .sl e=>(match bH C.T e with
   | some i=>σ.rts (d,0)=none/\(0<=x/\x<=y/\i.bytes*y<=281474976710656/\y<=281474976710656) /\
     K { (σ.root (d,0) (.ow i.size x.toNat (gY i.zero x.toNat))) with env:=upd σ.env d (.al (d,0) [] 0 x.toNat) }
   | none=>False)
  | _=>False)
 | _,_,_,_=>False
def uM (C:Ctx) (dst:Option Nat) (t:Nat) (a f:FV) (σ:St) (K:St->Prop):Prop:=
 match bH C.T t,a with
 | some i,.pt r p off=>f.whole=true/\f.atoms.length=i.size /\
   (match σ.storeL r p i.size off f.atoms with | some σ1=>K (σ1.set dst .dead) | none=>False)
 | _,_=>False
def qU:FV->Bool
 | .d x=>x.leaf
 | .al ..=>true
 | .pt ..=>true
 | _=>false
def BS (C:Ctx) (dst:Option Nat) (t d:Nat) (f:FV) (σ:St) (K:St->Prop):Prop:=
 match bH C.T t,σ.env d with
 | some i,.pt r [] 0=>(match σ.rts r with
  | some (.bx cs)=>C.nW=0/\f.whole=true/\f.atoms.all qU=true/\f.atoms.length=i.size/\cs.length=i.size/\FV.underL r [] f.atoms=false /\
    K ({ ((σ.take r []).kill r []) with env:=upd ((σ.take r []).kill r []).env d (.fb f.atoms 0) }.set dst .dead)
  | _=>False)
 | _,_=>False
def Ex (C:Ctx):Operand->Option Nat
 | .tmp d=>if C.fb.contains d then some d else none
 | _=>none
def rZ (C:Ctx) (dst:Option Nat) (t:Nat) (m k x:FV) (σ:St) (K:St->Prop):Prop:=
 match jV C.T t,m,k,x with
 | some sz,.mr r p,.ag fs,.d (.v (.int .i64 c))=>(match σ.obj r p,i9 fs with
  | some (.mp es),some key=>key.length=sz/\kB sz es/\K ((((σ.dropIt).put r p (.mp (iS key c es)))).set dst .dead)
  | _,_=>False)
 | _,_,_,_=>False
def vo (C:Ctx) (dst:Option Nat) (t:Nat) (m:FV) (σ:St) (K:St->Prop):Prop:=
 match jV C.T t,dst,m with
 | some _,some d,.mr r p=>(match σ.obj r p with
  | some (.mp es)=>σ.rts (d,0)=none/\K { (σ.root (d,0) .itr) with env:=upd σ.env d (.it (d,0) r p es none) }
  | _=>False)
 | _,_,_=>False
def yd (dst:Option Nat) (x:Operand) (s:Bool) (σ:St) (K:St->Prop):Prop:=
 match x,s,dst with
 | .tmp t,false,some d=>(match σ.env t with
  | .it r m p rest _=>d≠t /\
    (rest=[]->K { σ with env:=upd σ.env d (.tu [.bool false]) }) /\
    ∀ i x,rest[i]? = some x->K { (σ.setIt r t (.it r m p (rest.eraseIdx i) (some x))) with env:=upd (σ.setIt r t (.it r m p (rest.eraseIdx i) (some x))).env d (.tu [.bool true,.ag (x.1.map fun n=>.int n),.int x.2]) }
  | _=>False)
 | _,_,_=>False
def rL (C:Ctx) (dst:Option Nat) (t t':Nat) (s x:FV) (σ:St) (K:St->Prop):Prop:=
 match dst,bH C.T t,bH C.T t' with
 | some d,some ti,some ti'=>(match ti.kd,ti'.kd with
  | .sl e,.sl _=>(match bH C.T e with
   | some i=>(match vA σ i.size s with
    | some (n,cs,σ1)=>(match oI σ i.size x with
     | some (m,cs2,mv)=>(0 < i.bytes/\0 < i.size)/\σ1.rts (d,0)=none/\(n+m)*i.bytes<=140737488355328 /\
       (er cs2->K { (σ1.root (d,0) (.ow i.size (n+m) (cs ++ cs2))) with env:=upd σ1.env d (.al (d,0) [] 0 (n+m)) }) /\
       (¬ er cs2->jQ cs2/\match mv with
        | some r2=>(match σ1.rts r2 with
         | some _=>(r2≠(d,0)/\s.rootIs r2=false)/\K { ((((σ1.take r2 []).kill r2 []).root (d,0) (.ow i.size (n+m) (cs ++ cs2)))) with env:=upd ((σ1.take r2 []).kill r2 []).env d (.al (d,0) [] 0 (n+m)) }
         | none=>False)
        | none=>False)
     | none=>False)
    | none=>False)
   | none=>False)
  | _,_=>False)
 | _,_,_=>False
def yg (C:Ctx) (dst:Option Nat) (t t':Nat) (s x:FV) (σ:St) (K:St->Prop):Prop:=
 match bH C.T t,bH C.T t',s with
 | some ti,some ti',.ar r p off n=>(match ti.kd,ti'.kd with
  | .sl e,.sl _=>(match bH C.T e,oI σ 1 x,σ.obj r p with
   | some i,some (m,cs2,_),some ob=>(match ob.cells? with
    | some cs=>i.size=1/\er cs2/\er cs/\off+n<=cs.length /\
      K ((σ.dropIt.put r p (ob.setCells (cs.take off ++ cs2.take (min m n) ++ cs.drop (off+min m n)))).set dst (.int ((min m n:Nat):Int)))
    | none=>False)
   | _,_,_=>False)
  | _,_=>False)
 | _,_,_=>False
def rW (C:Ctx) (dst:Option Nat) (t:Nat) (m k:FV) (σ:St) (K:St->Prop):Prop:=
 match jV C.T t,m,k with
 | some sz,.mr r p,.ag fs=>(match σ.obj r p,i9 fs with
  | some (.mp es),some key=>key.length=sz/\kB sz es/\K ((((σ.dropIt).put r p (.mp (iL key es)))).set dst (.tu []))
  | _,_=>False)
 | _,_,_=>False
def pG (C:Ctx) (o:Oper) (b:Builtin) (args:List Operand) (tys:List Nat) (σ:St) (K:St->Prop):Prop:=
 match b with
 | .len=>gm C o σ K
 | .max=>gm C o σ K
 | .min=>gm C o σ K
 | .append=>(match args,tys with
  | [s,x],[t,t']=>rL C o.dst t t' (opv σ s) (opv σ x) σ K
  | _,_=>False)
 | .copy=>(match args,tys with
  | [s,x],[t,t']=>yg C o.dst t t' (opv σ s) (opv σ x) σ K
  | _,_=>False)
 | .delete=>(match args,tys with
  | [m,k],[t,_]=>rW C o.dst t (opv σ m) (opv σ k) σ K
  | _,_=>False)
 | _=>False
def uj (f:FV) (K:Bool->Prop):Prop:=
 match f with
 | .d (.v (.slice none 0 0))=>K true
 | .d .ez=>∀ b:Bool,K b
 | .al _ _ _ n=>∀ b:Bool,(n≠0->b=false)->K b
 | .d (.sh k n _)=>∀ b:Bool,(n≠0/\k≠0->b=false)->K b
 | _=>False
def qv:Operand->Bool
 | .const (.slice none 0 0)=>true
 | _=>false
def B5 (C:Ctx) (dst:Option Nat) (op:BinOp) (t:Nat) (x:FV) (σ:St) (K:St->Prop):Prop:=
 match bH C.T t with
 | some i=>(match i.kd with
  | .sl _=>(match op with
   | .eql=>uj x fun b=>K (σ.set dst (.bool b))
   | .neq=>uj x fun b=>K (σ.set dst (.bool (!b)))
   | _=>False)
  | _=>False)
 | none=>False
def AOp (C:Ctx) (o:Oper) (σ:St) (K:St->Prop):Prop:=
 match o.op with
 | .move x=>if fbB C o.dst=true then tN C o.dst x σ K else gm C o σ K
 | .assign x=>if fbB C o.dst=true then tN C o.dst x σ K else gm C o σ K
 | .pick ..=>gm C o σ K
 | .load ..=>gm C o σ K
 | .nilCheck _=>gm C o σ K
 | .fieldAddr ..=>gm C o σ K
 | .field ..=>gm C o σ K
 | .indexAddr ..=>gm C o σ K
 | .unOp ..=>gm C o σ K
 | .convert ..=>gm C o σ K
 | .extract ..=>gm C o σ K
 | .slice ..=>if fbB C o.dst=true then oh C o σ K else gm C o σ K
 | .build ..=>gm C o σ K
 | .lookup ..=>gm C o σ K
 | .entry _=>gm C o σ K
 | .binOp op t x y _=>if qv y then B5 C o.dst op t (opv σ x) σ K else gm C o σ K
 | .alloc t=>uI C o.dst t σ K
 | .box t x=>if fbB C o.dst=true then AFb C o.dst t (opv σ x) σ K else BM C o.dst t (opv σ x) σ K
 | .buildSlice t len parts=>if fbB C o.dst=true then AFz C o.dst t len (parts.toList.map fun x=>(x.1,opv σ x.2)) σ K else lI C o.dst t len (parts.toList.map fun x=>(x.1,opv σ x.2)) σ K
 | .makeSlice t l c=>yb C o.dst t (opv σ l) (opv σ c) σ K
 | .makeMap _ r=>(match o.dst,r with
  | some d,none=>σ.rts (d,0)=none/\K { (σ.root (d,0) (.mp [])) with env:=upd σ.env d (.mr (d,0) []) }
  | _,_=>False)
 | .store t a x=>(match Ex C a with
  | some d=>BS C o.dst t d (opv σ x) σ K
  | none=>uM C o.dst t (opv σ a) (opv σ x) σ K)
 | .mapUpdate t m k x=>rZ C o.dst t (opv σ m) (opv σ k) (opv σ x) σ K
 | .range t m=>vo C o.dst t (opv σ m) σ K
 | .next x s=>yd o.dst x s σ K
 | .call c=>(match c.callee with
  | .builtin b=>pG C o b c.args.toList c.argTypes.toList σ K
  | .value f=>(match opv σ f with
   | .d (.fn g caps)=>rg C g (c.args.toList.map (opv σ) ++ caps.map .d) o.dst σ K
   | .cl g caps=>rg C g (c.args.toList.map (opv σ) ++ caps) o.dst σ K
   | _=>False)
  | _=>False)
 | .makeFunc ..=>gm C o σ K
 | _=>False
def mR (C:Ctx) (ops:Array Oper) (o:Oper) (σ:St) (K:St->Prop):Prop:=
 match o.guard with
 | none=>AOp C o σ K
 | some (j,want)=>(match (ops[j]?).bind (·.dst) with
  | some t=>(match σ.env t with
   | .d (.v (.bool b))=>(b=want->AOp C o σ K)/\(b≠want->K (σ.set o.dst (.tu [])))
   | .tu []=>K (σ.set o.dst (.tu []))
   | _=>False)
  | none=>False)
def qy (C:Ctx) (ops:Array Oper):List Oper->St->(St->Prop)->Prop
 | [],σ,K=>K σ
 | o :: r,σ,K=>mR C ops o σ fun σ'=>qy C ops r σ' K
mutual
def jr (C:Ctx) (ops:Array Oper):jM->St->(St->Prop)->Prop
 | .done,σ,K=>K σ
 | .take i p,σ,K=>(match ops[i]? with
  | some o=>mR C ops o σ fun σ'=>jr C ops p σ' K
  | none=>False)
 | .all ps,σ,K=>ARunL C ops ps σ K
def ARunL (C:Ctx) (ops:Array Oper):List (Nat×jM)->St->(St->Prop)->Prop
 | [],_,_=>True
 | (i,p) :: r,σ,K=>(match ops[i]? with
  | some o=>mR C ops o σ fun σ'=>jr C ops p σ' K
  | none=>False)/\ARunL C ops r σ K
end
def fw (t:Nat):Nat->List Rn->List (Rn×Rn)->List (Rn×Rn)
 | _,[],acc=>acc
 | j,r :: rs,acc=>if acc.any (fun x=>x.1 == r) then fw t j rs acc else fw t (j+1) rs (acc ++ [(r,(t,j))])
def names (e:Nat->FV):List Nat->List (Rn×Rn)->List (Rn×Rn)
 | [],acc=>acc
 | t :: ks,acc=>names e ks (fw t 0 (e t).roots acc)
def kU (m:List (Rn×Rn)) (r:Rn):Option Rn:=
 match m with
 | []=>none
 | (o,n) :: l=>if o=r then some n else kU l r
mutual
def FV.ren (m:List (Rn×Rn)):FV->FV
 | .al r p lo n=>match kU m r with | some q=>.al q p lo n | none=>.dead
 | .cu r p n=>match kU m r with | some q=>.cu q p n | none=>.dead
 | .pt r p o=>match kU m r with | some q=>.pt q p o | none=>.dead
 | .ar r p o n=>match kU m r with | some q=>.ar q p o n | none=>.dead
 | .mr r p=>match kU m r with | some q=>.mr q p | none=>.dead
 | .it r s p l c=>match kU m r,kU m s with | some q,some x=>.it q x p l c | _,_=>.dead
 | .ag fs=>.ag (FV.renL m fs)
 | .tu fs=>.tu (FV.renL m fs)
 | .cl f fs=>.cl f (FV.renL m fs)
 | .fb fs o=>.fb (FV.renL m fs) o
 | .d x=>.d x
 | .sp cs o=>.sp cs o
 | .dead=>.dead
def FV.renL (m:List (Rn×Rn)):List FV->List FV
 | []=>[]
 | f :: r=>f.ren m :: FV.renL m r
end
def aF:List (Rn×Option D)->Rn->Option D
 | [],_=>none
 | (i,f) :: r,t=>if i=t then f else aF r t
def iI:Nat->List Nat
 | 0=>[]
 | n+1=>iI n ++ [1000+n]
def tc (m:List (Rn×Rn)) (ks:List Nat) (σ:St):St:=
 ⟨ofL (ks.map fun t=>(t,(σ.env t).ren m)),aF (m.map fun x=>(x.2,σ.rts x.1))⟩
def iG (C:Ctx) (ks:List Nat) (σ:St):St:=
 tc (names σ.env (ks ++ iI C.nW) []) (ks ++ iI C.nW) σ
inductive AEx where
 | normal
 | exit (id:Nat)
 | ret
def AEx.seq (K:St->Prop) (Q:AEx->St->Prop):AEx->St->Prop
 | .normal,σ=>K σ
 | e,σ=>Q e σ
def AEx.block (id:Nat) (Q:AEx->St->Prop):AEx->St->Prop
 | .exit j,σ=>if j=id then Q .normal σ else Q (.exit j) σ
 | e,σ=>Q e σ
def qT:Op->Bool
 | .move _=>true
 | .assign _=>true
 | .pick ..=>true
 | .load ..=>true
 | .nilCheck _=>true
 | .fieldAddr ..=>true
 | .field ..=>true
 | .indexAddr ..=>true
 | .binOp _ _ _ y _=>!qv y
 | .unOp ..=>true
 | .convert ..=>true
 | .extract ..=>true
 | .slice ..=>true
 | .build ..=>true
 | .lookup ..=>true
 | .call c=>(match c.callee with
  | .builtin b=>(match b with | .len=>true | .max=>true | .min=>true | _=>false)
  | _=>false)
 | _=>false
def mQ:Op->Bool
 | .load ..=>true
 | .convert ..=>true
 | .entry _=>true
 | .lookup ..=>true
 | .call c=>(match c.callee with
  | .builtin b=>(match b with | .len=>true | _=>false)
  | _=>false)
 | _=>false
def eP (M:List (Nat×List Bool)):Op->Bool
 | .alloc _=>true
 | .box ..=>true
 | .buildSlice ..=>true
 | .makeSlice ..=>true
 | .makeMap ..=>true
 | .call c=>(match c.callee with
  | .value f=>(match f with | .func g=>!(aA [] M g).any id | _=>false)
  | .builtin b=>(match b with | .len=>true | .max=>true | .min=>true | _=>false)
  | _=>false)
 | op=>qT op
def uJ (e:Edge):Bool:=Region.binds .any e
def oG (ops:Array Oper) (i:Nat):Nat->Nat->Bool
 | 0,_=>false
 | n+1,j=>match ops[j]? with
  | some oj=>(oj.after.any fun e=>uJ e && e.on == i) || (oj.after.any fun e=>uJ e && (decide (i < e.on) && oG ops i n e.on))
  | none=>false
def E9 (M:List (Nat×List Bool)) (ops:Array Oper) (listed:Array Bool) (i:Nat):Bool:=
 match ops[i]? with
 | some oi=>qT oi.op && (List.range ops.size).all fun j=>j == i || listed.getD j true || (match ops[j]? with
  | some oj=>(oi.apart ops oj && (!mQ oi.op || eP M oj.op)) || oG ops i ops.size j
  | none=>true)
 | none=>false
mutual
def pk (M:List (Nat×List Bool)) (ops:Array Oper):jM->Array Bool->Bool
 | .done,listed=>(Region.ready .any ops listed).isEmpty
 | .take i p,listed=>(Region.ready .any ops listed).contains i && E9 M ops listed i && pk M ops p (listed.setIfInBounds i true)
 | .all ps,listed=>(Region.ready .any ops listed == ps.map (·.1)) && !ps.isEmpty && planBL M ops ps listed
def planBL (M:List (Nat×List Bool)) (ops:Array Oper):List (Nat×jM)->Array Bool->Bool
 | [],_=>true
 | (i,p) :: r,listed=>pk M ops p (listed.setIfInBounds i true) && planBL M ops r listed
end
def jM.ok (C:Ctx) (ops:Array Oper) (p:jM):Prop:=
 pk C.M ops p (Array.replicate ops.size false)=true/\Region.noSelect ops=true
inductive Wk where
 | tmp (t k:Nat)
 | cell (r:Rn) (p:List Nat) (i k:Nat)
 | drop (t:Nat)
def iy:D->Bool
 | .v (.slice none 0 0)=>true
 | .ez=>true
 | _=>false
def wk1 (σ:St):Wk->Option St
 | .tmp t k=>match σ.env t with
  | .d x=>if iy x=true/\(σ.rts (t,0)).isNone=true then some { (σ.root (t,0) (.ow k 0 [])) with env:=upd σ.env t (.al (t,0) [] 0 0) } else none
  | _=>none
 | .cell r p i k=>match σ.obj r p with
  | some o=>(match o.cells? with
   | some cs=>(match cs[i]? with
    | some x=>if iy x=true/\(σ.rts (9999,0)).isNone=true then (match (σ.root (9999,0) (.ow k 0 [])).store1 r p i (.al (9999,0) [] 0 0) with | some τ=>some { τ with env:=σ.env } | none=>none) else none
    | none=>none)
   | none=>none)
  | none=>none
 | .drop t=>some { σ with env:=upd σ.env t .dead }
def jD:List Wk->St->Option St
 | [],σ=>some σ
 | x :: l,σ=>match wk1 σ x with
  | some σ1=>jD l σ1
  | none=>none
def AWp (C:Ctx):Code->Nat->(AEx->St->Prop)->St->Prop
 | .skip,_,Q,σ=>Q .normal σ
 | .region id ops draw,_,Q,σ=>
  if draw then ∃ p:jM,p.ok C ops/\jr C ops p σ fun σ'=>Q .normal (iG C (aA [] C.kp id) σ')
  else qy C ops ops.toList σ fun σ'=>Q .normal (iG C (aA [] C.kp id) σ')
 | .seq a b,i,Q,σ=>AWp C a i (AEx.seq (AWp C b i Q) Q) σ
 | .cond c a b,i,Q,σ=>∃ t:Bool,opv σ c = .d (.v (.bool t))/\(t=true->AWp C a i Q σ)/\(t=false->AWp C b i Q σ)
 | .block id c,_,Q,σ=>AWp C c id (AEx.block id Q) σ
 | .loop c,i,Q,σ=>∃ (I:St->Prop) (μ:St->Nat),(∃ l σ0,jD l (iG C (aA [] C.lp i) σ)=some σ0/\I σ0) /\
   ∀ σ,I σ->AWp C c i (AEx.seq (fun σ'=>∃ l σ1,jD l (iG C (aA [] C.lp i) σ')=some σ1/\I σ1/\μ σ1 < μ σ) Q) σ
 | .exit id,_,Q,σ=>Q (.exit id) σ
 | .ret,_,Q,σ=>Q .ret σ
 | _,_,_,_=>False
theorem iz {w w':World} {b o:Nat} (h:w'.heap[b]? = w.heap[b]?):w'.cell? ⟨b,o,none⟩ = w.cell? ⟨b,o,none⟩:=World.cell?_of_block h
section mono
variable {w w':World} {ok ok':Nat->Prop} (hk:∀ b,ok b->ok' b/\w'.heap[b]? = w.heap[b]?)
include hk
mutual
theorem gh:∀ (d:D) (u:Value),Sh w ok d u->Sh w' ok' d u
 | .v _,_,h=>by simpa[Sh] using h
 | .ez,_,h=>by simpa[Sh] using h
 | .sh k n cs,u,h=>by
  simp only[Sh] at h ⊢;obtain⟨a,c,e,h1,h2,h3⟩:=h;refine⟨a,c,e,h1,h2,?_⟩;rcases h3 with h3 | ⟨b,o,e2,h4,h5⟩
  ·exact .inl h3
  ·exact .inr ⟨b,o,e2,(hk b h4).1,ShL_mono b h4 cs o h5⟩
 | .vp cs,u,h=>by
  simp only[Sh] at h ⊢;obtain⟨b,o,e,h4,h5⟩:=h;exact⟨b,o,e,(hk b h4).1,ShL_mono b h4 cs o h5⟩
 | .fn f caps,u,h=>by
  simp only[Sh] at h ⊢;obtain⟨vs,e,h5⟩:=h;exact⟨vs,e,ShV_mono caps vs.toList h5⟩
 | .ow ..,_,h=>by simp[Sh] at h
 | .bx _,_,h=>by simp[Sh] at h
 | .mp _,_,h=>by simp[Sh] at h
 | .itr,_,h=>by simp[Sh] at h
 | .gone,_,h=>by simp[Sh]
theorem ShL_mono (b:Nat) (hb:ok b):∀ (cs:List D) (o:Nat),ShL w ok b cs o->ShL w' ok' b cs o
 | [],_,_=>by simp[ShL]
 | d :: ds,o,h=>by
  simp only[ShL] at h ⊢;obtain⟨⟨u,h1,h2⟩,h3⟩:=h;exact⟨⟨u,by rw[iz (hk b hb).2];exact h1,gh d u h2⟩,ShL_mono b hb ds (o+1) h3⟩
theorem ShV_mono:∀ (cs:List D) (vs:List Value),ShV w ok cs vs->ShV w' ok' cs vs
 | [],vs,h=>by simpa[ShV] using h
 | d :: ds,vs,h=>by
  simp only[ShV] at h ⊢;obtain⟨u,us,e,h1,h2⟩:=h;exact⟨u,us,e,gh d u h1,ShV_mono ds us h2⟩
end
mutual
theorem fI:∀ (d:D) (u:Value) (fp:List Nat),(∀ b∈fp,w'.heap[b]? = w.heap[b]?)->Ow w ok d u fp->Ow w' ok' d u fp
 | .v _,_,_,_,h=>by simpa[Ow] using h
 | .ez,_,_,_,h=>by simpa[Ow,Sh] using h
 | .sh k n cs,u,_,_,h=>by
  simp only[Ow] at h ⊢;exact⟨h.1,gh hk _ _ h.2⟩
 | .vp cs,u,_,_,h=>by
  simp only[Ow] at h ⊢;exact⟨h.1,gh hk _ _ h.2⟩
 | .fn f caps,u,_,_,h=>by
  simp only[Ow] at h ⊢;exact⟨h.1,gh hk _ _ h.2⟩
 | .ow k n cs,u,fp,hf,h=>by
  simp only[Ow] at h ⊢;rcases h with h | ⟨b,o,c,arr,T,fp',e,e2,h1,h2,h3,h4,h5⟩
  ·exact .inl h
  ·subst e2;exact .inr ⟨b,o,c,arr,T,fp',e,rfl,by rw[hf b (by simp)];exact h1,h2,h3,h4,OwL_mono b cs o (fun j _=>iz (hf b (by simp))) fp' (fun x hx=>hf x (by simp[hx])) h5⟩
 | .bx cs,u,fp,hf,h=>by
  simp only[Ow] at h ⊢;obtain⟨b,arr,T,fp',e,e2,h1,h2,h5⟩:=h;subst e2;exact⟨b,arr,T,fp',e,rfl,by rw[hf b (by simp)];exact h1,h2,OwL_mono b cs 0 (fun j _=>iz (hf b (by simp))) fp' (fun x hx=>hf x (by simp[hx])) h5⟩
 | .mp es,u,fp,hf,h=>by
  simp only[Ow] at h ⊢;obtain⟨m,en,cl,e,e2,h1⟩:=h;subst e2;exact⟨m,en,cl,e,rfl,⟨by rw[hf m (by simp)];exact h1.at_,h1.kv,h1.born,h1.uniq,h1.keys⟩⟩
 | .itr,u,fp,hf,h=>by
  simp only[Ow] at h ⊢;obtain⟨b,m,s,x,l,e,e2,h1⟩:=h;subst e2;exact⟨b,m,s,x,l,e,rfl,by rw[hf b (by simp)];exact h1⟩
 | .gone,_,_,_,h=>by simpa[Ow] using h
theorem OwL_mono (b:Nat):∀ (cs:List D) (o:Nat),(∀ j,j < cs.length->w'.cell? ⟨b,o+j,none⟩ = w.cell? ⟨b,o+j,none⟩)->∀ (fp:List Nat),(∀ b∈fp,w'.heap[b]? = w.heap[b]?)->OwL w ok b cs o fp->OwL w' ok' b cs o fp
 | [],_,_,_,_,h=>by simpa[OwL] using h
 | d :: ds,o,hc,fp,hf,h=>by
  simp only[OwL] at h ⊢;obtain⟨u,f1,f2,h1,e,h2,h3⟩:=h;subst e;refine⟨u,f1,f2,?_,rfl,fI d u f1 (fun x hx=>hf x (by simp[hx])) h2,OwL_mono b ds (o+1) (fun j hj=>?_) f2 (fun x hx=>hf x (by simp[hx])) h3⟩
  ·have:=hc 0 (by simp);simp only[Nat.add_zero] at this;rw[this];exact h1
  ·have:=hc (j+1) (by simp;omega);rw[show o+1+j=o+(j+1) by omega];exact this
end
end mono
section nosh
variable {w:World} {ok ok':Nat->Prop}
mutual
theorem om:∀ (d:D) (u:Value) (fp:List Nat),ij d->Ow w ok d u fp->Ow w ok' d u fp
 | .v _,_,_,_,h=>by simpa[Ow] using h
 | .ez,_,_,_,h=>by simpa[Ow,Sh] using h
 | .sh ..,_,_,hn,_=>by simp[ij] at hn
 | .vp _,_,_,hn,_=>by simp[ij] at hn
 | .fn ..,_,_,hn,_=>by simp[ij] at hn
 | .ow k n cs,u,fp,hn,h=>by
  simp only[Ow] at h ⊢;rcases h with h | ⟨b,o,c,arr,T,fp',e,e2,h1,h2,h3,h4,h5⟩
  ·exact .inl h
  ·exact .inr ⟨b,o,c,arr,T,fp',e,e2,h1,h2,h3,h4,OwL_nosh b cs o fp' (by simpa[ij] using hn) h5⟩
 | .bx cs,u,fp,hn,h=>by
  simp only[Ow] at h ⊢;obtain⟨b,arr,T,fp',e,e2,h1,h2,h5⟩:=h;exact⟨b,arr,T,fp',e,e2,h1,h2,OwL_nosh b cs 0 fp' (by simpa[ij] using hn) h5⟩
 | .mp es,u,fp,_,h=>by simpa only [Ow] using h
 | .itr,u,fp,_,h=>by simpa only [Ow] using h
 | .gone,_,_,_,h=>by simpa[Ow] using h
theorem OwL_nosh (b:Nat):∀ (cs:List D) (o:Nat) (fp:List Nat),noShL cs->OwL w ok b cs o fp->OwL w ok' b cs o fp
 | [],_,_,_,h=>by simpa[OwL] using h
 | d :: ds,o,fp,hn,h=>by
  simp only[OwL] at h ⊢;simp only[noShL] at hn;obtain⟨u,f1,f2,h1,e,h2,h3⟩:=h;exact⟨u,f1,f2,h1,e,om d u f1 hn.1 h2,OwL_nosh b ds (o+1) f2 hn.2 h3⟩
end
end nosh
theorem jU:∀ cs:List D,(shareL cs).length=cs.length
 | []=>rfl
 | d :: ds=>by simp[shareL,jU ds]
section eX
variable {w:World} {ok ok':Nat->Prop} (hk:∀ b,ok b->ok' b)
include hk
mutual
theorem zT:∀ (d:D) (u:Value) (fp:List Nat),(∀ b∈fp,ok' b)->Ow w ok d u fp->Sh w ok' (eX d) u
 | .v _,_,_,_,h=>by simpa[eX,Sh,Ow] using And.right (by simpa[Ow] using h)
 | .ez,_,_,_,h=>by have:=h;simp only[Ow,Sh] at this;simpa[eX,Sh] using this.2
 | .sh k n cs,u,_,_,h=>by
  simp only[Ow] at h;simp only[eX];exact gh (fun b hb=>⟨hk b hb,rfl⟩) _ _ h.2
 | .vp cs,u,_,_,h=>by
  simp only[Ow] at h;simp only[eX];exact gh (fun b hb=>⟨hk b hb,rfl⟩) _ _ h.2
 | .fn f caps,u,_,_,h=>by
  simp only[Ow] at h;simp only[eX];exact gh (fun b hb=>⟨hk b hb,rfl⟩) _ _ h.2
 | .ow k n cs,u,fp,hf,h=>by
  simp only[Ow] at h;simp only[eX,Sh];rcases h with ⟨h1,h2,h3,a,h4⟩ | ⟨b,o,c,arr,T,fp',e,e2,h1,h2,h3,h4,h5⟩
  ·subst h1;subst h2;exact⟨a,0,h4,Nat.le_refl _,by simp[shareL],.inl rfl⟩
  ·subst e2;refine⟨_,c,e,h2.1,by rw[jU];exact h4,.inr ⟨b,o,rfl,hf b (by simp),ShL_share b cs o fp' (fun x hx=>hf x (by simp[hx])) h5⟩⟩
 | .bx cs,u,fp,hf,h=>by
  simp only[Ow] at h;simp only[eX,Sh];obtain⟨b,arr,T,fp',e,e2,h1,h2,h5⟩:=h;subst e2;exact⟨b,0,e,hf b (by simp),ShL_share b cs 0 fp' (fun x hx=>hf x (by simp[hx])) h5⟩
 | .mp es,u,fp,_,h=>by simp[eX,Sh]
 | .itr,u,fp,_,h=>by simp[eX,Sh]
 | .gone,_,_,_,h=>by simp[eX,Sh]
theorem ShL_share (b:Nat):∀ (cs:List D) (o:Nat) (fp:List Nat),(∀ b∈fp,ok' b)->OwL w ok b cs o fp->ShL w ok' b (shareL cs) o
 | [],_,_,_,_=>by simp[shareL,ShL]
 | d :: ds,o,fp,hf,h=>by
  simp only[OwL] at h;simp only[shareL,ShL];obtain⟨u,f1,f2,h1,e,h2,h3⟩:=h;subst e;exact⟨⟨u,h1,zT d u f1 (fun x hx=>hf x (by simp[hx])) h2⟩,ShL_share b ds (o+1) f2 (fun x hx=>hf x (by simp[hx])) h3⟩
end
end eX
theorem r9 {w:World} {ok:Nat->Prop} {b:Nat}:∀ {cs:List D} {o i:Nat} {d:D},ShL w ok b cs o->cs[i]? = some d->∃ u,w.cell? ⟨b,o+i,none⟩ = some u/\Sh w ok d u
 | [],_,_,_,_,h=>by simp at h
 | c :: cs,o,0,d,h,e=>by
  simp only[ShL] at h;simp only[List.getElem?_cons_zero,Option.some.injEq] at e;subst e;simpa using h.1
 | c :: cs,o,i+1,d,h,e=>by
  simp only[ShL] at h;simp only[List.getElem?_cons_succ] at e;have:=r9 h.2 e
  rwa [show o+1+i=o+(i+1) by omega] at this
theorem ka {w:World} {ok:Nat->Prop} {b:Nat}:∀ {cs:List D} {o:Nat} (i:Nat),ShL w ok b cs o->ShL w ok b (cs.drop i) (o+i)
 | cs,o,0,h=>by simpa using h
 | [],o,i+1,h=>by simp[ShL]
 | c :: cs,o,i+1,h=>by
  simp only[ShL] at h;have:=ka i h.2;rw[show o+(i+1)=o+1+i by omega];simpa using this
theorem oZ {w:World} {ok:Nat->Prop} {b:Nat}:∀ {cs:List D} {o:Nat} (i:Nat),ShL w ok b cs o->ShL w ok b (cs.take i) o
 | cs,o,0,h=>by simp[ShL]
 | [],o,i+1,h=>by simp[ShL]
 | c :: cs,o,i+1,h=>by
  simp only[ShL] at h;simp only[List.take_succ_cons,ShL];exact⟨h.1,oZ i h.2⟩
theorem ic {w:World} {ok:Nat->Prop} {b:Nat}:∀ {cs:List D} {o i:Nat} {x:D} {fp:List Nat},OwL w ok b cs o fp->cs[i]? = some x ->
  ∃ v f1 fx f2,fp=f1 ++ fx ++ f2/\w.cell? ⟨b,o+i,none⟩ = some v/\Ow w ok x v fx /\
   ∀ (w':World) (ok':Nat->Prop) (x':D) (v':Value) (fx':List Nat),(∀ b,ok b->ok' b/\w'.heap[b]? = w.heap[b]?)->w'.cell? ⟨b,o+i,none⟩ = some v'->Ow w' ok' x' v' fx' ->
    (∀ j,j < cs.length->j≠i->w'.cell? ⟨b,o+j,none⟩ = w.cell? ⟨b,o+j,none⟩)->(∀ q,q∈f1\/q∈f2->w'.heap[q]? = w.heap[q]?) ->
    OwL w' ok' b (cs.set i x') o (f1 ++ fx' ++ f2)
 | [],_,_,_,_,_,e=>by simp at e
 | c :: cs,o,0,x,fp,h,e=>by
  simp only[OwL] at h;obtain⟨u,g1,g2,h1,e1,h2,h3⟩:=h;simp only[List.getElem?_cons_zero,Option.some.injEq] at e;subst e;refine⟨u,[],g1,g2,by simpa using e1,by simpa using h1,h2,fun w' ok' x' v' fx' hk hc hx ho hf=>?_⟩;simp only[List.set_cons_zero,OwL,List.nil_append];refine⟨v',fx',g2,by simpa using hc,rfl,hx,OwL_mono hk b cs (o+1) (fun j hj=>?_) g2 (fun q hq=>hf q (.inr hq)) h3⟩;have:=ho (j+1) (by simp;omega) (by omega)
  rwa [show o+1+j=o+(j+1) by omega]
 | c :: cs,o,i+1,x,fp,h,e=>by
  simp only[OwL] at h;obtain⟨u,g1,g2,h1,e1,h2,h3⟩:=h;simp only[List.getElem?_cons_succ] at e;obtain⟨v,f1,fx,f2,e2,h4,h5,h6⟩:=ic h3 e;subst e1;subst e2;refine⟨v,g1 ++ f1,fx,f2,by simp,by rw[show o+(i+1)=o+1+i by omega];exact h4,h5,fun w' ok' x' v' fx' hk hc hx ho hf=>?_⟩;simp only[List.set_cons_succ,OwL];refine⟨u,g1,f1 ++ fx' ++ f2,?_,by simp,fI hk c u g1 (fun q hq=>hf q (.inl (by simp[hq]))) h2,h6 w' ok' x' v' fx' hk (by rw[show o+1+i=o+(i+1) by omega];exact hc) hx (fun j hj hne=>?_) (fun q hq=>hf q (by rcases hq with hq | hq <;> simp[hq]))⟩
  ·have:=ho 0 (by simp) (by omega);simp only[Nat.add_zero] at this;rw[this];exact h1
  ·have:=ho (j+1) (by simp;omega) (by omega)
   rwa [show o+1+j=o+(j+1) by omega]
theorem j6 {w:World} {ok:Nat->Prop} {d:D} {u:Value} {fp:List Nat} {cs:List D} (h:Ow w ok d u fp) (e:d.cells? = some cs) (hne:cs≠[]) :
  ∃ b o fp',gZ u=some (b,o)/\fp=b :: fp'/\OwL w ok b cs o fp'/\(∃ arr T,w.heap[b]? = some (.cells arr T (0,0))/\o+cs.length<=arr.size) /\
   ∀ (w':World) (ok':Nat->Prop) (cs':List D) (fp'':List Nat),cs'.length=cs.length->(∃ arr' T,w'.heap[b]? = some (.cells arr' T (0,0))/\∃ arr T',w.heap[b]? = some (.cells arr T' (0,0))/\arr.size=arr'.size) ->
    OwL w' ok' b cs' o fp''->Ow w' ok' (d.setCells cs') u (b :: fp''):=by
 cases d with
 | ow k n c0=>
  simp only[D.cells?,Option.some.injEq] at e;subst e;simp only[Ow] at h;rcases h with ⟨_,h2,_⟩ | ⟨b,o,c,arr,T,fp',e,e2,h1,h2,h3,h4,h5⟩
  ·exact absurd h2 hne
  ·refine⟨b,o,fp',by subst e;rfl,e2,h5,⟨arr,T,h1,by rw[h4];exact Nat.le_trans (Nat.add_le_add_left (Nat.mul_le_mul_left k h2.1) o) h3⟩,fun w' ok' cs' fp'' hl ⟨arr',T',hw,arr0,T0,h0,hs⟩ ho=>?_⟩;simp only[D.setCells,Ow];rw[h1] at h0
   cases h0
   exact .inr ⟨b,o,c,arr',T',fp'',e,rfl,hw,h2,by rw[<-hs];exact h3,by rw[hl];exact h4,ho⟩
 | bx c0=>
  simp only[D.cells?,Option.some.injEq] at e;subst e;simp only[Ow] at h;obtain⟨b,arr,T,fp',e,e2,h1,h2,h5⟩:=h;refine⟨b,0,fp',by subst e;rfl,e2,h5,⟨arr,T,h1,by omega⟩,fun w' ok' cs' fp'' hl ⟨arr',T',hw,arr0,T0,h0,hs⟩ ho=>?_⟩;simp only[D.setCells,Ow];rw[h1] at h0
  cases h0
  exact⟨b,arr',T',fp'',e,rfl,hw,by omega,ho⟩
 | _=>simp[D.cells?] at e
theorem fN {d:D} {cs cs':List D} (h:d.cells? = some cs):(d.setCells cs').cells? = some cs':=by
 cases d <;> simp[D.cells?,D.setCells] at h ⊢
mutual
theorem fY {w:World} {ok:Nat->Prop}:∀ (d:D) (u:Value) (fp fp':List Nat),Ow w ok d u fp->Ow w ok d u fp'->fp=fp'
 | .v _,_,_,_,h,h'=>by simp only[Ow] at h h';rw[h.1,h'.1]
 | .ez,_,_,_,h,h'=>by simp only[Ow] at h h';rw[h.1,h'.1]
 | .sh ..,_,_,_,h,h'=>by simp only[Ow] at h h';rw[h.1,h'.1]
 | .vp _,_,_,_,h,h'=>by simp only[Ow] at h h';rw[h.1,h'.1]
 | .fn ..,_,_,_,h,h'=>by simp only[Ow] at h h';rw[h.1,h'.1]
 | .ow k n cs,u,fp,fp',h,h'=>by
  simp only[Ow] at h h';rcases h with ⟨_,h2,h3,a,h4⟩ | ⟨b,o,c,arr,T,f1,e,e2,h1,h2,h3,h4,h5⟩ <;>
   rcases h' with ⟨_,h2',h3',a',h4'⟩ | ⟨b',o',c',arr',T',f1',e',e2',h1',h2',h3',h4',h5'⟩
  ·rw[h3,h3']
  ·subst h4;injection e' with _ _ e3;exact absurd e3.symm h2'.2
  ·subst h4';injection e with _ _ e3;exact absurd e3.symm h2.2
  ·subst e;injection e' with e3 _ _
   injection e3 with e3
   injection e3 with e3 e4 _
   subst e3;subst e4;rw[e2,e2',OwL_unique b cs o f1 f1' h5 h5']
 | .bx cs,u,fp,fp',h,h'=>by
  simp only[Ow] at h h';obtain⟨b,arr,T,f1,e,e2,h1,h2,h5⟩:=h;obtain⟨b',arr',T',f1',e',e2',h1',h2',h5'⟩:=h';subst e;injection e' with e3
  injection e3 with e3
  injection e3 with e3 _ _
  subst e3;rw[e2,e2',OwL_unique b cs 0 f1 f1' h5 h5']
 | .mp es,u,fp,fp',h,h'=>by
  simp only[Ow] at h h';obtain⟨m,en,cl,e,e2,h1⟩:=h;obtain⟨m',en',cl',e',e2',h1'⟩:=h';subst e;injection e' with e3
  injection e3 with e3
  subst e3;rw[e2,e2']
 | .itr,u,fp,fp',h,h'=>by
  simp only[Ow] at h h';obtain⟨b,m,s,x,l,e,e2,h1⟩:=h;obtain⟨b',m',s',x',l',e',e2',h1'⟩:=h';subst e;injection e' with e3
  injection e3 with e3
  injection e3 with e3 _ _
  subst e3;rw[e2,e2']
 | .gone,_,_,_,h,h'=>by simp only[Ow] at h h';rw[h,h']
theorem OwL_unique {w:World} {ok:Nat->Prop} (b:Nat):∀ (cs:List D) (o:Nat) (fp fp':List Nat),OwL w ok b cs o fp->OwL w ok b cs o fp'->fp=fp'
 | [],_,_,_,h,h'=>by simp only[OwL] at h h';rw[h,h']
 | d :: ds,o,fp,fp',h,h'=>by
  simp only[OwL] at h h';obtain⟨u,f1,f2,h1,e,h2,h3⟩:=h;obtain⟨u',f1',f2',h1',e',h2',h3'⟩:=h';rw[h1] at h1'
  cases h1'
  rw[e,e',fY d u f1 f1' h2 h2',OwL_unique b ds (o+1) f2 f2' h3 h3']
end
theorem Ba {w:World} {ok:Nat->Prop} {b:Nat} {cs:List D} {o i:Nat} {x:D} {fp fx:List Nat} {v:Value} (h:OwL w ok b cs o fp) (e:cs[i]? = some x)
  (hv:w.cell? ⟨b,o+i,none⟩ = some v) (hx:Ow w ok x v fx):∀ q∈fx,q∈fp:=by
 obtain⟨v',f1,fx',f2,e2,hv',hx',_⟩:=ic h e;rw[hv] at hv'
 cases hv'
 rw[fY x v fx fx' hx hx',e2];intro q hq;simp[hq]
theorem w9 {w:World} {ok:Nat->Prop} {b:Nat}:∀ {cs:List D} {o i j:Nat} {x z:D} {fp fx fz:List Nat} {v v2:Value},OwL w ok b cs o fp->fp.Nodup->cs[i]? = some x->cs[j]? = some z->i≠j ->
  w.cell? ⟨b,o+i,none⟩ = some v->Ow w ok x v fx->w.cell? ⟨b,o+j,none⟩ = some v2->Ow w ok z v2 fz->∀ q∈fx,q ∉ fz
 | [],_,_,_,_,_,_,_,_,_,_,_,_,e,_,_,_,_,_,_=>by simp at e
 | c :: cs,o,0,0,_,_,_,_,_,_,_,_,_,_,_,hne,_,_,_,_=>absurd rfl hne
 | c :: cs,o,0,j+1,x,z,fp,fx,fz,v,v2,h,hn,e1,e2,_,h1,h2,h3,h4=>by
  simp only[OwL] at h;obtain⟨u,g1,g2,k1,e,k2,k3⟩:=h;simp only[List.getElem?_cons_zero,Option.some.injEq] at e1;simp only[List.getElem?_cons_succ] at e2;subst e1;subst e;simp only[Nat.add_zero] at h1;rw[k1] at h1
  cases h1
  rw[show o+(j+1)=o+1+j by omega] at h3;intro q hq hz;have a1:q∈g1:=fY _ _ _ _ h2 k2 ▸ hq;have a2:=Ba k3 e2 h3 h4 q hz;exact (List.nodup_append.1 hn).2.2 q a1 q a2 rfl
 | c :: cs,o,i+1,0,x,z,fp,fx,fz,v,v2,h,hn,e1,e2,_,h1,h2,h3,h4=>by
  simp only[OwL] at h;obtain⟨u,g1,g2,k1,e,k2,k3⟩:=h;simp only[List.getElem?_cons_zero,Option.some.injEq] at e2;simp only[List.getElem?_cons_succ] at e1;subst e2;subst e;simp only[Nat.add_zero] at h3;rw[k1] at h3
  cases h3
  rw[show o+(i+1)=o+1+i by omega] at h1;intro q hq hz;have a1:q∈g1:=fY _ _ _ _ h4 k2 ▸ hz;have a2:=Ba k3 e1 h1 h2 q hq;exact (List.nodup_append.1 hn).2.2 q a1 q a2 rfl
 | c :: cs,o,i+1,j+1,x,z,fp,fx,fz,v,v2,h,hn,e1,e2,hne,h1,h2,h3,h4=>by
  simp only[OwL] at h;obtain⟨u,g1,g2,k1,e,k2,k3⟩:=h;simp only[List.getElem?_cons_succ] at e1 e2;subst e;exact w9 k3 (List.nodup_append.1 hn).2.1 e1 e2 (by omega) (by rw[show o+1+i=o+(i+1) by omega];exact h1) h2 (by rw[show o+1+j=o+(j+1) by omega];exact h3) h4
theorem gX {w w':World} {ok:Nat->Prop}:∀ (q:List Nat) (d:D) (u:Value) (fp:List Nat) (x:D),Ow w ok d u fp->(∀ b∈fp,w'.heap[b]? = w.heap[b]?)->bw d q=some x->hdr w' u q=hdr w u q
 | [],_,_,_,_,_,_,_=>by simp[hdr]
 | i :: q,d,u,fp,x,h,hf,hl=>by
  simp only[bw] at hl;split at hl
  ·rename_i cs hc;split at hl
   ·rename_i y hy;obtain⟨b,o,fp',hb,e,hO,_,_⟩:=j6 h hc (by rintro rfl;simp at hy);obtain⟨v,f1,fx,f2,e2,hv,hx,_⟩:=ic hO hy;subst e;subst e2;simp only[hdr,hb];rw[iz (hf b (by simp)),hv];simp only;exact gX q y v fx x hx (fun b hb=>hf b (by simp[hb])) hl
   ·simp at hl
  ·simp at hl
def cH:D->D->Prop
 | .ow k n cs,.ow k' n' cs'=>k=k'/\n=n'/\cs.length=cs'.length
 | .bx cs,.bx cs'=>cs.length=cs'.length
 | x,y=>x=y
theorem bX (d:D):cH d d:=by cases d <;> simp[cH]
theorem iM:∀ (p:List Nat) (d o e:D) (q:List Nat),bw d p=some o->bw (c5 d p e) (p ++ q)=bw e q
 | [],_,_,_,_,_=>by simp[c5]
 | i :: p,d,o,e,q,h=>by
  simp only[bw] at h;split at h
  ·rename_i cs hc;split at h
   ·rename_i y hy;have hlt:i < cs.length:=by
     rcases Nat.lt_or_ge i cs.length with h' | h'
     ·exact h'
     ·simp[List.getElem?_eq_none h'] at hy
    simp only[c5,hc,List.cons_append,bw,fN hc,List.getElem?_modify];simp only[hy,↓reduceIte,Option.map_some];exact iM p y o e q h
   ·simp at h
  ·simp at h
theorem fH {d:D} {cs cs':List D} (h:d.cells? = some cs) (hl:cs'.length=cs.length):cH d (d.setCells cs'):=by
 cases d <;> simp[D.cells?,D.setCells,cH] at h ⊢
 ·subst h;exact hl.symm
 ·subst h;exact hl.symm
theorem iO:∀ (p:List Nat) (d o e:D) (q:List Nat) (x:D),bw d p=some o->bw d q=some x->cj p q=false->∃ x',bw (c5 d p e) q=some x'/\cH x x'
 | [],_,_,_,_,_,_,_,h=>by simp[cj] at h
 | i :: p,d,o,e,[],x,h,hq,_=>by
  simp only[bw] at h hq;split at h
  ·rename_i cs hc
   cases hq
   refine⟨c5 d (i :: p) e,rfl,?_⟩;simp only[c5,hc];exact fH hc (by simp)
  ·simp at h
 | i :: p,d,o,e,j :: q,x,h,hq,hp=>by
  simp only[bw] at h hq;split at h
  ·rename_i cs hc;simp only[hc] at hq;simp only[c5,hc,bw,fN hc,List.getElem?_modify];split at h
   ·rename_i y hy;split at hq
    ·rename_i z hz
     by_cases hij:i=j
     ·subst hij;simp only[cj,↓reduceIte] at hp;rw[hy] at hz
      cases hz
      simp only[hy,↓reduceIte,Option.map_some];exact iO p y o e q x h hq hp
     ·simp only[if_neg hij,hz,Option.map_some,id];exact⟨x,by simpa using hq,bX x⟩
    ·simp at hq
   ·simp at h
  ·simp at h
theorem uR {w:World} {ok:Nat->Prop}:∀ (p:List Nat) (d:D) (u:Value) (fp:List Nat) (o:D),Ow w ok d u fp->fp.Nodup->bw d p=some o ->
  ∃ hv fo,hdr w u p=some hv/\Ow w ok o hv fo/\fo.Nodup/\(∀ b∈fo,b∈fp) /\
   ∀ (w':World) (ok':Nat->Prop) (o':D) (fo':List Nat),(∀ b∈fp,b ∉ fo->w'.heap[b]? = w.heap[b]?)->(∀ b,ok b->ok' b/\w'.heap[b]? = w.heap[b]?)->Ow w' ok' o' hv fo'->fo'.Nodup ->
    (∀ b∈fo',b∈fo\/b ∉ fp) ->
    (∃ fp',Ow w' ok' (c5 d p o') u fp'/\fp'.Nodup/\(∀ b∈fp',b∈fo'\/(b∈fp/\b ∉ fo))) /\
    (∀ q x,bw d q=some x->cj p q=false->hdr w' u q=hdr w u q)/\hdr w' u p=some hv
 | [],d,u,fp,o,h,hn,hl=>by
  simp only[bw,Option.some.injEq] at hl;subst hl;exact⟨u,fp,by simp[hdr],h,hn,fun _ h=>h,fun w' ok' o' fo' _ _ ho hn' _=>⟨⟨fo',by simpa[c5] using ho,hn',fun b hb=>.inl hb⟩,fun q x _ hq=>by simp[cj] at hq,by simp[hdr]⟩⟩
 | i :: p,d,u,fp,o,h,hn,hl=>by
  simp only[bw] at hl;split at hl
  ·rename_i cs hc;split at hl
   ·rename_i y hy;obtain⟨b,off,fp',hb,e,hO,⟨arr,T,hheap,hsz⟩,hre⟩:=j6 h hc (by rintro rfl;simp at hy);obtain⟨v,f1,fx,f2,e2,hv,hx,hset⟩:=ic hO hy;subst e;subst e2;have hlt:i < cs.length:=by
     rcases Nat.lt_or_ge i cs.length with h' | h'
     ·exact h'
     ·simp[List.getElem?_eq_none h'] at hy
    have hnd:=hn;simp only[List.nodup_cons,List.nodup_append,List.mem_append,not_or] at hnd;obtain⟨⟨⟨hb1,hb2⟩,hb3⟩,⟨hn1,hn2,hd1⟩,hn3,hd2⟩:=hnd;obtain⟨hv',fo,h1,h2,h3,h4,h5⟩:=uR p y v fx o hx hn2 hl;refine⟨hv',fo,by simp only[hdr,hb,hv];exact h1,h2,h3,fun q hq=>by simp[h4 q hq],fun w' ok' o' fo' hw hk ho hn' hd=>?_⟩;have hbf:b ∉ fo:=fun hbo=>hb2 (h4 b hbo);have hwb:w'.heap[b]? = w.heap[b]?:=hw b (by simp) hbf;have g1:∀ q,q∈f1\/q∈f2->w'.heap[q]? = w.heap[q]?:=fun q hq=>by
     refine hw q (by rcases hq with hq | hq <;> simp[hq]) fun hqo=>?_;have:=h4 q hqo;rcases hq with hq | hq
     ·exact hd1 q hq q this rfl
     ·exact hd2 q (.inr this) q hq rfl
    obtain⟨⟨fp1,k1,k2,k3⟩,k4,k5⟩:=h5 w' ok' o' fo' (fun q hq hqo=>hw q (by simp[hq]) hqo) hk ho hn' (fun q hq=>(hd q hq).imp id fun hnq hqx=>hnq (by simp[hqx]));have hsetw:=hset w' ok' (c5 y p o') v fp1 hk (by rw[iz hwb];exact hv) k1 (fun j _ _=>iz hwb) g1;have hmod:cs.modify i (fun x=>c5 x p o')=cs.set i (c5 y p o'):=by
     apply List.ext_getElem?;intro j;simp only[List.getElem?_modify,List.getElem?_set]
     by_cases hij:i=j
     ·subst hij;have hyy:cs[i]=y:=by simpa[List.getElem?_eq_getElem hlt] using hy
      simp[hlt,hyy]
     ·simp[hij]
    have kk3:∀ q∈fp1,q ∉ f1/\q ∉ f2/\q≠b:=fun q hq=>by
     rcases k3 q hq with h' | ⟨h',_⟩
     ·rcases hd q h' with h'' | h''
      ·have hqx:=h4 q h'';exact⟨fun h=>hd1 q h q hqx rfl,fun h=>hd2 q (.inr hqx) q h rfl,fun h=>hb2 (h ▸ hqx)⟩
      ·simp only[List.mem_cons,List.mem_append,not_or] at h'';exact⟨h''.2.1.1,h''.2.2,h''.1⟩
     ·exact⟨fun h=>hd1 q h q h' rfl,fun h=>hd2 q (.inr h') q h rfl,fun h=>hb2 (h ▸ h')⟩
    refine⟨⟨b :: (f1 ++ fp1 ++ f2),?_,?_,?_⟩,?_,?_⟩
    ·simp only[c5,hc,hmod];exact hre w' ok' _ _ (by simp) ⟨arr,T,by rw[hwb];exact hheap,arr,T,hheap,rfl⟩ hsetw
    ·simp only[List.nodup_cons,List.nodup_append,List.mem_append,not_or];refine⟨⟨⟨hb1,fun h=>(kk3 b h).2.2 rfl⟩,hb3⟩,⟨hn1,k2,fun a ha c hcc he=>(kk3 c hcc).1 (he ▸ ha)⟩,hn3,fun a ha c hcc he=>?_⟩;rcases ha with ha | ha
     ·exact hd2 a (.inl ha) c hcc he
     ·exact (kk3 a ha).2.1 (he ▸ hcc)
    ·intro q hq;simp only[List.mem_cons,List.mem_append] at hq ⊢;rcases hq with rfl | ((hq | hq) | hq)
     ·exact .inr ⟨.inl rfl,hbf⟩
     ·exact .inr ⟨.inr (.inl (.inl hq)),fun ho=>hd1 q hq q (h4 q ho) rfl⟩
     ·rcases k3 q hq with h' | ⟨h',h''⟩
      ·exact .inl h'
      ·exact .inr ⟨.inr (.inl (.inr h')),h''⟩
     ·exact .inr ⟨.inr (.inr hq),fun ho=>hd2 q (.inr (h4 q ho)) q hq rfl⟩
    ·intro q x hq hp
     cases q with
     | nil=>simp[hdr]
     | cons j q=>
      simp only[bw,hc] at hq;split at hq
      ·rename_i z hz
       by_cases hij:i=j
       ·subst hij;rw[hy] at hz
        cases hz
        simp only[cj,↓reduceIte] at hp;simp only[hdr,hb];rw[iz hwb,hv];exact k4 q x hq hp
       ·obtain⟨v2,a1,ax,a2,e3,hv2,hx2,_⟩:=ic hO hz;simp only[hdr,hb];rw[iz hwb,hv2];refine gX q z v2 ax x hx2 (fun c hcx=>?_) hq
        -- the blocks of another cell are none of the object's
        refine hw c (by rw[e3];simp[hcx]) fun hco=>?_;exact w9 hO (List.nodup_cons.1 hn).2 hz hy (fun h=>hij h.symm) hv2 hx2 hv hx c hcx (h4 c hco)
      ·simp at hq
    ·simp only[hdr,hb];rw[iz hwb,hv];exact k5
   ·simp at hl
  ·simp at hl
end Go.Proofs.YtncfmemhjahpeaaGreat.Ab
namespace Go.Proofs.YtncfmemhjahpeaaGreat.Ab
open Go
structure Rts (w:World) (ok:Nat->Prop) (B:Nat->Prop) (rts:Rn->Option D) (ρ:Rn->Value) (φ:Rn->List Nat):Prop where
 own:∀ r d,rts r=some d->Ow w ok d (ρ r) (φ r)/\(φ r).Nodup/\∀ b∈φ r,B b
 dis:∀ r r' d d',r≠r'->rts r=some d->rts r'=some d'->∀ b∈φ r,b ∉ φ r'
def dn (rts:Rn->Option D) (r:Rn) (p:List Nat):Option D:=match rts r with | some d=>bw d p | none=>none
theorem kO (σ:St) (r:Rn) (p:List Nat):σ.obj r p=dn σ.rts r p:=rfl
def dg (rts:Rn->Option D) (r:Rn) (d:Option D):Rn->Option D:=fun q=>if q=r then d else rts q
def upR {α:Type} (f:Rn->α) (r:Rn) (x:α):Rn->α:=fun q=>if q=r then x else f q
theorem ii:∀ (p q:List Nat) (d:D),bw d (p ++ q)=(bw d p).bind fun o=>bw o q
 | [],q,d=>by simp[bw]
 | i :: p,q,d=>by
  simp only[List.cons_append,bw];split
  ·split
   ·exact ii p q _
   ·rfl
  ·rfl
theorem jw {w:World}:∀ (p q:List Nat) (u:Value),hdr w u (p ++ q)=(hdr w u p).bind fun v=>hdr w v q
 | [],q,d=>by simp[hdr]
 | i :: p,q,d=>by
  simp only[List.cons_append,hdr];split
  ·split
   ·exact jw p q _
   ·rfl
  ·rfl
theorem fg:∀ {p s:List Nat},cj p s=true->∃ q,s=p ++ q
 | [],s,_=>⟨s,rfl⟩
 | i :: p,[],h=>by simp[cj] at h
 | i :: p,j :: s,h=>by
  simp only[cj] at h;split at h
  ·rename_i e;obtain⟨q,hq⟩:=fg h;exact⟨q,by simp[e,hq]⟩
  ·simp at h
theorem yE (p q:List Nat):cj p (p ++ q)=true:=by
 induction p with
 | nil=>simp[cj]
 | cons i p ih=>simpa[cj] using ih
section
variable {w:World} {ok:Nat->Prop} {B:Nat->Prop} {rts:Rn->Option D} {ρ:Rn->Value} {φ:Rn->List Nat}
structure At (w:World) (ok:Nat->Prop) (rts:Rn->Option D) (ρ:Rn->Value) (φ:Rn->List Nat) (r:Rn) (p:List Nat) (o:D) (hv:Value) (fo:List Nat):Prop where
 hdr:hdr w (ρ r) p=some hv
 own:Ow w ok o hv fo
 nod:fo.Nodup
 sub:∀ b∈fo,b∈φ r
theorem Rts.at_ (h:Rts w ok B rts ρ φ) {r:Rn} {p:List Nat} {o:D} (ho:dn rts r p=some o):∃ hv fo,At w ok rts ρ φ r p o hv fo:=by
 unfold dn at ho;split at ho
 ·rename_i d hd;obtain⟨h1,h2,h3⟩:=h.own r d hd;obtain⟨hv,fo,k1,k2,k3,k4,_⟩:=uR p d (ρ r) (φ r) o h1 h2 ho;exact⟨hv,fo,k1,k2,k3,k4⟩
 ·simp at ho
theorem Rts.replace (h:Rts w ok B rts ρ φ) {r:Rn} {p:List Nat} {d o:D} {hv:Value} {fo:List Nat} (hd:rts r=some d) (hl:bw d p=some o)
  (hat:At w ok rts ρ φ r p o hv fo) {w':World} {ok' B':Nat->Prop} {o':D} {fo':List Nat}
  (hw:∀ b,b ∉ fo->(∃ q e,rts q=some e/\b∈φ q)->w'.heap[b]? = w.heap[b]?) (hk:∀ b,ok b->ok' b/\w'.heap[b]? = w.heap[b]?)
  (ho:Ow w' ok' o' hv fo') (hn:fo'.Nodup) (hf:∀ b∈fo',b∈fo\/∀ q e,rts q=some e->b ∉ φ q) (hB:∀ b∈fo',B' b) (hBB:∀ b,b ∉ fo->B b->B' b) :
  ∃ φ',Rts w' ok' B' (dg rts r (some (c5 d p o'))) ρ φ'/\(∀ q,q≠r->φ' q=φ q)/\(∀ b∈φ' r,b∈fo'\/(b∈φ r/\b ∉ fo)) /\
   hdr w' (ρ r) p=some hv /\
   (∀ s x,dn rts r s=some x->cj p s=false->hdr w' (ρ r) s=hdr w (ρ r) s/\∃ x',bw (c5 d p o') s=some x'/\cH x x') /\
   (∀ s,bw (c5 d p o') (p ++ s)=bw o' s) /\
   (∀ q s x,q≠r->dn rts q s=some x->hdr w' (ρ q) s=hdr w (ρ q) s):=by
 obtain⟨h1,h2,h3⟩:=h.own r d hd;obtain⟨hv2,fo2,k1,k2,k3,k4,k5⟩:=uR p d (ρ r) (φ r) o h1 h2 hl;have e1:hv2=hv:=by have:=hat.hdr;rw[k1] at this;injection this
 subst e1;have e2:fo2=fo:=fY _ _ _ _ k2 hat.own;subst e2;obtain⟨⟨fp',g1,g2,g3⟩,g4,g5⟩:=k5 w' ok' o' fo' (fun b hb hbo=>hw b hbo ⟨r,d,hd,hb⟩) hk ho hn (fun b hb=>(hf b hb).imp id fun hh=>hh r d hd);refine⟨upR φ r fp',⟨fun q e he=>?_,fun q q' e e' hne he he' b hb hb'=>?_⟩,fun q hq=>by simp[upR,hq],fun b hb=>?_,g5,fun s x hs hp=>?_,fun s=>iM p d o o' s hl,fun q s x hq hs=>?_⟩
 ·by_cases hq:q=r
  ·subst hq;simp only[dg,↓reduceIte,Option.some.injEq] at he;subst he;simp only[upR,↓reduceIte];refine⟨g1,g2,fun b hb=>?_⟩;rcases g3 b hb with hb | ⟨hb,hb2⟩
   ·exact hB b hb
   ·exact hBB b hb2 (h3 b hb)
  ·simp only[dg,if_neg hq] at he;simp only[upR,if_neg hq];obtain⟨a1,a2,a3⟩:=h.own q e he;have hno:∀ b∈φ q,b ∉ fo2:=fun b hb hb2=>h.dis q r e d hq he hd b hb (k4 b hb2);exact⟨fI hk e _ _ (fun b hb=>hw b (hno b hb) ⟨q,e,he,hb⟩) a1,a2,fun b hb=>hBB b (hno b hb) (a3 b hb)⟩
 ·have key:∀ q e,q≠r->rts q=some e->∀ b∈φ q,b ∉ fp':=fun q e hq he b hb hb'=>by
   rcases g3 b hb' with h' | ⟨h',_⟩
   ·rcases hf b h' with h'' | h''
    ·exact h.dis q r e d hq he hd b hb (k4 b h'')
    ·exact h'' q e he hb
   ·exact h.dis q r e d hq he hd b hb h'
  by_cases hq:q=r
  ·subst hq;have hq':q'≠q:=fun hh=>hne hh.symm;simp only[dg,if_neg hq'] at he';simp only[upR,↓reduceIte,if_neg hq'] at hb hb';exact key q' e' hq' he' b hb' hb
  ·simp only[dg,if_neg hq] at he;simp only[upR,if_neg hq] at hb
   by_cases hq':q'=r
   ·subst hq';simp only[upR,↓reduceIte] at hb';exact key q e hq he b hb hb'
   ·simp only[dg,if_neg hq'] at he';simp only[upR,if_neg hq'] at hb';exact h.dis q q' e e' hne he he' b hb hb'
 ·simp only[upR,↓reduceIte] at hb;exact g3 b hb
 ·simp only[dn,hd] at hs;exact⟨g4 s x hs hp,iO p d o o' s x hl hs hp⟩
 ·unfold dn at hs;split at hs
  ·rename_i e he;obtain⟨a1,a2,a3⟩:=h.own q e he;exact gX s e _ _ x a1 (fun b hb=>hw b (fun hb2=>h.dis q r e d hq he hd b hb (k4 b hb2)) ⟨q,e,he,hb⟩) hs
  ·simp at hs
theorem Rts.new (h:Rts w ok B rts ρ φ) {r:Rn} {d:D} {u:Value} {fp:List Nat} {w':World} {ok' B':Nat->Prop}
  (hw:∀ b,(∃ q e,rts q=some e/\b∈φ q)->w'.heap[b]? = w.heap[b]?) (hk:∀ b,ok b->ok' b/\w'.heap[b]? = w.heap[b]?)
  (ho:Ow w' ok' d u fp) (hn:fp.Nodup) (hf:∀ b∈fp,∀ q e,q≠r->rts q=some e->b ∉ φ q) (hB:∀ b∈fp,B' b) (hBB:∀ b,B b->B' b) :
  Rts w' ok' B' (dg rts r (some d)) (upR ρ r u) (upR φ r fp):=by
 refine⟨fun q e he=>?_,fun q q' e e' hne he he' b hb hb'=>?_⟩
 ·by_cases hq:q=r
  ·subst hq;simp only[dg,↓reduceIte,Option.some.injEq] at he;subst he;simp only[upR,↓reduceIte];exact⟨ho,hn,hB⟩
  ·simp only[dg,if_neg hq] at he;simp only[upR,if_neg hq];obtain⟨a1,a2,a3⟩:=h.own q e he;exact⟨fI hk e _ _ (fun b hb=>hw b ⟨q,e,he,hb⟩) a1,a2,fun b hb=>hBB b (a3 b hb)⟩
 ·by_cases hq:q=r
  ·subst hq;have hq':q'≠q:=fun hh=>hne hh.symm;simp only[dg,if_neg hq'] at he';simp only[upR,↓reduceIte,if_neg hq'] at hb hb';exact hf b hb q' e' hq' he' hb'
  ·simp only[dg,if_neg hq] at he;simp only[upR,if_neg hq] at hb
   by_cases hq':q'=r
   ·subst hq';simp only[upR,↓reduceIte] at hb';exact hf b hb' q e hq he hb
   ·simp only[dg,if_neg hq'] at he';simp only[upR,if_neg hq'] at hb';exact h.dis q q' e e' hne he he' b hb hb'
theorem lR {r q:Rn} {e:D} (h:dg rts r none q=some e):rts q=some e:=by
 unfold dg at h;split at h
 ·simp at h
 ·exact h
theorem Rts.drop (h:Rts w ok B rts ρ φ) (r:Rn):Rts w ok B (dg rts r none) ρ φ:=
 ⟨fun q e he=>h.own q e (lR he),fun q q' e e' hne he he'=>h.dis q q' e e' hne (lR he) (lR he')⟩
theorem Rts.mono (h:Rts w ok B rts ρ φ) {w':World} {ok' B':Nat->Prop} (hw:∀ b,(∃ q e,rts q=some e/\b∈φ q)->w'.heap[b]? = w.heap[b]?)
  (hk:∀ b,ok b->ok' b/\w'.heap[b]? = w.heap[b]?) (hBB:∀ b,B b->B' b):Rts w' ok' B' rts ρ φ:=
 ⟨fun q e he=>by
  obtain⟨a1,a2,a3⟩:=h.own q e he;exact⟨fI hk e _ _ (fun b hb=>hw b ⟨q,e,he,hb⟩) a1,a2,fun b hb=>hBB b (a3 b hb)⟩,h.dis⟩
theorem Rts.hdr_mono (h:Rts w ok B rts ρ φ) {w':World} (hw:∀ b,(∃ q e,rts q=some e/\b∈φ q)->w'.heap[b]? = w.heap[b]?) {q:Rn} {s:List Nat} {x:D}
  (hs:dn rts q s=some x):hdr w' (ρ q) s=hdr w (ρ q) s:=by
 unfold dn at hs;split at hs
 ·rename_i e he;obtain⟨a1,a2,a3⟩:=h.own q e he;exact gX s e _ _ x a1 (fun b hb=>hw b ⟨q,e,he,hb⟩) hs
 ·simp at hs
theorem pQ {d:D} {u:Value} {fp:List Nat} (h:Ow w ok d u fp) (hg:d≠.gone) (hv:∀ x,d = .v x->x.oneCell'=true):u.oneCell'=true:=by
 cases d with
 | v x=>simp only[Ow] at h;rw[h.2];exact hv x rfl
 | ez=>simp only[Ow,Sh] at h;obtain⟨_,a,e⟩:=h;rw[e];rfl
 | sh k n cs=>simp only[Ow,Sh] at h;obtain⟨_,a,c,e,_⟩:=h;rw[e];rfl
 | vp cs=>simp only[Ow,Sh] at h;obtain⟨_,b,o,e,_⟩:=h;rw[e];rfl
 | fn f cs=>simp only[Ow,Sh] at h;obtain⟨_,b,e,_⟩:=h;rw[e];rfl
 | ow k n cs=>
  simp only[Ow] at h;rcases h with ⟨_,_,_,a,e⟩ | ⟨b,o,c,arr,T,fp',e,_⟩ <;> (rw[e];rfl)
 | bx cs=>simp only[Ow] at h;obtain⟨b,arr,T,fp',e,_⟩:=h;rw[e];rfl
 | mp es=>simp only[Ow] at h;obtain⟨b,arr,T,e,_⟩:=h;rw[e];rfl
 | itr=>simp only[Ow] at h;obtain⟨b,m,s,x,l,e,_⟩:=h;rw[e];rfl
 | gone=>exact absurd rfl hg
theorem sE {w:World} {b o:Nat} {arr:Array Value} {T:TypeId} {v:Value} (h:w.heap[b]? = some (.cells arr T (0,0))) :
  (w.setCell ⟨b,o,none⟩ v).heap[b]? = some (.cells (arr.setIfInBounds o v) T (0,0)):=by
 simp[World.setCell,Array.getElem?_modify,h]
theorem mw {w:World} {b o:Nat} {arr:Array Value} {T:TypeId} (h:w.heap[b]? = some (.cells arr T (0,0))):w.frozen? ⟨b,o,none⟩ = false:=by
 simp[World.frozen?,h]
theorem Rts.write (h:Rts w ok B rts ρ φ) (hB:∀ b,B b->¬ ok b) {r:Rn} {p:List Nat} {i:Nat} {d o old e:D} {cs:List D} {v:Value} {fe:List Nat} (hd:rts r=some d) (hl:bw d p=some o)
  (hc:o.cells? = some cs) (hi:cs[i]? = some old) (he:Ow w ok e v fe) (hen:fe.Nodup) (heB:∀ b∈fe,B b) (hed:∀ q e,rts q=some e->∀ b∈φ q,b ∉ fe) :
  ∃ hv b q,hdr w (ρ r) p=some hv/\gZ hv=some (b,q)/\B b/\(∃ u,w.cell? ⟨b,q+i,none⟩ = some u)/\w.frozen? ⟨b,q+i,none⟩ = false /\
   ∃ φ',Rts (w.setCell ⟨b,q+i,none⟩ v) ok B (dg rts r (some (c5 d p (o.setCells (cs.set i e))))) ρ φ' /\
    (∀ s x,s≠r->dn rts s x≠none->hdr (w.setCell ⟨b,q+i,none⟩ v) (ρ s) x=hdr w (ρ s) x) /\
    (∀ s x,dn rts r s=some x->cj (p ++ [i]) s=false->hdr (w.setCell ⟨b,q+i,none⟩ v) (ρ r) s=hdr w (ρ r) s /\
      ∃ x',bw (c5 d p (o.setCells (cs.set i e))) s=some x'/\cH x x') /\
    (∀ s x,bw e s=some x->bw (c5 d p (o.setCells (cs.set i e))) (p ++ [i] ++ s)=some x/\hdr (w.setCell ⟨b,q+i,none⟩ v) (ρ r) (p ++ [i] ++ s)=hdr w v s):=by
 have hlt:i < cs.length:=by
  rcases Nat.lt_or_ge i cs.length with h' | h'
  ·exact h'
  ·simp[List.getElem?_eq_none h'] at hi
 obtain⟨hv,fo,hat⟩:=h.at_ (r:=r) (p:=p) (o:=o) (by simp only[dn,hd];exact hl);obtain⟨b,q,fp',hb,e1,hO,⟨arr,T,hheap,hsz⟩,hre⟩:=j6 hat.own hc (by rintro rfl;simp at hi);obtain⟨u,f1,fx,f2,e2,hu,hx,hset⟩:=ic hO hi;subst e1;subst e2;have hbB:B b:=(h.own r d hd).2.2 b (hat.sub b (by simp));have hnb:∀ c,c≠b->(w.setCell ⟨b,q+i,none⟩ v).heap[c]? = w.heap[c]?:=fun c hc=>Go.RowKit.Below.heap_setCell w ⟨b,q+i,none⟩ v c hc;have hnd:=hat.nod;simp only[List.nodup_cons,List.nodup_append,List.mem_append,not_or] at hnd;obtain⟨⟨⟨hb1,hb2⟩,hb3⟩,⟨hn1,hn2,hd1⟩,hn3,hd2⟩:=hnd;have hbe:b ∉ fe:=hed r d hd b (hat.sub b (by simp));have hfe:∀ c∈f1 ++ fx ++ f2,c ∉ fe:=fun c hc=>hed r d hd c (hat.sub c (List.mem_cons_of_mem _ hc));have hk:∀ c,ok c->ok c/\(w.setCell ⟨b,q+i,none⟩ v).heap[c]? = w.heap[c]?:=fun c hc=>⟨hc,hnb c (fun e=>hB b hbB (e ▸ hc))⟩;have heW:Ow (w.setCell ⟨b,q+i,none⟩ v) ok e v fe:=fI hk e v fe (fun c hc=>hnb c (fun e=>hbe (e ▸ hc))) he;have hcell:(w.setCell ⟨b,q+i,none⟩ v).cell? ⟨b,q+i,none⟩ = some v:=World.cell?_setCell_same w ⟨b,q+i,none⟩ v hu;have hoL:=hset (w.setCell ⟨b,q+i,none⟩ v) ok e v fe hk hcell heW (fun j _ hj=>World.cell?_setCell_other w ⟨b,q+i,none⟩ ⟨b,q+j,none⟩ v (by simp;omega))
  (fun c hc=>hnb c (fun e=>by subst e;exact hc.elim hb1 hb3))
 have hOw:=hre (w.setCell ⟨b,q+i,none⟩ v) ok (cs.set i e) (f1 ++ fe ++ f2) (by simp) ⟨_,T,sE hheap,arr,T,hheap,by simp⟩ hoL;have hnod:(b :: (f1 ++ fe ++ f2)).Nodup:=by
  simp only[List.nodup_cons,List.nodup_append,List.mem_append,not_or];refine⟨⟨⟨hb1,hbe⟩,hb3⟩,⟨hn1,hen,fun x hx y hy e=>hfe x (by simp[hx]) (e ▸ hy)⟩,hn3,fun x hx y hy e=>?_⟩;rcases hx with hx | hx
  ·exact hd2 x (.inl hx) y hy e
  ·exact hfe y (by simp[hy]) (e ▸ hx)
 obtain⟨φ',r1,r2,r3,r4,r5,r6,r7⟩:=h.replace hd hl hat (w':=w.setCell ⟨b,q+i,none⟩ v) (ok':=ok) (B':=B) (o':=o.setCells (cs.set i e)) (fo':=b :: (f1 ++ fe ++ f2))
  (fun c hc _=>hnb c (fun e=>hc (by simp[e]))) hk hOw hnod
  (fun c hc=>by
   simp only[List.mem_cons,List.mem_append] at hc ⊢;rcases hc with rfl | ((hc | hc) | hc)
   ·exact .inl (.inl rfl)
   ·exact .inl (.inr (.inl (.inl hc)))
   ·exact .inr fun q e hq hcq=>hed q e hq c hcq hc
   ·exact .inl (.inr (.inr hc)))
  (fun c hc=>by
   simp only[List.mem_cons,List.mem_append] at hc;rcases hc with rfl | ((hc | hc) | hc)
   ·exact hbB
   ·exact (h.own r d hd).2.2 c (hat.sub c (by simp[hc]))
   ·exact heB c hc
   ·exact (h.own r d hd).2.2 c (hat.sub c (by simp[hc])))
  (fun c _ hc=>hc)
 refine⟨hv,b,q,hat.hdr,hb,hbB,⟨u,hu⟩,mw hheap,φ',r1,fun s x hs hx=>?_,fun s x hx hp=>?_,fun s x hx=>?_⟩
 ·cases hxx:dn rts s x with
  | none=>exact absurd hxx hx
  | some y=>exact r7 s x y hs hxx
 ·by_cases hps:cj p s=true
  ·obtain⟨t,rfl⟩:=fg hps;rw[r6 t,jw,jw,r4,hat.hdr];simp only[Option.bind_some];simp only[dn,hd,ii,hl,Option.bind_some] at hx
   cases t with
   | nil=>
    simp only[bw,Option.some.injEq] at hx;subst hx;exact⟨by simp[hdr],o.setCells (cs.set i e),by simp[bw],fH hc (by simp)⟩
   | cons j t=>
    have hji:i≠j:=by
     rintro rfl;rw[show p ++ i :: t=(p ++ [i]) ++ t by simp,yE] at hp;simp at hp
    simp only[bw,hc] at hx;simp only[bw,fN hc,List.getElem?_set_ne hji,hdr,hb];split at hx
    ·rename_i z hz;obtain⟨v2,a1,ax,a2,e3,hv2,hx2,_⟩:=ic hO hz;have:(w.setCell ⟨b,q+i,none⟩ v).cell? ⟨b,q+j,none⟩ = w.cell? ⟨b,q+j,none⟩:=World.cell?_setCell_other w ⟨b,q+i,none⟩ ⟨b,q+j,none⟩ v (by simp;omega);rw[this,hv2];refine⟨gX t z v2 ax x hx2 (fun c hcx=>hnb c (fun e=>?_)) hx,x,hx,bX x⟩;subst e;have hmem:c∈f1 ++ fx ++ f2:=by rw[e3];simp[hcx]
     simp only[List.mem_append] at hmem;rcases hmem with (hm | hm) | hm
     ·exact hb1 hm
     ·exact hb2 hm
     ·exact hb3 hm
    ·simp at hx
  ·have hps':cj p s=false:=by simpa using hps
   exact r5 s x hx hps'
 ·rw[List.append_assoc,r6,jw,r4];simp only[Option.bind_some,List.singleton_append,bw,fN hc,List.getElem?_set_self hlt,hdr,hb,hcell];exact⟨hx,gX s e v fe x he (fun c hc=>hnb c (fun e=>hbe (e ▸ hc))) hx⟩
def eT (rts:Rn->Option D) (r:Rn):List Nat->Rn->Option D
 | []=>dg rts r none
 | i :: p=>match rts r with | some d=>dg rts r (some (c5 d (i :: p) .gone)) | none=>rts
theorem nk (σ:St) (r:Rn) (p:List Nat):(σ.take r p).rts=eT σ.rts r p/\(σ.take r p).env=σ.env:=by
 cases p with
 | nil=>exact⟨rfl,rfl⟩
 | cons i p=>
  simp only[St.take,eT,St.put]
  cases h:σ.rts r
  ·simp[h]
  ·simp only[h];exact⟨rfl,trivial⟩
theorem Rts.take (h:Rts w ok B rts ρ φ) {r:Rn} {p:List Nat} {o:D} (ho:dn rts r p=some o) :
  ∃ hv fo φ',hdr w (ρ r) p=some hv/\Ow w ok o hv fo/\fo.Nodup/\(∀ b∈fo,B b)/\Rts w ok B (eT rts r p) ρ φ' /\
   (∀ q e,eT rts r p q=some e->∀ b∈φ' q,b ∉ fo) /\
   (∀ q s x,dn rts q s=some x->(q=r->cj p s=false)->∃ x',dn (eT rts r p) q s=some x'/\cH x x') /\
   (∀ q e,eT rts r p q=some e->∃ e',rts q=some e'/\∀ b∈φ' q,b∈φ q):=by
 have ho':=ho;unfold dn at ho;split at ho
 ·rename_i d hd;obtain⟨hv,fo,hat⟩:=h.at_ ho'
  cases p with
  | nil=>
   simp only[bw,Option.some.injEq] at ho;subst ho;refine⟨hv,fo,φ,hat.hdr,hat.own,hat.nod,fun b hb=>(h.own r d hd).2.2 b (hat.sub b hb),h.drop r,fun q e he b hb hb'=>?_,fun q s x hx hq=>?_,fun q e he=>⟨e,lR he,fun b hb=>hb⟩⟩
   ·by_cases hqr:q=r
    ·subst hqr;simp[eT,dg] at he
    ·simp only[eT,dg,if_neg hqr] at he;exact h.dis q r e d hqr he hd b hb (hat.sub b hb')
   ·by_cases hqr:q=r
    ·have:=hq hqr;simp[cj] at this
    ·exact⟨x,by simpa[eT,dn,dg,hqr] using hx,bX x⟩
  | cons i p=>
   obtain⟨φ',r1,r2,r3,r4,r5,r6,r7⟩:=h.replace hd ho hat (w':=w) (ok':=ok) (B':=B) (o':=.gone) (fo':=[]) (fun b _ _=>rfl) (fun b hb=>⟨hb,rfl⟩) (by simp[Ow]) (by simp) (by simp) (by simp) (fun b _ hb=>hb);have et:eT rts r (i :: p)=dg rts r (some (c5 d (i :: p) .gone)):=by simp only[eT,hd]
   rw[et];refine⟨hv,fo,φ',hat.hdr,hat.own,hat.nod,fun b hb=>(h.own r d hd).2.2 b (hat.sub b hb),r1,fun q e he b hb hb'=>?_,fun q s x hx hq=>?_,fun q e he=>?_⟩
   rotate_left 2
   ·by_cases hqr:q=r
    ·subst hqr;refine⟨d,hd,fun b hb=>?_⟩;rcases r3 b hb with hb2 | hb2
     ·simp at hb2
     ·exact hb2.1
    ·simp only[dg,if_neg hqr] at he;exact⟨e,he,fun b hb=>by rw[r2 q hqr] at hb;exact hb⟩
   ·by_cases hqr:q=r
    ·subst hqr;rcases r3 b hb with hb2 | ⟨_,hb2⟩
     ·simp at hb2
     ·exact hb2 hb'
    ·simp only[dg,if_neg hqr] at he;rw[r2 q hqr] at hb;exact h.dis q r e d hqr he hd b hb (hat.sub b hb')
   ·by_cases hqr:q=r
    ·subst hqr;obtain⟨_,x',hx',hs⟩:=r5 s x hx (hq rfl);exact⟨x',by simpa[dn,dg] using hx',hs⟩
    ·exact⟨x,by simpa[dn,dg,hqr] using hx,bX x⟩
 ·simp at ho
end
end Go.Proofs.YtncfmemhjahpeaaGreat.Ab
namespace Go.Proofs.YtncfmemhjahpeaaGreat.Ab
open Go
def zK (o o':D):Prop:=cH o o'\/∃ es es',o = .mp es/\o' = .mp es'
structure Sim (w:World) (ok:Nat->Prop) (σ:St) (ρ:Rn->Value) (w':World) (ok':Nat->Prop) (σ':St) (ρ':Rn->Value) (G:Rn->List Nat->Prop) (g:Rn->List Nat->Rn×List Nat):Prop where
 ok:∀ b,ok b->ok' b/\w'.heap[b]? = w.heap[b]?
 pl:∀ r p o,G r p->σ.obj r p=some o->∃ o',σ'.obj (g r p).1 (g r p).2=some o'/\zK o o'/\hdr w' (ρ' (g r p).1) (g r p).2=hdr w (ρ r) p
mutual
def FV.ats (G:Rn->List Nat->Prop) (I:Rn->Rn->List Nat->Prop):FV->Prop
 | .al r p _ _=>G r p
 | .cu r p _=>G r p
 | .pt r p _=>G r p
 | .ar r p _ _=>G r p
 | .mr r p=>G r p
 | .it r m p _ _=>I r m p
 | .ag fs=>FV.atsL G I fs
 | .tu fs=>FV.atsL G I fs
 | .cl _ fs=>FV.atsL G I fs
 | .fb fs _=>FV.atsL G I fs
 | .d _=>True
 | .sp _ _=>True
 | .dead=>True
def FV.atsL (G:Rn->List Nat->Prop) (I:Rn->Rn->List Nat->Prop):List FV->Prop
 | []=>True
 | f :: r=>f.ats G I/\FV.atsL G I r
end
mutual
theorem gP {G G':Rn->List Nat->Prop} {I I':Rn->Rn->List Nat->Prop} (hG:∀ r p,G r p->G' r p) (hI:∀ r m p,I r m p->I' r m p):∀ f:FV,f.ats G I->f.ats G' I'
 | .al r p _ _,h=>hG r p h
 | .cu r p _,h=>hG r p h
 | .pt r p _,h=>hG r p h
 | .ar r p _ _,h=>hG r p h
 | .mr r p,h=>hG r p h
 | .it r m p _ _,h=>hI r m p h
 | .ag fs,h=>atsL_mono hG hI fs h
 | .tu fs,h=>atsL_mono hG hI fs h
 | .cl _ fs,h=>atsL_mono hG hI fs h
 | .fb fs _,h=>atsL_mono hG hI fs h
 | .d _,_=>trivial
 | .sp _ _,_=>trivial
 | .dead,_=>trivial
theorem atsL_mono {G G':Rn->List Nat->Prop} {I I':Rn->Rn->List Nat->Prop} (hG:∀ r p,G r p->G' r p) (hI:∀ r m p,I r m p->I' r m p):∀ f:List FV,FV.atsL G I f->FV.atsL G' I' f
 | [],_=>trivial
 | f :: r,h=>⟨gP hG hI f h.1,atsL_mono hG hI r h.2⟩
end
theorem mM {k n:Nat} {cs:List D} {o':D} (h:zK (.ow k n cs) o'):∃ cs',o' = .ow k n cs'/\cs'.length=cs.length:=by
 rcases h with h | ⟨es,es',e,_⟩
 ·cases o' <;> simp[cH] at h
  obtain⟨rfl,rfl,h⟩:=h;exact⟨_,rfl,h.symm⟩
 ·simp at e
theorem jz {o o':D} {cs:List D} (h:zK o o') (e:o.cells? = some cs):∃ cs',o'.cells? = some cs'/\cs'.length=cs.length:=by
 cases o <;> simp[D.cells?] at e
 ·subst e;obtain⟨cs',rfl,hl⟩:=mM h;exact⟨cs',rfl,hl⟩
 ·subst e;rcases h with h | ⟨es,es',e,_⟩
  ·cases o' <;> simp[cH] at h
   exact⟨_,rfl,h.symm⟩
  ·simp at e
theorem AV {o':D} {es:List (List Int×Int)} (h:zK (.mp es) o'):∃ es',o' = .mp es':=by
 rcases h with h | ⟨es,es',_,e⟩
 ·cases o' <;> simp[cH] at h
  exact⟨_,rfl⟩
 ·exact⟨es',e⟩
section
variable {w w':World} {ok ok':Nat->Prop} {σ σ':St} {ρ ρ':Rn->Value} {G:Rn->List Nat->Prop}
structure D8 (w:World) (σ:St) (ρ:Rn->Value) (w':World) (σ':St) (ρ':Rn->Value) (I:Rn->Rn->List Nat->Prop) (g:Rn->List Nat->Rn×List Nat):Prop where
 it:∀ r m p b mb es,I r m p->σ.rts r=some .itr->ρ r = .pointer (some ⟨b,0,none⟩)->σ.obj m p=some (.mp es)->hdr w (ρ m) p=some (.map (some mb)) ->
  σ'.rts r=some .itr/\ρ' r=ρ r/\w'.heap[b]? = w.heap[b]?/\σ'.obj (g m p).1 (g m p).2=some (.mp es)/\hdr w' (ρ' (g m p).1) (g m p).2=some (.map (some mb))/\w'.heap[mb]? = w.heap[mb]?
mutual
theorem BC {m:Mv} {I:Rn->Rn->List Nat->Prop} (S:Sim w ok σ ρ w' ok' σ' ρ' G m.place) (J:D8 w σ ρ w' σ' ρ' I m.place):∀ (f:FV) (u:Value),f.ats G I->FR w ok σ ρ f u->FR w' ok' σ' ρ' (f.move m) u
 | .d x,u,_,h=>by
  simp only[FR,FV.move] at h ⊢;exact gh S.ok _ _ h
 | .sp cs off,u,_,h=>by
  simp only[FR,FV.move] at h ⊢;obtain⟨b,o,e,hb,h⟩:=h;exact⟨b,o,e,(S.ok b hb).1,ShL_mono S.ok b hb cs o h⟩
 | .al r p lo n,u,ha,h=>by
  simp only[FR,FV.move] at h ⊢;obtain⟨k,N,cs,hv,h1,h2,h3,h4⟩:=h;obtain⟨o',k1,k2,k3⟩:=S.pl r p _ ha h1;obtain⟨cs',rfl,hl⟩:=mM k2;exact⟨k,N,cs',hv,k1,by rw[k3];exact h2,h3,h4⟩
 | .cu r p n,u,ha,h=>by
  simp only[FR,FV.move] at h ⊢;obtain⟨k,N,cs,hv,a,M,c,h1,h2,h3⟩:=h;obtain⟨o',k1,k2,k3⟩:=S.pl r p _ ha h1;obtain⟨cs',rfl,hl⟩:=mM k2;exact⟨k,N,cs',hv,a,M,c,k1,by rw[k3];exact h2,h3⟩
 | .pt r p off,u,ha,h=>by
  simp only[FR,FV.move] at h ⊢;obtain⟨o,cs,hv,b,q,h1,h2,h3,h4⟩:=h;obtain⟨o',k1,k2,k3⟩:=S.pl r p _ ha h1;obtain⟨cs',hc',_⟩:=jz k2 h2;exact⟨o',cs',hv,b,q,k1,hc',by rw[k3];exact h3,h4⟩
 | .ar r p off n,u,ha,h=>by
  simp only[FR,FV.move] at h ⊢;obtain⟨o,cs,hv,b,q,c,h1,h2,h3,h4,h5,h6⟩:=h;obtain⟨o',k1,k2,k3⟩:=S.pl r p _ ha h1;obtain⟨cs',hc',hl⟩:=jz k2 h2;exact⟨o',cs',hv,b,q,c,k1,hc',by rw[k3];exact h3,h4,by rw[hl];exact h5,h6⟩
 | .mr r p,u,ha,h=>by
  simp only[FR,FV.move] at h ⊢;obtain⟨es,hv,h1,h2,h3⟩:=h;obtain⟨o',k1,k2,k3⟩:=S.pl r p _ ha h1;obtain⟨es',rfl⟩:=AV k2;exact⟨es',hv,k1,by rw[k3];exact h2,h3⟩
 | .it r m2 p rest cur,u,ha,h=>by
  simp only[FR,FV.move] at h ⊢;obtain⟨e,h1,b,mb,es,en,clock,seen,h2,h3,h4,h5,h6,h7,h8⟩:=h;subst h2;obtain⟨k1,k2,k3,k4,k5,k6⟩:=J.it r m2 p b mb es ha h1 e.symm h4 h5;exact⟨by rw[k2];exact e,k1,b,mb,es,en,clock,seen,rfl,by rw[k3];exact h3,k4,k5,⟨by rw[k6];exact h6.at_,h6.kv,h6.born,h6.uniq,h6.keys⟩,h7,h8⟩
 | .ag fs,u,ha,h=>by
  simp only[FR,FV.move] at h ⊢;obtain⟨vs,e,h⟩:=h;exact⟨vs,e,FRL_move S J fs vs.toList ha h⟩
 | .tu fs,u,ha,h=>by
  simp only[FR,FV.move] at h ⊢;obtain⟨vs,e,h⟩:=h;exact⟨vs,e,FRL_move S J fs vs.toList ha h⟩
 | .cl f fs,u,ha,h=>by
  simp only[FR,FV.move] at h ⊢;obtain⟨vs,e,h⟩:=h;exact⟨vs,e,FRL_move S J fs vs.toList ha h⟩
 | .fb fs off,u,ha,h=>by
  simp only[FR,FV.move] at h ⊢;obtain⟨b,vs,e,hb,hc,h⟩:=h;exact⟨b,vs,e,(S.ok b hb).1,fun j v hj=>by rw[iz (S.ok b hb).2];exact hc j v hj,FRL_move S J fs vs ha h⟩
 | .dead,_,_,_=>by simp[FR,FV.move]
theorem FRL_move {m:Mv} {I:Rn->Rn->List Nat->Prop} (S:Sim w ok σ ρ w' ok' σ' ρ' G m.place) (J:D8 w σ ρ w' σ' ρ' I m.place):∀ (fs:List FV) (us:List Value),FV.atsL G I fs->FRL w ok σ ρ fs us->FRL w' ok' σ' ρ' (FV.moveL m fs) us
 | [],us,_,h=>by simpa[FRL,FV.moveL] using h
 | f :: fs,us,ha,h=>by
  simp only[FRL,FV.moveL] at h ⊢;obtain⟨u,vs,e,h1,h2⟩:=h;exact⟨u,vs,e,BC S J f u ha.1 h1,FRL_move S J fs vs ha.2 h2⟩
end
structure Cd (w:World) (σ:St) (ρ:Rn->Value) (w':World) (σ':St) (ρ':Rn->Value) (I:Rn->Rn->List Nat->Prop):Prop where
 it:∀ r m p b mb es,I r m p->σ.rts r=some .itr->ρ r = .pointer (some ⟨b,0,none⟩)->σ.obj m p=some (.mp es)->hdr w (ρ m) p=some (.map (some mb)) ->
  σ'.rts r=some .itr/\ρ' r=ρ r/\w'.heap[b]? = w.heap[b]?/\σ'.obj m p=some (.mp es)/\hdr w' (ρ' m) p=some (.map (some mb))/\w'.heap[mb]? = w.heap[mb]?
mutual
theorem gf {I:Rn->Rn->List Nat->Prop} (S:Sim w ok σ ρ w' ok' σ' ρ' G (fun r p=>(r,p))) (J:Cd w σ ρ w' σ' ρ' I):∀ (f:FV) (u:Value),f.ats G I->FR w ok σ ρ f u->FR w' ok' σ' ρ' f u
 | .d x,u,_,h=>by
  simp only[FR] at h ⊢;exact gh S.ok _ _ h
 | .sp cs off,u,_,h=>by
  simp only[FR] at h ⊢;obtain⟨b,o,e,hb,h⟩:=h;exact⟨b,o,e,(S.ok b hb).1,ShL_mono S.ok b hb cs o h⟩
 | .al r p lo n,u,ha,h=>by
  simp only[FR] at h ⊢;obtain⟨k,N,cs,hv,h1,h2,h3,h4⟩:=h;obtain⟨o',k1,k2,k3⟩:=S.pl r p _ ha h1;obtain⟨cs',rfl,hl⟩:=mM k2;exact⟨k,N,cs',hv,k1,by rw[k3];exact h2,h3,h4⟩
 | .cu r p n,u,ha,h=>by
  simp only[FR] at h ⊢;obtain⟨k,N,cs,hv,a,M,c,h1,h2,h3⟩:=h;obtain⟨o',k1,k2,k3⟩:=S.pl r p _ ha h1;obtain⟨cs',rfl,hl⟩:=mM k2;exact⟨k,N,cs',hv,a,M,c,k1,by rw[k3];exact h2,h3⟩
 | .pt r p off,u,ha,h=>by
  simp only[FR] at h ⊢;obtain⟨o,cs,hv,b,q,h1,h2,h3,h4⟩:=h;obtain⟨o',k1,k2,k3⟩:=S.pl r p _ ha h1;obtain⟨cs',hc',_⟩:=jz k2 h2;exact⟨o',cs',hv,b,q,k1,hc',by rw[k3];exact h3,h4⟩
 | .ar r p off n,u,ha,h=>by
  simp only[FR] at h ⊢;obtain⟨o,cs,hv,b,q,c,h1,h2,h3,h4,h5,h6⟩:=h;obtain⟨o',k1,k2,k3⟩:=S.pl r p _ ha h1;obtain⟨cs',hc',hl⟩:=jz k2 h2;exact⟨o',cs',hv,b,q,c,k1,hc',by rw[k3];exact h3,h4,by rw[hl];exact h5,h6⟩
 | .mr r p,u,ha,h=>by
  simp only[FR] at h ⊢;obtain⟨es,hv,h1,h2,h3⟩:=h;obtain⟨o',k1,k2,k3⟩:=S.pl r p _ ha h1;obtain⟨es',rfl⟩:=AV k2;exact⟨es',hv,k1,by rw[k3];exact h2,h3⟩
 | .it r m p rest cur,u,ha,h=>by
  simp only[FR] at h ⊢;obtain⟨e,h1,b,mb,es,en,clock,seen,h2,h3,h4,h5,h6,h7,h8⟩:=h;subst h2;obtain⟨k1,k2,k3,k4,k5,k6⟩:=J.it r m p b mb es ha h1 e.symm h4 h5;exact⟨by rw[k2];exact e,k1,b,mb,es,en,clock,seen,rfl,by rw[k3];exact h3,k4,k5,⟨by rw[k6];exact h6.at_,h6.kv,h6.born,h6.uniq,h6.keys⟩,h7,h8⟩
 | .ag fs,u,ha,h=>by
  simp only[FR] at h ⊢;obtain⟨vs,e,h⟩:=h;exact⟨vs,e,FRL_same S J fs vs.toList ha h⟩
 | .tu fs,u,ha,h=>by
  simp only[FR] at h ⊢;obtain⟨vs,e,h⟩:=h;exact⟨vs,e,FRL_same S J fs vs.toList ha h⟩
 | .cl f fs,u,ha,h=>by
  simp only[FR] at h ⊢;obtain⟨vs,e,h⟩:=h;exact⟨vs,e,FRL_same S J fs vs.toList ha h⟩
 | .fb fs off,u,ha,h=>by
  simp only[FR] at h ⊢;obtain⟨b,vs,e,hb,hc,h⟩:=h;exact⟨b,vs,e,(S.ok b hb).1,fun j v hj=>by rw[iz (S.ok b hb).2];exact hc j v hj,FRL_same S J fs vs ha h⟩
 | .dead,_,_,_=>by simp[FR]
theorem FRL_same {I:Rn->Rn->List Nat->Prop} (S:Sim w ok σ ρ w' ok' σ' ρ' G (fun r p=>(r,p))) (J:Cd w σ ρ w' σ' ρ' I):∀ (fs:List FV) (us:List Value),FV.atsL G I fs->FRL w ok σ ρ fs us->FRL w' ok' σ' ρ' fs us
 | [],us,_,h=>by simpa[FRL] using h
 | f :: fs,us,ha,h=>by
  simp only[FRL] at h ⊢;obtain⟨u,vs,e,h1,h2⟩:=h;exact⟨u,vs,e,gf S J f u ha.1 h1,FRL_same S J fs vs ha.2 h2⟩
end
def fV (o:D):Prop:=o.cells?.isSome=true\/∃ es,o = .mp es
mutual
theorem gK:∀ (f:FV) (u:Value),FR w ok σ ρ f u ->
  f.ats (fun r p=>∃ o,σ.obj r p=some o/\fV o) (fun r m p=>σ.rts r=some .itr/\∃ es,σ.obj m p=some (.mp es))
 | .d x,u,_=>trivial
 | .sp cs off,u,_=>trivial
 | .al r p lo n,u,h=>by
  simp only[FR] at h;obtain⟨k,N,cs,hv,h1,_⟩:=h;exact⟨_,h1,.inl rfl⟩
 | .cu r p n,u,h=>by
  simp only[FR] at h;obtain⟨k,N,cs,hv,a,M,c,h1,_⟩:=h;exact⟨_,h1,.inl rfl⟩
 | .pt r p off,u,h=>by
  simp only[FR] at h;obtain⟨o,cs,hv,b,q,h1,h2,_⟩:=h;exact⟨o,h1,.inl (by simp[h2])⟩
 | .ar r p off n,u,h=>by
  simp only[FR] at h;obtain⟨o,cs,hv,b,q,c,h1,h2,_⟩:=h;exact⟨o,h1,.inl (by simp[h2])⟩
 | .mr r p,u,h=>by
  simp only[FR] at h;obtain⟨es,hv,h1,_⟩:=h;exact⟨_,h1,.inr ⟨es,rfl⟩⟩
 | .it r m p rest cur,u,h=>by
  simp only[FR] at h;obtain⟨e,h1,b,mb,es,en,clock,seen,h2,h3,h4,_⟩:=h;exact⟨h1,es,h4⟩
 | .ag fs,u,h=>by
  simp only[FR] at h;obtain⟨vs,e,h⟩:=h;exact FRL_ats fs vs.toList h
 | .tu fs,u,h=>by
  simp only[FR] at h;obtain⟨vs,e,h⟩:=h;exact FRL_ats fs vs.toList h
 | .cl f fs,u,h=>by
  simp only[FR] at h;obtain⟨vs,e,h⟩:=h;exact FRL_ats fs vs.toList h
 | .fb fs off,u,h=>by
  simp only[FR] at h;obtain⟨b,vs,e,hb,hc,h⟩:=h;exact FRL_ats fs vs h
 | .dead,_,_=>trivial
theorem FRL_ats:∀ (fs:List FV) (us:List Value),FRL w ok σ ρ fs us ->
  FV.atsL (fun r p=>∃ o,σ.obj r p=some o/\fV o) (fun r m p=>σ.rts r=some .itr/\∃ es,σ.obj m p=some (.mp es)) fs
 | [],us,_=>trivial
 | f :: fs,us,h=>by
  simp only[FRL] at h;obtain⟨u,vs,e,h1,h2⟩:=h;exact⟨gK f u h1,FRL_ats fs vs h2⟩
end
mutual
theorem nF {r:Rn} {p:List Nat} {G:Rn->List Nat->Prop} {I:Rn->Rn->List Nat->Prop}:∀ f:FV,f.under r p=false->f.ats G I ->
  f.ats (fun q s=>G q s/\(q=r->cj p s=false)) (fun q m s=>I q m s/\q≠r/\(m=r->cj p s=false))
 | .al q s _ _,h,g=>⟨g,fun e=>by simpa[FV.under,e] using h⟩
 | .cu q s _,h,g=>⟨g,fun e=>by simpa[FV.under,e] using h⟩
 | .pt q s _,h,g=>⟨g,fun e=>by simpa[FV.under,e] using h⟩
 | .ar q s _ _,h,g=>⟨g,fun e=>by simpa[FV.under,e] using h⟩
 | .mr q s,h,g=>⟨g,fun e=>by simpa[FV.under,e] using h⟩
 | .it q m s _ _,h,g=>by
  simp only[FV.under] at h;refine⟨g,fun e=>by simp[e] at h,fun e=>?_⟩;split at h
  ·simp at h
  ·simpa[e] using h
 | .ag fs,h,g=>atsL_under fs (by simpa[FV.under] using h) g
 | .tu fs,h,g=>atsL_under fs (by simpa[FV.under] using h) g
 | .cl _ fs,h,g=>atsL_under fs (by simpa[FV.under] using h) g
 | .fb fs _,h,g=>atsL_under fs (by simpa[FV.under] using h) g
 | .d _,_,_=>trivial
 | .sp _ _,_,_=>trivial
 | .dead,_,_=>trivial
theorem atsL_under {r:Rn} {p:List Nat} {G:Rn->List Nat->Prop} {I:Rn->Rn->List Nat->Prop}:∀ fs:List FV,FV.underL r p fs=false->FV.atsL G I fs ->
  FV.atsL (fun q s=>G q s/\(q=r->cj p s=false)) (fun q m s=>I q m s/\q≠r/\(m=r->cj p s=false)) fs
 | [],_,_=>trivial
 | f :: fs,h,g=>by
  simp only[FV.underL,Bool.or_eq_false_iff] at h;exact⟨nF f h.1 g.1,atsL_under fs h.2 g.2⟩
end
end
end Go.Proofs.YtncfmemhjahpeaaGreat.Ab
namespace Go.Proofs.YtncfmemhjahpeaaGreat.Ab
open Go
theorem sd {w:World} {ok:Nat->Prop} {x:D} {v:Value} (hl:x.leaf=true) (h:Sh w ok x v):Ow w ok x v []:=by
 cases x <;> simp[D.leaf] at hl <;> simp only[Ow,true_and] <;> first | exact h | (simp only[Sh] at h;exact h)
theorem pF {w:World} {ok:Nat->Prop} {x:D} {v:Value} (hl:x.leaf=true) (h:Sh w ok x v):v.oneCell'=true:=
 pQ (sd hl h) (by rintro rfl;simp[D.leaf] at hl) (by rintro x rfl;simpa[D.leaf] using hl)
theorem jI {a b c:D} (h:cH a b) (k:cH b c):cH a c:=by
 cases a <;> cases b <;> simp[cH] at h <;> cases c <;> simp[cH] at k ⊢ <;> simp_all
theorem nQ:∀ {p s t:List Nat},ix p s=some t->s=p ++ t
 | [],s,t,h=>by simpa[ix] using h
 | i :: p,[],t,h=>by simp[ix] at h
 | i :: p,j :: s,t,h=>by
  simp only[ix] at h;split at h
  ·rename_i e;rw[nQ h,e];rfl
  ·simp at h
theorem lH:∀ {p s:List Nat},ix p s=none->cj p s=false
 | [],s,h=>by simp[ix] at h
 | i :: p,[],h=>by simp[cj]
 | i :: p,j :: s,h=>by
  simp only[ix] at h;simp only[cj];split at h
  ·rename_i e;rw[if_pos e];exact lH h
  ·rename_i e;rw[if_neg e]
abbrev Bnd (w0:World) (fp0:List Nat) (ok:Nat->Prop) (n:Nat):Nat->Prop:=fun b=>¬ ok b/\(b∈fp0\/w0.heap.size<=b)/\b < n
theorem Rel.rts_ {w0:World} {fp0:List Nat} {ok:Nat->Prop} {σ:St} {θ:Nat->Value} {w:World} {ρ:Rn->Value} {φ:Rn->List Nat} (h:Rel w0 fp0 ok σ θ w ρ φ) :
  Rts w ok (Bnd w0 fp0 ok w.heap.size) σ.rts ρ φ:=⟨h.own,h.dis⟩
theorem Rel.of_rts {w0:World} {fp0:List Nat} {ok:Nat->Prop} {σ:St} {θ:Nat->Value} {w:World} {ρ:Rn->Value} {φ:Rn->List Nat} (h:Rts w ok (Bnd w0 fp0 ok w.heap.size) σ.rts ρ φ)
  (he:∀ t,FR w ok σ ρ (σ.env t) (θ t)) (hb:∀ b,ok b->b < w.heap.size) (hf:de w0 fp0 w):Rel w0 fp0 ok σ θ w ρ φ:=⟨h.own,h.dis,he,hb,hf⟩
theorem de.setCell {w0 w:World} {fp0:List Nat} (h:de w0 fp0 w) {a:Addr} {v:Value} (ha:a.block∈fp0\/w0.heap.size<=a.block):de w0 fp0 (w.setCell a v):=
 ⟨h.os,h.out,h.tape,h.drawn,by simpa using h.size,fun b hb hn=>by
  rw[Go.RowKit.Below.heap_setCell w a v b (by rintro rfl;rcases ha with ha | ha;exact hn ha;omega)];exact h.old b hb hn⟩
theorem wn {w:World} {ok:Nat->Prop} {σ:St} {ρ:Rn->Value} {f:FV} {r':Rn} {p':List Nat} {e:D} {σ1:St} {v:Value} {B:Nat->Prop} {φ:Rn->List Nat} (hR:Rts w ok B σ.rts ρ φ)
  (h:σ.absorb f r' p'=some (e,σ1)) (hf:FR w ok σ ρ f v):(e.leaf=true/\σ1=σ/\Sh w ok e v) \/
   ∃ r p,dn σ.rts r p=some e/\fV e/\hdr w (ρ r) p=some v/\σ1 = { (σ.take r p) with env:=fun t=>(σ.env t).move ⟨r,p,r',p'⟩ }:=by
 cases f with
 | d x=>
  simp only[St.absorb] at h;split at h
  ·rename_i hl
   cases h
   exact .inl ⟨hl,rfl,by simpa[FR] using hf⟩
  ·simp at h
 | al r p lo n=>
  simp only[St.absorb] at h;split at h
  ·rename_i k N cs ho;split at h
   ·rename_i hc;obtain⟨rfl,rfl⟩:=hc
    cases h
    simp only[FR] at hf;obtain⟨k',N',cs',hv,h1,h2,h3,h4⟩:=hf;rw[ho] at h1
    cases h1
    refine .inr ⟨r,p,ho,.inl rfl,?_,rfl⟩;rcases h4 with ⟨_,a,M,c,e1,e2⟩ | ⟨h5,_⟩
    ·obtain⟨hv2,fo,hat⟩:=hR.at_ (r:=r) (p:=p) ho;have e3:hv2=hv:=by have:=hat.hdr;rw[h2] at this;injection this with this;exact this.symm
     subst e3;have hM:M=n:=by
      have:=hat.own;subst e1;simp only[Ow] at this;rcases this with ⟨hn,_,_,a',e⟩ | ⟨b,o,c',arr,T,fp',e,_⟩
      ·injection e with _ e _;omega
      ·injection e
     subst hM;rw[e2,<-e1];exact h2
    ·omega
   ·simp at h
  ·simp at h
 | pt r p o=>
  simp only[St.absorb] at h;split at h
  ·rename_i cs ho;split at h
   ·rename_i hc;subst hc
    cases h
    simp only[FR] at hf;obtain⟨o',cs',hv,b,q,h1,h2,h3,h4,h5⟩:=hf;rw[ho] at h1
    cases h1
    refine .inr ⟨r,p,ho,.inl rfl,?_,rfl⟩;obtain⟨hv2,fo,hat⟩:=hR.at_ (r:=r) (p:=p) ho;have e3:hv2=hv:=by have:=hat.hdr;rw[h3] at this;injection this with this;exact this.symm
    subst e3;have:=hat.own;simp only[Ow] at this;obtain⟨b',arr,T,fp',e,_⟩:=this;subst e;simp only[gZ,Option.some.injEq,Prod.mk.injEq] at h4;obtain⟨rfl,rfl⟩:=h4;rw[h5];exact h3
   ·simp at h
  ·simp at h
 | mr r p=>
  simp only[St.absorb] at h;split at h
  ·rename_i es ho
   cases h
   simp only[FR] at hf;obtain⟨es',hv,h1,h2,h3⟩:=hf;exact .inr ⟨r,p,ho,.inr ⟨_,rfl⟩,by rw[h3];exact h2,rfl⟩
  ·simp at h
 | _=>simp[St.absorb] at h
section
variable {w0:World} {fp0:List Nat} {ok:Nat->Prop} {σ:St} {θ:Nat->Value} {w:World} {ρ:Rn->Value} {φ:Rn->List Nat}
theorem Ax {x:D} (h:x.quiet=true):∀ s o,bw x s=some o->¬ fV o:=by
 have hc:x.cells? = none:=by cases x <;> simp[D.quiet,D.leaf,D.cells?] at h ⊢
 intro s o hs
 cases s with
 | nil=>
  simp only[bw,Option.some.injEq] at hs;subst hs;rintro (h1 | ⟨es,rfl⟩)
  ·simp[hc] at h1
  ·simp[D.quiet,D.leaf] at h
 | cons i s=>simp[bw,hc] at hs
def GS (σ:St) (r:Rn) (pi:List Nat) (q:Rn) (s:List Nat):Prop:=(∃ o,σ.obj q s=some o/\fV o)/\(q=r->cj pi s=false)
def IS (σ:St) (r:Rn) (pi:List Nat) (q m:Rn) (s:List Nat):Prop:=(σ.rts q=some .itr/\∃ es,σ.obj m s=some (.mp es))/\(m=r->cj pi s=false)/\(q=r->cj pi []=false)
mutual
theorem xm {r:Rn} {pi:List Nat} (hq:∀ s o,σ.obj r (pi ++ s)=some o->¬ fV o) (hp:pi≠[]):∀ f:FV,f.ats (fun r p=>∃ o,σ.obj r p=some o/\fV o) (fun r m p=>σ.rts r=some .itr/\∃ es,σ.obj m p=some (.mp es)) ->
  f.ats (GS σ r pi) (IS σ r pi)
 | .al q s _ _,h=>⟨h,fun e=>by
   subst e;obtain⟨o,h1,h2⟩:=h
   cases hh:cj pi s with
   | false=>rfl
   | true=>obtain⟨t,rfl⟩:=fg hh;exact absurd h2 (hq t o h1)⟩
 | .cu q s _,h=>⟨h,fun e=>by
   subst e;obtain⟨o,h1,h2⟩:=h
   cases hh:cj pi s with
   | false=>rfl
   | true=>obtain⟨t,rfl⟩:=fg hh;exact absurd h2 (hq t o h1)⟩
 | .pt q s _,h=>⟨h,fun e=>by
   subst e;obtain⟨o,h1,h2⟩:=h
   cases hh:cj pi s with
   | false=>rfl
   | true=>obtain⟨t,rfl⟩:=fg hh;exact absurd h2 (hq t o h1)⟩
 | .ar q s _ _,h=>⟨h,fun e=>by
   subst e;obtain⟨o,h1,h2⟩:=h
   cases hh:cj pi s with
   | false=>rfl
   | true=>obtain⟨t,rfl⟩:=fg hh;exact absurd h2 (hq t o h1)⟩
 | .mr q s,h=>⟨h,fun e=>by
   subst e;obtain⟨o,h1,h2⟩:=h
   cases hh:cj pi s with
   | false=>rfl
   | true=>obtain⟨t,rfl⟩:=fg hh;exact absurd h2 (hq t o h1)⟩
 | .it q m s _ _,h=>⟨h,fun e=>by
   subst e;obtain⟨_,es,h1⟩:=h
   cases hh:cj pi s with
   | false=>rfl
   | true=>obtain⟨t,rfl⟩:=fg hh;exact absurd (.inr ⟨es,rfl⟩) (hq t _ h1),fun _=>by cases pi with | nil=>exact absurd rfl hp | cons=>rfl⟩
 | .ag fs,h=>atsL_quiet hq hp fs h
 | .tu fs,h=>atsL_quiet hq hp fs h
 | .cl _ fs,h=>atsL_quiet hq hp fs h
 | .fb fs _,h=>atsL_quiet hq hp fs h
 | .d _,_=>trivial
 | .sp _ _,_=>trivial
 | .dead,_=>trivial
theorem atsL_quiet {r:Rn} {pi:List Nat} (hq:∀ s o,σ.obj r (pi ++ s)=some o->¬ fV o) (hp:pi≠[]):∀ f:List FV,FV.atsL (fun r p=>∃ o,σ.obj r p=some o/\fV o) (fun r m p=>σ.rts r=some .itr/\∃ es,σ.obj m p=some (.mp es)) f ->
  FV.atsL (GS σ r pi) (IS σ r pi) f
 | [],_=>trivial
 | f :: fs,h=>⟨xm hq hp f h.1,atsL_quiet hq hp fs h.2⟩
end
theorem BV (h:Rel w0 fp0 ok σ θ w ρ φ) {r:Rn} {p:List Nat} {i:Nat} {d o old:D} {cs:List D} (hd:σ.rts r=some d) (hl:bw d p=some o) (hc:o.cells? = some cs) (hi:cs[i]? = some old) (t:Nat) :
  let σa:=if old.quiet then σ else σ.kill r (p ++ [i])
  FR w ok σ ρ (σa.env t) (θ t)/\(σa.env t).ats (GS σ r (p ++ [i])) (IS σ r (p ++ [i]))/\σa.rts=σ.rts:=by
 intro σa;have hobj:∀ s x,σ.obj r (p ++ [i] ++ s)=some x->bw old s=some x:=fun s x hx=>by
  simp only[St.obj,hd] at hx;rw[List.append_assoc,ii,hl] at hx;simpa[bw,hc,hi] using hx
 by_cases hq:old.quiet=true
 ·have e:σa=σ:=by simp[σa,hq]
  rw[e];refine⟨h.env t,xm (fun s x hx=>Ax hq s x (hobj s x hx)) (by simp) _ (gK _ _ (h.env t)),rfl⟩
 ·have e:σa=σ.kill r (p ++ [i]):=by simp[σa,hq]
  rw[e];refine⟨?_,?_,rfl⟩
  ·simp only[St.kill];split
   ·simp[FR]
   ·exact h.env t
  ·simp only[St.kill];split
   ·exact trivial
   ·rename_i hu;have:=nF (σ.env t) (by simpa using hu) (gK _ _ (h.env t));exact gP (fun q s hh=>hh) (fun q m s hh=>⟨hh.1,hh.2.2,fun e=>absurd e hh.2.1⟩) _ this
theorem iR {σ1 σ2:St} (h:σ1.rts=σ2.rts):∀ f u,FR w ok σ1 ρ f u->FR w ok σ2 ρ f u:=by
 intro f u hf;refine gf (G:=fun _ _=>True) (I:=fun _ _ _=>True) ⟨fun b hb=>⟨hb,rfl⟩,fun r p o _ ho=>⟨o,by simpa[St.obj,h] using ho,.inl (bX o),rfl⟩⟩
  ⟨fun r m p b mb es _ h1 h2 h3 h4=>⟨by rw[<-h];exact h1,rfl,rfl,by simpa[St.obj,h] using h3,h4,rfl⟩⟩ f u ?_ hf
 exact gP (fun _ _ _=>trivial) (fun _ _ _ _=>trivial) f (gK f u hf)
theorem m7 {e:Nat->FV} (f:FV) (u:Value) (h:FR w ok σ ρ f u):FR w ok { σ with env:=e } ρ f u:=iR (σ1:=σ) (σ2:={ σ with env:=e }) rfl f u h
theorem ni (h:Rel w0 fp0 ok σ θ w ρ φ) {r:Rn} {p:List Nat} {i:Nat} {f:FV} {v:Value} {σ':St} (hs:σ.store1 r p i f=some σ') (hf:FR w ok σ ρ f v) :
  ∃ hv b q,hdr w (ρ r) p=some hv/\gZ hv=some (b,q)/\(∃ u,w.cell? ⟨b,q+i,none⟩ = some u)/\w.frozen? ⟨b,q+i,none⟩ = false /\
   (∃ φ',Rel w0 fp0 ok σ' θ (w.setCell ⟨b,q+i,none⟩ v) ρ φ') /\
   (∃ o o' cs cs',σ.obj r p=some o/\o.cells? = some cs/\σ'.obj r p=some o'/\o'.cells? = some cs')/\hdr (w.setCell ⟨b,q+i,none⟩ v) (ρ r) p=some hv/\¬ ok b/\v.oneCell'=true:=by
 unfold St.store1 at hs;split at hs
 case h_2=>simp at hs
 rename_i o ho;split at hs
 case h_2=>simp at hs
 rename_i cs hc;split at hs
 case h_2=>simp at hs
 rename_i old hi;split at hs
 case h_2=>simp at hs
 rename_i e σ1 habs;split at hs
 case h_2=>simp at hs
 rename_i o1 ho1;split at hs
 case h_2=>simp at hs
 rename_i cs1 hc1;simp only[Option.some.injEq] at hs;have ho':=ho;simp only[St.obj] at ho;split at ho
 case h_2=>simp at ho
 rename_i d hd;have hke:=BV h hd ho hc hi;simp only at hke;generalize hσa:(if old.quiet=true then σ else σ.kill r (p ++ [i]))=σa at *
 have hrts:σa.rts=σ.rts:=(hke 0).2.2;have hRa:Rts w ok (Bnd w0 fp0 ok w.heap.size) σa.rts ρ φ:=hrts ▸ h.rts_;have hBok:∀ b,Bnd w0 fp0 ok w.heap.size b->¬ ok b:=fun b hb=>hb.1;rcases wn hRa habs (iR hrts.symm _ _ hf) with ⟨hl,rfl,hsh⟩ | ⟨r2,p2,ho2,hobj2,hv2,rfl⟩
 ·-- a leaf
  have e1:o1=o:=by
   have:σ1.obj r p=σ.obj r p:=by simp[St.obj,hrts]
   rw[this,ho'] at ho1;injection ho1 with ho1;exact ho1.symm
  subst e1;have e2:cs1=cs:=by rw[hc] at hc1;injection hc1 with hc1;exact hc1.symm
  subst e2;obtain⟨hv,b,q,k1,k2,k3,k4,k5,φ',k6,k7,k8,k9⟩:=hRa.write hBok (by rw[hrts];exact hd) ho hc hi (sd hl hsh) (by simp) (by simp) (by simp);have erts:σ'.rts=dg σ1.rts r (some (c5 d p (o1.setCells (cs1.set i e)))):=by
   rw[<-hs];simp only[St.put,hrts,hd];rfl
  have eenv:σ'.env=σ1.env:=by rw[<-hs];simp only[St.put,hrts,hd]
  have hsize:(w.setCell ⟨b,q+i,none⟩ v).heap.size=w.heap.size:=by simp
  have hobjn:∀ q' s,σ'.obj q' s=dn (dg σ1.rts r (some (c5 d p (o1.setCells (cs1.set i e))))) q' s:=fun q' s=>by rw[kO,erts]
  have hobjr:∀ s,σ'.obj r s=bw (c5 d p (o1.setCells (cs1.set i e))) s:=fun s=>by rw[hobjn];simp[dn,dg]
  have hobjo:∀ q' s,q'≠r->σ'.obj q' s=σ.obj q' s:=fun q' s hq=>by rw[hobjn,kO];simp only[dn,dg,if_neg hq,hrts]
  have hplace:∀ q' s x,GS σ r (p ++ [i]) q' s->σ.obj q' s=some x->∃ x',σ'.obj q' s=some x'/\cH x x'/\hdr (w.setCell ⟨b,q+i,none⟩ v) (ρ q') s=hdr w (ρ q') s:=fun q' s x hg hx=>by
   by_cases hq:q'=r
   ·subst hq;obtain⟨a1,x',a2,a3⟩:=k8 s x (by rw[hrts];exact hx) (hg.2 rfl);exact⟨x',by rw[hobjr];exact a2,a3,a1⟩
   ·exact⟨x,by rw[hobjo q' s hq];exact hx,bX x,k7 q' s hq (by rw[hrts,<-kO,hx];simp)⟩
  have hkk:∀ c,ok c->(w.setCell ⟨b,q+i,none⟩ v).heap[c]? = w.heap[c]?:=fun c hc=>Go.RowKit.Below.heap_setCell w _ v c (fun e=>by subst e;exact k3.1 hc);have S:Sim w ok σ ρ (w.setCell ⟨b,q+i,none⟩ v) ok σ' ρ (GS σ r (p ++ [i])) (fun r p=>(r,p)):=
   ⟨fun c hc=>⟨hc,hkk c hc⟩,fun q' s x hg hx=>by
    obtain⟨x',a1,a2,a3⟩:=hplace q' s x hg hx;exact⟨x',a1,.inl a2,a3⟩⟩
  have J:Cd w σ ρ (w.setCell ⟨b,q+i,none⟩ v) σ' ρ (IS σ r (p ++ [i])):=⟨fun q' m s bi mb es hI g1 g2 g3 g4=>by
   obtain⟨x',a1,a2,a3⟩:=hplace m s _ ⟨⟨_,g3,.inr ⟨es,rfl⟩⟩,hI.2.1⟩ g3;have ex:x' = .mp es:=by cases x' <;> simp[cH] at a2;rw[a2]
   subst ex
   -- the blocks of the iterator and of the map are not the one that is written: both are rows of other kinds
   have hnb:∀ c x,w.heap[c]? = some x->(∀ arr T fz,x≠Obj.cells arr T fz)->(w.setCell ⟨b,q+i,none⟩ v).heap[c]? = w.heap[c]?:=fun c x hx hne=>by
    refine Go.RowKit.Below.heap_setCell w _ v c fun e=>?_;subst e;obtain⟨u,hu⟩:=k4;unfold World.cell? at hu;rw[hx] at hu
    cases x <;> simp at hu
    exact hne _ _ _ rfl
   have g1':σ'.rts q'=some .itr:=by
    rw[erts]
    by_cases hq:q'=r
    ·subst hq;rw[hd] at g1
     cases g1
     cases p with
     | nil=>simp[bw] at ho;subst ho;simp[D.cells?] at hc
     | cons j p=>simp[bw,D.cells?] at ho
    ·simpa[dg,hq,hrts] using g1
   obtain⟨z1,z2,z3⟩:=h.own q' _ g1;simp only[Ow] at z1;obtain⟨b1,m1,s1,x1,l1,y1,y2,y3⟩:=z1;rw[g2] at y1;injection y1 with y1;injection y1 with y1;injection y1 with y1 _ _;subst y1;refine⟨g1',rfl,hnb bi _ y3 (by simp),a1,by rw[a3];exact g4,?_⟩;obtain⟨hv5,fo5,hat5⟩:=h.rts_.at_ (r:=m) (p:=s) g3;have:=hat5.own;simp only[Ow] at this;obtain⟨m6,en6,cl6,e6,e7,e8⟩:=this;have:hv5 = .map (some mb):=by have:=hat5.hdr;rw[g4] at this;injection this with this;exact this.symm
   rw[this] at e6;injection e6 with e6;injection e6 with e6
   subst e6;exact hnb mb _ e8.at_ (by simp)⟩
  refine⟨hv,b,q,k1,k2,k4,k5,⟨φ',Rel.of_rts (by rw[erts,hsize];exact k6) (fun t=>?_) (fun c hc=>by rw[hsize];exact h.okb c hc) (h.frm.setCell k3.2.1)⟩,⟨o1,o1.setCells (cs1.set i e),cs1,cs1.set i e,ho',hc,?_,fN hc⟩,?_⟩
  ·rw[eenv];exact gf S J _ _ (hke t).2.1 (hke t).1
  ·have:=iM p d o1 (o1.setCells (cs1.set i e)) [] ho;rw[List.append_nil] at this;rw[hobjr,this];simp[bw]
  ·refine⟨?_,k3.1,pF hl hsh⟩
   by_cases hpp:cj (p ++ [i]) p=true
   ·obtain⟨t,ht⟩:=fg hpp;have:=congrArg List.length ht;simp at this
   ·rw[(k8 p o1 (by rw[hrts];exact ho') (by simpa using hpp)).1];exact k1
 ·-- an owned tree is moved
  obtain⟨hv',fo,φ1,t1,t2,t3,t4,t5,t6,t7,_⟩:=hRa.take ho2;have ehv:hv'=v:=by rw[hv2] at t1;injection t1 with t1;exact t1.symm
  subst ehv;have etk:=nk σa r2 p2;have ho1':dn (eT σa.rts r2 p2) r p=some o1:=by
   have:St.obj { (σa.take r2 p2) with env:=fun t=>(σa.env t).move ⟨r2,p2,r,p ++ [i]⟩ } r p=dn (eT σa.rts r2 p2) r p:=by rw[kO];simp only[etk.1]
   rw[this] at ho1;exact ho1
  have hobj1:=ho1';unfold dn at ho1';split at ho1'
  case h_2=>simp at ho1'
  rename_i d1 hd1
  -- the object is still of the same length
  have hlen:∃ old1,cs1[i]? = some old1:=by
   have hlt:i < cs.length:=by
    rcases Nat.lt_or_ge i cs.length with h' | h'
    ·exact h'
    ·simp[List.getElem?_eq_none h'] at hi
   have:cs1.length=cs.length:=by
    by_cases hpre:r=r2/\cj p2 p=true
    ·obtain⟨rfl,hpp⟩:=hpre;obtain⟨t,rfl⟩:=fg hpp
     -- what was taken holds nothing any more
     exfalso
     cases p2 with
     | nil=>simp[eT,dg] at hd1
     | cons j p2=>
      simp only[eT,hrts,hd] at hd1;simp only[dg,↓reduceIte,Option.some.injEq] at hd1;subst hd1;have:=iM (j :: p2) d e .gone t (by have:=ho2;simp only[dn,hrts,hd] at this;exact this);rw[this] at ho1'
      cases t with
      | nil=>simp[bw] at ho1';subst ho1';simp[D.cells?] at hc1
      | cons=>simp[bw,D.cells?] at ho1'
    ·have hpre':r=r2->cj p2 p=false:=fun e=>by
      cases hh:cj p2 p with
      | false=>rfl
      | true=>exact absurd ⟨e,hh⟩ hpre
     obtain⟨x',hx',hk⟩:=t7 r p o (by rw[hrts];exact ho') hpre';rw[hobj1] at hx'
     cases hx'
     obtain⟨cs',e1,e2⟩:=jz (.inl hk) hc;rw[hc1] at e1
     cases e1
     exact e2
   exact⟨cs1[i],List.getElem?_eq_getElem (by omega)⟩
  obtain⟨old1,hi1⟩:=hlen;obtain⟨hv,b,q,k1,k2,k3,k4,k5,φ',k6,k7,k8,k9⟩:=t5.write hBok hd1 ho1' hc1 hi1 t2 t3 t4 t6;have erts:σ'.rts=dg (eT σa.rts r2 p2) r (some (c5 d1 p (o1.setCells (cs1.set i e)))):=by
   rw[<-hs];simp only[St.put,etk.1,hd1];rfl
  have eenv:σ'.env=fun t=>(σa.env t).move ⟨r2,p2,r,p ++ [i]⟩:=by rw[<-hs];simp only[St.put,etk.1,hd1]
  have hsize:(w.setCell ⟨b,q+i,none⟩ hv').heap.size=w.heap.size:=by simp
  have hobjr:∀ s,σ'.obj r s=bw (c5 d1 p (o1.setCells (cs1.set i e))) s:=fun s=>by rw[kO,erts];simp[dn,dg]
  have hobjo:∀ q' s,q'≠r->σ'.obj q' s=dn (eT σa.rts r2 p2) q' s:=fun q' s hq=>by rw[kO,erts];simp[dn,dg,hq]
  have hkk:∀ c,ok c->(w.setCell ⟨b,q+i,none⟩ hv').heap[c]? = w.heap[c]?:=fun c hc=>Go.RowKit.Below.heap_setCell w _ hv' c (fun e=>by subst e;exact k3.1 hc);have hplace:∀ q' s x,GS σ r (p ++ [i]) q' s->σ.obj q' s=some x->∃ o',σ'.obj (Mv.place ⟨r2,p2,r,p ++ [i]⟩ q' s).1 (Mv.place ⟨r2,p2,r,p ++ [i]⟩ q' s).2=some o'/\cH x o' /\
    hdr (w.setCell ⟨b,q+i,none⟩ hv') (ρ (Mv.place ⟨r2,p2,r,p ++ [i]⟩ q' s).1) (Mv.place ⟨r2,p2,r,p ++ [i]⟩ q' s).2=hdr w (ρ q') s:=by
   intro q' s x hg hx;have stay:(q'=r2->cj p2 s=false)->∃ o',σ'.obj q' s=some o'/\cH x o'/\hdr (w.setCell ⟨b,q+i,none⟩ hv') (ρ q') s=hdr w (ρ q') s:=fun hst=>by
    obtain⟨x1,hx1,hk1⟩:=t7 q' s x (by rw[hrts];exact hx) hst
    by_cases hq:q'=r
    ·subst hq;obtain⟨a1,x2,a2,a3⟩:=k8 s x1 hx1 (hg.2 rfl);exact⟨x2,by rw[hobjr];exact a2,jI hk1 a3,a1⟩
    ·exact⟨x1,by rw[hobjo q' s hq];exact hx1,hk1,k7 q' s hq (by rw[hx1];simp)⟩
   simp only[Mv.place]
   by_cases hqr:q'=r2
   ·subst hqr;simp only[↓reduceIte];split
    ·rename_i t ht;have es:=nQ ht;subst es;have hx':bw e t=some x:=by
      have:=hx;simp only[St.obj] at this;rw[<-hrts] at this;simp only[dn] at ho2;split at ho2
      ·rename_i d2 hd2;simp only[hd2,ii,ho2,Option.bind_some] at this;exact this
      ·simp at ho2
     obtain⟨a1,a2⟩:=k9 t x hx';refine⟨x,by rw[hobjr];exact a1,bX x,?_⟩;rw[a2,jw,hv2];rfl
    ·rename_i hst;exact stay fun _=>lH hst
   ·simp only[if_neg hqr];exact stay fun e=>absurd e hqr
  have S:Sim w ok σ ρ (w.setCell ⟨b,q+i,none⟩ hv') ok σ' ρ (GS σ r (p ++ [i])) (Mv.place ⟨r2,p2,r,p ++ [i]⟩):=
   ⟨fun c hc=>⟨hc,hkk c hc⟩,fun q' s x hg hx=>by
    obtain⟨x',a1,a2,a3⟩:=hplace q' s x hg hx;exact⟨x',a1,.inl a2,a3⟩⟩
  have J:D8 w σ ρ (w.setCell ⟨b,q+i,none⟩ hv') σ' ρ (IS σ r (p ++ [i])) (Mv.place ⟨r2,p2,r,p ++ [i]⟩):=⟨fun q' m s bi mb es hI g1 g2 g3 g4=>by
   obtain⟨x',a1,a2,a3⟩:=hplace m s _ ⟨⟨_,g3,.inr ⟨es,rfl⟩⟩,hI.2.1⟩ g3;have ex:x' = .mp es:=by cases x' <;> simp[cH] at a2;rw[a2]
   subst ex;have hnb:∀ c x,w.heap[c]? = some x->(∀ arr T fz,x≠Obj.cells arr T fz)->(w.setCell ⟨b,q+i,none⟩ hv').heap[c]? = w.heap[c]?:=fun c x hx hne=>by
    refine Go.RowKit.Below.heap_setCell w _ hv' c fun e=>?_;subst e;obtain⟨u,hu⟩:=k4;unfold World.cell? at hu;rw[hx] at hu
    cases x <;> simp at hu
    exact hne _ _ _ rfl
   have hq1:q'≠r:=by
    rintro rfl;rw[hd] at g1
    cases g1
    cases p with
    | nil=>simp[bw] at ho;subst ho;simp[D.cells?] at hc
    | cons j p=>simp[bw,D.cells?] at ho
   have hq2:q'≠r2:=by
    rintro rfl;simp only[dn,hrts,g1] at ho2
    cases p2 with
    | nil=>simp[bw] at ho2;subst ho2;rcases hobj2 with h | ⟨_,h⟩ <;> simp[D.cells?] at h
    | cons j p2=>simp[bw,D.cells?] at ho2
   have g1':σ'.rts q'=some .itr:=by
    rw[erts];simp only[dg,if_neg hq1]
    cases p2 with
    | nil=>simpa[eT,dg,hq2,hrts] using g1
    | cons j p2=>
     simp only[eT]
     cases hh:σa.rts r2 with
     | some d9=>simpa[dg,hq2,hrts] using g1
     | none=>simpa[hrts] using g1
   obtain⟨z1,z2,z3⟩:=h.own q' _ g1;simp only[Ow] at z1;obtain⟨b1,m1,s1,x1,l1,y1,y2,y3⟩:=z1;rw[g2] at y1;injection y1 with y1;injection y1 with y1;injection y1 with y1 _ _;subst y1;refine⟨g1',rfl,hnb bi _ y3 (by simp),a1,by rw[a3];exact g4,?_⟩;obtain⟨hv5,fo5,hat5⟩:=h.rts_.at_ (r:=m) (p:=s) g3;have:=hat5.own;simp only[Ow] at this;obtain⟨m6,en6,cl6,e6,e7,e8⟩:=this;have:hv5 = .map (some mb):=by have:=hat5.hdr;rw[g4] at this;injection this with this;exact this.symm
   rw[this] at e6;injection e6 with e6;injection e6 with e6
   subst e6;exact hnb mb _ e8.at_ (by simp)⟩
  refine⟨hv,b,q,?_,k2,k4,k5,⟨φ',Rel.of_rts (by rw[erts,hsize];exact k6) (fun t=>?_) (fun c hc=>by rw[hsize];exact h.okb c hc) (h.frm.setCell k3.2.1)⟩,⟨o,o1.setCells (cs1.set i e),cs,cs1.set i e,ho',hc,?_,fN hc1⟩,?_⟩
  ·exact k1
  ·rw[eenv];exact BC (I:=IS σ r (p ++ [i])) S J _ _ (hke t).2.1 (hke t).1
  ·have:=iM p d1 o1 (o1.setCells (cs1.set i e)) [] ho1';rw[List.append_nil] at this;rw[hobjr,this];simp[bw]
  ·refine⟨?_,k3.1,pQ t2 (by rintro rfl;rcases hobj2 with h | ⟨_,h⟩ <;> simp[D.cells?] at h) (by rintro x rfl;rcases hobj2 with h | ⟨_,h⟩ <;> simp[D.cells?] at h)⟩
   by_cases hpp:cj (p ++ [i]) p=true
   ·obtain⟨t,ht⟩:=fg hpp;have:=congrArg List.length ht;simp at this
   ·rw[(k8 p o1 hobj1 (by simpa using hpp)).1];exact k1
end
end Go.Proofs.YtncfmemhjahpeaaGreat.Ab
namespace Go.Proofs.YtncfmemhjahpeaaGreat.Ab
open Go
def kS:List Value->Nat->(Nat->Value)->(Nat->Value)
 | [],_,e=>e
 | f :: r,t,e=>kS r (t+1) (upd e t f)
section
variable {w0:World} {fp0:List Nat} {ok:Nat->Prop} {P:Program}
theorem fu {w:World} {σ:St} {ρ:Rn->Value}:∀ {fs:List FV} {us:List Value},FRL w ok σ ρ fs us->us.length=fs.length
 | [],us,h=>by simp only[FRL] at h;simp[h]
 | f :: fs,us,h=>by
  simp only[FRL] at h;obtain⟨u,vs,e,_,h⟩:=h;simp[e,fu h]
theorem tG {w:World} {σ:St} {ρ:Rn->Value}:∀ (fs:List FV) (us:List Value) (t:Nat) (e:Nat->FV) (θ:Nat->Value),FRL w ok σ ρ fs us->(∀ s,FR w ok σ ρ (e s) (θ s))->∀ s,FR w ok σ ρ (oU fs t e s) (kS us t θ s)
 | [],us,t,e,θ,h,he,s=>by
  simp only[FRL] at h;subst h;exact he s
 | f :: fs,us,t,e,θ,h,he,s=>by
  simp only[FRL] at h;obtain⟨u,vs,rfl,h1,h2⟩:=h;simp only[oU,kS];refine tG fs vs (t+1) _ _ h2 (fun s=>?_) s;simp only[upd];split
  ·exact h1
  ·exact he s
theorem o7:∀ (us:List Value) (t:Nat) (θ:Nat->Value) (s:Nat),s < t->kS us t θ s=θ s
 | [],_,_,_,_=>rfl
 | u :: us,t,θ,s,h=>by
  simp only[kS];rw[o7 us (t+1) _ s (by omega)];simp only[upd];rw[if_neg (by omega)]
theorem rE:∀ (us:List Value) (t:Nat) (θ:Nat->Value) (j:Nat) (u:Value),us[j]? = some u->kS us t θ (t+j)=u
 | [],_,_,_,_,h=>by simp at h
 | v :: us,t,θ,0,u,h=>by
  simp only[List.getElem?_cons_zero,Option.some.injEq] at h;simp only[kS,Nat.add_zero];rw[o7 us (t+1) _ t (by omega)];simp[upd,h]
 | v :: us,t,θ,j+1,u,h=>by
  simp only[List.getElem?_cons_succ] at h;simp only[kS];rw[show t+(j+1)=t+1+j by omega];exact rE us (t+1) _ j u h
theorem uv {w:World} {σ:St} {ρ:Rn->Value} {e:Nat->FV}:∀ (us:List Value) (t:Nat),(∀ j u,us[j]? = some u->FR w ok σ ρ (e (t+j)) u)->FRL w ok σ ρ (mW e t us.length) us
 | [],t,_=>by simp[mW,FRL]
 | u :: us,t,h=>by
  simp only[List.length_cons,mW,FRL];refine⟨u,us,rfl,by simpa using h 0 u (by simp),uv us (t+1) fun j v hj=>?_⟩;rw[show t+1+j=t+(j+1) by omega];exact h (j+1) v (by simpa using hj)
theorem eE (b o n:Nat):(⟨b,o,none⟩:Addr).add n=⟨b,o+n,none⟩:=by
 unfold Addr.add;split
 ·simp[*]
 ·rfl
theorem yM {w w':World} {σ σ':St} {ρ ρ':Rn->Value} (hk:∀ b,ok b->w'.heap[b]? = w.heap[b]?):∀ (fs:List FV) (us:List Value),fs.all FV.isLeaf=true->FRL w ok σ ρ fs us->FRL w' ok σ' ρ' fs us
 | [],us,_,h=>by simpa[FRL] using h
 | f :: fs,us,hl,h=>by
  simp only[FRL] at h ⊢;simp only[List.all_cons,Bool.and_eq_true] at hl;obtain⟨u,vs,e,h1,h2⟩:=h;refine⟨u,vs,e,?_,yM hk fs vs hl.2 h2⟩
  cases f <;> simp[FV.isLeaf] at hl
  simp only[FR] at h1 ⊢;exact gh (fun b hb=>⟨hb,hk b hb⟩) _ _ h1
theorem ky {r:Rn} {p:List Nat} {ρ:Rn->Value} {b q s:Nat} {hv:Value} (hb:gZ hv=some (b,q)):∀ (m:Nat) (fs:List FV) (off:Nat) (σ:St) (θ:Nat->Value) (w:World) (φ:Rn->List Nat) (vs:List Value) (i:Nat) (σ':St),
  Rel w0 fp0 ok σ θ w ρ φ->σ.storeL r p m off fs=some σ'->FRL w ok σ ρ fs vs->hdr w (ρ r) p=some hv->s+i=q+off ->
  ∃ w' θ' φ',(storeCells ⟨b,s,none⟩ vs i).run P w = .ok () w'/\Rel w0 fp0 ok σ' θ' w' ρ φ'/\(∀ t,t < 2000->θ' t=θ t)/\∀ v∈vs,v.oneCell'=true
 | m,[],off,σ,θ,w,φ,vs,i,σ',h,hs,hf,hh,hi=>by
  have:σ=σ':=by cases m <;> simpa[St.storeL] using hs
  subst this;simp only[FRL] at hf;subst hf;exact⟨w,θ,φ,by simp[storeCells],h,fun _ _=>rfl,by simp⟩
 | 0,f :: fs,off,σ,θ,w,φ,vs,i,σ',h,hs,hf,hh,hi=>by simp[St.storeL] at hs
 | m+1,f :: fs,off,σ,θ,w,φ,vs,i,σ',h,hs,hf,hh,hi=>by
  simp only[FRL] at hf;obtain⟨v,us,rfl,hf1,hf2⟩:=hf;simp only[St.storeL] at hs;have hrun:∀ (u:Value),(∃ x,w.cell? ⟨b,q+off,none⟩ = some x)->w.frozen? ⟨b,q+off,none⟩ = false->v.oneCell'=true->∀ w',(storeCells ⟨b,s,none⟩ us (i+1)).run P (w.setCell ⟨b,q+off,none⟩ v) = .ok () w' ->
    (storeCells ⟨b,s,none⟩ (v :: us) i).run P w = .ok () w':=fun u ⟨x,hx⟩ hfz hone w' hrest=>by
   simp only[storeCells,Sem.run_bind,eE,hi];rw[run_store P w _ v .plain hone];simp only[hx,hfz,Bool.false_eq_true,if_false,Result.andThen_ok];exact hrest
  split at hs
  ·rename_i hl;split at hs
   ·rename_i σ1 h1;obtain⟨hv',b',q',k1,k2,k3,k4,⟨φ',k5⟩,_,k6,k7,k8⟩:=ni h h1 hf1;have e1:hv'=hv:=by rw[hh] at k1;injection k1 with k1;exact k1.symm
    subst e1;rw[hb] at k2
    cases k2
    have hkk:∀ c,ok c->(w.setCell ⟨b,q+off,none⟩ v).heap[c]? = w.heap[c]?:=fun c hc=>Go.RowKit.Below.heap_setCell w _ v c (fun e=>by subst e;exact k7 hc);obtain⟨w',θ',φ2,g1,g2,g3,g4⟩:=ky (s:=s) hb m fs (off+1) σ1 θ _ φ' us (i+1) σ' k5 hs (yM hkk fs us hl hf2) k6 (by omega);exact⟨w',θ',φ2,hrun v k3 k4 k8 w' g1,g2,g3,fun x hx=>by
     rcases List.mem_cons.1 hx with rfl | hx
     ·exact k8
     ·exact g4 x hx⟩
   ·simp at hs
  ·split at hs
   ·rename_i σ1 h1;have hp:Rel w0 fp0 ok { σ with env:=oU fs 2000 σ.env } (kS us 2000 θ) w ρ φ:=
     ⟨h.own,h.dis,fun t=>m7 _ _ (tG fs us 2000 _ _ hf2 h.env t),h.okb,h.frm⟩
    obtain⟨hv',b',q',k1,k2,k3,k4,⟨φ',k5⟩,_,k6,k7,k8⟩:=ni hp h1 (m7 _ _ hf1);have e1:hv'=hv:=by rw[hh] at k1;injection k1 with k1;exact k1.symm
    subst e1;rw[hb] at k2
    cases k2
    have hun:FRL (w.setCell ⟨b,q+off,none⟩ v) ok σ1 ρ (mW σ1.env 2000 fs.length) us:=by
     rw[<-fu hf2];exact uv us 2000 fun j u hj=>by
      have:=k5.env (2000+j)
      rwa [rE us 2000 θ j u hj] at this
    obtain⟨w',θ',φ2,g1,g2,g3,g4⟩:=ky (s:=s) hb m _ (off+1) σ1 _ _ φ' us (i+1) σ' k5 hs hun k6 (by omega);exact⟨w',θ',φ2,hrun v k3 k4 k8 w' g1,g2,fun t ht=>by rw[g3 t ht,o7 us 2000 θ t ht],fun x hx=>by
     rcases List.mem_cons.1 hx with rfl | hx
     ·exact k8
     ·exact g4 x hx⟩
   ·simp at hs
theorem de.refl (w:World) (fp:List Nat):de w fp w:=⟨rfl,rfl,rfl,Nat.le_refl _,Nat.le_refl _,fun _ _ _=>rfl⟩
theorem de.trans {a b c:World} {f g:List Nat} (h:de a f b) (k:de b g c) (hg:∀ x∈g,x∈f\/a.heap.size<=x):de a f c:=
 ⟨k.os.trans h.os,k.out.trans h.out,k.tape.trans h.tape,Nat.le_trans h.drawn k.drawn,Nat.le_trans h.size k.size,fun x hx hn=>by
  rw[k.old x (Nat.lt_of_lt_of_le hx h.size) (fun hh=>by rcases hg x hh with e | e;exact hn e;omega)];exact h.old x hx hn⟩
theorem de.drew {a b:World} {f:List Nat} (h:de a f b):de a f b.drew:=⟨h.os,h.out,h.tape,Nat.le_succ_of_le h.drawn,h.size,h.old⟩
theorem de.alloc {a b:World} {f:List Nat} (h:de a f b) (o:Obj):de a f (b.alloc o):=
 ⟨h.os,h.out,h.tape,h.drawn,by simp;have:=h.size;omega,fun x hx hn=>by
  rw[Go.RowKit.Below.heap_alloc b o x (Nat.lt_of_lt_of_le hx h.size)];exact h.old x hx hn⟩
variable {σ:St} {θ:Nat->Value} {w:World} {ρ:Rn->Value} {φ:Rn->List Nat}
theorem Rel.world (h:Rel w0 fp0 ok σ θ w ρ φ) {w':World} (hw:∀ b,b < w.heap.size->w'.heap[b]? = w.heap[b]?) (hs:w.heap.size<=w'.heap.size) (hk:de w0 fp0 w'):Rel w0 fp0 ok σ θ w' ρ φ:=by
 have hR:=h.rts_;have hown:∀ b,(∃ q e,σ.rts q=some e/\b∈φ q)->w'.heap[b]? = w.heap[b]?:=fun b ⟨q,e,he,hb⟩=>hw b ((h.own q e he).2.2 b hb).2.2;have hok:∀ b,ok b->ok b/\w'.heap[b]? = w.heap[b]?:=fun b hb=>⟨hb,hw b (h.okb b hb)⟩;refine Rel.of_rts (hR.mono hown hok fun b hb=>⟨hb.1,hb.2.1,Nat.lt_of_lt_of_le hb.2.2 hs⟩) (fun t=>?_) (fun b hb=>Nat.lt_of_lt_of_le (h.okb b hb) hs) hk;refine gf (G:=fun r p=>∃ o,σ.obj r p=some o/\fV o) (I:=fun r m p=>σ.rts r=some .itr/\∃ es,σ.obj m p=some (.mp es)) ⟨hok,fun r p o hg ho=>⟨o,ho,.inl (bX o),hR.hdr_mono hown ho⟩⟩ ⟨fun r m p b mb es hi h1 h2 h3 h4=>?_⟩ _ _ (gK _ _ (h.env t)) (h.env t);obtain⟨z1,z2,z3⟩:=h.own r _ h1;simp only[Ow] at z1;obtain⟨b1,m1,s1,x1,l1,y1,y2,y3⟩:=z1;rw[h2] at y1;injection y1 with y1;injection y1 with y1;injection y1 with y1 _ _
 subst y1;obtain⟨hv5,fo5,hat5⟩:=hR.at_ (r:=m) (p:=p) h3;have:=hat5.own;simp only[Ow] at this;obtain⟨m6,en6,cl6,e6,e7,e8⟩:=this;have e9:hv5 = .map (some mb):=by have:=hat5.hdr;rw[h4] at this;injection this with this;exact this.symm
 rw[e9] at e6;injection e6 with e6;injection e6 with e6
 subst e6;have hlt:∀ c x,w.heap[c]? = some x->w'.heap[c]? = w.heap[c]?:=fun c x hx=>hw c (by
  rcases Nat.lt_or_ge c w.heap.size with h' | h'
  ·exact h'
  ·simp[Array.getElem?_eq_none h'] at hx)
 exact⟨h1,rfl,hlt b _ y3,h3,by rw[hR.hdr_mono hown h3];exact h4,hlt mb _ e8.at_⟩
theorem Rel.drew (h:Rel w0 fp0 ok σ θ w ρ φ):Rel w0 fp0 ok σ θ w.drew ρ φ:=h.world (fun _ _=>rfl) (Nat.le_refl _) h.frm.drew
theorem Rel.alloc (h:Rel w0 fp0 ok σ θ w ρ φ) (o:Obj):Rel w0 fp0 ok σ θ (w.alloc o) ρ φ:=
 h.world (fun b hb=>Go.RowKit.Below.heap_alloc w o b hb) (by simp) (h.frm.alloc o)
theorem Rel.root (h:Rel w0 fp0 ok σ θ w ρ φ) {r:Rn} {d:D} {u:Value} {fp:List Nat} (hr:σ.rts r=none) (ho:Ow w ok d u fp) (hn:fp.Nodup)
  (hf:∀ b∈fp,(∀ q e,σ.rts q=some e->b ∉ φ q)/\Bnd w0 fp0 ok w.heap.size b):Rel w0 fp0 ok (σ.root r d) θ w (upR ρ r u) (upR φ r fp):=by
 have hR:=h.rts_.new (r:=r) (d:=d) (u:=u) (fp:=fp) (w':=w) (ok':=ok) (B':=Bnd w0 fp0 ok w.heap.size) (fun _ _=>rfl) (fun b hb=>⟨hb,rfl⟩) ho hn (fun b hb q e _ he=>(hf b hb).1 q e he) (fun b hb=>(hf b hb).2) (fun _ hb=>hb);refine Rel.of_rts hR (fun t=>?_) h.okb h.frm;have hobj:∀ q s x,σ.obj q s=some x->q≠r:=fun q s x hx e=>by subst e;simp[St.obj,hr] at hx
 have hroot:∀ q s,q≠r->(σ.root r d).obj q s=σ.obj q s:=fun q s hq=>by simp[St.root,St.obj,hq]
 refine gf (G:=fun r p=>∃ o,σ.obj r p=some o/\fV o) (I:=fun r m p=>σ.rts r=some .itr/\∃ es,σ.obj m p=some (.mp es)) ⟨fun b hb=>⟨hb,rfl⟩,fun q s o hg hx=>?_⟩ ⟨fun q m s b mb es hi h1 h2 h3 h4=>?_⟩ _ _ (gK _ _ (h.env t)) (h.env t)
 ·have hq:=hobj q s o hx;exact⟨o,by rw[hroot q s hq];exact hx,.inl (bX o),by simp[upR,hq]⟩
 ·have hq:q≠r:=fun e=>by subst e;rw[hr] at h1;simp at h1
  have hm:=hobj m s _ h3;exact⟨by simpa[St.root,hq] using h1,by simp[upR,hq],rfl,by rw[hroot m s hm];exact h3,by simpa[upR,hm] using h4,rfl⟩
theorem Rel.upd (h:Rel w0 fp0 ok σ θ w ρ φ) {t:Nat} {f:FV} {v:Value} (hf:FR w ok σ ρ f v):Rel w0 fp0 ok { σ with env:=Ab.upd σ.env t f } (Ab.upd θ t v) w ρ φ:=
 ⟨h.own,h.dis,fun s=>by
  simp only[Ab.upd];split
  ·exact m7 _ _ hf
  ·exact m7 _ _ (h.env s),h.okb,h.frm⟩
theorem Rel.envs (h:Rel w0 fp0 ok σ θ w ρ φ) {e:Nat->FV} {θ':Nat->Value} (he:∀ t,FR w ok σ ρ (e t) (θ' t)):Rel w0 fp0 ok { σ with env:=e } θ' w ρ φ:=
 ⟨h.own,h.dis,fun s=>m7 _ _ (he s),h.okb,h.frm⟩
def Th (a:Act) (W:Nat->Value) (θ:Nat->Value):Prop:=(∀ t,t < 1000->θ t=a.tmps.getD t undef)/\(∀ j,j < 100->θ (1000+j)=W j)/\a.tmps.size<=1000
theorem Th.put {a:Act} {W θ:Nat->Value} (h:Th a W θ) {d:Nat} {v:Value} (hd:d < a.tmps.size):Th (a.put (some d) v) W (upd θ d v):=by
 refine⟨fun t ht=>?_,fun j hj=>?_,by simp[Act.put];exact h.2.2⟩
 ·simp only[upd,Act.put];split
  ·rename_i e;subst e;simp[hd]
  ·rename_i e;rw[h.1 t ht];simp only[Array.getD_eq_getD_getElem?,Array.getElem?_setIfInBounds];rw[if_neg (fun h=>e h.symm)]
 ·have h3:=h.2.2;simp only[upd];rw[if_neg (by omega)];exact h.2.1 j hj
end
end Go.Proofs.YtncfmemhjahpeaaGreat.Ab
namespace Go.Proofs.YtncfmemhjahpeaaGreat.Ab
open Go
def B6:Value->Value->Bool
 | .int k n,.int k' n'=>k == k' && n == n'
 | .bool a,.bool b=>a == b
 | .string s,.string t=>s.size == 0 && t.size == 0
 | .pointer none,.pointer none=>true
 | .slice none 0 0,.slice none 0 0=>true
 | .map none,.map none=>true
 | .nilFunc,.nilFunc=>true
 | .nilIface,.nilIface=>true
 | _,_=>false
theorem DV {x y:Value} (h:B6 x y=true):x=y/\x.oneCell'=true:=by
 unfold B6 at h;split at h <;> simp_all[Value.oneCell']
def oo:List Value->List Value->Bool
 | [],[]=>true
 | x :: r,y :: s=>B6 x y && oo r s
 | _,_=>false
theorem wL:∀ {x y:List Value},oo x y=true->x=y/\∀ v∈x,v.oneCell'=true
 | [],[],_=>⟨rfl,by simp⟩
 | x :: r,y :: s,h=>by
  simp only[oo,Bool.and_eq_true] at h;obtain⟨rfl,h1⟩:=DV h.1;obtain⟨rfl,h2⟩:=wL h.2;exact⟨rfl,by simpa using ⟨h1,h2⟩⟩
 | [],_ :: _,h=>by simp[oo] at h
 | _ :: _,[],h=>by simp[oo] at h
def mL (P:Program):List (Nat×Nat)->List Field->Bool
 | [],[]=>true
 | x :: r, f :: s => x.1 == f.offset && x.2 == f.type && !(f.name == "_") && (P.info? f.type).isSome && mL P r s
 | _,_=>false
theorem uE {P : Program} : ∀ {fs : List (Nat × Nat)} {l : List Field}, mL P fs l = true → fs = l.map (fun f => (f.offset, f.type)) ∧ ∀ f ∈ l, f.name ≠ "_" ∧ (P.info? f.type).isSome = true
 | [],[],_=>⟨rfl,by simp⟩
 | x :: r,f :: s,h=>by
  simp only[mL,Bool.and_eq_true,beq_iff_eq,Bool.not_eq_true',beq_eq_false_iff_ne] at h;obtain⟨e,h2⟩:=uE h.2;refine⟨by rw[List.map_cons,<-e];obtain⟨a,b⟩:=x;simp_all,?_⟩;intro g hg;rcases List.mem_cons.1 hg with rfl | hg
  ·exact⟨h.1.1.2,h.1.2⟩
  ·exact h2 g hg
 | [],_ :: _,h=>by simp[mL] at h
 | _ :: _,[],h=>by simp[mL] at h
def kdB (P:Program) (t:Nat) (kd:TK):Bool:=
 match kd,P.underlying t with
 | .int k,some (.int k')=>k == k'
 | .bool,some .bool=>true
 | .str,some .string=>true
 | .sl e,some (.slice e')=>e == e'
 | .arr n e,some (.array n' e')=>n == n' && e == e'
 | .st fs,some (.struct l)=>mL P fs l.toList && !P.stoodInHeld t && !P.eqGuardType P.depth t
 | .map k e,some (.map k' e')=>k == k' && e == e'
 | .other,some (.pointer _)=>true
 | .other,some (.func _ _ _)=>true
 | .other,some (.tuple _)=>true
 | .other,some (.interface _)=>true
 | _,_=>false
def rowB (P:Program) (t:Nat) (i:TI):Bool:=
 match P.info? t with
 | some ti=>ti.size == i.size && ti.bytes == i.bytes && (match ti.zero with | some z=>oo i.zero z.cells.toList && (cQ i.kd || z.oneCell') | none=>false) && (i.zero.length == i.size) && kdB P t i.kd
 | none=>false
def cT (P:Program):TT->Bool
 | []=>true
 | x :: r=>rowB P x.1 x.2 && cT P r
structure fB (P:Program) (t:Nat) (i:TI):Prop where
 info:∃ ti,P.info? t=some ti/\ti.size=i.size/\ti.bytes=i.bytes/\∃ z,ti.zero=some z/\z.cells.toList=i.zero/\(cQ i.kd=false->z.oneCell'=true)
 one:∀ v∈i.zero,v.oneCell'=true
 len:i.zero.length=i.size
 kd:kdB P t i.kd=true
theorem GL {P:Program} {t:Nat} {i:TI} (h:rowB P t i=true):fB P t i:=by
 unfold rowB at h
 cases hi:P.info? t with
 | none=>simp[hi] at h
 | some ti=>
  simp only[hi,Bool.and_eq_true,beq_iff_eq] at h
  cases hz:ti.zero with
  | none=>simp[hz] at h
  | some z=>
   simp only[hz] at h;obtain⟨g1,g2⟩:=Bool.and_eq_true_iff.1 h.1.1.2;obtain⟨e,h1⟩:=wL g1;exact⟨⟨ti,hi,h.1.1.1.1,h.1.1.1.2,z,hz,e.symm,fun ha=>by rw[ha] at g2;simpa using g2⟩,h1,h.1.2,h.2⟩
theorem b9 {P:Program}:∀ {T:TT},cT P T=true->∀ {t i},bH T t=some i->fB P t i
 | [],_,t,i,h=>by simp[bH] at h
 | (a,x) :: r,hT,t,i,h=>by
  simp only[cT,Bool.and_eq_true] at hT;simp only[bH] at h;split at h
  ·rename_i e;subst e;injection h with h
   subst h;exact GL hT.1
  ·exact b9 hT.2 h
section types
variable {P:Program} {t:Nat} {i:TI}
theorem fB.size (h:fB P t i) (w:World):(sizeOf t).run P w = .ok i.size w:=by
 obtain⟨ti,h1,h2,_⟩:=h.info;simp[sizeOf,typeInfo,h1,h2]
theorem fB.cells (h:fB P t i):P.cellsOf t=i.size:=by
 obtain⟨ti,h1,h2,_⟩:=h.info;simp[Program.cellsOf,h1,h2]
theorem fB.zeroV (h:fB P t i):∃ z,z.cells.toList=i.zero/\(cQ i.kd=false->z.oneCell'=true)/\∀ w,(zeroValue t).run P w = .ok z w:=by
 obtain⟨ti,h1,h2,h3,z,h4,h5,h6⟩:=h.info;exact⟨z,h5,h6,fun w=>by simp[zeroValue,typeInfo,h1,h4]⟩
theorem fB.und (h:fB P t i):∃ d,P.underlying t=some d/\∀ w,(underlying t).run P w = .ok d w:=by
 have:=h.kd;unfold kdB at this
 cases hd:P.underlying t with
 | none=>simp[hd] at this
 | some d=>exact⟨d,rfl,fun w=>run_underlying hd w⟩
theorem fB.agg (h:fB P t i) (w:World):(isAgg t).run P w = .ok (cQ i.kd) w:=by
 have h1:=h.kd;unfold kdB at h1;obtain⟨d,hd,hr⟩:=h.und;rw[hd] at h1;unfold isAgg;simp only[Sem.run_bind,hr,Result.andThen]
 cases hk:i.kd <;> rw[hk] at h1 <;> cases d <;> simp_all[cQ]
theorem ou {k:IntKind} (h:fB P t i) (e:i.kd = .int k):P.underlying t=some (.int k):=by
 have h1:=h.kd;rw[e] at h1;unfold kdB at h1;split at h1 <;> simp_all
theorem FH (h:fB P t i) (e:i.kd = .bool):P.underlying t=some .bool:=by
 have h1:=h.kd;rw[e] at h1;unfold kdB at h1;split at h1 <;> simp_all
theorem Dm (h:fB P t i) (e:i.kd = .str):P.underlying t=some .string:=by
 have h1:=h.kd;rw[e] at h1;unfold kdB at h1;split at h1 <;> simp_all
theorem kK {k:Nat} (h:fB P t i) (e:i.kd = .sl k):P.underlying t=some (.slice k):=by
 have h1:=h.kd;rw[e] at h1;unfold kdB at h1;split at h1 <;> simp_all
theorem up {n k:Nat} (h:fB P t i) (e:i.kd = .arr n k):P.underlying t=some (.array n k):=by
 have h1:=h.kd;rw[e] at h1;unfold kdB at h1;split at h1 <;> simp_all
theorem CP {n k:Nat} (h:fB P t i) (e:i.kd = .map n k):P.underlying t=some (.map n k):=by
 have h1:=h.kd;rw[e] at h1;unfold kdB at h1;split at h1 <;> simp_all
theorem rY {fs : List (Nat × Nat)} (h : fB P t i) (e : i.kd = .st fs) : ∃ l, P.underlying t = some (.struct l) ∧ fs = l.toList.map (fun f => (f.offset, f.type)) ∧ (∀ f ∈ l.toList, f.name ≠ "_" ∧ (P.info? f.type).isSome = true) ∧ P.stoodInHeld t = false := by
 have h1:=h.kd;rw[e] at h1;unfold kdB at h1;split at h1 <;> simp_all;obtain⟨h2,h3⟩:=uE h1.1.1;exact⟨h2,by simpa using h3⟩
theorem Et {fs:List (Nat×Nat)} (h:fB P t i) (e:i.kd = .st fs):P.eqGuardType P.depth t=false:=by
 have h1:=h.kd;rw[e] at h1;unfold kdB at h1;split at h1 <;> simp_all
end types
def bV (w w':World):Prop:=w.heap.size<=w'.heap.size/\∀ b,b < w.heap.size->w'.heap[b]? = w.heap[b]?
theorem bV.refl (w:World):bV w w:=⟨Nat.le_refl _,fun _ _=>rfl⟩
theorem bV.trans {a b c:World} (h:bV a b) (k:bV b c):bV a c:=
 ⟨Nat.le_trans h.1 k.1,fun x hx=>(k.2 x (Nat.lt_of_lt_of_le hx h.1)).trans (h.2 x hx)⟩
theorem bV.cell {w w':World} (h:bV w w') {a:Addr} {v:Value} (hc:w.cell? a=some v):w'.cell? a=some v:=by
 have:=World.block_lt_of_cell? w a hc;unfold World.cell? at hc ⊢;rw[h.2 _ this];exact hc
theorem bV.heap {w w':World} (h:bV w w') {b:Nat} {o:Obj} (hc:w.heap[b]? = some o):w'.heap[b]? = some o:=by
 rw[h.2 b (by
  rcases Nat.lt_or_ge b w.heap.size with h' | h'
  ·exact h'
  ·simp[Array.getElem?_eq_none h'] at hc),hc]
end Go.Proofs.YtncfmemhjahpeaaGreat.Ab
namespace Go.Proofs.YtncfmemhjahpeaaGreat.Ab
open Go
section
variable {w0 w:World} {fp0:List Nat} {ok:Nat->Prop} {P:Program} {σ:St} {θ:Nat->Value} {ρ:Rn->Value} {φ:Rn->List Nat}
theorem ET {x:D} {v:Value} {fp:List Nat} (hl:x.leaf=true) (h:Ow w ok x v fp):Sh w ok x v:=by
 cases x <;> simp[D.leaf] at hl <;> simp only[Ow] at h <;> first | exact h.2 | (simp only[Sh];exact h.2)
theorem Eq {r:Rn} {p:List Nat} {hv v:Value} {b q i:Nat} (hh:hdr w (ρ r) p=some hv) (hb:gZ hv=some (b,q)) (hc:w.cell? ⟨b,q+i,none⟩ = some v):hdr w (ρ r) (p ++ [i])=some v:=by
 rw[jw,hh];simp[hdr,hb,hc]
theorem Fm {r:Rn} {p:List Nat} {i:Nat} {x:D} {v:Value} {fx:List Nat} (ho:σ.obj r (p ++ [i])=some x) (hh:hdr w (ρ r) (p ++ [i])=some v) (hx:Ow w ok x v fx) :
  FR w ok σ ρ (ge r p i x) v:=by
 cases x with
 | v x=>simp only[ge,FR,Sh];simp only[Ow] at hx;exact hx.2
 | ez=>simp only[ge,FR];simp only[Ow] at hx;exact hx.2
 | sh k n cs=>simp only[ge,FR];simp only[Ow] at hx;exact hx.2
 | vp cs=>simp only[ge,FR];simp only[Ow] at hx;exact hx.2
 | fn f cs=>simp only[ge,FR];simp only[Ow] at hx;exact hx.2
 | ow k n cs=>
  simp only[ge,FR];refine⟨k,n,cs,v,ho,hh,by omega,.inl ⟨rfl,?_⟩⟩;simp only[Ow] at hx;rcases hx with ⟨rfl,_,_,a,e⟩ | ⟨b,o,c,arr,T,fp',e,_⟩
  ·exact⟨a,0,0,e,e⟩
  ·exact⟨_,n,c,e,e⟩
 | bx cs=>
  simp only[ge,FR];simp only[Ow] at hx;obtain⟨b,arr,T,fp',e,_⟩:=hx;exact⟨_,cs,v,b,0,ho,rfl,hh,by subst e;rfl,by subst e;rfl⟩
 | mp es=>simp only[ge,FR];exact⟨es,v,ho,hh,rfl⟩
 | itr=>simp[ge,FR]
 | gone=>simp[ge,FR]
theorem vQ (h:Rel w0 fp0 ok σ θ w ρ φ) {r:Rn} {p:List Nat} {o x:D} {cs:List D} {i b q:Nat} {hv:Value} (ho:σ.obj r p=some o) (hc:o.cells? = some cs) (hh:hdr w (ρ r) p=some hv)
  (hb:gZ hv=some (b,q)) (hi:cs[i]? = some x):∃ v,w.cell? ⟨b,q+i,none⟩ = some v/\FR w ok σ ρ (ge r p i x) v:=by
 obtain⟨hv',fo,hat⟩:=h.rts_.at_ (r:=r) (p:=p) ho;have e:hv'=hv:=by have:=hat.hdr;rw[hh] at this;injection this with this;exact this.symm
 subst e;have hne:cs≠[]:=by rintro rfl;simp at hi
 obtain⟨b',o',fp',e1,e2,h3,_⟩:=j6 hat.own hc hne;rw[hb] at e1;injection e1 with e1;injection e1 with e1 e1';subst e1;subst e1';obtain⟨v,f1,fx,f2,_,h4,h5,_⟩:=ic h3 hi;refine⟨v,h4,Fm ?_ (Eq hh hb h4) h5⟩;rw[kO] at ho ⊢;unfold dn at ho ⊢;split at ho
 ·rename_i d hd;rw[ii,ho];simp[bw,hc,hi]
 ·simp at ho
theorem yj {cs:List D} {b q:Nat} {g:Nat->D->FV} (hcell:∀ i x,cs[i]? = some x->∃ v,w.cell? ⟨b,q+i,none⟩ = some v/\FR w ok σ ρ (g i x) v) :
  ∀ (n off:Nat) (l:List D),mz cs off n=some l->l.length=n/\∃ vs:List Value,vs.length=n/\(∀ (j:Nat) (v:Value),vs[j]? = some v->w.cell? ⟨b,q+off+j,none⟩ = some v) /\
   FRL w ok σ ρ (jd g off l) vs
 | 0,off,l,h=>by
  simp only[mz,Option.some.injEq] at h;subst h;exact⟨rfl,[],rfl,by simp,by simp[jd,FRL]⟩
 | n+1,off,l,h=>by
  simp only[mz] at h;split at h
  ·rename_i c hc;split at h
   ·rename_i r hr;injection h with h
    subst h;obtain⟨h1,vs,h2,h3,h4⟩:=yj hcell n (off+1) r hr;obtain⟨v,h5,h6⟩:=hcell off c hc;refine⟨by simp[h1],v :: vs,by simp[h2],fun j u hj=>?_,?_⟩
    ·cases j with
     | zero=>
      simp only[List.getElem?_cons_zero,Option.some.injEq] at hj;subst hj;simpa using h5
     | succ j=>
      simp only[List.getElem?_cons_succ] at hj;have:=h3 j u hj
      rwa [show q+(off+1)+j=q+off+(j+1) by omega] at this
    ·simp only[jd,FRL];exact⟨v,vs,rfl,h6,h4⟩
   ·simp at h
  ·simp at h
theorem qJ:∀ (l:List D) (off:Nat),jd (fun _=>FV.d) off l=l.map .d
 | [],_=>rfl
 | c :: l,off=>by simp[jd,qJ l]
theorem px {t b o:Nat} {i:TI} {vs:List Value} (hT:fB P t i) (hl:vs.length=i.size) (hc:∀ (j:Nat) (v:Value),vs[j]? = some v->w.cell? ⟨b,o+j,none⟩ = some v) (w':World) (hw:bV w w') :
  (cQ i.kd=true->(Instr.loadAt t (.pointer (some ⟨b,o,none⟩))).run P w' = .ok (.agg vs.toArray) w') /\
  (cQ i.kd=false->∀ v,vs=[v]->(Instr.loadAt t (.pointer (some ⟨b,o,none⟩))).run P w' = .ok v w'):=by
 have hc':∀ (j:Nat) (v:Value),vs[j]? = some v->w'.cell? (Addr.add ⟨b,o,none⟩ j)=some v:=fun j v hj=>by
  rw[eE];exact hw.cell (hc j v hj)
 refine⟨fun ha=>?_,fun ha v hv=>?_⟩
 ·have h1:=run_loadCells_list (P:=P) w' ⟨b,o,none⟩ vs hc';rw[hl] at h1;simp only[Instr.loadAt,Instr.sureAddr,loadVar,Sem.run_bind,Sem.run_pure,Result.andThen,hT.agg,ha,if_true,hT.size,h1]
 ·subst hv;have h1:=hc' 0 v rfl;rw[eE,Nat.add_zero] at h1;simp[Instr.loadAt,Instr.sureAddr,loadVar,hT.agg,ha,h1]
theorem xF:∀ (n off:Nat) (fs l:List FV) (vs:List Value),FRL w ok σ ρ fs vs->rQ fs off n=some l->∃ us:List Value,us.length=n/\(∀ (j:Nat) (u:Value),us[j]? = some u->vs[off+j]? = some u)/\FRL w ok σ ρ l us
 | 0,off,fs,l,vs,h,hp=>by
  simp only[rQ,Option.some.injEq] at hp;subst hp;exact⟨[],rfl,by simp,by simp[FRL]⟩
 | n+1,off,fs,l,vs,h,hp=>by
  simp only[rQ] at hp;split at hp
  ·rename_i c hc;split at hp
   ·rename_i r hr;injection hp with hp
    subst hp;obtain⟨us,h1,h2,h3⟩:=xF n (off+1) fs r vs h hr;have hget:∀ (k:Nat) (gs:List FV) (ws:List Value) (f:FV),FRL w ok σ ρ gs ws->gs[k]? = some f->∃ u,ws[k]? = some u/\FR w ok σ ρ f u:=by
     intro k
     induction k with
     | zero=>
      intro gs ws f hg hk
      cases gs with
      | nil=>simp at hk
      | cons g gs=>
       simp only[FRL] at hg;obtain⟨u,us',rfl,q1,q2⟩:=hg;simp only[List.getElem?_cons_zero,Option.some.injEq] at hk;subst hk;exact⟨u,rfl,q1⟩
     | succ k ih=>
      intro gs ws f hg hk
      cases gs with
      | nil=>simp at hk
      | cons g gs=>
       simp only[FRL] at hg;obtain⟨u,us',rfl,q1,q2⟩:=hg;simp only[List.getElem?_cons_succ] at hk;obtain⟨v,q3,q4⟩:=ih gs us' f q2 hk;exact⟨v,by simpa using q3,q4⟩
    obtain⟨u,h4,h5⟩:=hget off fs vs c h hc;refine⟨u :: us,by simp[h1],fun j v hj=>?_,?_⟩
    ·cases j with
     | zero=>
      simp only[List.getElem?_cons_zero,Option.some.injEq] at hj;subst hj;simpa using h4
     | succ j=>
      simp only[List.getElem?_cons_succ] at hj;have:=h2 j v hj
      rwa [show off+1+j=off+(j+1) by omega] at this
    ·simp only[FRL];exact⟨u,us,rfl,h5,h3⟩
   ·simp at hp
  ·simp at hp
theorem vm {T:TT} (hT:cT P T=true) (h:Rel w0 fp0 ok σ θ w ρ φ) {t:Nat} {a f:FV} {u:Value} (hs:vI T σ t a=some f) (hu:FR w ok σ ρ a u) :
  ∃ v,FR w ok σ ρ f v/\∀ w',bV w w'->(Instr.loadAt t u).run P w' = .ok v w':=by
 unfold vI at hs;split at hs
 ·simp at hs
 ·rename_i i hi;have hrow:=b9 hT hi;have fin:∀ (b q off:Nat) (cs l:List D) (g:Nat->D->FV),u = .pointer (some ⟨b,q+off,none⟩)->(∀ i x,cs[i]? = some x->∃ v,w.cell? ⟨b,q+i,none⟩ = some v/\FR w ok σ ρ (g i x) v) ->
    mz cs off i.size=some l->(if cQ i.kd then some (FV.ag (jd g off l)) else (match l with | [c]=>some (g off c) | _=>none))=some f ->
    ∃ v,FR w ok σ ρ f v/\∀ w',bV w w'->(Instr.loadAt t u).run P w' = .ok v w':=by
   intro b q off cs l g e hcell hp hf;subst e;obtain⟨h1,vs,h2,h3,h4⟩:=yj hcell i.size off l hp;split at hf
   ·rename_i ha;injection hf with hf
    subst hf;exact⟨.agg vs.toArray,by simp only[FR];exact⟨_,rfl,by simpa using h4⟩,fun w' hw=>(px hrow h2 h3 w' hw).1 ha⟩
   ·rename_i ha;split at hf
    ·rename_i c;injection hf with hf
     subst hf;simp only[jd,FRL] at h4;obtain⟨v,us,rfl,h5,rfl⟩:=h4;exact⟨v,h5,fun w' hw=>(px hrow h2 h3 w' hw).2 (by simpa using ha) v rfl⟩
    ·simp at hf
  split at hs
  ·rename_i r p off;simp only[FR] at hu;obtain⟨o,cs,hv,b,q,h1,h2,h3,h4,h5⟩:=hu;rw[h1] at hs;simp only[h2] at hs;split at hs
   ·rename_i l hl;exact fin b q off cs l (ge r p) h5 (fun j x hx=>vQ h h1 h2 h3 h4 hx) hl hs
   ·simp at hs
  ·rename_i cs off;simp only[FR] at hu;obtain⟨b,o,h1,h2,h3⟩:=hu;split at hs
   ·rename_i l hl;refine fin b o off cs l (fun _=>.d) h1 (fun j x hx=>?_) hl ?_
    ·obtain⟨v,h4,h5⟩:=r9 h3 hx;exact⟨v,h4,by simpa only [FR] using h5⟩
    ·rw[qJ];exact hs
   ·simp at hs
  ·rename_i cs;simp only[FR,Sh] at hu;obtain⟨b,o,h1,h2,h3⟩:=hu;split at hs
   ·rename_i l hl;refine fin b o 0 cs l (fun _=>.d) h1 (fun j x hx=>?_) hl ?_
    ·obtain⟨v,h4,h5⟩:=r9 h3 hx;exact⟨v,h4,by simpa only [FR] using h5⟩
    ·rw[qJ];exact hs
   ·simp at hs
  ·rename_i fs off;simp only[FR] at hu;obtain⟨b,vs,h1,h2,h3,h4⟩:=hu;subst h1;split at hs
   ·rename_i l hl;obtain⟨us,g1,g2,g3⟩:=xF i.size off fs l vs h4 hl;have hc:∀ (j:Nat) (v:Value),us[j]? = some v->w.cell? ⟨b,off+j,none⟩ = some v:=fun j v hj=>h3 _ v (g2 j v hj);split at hs
    ·rename_i ha;injection hs with hs
     subst hs;exact⟨.agg us.toArray,by simp only[FR];exact⟨_,rfl,by simpa using g3⟩,fun w' hw=>(px hrow g1 hc w' hw).1 ha⟩
    ·rename_i ha;split at hs
     ·rename_i c;injection hs with hs
      subst hs;simp only[FRL] at g3;obtain⟨v,us',rfl,h5,rfl⟩:=g3;exact⟨v,h5,fun w' hw=>(px hrow g1 hc w' hw).2 (by simpa using ha) v rfl⟩
     ·simp at hs
   ·simp at hs
  ·simp at hs
end
end Go.Proofs.YtncfmemhjahpeaaGreat.Ab
namespace Go.Proofs.YtncfmemhjahpeaaGreat.Ab
open Go
section
variable {w0 w:World} {fp0:List Nat} {ok:Nat->Prop} {P:Program} {σ:St} {θ:Nat->Value} {ρ:Rn->Value} {φ:Rn->List Nat}
theorem GK {k:IntKind} {n:Int} {u:Value} (h:FR w ok σ ρ (.d (.v (.int k n))) u):u = .int k n:=by simpa[FR,Sh] using h
theorem eI {x u:Value} (h:FR w ok σ ρ (.d (.v x)) u):u=x:=by simpa[FR,Sh] using h
theorem rv {a f:FV} {u:Value} {n:Nat} (hs:oJ a n=some f) (hu:FR w ok σ ρ a u) :
  ∃ b o,u = .pointer (some ⟨b,o,none⟩)/\FR w ok σ ρ f (.pointer (some ⟨b,o+n,none⟩)):=by
 unfold oJ at hs;split at hs
 ·rename_i r p off;injection hs with hs
  subst hs;simp only[FR] at hu ⊢;obtain⟨o,cs,hv,b,q,h1,h2,h3,h4,h5⟩:=hu;exact⟨b,q+off,h5,o,cs,hv,b,q,h1,h2,h3,h4,by rw[Nat.add_assoc]⟩
 ·rename_i cs off;injection hs with hs
  subst hs;simp only[FR] at hu ⊢;obtain⟨b,o,h1,h2,h3⟩:=hu;exact⟨b,o+off,h1,b,o,by rw[Nat.add_assoc],h2,h3⟩
 ·rename_i cs;injection hs with hs
  subst hs;simp only[FR,Sh] at hu ⊢;obtain⟨b,o,h1,h2,h3⟩:=hu;exact⟨b,o,h1,b,o,rfl,h2,h3⟩
 ·rename_i fs off;injection hs with hs
  subst hs;simp only[FR] at hu ⊢;obtain⟨b,vs,h1,h2,h3,h4⟩:=hu;exact⟨b,off,h1,b,vs,rfl,h2,h3,h4⟩
 ·simp at hs
theorem Ag {T:TT} (hT:cT P T=true) {t i off:Nat} {a f:FV} {u:Value} (hf:pN T t i=some off) (hs:oJ a off=some f) (hu:FR w ok σ ρ a u) :
  ∃ v,FR w ok σ ρ f v/\∀ w',(Instr.fieldAt t u i).run P w' = .ok v w':=by
 unfold pN at hf;split at hf
 ·rename_i ti hti;split at hf
  ·rename_i fs hfs;split at hf
   ·rename_i off' ft hft;split at hf
    ·rename_i j hj;split at hf
     ·simp at hf
     ·rename_i hne;injection hf with hf
      subst hf;obtain⟨l,hl,he,_⟩:=rY (b9 hT hti) hfs;obtain⟨b,o,rfl,h2⟩:=rv hs hu;refine⟨_,h2,fun w'=>?_⟩;rw[he,List.getElem?_map] at hft
      cases hfl:l[i]? with
      | none=>simp[hfl] at hft
      | some fl=>
       simp[hfl] at hft;obtain⟨e1,e2⟩:=hft;have hsz:=(b9 hT hj).size w';rw[<-e2] at hsz;simp[Instr.fieldAt,run_underlying hl,hfl,Instr.sureAddr,fieldPlace,hsz,hne,eE,e1]
    ·simp at hf
   ·simp at hf
  ·simp at hf
 ·simp at hf
theorem j5 (h:Rel w0 fp0 ok σ θ w ρ φ) {r:Rn} {p:List Nat} {k N:Nat} {cs:List D} {hv:Value} (ho:σ.obj r p=some (.ow k N cs)) (hh:hdr w (ρ r) p=some hv) :
  (∃ b o c,hv = .slice (some ⟨b,o,none⟩) N c/\N<=c/\gZ hv=some (b,o))\/(N=0/\∃ a,hv = .slice a 0 0):=by
 obtain⟨hv',fo,hat⟩:=h.rts_.at_ (r:=r) (p:=p) ho;have e:hv'=hv:=by have:=hat.hdr;rw[hh] at this;injection this with this;exact this.symm
 subst e;have:=hat.own;simp only[Ow] at this;rcases this with ⟨e1,_,_,a,e2⟩ | ⟨b,o,c,arr,T,fp',e1,_,_,h2,_⟩
 ·exact .inr ⟨e1,a,e2⟩
 ·exact .inl ⟨b,o,c,e1,h2.1,by subst e1;rfl⟩
theorem Dq {r:Rn} {p:List Nat} {k N:Nat} {cs:List D} (ho:σ.obj r p=some (.ow k N cs)):σ.kOf r p=k:=by simp[St.kOf,ho]
theorem AB {T:TT} (hT:cT P T=true) (h:Rel w0 fp0 ok σ θ w ρ φ) {t:Nat} {a i f:FV} {u v:Value} {c:Prop} (hs:vy T σ t a i=some (c,f)) (hc:c) (hu:FR w ok σ ρ a u) (hi:FR w ok σ ρ i v) :
  ∃ x,FR w ok σ ρ f x/\∀ w',(Instr.indexAt t u v).run P w' = .ok x w':=by
 unfold vy at hs;split at hs
 ·rename_i ti k0 x hti;have hv:=GK hi;subst hv;have hrow:=b9 hT hti;split at hs
  ·rename_i e he;have hu0:=kK hrow he;split at hs
   ·rename_i k hk;have hsz:∀ w':World,(sizeOf e).run P w' = .ok k w':=fun w'=>by
     unfold mA at hk;split at hk
     ·rename_i j hj;injection hk with hk
      rw[<-hk];exact (b9 hT hj).size w'
     ·simp at hk
    have run:∀ (b o n cp:Nat),0<=x/\x < n->∀ w':World,(Instr.indexAt t (.slice (some ⟨b,o,none⟩) n cp) (.int k0 x)).run P w' = .ok (.pointer (some ⟨b,o+x.toNat*k,none⟩)) w':=by
     intro b o n cp hx w';simp[Instr.indexAt,run_underlying hu0,asIntOf,hx,hsz,eE]
    split at hs
    ·rename_i r p lo n;split at hs
     ·rename_i hkk;injection hs with hs
      injection hs with h1 h2
      subst h2;rw[<-h1] at hc;simp only[FR] at hu;obtain⟨k',N,cs,hv,g1,g2,g3,g4⟩:=hu;rw[Dq g1] at hkk;subst hkk;rcases j5 h g1 g2 with ⟨b,o,cp,e1,e2,e3⟩ | ⟨e1,_⟩
      ·rcases g4 with ⟨rfl,a',N',c',e4,e5⟩ | ⟨hlo,b',o',N',c',e4,e5,e6⟩
       ·rw[e1] at e4
        cases e4
        subst e5;refine⟨_,?_,run b o n cp hc⟩;simp only[FR];exact⟨_,cs,hv,b,o,g1,rfl,g2,e3,by rw[Nat.mul_comm];simp⟩
       ·rw[e1] at e4
        cases e4
        rcases e6 with ⟨_,rfl⟩ | ⟨_,rfl,_⟩
        ·refine⟨_,?_,run b _ n _ hc⟩;simp only[FR];exact⟨_,cs,hv,b,o,g1,rfl,g2,e3,by rw[Nat.mul_comm x.toNat,Nat.add_assoc,<-Nat.mul_add]⟩
        ·omega
      ·omega
     ·simp at hs
    ·rename_i r p off n;split at hs
     ·rename_i hk1;subst hk1;injection hs with hs
      injection hs with h1 h2
      subst h2;rw[<-h1] at hc;simp only[FR] at hu;obtain⟨o,cs,hv,b,q,cp,g1,g2,g3,g4,g5,g6,g7⟩:=hu;rcases g7 with rfl | ⟨rfl,_⟩
      ·refine⟨_,?_,run b _ n cp hc⟩;simp only[FR];exact⟨o,cs,hv,b,q,g1,g2,g3,g4,by rw[Nat.mul_one,Nat.add_assoc]⟩
      ·omega
     ·simp at hs
    ·rename_i k' n cs;split at hs
     ·rename_i hk1;obtain⟨hk1,hkp⟩:=hk1;subst hk1;injection hs with hs
      injection hs with h1 h2
      subst h2;rw[<-h1] at hc;simp only[FR,Sh] at hu;obtain⟨a',cp,e1,e2,e3,e4⟩:=hu;rcases e4 with e4 | ⟨b,o,e4,e5,e6⟩
      ·subst e4;subst e1;simp only[List.length_nil] at e3;have hn:n≠0:=by omega
       exact absurd e3.symm (Nat.ne_of_gt (Nat.mul_pos hkp (Nat.pos_of_ne_zero hn)))
      ·subst e4;subst e1;refine⟨_,?_,run b o n cp hc⟩;simp only[FR];exact⟨b,o,by rw[Nat.mul_comm],e5,e6⟩
     ·simp at hs
    ·simp at hs
   ·simp at hs
  ·rename_i n e he;have hu0:=up hrow he;split at hs
   ·rename_i k hk;have hsz:∀ w':World,(sizeOf e).run P w' = .ok k w':=fun w'=>by
     unfold mA at hk;split at hk
     ·rename_i j hj;injection hk with hk
      rw[<-hk];exact (b9 hT hj).size w'
     ·simp at hk
    split at hs
    ·rename_i g hg;injection hs with hs
     injection hs with h1 h2
     subst h2;rw[<-h1] at hc;obtain⟨b,o,rfl,h3⟩:=rv hg hu;refine⟨_,h3,fun w'=>?_⟩;simp[Instr.indexAt,run_underlying hu0,Instr.sureAddr,asIntOf,hc,hsz,eE,Nat.mul_comm]
    ·simp at hs
   ·simp at hs
  ·simp at hs
 ·simp at hs
theorem oH {t:Nat} {a b:Bool} (h:P.underlying t=some .bool) (w':World):(Op.equal t (.bool a) (.bool b)).run P w' = .ok (a == b) w':=run_equalIn_bool w' 9999 t a b h
theorem z6 {op:BinOp} {k:IntKind} {a b:Int} {t:Nat} {x y:Operand} {c:Prop} {v:Value} (hs:uT op k a b=some (c,v)) (hc:c) (w':World) :
  (do eqGuard op t x y (.int k a) (.int k b);binOp op t (.int k a) (.int k b):Sem Value).run P w' = .ok v w':=by
 have hg:(eqGuard op t x y (.int k a) (.int k b)).run P w' = .ok () w':=by
  unfold eqGuard;split <;> rfl
 simp only[Sem.run_bind,hg,Result.andThen]
 cases op <;> simp only[uT,un,Option.some.injEq,Prod.mk.injEq,reduceCtorEq] at hs <;> obtain⟨h1,rfl⟩:=hs <;> first
  | (rw[<-h1] at hc;simp[binOp,Op.intArith,Op.intDiv,Op.intBits,Op.intCmp,Op.shift,hc];done)
  | (rw[<-h1] at hc;have:=Int.not_lt.2 hc;simp[binOp,Op.shift,this])
theorem wI {op:BinOp} {k k':IntKind} {a b:Int} {t:Nat} {x y:Operand} {c:Prop} {v:Value} (hs:pq op k a b=some (c,v)) (hc:c) (w':World) :
  (do eqGuard op t x y (.int k a) (.int k' b);binOp op t (.int k a) (.int k' b):Sem Value).run P w' = .ok v w':=by
 have hg:(eqGuard op t x y (.int k a) (.int k' b)).run P w' = .ok () w':=by
  unfold eqGuard;split <;> rfl
 simp only[Sem.run_bind,hg,Result.andThen]
 cases op <;> simp only[pq,Option.some.injEq,Prod.mk.injEq,reduceCtorEq] at hs <;> obtain⟨h1,rfl⟩:=hs <;>
  (rw[<-h1] at hc;have:=Int.not_lt.2 hc;simp[binOp,Op.shift,this])
theorem Fn {T:TT} (hT:cT P T=true) {t t1 t2:Nat} {i i1 i2:TI} {q1 q2:IntKind} (hi:bH T t=some i) (hk:i.kd = .st [(0,t1),(1,t2)]) (h1:bH T t1=some i1) (k1:i1.kd = .int q1) (h2:bH T t2=some i2) (k2:i2.kd = .int q2) (a b c e:Int) (w':World) :
  (Op.equalIn 10000 t (.agg #[.int .i64 a,.int .i64 b]) (.agg #[.int .i64 c,.int .i64 e])).run P w' = .ok (a == c && b == e) w':=by
 obtain⟨l,hl,he,hn,hp⟩:=rY (b9 hT hi) hk;have hf:P.fieldsOf t=l:=by unfold Program.fieldsOf;rw[hl]
 rw[run_equalIn_agg w' 9999 t _ _ (by rw[hf];exact hl) hp,hf];obtain⟨l⟩:=l;dsimp only at he hn;obtain⟨f,g,rfl⟩:∃ f g,l=[f,g]:=by
  cases l with
  | nil=>simp at he
  | cons f l=>cases l with
   | nil=>simp at he
   | cons g l=>cases l with
    | nil=>exact⟨f,g,rfl⟩
    | cons _ _=>simp at he
 ·simp only[List.map_cons,List.map_nil,List.cons.injEq,Prod.mk.injEq,and_true] at he;obtain⟨⟨o1,e1⟩,o2,e2⟩:=he;have n1:=(hn f (by simp)).1;have n2:=(hn g (by simp)).1;have a1:∀ w,(isAgg f.type).run P w = .ok false w:=fun w=>by rw[<-e1,(b9 hT h1).agg w,k1];rfl
  have a2:∀ w,(isAgg g.type).run P w = .ok false w:=fun w=>by rw[<-e2,(b9 hT h2).agg w,k2];rfl
  have u1:P.underlying f.type=some (.int q1):=by rw[<-e1];exact ou (b9 hT h1) k1
  have u2:P.underlying g.type=some (.int q2):=by rw[<-e2];exact ou (b9 hT h2) k2
  simp[Op.eqFields,n1,n2,part,a1,a2,<-o1,<-o2,Sem.run_bind,Result.andThen,run_equalIn_int w' 9998 _ .i64 q1 _ _ u1,run_equalIn_int w' 9998 _ .i64 q2 _ _ u2]
  by_cases hac:a=c <;> by_cases hbe:b=e <;> simp[hac,hbe]
theorem CS {T:TT} (hT:cT P T=true) {op:BinOp} {t:Nat} {a b f:FV} {u v:Value} {x y:Operand} {c:Prop} (hs:Cp T op t a b=some (c,f)) (hc:c) (hu:FR w ok σ ρ a u) (hv:FR w ok σ ρ b v) :
  ∃ z,FR w ok σ ρ f z/\∀ w',(do eqGuard op t x y u v;binOp op t u v:Sem Value).run P w' = .ok z w':=by
 unfold Cp at hs;split at hs
 ·rename_i k n k' m;have:=eI hu;subst this;have:=eI hv;subst this;split at hs
  ·rename_i hk;subst hk;split at hs
   ·rename_i c' z hz;injection hs with hs
    injection hs with h1 h2
    subst h2;rw[<-h1] at hc;exact⟨z,by simp[FR,Sh],fun w'=>z6 hz hc w'⟩
   ·simp at hs
  ·split at hs
   ·rename_i c' z hz;injection hs with hs
    injection hs with h1 h2
    subst h2;rw[<-h1] at hc;exact⟨z,by simp[FR,Sh],fun w'=>wI hz hc w'⟩
   ·simp at hs
 ·rename_i n m;have:=eI hu;subst this;have:=eI hv;subst this;split at hs
  ·rename_i i hi;split at hs
   ·rename_i hk;have hb:=FH (b9 hT hi) hk;have hg:∀ w',(eqGuard op t x y (.bool n) (.bool m)).run P w' = .ok () w':=fun w'=>by
     unfold eqGuard;split <;> rfl
    split at hs
    ·injection hs with hs
     injection hs with h1 h2
     subst h2;exact⟨.bool (n == m),by simp[FR,Sh],fun w'=>by simp[hg,binOp,oH hb]⟩
    ·injection hs with hs
     injection hs with h1 h2
     subst h2;exact⟨.bool (!(n == m)),by simp[FR,Sh],fun w'=>by simp[hg,binOp,oH hb]⟩
    ·simp at hs
   ·simp at hs
  ·simp at hs
 ·rename_i n m;have:=eI hu;subst this;have:=eI hv;subst this;have hg:∀ w',(eqGuard op t x y (.string n) (.string m)).run P w' = .ok () w':=fun w'=>by
   unfold eqGuard;split <;> rfl
  split at hs
  ·injection hs with hs
   injection hs with h1 h2
   subst h2;rw[<-h1] at hc;refine⟨.string (n ++ m),by simp[FR,Sh],fun w'=>?_⟩;have:¬ ((n.size+m.size:Nat):Int) > IntKind.i64.max:=by
    have:IntKind.i64.max=9223372036854775807:=by decide
    rw[this];omega
   simp[hg,binOp,Op.stringOp];omega
  ·injection hs with hs
   injection hs with h1 h2
   subst h2;exact⟨.bool (n.toList == m.toList),by simp[FR,Sh],fun w'=>by simp[hg,binOp,Op.stringOp]⟩
  ·injection hs with hs
   injection hs with h1 h2
   subst h2;exact⟨.bool (!(n.toList == m.toList)),by simp[FR,Sh],fun w'=>by simp[hg,binOp,Op.stringOp]⟩
  ·simp at hs
 ·rename_i a b c' e;simp only[FR,FRL,Sh] at hu hv;obtain⟨vs,rfl,u1,us,g1,rfl,u2,us2,g2,rfl,g3⟩:=hu;obtain⟨ws,rfl,v1,vs1,r1,rfl,v2,vs2,r2,rfl,r3⟩:=hv;subst g2 g3 r2 r3;obtain⟨vs⟩:=vs;obtain⟨ws⟩:=ws;dsimp only at g1 r1;subst g1 r1;split at hs
  ·rename_i i hi;split at hs
   ·rename_i t1 t2 hk;split at hs
    ·rename_i i1 i2 h1 h2;split at hs
     ·rename_i q1 q2 k1 k2;have hq:=fun w'=>Fn hT hi hk h1 k1 h2 k2 a b c' e w';have hm:=Et (b9 hT hi) hk;split at hs
      ·injection hs with hs
       injection hs with h3 h4
       subst h4;exact⟨.bool (a == c' && b == e),by simp[FR,Sh],fun w'=>by simp only[Sem.run_bind,run_eqGuard_agg w' _ t _ _ _ _ hm,Result.andThen,run_eql_struct,hq]⟩
      ·injection hs with hs
       injection hs with h3 h4
       subst h4;exact⟨.bool (!(a == c' && b == e)),by simp[FR,Sh],fun w'=>by simp only[Sem.run_bind,run_eqGuard_agg w' _ t _ _ _ _ hm,Result.andThen,run_neq_struct,hq]⟩
      ·simp at hs
     ·simp at hs
    ·simp at hs
   ·simp at hs
  ·simp at hs
 ·simp at hs
end
end Go.Proofs.YtncfmemhjahpeaaGreat.Ab
namespace Go.Proofs.YtncfmemhjahpeaaGreat.Ab
open Go
section
variable {w0 w:World} {fp0:List Nat} {ok:Nat->Prop} {P:Program} {σ:St} {θ:Nat->Value} {ρ:Rn->Value} {φ:Rn->List Nat}
def FRO (w:World) (ok:Nat->Prop) (σ:St) (ρ:Rn->Value):Option FV->Option Value->Prop
 | none,none=>True
 | some f,some v=>FR w ok σ ρ f v
 | _,_=>False
theorem gb {l h:Option FV} {lv hv:Option Value} {n cap x y:Nat} {c:Prop} {b:Bool} (hs:ly l h n=some (c,x,y)) (hc:c) (hl:FRO w ok σ ρ l lv) (hh:FRO w ok σ ρ h hv) (hn:n<=cap) (w':World) :
  x<=y/\y<=n/\(Instr.sliceBounds b n cap lv hv none).run P w' = .ok (x,y,cap) w':=by
 unfold ly at hs;split at hs
 ·cases lv <;> simp[FRO] at hl
  cases hv <;> simp[FRO] at hh
  simp only[Option.some.injEq,Prod.mk.injEq] at hs;obtain⟨h1,rfl,rfl⟩:=hs;exact⟨Nat.zero_le _,Nat.le_refl _,by simp[Instr.sliceBounds]⟩
 ·rename_i k i
  cases lv with
  | none=>simp[FRO] at hl
  | some lv=>
  cases hv <;> simp[FRO] at hh
  have:=eI (show FR w ok σ ρ _ _ from hl);subst this;simp only[Option.some.injEq,Prod.mk.injEq] at hs;obtain⟨h1,rfl,rfl⟩:=hs;rw[<-h1] at hc;exact⟨by omega,Nat.le_refl _,by simp[Instr.sliceBounds,run_sliceBound,hc.1,hc.2]⟩
 ·rename_i k i
  cases hv with
  | none=>simp[FRO] at hh
  | some hv=>
  cases lv <;> simp[FRO] at hl
  have:=eI (show FR w ok σ ρ _ _ from hh);subst this;simp only[Option.some.injEq,Prod.mk.injEq] at hs;obtain⟨h1,rfl,rfl⟩:=hs;rw[<-h1] at hc;have h2:i<=(cap:Int):=by omega
  exact⟨Nat.zero_le _,by omega,by simp[Instr.sliceBounds,run_sliceBound,hc.1,h2]⟩
 ·rename_i k i k' j
  cases lv with
  | none=>simp[FRO] at hl
  | some lv=>
  cases hv with
  | none=>simp[FRO] at hh
  | some hv=>
  have:=eI (show FR w ok σ ρ _ _ from hl);subst this;have:=eI (show FR w ok σ ρ _ _ from hh);subst this;simp only[Option.some.injEq,Prod.mk.injEq] at hs;obtain⟨h1,rfl,rfl⟩:=hs;rw[<-h1] at hc;have h2:j<=(cap:Int):=by omega
  have h3:0<=j:=by omega
  have h4:i<=(j.toNat:Int):=by omega
  refine⟨by omega,by omega,?_⟩;simp only[Instr.sliceBounds,Sem.run_bind,Sem.run_pure,Result.andThen,Option.isSome_none,Bool.false_eq_true,if_false];rw[run_sliceBound w' k' j cap _ h3 h2];simp only[];rw[run_sliceBound w' k i j.toNat _ hc.1 h4]
 ·simp at hs
theorem qD {x:Option Operand} (h:kV x=true) (a:Act):∃ k,x.map a.eval=some (.int k 0):=by
 unfold kV at h;split at h
 ·rename_i k;exact⟨k,rfl⟩
 ·simp at h
theorem xq {T:TT} (hT:cT P T=true) {e k:Nat} (hk:mA T e=some k) (w':World):(sizeOf e).run P w' = .ok k w':=by
 unfold mA at hk;split at hk
 ·rename_i j hj;injection hk with hk
  rw[<-hk];exact (b9 hT hj).size w'
 ·simp at hk
theorem lK {t e k:Nat} (hu:P.underlying t=some (.slice e)) (hsz:∀ w':World,(sizeOf e).run P w' = .ok k w') {a:Option Addr} {n c:Nat} {lo hi mx:Option Value} {x y m:Nat} {w':World}
  (hb:(Instr.sliceBounds true n c lo hi mx).run P w' = .ok (x,y,m) w') :
  (Instr.sliceAt t (.slice a n c) lo hi mx).run P w' = .ok (.slice (if m=x then a else a.map (·.add (x*k))) (y - x) (m - x)) w':=by
 simp[Instr.sliceAt,Instr.slice,run_underlying hu,hb,hsz]
theorem qQ (h:Rel w0 fp0 ok σ θ w ρ φ) {r:Rn} {p:List Nat} {k lo n:Nat} {u:Value} (hk:σ.kOf r p=k) (hu:FR w ok σ ρ (.al r p lo n) u):∃ a c,u = .slice a n c/\n<=c /\
  ∀ x y,x<=y->y<=n->FR w ok σ ρ (.al r p (lo+x) (y - x)) (.slice (if c=x then a else a.map (·.add (x*k))) (y - x) (c - x)):=by
 simp only[FR] at hu;obtain⟨k',N,cs,hv,g1,g2,g3,g4⟩:=hu;rw[Dq g1] at hk;subst hk;rcases j5 h g1 g2 with ⟨b,o,cp,e1,e2,e3⟩ | ⟨e1,a0,e2⟩
 ·rcases g4 with ⟨rfl,a',N',c',e4,e5⟩ | ⟨hlo,b',o',N',c',e4,e6,e5⟩
  ·rw[e1] at e4
   cases e4
   refine⟨_,_,e5,by omega,fun x y hxy hyn=>?_⟩;simp only[FR];refine⟨_,N,cs,hv,g1,g2,by omega,?_⟩;rcases Nat.eq_zero_or_pos x with rfl | hx
   ·exact .inl ⟨rfl,_,N,cp,e1,by by_cases hc:cp=0 <;> simp[hc,eE]⟩
   ·refine .inr ⟨by omega,b,o,N,cp,e1,by omega,?_⟩
    by_cases hc:cp=x
    ·exact .inr ⟨by omega,by omega,some ⟨b,o,none⟩,by rw[if_pos hc];simp[hc];omega⟩
    ·refine .inl ⟨by omega,?_⟩;rw[if_neg hc];simp[eE,Nat.mul_comm]
  ·rw[e1] at e4
   cases e4
   rcases e5 with ⟨h1,e5⟩ | ⟨h1,h2,a1,e5⟩
   ·refine⟨_,_,e5,by omega,fun x y hxy hyn=>?_⟩;simp only[FR];refine⟨_,N,cs,hv,g1,g2,by omega,.inr ⟨by omega,b,o,N,cp,e1,by omega,?_⟩⟩
    by_cases hc:cp - lo=x
    ·exact .inr ⟨by omega,by omega,some ⟨b,o+k' * lo,none⟩,by rw[if_pos hc];simp;omega⟩
    ·refine .inl ⟨by omega,?_⟩;rw[if_neg hc];simp[eE,Nat.mul_add,Nat.add_assoc,Nat.mul_comm];omega
   ·subst h2;refine⟨a1,0,e5,Nat.le_refl _,fun x y hxy hyn=>?_⟩;have hx:x=0:=by omega
    have hy:y=0:=by omega
    subst hx;subst hy;simp only[FR];exact⟨_,N,cs,hv,g1,g2,by omega,.inr ⟨by omega,b,o,N,cp,e1,by omega,.inr ⟨by omega,rfl,a1,by simp⟩⟩⟩
 ·have hn:n=0:=by omega
  subst hn;rcases g4 with ⟨rfl,a',N',c',e4,e5⟩ | ⟨hlo,b',o',N',c',e4,e6,e5⟩
  ·rw[e2] at e4
   cases e4
   refine⟨_,_,e5,Nat.le_refl _,fun x y hxy hyn=>?_⟩;have hx:x=0:=by omega
   have hy:y=0:=by omega
   subst hx;subst hy;simp only[FR];exact⟨_,N,cs,hv,g1,g2,by omega,.inl ⟨rfl,a0,0,0,e2,by simp⟩⟩
  ·omega
theorem Ar {T:TT} (hT:cT P T=true) (h:Rel w0 fp0 ok σ θ w ρ φ) {t:Nat} {x:FV} {f:FV} {u:Value} {lo hi mx:Option Operand} {a:Act} {c:Prop}
  (hs:vi T σ t x lo hi mx (lo.map (opv σ)) (hi.map (opv σ)) (mx.map (opv σ))=some (c,f)) (hc:c) (hu:FR w ok σ ρ x u)
  (hl:FRO w ok σ ρ (lo.map (opv σ)) (lo.map a.eval)) (hh:FRO w ok σ ρ (hi.map (opv σ)) (hi.map a.eval)) (hm:FRO w ok σ ρ (mx.map (opv σ)) (mx.map a.eval)) :
  ∃ z,FR w ok σ ρ f z/\∀ w',(Instr.sliceAt t u (lo.map a.eval) (hi.map a.eval) (mx.map a.eval)).run P w' = .ok z w':=by
 have shS:∀ (k n:Nat) (cs:List D) (v:Value),FR w ok σ ρ (.d (.sh k n cs)) v->∃ a c,v = .slice a n c/\n<=c:=by
  intro k n cs v hv;simp only[FR,Sh] at hv;obtain⟨a,c,e,h1,_⟩:=hv;exact⟨a,c,e,h1⟩
 have alS:∀ (r:Rn) (p:List Nat) (lo n:Nat) (v:Value),FR w ok σ ρ (.al r p lo n) v->∃ a c,v = .slice a n c:=by
  intro r p lo n v hv;obtain⟨a,c,e,_⟩:=qQ h rfl hv;exact⟨a,c,e⟩
 unfold vi at hs;split at hs
 ·simp at hs
 ·rename_i ti hti;have hrow:=b9 hT hti;split at hs
  ·rename_i e he;have hu0:=kK hrow he;split at hs
   ·simp at hs
   ·rename_i k hk;have hsz:=xq hT hk;have zero:∀ (a0:Option Addr) (n cp:Nat),u = .slice a0 n cp->kV mx=true->kV lo=true->kV hi=true ->
      ∀ w',(Instr.sliceAt t u (lo.map a.eval) (hi.map a.eval) (mx.map a.eval)).run P w' = .ok (.slice a0 0 0) w':=by
     intro a0 n cp e h1 h2 h3 w';subst e;obtain⟨k1,e1⟩:=qD h1 a;obtain⟨k2,e2⟩:=qD h2 a;obtain⟨k3,e3⟩:=qD h3 a;rw[e1,e2,e3];have hb:(Instr.sliceBounds true n cp (some (.int k2 0)) (some (.int k3 0)) (some (.int k1 0))).run P w' = .ok (0,0,0) w':=by
      simp[Instr.sliceBounds,run_sliceBound]
     rw[lK hu0 hsz hb];simp
    split at hs
    ·rename_i z1 z2 z3;injection hs with hs
     injection hs with h1 h2
     subst h2;obtain⟨a0,cp,e1⟩:=alS _ _ _ _ _ hu;exact⟨_,by simp only[FR,Sh];exact⟨a0,rfl⟩,zero a0 _ cp e1 z1 z2 z3⟩
    ·rename_i z1 z2 z3;injection hs with hs
     injection hs with h1 h2
     subst h2;obtain⟨a0,cp,e1,_⟩:=shS _ _ _ _ hu;exact⟨_,by simp only[FR,Sh];exact⟨a0,rfl⟩,zero a0 _ cp e1 z1 z2 z3⟩
    ·split at hs
     ·rename_i r p lo0 n _ _;split at hs
      ·rename_i hkk;split at hs
       ·rename_i c' x y hbf;obtain⟨a0,cp,e1,h1,h2⟩:=qQ h hkk hu;subst e1;split at hs
        ·rename_i hmn;injection hs with hs
         injection hs with h3 h4
         subst h4;rw[<-h3] at hc;have hmx:mx.map a.eval=none:=by
          rw[hmn] at hm
          cases e:mx.map a.eval with
          | none=>rfl
          | some v=>rw[e] at hm;simp[FRO] at hm
         rw[hmx];refine⟨_,h2 x y (gb (P:=P) (b:=true) hbf hc hl hh h1 w).1 (gb (P:=P) (b:=true) hbf hc hl hh h1 w).2.1,fun w'=>?_⟩;exact lK hu0 hsz (gb (P:=P) (b:=true) hbf hc hl hh h1 w').2.2
        ·rename_i k0 z hmz;split at hs
         ·rename_i hcnd;obtain⟨rfl,hln,hhs⟩:=hcnd;injection hs with hs
          injection hs with h3 h4
          subst h4;rw[<-h3] at hc;obtain⟨b1,b2,b3⟩:=gb (P:=P) (b:=true) hbf hc.1 hl hh h1 w;have hln':lo.map (opv σ)=none:=by simpa using hln
          rw[hln'] at hbf hl;have hlv:lo.map a.eval=none:=by
           cases e:lo.map a.eval with
           | none=>rfl
           | some v=>rw[e] at hl;simp[FRO] at hl
          have hmv:mx.map a.eval=some (.int k0 z):=by
           rw[hmz] at hm
           cases e:mx.map a.eval with
           | none=>rw[e] at hm;simp[FRO] at hm
           | some v=>rw[e] at hm;rw[eI (show FR w ok σ ρ _ _ from hm)]
          cases eh:hi.map (opv σ) with
          | none=>rw[eh] at hhs;simp at hhs
          | some hf=>
          rw[eh] at hbf hh;unfold ly at hbf;split at hbf
          ·rename_i heq;simp at heq
          ·rename_i heq;simp at heq
          ·rename_i k1 j _ heq;injection heq with heq
           subst heq;have hhv:hi.map a.eval=some (.int k1 j):=by
            cases e:hi.map a.eval with
            | none=>rw[e] at hh;simp[FRO] at hh
            | some v=>rw[e] at hh;rw[eI (show FR w ok σ ρ _ _ from hh)]
           simp only[Option.some.injEq,Prod.mk.injEq] at hbf;obtain⟨f1,f2,f3⟩:=hbf;subst f2;rw[<-f1] at hc;rw[hlv,hmv,hhv];subst f3;obtain⟨⟨c1,c2⟩,c3⟩:=hc;refine⟨.slice a0 j.toNat j.toNat,?_,fun w'=>?_⟩
           ·have:=h2 0 n (Nat.zero_le _) (Nat.le_refl _);simp only[FR] at hu ⊢;obtain⟨k',N,cs,hv,g1,g2,g3,g4⟩:=hu;rcases g4 with ⟨_,a',N',c',e4,e5⟩ | ⟨hlo,_⟩
            ·injection e5 with e5 e6 e7
             subst e5;exact⟨k',N,cs,hv,a0,N',c',g1,g2,by omega,e4,rfl⟩
            ·omega
           ·have hz:0<=z:=by omega
            have hz2:z<=(cp:Int):=by omega
            have hb:(Instr.sliceBounds true n cp none (some (.int k1 j)) (some (.int k0 z))).run P w' = .ok (0,j.toNat,j.toNat) w':=by
             simp only[Instr.sliceBounds,Sem.run_bind,Sem.run_pure,Result.andThen,Option.isSome_some,if_true];rw[run_sliceBound w' k0 z cp _ hz hz2];simp only[];rw[run_sliceBound w' k1 j z.toNat _ c1 (by omega)];simp only[Result.ok.injEq,Prod.mk.injEq,true_and,and_true];omega
            rw[lK hu0 hsz hb]
            by_cases hj:j.toNat=0
            ·simp[hj]
            ·simp only[hj,if_false,Nat.zero_mul,Nat.sub_zero,Result.ok.injEq,Value.slice.injEq,and_true]
             cases a0 <;> simp[Addr.add]
          ·rename_i heq _;simp at heq
          ·simp at hbf
         ·simp at hs
        ·simp at hs
       ·simp at hs
      ·simp at hs
     ·rename_i k' n cs _ _;split at hs
      ·rename_i c' x y hmn hbf;split at hs
       ·rename_i hkk;subst hkk;injection hs with hs
        injection hs with h3 h4
        subst h4;rw[<-h3] at hc;have hmx:mx.map a.eval=none:=by
         rw[hmn] at hm
         cases e:mx.map a.eval with
         | none=>rfl
         | some v=>rw[e] at hm;simp[FRO] at hm
        rw[hmx];simp only[FR,Sh] at hu ⊢;obtain⟨a0,cp,rfl,h1,h2,h5⟩:=hu;obtain⟨b1,b2,b3⟩:=gb (P:=P) (b:=true) hbf hc hl hh h1 w;refine⟨_,⟨_,_,rfl,by omega,?_,?_⟩,fun w'=>lK hu0 hsz (gb (P:=P) (b:=true) hbf hc hl hh h1 w').2.2⟩
        ·rw[List.length_take,List.length_drop,h2,<-Nat.mul_sub,Nat.min_eq_left (Nat.mul_le_mul_left _ (by omega))]
        ·rcases h5 with rfl | ⟨b,o,rfl,h6,h7⟩
         ·exact .inl (by simp)
         ·by_cases hcx:cp=x
          ·have:y - x=0:=by omega
           exact .inl (by simp[this])
          ·exact .inr ⟨b,o+k' * x,by rw[if_neg hcx];simp[eE,Nat.mul_comm],h6,oZ _ (ka _ h7)⟩
       ·simp at hs
      ·simp at hs
     ·simp at hs
  ·rename_i n e he;have hu0:=up hrow he;split at hs
   ·rename_i k hk hmn;split at hs
    ·rename_i hk1;subst hk1;have hsz:=xq hT hk;split at hs
     ·rename_i c' x y hbf;split at hs
      ·rename_i r p off;injection hs with hs
       injection hs with h3 h4
       subst h4;rw[<-h3] at hc;have hmx:mx.map a.eval=none:=by
        rw[hmn] at hm
        cases e:mx.map a.eval with
        | none=>rfl
        | some v=>rw[e] at hm;simp[FRO] at hm
       rw[hmx];simp only[FR] at hu ⊢;obtain⟨o,cs,hv,b,q,h1,h2,h5,h6,rfl⟩:=hu;obtain⟨b1,b2,b3⟩:=gb (P:=P) (b:=false) hbf hc.1 hl hh (Nat.le_refl n) w;have hn:σ.nOf r p=cs.length:=by simp[St.nOf,h1,h2]
       have hc2:=hc.2;rw[hn] at hc2;refine⟨.slice (some (if n=x then ⟨b,q+off,none⟩ else Addr.add ⟨b,q+off,none⟩ (x*1))) (y - x) (n - x),⟨o,cs,hv,b,q,n - x,h1,h2,h5,h6,by omega,by omega,?_⟩,fun w'=>?_⟩
       case refine_2=>
        have hb:=(gb (P:=P) (b:=false) hbf hc.1 hl hh (Nat.le_refl n) w').2.2;simp[Instr.sliceAt,Instr.sureAddr,run_underlying hu0,hb,hsz]
       case refine_1=>
        by_cases hcx:n=x
        ·exact .inr ⟨by omega,some ⟨b,q+off,none⟩,by rw[if_pos hcx];simp;omega⟩
        ·exact .inl (by rw[if_neg hcx,eE,Nat.mul_one,Nat.add_assoc])
      ·simp at hs
     ·simp at hs
    ·simp at hs
   ·simp at hs
  ·simp at hs
end
end Go.Proofs.YtncfmemhjahpeaaGreat.Ab
namespace Go.Proofs.YtncfmemhjahpeaaGreat.Ab
open Go
section
variable {w0 w:World} {fp0:List Nat} {ok:Nat->Prop} {P:Program} {σ:St} {θ:Nat->Value} {ρ:Rn->Value} {φ:Rn->List Nat}
theorem Bt:∀ (fs:List FV) (us:List Value) (i:Nat) (f:FV) (u:Value),FRL w ok σ ρ fs us->FR w ok σ ρ f u->FRL w ok σ ρ (fs.set i f) (us.set i u)
 | [],us,i,f,u,h,_=>by simp only[FRL] at h;subst h;simp[FRL]
 | g :: fs,us,0,f,u,h,k=>by
  simp only[FRL] at h;obtain⟨v,vs,rfl,h1,h2⟩:=h;simp only[List.set_cons_zero,FRL];exact⟨u,vs,rfl,k,h2⟩
 | g :: fs,us,i+1,f,u,h,k=>by
  simp only[FRL] at h;obtain⟨v,vs,rfl,h1,h2⟩:=h;simp only[List.set_cons_succ,FRL];exact⟨v,_,rfl,h1,Bt fs vs i f u h2 k⟩
theorem wh {i:Nat} {f:FV}:∀ {fs:List FV} {us:List Value},FRL w ok σ ρ fs us->fs[i]? = some f->∃ u,us[i]? = some u/\FR w ok σ ρ f u:=by
 induction i with
 | zero=>
  intro fs us h e
  cases fs with
  | nil=>simp at e
  | cons g fs=>
   simp only[FRL] at h;obtain⟨v,vs,rfl,h1,h2⟩:=h;simp only[List.getElem?_cons_zero,Option.some.injEq] at e;subst e;exact⟨v,rfl,h1⟩
 | succ i ih=>
  intro fs us h e
  cases fs with
  | nil=>simp at e
  | cons g fs=>
   simp only[FRL] at h;obtain⟨v,vs,rfl,h1,h2⟩:=h;simp only[List.getElem?_cons_succ] at e ⊢;exact ih h2 e
theorem rH:∀ (aas:List FV) (cs:List Value) (off k:Nat) (l:List FV) (A:Array Value),FRL w ok σ ρ aas cs->FRL w ok σ ρ l A.toList ->
  FRL w ok σ ρ (jo l (off+k) aas) ((cs.zipIdx k).foldl (fun A x=>A.setIfInBounds (off+x.2) x.1) A).toList
 | [],cs,off,k,l,A,h,hl=>by
  simp only[FRL] at h;subst h;simpa[jo] using hl
 | a :: aas,cs,off,k,l,A,h,hl=>by
  simp only[FRL] at h;obtain⟨v,vs,rfl,h1,h2⟩:=h;simp only[jo,List.zipIdx_cons,List.foldl_cons];rw[Nat.add_assoc];refine rH aas vs off (k+1) _ _ h2 ?_;rw[Array.toList_setIfInBounds];exact Bt _ _ _ _ _ hl h1
theorem nE:∀ (aas:List FV) (l:List FV) (off:Nat),(jo l off aas).length=l.length
 | [],l,off=>rfl
 | a :: aas,l,off=>by simp[jo,nE aas]
theorem ja (hR:Rel w0 fp0 ok σ θ w ρ φ) {f:FV} {v:Value} (hw:f.whole=true) (h:FR w ok σ ρ f v):FRL w ok σ ρ f.atoms v.cells.toList:=by
 have one:∀ g:FV,g.atoms=[g]->(∀ cs,v≠.agg cs)->FR w ok σ ρ g v->FRL w ok σ ρ g.atoms v.cells.toList:=by
  intro g hg hv hf;rw[hg];have:v.cells = #[v]:=by
   unfold Value.cells;split
   ·rename_i cs;exact absurd rfl (hv cs)
   ·rfl
  rw[this];simp only[FRL];exact⟨v,[],rfl,hf,rfl⟩
 cases f with
 | d x=>
  refine one _ rfl (fun cs e=>?_) h;simp only[FR] at h;have:=pF (by simpa[FV.whole] using hw) h;subst e;simp[Value.oneCell'] at this
 | al r p lo n=>
  refine one _ rfl (fun cs e=>?_) h;simp only[FR] at h;obtain⟨k,N,cs,hv,_,_,_,g4⟩:=h;subst e;rcases g4 with ⟨_,a',N',c',_,e5⟩ | ⟨_,b',o',N',c',_,_,⟨_,e5⟩ | ⟨_,_,_,e5⟩⟩ <;> simp at e5
 | cu r p n=>
  refine one _ rfl (fun cs e=>?_) h;simp only[FR] at h;obtain⟨k,N,cs,hv,a,M,c,_,_,_,_,e5⟩:=h;subst e;simp at e5
 | pt r p off=>
  refine one _ rfl (fun cs e=>?_) h;simp only[FR] at h;obtain⟨o,cs,hv,b,q,_,_,_,_,e5⟩:=h;subst e;simp at e5
 | ar r p off n=>
  refine one _ rfl (fun cs e=>?_) h;simp only[FR] at h;obtain⟨o,cs,hv,b,q,c,_,_,_,_,_,_,e5 | ⟨_,_,e5⟩⟩:=h <;> (subst e;simp at e5)
 | mr r p=>
  refine one _ rfl (fun cs e=>?_) h;simp only[FR] at h;obtain⟨es,hv,g1,g2,e5⟩:=h;subst e;obtain⟨hv',fo,hat⟩:=hR.rts_.at_ (r:=r) (p:=p) g1;have e6:hv'=hv:=by have:=hat.hdr;rw[g2] at this;injection this with this;exact this.symm
  subst e6;have:=hat.own;simp only[Ow] at this;obtain⟨m,en,cl,e7,_⟩:=this;rw[<-e5] at e7;simp at e7
 | fb fs off=>simp[FV.whole] at hw
 | sp cs off=>
  refine one _ rfl (fun cs e=>?_) h;simp only[FR] at h;obtain⟨b,o,e5,_⟩:=h;subst e;simp at e5
 | cl f fs=>
  refine one _ rfl (fun cs e=>?_) h;simp only[FR] at h;obtain⟨vs,e5,_⟩:=h;subst e;simp at e5
 | ag fs=>
  simp only[FR] at h;obtain⟨vs,rfl,h⟩:=h;simpa[FV.atoms,Value.cells] using h
 | it=>simp[FV.whole] at hw
 | tu=>simp[FV.whole] at hw
 | dead=>simp[FV.whole] at hw
def FRP (w:World) (ok:Nat->Prop) (σ:St) (ρ:Rn->Value):List (Nat×FV)->List (Nat×Value)->Prop
 | [],vs=>vs=[]
 | f :: fs,vs=>∃ u us,vs=u :: us/\u.1=f.1/\FR w ok σ ρ f.2 u.2/\FRP w ok σ ρ fs us
theorem mi (hR:Rel w0 fp0 ok σ θ w ρ φ) {place place':Nat->Option (Nat×Nat)} (hp:∀ i x,place i=some x->place' i=some x):∀ (parts:List (Nat×FV)) (vals:List (Nat×Value)) (l l':List FV) (A:Array Value),
  FRP w ok σ ρ parts vals->FRL w ok σ ρ l A.toList->nA place l parts=some l'->∃ B:Array Value,Instr.fill place' A vals=some B/\FRL w ok σ ρ l' B.toList/\B.size=A.size
 | [],vals,l,l',A,hv,hl,hs=>by
  simp only[FRP] at hv;subst hv;simp only[nA,Option.some.injEq] at hs;subst hs;exact⟨A,by simp[Instr.fill],hl,rfl⟩
 | (i,f) :: parts,vals,l,l',A,hv,hl,hs=>by
  simp only[FRP] at hv;obtain⟨⟨j,u⟩,us,rfl,e1,h1,h2⟩:=hv;simp only at e1 h1;subst e1;simp only[nA] at hs;split at hs
  ·rename_i off size hpl;split at hs
   ·rename_i hc;obtain⟨c1,c2,c3⟩:=hc;have hcs:=ja hR c1 h1;have hlen:=fu hcs;rw[c2] at hlen;have hA:=fu hl;have hset:=rH f.atoms u.cells.toList off 0 l A hcs hl;rw[Nat.add_zero] at hset;obtain⟨B,b1,b2,b3⟩:=mi hR hp parts us _ l' _ h2 hset hs;refine⟨B,?_,b2,?_⟩
    ·simp only[Instr.fill,hp _ _ hpl];have g1:u.cells.size=size:=by simpa using hlen
     have g2:A.size=l.length:=by simpa using hA
     rw[if_neg (by simp[g1,g2];omega)];rw[<-Array.foldl_toList,Array.toList_zipIdx];exact b1
    ·rw[b3,<-Array.length_toList,fu hset,nE,<-hA,Array.length_toList]
   ·simp at hs
  ·simp at hs
theorem pp:∀ (zs:List Value),FRL w ok σ ρ (zs.map fun z=>.d (.v z)) zs
 | []=>by simp[FRL]
 | z :: zs=>by
  simp only[List.map_cons,FRL];exact⟨z,zs,rfl,by simp[FR,Sh],pp zs⟩
theorem Dz {fs:List Field} (h:∀ f∈fs,(P.info? f.type).isSome=true):∃ places,fs.mapM (fun f=>(P.info? f.type).map fun i=>(f.offset,i.size))=some places /\
  ∀ (i:Nat) (f:Field),fs[i]? = some f->places[i]? = some (f.offset,P.cellsOf f.type):=by
 induction fs with
 | nil=>exact⟨[],by simp,by simp⟩
 | cons f fs ih=>
  obtain⟨pl,h1,h2⟩:=ih fun g hg=>h g (List.mem_cons_of_mem _ hg);obtain⟨i,hi⟩:=Option.isSome_iff_exists.1 (h f (List.mem_cons_self ..));refine⟨(f.offset,i.size) :: pl,by simp[List.mapM_cons,hi,h1],fun j g hj=>?_⟩
  cases j with
  | zero=>
   simp only[List.getElem?_cons_zero,Option.some.injEq] at hj ⊢;subst hj;simp[Program.cellsOf,hi]
  | succ j=>
   simp only[List.getElem?_cons_succ] at hj ⊢;exact h2 j g hj
theorem AD {T:TT} (hT:cT P T=true) (hR:Rel w0 fp0 ok σ θ w ρ φ) {t:Nat} {parts:List (Nat×FV)} {vals:Array (Nat×Value)} {f:FV} (hs:vx T t parts=some f) (hv:FRP w ok σ ρ parts vals.toList) :
  ∃ z,FR w ok σ ρ f z/\∀ w',(Instr.build t vals).run P w' = .ok z w':=by
 unfold vx at hs;split at hs
 ·rename_i ti hti;have hrow:=b9 hT hti;split at hs
  ·rename_i fs hfs;split at hs
   ·rename_i l hl;injection hs with hs
    subst hs;obtain⟨flds,hu,he,hn,_⟩:=rY hrow hfs;obtain⟨tinfo,i1,i2,i3,z,i4,i5,_⟩:=hrow.info;obtain⟨places,p1,p2⟩:=Dz (P:=P) (fs:=flds.toList) fun f hf=>(hn f hf).2;have hp:∀ i x,su T fs i=some x->places.toArray[i]? = some x:=by
     intro i x hx;unfold su at hx;split at hx
     ·rename_i off ft hft;split at hx
      ·rename_i j hj;injection hx with hx
       subst hx;rw[he,List.getElem?_map] at hft
       cases hfl:flds.toList[i]? with
       | none=>simp[hfl] at hft
       | some fl=>
        simp only[hfl,Option.map_some,Option.some.injEq,Prod.mk.injEq] at hft;obtain⟨e1,e2⟩:=hft;have:=p2 i fl hfl;rw[e1,e2,(b9 hT hj).cells] at this;simpa using this
      ·simp at hx
     ·simp at hx
    have hz:FRL w ok σ ρ (ti.zero.map fun z=>.d (.v z)) z.cells.toList:=by
     rw[i5];exact pp _
    obtain⟨B,b1,b2,b3⟩:=mi hR hp parts vals.toList _ l z.cells hv hz hl;refine⟨.agg B,?_,fun w'=>run_build w' t vals B ?_⟩
    ·simp only[FR];exact⟨B,rfl,b2⟩
    ·unfold Program.built;simp only[i1,hu,i4,p1];exact b1
   ·simp at hs
  ·simp at hs
 ·simp at hs
end
end Go.Proofs.YtncfmemhjahpeaaGreat.Ab
namespace Go.Proofs.YtncfmemhjahpeaaGreat.Ab
open Go
section
variable {P:Program} {T:TT}
def iv (l:List Int):Array Value:=(l.map (Value.int .i64)).toArray
def kG (kd:TK) (l:List Int):Value:=if cQ kd then eO l else .int .i64 (l.headD 0)
theorem oa (l:List Int):eO l = .agg (iv l):=rfl
def seg (l:List Int) (off n:Nat):List Int:=(l.drop off).take n
theorem ia {l:List Int} {off n:Nat} (h:off+n<=l.length):(seg l off n).length=n:=by
 simp only[seg,List.length_take,List.length_drop];omega
theorem B7 (l:List Int) (off n:Nat) (h:off+n<=l.length):(iv l).extract off (off+n)=iv (seg l off n):=by
 apply Array.ext';simp only[iv,seg,Array.toList_extract,List.extract_eq_take_drop,Nat.add_sub_cancel_left,List.map_take,List.map_drop]
theorem kh {t:Nat} {i:TI} (hT:cT P T=true) (hi:bH T t=some i) (h1:cQ i.kd=false->i.size=1) {l:List Int} {off:Nat} (hl:off+i.size<=l.length) (w:World) :
  (part t (iv l) off).run P w = .ok (kG i.kd (seg l off i.size)) w:=by
 have hrow:=b9 hT hi;unfold part;simp only[Sem.run_bind,hrow.agg,Result.andThen_ok]
 by_cases ha:cQ i.kd=true
 ·simp only[ha,if_true,Sem.run_bind,hrow.size,Result.andThen_ok,Sem.run_pure,B7 l off i.size hl,kG,oa]
 ·simp only[ha,Bool.false_eq_true,if_false];have h2:=h1 (by simpa using ha);rw[h2] at hl ⊢;have hlt:off < l.length:=by omega
  have:(iv l)[off]? = some (.int .i64 l[off]):=by
   simp[iv,List.getElem?_map,List.getElem?_eq_getElem hlt]
  rw[this];simp only[kG,ha,Bool.false_eq_true,if_false,seg];have e:(List.take 1 (List.drop off l)).headD 0=l[off]:=by
   rw[List.drop_eq_getElem_cons hlt];rfl
  rw[e];simp
theorem na {m t:Nat} {i:TI} (hf:dP T m t=true) (hi:bH T t=some i):cQ i.kd=false->i.size=1:=by
 intro ha
 cases m with
 | zero=>simp[dP] at hf
 | succ m=>
  simp only[dP,hi] at hf;split at hf
  ·simpa using hf
  ·rename_i hk;rw[hk] at ha;simp[cQ] at ha
  ·rename_i hk;rw[hk] at ha;simp[cQ] at ha
  ·simp at hf
theorem uQ (a:List Int) (off n m:Nat):seg a off (n+m)=seg a off n ++ seg a (off+n) m:=by
 simp only[seg,List.take_add,List.drop_drop]
theorem rm {a b:List Int} {off n m:Nat} (ha:off+n<=a.length) (hb:off+n<=b.length):(seg a off (n+m)=seg b off (n+m))↔(seg a off n=seg b off n/\seg a (off+n) m=seg b (off+n) m):=by
 rw[uQ,uQ];refine⟨fun h=>List.append_inj h (by rw[ia ha,ia hb]),fun h=>by rw[h.1,h.2]⟩
def EqT (P:Program) (T:TT) (d t:Nat):Prop:=∀ (w:World) (i:TI) (a b:List Int),bH T t=some i->a.length=i.size->b.length=i.size ->
 (Op.equalIn d t (kG i.kd a) (kG i.kd b)).run P w = .ok (decide (a=b)) w
theorem sL {d e:Nat} {j:TI} (hT:cT P T=true) (hj:bH T e=some j) (h1:cQ j.kd=false->j.size=1) (IH:EqT P T d e) {a b:List Int} (w:World) :
  ∀ (n s:Nat),(s+n)*j.size<=a.length->(s+n)*j.size<=b.length ->
   (Op.eqItems d e j.size (iv a) (iv b) (List.range' s n)).run P w = .ok (decide (seg a (s*j.size) (n*j.size)=seg b (s*j.size) (n*j.size))) w
 | 0,s,ha,hb=>by simp[Op.eqItems,seg]
 | n+1,s,ha,hb=>by
  have e1:(s+(n+1))*j.size=s*j.size+j.size+n*j.size:=by rw[Nat.add_mul,Nat.add_mul];omega
  have e2:(n+1)*j.size=j.size+n*j.size:=by rw[Nat.add_mul];omega
  have e3:(s+1)*j.size=s*j.size+j.size:=by rw[Nat.add_mul];omega
  rw[e1] at ha hb;have hla:s*j.size+j.size<=a.length:=by omega
  have hlb:s*j.size+j.size<=b.length:=by omega
  simp only[List.range'_succ,Op.eqItems,Sem.run_bind,kh hT hj h1 hla,kh hT hj h1 hlb,Result.andThen_ok,IH w j _ _ hj (ia hla) (ia hlb)];have ih:=sL hT hj h1 IH w (a:=a) (b:=b) n (s+1) (by rw[Nat.add_mul,e3];omega) (by rw[Nat.add_mul,e3];omega);rw[e2];have hsp:=rm (m:=n*j.size) hla hlb
  by_cases hd:seg a (s*j.size) j.size=seg b (s*j.size) j.size
  ·simp only[hd,decide_true,Bool.not_true,Bool.false_eq_true,if_false];rw[ih,e3];congr 1;rw[decide_eq_decide,hsp];simp[hd]
  ·simp only[hd,decide_false,Bool.not_false,if_true,Sem.run_pure];congr 1;rw[eq_comm,decide_eq_false_iff_not,hsp];simp[hd]
theorem qN {d n:Nat} (hT:cT P T=true) {a b:List Int} (ha:a.length=n) (hb:b.length=n) (w:World) :
  ∀ (fl : List Field) (o : Nat), jE T (fl.map fun f => (f.offset, f.type)) o n = true → (∀ f ∈ fl, f.name ≠ "_") → (∀ f ∈ fl, EqT P T d f.type ∧ ∀ j, bH T f.type = some j → cQ j.kd = false → j.size = 1) →
   o<=n/\(Op.eqFields d (iv a) (iv b) fl).run P w = .ok (decide (seg a o (n - o)=seg b o (n - o))) w
 | [],o,ht,_,_=>by
  simp only[List.map_nil,jE,beq_iff_eq] at ht;subst ht;exact⟨Nat.le_refl _,by simp[Op.eqFields,seg]⟩
 | f :: fl,o,ht,hn,hall=>by
  simp only[List.map_cons,jE,Bool.and_eq_true,beq_iff_eq] at ht;obtain⟨e0,ht⟩:=ht;split at ht
  ·rename_i j hj;obtain⟨h1,ih⟩:=qN hT ha hb w fl (o+j.size) ht (fun g hg=>hn g (List.mem_cons_of_mem _ hg)) (fun g hg=>hall g (List.mem_cons_of_mem _ hg));obtain⟨IH,hone⟩:=hall f (List.mem_cons_self ..);have hla:o+j.size<=a.length:=by omega
   have hlb:o+j.size<=b.length:=by omega
   refine⟨by omega,?_⟩;simp only[Op.eqFields,hn f (List.mem_cons_self ..),ne_eq,not_false_eq_true,if_true,Sem.run_bind,e0,kh hT hj (hone j hj) hla,kh hT hj (hone j hj) hlb,Result.andThen_ok,IH w j _ _ hj (ia hla) (ia hlb)];have hsp:=rm (m:=n - (o+j.size)) hla hlb;rw[show n - o=j.size+(n - (o+j.size)) by omega]
   by_cases hd:seg a o j.size=seg b o j.size
   ·simp only[hd,decide_true,Bool.not_true,Bool.false_eq_true,if_false];rw[ih];congr 1;rw[decide_eq_decide,hsp];simp[hd]
   ·simp only[hd,decide_false,Bool.not_false,if_true,Sem.run_pure];congr 1;rw[eq_comm,decide_eq_false_iff_not,hsp];simp[hd]
  ·simp at ht
theorem rO {a:List Int} {n:Nat} (h:a.length=n):seg a 0 n=a:=by
 subst h;simp[seg]
theorem zL (hT:cT P T=true) {t:Nat} {i:TI} (hi:bH T t=some i):∃ ti,P.info? t=some ti:=by
 obtain⟨ti,h,_⟩:=(b9 hT hi).info;exact⟨ti,h⟩
theorem pP (hT:cT P T=true):∀ (m d t:Nat),dP T m t=true->EqT P T (d+m) t
 | 0,d,t,h=>by simp[dP] at h
 | m+1,d,t,h=>by
  intro w i a b hi ha hb;have hone:=na h hi;simp only[dP,hi] at h;have hrow:=b9 hT hi;split at h
  ·rename_i hk;have hu:=ou hrow hk;have hs:i.size=1:=by simpa using h
   rw[hs] at ha hb
   match a,b,ha,hb with
   | [x],[y],_,_=>
    simp only[hk,kG,cQ,Bool.false_eq_true,if_false,List.headD_cons];rw[show d+(m+1)=(d+m)+1 from rfl,run_equalIn_int w (d+m) t .i64 .i64 x y hu];simp[eq_comm];rfl
  ·rename_i n e hk;simp only[Bool.and_eq_true] at h;obtain⟨h1,h2⟩:=h;split at h1
   ·rename_i j hj;simp only[Bool.and_eq_true,beq_iff_eq,bne_iff_ne,ne_eq] at h1;obtain⟨ji,hji⟩:=zL hT hj;simp only[hk,kG,cQ,if_true,oa];rw[show d+(m+1)=(d+m)+1 from rfl,run_equalIn_array w (d+m) (iv a) (iv b) (up hrow hk) hji,(b9 hT hj).cells,List.range_eq_range'];have:=sL hT hj (na h2 hj) (pP hT m d e h2) (a:=a) (b:=b) w n 0 (by rw[Nat.zero_add,<-h1.1,ha];exact Nat.le_refl _) (by rw[Nat.zero_add,<-h1.1,hb];exact Nat.le_refl _);rw[this,Nat.zero_mul,<-h1.1,rO ha,rO hb]
   ·simp at h1
  ·rename_i fs hk;simp only[Bool.and_eq_true,List.all_eq_true] at h;obtain⟨h1,h2⟩:=h;obtain⟨l,hu,he,hn,hst⟩:=rY hrow hk;have hfo:P.fieldsOf t=l:=by simp[Program.fieldsOf,hu]
   simp only[hk,kG,cQ,if_true,oa];rw[show d+(m+1)=(d+m)+1 from rfl,run_equalIn_struct w (d+m) t (iv a) (iv b) (by rw[hfo];exact hu) hst,hfo];subst he;obtain⟨_,h3⟩:=qN (d:=d+m) hT ha hb w l.toList 0 h1 (fun f hf=>(hn f hf).1) (fun f hf=>by
    have:=h2 (f.offset,f.type) (List.mem_map.2 ⟨f,hf,rfl⟩);exact⟨pP hT m d f.type this,fun j hj=>na this hj⟩)
   rw[h3,Nat.sub_zero,rO ha,rO hb]
  ·simp at h
def CkT (P:Program) (T:TT) (em:Bool) (d t:Nat):Prop:=∀ (w:World) (i:TI) (a:List Int),bH T t=some i->a.length=i.size->(Instr.checkKey em d t (kG i.kd a)).run P w = .ok () w
theorem pM (hT:cT P T=true) (em:Bool):∀ (m d t:Nat),dP T m t=true->CkT P T em (d+m) t
 | 0,d,t,h=>by simp[dP] at h
 | m+1,d,t,h=>by
  intro w i a hi ha;simp only[dP,hi] at h;have hrow:=b9 hT hi;split at h
  ·rename_i hk;have hu:=ou hrow hk;simp only[hk,kG,cQ,Bool.false_eq_true,if_false];rw[show d+(m+1)=(d+m)+1 from rfl];simp[Instr.checkKey,run_underlying hu]
  ·rename_i n e hk;simp only[Bool.and_eq_true] at h;obtain⟨h1,h2⟩:=h;split at h1
   ·rename_i j hj;simp only[Bool.and_eq_true,beq_iff_eq,bne_iff_ne,ne_eq] at h1;have hu:=up hrow hk;simp only[hk,kG,cQ,if_true,oa];rw[show d+(m+1)=(d+m)+1 from rfl,Instr.checkKey];simp only[Sem.run_bind,run_underlying hu,Result.andThen_ok];simp only[Std.Legacy.Range.forIn_eq_forIn_range',Std.Legacy.Range.size,Nat.sub_zero,Nat.add_one_sub_one,Nat.div_one];have each:∀ x∈List.range' 0 n,x*j.size+j.size<=a.length:=fun x hx=>by
     have hx':x < n:=by simpa[List.mem_range'] using hx
     rw[ha,h1.1];have:=Nat.mul_le_mul_right j.size (show x+1<=n from hx');rw[Nat.add_mul,Nat.one_mul] at this;exact this
    generalize List.range' 0 n=is at each
    induction is with
    | nil=>simp
    | cons x is ih=>
     have hl:=each x (List.mem_cons_self ..);simp only[List.forIn_cons,Sem.run_bind,(b9 hT hj).size,Result.andThen_ok,kh hT hj (na h2 hj) hl,pM hT em m d e h2 w j _ hj (ia hl),Sem.run_pure];exact ih fun y hy=>each y (List.mem_cons_of_mem _ hy)
   ·simp at h1
  ·rename_i fs hk;simp only[Bool.and_eq_true,List.all_eq_true] at h;obtain⟨h1,h2⟩:=h;obtain⟨l,hu,he,hn,hst⟩:=rY hrow hk;simp only[hk,kG,cQ,if_true,oa];rw[show d+(m+1)=(d+m)+1 from rfl,Instr.checkKey];simp only[Sem.run_bind,run_underlying hu,Result.andThen_ok];rw[<-Array.forIn_toList];subst he;have go : ∀ (fl : List Field) (o : Nat), jE T (fl.map fun f => (f.offset, f.type)) o i.size = true → (∀ f ∈ fl, f.name ≠ "_") → (∀ f ∈ fl, dP T m f.type = true) →
     o ≤ i.size ∧ (forIn fl PUnit.unit fun f r => (if f.name ≠ "_" then (do Instr.checkKey em (d + m) f.type (← part f.type (iv a) f.offset); pure (ForInStep.yield PUnit.unit)) else pure (ForInStep.yield PUnit.unit) : Sem (ForInStep PUnit))).run P w = .ok PUnit.unit w := by
    intro fl
    induction fl with
    | nil=>
     intro o ht _ _;simp only[List.map_nil,jE,beq_iff_eq] at ht;exact⟨by omega,by simp⟩
    | cons f fl ih=>
     intro o ht hn hf;simp only[List.map_cons,jE,Bool.and_eq_true,beq_iff_eq] at ht;obtain⟨e0,ht⟩:=ht;split at ht
     ·rename_i j hj;obtain⟨g1,g2⟩:=ih (o+j.size) ht (fun g hg=>hn g (List.mem_cons_of_mem _ hg)) (fun g hg=>hf g (List.mem_cons_of_mem _ hg));have hff:=hf f (List.mem_cons_self ..);have hl:f.offset+j.size<=a.length:=by omega
      refine⟨by omega,?_⟩;simp only[List.forIn_cons,Sem.run_bind,hn f (List.mem_cons_self ..),ne_eq,not_false_eq_true,if_true,kh hT hj (na hff hj) hl,Result.andThen_ok,pM hT em m d f.type hff w j _ hj (ia hl),Sem.run_pure];simpa using g2
     ·simp at ht
   have g:=(go l.toList 0 h1 (fun f hf=>(hn f hf).1) (fun f hf=>h2 (f.offset,f.type) (List.mem_map.2 ⟨f,hf,rfl⟩))).2;rw[g];rfl
  ·simp at h
end
end Go.Proofs.YtncfmemhjahpeaaGreat.Ab
namespace Go.Proofs.YtncfmemhjahpeaaGreat.Ab
open Go
def nO (k:List Int):List (List Int×Int)->Nat->Option (Nat×Value)
 | [],_=>none
 | x :: r,i=>if x.1=k then some (i,.int .i64 x.2) else nO k r (i+1)
theorem mh (k:List Int) (c:Int):∀ (es:List (List Int×Int)) (i:Nat),
  (nO k es i=none/\dQ k es=none/\iS k c es=es ++ [(k,c)]/\iL k es=es/\∀ x∈es,x.1≠k) \/
  ∃ j x,nO k es i=some (i+j,.int .i64 x.2)/\es[j]? = some x/\x.1=k/\dQ k es=some x.2/\iS k c es=es.set j (k,c)/\iL k es=es.eraseIdx j
 | [],i=>.inl ⟨rfl,rfl,rfl,rfl,by simp⟩
 | x :: es,i=>by
  by_cases h:x.1=k
  ·exact .inr ⟨0,x,by simp[nO,h],rfl,h,by simp[dQ,h],by simp[iS,h],by simp[iL,h]⟩
  ·rcases mh k c es (i+1) with ⟨h1,h2,h3,h4,h5⟩ | ⟨j,y,h1,h2,h3,h4,h5,h6⟩
   ·refine .inl ⟨by simp[nO,h,h1],by simp[dQ,h,h2],by simp[iS,h,h3],by simp[iL,h,h4],fun y hy=>?_⟩;rcases List.mem_cons.1 hy with rfl | hy
    ·exact h
    ·exact h5 y hy
   ·exact .inr ⟨j+1,y,by simp[nO,h,h1];omega,by simpa using h2,h3,by simp[dQ,h,h4],by simp[iS,h,h5],by simp[iL,h,h6]⟩
section
variable {w0 w:World} {fp0:List Nat} {ok:Nat->Prop} {P:Program} {T:TT} {σ:St} {θ:Nat->Value} {ρ:Rn->Value} {φ:Rn->List Nat}
theorem GC {t:Nat} {i:TI} (hT:cT P T=true) (hf:dP T 4 t=true) (ha:cQ i.kd=true) (hi:bH T t=some i) {a b:List Int} (h1:a.length=i.size) (h2:b.length=i.size) (w:World) :
  (Op.equal t (eO a) (eO b)).run P w = .ok (decide (a=b)) w:=by
 have:=pP hT 4 9996 t hf w i a b hi h1 h2;simp only[kG,ha,if_true] at this;exact this
theorem yQ {t:Nat} {i:TI} (hT:cT P T=true) (hf:dP T 4 t=true) (ha:cQ i.kd=true) (hi:bH T t=some i) {k:List Int} (h1:k.length=i.size) (w:World) :
  ∀ (es:List (List Int×Int)) (en:List MapEntry) (j:Nat),kB i.size es->en.map (fun e=>(e.key,e.val))=es.map (fun x=>(eO x.1,.int .i64 x.2)) ->
   (Instr.findAsking t (eO k) en j).run P w = .ok (nO k es j) w
 | [],en,j,_,h=>by
  have:en=[]:=by simpa using h
  subst this;simp[Instr.findAsking,nO]
 | x :: es,en,j,hl,h=>by
  cases en with
  | nil=>simp at h
  | cons e en=>
   simp only[List.map_cons,List.cons.injEq,Prod.mk.injEq] at h;obtain⟨⟨e1,e2⟩,h⟩:=h;have hx:x.1.length=i.size:=hl x (List.mem_cons_self ..);simp only[Instr.findAsking,Sem.run_bind,e1,GC hT hf ha hi h1 hx,Result.andThen_ok,nO]
   by_cases he:k=x.1
   ·subst he;simp[e2]
   ·have he':¬ x.1=k:=fun h=>he h.symm;simp only[he,he',decide_false,Bool.false_eq_true,if_false];exact yQ hT hf ha hi h1 w es en (j+1) (fun y hy=>hl y (List.mem_cons_of_mem _ hy)) h
structure G9 (P:Program) (T:TT) (t sz:Nat):Prop where
 out:∃ k e ki ei,bH T k=some ki/\bH T e=some ei/\P.underlying t=some (.map k e)/\dP T 4 k=true/\cQ ki.kd=true/\ki.size=sz/\ei.zero=[.int .i64 0]/\cQ ei.kd=false
theorem vG (hT:cT P T=true) {t sz:Nat} (h:jV T t=some sz):G9 P T t sz:=by
 unfold jV at h;split at h
 ·rename_i i hi;split at h
  ·rename_i k e hk;split at h
   ·rename_i ki ei hki hei;split at h
    ·rename_i hek hz;split at h
     ·rename_i hf;injection h with h
      simp only[Bool.and_eq_true] at hf;exact⟨k,e,ki,ei,hki,hei,CP (b9 hT hi) hk,hf.1,hf.2,h,hz,by rw[hek];rfl⟩
     ·simp at h
    ·simp at h
   ·simp at h
  ·simp at h
 ·simp at h
theorem As {k:Nat} {ki:TI} (h:fB P k ki) (ha:cQ ki.kd=true):(match P.underlying k with | some (.array _ _) | some (.struct _)=>true | _=>false)=true:=by
 have h1:=h.kd;unfold kdB at h1;split at h1 <;> simp_all[cQ]
theorem n7 (hT:cT P T=true) {k:Nat} {ki:TI} (hki:bH T k=some ki) (hf:dP T 4 k=true) (ha:cQ ki.kd=true) {key:List Int} (hl:key.length=ki.size) {es:List (List Int×Int)} {en:Array MapEntry}
  (hm:kB ki.size es) (hkv:en.toList.map (fun e=>(e.key,e.val))=es.map (fun x=>(eO x.1,.int .i64 x.2))) (w:World) :
  (Instr.findKey k (eO key) en.toList).run P w = .ok (nO key es 0) w:=by
 rw[run_findKey_eq w (As (b9 hT hki) ha)];exact yQ hT hf ha hki hl w es en.toList 0 hm hkv
theorem l3 (hT:cT P T=true) {k:Nat} {ki:TI} (hki:bH T k=some ki) (hf:dP T 4 k=true) (ha:cQ ki.kd=true) {key:List Int} (hl:key.length=ki.size) (em:Bool) (w:World) :
  (Instr.checkKey em 10000 k (eO key)).run P w = .ok () w:=by
 have:=pM hT em 4 9996 k hf w ki key hki hl;simp only[kG,ha,if_true] at this;exact this
theorem uf:∀ {fs:List FV} {key:List Int} {us:List Value},i9 fs=some key->FRL w ok σ ρ fs us->us=key.map (Value.int .i64)
 | [],key,us,h,hu=>by
  simp only[i9,Option.some.injEq] at h;simp only[FRL] at hu;subst h;subst hu;rfl
 | f :: fs,key,us,h,hu=>by
  simp only[FRL] at hu;obtain⟨u,vs,rfl,h1,h2⟩:=hu;unfold i9 at h;split at h
  ·simp_all
  ·rename_i n r heq;injection heq with e1 e2
   subst e1;subst e2;split at h
   ·rename_i l hl;injection h with h
    subst h;rw[eI h1,uf hl h2];rfl
   ·simp at h
  ·simp at h
theorem rI {fs:List FV} {key:List Int} {u:Value} (h:i9 fs=some key) (hu:FR w ok σ ρ (.ag fs) u):u=eO key:=by
 simp only[FR] at hu;obtain⟨vs,rfl,h1⟩:=hu;have:=uf h h1;unfold eO;rw[<-this]
theorem qW (h:Rel w0 fp0 ok σ θ w ρ φ) {r:Rn} {p:List Nat} {es:List (List Int×Int)} {u:Value} (ho:σ.obj r p=some (.mp es)) (hu:FR w ok σ ρ (.mr r p) u) :
  ∃ m en clock,u = .map (some m)/\jW w m es en clock/\hdr w (ρ r) p=some (.map (some m)):=by
 simp only[FR] at hu;obtain⟨es',hv,h1,h2,rfl⟩:=hu;obtain⟨hv',fo,hat⟩:=h.rts_.at_ (r:=r) (p:=p) ho;have e6:hv'=u:=by have:=hat.hdr;rw[h2] at this;injection this with this;exact this.symm
 subst e6;have:=hat.own;simp only[Ow] at this;obtain⟨m,en,cl,e7,_,h3⟩:=this;exact⟨m,en,cl,e7,h3,by rw[h2,e7]⟩
theorem zA (hT:cT P T=true) (h:Rel w0 fp0 ok σ θ w ρ φ) {t sz:Nat} {r:Rn} {p:List Nat} {fs:List FV} {es:List (List Int×Int)} {key:List Int} {u v:Value} (ht:jV T t=some sz)
  (ho:σ.obj r p=some (.mp es)) (hk:i9 fs=some key) (hl:key.length=sz) (hm:kB sz es) (hu:FR w ok σ ρ (.mr r p) u) (hv:FR w ok σ ρ (.ag fs) v) (w':World) (hw:bV w w') :
  (Instr.lookup t u v false).run P w' = .ok (.int .i64 ((dQ key es).getD 0)) w':=by
 obtain⟨k,e,ki,ei,hki,hei,hu0,hf,ha,hs,hz,hna⟩:=(vG hT ht).out;obtain⟨m,en,cl,rfl,hmap,_⟩:=qW h ho hu;rw[rI hk hv];subst hs;have hb:w'.heap[m]? = some (.map en cl):=hw.heap hmap.at_;obtain⟨z,z1,z2,z3⟩:=(b9 hT hei).zeroV;have hz0:z = .int .i64 0:=by
  have:=z2 hna;rw[hz] at z1
  cases z <;> simp[Value.cells] at z1 <;> simp[Value.oneCell'] at this <;> simp_all
 simp only[Instr.lookup,Sem.run_bind,run_underlying hu0,Result.andThen_ok,MapKept.run_getObj_map hb,Sem.run_pure,l3 hT hki hf ha hl,n7 hT hki hf ha hl hm hmap.kv];rcases mh key 0 es 0 with ⟨h1,h2,_⟩ | ⟨j,x,h1,_,_,h2,_⟩
 ·rw[h1,h2];simp[z3,hz0]
 ·rw[h1,h2];simp
end
end Go.Proofs.YtncfmemhjahpeaaGreat.Ab
namespace Go.Proofs.YtncfmemhjahpeaaGreat.Ab
open Go
section
variable {w0 w:World} {fp0:List Nat} {ok:Nat->Prop} {P:Program} {T:TT} {σ:St} {θ:Nat->Value} {ρ:Rn->Value} {φ:Rn->List Nat}
theorem uY {a:Act}:∀ (ps:List (Nat×Operand)),(∀ x∈ps.map (·.2),FR w ok σ ρ (opv σ x) (a.eval x))->FRP w ok σ ρ (ps.map fun x=>(x.1,opv σ x.2)) (ps.map fun x=>(x.1,a.eval x.2))
 | [],_=>by simp[FRP]
 | p :: ps,h=>by
  simp only[List.map_cons,FRP];exact⟨_,_,rfl,rfl,h p.2 (by simp),uY ps fun x hx=>h x (by simp only[List.map_cons,List.mem_cons];exact .inr hx)⟩
theorem wY {a:Act}:∀ (xs:List Operand),(∀ x∈xs,FR w ok σ ρ (opv σ x) (a.eval x))->FRL w ok σ ρ (xs.map (opv σ)) (xs.map a.eval)
 | [],_=>by simp[FRL]
 | x :: xs,h=>by
  simp only[List.map_cons,FRL];exact⟨_,_,rfl,h x (List.mem_cons_self ..),wY xs fun y hy=>h y (List.mem_cons_of_mem _ hy)⟩
theorem yt {a:Act} {x:Option Operand} (h:∀ y,x=some y->FR w ok σ ρ (opv σ y) (a.eval y)):FRO w ok σ ρ (x.map (opv σ)) (x.map a.eval):=by
 cases x with
 | none=>simp[FRO]
 | some y=>exact h y rfl
theorem Cq {a:FV} {u:Value} {n t ty e:Nat} (h:Rel w0 fp0 ok σ θ w ρ φ) (hu:P.underlying t=some (.slice e)) (hl:BQ a=some n) (hv:FR w ok σ ρ a u) (w':World) :
  (Builtin.len_ #[t] ty #[u]).run P w' = .ok (.int .i64 n) w':=by
 have key:∀ (x:Option Addr) (m c:Nat),u = .slice x m c->m=n->(Builtin.len_ #[t] ty #[u]).run P w' = .ok (.int .i64 n) w':=by
  intro x m c e1 e2;subst e1;subst e2;simp[Builtin.len_,run_underlying hu,goInt]
 unfold BQ at hl;split at hl
 ·rename_i r p lo n';injection hl with hl
  subst hl;obtain⟨x,c,e1,_⟩:=qQ h rfl hv;exact key x _ c e1 rfl
 ·rename_i r p n';injection hl with hl
  subst hl;simp only[FR] at hv;obtain⟨k,N,cs,hv',x,M,c,_,_,_,_,e1⟩:=hv;exact key x _ _ e1 rfl
 ·rename_i r p off n';injection hl with hl
  subst hl;simp only[FR] at hv;obtain⟨o,cs,hv',b,q,c,_,_,_,_,_,_,e1 | ⟨e0,x,e1⟩⟩:=hv
  ·exact key _ _ _ e1 rfl
  ·exact key _ _ _ e1 e0.symm
 ·rename_i k n' cs;injection hl with hl
  subst hl;simp only[FR,Sh] at hv;obtain⟨x,c,e1,_⟩:=hv;exact key _ _ _ e1 rfl
 ·injection hl with hl
  subst hl;simp only[FR,Sh] at hv;obtain⟨x,e1⟩:=hv;exact key _ _ _ e1 rfl
 ·injection hl with hl
  subst hl;exact key _ _ _ (eI hv) rfl
 ·simp at hl
theorem Ck {m:Nat} {es:List (List Int×Int)} {en:Array MapEntry} {cl:Nat} (h:jW w m es en cl):en.size=es.length:=by
 have:=congrArg List.length h.kv;simpa using this
theorem xV (hT:cT P T=true) (h:Rel w0 fp0 ok σ θ w ρ φ) (a:Act) (b:Builtin) (c:Call) (hcb:c.callee = .builtin b) (o:Oper) (hop:o.op = .call c) {q:Prop} {f:FV}
  (hs:sy T σ b c.args.toList c.argTypes.toList=some (q,f)) (hq:q) (ho:∀ x∈c.args.toList,FR w ok σ ρ (opv σ x) (a.eval x)) :
  ∃ v,FR w ok σ ρ f v/\∀ w',((match b with | .len=>true | _=>false)=true->bV w w')->(execOp a.eval o).run P w' = .ok (.value v) w':=by
 have hex:execOp a.eval o=builtin b c.argTypes o.type (c.args.map fun | .const _=>true | _=>false) (c.args.map a.eval):=by
  simp only[execOp,hop,resolve,hcb];rfl
 rw[hex];unfold sy at hs;split at hs
 ·split at hs
  ·rename_i x t hx ht;have hargs:c.args = #[x]:=by rw[<-Array.toList_inj];exact hx
   have htys:c.argTypes = #[t]:=by rw[<-Array.toList_inj];exact ht
   rw[hargs,htys];have hxv:=ho x (by rw[hx];simp);split at hs
   ·rename_i i hi;have hrow:=b9 hT hi;split at hs
    ·rename_i e hk;split at hs
     ·rename_i n hn;injection hs with hs
      injection hs with h1 h2
      subst h2;refine⟨.int .i64 n,by simp[FR,Sh],fun w' _=>?_⟩;simp[builtin,Cq h (kK hrow hk) hn hxv]
     ·simp at hs
    ·rename_i hk;split at hs
     ·rename_i s hsx;injection hs with hs
      injection hs with h1 h2
      subst h2;rw[hsx] at hxv;refine⟨.int .i64 s.size,by simp[FR,Sh],fun w' _=>?_⟩;simp[builtin,eI hxv,Builtin.len_,run_underlying (Dm hrow hk),goInt]
     ·simp at hs
    ·rename_i k e hk;split at hs
     ·rename_i r p hmr;split at hs
      ·rename_i es hes;injection hs with hs
       injection hs with h1 h2
       subst h2;rw[hmr] at hxv;obtain⟨m,en,cl,hm1,hm2,_⟩:=qW h hes hxv;refine⟨.int .i64 es.length,by simp[FR,Sh],fun w' hw=>?_⟩;have hb:=(hw rfl).heap hm2.at_;simp[builtin,hm1,Builtin.len_,run_underlying (CP hrow hk),goInt,MapKept.run_getObj_map hb,Ck hm2]
      ·simp at hs
     ·simp at hs
    ·simp at hs
   ·simp at hs
  ·simp at hs
 ·split at hs
  ·rename_i x y hx;have hargs:c.args = #[x,y]:=by rw[<-Array.toList_inj];exact hx
   rw[hargs];have hxv:=ho x (by rw[hx];simp);have hyv:=ho y (by rw[hx];simp);split at hs
   ·rename_i n m e1 e2;injection hs with hs
    injection hs with h1 h2
    subst h2;rw[e1] at hxv;rw[e2] at hyv;refine⟨.int .i64 (max n m),by simp[FR,Sh],fun w' _=>?_⟩;simp only[builtin,eI hxv,eI hyv,Builtin.max_,List.map_toArray,List.map_cons,List.map_nil];simp[Builtin.max2];omega
   ·simp at hs
  ·simp at hs
 ·split at hs
  ·rename_i x y hx;have hargs:c.args = #[x,y]:=by rw[<-Array.toList_inj];exact hx
   rw[hargs];have hxv:=ho x (by rw[hx];simp);have hyv:=ho y (by rw[hx];simp);split at hs
   ·rename_i n m e1 e2;injection hs with hs
    injection hs with h1 h2
    subst h2;rw[e1] at hxv;rw[e2] at hyv;refine⟨.int .i64 (min n m),by simp[FR,Sh],fun w' _=>?_⟩;simp only[builtin,eI hxv,eI hyv,Builtin.min_,List.map_toArray,List.map_cons,List.map_nil];simp[Builtin.min2];omega
   ·simp at hs
  ·simp at hs
 ·simp at hs
theorem td:∀ (k:List Int),FRL w ok σ ρ (k.map fun n=>.int n) (k.map (Value.int .i64))
 | []=>by simp[FRL]
 | n :: k=>by
  simp only[List.map_cons,FRL];exact⟨_,_,rfl,by simp[FR,Sh],td k⟩
theorem AH (h:Rel w0 fp0 ok σ θ w ρ φ) {r m:Rn} {p:List Nat} {rest:List (List Int×Int)} {k:List Int} {c:Int} {u:Value} (hu:FR w ok σ ρ (.it r m p rest (some (k,c))) u) :
  ∃ v,FR w ok σ ρ (.tu [.ag (k.map fun n=>.int n),.int c]) v/\∀ w',bV w w'->(Instr.entry u).run P w' = .ok v w':=by
 simp only[FR] at hu;obtain⟨_,_,b,mb,es,en,clock,seen,e2,h3,h4,h5,h6,h7,h8⟩:=hu;obtain⟨st,g1,e,g2,g3,g4⟩:=h8 _ rfl;refine⟨.tuple #[eO k,.int .i64 c],?_,fun w' hw=>?_⟩
 ·simp only[FR];refine⟨_,rfl,?_⟩;simp only[FRL,FR];exact⟨_,_,rfl,⟨_,rfl,by simpa using td k⟩,_,_,rfl,by simp[Sh],rfl⟩
 ·subst e2;have hb:=hw.heap h3;have hm:=hw.heap h6.at_;have r1:(getObj b).run P w' = .ok (.mapIter (some mb) clock seen clock) w':=by simp[getObj,Sem.run,hb]
  simp[Instr.entry,r1,g1,MapKept.run_getObj_map hm,g2,g3,g4]
theorem zO {T:TT} (hT:cT P T=true) {t i:Nat} {a f:FV} {u:Value} (hf:vF T t i a=some f) (hu:FR w ok σ ρ a u) :
  ∃ v,FR w ok σ ρ f v/\∀ w',(Instr.field t u i).run P w' = .ok v w':=by
 unfold vF at hf;split at hf
 ·rename_i ti l hti;split at hf
  ·rename_i fs hfs;split at hf
   ·rename_i off ft hft;split at hf
    ·rename_i j hj;split at hf
     ·rename_i hag;simp only[FR] at hu;obtain⟨vs,e1,h3⟩:=hu;obtain⟨v,h4,h5⟩:=wh h3 hf;have h4':vs[off]? = some v:=by simpa using h4
      obtain⟨fl,hl,he,_⟩:=rY (b9 hT hti) hfs;refine⟨v,h5,fun w'=>?_⟩;rw[he,List.getElem?_map] at hft
      cases hfl:fl[i]? with
      | none=>simp[hfl] at hft
      | some fd=>
       simp[hfl] at hft;obtain⟨e3,e4⟩:=hft;have hg:=(b9 hT hj).agg w';rw[hag,<-e4] at hg;subst e1;rw[<-e3] at h4';simp[Instr.field,run_underlying hl,hfl,asAgg,part,hg,h4']
     ·simp at hf
    ·simp at hf
   ·simp at hf
  ·simp at hf
 ·simp at hf
theorem vY (h:Rel w0 fp0 ok σ θ w ρ φ) {r:Rn} {p:List Nat} {k N:Nat} {cs:List D} (ho:σ.obj r p=some (.ow k N cs)):cs.length=k*N:=by
 obtain⟨hv,fo,hat⟩:=h.rts_.at_ (r:=r) (p:=p) ho;have:=hat.own;simp only[Ow] at this;rcases this with ⟨rfl,rfl,_⟩ | ⟨b,o,c,arr,T,fp',e1,_,_,_,_,h2,_⟩
 ·simp
 ·exact h2
theorem BI:∀ {cs:List D} {xs:List Int},u8s cs=some xs->cs.length=xs.length/\∀ i (h:i < cs.length),cs[i] = .v (.int .u8 (xs.getD i 0))
 | [],xs,h=>by
  simp only[u8s,Option.some.injEq] at h;subst h;exact⟨rfl,fun i hi=>by simp at hi⟩
 | x :: cs,xs,h=>by
  unfold u8s at h;split at h
  ·simp at *
  ·rename_i n l hl;injection hl with h1 h2
   subst h1;subst h2;split at h
   ·rename_i ys hy;injection h with h
    subst h;obtain⟨g1,g2⟩:=BI hy;refine⟨by simp[g1],fun i hi=>?_⟩
    cases i with
    | zero=>simp
    | succ i=>
     have:=g2 i (by simpa using hi);simpa using this
   ·simp at h
  ·simp at h
theorem qH (hT:cT P T=true) (h:Rel w0 fp0 ok σ θ w ρ φ) (a:Act) (o:Oper) {c:Prop} {f:FV} (hs:sil T σ o.op=some (c,f)) (hc:c)
  (ho:∀ x∈o.op.operands.toList,FR w ok σ ρ (opv σ x) (a.eval x)):∃ v,FR w ok σ ρ f v/\∀ w',(mQ o.op=true->bV w w')->(execOp a.eval o).run P w' = .ok (.value v) w':=by
 obtain⟨dst,op,type,pos,after,guard⟩:=o
 cases op <;> simp only[sil,reduceCtorEq] at hs <;> simp only[Op.operands] at ho
 case move x=>
  injection hs with hs
  injection hs with h1 h2
  subst h2;exact⟨_,ho x (by simp),fun w' _=>by simp[execOp]⟩
 case assign x=>
  injection hs with hs
  injection hs with h1 h2
  subst h2;exact⟨_,ho x (by simp),fun w' _=>by simp[execOp]⟩
 case pick x y z=>
  split at hs
  ·rename_i t ht;injection hs with hs
   injection hs with h1 h2
   subst h2;have hx:=ho x (by simp);rw[ht] at hx;refine⟨if t then a.eval y else a.eval z,?_,fun w' _=>?_⟩
   ·cases t
    ·exact ho z (by simp)
    ·exact ho y (by simp)
   ·simp only[execOp,eI hx,asBool]
    cases t <;> simp
  ·simp at hs
 case load t x=>
  split at hs
  ·rename_i g hg;injection hs with hs
   injection hs with h1 h2
   subst h2;obtain⟨v,h3,h4⟩:=vm (P:=P) hT h hg (ho x (by simp));exact⟨v,h3,fun w' hw=>by simp[execOp,h4 w' (hw rfl)]⟩
  ·simp at hs
 case nilCheck x=>
  have hx:=ho x (by simp);split at hs
  ·rename_i r p off e;injection hs with hs
   injection hs with h1 h2
   subst h2;rw[e] at hx;refine⟨_,hx,fun w' _=>?_⟩;simp only[FR] at hx;obtain⟨o,cs,hv,b,q,_,_,_,_,e5⟩:=hx;simp[execOp,e5]
  ·rename_i cs off e;injection hs with hs
   injection hs with h1 h2
   subst h2;rw[e] at hx;refine⟨_,hx,fun w' _=>?_⟩;simp only[FR] at hx;obtain⟨b,o,e5,_⟩:=hx;simp[execOp,e5]
  ·rename_i cs e;injection hs with hs
   injection hs with h1 h2
   subst h2;rw[e] at hx;refine⟨_,hx,fun w' _=>?_⟩;simp only[FR,Sh] at hx;obtain⟨b,o,e5,_⟩:=hx;simp[execOp,e5]
  ·simp at hs
 case fieldAddr t x i=>
  split at hs
  ·rename_i off hoff;split at hs
   ·rename_i g hg;injection hs with hs
    injection hs with h1 h2
    subst h2;obtain⟨v,h3,h4⟩:=Ag (P:=P) hT hoff hg (ho x (by simp));exact⟨v,h3,fun w' _=>by simp[execOp,h4 w']⟩
   ·simp at hs
  ·simp at hs
 case field t x i=>
  split at hs
  ·rename_i g hg;injection hs with hs
   injection hs with h1 h2
   subst h2;obtain⟨v,h3,h4⟩:=zO (P:=P) hT hg (ho x (by simp));exact⟨v,h3,fun w' _=>by simp[execOp,h4 w']⟩
  ·simp at hs
 case indexAddr t x i=>
  obtain⟨v,h3,h4⟩:=AB (P:=P) hT h hs hc (ho x (by simp)) (ho i (by simp));exact⟨v,h3,fun w' _=>by simp[execOp,h4 w']⟩
 case binOp op t x y z=>
  obtain⟨v,h3,h4⟩:=CS (P:=P) (x:=x) (y:=y) hT hs hc (ho x (by simp)) (ho y (by simp));refine⟨v,h3,fun w' _=>?_⟩;have:=h4 w';simp only[execOp,Sem.run_bind] at this ⊢;rw[this];simp
 case unOp op t x=>
  have hx:=ho x (by simp);split at hs
  ·rename_i k n e;injection hs with hs
   injection hs with h1 h2
   subst h2;rw[e] at hx;exact⟨.int k (k.wrap (0 - n)),by simp[FR,Sh],fun w' _=>by simp[execOp,eI hx,Op.unary,Op.intArith]⟩
  ·rename_i b e;injection hs with hs
   injection hs with h1 h2
   subst h2;rw[e] at hx;exact⟨.bool (!b),by simp[FR,Sh],fun w' _=>by simp[execOp,eI hx,Op.unary]⟩
  ·simp at hs
 case convert src d x=>
  have hx:=ho x (by simp);split at hs
  ·rename_i j i k n hj hi e;split at hs
   ·rename_i k' hk;injection hs with hs
    injection hs with h1 h2
    subst h2;rw[e] at hx;obtain⟨ds,hd,hr⟩:=(b9 hT hj).und;refine⟨.int k' (k'.wrap n),by simp[FR,Sh],fun w' _=>?_⟩;simp[execOp,eI hx,convert,hr,run_underlying (ou (b9 hT hi) hk),Conv.intToInt]
   ·simp at hs
  ·rename_i j i r p n hj hi e;split at hs
   ·rename_i el N cs k1 k2 k3;split at hs
    ·rename_i ei xs k4 k5;split at hs
     ·rename_i k6;injection hs with hs
      injection hs with h1 h2
      subst h2;subst h1;rw[e] at hx;refine⟨.string (strOfNums xs),by simp[FR,Sh],fun w' hw=>?_⟩;have hlt:=hw rfl;have r1:=kK (b9 hT hj) k1;have r2:=ou (b9 hT k4) k6;have r3:=Dm (b9 hT hi) k2;obtain⟨y1,y2⟩:=BI k5;simp only[FR] at hx;obtain⟨k',N',cs',hv,g1,g2,g3,g4⟩:=hx;rw[k3] at g1
      cases g1
      rcases g4 with ⟨_,a2,M2,c2,g4,g5⟩ | ⟨q,_⟩
      ·have hrun:(convert src d (a.eval x)).run P w' = .ok (.string (strOfNums xs)) w':=by
        rcases j5 h k3 g2 with ⟨b,o2,cp,e1,e2,e3⟩ | ⟨e1,a0,e2⟩
        ·rw[e1] at g4
         cases g4
         rw[g5];refine run_convert_bytes_arg w' src el r1 r2 b o2 n c2 xs (by rw[<-y1,vY h k3,Nat.one_mul,hc]) (fun q hq=>?_) d r3;have hqc:q < cs.length:=by rw[vY h k3];omega
         obtain⟨v,z1,z2⟩:=vQ h k3 rfl g2 e3 (List.getElem?_eq_getElem hqc);have z3:=y2 q hqc;rw[z3] at z2;have z4:v = .int .u8 (xs.getD q 0):=eI z2;rw[<-z4,<-z1];have hbl:b < w.heap.size:=by
          rcases Nat.lt_or_ge b w.heap.size with t | t
          ·exact t
          ·unfold World.cell? at z1;rw[Array.getElem?_eq_none t] at z1;simp at z1
         simp only[World.cell?,hlt.2 b hbl]
        ·rw[e2] at g4
         cases g4
         have hz:n=0:=by omega
         subst hz;have hcs:cs=[]:=List.eq_nil_of_length_eq_zero (by rw[vY h k3];omega);subst hcs;simp only[u8s,Option.some.injEq] at k5;subst k5;rw[g5]
         cases a2 with
         | none=>exact run_convert_bytes_nil w' src el r1 r2 0 0 d r3
         | some a3=>
          rw[run_convert_bytes_string w' src d el _ 0 0 r1 r2 r3,run_bytesToString w' a3 0 0 [] (by simp[loadCells,loadCellsFrom,Sem.run_pure])];rfl
       simp[execOp,hrun]
      ·omega
     ·simp at hs
    ·simp at hs
   ·simp at hs
  ·simp at hs
 case extract x i=>
  have hx:=ho x (by simp);split at hs
  ·rename_i fs e;split at hs
   ·rename_i g hg;injection hs with hs
    injection hs with h1 h2
    subst h2;rw[e] at hx;simp only[FR] at hx;obtain⟨vs,e1,h3⟩:=hx;obtain⟨u,h4,h5⟩:=wh h3 hg;have h4':vs[i]? = some u:=by simpa using h4
    exact⟨u,h5,fun w' _=>by simp[execOp,e1,Instr.extract,h4']⟩
   ·simp at hs
  ·simp at hs
 case slice t x lo hi mx=>
  obtain⟨v,h3,h4⟩:=Ar (P:=P) (a:=a) hT h hs hc (ho x (by simp)) (yt fun y hy=>ho y (by simp[hy])) (yt fun y hy=>ho y (by simp[hy])) (yt fun y hy=>ho y (by simp[hy]));exact⟨v,h3,fun w' _=>by simp[execOp,h4 w']⟩
 case build t parts=>
  split at hs
  ·rename_i g hg;injection hs with hs
   injection hs with h1 h2
   subst h2;have hp:FRP w ok σ ρ (parts.toList.map fun x=>(x.1,opv σ x.2)) (parts.map fun (i,x)=>(i,a.eval x)).toList:=by
    rw[Array.toList_map];exact uY _ fun x hx=>ho x (by simpa using hx)
   obtain⟨v,h3,h4⟩:=AD (P:=P) hT h hg hp;exact⟨v,h3,fun w' _=>by simp[execOp,h4 w']⟩
  ·simp at hs
 case entry x=>
  have hx:=ho x (by simp);split at hs
  ·rename_i r m p rest k n e;injection hs with hs
   injection hs with h1 h2
   subst h2;rw[e] at hx;obtain⟨v,h3,h4⟩:=AH (P:=P) h hx;exact⟨v,h3,fun w' hw=>by simp[execOp,h4 w' (hw rfl)]⟩
  ·simp at hs
 case makeFunc fn first caps=>
  split at hs
  ·rename_i g;split at hs
   ·rename_i hf;injection hs with hs
    injection hs with h1 h2
    subst h2;have hp:FRL w ok σ ρ (caps.toList.map (opv σ)) (caps.map a.eval).toList:=by
     rw[Array.toList_map];exact wY _ fun x hx=>ho x (by simp at hx;simp[hx])
    refine⟨.func (.func g) #[] (caps.map a.eval),⟨_,rfl,hp⟩,fun w' _=>?_⟩;have:first = #[]:=by simpa using hf
    subst this;simp[execOp,Instr.makeFunc]
   ·simp at hs
  ·simp at hs
 case lookup t m k b=>
  split at hs
  ·rename_i sz r p fs ht e1 e2;split at hs
   ·rename_i es key he hk;split at hs
    ·rename_i hl;injection hs with hs
     injection hs with h1 h2
     subst h2;rw[<-h1] at hc;have hm:=ho m (by simp);have hkk:=ho k (by simp);rw[e1] at hm;rw[e2] at hkk;exact⟨.int .i64 ((dQ key es).getD 0),by simp[FR,Sh],fun w' hw=>by simp[execOp,zA hT h ht he hk hl hc hm hkk w' (hw rfl)]⟩
    ·simp at hs
   ·simp at hs
  ·simp at hs
 case call cl=>
  split at hs
  ·rename_i b hb;obtain⟨v,h3,h4⟩:=xV (P:=P) hT h a b cl hb ⟨dst,.call cl,type,pos,after,guard⟩ rfl hs hc (fun x hx=>ho x (by simp only[Call.operands,hb,List.nil_append];simpa using hx));refine⟨v,h3,fun w' hw=>h4 w' fun hb'=>hw ?_⟩;simp only[mQ,hb];exact hb'
  ·simp at hs
end
end Go.Proofs.YtncfmemhjahpeaaGreat.Ab
namespace Go.Proofs.YtncfmemhjahpeaaGreat.Ab
open Go
structure Stx (w0:World) (fp0:List Nat) (ok0:Nat->Prop) (W:Nat->Value) (n:Nat) (σ:St) (a:Act) (w:World) (ok:Nat->Prop) (θ:Nat->Value) (ρ:Rn->Value) (φ:Rn->List Nat):Prop where
 rel:Rel w0 fp0 ok σ θ w ρ φ
 th:Th a W θ
 oks:∀ b,ok0 b->ok b
 okn:∀ b,ok b->ok0 b\/w0.heap.size<=b
 dfr:a.defers=[]
 sz:a.tmps.size=n
def Ste (w0:World) (fp0:List Nat) (ok0:Nat->Prop) (W:Nat->Value) (n:Nat) (σ:St) (a:Act) (w:World):Prop:=
 ∃ ok θ ρ φ,Stx w0 fp0 ok0 W n σ a w ok θ ρ φ
def iB (n:Nat):Operand->Bool
 | .tmp t=>decide (t < n)
 | _=>true
def cU (n:Nat) (o:Oper):Bool:=
 o.op.operands.toList.all (iB n) && (match o.dst with | some d=>decide (d < n) | none=>true)
section
variable {w0 w:World} {fp0:List Nat} {ok0 ok:Nat->Prop} {W:Nat->Value} {n:Nat} {P:Program} {T:TT} {σ:St} {θ:Nat->Value} {ρ:Rn->Value} {φ:Rn->List Nat} {a:Act}
theorem Stx.opv (h:Stx w0 fp0 ok0 W n σ a w ok θ ρ φ) {x:Operand} (hx:iB n x=true):FR w ok σ ρ (opv σ x) (a.eval x):=by
 cases x with
 | tmp t=>
  simp only[iB,decide_eq_true_eq] at hx;have h1:=h.th.1 t (Nat.lt_of_lt_of_le hx (by rw[<-h.sz];exact h.th.2.2));show FR w ok σ ρ (σ.env t) (a.tmps.getD t undef);rw[<-h1];exact h.rel.env t
 | const v=>
  show FR w ok σ ρ (sr v) v;unfold sr;split
  ·rename_i cs;simp only[FR];exact⟨cs,rfl,pp _⟩
  ·simp[FR,Sh]
 | global g=>simp[Ab.opv,FR]
 | func f=>
  show FR w ok σ ρ (.d (.fn f [])) (.func (.func f) #[] #[]);simp only[FR,Sh];exact⟨#[],rfl,rfl⟩
theorem Stx.ops (h:Stx w0 fp0 ok0 W n σ a w ok θ ρ φ) {o:Oper} (ho:cU n o=true):∀ x∈o.op.operands.toList,FR w ok σ ρ (Ab.opv σ x) (a.eval x):=by
 simp only[cU,Bool.and_eq_true,List.all_eq_true] at ho;exact fun x hx=>h.opv (ho.1 x hx)
theorem dc {o:Oper} (ho:cU n o=true):∀ d,o.dst=some d->d < n:=by
 intro d hd;simp only[cU,Bool.and_eq_true] at ho;have:=ho.2;rw[hd] at this;simpa using this
theorem Stx.put (h:Stx w0 fp0 ok0 W n σ a w ok θ ρ φ) {dst:Option Nat} (hd:∀ d,dst=some d->d < n) {f:FV} {v:Value} (hf:FR w ok σ ρ f v):∃ θ',Stx w0 fp0 ok0 W n (σ.set dst f) (a.put dst v) w ok θ' ρ φ:=by
 cases dst with
 | none=>exact⟨θ,h⟩
 | some d=>
  exact⟨upd θ d v,h.rel.upd hf,h.th.put (by rw[h.sz];exact hd d rfl),h.oks,h.okn,h.dfr,by simp[Act.put,h.sz]⟩
theorem Stx.fin {o:Oper} {d:Nat} (h:Stx w0 fp0 ok0 W n σ a w ok θ ρ φ) (ho:cU n o=true) (hd:o.dst=some d) {f:FV} {v:Value} (hf:FR w ok σ ρ f v) :
  Ste w0 fp0 ok0 W n { σ with env:=upd σ.env d f } (a.put o.dst v) w:=by
 obtain⟨θ',h3⟩:=h.put (dst:=o.dst) (dc ho) hf;rw[hd] at h3 ⊢;exact⟨_,_,_,_,h3⟩
def eH (P:Program) (o:Oper) (a:Act) (w:World) (K:St->Prop) (S:St->Act->World->Prop):Prop:=
 ∀ (Kc:Act->World->Prop) (Q:Exit->Act->World->Prop),(∀ σ' a' w',K σ'->S σ' a' w'->Kc a' w')->o.wp P a w Kc Q
theorem c8 {o:Oper} {K:St->Prop} {S:St->Act->World->Prop} {v:Value} {w':World} {σ':St} (hr:(execOp a.eval o).run P w = .ok (.value v) w') (hk:K σ') (hs:S σ' (a.put o.dst v) w'):eH P o a w K S:=
 fun Kc Q hK=>by
  unfold Oper.wp;rw[hr];exact hK _ _ _ hk hs
theorem nt {o:Oper} {K:St->Prop} {S:St->Act->World->Prop} {w':World} {σ':St} (hr:(execOp a.eval o).run P w = .ok .skip w') (hk:K σ') (hs:S σ' (a.put o.dst undef) w'):eH P o a w K S:=
 fun Kc Q hK=>by
  unfold Oper.wp;rw[hr];exact hK _ _ _ hk hs
theorem eH.mono {o:Oper} {K:St->Prop} {S S':St->Act->World->Prop} (h:eH P o a w K S) (hs:∀ σ' a' w',S σ' a' w'->S' σ' a' w'):eH P o a w K S':=fun Kc Q hK=>h Kc Q fun σ' a' w' hk hS=>hK σ' a' w' hk (hs _ _ _ hS)
theorem ig (w:World) (o:Obj):bV w (w.alloc o):=⟨by simp,fun b hb=>Go.RowKit.Below.heap_alloc w o b hb⟩
theorem g9 {C:Ctx} (hT:cT C.P C.T=true) {o:Oper} (ho:cU n o=true) {K:St->Prop} (hk:gm C o σ K) (h:Stx w0 fp0 ok0 W n σ a w ok θ ρ φ):eH C.P o a w K (fun σ' a' w'=>Ste w0 fp0 ok0 W n σ' a' w'/\bV w w'):=by
 unfold gm at hk;split at hk
 ·rename_i c f hs;obtain⟨v,h1,h2⟩:=qH hT h.rel a o hs hk.1 (h.ops ho);obtain⟨θ',h3⟩:=h.put (dst:=o.dst) (dc ho) h1;exact c8 (h2 w fun _=>bV.refl w) hk.2 ⟨⟨_,_,_,_,h3⟩,bV.refl w⟩
 ·exact hk.elim
theorem rf {b i:Nat} {v:Value} (h:w.cell? ⟨b,i,none⟩ = some v):w.setCell ⟨b,i,none⟩ v=w:=by
 unfold World.cell? at h;split at h
 ·rename_i c e f hb;simp only[Option.isSome_none,Bool.false_eq_true,if_false] at h;have hc:c.setIfInBounds i v=c:=by
   apply Array.ext';rw[Array.toList_setIfInBounds];have h':c.toList[i]? = some v:=by simpa using h
   apply List.ext_getElem?;intro j;rw[List.getElem?_set];split
   ·rename_i e;subst e;split
    ·exact h'.symm
    ·rename_i hlt;rw[List.getElem?_eq_none (by omega)] at h';simp at h'
   ·rfl
  have:w.heap.modify b (fun x=>match x with | .cells c elem frozen=>.cells (if (none:Option Nat).isSome then c else c.setIfInBounds i v) elem frozen | o=>o)=w.heap:=by
   apply Array.ext_getElem?;intro j;rw[Array.getElem?_modify];split
   ·rename_i e;subst e;rw[hb];simp[hc]
   ·rfl
  exact congrArg (fun hp=>({ w with heap:=hp }:World)) this
 ·simp at h
theorem nw {b s:Nat}:∀ (vs:List Value) (i:Nat),(∀ (j:Nat) (v:Value),vs[j]? = some v->w.cell? ⟨b,s+i+j,none⟩ = some v/\w.frozen? ⟨b,s+i+j,none⟩ = false)->(∀ v∈vs,v.oneCell'=true) ->
  (storeCells ⟨b,s,none⟩ vs i).run P w = .ok () w
 | [],i,_,_=>by simp[storeCells]
 | v :: vs,i,h,h1=>by
  obtain⟨h2,h3⟩:=h 0 v rfl;rw[Nat.add_zero] at h2 h3;simp only[storeCells,Sem.run_bind,eE];rw[run_store P w _ v .plain (h1 v (List.mem_cons_self ..))];simp only[h2,h3,Bool.false_eq_true,if_false,Result.andThen_ok,rf h2];refine nw vs (i+1) (fun j u hj=>?_) (fun u hu=>h1 u (List.mem_cons_of_mem _ hu));have:=h (j+1) u (by simpa using hj)
  rwa [show s+i+(j+1)=s+(i+1)+j by omega] at this
theorem sX (b:Nat):∀ (n o:Nat),(∀ j,j < n->∃ u,w.cell? ⟨b,o+j,none⟩ = some u)->OwL w ok b (jg n) o []
 | 0,o,_=>by simp[jg,OwL]
 | n+1,o,h=>by
  simp only[jg,OwL];obtain⟨u,hu⟩:=h 0 (by omega);refine⟨u,[],[],by simpa using hu,rfl,by simp[Ow],sX b n (o+1) fun j hj=>?_⟩;have:=h (j+1) (by omega)
  rwa [show o+1+j=o+(j+1) by omega]
theorem mT:∀ n,(jg n).length=n
 | 0=>rfl
 | n+1=>by simp[jg,mT n]
theorem Rel.via (h:Rel w0 fp0 ok σ θ w ρ φ) {f:FV} {u:Value} (hf:FR w ok σ ρ f u):Rel w0 fp0 ok { σ with env:=fun _=>f } (fun _=>u) w ρ φ:=h.envs fun _=>m7 _ _ hf
theorem w7 (h:Rel w0 fp0 ok σ θ w ρ φ) (o:Obj) {fs:List FV} {us:List Value} (hf:FRL w ok σ ρ fs us):FRL (w.alloc o) ok σ ρ fs us:=by
 have h1:FR w ok σ ρ (.tu fs) (.tuple us.toArray):=by simp only[FR];exact⟨_,rfl,by simpa using hf⟩
 have h2:=((h.via h1).alloc o).env 0;have h3:=iR (σ1:={ σ with env:=fun _=>.tu fs }) (σ2:=σ) rfl _ _ h2;simp only[FR] at h3;obtain⟨vs,e,h4⟩:=h3;injection e with e
 subst e;simpa using h4
theorem D1 (h:Rel w0 fp0 ok σ θ w ρ φ) {r:Rn} {d:D} {u:Value} {fp:List Nat} (hr:σ.rts r=none) (ho:Ow w ok d u fp) (hn:fp.Nodup)
  (hb:∀ b∈fp,(∀ q e,σ.rts q=some e->b ∉ φ q)/\Bnd w0 fp0 ok w.heap.size b) {fs:List FV} {us:List Value} (hf:FRL w ok σ ρ fs us):FRL w ok (σ.root r d) (upR ρ r u) fs us:=by
 have h1:FR w ok σ ρ (.tu fs) (.tuple us.toArray):=by simp only[FR];exact⟨_,rfl,by simpa using hf⟩
 have h2:=((h.via h1).root (r:=r) (d:=d) (u:=u) (fp:=fp) hr ho hn hb).env 0;have h3:FR w ok (σ.root r d) (upR ρ r u) (.tu fs) (.tuple us.toArray):=iR (σ1:=St.root { σ with env:=fun _=>.tu fs } r d) (σ2:=σ.root r d) rfl _ _ h2;simp only[FR] at h3;obtain⟨vs,e,h4⟩:=h3;injection e with e
 subst e;simpa using h4
theorem kt (h:Rel w0 fp0 ok σ θ w ρ φ) (o:Obj):(∀ q e,σ.rts q=some e->w.heap.size ∉ φ q)/\Bnd w0 fp0 ok (w.alloc o).heap.size w.heap.size:=by
 refine⟨fun q e he hb=>?_,fun hk=>?_,.inr h.frm.size,by simp⟩
 ·have:=((h.own q e he).2.2 _ hb).2.2;omega
 ·have:=h.okb _ hk;omega
theorem kC (B:Array Value) (t:Nat) {j:Nat} {v:Value} (h:B[j]? = some v):(w.alloc (.cells B t)).cell? ⟨w.heap.size,j,none⟩ = some v:=by
 rw[World.cell?_alloc_new];exact h
theorem xN (h:Rel w0 fp0 ok σ θ w ρ φ) {r:Rn} {d:D} {u:Value} {B:Array Value} {t k:Nat} {l:List FV} {σ1:St} (hr:σ.rts r=none)
  (hd:∀ w',w'.heap[w.heap.size]? = some (.cells B t (0,0))->∃ fp,Ow w' ok d u fp/\fp.Nodup/\∀ x∈fp,x=w.heap.size) (hu:gZ u=some (w.heap.size,0)) (hs:(σ.root r d).storeL r [] k 0 l=some σ1) (hl:FRL w ok σ ρ l B.toList) :
  ∃ θ' φ',Rel w0 fp0 ok σ1 θ' (w.alloc (.cells B t)) (upR ρ r u) φ'/\∀ s,s < 2000->θ' s=θ s:=by
 have hnew:(w.alloc (.cells B t)).heap[w.heap.size]? = some (.cells B t (0,0)):=heap_alloc_new w _;obtain⟨fp,f1,f2,f3⟩:=hd _ hnew;have hf:∀ b∈fp,(∀ q e,σ.rts q=some e->b ∉ φ q)/\Bnd w0 fp0 ok (w.alloc (.cells B t)).heap.size b:=fun b hb=>by
  rw[f3 b hb];exact kt h _
 have h2:=(h.alloc (.cells B t)).root (r:=r) (d:=d) (u:=u) (fp:=fp) hr f1 f2 hf;have h3:=D1 (h.alloc (.cells B t)) (r:=r) (d:=d) (u:=u) (fp:=fp) hr f1 f2 hf (w7 h (.cells B t) hl);have h4:hdr (w.alloc (.cells B t)) (upR ρ r u r) []=some u:=by simp[hdr,upR]
 obtain⟨w',θ',φ',g1,g2,g3,h1⟩:=ky (P:=(default:Program)) (s:=0) hu k l 0 (σ.root r d) θ _ _ B.toList 0 σ1 h2 hs h3 h4 rfl;have h5:=nw (P:=(default:Program)) (w:=w.alloc (.cells B t)) (b:=w.heap.size) (s:=0) B.toList 0 (fun j v hj=>by
  simp only[Nat.zero_add];exact⟨kC B t (by simpa using hj),mw hnew⟩) h1
 rw[g1] at h5;injection h5 with _ h5
 subst h5;exact⟨θ',φ',g2,g3⟩
theorem Th.of_lt {W θ θ':Nat->Value} (h:Th a W θ) (he:∀ s,s < 2000->θ' s=θ s):Th a W θ':=
 ⟨fun t ht=>by rw[he t (by omega)];exact h.1 t ht,fun j hj=>by rw[he _ (by omega)];exact h.2.1 j hj,h.2.2⟩
end
end Go.Proofs.YtncfmemhjahpeaaGreat.Ab
namespace Go.Proofs.YtncfmemhjahpeaaGreat.Ab
open Go
section
variable {w0 w:World} {fp0:List Nat} {ok0 ok:Nat->Prop} {W:Nat->Value} {n:Nat} {P:Program} {T:TT} {σ:St} {θ:Nat->Value} {ρ:Rn->Value} {φ:Rn->List Nat} {a:Act}
theorem tY {b:Nat}:∀ (zs:List Value) (o:Nat),(∀ (j:Nat) (v:Value),zs[j]? = some v->w.cell? ⟨b,o+j,none⟩ = some v)->OwL w ok b (zs.map .v) o []
 | [],o,_=>by simp[OwL]
 | z :: zs,o,h=>by
  simp only[List.map_cons,OwL];refine⟨z,[],[],by simpa using h 0 z rfl,rfl,by simp[Ow],tY zs (o+1) fun j v hj=>?_⟩;have:=h (j+1) v (by simpa using hj)
  rwa [show o+1+j=o+(j+1) by omega]
def jN (z:List Value):Nat->List Value
 | 0=>[]
 | n+1=>z ++ jN z n
theorem i7 (z:List Value):∀ n,(jN z n).length=n*z.length
 | 0=>by simp[jN]
 | n+1=>by simp only[jN,List.length_append,i7 z n,Nat.add_mul,Nat.one_mul];omega
theorem lN (z:List Value):∀ n,gY z n=(jN z n).map .v
 | 0=>rfl
 | n+1=>by simp[gY,jN,lN z n]
theorem pe (z:List Value):∀ (n j:Nat),j < n*z.length->(jN z n)[j]? = z[j % z.length]?
 | 0,j,h=>by simp at h
 | n+1,j,h=>by
  simp only[jN]
  by_cases hj:j < z.length
  ·rw[List.getElem?_append_left hj,Nat.mod_eq_of_lt hj]
  ·have hj':z.length<=j:=Nat.le_of_not_lt hj;rw[List.getElem?_append_right hj',pe z n (j - z.length) (by rw[Nat.add_mul,Nat.one_mul] at h;omega),Nat.mod_eq_sub_mod hj']
theorem zh {z:Array Value} {zs:List Value} (hz:z.toList=zs) (n:Nat):((Array.range (n*zs.length)).map fun i=>z[i % z.size]!).toList=jN zs n:=by
 subst hz;apply List.ext_getElem?;intro j;rw[Array.toList_map,List.getElem?_map,Array.toList_range]
 by_cases hj:j < n*z.toList.length
 ·rw[pe _ _ _ hj,List.getElem?_range hj];have hpos:0 < z.size:=by
   rcases Nat.eq_zero_or_pos z.size with h | h
   ·simp[h] at hj
   ·exact h
  have hm:=Nat.mod_lt j hpos;simp[hm]
 ·rw[List.getElem?_eq_none (by simpa using hj),List.getElem?_eq_none (by rw[i7];omega)];rfl
theorem Az {C:Ctx} (hT:cT C.P C.T=true) {o:Oper} (ho:cU n o=true) {t:Nat} (hop:o.op = .alloc t) {K:St->Prop} (hk:uI C o.dst t σ K) (h:Stx w0 fp0 ok0 W n σ a w ok θ ρ φ):eH C.P o a w K (fun σ' a' w'=>Ste w0 fp0 ok0 W n σ' a' w'/\bV w w'):=by
 unfold uI at hk;split at hk
 ·rename_i d i hd hi;obtain⟨hr,hk⟩:=hk;obtain⟨z,z1,z2,z3⟩:=(b9 hT hi).zeroV;have hrun:(execOp a.eval o).run C.P w = .ok (.value (.pointer (some ⟨w.heap.size,0,none⟩))) (w.alloc (.cells z.cells t)):=by
   simp[execOp,hop,Instr.alloc,z3,newVar,newRow]
  have hnew:(w.alloc (.cells z.cells t)).heap[w.heap.size]? = some (.cells z.cells t (0,0)):=heap_alloc_new w _;have h2:=(h.rel.alloc (.cells z.cells t)).root (r:=(d,0)) (d:=.bx (i.zero.map .v)) (u:=.pointer (some ⟨w.heap.size,0,none⟩)) (fp:=[w.heap.size]) hr
   (by
     simp only[Ow];refine⟨w.heap.size,z.cells,t,[],rfl,rfl,hnew,by rw[List.length_map,<-z1,Array.length_toList];exact Nat.le_refl _,tY _ 0 fun j v hj=>?_⟩;rw[Nat.zero_add];exact kC z.cells t (by rw[<-z1] at hj;simpa using hj))
   (by simp) (fun b hb=>by
    simp only[List.mem_singleton] at hb;subst hb;exact kt h.rel _)
  have hs:Stx w0 fp0 ok0 W n (σ.root (d,0) (.bx (i.zero.map .v))) a (w.alloc (.cells z.cells t)) ok θ (upR ρ (d,0) (.pointer (some ⟨w.heap.size,0,none⟩))) (upR φ (d,0) [w.heap.size]):=⟨h2,h.th,h.oks,h.okn,h.dfr,h.sz⟩;have hf:FR (w.alloc (.cells z.cells t)) ok (σ.root (d,0) (.bx (i.zero.map .v))) (upR ρ (d,0) (.pointer (some ⟨w.heap.size,0,none⟩))) (.pt (d,0) [] 0) (.pointer (some ⟨w.heap.size,0,none⟩)):=by
   simp only[FR];exact⟨.bx (i.zero.map .v),i.zero.map .v,.pointer (some ⟨w.heap.size,0,none⟩),w.heap.size,0,by simp[St.obj,St.root,bw],rfl,by simp[hdr,upR],rfl,rfl⟩
  exact c8 hrun hk ⟨hs.fin ho hd hf,ig w _⟩
 ·exact hk.elim
theorem BO {r:Rn} {off:Nat} {f:FV} {σ σ2:St} (h1:σ.store1 r [] off f=some σ2):∃ σ3 o2 cs2 e,σ3.obj r []=some o2/\o2.cells? = some cs2/\σ2.obj r []=some (o2.setCells (cs2.set off e)) /\
  (∃ σ4,(σ4=σ\/σ4=σ.kill r ([] ++ [off]))/\St.absorb σ4 f r ([] ++ [off])=some (e,σ3)):=by
 unfold St.store1 at h1;split at h1
 ·rename_i o1 ho1;split at h1
  ·rename_i cs1 hc1;split at h1
   ·rename_i old hold;split at h1
    ·rename_i e σ3 h3;split at h1
     ·rename_i o2 ho2;split at h1
      ·rename_i cs2 hc2;injection h1 with h1
       subst h1;refine⟨σ3,o2,cs2,e,ho2,hc2,?_,?_⟩
       ·unfold St.obj at ho2;split at ho2
        ·rename_i d hd;simp only[St.put,St.obj,hd,if_true,c5,bw]
        ·simp at ho2
       ·split at h3
        ·exact⟨σ,.inl rfl,h3⟩
        ·exact⟨_,.inr rfl,h3⟩
      ·simp at h1
     ·simp at h1
    ·simp at h1
   ·simp at h1
  ·simp at h1
 ·simp at h1
theorem tk {σ:St} {r q:Rn} {s:List Nat} {o d:D} (h:(σ.take q s).obj r []=some o) (hd:σ.obj r []=some d):cH d o:=by
 have e0:σ.rts r=some d:=by
  unfold St.obj at hd;split at hd
  ·rename_i x hx;simp only[bw,Option.some.injEq] at hd;subst hd;exact hx
  ·simp at hd
 cases s with
 | nil=>
  simp only[St.take,St.obj] at h
  by_cases e:r=q
  ·simp[e] at h
  ·simp only[e,if_false,e0,bw,Option.some.injEq] at h;subst h;exact bX _
 | cons i s=>
  simp only[St.take,St.put] at h;split at h
  ·rename_i x hx;simp only[St.obj] at h
   by_cases e:r=q
   ·subst e;rw[e0] at hx;injection hx with hx
    subst hx;simp only[if_true,bw,Option.some.injEq] at h;subst h
    cases hc:d.cells? with
    | none=>
     simp only[c5,hc];exact bX _
    | some cs=>
     simp only[c5,hc];exact fH hc (by simp)
   ·simp only[e,if_false,e0,bw,Option.some.injEq] at h;subst h;exact bX _
  ·simp only[St.obj,e0,bw,Option.some.injEq] at h;subst h;exact bX _
theorem Cj {σ σ3:St} {f:FV} {r r':Rn} {p':List Nat} {e o d:D} (h:σ.absorb f r' p'=some (e,σ3)) (ho:σ3.obj r []=some o) (hd:σ.obj r []=some d):cH d o:=by
 have env:∀ (τ:St) (g:Nat->FV),({ τ with env:=g }:St).obj r []=τ.obj r []:=fun _ _=>rfl;unfold St.absorb at h;split at h
 ·split at h
  ·injection h with h
   injection h with h1 h2
   subst h2;rw[ho] at hd;injection hd with hd
   subst hd;exact bX _
  ·simp at h
 ·split at h
  ·split at h
   ·injection h with h
    injection h with h1 h2
    subst h2;exact tk (by simpa only [St.obj] using ho) hd
   ·simp at h
  ·simp at h
 ·split at h
  ·split at h
   ·injection h with h
    injection h with h1 h2
    subst h2;exact tk (by simpa only [St.obj] using ho) hd
   ·simp at h
  ·simp at h
 ·split at h
  ·injection h with h
   injection h with h1 h2
   subst h2;exact tk (by simpa only [St.obj] using ho) hd
  ·simp at h
 ·simp at h
theorem sH {r:Rn} {off:Nat} {f:FV} {σ σ2:St} {d:D} (h1:σ.store1 r [] off f=some σ2) (hd:σ.obj r []=some d):∃ o,σ2.obj r []=some o/\cH d o:=by
 obtain⟨σ3,o2,cs2,e,g1,g2,g3,σ4,g4,g5⟩:=BO h1;have hd4:σ4.obj r []=some d:=by rcases g4 with rfl | rfl <;> exact hd
 exact⟨_,g3,jI (Cj g5 g1 hd4) (fH g2 (by simp))⟩
theorem sS {r:Rn}:∀ {m off:Nat} {σ:St} {l:List FV} {σ1:St} {d:D},σ.storeL r [] m off l=some σ1->σ.obj r []=some d->∃ o,σ1.obj r []=some o/\cH d o:=by
 intro m
 induction m with
 | zero=>
  intro off σ l σ1 d hs hd
  cases l with
  | nil=>
   simp only[St.storeL,Option.some.injEq] at hs;subst hs;exact⟨d,hd,bX d⟩
  | cons f fs=>simp[St.storeL] at hs
 | succ m ih=>
  intro off σ l σ1 d hs hd
  cases l with
  | nil=>
   simp only[St.storeL,Option.some.injEq] at hs;subst hs;exact⟨d,hd,bX d⟩
  | cons f fs=>
   simp only[St.storeL] at hs;split at hs
   ·split at hs
    ·rename_i σ2 h2;obtain⟨o,g1,g2⟩:=sH h2 hd;obtain⟨o',g3,g4⟩:=ih hs g1;exact⟨o',g3,jI g2 g4⟩
    ·simp at hs
   ·split at hs
    ·rename_i σ2 h2;obtain⟨o,g1,g2⟩:=sH (σ:={ σ with env:=oU fs 2000 σ.env }) h2 hd;obtain⟨o',g3,g4⟩:=ih hs g1;exact⟨o',g3,jI g2 g4⟩
    ·simp at hs
theorem AF {r:Rn} {m off:Nat} {σ:St} {l:List FV} {σ1:St} {k N:Nat} {cs:List D} (hs:σ.storeL r [] m off l=some σ1) (hd:σ.obj r []=some (.ow k N cs)):∃ cs',σ1.obj r []=some (.ow k N cs'):=by
 obtain⟨o,g1,g2⟩:=sS hs hd;obtain⟨cs',rfl,_⟩:=mM (.inl g2);exact⟨cs',g1⟩
theorem Ak {r:Rn} {m off:Nat} {σ:St} {l:List FV} {σ1:St} {cs:List D} (hs:σ.storeL r [] m off l=some σ1) (hd:σ.obj r []=some (.bx cs)):∃ o' cs',σ1.obj r []=some o'/\o'.cells? = some cs':=by
 obtain⟨o,g1,g2⟩:=sS hs hd;obtain⟨cs',g3,_⟩:=jz (.inl g2) rfl;exact⟨o,cs',g1,g3⟩
theorem CE {C:Ctx} (hT:cT C.P C.T=true) {o:Oper} (ho:cU n o=true) {t:Nat} {x:Operand} (hop:o.op = .box t x) {K:St->Prop} (hk:BM C o.dst t (opv σ x) σ K) (h:Stx w0 fp0 ok0 W n σ a w ok θ ρ φ) :
  eH C.P o a w K (fun σ' a' w'=>Ste w0 fp0 ok0 W n σ' a' w'/\bV w w'):=by
 unfold BM at hk;split at hk
 ·rename_i d i hd hi;obtain⟨hr,hw,hl,hk⟩:=hk;split at hk
  ·rename_i σ1 hs;have hx:=h.ops ho x (by rw[hop];simp[Op.operands]);have hcs:=ja h.rel hw hx;have hlen:=fu hcs;rw[hl,Array.length_toList] at hlen;have hrun:(execOp a.eval o).run C.P w = .ok (.value (.pointer (some ⟨w.heap.size,0,none⟩))) (w.alloc (.cells (a.eval x).cells t)):=by
    simp[execOp,hop,Instr.box,newVar,newRow]
   obtain⟨θ',φ',h2,h3⟩:=xN (t:=t) (u:=.pointer (some ⟨w.heap.size,0,none⟩)) (d:=.bx (jg i.size)) h.rel hr (fun w' hb=>by
    refine⟨[w.heap.size],?_,by simp,by simp⟩;simp only[Ow];refine⟨w.heap.size,_,t,[],rfl,rfl,hb,by rw[mT,hlen];exact Nat.le_refl _,sX _ _ _ fun j hj=>?_⟩;refine⟨(a.eval x).cells[j]'(by omega),?_⟩;simp[World.cell?,hb]) rfl hs hcs
   have hs':Stx w0 fp0 ok0 W n σ1 a (w.alloc (.cells (a.eval x).cells t)) ok θ' (upR ρ (d,0) (.pointer (some ⟨w.heap.size,0,none⟩))) φ':=⟨h2,h.th.of_lt h3,h.oks,h.okn,h.dfr,h.sz⟩;obtain⟨o',cs',g1,g2⟩:=Ak (cs:=jg i.size) hs (by simp[St.obj,St.root,bw]);have hf:FR (w.alloc (.cells (a.eval x).cells t)) ok σ1 (upR ρ (d,0) (.pointer (some ⟨w.heap.size,0,none⟩))) (.pt (d,0) [] 0) (.pointer (some ⟨w.heap.size,0,none⟩)):=by
    simp only[FR];exact⟨o',cs',.pointer (some ⟨w.heap.size,0,none⟩),w.heap.size,0,g1,g2,by simp[hdr,upR],rfl,rfl⟩
   exact c8 hrun hk ⟨hs'.fin ho hd hf,ig w _⟩
  ·exact hk.elim
 ·exact hk.elim
theorem Rel.grow' (h:Rel w0 fp0 ok σ θ w ρ φ) {okn:Nat->Prop} (hk:∀ b,ok b->okn b) (hl:∀ b,okn b->b < w.heap.size) (hn:∀ q e,σ.rts q=some e->∀ b∈φ q,¬ okn b):Rel w0 fp0 okn σ θ w ρ φ:=by
 refine⟨fun r d hd=>?_,h.dis,fun t=>?_,hl,h.frm⟩
 ·obtain⟨h1,h2,h3⟩:=h.own r d hd;exact⟨fI (fun b hb=>⟨hk b hb,rfl⟩) d _ _ (fun _ _=>rfl) h1,h2,fun b hb=>⟨hn r d hd b hb,(h3 b hb).2⟩⟩
 ·refine gf (G:=fun _ _=>True) (I:=fun _ _ _=>True) ⟨fun b hb=>⟨hk b hb,rfl⟩,fun r p o _ ho=>⟨o,ho,.inl (bX o),rfl⟩⟩ ⟨fun r m p b mb es _ h1 h2 h3 h4=>⟨h1,rfl,rfl,h3,h4,rfl⟩⟩ _ _ ?_ (h.env t);exact gP (fun _ _ _=>trivial) (fun _ _ _ _=>trivial) _ (gK _ _ (h.env t))
theorem EL {C:Ctx} {o:Oper} (ho:cU n o=true) {t:Nat} {x:Operand} (hop:o.op = .box t x) {K:St->Prop} (hk:AFb C o.dst t (opv σ x) σ K) (h:Stx w0 fp0 ok0 W n σ a w ok θ ρ φ) :
  eH C.P o a w K (fun σ' a' w'=>Ste w0 fp0 ok0 W n σ' a' w'/\bV w w'):=by
 unfold AFb at hk;split at hk
 ·rename_i d i hd hi;obtain⟨hw,hk⟩:=hk;have hx:=h.ops ho x (by rw[hop];simp[Op.operands]);have hcs:=ja h.rel hw hx;have hrun:(execOp a.eval o).run C.P w = .ok (.value (.pointer (some ⟨w.heap.size,0,none⟩))) (w.alloc (.cells (a.eval x).cells t)):=by
   simp[execOp,hop,Instr.box,newVar,newRow]
  have hcs2:=w7 h.rel (.cells (a.eval x).cells t) hcs;have h1:=h.rel.alloc (.cells (a.eval x).cells t);have h2:=h1.grow' (okn:=fun b=>ok b\/b=w.heap.size) (fun b hb=>.inl hb) (fun b hb=>by
   rcases hb with hb | hb
   ·exact h1.okb b hb
   ·rw[hb];simp) (fun q e he b hb hh=>by
   rcases hh with hh | hh
   ·exact ((h1.own q e he).2.2 b hb).1 hh
   ·have:=((h.rel.own q e he).2.2 b hb).2.2;omega)
  have hs':Stx w0 fp0 ok0 W n σ a (w.alloc (.cells (a.eval x).cells t)) (fun b=>ok b\/b=w.heap.size) θ ρ φ:=⟨h2,h.th,fun b hb=>.inl (h.oks b hb),fun b hb=>by
   rcases hb with hb | hb
   ·exact h.okn b hb
   ·rw[hb];exact .inr h.rel.frm.size,h.dfr,h.sz⟩
  have hf:FR (w.alloc (.cells (a.eval x).cells t)) (fun b=>ok b\/b=w.heap.size) σ ρ (.fb (opv σ x).atoms 0) (.pointer (some ⟨w.heap.size,0,none⟩)):=by
   simp only[FR];refine⟨w.heap.size,(a.eval x).cells.toList,rfl,.inr rfl,fun j v hj=>kC _ t (by simpa using hj),?_⟩;have h3:FR (w.alloc (.cells (a.eval x).cells t)) ok σ ρ (.tu (opv σ x).atoms) (.tuple (a.eval x).cells.toList.toArray):=by simp only[FR];exact⟨_,rfl,by simpa using hcs2⟩
   have h4:=((h1.via h3).grow' (okn:=fun b=>ok b\/b=w.heap.size) (fun b hb=>.inl hb) (fun b hb=>by
    rcases hb with hb | hb
    ·exact h1.okb b hb
    ·rw[hb];simp) (fun q e he b hb hh=>by
    rcases hh with hh | hh
    ·exact ((h1.own q e he).2.2 b hb).1 hh
    ·have:=((h.rel.own q e he).2.2 b hb).2.2;omega)).env 0
   have h5:=iR (σ1:={ σ with env:=fun _=>.tu (opv σ x).atoms }) (σ2:=σ) rfl _ _ h4;simp only[FR] at h5;obtain⟨vs,e,h6⟩:=h5;injection e with e
   subst e;simpa using h6
  exact c8 hrun hk ⟨hs'.fin ho hd hf,ig w _⟩
 ·exact hk.elim
theorem xJ (zs:List Value) (k:Nat):FRL w ok σ ρ ((gY zs k).map .d) (jN zs k):=by
 rw[lN,List.map_map];exact pp _
theorem Dn {i:TI} {len cp b:Nat} {B:Array Value} {T:Nat} {w':World} (hb:w'.heap[b]? = some (.cells B T (0,0))) (hB:cp*i.size=B.size) (hl:len<=cp) {cs:List D} (hc:cs.length=len*i.size) (hcs:OwL w' ok b cs 0 []) :
  ∃ fp,Ow w' ok (.ow i.size len cs) (.slice (some ⟨b,0,none⟩) len cp) fp/\fp.Nodup/\∀ x∈fp,x=b:=by
 rcases Nat.eq_zero_or_pos cp with h0 | h0
 ·subst h0;have:len=0:=by omega
  subst this;refine⟨[],?_,by simp,by simp⟩;simp only[Ow];exact .inl ⟨trivial,List.eq_nil_of_length_eq_zero (by simpa using hc),trivial,_,rfl⟩
 ·refine⟨[b],?_,by simp,by simp⟩;simp only[Ow];exact .inr ⟨b,0,cp,B,T,[],rfl,rfl,hb,⟨hl,by omega⟩,by rw[Nat.mul_comm,hB];omega,by rw[hc,Nat.mul_comm],hcs⟩
theorem oc {t e len size:Nat} {parts:Array (Nat×Value)} {z:Value} {B:Array Value} (hu:P.underlying t=some (.slice e)) (hsz:∀ w:World,(sizeOf e).run P w = .ok size w) (hz:∀ w:World,(zeroValue e).run P w = .ok z w)
  (hle:len*size<=16777216) (zz:Array Value) (hzz:zz=if len*size=0 then #[] else z.cells)
  (hb:Instr.fill (fun j=>some (j*size,size)) ((Array.range (len*size)).map (fun j=>zz[j % zz.size]!)) parts.toList=some B) (w:World) :
  (Instr.buildSlice t len parts).run P w = .ok (.slice (some ⟨w.heap.size,0,none⟩) len len) (w.alloc (.cells B e)):=by
 have hle':¬ (len*size > 2 ^ 24):=by omega
 unfold Instr.buildSlice;rw[Sem.run_bind,run_underlying hu,Result.andThen_ok];simp only[];rw[Sem.run_bind,hsz,Result.andThen_ok,if_neg hle']
 by_cases h0:len*size=0
 ·rw[if_pos h0] at hzz;subst hzz;rw[if_pos h0,Sem.run_bind,Sem.run_pure,Result.andThen_ok,hb];simp[newRow]
 ·rw[if_neg h0] at hzz;subst hzz;rw[if_neg h0,Sem.run_bind,hz,Result.andThen_ok,Sem.run_bind,Sem.run_pure,Result.andThen_ok,hb];simp[newRow]
theorem tp {C:Ctx} (hT:cT C.P C.T=true) {o:Oper} (ho:cU n o=true) {t len:Nat} {parts:Array (Nat×Operand)} (hop:o.op = .buildSlice t len parts) {K:St->Prop}
  (hk:lI C o.dst t len (parts.toList.map fun x=>(x.1,opv σ x.2)) σ K) (h:Stx w0 fp0 ok0 W n σ a w ok θ ρ φ):eH C.P o a w K (fun σ' a' w'=>Ste w0 fp0 ok0 W n σ' a' w'/\bV w w'):=by
 unfold lI at hk;split at hk
 ·rename_i d ti hd hti;split at hk
  ·rename_i e hke;split at hk
   ·rename_i i hi;obtain⟨hr,hle,hk⟩:=hk;split at hk
    ·rename_i l hl;split at hk
     ·rename_i σ1 hs;have hrow:=b9 hT hi;obtain⟨z,z1,z2,z3⟩:=hrow.zeroV;have hu:=kK (b9 hT hti) hke;have hp:FRP w ok σ ρ (parts.toList.map fun x=>(x.1,opv σ x.2)) (parts.map fun (i,x)=>(i,a.eval x)).toList:=by
       rw[Array.toList_map];exact uY _ fun x hx=>h.ops ho x (by rw[hop];simpa[Op.operands] using hx)
      let zz:Array Value:=if len*i.size=0 then #[] else z.cells
      let A:Array Value:=(Array.range (len*i.size)).map (fun j=>zz[j % zz.size]!)
      have hA:A.toList=jN i.zero len:=by
       show ((Array.range (len*i.size)).map (fun j=>zz[j % zz.size]!)).toList=_
       by_cases h0:len*i.size=0
       ·have:(jN i.zero len).length=0:=by rw[i7,hrow.len,h0]
        rw[List.eq_nil_of_length_eq_zero this,h0];simp
       ·have:zz=z.cells:=if_neg h0;rw[this,<-hrow.len];exact zh z1 len
      obtain⟨B,b1,b2,b3⟩:=mi h.rel (place':=fun j=>some (j*i.size,i.size)) (fun _ _ h=>h) _ _ _ l A hp (by rw[hA];exact xJ _ _) hl;have hBs:B.size=len*i.size:=by rw[b3];show ((Array.range (len*i.size)).map _).size=_;simp
      have hrun:(execOp a.eval o).run C.P w = .ok (.value (.slice (some ⟨w.heap.size,0,none⟩) len len)) (w.alloc (.cells B e)):=by
       have hb1:Instr.fill (fun j=>some (j*i.size,i.size)) ((Array.range (len*i.size)).map (fun j=>zz[j % zz.size]!)) (parts.map fun (i,x)=>(i,a.eval x)).toList=some B:=b1;have:=oc hu hrow.size z3 hle zz rfl hb1 w;simp[execOp,hop,this]
      have hg:∀ w':World,w'.heap[w.heap.size]? = some (.cells B e (0,0))->OwL w' ok w.heap.size (jg (len*i.size)) 0 []:=fun w' hb=>
       sX _ _ _ fun j hj=>⟨B[j]'(by omega),by simp[World.cell?,hb]⟩
      obtain⟨θ',φ',h2,h3⟩:=xN (t:=e) (u:=.slice (some ⟨w.heap.size,0,none⟩) len len) (d:=.ow i.size len (jg (len*i.size))) h.rel hr
       (fun w' hb=>Dn hb hBs.symm (Nat.le_refl _) (mT _) (hg w' hb)) rfl hs b2
      have hs':Stx w0 fp0 ok0 W n σ1 a (w.alloc (.cells B e)) ok θ' (upR ρ (d,0) (.slice (some ⟨w.heap.size,0,none⟩) len len)) φ':=⟨h2,h.th.of_lt h3,h.oks,h.okn,h.dfr,h.sz⟩;have hf:FR (w.alloc (.cells B e)) ok σ1 (upR ρ (d,0) (.slice (some ⟨w.heap.size,0,none⟩) len len)) (.al (d,0) [] 0 len) (.slice (some ⟨w.heap.size,0,none⟩) len len):=by
       obtain⟨cs',g1⟩:=AF hs (k:=i.size) (N:=len) (cs:=jg (len*i.size)) (by simp[St.obj,St.root,bw]);simp only[FR];exact⟨i.size,len,cs',.slice (some ⟨w.heap.size,0,none⟩) len len,g1,by simp[hdr,upR],by omega,.inl ⟨rfl,_,_,_,rfl,rfl⟩⟩
      exact c8 hrun hk ⟨hs'.fin ho hd hf,ig w _⟩
     ·exact hk.elim
    ·exact hk.elim
   ·exact hk.elim
  ·exact hk.elim
 ·exact hk.elim
end
end Go.Proofs.YtncfmemhjahpeaaGreat.Ab
namespace Go.Proofs.YtncfmemhjahpeaaGreat.Ab
open Go
section
variable {w0 w:World} {fp0:List Nat} {ok0 ok:Nat->Prop} {W:Nat->Value} {n:Nat} {P:Program} {T:TT} {σ:St} {θ:Nat->Value} {ρ:Rn->Value} {φ:Rn->List Nat} {a:Act}
theorem En {b:Nat} {z:List Value} {k m:Nat} (hm:m<=k) (h:∀ (j:Nat) (v:Value),(jN z k)[j]? = some v->w.cell? ⟨b,j,none⟩ = some v):OwL w ok b (gY z m) 0 []:=by
 rw[lN];refine tY _ 0 fun j v hj=>?_;rw[Nat.zero_add];refine h j v ?_;have hlt:j < m*z.length:=by
  rcases Nat.lt_or_ge j (m*z.length) with h | h
  ·exact h
  ·rw[List.getElem?_eq_none (by rw[i7];exact h)] at hj;simp at hj
 rw[pe _ _ _ hlt] at hj;rw[pe _ _ _ (Nat.lt_of_lt_of_le hlt (Nat.mul_le_mul_right _ hm)),hj]
theorem B1 {C:Ctx} (hT:cT C.P C.T=true) {o:Oper} (ho:cU n o=true) {t:Nat} {x y:Operand} (hop:o.op = .makeSlice t x y) {K:St->Prop} (hk:yb C o.dst t (opv σ x) (opv σ y) σ K)
  (h:Stx w0 fp0 ok0 W n σ a w ok θ ρ φ):eH C.P o a w K (fun σ' a' w'=>Ste w0 fp0 ok0 W n σ' a' w'/\bV w w'):=by
 unfold yb at hk;split at hk
 ·rename_i d ti l c hd hti hx hy;split at hk
  ·rename_i e hke;split at hk
   ·rename_i i hi;obtain⟨hr,⟨h0,h1,h2,h3⟩,hk⟩:=hk;have hrow:=b9 hT hi;obtain⟨tin,t1,t2,t3,z,t4,t5,t6⟩:=hrow.info;have hu:=kK (b9 hT hti) hke;have hxv:=h.ops ho x (by rw[hop];simp[Op.operands]);have hyv:=h.ops ho y (by rw[hop];simp[Op.operands]);rw[hx] at hxv;rw[hy] at hyv;have hB:(madeCells z.cells (c.toNat*i.size)).toList=jN i.zero c.toNat:=by
     unfold madeCells;rw[<-hrow.len];exact zh t5 c.toNat
    have hrun:(execOp a.eval o).run C.P w = .ok (.value (.slice (some ⟨w.heap.size,0,none⟩) l.toNat c.toNat)) (w.alloc (.cells (madeCells z.cells (c.toNat*i.size)) e)):=by
     have:=run_make (P:=C.P) w t e tin z hu t1 t4 .i64 .i64 l c h0 h1 (by rw[t3];exact h2) (by omega);rw[t2] at this;simp[execOp,hop,eI hxv,eI hyv,this]
    generalize hBB:madeCells z.cells (c.toNat*i.size)=B at hB hrun;have hBs:B.size=c.toNat*i.size:=by rw[<-hBB,size_madeCells]
    have hnew:(w.alloc (.cells B e)).heap[w.heap.size]? = some (.cells B e (0,0)):=heap_alloc_new w _;obtain⟨fp,f1,f2,f3⟩:=Dn (ok:=ok) (i:=i) (len:=l.toNat) (cp:=c.toNat) hnew hBs.symm (by omega) (cs:=gY i.zero l.toNat) (by rw[lN,List.length_map,i7,hrow.len])
     (En (k:=c.toNat) (by omega) fun j v hj=>kC B e (by rw[<-hB] at hj;simpa using hj))
    have h2':=(h.rel.alloc (.cells B e)).root (r:=(d,0)) hr f1 f2 (fun b hb=>by rw[f3 b hb];exact kt h.rel _);have hs:Stx w0 fp0 ok0 W n _ a _ ok θ _ _:=⟨h2',h.th,h.oks,h.okn,h.dfr,h.sz⟩;have hf:FR (w.alloc (.cells B e)) ok (σ.root (d,0) (.ow i.size l.toNat (gY i.zero l.toNat))) (upR ρ (d,0) (.slice (some ⟨w.heap.size,0,none⟩) l.toNat c.toNat)) (.al (d,0) [] 0 l.toNat) (.slice (some ⟨w.heap.size,0,none⟩) l.toNat c.toNat):=by
     simp only[FR];exact⟨i.size,l.toNat,gY i.zero l.toNat,.slice (some ⟨w.heap.size,0,none⟩) l.toNat c.toNat,by simp[St.obj,St.root,bw],by simp[hdr,upR],by omega,.inl ⟨rfl,_,_,_,rfl,rfl⟩⟩
    exact c8 hrun hk ⟨hs.fin ho hd hf,ig w _⟩
   ·exact hk.elim
  ·exact hk.elim
 ·exact hk.elim
theorem x9 {C:Ctx} {o:Oper} (ho:cU n o=true) {t d:Nat} (hop:o.op = .makeMap t none) (hd:o.dst=some d) {K:St->Prop} (hr:σ.rts (d,0)=none) (hk:K { (σ.root (d,0) (.mp [])) with env:=upd σ.env d (.mr (d,0) []) })
  (h:Stx w0 fp0 ok0 W n σ a w ok θ ρ φ):eH C.P o a w K (fun σ' a' w'=>Ste w0 fp0 ok0 W n σ' a' w'/\bV w w'):=by
 have hrun:(execOp a.eval o).run C.P w = .ok (.value (.map (some w.heap.size))) (w.alloc (.map #[] 0)):=by
  simp[execOp,hop,Instr.makeMap]
 have hnew:(w.alloc (.map #[] 0)).heap[w.heap.size]? = some (.map #[] 0):=heap_alloc_new w _;have h2:=(h.rel.alloc (.map #[] 0)).root (r:=(d,0)) (d:=.mp []) (u:=.map (some w.heap.size)) (fp:=[w.heap.size]) hr
  (by
    simp only[Ow];exact⟨w.heap.size,#[],0,rfl,rfl,⟨hnew,rfl,by simp,by simp,by simp⟩⟩)
  (by simp) (fun b hb=>by
   simp only[List.mem_singleton] at hb;subst hb;exact kt h.rel _)
 have hs:Stx w0 fp0 ok0 W n _ a _ ok θ _ _:=⟨h2,h.th,h.oks,h.okn,h.dfr,h.sz⟩;have hf:FR (w.alloc (.map #[] 0)) ok (σ.root (d,0) (.mp [])) (upR ρ (d,0) (.map (some w.heap.size))) (.mr (d,0) []) (.map (some w.heap.size)):=by
  simp only[FR];exact⟨[],.map (some w.heap.size),by simp[St.obj,St.root,bw],by simp[hdr,upR],rfl⟩
 exact c8 hrun hk ⟨hs.fin ho hd hf,ig w _⟩
theorem Ao {C:Ctx} (hT:cT C.P C.T=true) {o:Oper} (ho:cU n o=true) {t:Nat} {x y:Operand} (hop:o.op = .store t x y) {K:St->Prop} (hk:uM C o.dst t (opv σ x) (opv σ y) σ K)
  (h:Stx w0 fp0 ok0 W n σ a w ok θ ρ φ):eH C.P o a w K (Ste w0 fp0 ok0 W n):=by
 unfold uM at hk;split at hk
 ·rename_i i r p off hi hx;obtain⟨hw,hl,hk⟩:=hk;split at hk
  ·rename_i σ1 hs;have hxv:=h.ops ho x (by rw[hop];simp[Op.operands]);have hyv:=h.ops ho y (by rw[hop];simp[Op.operands]);rw[hx] at hxv;simp only[FR] at hxv;obtain⟨ob,cs,hv,b,q,g1,g2,g3,g4,g5⟩:=hxv;have hcs:=ja h.rel hw hyv;have hlen:=fu hcs;rw[hl,Array.length_toList] at hlen;obtain⟨w',θ',φ',k1,k2,k3,k4⟩:=ky (P:=C.P) (s:=q+off) g4 i.size (opv σ y).atoms off σ θ w φ (a.eval y).cells.toList 0 σ1 h.rel hs hcs g3 rfl;have hrun:(execOp a.eval o).run C.P w = .ok .skip w':=by
    simp[execOp,hop,g5,Instr.storeAt,Instr.sureAddr,storeVar,(b9 hT hi).size,hlen,k1]
   have hs':Stx w0 fp0 ok0 W n σ1 a w' ok θ' ρ φ':=⟨k2,h.th.of_lt k3,h.oks,h.okn,h.dfr,h.sz⟩;obtain⟨θ2,h3⟩:=hs'.put (dst:=o.dst) (dc ho) (f:=.dead) (v:=undef) (by simp[FR]);exact nt hrun hk ⟨_,_,_,_,h3⟩
  ·exact hk.elim
 ·exact hk.elim
end
end Go.Proofs.YtncfmemhjahpeaaGreat.Ab
