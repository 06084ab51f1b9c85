/- The words of an abstract calculus for Go code: values as trees, a frame and a store of owned trees, and what the operations do with them. What a tree says of memory: shared trees, owned trees with their blocks, places and their headers. What a call promises, and the calculus: operations, regions and code over abstract states. Laws of trees in memory: what stays where nothing of a tree is written, sharing, places and what is put there. The store of owned trees: an object taken out of its place, one cell written, and what becomes of places. The frame: what a temporary says is carried over changes of the store; one cell is stored into. One cell is stored into: the state and the world go together. Several cells are stored into; new roots; the frame and the temporaries. What a silent operation yields: types from the table, operands, loads, places, arithmetic. What a load yields: cells of owned trees and of shared ones. What the other silent operations yield: places, parts of slices, arithmetic, structs. What a part of a slice and a built struct are. What a built struct is. Keys of maps that are rows of ints: they are told apart as lists are. Maps: where a key stands; what a lookup yields. Then all silent operations. All silent operations: what they yield, now or later. The machine and the state step together: silent operations, new blocks, stores. New variables, new slices, new maps, stores: sound. No condition. -/
import Derived.Orders
import Derived.Laws.Cells
import Derived.Laws.AppendOwn
import Derived.KernelRfl
import Derived.Laws.BytesArg
import Derived.Below
import Derived.Laws.Slices
import Derived.ChangeKeysEq
import Derived.Laws.StructEq
import Derived.Laws.Tables
import Derived.WideKeyRuns
import Derived.Laws.MakeOwn
set_option linter.unusedVariables false
set_option linter.unusedSimpArgs false
set_option linter.unusedSectionVars false
namespace Go.Proofs.Ytncfmemhjahpeaa.Ab
open Go
inductive D where
 | v (x:Value)
 | ez
 | sh (k n:Nat) (cs:List D)
 | vp (cs:List D)
 | fn (f:Nat) (caps:List D)
 | ow (k n:Nat) (cs:List D)
 | bx (cs:List D)
 | mp (es:List (List Int×Int))
 | itr
 | gone
abbrev Rn:=Nat×Nat
inductive FV where
 | d (x:D)
 | sp (cs:List D) (off:Nat)
 | al (r:Rn) (p:List Nat) (lo n:Nat)
 | cu (r:Rn) (p:List Nat) (n:Nat)
 | pt (r:Rn) (p:List Nat) (off:Nat)
 | ar (r:Rn) (p:List Nat) (off n:Nat)
 | mr (r:Rn) (p:List Nat)
 | it (r m:Rn) (p:List Nat) (rest:List (List Int×Int)) (cur:Option (List Int×Int))
 | ag (fs:List FV)
 | tu (fs:List FV)
 | cl (f:Nat) (caps:List FV)
 | fb (fs:List FV) (off:Nat)
 | dead
abbrev D.int (n:Int):D:=.v (.int .i64 n)
abbrev D.bool (b:Bool):D:=.v (.bool b)
abbrev FV.int (n:Int):FV:=.d (.v (.int .i64 n))
abbrev FV.bool (b:Bool):FV:=.d (.v (.bool b))
structure St where
 env:Nat->FV
 rts:Rn->Option D
inductive TK where
 | int (k:IntKind) | bool | str | sl (e:Nat) | arr (n e:Nat) | st (fs:List (Nat×Nat)) | map (k e:Nat) | other
structure TI where
 kd:TK
 size:Nat
 bytes:Nat
 zero:List Value
abbrev TT:=List (Nat×TI)
def tget:TT->Nat->Option TI
 | [],_=>none
 | (i,x) :: r,t=>if i=t then some x else tget r t
def tsize (T:TT) (t:Nat):Option Nat:=match tget T t with | some i=>some i.size | none=>none
def D.cells?:D->Option (List D)
 | .ow _ _ cs=>some cs
 | .bx cs=>some cs
 | _=>none
def D.setCells:D->List D->D
 | .ow k n _,cs=>.ow k n cs
 | .bx _,cs=>.bx cs
 | d,_=>d
def D.leaf:D->Bool
 | .v x=>x.oneCell'
 | .ez=>true
 | .sh ..=>true
 | .vp _=>true
 | .fn ..=>true
 | _=>false
def look:D->List Nat->Option D
 | d,[]=>some d
 | d,i :: p=>match d.cells? with
  | some cs=>(match cs[i]? with | some x=>look x p | none=>none)
  | none=>none
def putAt:D->List Nat->D->D
 | _,[],e=>e
 | d,i :: p,e=>match d.cells? with
  | some cs=>d.setCells (cs.modify i fun x=>putAt x p e)
  | none=>d
def St.obj (σ:St) (r:Rn) (p:List Nat):Option D:=match σ.rts r with | some d=>look d p | none=>none
def St.put (σ:St) (r:Rn) (p:List Nat) (e:D):St:=
 match σ.rts r with
 | some d=>{ σ with rts:=fun q=>if q=r then some (putAt d p e) else σ.rts q }
 | none=>σ
mutual
def share:D->D
 | .ow k n cs=>.sh k n (shareL cs)
 | .bx cs=>.vp (shareL cs)
 | .sh k n cs=>.sh k n cs
 | .vp cs=>.vp cs
 | .mp _=>.gone
 | .itr=>.gone
 | d=>d
def shareL:List D->List D
 | []=>[]
 | d :: r=>share d :: shareL r
end
def upd {α:Type} (e:Nat->α) (t:Nat) (f:α):Nat->α:=fun s=>if s=t then f else e s
def St.set (σ:St) (d:Option Nat) (f:FV):St:=
 match d with
 | some t=>{ σ with env:=upd σ.env t f }
 | none=>σ
def ofL:List (Nat×FV)->Nat->FV
 | [],_=>.dead
 | (i,f) :: r,t=>if i=t then f else ofL r t
def ofR:List (Rn×D)->Rn->Option D
 | [],_=>none
 | (i,f) :: r,t=>if i=t then some f else ofR r t
mutual
def FV.roots:FV->List Rn
 | .al r _ _ _=>[r]
 | .cu r _ _=>[r]
 | .pt r _ _=>[r]
 | .ar r _ _ _=>[r]
 | .mr r _=>[r]
 | .it r m _ _ _=>[r,m]
 | .ag fs=>FV.rootsL fs
 | .tu fs=>FV.rootsL fs
 | .cl _ fs=>FV.rootsL fs
 | .fb fs _=>FV.rootsL fs
 | .d _=>[]
 | .sp _ _=>[]
 | .dead=>[]
def FV.rootsL:List FV->List Rn
 | []=>[]
 | f :: r=>f.roots ++ FV.rootsL r
end
structure Mv where
 r:Rn
 p:List Nat
 r':Rn
 p':List Nat
def stripP:List Nat->List Nat->Option (List Nat)
 | [],q=>some q
 | i :: p,j :: q=>if i=j then stripP p q else none
 | _ :: _,[]=>none
def Mv.place (m:Mv) (r:Rn) (p:List Nat):Rn×List Nat:=
 if r=m.r then (match stripP m.p p with | some q=>(m.r',m.p' ++ q) | none=>(r,p)) else (r,p)
mutual
def FV.move (m:Mv):FV->FV
 | .al r p lo n=>.al (m.place r p).1 (m.place r p).2 lo n
 | .cu r p n=>.cu (m.place r p).1 (m.place r p).2 n
 | .pt r p o=>.pt (m.place r p).1 (m.place r p).2 o
 | .ar r p o n=>.ar (m.place r p).1 (m.place r p).2 o n
 | .mr r p=>.mr (m.place r p).1 (m.place r p).2
 | .it r x p l c=>.it r (m.place x p).1 (m.place x p).2 l c
 | .ag fs=>.ag (FV.moveL m fs)
 | .tu fs=>.tu (FV.moveL m fs)
 | .cl f fs=>.cl f (FV.moveL m fs)
 | .fb fs o=>.fb (FV.moveL m fs) o
 | .d x=>.d x
 | .sp cs o=>.sp cs o
 | .dead=>.dead
def FV.moveL (m:Mv):List FV->List FV
 | []=>[]
 | f :: r=>f.move m :: FV.moveL m r
end
def isPre:List Nat->List Nat->Bool
 | [],_=>true
 | i :: p,j :: q=>if i=j then isPre p q else false
 | _ :: _,[]=>false
mutual
def FV.under (r:Rn) (p:List Nat):FV->Bool
 | .al q s _ _=>if q=r then isPre p s else false
 | .cu q s _=>if q=r then isPre p s else false
 | .pt q s _=>if q=r then isPre p s else false
 | .ar q s _ _=>if q=r then isPre p s else false
 | .mr q s=>if q=r then isPre p s else false
 | .it q m s _ _=>if q=r then true else if m=r then isPre p s else false
 | .ag fs=>FV.underL r p fs
 | .tu fs=>FV.underL r p fs
 | .cl _ fs=>FV.underL r p fs
 | .fb fs _=>FV.underL r p fs
 | .d _=>false
 | .sp _ _=>false
 | .dead=>false
def FV.underL (r:Rn) (p:List Nat):List FV->Bool
 | []=>false
 | f :: l=>f.under r p || FV.underL r p l
end
def St.kill (σ:St) (r:Rn) (p:List Nat):St:=
 { σ with env:=fun t=>if (σ.env t).under r p then .dead else σ.env t }
def belowB (r:Rn) (p:List Nat) (q:Rn) (s:List Nat):Bool:=if q=r then (match stripP p s with | some (_ :: _)=>true | _=>false) else false
mutual
def FV.deep (r:Rn) (p:List Nat):FV->Bool
 | .al q s _ _=>belowB r p q s
 | .cu q s _=>belowB r p q s
 | .pt q s _=>belowB r p q s
 | .ar q s _ _=>belowB r p q s
 | .mr q s=>belowB r p q s
 | .it _ _ _ _ _=>true
 | .ag fs=>FV.deepL r p fs
 | .tu fs=>FV.deepL r p fs
 | .cl _ fs=>FV.deepL r p fs
 | .fb fs _=>FV.deepL r p fs
 | .d _=>false
 | .sp _ _=>false
 | .dead=>false
def FV.deepL (r:Rn) (p:List Nat):List FV->Bool
 | []=>false
 | f :: l=>f.deep r p || FV.deepL r p l
end
def St.killBelow (σ:St) (r:Rn) (p:List Nat):St:=
 { σ with env:=fun t=>if (σ.env t).deep r p then .dead else σ.env t }
def St.take (σ:St) (r:Rn) (p:List Nat):St:=
 match p with
 | []=>{ σ with rts:=fun q=>if q=r then none else σ.rts q }
 | _ :: _=>σ.put r p .gone
def St.absorb (σ:St) (f:FV) (r':Rn) (p':List Nat):Option (D×St):=
 match f with
 | .d x=>if x.leaf then some (x,σ) else none
 | .al r p lo n=>match σ.obj r p with
  | some (.ow k N cs)=>if lo=0/\n=N then
    some (.ow k N cs,{ (σ.take r p) with env:=fun t=>(σ.env t).move ⟨r,p,r',p'⟩ }) else none
  | _=>none
 | .pt r p o=>match σ.obj r p with
  | some (.bx cs)=>if o=0 then some (.bx cs,{ (σ.take r p) with env:=fun t=>(σ.env t).move ⟨r,p,r',p'⟩ }) else none
  | _=>none
 | .mr r p=>match σ.obj r p with
  | some (.mp es)=>some (.mp es,{ (σ.take r p) with env:=fun t=>(σ.env t).move ⟨r,p,r',p'⟩ })
  | _=>none
 | _=>none
def FV.atoms:FV->List FV
 | .ag fs=>fs
 | f=>[f]
end Go.Proofs.Ytncfmemhjahpeaa.Ab
namespace Go.Proofs.Ytncfmemhjahpeaa.Ab
open Go
def baseOf:Value->Option (Nat×Nat)
 | .slice (some ⟨b,o,none⟩) _ _=>some (b,o)
 | .pointer (some ⟨b,o,none⟩)=>some (b,o)
 | _=>none
def keyV (k:List Int):Value:=.agg (k.map (Value.int .i64)).toArray
structure MapAt (w:World) (m:Nat) (es:List (List Int×Int)) (en:Array MapEntry) (clock:Nat):Prop where
 at_:w.heap[m]? = some (.map en clock)
 kv:en.toList.map (fun e=>(e.key,e.val))=es.map fun x=>(keyV x.1,.int .i64 x.2)
 born:∀ e∈en.toList,e.born < clock
 uniq:(en.toList.map (·.born)).Nodup
 keys:(es.map (·.1)).Nodup
mutual
def Sh (w:World) (ok:Nat->Prop):D->Value->Prop
 | .v x,u=>u=x
 | .ez,u=>∃ a,u = .slice a 0 0
 | .sh k n cs,u=>∃ a c,u = .slice a n c/\n<=c/\cs.length=k*n/\(cs=[]\/∃ b o,a=some ⟨b,o,none⟩/\ok b/\ShL w ok b cs o)
 | .vp cs,u=>∃ b o,u = .pointer (some ⟨b,o,none⟩)/\ok b/\ShL w ok b cs o
 | .fn f caps,u=>∃ vs,u = .func (.func f) #[] vs/\ShV w ok caps vs.toList
 | .ow ..,_=>False
 | .bx _,_=>False
 | .mp _,_=>False
 | .itr,_=>False
 | .gone,_=>True
def ShL (w:World) (ok:Nat->Prop) (b:Nat):List D->Nat->Prop
 | [],_=>True
 | d :: ds,o=>(∃ u,w.cell? ⟨b,o,none⟩ = some u/\Sh w ok d u)/\ShL w ok b ds (o+1)
def ShV (w:World) (ok:Nat->Prop):List D->List Value->Prop
 | [],vs=>vs=[]
 | d :: ds,vs=>∃ u us,vs=u :: us/\Sh w ok d u/\ShV w ok ds us
end
mutual
def Ow (w:World) (ok:Nat->Prop):D->Value->List Nat->Prop
 | .ow k n cs,u,fp=>(n=0/\cs=[]/\fp=[]/\∃ a,u = .slice a 0 0) \/
   ∃ b o c arr T fp',u = .slice (some ⟨b,o,none⟩) n c/\fp=b :: fp'/\w.heap[b]? = some (.cells arr T (0,0))/\(n<=c/\c≠0)/\o+k*c<=arr.size /\
    cs.length=k*n/\OwL w ok b cs o fp'
 | .bx cs,u,fp=>∃ b arr T fp',u = .pointer (some ⟨b,0,none⟩)/\fp=b :: fp'/\w.heap[b]? = some (.cells arr T (0,0))/\cs.length<=arr.size/\OwL w ok b cs 0 fp'
 | .mp es,u,fp=>∃ m en clock,u = .map (some m)/\fp=[m]/\MapAt w m es en clock
 | .itr,u,fp=>∃ b m s x l,u = .pointer (some ⟨b,0,none⟩)/\fp=[b]/\w.heap[b]? = some (.mapIter m s x l)
 | .gone,_,fp=>fp=[]
 | .v x,u,fp=>fp=[]/\u=x
 | .ez,u,fp=>fp=[]/\Sh w ok .ez u
 | .sh k n cs,u,fp=>fp=[]/\Sh w ok (.sh k n cs) u
 | .vp cs,u,fp=>fp=[]/\Sh w ok (.vp cs) u
 | .fn f cs,u,fp=>fp=[]/\Sh w ok (.fn f cs) u
def OwL (w:World) (ok:Nat->Prop) (b:Nat):List D->Nat->List Nat->Prop
 | [],_,fp=>fp=[]
 | d :: ds,o,fp=>∃ u f1 f2,w.cell? ⟨b,o,none⟩ = some u/\fp=f1 ++ f2/\Ow w ok d u f1/\OwL w ok b ds (o+1) f2
end
def hdr (w:World):Value->List Nat->Option Value
 | u,[]=>some u
 | u,i :: p=>match baseOf u with
  | some (b,o)=>(match w.cell? ⟨b,o+i,none⟩ with | some v=>hdr w v p | none=>none)
  | none=>none
def SubSl (k:Nat) (hv:Value) (lo n:Nat) (u:Value):Prop:=
 (lo=0/\∃ a N c,hv = .slice a N c/\u = .slice a n c) \/
 (0 < lo/\∃ b o N c,hv = .slice (some ⟨b,o,none⟩) N c/\lo+n<=c /\
  ((lo < c/\u = .slice (some ⟨b,o+k*lo,none⟩) n (c - lo))\/(lo=c/\n=0/\∃ a,u = .slice a 0 0)))
mutual
def FR (w:World) (ok:Nat->Prop) (σ:St) (ρ:Rn->Value):FV->Value->Prop
 | .d x,u=>Sh w ok x u
 | .sp cs off,u=>∃ b o,u = .pointer (some ⟨b,o+off,none⟩)/\ok b/\ShL w ok b cs o
 | .al r p lo n,u=>∃ k N cs hv,σ.obj r p=some (.ow k N cs)/\hdr w (ρ r) p=some hv/\lo+n<=N/\SubSl k hv lo n u
 | .cu r p n,u=>∃ k N cs hv a M c,σ.obj r p=some (.ow k N cs)/\hdr w (ρ r) p=some hv/\n<=N/\hv = .slice a M c/\u = .slice a n n
 | .pt r p off,u=>∃ o cs hv b q,σ.obj r p=some o/\o.cells? = some cs/\hdr w (ρ r) p=some hv/\baseOf hv=some (b,q)/\u = .pointer (some ⟨b,q+off,none⟩)
 | .ar r p off n,u=>∃ o cs hv b q c,σ.obj r p=some o/\o.cells? = some cs/\hdr w (ρ r) p=some hv/\baseOf hv=some (b,q)/\off+n<=cs.length/\n<=c /\
   (u = .slice (some ⟨b,q+off,none⟩) n c\/(n=0/\∃ a,u = .slice a 0 0))
 | .mr r p,u=>∃ es hv,σ.obj r p=some (.mp es)/\hdr w (ρ r) p=some hv/\u=hv
 | .it r m p rest cur,u=>u=ρ r/\σ.rts r=some .itr/\∃ b mb es en clock seen,u = .pointer (some ⟨b,0,none⟩)/\w.heap[b]? = some (.mapIter (some mb) clock seen clock) /\
   σ.obj m p=some (.mp es)/\hdr w (ρ m) p=some (.map (some mb))/\MapAt w mb es en clock /\
   (en.toList.filter fun e=>!seen.contains e.born).map (fun e=>(e.key,e.val))=rest.map (fun x=>(keyV x.1,Value.int .i64 x.2)) /\
   (∀ x,cur=some x->∃ st,seen.back? = some st/\∃ e,en.find? (·.born == st)=some e/\e.key=keyV x.1/\e.val = .int .i64 x.2)
 | .ag fs,u=>∃ vs,u = .agg vs/\FRL w ok σ ρ fs vs.toList
 | .tu fs,u=>∃ vs,u = .tuple vs/\FRL w ok σ ρ fs vs.toList
 | .cl f fs,u=>∃ vs,u = .func (.func f) #[] vs/\FRL w ok σ ρ fs vs.toList
 | .fb fs off,u=>∃ b vs,u = .pointer (some ⟨b,off,none⟩)/\ok b/\(∀ (j:Nat) (v:Value),vs[j]? = some v->w.cell? ⟨b,j,none⟩ = some v)/\FRL w ok σ ρ fs vs
 | .dead,_=>True
def FRL (w:World) (ok:Nat->Prop) (σ:St) (ρ:Rn->Value):List FV->List Value->Prop
 | [],vs=>vs=[]
 | f :: fs,vs=>∃ u us,vs=u :: us/\FR w ok σ ρ f u/\FRL w ok σ ρ fs us
end
structure Keeps (w0:World) (fp0:List Nat) (w:World):Prop where
 os:w.os=w0.os
 out:w.output=w0.output
 tape:w.tape=w0.tape
 drawn:w0.drawn<=w.drawn
 size:w0.heap.size<=w.heap.size
 old:∀ b,b < w0.heap.size->b ∉ fp0->w.heap[b]? = w0.heap[b]?
structure Rel (w0:World) (fp0:List Nat) (ok:Nat->Prop) (σ:St) (θ:Nat->Value) (w:World) (ρ:Rn->Value) (φ:Rn->List Nat):Prop where
 own:∀ r d,σ.rts r=some d->Ow w ok d (ρ r) (φ r)/\(φ r).Nodup/\∀ b∈φ r,¬ ok b/\(b∈fp0\/w0.heap.size<=b)/\b < w.heap.size
 dis:∀ r r' d d',r≠r'->σ.rts r=some d->σ.rts r'=some d'->∀ b∈φ r,b ∉ φ r'
 env:∀ t,FR w ok σ ρ (σ.env t) (θ t)
 okb:∀ b,ok b->b < w.heap.size
 frm:Keeps w0 fp0 w
end Go.Proofs.Ytncfmemhjahpeaa.Ab
namespace Go.Proofs.Ytncfmemhjahpeaa.Ab
open Go
inductive RV where
 | one (d:D)
 | ag (ds:List D)
def OwVs (w:World) (ok:Nat->Prop):List D->List Value->List Nat->Prop
 | [],vs,fp=>vs=[]/\fp=[]
 | d :: ds,vs,fp=>∃ u us f1 f2,vs=u :: us/\fp=f1 ++ f2/\Ow w ok d u f1/\OwVs w ok ds us f2
def OwRV (w:World) (ok:Nat->Prop):RV->Value->List Nat->Prop
 | .one d,u,fp=>Ow w ok d u fp
 | .ag ds,u,fp=>∃ vs,u = .agg vs/\OwVs w ok ds vs.toList fp
def OwRs (w:World) (ok:Nat->Prop):List RV->List Value->List Nat->Prop
 | [],vs,fp=>vs=[]/\fp=[]
 | d :: ds,vs,fp=>∃ u us f1 f2,vs=u :: us/\fp=f1 ++ f2/\OwRV w ok d u f1/\OwRs w ok ds us f2
def resultOf:List Value->Value
 | [v]=>v
 | vs=>.tuple vs.toArray
def Callable (P : Program) (f : FuncId) : Prop := ∃ fn c, P.funcs[f]? = some fn ∧ fn.body = some c ∧ (fn.name == "runtime.NumGoroutine") = false
structure Done (w:World) (ok:Nat->Prop) (ρ:Rn->Value) (fp0:List Nat) (names:List Rn) (pure:Bool) (outs:List D) (res:List RV) (v:Value) (w':World)
  (ok':Nat->Prop) (φ:Rn->List Nat) (fr:List Nat):Prop where
 len:outs.length=names.length
 out:∀ r d,ofR (names.zip outs) r=some d->Ow w' (if pure then fun _=>False else ok') d (ρ r) (φ r)/\(φ r).Nodup/\∀ b∈φ r,¬ ok' b/\(b∈fp0\/w.heap.size<=b)/\b < w'.heap.size
 dis:∀ r r' d d',r≠r'->ofR (names.zip outs) r=some d->ofR (names.zip outs) r'=some d'->∀ b∈φ r,b ∉ φ r'
 res:∃ vs,v=resultOf vs/\OwRs w' (if pure then fun _=>False else ok') res vs fr
 nod:fr.Nodup
 bl:∀ b∈fr,¬ ok' b/\(b∈fp0\/w.heap.size<=b)/\b < w'.heap.size
 disr:∀ r d,ofR (names.zip outs) r=some d->∀ b∈φ r,b ∉ fr
 frm:Keeps w fp0 w'
 okm:∀ b,ok b->ok' b
 okn:∀ b,ok' b->(ok b\/w.heap.size<=b)/\b < w'.heap.size
def argEnv (args:List FV):Nat->FV:=fun t=>args.getD t .dead
def ACalls (P:Program) (f:FuncId) (args:List FV) (ros:List (Rn×D)) (pure:Bool) (Q:List D->List RV->Prop):Prop:=
 Callable P f/\∀ (w:World) (fp0:List Nat) (ok:Nat->Prop) (vs:List Value) (ρ:Rn->Value) (φ:Rn->List Nat),vs.length=args.length ->
  Rel w fp0 ok ⟨argEnv args,ofR ros⟩ (fun t=>vs.getD t undef) w ρ φ ->
  Calls P f vs.toArray w fun e w'=>∃ v outs res ok' φ' fr,e = .returned v/\Q outs res/\Done w ok ρ fp0 (ros.map (·.1)) pure outs res v w' ok' φ' fr
def constFV:Value->FV
 | .agg cs=>.ag (cs.toList.map fun x=>.d (.v x))
 | x=>.d (.v x)
def u8s:List D->Option (List Int)
 | []=>some []
 | .v (.int .u8 n) :: r=>(match u8s r with | some l=>some (n :: l) | none=>none)
 | _ :: _=>none
def opv (σ:St):Operand->FV
 | .tmp t=>σ.env t
 | .const v=>constFV v
 | .global _=>.dead
 | .func f=>.d (.fn f [])
def cellFV (r:Rn) (p:List Nat) (i:Nat):D->FV
 | .ow _ n _=>.al r (p ++ [i]) 0 n
 | .bx _=>.pt r (p ++ [i]) 0
 | .mp _=>.mr r (p ++ [i])
 | .gone=>.dead
 | .itr=>.dead
 | x=>.d x
def pickL (cs:List D) (off:Nat):Nat->Option (List D)
 | 0=>some []
 | n+1=>match cs[off]? with
  | some c=>(match pickL cs (off+1) n with | some r=>some (c :: r) | none=>none)
  | none=>none
def mapIdx2 (g:Nat->D->FV):Nat->List D->List FV
 | _,[]=>[]
 | i,c :: r=>g i c :: mapIdx2 g (i+1) r
def isAggK:TK->Bool
 | .arr _ _=>true
 | .st _=>true
 | _=>false
def pickF (fs:List FV) (off:Nat):Nat->Option (List FV)
 | 0=>some []
 | n+1=>match fs[off]? with
  | some c=>(match pickF fs (off+1) n with | some r=>some (c :: r) | none=>none)
  | none=>none
def loadF (T:TT) (σ:St) (t:Nat) (a:FV):Option FV:=
 match tget T t with
 | none=>none
 | some i=>
  match a with
  | .pt r p off=>(match σ.obj r p with
   | some o=>(match o.cells? with
    | some cs=>(match pickL cs off i.size with
     | some l=>if isAggK i.kd then some (.ag (mapIdx2 (cellFV r p) off l)) else (match l with | [c]=>some (cellFV r p off c) | _=>none)
     | none=>none)
    | none=>none)
   | none=>none)
  | .sp cs off=>(match pickL cs off i.size with
   | some l=>if isAggK i.kd then some (.ag (l.map .d)) else (match l with | [c]=>some (.d c) | _=>none)
   | none=>none)
  | .d (.vp cs)=>(match pickL cs 0 i.size with
   | some l=>if isAggK i.kd then some (.ag (l.map .d)) else (match l with | [c]=>some (.d c) | _=>none)
   | none=>none)
  | .fb fs off=>(match pickF fs off i.size with
   | some l=>if isAggK i.kd then some (.ag l) else (match l with | [c]=>some c | _=>none)
   | none=>none)
  | _=>none
def fieldOff (T:TT) (t f:Nat):Option Nat:=
 match tget T t with
 | some i=>(match i.kd with
  | .st fs=>(match fs[f]? with
   | some (off,ft)=>(match tget T ft with | some j=>if j.size=0 then none else some off | none=>none)
   | none=>none)
  | _=>none)
 | none=>none
def addOff (a:FV) (n:Nat):Option FV:=
 match a with
 | .pt r p off=>some (.pt r p (off+n))
 | .sp cs off=>some (.sp cs (off+n))
 | .d (.vp cs)=>some (.sp cs n)
 | .fb fs o=>some (.fb fs (o+n))
 | _=>none
def fieldV (T:TT) (t f:Nat) (x:FV):Option FV:=
 match tget T t,x with
 | some i,.ag l=>(match i.kd with
  | .st fs=>(match fs[f]? with
   | some (off,ft)=>(match tget T ft with | some j=>if isAggK j.kd=false then l[off]? else none | none=>none)
   | none=>none)
  | _=>none)
 | _,_=>none
def St.kOf (σ:St) (r:Rn) (p:List Nat):Nat:=match σ.obj r p with | some (.ow k _ _)=>k | _=>0
def St.nOf (σ:St) (r:Rn) (p:List Nat):Nat:=match σ.obj r p with | some o=>(match o.cells? with | some cs=>cs.length | none=>0) | none=>0
def indexF (T:TT) (σ:St) (t:Nat) (a i:FV):Option (Prop×FV):=
 match tget T t,i with
 | some ti,.d (.v (.int _ x))=>(match ti.kd with
  | .sl e=>(match tsize T e with
   | some k=>(match a with
    | .al r p lo n=>if σ.kOf r p=k then some (0<=x/\x < n,.pt r p (k*(lo+x.toNat))) else none
    | .ar r p off n=>if k=1 then some (0<=x/\x < n,.pt r p (off+x.toNat)) else none
    | .d (.sh k' n cs)=>if k'=k/\0 < k then some (0<=x/\x < n,.sp cs (k*x.toNat)) else none
    | _=>none)
   | none=>none)
  | .arr n e=>(match tsize T e with
   | some k=>(match addOff a (k*x.toNat) with
    | some f=>some (0<=x/\x < n,f)
    | none=>none)
   | none=>none)
  | _=>none)
 | _,_=>none
def bitsV (op:BinOp) (k:IntKind) (x y:Int):Option Int:=
 match op with
 | .and=>some (k.wrap (BitVec.ofInt k.bits x &&& BitVec.ofInt k.bits y).toNat)
 | .or=>some (k.wrap (BitVec.ofInt k.bits x ||| BitVec.ofInt k.bits y).toNat)
 | .xor=>some (k.wrap (BitVec.ofInt k.bits x ^^^ BitVec.ofInt k.bits y).toNat)
 | _=>none
def binInt (op:BinOp) (k:IntKind) (a b:Int):Option (Prop×Value):=
 match op with
 | .add=>some (True,.int k (k.wrap (a+b)))
 | .sub=>some (True,.int k (k.wrap (a - b)))
 | .mul=>some (True,.int k (k.wrap (a*b)))
 | .quo=>some (b≠0,.int k (k.wrap (a.tdiv b)))
 | .rem=>some (b≠0,.int k (a.tmod b))
 | .eql=>some (True,.bool (a == b))
 | .neq=>some (True,.bool (a != b))
 | .lss=>some (True,.bool (decide (a < b)))
 | .leq=>some (True,.bool (decide (a<=b)))
 | .gtr=>some (True,.bool (decide (a > b)))
 | .geq=>some (True,.bool (decide (a ≥ b)))
 | .and=>match bitsV .and k a b with | some n=>some (True,.int k n) | none=>none
 | .or=>match bitsV .or k a b with | some n=>some (True,.int k n) | none=>none
 | .xor=>match bitsV .xor k a b with | some n=>some (True,.int k n) | none=>none
 | .shr=>some (0<=b,.int k (a.fdiv (2 ^ (min b.toNat k.bits))))
 | .shl=>some (0<=b,.int k (k.wrap (a*2 ^ (min b.toNat k.bits))))
 | _=>none
def shiftInt (op:BinOp) (k:IntKind) (a b:Int):Option (Prop×Value):=
 match op with
 | .shr=>some (0<=b,.int k (a.fdiv (2 ^ (min b.toNat k.bits))))
 | .shl=>some (0<=b,.int k (k.wrap (a*2 ^ (min b.toNat k.bits))))
 | _=>none
def binF (T:TT) (op:BinOp) (t:Nat) (x y:FV):Option (Prop×FV):=
 match x,y with
 | .d (.v (.int k a)),.d (.v (.int k' b))=>if k=k' then (match binInt op k a b with | some (c,v)=>some (c,.d (.v v)) | none=>none) else (match shiftInt op k a b with | some (c,v)=>some (c,.d (.v v)) | none=>none)
 | .d (.v (.bool a)),.d (.v (.bool b))=>(match tget T t with
  | some i=>(match i.kd with
   | .bool=>(match op with
    | .eql=>some (True,.bool (a == b))
    | .neq=>some (True,.bool (!(a == b)))
    | _=>none)
   | _=>none)
  | none=>none)
 | .d (.v (.string a)),.d (.v (.string b))=>(match op with
  | .add=>some (((a.size+b.size:Nat):Int)<=9223372036854775807,.d (.v (.string (a ++ b))))
  | .eql=>some (True,.bool (a.toList == b.toList))
  | .neq=>some (True,.bool (!(a.toList == b.toList)))
  | _=>none)
 | .ag [.d (.v (.int .i64 a)),.d (.v (.int .i64 b))],.ag [.d (.v (.int .i64 c)),.d (.v (.int .i64 e))]=>(match tget T t with
  | some i=>(match i.kd with
   | .st [(0,t1),(1,t2)]=>(match tget T t1,tget T t2 with
    | some i1,some i2=>(match i1.kd,i2.kd with
     | .int _,.int _=>(match op with
      | .eql=>some (True,.bool (a == c && b == e))
      | .neq=>some (True,.bool (!(a == c && b == e)))
      | _=>none)
     | _,_=>none)
    | _,_=>none)
   | _=>none)
  | none=>none)
 | _,_=>none
def boundsF (lo hi:Option FV) (n:Nat):Option (Prop×Nat×Nat):=
 match lo,hi with
 | none,none=>some (True,0,n)
 | some (.d (.v (.int _ l))),none=>some (0<=l/\l<=n,l.toNat,n)
 | none,some (.d (.v (.int _ h)))=>some (0<=h/\h<=n,0,h.toNat)
 | some (.d (.v (.int _ l))),some (.d (.v (.int _ h)))=>some (0<=l/\l<=h/\h<=n,l.toNat,h.toNat)
 | _,_=>none
def isZero:Option Operand->Bool
 | some (.const (.int _ 0))=>true
 | _=>false
def sliceF (T:TT) (σ:St) (t:Nat) (a:FV) (lo hi mx:Option Operand) (l h m:Option FV):Option (Prop×FV):=
 match tget T t with
 | none=>none
 | some ti=>
  match ti.kd with
  | .sl e=>(match tsize T e with
   | none=>none
   | some k=>
    (match isZero mx,isZero lo,isZero hi,a with
    | true,true,true,.al ..=>some (True,.d .ez)
    | true,true,true,.d (.sh ..)=>some (True,.d .ez)
    | _,_,_,_=>
     (match a with
     | .al r p lo0 n=>if σ.kOf r p=k then (match boundsF l h n with
      | some (c,x,y)=>(match m with
       | none=>some (c,.al r p (lo0+x) (y - x))
       | some (.d (.v (.int _ z)))=>if lo0=0/\l.isNone/\h.isSome then some (c/\(y:Int)=z,.cu r p y) else none
       | _=>none)
      | none=>none) else none
     | .d (.sh k' n cs)=>(match m,boundsF l h n with
      | none,some (c,x,y)=>if k'=k then some (c,.d (.sh k (y - x) ((cs.drop (k*x)).take (k*(y - x))))) else none
      | _,_=>none)
     | _=>none)))
  | .arr n e=>(match tsize T e,m with
   | some k,none=>if k=1 then
     (match boundsF l h n with
     | some (c,x,y)=>(match a with
      | .pt r p off=>some (c/\off+n<=σ.nOf r p,.ar r p (off+x) (y - x))
      | _=>none)
     | none=>none) else none
   | _,_=>none)
  | _=>none
def setAtoms (l:List FV) (off:Nat):List FV->List FV
 | []=>l
 | f :: r=>setAtoms (l.set off f) (off+1) r
def FV.whole:FV->Bool
 | .d x=>x.leaf
 | .al ..=>true
 | .cu ..=>true
 | .pt ..=>true
 | .ar ..=>true
 | .mr ..=>true
 | .sp ..=>true
 | .cl ..=>true
 | .ag _=>true
 | _=>false
def fillF (place:Nat->Option (Nat×Nat)) (l:List FV):List (Nat×FV)->Option (List FV)
 | []=>some l
 | (i,f) :: r=>match place i with
  | some (off,size)=>if f.whole=true/\f.atoms.length=size/\off+size<=l.length then fillF place (setAtoms l off f.atoms) r else none
  | none=>none
def fieldPl (T:TT) (fs:List (Nat×Nat)) (i:Nat):Option (Nat×Nat):=
 match fs[i]? with
 | some (off,ft)=>(match tget T ft with | some j=>some (off,j.size) | none=>none)
 | none=>none
def buildF (T:TT) (t:Nat) (parts:List (Nat×FV)):Option FV:=
 match tget T t with
 | some ti=>(match ti.kd with
  | .st fs=>(match fillF (fieldPl T fs) (ti.zero.map fun z=>.d (.v z)) parts with | some l=>some (.ag l) | none=>none)
  | _=>none)
 | none=>none
def lenF:FV->Option Nat
 | .al _ _ _ n=>some n
 | .cu _ _ n=>some n
 | .ar _ _ _ n=>some n
 | .d (.sh _ n _)=>some n
 | .d .ez=>some 0
 | .d (.v (.slice none 0 0))=>some 0
 | _=>none
def mget (k:List Int):List (List Int×Int)->Option Int
 | []=>none
 | x :: r=>if x.1=k then some x.2 else mget k r
def mset (k:List Int) (v:Int):List (List Int×Int)->List (List Int×Int)
 | []=>[(k,v)]
 | x :: r=>if x.1=k then (k,v) :: r else x :: mset k v r
def mdel (k:List Int):List (List Int×Int)->List (List Int×Int)
 | []=>[]
 | x :: r=>if x.1=k then r else x :: mdel k r
def keyInts:List FV->Option (List Int)
 | []=>some []
 | .d (.v (.int .i64 n)) :: r=>(match keyInts r with | some l=>some (n :: l) | none=>none)
 | _=>none
def tileB (T:TT):List (Nat×Nat)->Nat->Nat->Bool
 | [],o,n=>o == n
 | f :: fs,o,n=>f.1 == o && (match tget T f.2 with | some j=>tileB T fs (o+j.size) n | none=>false)
def flatInt (T:TT):Nat->Nat->Bool
 | 0,_=>false
 | d+1,t=>match tget T t with
  | some i=>(match i.kd with
   | .int .i64=>i.size == 1
   | .arr n e=>(match tget T e with | some j=>i.size == n*j.size && j.size != 0 | none=>false) && flatInt T d e
   | .st fs=>tileB T fs 0 i.size && fs.all fun f=>flatInt T d f.2
   | _=>false)
  | none=>false
def mapLen (n:Nat) (es:List (List Int×Int)):Prop:=∀ x∈es,x.1.length=n
def mapKV (T:TT) (t:Nat):Option Nat:=
 match tget T t with
 | some i=>(match i.kd with
  | .map k e=>(match tget T k,tget T e with
   | some ki,some ei=>(match ei.kd,ei.zero with
    | .int .i64,[.int .i64 0]=>if flatInt T 4 k && isAggK ki.kd then some ki.size else none
    | _,_=>none)
   | _,_=>none)
  | _=>none)
 | none=>none
def silCall (T:TT) (σ:St) (b:Builtin) (args:List Operand) (tys:List Nat):Option (Prop×FV):=
 match b with
 | .len=>(match args,tys with
  | [x],[t]=>(match tget T t with
   | some i=>(match i.kd with
    | .sl _=>(match lenF (opv σ x) with | some n=>some (True,.int n) | none=>none)
    | .str=>(match opv σ x with | .d (.v (.string s))=>some (True,.int s.size) | _=>none)
    | .map _ _=>(match opv σ x with
     | .mr r p=>(match σ.obj r p with | some (.mp es)=>some (True,.int es.length) | _=>none)
     | _=>none)
    | _=>none)
   | none=>none)
  | _,_=>none)
 | .max=>(match args with
  | [x,y]=>(match opv σ x,opv σ y with
   | .d (.v (.int .i64 a)),.d (.v (.int .i64 b))=>some (True,.int (max a b))
   | _,_=>none)
  | _=>none)
 | .min=>(match args with
  | [x,y]=>(match opv σ x,opv σ y with
   | .d (.v (.int .i64 a)),.d (.v (.int .i64 b))=>some (True,.int (min a b))
   | _,_=>none)
  | _=>none)
 | _=>none
def sil (T:TT) (σ:St) (o:Op):Option (Prop×FV):=
 match o with
 | .move x=>some (True,opv σ x)
 | .assign x=>some (True,opv σ x)
 | .pick c a b=>(match opv σ c with
  | .d (.v (.bool t))=>some (True,if t then opv σ a else opv σ b)
  | _=>none)
 | .load t a=>(match loadF T σ t (opv σ a) with | some f=>some (True,f) | none=>none)
 | .nilCheck x=>(match opv σ x with
  | .pt r p off=>some (True,.pt r p off)
  | .sp cs off=>some (True,.sp cs off)
  | .d (.vp cs)=>some (True,.d (.vp cs))
  | _=>none)
 | .fieldAddr t x f=>(match fieldOff T t f with
  | some off=>(match addOff (opv σ x) off with | some g=>some (True,g) | none=>none)
  | none=>none)
 | .field t x f=>(match fieldV T t f (opv σ x) with | some g=>some (True,g) | none=>none)
 | .indexAddr t x i=>indexF T σ t (opv σ x) (opv σ i)
 | .binOp op t x y _=>binF T op t (opv σ x) (opv σ y)
 | .unOp op _ x=>(match op,opv σ x with
  | .neg,.d (.v (.int k n))=>some (True,.d (.v (.int k (k.wrap (0 - n)))))
  | .not,.d (.v (.bool b))=>some (True,.bool (!b))
  | _,_=>none)
 | .convert src dst x=>(match tget T src,tget T dst,opv σ x with
  | some _,some i,.d (.v (.int _ n))=>(match i.kd with
   | .int k=>some (True,.d (.v (.int k (k.wrap n))))
   | _=>none)
  | some j,some i,.al r p 0 n=>(match j.kd,i.kd,σ.obj r p with
   | .sl e,.str,some (.ow 1 N cs)=>(match tget T e,u8s cs with
    | some ei,some xs=>(match ei.kd with
     | .int .u8=>some (n=N,.d (.v (.string (strOfNums xs))))
     | _=>none)
    | _,_=>none)
   | _,_,_=>none)
  | _,_,_=>none)
 | .extract t i=>(match opv σ t with
  | .tu fs=>(match fs[i]? with | some f=>some (True,f) | none=>none)
  | _=>none)
 | .slice t x lo hi mx=>sliceF T σ t (opv σ x) lo hi mx (lo.map (opv σ)) (hi.map (opv σ)) (mx.map (opv σ))
 | .build t parts=>(match buildF T t (parts.toList.map fun x=>(x.1,opv σ x.2)) with | some f=>some (True,f) | none=>none)
 | .entry x=>(match opv σ x with
  | .it _ _ _ _ (some (k,c))=>some (True,.tu [.ag (k.map fun n=>.int n),.int c])
  | _=>none)
 | .lookup t m k ok=>(match mapKV T t,opv σ m,opv σ k,ok with
  | some sz,.mr r p,.ag fs,false=>(match σ.obj r p,keyInts fs with
   | some (.mp es),some key=>if key.length=sz then some (mapLen sz es,.int ((mget key es).getD 0)) else none
   | _,_=>none)
  | _,_,_,_=>none)
 | .call c=>(match c.callee with
  | .builtin b=>silCall T σ b c.args.toList c.argTypes.toList
  | _=>none)
 | .makeFunc fn first caps=>(match fn with
  | .func g=>if first.isEmpty=true then some (True,.cl g (caps.toList.map (opv σ))) else none
  | _=>none)
 | _=>none
def D.quiet:D->Bool
 | .gone=>true
 | d=>d.leaf
def FV.isLeaf:FV->Bool
 | .d x=>x.leaf
 | _=>false
def St.store1 (σ:St) (r:Rn) (p:List Nat) (i:Nat) (f:FV):Option St:=
 match σ.obj r p with
 | some o=>(match o.cells? with
  | some cs=>(match cs[i]? with
   | some old=>
    (match St.absorb (if old.quiet then σ else σ.kill r (p ++ [i])) f r (p ++ [i]) with
    | some (e,σ1)=>(match σ1.obj r p with
     | some o1=>(match o1.cells? with
      | some cs1=>some (σ1.put r p (o1.setCells (cs1.set i e)))
      | none=>none)
     | none=>none)
    | none=>none)
   | none=>none)
  | none=>none)
 | none=>none
def pend:List FV->Nat->(Nat->FV)->(Nat->FV)
 | [],_,e=>e
 | f :: r,t,e=>pend r (t+1) (upd e t f)
def unpend (e:Nat->FV):Nat->Nat->List FV
 | _,0=>[]
 | t,n+1=>e t :: unpend e (t+1) n
def St.storeL (σ:St) (r:Rn) (p:List Nat):Nat->Nat->List FV->Option St
 | _,_,[]=>some σ
 | 0,_,_=>none
 | m+1,off,f :: fs=>
  if fs.all FV.isLeaf then
   (match σ.store1 r p off f with
   | some σ1=>σ1.storeL r p m (off+1) fs
   | none=>none)
  else
   (match St.store1 { σ with env:=pend fs 2000 σ.env } r p off f with
   | some σ1=>σ1.storeL r p m (off+1) (unpend σ1.env 2000 fs.length)
   | none=>none)
def St.root (σ:St) (r:Rn) (d:D):St:={ σ with rts:=fun q=>if q=r then some d else σ.rts q }
def zerosD (z:List Value):Nat->List D
 | 0=>[]
 | n+1=>z.map .v ++ zerosD z n
def goneL:Nat->List D
 | 0=>[]
 | n+1=>.gone :: goneL n
mutual
def noSh:D->Prop
 | .v _=>True
 | .ez=>True
 | .sh ..=>False
 | .vp _=>False
 | .fn ..=>False
 | .ow _ _ cs=>noShL cs
 | .bx cs=>noShL cs
 | .mp _=>True
 | .itr=>False
 | .gone=>True
def noShL:List D->Prop
 | []=>True
 | d :: r=>noSh d/\noShL r
end
def noShR:List RV->Prop
 | []=>True
 | .one d :: r=>noSh d/\noShR r
 | .ag ds :: r=>noShL ds/\noShR r
def D.solid:D->Bool
 | .ow ..=>true
 | .bx _=>true
 | .mp _=>true
 | d=>d.leaf
def solidL:List D->Prop
 | []=>True
 | d :: r=>d.solid=true/\solidL r
def leafL:List D->Prop
 | []=>True
 | d :: r=>d.leaf=true/\leafL r
/- An argument as the callee sees it without leave to write; the roots that are lent. -/
mutual
def viewFV (σ:St):FV->Option (FV×List Rn)
 | .d x=>if x.leaf then some (.d x,[]) else none
 | .sp cs off=>some (.d (.vp (cs.drop off)),[])
 | .al r p lo n=>match σ.obj r p with
  | some (.ow k N cs)=>if lo=0/\n=N then some (.d (.sh k n (shareL cs)),[r]) else some (.d (.sh k n (shareL ((cs.drop (k*lo)).take (k*n)))),[r])
  | _=>none
 | .cu r p n=>match σ.obj r p with
  | some (.ow k _ cs)=>some (.d (.sh k n (shareL (cs.take (k*n)))),[r])
  | _=>none
 | .pt r p off=>match σ.obj r p with
  | some (.bx cs)=>some (.d (.vp (shareL (cs.drop off))),[r])
  | some (.ow _ _ (c :: cs))=>some (.d (.vp (shareL ((c :: cs).drop off))),[r])
  | _=>none
 | .ar r p off n=>match σ.obj r p with
  | some o=>(match o.cells? with | some cs=>some (.d (.sh 1 n (shareL ((cs.drop off).take n))),[r]) | none=>none)
  | none=>none
 | .ag fs=>match viewL σ fs with | some (l,q)=>some (.ag l,q) | none=>none
 | .cl f fs=>match viewL σ fs with | some (l,q)=>some (.cl f l,q) | none=>none
 | .mr _ _=>none
 | .it _ _ _ _ _=>none
 | .tu fs=>match viewL σ fs with | some (l,q)=>some (.tu l,q) | none=>none
 | .fb _ _=>none
 | .dead=>none
def viewL (σ:St):List FV->Option (List FV×List Rn)
 | []=>some ([],[])
 | f :: r=>match viewFV σ f with
  | some (g,q)=>(match viewL σ r with | some (gs,qs)=>some (g :: gs,q ++ qs) | none=>none)
  | none=>none
end
structure Io where
 name:Rn
 r:Rn
 p:List Nat
 d:D
def ioAtom (σ:St) (nm:Rn):FV->Option (FV×List Io)
 | .d x=>if x.leaf then some (.d x,[]) else none
 | .al r p lo n=>match σ.obj r p with
  | some (.ow k N cs)=>if lo=0/\n=N then some (.al nm [] 0 n,[⟨nm,r,p,.ow k N cs⟩]) else none
  | _=>none
 | .pt r p off=>match σ.obj r p with
  | some (.bx cs)=>if off=0 then some (.pt nm [] 0,[⟨nm,r,p,.bx cs⟩]) else none
  | _=>none
 | _=>none
def ioL (σ:St) (i:Nat):Nat->List FV->Option (List FV×List Io)
 | _,[]=>some ([],[])
 | j,f :: r=>match ioAtom σ (i,j) f with
  | some (g,q)=>(match ioL σ i (j+1) r with | some (gs,qs)=>some (g :: gs,q ++ qs) | none=>none)
  | none=>none
def ioFV (σ:St) (i:Nat):FV->Option (FV×List Io)
 | .ag fs=>match ioL σ i 0 fs with | some (l,q)=>some (.ag l,q) | none=>none
 | f=>ioAtom σ (i,0) f
def passL (σ:St):Nat->List Bool->List FV->Option (List FV×List Rn×List Io)
 | _,_,[]=>some ([],[],[])
 | i,ms,f :: r=>
  match passL σ (i+1) ms.tail r with
  | some (gs,lent,ios)=>
   if ms.headD false then (match ioFV σ i f with | some (g,q)=>some (g :: gs,lent,q ++ ios) | none=>none)
   else (match viewFV σ f with | some (g,q)=>some (g :: gs,q ++ lent,ios) | none=>none)
  | none=>none
def putOuts (σ:St):List Io->List D->Option St
 | [],[]=>some σ
 | io :: r,d :: ds=>
  (match io.d,d with
  | .ow k n _,.ow k' n' cs=>if k=k'/\n=n' then putOuts ((σ.killBelow io.r io.p).put io.r io.p (.ow k n cs)) r ds else none
  | .bx cs,.bx cs'=>if cs.length=cs'.length then putOuts ((σ.killBelow io.r io.p).put io.r io.p (.bx cs')) r ds else none
  | _,.gone=>putOuts (((σ.killBelow io.r io.p).kill io.r io.p).put io.r io.p .gone) r ds
  | _,_=>none)
 | _,_=>none
def unpackD (d:Nat) (σ:St) (j:Nat):D->Option (FV×St×Nat)
 | .ow k n cs=>if (σ.rts (d,j)).isNone then some (.al (d,j) [] 0 n,σ.root (d,j) (.ow k n cs),j+1) else none
 | .bx cs=>if (σ.rts (d,j)).isNone then some (.pt (d,j) [] 0,σ.root (d,j) (.bx cs),j+1) else none
 | .mp es=>if (σ.rts (d,j)).isNone then some (.mr (d,j) [],σ.root (d,j) (.mp es),j+1) else none
 | x=>if x.leaf then some (.d x,σ,j) else none
def unpackL (d:Nat):St->Nat->List D->Option (List FV×St×Nat)
 | σ,j,[]=>some ([],σ,j)
 | σ,j,x :: r=>match unpackD d σ j x with
  | some (f,σ1,j1)=>(match unpackL d σ1 j1 r with | some (fs,σ2,j2)=>some (f :: fs,σ2,j2) | none=>none)
  | none=>none
def unpackR (d:Nat):St->Nat->List RV->Option (List FV×St×Nat)
 | σ,j,[]=>some ([],σ,j)
 | σ,j,.one x :: r=>(match unpackD d σ j x with
  | some (f,σ1,j1)=>(match unpackR d σ1 j1 r with | some (fs,σ2,j2)=>some (f :: fs,σ2,j2) | none=>none)
  | none=>none)
 | σ,j,.ag ds :: r=>(match unpackL d σ j ds with
  | some (l,σ1,j1)=>(match unpackR d σ1 j1 r with | some (fs,σ2,j2)=>some (.ag l :: fs,σ2,j2) | none=>none)
  | none=>none)
def resFV:List FV->FV
 | [f]=>f
 | fs=>.tu fs
inductive Plan where
 | done
 | take (i:Nat) (p:Plan)
 | all (ps:List (Nat×Plan))
structure Ctx where
 P:Program
 T:TT
 M:List (Nat×List Bool)
 nW:Nat
 kp:List (Nat×List Nat)
 lp:List (Nat×List Nat)
 pl:List (Nat×Plan)
 fb:List Nat:=[]
def aget {α:Type} (d:α):List (Nat×α)->Nat->α
 | [],_=>d
 | (i,x) :: r,t=>if i=t then x else aget d r t
def callTo (C:Ctx) (f:Nat) (fvs:List FV) (dst:Option Nat) (σ:St) (K:St->Prop):Prop:=
 match passL σ 0 (aget [] C.M f) fvs with
 | some (args,lent,ios)=>
  ((ios.map (·.r)).Nodup/\(ios.map (·.name)).Nodup)/\(∀ r∈ios.map (·.r),r ∉ lent) /\
  ∃ pure Q,ACalls C.P f args (ios.map fun io=>(io.name,io.d)) pure Q/\(pure=true\/lent=[]) /\
   ∀ outs res,Q outs res->match putOuts σ ios outs with
    | some σ1=>(match dst with
     | some d=>(match unpackR d σ1 0 res with
      | some (fs,σ2,_)=>K { σ2 with env:=upd σ2.env d (resFV fs) }
      | none=>False)
     | none=>K σ1)
    | none=>False
 | none=>False
def takeCells (k n N:Nat) (cs:List D):List D:=if n=N then cs else cs.take (k*n)
def appSrc (σ:St) (k:Nat):FV->Option (Nat×List D×St)
 | .d (.v (.slice none 0 0))=>some (0,[],σ)
 | .d .ez=>some (0,[],σ)
 | .al r p 0 n=>match σ.obj r p with
  | some (.ow k' N cs)=>if k'=k then some (n,takeCells k n N cs,(σ.take r p).kill r p) else none
  | _=>none
 | _=>none
def FV.rootIs (f:FV) (r:Rn):Bool:=match f with | .al q _ _ _=>q == r | _=>false
def appNew (σ:St) (k:Nat):FV->Option (Nat×List D×Option Rn)
 | .d (.v (.slice none 0 0))=>some (0,[],none)
 | .d .ez=>some (0,[],none)
 | .d (.sh k' n cs)=>if k'=k then some (n,cs,none) else none
 | .al r p lo n=>match σ.obj r p with
  | some (.ow k' N cs)=>if k'=k then (if lo=0/\n=N/\p=[] then some (n,cs,some r) else some (n,(cs.drop (k*lo)).take (k*n),none)) else none
  | _=>none
 | .ar r p off n=>match σ.obj r p with
  | some o=>(match o.cells? with | some cs=>if k=1 then some (n,(cs.drop off).take n,none) else none | none=>none)
  | none=>none
 | _=>none
mutual
def FV.hasIt:FV->Bool
 | .it _ _ _ _ _=>true
 | .ag fs=>FV.hasItL fs
 | .tu fs=>FV.hasItL fs
 | .cl _ fs=>FV.hasItL fs
 | .fb fs _=>FV.hasItL fs
 | .al ..=>false
 | .cu ..=>false
 | .pt ..=>false
 | .ar ..=>false
 | .mr ..=>false
 | .d _=>false
 | .sp _ _=>false
 | .dead=>false
def FV.hasItL:List FV->Bool
 | []=>false
 | f :: r=>f.hasIt || FV.hasItL r
end
def St.dropIt (σ:St):St:=
 { σ with env:=fun t=>if (σ.env t).hasIt then .dead else σ.env t }
def FV.notIt (r:Rn) (f:FV):FV:=if f.hasIt then (match f with | .it q m p l c=>if q=r then .dead else .it q m p l c | _=>.dead) else f
def St.setIt (σ:St) (r:Rn) (t:Nat) (f:FV):St:=
 { σ with env:=fun s=>if s=t then f else (σ.env s).notIt r }
def silK (C:Ctx) (o:Oper) (σ:St) (K:St->Prop):Prop:=
 match sil C.T σ o.op with
 | some (c,f)=>c/\K (σ.set o.dst f)
 | none=>False
def AAlloc (C:Ctx) (dst:Option Nat) (t:Nat) (σ:St) (K:St->Prop):Prop:=
 match dst,tget C.T t with
 | some d,some i=>σ.rts (d,0)=none/\K { (σ.root (d,0) (.bx (i.zero.map .v))) with env:=upd σ.env d (.pt (d,0) [] 0) }
 | _,_=>False
def ABox (C:Ctx) (dst:Option Nat) (t:Nat) (f:FV) (σ:St) (K:St->Prop):Prop:=
 match dst,tget C.T t with
 | some d,some i=>σ.rts (d,0)=none/\f.whole=true/\f.atoms.length=i.size /\
   (match (σ.root (d,0) (.bx (goneL i.size))).storeL (d,0) [] i.size 0 f.atoms with
   | some σ1=>K { σ1 with env:=upd σ1.env d (.pt (d,0) [] 0) }
   | none=>False)
 | _,_=>False
def AFb (C:Ctx) (dst:Option Nat) (t:Nat) (f:FV) (σ:St) (K:St->Prop):Prop:=
 match dst,tget C.T t with
 | some d,some _=>f.whole=true/\K { σ with env:=upd σ.env d (.fb f.atoms 0) }
 | _,_=>False
def fbB (C:Ctx) (dst:Option Nat):Bool:=match dst with | some d=>C.fb.contains d | none=>false
def ABuildSlice (C:Ctx) (dst:Option Nat) (t len:Nat) (parts:List (Nat×FV)) (σ:St) (K:St->Prop):Prop:=
 match dst,tget C.T t with
 | some d,some ti=>(match ti.kd with
  | .sl e=>(match tget C.T e with
   | some i=>σ.rts (d,0)=none/\len*i.size<=16777216 /\
    (match fillF (fun j=>some (j*i.size,i.size)) ((zerosD i.zero len).map .d) parts with
    | some l=>(match (σ.root (d,0) (.ow i.size len (goneL (len*i.size)))).storeL (d,0) [] (len*i.size) 0 l with
     | some σ1=>K { σ1 with env:=upd σ1.env d (.al (d,0) [] 0 len) }
     | none=>False)
    | none=>False)
   | none=>False)
  | _=>False)
 | _,_=>False
def leafFs:List FV->Option (List D)
 | []=>some []
 | .d x :: r=>if x.leaf then (match leafFs r with | some l=>some (x :: l) | none=>none) else none
 | _ :: _=>none
def AFz (C:Ctx) (dst:Option Nat) (t len:Nat) (parts:List (Nat×FV)) (σ:St) (K:St->Prop):Prop:=
 match dst,tget C.T t with
 | some d,some ti=>(match ti.kd with
  | .sl e=>(match tget C.T e with
   | some i=>len*i.size<=16777216 /\
    (match fillF (fun j=>some (j*i.size,i.size)) ((zerosD i.zero len).map .d) parts with
    | some l=>(match leafFs l with
     | some cs=>cs.length=i.size*len/\K { σ with env:=upd σ.env d (.d (.sh i.size len cs)) }
     | none=>False)
    | none=>False)
   | none=>False)
  | _=>False)
 | _,_=>False
def ACut (dst:Option Nat) (f:FV) (σ:St) (K:St->Prop):Prop:=
 match dst,f with
 | some d,.cu r [] n=>(match σ.rts r with
  | some (.ow k N cs)=>(((σ.take r []).kill r []).rts (d,0)=none/\n<=N)/\K { (((σ.take r []).kill r []).root (d,0) (.ow k n (cs.take (k*n)))) with env:=upd ((σ.take r []).kill r []).env d (.al (d,0) [] 0 n) }
  | _=>False)
 | some d,.al r [] 0 n=>(match σ.rts r with
  | some (.ow k N cs)=>(((σ.take r []).kill r []).rts (d,0)=none/\n<=N)/\K { (((σ.take r []).kill r []).root (d,0) (.ow k n (cs.take (k*n)))) with env:=upd ((σ.take r []).kill r []).env d (.al (d,0) [] 0 n) }
  | _=>False)
 | _,_=>False
def ASlice (C:Ctx) (o:Oper) (σ:St) (K:St->Prop):Prop:=
 match sil C.T σ o.op with
 | some (c,f)=>c/\ACut o.dst f σ K
 | none=>False
def AFrS (C:Ctx) (dst:Option Nat) (x:Operand) (σ:St) (K:St->Prop):Prop:=
 match dst,x,opv σ x with
 | some d,.tmp s,.al r [] 0 n=>(match σ.rts r with
  | some (.ow k N cs)=>(C.nW=0/\n=N)/\K { ((σ.take r []).kill r []) with env:=upd (upd ((σ.take r []).kill r []).env s (.d (.sh k n (shareL cs)))) d (.d (.sh k n (shareL cs))) }
  | _=>False)
 | some d,.tmp s,.tu fs=>(match viewL σ fs with
  | some (gs,[r])=>(match σ.rts r with
   | some (.ow _ _ _)=>C.nW=0/\K { ((σ.take r []).kill r []) with env:=upd (upd ((σ.take r []).kill r []).env s (.tu gs)) d (.tu gs) }
   | _=>False)
  | _=>False)
 | _,_,_=>False
def AMake (C:Ctx) (dst:Option Nat) (t:Nat) (l c:FV) (σ:St) (K:St->Prop):Prop:=
 match dst,tget C.T t,l,c with
 | some d,some ti,.d (.v (.int .i64 x)),.d (.v (.int .i64 y))=>(match ti.kd with
  | .sl e=>(match tget C.T e with
   | some i=>σ.rts (d,0)=none/\(0<=x/\x<=y/\i.bytes*y<=281474976710656/\y<=281474976710656) /\
     K { (σ.root (d,0) (.ow i.size x.toNat (zerosD i.zero x.toNat))) with env:=upd σ.env d (.al (d,0) [] 0 x.toNat) }
   | none=>False)
  | _=>False)
 | _,_,_,_=>False
def AStore (C:Ctx) (dst:Option Nat) (t:Nat) (a f:FV) (σ:St) (K:St->Prop):Prop:=
 match tget C.T t,a with
 | some i,.pt r p off=>f.whole=true/\f.atoms.length=i.size /\
   (match σ.storeL r p i.size off f.atoms with | some σ1=>K (σ1.set dst .dead) | none=>False)
 | _,_=>False
def okAtom:FV->Bool
 | .d x=>x.leaf
 | .al ..=>true
 | .pt ..=>true
 | _=>false
def AFrz (C:Ctx) (dst:Option Nat) (t d:Nat) (f:FV) (σ:St) (K:St->Prop):Prop:=
 match tget C.T t,σ.env d with
 | some i,.pt r [] 0=>(match σ.rts r with
  | some (.bx cs)=>C.nW=0/\f.whole=true/\f.atoms.all okAtom=true/\f.atoms.length=i.size/\cs.length=i.size/\FV.underL r [] f.atoms=false /\
    K ({ ((σ.take r []).kill r []) with env:=upd ((σ.take r []).kill r []).env d (.fb f.atoms 0) }.set dst .dead)
  | _=>False)
 | _,_=>False
def frzB (C:Ctx):Operand->Option Nat
 | .tmp d=>if C.fb.contains d then some d else none
 | _=>none
def AMapUpd (C:Ctx) (dst:Option Nat) (t:Nat) (m k x:FV) (σ:St) (K:St->Prop):Prop:=
 match mapKV C.T t,m,k,x with
 | some sz,.mr r p,.ag fs,.d (.v (.int .i64 c))=>(match σ.obj r p,keyInts fs with
  | some (.mp es),some key=>key.length=sz/\mapLen sz es/\K ((((σ.dropIt).put r p (.mp (mset key c es)))).set dst .dead)
  | _,_=>False)
 | _,_,_,_=>False
def ARange (C:Ctx) (dst:Option Nat) (t:Nat) (m:FV) (σ:St) (K:St->Prop):Prop:=
 match mapKV C.T t,dst,m with
 | some _,some d,.mr r p=>(match σ.obj r p with
  | some (.mp es)=>σ.rts (d,0)=none/\K { (σ.root (d,0) .itr) with env:=upd σ.env d (.it (d,0) r p es none) }
  | _=>False)
 | _,_,_=>False
def ANext (dst:Option Nat) (x:Operand) (s:Bool) (σ:St) (K:St->Prop):Prop:=
 match x,s,dst with
 | .tmp t,false,some d=>(match σ.env t with
  | .it r m p rest _=>d≠t /\
    (rest=[]->K { σ with env:=upd σ.env d (.tu [.bool false]) }) /\
    ∀ i x,rest[i]? = some x->K { (σ.setIt r t (.it r m p (rest.eraseIdx i) (some x))) with env:=upd (σ.setIt r t (.it r m p (rest.eraseIdx i) (some x))).env d (.tu [.bool true,.ag (x.1.map fun n=>.int n),.int x.2]) }
  | _=>False)
 | _,_,_=>False
def AAppend (C:Ctx) (dst:Option Nat) (t t':Nat) (s x:FV) (σ:St) (K:St->Prop):Prop:=
 match dst,tget C.T t,tget C.T t' with
 | some d,some ti,some ti'=>(match ti.kd,ti'.kd with
  | .sl e,.sl _=>(match tget C.T e with
   | some i=>(match appSrc σ i.size s with
    | some (n,cs,σ1)=>(match appNew σ i.size x with
     | some (m,cs2,mv)=>(0 < i.bytes/\0 < i.size)/\σ1.rts (d,0)=none/\(n+m)*i.bytes<=140737488355328 /\
       (leafL cs2->K { (σ1.root (d,0) (.ow i.size (n+m) (cs ++ cs2))) with env:=upd σ1.env d (.al (d,0) [] 0 (n+m)) }) /\
       (¬ leafL cs2->solidL cs2/\match mv with
        | some r2=>(match σ1.rts r2 with
         | some _=>(r2≠(d,0)/\s.rootIs r2=false)/\K { ((((σ1.take r2 []).kill r2 []).root (d,0) (.ow i.size (n+m) (cs ++ cs2)))) with env:=upd ((σ1.take r2 []).kill r2 []).env d (.al (d,0) [] 0 (n+m)) }
         | none=>False)
        | none=>False)
     | none=>False)
    | none=>False)
   | none=>False)
  | _,_=>False)
 | _,_,_=>False
def ACopy (C:Ctx) (dst:Option Nat) (t t':Nat) (s x:FV) (σ:St) (K:St->Prop):Prop:=
 match tget C.T t,tget C.T t',s with
 | some ti,some ti',.ar r p off n=>(match ti.kd,ti'.kd with
  | .sl e,.sl _=>(match tget C.T e,appNew σ 1 x,σ.obj r p with
   | some i,some (m,cs2,_),some ob=>(match ob.cells? with
    | some cs=>i.size=1/\leafL cs2/\leafL cs/\off+n<=cs.length /\
      K ((σ.dropIt.put r p (ob.setCells (cs.take off ++ cs2.take (min m n) ++ cs.drop (off+min m n)))).set dst (.int ((min m n:Nat):Int)))
    | none=>False)
   | _,_,_=>False)
  | _,_=>False)
 | _,_,_=>False
def ADelete (C:Ctx) (dst:Option Nat) (t:Nat) (m k:FV) (σ:St) (K:St->Prop):Prop:=
 match mapKV C.T t,m,k with
 | some sz,.mr r p,.ag fs=>(match σ.obj r p,keyInts fs with
  | some (.mp es),some key=>key.length=sz/\mapLen sz es/\K ((((σ.dropIt).put r p (.mp (mdel key es)))).set dst (.tu []))
  | _,_=>False)
 | _,_,_=>False
def ABuiltin (C:Ctx) (o:Oper) (b:Builtin) (args:List Operand) (tys:List Nat) (σ:St) (K:St->Prop):Prop:=
 match b with
 | .len=>silK C o σ K
 | .max=>silK C o σ K
 | .min=>silK C o σ K
 | .append=>(match args,tys with
  | [s,x],[t,t']=>AAppend C o.dst t t' (opv σ s) (opv σ x) σ K
  | _,_=>False)
 | .copy=>(match args,tys with
  | [s,x],[t,t']=>ACopy C o.dst t t' (opv σ s) (opv σ x) σ K
  | _,_=>False)
 | .delete=>(match args,tys with
  | [m,k],[t,_]=>ADelete C o.dst t (opv σ m) (opv σ k) σ K
  | _,_=>False)
 | _=>False
def nilIs (f:FV) (K:Bool->Prop):Prop:=
 match f with
 | .d (.v (.slice none 0 0))=>K true
 | .d .ez=>∀ b:Bool,K b
 | .al _ _ _ n=>∀ b:Bool,(n≠0->b=false)->K b
 | .d (.sh k n _)=>∀ b:Bool,(n≠0/\k≠0->b=false)->K b
 | _=>False
def isNilC:Operand->Bool
 | .const (.slice none 0 0)=>true
 | _=>false
def ANil (C:Ctx) (dst:Option Nat) (op:BinOp) (t:Nat) (x:FV) (σ:St) (K:St->Prop):Prop:=
 match tget C.T t with
 | some i=>(match i.kd with
  | .sl _=>(match op with
   | .eql=>nilIs x fun b=>K (σ.set dst (.bool b))
   | .neq=>nilIs x fun b=>K (σ.set dst (.bool (!b)))
   | _=>False)
  | _=>False)
 | none=>False
def AOp (C:Ctx) (o:Oper) (σ:St) (K:St->Prop):Prop:=
 match o.op with
 | .move x=>if fbB C o.dst=true then AFrS C o.dst x σ K else silK C o σ K
 | .assign x=>if fbB C o.dst=true then AFrS C o.dst x σ K else silK C o σ K
 | .pick ..=>silK C o σ K
 | .load ..=>silK C o σ K
 | .nilCheck _=>silK C o σ K
 | .fieldAddr ..=>silK C o σ K
 | .field ..=>silK C o σ K
 | .indexAddr ..=>silK C o σ K
 | .unOp ..=>silK C o σ K
 | .convert ..=>silK C o σ K
 | .extract ..=>silK C o σ K
 | .slice ..=>if fbB C o.dst=true then ASlice C o σ K else silK C o σ K
 | .build ..=>silK C o σ K
 | .lookup ..=>silK C o σ K
 | .entry _=>silK C o σ K
 | .binOp op t x y _=>if isNilC y then ANil C o.dst op t (opv σ x) σ K else silK C o σ K
 | .alloc t=>AAlloc C o.dst t σ K
 | .box t x=>if fbB C o.dst=true then AFb C o.dst t (opv σ x) σ K else ABox C o.dst t (opv σ x) σ K
 | .buildSlice t len parts=>if fbB C o.dst=true then AFz C o.dst t len (parts.toList.map fun x=>(x.1,opv σ x.2)) σ K else ABuildSlice C o.dst t len (parts.toList.map fun x=>(x.1,opv σ x.2)) σ K
 | .makeSlice t l c=>AMake C o.dst t (opv σ l) (opv σ c) σ K
 | .makeMap _ r=>(match o.dst,r with
  | some d,none=>σ.rts (d,0)=none/\K { (σ.root (d,0) (.mp [])) with env:=upd σ.env d (.mr (d,0) []) }
  | _,_=>False)
 | .store t a x=>(match frzB C a with
  | some d=>AFrz C o.dst t d (opv σ x) σ K
  | none=>AStore C o.dst t (opv σ a) (opv σ x) σ K)
 | .mapUpdate t m k x=>AMapUpd C o.dst t (opv σ m) (opv σ k) (opv σ x) σ K
 | .range t m=>ARange C o.dst t (opv σ m) σ K
 | .next x s=>ANext o.dst x s σ K
 | .call c=>(match c.callee with
  | .builtin b=>ABuiltin C o b c.args.toList c.argTypes.toList σ K
  | .value f=>(match opv σ f with
   | .d (.fn g caps)=>callTo C g (c.args.toList.map (opv σ) ++ caps.map .d) o.dst σ K
   | .cl g caps=>callTo C g (c.args.toList.map (opv σ) ++ caps) o.dst σ K
   | _=>False)
  | _=>False)
 | .makeFunc ..=>silK C o σ K
 | _=>False
def AOpG (C:Ctx) (ops:Array Oper) (o:Oper) (σ:St) (K:St->Prop):Prop:=
 match o.guard with
 | none=>AOp C o σ K
 | some (j,want)=>(match (ops[j]?).bind (·.dst) with
  | some t=>(match σ.env t with
   | .d (.v (.bool b))=>(b=want->AOp C o σ K)/\(b≠want->K (σ.set o.dst (.tu [])))
   | .tu []=>K (σ.set o.dst (.tu []))
   | _=>False)
  | none=>False)
def AOps (C:Ctx) (ops:Array Oper):List Oper->St->(St->Prop)->Prop
 | [],σ,K=>K σ
 | o :: r,σ,K=>AOpG C ops o σ fun σ'=>AOps C ops r σ' K
mutual
def ARun (C:Ctx) (ops:Array Oper):Plan->St->(St->Prop)->Prop
 | .done,σ,K=>K σ
 | .take i p,σ,K=>(match ops[i]? with
  | some o=>AOpG C ops o σ fun σ'=>ARun C ops p σ' K
  | none=>False)
 | .all ps,σ,K=>ARunL C ops ps σ K
def ARunL (C:Ctx) (ops:Array Oper):List (Nat×Plan)->St->(St->Prop)->Prop
 | [],_,_=>True
 | (i,p) :: r,σ,K=>(match ops[i]? with
  | some o=>AOpG C ops o σ fun σ'=>ARun C ops p σ' K
  | none=>False)/\ARunL C ops r σ K
end
def addNames (t:Nat):Nat->List Rn->List (Rn×Rn)->List (Rn×Rn)
 | _,[],acc=>acc
 | j,r :: rs,acc=>if acc.any (fun x=>x.1 == r) then addNames t j rs acc else addNames t (j+1) rs (acc ++ [(r,(t,j))])
def names (e:Nat->FV):List Nat->List (Rn×Rn)->List (Rn×Rn)
 | [],acc=>acc
 | t :: ks,acc=>names e ks (addNames t 0 (e t).roots acc)
def renR (m:List (Rn×Rn)) (r:Rn):Option Rn:=
 match m with
 | []=>none
 | (o,n) :: l=>if o=r then some n else renR l r
mutual
def FV.ren (m:List (Rn×Rn)):FV->FV
 | .al r p lo n=>match renR m r with | some q=>.al q p lo n | none=>.dead
 | .cu r p n=>match renR m r with | some q=>.cu q p n | none=>.dead
 | .pt r p o=>match renR m r with | some q=>.pt q p o | none=>.dead
 | .ar r p o n=>match renR m r with | some q=>.ar q p o n | none=>.dead
 | .mr r p=>match renR m r with | some q=>.mr q p | none=>.dead
 | .it r s p l c=>match renR m r,renR m s with | some q,some x=>.it q x p l c | _,_=>.dead
 | .ag fs=>.ag (FV.renL m fs)
 | .tu fs=>.tu (FV.renL m fs)
 | .cl f fs=>.cl f (FV.renL m fs)
 | .fb fs o=>.fb (FV.renL m fs) o
 | .d x=>.d x
 | .sp cs o=>.sp cs o
 | .dead=>.dead
def FV.renL (m:List (Rn×Rn)):List FV->List FV
 | []=>[]
 | f :: r=>f.ren m :: FV.renL m r
end
def ofRO:List (Rn×Option D)->Rn->Option D
 | [],_=>none
 | (i,f) :: r,t=>if i=t then f else ofRO r t
def watchers:Nat->List Nat
 | 0=>[]
 | n+1=>watchers n ++ [1000+n]
def normWith (m:List (Rn×Rn)) (ks:List Nat) (σ:St):St:=
 ⟨ofL (ks.map fun t=>(t,(σ.env t).ren m)),ofRO (m.map fun x=>(x.2,σ.rts x.1))⟩
def norm (C:Ctx) (ks:List Nat) (σ:St):St:=
 normWith (names σ.env (ks ++ watchers C.nW) []) (ks ++ watchers C.nW) σ
inductive AEx where
 | normal
 | exit (id:Nat)
 | ret
def AEx.seq (K:St->Prop) (Q:AEx->St->Prop):AEx->St->Prop
 | .normal,σ=>K σ
 | e,σ=>Q e σ
def AEx.block (id:Nat) (Q:AEx->St->Prop):AEx->St->Prop
 | .exit j,σ=>if j=id then Q .normal σ else Q (.exit j) σ
 | e,σ=>Q e σ
def silB:Op->Bool
 | .move _=>true
 | .assign _=>true
 | .pick ..=>true
 | .load ..=>true
 | .nilCheck _=>true
 | .fieldAddr ..=>true
 | .field ..=>true
 | .indexAddr ..=>true
 | .binOp _ _ _ y _=>!isNilC y
 | .unOp ..=>true
 | .convert ..=>true
 | .extract ..=>true
 | .slice ..=>true
 | .build ..=>true
 | .lookup ..=>true
 | .call c=>(match c.callee with
  | .builtin b=>(match b with | .len=>true | .max=>true | .min=>true | _=>false)
  | _=>false)
 | _=>false
def readsB:Op->Bool
 | .load ..=>true
 | .convert ..=>true
 | .entry _=>true
 | .lookup ..=>true
 | .call c=>(match c.callee with
  | .builtin b=>(match b with | .len=>true | _=>false)
  | _=>false)
 | _=>false
def keepsB (M:List (Nat×List Bool)):Op->Bool
 | .alloc _=>true
 | .box ..=>true
 | .buildSlice ..=>true
 | .makeSlice ..=>true
 | .makeMap ..=>true
 | .call c=>(match c.callee with
  | .value f=>(match f with | .func g=>!(aget [] M g).any id | _=>false)
  | .builtin b=>(match b with | .len=>true | .max=>true | .min=>true | _=>false)
  | _=>false)
 | op=>silB op
def bindsB (e:Edge):Bool:=Region.binds .any e
def waitsB (ops:Array Oper) (i:Nat):Nat->Nat->Bool
 | 0,_=>false
 | n+1,j=>match ops[j]? with
  | some oj=>(oj.after.any fun e=>bindsB e && e.on == i) || (oj.after.any fun e=>bindsB e && (decide (i < e.on) && waitsB ops i n e.on))
  | none=>false
def freeB (M:List (Nat×List Bool)) (ops:Array Oper) (listed:Array Bool) (i:Nat):Bool:=
 match ops[i]? with
 | some oi=>silB oi.op && (List.range ops.size).all fun j=>j == i || listed.getD j true || (match ops[j]? with
  | some oj=>(oi.apart ops oj && (!readsB oi.op || keepsB M oj.op)) || waitsB ops i ops.size j
  | none=>true)
 | none=>false
mutual
def planB (M:List (Nat×List Bool)) (ops:Array Oper):Plan->Array Bool->Bool
 | .done,listed=>(Region.ready .any ops listed).isEmpty
 | .take i p,listed=>(Region.ready .any ops listed).contains i && freeB M ops listed i && planB M ops p (listed.setIfInBounds i true)
 | .all ps,listed=>(Region.ready .any ops listed == ps.map (·.1)) && !ps.isEmpty && planBL M ops ps listed
def planBL (M:List (Nat×List Bool)) (ops:Array Oper):List (Nat×Plan)->Array Bool->Bool
 | [],_=>true
 | (i,p) :: r,listed=>planB M ops p (listed.setIfInBounds i true) && planBL M ops r listed
end
def Plan.ok (C:Ctx) (ops:Array Oper) (p:Plan):Prop:=
 planB C.M ops p (Array.replicate ops.size false)=true/\Region.noSelect ops=true
inductive Wk where
 | tmp (t k:Nat)
 | cell (r:Rn) (p:List Nat) (i k:Nat)
 | drop (t:Nat)
def isNil0:D->Bool
 | .v (.slice none 0 0)=>true
 | .ez=>true
 | _=>false
def wk1 (σ:St):Wk->Option St
 | .tmp t k=>match σ.env t with
  | .d x=>if isNil0 x=true/\(σ.rts (t,0)).isNone=true then some { (σ.root (t,0) (.ow k 0 [])) with env:=upd σ.env t (.al (t,0) [] 0 0) } else none
  | _=>none
 | .cell r p i k=>match σ.obj r p with
  | some o=>(match o.cells? with
   | some cs=>(match cs[i]? with
    | some x=>if isNil0 x=true/\(σ.rts (9999,0)).isNone=true then (match (σ.root (9999,0) (.ow k 0 [])).store1 r p i (.al (9999,0) [] 0 0) with | some τ=>some { τ with env:=σ.env } | none=>none) else none
    | none=>none)
   | none=>none)
  | none=>none
 | .drop t=>some { σ with env:=upd σ.env t .dead }
def wkAll:List Wk->St->Option St
 | [],σ=>some σ
 | x :: l,σ=>match wk1 σ x with
  | some σ1=>wkAll l σ1
  | none=>none
def AWp (C:Ctx):Code->Nat->(AEx->St->Prop)->St->Prop
 | .skip,_,Q,σ=>Q .normal σ
 | .region id ops draw,_,Q,σ=>
  if draw then ∃ p:Plan,p.ok C ops/\ARun C ops p σ fun σ'=>Q .normal (norm C (aget [] C.kp id) σ')
  else AOps C ops ops.toList σ fun σ'=>Q .normal (norm C (aget [] C.kp id) σ')
 | .seq a b,i,Q,σ=>AWp C a i (AEx.seq (AWp C b i Q) Q) σ
 | .cond c a b,i,Q,σ=>∃ t:Bool,opv σ c = .d (.v (.bool t))/\(t=true->AWp C a i Q σ)/\(t=false->AWp C b i Q σ)
 | .block id c,_,Q,σ=>AWp C c id (AEx.block id Q) σ
 | .loop c,i,Q,σ=>∃ (I:St->Prop) (μ:St->Nat),(∃ l σ0,wkAll l (norm C (aget [] C.lp i) σ)=some σ0/\I σ0) /\
   ∀ σ,I σ->AWp C c i (AEx.seq (fun σ'=>∃ l σ1,wkAll l (norm C (aget [] C.lp i) σ')=some σ1/\I σ1/\μ σ1 < μ σ) Q) σ
 | .exit id,_,Q,σ=>Q (.exit id) σ
 | .ret,_,Q,σ=>Q .ret σ
 | _,_,_,_=>False
end Go.Proofs.Ytncfmemhjahpeaa.Ab
namespace Go.Proofs.Ytncfmemhjahpeaa.Ab
open Go
theorem cell_eq {w w':World} {b o:Nat} (h:w'.heap[b]? = w.heap[b]?):w'.cell? ⟨b,o,none⟩ = w.cell? ⟨b,o,none⟩:=World.cell?_of_block h
section mono
variable {w w':World} {ok ok':Nat->Prop} (hk:∀ b,ok b->ok' b/\w'.heap[b]? = w.heap[b]?)
include hk
mutual
theorem Sh_mono:∀ (d:D) (u:Value),Sh w ok d u->Sh w' ok' d u
 | .v _,_,h=>by simpa [Sh] using h
 | .ez,_,h=>by simpa [Sh] using h
 | .sh k n cs,u,h=>by
  simp only [Sh] at h ⊢
  obtain ⟨a,c,e,h1,h2,h3⟩:=h
  refine ⟨a,c,e,h1,h2,?_⟩
  rcases h3 with h3 | ⟨b,o,e2,h4,h5⟩
  ·exact .inl h3
  ·exact .inr ⟨b,o,e2,(hk b h4).1,ShL_mono b h4 cs o h5⟩
 | .vp cs,u,h=>by
  simp only [Sh] at h ⊢
  obtain ⟨b,o,e,h4,h5⟩:=h
  exact ⟨b,o,e,(hk b h4).1,ShL_mono b h4 cs o h5⟩
 | .fn f caps,u,h=>by
  simp only [Sh] at h ⊢
  obtain ⟨vs,e,h5⟩:=h
  exact ⟨vs,e,ShV_mono caps vs.toList h5⟩
 | .ow ..,_,h=>by simp [Sh] at h
 | .bx _,_,h=>by simp [Sh] at h
 | .mp _,_,h=>by simp [Sh] at h
 | .itr,_,h=>by simp [Sh] at h
 | .gone,_,h=>by simp [Sh]
theorem ShL_mono (b:Nat) (hb:ok b):∀ (cs:List D) (o:Nat),ShL w ok b cs o->ShL w' ok' b cs o
 | [],_,_=>by simp [ShL]
 | d :: ds,o,h=>by
  simp only [ShL] at h ⊢
  obtain ⟨⟨u,h1,h2⟩,h3⟩:=h
  exact ⟨⟨u,by rw [cell_eq (hk b hb).2];exact h1,Sh_mono d u h2⟩,ShL_mono b hb ds (o+1) h3⟩
theorem ShV_mono:∀ (cs:List D) (vs:List Value),ShV w ok cs vs->ShV w' ok' cs vs
 | [],vs,h=>by simpa [ShV] using h
 | d :: ds,vs,h=>by
  simp only [ShV] at h ⊢
  obtain ⟨u,us,e,h1,h2⟩:=h
  exact ⟨u,us,e,Sh_mono d u h1,ShV_mono ds us h2⟩
end
mutual
theorem Ow_mono:∀ (d:D) (u:Value) (fp:List Nat),(∀ b∈fp,w'.heap[b]? = w.heap[b]?)->Ow w ok d u fp->Ow w' ok' d u fp
 | .v _,_,_,_,h=>by simpa [Ow] using h
 | .ez,_,_,_,h=>by simpa [Ow,Sh] using h
 | .sh k n cs,u,_,_,h=>by
  simp only [Ow] at h ⊢
  exact ⟨h.1,Sh_mono hk _ _ h.2⟩
 | .vp cs,u,_,_,h=>by
  simp only [Ow] at h ⊢
  exact ⟨h.1,Sh_mono hk _ _ h.2⟩
 | .fn f caps,u,_,_,h=>by
  simp only [Ow] at h ⊢
  exact ⟨h.1,Sh_mono hk _ _ h.2⟩
 | .ow k n cs,u,fp,hf,h=>by
  simp only [Ow] at h ⊢
  rcases h with h | ⟨b,o,c,arr,T,fp',e,e2,h1,h2,h3,h4,h5⟩
  ·exact .inl h
  ·subst e2
   exact .inr ⟨b,o,c,arr,T,fp',e,rfl,by rw [hf b (by simp)];exact h1,h2,h3,h4,OwL_mono b cs o (fun j _=>cell_eq (hf b (by simp))) fp' (fun x hx=>hf x (by simp [hx])) h5⟩
 | .bx cs,u,fp,hf,h=>by
  simp only [Ow] at h ⊢
  obtain ⟨b,arr,T,fp',e,e2,h1,h2,h5⟩:=h
  subst e2
  exact ⟨b,arr,T,fp',e,rfl,by rw [hf b (by simp)];exact h1,h2,OwL_mono b cs 0 (fun j _=>cell_eq (hf b (by simp))) fp' (fun x hx=>hf x (by simp [hx])) h5⟩
 | .mp es,u,fp,hf,h=>by
  simp only [Ow] at h ⊢
  obtain ⟨m,en,cl,e,e2,h1⟩:=h
  subst e2
  exact ⟨m,en,cl,e,rfl,⟨by rw [hf m (by simp)];exact h1.at_,h1.kv,h1.born,h1.uniq,h1.keys⟩⟩
 | .itr,u,fp,hf,h=>by
  simp only [Ow] at h ⊢
  obtain ⟨b,m,s,x,l,e,e2,h1⟩:=h
  subst e2
  exact ⟨b,m,s,x,l,e,rfl,by rw [hf b (by simp)];exact h1⟩
 | .gone,_,_,_,h=>by simpa [Ow] using h
theorem OwL_mono (b:Nat):∀ (cs:List D) (o:Nat),(∀ j,j < cs.length->w'.cell? ⟨b,o+j,none⟩ = w.cell? ⟨b,o+j,none⟩)->∀ (fp:List Nat),(∀ b∈fp,w'.heap[b]? = w.heap[b]?)->OwL w ok b cs o fp->OwL w' ok' b cs o fp
 | [],_,_,_,_,h=>by simpa [OwL] using h
 | d :: ds,o,hc,fp,hf,h=>by
  simp only [OwL] at h ⊢
  obtain ⟨u,f1,f2,h1,e,h2,h3⟩:=h
  subst e
  refine ⟨u,f1,f2,?_,rfl,Ow_mono d u f1 (fun x hx=>hf x (by simp [hx])) h2,OwL_mono b ds (o+1) (fun j hj=>?_) f2 (fun x hx=>hf x (by simp [hx])) h3⟩
  ·have:=hc 0 (by simp)
   simp only [Nat.add_zero] at this
   rw [this];exact h1
  ·have:=hc (j+1) (by simp;omega)
   rw [show o+1+j=o+(j+1) by omega];exact this
end
end mono
section nosh
variable {w:World} {ok ok':Nat->Prop}
mutual
theorem Ow_nosh:∀ (d:D) (u:Value) (fp:List Nat),noSh d->Ow w ok d u fp->Ow w ok' d u fp
 | .v _,_,_,_,h=>by simpa [Ow] using h
 | .ez,_,_,_,h=>by simpa [Ow,Sh] using h
 | .sh ..,_,_,hn,_=>by simp [noSh] at hn
 | .vp _,_,_,hn,_=>by simp [noSh] at hn
 | .fn ..,_,_,hn,_=>by simp [noSh] at hn
 | .ow k n cs,u,fp,hn,h=>by
  simp only [Ow] at h ⊢
  rcases h with h | ⟨b,o,c,arr,T,fp',e,e2,h1,h2,h3,h4,h5⟩
  ·exact .inl h
  ·exact .inr ⟨b,o,c,arr,T,fp',e,e2,h1,h2,h3,h4,OwL_nosh b cs o fp' (by simpa [noSh] using hn) h5⟩
 | .bx cs,u,fp,hn,h=>by
  simp only [Ow] at h ⊢
  obtain ⟨b,arr,T,fp',e,e2,h1,h2,h5⟩:=h
  exact ⟨b,arr,T,fp',e,e2,h1,h2,OwL_nosh b cs 0 fp' (by simpa [noSh] using hn) h5⟩
 | .mp es,u,fp,_,h=>by simpa only [Ow] using h
 | .itr,u,fp,_,h=>by simpa only [Ow] using h
 | .gone,_,_,_,h=>by simpa [Ow] using h
theorem OwL_nosh (b:Nat):∀ (cs:List D) (o:Nat) (fp:List Nat),noShL cs->OwL w ok b cs o fp->OwL w ok' b cs o fp
 | [],_,_,_,h=>by simpa [OwL] using h
 | d :: ds,o,fp,hn,h=>by
  simp only [OwL] at h ⊢
  simp only [noShL] at hn
  obtain ⟨u,f1,f2,h1,e,h2,h3⟩:=h
  exact ⟨u,f1,f2,h1,e,Ow_nosh d u f1 hn.1 h2,OwL_nosh b ds (o+1) f2 hn.2 h3⟩
end
end nosh
theorem length_shareL:∀ cs:List D,(shareL cs).length=cs.length
 | []=>rfl
 | d :: ds=>by simp [shareL,length_shareL ds]
section share
variable {w:World} {ok ok':Nat->Prop} (hk:∀ b,ok b->ok' b)
include hk
mutual
theorem Sh_share:∀ (d:D) (u:Value) (fp:List Nat),(∀ b∈fp,ok' b)->Ow w ok d u fp->Sh w ok' (share d) u
 | .v _,_,_,_,h=>by simpa [share,Sh,Ow] using And.right (by simpa [Ow] using h)
 | .ez,_,_,_,h=>by have:=h;simp only [Ow,Sh] at this;simpa [share,Sh] using this.2
 | .sh k n cs,u,_,_,h=>by
  simp only [Ow] at h
  simp only [share]
  exact Sh_mono (fun b hb=>⟨hk b hb,rfl⟩) _ _ h.2
 | .vp cs,u,_,_,h=>by
  simp only [Ow] at h
  simp only [share]
  exact Sh_mono (fun b hb=>⟨hk b hb,rfl⟩) _ _ h.2
 | .fn f caps,u,_,_,h=>by
  simp only [Ow] at h
  simp only [share]
  exact Sh_mono (fun b hb=>⟨hk b hb,rfl⟩) _ _ h.2
 | .ow k n cs,u,fp,hf,h=>by
  simp only [Ow] at h
  simp only [share,Sh]
  rcases h with ⟨h1,h2,h3,a,h4⟩ | ⟨b,o,c,arr,T,fp',e,e2,h1,h2,h3,h4,h5⟩
  ·subst h1;subst h2
   exact ⟨a,0,h4,Nat.le_refl _,by simp [shareL],.inl rfl⟩
  ·subst e2
   refine ⟨_,c,e,h2.1,by rw [length_shareL];exact h4,.inr ⟨b,o,rfl,hf b (by simp),ShL_share b cs o fp' (fun x hx=>hf x (by simp [hx])) h5⟩⟩
 | .bx cs,u,fp,hf,h=>by
  simp only [Ow] at h
  simp only [share,Sh]
  obtain ⟨b,arr,T,fp',e,e2,h1,h2,h5⟩:=h
  subst e2
  exact ⟨b,0,e,hf b (by simp),ShL_share b cs 0 fp' (fun x hx=>hf x (by simp [hx])) h5⟩
 | .mp es,u,fp,_,h=>by simp [share,Sh]
 | .itr,u,fp,_,h=>by simp [share,Sh]
 | .gone,_,_,_,h=>by simp [share,Sh]
theorem ShL_share (b:Nat):∀ (cs:List D) (o:Nat) (fp:List Nat),(∀ b∈fp,ok' b)->OwL w ok b cs o fp->ShL w ok' b (shareL cs) o
 | [],_,_,_,_=>by simp [shareL,ShL]
 | d :: ds,o,fp,hf,h=>by
  simp only [OwL] at h
  simp only [shareL,ShL]
  obtain ⟨u,f1,f2,h1,e,h2,h3⟩:=h
  subst e
  exact ⟨⟨u,h1,Sh_share d u f1 (fun x hx=>hf x (by simp [hx])) h2⟩,ShL_share b ds (o+1) f2 (fun x hx=>hf x (by simp [hx])) h3⟩
end
end share
theorem ShL_get {w:World} {ok:Nat->Prop} {b:Nat}:∀ {cs:List D} {o i:Nat} {d:D},ShL w ok b cs o->cs[i]? = some d->∃ u,w.cell? ⟨b,o+i,none⟩ = some u/\Sh w ok d u
 | [],_,_,_,_,h=>by simp at h
 | c :: cs,o,0,d,h,e=>by
  simp only [ShL] at h
  simp only [List.getElem?_cons_zero,Option.some.injEq] at e
  subst e
  simpa using h.1
 | c :: cs,o,i+1,d,h,e=>by
  simp only [ShL] at h
  simp only [List.getElem?_cons_succ] at e
  have:=ShL_get h.2 e
  rwa [show o+1+i=o+(i+1) by omega] at this
theorem ShL_drop {w:World} {ok:Nat->Prop} {b:Nat}:∀ {cs:List D} {o:Nat} (i:Nat),ShL w ok b cs o->ShL w ok b (cs.drop i) (o+i)
 | cs,o,0,h=>by simpa using h
 | [],o,i+1,h=>by simp [ShL]
 | c :: cs,o,i+1,h=>by
  simp only [ShL] at h
  have:=ShL_drop i h.2
  rw [show o+(i+1)=o+1+i by omega]
  simpa using this
theorem ShL_take {w:World} {ok:Nat->Prop} {b:Nat}:∀ {cs:List D} {o:Nat} (i:Nat),ShL w ok b cs o->ShL w ok b (cs.take i) o
 | cs,o,0,h=>by simp [ShL]
 | [],o,i+1,h=>by simp [ShL]
 | c :: cs,o,i+1,h=>by
  simp only [ShL] at h
  simp only [List.take_succ_cons,ShL]
  exact ⟨h.1,ShL_take i h.2⟩
theorem OwL_split {w:World} {ok:Nat->Prop} {b:Nat}:∀ {cs:List D} {o i:Nat} {x:D} {fp:List Nat},OwL w ok b cs o fp->cs[i]? = some x ->
  ∃ v f1 fx f2,fp=f1 ++ fx ++ f2/\w.cell? ⟨b,o+i,none⟩ = some v/\Ow w ok x v fx /\
   ∀ (w':World) (ok':Nat->Prop) (x':D) (v':Value) (fx':List Nat),(∀ b,ok b->ok' b/\w'.heap[b]? = w.heap[b]?)->w'.cell? ⟨b,o+i,none⟩ = some v'->Ow w' ok' x' v' fx' ->
    (∀ j,j < cs.length->j≠i->w'.cell? ⟨b,o+j,none⟩ = w.cell? ⟨b,o+j,none⟩)->(∀ q,q∈f1\/q∈f2->w'.heap[q]? = w.heap[q]?) ->
    OwL w' ok' b (cs.set i x') o (f1 ++ fx' ++ f2)
 | [],_,_,_,_,_,e=>by simp at e
 | c :: cs,o,0,x,fp,h,e=>by
  simp only [OwL] at h
  obtain ⟨u,g1,g2,h1,e1,h2,h3⟩:=h
  simp only [List.getElem?_cons_zero,Option.some.injEq] at e
  subst e
  refine ⟨u,[],g1,g2,by simpa using e1,by simpa using h1,h2,fun w' ok' x' v' fx' hk hc hx ho hf=>?_⟩
  simp only [List.set_cons_zero,OwL,List.nil_append]
  refine ⟨v',fx',g2,by simpa using hc,rfl,hx,OwL_mono hk b cs (o+1) (fun j hj=>?_) g2 (fun q hq=>hf q (.inr hq)) h3⟩
  have:=ho (j+1) (by simp;omega) (by omega)
  rwa [show o+1+j=o+(j+1) by omega]
 | c :: cs,o,i+1,x,fp,h,e=>by
  simp only [OwL] at h
  obtain ⟨u,g1,g2,h1,e1,h2,h3⟩:=h
  simp only [List.getElem?_cons_succ] at e
  obtain ⟨v,f1,fx,f2,e2,h4,h5,h6⟩:=OwL_split h3 e
  subst e1;subst e2
  refine ⟨v,g1 ++ f1,fx,f2,by simp,by rw [show o+(i+1)=o+1+i by omega];exact h4,h5,fun w' ok' x' v' fx' hk hc hx ho hf=>?_⟩
  simp only [List.set_cons_succ,OwL]
  refine ⟨u,g1,f1 ++ fx' ++ f2,?_,by simp,Ow_mono hk c u g1 (fun q hq=>hf q (.inl (by simp [hq]))) h2,h6 w' ok' x' v' fx' hk (by rw [show o+1+i=o+(i+1) by omega];exact hc) hx (fun j hj hne=>?_) (fun q hq=>hf q (by rcases hq with hq | hq <;> simp [hq]))⟩
  ·have:=ho 0 (by simp) (by omega)
   simp only [Nat.add_zero] at this
   rw [this];exact h1
  ·have:=ho (j+1) (by simp;omega) (by omega)
   rwa [show o+1+j=o+(j+1) by omega]
theorem Ow_cells {w:World} {ok:Nat->Prop} {d:D} {u:Value} {fp:List Nat} {cs:List D} (h:Ow w ok d u fp) (e:d.cells? = some cs) (hne:cs≠[]) :
  ∃ b o fp',baseOf u=some (b,o)/\fp=b :: fp'/\OwL w ok b cs o fp'/\(∃ arr T,w.heap[b]? = some (.cells arr T (0,0))/\o+cs.length<=arr.size) /\
   ∀ (w':World) (ok':Nat->Prop) (cs':List D) (fp'':List Nat),cs'.length=cs.length->(∃ arr' T,w'.heap[b]? = some (.cells arr' T (0,0))/\∃ arr T',w.heap[b]? = some (.cells arr T' (0,0))/\arr.size=arr'.size) ->
    OwL w' ok' b cs' o fp''->Ow w' ok' (d.setCells cs') u (b :: fp''):=by
 cases d with
 | ow k n c0=>
  simp only [D.cells?,Option.some.injEq] at e
  subst e
  simp only [Ow] at h
  rcases h with ⟨_,h2,_⟩ | ⟨b,o,c,arr,T,fp',e,e2,h1,h2,h3,h4,h5⟩
  ·exact absurd h2 hne
  ·refine ⟨b,o,fp',by subst e;rfl,e2,h5,⟨arr,T,h1,by rw [h4];exact Nat.le_trans (Nat.add_le_add_left (Nat.mul_le_mul_left k h2.1) o) h3⟩,fun w' ok' cs' fp'' hl ⟨arr',T',hw,arr0,T0,h0,hs⟩ ho=>?_⟩
   simp only [D.setCells,Ow]
   rw [h1] at h0
   cases h0
   exact .inr ⟨b,o,c,arr',T',fp'',e,rfl,hw,h2,by rw [<-hs];exact h3,by rw [hl];exact h4,ho⟩
 | bx c0=>
  simp only [D.cells?,Option.some.injEq] at e
  subst e
  simp only [Ow] at h
  obtain ⟨b,arr,T,fp',e,e2,h1,h2,h5⟩:=h
  refine ⟨b,0,fp',by subst e;rfl,e2,h5,⟨arr,T,h1,by omega⟩,fun w' ok' cs' fp'' hl ⟨arr',T',hw,arr0,T0,h0,hs⟩ ho=>?_⟩
  simp only [D.setCells,Ow]
  rw [h1] at h0
  cases h0
  exact ⟨b,arr',T',fp'',e,rfl,hw,by omega,ho⟩
 | _=>simp [D.cells?] at e
theorem cells_setCells {d:D} {cs cs':List D} (h:d.cells? = some cs):(d.setCells cs').cells? = some cs':=by
 cases d <;> simp [D.cells?,D.setCells] at h ⊢
mutual
theorem Ow_unique {w:World} {ok:Nat->Prop}:∀ (d:D) (u:Value) (fp fp':List Nat),Ow w ok d u fp->Ow w ok d u fp'->fp=fp'
 | .v _,_,_,_,h,h'=>by simp only [Ow] at h h';rw [h.1,h'.1]
 | .ez,_,_,_,h,h'=>by simp only [Ow] at h h';rw [h.1,h'.1]
 | .sh ..,_,_,_,h,h'=>by simp only [Ow] at h h';rw [h.1,h'.1]
 | .vp _,_,_,_,h,h'=>by simp only [Ow] at h h';rw [h.1,h'.1]
 | .fn ..,_,_,_,h,h'=>by simp only [Ow] at h h';rw [h.1,h'.1]
 | .ow k n cs,u,fp,fp',h,h'=>by
  simp only [Ow] at h h'
  rcases h with ⟨_,h2,h3,a,h4⟩ | ⟨b,o,c,arr,T,f1,e,e2,h1,h2,h3,h4,h5⟩ <;>
   rcases h' with ⟨_,h2',h3',a',h4'⟩ | ⟨b',o',c',arr',T',f1',e',e2',h1',h2',h3',h4',h5'⟩
  ·rw [h3,h3']
  ·subst h4;injection e' with _ _ e3;exact absurd e3.symm h2'.2
  ·subst h4';injection e with _ _ e3;exact absurd e3.symm h2.2
  ·subst e
   injection e' with e3 _ _
   injection e3 with e3
   injection e3 with e3 e4 _
   subst e3;subst e4
   rw [e2,e2',OwL_unique b cs o f1 f1' h5 h5']
 | .bx cs,u,fp,fp',h,h'=>by
  simp only [Ow] at h h'
  obtain ⟨b,arr,T,f1,e,e2,h1,h2,h5⟩:=h
  obtain ⟨b',arr',T',f1',e',e2',h1',h2',h5'⟩:=h'
  subst e
  injection e' with e3
  injection e3 with e3
  injection e3 with e3 _ _
  subst e3
  rw [e2,e2',OwL_unique b cs 0 f1 f1' h5 h5']
 | .mp es,u,fp,fp',h,h'=>by
  simp only [Ow] at h h'
  obtain ⟨m,en,cl,e,e2,h1⟩:=h
  obtain ⟨m',en',cl',e',e2',h1'⟩:=h'
  subst e
  injection e' with e3
  injection e3 with e3
  subst e3
  rw [e2,e2']
 | .itr,u,fp,fp',h,h'=>by
  simp only [Ow] at h h'
  obtain ⟨b,m,s,x,l,e,e2,h1⟩:=h
  obtain ⟨b',m',s',x',l',e',e2',h1'⟩:=h'
  subst e
  injection e' with e3
  injection e3 with e3
  injection e3 with e3 _ _
  subst e3
  rw [e2,e2']
 | .gone,_,_,_,h,h'=>by simp only [Ow] at h h';rw [h,h']
theorem OwL_unique {w:World} {ok:Nat->Prop} (b:Nat):∀ (cs:List D) (o:Nat) (fp fp':List Nat),OwL w ok b cs o fp->OwL w ok b cs o fp'->fp=fp'
 | [],_,_,_,h,h'=>by simp only [OwL] at h h';rw [h,h']
 | d :: ds,o,fp,fp',h,h'=>by
  simp only [OwL] at h h'
  obtain ⟨u,f1,f2,h1,e,h2,h3⟩:=h
  obtain ⟨u',f1',f2',h1',e',h2',h3'⟩:=h'
  rw [h1] at h1'
  cases h1'
  rw [e,e',Ow_unique d u f1 f1' h2 h2',OwL_unique b ds (o+1) f2 f2' h3 h3']
end
theorem OwL_mem {w:World} {ok:Nat->Prop} {b:Nat} {cs:List D} {o i:Nat} {x:D} {fp fx:List Nat} {v:Value} (h:OwL w ok b cs o fp) (e:cs[i]? = some x)
  (hv:w.cell? ⟨b,o+i,none⟩ = some v) (hx:Ow w ok x v fx):∀ q∈fx,q∈fp:=by
 obtain ⟨v',f1,fx',f2,e2,hv',hx',_⟩:=OwL_split h e
 rw [hv] at hv'
 cases hv'
 rw [Ow_unique x v fx fx' hx hx',e2]
 intro q hq
 simp [hq]
theorem OwL_apart {w:World} {ok:Nat->Prop} {b:Nat}:∀ {cs:List D} {o i j:Nat} {x z:D} {fp fx fz:List Nat} {v v2:Value},OwL w ok b cs o fp->fp.Nodup->cs[i]? = some x->cs[j]? = some z->i≠j ->
  w.cell? ⟨b,o+i,none⟩ = some v->Ow w ok x v fx->w.cell? ⟨b,o+j,none⟩ = some v2->Ow w ok z v2 fz->∀ q∈fx,q ∉ fz
 | [],_,_,_,_,_,_,_,_,_,_,_,_,e,_,_,_,_,_,_=>by simp at e
 | c :: cs,o,0,0,_,_,_,_,_,_,_,_,_,_,_,hne,_,_,_,_=>absurd rfl hne
 | c :: cs,o,0,j+1,x,z,fp,fx,fz,v,v2,h,hn,e1,e2,_,h1,h2,h3,h4=>by
  simp only [OwL] at h
  obtain ⟨u,g1,g2,k1,e,k2,k3⟩:=h
  simp only [List.getElem?_cons_zero,Option.some.injEq] at e1
  simp only [List.getElem?_cons_succ] at e2
  subst e1;subst e
  simp only [Nat.add_zero] at h1
  rw [k1] at h1
  cases h1
  rw [show o+(j+1)=o+1+j by omega] at h3
  intro q hq hz
  have a1:q∈g1:=Ow_unique _ _ _ _ h2 k2 ▸ hq
  have a2:=OwL_mem k3 e2 h3 h4 q hz
  exact (List.nodup_append.1 hn).2.2 q a1 q a2 rfl
 | c :: cs,o,i+1,0,x,z,fp,fx,fz,v,v2,h,hn,e1,e2,_,h1,h2,h3,h4=>by
  simp only [OwL] at h
  obtain ⟨u,g1,g2,k1,e,k2,k3⟩:=h
  simp only [List.getElem?_cons_zero,Option.some.injEq] at e2
  simp only [List.getElem?_cons_succ] at e1
  subst e2;subst e
  simp only [Nat.add_zero] at h3
  rw [k1] at h3
  cases h3
  rw [show o+(i+1)=o+1+i by omega] at h1
  intro q hq hz
  have a1:q∈g1:=Ow_unique _ _ _ _ h4 k2 ▸ hz
  have a2:=OwL_mem k3 e1 h1 h2 q hq
  exact (List.nodup_append.1 hn).2.2 q a1 q a2 rfl
 | c :: cs,o,i+1,j+1,x,z,fp,fx,fz,v,v2,h,hn,e1,e2,hne,h1,h2,h3,h4=>by
  simp only [OwL] at h
  obtain ⟨u,g1,g2,k1,e,k2,k3⟩:=h
  simp only [List.getElem?_cons_succ] at e1 e2
  subst e
  exact OwL_apart k3 (List.nodup_append.1 hn).2.1 e1 e2 (by omega) (by rw [show o+1+i=o+(i+1) by omega];exact h1) h2 (by rw [show o+1+j=o+(j+1) by omega];exact h3) h4
theorem hdr_stable {w w':World} {ok:Nat->Prop}:∀ (q:List Nat) (d:D) (u:Value) (fp:List Nat) (x:D),Ow w ok d u fp->(∀ b∈fp,w'.heap[b]? = w.heap[b]?)->look d q=some x->hdr w' u q=hdr w u q
 | [],_,_,_,_,_,_,_=>by simp [hdr]
 | i :: q,d,u,fp,x,h,hf,hl=>by
  simp only [look] at hl
  split at hl
  ·rename_i cs hc
   split at hl
   ·rename_i y hy
    obtain ⟨b,o,fp',hb,e,hO,_,_⟩:=Ow_cells h hc (by rintro rfl;simp at hy)
    obtain ⟨v,f1,fx,f2,e2,hv,hx,_⟩:=OwL_split hO hy
    subst e;subst e2
    simp only [hdr,hb]
    rw [cell_eq (hf b (by simp)),hv]
    simp only
    exact hdr_stable q y v fx x hx (fun b hb=>hf b (by simp [hb])) hl
   ·simp at hl
  ·simp at hl
def sameKind:D->D->Prop
 | .ow k n cs,.ow k' n' cs'=>k=k'/\n=n'/\cs.length=cs'.length
 | .bx cs,.bx cs'=>cs.length=cs'.length
 | x,y=>x=y
theorem sameKind_refl (d:D):sameKind d d:=by cases d <;> simp [sameKind]
theorem look_putAt:∀ (p:List Nat) (d o e:D) (q:List Nat),look d p=some o->look (putAt d p e) (p ++ q)=look e q
 | [],_,_,_,_,_=>by simp [putAt]
 | i :: p,d,o,e,q,h=>by
  simp only [look] at h
  split at h
  ·rename_i cs hc
   split at h
   ·rename_i y hy
    have hlt:i < cs.length:=by
     rcases Nat.lt_or_ge i cs.length with h' | h'
     ·exact h'
     ·simp [List.getElem?_eq_none h'] at hy
    simp only [putAt,hc,List.cons_append,look,cells_setCells hc,List.getElem?_modify]
    simp only [hy,↓reduceIte,Option.map_some]
    exact look_putAt p y o e q h
   ·simp at h
  ·simp at h
theorem sameKind_setCells {d:D} {cs cs':List D} (h:d.cells? = some cs) (hl:cs'.length=cs.length):sameKind d (d.setCells cs'):=by
 cases d <;> simp [D.cells?,D.setCells,sameKind] at h ⊢
 ·subst h;exact hl.symm
 ·subst h;exact hl.symm
theorem look_putAt_other:∀ (p:List Nat) (d o e:D) (q:List Nat) (x:D),look d p=some o->look d q=some x->isPre p q=false->∃ x',look (putAt d p e) q=some x'/\sameKind x x'
 | [],_,_,_,_,_,_,_,h=>by simp [isPre] at h
 | i :: p,d,o,e,[],x,h,hq,_=>by
  simp only [look] at h hq
  split at h
  ·rename_i cs hc
   cases hq
   refine ⟨putAt d (i :: p) e,rfl,?_⟩
   simp only [putAt,hc]
   exact sameKind_setCells hc (by simp)
  ·simp at h
 | i :: p,d,o,e,j :: q,x,h,hq,hp=>by
  simp only [look] at h hq
  split at h
  ·rename_i cs hc
   simp only [hc] at hq
   simp only [putAt,hc,look,cells_setCells hc,List.getElem?_modify]
   split at h
   ·rename_i y hy
    split at hq
    ·rename_i z hz
     by_cases hij:i=j
     ·subst hij
      simp only [isPre,↓reduceIte] at hp
      rw [hy] at hz
      cases hz
      simp only [hy,↓reduceIte,Option.map_some]
      exact look_putAt_other p y o e q x h hq hp
     ·simp only [if_neg hij,hz,Option.map_some,id]
      exact ⟨x,by simpa using hq,sameKind_refl x⟩
    ·simp at hq
   ·simp at h
  ·simp at h
theorem own_at {w:World} {ok:Nat->Prop}:∀ (p:List Nat) (d:D) (u:Value) (fp:List Nat) (o:D),Ow w ok d u fp->fp.Nodup->look d p=some o ->
  ∃ hv fo,hdr w u p=some hv/\Ow w ok o hv fo/\fo.Nodup/\(∀ b∈fo,b∈fp) /\
   ∀ (w':World) (ok':Nat->Prop) (o':D) (fo':List Nat),(∀ b∈fp,b ∉ fo->w'.heap[b]? = w.heap[b]?)->(∀ b,ok b->ok' b/\w'.heap[b]? = w.heap[b]?)->Ow w' ok' o' hv fo'->fo'.Nodup ->
    (∀ b∈fo',b∈fo\/b ∉ fp) ->
    (∃ fp',Ow w' ok' (putAt d p o') u fp'/\fp'.Nodup/\(∀ b∈fp',b∈fo'\/(b∈fp/\b ∉ fo))) /\
    (∀ q x,look d q=some x->isPre p q=false->hdr w' u q=hdr w u q)/\hdr w' u p=some hv
 | [],d,u,fp,o,h,hn,hl=>by
  simp only [look,Option.some.injEq] at hl
  subst hl
  exact ⟨u,fp,by simp [hdr],h,hn,fun _ h=>h,fun w' ok' o' fo' _ _ ho hn' _=>⟨⟨fo',by simpa [putAt] using ho,hn',fun b hb=>.inl hb⟩,fun q x _ hq=>by simp [isPre] at hq,by simp [hdr]⟩⟩
 | i :: p,d,u,fp,o,h,hn,hl=>by
  simp only [look] at hl
  split at hl
  ·rename_i cs hc
   split at hl
   ·rename_i y hy
    obtain ⟨b,off,fp',hb,e,hO,⟨arr,T,hheap,hsz⟩,hre⟩:=Ow_cells h hc (by rintro rfl;simp at hy)
    obtain ⟨v,f1,fx,f2,e2,hv,hx,hset⟩:=OwL_split hO hy
    subst e;subst e2
    have hlt:i < cs.length:=by
     rcases Nat.lt_or_ge i cs.length with h' | h'
     ·exact h'
     ·simp [List.getElem?_eq_none h'] at hy
    have hnd:=hn
    simp only [List.nodup_cons,List.nodup_append,List.mem_append,not_or] at hnd
    obtain ⟨⟨⟨hb1,hb2⟩,hb3⟩,⟨hn1,hn2,hd1⟩,hn3,hd2⟩:=hnd
    obtain ⟨hv',fo,h1,h2,h3,h4,h5⟩:=own_at p y v fx o hx hn2 hl
    refine ⟨hv',fo,by simp only [hdr,hb,hv];exact h1,h2,h3,fun q hq=>by simp [h4 q hq],fun w' ok' o' fo' hw hk ho hn' hd=>?_⟩
    have hbf:b ∉ fo:=fun hbo=>hb2 (h4 b hbo)
    have hwb:w'.heap[b]? = w.heap[b]?:=hw b (by simp) hbf
    have g1:∀ q,q∈f1\/q∈f2->w'.heap[q]? = w.heap[q]?:=fun q hq=>by
     refine hw q (by rcases hq with hq | hq <;> simp [hq]) fun hqo=>?_
     have:=h4 q hqo
     rcases hq with hq | hq
     ·exact hd1 q hq q this rfl
     ·exact hd2 q (.inr this) q hq rfl
    obtain ⟨⟨fp1,k1,k2,k3⟩,k4,k5⟩:=h5 w' ok' o' fo' (fun q hq hqo=>hw q (by simp [hq]) hqo) hk ho hn' (fun q hq=>(hd q hq).imp id fun hnq hqx=>hnq (by simp [hqx]))
    have hsetw:=hset w' ok' (putAt y p o') v fp1 hk (by rw [cell_eq hwb];exact hv) k1 (fun j _ _=>cell_eq hwb) g1
    have hmod:cs.modify i (fun x=>putAt x p o')=cs.set i (putAt y p o'):=by
     apply List.ext_getElem?
     intro j
     simp only [List.getElem?_modify,List.getElem?_set]
     by_cases hij:i=j
     ·subst hij
      have hyy:cs[i]=y:=by simpa [List.getElem?_eq_getElem hlt] using hy
      simp [hlt,hyy]
     ·simp [hij]
    have kk3:∀ q∈fp1,q ∉ f1/\q ∉ f2/\q≠b:=fun q hq=>by
     rcases k3 q hq with h' | ⟨h',_⟩
     ·rcases hd q h' with h'' | h''
      ·have hqx:=h4 q h''
       exact ⟨fun h=>hd1 q h q hqx rfl,fun h=>hd2 q (.inr hqx) q h rfl,fun h=>hb2 (h ▸ hqx)⟩
      ·simp only [List.mem_cons,List.mem_append,not_or] at h''
       exact ⟨h''.2.1.1,h''.2.2,h''.1⟩
     ·exact ⟨fun h=>hd1 q h q h' rfl,fun h=>hd2 q (.inr h') q h rfl,fun h=>hb2 (h ▸ h')⟩
    refine ⟨⟨b :: (f1 ++ fp1 ++ f2),?_,?_,?_⟩,?_,?_⟩
    ·simp only [putAt,hc,hmod]
     exact hre w' ok' _ _ (by simp) ⟨arr,T,by rw [hwb];exact hheap,arr,T,hheap,rfl⟩ hsetw
    ·simp only [List.nodup_cons,List.nodup_append,List.mem_append,not_or]
     refine ⟨⟨⟨hb1,fun h=>(kk3 b h).2.2 rfl⟩,hb3⟩,⟨hn1,k2,fun a ha c hcc he=>(kk3 c hcc).1 (he ▸ ha)⟩,hn3,fun a ha c hcc he=>?_⟩
     rcases ha with ha | ha
     ·exact hd2 a (.inl ha) c hcc he
     ·exact (kk3 a ha).2.1 (he ▸ hcc)
    ·intro q hq
     simp only [List.mem_cons,List.mem_append] at hq ⊢
     rcases hq with rfl | ((hq | hq) | hq)
     ·exact .inr ⟨.inl rfl,hbf⟩
     ·exact .inr ⟨.inr (.inl (.inl hq)),fun ho=>hd1 q hq q (h4 q ho) rfl⟩
     ·rcases k3 q hq with h' | ⟨h',h''⟩
      ·exact .inl h'
      ·exact .inr ⟨.inr (.inl (.inr h')),h''⟩
     ·exact .inr ⟨.inr (.inr hq),fun ho=>hd2 q (.inr (h4 q ho)) q hq rfl⟩
    ·intro q x hq hp
     cases q with
     | nil=>simp [hdr]
     | cons j q=>
      simp only [look,hc] at hq
      split at hq
      ·rename_i z hz
       by_cases hij:i=j
       ·subst hij
        rw [hy] at hz
        cases hz
        simp only [isPre,↓reduceIte] at hp
        simp only [hdr,hb]
        rw [cell_eq hwb,hv]
        exact k4 q x hq hp
       ·obtain ⟨v2,a1,ax,a2,e3,hv2,hx2,_⟩:=OwL_split hO hz
        simp only [hdr,hb]
        rw [cell_eq hwb,hv2]
        refine hdr_stable q z v2 ax x hx2 (fun c hcx=>?_) hq
        -- the blocks of another cell are none of the object's
        refine hw c (by rw [e3];simp [hcx]) fun hco=>?_
        exact OwL_apart hO (List.nodup_cons.1 hn).2 hz hy (fun h=>hij h.symm) hv2 hx2 hv hx c hcx (h4 c hco)
      ·simp at hq
    ·simp only [hdr,hb]
     rw [cell_eq hwb,hv]
     exact k5
   ·simp at hl
  ·simp at hl
end Go.Proofs.Ytncfmemhjahpeaa.Ab
namespace Go.Proofs.Ytncfmemhjahpeaa.Ab
open Go
structure Rts (w:World) (ok:Nat->Prop) (B:Nat->Prop) (rts:Rn->Option D) (ρ:Rn->Value) (φ:Rn->List Nat):Prop where
 own:∀ r d,rts r=some d->Ow w ok d (ρ r) (φ r)/\(φ r).Nodup/\∀ b∈φ r,B b
 dis:∀ r r' d d',r≠r'->rts r=some d->rts r'=some d'->∀ b∈φ r,b ∉ φ r'
def objOf (rts:Rn->Option D) (r:Rn) (p:List Nat):Option D:=match rts r with | some d=>look d p | none=>none
theorem obj_eq (σ:St) (r:Rn) (p:List Nat):σ.obj r p=objOf σ.rts r p:=rfl
def putR (rts:Rn->Option D) (r:Rn) (d:Option D):Rn->Option D:=fun q=>if q=r then d else rts q
def upR {α:Type} (f:Rn->α) (r:Rn) (x:α):Rn->α:=fun q=>if q=r then x else f q
theorem look_append:∀ (p q:List Nat) (d:D),look d (p ++ q)=(look d p).bind fun o=>look o q
 | [],q,d=>by simp [look]
 | i :: p,q,d=>by
  simp only [List.cons_append,look]
  split
  ·split
   ·exact look_append p q _
   ·rfl
  ·rfl
theorem hdr_append {w:World}:∀ (p q:List Nat) (u:Value),hdr w u (p ++ q)=(hdr w u p).bind fun v=>hdr w v q
 | [],q,d=>by simp [hdr]
 | i :: p,q,d=>by
  simp only [List.cons_append,hdr]
  split
  ·split
   ·exact hdr_append p q _
   ·rfl
  ·rfl
theorem isPre_iff:∀ {p s:List Nat},isPre p s=true->∃ q,s=p ++ q
 | [],s,_=>⟨s,rfl⟩
 | i :: p,[],h=>by simp [isPre] at h
 | i :: p,j :: s,h=>by
  simp only [isPre] at h
  split at h
  ·rename_i e
   obtain ⟨q,hq⟩:=isPre_iff h
   exact ⟨q,by simp [e,hq]⟩
  ·simp at h
theorem isPre_append (p q:List Nat):isPre p (p ++ q)=true:=by
 induction p with
 | nil=>simp [isPre]
 | cons i p ih=>simpa [isPre] using ih
section
variable {w:World} {ok:Nat->Prop} {B:Nat->Prop} {rts:Rn->Option D} {ρ:Rn->Value} {φ:Rn->List Nat}
structure At (w:World) (ok:Nat->Prop) (rts:Rn->Option D) (ρ:Rn->Value) (φ:Rn->List Nat) (r:Rn) (p:List Nat) (o:D) (hv:Value) (fo:List Nat):Prop where
 hdr:hdr w (ρ r) p=some hv
 own:Ow w ok o hv fo
 nod:fo.Nodup
 sub:∀ b∈fo,b∈φ r
theorem Rts.at_ (h:Rts w ok B rts ρ φ) {r:Rn} {p:List Nat} {o:D} (ho:objOf rts r p=some o):∃ hv fo,At w ok rts ρ φ r p o hv fo:=by
 unfold objOf at ho
 split at ho
 ·rename_i d hd
  obtain ⟨h1,h2,h3⟩:=h.own r d hd
  obtain ⟨hv,fo,k1,k2,k3,k4,_⟩:=own_at p d (ρ r) (φ r) o h1 h2 ho
  exact ⟨hv,fo,k1,k2,k3,k4⟩
 ·simp at ho
theorem Rts.replace (h:Rts w ok B rts ρ φ) {r:Rn} {p:List Nat} {d o:D} {hv:Value} {fo:List Nat} (hd:rts r=some d) (hl:look d p=some o)
  (hat:At w ok rts ρ φ r p o hv fo) {w':World} {ok' B':Nat->Prop} {o':D} {fo':List Nat}
  (hw:∀ b,b ∉ fo->(∃ q e,rts q=some e/\b∈φ q)->w'.heap[b]? = w.heap[b]?) (hk:∀ b,ok b->ok' b/\w'.heap[b]? = w.heap[b]?)
  (ho:Ow w' ok' o' hv fo') (hn:fo'.Nodup) (hf:∀ b∈fo',b∈fo\/∀ q e,rts q=some e->b ∉ φ q) (hB:∀ b∈fo',B' b) (hBB:∀ b,b ∉ fo->B b->B' b) :
  ∃ φ',Rts w' ok' B' (putR rts r (some (putAt d p o'))) ρ φ'/\(∀ q,q≠r->φ' q=φ q)/\(∀ b∈φ' r,b∈fo'\/(b∈φ r/\b ∉ fo)) /\
   hdr w' (ρ r) p=some hv /\
   (∀ s x,objOf rts r s=some x->isPre p s=false->hdr w' (ρ r) s=hdr w (ρ r) s/\∃ x',look (putAt d p o') s=some x'/\sameKind x x') /\
   (∀ s,look (putAt d p o') (p ++ s)=look o' s) /\
   (∀ q s x,q≠r->objOf rts q s=some x->hdr w' (ρ q) s=hdr w (ρ q) s):=by
 obtain ⟨h1,h2,h3⟩:=h.own r d hd
 obtain ⟨hv2,fo2,k1,k2,k3,k4,k5⟩:=own_at p d (ρ r) (φ r) o h1 h2 hl
 have e1:hv2=hv:=by have:=hat.hdr;rw [k1] at this;injection this
 subst e1
 have e2:fo2=fo:=Ow_unique _ _ _ _ k2 hat.own
 subst e2
 obtain ⟨⟨fp',g1,g2,g3⟩,g4,g5⟩:=k5 w' ok' o' fo' (fun b hb hbo=>hw b hbo ⟨r,d,hd,hb⟩) hk ho hn (fun b hb=>(hf b hb).imp id fun hh=>hh r d hd)
 refine ⟨upR φ r fp',⟨fun q e he=>?_,fun q q' e e' hne he he' b hb hb'=>?_⟩,fun q hq=>by simp [upR,hq],fun b hb=>?_,g5,fun s x hs hp=>?_,fun s=>look_putAt p d o o' s hl,fun q s x hq hs=>?_⟩
 ·by_cases hq:q=r
  ·subst hq
   simp only [putR,↓reduceIte,Option.some.injEq] at he
   subst he
   simp only [upR,↓reduceIte]
   refine ⟨g1,g2,fun b hb=>?_⟩
   rcases g3 b hb with hb | ⟨hb,hb2⟩
   ·exact hB b hb
   ·exact hBB b hb2 (h3 b hb)
  ·simp only [putR,if_neg hq] at he
   simp only [upR,if_neg hq]
   obtain ⟨a1,a2,a3⟩:=h.own q e he
   have hno:∀ b∈φ q,b ∉ fo2:=fun b hb hb2=>h.dis q r e d hq he hd b hb (k4 b hb2)
   exact ⟨Ow_mono hk e _ _ (fun b hb=>hw b (hno b hb) ⟨q,e,he,hb⟩) a1,a2,fun b hb=>hBB b (hno b hb) (a3 b hb)⟩
 ·have key:∀ q e,q≠r->rts q=some e->∀ b∈φ q,b ∉ fp':=fun q e hq he b hb hb'=>by
   rcases g3 b hb' with h' | ⟨h',_⟩
   ·rcases hf b h' with h'' | h''
    ·exact h.dis q r e d hq he hd b hb (k4 b h'')
    ·exact h'' q e he hb
   ·exact h.dis q r e d hq he hd b hb h'
  by_cases hq:q=r
  ·subst hq
   have hq':q'≠q:=fun hh=>hne hh.symm
   simp only [putR,if_neg hq'] at he'
   simp only [upR,↓reduceIte,if_neg hq'] at hb hb'
   exact key q' e' hq' he' b hb' hb
  ·simp only [putR,if_neg hq] at he
   simp only [upR,if_neg hq] at hb
   by_cases hq':q'=r
   ·subst hq'
    simp only [upR,↓reduceIte] at hb'
    exact key q e hq he b hb hb'
   ·simp only [putR,if_neg hq'] at he'
    simp only [upR,if_neg hq'] at hb'
    exact h.dis q q' e e' hne he he' b hb hb'
 ·simp only [upR,↓reduceIte] at hb
  exact g3 b hb
 ·simp only [objOf,hd] at hs
  exact ⟨g4 s x hs hp,look_putAt_other p d o o' s x hl hs hp⟩
 ·unfold objOf at hs
  split at hs
  ·rename_i e he
   obtain ⟨a1,a2,a3⟩:=h.own q e he
   exact hdr_stable s e _ _ x a1 (fun b hb=>hw b (fun hb2=>h.dis q r e d hq he hd b hb (k4 b hb2)) ⟨q,e,he,hb⟩) hs
  ·simp at hs
theorem Rts.new (h:Rts w ok B rts ρ φ) {r:Rn} {d:D} {u:Value} {fp:List Nat} {w':World} {ok' B':Nat->Prop}
  (hw:∀ b,(∃ q e,rts q=some e/\b∈φ q)->w'.heap[b]? = w.heap[b]?) (hk:∀ b,ok b->ok' b/\w'.heap[b]? = w.heap[b]?)
  (ho:Ow w' ok' d u fp) (hn:fp.Nodup) (hf:∀ b∈fp,∀ q e,q≠r->rts q=some e->b ∉ φ q) (hB:∀ b∈fp,B' b) (hBB:∀ b,B b->B' b) :
  Rts w' ok' B' (putR rts r (some d)) (upR ρ r u) (upR φ r fp):=by
 refine ⟨fun q e he=>?_,fun q q' e e' hne he he' b hb hb'=>?_⟩
 ·by_cases hq:q=r
  ·subst hq
   simp only [putR,↓reduceIte,Option.some.injEq] at he
   subst he
   simp only [upR,↓reduceIte]
   exact ⟨ho,hn,hB⟩
  ·simp only [putR,if_neg hq] at he
   simp only [upR,if_neg hq]
   obtain ⟨a1,a2,a3⟩:=h.own q e he
   exact ⟨Ow_mono hk e _ _ (fun b hb=>hw b ⟨q,e,he,hb⟩) a1,a2,fun b hb=>hBB b (a3 b hb)⟩
 ·by_cases hq:q=r
  ·subst hq
   have hq':q'≠q:=fun hh=>hne hh.symm
   simp only [putR,if_neg hq'] at he'
   simp only [upR,↓reduceIte,if_neg hq'] at hb hb'
   exact hf b hb q' e' hq' he' hb'
  ·simp only [putR,if_neg hq] at he
   simp only [upR,if_neg hq] at hb
   by_cases hq':q'=r
   ·subst hq'
    simp only [upR,↓reduceIte] at hb'
    exact hf b hb' q e hq he hb
   ·simp only [putR,if_neg hq'] at he'
    simp only [upR,if_neg hq'] at hb'
    exact h.dis q q' e e' hne he he' b hb hb'
theorem putR_none {r q:Rn} {e:D} (h:putR rts r none q=some e):rts q=some e:=by
 unfold putR at h
 split at h
 ·simp at h
 ·exact h
theorem Rts.drop (h:Rts w ok B rts ρ φ) (r:Rn):Rts w ok B (putR rts r none) ρ φ:=
 ⟨fun q e he=>h.own q e (putR_none he),fun q q' e e' hne he he'=>h.dis q q' e e' hne (putR_none he) (putR_none he')⟩
theorem Rts.mono (h:Rts w ok B rts ρ φ) {w':World} {ok' B':Nat->Prop} (hw:∀ b,(∃ q e,rts q=some e/\b∈φ q)->w'.heap[b]? = w.heap[b]?)
  (hk:∀ b,ok b->ok' b/\w'.heap[b]? = w.heap[b]?) (hBB:∀ b,B b->B' b):Rts w' ok' B' rts ρ φ:=
 ⟨fun q e he=>by
  obtain ⟨a1,a2,a3⟩:=h.own q e he
  exact ⟨Ow_mono hk e _ _ (fun b hb=>hw b ⟨q,e,he,hb⟩) a1,a2,fun b hb=>hBB b (a3 b hb)⟩,h.dis⟩
theorem Rts.hdr_mono (h:Rts w ok B rts ρ φ) {w':World} (hw:∀ b,(∃ q e,rts q=some e/\b∈φ q)->w'.heap[b]? = w.heap[b]?) {q:Rn} {s:List Nat} {x:D}
  (hs:objOf rts q s=some x):hdr w' (ρ q) s=hdr w (ρ q) s:=by
 unfold objOf at hs
 split at hs
 ·rename_i e he
  obtain ⟨a1,a2,a3⟩:=h.own q e he
  exact hdr_stable s e _ _ x a1 (fun b hb=>hw b ⟨q,e,he,hb⟩) hs
 ·simp at hs
theorem Ow_oneCell {d:D} {u:Value} {fp:List Nat} (h:Ow w ok d u fp) (hg:d≠.gone) (hv:∀ x,d = .v x->x.oneCell'=true):u.oneCell'=true:=by
 cases d with
 | v x=>simp only [Ow] at h;rw [h.2];exact hv x rfl
 | ez=>simp only [Ow,Sh] at h;obtain ⟨_,a,e⟩:=h;rw [e];rfl
 | sh k n cs=>simp only [Ow,Sh] at h;obtain ⟨_,a,c,e,_⟩:=h;rw [e];rfl
 | vp cs=>simp only [Ow,Sh] at h;obtain ⟨_,b,o,e,_⟩:=h;rw [e];rfl
 | fn f cs=>simp only [Ow,Sh] at h;obtain ⟨_,b,e,_⟩:=h;rw [e];rfl
 | ow k n cs=>
  simp only [Ow] at h
  rcases h with ⟨_,_,_,a,e⟩ | ⟨b,o,c,arr,T,fp',e,_⟩ <;> (rw [e];rfl)
 | bx cs=>simp only [Ow] at h;obtain ⟨b,arr,T,fp',e,_⟩:=h;rw [e];rfl
 | mp es=>simp only [Ow] at h;obtain ⟨b,arr,T,e,_⟩:=h;rw [e];rfl
 | itr=>simp only [Ow] at h;obtain ⟨b,m,s,x,l,e,_⟩:=h;rw [e];rfl
 | gone=>exact absurd rfl hg
theorem heap_setCell_self {w:World} {b o:Nat} {arr:Array Value} {T:TypeId} {v:Value} (h:w.heap[b]? = some (.cells arr T (0,0))) :
  (w.setCell ⟨b,o,none⟩ v).heap[b]? = some (.cells (arr.setIfInBounds o v) T (0,0)):=by
 simp [World.setCell,Array.getElem?_modify,h]
theorem not_frozen {w:World} {b o:Nat} {arr:Array Value} {T:TypeId} (h:w.heap[b]? = some (.cells arr T (0,0))):w.frozen? ⟨b,o,none⟩ = false:=by
 simp [World.frozen?,h]
theorem Rts.write (h:Rts w ok B rts ρ φ) (hB:∀ b,B b->¬ ok b) {r:Rn} {p:List Nat} {i:Nat} {d o old e:D} {cs:List D} {v:Value} {fe:List Nat} (hd:rts r=some d) (hl:look d p=some o)
  (hc:o.cells? = some cs) (hi:cs[i]? = some old) (he:Ow w ok e v fe) (hen:fe.Nodup) (heB:∀ b∈fe,B b) (hed:∀ q e,rts q=some e->∀ b∈φ q,b ∉ fe) :
  ∃ hv b q,hdr w (ρ r) p=some hv/\baseOf hv=some (b,q)/\B b/\(∃ u,w.cell? ⟨b,q+i,none⟩ = some u)/\w.frozen? ⟨b,q+i,none⟩ = false /\
   ∃ φ',Rts (w.setCell ⟨b,q+i,none⟩ v) ok B (putR rts r (some (putAt d p (o.setCells (cs.set i e))))) ρ φ' /\
    (∀ s x,s≠r->objOf rts s x≠none->hdr (w.setCell ⟨b,q+i,none⟩ v) (ρ s) x=hdr w (ρ s) x) /\
    (∀ s x,objOf rts r s=some x->isPre (p ++ [i]) s=false->hdr (w.setCell ⟨b,q+i,none⟩ v) (ρ r) s=hdr w (ρ r) s /\
      ∃ x',look (putAt d p (o.setCells (cs.set i e))) s=some x'/\sameKind x x') /\
    (∀ s x,look e s=some x->look (putAt d p (o.setCells (cs.set i e))) (p ++ [i] ++ s)=some x/\hdr (w.setCell ⟨b,q+i,none⟩ v) (ρ r) (p ++ [i] ++ s)=hdr w v s):=by
 have hlt:i < cs.length:=by
  rcases Nat.lt_or_ge i cs.length with h' | h'
  ·exact h'
  ·simp [List.getElem?_eq_none h'] at hi
 obtain ⟨hv,fo,hat⟩:=h.at_ (r:=r) (p:=p) (o:=o) (by simp only [objOf,hd];exact hl)
 obtain ⟨b,q,fp',hb,e1,hO,⟨arr,T,hheap,hsz⟩,hre⟩:=Ow_cells hat.own hc (by rintro rfl;simp at hi)
 obtain ⟨u,f1,fx,f2,e2,hu,hx,hset⟩:=OwL_split hO hi
 subst e1;subst e2
 have hbB:B b:=(h.own r d hd).2.2 b (hat.sub b (by simp))
 have hnb:∀ c,c≠b->(w.setCell ⟨b,q+i,none⟩ v).heap[c]? = w.heap[c]?:=fun c hc=>Go.RowKit.Below.heap_setCell w ⟨b,q+i,none⟩ v c hc
 have hnd:=hat.nod
 simp only [List.nodup_cons,List.nodup_append,List.mem_append,not_or] at hnd
 obtain ⟨⟨⟨hb1,hb2⟩,hb3⟩,⟨hn1,hn2,hd1⟩,hn3,hd2⟩:=hnd
 have hbe:b ∉ fe:=hed r d hd b (hat.sub b (by simp))
 have hfe:∀ c∈f1 ++ fx ++ f2,c ∉ fe:=fun c hc=>hed r d hd c (hat.sub c (List.mem_cons_of_mem _ hc))
 have hk:∀ c,ok c->ok c/\(w.setCell ⟨b,q+i,none⟩ v).heap[c]? = w.heap[c]?:=fun c hc=>⟨hc,hnb c (fun e=>hB b hbB (e ▸ hc))⟩
 have heW:Ow (w.setCell ⟨b,q+i,none⟩ v) ok e v fe:=Ow_mono hk e v fe (fun c hc=>hnb c (fun e=>hbe (e ▸ hc))) he
 have hcell:(w.setCell ⟨b,q+i,none⟩ v).cell? ⟨b,q+i,none⟩ = some v:=World.cell?_setCell_same w ⟨b,q+i,none⟩ v hu
 have hoL:=hset (w.setCell ⟨b,q+i,none⟩ v) ok e v fe hk hcell heW (fun j _ hj=>World.cell?_setCell_other w ⟨b,q+i,none⟩ ⟨b,q+j,none⟩ v (by simp;omega))
  (fun c hc=>hnb c (fun e=>by subst e;exact hc.elim hb1 hb3))
 have hOw:=hre (w.setCell ⟨b,q+i,none⟩ v) ok (cs.set i e) (f1 ++ fe ++ f2) (by simp) ⟨_,T,heap_setCell_self hheap,arr,T,hheap,by simp⟩ hoL
 have hnod:(b :: (f1 ++ fe ++ f2)).Nodup:=by
  simp only [List.nodup_cons,List.nodup_append,List.mem_append,not_or]
  refine ⟨⟨⟨hb1,hbe⟩,hb3⟩,⟨hn1,hen,fun x hx y hy e=>hfe x (by simp [hx]) (e ▸ hy)⟩,hn3,fun x hx y hy e=>?_⟩
  rcases hx with hx | hx
  ·exact hd2 x (.inl hx) y hy e
  ·exact hfe y (by simp [hy]) (e ▸ hx)
 obtain ⟨φ',r1,r2,r3,r4,r5,r6,r7⟩:=h.replace hd hl hat (w':=w.setCell ⟨b,q+i,none⟩ v) (ok':=ok) (B':=B) (o':=o.setCells (cs.set i e)) (fo':=b :: (f1 ++ fe ++ f2))
  (fun c hc _=>hnb c (fun e=>hc (by simp [e]))) hk hOw hnod
  (fun c hc=>by
   simp only [List.mem_cons,List.mem_append] at hc ⊢
   rcases hc with rfl | ((hc | hc) | hc)
   ·exact .inl (.inl rfl)
   ·exact .inl (.inr (.inl (.inl hc)))
   ·exact .inr fun q e hq hcq=>hed q e hq c hcq hc
   ·exact .inl (.inr (.inr hc)))
  (fun c hc=>by
   simp only [List.mem_cons,List.mem_append] at hc
   rcases hc with rfl | ((hc | hc) | hc)
   ·exact hbB
   ·exact (h.own r d hd).2.2 c (hat.sub c (by simp [hc]))
   ·exact heB c hc
   ·exact (h.own r d hd).2.2 c (hat.sub c (by simp [hc])))
  (fun c _ hc=>hc)
 refine ⟨hv,b,q,hat.hdr,hb,hbB,⟨u,hu⟩,not_frozen hheap,φ',r1,fun s x hs hx=>?_,fun s x hx hp=>?_,fun s x hx=>?_⟩
 ·cases hxx:objOf rts s x with
  | none=>exact absurd hxx hx
  | some y=>exact r7 s x y hs hxx
 ·by_cases hps:isPre p s=true
  ·obtain ⟨t,rfl⟩:=isPre_iff hps
   rw [r6 t,hdr_append,hdr_append,r4,hat.hdr]
   simp only [Option.bind_some]
   simp only [objOf,hd,look_append,hl,Option.bind_some] at hx
   cases t with
   | nil=>
    simp only [look,Option.some.injEq] at hx
    subst hx
    exact ⟨by simp [hdr],o.setCells (cs.set i e),by simp [look],sameKind_setCells hc (by simp)⟩
   | cons j t=>
    have hji:i≠j:=by
     rintro rfl
     rw [show p ++ i :: t=(p ++ [i]) ++ t by simp,isPre_append] at hp
     simp at hp
    simp only [look,hc] at hx
    simp only [look,cells_setCells hc,List.getElem?_set_ne hji,hdr,hb]
    split at hx
    ·rename_i z hz
     obtain ⟨v2,a1,ax,a2,e3,hv2,hx2,_⟩:=OwL_split hO hz
     have:(w.setCell ⟨b,q+i,none⟩ v).cell? ⟨b,q+j,none⟩ = w.cell? ⟨b,q+j,none⟩:=World.cell?_setCell_other w ⟨b,q+i,none⟩ ⟨b,q+j,none⟩ v (by simp;omega)
     rw [this,hv2]
     refine ⟨hdr_stable t z v2 ax x hx2 (fun c hcx=>hnb c (fun e=>?_)) hx,x,hx,sameKind_refl x⟩
     subst e
     have hmem:c∈f1 ++ fx ++ f2:=by rw [e3];simp [hcx]
     simp only [List.mem_append] at hmem
     rcases hmem with (hm | hm) | hm
     ·exact hb1 hm
     ·exact hb2 hm
     ·exact hb3 hm
    ·simp at hx
  ·have hps':isPre p s=false:=by simpa using hps
   exact r5 s x hx hps'
 ·rw [List.append_assoc,r6,hdr_append,r4]
  simp only [Option.bind_some,List.singleton_append,look,cells_setCells hc,List.getElem?_set_self hlt,hdr,hb,hcell]
  exact ⟨hx,hdr_stable s e v fe x he (fun c hc=>hnb c (fun e=>hbe (e ▸ hc))) hx⟩
def takeR (rts:Rn->Option D) (r:Rn):List Nat->Rn->Option D
 | []=>putR rts r none
 | i :: p=>match rts r with | some d=>putR rts r (some (putAt d (i :: p) .gone)) | none=>rts
theorem take_rts (σ:St) (r:Rn) (p:List Nat):(σ.take r p).rts=takeR σ.rts r p/\(σ.take r p).env=σ.env:=by
 cases p with
 | nil=>exact ⟨rfl,rfl⟩
 | cons i p=>
  simp only [St.take,takeR,St.put]
  cases h:σ.rts r
  ·simp [h]
  ·simp only [h];exact ⟨rfl,trivial⟩
theorem Rts.take (h:Rts w ok B rts ρ φ) {r:Rn} {p:List Nat} {o:D} (ho:objOf rts r p=some o) :
  ∃ hv fo φ',hdr w (ρ r) p=some hv/\Ow w ok o hv fo/\fo.Nodup/\(∀ b∈fo,B b)/\Rts w ok B (takeR rts r p) ρ φ' /\
   (∀ q e,takeR rts r p q=some e->∀ b∈φ' q,b ∉ fo) /\
   (∀ q s x,objOf rts q s=some x->(q=r->isPre p s=false)->∃ x',objOf (takeR rts r p) q s=some x'/\sameKind x x') /\
   (∀ q e,takeR rts r p q=some e->∃ e',rts q=some e'/\∀ b∈φ' q,b∈φ q):=by
 have ho':=ho
 unfold objOf at ho
 split at ho
 ·rename_i d hd
  obtain ⟨hv,fo,hat⟩:=h.at_ ho'
  cases p with
  | nil=>
   simp only [look,Option.some.injEq] at ho
   subst ho
   refine ⟨hv,fo,φ,hat.hdr,hat.own,hat.nod,fun b hb=>(h.own r d hd).2.2 b (hat.sub b hb),h.drop r,fun q e he b hb hb'=>?_,fun q s x hx hq=>?_,fun q e he=>⟨e,putR_none he,fun b hb=>hb⟩⟩
   ·by_cases hqr:q=r
    ·subst hqr;simp [takeR,putR] at he
    ·simp only [takeR,putR,if_neg hqr] at he
     exact h.dis q r e d hqr he hd b hb (hat.sub b hb')
   ·by_cases hqr:q=r
    ·have:=hq hqr;simp [isPre] at this
    ·exact ⟨x,by simpa [takeR,objOf,putR,hqr] using hx,sameKind_refl x⟩
  | cons i p=>
   obtain ⟨φ',r1,r2,r3,r4,r5,r6,r7⟩:=h.replace hd ho hat (w':=w) (ok':=ok) (B':=B) (o':=.gone) (fo':=[]) (fun b _ _=>rfl) (fun b hb=>⟨hb,rfl⟩) (by simp [Ow]) (by simp) (by simp) (by simp) (fun b _ hb=>hb)
   have et:takeR rts r (i :: p)=putR rts r (some (putAt d (i :: p) .gone)):=by simp only [takeR,hd]
   rw [et]
   refine ⟨hv,fo,φ',hat.hdr,hat.own,hat.nod,fun b hb=>(h.own r d hd).2.2 b (hat.sub b hb),r1,fun q e he b hb hb'=>?_,fun q s x hx hq=>?_,fun q e he=>?_⟩
   rotate_left 2
   ·by_cases hqr:q=r
    ·subst hqr
     refine ⟨d,hd,fun b hb=>?_⟩
     rcases r3 b hb with hb2 | hb2
     ·simp at hb2
     ·exact hb2.1
    ·simp only [putR,if_neg hqr] at he
     exact ⟨e,he,fun b hb=>by rw [r2 q hqr] at hb;exact hb⟩
   ·by_cases hqr:q=r
    ·subst hqr
     rcases r3 b hb with hb2 | ⟨_,hb2⟩
     ·simp at hb2
     ·exact hb2 hb'
    ·simp only [putR,if_neg hqr] at he
     rw [r2 q hqr] at hb
     exact h.dis q r e d hqr he hd b hb (hat.sub b hb')
   ·by_cases hqr:q=r
    ·subst hqr
     obtain ⟨_,x',hx',hs⟩:=r5 s x hx (hq rfl)
     exact ⟨x',by simpa [objOf,putR] using hx',hs⟩
    ·exact ⟨x,by simpa [objOf,putR,hqr] using hx,sameKind_refl x⟩
 ·simp at ho
end
end Go.Proofs.Ytncfmemhjahpeaa.Ab
namespace Go.Proofs.Ytncfmemhjahpeaa.Ab
open Go
def simK (o o':D):Prop:=sameKind o o'\/∃ es es',o = .mp es/\o' = .mp es'
structure Sim (w:World) (ok:Nat->Prop) (σ:St) (ρ:Rn->Value) (w':World) (ok':Nat->Prop) (σ':St) (ρ':Rn->Value) (G:Rn->List Nat->Prop) (g:Rn->List Nat->Rn×List Nat):Prop where
 ok:∀ b,ok b->ok' b/\w'.heap[b]? = w.heap[b]?
 pl:∀ r p o,G r p->σ.obj r p=some o->∃ o',σ'.obj (g r p).1 (g r p).2=some o'/\simK o o'/\hdr w' (ρ' (g r p).1) (g r p).2=hdr w (ρ r) p
mutual
def FV.ats (G:Rn->List Nat->Prop) (I:Rn->Rn->List Nat->Prop):FV->Prop
 | .al r p _ _=>G r p
 | .cu r p _=>G r p
 | .pt r p _=>G r p
 | .ar r p _ _=>G r p
 | .mr r p=>G r p
 | .it r m p _ _=>I r m p
 | .ag fs=>FV.atsL G I fs
 | .tu fs=>FV.atsL G I fs
 | .cl _ fs=>FV.atsL G I fs
 | .fb fs _=>FV.atsL G I fs
 | .d _=>True
 | .sp _ _=>True
 | .dead=>True
def FV.atsL (G:Rn->List Nat->Prop) (I:Rn->Rn->List Nat->Prop):List FV->Prop
 | []=>True
 | f :: r=>f.ats G I/\FV.atsL G I r
end
mutual
theorem ats_mono {G G':Rn->List Nat->Prop} {I I':Rn->Rn->List Nat->Prop} (hG:∀ r p,G r p->G' r p) (hI:∀ r m p,I r m p->I' r m p):∀ f:FV,f.ats G I->f.ats G' I'
 | .al r p _ _,h=>hG r p h
 | .cu r p _,h=>hG r p h
 | .pt r p _,h=>hG r p h
 | .ar r p _ _,h=>hG r p h
 | .mr r p,h=>hG r p h
 | .it r m p _ _,h=>hI r m p h
 | .ag fs,h=>atsL_mono hG hI fs h
 | .tu fs,h=>atsL_mono hG hI fs h
 | .cl _ fs,h=>atsL_mono hG hI fs h
 | .fb fs _,h=>atsL_mono hG hI fs h
 | .d _,_=>trivial
 | .sp _ _,_=>trivial
 | .dead,_=>trivial
theorem atsL_mono {G G':Rn->List Nat->Prop} {I I':Rn->Rn->List Nat->Prop} (hG:∀ r p,G r p->G' r p) (hI:∀ r m p,I r m p->I' r m p):∀ f:List FV,FV.atsL G I f->FV.atsL G' I' f
 | [],_=>trivial
 | f :: r,h=>⟨ats_mono hG hI f h.1,atsL_mono hG hI r h.2⟩
end
theorem simK_ow {k n:Nat} {cs:List D} {o':D} (h:simK (.ow k n cs) o'):∃ cs',o' = .ow k n cs'/\cs'.length=cs.length:=by
 rcases h with h | ⟨es,es',e,_⟩
 ·cases o' <;> simp [sameKind] at h
  obtain ⟨rfl,rfl,h⟩:=h
  exact ⟨_,rfl,h.symm⟩
 ·simp at e
theorem simK_cells {o o':D} {cs:List D} (h:simK o o') (e:o.cells? = some cs):∃ cs',o'.cells? = some cs'/\cs'.length=cs.length:=by
 cases o <;> simp [D.cells?] at e
 ·subst e
  obtain ⟨cs',rfl,hl⟩:=simK_ow h
  exact ⟨cs',rfl,hl⟩
 ·subst e
  rcases h with h | ⟨es,es',e,_⟩
  ·cases o' <;> simp [sameKind] at h
   exact ⟨_,rfl,h.symm⟩
  ·simp at e
theorem simK_mp {o':D} {es:List (List Int×Int)} (h:simK (.mp es) o'):∃ es',o' = .mp es':=by
 rcases h with h | ⟨es,es',_,e⟩
 ·cases o' <;> simp [sameKind] at h
  exact ⟨_,rfl⟩
 ·exact ⟨es',e⟩
section
variable {w w':World} {ok ok':Nat->Prop} {σ σ':St} {ρ ρ':Rn->Value} {G:Rn->List Nat->Prop}
structure ItMv (w:World) (σ:St) (ρ:Rn->Value) (w':World) (σ':St) (ρ':Rn->Value) (I:Rn->Rn->List Nat->Prop) (g:Rn->List Nat->Rn×List Nat):Prop where
 it:∀ r m p b mb es,I r m p->σ.rts r=some .itr->ρ r = .pointer (some ⟨b,0,none⟩)->σ.obj m p=some (.mp es)->hdr w (ρ m) p=some (.map (some mb)) ->
  σ'.rts r=some .itr/\ρ' r=ρ r/\w'.heap[b]? = w.heap[b]?/\σ'.obj (g m p).1 (g m p).2=some (.mp es)/\hdr w' (ρ' (g m p).1) (g m p).2=some (.map (some mb))/\w'.heap[mb]? = w.heap[mb]?
mutual
theorem FR_move {m:Mv} {I:Rn->Rn->List Nat->Prop} (S:Sim w ok σ ρ w' ok' σ' ρ' G m.place) (J:ItMv w σ ρ w' σ' ρ' I m.place):∀ (f:FV) (u:Value),f.ats G I->FR w ok σ ρ f u->FR w' ok' σ' ρ' (f.move m) u
 | .d x,u,_,h=>by
  simp only [FR,FV.move] at h ⊢
  exact Sh_mono S.ok _ _ h
 | .sp cs off,u,_,h=>by
  simp only [FR,FV.move] at h ⊢
  obtain ⟨b,o,e,hb,h⟩:=h
  exact ⟨b,o,e,(S.ok b hb).1,ShL_mono S.ok b hb cs o h⟩
 | .al r p lo n,u,ha,h=>by
  simp only [FR,FV.move] at h ⊢
  obtain ⟨k,N,cs,hv,h1,h2,h3,h4⟩:=h
  obtain ⟨o',k1,k2,k3⟩:=S.pl r p _ ha h1
  obtain ⟨cs',rfl,hl⟩:=simK_ow k2
  exact ⟨k,N,cs',hv,k1,by rw [k3];exact h2,h3,h4⟩
 | .cu r p n,u,ha,h=>by
  simp only [FR,FV.move] at h ⊢
  obtain ⟨k,N,cs,hv,a,M,c,h1,h2,h3⟩:=h
  obtain ⟨o',k1,k2,k3⟩:=S.pl r p _ ha h1
  obtain ⟨cs',rfl,hl⟩:=simK_ow k2
  exact ⟨k,N,cs',hv,a,M,c,k1,by rw [k3];exact h2,h3⟩
 | .pt r p off,u,ha,h=>by
  simp only [FR,FV.move] at h ⊢
  obtain ⟨o,cs,hv,b,q,h1,h2,h3,h4⟩:=h
  obtain ⟨o',k1,k2,k3⟩:=S.pl r p _ ha h1
  obtain ⟨cs',hc',_⟩:=simK_cells k2 h2
  exact ⟨o',cs',hv,b,q,k1,hc',by rw [k3];exact h3,h4⟩
 | .ar r p off n,u,ha,h=>by
  simp only [FR,FV.move] at h ⊢
  obtain ⟨o,cs,hv,b,q,c,h1,h2,h3,h4,h5,h6⟩:=h
  obtain ⟨o',k1,k2,k3⟩:=S.pl r p _ ha h1
  obtain ⟨cs',hc',hl⟩:=simK_cells k2 h2
  exact ⟨o',cs',hv,b,q,c,k1,hc',by rw [k3];exact h3,h4,by rw [hl];exact h5,h6⟩
 | .mr r p,u,ha,h=>by
  simp only [FR,FV.move] at h ⊢
  obtain ⟨es,hv,h1,h2,h3⟩:=h
  obtain ⟨o',k1,k2,k3⟩:=S.pl r p _ ha h1
  obtain ⟨es',rfl⟩:=simK_mp k2
  exact ⟨es',hv,k1,by rw [k3];exact h2,h3⟩
 | .it r m2 p rest cur,u,ha,h=>by
  simp only [FR,FV.move] at h ⊢
  obtain ⟨e,h1,b,mb,es,en,clock,seen,h2,h3,h4,h5,h6,h7,h8⟩:=h
  subst h2
  obtain ⟨k1,k2,k3,k4,k5,k6⟩:=J.it r m2 p b mb es ha h1 e.symm h4 h5
  exact ⟨by rw [k2];exact e,k1,b,mb,es,en,clock,seen,rfl,by rw [k3];exact h3,k4,k5,⟨by rw [k6];exact h6.at_,h6.kv,h6.born,h6.uniq,h6.keys⟩,h7,h8⟩
 | .ag fs,u,ha,h=>by
  simp only [FR,FV.move] at h ⊢
  obtain ⟨vs,e,h⟩:=h
  exact ⟨vs,e,FRL_move S J fs vs.toList ha h⟩
 | .tu fs,u,ha,h=>by
  simp only [FR,FV.move] at h ⊢
  obtain ⟨vs,e,h⟩:=h
  exact ⟨vs,e,FRL_move S J fs vs.toList ha h⟩
 | .cl f fs,u,ha,h=>by
  simp only [FR,FV.move] at h ⊢
  obtain ⟨vs,e,h⟩:=h
  exact ⟨vs,e,FRL_move S J fs vs.toList ha h⟩
 | .fb fs off,u,ha,h=>by
  simp only [FR,FV.move] at h ⊢
  obtain ⟨b,vs,e,hb,hc,h⟩:=h
  exact ⟨b,vs,e,(S.ok b hb).1,fun j v hj=>by rw [cell_eq (S.ok b hb).2];exact hc j v hj,FRL_move S J fs vs ha h⟩
 | .dead,_,_,_=>by simp [FR,FV.move]
theorem FRL_move {m:Mv} {I:Rn->Rn->List Nat->Prop} (S:Sim w ok σ ρ w' ok' σ' ρ' G m.place) (J:ItMv w σ ρ w' σ' ρ' I m.place):∀ (fs:List FV) (us:List Value),FV.atsL G I fs->FRL w ok σ ρ fs us->FRL w' ok' σ' ρ' (FV.moveL m fs) us
 | [],us,_,h=>by simpa [FRL,FV.moveL] using h
 | f :: fs,us,ha,h=>by
  simp only [FRL,FV.moveL] at h ⊢
  obtain ⟨u,vs,e,h1,h2⟩:=h
  exact ⟨u,vs,e,FR_move S J f u ha.1 h1,FRL_move S J fs vs ha.2 h2⟩
end
structure ItOk (w:World) (σ:St) (ρ:Rn->Value) (w':World) (σ':St) (ρ':Rn->Value) (I:Rn->Rn->List Nat->Prop):Prop where
 it:∀ r m p b mb es,I r m p->σ.rts r=some .itr->ρ r = .pointer (some ⟨b,0,none⟩)->σ.obj m p=some (.mp es)->hdr w (ρ m) p=some (.map (some mb)) ->
  σ'.rts r=some .itr/\ρ' r=ρ r/\w'.heap[b]? = w.heap[b]?/\σ'.obj m p=some (.mp es)/\hdr w' (ρ' m) p=some (.map (some mb))/\w'.heap[mb]? = w.heap[mb]?
mutual
theorem FR_same {I:Rn->Rn->List Nat->Prop} (S:Sim w ok σ ρ w' ok' σ' ρ' G (fun r p=>(r,p))) (J:ItOk w σ ρ w' σ' ρ' I):∀ (f:FV) (u:Value),f.ats G I->FR w ok σ ρ f u->FR w' ok' σ' ρ' f u
 | .d x,u,_,h=>by
  simp only [FR] at h ⊢
  exact Sh_mono S.ok _ _ h
 | .sp cs off,u,_,h=>by
  simp only [FR] at h ⊢
  obtain ⟨b,o,e,hb,h⟩:=h
  exact ⟨b,o,e,(S.ok b hb).1,ShL_mono S.ok b hb cs o h⟩
 | .al r p lo n,u,ha,h=>by
  simp only [FR] at h ⊢
  obtain ⟨k,N,cs,hv,h1,h2,h3,h4⟩:=h
  obtain ⟨o',k1,k2,k3⟩:=S.pl r p _ ha h1
  obtain ⟨cs',rfl,hl⟩:=simK_ow k2
  exact ⟨k,N,cs',hv,k1,by rw [k3];exact h2,h3,h4⟩
 | .cu r p n,u,ha,h=>by
  simp only [FR] at h ⊢
  obtain ⟨k,N,cs,hv,a,M,c,h1,h2,h3⟩:=h
  obtain ⟨o',k1,k2,k3⟩:=S.pl r p _ ha h1
  obtain ⟨cs',rfl,hl⟩:=simK_ow k2
  exact ⟨k,N,cs',hv,a,M,c,k1,by rw [k3];exact h2,h3⟩
 | .pt r p off,u,ha,h=>by
  simp only [FR] at h ⊢
  obtain ⟨o,cs,hv,b,q,h1,h2,h3,h4⟩:=h
  obtain ⟨o',k1,k2,k3⟩:=S.pl r p _ ha h1
  obtain ⟨cs',hc',_⟩:=simK_cells k2 h2
  exact ⟨o',cs',hv,b,q,k1,hc',by rw [k3];exact h3,h4⟩
 | .ar r p off n,u,ha,h=>by
  simp only [FR] at h ⊢
  obtain ⟨o,cs,hv,b,q,c,h1,h2,h3,h4,h5,h6⟩:=h
  obtain ⟨o',k1,k2,k3⟩:=S.pl r p _ ha h1
  obtain ⟨cs',hc',hl⟩:=simK_cells k2 h2
  exact ⟨o',cs',hv,b,q,c,k1,hc',by rw [k3];exact h3,h4,by rw [hl];exact h5,h6⟩
 | .mr r p,u,ha,h=>by
  simp only [FR] at h ⊢
  obtain ⟨es,hv,h1,h2,h3⟩:=h
  obtain ⟨o',k1,k2,k3⟩:=S.pl r p _ ha h1
  obtain ⟨es',rfl⟩:=simK_mp k2
  exact ⟨es',hv,k1,by rw [k3];exact h2,h3⟩
 | .it r m p rest cur,u,ha,h=>by
  simp only [FR] at h ⊢
  obtain ⟨e,h1,b,mb,es,en,clock,seen,h2,h3,h4,h5,h6,h7,h8⟩:=h
  subst h2
  obtain ⟨k1,k2,k3,k4,k5,k6⟩:=J.it r m p b mb es ha h1 e.symm h4 h5
  exact ⟨by rw [k2];exact e,k1,b,mb,es,en,clock,seen,rfl,by rw [k3];exact h3,k4,k5,⟨by rw [k6];exact h6.at_,h6.kv,h6.born,h6.uniq,h6.keys⟩,h7,h8⟩
 | .ag fs,u,ha,h=>by
  simp only [FR] at h ⊢
  obtain ⟨vs,e,h⟩:=h
  exact ⟨vs,e,FRL_same S J fs vs.toList ha h⟩
 | .tu fs,u,ha,h=>by
  simp only [FR] at h ⊢
  obtain ⟨vs,e,h⟩:=h
  exact ⟨vs,e,FRL_same S J fs vs.toList ha h⟩
 | .cl f fs,u,ha,h=>by
  simp only [FR] at h ⊢
  obtain ⟨vs,e,h⟩:=h
  exact ⟨vs,e,FRL_same S J fs vs.toList ha h⟩
 | .fb fs off,u,ha,h=>by
  simp only [FR] at h ⊢
  obtain ⟨b,vs,e,hb,hc,h⟩:=h
  exact ⟨b,vs,e,(S.ok b hb).1,fun j v hj=>by rw [cell_eq (S.ok b hb).2];exact hc j v hj,FRL_same S J fs vs ha h⟩
 | .dead,_,_,_=>by simp [FR]
theorem FRL_same {I:Rn->Rn->List Nat->Prop} (S:Sim w ok σ ρ w' ok' σ' ρ' G (fun r p=>(r,p))) (J:ItOk w σ ρ w' σ' ρ' I):∀ (fs:List FV) (us:List Value),FV.atsL G I fs->FRL w ok σ ρ fs us->FRL w' ok' σ' ρ' fs us
 | [],us,_,h=>by simpa [FRL] using h
 | f :: fs,us,ha,h=>by
  simp only [FRL] at h ⊢
  obtain ⟨u,vs,e,h1,h2⟩:=h
  exact ⟨u,vs,e,FR_same S J f u ha.1 h1,FRL_same S J fs vs ha.2 h2⟩
end
def isObj (o:D):Prop:=o.cells?.isSome=true\/∃ es,o = .mp es
mutual
theorem FR_ats:∀ (f:FV) (u:Value),FR w ok σ ρ f u ->
  f.ats (fun r p=>∃ o,σ.obj r p=some o/\isObj o) (fun r m p=>σ.rts r=some .itr/\∃ es,σ.obj m p=some (.mp es))
 | .d x,u,_=>trivial
 | .sp cs off,u,_=>trivial
 | .al r p lo n,u,h=>by
  simp only [FR] at h
  obtain ⟨k,N,cs,hv,h1,_⟩:=h
  exact ⟨_,h1,.inl rfl⟩
 | .cu r p n,u,h=>by
  simp only [FR] at h
  obtain ⟨k,N,cs,hv,a,M,c,h1,_⟩:=h
  exact ⟨_,h1,.inl rfl⟩
 | .pt r p off,u,h=>by
  simp only [FR] at h
  obtain ⟨o,cs,hv,b,q,h1,h2,_⟩:=h
  exact ⟨o,h1,.inl (by simp [h2])⟩
 | .ar r p off n,u,h=>by
  simp only [FR] at h
  obtain ⟨o,cs,hv,b,q,c,h1,h2,_⟩:=h
  exact ⟨o,h1,.inl (by simp [h2])⟩
 | .mr r p,u,h=>by
  simp only [FR] at h
  obtain ⟨es,hv,h1,_⟩:=h
  exact ⟨_,h1,.inr ⟨es,rfl⟩⟩
 | .it r m p rest cur,u,h=>by
  simp only [FR] at h
  obtain ⟨e,h1,b,mb,es,en,clock,seen,h2,h3,h4,_⟩:=h
  exact ⟨h1,es,h4⟩
 | .ag fs,u,h=>by
  simp only [FR] at h
  obtain ⟨vs,e,h⟩:=h
  exact FRL_ats fs vs.toList h
 | .tu fs,u,h=>by
  simp only [FR] at h
  obtain ⟨vs,e,h⟩:=h
  exact FRL_ats fs vs.toList h
 | .cl f fs,u,h=>by
  simp only [FR] at h
  obtain ⟨vs,e,h⟩:=h
  exact FRL_ats fs vs.toList h
 | .fb fs off,u,h=>by
  simp only [FR] at h
  obtain ⟨b,vs,e,hb,hc,h⟩:=h
  exact FRL_ats fs vs h
 | .dead,_,_=>trivial
theorem FRL_ats:∀ (fs:List FV) (us:List Value),FRL w ok σ ρ fs us ->
  FV.atsL (fun r p=>∃ o,σ.obj r p=some o/\isObj o) (fun r m p=>σ.rts r=some .itr/\∃ es,σ.obj m p=some (.mp es)) fs
 | [],us,_=>trivial
 | f :: fs,us,h=>by
  simp only [FRL] at h
  obtain ⟨u,vs,e,h1,h2⟩:=h
  exact ⟨FR_ats f u h1,FRL_ats fs vs h2⟩
end
mutual
theorem ats_under {r:Rn} {p:List Nat} {G:Rn->List Nat->Prop} {I:Rn->Rn->List Nat->Prop}:∀ f:FV,f.under r p=false->f.ats G I ->
  f.ats (fun q s=>G q s/\(q=r->isPre p s=false)) (fun q m s=>I q m s/\q≠r/\(m=r->isPre p s=false))
 | .al q s _ _,h,g=>⟨g,fun e=>by simpa [FV.under,e] using h⟩
 | .cu q s _,h,g=>⟨g,fun e=>by simpa [FV.under,e] using h⟩
 | .pt q s _,h,g=>⟨g,fun e=>by simpa [FV.under,e] using h⟩
 | .ar q s _ _,h,g=>⟨g,fun e=>by simpa [FV.under,e] using h⟩
 | .mr q s,h,g=>⟨g,fun e=>by simpa [FV.under,e] using h⟩
 | .it q m s _ _,h,g=>by
  simp only [FV.under] at h
  refine ⟨g,fun e=>by simp [e] at h,fun e=>?_⟩
  split at h
  ·simp at h
  ·simpa [e] using h
 | .ag fs,h,g=>atsL_under fs (by simpa [FV.under] using h) g
 | .tu fs,h,g=>atsL_under fs (by simpa [FV.under] using h) g
 | .cl _ fs,h,g=>atsL_under fs (by simpa [FV.under] using h) g
 | .fb fs _,h,g=>atsL_under fs (by simpa [FV.under] using h) g
 | .d _,_,_=>trivial
 | .sp _ _,_,_=>trivial
 | .dead,_,_=>trivial
theorem atsL_under {r:Rn} {p:List Nat} {G:Rn->List Nat->Prop} {I:Rn->Rn->List Nat->Prop}:∀ fs:List FV,FV.underL r p fs=false->FV.atsL G I fs ->
  FV.atsL (fun q s=>G q s/\(q=r->isPre p s=false)) (fun q m s=>I q m s/\q≠r/\(m=r->isPre p s=false)) fs
 | [],_,_=>trivial
 | f :: fs,h,g=>by
  simp only [FV.underL,Bool.or_eq_false_iff] at h
  exact ⟨ats_under f h.1 g.1,atsL_under fs h.2 g.2⟩
end
end
end Go.Proofs.Ytncfmemhjahpeaa.Ab
namespace Go.Proofs.Ytncfmemhjahpeaa.Ab
open Go
theorem Ow_leaf {w:World} {ok:Nat->Prop} {x:D} {v:Value} (hl:x.leaf=true) (h:Sh w ok x v):Ow w ok x v []:=by
 cases x <;> simp [D.leaf] at hl <;> simp only [Ow,true_and] <;> first | exact h | (simp only [Sh] at h;exact h)
theorem leaf_one {w:World} {ok:Nat->Prop} {x:D} {v:Value} (hl:x.leaf=true) (h:Sh w ok x v):v.oneCell'=true:=
 Ow_oneCell (Ow_leaf hl h) (by rintro rfl;simp [D.leaf] at hl) (by rintro x rfl;simpa [D.leaf] using hl)
theorem sameKind_trans {a b c:D} (h:sameKind a b) (k:sameKind b c):sameKind a c:=by
 cases a <;> cases b <;> simp [sameKind] at h <;> cases c <;> simp [sameKind] at k ⊢ <;> simp_all
theorem stripP_some:∀ {p s t:List Nat},stripP p s=some t->s=p ++ t
 | [],s,t,h=>by simpa [stripP] using h
 | i :: p,[],t,h=>by simp [stripP] at h
 | i :: p,j :: s,t,h=>by
  simp only [stripP] at h
  split at h
  ·rename_i e
   rw [stripP_some h,e];rfl
  ·simp at h
theorem stripP_none:∀ {p s:List Nat},stripP p s=none->isPre p s=false
 | [],s,h=>by simp [stripP] at h
 | i :: p,[],h=>by simp [isPre]
 | i :: p,j :: s,h=>by
  simp only [stripP] at h
  simp only [isPre]
  split at h
  ·rename_i e
   rw [if_pos e];exact stripP_none h
  ·rename_i e
   rw [if_neg e]
abbrev Bnd (w0:World) (fp0:List Nat) (ok:Nat->Prop) (n:Nat):Nat->Prop:=fun b=>¬ ok b/\(b∈fp0\/w0.heap.size<=b)/\b < n
theorem Rel.rts_ {w0:World} {fp0:List Nat} {ok:Nat->Prop} {σ:St} {θ:Nat->Value} {w:World} {ρ:Rn->Value} {φ:Rn->List Nat} (h:Rel w0 fp0 ok σ θ w ρ φ) :
  Rts w ok (Bnd w0 fp0 ok w.heap.size) σ.rts ρ φ:=⟨h.own,h.dis⟩
theorem Rel.of_rts {w0:World} {fp0:List Nat} {ok:Nat->Prop} {σ:St} {θ:Nat->Value} {w:World} {ρ:Rn->Value} {φ:Rn->List Nat} (h:Rts w ok (Bnd w0 fp0 ok w.heap.size) σ.rts ρ φ)
  (he:∀ t,FR w ok σ ρ (σ.env t) (θ t)) (hb:∀ b,ok b->b < w.heap.size) (hf:Keeps w0 fp0 w):Rel w0 fp0 ok σ θ w ρ φ:=⟨h.own,h.dis,he,hb,hf⟩
theorem Keeps.setCell {w0 w:World} {fp0:List Nat} (h:Keeps w0 fp0 w) {a:Addr} {v:Value} (ha:a.block∈fp0\/w0.heap.size<=a.block):Keeps w0 fp0 (w.setCell a v):=
 ⟨h.os,h.out,h.tape,h.drawn,by simpa using h.size,fun b hb hn=>by
  rw [Go.RowKit.Below.heap_setCell w a v b (by rintro rfl;rcases ha with ha | ha;exact hn ha;omega)]
  exact h.old b hb hn⟩
theorem absorb_nonleaf {w:World} {ok:Nat->Prop} {σ:St} {ρ:Rn->Value} {f:FV} {r':Rn} {p':List Nat} {e:D} {σ1:St} {v:Value} {B:Nat->Prop} {φ:Rn->List Nat} (hR:Rts w ok B σ.rts ρ φ)
  (h:σ.absorb f r' p'=some (e,σ1)) (hf:FR w ok σ ρ f v):(e.leaf=true/\σ1=σ/\Sh w ok e v) \/
   ∃ r p,objOf σ.rts r p=some e/\isObj e/\hdr w (ρ r) p=some v/\σ1 = { (σ.take r p) with env:=fun t=>(σ.env t).move ⟨r,p,r',p'⟩ }:=by
 cases f with
 | d x=>
  simp only [St.absorb] at h
  split at h
  ·rename_i hl
   cases h
   exact .inl ⟨hl,rfl,by simpa [FR] using hf⟩
  ·simp at h
 | al r p lo n=>
  simp only [St.absorb] at h
  split at h
  ·rename_i k N cs ho
   split at h
   ·rename_i hc
    obtain ⟨rfl,rfl⟩:=hc
    cases h
    simp only [FR] at hf
    obtain ⟨k',N',cs',hv,h1,h2,h3,h4⟩:=hf
    rw [ho] at h1
    cases h1
    refine .inr ⟨r,p,ho,.inl rfl,?_,rfl⟩
    rcases h4 with ⟨_,a,M,c,e1,e2⟩ | ⟨h5,_⟩
    ·obtain ⟨hv2,fo,hat⟩:=hR.at_ (r:=r) (p:=p) ho
     have e3:hv2=hv:=by have:=hat.hdr;rw [h2] at this;injection this with this;exact this.symm
     subst e3
     have hM:M=n:=by
      have:=hat.own
      subst e1
      simp only [Ow] at this
      rcases this with ⟨hn,_,_,a',e⟩ | ⟨b,o,c',arr,T,fp',e,_⟩
      ·injection e with _ e _;omega
      ·injection e
     subst hM
     rw [e2,<-e1];exact h2
    ·omega
   ·simp at h
  ·simp at h
 | pt r p o=>
  simp only [St.absorb] at h
  split at h
  ·rename_i cs ho
   split at h
   ·rename_i hc
    subst hc
    cases h
    simp only [FR] at hf
    obtain ⟨o',cs',hv,b,q,h1,h2,h3,h4,h5⟩:=hf
    rw [ho] at h1
    cases h1
    refine .inr ⟨r,p,ho,.inl rfl,?_,rfl⟩
    obtain ⟨hv2,fo,hat⟩:=hR.at_ (r:=r) (p:=p) ho
    have e3:hv2=hv:=by have:=hat.hdr;rw [h3] at this;injection this with this;exact this.symm
    subst e3
    have:=hat.own
    simp only [Ow] at this
    obtain ⟨b',arr,T,fp',e,_⟩:=this
    subst e
    simp only [baseOf,Option.some.injEq,Prod.mk.injEq] at h4
    obtain ⟨rfl,rfl⟩:=h4
    rw [h5];exact h3
   ·simp at h
  ·simp at h
 | mr r p=>
  simp only [St.absorb] at h
  split at h
  ·rename_i es ho
   cases h
   simp only [FR] at hf
   obtain ⟨es',hv,h1,h2,h3⟩:=hf
   exact .inr ⟨r,p,ho,.inr ⟨_,rfl⟩,by rw [h3];exact h2,rfl⟩
  ·simp at h
 | _=>simp [St.absorb] at h
section
variable {w0:World} {fp0:List Nat} {ok:Nat->Prop} {σ:St} {θ:Nat->Value} {w:World} {ρ:Rn->Value} {φ:Rn->List Nat}
theorem quiet_noObj {x:D} (h:x.quiet=true):∀ s o,look x s=some o->¬ isObj o:=by
 have hc:x.cells? = none:=by cases x <;> simp [D.quiet,D.leaf,D.cells?] at h ⊢
 intro s o hs
 cases s with
 | nil=>
  simp only [look,Option.some.injEq] at hs
  subst hs
  rintro (h1 | ⟨es,rfl⟩)
  ·simp [hc] at h1
  ·simp [D.quiet,D.leaf] at h
 | cons i s=>simp [look,hc] at hs
def GS (σ:St) (r:Rn) (pi:List Nat) (q:Rn) (s:List Nat):Prop:=(∃ o,σ.obj q s=some o/\isObj o)/\(q=r->isPre pi s=false)
def IS (σ:St) (r:Rn) (pi:List Nat) (q m:Rn) (s:List Nat):Prop:=(σ.rts q=some .itr/\∃ es,σ.obj m s=some (.mp es))/\(m=r->isPre pi s=false)/\(q=r->isPre pi []=false)
mutual
theorem ats_quiet {r:Rn} {pi:List Nat} (hq:∀ s o,σ.obj r (pi ++ s)=some o->¬ isObj o) (hp:pi≠[]):∀ f:FV,f.ats (fun r p=>∃ o,σ.obj r p=some o/\isObj o) (fun r m p=>σ.rts r=some .itr/\∃ es,σ.obj m p=some (.mp es)) ->
  f.ats (GS σ r pi) (IS σ r pi)
 | .al q s _ _,h=>⟨h,fun e=>by
   subst e;obtain ⟨o,h1,h2⟩:=h
   cases hh:isPre pi s with
   | false=>rfl
   | true=>obtain ⟨t,rfl⟩:=isPre_iff hh;exact absurd h2 (hq t o h1)⟩
 | .cu q s _,h=>⟨h,fun e=>by
   subst e;obtain ⟨o,h1,h2⟩:=h
   cases hh:isPre pi s with
   | false=>rfl
   | true=>obtain ⟨t,rfl⟩:=isPre_iff hh;exact absurd h2 (hq t o h1)⟩
 | .pt q s _,h=>⟨h,fun e=>by
   subst e;obtain ⟨o,h1,h2⟩:=h
   cases hh:isPre pi s with
   | false=>rfl
   | true=>obtain ⟨t,rfl⟩:=isPre_iff hh;exact absurd h2 (hq t o h1)⟩
 | .ar q s _ _,h=>⟨h,fun e=>by
   subst e;obtain ⟨o,h1,h2⟩:=h
   cases hh:isPre pi s with
   | false=>rfl
   | true=>obtain ⟨t,rfl⟩:=isPre_iff hh;exact absurd h2 (hq t o h1)⟩
 | .mr q s,h=>⟨h,fun e=>by
   subst e;obtain ⟨o,h1,h2⟩:=h
   cases hh:isPre pi s with
   | false=>rfl
   | true=>obtain ⟨t,rfl⟩:=isPre_iff hh;exact absurd h2 (hq t o h1)⟩
 | .it q m s _ _,h=>⟨h,fun e=>by
   subst e;obtain ⟨_,es,h1⟩:=h
   cases hh:isPre pi s with
   | false=>rfl
   | true=>obtain ⟨t,rfl⟩:=isPre_iff hh;exact absurd (.inr ⟨es,rfl⟩) (hq t _ h1),fun _=>by cases pi with | nil=>exact absurd rfl hp | cons=>rfl⟩
 | .ag fs,h=>atsL_quiet hq hp fs h
 | .tu fs,h=>atsL_quiet hq hp fs h
 | .cl _ fs,h=>atsL_quiet hq hp fs h
 | .fb fs _,h=>atsL_quiet hq hp fs h
 | .d _,_=>trivial
 | .sp _ _,_=>trivial
 | .dead,_=>trivial
theorem atsL_quiet {r:Rn} {pi:List Nat} (hq:∀ s o,σ.obj r (pi ++ s)=some o->¬ isObj o) (hp:pi≠[]):∀ f:List FV,FV.atsL (fun r p=>∃ o,σ.obj r p=some o/\isObj o) (fun r m p=>σ.rts r=some .itr/\∃ es,σ.obj m p=some (.mp es)) f ->
  FV.atsL (GS σ r pi) (IS σ r pi) f
 | [],_=>trivial
 | f :: fs,h=>⟨ats_quiet hq hp f h.1,atsL_quiet hq hp fs h.2⟩
end
theorem killed_env (h:Rel w0 fp0 ok σ θ w ρ φ) {r:Rn} {p:List Nat} {i:Nat} {d o old:D} {cs:List D} (hd:σ.rts r=some d) (hl:look d p=some o) (hc:o.cells? = some cs) (hi:cs[i]? = some old) (t:Nat) :
  let σa:=if old.quiet then σ else σ.kill r (p ++ [i])
  FR w ok σ ρ (σa.env t) (θ t)/\(σa.env t).ats (GS σ r (p ++ [i])) (IS σ r (p ++ [i]))/\σa.rts=σ.rts:=by
 intro σa
 have hobj:∀ s x,σ.obj r (p ++ [i] ++ s)=some x->look old s=some x:=fun s x hx=>by
  simp only [St.obj,hd] at hx
  rw [List.append_assoc,look_append,hl] at hx
  simpa [look,hc,hi] using hx
 by_cases hq:old.quiet=true
 ·have e:σa=σ:=by simp [σa,hq]
  rw [e]
  refine ⟨h.env t,ats_quiet (fun s x hx=>quiet_noObj hq s x (hobj s x hx)) (by simp) _ (FR_ats _ _ (h.env t)),rfl⟩
 ·have e:σa=σ.kill r (p ++ [i]):=by simp [σa,hq]
  rw [e]
  refine ⟨?_,?_,rfl⟩
  ·simp only [St.kill]
   split
   ·simp [FR]
   ·exact h.env t
  ·simp only [St.kill]
   split
   ·exact trivial
   ·rename_i hu
    have:=ats_under (σ.env t) (by simpa using hu) (FR_ats _ _ (h.env t))
    exact ats_mono (fun q s hh=>hh) (fun q m s hh=>⟨hh.1,hh.2.2,fun e=>absurd e hh.2.1⟩) _ this
theorem FR_st {σ1 σ2:St} (h:σ1.rts=σ2.rts):∀ f u,FR w ok σ1 ρ f u->FR w ok σ2 ρ f u:=by
 intro f u hf
 refine FR_same (G:=fun _ _=>True) (I:=fun _ _ _=>True) ⟨fun b hb=>⟨hb,rfl⟩,fun r p o _ ho=>⟨o,by simpa [St.obj,h] using ho,.inl (sameKind_refl o),rfl⟩⟩
  ⟨fun r m p b mb es _ h1 h2 h3 h4=>⟨by rw [<-h];exact h1,rfl,rfl,by simpa [St.obj,h] using h3,h4,rfl⟩⟩ f u ?_ hf
 exact ats_mono (fun _ _ _=>trivial) (fun _ _ _ _=>trivial) f (FR_ats f u hf)
theorem FR_env {e:Nat->FV} (f:FV) (u:Value) (h:FR w ok σ ρ f u):FR w ok { σ with env:=e } ρ f u:=FR_st (σ1:=σ) (σ2:={ σ with env:=e }) rfl f u h
theorem store1_sound (h:Rel w0 fp0 ok σ θ w ρ φ) {r:Rn} {p:List Nat} {i:Nat} {f:FV} {v:Value} {σ':St} (hs:σ.store1 r p i f=some σ') (hf:FR w ok σ ρ f v) :
  ∃ hv b q,hdr w (ρ r) p=some hv/\baseOf hv=some (b,q)/\(∃ u,w.cell? ⟨b,q+i,none⟩ = some u)/\w.frozen? ⟨b,q+i,none⟩ = false /\
   (∃ φ',Rel w0 fp0 ok σ' θ (w.setCell ⟨b,q+i,none⟩ v) ρ φ') /\
   (∃ o o' cs cs',σ.obj r p=some o/\o.cells? = some cs/\σ'.obj r p=some o'/\o'.cells? = some cs')/\hdr (w.setCell ⟨b,q+i,none⟩ v) (ρ r) p=some hv/\¬ ok b/\v.oneCell'=true:=by
 unfold St.store1 at hs
 split at hs
 case h_2=>simp at hs
 rename_i o ho
 split at hs
 case h_2=>simp at hs
 rename_i cs hc
 split at hs
 case h_2=>simp at hs
 rename_i old hi
 split at hs
 case h_2=>simp at hs
 rename_i e σ1 habs
 split at hs
 case h_2=>simp at hs
 rename_i o1 ho1
 split at hs
 case h_2=>simp at hs
 rename_i cs1 hc1
 simp only [Option.some.injEq] at hs
 have ho':=ho
 simp only [St.obj] at ho
 split at ho
 case h_2=>simp at ho
 rename_i d hd
 have hke:=killed_env h hd ho hc hi
 simp only at hke
 generalize hσa:(if old.quiet=true then σ else σ.kill r (p ++ [i]))=σa at *
 have hrts:σa.rts=σ.rts:=(hke 0).2.2
 have hRa:Rts w ok (Bnd w0 fp0 ok w.heap.size) σa.rts ρ φ:=hrts ▸ h.rts_
 have hBok:∀ b,Bnd w0 fp0 ok w.heap.size b->¬ ok b:=fun b hb=>hb.1
 rcases absorb_nonleaf hRa habs (FR_st hrts.symm _ _ hf) with ⟨hl,rfl,hsh⟩ | ⟨r2,p2,ho2,hobj2,hv2,rfl⟩
 ·-- a leaf
  have e1:o1=o:=by
   have:σ1.obj r p=σ.obj r p:=by simp [St.obj,hrts]
   rw [this,ho'] at ho1;injection ho1 with ho1;exact ho1.symm
  subst e1
  have e2:cs1=cs:=by rw [hc] at hc1;injection hc1 with hc1;exact hc1.symm
  subst e2
  obtain ⟨hv,b,q,k1,k2,k3,k4,k5,φ',k6,k7,k8,k9⟩:=hRa.write hBok (by rw [hrts];exact hd) ho hc hi (Ow_leaf hl hsh) (by simp) (by simp) (by simp)
  have erts:σ'.rts=putR σ1.rts r (some (putAt d p (o1.setCells (cs1.set i e)))):=by
   rw [<-hs];simp only [St.put,hrts,hd];rfl
  have eenv:σ'.env=σ1.env:=by rw [<-hs];simp only [St.put,hrts,hd]
  have hsize:(w.setCell ⟨b,q+i,none⟩ v).heap.size=w.heap.size:=by simp
  have hobjn:∀ q' s,σ'.obj q' s=objOf (putR σ1.rts r (some (putAt d p (o1.setCells (cs1.set i e))))) q' s:=fun q' s=>by rw [obj_eq,erts]
  have hobjr:∀ s,σ'.obj r s=look (putAt d p (o1.setCells (cs1.set i e))) s:=fun s=>by rw [hobjn];simp [objOf,putR]
  have hobjo:∀ q' s,q'≠r->σ'.obj q' s=σ.obj q' s:=fun q' s hq=>by rw [hobjn,obj_eq];simp only [objOf,putR,if_neg hq,hrts]
  have hplace:∀ q' s x,GS σ r (p ++ [i]) q' s->σ.obj q' s=some x->∃ x',σ'.obj q' s=some x'/\sameKind x x'/\hdr (w.setCell ⟨b,q+i,none⟩ v) (ρ q') s=hdr w (ρ q') s:=fun q' s x hg hx=>by
   by_cases hq:q'=r
   ·subst hq
    obtain ⟨a1,x',a2,a3⟩:=k8 s x (by rw [hrts];exact hx) (hg.2 rfl)
    exact ⟨x',by rw [hobjr];exact a2,a3,a1⟩
   ·exact ⟨x,by rw [hobjo q' s hq];exact hx,sameKind_refl x,k7 q' s hq (by rw [hrts,<-obj_eq,hx];simp)⟩
  have hkk:∀ c,ok c->(w.setCell ⟨b,q+i,none⟩ v).heap[c]? = w.heap[c]?:=fun c hc=>Go.RowKit.Below.heap_setCell w _ v c (fun e=>by subst e;exact k3.1 hc)
  have S:Sim w ok σ ρ (w.setCell ⟨b,q+i,none⟩ v) ok σ' ρ (GS σ r (p ++ [i])) (fun r p=>(r,p)):=
   ⟨fun c hc=>⟨hc,hkk c hc⟩,fun q' s x hg hx=>by
    obtain ⟨x',a1,a2,a3⟩:=hplace q' s x hg hx
    exact ⟨x',a1,.inl a2,a3⟩⟩
  have J:ItOk w σ ρ (w.setCell ⟨b,q+i,none⟩ v) σ' ρ (IS σ r (p ++ [i])):=⟨fun q' m s bi mb es hI g1 g2 g3 g4=>by
   obtain ⟨x',a1,a2,a3⟩:=hplace m s _ ⟨⟨_,g3,.inr ⟨es,rfl⟩⟩,hI.2.1⟩ g3
   have ex:x' = .mp es:=by cases x' <;> simp [sameKind] at a2;rw [a2]
   subst ex
   -- the blocks of the iterator and of the map are not the one that is written: both are rows of other kinds
   have hnb:∀ c x,w.heap[c]? = some x->(∀ arr T fz,x≠Obj.cells arr T fz)->(w.setCell ⟨b,q+i,none⟩ v).heap[c]? = w.heap[c]?:=fun c x hx hne=>by
    refine Go.RowKit.Below.heap_setCell w _ v c fun e=>?_
    subst e
    obtain ⟨u,hu⟩:=k4
    unfold World.cell? at hu
    rw [hx] at hu
    cases x <;> simp at hu
    exact hne _ _ _ rfl
   have g1':σ'.rts q'=some .itr:=by
    rw [erts]
    by_cases hq:q'=r
    ·subst hq
     rw [hd] at g1
     cases g1
     cases p with
     | nil=>simp [look] at ho;subst ho;simp [D.cells?] at hc
     | cons j p=>simp [look,D.cells?] at ho
    ·simpa [putR,hq,hrts] using g1
   obtain ⟨z1,z2,z3⟩:=h.own q' _ g1
   simp only [Ow] at z1
   obtain ⟨b1,m1,s1,x1,l1,y1,y2,y3⟩:=z1
   rw [g2] at y1
   injection y1 with y1;injection y1 with y1;injection y1 with y1 _ _
   subst y1
   refine ⟨g1',rfl,hnb bi _ y3 (by simp),a1,by rw [a3];exact g4,?_⟩
   obtain ⟨hv5,fo5,hat5⟩:=h.rts_.at_ (r:=m) (p:=s) g3
   have:=hat5.own
   simp only [Ow] at this
   obtain ⟨m6,en6,cl6,e6,e7,e8⟩:=this
   have:hv5 = .map (some mb):=by have:=hat5.hdr;rw [g4] at this;injection this with this;exact this.symm
   rw [this] at e6
   injection e6 with e6;injection e6 with e6
   subst e6
   exact hnb mb _ e8.at_ (by simp)⟩
  refine ⟨hv,b,q,k1,k2,k4,k5,⟨φ',Rel.of_rts (by rw [erts,hsize];exact k6) (fun t=>?_) (fun c hc=>by rw [hsize];exact h.okb c hc) (h.frm.setCell k3.2.1)⟩,⟨o1,o1.setCells (cs1.set i e),cs1,cs1.set i e,ho',hc,?_,cells_setCells hc⟩,?_⟩
  ·rw [eenv]
   exact FR_same S J _ _ (hke t).2.1 (hke t).1
  ·have:=look_putAt p d o1 (o1.setCells (cs1.set i e)) [] ho
   rw [List.append_nil] at this
   rw [hobjr,this];simp [look]
  ·refine ⟨?_,k3.1,leaf_one hl hsh⟩
   by_cases hpp:isPre (p ++ [i]) p=true
   ·obtain ⟨t,ht⟩:=isPre_iff hpp
    have:=congrArg List.length ht
    simp at this
   ·rw [(k8 p o1 (by rw [hrts];exact ho') (by simpa using hpp)).1];exact k1
 ·-- an owned tree is moved
  obtain ⟨hv',fo,φ1,t1,t2,t3,t4,t5,t6,t7,_⟩:=hRa.take ho2
  have ehv:hv'=v:=by rw [hv2] at t1;injection t1 with t1;exact t1.symm
  subst ehv
  have etk:=take_rts σa r2 p2
  have ho1':objOf (takeR σa.rts r2 p2) r p=some o1:=by
   have:St.obj { (σa.take r2 p2) with env:=fun t=>(σa.env t).move ⟨r2,p2,r,p ++ [i]⟩ } r p=objOf (takeR σa.rts r2 p2) r p:=by rw [obj_eq];simp only [etk.1]
   rw [this] at ho1;exact ho1
  have hobj1:=ho1'
  unfold objOf at ho1'
  split at ho1'
  case h_2=>simp at ho1'
  rename_i d1 hd1
  -- the object is still of the same length
  have hlen:∃ old1,cs1[i]? = some old1:=by
   have hlt:i < cs.length:=by
    rcases Nat.lt_or_ge i cs.length with h' | h'
    ·exact h'
    ·simp [List.getElem?_eq_none h'] at hi
   have:cs1.length=cs.length:=by
    by_cases hpre:r=r2/\isPre p2 p=true
    ·obtain ⟨rfl,hpp⟩:=hpre
     obtain ⟨t,rfl⟩:=isPre_iff hpp
     -- what was taken holds nothing any more
     exfalso
     cases p2 with
     | nil=>simp [takeR,putR] at hd1
     | cons j p2=>
      simp only [takeR,hrts,hd] at hd1
      simp only [putR,↓reduceIte,Option.some.injEq] at hd1
      subst hd1
      have:=look_putAt (j :: p2) d e .gone t (by have:=ho2;simp only [objOf,hrts,hd] at this;exact this)
      rw [this] at ho1'
      cases t with
      | nil=>simp [look] at ho1';subst ho1';simp [D.cells?] at hc1
      | cons=>simp [look,D.cells?] at ho1'
    ·have hpre':r=r2->isPre p2 p=false:=fun e=>by
      cases hh:isPre p2 p with
      | false=>rfl
      | true=>exact absurd ⟨e,hh⟩ hpre
     obtain ⟨x',hx',hk⟩:=t7 r p o (by rw [hrts];exact ho') hpre'
     rw [hobj1] at hx'
     cases hx'
     obtain ⟨cs',e1,e2⟩:=simK_cells (.inl hk) hc
     rw [hc1] at e1
     cases e1
     exact e2
   exact ⟨cs1[i],List.getElem?_eq_getElem (by omega)⟩
  obtain ⟨old1,hi1⟩:=hlen
  obtain ⟨hv,b,q,k1,k2,k3,k4,k5,φ',k6,k7,k8,k9⟩:=t5.write hBok hd1 ho1' hc1 hi1 t2 t3 t4 t6
  have erts:σ'.rts=putR (takeR σa.rts r2 p2) r (some (putAt d1 p (o1.setCells (cs1.set i e)))):=by
   rw [<-hs];simp only [St.put,etk.1,hd1];rfl
  have eenv:σ'.env=fun t=>(σa.env t).move ⟨r2,p2,r,p ++ [i]⟩:=by rw [<-hs];simp only [St.put,etk.1,hd1]
  have hsize:(w.setCell ⟨b,q+i,none⟩ hv').heap.size=w.heap.size:=by simp
  have hobjr:∀ s,σ'.obj r s=look (putAt d1 p (o1.setCells (cs1.set i e))) s:=fun s=>by rw [obj_eq,erts];simp [objOf,putR]
  have hobjo:∀ q' s,q'≠r->σ'.obj q' s=objOf (takeR σa.rts r2 p2) q' s:=fun q' s hq=>by rw [obj_eq,erts];simp [objOf,putR,hq]
  have hkk:∀ c,ok c->(w.setCell ⟨b,q+i,none⟩ hv').heap[c]? = w.heap[c]?:=fun c hc=>Go.RowKit.Below.heap_setCell w _ hv' c (fun e=>by subst e;exact k3.1 hc)
  have hplace:∀ q' s x,GS σ r (p ++ [i]) q' s->σ.obj q' s=some x->∃ o',σ'.obj (Mv.place ⟨r2,p2,r,p ++ [i]⟩ q' s).1 (Mv.place ⟨r2,p2,r,p ++ [i]⟩ q' s).2=some o'/\sameKind x o' /\
    hdr (w.setCell ⟨b,q+i,none⟩ hv') (ρ (Mv.place ⟨r2,p2,r,p ++ [i]⟩ q' s).1) (Mv.place ⟨r2,p2,r,p ++ [i]⟩ q' s).2=hdr w (ρ q') s:=by
   intro q' s x hg hx
   have stay:(q'=r2->isPre p2 s=false)->∃ o',σ'.obj q' s=some o'/\sameKind x o'/\hdr (w.setCell ⟨b,q+i,none⟩ hv') (ρ q') s=hdr w (ρ q') s:=fun hst=>by
    obtain ⟨x1,hx1,hk1⟩:=t7 q' s x (by rw [hrts];exact hx) hst
    by_cases hq:q'=r
    ·subst hq
     obtain ⟨a1,x2,a2,a3⟩:=k8 s x1 hx1 (hg.2 rfl)
     exact ⟨x2,by rw [hobjr];exact a2,sameKind_trans hk1 a3,a1⟩
    ·exact ⟨x1,by rw [hobjo q' s hq];exact hx1,hk1,k7 q' s hq (by rw [hx1];simp)⟩
   simp only [Mv.place]
   by_cases hqr:q'=r2
   ·subst hqr
    simp only [↓reduceIte]
    split
    ·rename_i t ht
     have es:=stripP_some ht
     subst es
     have hx':look e t=some x:=by
      have:=hx
      simp only [St.obj] at this
      rw [<-hrts] at this
      simp only [objOf] at ho2
      split at ho2
      ·rename_i d2 hd2
       simp only [hd2,look_append,ho2,Option.bind_some] at this
       exact this
      ·simp at ho2
     obtain ⟨a1,a2⟩:=k9 t x hx'
     refine ⟨x,by rw [hobjr];exact a1,sameKind_refl x,?_⟩
     rw [a2,hdr_append,hv2]
     rfl
    ·rename_i hst
     exact stay fun _=>stripP_none hst
   ·simp only [if_neg hqr]
    exact stay fun e=>absurd e hqr
  have S:Sim w ok σ ρ (w.setCell ⟨b,q+i,none⟩ hv') ok σ' ρ (GS σ r (p ++ [i])) (Mv.place ⟨r2,p2,r,p ++ [i]⟩):=
   ⟨fun c hc=>⟨hc,hkk c hc⟩,fun q' s x hg hx=>by
    obtain ⟨x',a1,a2,a3⟩:=hplace q' s x hg hx
    exact ⟨x',a1,.inl a2,a3⟩⟩
  have J:ItMv w σ ρ (w.setCell ⟨b,q+i,none⟩ hv') σ' ρ (IS σ r (p ++ [i])) (Mv.place ⟨r2,p2,r,p ++ [i]⟩):=⟨fun q' m s bi mb es hI g1 g2 g3 g4=>by
   obtain ⟨x',a1,a2,a3⟩:=hplace m s _ ⟨⟨_,g3,.inr ⟨es,rfl⟩⟩,hI.2.1⟩ g3
   have ex:x' = .mp es:=by cases x' <;> simp [sameKind] at a2;rw [a2]
   subst ex
   have hnb:∀ c x,w.heap[c]? = some x->(∀ arr T fz,x≠Obj.cells arr T fz)->(w.setCell ⟨b,q+i,none⟩ hv').heap[c]? = w.heap[c]?:=fun c x hx hne=>by
    refine Go.RowKit.Below.heap_setCell w _ hv' c fun e=>?_
    subst e
    obtain ⟨u,hu⟩:=k4
    unfold World.cell? at hu
    rw [hx] at hu
    cases x <;> simp at hu
    exact hne _ _ _ rfl
   have hq1:q'≠r:=by
    rintro rfl
    rw [hd] at g1
    cases g1
    cases p with
    | nil=>simp [look] at ho;subst ho;simp [D.cells?] at hc
    | cons j p=>simp [look,D.cells?] at ho
   have hq2:q'≠r2:=by
    rintro rfl
    simp only [objOf,hrts,g1] at ho2
    cases p2 with
    | nil=>simp [look] at ho2;subst ho2;rcases hobj2 with h | ⟨_,h⟩ <;> simp [D.cells?] at h
    | cons j p2=>simp [look,D.cells?] at ho2
   have g1':σ'.rts q'=some .itr:=by
    rw [erts]
    simp only [putR,if_neg hq1]
    cases p2 with
    | nil=>simpa [takeR,putR,hq2,hrts] using g1
    | cons j p2=>
     simp only [takeR]
     cases hh:σa.rts r2 with
     | some d9=>simpa [putR,hq2,hrts] using g1
     | none=>simpa [hrts] using g1
   obtain ⟨z1,z2,z3⟩:=h.own q' _ g1
   simp only [Ow] at z1
   obtain ⟨b1,m1,s1,x1,l1,y1,y2,y3⟩:=z1
   rw [g2] at y1
   injection y1 with y1;injection y1 with y1;injection y1 with y1 _ _
   subst y1
   refine ⟨g1',rfl,hnb bi _ y3 (by simp),a1,by rw [a3];exact g4,?_⟩
   obtain ⟨hv5,fo5,hat5⟩:=h.rts_.at_ (r:=m) (p:=s) g3
   have:=hat5.own
   simp only [Ow] at this
   obtain ⟨m6,en6,cl6,e6,e7,e8⟩:=this
   have:hv5 = .map (some mb):=by have:=hat5.hdr;rw [g4] at this;injection this with this;exact this.symm
   rw [this] at e6
   injection e6 with e6;injection e6 with e6
   subst e6
   exact hnb mb _ e8.at_ (by simp)⟩
  refine ⟨hv,b,q,?_,k2,k4,k5,⟨φ',Rel.of_rts (by rw [erts,hsize];exact k6) (fun t=>?_) (fun c hc=>by rw [hsize];exact h.okb c hc) (h.frm.setCell k3.2.1)⟩,⟨o,o1.setCells (cs1.set i e),cs,cs1.set i e,ho',hc,?_,cells_setCells hc1⟩,?_⟩
  ·exact k1
  ·rw [eenv]
   exact FR_move (I:=IS σ r (p ++ [i])) S J _ _ (hke t).2.1 (hke t).1
  ·have:=look_putAt p d1 o1 (o1.setCells (cs1.set i e)) [] ho1'
   rw [List.append_nil] at this
   rw [hobjr,this];simp [look]
  ·refine ⟨?_,k3.1,Ow_oneCell t2 (by rintro rfl;rcases hobj2 with h | ⟨_,h⟩ <;> simp [D.cells?] at h) (by rintro x rfl;rcases hobj2 with h | ⟨_,h⟩ <;> simp [D.cells?] at h)⟩
   by_cases hpp:isPre (p ++ [i]) p=true
   ·obtain ⟨t,ht⟩:=isPre_iff hpp
    have:=congrArg List.length ht
    simp at this
   ·rw [(k8 p o1 hobj1 (by simpa using hpp)).1];exact k1
end
end Go.Proofs.Ytncfmemhjahpeaa.Ab
namespace Go.Proofs.Ytncfmemhjahpeaa.Ab
open Go
def pendT:List Value->Nat->(Nat->Value)->(Nat->Value)
 | [],_,e=>e
 | f :: r,t,e=>pendT r (t+1) (upd e t f)
section
variable {w0:World} {fp0:List Nat} {ok:Nat->Prop} {P:Program}
theorem FRL_length {w:World} {σ:St} {ρ:Rn->Value}:∀ {fs:List FV} {us:List Value},FRL w ok σ ρ fs us->us.length=fs.length
 | [],us,h=>by simp only [FRL] at h;simp [h]
 | f :: fs,us,h=>by
  simp only [FRL] at h
  obtain ⟨u,vs,e,_,h⟩:=h
  simp [e,FRL_length h]
theorem pend_env {w:World} {σ:St} {ρ:Rn->Value}:∀ (fs:List FV) (us:List Value) (t:Nat) (e:Nat->FV) (θ:Nat->Value),FRL w ok σ ρ fs us->(∀ s,FR w ok σ ρ (e s) (θ s))->∀ s,FR w ok σ ρ (pend fs t e s) (pendT us t θ s)
 | [],us,t,e,θ,h,he,s=>by
  simp only [FRL] at h
  subst h
  exact he s
 | f :: fs,us,t,e,θ,h,he,s=>by
  simp only [FRL] at h
  obtain ⟨u,vs,rfl,h1,h2⟩:=h
  simp only [pend,pendT]
  refine pend_env fs vs (t+1) _ _ h2 (fun s=>?_) s
  simp only [upd]
  split
  ·exact h1
  ·exact he s
theorem pendT_lt:∀ (us:List Value) (t:Nat) (θ:Nat->Value) (s:Nat),s < t->pendT us t θ s=θ s
 | [],_,_,_,_=>rfl
 | u :: us,t,θ,s,h=>by
  simp only [pendT]
  rw [pendT_lt us (t+1) _ s (by omega)]
  simp only [upd]
  rw [if_neg (by omega)]
theorem pendT_get:∀ (us:List Value) (t:Nat) (θ:Nat->Value) (j:Nat) (u:Value),us[j]? = some u->pendT us t θ (t+j)=u
 | [],_,_,_,_,h=>by simp at h
 | v :: us,t,θ,0,u,h=>by
  simp only [List.getElem?_cons_zero,Option.some.injEq] at h
  simp only [pendT,Nat.add_zero]
  rw [pendT_lt us (t+1) _ t (by omega)]
  simp [upd,h]
 | v :: us,t,θ,j+1,u,h=>by
  simp only [List.getElem?_cons_succ] at h
  simp only [pendT]
  rw [show t+(j+1)=t+1+j by omega]
  exact pendT_get us (t+1) _ j u h
theorem unpend_FRL {w:World} {σ:St} {ρ:Rn->Value} {e:Nat->FV}:∀ (us:List Value) (t:Nat),(∀ j u,us[j]? = some u->FR w ok σ ρ (e (t+j)) u)->FRL w ok σ ρ (unpend e t us.length) us
 | [],t,_=>by simp [unpend,FRL]
 | u :: us,t,h=>by
  simp only [List.length_cons,unpend,FRL]
  refine ⟨u,us,rfl,by simpa using h 0 u (by simp),unpend_FRL us (t+1) fun j v hj=>?_⟩
  rw [show t+1+j=t+(j+1) by omega]
  exact h (j+1) v (by simpa using hj)
theorem Addr_add (b o n:Nat):(⟨b,o,none⟩:Addr).add n=⟨b,o+n,none⟩:=by
 unfold Addr.add
 split
 ·simp [*]
 ·rfl
theorem leaf_FRL {w w':World} {σ σ':St} {ρ ρ':Rn->Value} (hk:∀ b,ok b->w'.heap[b]? = w.heap[b]?):∀ (fs:List FV) (us:List Value),fs.all FV.isLeaf=true->FRL w ok σ ρ fs us->FRL w' ok σ' ρ' fs us
 | [],us,_,h=>by simpa [FRL] using h
 | f :: fs,us,hl,h=>by
  simp only [FRL] at h ⊢
  simp only [List.all_cons,Bool.and_eq_true] at hl
  obtain ⟨u,vs,e,h1,h2⟩:=h
  refine ⟨u,vs,e,?_,leaf_FRL hk fs vs hl.2 h2⟩
  cases f <;> simp [FV.isLeaf] at hl
  simp only [FR] at h1 ⊢
  exact Sh_mono (fun b hb=>⟨hb,hk b hb⟩) _ _ h1
theorem storeL_sound {r:Rn} {p:List Nat} {ρ:Rn->Value} {b q s:Nat} {hv:Value} (hb:baseOf hv=some (b,q)):∀ (m:Nat) (fs:List FV) (off:Nat) (σ:St) (θ:Nat->Value) (w:World) (φ:Rn->List Nat) (vs:List Value) (i:Nat) (σ':St),
  Rel w0 fp0 ok σ θ w ρ φ->σ.storeL r p m off fs=some σ'->FRL w ok σ ρ fs vs->hdr w (ρ r) p=some hv->s+i=q+off ->
  ∃ w' θ' φ',(storeCells ⟨b,s,none⟩ vs i).run P w = .ok () w'/\Rel w0 fp0 ok σ' θ' w' ρ φ'/\(∀ t,t < 2000->θ' t=θ t)/\∀ v∈vs,v.oneCell'=true
 | m,[],off,σ,θ,w,φ,vs,i,σ',h,hs,hf,hh,hi=>by
  have:σ=σ':=by cases m <;> simpa [St.storeL] using hs
  subst this
  simp only [FRL] at hf
  subst hf
  exact ⟨w,θ,φ,by simp [storeCells],h,fun _ _=>rfl,by simp⟩
 | 0,f :: fs,off,σ,θ,w,φ,vs,i,σ',h,hs,hf,hh,hi=>by simp [St.storeL] at hs
 | m+1,f :: fs,off,σ,θ,w,φ,vs,i,σ',h,hs,hf,hh,hi=>by
  simp only [FRL] at hf
  obtain ⟨v,us,rfl,hf1,hf2⟩:=hf
  simp only [St.storeL] at hs
  have hrun:∀ (u:Value),(∃ x,w.cell? ⟨b,q+off,none⟩ = some x)->w.frozen? ⟨b,q+off,none⟩ = false->v.oneCell'=true->∀ w',(storeCells ⟨b,s,none⟩ us (i+1)).run P (w.setCell ⟨b,q+off,none⟩ v) = .ok () w' ->
    (storeCells ⟨b,s,none⟩ (v :: us) i).run P w = .ok () w':=fun u ⟨x,hx⟩ hfz hone w' hrest=>by
   simp only [storeCells,Sem.run_bind,Addr_add,hi]
   rw [run_store P w _ v .plain hone]
   simp only [hx,hfz,Bool.false_eq_true,if_false,Result.andThen_ok]
   exact hrest
  split at hs
  ·rename_i hl
   split at hs
   ·rename_i σ1 h1
    obtain ⟨hv',b',q',k1,k2,k3,k4,⟨φ',k5⟩,_,k6,k7,k8⟩:=store1_sound h h1 hf1
    have e1:hv'=hv:=by rw [hh] at k1;injection k1 with k1;exact k1.symm
    subst e1
    rw [hb] at k2
    cases k2
    have hkk:∀ c,ok c->(w.setCell ⟨b,q+off,none⟩ v).heap[c]? = w.heap[c]?:=fun c hc=>Go.RowKit.Below.heap_setCell w _ v c (fun e=>by subst e;exact k7 hc)
    obtain ⟨w',θ',φ2,g1,g2,g3,g4⟩:=storeL_sound (s:=s) hb m fs (off+1) σ1 θ _ φ' us (i+1) σ' k5 hs (leaf_FRL hkk fs us hl hf2) k6 (by omega)
    exact ⟨w',θ',φ2,hrun v k3 k4 k8 w' g1,g2,g3,fun x hx=>by
     rcases List.mem_cons.1 hx with rfl | hx
     ·exact k8
     ·exact g4 x hx⟩
   ·simp at hs
  ·split at hs
   ·rename_i σ1 h1
    have hp:Rel w0 fp0 ok { σ with env:=pend fs 2000 σ.env } (pendT us 2000 θ) w ρ φ:=
     ⟨h.own,h.dis,fun t=>FR_env _ _ (pend_env fs us 2000 _ _ hf2 h.env t),h.okb,h.frm⟩
    obtain ⟨hv',b',q',k1,k2,k3,k4,⟨φ',k5⟩,_,k6,k7,k8⟩:=store1_sound hp h1 (FR_env _ _ hf1)
    have e1:hv'=hv:=by rw [hh] at k1;injection k1 with k1;exact k1.symm
    subst e1
    rw [hb] at k2
    cases k2
    have hun:FRL (w.setCell ⟨b,q+off,none⟩ v) ok σ1 ρ (unpend σ1.env 2000 fs.length) us:=by
     rw [<-FRL_length hf2]
     exact unpend_FRL us 2000 fun j u hj=>by
      have:=k5.env (2000+j)
      rwa [pendT_get us 2000 θ j u hj] at this
    obtain ⟨w',θ',φ2,g1,g2,g3,g4⟩:=storeL_sound (s:=s) hb m _ (off+1) σ1 _ _ φ' us (i+1) σ' k5 hs hun k6 (by omega)
    exact ⟨w',θ',φ2,hrun v k3 k4 k8 w' g1,g2,fun t ht=>by rw [g3 t ht,pendT_lt us 2000 θ t ht],fun x hx=>by
     rcases List.mem_cons.1 hx with rfl | hx
     ·exact k8
     ·exact g4 x hx⟩
   ·simp at hs
theorem Keeps.refl (w:World) (fp:List Nat):Keeps w fp w:=⟨rfl,rfl,rfl,Nat.le_refl _,Nat.le_refl _,fun _ _ _=>rfl⟩
theorem Keeps.trans {a b c:World} {f g:List Nat} (h:Keeps a f b) (k:Keeps b g c) (hg:∀ x∈g,x∈f\/a.heap.size<=x):Keeps a f c:=
 ⟨k.os.trans h.os,k.out.trans h.out,k.tape.trans h.tape,Nat.le_trans h.drawn k.drawn,Nat.le_trans h.size k.size,fun x hx hn=>by
  rw [k.old x (Nat.lt_of_lt_of_le hx h.size) (fun hh=>by rcases hg x hh with e | e;exact hn e;omega)]
  exact h.old x hx hn⟩
theorem Keeps.drew {a b:World} {f:List Nat} (h:Keeps a f b):Keeps a f b.drew:=⟨h.os,h.out,h.tape,Nat.le_succ_of_le h.drawn,h.size,h.old⟩
theorem Keeps.alloc {a b:World} {f:List Nat} (h:Keeps a f b) (o:Obj):Keeps a f (b.alloc o):=
 ⟨h.os,h.out,h.tape,h.drawn,by simp;have:=h.size;omega,fun x hx hn=>by
  rw [Go.RowKit.Below.heap_alloc b o x (Nat.lt_of_lt_of_le hx h.size)];exact h.old x hx hn⟩
variable {σ:St} {θ:Nat->Value} {w:World} {ρ:Rn->Value} {φ:Rn->List Nat}
theorem Rel.world (h:Rel w0 fp0 ok σ θ w ρ φ) {w':World} (hw:∀ b,b < w.heap.size->w'.heap[b]? = w.heap[b]?) (hs:w.heap.size<=w'.heap.size) (hk:Keeps w0 fp0 w'):Rel w0 fp0 ok σ θ w' ρ φ:=by
 have hR:=h.rts_
 have hown:∀ b,(∃ q e,σ.rts q=some e/\b∈φ q)->w'.heap[b]? = w.heap[b]?:=fun b ⟨q,e,he,hb⟩=>hw b ((h.own q e he).2.2 b hb).2.2
 have hok:∀ b,ok b->ok b/\w'.heap[b]? = w.heap[b]?:=fun b hb=>⟨hb,hw b (h.okb b hb)⟩
 refine Rel.of_rts (hR.mono hown hok fun b hb=>⟨hb.1,hb.2.1,Nat.lt_of_lt_of_le hb.2.2 hs⟩) (fun t=>?_) (fun b hb=>Nat.lt_of_lt_of_le (h.okb b hb) hs) hk
 refine FR_same (G:=fun r p=>∃ o,σ.obj r p=some o/\isObj o) (I:=fun r m p=>σ.rts r=some .itr/\∃ es,σ.obj m p=some (.mp es)) ⟨hok,fun r p o hg ho=>⟨o,ho,.inl (sameKind_refl o),hR.hdr_mono hown ho⟩⟩ ⟨fun r m p b mb es hi h1 h2 h3 h4=>?_⟩ _ _ (FR_ats _ _ (h.env t)) (h.env t)
 obtain ⟨z1,z2,z3⟩:=h.own r _ h1
 simp only [Ow] at z1
 obtain ⟨b1,m1,s1,x1,l1,y1,y2,y3⟩:=z1
 rw [h2] at y1
 injection y1 with y1;injection y1 with y1;injection y1 with y1 _ _
 subst y1
 obtain ⟨hv5,fo5,hat5⟩:=hR.at_ (r:=m) (p:=p) h3
 have:=hat5.own
 simp only [Ow] at this
 obtain ⟨m6,en6,cl6,e6,e7,e8⟩:=this
 have e9:hv5 = .map (some mb):=by have:=hat5.hdr;rw [h4] at this;injection this with this;exact this.symm
 rw [e9] at e6
 injection e6 with e6;injection e6 with e6
 subst e6
 have hlt:∀ c x,w.heap[c]? = some x->w'.heap[c]? = w.heap[c]?:=fun c x hx=>hw c (by
  rcases Nat.lt_or_ge c w.heap.size with h' | h'
  ·exact h'
  ·simp [Array.getElem?_eq_none h'] at hx)
 exact ⟨h1,rfl,hlt b _ y3,h3,by rw [hR.hdr_mono hown h3];exact h4,hlt mb _ e8.at_⟩
theorem Rel.drew (h:Rel w0 fp0 ok σ θ w ρ φ):Rel w0 fp0 ok σ θ w.drew ρ φ:=h.world (fun _ _=>rfl) (Nat.le_refl _) h.frm.drew
theorem Rel.alloc (h:Rel w0 fp0 ok σ θ w ρ φ) (o:Obj):Rel w0 fp0 ok σ θ (w.alloc o) ρ φ:=
 h.world (fun b hb=>Go.RowKit.Below.heap_alloc w o b hb) (by simp) (h.frm.alloc o)
theorem Rel.root (h:Rel w0 fp0 ok σ θ w ρ φ) {r:Rn} {d:D} {u:Value} {fp:List Nat} (hr:σ.rts r=none) (ho:Ow w ok d u fp) (hn:fp.Nodup)
  (hf:∀ b∈fp,(∀ q e,σ.rts q=some e->b ∉ φ q)/\Bnd w0 fp0 ok w.heap.size b):Rel w0 fp0 ok (σ.root r d) θ w (upR ρ r u) (upR φ r fp):=by
 have hR:=h.rts_.new (r:=r) (d:=d) (u:=u) (fp:=fp) (w':=w) (ok':=ok) (B':=Bnd w0 fp0 ok w.heap.size) (fun _ _=>rfl) (fun b hb=>⟨hb,rfl⟩) ho hn (fun b hb q e _ he=>(hf b hb).1 q e he) (fun b hb=>(hf b hb).2) (fun _ hb=>hb)
 refine Rel.of_rts hR (fun t=>?_) h.okb h.frm
 have hobj:∀ q s x,σ.obj q s=some x->q≠r:=fun q s x hx e=>by subst e;simp [St.obj,hr] at hx
 have hroot:∀ q s,q≠r->(σ.root r d).obj q s=σ.obj q s:=fun q s hq=>by simp [St.root,St.obj,hq]
 refine FR_same (G:=fun r p=>∃ o,σ.obj r p=some o/\isObj o) (I:=fun r m p=>σ.rts r=some .itr/\∃ es,σ.obj m p=some (.mp es)) ⟨fun b hb=>⟨hb,rfl⟩,fun q s o hg hx=>?_⟩ ⟨fun q m s b mb es hi h1 h2 h3 h4=>?_⟩ _ _ (FR_ats _ _ (h.env t)) (h.env t)
 ·have hq:=hobj q s o hx
  exact ⟨o,by rw [hroot q s hq];exact hx,.inl (sameKind_refl o),by simp [upR,hq]⟩
 ·have hq:q≠r:=fun e=>by subst e;rw [hr] at h1;simp at h1
  have hm:=hobj m s _ h3
  exact ⟨by simpa [St.root,hq] using h1,by simp [upR,hq],rfl,by rw [hroot m s hm];exact h3,by simpa [upR,hm] using h4,rfl⟩
theorem Rel.upd (h:Rel w0 fp0 ok σ θ w ρ φ) {t:Nat} {f:FV} {v:Value} (hf:FR w ok σ ρ f v):Rel w0 fp0 ok { σ with env:=Ab.upd σ.env t f } (Ab.upd θ t v) w ρ φ:=
 ⟨h.own,h.dis,fun s=>by
  simp only [Ab.upd]
  split
  ·exact FR_env _ _ hf
  ·exact FR_env _ _ (h.env s),h.okb,h.frm⟩
theorem Rel.envs (h:Rel w0 fp0 ok σ θ w ρ φ) {e:Nat->FV} {θ':Nat->Value} (he:∀ t,FR w ok σ ρ (e t) (θ' t)):Rel w0 fp0 ok { σ with env:=e } θ' w ρ φ:=
 ⟨h.own,h.dis,fun s=>FR_env _ _ (he s),h.okb,h.frm⟩
def Th (a:Act) (W:Nat->Value) (θ:Nat->Value):Prop:=(∀ t,t < 1000->θ t=a.tmps.getD t undef)/\(∀ j,j < 100->θ (1000+j)=W j)/\a.tmps.size<=1000
theorem Th.put {a:Act} {W θ:Nat->Value} (h:Th a W θ) {d:Nat} {v:Value} (hd:d < a.tmps.size):Th (a.put (some d) v) W (upd θ d v):=by
 refine ⟨fun t ht=>?_,fun j hj=>?_,by simp [Act.put];exact h.2.2⟩
 ·simp only [upd,Act.put]
  split
  ·rename_i e
   subst e
   simp [hd]
  ·rename_i e
   rw [h.1 t ht]
   simp only [Array.getD_eq_getD_getElem?,Array.getElem?_setIfInBounds]
   rw [if_neg (fun h=>e h.symm)]
 ·have h3:=h.2.2
  simp only [upd]
  rw [if_neg (by omega)]
  exact h.2.1 j hj
end
end Go.Proofs.Ytncfmemhjahpeaa.Ab
namespace Go.Proofs.Ytncfmemhjahpeaa.Ab
open Go
def zeroB:Value->Value->Bool
 | .int k n,.int k' n'=>k == k' && n == n'
 | .bool a,.bool b=>a == b
 | .string s,.string t=>s.size == 0 && t.size == 0
 | .pointer none,.pointer none=>true
 | .slice none 0 0,.slice none 0 0=>true
 | .map none,.map none=>true
 | .nilFunc,.nilFunc=>true
 | .nilIface,.nilIface=>true
 | _,_=>false
theorem zeroB_eq {x y:Value} (h:zeroB x y=true):x=y/\x.oneCell'=true:=by
 unfold zeroB at h
 split at h <;> simp_all [Value.oneCell']
def zerosB:List Value->List Value->Bool
 | [],[]=>true
 | x :: r,y :: s=>zeroB x y && zerosB r s
 | _,_=>false
theorem zerosB_eq:∀ {x y:List Value},zerosB x y=true->x=y/\∀ v∈x,v.oneCell'=true
 | [],[],_=>⟨rfl,by simp⟩
 | x :: r,y :: s,h=>by
  simp only [zerosB,Bool.and_eq_true] at h
  obtain ⟨rfl,h1⟩:=zeroB_eq h.1
  obtain ⟨rfl,h2⟩:=zerosB_eq h.2
  exact ⟨rfl,by simpa using ⟨h1,h2⟩⟩
 | [],_ :: _,h=>by simp [zerosB] at h
 | _ :: _,[],h=>by simp [zerosB] at h
def fieldsB (P:Program):List (Nat×Nat)->List Field->Bool
 | [],[]=>true
 | x :: r, f :: s => x.1 == f.offset && x.2 == f.type && !(f.name == "_") && (P.info? f.type).isSome && fieldsB P r s
 | _,_=>false
theorem fieldsB_eq {P : Program} : ∀ {fs : List (Nat × Nat)} {l : List Field}, fieldsB P fs l = true → fs = l.map (fun f => (f.offset, f.type)) ∧ ∀ f ∈ l, f.name ≠ "_" ∧ (P.info? f.type).isSome = true
 | [],[],_=>⟨rfl,by simp⟩
 | x :: r,f :: s,h=>by
  simp only [fieldsB,Bool.and_eq_true,beq_iff_eq,Bool.not_eq_true',beq_eq_false_iff_ne] at h
  obtain ⟨e,h2⟩:=fieldsB_eq h.2
  refine ⟨by rw [List.map_cons,<-e];obtain ⟨a,b⟩:=x;simp_all,?_⟩
  intro g hg
  rcases List.mem_cons.1 hg with rfl | hg
  ·exact ⟨h.1.1.2,h.1.2⟩
  ·exact h2 g hg
 | [],_ :: _,h=>by simp [fieldsB] at h
 | _ :: _,[],h=>by simp [fieldsB] at h
def kdB (P:Program) (t:Nat) (kd:TK):Bool:=
 match kd,P.underlying t with
 | .int k,some (.int k')=>k == k'
 | .bool,some .bool=>true
 | .str,some .string=>true
 | .sl e,some (.slice e')=>e == e'
 | .arr n e,some (.array n' e')=>n == n' && e == e'
 | .st fs,some (.struct l)=>fieldsB P fs l.toList && !P.stoodInHeld t && !P.eqGuardType P.depth t
 | .map k e,some (.map k' e')=>k == k' && e == e'
 | .other,some (.pointer _)=>true
 | .other,some (.func _ _ _)=>true
 | .other,some (.tuple _)=>true
 | .other,some (.interface _)=>true
 | _,_=>false
def rowB (P:Program) (t:Nat) (i:TI):Bool:=
 match P.info? t with
 | some ti=>ti.size == i.size && ti.bytes == i.bytes && (match ti.zero with | some z=>zerosB i.zero z.cells.toList && (isAggK i.kd || z.oneCell') | none=>false) && (i.zero.length == i.size) && kdB P t i.kd
 | none=>false
def tabB (P:Program):TT->Bool
 | []=>true
 | x :: r=>rowB P x.1 x.2 && tabB P r
structure RowOk (P:Program) (t:Nat) (i:TI):Prop where
 info:∃ ti,P.info? t=some ti/\ti.size=i.size/\ti.bytes=i.bytes/\∃ z,ti.zero=some z/\z.cells.toList=i.zero/\(isAggK i.kd=false->z.oneCell'=true)
 one:∀ v∈i.zero,v.oneCell'=true
 len:i.zero.length=i.size
 kd:kdB P t i.kd=true
theorem row_ok {P:Program} {t:Nat} {i:TI} (h:rowB P t i=true):RowOk P t i:=by
 unfold rowB at h
 cases hi:P.info? t with
 | none=>simp [hi] at h
 | some ti=>
  simp only [hi,Bool.and_eq_true,beq_iff_eq] at h
  cases hz:ti.zero with
  | none=>simp [hz] at h
  | some z=>
   simp only [hz] at h
   obtain ⟨g1,g2⟩:=Bool.and_eq_true_iff.1 h.1.1.2
   obtain ⟨e,h1⟩:=zerosB_eq g1
   exact ⟨⟨ti,hi,h.1.1.1.1,h.1.1.1.2,z,hz,e.symm,fun ha=>by rw [ha] at g2;simpa using g2⟩,h1,h.1.2,h.2⟩
theorem tab_ok {P:Program}:∀ {T:TT},tabB P T=true->∀ {t i},tget T t=some i->RowOk P t i
 | [],_,t,i,h=>by simp [tget] at h
 | (a,x) :: r,hT,t,i,h=>by
  simp only [tabB,Bool.and_eq_true] at hT
  simp only [tget] at h
  split at h
  ·rename_i e
   subst e
   injection h with h
   subst h
   exact row_ok hT.1
  ·exact tab_ok hT.2 h
section types
variable {P:Program} {t:Nat} {i:TI}
theorem RowOk.size (h:RowOk P t i) (w:World):(sizeOf t).run P w = .ok i.size w:=by
 obtain ⟨ti,h1,h2,_⟩:=h.info
 simp [sizeOf,typeInfo,h1,h2]
theorem RowOk.cells (h:RowOk P t i):P.cellsOf t=i.size:=by
 obtain ⟨ti,h1,h2,_⟩:=h.info
 simp [Program.cellsOf,h1,h2]
theorem RowOk.zeroV (h:RowOk P t i):∃ z,z.cells.toList=i.zero/\(isAggK i.kd=false->z.oneCell'=true)/\∀ w,(zeroValue t).run P w = .ok z w:=by
 obtain ⟨ti,h1,h2,h3,z,h4,h5,h6⟩:=h.info
 exact ⟨z,h5,h6,fun w=>by simp [zeroValue,typeInfo,h1,h4]⟩
theorem RowOk.und (h:RowOk P t i):∃ d,P.underlying t=some d/\∀ w,(underlying t).run P w = .ok d w:=by
 have:=h.kd
 unfold kdB at this
 cases hd:P.underlying t with
 | none=>simp [hd] at this
 | some d=>exact ⟨d,rfl,fun w=>run_underlying hd w⟩
theorem RowOk.agg (h:RowOk P t i) (w:World):(isAgg t).run P w = .ok (isAggK i.kd) w:=by
 have h1:=h.kd
 unfold kdB at h1
 obtain ⟨d,hd,hr⟩:=h.und
 rw [hd] at h1
 unfold isAgg
 simp only [Sem.run_bind,hr,Result.andThen]
 cases hk:i.kd <;> rw [hk] at h1 <;> cases d <;> simp_all [isAggK]
theorem kd_int {k:IntKind} (h:RowOk P t i) (e:i.kd = .int k):P.underlying t=some (.int k):=by
 have h1:=h.kd
 rw [e] at h1
 unfold kdB at h1
 split at h1 <;> simp_all
theorem kd_bool (h:RowOk P t i) (e:i.kd = .bool):P.underlying t=some .bool:=by
 have h1:=h.kd
 rw [e] at h1
 unfold kdB at h1
 split at h1 <;> simp_all
theorem kd_str (h:RowOk P t i) (e:i.kd = .str):P.underlying t=some .string:=by
 have h1:=h.kd
 rw [e] at h1
 unfold kdB at h1
 split at h1 <;> simp_all
theorem kd_sl {k:Nat} (h:RowOk P t i) (e:i.kd = .sl k):P.underlying t=some (.slice k):=by
 have h1:=h.kd
 rw [e] at h1
 unfold kdB at h1
 split at h1 <;> simp_all
theorem kd_arr {n k:Nat} (h:RowOk P t i) (e:i.kd = .arr n k):P.underlying t=some (.array n k):=by
 have h1:=h.kd
 rw [e] at h1
 unfold kdB at h1
 split at h1 <;> simp_all
theorem kd_map {n k:Nat} (h:RowOk P t i) (e:i.kd = .map n k):P.underlying t=some (.map n k):=by
 have h1:=h.kd
 rw [e] at h1
 unfold kdB at h1
 split at h1 <;> simp_all
theorem kd_st {fs : List (Nat × Nat)} (h : RowOk P t i) (e : i.kd = .st fs) : ∃ l, P.underlying t = some (.struct l) ∧ fs = l.toList.map (fun f => (f.offset, f.type)) ∧ (∀ f ∈ l.toList, f.name ≠ "_" ∧ (P.info? f.type).isSome = true) ∧ P.stoodInHeld t = false := by
 have h1:=h.kd
 rw [e] at h1
 unfold kdB at h1
 split at h1 <;> simp_all
 obtain ⟨h2,h3⟩:=fieldsB_eq h1.1.1
 exact ⟨h2,by simpa using h3⟩
theorem kd_guard {fs:List (Nat×Nat)} (h:RowOk P t i) (e:i.kd = .st fs):P.eqGuardType P.depth t=false:=by
 have h1:=h.kd
 rw [e] at h1
 unfold kdB at h1
 split at h1 <;> simp_all
end types
def Later (w w':World):Prop:=w.heap.size<=w'.heap.size/\∀ b,b < w.heap.size->w'.heap[b]? = w.heap[b]?
theorem Later.refl (w:World):Later w w:=⟨Nat.le_refl _,fun _ _=>rfl⟩
theorem Later.trans {a b c:World} (h:Later a b) (k:Later b c):Later a c:=
 ⟨Nat.le_trans h.1 k.1,fun x hx=>(k.2 x (Nat.lt_of_lt_of_le hx h.1)).trans (h.2 x hx)⟩
theorem Later.cell {w w':World} (h:Later w w') {a:Addr} {v:Value} (hc:w.cell? a=some v):w'.cell? a=some v:=by
 have:=World.block_lt_of_cell? w a hc
 unfold World.cell? at hc ⊢
 rw [h.2 _ this]
 exact hc
theorem Later.heap {w w':World} (h:Later w w') {b:Nat} {o:Obj} (hc:w.heap[b]? = some o):w'.heap[b]? = some o:=by
 rw [h.2 b (by
  rcases Nat.lt_or_ge b w.heap.size with h' | h'
  ·exact h'
  ·simp [Array.getElem?_eq_none h'] at hc),hc]
end Go.Proofs.Ytncfmemhjahpeaa.Ab
namespace Go.Proofs.Ytncfmemhjahpeaa.Ab
open Go
section
variable {w0 w:World} {fp0:List Nat} {ok:Nat->Prop} {P:Program} {σ:St} {θ:Nat->Value} {ρ:Rn->Value} {φ:Rn->List Nat}
theorem Sh_of_Ow {x:D} {v:Value} {fp:List Nat} (hl:x.leaf=true) (h:Ow w ok x v fp):Sh w ok x v:=by
 cases x <;> simp [D.leaf] at hl <;> simp only [Ow] at h <;> first | exact h.2 | (simp only [Sh];exact h.2)
theorem hdr_cell {r:Rn} {p:List Nat} {hv v:Value} {b q i:Nat} (hh:hdr w (ρ r) p=some hv) (hb:baseOf hv=some (b,q)) (hc:w.cell? ⟨b,q+i,none⟩ = some v):hdr w (ρ r) (p ++ [i])=some v:=by
 rw [hdr_append,hh]
 simp [hdr,hb,hc]
theorem FR_cell {r:Rn} {p:List Nat} {i:Nat} {x:D} {v:Value} {fx:List Nat} (ho:σ.obj r (p ++ [i])=some x) (hh:hdr w (ρ r) (p ++ [i])=some v) (hx:Ow w ok x v fx) :
  FR w ok σ ρ (cellFV r p i x) v:=by
 cases x with
 | v x=>simp only [cellFV,FR,Sh];simp only [Ow] at hx;exact hx.2
 | ez=>simp only [cellFV,FR];simp only [Ow] at hx;exact hx.2
 | sh k n cs=>simp only [cellFV,FR];simp only [Ow] at hx;exact hx.2
 | vp cs=>simp only [cellFV,FR];simp only [Ow] at hx;exact hx.2
 | fn f cs=>simp only [cellFV,FR];simp only [Ow] at hx;exact hx.2
 | ow k n cs=>
  simp only [cellFV,FR]
  refine ⟨k,n,cs,v,ho,hh,by omega,.inl ⟨rfl,?_⟩⟩
  simp only [Ow] at hx
  rcases hx with ⟨rfl,_,_,a,e⟩ | ⟨b,o,c,arr,T,fp',e,_⟩
  ·exact ⟨a,0,0,e,e⟩
  ·exact ⟨_,n,c,e,e⟩
 | bx cs=>
  simp only [cellFV,FR]
  simp only [Ow] at hx
  obtain ⟨b,arr,T,fp',e,_⟩:=hx
  exact ⟨_,cs,v,b,0,ho,rfl,hh,by subst e;rfl,by subst e;rfl⟩
 | mp es=>simp only [cellFV,FR];exact ⟨es,v,ho,hh,rfl⟩
 | itr=>simp [cellFV,FR]
 | gone=>simp [cellFV,FR]
theorem cell_at (h:Rel w0 fp0 ok σ θ w ρ φ) {r:Rn} {p:List Nat} {o x:D} {cs:List D} {i b q:Nat} {hv:Value} (ho:σ.obj r p=some o) (hc:o.cells? = some cs) (hh:hdr w (ρ r) p=some hv)
  (hb:baseOf hv=some (b,q)) (hi:cs[i]? = some x):∃ v,w.cell? ⟨b,q+i,none⟩ = some v/\FR w ok σ ρ (cellFV r p i x) v:=by
 obtain ⟨hv',fo,hat⟩:=h.rts_.at_ (r:=r) (p:=p) ho
 have e:hv'=hv:=by have:=hat.hdr;rw [hh] at this;injection this with this;exact this.symm
 subst e
 have hne:cs≠[]:=by rintro rfl;simp at hi
 obtain ⟨b',o',fp',e1,e2,h3,_⟩:=Ow_cells hat.own hc hne
 rw [hb] at e1
 injection e1 with e1
 injection e1 with e1 e1'
 subst e1;subst e1'
 obtain ⟨v,f1,fx,f2,_,h4,h5,_⟩:=OwL_split h3 hi
 refine ⟨v,h4,FR_cell ?_ (hdr_cell hh hb h4) h5⟩
 rw [obj_eq] at ho ⊢
 unfold objOf at ho ⊢
 split at ho
 ·rename_i d hd
  rw [look_append,ho]
  simp [look,hc,hi]
 ·simp at ho
theorem pick_FRL {cs:List D} {b q:Nat} {g:Nat->D->FV} (hcell:∀ i x,cs[i]? = some x->∃ v,w.cell? ⟨b,q+i,none⟩ = some v/\FR w ok σ ρ (g i x) v) :
  ∀ (n off:Nat) (l:List D),pickL cs off n=some l->l.length=n/\∃ vs:List Value,vs.length=n/\(∀ (j:Nat) (v:Value),vs[j]? = some v->w.cell? ⟨b,q+off+j,none⟩ = some v) /\
   FRL w ok σ ρ (mapIdx2 g off l) vs
 | 0,off,l,h=>by
  simp only [pickL,Option.some.injEq] at h
  subst h
  exact ⟨rfl,[],rfl,by simp,by simp [mapIdx2,FRL]⟩
 | n+1,off,l,h=>by
  simp only [pickL] at h
  split at h
  ·rename_i c hc
   split at h
   ·rename_i r hr
    injection h with h
    subst h
    obtain ⟨h1,vs,h2,h3,h4⟩:=pick_FRL hcell n (off+1) r hr
    obtain ⟨v,h5,h6⟩:=hcell off c hc
    refine ⟨by simp [h1],v :: vs,by simp [h2],fun j u hj=>?_,?_⟩
    ·cases j with
     | zero=>
      simp only [List.getElem?_cons_zero,Option.some.injEq] at hj
      subst hj
      simpa using h5
     | succ j=>
      simp only [List.getElem?_cons_succ] at hj
      have:=h3 j u hj
      rwa [show q+(off+1)+j=q+off+(j+1) by omega] at this
    ·simp only [mapIdx2,FRL]
     exact ⟨v,vs,rfl,h6,h4⟩
   ·simp at h
  ·simp at h
theorem mapIdx2_d:∀ (l:List D) (off:Nat),mapIdx2 (fun _=>FV.d) off l=l.map .d
 | [],_=>rfl
 | c :: l,off=>by simp [mapIdx2,mapIdx2_d l]
theorem load_run {t b o:Nat} {i:TI} {vs:List Value} (hT:RowOk P t i) (hl:vs.length=i.size) (hc:∀ (j:Nat) (v:Value),vs[j]? = some v->w.cell? ⟨b,o+j,none⟩ = some v) (w':World) (hw:Later w w') :
  (isAggK i.kd=true->(Instr.loadAt t (.pointer (some ⟨b,o,none⟩))).run P w' = .ok (.agg vs.toArray) w') /\
  (isAggK i.kd=false->∀ v,vs=[v]->(Instr.loadAt t (.pointer (some ⟨b,o,none⟩))).run P w' = .ok v w'):=by
 have hc':∀ (j:Nat) (v:Value),vs[j]? = some v->w'.cell? (Addr.add ⟨b,o,none⟩ j)=some v:=fun j v hj=>by
  rw [Addr_add];exact hw.cell (hc j v hj)
 refine ⟨fun ha=>?_,fun ha v hv=>?_⟩
 ·have h1:=run_loadCells_list (P:=P) w' ⟨b,o,none⟩ vs hc'
  rw [hl] at h1
  simp only [Instr.loadAt,Instr.sureAddr,loadVar,Sem.run_bind,Sem.run_pure,Result.andThen,hT.agg,ha,if_true,hT.size,h1]
 ·subst hv
  have h1:=hc' 0 v rfl
  rw [Addr_add,Nat.add_zero] at h1
  simp [Instr.loadAt,Instr.sureAddr,loadVar,hT.agg,ha,h1]
theorem pickF_FRL:∀ (n off:Nat) (fs l:List FV) (vs:List Value),FRL w ok σ ρ fs vs->pickF fs off n=some l->∃ us:List Value,us.length=n/\(∀ (j:Nat) (u:Value),us[j]? = some u->vs[off+j]? = some u)/\FRL w ok σ ρ l us
 | 0,off,fs,l,vs,h,hp=>by
  simp only [pickF,Option.some.injEq] at hp
  subst hp
  exact ⟨[],rfl,by simp,by simp [FRL]⟩
 | n+1,off,fs,l,vs,h,hp=>by
  simp only [pickF] at hp
  split at hp
  ·rename_i c hc
   split at hp
   ·rename_i r hr
    injection hp with hp
    subst hp
    obtain ⟨us,h1,h2,h3⟩:=pickF_FRL n (off+1) fs r vs h hr
    have hget:∀ (k:Nat) (gs:List FV) (ws:List Value) (f:FV),FRL w ok σ ρ gs ws->gs[k]? = some f->∃ u,ws[k]? = some u/\FR w ok σ ρ f u:=by
     intro k
     induction k with
     | zero=>
      intro gs ws f hg hk
      cases gs with
      | nil=>simp at hk
      | cons g gs=>
       simp only [FRL] at hg
       obtain ⟨u,us',rfl,q1,q2⟩:=hg
       simp only [List.getElem?_cons_zero,Option.some.injEq] at hk
       subst hk
       exact ⟨u,rfl,q1⟩
     | succ k ih=>
      intro gs ws f hg hk
      cases gs with
      | nil=>simp at hk
      | cons g gs=>
       simp only [FRL] at hg
       obtain ⟨u,us',rfl,q1,q2⟩:=hg
       simp only [List.getElem?_cons_succ] at hk
       obtain ⟨v,q3,q4⟩:=ih gs us' f q2 hk
       exact ⟨v,by simpa using q3,q4⟩
    obtain ⟨u,h4,h5⟩:=hget off fs vs c h hc
    refine ⟨u :: us,by simp [h1],fun j v hj=>?_,?_⟩
    ·cases j with
     | zero=>
      simp only [List.getElem?_cons_zero,Option.some.injEq] at hj
      subst hj
      simpa using h4
     | succ j=>
      simp only [List.getElem?_cons_succ] at hj
      have:=h2 j v hj
      rwa [show off+1+j=off+(j+1) by omega] at this
    ·simp only [FRL]
     exact ⟨u,us,rfl,h5,h3⟩
   ·simp at hp
  ·simp at hp
theorem load_sound {T:TT} (hT:tabB P T=true) (h:Rel w0 fp0 ok σ θ w ρ φ) {t:Nat} {a f:FV} {u:Value} (hs:loadF T σ t a=some f) (hu:FR w ok σ ρ a u) :
  ∃ v,FR w ok σ ρ f v/\∀ w',Later w w'->(Instr.loadAt t u).run P w' = .ok v w':=by
 unfold loadF at hs
 split at hs
 ·simp at hs
 ·rename_i i hi
  have hrow:=tab_ok hT hi
  have fin:∀ (b q off:Nat) (cs l:List D) (g:Nat->D->FV),u = .pointer (some ⟨b,q+off,none⟩)->(∀ i x,cs[i]? = some x->∃ v,w.cell? ⟨b,q+i,none⟩ = some v/\FR w ok σ ρ (g i x) v) ->
    pickL cs off i.size=some l->(if isAggK i.kd then some (FV.ag (mapIdx2 g off l)) else (match l with | [c]=>some (g off c) | _=>none))=some f ->
    ∃ v,FR w ok σ ρ f v/\∀ w',Later w w'->(Instr.loadAt t u).run P w' = .ok v w':=by
   intro b q off cs l g e hcell hp hf
   subst e
   obtain ⟨h1,vs,h2,h3,h4⟩:=pick_FRL hcell i.size off l hp
   split at hf
   ·rename_i ha
    injection hf with hf
    subst hf
    exact ⟨.agg vs.toArray,by simp only [FR];exact ⟨_,rfl,by simpa using h4⟩,fun w' hw=>(load_run hrow h2 h3 w' hw).1 ha⟩
   ·rename_i ha
    split at hf
    ·rename_i c
     injection hf with hf
     subst hf
     simp only [mapIdx2,FRL] at h4
     obtain ⟨v,us,rfl,h5,rfl⟩:=h4
     exact ⟨v,h5,fun w' hw=>(load_run hrow h2 h3 w' hw).2 (by simpa using ha) v rfl⟩
    ·simp at hf
  split at hs
  ·rename_i r p off
   simp only [FR] at hu
   obtain ⟨o,cs,hv,b,q,h1,h2,h3,h4,h5⟩:=hu
   rw [h1] at hs
   simp only [h2] at hs
   split at hs
   ·rename_i l hl
    exact fin b q off cs l (cellFV r p) h5 (fun j x hx=>cell_at h h1 h2 h3 h4 hx) hl hs
   ·simp at hs
  ·rename_i cs off
   simp only [FR] at hu
   obtain ⟨b,o,h1,h2,h3⟩:=hu
   split at hs
   ·rename_i l hl
    refine fin b o off cs l (fun _=>.d) h1 (fun j x hx=>?_) hl ?_
    ·obtain ⟨v,h4,h5⟩:=ShL_get h3 hx
     exact ⟨v,h4,by simpa only [FR] using h5⟩
    ·rw [mapIdx2_d];exact hs
   ·simp at hs
  ·rename_i cs
   simp only [FR,Sh] at hu
   obtain ⟨b,o,h1,h2,h3⟩:=hu
   split at hs
   ·rename_i l hl
    refine fin b o 0 cs l (fun _=>.d) h1 (fun j x hx=>?_) hl ?_
    ·obtain ⟨v,h4,h5⟩:=ShL_get h3 hx
     exact ⟨v,h4,by simpa only [FR] using h5⟩
    ·rw [mapIdx2_d];exact hs
   ·simp at hs
  ·rename_i fs off
   simp only [FR] at hu
   obtain ⟨b,vs,h1,h2,h3,h4⟩:=hu
   subst h1
   split at hs
   ·rename_i l hl
    obtain ⟨us,g1,g2,g3⟩:=pickF_FRL i.size off fs l vs h4 hl
    have hc:∀ (j:Nat) (v:Value),us[j]? = some v->w.cell? ⟨b,off+j,none⟩ = some v:=fun j v hj=>h3 _ v (g2 j v hj)
    split at hs
    ·rename_i ha
     injection hs with hs
     subst hs
     exact ⟨.agg us.toArray,by simp only [FR];exact ⟨_,rfl,by simpa using g3⟩,fun w' hw=>(load_run hrow g1 hc w' hw).1 ha⟩
    ·rename_i ha
     split at hs
     ·rename_i c
      injection hs with hs
      subst hs
      simp only [FRL] at g3
      obtain ⟨v,us',rfl,h5,rfl⟩:=g3
      exact ⟨v,h5,fun w' hw=>(load_run hrow g1 hc w' hw).2 (by simpa using ha) v rfl⟩
     ·simp at hs
   ·simp at hs
  ·simp at hs
end
end Go.Proofs.Ytncfmemhjahpeaa.Ab
namespace Go.Proofs.Ytncfmemhjahpeaa.Ab
open Go
section
variable {w0 w:World} {fp0:List Nat} {ok:Nat->Prop} {P:Program} {σ:St} {θ:Nat->Value} {ρ:Rn->Value} {φ:Rn->List Nat}
theorem FR_int {k:IntKind} {n:Int} {u:Value} (h:FR w ok σ ρ (.d (.v (.int k n))) u):u = .int k n:=by simpa [FR,Sh] using h
theorem FR_v {x u:Value} (h:FR w ok σ ρ (.d (.v x)) u):u=x:=by simpa [FR,Sh] using h
theorem addOff_sound {a f:FV} {u:Value} {n:Nat} (hs:addOff a n=some f) (hu:FR w ok σ ρ a u) :
  ∃ b o,u = .pointer (some ⟨b,o,none⟩)/\FR w ok σ ρ f (.pointer (some ⟨b,o+n,none⟩)):=by
 unfold addOff at hs
 split at hs
 ·rename_i r p off
  injection hs with hs
  subst hs
  simp only [FR] at hu ⊢
  obtain ⟨o,cs,hv,b,q,h1,h2,h3,h4,h5⟩:=hu
  exact ⟨b,q+off,h5,o,cs,hv,b,q,h1,h2,h3,h4,by rw [Nat.add_assoc]⟩
 ·rename_i cs off
  injection hs with hs
  subst hs
  simp only [FR] at hu ⊢
  obtain ⟨b,o,h1,h2,h3⟩:=hu
  exact ⟨b,o+off,h1,b,o,by rw [Nat.add_assoc],h2,h3⟩
 ·rename_i cs
  injection hs with hs
  subst hs
  simp only [FR,Sh] at hu ⊢
  obtain ⟨b,o,h1,h2,h3⟩:=hu
  exact ⟨b,o,h1,b,o,rfl,h2,h3⟩
 ·rename_i fs off
  injection hs with hs
  subst hs
  simp only [FR] at hu ⊢
  obtain ⟨b,vs,h1,h2,h3,h4⟩:=hu
  exact ⟨b,off,h1,b,vs,rfl,h2,h3,h4⟩
 ·simp at hs
theorem field_sound {T:TT} (hT:tabB P T=true) {t i off:Nat} {a f:FV} {u:Value} (hf:fieldOff T t i=some off) (hs:addOff a off=some f) (hu:FR w ok σ ρ a u) :
  ∃ v,FR w ok σ ρ f v/\∀ w',(Instr.fieldAt t u i).run P w' = .ok v w':=by
 unfold fieldOff at hf
 split at hf
 ·rename_i ti hti
  split at hf
  ·rename_i fs hfs
   split at hf
   ·rename_i off' ft hft
    split at hf
    ·rename_i j hj
     split at hf
     ·simp at hf
     ·rename_i hne
      injection hf with hf
      subst hf
      obtain ⟨l,hl,he,_⟩:=kd_st (tab_ok hT hti) hfs
      obtain ⟨b,o,rfl,h2⟩:=addOff_sound hs hu
      refine ⟨_,h2,fun w'=>?_⟩
      rw [he,List.getElem?_map] at hft
      cases hfl:l[i]? with
      | none=>simp [hfl] at hft
      | some fl=>
       simp [hfl] at hft
       obtain ⟨e1,e2⟩:=hft
       have hsz:=(tab_ok hT hj).size w'
       rw [<-e2] at hsz
       simp [Instr.fieldAt,run_underlying hl,hfl,Instr.sureAddr,fieldPlace,hsz,hne,Addr_add,e1]
    ·simp at hf
   ·simp at hf
  ·simp at hf
 ·simp at hf
theorem al_block (h:Rel w0 fp0 ok σ θ w ρ φ) {r:Rn} {p:List Nat} {k N:Nat} {cs:List D} {hv:Value} (ho:σ.obj r p=some (.ow k N cs)) (hh:hdr w (ρ r) p=some hv) :
  (∃ b o c,hv = .slice (some ⟨b,o,none⟩) N c/\N<=c/\baseOf hv=some (b,o))\/(N=0/\∃ a,hv = .slice a 0 0):=by
 obtain ⟨hv',fo,hat⟩:=h.rts_.at_ (r:=r) (p:=p) ho
 have e:hv'=hv:=by have:=hat.hdr;rw [hh] at this;injection this with this;exact this.symm
 subst e
 have:=hat.own
 simp only [Ow] at this
 rcases this with ⟨e1,_,_,a,e2⟩ | ⟨b,o,c,arr,T,fp',e1,_,_,h2,_⟩
 ·exact .inr ⟨e1,a,e2⟩
 ·exact .inl ⟨b,o,c,e1,h2.1,by subst e1;rfl⟩
theorem kOf_eq {r:Rn} {p:List Nat} {k N:Nat} {cs:List D} (ho:σ.obj r p=some (.ow k N cs)):σ.kOf r p=k:=by simp [St.kOf,ho]
theorem index_sound {T:TT} (hT:tabB P T=true) (h:Rel w0 fp0 ok σ θ w ρ φ) {t:Nat} {a i f:FV} {u v:Value} {c:Prop} (hs:indexF T σ t a i=some (c,f)) (hc:c) (hu:FR w ok σ ρ a u) (hi:FR w ok σ ρ i v) :
  ∃ x,FR w ok σ ρ f x/\∀ w',(Instr.indexAt t u v).run P w' = .ok x w':=by
 unfold indexF at hs
 split at hs
 ·rename_i ti k0 x hti
  have hv:=FR_int hi
  subst hv
  have hrow:=tab_ok hT hti
  split at hs
  ·rename_i e he
   have hu0:=kd_sl hrow he
   split at hs
   ·rename_i k hk
    have hsz:∀ w':World,(sizeOf e).run P w' = .ok k w':=fun w'=>by
     unfold tsize at hk
     split at hk
     ·rename_i j hj
      injection hk with hk
      rw [<-hk]
      exact (tab_ok hT hj).size w'
     ·simp at hk
    have run:∀ (b o n cp:Nat),0<=x/\x < n->∀ w':World,(Instr.indexAt t (.slice (some ⟨b,o,none⟩) n cp) (.int k0 x)).run P w' = .ok (.pointer (some ⟨b,o+x.toNat*k,none⟩)) w':=by
     intro b o n cp hx w'
     simp [Instr.indexAt,run_underlying hu0,asIntOf,hx,hsz,Addr_add]
    split at hs
    ·rename_i r p lo n
     split at hs
     ·rename_i hkk
      injection hs with hs
      injection hs with h1 h2
      subst h2
      rw [<-h1] at hc
      simp only [FR] at hu
      obtain ⟨k',N,cs,hv,g1,g2,g3,g4⟩:=hu
      rw [kOf_eq g1] at hkk
      subst hkk
      rcases al_block h g1 g2 with ⟨b,o,cp,e1,e2,e3⟩ | ⟨e1,_⟩
      ·rcases g4 with ⟨rfl,a',N',c',e4,e5⟩ | ⟨hlo,b',o',N',c',e4,e5,e6⟩
       ·rw [e1] at e4
        cases e4
        subst e5
        refine ⟨_,?_,run b o n cp hc⟩
        simp only [FR]
        exact ⟨_,cs,hv,b,o,g1,rfl,g2,e3,by rw [Nat.mul_comm];simp⟩
       ·rw [e1] at e4
        cases e4
        rcases e6 with ⟨_,rfl⟩ | ⟨_,rfl,_⟩
        ·refine ⟨_,?_,run b _ n _ hc⟩
         simp only [FR]
         exact ⟨_,cs,hv,b,o,g1,rfl,g2,e3,by rw [Nat.mul_comm x.toNat,Nat.add_assoc,<-Nat.mul_add]⟩
        ·omega
      ·omega
     ·simp at hs
    ·rename_i r p off n
     split at hs
     ·rename_i hk1
      subst hk1
      injection hs with hs
      injection hs with h1 h2
      subst h2
      rw [<-h1] at hc
      simp only [FR] at hu
      obtain ⟨o,cs,hv,b,q,cp,g1,g2,g3,g4,g5,g6,g7⟩:=hu
      rcases g7 with rfl | ⟨rfl,_⟩
      ·refine ⟨_,?_,run b _ n cp hc⟩
       simp only [FR]
       exact ⟨o,cs,hv,b,q,g1,g2,g3,g4,by rw [Nat.mul_one,Nat.add_assoc]⟩
      ·omega
     ·simp at hs
    ·rename_i k' n cs
     split at hs
     ·rename_i hk1
      obtain ⟨hk1,hkp⟩:=hk1
      subst hk1
      injection hs with hs
      injection hs with h1 h2
      subst h2
      rw [<-h1] at hc
      simp only [FR,Sh] at hu
      obtain ⟨a',cp,e1,e2,e3,e4⟩:=hu
      rcases e4 with e4 | ⟨b,o,e4,e5,e6⟩
      ·subst e4
       subst e1
       simp only [List.length_nil] at e3
       have hn:n≠0:=by omega
       exact absurd e3.symm (Nat.ne_of_gt (Nat.mul_pos hkp (Nat.pos_of_ne_zero hn)))
      ·subst e4
       subst e1
       refine ⟨_,?_,run b o n cp hc⟩
       simp only [FR]
       exact ⟨b,o,by rw [Nat.mul_comm],e5,e6⟩
     ·simp at hs
    ·simp at hs
   ·simp at hs
  ·rename_i n e he
   have hu0:=kd_arr hrow he
   split at hs
   ·rename_i k hk
    have hsz:∀ w':World,(sizeOf e).run P w' = .ok k w':=fun w'=>by
     unfold tsize at hk
     split at hk
     ·rename_i j hj
      injection hk with hk
      rw [<-hk]
      exact (tab_ok hT hj).size w'
     ·simp at hk
    split at hs
    ·rename_i g hg
     injection hs with hs
     injection hs with h1 h2
     subst h2
     rw [<-h1] at hc
     obtain ⟨b,o,rfl,h3⟩:=addOff_sound hg hu
     refine ⟨_,h3,fun w'=>?_⟩
     simp [Instr.indexAt,run_underlying hu0,Instr.sureAddr,asIntOf,hc,hsz,Addr_add,Nat.mul_comm]
    ·simp at hs
   ·simp at hs
  ·simp at hs
 ·simp at hs
theorem run_equal_bool {t:Nat} {a b:Bool} (h:P.underlying t=some .bool) (w':World):(Op.equal t (.bool a) (.bool b)).run P w' = .ok (a == b) w':=run_equalIn_bool w' 9999 t a b h
theorem binInt_sound {op:BinOp} {k:IntKind} {a b:Int} {t:Nat} {x y:Operand} {c:Prop} {v:Value} (hs:binInt op k a b=some (c,v)) (hc:c) (w':World) :
  (do eqGuard op t x y (.int k a) (.int k b);binOp op t (.int k a) (.int k b):Sem Value).run P w' = .ok v w':=by
 have hg:(eqGuard op t x y (.int k a) (.int k b)).run P w' = .ok () w':=by
  unfold eqGuard
  split <;> rfl
 simp only [Sem.run_bind,hg,Result.andThen]
 cases op <;> simp only [binInt,bitsV,Option.some.injEq,Prod.mk.injEq,reduceCtorEq] at hs <;> obtain ⟨h1,rfl⟩:=hs <;> first
  | (rw [<-h1] at hc;simp [binOp,Op.intArith,Op.intDiv,Op.intBits,Op.intCmp,Op.shift,hc];done)
  | (rw [<-h1] at hc;have:=Int.not_lt.2 hc;simp [binOp,Op.shift,this])
theorem shiftInt_sound {op:BinOp} {k k':IntKind} {a b:Int} {t:Nat} {x y:Operand} {c:Prop} {v:Value} (hs:shiftInt op k a b=some (c,v)) (hc:c) (w':World) :
  (do eqGuard op t x y (.int k a) (.int k' b);binOp op t (.int k a) (.int k' b):Sem Value).run P w' = .ok v w':=by
 have hg:(eqGuard op t x y (.int k a) (.int k' b)).run P w' = .ok () w':=by
  unfold eqGuard
  split <;> rfl
 simp only [Sem.run_bind,hg,Result.andThen]
 cases op <;> simp only [shiftInt,Option.some.injEq,Prod.mk.injEq,reduceCtorEq] at hs <;> obtain ⟨h1,rfl⟩:=hs <;>
  (rw [<-h1] at hc;have:=Int.not_lt.2 hc;simp [binOp,Op.shift,this])
theorem run_eq2 {T:TT} (hT:tabB P T=true) {t t1 t2:Nat} {i i1 i2:TI} {q1 q2:IntKind} (hi:tget T t=some i) (hk:i.kd = .st [(0,t1),(1,t2)]) (h1:tget T t1=some i1) (k1:i1.kd = .int q1) (h2:tget T t2=some i2) (k2:i2.kd = .int q2) (a b c e:Int) (w':World) :
  (Op.equalIn 10000 t (.agg #[.int .i64 a,.int .i64 b]) (.agg #[.int .i64 c,.int .i64 e])).run P w' = .ok (a == c && b == e) w':=by
 obtain ⟨l,hl,he,hn,hp⟩:=kd_st (tab_ok hT hi) hk
 have hf:P.fieldsOf t=l:=by unfold Program.fieldsOf;rw [hl]
 rw [run_equalIn_agg w' 9999 t _ _ (by rw [hf];exact hl) hp,hf]
 obtain ⟨l⟩:=l
 dsimp only at he hn
 obtain ⟨f,g,rfl⟩:∃ f g,l=[f,g]:=by
  cases l with
  | nil=>simp at he
  | cons f l=>cases l with
   | nil=>simp at he
   | cons g l=>cases l with
    | nil=>exact ⟨f,g,rfl⟩
    | cons _ _=>simp at he
 ·simp only [List.map_cons,List.map_nil,List.cons.injEq,Prod.mk.injEq,and_true] at he
  obtain ⟨⟨o1,e1⟩,o2,e2⟩:=he
  have n1:=(hn f (by simp)).1
  have n2:=(hn g (by simp)).1
  have a1:∀ w,(isAgg f.type).run P w = .ok false w:=fun w=>by rw [<-e1,(tab_ok hT h1).agg w,k1];rfl
  have a2:∀ w,(isAgg g.type).run P w = .ok false w:=fun w=>by rw [<-e2,(tab_ok hT h2).agg w,k2];rfl
  have u1:P.underlying f.type=some (.int q1):=by rw [<-e1];exact kd_int (tab_ok hT h1) k1
  have u2:P.underlying g.type=some (.int q2):=by rw [<-e2];exact kd_int (tab_ok hT h2) k2
  simp [Op.eqFields,n1,n2,part,a1,a2,<-o1,<-o2,Sem.run_bind,Result.andThen,run_equalIn_int w' 9998 _ .i64 q1 _ _ u1,run_equalIn_int w' 9998 _ .i64 q2 _ _ u2]
  by_cases hac:a=c <;> by_cases hbe:b=e <;> simp [hac,hbe]
theorem bin_sound {T:TT} (hT:tabB P T=true) {op:BinOp} {t:Nat} {a b f:FV} {u v:Value} {x y:Operand} {c:Prop} (hs:binF T op t a b=some (c,f)) (hc:c) (hu:FR w ok σ ρ a u) (hv:FR w ok σ ρ b v) :
  ∃ z,FR w ok σ ρ f z/\∀ w',(do eqGuard op t x y u v;binOp op t u v:Sem Value).run P w' = .ok z w':=by
 unfold binF at hs
 split at hs
 ·rename_i k n k' m
  have:=FR_v hu
  subst this
  have:=FR_v hv
  subst this
  split at hs
  ·rename_i hk
   subst hk
   split at hs
   ·rename_i c' z hz
    injection hs with hs
    injection hs with h1 h2
    subst h2
    rw [<-h1] at hc
    exact ⟨z,by simp [FR,Sh],fun w'=>binInt_sound hz hc w'⟩
   ·simp at hs
  ·split at hs
   ·rename_i c' z hz
    injection hs with hs
    injection hs with h1 h2
    subst h2
    rw [<-h1] at hc
    exact ⟨z,by simp [FR,Sh],fun w'=>shiftInt_sound hz hc w'⟩
   ·simp at hs
 ·rename_i n m
  have:=FR_v hu
  subst this
  have:=FR_v hv
  subst this
  split at hs
  ·rename_i i hi
   split at hs
   ·rename_i hk
    have hb:=kd_bool (tab_ok hT hi) hk
    have hg:∀ w',(eqGuard op t x y (.bool n) (.bool m)).run P w' = .ok () w':=fun w'=>by
     unfold eqGuard
     split <;> rfl
    split at hs
    ·injection hs with hs
     injection hs with h1 h2
     subst h2
     exact ⟨.bool (n == m),by simp [FR,Sh],fun w'=>by simp [hg,binOp,run_equal_bool hb]⟩
    ·injection hs with hs
     injection hs with h1 h2
     subst h2
     exact ⟨.bool (!(n == m)),by simp [FR,Sh],fun w'=>by simp [hg,binOp,run_equal_bool hb]⟩
    ·simp at hs
   ·simp at hs
  ·simp at hs
 ·rename_i n m
  have:=FR_v hu
  subst this
  have:=FR_v hv
  subst this
  have hg:∀ w',(eqGuard op t x y (.string n) (.string m)).run P w' = .ok () w':=fun w'=>by
   unfold eqGuard
   split <;> rfl
  split at hs
  ·injection hs with hs
   injection hs with h1 h2
   subst h2
   rw [<-h1] at hc
   refine ⟨.string (n ++ m),by simp [FR,Sh],fun w'=>?_⟩
   have:¬ ((n.size+m.size:Nat):Int) > IntKind.i64.max:=by
    have:IntKind.i64.max=9223372036854775807:=by decide
    rw [this]
    omega
   simp [hg,binOp,Op.stringOp]
   omega
  ·injection hs with hs
   injection hs with h1 h2
   subst h2
   exact ⟨.bool (n.toList == m.toList),by simp [FR,Sh],fun w'=>by simp [hg,binOp,Op.stringOp]⟩
  ·injection hs with hs
   injection hs with h1 h2
   subst h2
   exact ⟨.bool (!(n.toList == m.toList)),by simp [FR,Sh],fun w'=>by simp [hg,binOp,Op.stringOp]⟩
  ·simp at hs
 ·rename_i a b c' e
  simp only [FR,FRL,Sh] at hu hv
  obtain ⟨vs,rfl,u1,us,g1,rfl,u2,us2,g2,rfl,g3⟩:=hu
  obtain ⟨ws,rfl,v1,vs1,r1,rfl,v2,vs2,r2,rfl,r3⟩:=hv
  subst g2 g3 r2 r3
  obtain ⟨vs⟩:=vs
  obtain ⟨ws⟩:=ws
  dsimp only at g1 r1
  subst g1 r1
  split at hs
  ·rename_i i hi
   split at hs
   ·rename_i t1 t2 hk
    split at hs
    ·rename_i i1 i2 h1 h2
     split at hs
     ·rename_i q1 q2 k1 k2
      have hq:=fun w'=>run_eq2 hT hi hk h1 k1 h2 k2 a b c' e w'
      have hm:=kd_guard (tab_ok hT hi) hk
      split at hs
      ·injection hs with hs
       injection hs with h3 h4
       subst h4
       exact ⟨.bool (a == c' && b == e),by simp [FR,Sh],fun w'=>by simp only [Sem.run_bind,run_eqGuard_agg w' _ t _ _ _ _ hm,Result.andThen,run_eql_struct,hq]⟩
      ·injection hs with hs
       injection hs with h3 h4
       subst h4
       exact ⟨.bool (!(a == c' && b == e)),by simp [FR,Sh],fun w'=>by simp only [Sem.run_bind,run_eqGuard_agg w' _ t _ _ _ _ hm,Result.andThen,run_neq_struct,hq]⟩
      ·simp at hs
     ·simp at hs
    ·simp at hs
   ·simp at hs
  ·simp at hs
 ·simp at hs
end
end Go.Proofs.Ytncfmemhjahpeaa.Ab
namespace Go.Proofs.Ytncfmemhjahpeaa.Ab
open Go
section
variable {w0 w:World} {fp0:List Nat} {ok:Nat->Prop} {P:Program} {σ:St} {θ:Nat->Value} {ρ:Rn->Value} {φ:Rn->List Nat}
def FRO (w:World) (ok:Nat->Prop) (σ:St) (ρ:Rn->Value):Option FV->Option Value->Prop
 | none,none=>True
 | some f,some v=>FR w ok σ ρ f v
 | _,_=>False
theorem bounds_sound {l h:Option FV} {lv hv:Option Value} {n cap x y:Nat} {c:Prop} {b:Bool} (hs:boundsF l h n=some (c,x,y)) (hc:c) (hl:FRO w ok σ ρ l lv) (hh:FRO w ok σ ρ h hv) (hn:n<=cap) (w':World) :
  x<=y/\y<=n/\(Instr.sliceBounds b n cap lv hv none).run P w' = .ok (x,y,cap) w':=by
 unfold boundsF at hs
 split at hs
 ·cases lv <;> simp [FRO] at hl
  cases hv <;> simp [FRO] at hh
  simp only [Option.some.injEq,Prod.mk.injEq] at hs
  obtain ⟨h1,rfl,rfl⟩:=hs
  exact ⟨Nat.zero_le _,Nat.le_refl _,by simp [Instr.sliceBounds]⟩
 ·rename_i k i
  cases lv with
  | none=>simp [FRO] at hl
  | some lv=>
  cases hv <;> simp [FRO] at hh
  have:=FR_v (show FR w ok σ ρ _ _ from hl)
  subst this
  simp only [Option.some.injEq,Prod.mk.injEq] at hs
  obtain ⟨h1,rfl,rfl⟩:=hs
  rw [<-h1] at hc
  exact ⟨by omega,Nat.le_refl _,by simp [Instr.sliceBounds,run_sliceBound,hc.1,hc.2]⟩
 ·rename_i k i
  cases hv with
  | none=>simp [FRO] at hh
  | some hv=>
  cases lv <;> simp [FRO] at hl
  have:=FR_v (show FR w ok σ ρ _ _ from hh)
  subst this
  simp only [Option.some.injEq,Prod.mk.injEq] at hs
  obtain ⟨h1,rfl,rfl⟩:=hs
  rw [<-h1] at hc
  have h2:i<=(cap:Int):=by omega
  exact ⟨Nat.zero_le _,by omega,by simp [Instr.sliceBounds,run_sliceBound,hc.1,h2]⟩
 ·rename_i k i k' j
  cases lv with
  | none=>simp [FRO] at hl
  | some lv=>
  cases hv with
  | none=>simp [FRO] at hh
  | some hv=>
  have:=FR_v (show FR w ok σ ρ _ _ from hl)
  subst this
  have:=FR_v (show FR w ok σ ρ _ _ from hh)
  subst this
  simp only [Option.some.injEq,Prod.mk.injEq] at hs
  obtain ⟨h1,rfl,rfl⟩:=hs
  rw [<-h1] at hc
  have h2:j<=(cap:Int):=by omega
  have h3:0<=j:=by omega
  have h4:i<=(j.toNat:Int):=by omega
  refine ⟨by omega,by omega,?_⟩
  simp only [Instr.sliceBounds,Sem.run_bind,Sem.run_pure,Result.andThen,Option.isSome_none,Bool.false_eq_true,if_false]
  rw [run_sliceBound w' k' j cap _ h3 h2]
  simp only []
  rw [run_sliceBound w' k i j.toNat _ hc.1 h4]
 ·simp at hs
theorem isZero_eq {x:Option Operand} (h:isZero x=true) (a:Act):∃ k,x.map a.eval=some (.int k 0):=by
 unfold isZero at h
 split at h
 ·rename_i k
  exact ⟨k,rfl⟩
 ·simp at h
theorem tsize_run {T:TT} (hT:tabB P T=true) {e k:Nat} (hk:tsize T e=some k) (w':World):(sizeOf e).run P w' = .ok k w':=by
 unfold tsize at hk
 split at hk
 ·rename_i j hj
  injection hk with hk
  rw [<-hk]
  exact (tab_ok hT hj).size w'
 ·simp at hk
theorem sliceAt_run {t e k:Nat} (hu:P.underlying t=some (.slice e)) (hsz:∀ w':World,(sizeOf e).run P w' = .ok k w') {a:Option Addr} {n c:Nat} {lo hi mx:Option Value} {x y m:Nat} {w':World}
  (hb:(Instr.sliceBounds true n c lo hi mx).run P w' = .ok (x,y,m) w') :
  (Instr.sliceAt t (.slice a n c) lo hi mx).run P w' = .ok (.slice (if m=x then a else a.map (·.add (x*k))) (y - x) (m - x)) w':=by
 simp [Instr.sliceAt,Instr.slice,run_underlying hu,hb,hsz]
theorem al_sub (h:Rel w0 fp0 ok σ θ w ρ φ) {r:Rn} {p:List Nat} {k lo n:Nat} {u:Value} (hk:σ.kOf r p=k) (hu:FR w ok σ ρ (.al r p lo n) u):∃ a c,u = .slice a n c/\n<=c /\
  ∀ x y,x<=y->y<=n->FR w ok σ ρ (.al r p (lo+x) (y - x)) (.slice (if c=x then a else a.map (·.add (x*k))) (y - x) (c - x)):=by
 simp only [FR] at hu
 obtain ⟨k',N,cs,hv,g1,g2,g3,g4⟩:=hu
 rw [kOf_eq g1] at hk
 subst hk
 rcases al_block h g1 g2 with ⟨b,o,cp,e1,e2,e3⟩ | ⟨e1,a0,e2⟩
 ·rcases g4 with ⟨rfl,a',N',c',e4,e5⟩ | ⟨hlo,b',o',N',c',e4,e6,e5⟩
  ·rw [e1] at e4
   cases e4
   refine ⟨_,_,e5,by omega,fun x y hxy hyn=>?_⟩
   simp only [FR]
   refine ⟨_,N,cs,hv,g1,g2,by omega,?_⟩
   rcases Nat.eq_zero_or_pos x with rfl | hx
   ·exact .inl ⟨rfl,_,N,cp,e1,by by_cases hc:cp=0 <;> simp [hc,Addr_add]⟩
   ·refine .inr ⟨by omega,b,o,N,cp,e1,by omega,?_⟩
    by_cases hc:cp=x
    ·exact .inr ⟨by omega,by omega,some ⟨b,o,none⟩,by rw [if_pos hc];simp [hc];omega⟩
    ·refine .inl ⟨by omega,?_⟩
     rw [if_neg hc]
     simp [Addr_add,Nat.mul_comm]
  ·rw [e1] at e4
   cases e4
   rcases e5 with ⟨h1,e5⟩ | ⟨h1,h2,a1,e5⟩
   ·refine ⟨_,_,e5,by omega,fun x y hxy hyn=>?_⟩
    simp only [FR]
    refine ⟨_,N,cs,hv,g1,g2,by omega,.inr ⟨by omega,b,o,N,cp,e1,by omega,?_⟩⟩
    by_cases hc:cp - lo=x
    ·exact .inr ⟨by omega,by omega,some ⟨b,o+k' * lo,none⟩,by rw [if_pos hc];simp;omega⟩
    ·refine .inl ⟨by omega,?_⟩
     rw [if_neg hc]
     simp [Addr_add,Nat.mul_add,Nat.add_assoc,Nat.mul_comm]
     omega
   ·subst h2
    refine ⟨a1,0,e5,Nat.le_refl _,fun x y hxy hyn=>?_⟩
    have hx:x=0:=by omega
    have hy:y=0:=by omega
    subst hx;subst hy
    simp only [FR]
    exact ⟨_,N,cs,hv,g1,g2,by omega,.inr ⟨by omega,b,o,N,cp,e1,by omega,.inr ⟨by omega,rfl,a1,by simp⟩⟩⟩
 ·have hn:n=0:=by omega
  subst hn
  rcases g4 with ⟨rfl,a',N',c',e4,e5⟩ | ⟨hlo,b',o',N',c',e4,e6,e5⟩
  ·rw [e2] at e4
   cases e4
   refine ⟨_,_,e5,Nat.le_refl _,fun x y hxy hyn=>?_⟩
   have hx:x=0:=by omega
   have hy:y=0:=by omega
   subst hx;subst hy
   simp only [FR]
   exact ⟨_,N,cs,hv,g1,g2,by omega,.inl ⟨rfl,a0,0,0,e2,by simp⟩⟩
  ·omega
theorem slice_sound {T:TT} (hT:tabB P T=true) (h:Rel w0 fp0 ok σ θ w ρ φ) {t:Nat} {x:FV} {f:FV} {u:Value} {lo hi mx:Option Operand} {a:Act} {c:Prop}
  (hs:sliceF T σ t x lo hi mx (lo.map (opv σ)) (hi.map (opv σ)) (mx.map (opv σ))=some (c,f)) (hc:c) (hu:FR w ok σ ρ x u)
  (hl:FRO w ok σ ρ (lo.map (opv σ)) (lo.map a.eval)) (hh:FRO w ok σ ρ (hi.map (opv σ)) (hi.map a.eval)) (hm:FRO w ok σ ρ (mx.map (opv σ)) (mx.map a.eval)) :
  ∃ z,FR w ok σ ρ f z/\∀ w',(Instr.sliceAt t u (lo.map a.eval) (hi.map a.eval) (mx.map a.eval)).run P w' = .ok z w':=by
 have shS:∀ (k n:Nat) (cs:List D) (v:Value),FR w ok σ ρ (.d (.sh k n cs)) v->∃ a c,v = .slice a n c/\n<=c:=by
  intro k n cs v hv
  simp only [FR,Sh] at hv
  obtain ⟨a,c,e,h1,_⟩:=hv
  exact ⟨a,c,e,h1⟩
 have alS:∀ (r:Rn) (p:List Nat) (lo n:Nat) (v:Value),FR w ok σ ρ (.al r p lo n) v->∃ a c,v = .slice a n c:=by
  intro r p lo n v hv
  obtain ⟨a,c,e,_⟩:=al_sub h rfl hv
  exact ⟨a,c,e⟩
 unfold sliceF at hs
 split at hs
 ·simp at hs
 ·rename_i ti hti
  have hrow:=tab_ok hT hti
  split at hs
  ·rename_i e he
   have hu0:=kd_sl hrow he
   split at hs
   ·simp at hs
   ·rename_i k hk
    have hsz:=tsize_run hT hk
    have zero:∀ (a0:Option Addr) (n cp:Nat),u = .slice a0 n cp->isZero mx=true->isZero lo=true->isZero hi=true ->
      ∀ w',(Instr.sliceAt t u (lo.map a.eval) (hi.map a.eval) (mx.map a.eval)).run P w' = .ok (.slice a0 0 0) w':=by
     intro a0 n cp e h1 h2 h3 w'
     subst e
     obtain ⟨k1,e1⟩:=isZero_eq h1 a
     obtain ⟨k2,e2⟩:=isZero_eq h2 a
     obtain ⟨k3,e3⟩:=isZero_eq h3 a
     rw [e1,e2,e3]
     have hb:(Instr.sliceBounds true n cp (some (.int k2 0)) (some (.int k3 0)) (some (.int k1 0))).run P w' = .ok (0,0,0) w':=by
      simp [Instr.sliceBounds,run_sliceBound]
     rw [sliceAt_run hu0 hsz hb]
     simp
    split at hs
    ·rename_i z1 z2 z3
     injection hs with hs
     injection hs with h1 h2
     subst h2
     obtain ⟨a0,cp,e1⟩:=alS _ _ _ _ _ hu
     exact ⟨_,by simp only [FR,Sh];exact ⟨a0,rfl⟩,zero a0 _ cp e1 z1 z2 z3⟩
    ·rename_i z1 z2 z3
     injection hs with hs
     injection hs with h1 h2
     subst h2
     obtain ⟨a0,cp,e1,_⟩:=shS _ _ _ _ hu
     exact ⟨_,by simp only [FR,Sh];exact ⟨a0,rfl⟩,zero a0 _ cp e1 z1 z2 z3⟩
    ·split at hs
     ·rename_i r p lo0 n _ _
      split at hs
      ·rename_i hkk
       split at hs
       ·rename_i c' x y hbf
        obtain ⟨a0,cp,e1,h1,h2⟩:=al_sub h hkk hu
        subst e1
        split at hs
        ·rename_i hmn
         injection hs with hs
         injection hs with h3 h4
         subst h4
         rw [<-h3] at hc
         have hmx:mx.map a.eval=none:=by
          rw [hmn] at hm
          cases e:mx.map a.eval with
          | none=>rfl
          | some v=>rw [e] at hm;simp [FRO] at hm
         rw [hmx]
         refine ⟨_,h2 x y (bounds_sound (P:=P) (b:=true) hbf hc hl hh h1 w).1 (bounds_sound (P:=P) (b:=true) hbf hc hl hh h1 w).2.1,fun w'=>?_⟩
         exact sliceAt_run hu0 hsz (bounds_sound (P:=P) (b:=true) hbf hc hl hh h1 w').2.2
        ·rename_i k0 z hmz
         split at hs
         ·rename_i hcnd
          obtain ⟨rfl,hln,hhs⟩:=hcnd
          injection hs with hs
          injection hs with h3 h4
          subst h4
          rw [<-h3] at hc
          obtain ⟨b1,b2,b3⟩:=bounds_sound (P:=P) (b:=true) hbf hc.1 hl hh h1 w
          have hln':lo.map (opv σ)=none:=by simpa using hln
          rw [hln'] at hbf hl
          have hlv:lo.map a.eval=none:=by
           cases e:lo.map a.eval with
           | none=>rfl
           | some v=>rw [e] at hl;simp [FRO] at hl
          have hmv:mx.map a.eval=some (.int k0 z):=by
           rw [hmz] at hm
           cases e:mx.map a.eval with
           | none=>rw [e] at hm;simp [FRO] at hm
           | some v=>rw [e] at hm;rw [FR_v (show FR w ok σ ρ _ _ from hm)]
          cases eh:hi.map (opv σ) with
          | none=>rw [eh] at hhs;simp at hhs
          | some hf=>
          rw [eh] at hbf hh
          unfold boundsF at hbf
          split at hbf
          ·rename_i heq;simp at heq
          ·rename_i heq;simp at heq
          ·rename_i k1 j _ heq
           injection heq with heq
           subst heq
           have hhv:hi.map a.eval=some (.int k1 j):=by
            cases e:hi.map a.eval with
            | none=>rw [e] at hh;simp [FRO] at hh
            | some v=>rw [e] at hh;rw [FR_v (show FR w ok σ ρ _ _ from hh)]
           simp only [Option.some.injEq,Prod.mk.injEq] at hbf
           obtain ⟨f1,f2,f3⟩:=hbf
           subst f2
           rw [<-f1] at hc
           rw [hlv,hmv,hhv]
           subst f3
           obtain ⟨⟨c1,c2⟩,c3⟩:=hc
           refine ⟨.slice a0 j.toNat j.toNat,?_,fun w'=>?_⟩
           ·have:=h2 0 n (Nat.zero_le _) (Nat.le_refl _)
            simp only [FR] at hu ⊢
            obtain ⟨k',N,cs,hv,g1,g2,g3,g4⟩:=hu
            rcases g4 with ⟨_,a',N',c',e4,e5⟩ | ⟨hlo,_⟩
            ·injection e5 with e5 e6 e7
             subst e5
             exact ⟨k',N,cs,hv,a0,N',c',g1,g2,by omega,e4,rfl⟩
            ·omega
           ·have hz:0<=z:=by omega
            have hz2:z<=(cp:Int):=by omega
            have hb:(Instr.sliceBounds true n cp none (some (.int k1 j)) (some (.int k0 z))).run P w' = .ok (0,j.toNat,j.toNat) w':=by
             simp only [Instr.sliceBounds,Sem.run_bind,Sem.run_pure,Result.andThen,Option.isSome_some,if_true]
             rw [run_sliceBound w' k0 z cp _ hz hz2]
             simp only []
             rw [run_sliceBound w' k1 j z.toNat _ c1 (by omega)]
             simp only [Result.ok.injEq,Prod.mk.injEq,true_and,and_true]
             omega
            rw [sliceAt_run hu0 hsz hb]
            by_cases hj:j.toNat=0
            ·simp [hj]
            ·simp only [hj,if_false,Nat.zero_mul,Nat.sub_zero,Result.ok.injEq,Value.slice.injEq,and_true]
             cases a0 <;> simp [Addr.add]
          ·rename_i heq _;simp at heq
          ·simp at hbf
         ·simp at hs
        ·simp at hs
       ·simp at hs
      ·simp at hs
     ·rename_i k' n cs _ _
      split at hs
      ·rename_i c' x y hmn hbf
       split at hs
       ·rename_i hkk
        subst hkk
        injection hs with hs
        injection hs with h3 h4
        subst h4
        rw [<-h3] at hc
        have hmx:mx.map a.eval=none:=by
         rw [hmn] at hm
         cases e:mx.map a.eval with
         | none=>rfl
         | some v=>rw [e] at hm;simp [FRO] at hm
        rw [hmx]
        simp only [FR,Sh] at hu ⊢
        obtain ⟨a0,cp,rfl,h1,h2,h5⟩:=hu
        obtain ⟨b1,b2,b3⟩:=bounds_sound (P:=P) (b:=true) hbf hc hl hh h1 w
        refine ⟨_,⟨_,_,rfl,by omega,?_,?_⟩,fun w'=>sliceAt_run hu0 hsz (bounds_sound (P:=P) (b:=true) hbf hc hl hh h1 w').2.2⟩
        ·rw [List.length_take,List.length_drop,h2,<-Nat.mul_sub,Nat.min_eq_left (Nat.mul_le_mul_left _ (by omega))]
        ·rcases h5 with rfl | ⟨b,o,rfl,h6,h7⟩
         ·exact .inl (by simp)
         ·by_cases hcx:cp=x
          ·have:y - x=0:=by omega
           exact .inl (by simp [this])
          ·exact .inr ⟨b,o+k' * x,by rw [if_neg hcx];simp [Addr_add,Nat.mul_comm],h6,ShL_take _ (ShL_drop _ h7)⟩
       ·simp at hs
      ·simp at hs
     ·simp at hs
  ·rename_i n e he
   have hu0:=kd_arr hrow he
   split at hs
   ·rename_i k hk hmn
    split at hs
    ·rename_i hk1
     subst hk1
     have hsz:=tsize_run hT hk
     split at hs
     ·rename_i c' x y hbf
      split at hs
      ·rename_i r p off
       injection hs with hs
       injection hs with h3 h4
       subst h4
       rw [<-h3] at hc
       have hmx:mx.map a.eval=none:=by
        rw [hmn] at hm
        cases e:mx.map a.eval with
        | none=>rfl
        | some v=>rw [e] at hm;simp [FRO] at hm
       rw [hmx]
       simp only [FR] at hu ⊢
       obtain ⟨o,cs,hv,b,q,h1,h2,h5,h6,rfl⟩:=hu
       obtain ⟨b1,b2,b3⟩:=bounds_sound (P:=P) (b:=false) hbf hc.1 hl hh (Nat.le_refl n) w
       have hn:σ.nOf r p=cs.length:=by simp [St.nOf,h1,h2]
       have hc2:=hc.2
       rw [hn] at hc2
       refine ⟨.slice (some (if n=x then ⟨b,q+off,none⟩ else Addr.add ⟨b,q+off,none⟩ (x*1))) (y - x) (n - x),⟨o,cs,hv,b,q,n - x,h1,h2,h5,h6,by omega,by omega,?_⟩,fun w'=>?_⟩
       case refine_2=>
        have hb:=(bounds_sound (P:=P) (b:=false) hbf hc.1 hl hh (Nat.le_refl n) w').2.2
        simp [Instr.sliceAt,Instr.sureAddr,run_underlying hu0,hb,hsz]
       case refine_1=>
        by_cases hcx:n=x
        ·exact .inr ⟨by omega,some ⟨b,q+off,none⟩,by rw [if_pos hcx];simp;omega⟩
        ·exact .inl (by rw [if_neg hcx,Addr_add,Nat.mul_one,Nat.add_assoc])
      ·simp at hs
     ·simp at hs
    ·simp at hs
   ·simp at hs
  ·simp at hs
end
end Go.Proofs.Ytncfmemhjahpeaa.Ab
namespace Go.Proofs.Ytncfmemhjahpeaa.Ab
open Go
section
variable {w0 w:World} {fp0:List Nat} {ok:Nat->Prop} {P:Program} {σ:St} {θ:Nat->Value} {ρ:Rn->Value} {φ:Rn->List Nat}
theorem FRL_set:∀ (fs:List FV) (us:List Value) (i:Nat) (f:FV) (u:Value),FRL w ok σ ρ fs us->FR w ok σ ρ f u->FRL w ok σ ρ (fs.set i f) (us.set i u)
 | [],us,i,f,u,h,_=>by simp only [FRL] at h;subst h;simp [FRL]
 | g :: fs,us,0,f,u,h,k=>by
  simp only [FRL] at h
  obtain ⟨v,vs,rfl,h1,h2⟩:=h
  simp only [List.set_cons_zero,FRL]
  exact ⟨u,vs,rfl,k,h2⟩
 | g :: fs,us,i+1,f,u,h,k=>by
  simp only [FRL] at h
  obtain ⟨v,vs,rfl,h1,h2⟩:=h
  simp only [List.set_cons_succ,FRL]
  exact ⟨v,_,rfl,h1,FRL_set fs vs i f u h2 k⟩
theorem FRL_get {i:Nat} {f:FV}:∀ {fs:List FV} {us:List Value},FRL w ok σ ρ fs us->fs[i]? = some f->∃ u,us[i]? = some u/\FR w ok σ ρ f u:=by
 induction i with
 | zero=>
  intro fs us h e
  cases fs with
  | nil=>simp at e
  | cons g fs=>
   simp only [FRL] at h
   obtain ⟨v,vs,rfl,h1,h2⟩:=h
   simp only [List.getElem?_cons_zero,Option.some.injEq] at e
   subst e
   exact ⟨v,rfl,h1⟩
 | succ i ih=>
  intro fs us h e
  cases fs with
  | nil=>simp at e
  | cons g fs=>
   simp only [FRL] at h
   obtain ⟨v,vs,rfl,h1,h2⟩:=h
   simp only [List.getElem?_cons_succ] at e ⊢
   exact ih h2 e
theorem setAtoms_FRL:∀ (aas:List FV) (cs:List Value) (off k:Nat) (l:List FV) (A:Array Value),FRL w ok σ ρ aas cs->FRL w ok σ ρ l A.toList ->
  FRL w ok σ ρ (setAtoms l (off+k) aas) ((cs.zipIdx k).foldl (fun A x=>A.setIfInBounds (off+x.2) x.1) A).toList
 | [],cs,off,k,l,A,h,hl=>by
  simp only [FRL] at h
  subst h
  simpa [setAtoms] using hl
 | a :: aas,cs,off,k,l,A,h,hl=>by
  simp only [FRL] at h
  obtain ⟨v,vs,rfl,h1,h2⟩:=h
  simp only [setAtoms,List.zipIdx_cons,List.foldl_cons]
  rw [Nat.add_assoc]
  refine setAtoms_FRL aas vs off (k+1) _ _ h2 ?_
  rw [Array.toList_setIfInBounds]
  exact FRL_set _ _ _ _ _ hl h1
theorem setAtoms_length:∀ (aas:List FV) (l:List FV) (off:Nat),(setAtoms l off aas).length=l.length
 | [],l,off=>rfl
 | a :: aas,l,off=>by simp [setAtoms,setAtoms_length aas]
theorem whole_cells (hR:Rel w0 fp0 ok σ θ w ρ φ) {f:FV} {v:Value} (hw:f.whole=true) (h:FR w ok σ ρ f v):FRL w ok σ ρ f.atoms v.cells.toList:=by
 have one:∀ g:FV,g.atoms=[g]->(∀ cs,v≠.agg cs)->FR w ok σ ρ g v->FRL w ok σ ρ g.atoms v.cells.toList:=by
  intro g hg hv hf
  rw [hg]
  have:v.cells = #[v]:=by
   unfold Value.cells
   split
   ·rename_i cs
    exact absurd rfl (hv cs)
   ·rfl
  rw [this]
  simp only [FRL]
  exact ⟨v,[],rfl,hf,rfl⟩
 cases f with
 | d x=>
  refine one _ rfl (fun cs e=>?_) h
  simp only [FR] at h
  have:=leaf_one (by simpa [FV.whole] using hw) h
  subst e
  simp [Value.oneCell'] at this
 | al r p lo n=>
  refine one _ rfl (fun cs e=>?_) h
  simp only [FR] at h
  obtain ⟨k,N,cs,hv,_,_,_,g4⟩:=h
  subst e
  rcases g4 with ⟨_,a',N',c',_,e5⟩ | ⟨_,b',o',N',c',_,_,⟨_,e5⟩ | ⟨_,_,_,e5⟩⟩ <;> simp at e5
 | cu r p n=>
  refine one _ rfl (fun cs e=>?_) h
  simp only [FR] at h
  obtain ⟨k,N,cs,hv,a,M,c,_,_,_,_,e5⟩:=h
  subst e
  simp at e5
 | pt r p off=>
  refine one _ rfl (fun cs e=>?_) h
  simp only [FR] at h
  obtain ⟨o,cs,hv,b,q,_,_,_,_,e5⟩:=h
  subst e
  simp at e5
 | ar r p off n=>
  refine one _ rfl (fun cs e=>?_) h
  simp only [FR] at h
  obtain ⟨o,cs,hv,b,q,c,_,_,_,_,_,_,e5 | ⟨_,_,e5⟩⟩:=h <;> (subst e;simp at e5)
 | mr r p=>
  refine one _ rfl (fun cs e=>?_) h
  simp only [FR] at h
  obtain ⟨es,hv,g1,g2,e5⟩:=h
  subst e
  obtain ⟨hv',fo,hat⟩:=hR.rts_.at_ (r:=r) (p:=p) g1
  have e6:hv'=hv:=by have:=hat.hdr;rw [g2] at this;injection this with this;exact this.symm
  subst e6
  have:=hat.own
  simp only [Ow] at this
  obtain ⟨m,en,cl,e7,_⟩:=this
  rw [<-e5] at e7
  simp at e7
 | fb fs off=>simp [FV.whole] at hw
 | sp cs off=>
  refine one _ rfl (fun cs e=>?_) h
  simp only [FR] at h
  obtain ⟨b,o,e5,_⟩:=h
  subst e
  simp at e5
 | cl f fs=>
  refine one _ rfl (fun cs e=>?_) h
  simp only [FR] at h
  obtain ⟨vs,e5,_⟩:=h
  subst e
  simp at e5
 | ag fs=>
  simp only [FR] at h
  obtain ⟨vs,rfl,h⟩:=h
  simpa [FV.atoms,Value.cells] using h
 | it=>simp [FV.whole] at hw
 | tu=>simp [FV.whole] at hw
 | dead=>simp [FV.whole] at hw
def FRP (w:World) (ok:Nat->Prop) (σ:St) (ρ:Rn->Value):List (Nat×FV)->List (Nat×Value)->Prop
 | [],vs=>vs=[]
 | f :: fs,vs=>∃ u us,vs=u :: us/\u.1=f.1/\FR w ok σ ρ f.2 u.2/\FRP w ok σ ρ fs us
theorem fill_sound (hR:Rel w0 fp0 ok σ θ w ρ φ) {place place':Nat->Option (Nat×Nat)} (hp:∀ i x,place i=some x->place' i=some x):∀ (parts:List (Nat×FV)) (vals:List (Nat×Value)) (l l':List FV) (A:Array Value),
  FRP w ok σ ρ parts vals->FRL w ok σ ρ l A.toList->fillF place l parts=some l'->∃ B:Array Value,Instr.fill place' A vals=some B/\FRL w ok σ ρ l' B.toList/\B.size=A.size
 | [],vals,l,l',A,hv,hl,hs=>by
  simp only [FRP] at hv
  subst hv
  simp only [fillF,Option.some.injEq] at hs
  subst hs
  exact ⟨A,by simp [Instr.fill],hl,rfl⟩
 | (i,f) :: parts,vals,l,l',A,hv,hl,hs=>by
  simp only [FRP] at hv
  obtain ⟨⟨j,u⟩,us,rfl,e1,h1,h2⟩:=hv
  simp only at e1 h1
  subst e1
  simp only [fillF] at hs
  split at hs
  ·rename_i off size hpl
   split at hs
   ·rename_i hc
    obtain ⟨c1,c2,c3⟩:=hc
    have hcs:=whole_cells hR c1 h1
    have hlen:=FRL_length hcs
    rw [c2] at hlen
    have hA:=FRL_length hl
    have hset:=setAtoms_FRL f.atoms u.cells.toList off 0 l A hcs hl
    rw [Nat.add_zero] at hset
    obtain ⟨B,b1,b2,b3⟩:=fill_sound hR hp parts us _ l' _ h2 hset hs
    refine ⟨B,?_,b2,?_⟩
    ·simp only [Instr.fill,hp _ _ hpl]
     have g1:u.cells.size=size:=by simpa using hlen
     have g2:A.size=l.length:=by simpa using hA
     rw [if_neg (by simp [g1,g2];omega)]
     rw [<-Array.foldl_toList,Array.toList_zipIdx]
     exact b1
    ·rw [b3,<-Array.length_toList,FRL_length hset,setAtoms_length,<-hA,Array.length_toList]
   ·simp at hs
  ·simp at hs
theorem FRL_zero:∀ (zs:List Value),FRL w ok σ ρ (zs.map fun z=>.d (.v z)) zs
 | []=>by simp [FRL]
 | z :: zs=>by
  simp only [List.map_cons,FRL]
  exact ⟨z,zs,rfl,by simp [FR,Sh],FRL_zero zs⟩
theorem places_of {fs:List Field} (h:∀ f∈fs,(P.info? f.type).isSome=true):∃ places,fs.mapM (fun f=>(P.info? f.type).map fun i=>(f.offset,i.size))=some places /\
  ∀ (i:Nat) (f:Field),fs[i]? = some f->places[i]? = some (f.offset,P.cellsOf f.type):=by
 induction fs with
 | nil=>exact ⟨[],by simp,by simp⟩
 | cons f fs ih=>
  obtain ⟨pl,h1,h2⟩:=ih fun g hg=>h g (List.mem_cons_of_mem _ hg)
  obtain ⟨i,hi⟩:=Option.isSome_iff_exists.1 (h f (List.mem_cons_self ..))
  refine ⟨(f.offset,i.size) :: pl,by simp [List.mapM_cons,hi,h1],fun j g hj=>?_⟩
  cases j with
  | zero=>
   simp only [List.getElem?_cons_zero,Option.some.injEq] at hj ⊢
   subst hj
   simp [Program.cellsOf,hi]
  | succ j=>
   simp only [List.getElem?_cons_succ] at hj ⊢
   exact h2 j g hj
theorem build_sound {T:TT} (hT:tabB P T=true) (hR:Rel w0 fp0 ok σ θ w ρ φ) {t:Nat} {parts:List (Nat×FV)} {vals:Array (Nat×Value)} {f:FV} (hs:buildF T t parts=some f) (hv:FRP w ok σ ρ parts vals.toList) :
  ∃ z,FR w ok σ ρ f z/\∀ w',(Instr.build t vals).run P w' = .ok z w':=by
 unfold buildF at hs
 split at hs
 ·rename_i ti hti
  have hrow:=tab_ok hT hti
  split at hs
  ·rename_i fs hfs
   split at hs
   ·rename_i l hl
    injection hs with hs
    subst hs
    obtain ⟨flds,hu,he,hn,_⟩:=kd_st hrow hfs
    obtain ⟨tinfo,i1,i2,i3,z,i4,i5,_⟩:=hrow.info
    obtain ⟨places,p1,p2⟩:=places_of (P:=P) (fs:=flds.toList) fun f hf=>(hn f hf).2
    have hp:∀ i x,fieldPl T fs i=some x->places.toArray[i]? = some x:=by
     intro i x hx
     unfold fieldPl at hx
     split at hx
     ·rename_i off ft hft
      split at hx
      ·rename_i j hj
       injection hx with hx
       subst hx
       rw [he,List.getElem?_map] at hft
       cases hfl:flds.toList[i]? with
       | none=>simp [hfl] at hft
       | some fl=>
        simp only [hfl,Option.map_some,Option.some.injEq,Prod.mk.injEq] at hft
        obtain ⟨e1,e2⟩:=hft
        have:=p2 i fl hfl
        rw [e1,e2,(tab_ok hT hj).cells] at this
        simpa using this
      ·simp at hx
     ·simp at hx
    have hz:FRL w ok σ ρ (ti.zero.map fun z=>.d (.v z)) z.cells.toList:=by
     rw [i5]
     exact FRL_zero _
    obtain ⟨B,b1,b2,b3⟩:=fill_sound hR hp parts vals.toList _ l z.cells hv hz hl
    refine ⟨.agg B,?_,fun w'=>run_build w' t vals B ?_⟩
    ·simp only [FR]
     exact ⟨B,rfl,b2⟩
    ·unfold Program.built
     simp only [i1,hu,i4,p1]
     exact b1
   ·simp at hs
  ·simp at hs
 ·simp at hs
end
end Go.Proofs.Ytncfmemhjahpeaa.Ab
namespace Go.Proofs.Ytncfmemhjahpeaa.Ab
open Go
section
variable {P:Program} {T:TT}
def iv (l:List Int):Array Value:=(l.map (Value.int .i64)).toArray
def valT (kd:TK) (l:List Int):Value:=if isAggK kd then keyV l else .int .i64 (l.headD 0)
theorem keyV_iv (l:List Int):keyV l = .agg (iv l):=rfl
def seg (l:List Int) (off n:Nat):List Int:=(l.drop off).take n
theorem seg_length {l:List Int} {off n:Nat} (h:off+n<=l.length):(seg l off n).length=n:=by
 simp only [seg,List.length_take,List.length_drop]
 omega
theorem iv_extract (l:List Int) (off n:Nat) (h:off+n<=l.length):(iv l).extract off (off+n)=iv (seg l off n):=by
 apply Array.ext'
 simp only [iv,seg,Array.toList_extract,List.extract_eq_take_drop,Nat.add_sub_cancel_left,List.map_take,List.map_drop]
theorem flat_part {t:Nat} {i:TI} (hT:tabB P T=true) (hi:tget T t=some i) (h1:isAggK i.kd=false->i.size=1) {l:List Int} {off:Nat} (hl:off+i.size<=l.length) (w:World) :
  (part t (iv l) off).run P w = .ok (valT i.kd (seg l off i.size)) w:=by
 have hrow:=tab_ok hT hi
 unfold part
 simp only [Sem.run_bind,hrow.agg,Result.andThen_ok]
 by_cases ha:isAggK i.kd=true
 ·simp only [ha,if_true,Sem.run_bind,hrow.size,Result.andThen_ok,Sem.run_pure,iv_extract l off i.size hl,valT,keyV_iv]
 ·simp only [ha,Bool.false_eq_true,if_false]
  have h2:=h1 (by simpa using ha)
  rw [h2] at hl ⊢
  have hlt:off < l.length:=by omega
  have:(iv l)[off]? = some (.int .i64 l[off]):=by
   simp [iv,List.getElem?_map,List.getElem?_eq_getElem hlt]
  rw [this]
  simp only [valT,ha,Bool.false_eq_true,if_false,seg]
  have e:(List.take 1 (List.drop off l)).headD 0=l[off]:=by
   rw [List.drop_eq_getElem_cons hlt]
   rfl
  rw [e]
  simp
theorem flat_one {m t:Nat} {i:TI} (hf:flatInt T m t=true) (hi:tget T t=some i):isAggK i.kd=false->i.size=1:=by
 intro ha
 cases m with
 | zero=>simp [flatInt] at hf
 | succ m=>
  simp only [flatInt,hi] at hf
  split at hf
  ·simpa using hf
  ·rename_i hk;rw [hk] at ha;simp [isAggK] at ha
  ·rename_i hk;rw [hk] at ha;simp [isAggK] at ha
  ·simp at hf
theorem seg_append (a:List Int) (off n m:Nat):seg a off (n+m)=seg a off n ++ seg a (off+n) m:=by
 simp only [seg,List.take_add,List.drop_drop]
theorem seg_eq_split {a b:List Int} {off n m:Nat} (ha:off+n<=a.length) (hb:off+n<=b.length):(seg a off (n+m)=seg b off (n+m))↔(seg a off n=seg b off n/\seg a (off+n) m=seg b (off+n) m):=by
 rw [seg_append,seg_append]
 refine ⟨fun h=>List.append_inj h (by rw [seg_length ha,seg_length hb]),fun h=>by rw [h.1,h.2]⟩
def EqT (P:Program) (T:TT) (d t:Nat):Prop:=∀ (w:World) (i:TI) (a b:List Int),tget T t=some i->a.length=i.size->b.length=i.size ->
 (Op.equalIn d t (valT i.kd a) (valT i.kd b)).run P w = .ok (decide (a=b)) w
theorem eqItems_run {d e:Nat} {j:TI} (hT:tabB P T=true) (hj:tget T e=some j) (h1:isAggK j.kd=false->j.size=1) (IH:EqT P T d e) {a b:List Int} (w:World) :
  ∀ (n s:Nat),(s+n)*j.size<=a.length->(s+n)*j.size<=b.length ->
   (Op.eqItems d e j.size (iv a) (iv b) (List.range' s n)).run P w = .ok (decide (seg a (s*j.size) (n*j.size)=seg b (s*j.size) (n*j.size))) w
 | 0,s,ha,hb=>by simp [Op.eqItems,seg]
 | n+1,s,ha,hb=>by
  have e1:(s+(n+1))*j.size=s*j.size+j.size+n*j.size:=by rw [Nat.add_mul,Nat.add_mul];omega
  have e2:(n+1)*j.size=j.size+n*j.size:=by rw [Nat.add_mul];omega
  have e3:(s+1)*j.size=s*j.size+j.size:=by rw [Nat.add_mul];omega
  rw [e1] at ha hb
  have hla:s*j.size+j.size<=a.length:=by omega
  have hlb:s*j.size+j.size<=b.length:=by omega
  simp only [List.range'_succ,Op.eqItems,Sem.run_bind,flat_part hT hj h1 hla,flat_part hT hj h1 hlb,Result.andThen_ok,IH w j _ _ hj (seg_length hla) (seg_length hlb)]
  have ih:=eqItems_run hT hj h1 IH w (a:=a) (b:=b) n (s+1) (by rw [Nat.add_mul,e3];omega) (by rw [Nat.add_mul,e3];omega)
  rw [e2]
  have hsp:=seg_eq_split (m:=n*j.size) hla hlb
  by_cases hd:seg a (s*j.size) j.size=seg b (s*j.size) j.size
  ·simp only [hd,decide_true,Bool.not_true,Bool.false_eq_true,if_false]
   rw [ih,e3]
   congr 1
   rw [decide_eq_decide,hsp]
   simp [hd]
  ·simp only [hd,decide_false,Bool.not_false,if_true,Sem.run_pure]
   congr 1
   rw [eq_comm,decide_eq_false_iff_not,hsp]
   simp [hd]
theorem eqFields_run {d n:Nat} (hT:tabB P T=true) {a b:List Int} (ha:a.length=n) (hb:b.length=n) (w:World) :
  ∀ (fl : List Field) (o : Nat), tileB T (fl.map fun f => (f.offset, f.type)) o n = true → (∀ f ∈ fl, f.name ≠ "_") → (∀ f ∈ fl, EqT P T d f.type ∧ ∀ j, tget T f.type = some j → isAggK j.kd = false → j.size = 1) →
   o<=n/\(Op.eqFields d (iv a) (iv b) fl).run P w = .ok (decide (seg a o (n - o)=seg b o (n - o))) w
 | [],o,ht,_,_=>by
  simp only [List.map_nil,tileB,beq_iff_eq] at ht
  subst ht
  exact ⟨Nat.le_refl _,by simp [Op.eqFields,seg]⟩
 | f :: fl,o,ht,hn,hall=>by
  simp only [List.map_cons,tileB,Bool.and_eq_true,beq_iff_eq] at ht
  obtain ⟨e0,ht⟩:=ht
  split at ht
  ·rename_i j hj
   obtain ⟨h1,ih⟩:=eqFields_run hT ha hb w fl (o+j.size) ht (fun g hg=>hn g (List.mem_cons_of_mem _ hg)) (fun g hg=>hall g (List.mem_cons_of_mem _ hg))
   obtain ⟨IH,hone⟩:=hall f (List.mem_cons_self ..)
   have hla:o+j.size<=a.length:=by omega
   have hlb:o+j.size<=b.length:=by omega
   refine ⟨by omega,?_⟩
   simp only [Op.eqFields,hn f (List.mem_cons_self ..),ne_eq,not_false_eq_true,if_true,Sem.run_bind,e0,flat_part hT hj (hone j hj) hla,flat_part hT hj (hone j hj) hlb,Result.andThen_ok,IH w j _ _ hj (seg_length hla) (seg_length hlb)]
   have hsp:=seg_eq_split (m:=n - (o+j.size)) hla hlb
   rw [show n - o=j.size+(n - (o+j.size)) by omega]
   by_cases hd:seg a o j.size=seg b o j.size
   ·simp only [hd,decide_true,Bool.not_true,Bool.false_eq_true,if_false]
    rw [ih]
    congr 1
    rw [decide_eq_decide,hsp]
    simp [hd]
   ·simp only [hd,decide_false,Bool.not_false,if_true,Sem.run_pure]
    congr 1
    rw [eq_comm,decide_eq_false_iff_not,hsp]
    simp [hd]
  ·simp at ht
theorem seg_all {a:List Int} {n:Nat} (h:a.length=n):seg a 0 n=a:=by
 subst h
 simp [seg]
theorem info_of_tget (hT:tabB P T=true) {t:Nat} {i:TI} (hi:tget T t=some i):∃ ti,P.info? t=some ti:=by
 obtain ⟨ti,h,_⟩:=(tab_ok hT hi).info
 exact ⟨ti,h⟩
theorem flat_equal (hT:tabB P T=true):∀ (m d t:Nat),flatInt T m t=true->EqT P T (d+m) t
 | 0,d,t,h=>by simp [flatInt] at h
 | m+1,d,t,h=>by
  intro w i a b hi ha hb
  have hone:=flat_one h hi
  simp only [flatInt,hi] at h
  have hrow:=tab_ok hT hi
  split at h
  ·rename_i hk
   have hu:=kd_int hrow hk
   have hs:i.size=1:=by simpa using h
   rw [hs] at ha hb
   match a,b,ha,hb with
   | [x],[y],_,_=>
    simp only [hk,valT,isAggK,Bool.false_eq_true,if_false,List.headD_cons]
    rw [show d+(m+1)=(d+m)+1 from rfl,run_equalIn_int w (d+m) t .i64 .i64 x y hu]
    simp [eq_comm]
    rfl
  ·rename_i n e hk
   simp only [Bool.and_eq_true] at h
   obtain ⟨h1,h2⟩:=h
   split at h1
   ·rename_i j hj
    simp only [Bool.and_eq_true,beq_iff_eq,bne_iff_ne,ne_eq] at h1
    obtain ⟨ji,hji⟩:=info_of_tget hT hj
    simp only [hk,valT,isAggK,if_true,keyV_iv]
    rw [show d+(m+1)=(d+m)+1 from rfl,run_equalIn_array w (d+m) (iv a) (iv b) (kd_arr hrow hk) hji,(tab_ok hT hj).cells,List.range_eq_range']
    have:=eqItems_run hT hj (flat_one h2 hj) (flat_equal hT m d e h2) (a:=a) (b:=b) w n 0 (by rw [Nat.zero_add,<-h1.1,ha];exact Nat.le_refl _) (by rw [Nat.zero_add,<-h1.1,hb];exact Nat.le_refl _)
    rw [this,Nat.zero_mul,<-h1.1,seg_all ha,seg_all hb]
   ·simp at h1
  ·rename_i fs hk
   simp only [Bool.and_eq_true,List.all_eq_true] at h
   obtain ⟨h1,h2⟩:=h
   obtain ⟨l,hu,he,hn,hst⟩:=kd_st hrow hk
   have hfo:P.fieldsOf t=l:=by simp [Program.fieldsOf,hu]
   simp only [hk,valT,isAggK,if_true,keyV_iv]
   rw [show d+(m+1)=(d+m)+1 from rfl,run_equalIn_struct w (d+m) t (iv a) (iv b) (by rw [hfo];exact hu) hst,hfo]
   subst he
   obtain ⟨_,h3⟩:=eqFields_run (d:=d+m) hT ha hb w l.toList 0 h1 (fun f hf=>(hn f hf).1) (fun f hf=>by
    have:=h2 (f.offset,f.type) (List.mem_map.2 ⟨f,hf,rfl⟩)
    exact ⟨flat_equal hT m d f.type this,fun j hj=>flat_one this hj⟩)
   rw [h3,Nat.sub_zero,seg_all ha,seg_all hb]
  ·simp at h
def CkT (P:Program) (T:TT) (em:Bool) (d t:Nat):Prop:=∀ (w:World) (i:TI) (a:List Int),tget T t=some i->a.length=i.size->(Instr.checkKey em d t (valT i.kd a)).run P w = .ok () w
theorem flat_check (hT:tabB P T=true) (em:Bool):∀ (m d t:Nat),flatInt T m t=true->CkT P T em (d+m) t
 | 0,d,t,h=>by simp [flatInt] at h
 | m+1,d,t,h=>by
  intro w i a hi ha
  simp only [flatInt,hi] at h
  have hrow:=tab_ok hT hi
  split at h
  ·rename_i hk
   have hu:=kd_int hrow hk
   simp only [hk,valT,isAggK,Bool.false_eq_true,if_false]
   rw [show d+(m+1)=(d+m)+1 from rfl]
   simp [Instr.checkKey,run_underlying hu]
  ·rename_i n e hk
   simp only [Bool.and_eq_true] at h
   obtain ⟨h1,h2⟩:=h
   split at h1
   ·rename_i j hj
    simp only [Bool.and_eq_true,beq_iff_eq,bne_iff_ne,ne_eq] at h1
    have hu:=kd_arr hrow hk
    simp only [hk,valT,isAggK,if_true,keyV_iv]
    rw [show d+(m+1)=(d+m)+1 from rfl,Instr.checkKey]
    simp only [Sem.run_bind,run_underlying hu,Result.andThen_ok]
    simp only [Std.Legacy.Range.forIn_eq_forIn_range',Std.Legacy.Range.size,Nat.sub_zero,Nat.add_one_sub_one,Nat.div_one]
    have each:∀ x∈List.range' 0 n,x*j.size+j.size<=a.length:=fun x hx=>by
     have hx':x < n:=by simpa [List.mem_range'] using hx
     rw [ha,h1.1]
     have:=Nat.mul_le_mul_right j.size (show x+1<=n from hx')
     rw [Nat.add_mul,Nat.one_mul] at this
     exact this
    generalize List.range' 0 n=is at each
    induction is with
    | nil=>simp
    | cons x is ih=>
     have hl:=each x (List.mem_cons_self ..)
     simp only [List.forIn_cons,Sem.run_bind,(tab_ok hT hj).size,Result.andThen_ok,flat_part hT hj (flat_one h2 hj) hl,flat_check hT em m d e h2 w j _ hj (seg_length hl),Sem.run_pure]
     exact ih fun y hy=>each y (List.mem_cons_of_mem _ hy)
   ·simp at h1
  ·rename_i fs hk
   simp only [Bool.and_eq_true,List.all_eq_true] at h
   obtain ⟨h1,h2⟩:=h
   obtain ⟨l,hu,he,hn,hst⟩:=kd_st hrow hk
   simp only [hk,valT,isAggK,if_true,keyV_iv]
   rw [show d+(m+1)=(d+m)+1 from rfl,Instr.checkKey]
   simp only [Sem.run_bind,run_underlying hu,Result.andThen_ok]
   rw [<-Array.forIn_toList]
   subst he
   have go : ∀ (fl : List Field) (o : Nat), tileB T (fl.map fun f => (f.offset, f.type)) o i.size = true → (∀ f ∈ fl, f.name ≠ "_") → (∀ f ∈ fl, flatInt T m f.type = true) →
     o ≤ i.size ∧ (forIn fl PUnit.unit fun f r => (if f.name ≠ "_" then (do Instr.checkKey em (d + m) f.type (← part f.type (iv a) f.offset); pure (ForInStep.yield PUnit.unit)) else pure (ForInStep.yield PUnit.unit) : Sem (ForInStep PUnit))).run P w = .ok PUnit.unit w := by
    intro fl
    induction fl with
    | nil=>
     intro o ht _ _
     simp only [List.map_nil,tileB,beq_iff_eq] at ht
     exact ⟨by omega,by simp⟩
    | cons f fl ih=>
     intro o ht hn hf
     simp only [List.map_cons,tileB,Bool.and_eq_true,beq_iff_eq] at ht
     obtain ⟨e0,ht⟩:=ht
     split at ht
     ·rename_i j hj
      obtain ⟨g1,g2⟩:=ih (o+j.size) ht (fun g hg=>hn g (List.mem_cons_of_mem _ hg)) (fun g hg=>hf g (List.mem_cons_of_mem _ hg))
      have hff:=hf f (List.mem_cons_self ..)
      have hl:f.offset+j.size<=a.length:=by omega
      refine ⟨by omega,?_⟩
      simp only [List.forIn_cons,Sem.run_bind,hn f (List.mem_cons_self ..),ne_eq,not_false_eq_true,if_true,flat_part hT hj (flat_one hff hj) hl,Result.andThen_ok,flat_check hT em m d f.type hff w j _ hj (seg_length hl),Sem.run_pure]
      simpa using g2
     ·simp at ht
   have g:=(go l.toList 0 h1 (fun f hf=>(hn f hf).1) (fun f hf=>h2 (f.offset,f.type) (List.mem_map.2 ⟨f,hf,rfl⟩))).2
   rw [g]
   rfl
  ·simp at h
end
end Go.Proofs.Ytncfmemhjahpeaa.Ab
namespace Go.Proofs.Ytncfmemhjahpeaa.Ab
open Go
def midx (k:List Int):List (List Int×Int)->Nat->Option (Nat×Value)
 | [],_=>none
 | x :: r,i=>if x.1=k then some (i,.int .i64 x.2) else midx k r (i+1)
theorem midx_cases (k:List Int) (c:Int):∀ (es:List (List Int×Int)) (i:Nat),
  (midx k es i=none/\mget k es=none/\mset k c es=es ++ [(k,c)]/\mdel k es=es/\∀ x∈es,x.1≠k) \/
  ∃ j x,midx k es i=some (i+j,.int .i64 x.2)/\es[j]? = some x/\x.1=k/\mget k es=some x.2/\mset k c es=es.set j (k,c)/\mdel k es=es.eraseIdx j
 | [],i=>.inl ⟨rfl,rfl,rfl,rfl,by simp⟩
 | x :: es,i=>by
  by_cases h:x.1=k
  ·exact .inr ⟨0,x,by simp [midx,h],rfl,h,by simp [mget,h],by simp [mset,h],by simp [mdel,h]⟩
  ·rcases midx_cases k c es (i+1) with ⟨h1,h2,h3,h4,h5⟩ | ⟨j,y,h1,h2,h3,h4,h5,h6⟩
   ·refine .inl ⟨by simp [midx,h,h1],by simp [mget,h,h2],by simp [mset,h,h3],by simp [mdel,h,h4],fun y hy=>?_⟩
    rcases List.mem_cons.1 hy with rfl | hy
    ·exact h
    ·exact h5 y hy
   ·exact .inr ⟨j+1,y,by simp [midx,h,h1];omega,by simpa using h2,h3,by simp [mget,h,h4],by simp [mset,h,h5],by simp [mdel,h,h6]⟩
section
variable {w0 w:World} {fp0:List Nat} {ok:Nat->Prop} {P:Program} {T:TT} {σ:St} {θ:Nat->Value} {ρ:Rn->Value} {φ:Rn->List Nat}
theorem key_eq {t:Nat} {i:TI} (hT:tabB P T=true) (hf:flatInt T 4 t=true) (ha:isAggK i.kd=true) (hi:tget T t=some i) {a b:List Int} (h1:a.length=i.size) (h2:b.length=i.size) (w:World) :
  (Op.equal t (keyV a) (keyV b)).run P w = .ok (decide (a=b)) w:=by
 have:=flat_equal hT 4 9996 t hf w i a b hi h1 h2
 simp only [valT,ha,if_true] at this
 exact this
theorem find_run {t:Nat} {i:TI} (hT:tabB P T=true) (hf:flatInt T 4 t=true) (ha:isAggK i.kd=true) (hi:tget T t=some i) {k:List Int} (h1:k.length=i.size) (w:World) :
  ∀ (es:List (List Int×Int)) (en:List MapEntry) (j:Nat),mapLen i.size es->en.map (fun e=>(e.key,e.val))=es.map (fun x=>(keyV x.1,.int .i64 x.2)) ->
   (Instr.findAsking t (keyV k) en j).run P w = .ok (midx k es j) w
 | [],en,j,_,h=>by
  have:en=[]:=by simpa using h
  subst this
  simp [Instr.findAsking,midx]
 | x :: es,en,j,hl,h=>by
  cases en with
  | nil=>simp at h
  | cons e en=>
   simp only [List.map_cons,List.cons.injEq,Prod.mk.injEq] at h
   obtain ⟨⟨e1,e2⟩,h⟩:=h
   have hx:x.1.length=i.size:=hl x (List.mem_cons_self ..)
   simp only [Instr.findAsking,Sem.run_bind,e1,key_eq hT hf ha hi h1 hx,Result.andThen_ok,midx]
   by_cases he:k=x.1
   ·subst he
    simp [e2]
   ·have he':¬ x.1=k:=fun h=>he h.symm
    simp only [he,he',decide_false,Bool.false_eq_true,if_false]
    exact find_run hT hf ha hi h1 w es en (j+1) (fun y hy=>hl y (List.mem_cons_of_mem _ hy)) h
structure MapTy (P:Program) (T:TT) (t sz:Nat):Prop where
 out:∃ k e ki ei,tget T k=some ki/\tget T e=some ei/\P.underlying t=some (.map k e)/\flatInt T 4 k=true/\isAggK ki.kd=true/\ki.size=sz/\ei.zero=[.int .i64 0]/\isAggK ei.kd=false
theorem map_ty (hT:tabB P T=true) {t sz:Nat} (h:mapKV T t=some sz):MapTy P T t sz:=by
 unfold mapKV at h
 split at h
 ·rename_i i hi
  split at h
  ·rename_i k e hk
   split at h
   ·rename_i ki ei hki hei
    split at h
    ·rename_i hek hz
     split at h
     ·rename_i hf
      injection h with h
      simp only [Bool.and_eq_true] at hf
      exact ⟨k,e,ki,ei,hki,hei,kd_map (tab_ok hT hi) hk,hf.1,hf.2,h,hz,by rw [hek];rfl⟩
     ·simp at h
    ·simp at h
   ·simp at h
  ·simp at h
 ·simp at h
theorem wide_of_agg {k:Nat} {ki:TI} (h:RowOk P k ki) (ha:isAggK ki.kd=true):(match P.underlying k with | some (.array _ _) | some (.struct _)=>true | _=>false)=true:=by
 have h1:=h.kd
 unfold kdB at h1
 split at h1 <;> simp_all [isAggK]
theorem findKey_run (hT:tabB P T=true) {k:Nat} {ki:TI} (hki:tget T k=some ki) (hf:flatInt T 4 k=true) (ha:isAggK ki.kd=true) {key:List Int} (hl:key.length=ki.size) {es:List (List Int×Int)} {en:Array MapEntry}
  (hm:mapLen ki.size es) (hkv:en.toList.map (fun e=>(e.key,e.val))=es.map (fun x=>(keyV x.1,.int .i64 x.2))) (w:World) :
  (Instr.findKey k (keyV key) en.toList).run P w = .ok (midx key es 0) w:=by
 rw [run_findKey_eq w (wide_of_agg (tab_ok hT hki) ha)]
 exact find_run hT hf ha hki hl w es en.toList 0 hm hkv
theorem check_run (hT:tabB P T=true) {k:Nat} {ki:TI} (hki:tget T k=some ki) (hf:flatInt T 4 k=true) (ha:isAggK ki.kd=true) {key:List Int} (hl:key.length=ki.size) (em:Bool) (w:World) :
  (Instr.checkKey em 10000 k (keyV key)).run P w = .ok () w:=by
 have:=flat_check hT em 4 9996 k hf w ki key hki hl
 simp only [valT,ha,if_true] at this
 exact this
theorem keyInts_eq:∀ {fs:List FV} {key:List Int} {us:List Value},keyInts fs=some key->FRL w ok σ ρ fs us->us=key.map (Value.int .i64)
 | [],key,us,h,hu=>by
  simp only [keyInts,Option.some.injEq] at h
  simp only [FRL] at hu
  subst h;subst hu
  rfl
 | f :: fs,key,us,h,hu=>by
  simp only [FRL] at hu
  obtain ⟨u,vs,rfl,h1,h2⟩:=hu
  unfold keyInts at h
  split at h
  ·simp_all
  ·rename_i n r heq
   injection heq with e1 e2
   subst e1;subst e2
   split at h
   ·rename_i l hl
    injection h with h
    subst h
    rw [FR_v h1,keyInts_eq hl h2]
    rfl
   ·simp at h
  ·simp at h
theorem key_value {fs:List FV} {key:List Int} {u:Value} (h:keyInts fs=some key) (hu:FR w ok σ ρ (.ag fs) u):u=keyV key:=by
 simp only [FR] at hu
 obtain ⟨vs,rfl,h1⟩:=hu
 have:=keyInts_eq h h1
 unfold keyV
 rw [<-this]
theorem mr_map (h:Rel w0 fp0 ok σ θ w ρ φ) {r:Rn} {p:List Nat} {es:List (List Int×Int)} {u:Value} (ho:σ.obj r p=some (.mp es)) (hu:FR w ok σ ρ (.mr r p) u) :
  ∃ m en clock,u = .map (some m)/\MapAt w m es en clock/\hdr w (ρ r) p=some (.map (some m)):=by
 simp only [FR] at hu
 obtain ⟨es',hv,h1,h2,rfl⟩:=hu
 obtain ⟨hv',fo,hat⟩:=h.rts_.at_ (r:=r) (p:=p) ho
 have e6:hv'=u:=by have:=hat.hdr;rw [h2] at this;injection this with this;exact this.symm
 subst e6
 have:=hat.own
 simp only [Ow] at this
 obtain ⟨m,en,cl,e7,_,h3⟩:=this
 exact ⟨m,en,cl,e7,h3,by rw [h2,e7]⟩
theorem lookup_sound (hT:tabB P T=true) (h:Rel w0 fp0 ok σ θ w ρ φ) {t sz:Nat} {r:Rn} {p:List Nat} {fs:List FV} {es:List (List Int×Int)} {key:List Int} {u v:Value} (ht:mapKV T t=some sz)
  (ho:σ.obj r p=some (.mp es)) (hk:keyInts fs=some key) (hl:key.length=sz) (hm:mapLen sz es) (hu:FR w ok σ ρ (.mr r p) u) (hv:FR w ok σ ρ (.ag fs) v) (w':World) (hw:Later w w') :
  (Instr.lookup t u v false).run P w' = .ok (.int .i64 ((mget key es).getD 0)) w':=by
 obtain ⟨k,e,ki,ei,hki,hei,hu0,hf,ha,hs,hz,hna⟩:=(map_ty hT ht).out
 obtain ⟨m,en,cl,rfl,hmap,_⟩:=mr_map h ho hu
 rw [key_value hk hv]
 subst hs
 have hb:w'.heap[m]? = some (.map en cl):=hw.heap hmap.at_
 obtain ⟨z,z1,z2,z3⟩:=(tab_ok hT hei).zeroV
 have hz0:z = .int .i64 0:=by
  have:=z2 hna
  rw [hz] at z1
  cases z <;> simp [Value.cells] at z1 <;> simp [Value.oneCell'] at this <;> simp_all
 simp only [Instr.lookup,Sem.run_bind,run_underlying hu0,Result.andThen_ok,MapKept.run_getObj_map hb,Sem.run_pure,check_run hT hki hf ha hl,findKey_run hT hki hf ha hl hm hmap.kv]
 rcases midx_cases key 0 es 0 with ⟨h1,h2,_⟩ | ⟨j,x,h1,_,_,h2,_⟩
 ·rw [h1,h2]
  simp [z3,hz0]
 ·rw [h1,h2]
  simp
end
end Go.Proofs.Ytncfmemhjahpeaa.Ab
namespace Go.Proofs.Ytncfmemhjahpeaa.Ab
open Go
section
variable {w0 w:World} {fp0:List Nat} {ok:Nat->Prop} {P:Program} {T:TT} {σ:St} {θ:Nat->Value} {ρ:Rn->Value} {φ:Rn->List Nat}
theorem FRP_of {a:Act}:∀ (ps:List (Nat×Operand)),(∀ x∈ps.map (·.2),FR w ok σ ρ (opv σ x) (a.eval x))->FRP w ok σ ρ (ps.map fun x=>(x.1,opv σ x.2)) (ps.map fun x=>(x.1,a.eval x.2))
 | [],_=>by simp [FRP]
 | p :: ps,h=>by
  simp only [List.map_cons,FRP]
  exact ⟨_,_,rfl,rfl,h p.2 (by simp),FRP_of ps fun x hx=>h x (by simp only [List.map_cons,List.mem_cons];exact .inr hx)⟩
theorem FRL_ofops {a:Act}:∀ (xs:List Operand),(∀ x∈xs,FR w ok σ ρ (opv σ x) (a.eval x))->FRL w ok σ ρ (xs.map (opv σ)) (xs.map a.eval)
 | [],_=>by simp [FRL]
 | x :: xs,h=>by
  simp only [List.map_cons,FRL]
  exact ⟨_,_,rfl,h x (List.mem_cons_self ..),FRL_ofops xs fun y hy=>h y (List.mem_cons_of_mem _ hy)⟩
theorem FRO_of {a:Act} {x:Option Operand} (h:∀ y,x=some y->FR w ok σ ρ (opv σ y) (a.eval y)):FRO w ok σ ρ (x.map (opv σ)) (x.map a.eval):=by
 cases x with
 | none=>simp [FRO]
 | some y=>exact h y rfl
theorem len_sound {a:FV} {u:Value} {n t ty e:Nat} (h:Rel w0 fp0 ok σ θ w ρ φ) (hu:P.underlying t=some (.slice e)) (hl:lenF a=some n) (hv:FR w ok σ ρ a u) (w':World) :
  (Builtin.len_ #[t] ty #[u]).run P w' = .ok (.int .i64 n) w':=by
 have key:∀ (x:Option Addr) (m c:Nat),u = .slice x m c->m=n->(Builtin.len_ #[t] ty #[u]).run P w' = .ok (.int .i64 n) w':=by
  intro x m c e1 e2
  subst e1;subst e2
  simp [Builtin.len_,run_underlying hu,goInt]
 unfold lenF at hl
 split at hl
 ·rename_i r p lo n'
  injection hl with hl
  subst hl
  obtain ⟨x,c,e1,_⟩:=al_sub h rfl hv
  exact key x _ c e1 rfl
 ·rename_i r p n'
  injection hl with hl
  subst hl
  simp only [FR] at hv
  obtain ⟨k,N,cs,hv',x,M,c,_,_,_,_,e1⟩:=hv
  exact key x _ _ e1 rfl
 ·rename_i r p off n'
  injection hl with hl
  subst hl
  simp only [FR] at hv
  obtain ⟨o,cs,hv',b,q,c,_,_,_,_,_,_,e1 | ⟨e0,x,e1⟩⟩:=hv
  ·exact key _ _ _ e1 rfl
  ·exact key _ _ _ e1 e0.symm
 ·rename_i k n' cs
  injection hl with hl
  subst hl
  simp only [FR,Sh] at hv
  obtain ⟨x,c,e1,_⟩:=hv
  exact key _ _ _ e1 rfl
 ·injection hl with hl
  subst hl
  simp only [FR,Sh] at hv
  obtain ⟨x,e1⟩:=hv
  exact key _ _ _ e1 rfl
 ·injection hl with hl
  subst hl
  exact key _ _ _ (FR_v hv) rfl
 ·simp at hl
theorem mapAt_size {m:Nat} {es:List (List Int×Int)} {en:Array MapEntry} {cl:Nat} (h:MapAt w m es en cl):en.size=es.length:=by
 have:=congrArg List.length h.kv
 simpa using this
theorem silCall_sound (hT:tabB P T=true) (h:Rel w0 fp0 ok σ θ w ρ φ) (a:Act) (b:Builtin) (c:Call) (hcb:c.callee = .builtin b) (o:Oper) (hop:o.op = .call c) {q:Prop} {f:FV}
  (hs:silCall T σ b c.args.toList c.argTypes.toList=some (q,f)) (hq:q) (ho:∀ x∈c.args.toList,FR w ok σ ρ (opv σ x) (a.eval x)) :
  ∃ v,FR w ok σ ρ f v/\∀ w',((match b with | .len=>true | _=>false)=true->Later w w')->(execOp a.eval o).run P w' = .ok (.value v) w':=by
 have hex:execOp a.eval o=builtin b c.argTypes o.type (c.args.map fun | .const _=>true | _=>false) (c.args.map a.eval):=by
  simp only [execOp,hop,resolve,hcb]
  rfl
 rw [hex]
 unfold silCall at hs
 split at hs
 ·split at hs
  ·rename_i x t hx ht
   have hargs:c.args = #[x]:=by rw [<-Array.toList_inj];exact hx
   have htys:c.argTypes = #[t]:=by rw [<-Array.toList_inj];exact ht
   rw [hargs,htys]
   have hxv:=ho x (by rw [hx];simp)
   split at hs
   ·rename_i i hi
    have hrow:=tab_ok hT hi
    split at hs
    ·rename_i e hk
     split at hs
     ·rename_i n hn
      injection hs with hs
      injection hs with h1 h2
      subst h2
      refine ⟨.int .i64 n,by simp [FR,Sh],fun w' _=>?_⟩
      simp [builtin,len_sound h (kd_sl hrow hk) hn hxv]
     ·simp at hs
    ·rename_i hk
     split at hs
     ·rename_i s hsx
      injection hs with hs
      injection hs with h1 h2
      subst h2
      rw [hsx] at hxv
      refine ⟨.int .i64 s.size,by simp [FR,Sh],fun w' _=>?_⟩
      simp [builtin,FR_v hxv,Builtin.len_,run_underlying (kd_str hrow hk),goInt]
     ·simp at hs
    ·rename_i k e hk
     split at hs
     ·rename_i r p hmr
      split at hs
      ·rename_i es hes
       injection hs with hs
       injection hs with h1 h2
       subst h2
       rw [hmr] at hxv
       obtain ⟨m,en,cl,hm1,hm2,_⟩:=mr_map h hes hxv
       refine ⟨.int .i64 es.length,by simp [FR,Sh],fun w' hw=>?_⟩
       have hb:=(hw rfl).heap hm2.at_
       simp [builtin,hm1,Builtin.len_,run_underlying (kd_map hrow hk),goInt,MapKept.run_getObj_map hb,mapAt_size hm2]
      ·simp at hs
     ·simp at hs
    ·simp at hs
   ·simp at hs
  ·simp at hs
 ·split at hs
  ·rename_i x y hx
   have hargs:c.args = #[x,y]:=by rw [<-Array.toList_inj];exact hx
   rw [hargs]
   have hxv:=ho x (by rw [hx];simp)
   have hyv:=ho y (by rw [hx];simp)
   split at hs
   ·rename_i n m e1 e2
    injection hs with hs
    injection hs with h1 h2
    subst h2
    rw [e1] at hxv
    rw [e2] at hyv
    refine ⟨.int .i64 (max n m),by simp [FR,Sh],fun w' _=>?_⟩
    simp only [builtin,FR_v hxv,FR_v hyv,Builtin.max_,List.map_toArray,List.map_cons,List.map_nil]
    simp [Builtin.max2]
    omega
   ·simp at hs
  ·simp at hs
 ·split at hs
  ·rename_i x y hx
   have hargs:c.args = #[x,y]:=by rw [<-Array.toList_inj];exact hx
   rw [hargs]
   have hxv:=ho x (by rw [hx];simp)
   have hyv:=ho y (by rw [hx];simp)
   split at hs
   ·rename_i n m e1 e2
    injection hs with hs
    injection hs with h1 h2
    subst h2
    rw [e1] at hxv
    rw [e2] at hyv
    refine ⟨.int .i64 (min n m),by simp [FR,Sh],fun w' _=>?_⟩
    simp only [builtin,FR_v hxv,FR_v hyv,Builtin.min_,List.map_toArray,List.map_cons,List.map_nil]
    simp [Builtin.min2]
    omega
   ·simp at hs
  ·simp at hs
 ·simp at hs
theorem FRL_ints:∀ (k:List Int),FRL w ok σ ρ (k.map fun n=>.int n) (k.map (Value.int .i64))
 | []=>by simp [FRL]
 | n :: k=>by
  simp only [List.map_cons,FRL]
  exact ⟨_,_,rfl,by simp [FR,Sh],FRL_ints k⟩
theorem entry_sound (h:Rel w0 fp0 ok σ θ w ρ φ) {r m:Rn} {p:List Nat} {rest:List (List Int×Int)} {k:List Int} {c:Int} {u:Value} (hu:FR w ok σ ρ (.it r m p rest (some (k,c))) u) :
  ∃ v,FR w ok σ ρ (.tu [.ag (k.map fun n=>.int n),.int c]) v/\∀ w',Later w w'->(Instr.entry u).run P w' = .ok v w':=by
 simp only [FR] at hu
 obtain ⟨_,_,b,mb,es,en,clock,seen,e2,h3,h4,h5,h6,h7,h8⟩:=hu
 obtain ⟨st,g1,e,g2,g3,g4⟩:=h8 _ rfl
 refine ⟨.tuple #[keyV k,.int .i64 c],?_,fun w' hw=>?_⟩
 ·simp only [FR]
  refine ⟨_,rfl,?_⟩
  simp only [FRL,FR]
  exact ⟨_,_,rfl,⟨_,rfl,by simpa using FRL_ints k⟩,_,_,rfl,by simp [Sh],rfl⟩
 ·subst e2
  have hb:=hw.heap h3
  have hm:=hw.heap h6.at_
  have r1:(getObj b).run P w' = .ok (.mapIter (some mb) clock seen clock) w':=by simp [getObj,Sem.run,hb]
  simp [Instr.entry,r1,g1,MapKept.run_getObj_map hm,g2,g3,g4]
theorem fieldV_sound {T:TT} (hT:tabB P T=true) {t i:Nat} {a f:FV} {u:Value} (hf:fieldV T t i a=some f) (hu:FR w ok σ ρ a u) :
  ∃ v,FR w ok σ ρ f v/\∀ w',(Instr.field t u i).run P w' = .ok v w':=by
 unfold fieldV at hf
 split at hf
 ·rename_i ti l hti
  split at hf
  ·rename_i fs hfs
   split at hf
   ·rename_i off ft hft
    split at hf
    ·rename_i j hj
     split at hf
     ·rename_i hag
      simp only [FR] at hu
      obtain ⟨vs,e1,h3⟩:=hu
      obtain ⟨v,h4,h5⟩:=FRL_get h3 hf
      have h4':vs[off]? = some v:=by simpa using h4
      obtain ⟨fl,hl,he,_⟩:=kd_st (tab_ok hT hti) hfs
      refine ⟨v,h5,fun w'=>?_⟩
      rw [he,List.getElem?_map] at hft
      cases hfl:fl[i]? with
      | none=>simp [hfl] at hft
      | some fd=>
       simp [hfl] at hft
       obtain ⟨e3,e4⟩:=hft
       have hg:=(tab_ok hT hj).agg w'
       rw [hag,<-e4] at hg
       subst e1
       rw [<-e3] at h4'
       simp [Instr.field,run_underlying hl,hfl,asAgg,part,hg,h4']
     ·simp at hf
    ·simp at hf
   ·simp at hf
  ·simp at hf
 ·simp at hf
theorem ow_len2 (h:Rel w0 fp0 ok σ θ w ρ φ) {r:Rn} {p:List Nat} {k N:Nat} {cs:List D} (ho:σ.obj r p=some (.ow k N cs)):cs.length=k*N:=by
 obtain ⟨hv,fo,hat⟩:=h.rts_.at_ (r:=r) (p:=p) ho
 have:=hat.own
 simp only [Ow] at this
 rcases this with ⟨rfl,rfl,_⟩ | ⟨b,o,c,arr,T,fp',e1,_,_,_,_,h2,_⟩
 ·simp
 ·exact h2
theorem u8s_get:∀ {cs:List D} {xs:List Int},u8s cs=some xs->cs.length=xs.length/\∀ i (h:i < cs.length),cs[i] = .v (.int .u8 (xs.getD i 0))
 | [],xs,h=>by
  simp only [u8s,Option.some.injEq] at h
  subst h
  exact ⟨rfl,fun i hi=>by simp at hi⟩
 | x :: cs,xs,h=>by
  unfold u8s at h
  split at h
  ·simp at *
  ·rename_i n l hl
   injection hl with h1 h2
   subst h1
   subst h2
   split at h
   ·rename_i ys hy
    injection h with h
    subst h
    obtain ⟨g1,g2⟩:=u8s_get hy
    refine ⟨by simp [g1],fun i hi=>?_⟩
    cases i with
    | zero=>simp
    | succ i=>
     have:=g2 i (by simpa using hi)
     simpa using this
   ·simp at h
  ·simp at h
theorem sil_sound (hT:tabB P T=true) (h:Rel w0 fp0 ok σ θ w ρ φ) (a:Act) (o:Oper) {c:Prop} {f:FV} (hs:sil T σ o.op=some (c,f)) (hc:c)
  (ho:∀ x∈o.op.operands.toList,FR w ok σ ρ (opv σ x) (a.eval x)):∃ v,FR w ok σ ρ f v/\∀ w',(readsB o.op=true->Later w w')->(execOp a.eval o).run P w' = .ok (.value v) w':=by
 obtain ⟨dst,op,type,pos,after,guard⟩:=o
 cases op <;> simp only [sil,reduceCtorEq] at hs <;> simp only [Op.operands] at ho
 case move x=>
  injection hs with hs
  injection hs with h1 h2
  subst h2
  exact ⟨_,ho x (by simp),fun w' _=>by simp [execOp]⟩
 case assign x=>
  injection hs with hs
  injection hs with h1 h2
  subst h2
  exact ⟨_,ho x (by simp),fun w' _=>by simp [execOp]⟩
 case pick x y z=>
  split at hs
  ·rename_i t ht
   injection hs with hs
   injection hs with h1 h2
   subst h2
   have hx:=ho x (by simp)
   rw [ht] at hx
   refine ⟨if t then a.eval y else a.eval z,?_,fun w' _=>?_⟩
   ·cases t
    ·exact ho z (by simp)
    ·exact ho y (by simp)
   ·simp only [execOp,FR_v hx,asBool]
    cases t <;> simp
  ·simp at hs
 case load t x=>
  split at hs
  ·rename_i g hg
   injection hs with hs
   injection hs with h1 h2
   subst h2
   obtain ⟨v,h3,h4⟩:=load_sound (P:=P) hT h hg (ho x (by simp))
   exact ⟨v,h3,fun w' hw=>by simp [execOp,h4 w' (hw rfl)]⟩
  ·simp at hs
 case nilCheck x=>
  have hx:=ho x (by simp)
  split at hs
  ·rename_i r p off e
   injection hs with hs
   injection hs with h1 h2
   subst h2
   rw [e] at hx
   refine ⟨_,hx,fun w' _=>?_⟩
   simp only [FR] at hx
   obtain ⟨o,cs,hv,b,q,_,_,_,_,e5⟩:=hx
   simp [execOp,e5]
  ·rename_i cs off e
   injection hs with hs
   injection hs with h1 h2
   subst h2
   rw [e] at hx
   refine ⟨_,hx,fun w' _=>?_⟩
   simp only [FR] at hx
   obtain ⟨b,o,e5,_⟩:=hx
   simp [execOp,e5]
  ·rename_i cs e
   injection hs with hs
   injection hs with h1 h2
   subst h2
   rw [e] at hx
   refine ⟨_,hx,fun w' _=>?_⟩
   simp only [FR,Sh] at hx
   obtain ⟨b,o,e5,_⟩:=hx
   simp [execOp,e5]
  ·simp at hs
 case fieldAddr t x i=>
  split at hs
  ·rename_i off hoff
   split at hs
   ·rename_i g hg
    injection hs with hs
    injection hs with h1 h2
    subst h2
    obtain ⟨v,h3,h4⟩:=field_sound (P:=P) hT hoff hg (ho x (by simp))
    exact ⟨v,h3,fun w' _=>by simp [execOp,h4 w']⟩
   ·simp at hs
  ·simp at hs
 case field t x i=>
  split at hs
  ·rename_i g hg
   injection hs with hs
   injection hs with h1 h2
   subst h2
   obtain ⟨v,h3,h4⟩:=fieldV_sound (P:=P) hT hg (ho x (by simp))
   exact ⟨v,h3,fun w' _=>by simp [execOp,h4 w']⟩
  ·simp at hs
 case indexAddr t x i=>
  obtain ⟨v,h3,h4⟩:=index_sound (P:=P) hT h hs hc (ho x (by simp)) (ho i (by simp))
  exact ⟨v,h3,fun w' _=>by simp [execOp,h4 w']⟩
 case binOp op t x y z=>
  obtain ⟨v,h3,h4⟩:=bin_sound (P:=P) (x:=x) (y:=y) hT hs hc (ho x (by simp)) (ho y (by simp))
  refine ⟨v,h3,fun w' _=>?_⟩
  have:=h4 w'
  simp only [execOp,Sem.run_bind] at this ⊢
  rw [this]
  simp
 case unOp op t x=>
  have hx:=ho x (by simp)
  split at hs
  ·rename_i k n e
   injection hs with hs
   injection hs with h1 h2
   subst h2
   rw [e] at hx
   exact ⟨.int k (k.wrap (0 - n)),by simp [FR,Sh],fun w' _=>by simp [execOp,FR_v hx,Op.unary,Op.intArith]⟩
  ·rename_i b e
   injection hs with hs
   injection hs with h1 h2
   subst h2
   rw [e] at hx
   exact ⟨.bool (!b),by simp [FR,Sh],fun w' _=>by simp [execOp,FR_v hx,Op.unary]⟩
  ·simp at hs
 case convert src d x=>
  have hx:=ho x (by simp)
  split at hs
  ·rename_i j i k n hj hi e
   split at hs
   ·rename_i k' hk
    injection hs with hs
    injection hs with h1 h2
    subst h2
    rw [e] at hx
    obtain ⟨ds,hd,hr⟩:=(tab_ok hT hj).und
    refine ⟨.int k' (k'.wrap n),by simp [FR,Sh],fun w' _=>?_⟩
    simp [execOp,FR_v hx,convert,hr,run_underlying (kd_int (tab_ok hT hi) hk),Conv.intToInt]
   ·simp at hs
  ·rename_i j i r p n hj hi e
   split at hs
   ·rename_i el N cs k1 k2 k3
    split at hs
    ·rename_i ei xs k4 k5
     split at hs
     ·rename_i k6
      injection hs with hs
      injection hs with h1 h2
      subst h2
      subst h1
      rw [e] at hx
      refine ⟨.string (strOfNums xs),by simp [FR,Sh],fun w' hw=>?_⟩
      have hlt:=hw rfl
      have r1:=kd_sl (tab_ok hT hj) k1
      have r2:=kd_int (tab_ok hT k4) k6
      have r3:=kd_str (tab_ok hT hi) k2
      obtain ⟨y1,y2⟩:=u8s_get k5
      simp only [FR] at hx
      obtain ⟨k',N',cs',hv,g1,g2,g3,g4⟩:=hx
      rw [k3] at g1
      cases g1
      rcases g4 with ⟨_,a2,M2,c2,g4,g5⟩ | ⟨q,_⟩
      ·have hrun:(convert src d (a.eval x)).run P w' = .ok (.string (strOfNums xs)) w':=by
        rcases al_block h k3 g2 with ⟨b,o2,cp,e1,e2,e3⟩ | ⟨e1,a0,e2⟩
        ·rw [e1] at g4
         cases g4
         rw [g5]
         refine run_convert_bytes_arg w' src el r1 r2 b o2 n c2 xs (by rw [<-y1,ow_len2 h k3,Nat.one_mul,hc]) (fun q hq=>?_) d r3
         have hqc:q < cs.length:=by rw [ow_len2 h k3];omega
         obtain ⟨v,z1,z2⟩:=cell_at h k3 rfl g2 e3 (List.getElem?_eq_getElem hqc)
         have z3:=y2 q hqc
         rw [z3] at z2
         have z4:v = .int .u8 (xs.getD q 0):=FR_v z2
         rw [<-z4,<-z1]
         have hbl:b < w.heap.size:=by
          rcases Nat.lt_or_ge b w.heap.size with t | t
          ·exact t
          ·unfold World.cell? at z1
           rw [Array.getElem?_eq_none t] at z1
           simp at z1
         simp only [World.cell?,hlt.2 b hbl]
        ·rw [e2] at g4
         cases g4
         have hz:n=0:=by omega
         subst hz
         have hcs:cs=[]:=List.eq_nil_of_length_eq_zero (by rw [ow_len2 h k3];omega)
         subst hcs
         simp only [u8s,Option.some.injEq] at k5
         subst k5
         rw [g5]
         cases a2 with
         | none=>exact run_convert_bytes_nil w' src el r1 r2 0 0 d r3
         | some a3=>
          rw [run_convert_bytes_string w' src d el _ 0 0 r1 r2 r3,run_bytesToString w' a3 0 0 [] (by simp [loadCells,loadCellsFrom,Sem.run_pure])]
          rfl
       simp [execOp,hrun]
      ·omega
     ·simp at hs
    ·simp at hs
   ·simp at hs
  ·simp at hs
 case extract x i=>
  have hx:=ho x (by simp)
  split at hs
  ·rename_i fs e
   split at hs
   ·rename_i g hg
    injection hs with hs
    injection hs with h1 h2
    subst h2
    rw [e] at hx
    simp only [FR] at hx
    obtain ⟨vs,e1,h3⟩:=hx
    obtain ⟨u,h4,h5⟩:=FRL_get h3 hg
    have h4':vs[i]? = some u:=by simpa using h4
    exact ⟨u,h5,fun w' _=>by simp [execOp,e1,Instr.extract,h4']⟩
   ·simp at hs
  ·simp at hs
 case slice t x lo hi mx=>
  obtain ⟨v,h3,h4⟩:=slice_sound (P:=P) (a:=a) hT h hs hc (ho x (by simp)) (FRO_of fun y hy=>ho y (by simp [hy])) (FRO_of fun y hy=>ho y (by simp [hy])) (FRO_of fun y hy=>ho y (by simp [hy]))
  exact ⟨v,h3,fun w' _=>by simp [execOp,h4 w']⟩
 case build t parts=>
  split at hs
  ·rename_i g hg
   injection hs with hs
   injection hs with h1 h2
   subst h2
   have hp:FRP w ok σ ρ (parts.toList.map fun x=>(x.1,opv σ x.2)) (parts.map fun (i,x)=>(i,a.eval x)).toList:=by
    rw [Array.toList_map]
    exact FRP_of _ fun x hx=>ho x (by simpa using hx)
   obtain ⟨v,h3,h4⟩:=build_sound (P:=P) hT h hg hp
   exact ⟨v,h3,fun w' _=>by simp [execOp,h4 w']⟩
  ·simp at hs
 case entry x=>
  have hx:=ho x (by simp)
  split at hs
  ·rename_i r m p rest k n e
   injection hs with hs
   injection hs with h1 h2
   subst h2
   rw [e] at hx
   obtain ⟨v,h3,h4⟩:=entry_sound (P:=P) h hx
   exact ⟨v,h3,fun w' hw=>by simp [execOp,h4 w' (hw rfl)]⟩
  ·simp at hs
 case makeFunc fn first caps=>
  split at hs
  ·rename_i g
   split at hs
   ·rename_i hf
    injection hs with hs
    injection hs with h1 h2
    subst h2
    have hp:FRL w ok σ ρ (caps.toList.map (opv σ)) (caps.map a.eval).toList:=by
     rw [Array.toList_map]
     exact FRL_ofops _ fun x hx=>ho x (by simp at hx;simp [hx])
    refine ⟨.func (.func g) #[] (caps.map a.eval),⟨_,rfl,hp⟩,fun w' _=>?_⟩
    have:first = #[]:=by simpa using hf
    subst this
    simp [execOp,Instr.makeFunc]
   ·simp at hs
  ·simp at hs
 case lookup t m k b=>
  split at hs
  ·rename_i sz r p fs ht e1 e2
   split at hs
   ·rename_i es key he hk
    split at hs
    ·rename_i hl
     injection hs with hs
     injection hs with h1 h2
     subst h2
     rw [<-h1] at hc
     have hm:=ho m (by simp)
     have hkk:=ho k (by simp)
     rw [e1] at hm
     rw [e2] at hkk
     exact ⟨.int .i64 ((mget key es).getD 0),by simp [FR,Sh],fun w' hw=>by simp [execOp,lookup_sound hT h ht he hk hl hc hm hkk w' (hw rfl)]⟩
    ·simp at hs
   ·simp at hs
  ·simp at hs
 case call cl=>
  split at hs
  ·rename_i b hb
   obtain ⟨v,h3,h4⟩:=silCall_sound (P:=P) hT h a b cl hb ⟨dst,.call cl,type,pos,after,guard⟩ rfl hs hc (fun x hx=>ho x (by simp only [Call.operands,hb,List.nil_append];simpa using hx))
   refine ⟨v,h3,fun w' hw=>h4 w' fun hb'=>hw ?_⟩
   simp only [readsB,hb]
   exact hb'
  ·simp at hs
end
end Go.Proofs.Ytncfmemhjahpeaa.Ab
namespace Go.Proofs.Ytncfmemhjahpeaa.Ab
open Go
structure Stx (w0:World) (fp0:List Nat) (ok0:Nat->Prop) (W:Nat->Value) (n:Nat) (σ:St) (a:Act) (w:World) (ok:Nat->Prop) (θ:Nat->Value) (ρ:Rn->Value) (φ:Rn->List Nat):Prop where
 rel:Rel w0 fp0 ok σ θ w ρ φ
 th:Th a W θ
 oks:∀ b,ok0 b->ok b
 okn:∀ b,ok b->ok0 b\/w0.heap.size<=b
 dfr:a.defers=[]
 sz:a.tmps.size=n
def Ste (w0:World) (fp0:List Nat) (ok0:Nat->Prop) (W:Nat->Value) (n:Nat) (σ:St) (a:Act) (w:World):Prop:=
 ∃ ok θ ρ φ,Stx w0 fp0 ok0 W n σ a w ok θ ρ φ
def smallX (n:Nat):Operand->Bool
 | .tmp t=>decide (t < n)
 | _=>true
def smallO (n:Nat) (o:Oper):Bool:=
 o.op.operands.toList.all (smallX n) && (match o.dst with | some d=>decide (d < n) | none=>true)
section
variable {w0 w:World} {fp0:List Nat} {ok0 ok:Nat->Prop} {W:Nat->Value} {n:Nat} {P:Program} {T:TT} {σ:St} {θ:Nat->Value} {ρ:Rn->Value} {φ:Rn->List Nat} {a:Act}
theorem Stx.opv (h:Stx w0 fp0 ok0 W n σ a w ok θ ρ φ) {x:Operand} (hx:smallX n x=true):FR w ok σ ρ (opv σ x) (a.eval x):=by
 cases x with
 | tmp t=>
  simp only [smallX,decide_eq_true_eq] at hx
  have h1:=h.th.1 t (Nat.lt_of_lt_of_le hx (by rw [<-h.sz];exact h.th.2.2))
  show FR w ok σ ρ (σ.env t) (a.tmps.getD t undef)
  rw [<-h1]
  exact h.rel.env t
 | const v=>
  show FR w ok σ ρ (constFV v) v
  unfold constFV
  split
  ·rename_i cs
   simp only [FR]
   exact ⟨cs,rfl,FRL_zero _⟩
  ·simp [FR,Sh]
 | global g=>simp [Ab.opv,FR]
 | func f=>
  show FR w ok σ ρ (.d (.fn f [])) (.func (.func f) #[] #[])
  simp only [FR,Sh]
  exact ⟨#[],rfl,rfl⟩
theorem Stx.ops (h:Stx w0 fp0 ok0 W n σ a w ok θ ρ φ) {o:Oper} (ho:smallO n o=true):∀ x∈o.op.operands.toList,FR w ok σ ρ (Ab.opv σ x) (a.eval x):=by
 simp only [smallO,Bool.and_eq_true,List.all_eq_true] at ho
 exact fun x hx=>h.opv (ho.1 x hx)
theorem small_dst {o:Oper} (ho:smallO n o=true):∀ d,o.dst=some d->d < n:=by
 intro d hd
 simp only [smallO,Bool.and_eq_true] at ho
 have:=ho.2
 rw [hd] at this
 simpa using this
theorem Stx.put (h:Stx w0 fp0 ok0 W n σ a w ok θ ρ φ) {dst:Option Nat} (hd:∀ d,dst=some d->d < n) {f:FV} {v:Value} (hf:FR w ok σ ρ f v):∃ θ',Stx w0 fp0 ok0 W n (σ.set dst f) (a.put dst v) w ok θ' ρ φ:=by
 cases dst with
 | none=>exact ⟨θ,h⟩
 | some d=>
  exact ⟨upd θ d v,h.rel.upd hf,h.th.put (by rw [h.sz];exact hd d rfl),h.oks,h.okn,h.dfr,by simp [Act.put,h.sz]⟩
theorem Stx.fin {o:Oper} {d:Nat} (h:Stx w0 fp0 ok0 W n σ a w ok θ ρ φ) (ho:smallO n o=true) (hd:o.dst=some d) {f:FV} {v:Value} (hf:FR w ok σ ρ f v) :
  Ste w0 fp0 ok0 W n { σ with env:=upd σ.env d f } (a.put o.dst v) w:=by
 obtain ⟨θ',h3⟩:=h.put (dst:=o.dst) (small_dst ho) hf
 rw [hd] at h3 ⊢
 exact ⟨_,_,_,_,h3⟩
def Ends (P:Program) (o:Oper) (a:Act) (w:World) (K:St->Prop) (S:St->Act->World->Prop):Prop:=
 ∀ (Kc:Act->World->Prop) (Q:Exit->Act->World->Prop),(∀ σ' a' w',K σ'->S σ' a' w'->Kc a' w')->o.wp P a w Kc Q
theorem ends_value {o:Oper} {K:St->Prop} {S:St->Act->World->Prop} {v:Value} {w':World} {σ':St} (hr:(execOp a.eval o).run P w = .ok (.value v) w') (hk:K σ') (hs:S σ' (a.put o.dst v) w'):Ends P o a w K S:=
 fun Kc Q hK=>by
  unfold Oper.wp
  rw [hr]
  exact hK _ _ _ hk hs
theorem ends_skip {o:Oper} {K:St->Prop} {S:St->Act->World->Prop} {w':World} {σ':St} (hr:(execOp a.eval o).run P w = .ok .skip w') (hk:K σ') (hs:S σ' (a.put o.dst undef) w'):Ends P o a w K S:=
 fun Kc Q hK=>by
  unfold Oper.wp
  rw [hr]
  exact hK _ _ _ hk hs
theorem Ends.mono {o:Oper} {K:St->Prop} {S S':St->Act->World->Prop} (h:Ends P o a w K S) (hs:∀ σ' a' w',S σ' a' w'->S' σ' a' w'):Ends P o a w K S':=fun Kc Q hK=>h Kc Q fun σ' a' w' hk hS=>hK σ' a' w' hk (hs _ _ _ hS)
theorem later_alloc (w:World) (o:Obj):Later w (w.alloc o):=⟨by simp,fun b hb=>Go.RowKit.Below.heap_alloc w o b hb⟩
theorem silK_sound {C:Ctx} (hT:tabB C.P C.T=true) {o:Oper} (ho:smallO n o=true) {K:St->Prop} (hk:silK C o σ K) (h:Stx w0 fp0 ok0 W n σ a w ok θ ρ φ):Ends C.P o a w K (fun σ' a' w'=>Ste w0 fp0 ok0 W n σ' a' w'/\Later w w'):=by
 unfold silK at hk
 split at hk
 ·rename_i c f hs
  obtain ⟨v,h1,h2⟩:=sil_sound hT h.rel a o hs hk.1 (h.ops ho)
  obtain ⟨θ',h3⟩:=h.put (dst:=o.dst) (small_dst ho) h1
  exact ends_value (h2 w fun _=>Later.refl w) hk.2 ⟨⟨_,_,_,_,h3⟩,Later.refl w⟩
 ·exact hk.elim
theorem setCell_same {b i:Nat} {v:Value} (h:w.cell? ⟨b,i,none⟩ = some v):w.setCell ⟨b,i,none⟩ v=w:=by
 unfold World.cell? at h
 split at h
 ·rename_i c e f hb
  simp only [Option.isSome_none,Bool.false_eq_true,if_false] at h
  have hc:c.setIfInBounds i v=c:=by
   apply Array.ext'
   rw [Array.toList_setIfInBounds]
   have h':c.toList[i]? = some v:=by simpa using h
   apply List.ext_getElem?
   intro j
   rw [List.getElem?_set]
   split
   ·rename_i e
    subst e
    split
    ·exact h'.symm
    ·rename_i hlt
     rw [List.getElem?_eq_none (by omega)] at h'
     simp at h'
   ·rfl
  have:w.heap.modify b (fun x=>match x with | .cells c elem frozen=>.cells (if (none:Option Nat).isSome then c else c.setIfInBounds i v) elem frozen | o=>o)=w.heap:=by
   apply Array.ext_getElem?
   intro j
   rw [Array.getElem?_modify]
   split
   ·rename_i e
    subst e
    rw [hb]
    simp [hc]
   ·rfl
  exact congrArg (fun hp=>({ w with heap:=hp }:World)) this
 ·simp at h
theorem storeCells_same {b s:Nat}:∀ (vs:List Value) (i:Nat),(∀ (j:Nat) (v:Value),vs[j]? = some v->w.cell? ⟨b,s+i+j,none⟩ = some v/\w.frozen? ⟨b,s+i+j,none⟩ = false)->(∀ v∈vs,v.oneCell'=true) ->
  (storeCells ⟨b,s,none⟩ vs i).run P w = .ok () w
 | [],i,_,_=>by simp [storeCells]
 | v :: vs,i,h,h1=>by
  obtain ⟨h2,h3⟩:=h 0 v rfl
  rw [Nat.add_zero] at h2 h3
  simp only [storeCells,Sem.run_bind,Addr_add]
  rw [run_store P w _ v .plain (h1 v (List.mem_cons_self ..))]
  simp only [h2,h3,Bool.false_eq_true,if_false,Result.andThen_ok,setCell_same h2]
  refine storeCells_same vs (i+1) (fun j u hj=>?_) (fun u hu=>h1 u (List.mem_cons_of_mem _ hu))
  have:=h (j+1) u (by simpa using hj)
  rwa [show s+i+(j+1)=s+(i+1)+j by omega] at this
theorem OwL_gone (b:Nat):∀ (n o:Nat),(∀ j,j < n->∃ u,w.cell? ⟨b,o+j,none⟩ = some u)->OwL w ok b (goneL n) o []
 | 0,o,_=>by simp [goneL,OwL]
 | n+1,o,h=>by
  simp only [goneL,OwL]
  obtain ⟨u,hu⟩:=h 0 (by omega)
  refine ⟨u,[],[],by simpa using hu,rfl,by simp [Ow],OwL_gone b n (o+1) fun j hj=>?_⟩
  have:=h (j+1) (by omega)
  rwa [show o+1+j=o+(j+1) by omega]
theorem goneL_length:∀ n,(goneL n).length=n
 | 0=>rfl
 | n+1=>by simp [goneL,goneL_length n]
theorem Rel.via (h:Rel w0 fp0 ok σ θ w ρ φ) {f:FV} {u:Value} (hf:FR w ok σ ρ f u):Rel w0 fp0 ok { σ with env:=fun _=>f } (fun _=>u) w ρ φ:=h.envs fun _=>FR_env _ _ hf
theorem FRL_alloc (h:Rel w0 fp0 ok σ θ w ρ φ) (o:Obj) {fs:List FV} {us:List Value} (hf:FRL w ok σ ρ fs us):FRL (w.alloc o) ok σ ρ fs us:=by
 have h1:FR w ok σ ρ (.tu fs) (.tuple us.toArray):=by simp only [FR];exact ⟨_,rfl,by simpa using hf⟩
 have h2:=((h.via h1).alloc o).env 0
 have h3:=FR_st (σ1:={ σ with env:=fun _=>.tu fs }) (σ2:=σ) rfl _ _ h2
 simp only [FR] at h3
 obtain ⟨vs,e,h4⟩:=h3
 injection e with e
 subst e
 simpa using h4
theorem FRL_root (h:Rel w0 fp0 ok σ θ w ρ φ) {r:Rn} {d:D} {u:Value} {fp:List Nat} (hr:σ.rts r=none) (ho:Ow w ok d u fp) (hn:fp.Nodup)
  (hb:∀ b∈fp,(∀ q e,σ.rts q=some e->b ∉ φ q)/\Bnd w0 fp0 ok w.heap.size b) {fs:List FV} {us:List Value} (hf:FRL w ok σ ρ fs us):FRL w ok (σ.root r d) (upR ρ r u) fs us:=by
 have h1:FR w ok σ ρ (.tu fs) (.tuple us.toArray):=by simp only [FR];exact ⟨_,rfl,by simpa using hf⟩
 have h2:=((h.via h1).root (r:=r) (d:=d) (u:=u) (fp:=fp) hr ho hn hb).env 0
 have h3:FR w ok (σ.root r d) (upR ρ r u) (.tu fs) (.tuple us.toArray):=FR_st (σ1:=St.root { σ with env:=fun _=>.tu fs } r d) (σ2:=σ.root r d) rfl _ _ h2
 simp only [FR] at h3
 obtain ⟨vs,e,h4⟩:=h3
 injection e with e
 subst e
 simpa using h4
theorem fresh_bnd (h:Rel w0 fp0 ok σ θ w ρ φ) (o:Obj):(∀ q e,σ.rts q=some e->w.heap.size ∉ φ q)/\Bnd w0 fp0 ok (w.alloc o).heap.size w.heap.size:=by
 refine ⟨fun q e he hb=>?_,fun hk=>?_,.inr h.frm.size,by simp⟩
 ·have:=((h.own q e he).2.2 _ hb).2.2
  omega
 ·have:=h.okb _ hk
  omega
theorem cell_alloc (B:Array Value) (t:Nat) {j:Nat} {v:Value} (h:B[j]? = some v):(w.alloc (.cells B t)).cell? ⟨w.heap.size,j,none⟩ = some v:=by
 rw [World.cell?_alloc_new]
 exact h
theorem new_block (h:Rel w0 fp0 ok σ θ w ρ φ) {r:Rn} {d:D} {u:Value} {B:Array Value} {t k:Nat} {l:List FV} {σ1:St} (hr:σ.rts r=none)
  (hd:∀ w',w'.heap[w.heap.size]? = some (.cells B t (0,0))->∃ fp,Ow w' ok d u fp/\fp.Nodup/\∀ x∈fp,x=w.heap.size) (hu:baseOf u=some (w.heap.size,0)) (hs:(σ.root r d).storeL r [] k 0 l=some σ1) (hl:FRL w ok σ ρ l B.toList) :
  ∃ θ' φ',Rel w0 fp0 ok σ1 θ' (w.alloc (.cells B t)) (upR ρ r u) φ'/\∀ s,s < 2000->θ' s=θ s:=by
 have hnew:(w.alloc (.cells B t)).heap[w.heap.size]? = some (.cells B t (0,0)):=heap_alloc_new w _
 obtain ⟨fp,f1,f2,f3⟩:=hd _ hnew
 have hf:∀ b∈fp,(∀ q e,σ.rts q=some e->b ∉ φ q)/\Bnd w0 fp0 ok (w.alloc (.cells B t)).heap.size b:=fun b hb=>by
  rw [f3 b hb]
  exact fresh_bnd h _
 have h2:=(h.alloc (.cells B t)).root (r:=r) (d:=d) (u:=u) (fp:=fp) hr f1 f2 hf
 have h3:=FRL_root (h.alloc (.cells B t)) (r:=r) (d:=d) (u:=u) (fp:=fp) hr f1 f2 hf (FRL_alloc h (.cells B t) hl)
 have h4:hdr (w.alloc (.cells B t)) (upR ρ r u r) []=some u:=by simp [hdr,upR]
 obtain ⟨w',θ',φ',g1,g2,g3,h1⟩:=storeL_sound (P:=(default:Program)) (s:=0) hu k l 0 (σ.root r d) θ _ _ B.toList 0 σ1 h2 hs h3 h4 rfl
 have h5:=storeCells_same (P:=(default:Program)) (w:=w.alloc (.cells B t)) (b:=w.heap.size) (s:=0) B.toList 0 (fun j v hj=>by
  simp only [Nat.zero_add]
  exact ⟨cell_alloc B t (by simpa using hj),not_frozen hnew⟩) h1
 rw [g1] at h5
 injection h5 with _ h5
 subst h5
 exact ⟨θ',φ',g2,g3⟩
theorem Th.of_lt {W θ θ':Nat->Value} (h:Th a W θ) (he:∀ s,s < 2000->θ' s=θ s):Th a W θ':=
 ⟨fun t ht=>by rw [he t (by omega)];exact h.1 t ht,fun j hj=>by rw [he _ (by omega)];exact h.2.1 j hj,h.2.2⟩
end
end Go.Proofs.Ytncfmemhjahpeaa.Ab
namespace Go.Proofs.Ytncfmemhjahpeaa.Ab
open Go
section
variable {w0 w:World} {fp0:List Nat} {ok0 ok:Nat->Prop} {W:Nat->Value} {n:Nat} {P:Program} {T:TT} {σ:St} {θ:Nat->Value} {ρ:Rn->Value} {φ:Rn->List Nat} {a:Act}
theorem OwL_vals {b:Nat}:∀ (zs:List Value) (o:Nat),(∀ (j:Nat) (v:Value),zs[j]? = some v->w.cell? ⟨b,o+j,none⟩ = some v)->OwL w ok b (zs.map .v) o []
 | [],o,_=>by simp [OwL]
 | z :: zs,o,h=>by
  simp only [List.map_cons,OwL]
  refine ⟨z,[],[],by simpa using h 0 z rfl,rfl,by simp [Ow],OwL_vals zs (o+1) fun j v hj=>?_⟩
  have:=h (j+1) v (by simpa using hj)
  rwa [show o+1+j=o+(j+1) by omega]
def reps (z:List Value):Nat->List Value
 | 0=>[]
 | n+1=>z ++ reps z n
theorem reps_length (z:List Value):∀ n,(reps z n).length=n*z.length
 | 0=>by simp [reps]
 | n+1=>by simp only [reps,List.length_append,reps_length z n,Nat.add_mul,Nat.one_mul];omega
theorem zerosD_reps (z:List Value):∀ n,zerosD z n=(reps z n).map .v
 | 0=>rfl
 | n+1=>by simp [zerosD,reps,zerosD_reps z n]
theorem reps_get (z:List Value):∀ (n j:Nat),j < n*z.length->(reps z n)[j]? = z[j % z.length]?
 | 0,j,h=>by simp at h
 | n+1,j,h=>by
  simp only [reps]
  by_cases hj:j < z.length
  ·rw [List.getElem?_append_left hj,Nat.mod_eq_of_lt hj]
  ·have hj':z.length<=j:=Nat.le_of_not_lt hj
   rw [List.getElem?_append_right hj',reps_get z n (j - z.length) (by rw [Nat.add_mul,Nat.one_mul] at h;omega),Nat.mod_eq_sub_mod hj']
theorem zcells {z:Array Value} {zs:List Value} (hz:z.toList=zs) (n:Nat):((Array.range (n*zs.length)).map fun i=>z[i % z.size]!).toList=reps zs n:=by
 subst hz
 apply List.ext_getElem?
 intro j
 rw [Array.toList_map,List.getElem?_map,Array.toList_range]
 by_cases hj:j < n*z.toList.length
 ·rw [reps_get _ _ _ hj,List.getElem?_range hj]
  have hpos:0 < z.size:=by
   rcases Nat.eq_zero_or_pos z.size with h | h
   ·simp [h] at hj
   ·exact h
  have hm:=Nat.mod_lt j hpos
  simp [hm]
 ·rw [List.getElem?_eq_none (by simpa using hj),List.getElem?_eq_none (by rw [reps_length];omega)]
  rfl
theorem alloc_sound {C:Ctx} (hT:tabB C.P C.T=true) {o:Oper} (ho:smallO n o=true) {t:Nat} (hop:o.op = .alloc t) {K:St->Prop} (hk:AAlloc C o.dst t σ K) (h:Stx w0 fp0 ok0 W n σ a w ok θ ρ φ):Ends C.P o a w K (fun σ' a' w'=>Ste w0 fp0 ok0 W n σ' a' w'/\Later w w'):=by
 unfold AAlloc at hk
 split at hk
 ·rename_i d i hd hi
  obtain ⟨hr,hk⟩:=hk
  obtain ⟨z,z1,z2,z3⟩:=(tab_ok hT hi).zeroV
  have hrun:(execOp a.eval o).run C.P w = .ok (.value (.pointer (some ⟨w.heap.size,0,none⟩))) (w.alloc (.cells z.cells t)):=by
   simp [execOp,hop,Instr.alloc,z3,newVar,newRow]
  have hnew:(w.alloc (.cells z.cells t)).heap[w.heap.size]? = some (.cells z.cells t (0,0)):=heap_alloc_new w _
  have h2:=(h.rel.alloc (.cells z.cells t)).root (r:=(d,0)) (d:=.bx (i.zero.map .v)) (u:=.pointer (some ⟨w.heap.size,0,none⟩)) (fp:=[w.heap.size]) hr
   (by
     simp only [Ow]
     refine ⟨w.heap.size,z.cells,t,[],rfl,rfl,hnew,by rw [List.length_map,<-z1,Array.length_toList];exact Nat.le_refl _,OwL_vals _ 0 fun j v hj=>?_⟩
     rw [Nat.zero_add]
     exact cell_alloc z.cells t (by rw [<-z1] at hj;simpa using hj))
   (by simp) (fun b hb=>by
    simp only [List.mem_singleton] at hb
    subst hb
    exact fresh_bnd h.rel _)
  have hs:Stx w0 fp0 ok0 W n (σ.root (d,0) (.bx (i.zero.map .v))) a (w.alloc (.cells z.cells t)) ok θ (upR ρ (d,0) (.pointer (some ⟨w.heap.size,0,none⟩))) (upR φ (d,0) [w.heap.size]):=⟨h2,h.th,h.oks,h.okn,h.dfr,h.sz⟩
  have hf:FR (w.alloc (.cells z.cells t)) ok (σ.root (d,0) (.bx (i.zero.map .v))) (upR ρ (d,0) (.pointer (some ⟨w.heap.size,0,none⟩))) (.pt (d,0) [] 0) (.pointer (some ⟨w.heap.size,0,none⟩)):=by
   simp only [FR]
   exact ⟨.bx (i.zero.map .v),i.zero.map .v,.pointer (some ⟨w.heap.size,0,none⟩),w.heap.size,0,by simp [St.obj,St.root,look],rfl,by simp [hdr,upR],rfl,rfl⟩
  exact ends_value hrun hk ⟨hs.fin ho hd hf,later_alloc w _⟩
 ·exact hk.elim
theorem store1_obj {r:Rn} {off:Nat} {f:FV} {σ σ2:St} (h1:σ.store1 r [] off f=some σ2):∃ σ3 o2 cs2 e,σ3.obj r []=some o2/\o2.cells? = some cs2/\σ2.obj r []=some (o2.setCells (cs2.set off e)) /\
  (∃ σ4,(σ4=σ\/σ4=σ.kill r ([] ++ [off]))/\St.absorb σ4 f r ([] ++ [off])=some (e,σ3)):=by
 unfold St.store1 at h1
 split at h1
 ·rename_i o1 ho1
  split at h1
  ·rename_i cs1 hc1
   split at h1
   ·rename_i old hold
    split at h1
    ·rename_i e σ3 h3
     split at h1
     ·rename_i o2 ho2
      split at h1
      ·rename_i cs2 hc2
       injection h1 with h1
       subst h1
       refine ⟨σ3,o2,cs2,e,ho2,hc2,?_,?_⟩
       ·unfold St.obj at ho2
        split at ho2
        ·rename_i d hd
         simp only [St.put,St.obj,hd,if_true,putAt,look]
        ·simp at ho2
       ·split at h3
        ·exact ⟨σ,.inl rfl,h3⟩
        ·exact ⟨_,.inr rfl,h3⟩
      ·simp at h1
     ·simp at h1
    ·simp at h1
   ·simp at h1
  ·simp at h1
 ·simp at h1
theorem take_obj {σ:St} {r q:Rn} {s:List Nat} {o d:D} (h:(σ.take q s).obj r []=some o) (hd:σ.obj r []=some d):sameKind d o:=by
 have e0:σ.rts r=some d:=by
  unfold St.obj at hd
  split at hd
  ·rename_i x hx
   simp only [look,Option.some.injEq] at hd
   subst hd
   exact hx
  ·simp at hd
 cases s with
 | nil=>
  simp only [St.take,St.obj] at h
  by_cases e:r=q
  ·simp [e] at h
  ·simp only [e,if_false,e0,look,Option.some.injEq] at h
   subst h
   exact sameKind_refl _
 | cons i s=>
  simp only [St.take,St.put] at h
  split at h
  ·rename_i x hx
   simp only [St.obj] at h
   by_cases e:r=q
   ·subst e
    rw [e0] at hx
    injection hx with hx
    subst hx
    simp only [if_true,look,Option.some.injEq] at h
    subst h
    cases hc:d.cells? with
    | none=>
     simp only [putAt,hc]
     exact sameKind_refl _
    | some cs=>
     simp only [putAt,hc]
     exact sameKind_setCells hc (by simp)
   ·simp only [e,if_false,e0,look,Option.some.injEq] at h
    subst h
    exact sameKind_refl _
  ·simp only [St.obj,e0,look,Option.some.injEq] at h
   subst h
   exact sameKind_refl _
theorem absorb_obj {σ σ3:St} {f:FV} {r r':Rn} {p':List Nat} {e o d:D} (h:σ.absorb f r' p'=some (e,σ3)) (ho:σ3.obj r []=some o) (hd:σ.obj r []=some d):sameKind d o:=by
 have env:∀ (τ:St) (g:Nat->FV),({ τ with env:=g }:St).obj r []=τ.obj r []:=fun _ _=>rfl
 unfold St.absorb at h
 split at h
 ·split at h
  ·injection h with h
   injection h with h1 h2
   subst h2
   rw [ho] at hd
   injection hd with hd
   subst hd
   exact sameKind_refl _
  ·simp at h
 ·split at h
  ·split at h
   ·injection h with h
    injection h with h1 h2
    subst h2
    exact take_obj (by simpa only [St.obj] using ho) hd
   ·simp at h
  ·simp at h
 ·split at h
  ·split at h
   ·injection h with h
    injection h with h1 h2
    subst h2
    exact take_obj (by simpa only [St.obj] using ho) hd
   ·simp at h
  ·simp at h
 ·split at h
  ·injection h with h
   injection h with h1 h2
   subst h2
   exact take_obj (by simpa only [St.obj] using ho) hd
  ·simp at h
 ·simp at h
theorem store1_kind {r:Rn} {off:Nat} {f:FV} {σ σ2:St} {d:D} (h1:σ.store1 r [] off f=some σ2) (hd:σ.obj r []=some d):∃ o,σ2.obj r []=some o/\sameKind d o:=by
 obtain ⟨σ3,o2,cs2,e,g1,g2,g3,σ4,g4,g5⟩:=store1_obj h1
 have hd4:σ4.obj r []=some d:=by rcases g4 with rfl | rfl <;> exact hd
 exact ⟨_,g3,sameKind_trans (absorb_obj g5 g1 hd4) (sameKind_setCells g2 (by simp))⟩
theorem storeL_same {r:Rn}:∀ {m off:Nat} {σ:St} {l:List FV} {σ1:St} {d:D},σ.storeL r [] m off l=some σ1->σ.obj r []=some d->∃ o,σ1.obj r []=some o/\sameKind d o:=by
 intro m
 induction m with
 | zero=>
  intro off σ l σ1 d hs hd
  cases l with
  | nil=>
   simp only [St.storeL,Option.some.injEq] at hs
   subst hs
   exact ⟨d,hd,sameKind_refl d⟩
  | cons f fs=>simp [St.storeL] at hs
 | succ m ih=>
  intro off σ l σ1 d hs hd
  cases l with
  | nil=>
   simp only [St.storeL,Option.some.injEq] at hs
   subst hs
   exact ⟨d,hd,sameKind_refl d⟩
  | cons f fs=>
   simp only [St.storeL] at hs
   split at hs
   ·split at hs
    ·rename_i σ2 h2
     obtain ⟨o,g1,g2⟩:=store1_kind h2 hd
     obtain ⟨o',g3,g4⟩:=ih hs g1
     exact ⟨o',g3,sameKind_trans g2 g4⟩
    ·simp at hs
   ·split at hs
    ·rename_i σ2 h2
     obtain ⟨o,g1,g2⟩:=store1_kind (σ:={ σ with env:=pend fs 2000 σ.env }) h2 hd
     obtain ⟨o',g3,g4⟩:=ih hs g1
     exact ⟨o',g3,sameKind_trans g2 g4⟩
    ·simp at hs
theorem storeL_kind {r:Rn} {m off:Nat} {σ:St} {l:List FV} {σ1:St} {k N:Nat} {cs:List D} (hs:σ.storeL r [] m off l=some σ1) (hd:σ.obj r []=some (.ow k N cs)):∃ cs',σ1.obj r []=some (.ow k N cs'):=by
 obtain ⟨o,g1,g2⟩:=storeL_same hs hd
 obtain ⟨cs',rfl,_⟩:=simK_ow (.inl g2)
 exact ⟨cs',g1⟩
theorem storeL_root {r:Rn} {m off:Nat} {σ:St} {l:List FV} {σ1:St} {cs:List D} (hs:σ.storeL r [] m off l=some σ1) (hd:σ.obj r []=some (.bx cs)):∃ o' cs',σ1.obj r []=some o'/\o'.cells? = some cs':=by
 obtain ⟨o,g1,g2⟩:=storeL_same hs hd
 obtain ⟨cs',g3,_⟩:=simK_cells (.inl g2) rfl
 exact ⟨o,cs',g1,g3⟩
theorem box_sound {C:Ctx} (hT:tabB C.P C.T=true) {o:Oper} (ho:smallO n o=true) {t:Nat} {x:Operand} (hop:o.op = .box t x) {K:St->Prop} (hk:ABox C o.dst t (opv σ x) σ K) (h:Stx w0 fp0 ok0 W n σ a w ok θ ρ φ) :
  Ends C.P o a w K (fun σ' a' w'=>Ste w0 fp0 ok0 W n σ' a' w'/\Later w w'):=by
 unfold ABox at hk
 split at hk
 ·rename_i d i hd hi
  obtain ⟨hr,hw,hl,hk⟩:=hk
  split at hk
  ·rename_i σ1 hs
   have hx:=h.ops ho x (by rw [hop];simp [Op.operands])
   have hcs:=whole_cells h.rel hw hx
   have hlen:=FRL_length hcs
   rw [hl,Array.length_toList] at hlen
   have hrun:(execOp a.eval o).run C.P w = .ok (.value (.pointer (some ⟨w.heap.size,0,none⟩))) (w.alloc (.cells (a.eval x).cells t)):=by
    simp [execOp,hop,Instr.box,newVar,newRow]
   obtain ⟨θ',φ',h2,h3⟩:=new_block (t:=t) (u:=.pointer (some ⟨w.heap.size,0,none⟩)) (d:=.bx (goneL i.size)) h.rel hr (fun w' hb=>by
    refine ⟨[w.heap.size],?_,by simp,by simp⟩
    simp only [Ow]
    refine ⟨w.heap.size,_,t,[],rfl,rfl,hb,by rw [goneL_length,hlen];exact Nat.le_refl _,OwL_gone _ _ _ fun j hj=>?_⟩
    refine ⟨(a.eval x).cells[j]'(by omega),?_⟩
    simp [World.cell?,hb]) rfl hs hcs
   have hs':Stx w0 fp0 ok0 W n σ1 a (w.alloc (.cells (a.eval x).cells t)) ok θ' (upR ρ (d,0) (.pointer (some ⟨w.heap.size,0,none⟩))) φ':=⟨h2,h.th.of_lt h3,h.oks,h.okn,h.dfr,h.sz⟩
   obtain ⟨o',cs',g1,g2⟩:=storeL_root (cs:=goneL i.size) hs (by simp [St.obj,St.root,look])
   have hf:FR (w.alloc (.cells (a.eval x).cells t)) ok σ1 (upR ρ (d,0) (.pointer (some ⟨w.heap.size,0,none⟩))) (.pt (d,0) [] 0) (.pointer (some ⟨w.heap.size,0,none⟩)):=by
    simp only [FR]
    exact ⟨o',cs',.pointer (some ⟨w.heap.size,0,none⟩),w.heap.size,0,g1,g2,by simp [hdr,upR],rfl,rfl⟩
   exact ends_value hrun hk ⟨hs'.fin ho hd hf,later_alloc w _⟩
  ·exact hk.elim
 ·exact hk.elim
theorem Rel.grow' (h:Rel w0 fp0 ok σ θ w ρ φ) {okn:Nat->Prop} (hk:∀ b,ok b->okn b) (hl:∀ b,okn b->b < w.heap.size) (hn:∀ q e,σ.rts q=some e->∀ b∈φ q,¬ okn b):Rel w0 fp0 okn σ θ w ρ φ:=by
 refine ⟨fun r d hd=>?_,h.dis,fun t=>?_,hl,h.frm⟩
 ·obtain ⟨h1,h2,h3⟩:=h.own r d hd
  exact ⟨Ow_mono (fun b hb=>⟨hk b hb,rfl⟩) d _ _ (fun _ _=>rfl) h1,h2,fun b hb=>⟨hn r d hd b hb,(h3 b hb).2⟩⟩
 ·refine FR_same (G:=fun _ _=>True) (I:=fun _ _ _=>True) ⟨fun b hb=>⟨hk b hb,rfl⟩,fun r p o _ ho=>⟨o,ho,.inl (sameKind_refl o),rfl⟩⟩ ⟨fun r m p b mb es _ h1 h2 h3 h4=>⟨h1,rfl,rfl,h3,h4,rfl⟩⟩ _ _ ?_ (h.env t)
  exact ats_mono (fun _ _ _=>trivial) (fun _ _ _ _=>trivial) _ (FR_ats _ _ (h.env t))
theorem fb_sound {C:Ctx} {o:Oper} (ho:smallO n o=true) {t:Nat} {x:Operand} (hop:o.op = .box t x) {K:St->Prop} (hk:AFb C o.dst t (opv σ x) σ K) (h:Stx w0 fp0 ok0 W n σ a w ok θ ρ φ) :
  Ends C.P o a w K (fun σ' a' w'=>Ste w0 fp0 ok0 W n σ' a' w'/\Later w w'):=by
 unfold AFb at hk
 split at hk
 ·rename_i d i hd hi
  obtain ⟨hw,hk⟩:=hk
  have hx:=h.ops ho x (by rw [hop];simp [Op.operands])
  have hcs:=whole_cells h.rel hw hx
  have hrun:(execOp a.eval o).run C.P w = .ok (.value (.pointer (some ⟨w.heap.size,0,none⟩))) (w.alloc (.cells (a.eval x).cells t)):=by
   simp [execOp,hop,Instr.box,newVar,newRow]
  have hcs2:=FRL_alloc h.rel (.cells (a.eval x).cells t) hcs
  have h1:=h.rel.alloc (.cells (a.eval x).cells t)
  have h2:=h1.grow' (okn:=fun b=>ok b\/b=w.heap.size) (fun b hb=>.inl hb) (fun b hb=>by
   rcases hb with hb | hb
   ·exact h1.okb b hb
   ·rw [hb];simp) (fun q e he b hb hh=>by
   rcases hh with hh | hh
   ·exact ((h1.own q e he).2.2 b hb).1 hh
   ·have:=((h.rel.own q e he).2.2 b hb).2.2
    omega)
  have hs':Stx w0 fp0 ok0 W n σ a (w.alloc (.cells (a.eval x).cells t)) (fun b=>ok b\/b=w.heap.size) θ ρ φ:=⟨h2,h.th,fun b hb=>.inl (h.oks b hb),fun b hb=>by
   rcases hb with hb | hb
   ·exact h.okn b hb
   ·rw [hb];exact .inr h.rel.frm.size,h.dfr,h.sz⟩
  have hf:FR (w.alloc (.cells (a.eval x).cells t)) (fun b=>ok b\/b=w.heap.size) σ ρ (.fb (opv σ x).atoms 0) (.pointer (some ⟨w.heap.size,0,none⟩)):=by
   simp only [FR]
   refine ⟨w.heap.size,(a.eval x).cells.toList,rfl,.inr rfl,fun j v hj=>cell_alloc _ t (by simpa using hj),?_⟩
   have h3:FR (w.alloc (.cells (a.eval x).cells t)) ok σ ρ (.tu (opv σ x).atoms) (.tuple (a.eval x).cells.toList.toArray):=by simp only [FR];exact ⟨_,rfl,by simpa using hcs2⟩
   have h4:=((h1.via h3).grow' (okn:=fun b=>ok b\/b=w.heap.size) (fun b hb=>.inl hb) (fun b hb=>by
    rcases hb with hb | hb
    ·exact h1.okb b hb
    ·rw [hb];simp) (fun q e he b hb hh=>by
    rcases hh with hh | hh
    ·exact ((h1.own q e he).2.2 b hb).1 hh
    ·have:=((h.rel.own q e he).2.2 b hb).2.2
     omega)).env 0
   have h5:=FR_st (σ1:={ σ with env:=fun _=>.tu (opv σ x).atoms }) (σ2:=σ) rfl _ _ h4
   simp only [FR] at h5
   obtain ⟨vs,e,h6⟩:=h5
   injection e with e
   subst e
   simpa using h6
  exact ends_value hrun hk ⟨hs'.fin ho hd hf,later_alloc w _⟩
 ·exact hk.elim
theorem zeros_FRL (zs:List Value) (k:Nat):FRL w ok σ ρ ((zerosD zs k).map .d) (reps zs k):=by
 rw [zerosD_reps,List.map_map]
 exact FRL_zero _
theorem ow_new {i:TI} {len cp b:Nat} {B:Array Value} {T:Nat} {w':World} (hb:w'.heap[b]? = some (.cells B T (0,0))) (hB:cp*i.size=B.size) (hl:len<=cp) {cs:List D} (hc:cs.length=len*i.size) (hcs:OwL w' ok b cs 0 []) :
  ∃ fp,Ow w' ok (.ow i.size len cs) (.slice (some ⟨b,0,none⟩) len cp) fp/\fp.Nodup/\∀ x∈fp,x=b:=by
 rcases Nat.eq_zero_or_pos cp with h0 | h0
 ·subst h0
  have:len=0:=by omega
  subst this
  refine ⟨[],?_,by simp,by simp⟩
  simp only [Ow]
  exact .inl ⟨trivial,List.eq_nil_of_length_eq_zero (by simpa using hc),trivial,_,rfl⟩
 ·refine ⟨[b],?_,by simp,by simp⟩
  simp only [Ow]
  exact .inr ⟨b,0,cp,B,T,[],rfl,rfl,hb,⟨hl,by omega⟩,by rw [Nat.mul_comm,hB];omega,by rw [hc,Nat.mul_comm],hcs⟩
theorem buildSlice_run {t e len size:Nat} {parts:Array (Nat×Value)} {z:Value} {B:Array Value} (hu:P.underlying t=some (.slice e)) (hsz:∀ w:World,(sizeOf e).run P w = .ok size w) (hz:∀ w:World,(zeroValue e).run P w = .ok z w)
  (hle:len*size<=16777216) (zz:Array Value) (hzz:zz=if len*size=0 then #[] else z.cells)
  (hb:Instr.fill (fun j=>some (j*size,size)) ((Array.range (len*size)).map (fun j=>zz[j % zz.size]!)) parts.toList=some B) (w:World) :
  (Instr.buildSlice t len parts).run P w = .ok (.slice (some ⟨w.heap.size,0,none⟩) len len) (w.alloc (.cells B e)):=by
 have hle':¬ (len*size > 2 ^ 24):=by omega
 unfold Instr.buildSlice
 rw [Sem.run_bind,run_underlying hu,Result.andThen_ok]
 simp only []
 rw [Sem.run_bind,hsz,Result.andThen_ok,if_neg hle']
 by_cases h0:len*size=0
 ·rw [if_pos h0] at hzz
  subst hzz
  rw [if_pos h0,Sem.run_bind,Sem.run_pure,Result.andThen_ok,hb]
  simp [newRow]
 ·rw [if_neg h0] at hzz
  subst hzz
  rw [if_neg h0,Sem.run_bind,hz,Result.andThen_ok,Sem.run_bind,Sem.run_pure,Result.andThen_ok,hb]
  simp [newRow]
theorem buildSlice_sound {C:Ctx} (hT:tabB C.P C.T=true) {o:Oper} (ho:smallO n o=true) {t len:Nat} {parts:Array (Nat×Operand)} (hop:o.op = .buildSlice t len parts) {K:St->Prop}
  (hk:ABuildSlice C o.dst t len (parts.toList.map fun x=>(x.1,opv σ x.2)) σ K) (h:Stx w0 fp0 ok0 W n σ a w ok θ ρ φ):Ends C.P o a w K (fun σ' a' w'=>Ste w0 fp0 ok0 W n σ' a' w'/\Later w w'):=by
 unfold ABuildSlice at hk
 split at hk
 ·rename_i d ti hd hti
  split at hk
  ·rename_i e hke
   split at hk
   ·rename_i i hi
    obtain ⟨hr,hle,hk⟩:=hk
    split at hk
    ·rename_i l hl
     split at hk
     ·rename_i σ1 hs
      have hrow:=tab_ok hT hi
      obtain ⟨z,z1,z2,z3⟩:=hrow.zeroV
      have hu:=kd_sl (tab_ok hT hti) hke
      have hp:FRP w ok σ ρ (parts.toList.map fun x=>(x.1,opv σ x.2)) (parts.map fun (i,x)=>(i,a.eval x)).toList:=by
       rw [Array.toList_map]
       exact FRP_of _ fun x hx=>h.ops ho x (by rw [hop];simpa [Op.operands] using hx)
      let zz:Array Value:=if len*i.size=0 then #[] else z.cells
      let A:Array Value:=(Array.range (len*i.size)).map (fun j=>zz[j % zz.size]!)
      have hA:A.toList=reps i.zero len:=by
       show ((Array.range (len*i.size)).map (fun j=>zz[j % zz.size]!)).toList=_
       by_cases h0:len*i.size=0
       ·have:(reps i.zero len).length=0:=by rw [reps_length,hrow.len,h0]
        rw [List.eq_nil_of_length_eq_zero this,h0]
        simp
       ·have:zz=z.cells:=if_neg h0
        rw [this,<-hrow.len]
        exact zcells z1 len
      obtain ⟨B,b1,b2,b3⟩:=fill_sound h.rel (place':=fun j=>some (j*i.size,i.size)) (fun _ _ h=>h) _ _ _ l A hp (by rw [hA];exact zeros_FRL _ _) hl
      have hBs:B.size=len*i.size:=by rw [b3];show ((Array.range (len*i.size)).map _).size=_;simp
      have hrun:(execOp a.eval o).run C.P w = .ok (.value (.slice (some ⟨w.heap.size,0,none⟩) len len)) (w.alloc (.cells B e)):=by
       have hb1:Instr.fill (fun j=>some (j*i.size,i.size)) ((Array.range (len*i.size)).map (fun j=>zz[j % zz.size]!)) (parts.map fun (i,x)=>(i,a.eval x)).toList=some B:=b1
       have:=buildSlice_run hu hrow.size z3 hle zz rfl hb1 w
       simp [execOp,hop,this]
      have hg:∀ w':World,w'.heap[w.heap.size]? = some (.cells B e (0,0))->OwL w' ok w.heap.size (goneL (len*i.size)) 0 []:=fun w' hb=>
       OwL_gone _ _ _ fun j hj=>⟨B[j]'(by omega),by simp [World.cell?,hb]⟩
      obtain ⟨θ',φ',h2,h3⟩:=new_block (t:=e) (u:=.slice (some ⟨w.heap.size,0,none⟩) len len) (d:=.ow i.size len (goneL (len*i.size))) h.rel hr
       (fun w' hb=>ow_new hb hBs.symm (Nat.le_refl _) (goneL_length _) (hg w' hb)) rfl hs b2
      have hs':Stx w0 fp0 ok0 W n σ1 a (w.alloc (.cells B e)) ok θ' (upR ρ (d,0) (.slice (some ⟨w.heap.size,0,none⟩) len len)) φ':=⟨h2,h.th.of_lt h3,h.oks,h.okn,h.dfr,h.sz⟩
      have hf:FR (w.alloc (.cells B e)) ok σ1 (upR ρ (d,0) (.slice (some ⟨w.heap.size,0,none⟩) len len)) (.al (d,0) [] 0 len) (.slice (some ⟨w.heap.size,0,none⟩) len len):=by
       obtain ⟨cs',g1⟩:=storeL_kind hs (k:=i.size) (N:=len) (cs:=goneL (len*i.size)) (by simp [St.obj,St.root,look])
       simp only [FR]
       exact ⟨i.size,len,cs',.slice (some ⟨w.heap.size,0,none⟩) len len,g1,by simp [hdr,upR],by omega,.inl ⟨rfl,_,_,_,rfl,rfl⟩⟩
      exact ends_value hrun hk ⟨hs'.fin ho hd hf,later_alloc w _⟩
     ·exact hk.elim
    ·exact hk.elim
   ·exact hk.elim
  ·exact hk.elim
 ·exact hk.elim
end
end Go.Proofs.Ytncfmemhjahpeaa.Ab
