/- What the simplifier may unfold where a function is evaluated. A promise made weaker: empty slices among results and arguments. Matrices, sums, seeds and sessions as trees; numbers written into them one behind the other. From a call's promise to a row: what was there is as it was. Arguments that are read as data: numbers, texts, slices and structs as trees over old blocks. Arguments of this program's laws, read as trees. Printed by wip/tools/gen.py: the numbers of functions and types, and what lives where. Small functions on numbers and lists of numbers: what they answer. Sums: their size, copies, what is equal, marks. Sums as lists of keys with numbers: the descending list without zeros is told by the sum that belongs to each key. Exponents as one number: the code is one to one, keeps the order, and goes with sums. Sums that are right; their coded terms; what products and sums come to. The reference's sums: which are right; codes and their decoding. The program's sums: what is right, keys, comparisons. Seeds and sessions: what is equal, marks. The first seed and the first session, on both sides. What a matrix of small entries is: its shape and its factors, at the first session's matrix. Factors of a matrix by fractions: what holds along the search. Factors of a matrix by pieces: what holds along the search. Matrices that are right, their least factors, mutation. The factors of a matrix, by the program. The reference's coded terms: opened, multiplied, shut. No condition. -/
import Derived.Test.YtbhkonnakkhibaaGreatKSmb
import Derived.WalkKit
import Derived.ProofKit
import Derived.OpenShut
import Derived.Test.YtbhkonnakkhibaaGreatProg
import Derived.Test.YtbhkonnakkhibaaGreatKSma
set_option linter.unusedVariables false
set_option linter.unusedSimpArgs false
namespace Go.Proofs.YtbhkonnakkhibaaGreat.Ab
open Go
def Back (σ:St) (ios:List Io) (outs:List D) (dst:Option Nat) (res:List RV) (K:St->Prop):Prop:=
 match putOuts σ ios outs with
 | some σ1=>(match dst with
  | some d=>(match unpackR d σ1 0 res with
   | some (fs,σ2,_)=>K { σ2 with env:=upd σ2.env d (resFV fs) }
   | none=>False)
  | none=>K σ1)
 | none=>False
def CallsTo (P:Program) (f:Nat) (args:List FV) (lent:List Rn) (ios:List Io) (dst:Option Nat) (σ:St) (K:St->Prop):Prop:=
 ∃ pure Q,ACalls P f args (ios.map fun io=>(io.name,io.d)) pure Q/\(pure=true\/lent=[])/\∀ outs res,Q outs res->Back σ ios outs dst res K
theorem callTo_eq (C:Ctx) (f:Nat) (fvs:List FV) (dst:Option Nat) (σ:St) (K:St->Prop):callTo C f fvs dst σ K=(match passL σ 0 (aget [] C.M f) fvs with
 | some (args,lent,ios)=>((ios.map (·.r)).Nodup/\(ios.map (·.name)).Nodup)/\(∀ r∈ios.map (·.r),r ∉ lent)/\CallsTo C.P f args lent ios dst σ K
 | none=>False):=rfl
theorem wcall {P:Program} {f:Nat} {args args':List FV} {lent:List Rn} {ios:List Io} {dst:Option Nat} {σ:St} {K:St->Prop} {ros:List (Rn×D)} {pure:Bool} {Q:List D->List RV->Prop}
  (h:ACalls P f args' ros pure Q) (ha:args=args') (hr:(ios.map fun io=>(io.name,io.d))=ros) (hp:pure=true\/lent=[]) (hk:∀ outs res,Q outs res->Back σ ios outs dst res K):CallsTo P f args lent ios dst σ K:=
 ⟨pure,Q,by rw [hr,ha];exact h,hp,hk⟩
theorem wcall1 {P:Program} {f:Nat} {args args':List FV} {lent:List Rn} {ios:List Io} {dst:Option Nat} {σ:St} {K:St->Prop} {ros:List (Rn×D)} {os:List D} {rs:List RV}
  (h:ACalls P f args' ros true (fun outs res=>outs=os/\res=rs)) (ha:args=args') (hr:(ios.map fun io=>(io.name,io.d))=ros) (hk:Back σ ios os dst rs K):CallsTo P f args lent ios dst σ K:=
 wcall h ha hr (.inl rfl) fun outs res ⟨h1,h2⟩=>by rw [h1,h2];exact hk
theorem AOpG_eq (C:Ctx) (ops:Array Oper) (o:Oper) (σ:St) (K:St->Prop):AOpG C ops o σ K↔(match o.guard with
 | none=>AOp C o σ K
 | some (j,want)=>(match (ops[j]?).bind (·.dst) with
  | some t=>(match σ.env t with
   | .d (.v (.bool b))=>if b=want then AOp C o σ K else K (σ.set o.dst (.tu []))
   | .tu []=>K (σ.set o.dst (.tu []))
   | _=>False)
  | none=>False)):=by
 unfold AOpG
 rcases o.guard with _ | ⟨j,want⟩
 ·exact Iff.rfl
 ·simp only
  rcases (ops[j]?).bind (·.dst) with _ | t
  ·exact Iff.rfl
  ·simp only
   generalize σ.env t=f
   split
   ·rename_i b
    by_cases h:b=want <;> simp [h]
   ·exact Iff.rfl
   ·rename_i h h'
    split
    ·exact absurd rfl (h _)
    ·exact absurd rfl h'
    ·exact Iff.rfl
theorem takeCells_self (k n:Nat) (cs:List D):takeCells k n n cs=cs:=if_pos rfl
attribute [simp] fbB frzB okAtom pickF
attribute [simp ↓] AFb AFz AFrz AFrS ASlice ACut
attribute [simp] leafFs shiftInt fieldV
attribute [simp ↓] AOps AOpG_eq AOp silK ABuiltin ARun ARunL callTo_eq AAlloc ABox ABuildSlice AMake AMapUpd ARange ANext AAppend ACopy ADelete AStore ANil
attribute [simp] sil silCall isNilC opv constFV aget norm normWith names addNames watchers ofL_nil ofL_cons upd_at St.set FV.roots FV.rootsL FV.ren FV.renL ofRO_nil ofRO_cons lenF binF binInt bitsV
attribute [simp] indexF tsize addOff loadF pickL isAggK renR AEx.seq AEx.block cellFV argL watchL wFV ofR_nil ofR_cons endQ endK resVals FV.whole D.leaf exportN exportD pend unpend atomsL FV.atoms groupR noShR noShL noSh Value.oneCell'
attribute [simp] St.kOf St.nOf St.obj look St.storeL St.store1 St.absorb St.put putAt D.cells? D.setCells D.quiet FV.isLeaf root_env root_rts getElem_ints length_ints leafL_ints noShL_ints shareL_ints ints_set ints_append ints_take ints_drop
attribute [simp] wk1 wkAll isNil0
attribute [simp] nilIs fieldOff fieldPl sliceF boundsF isZero buildF fillF setAtoms mapIdx2 keyInts appSrc appNew takeCells_self St.take St.kill St.killBelow FV.under FV.underL FV.deep FV.deepL belowB isPre stripP Mv.place FV.move FV.moveL
attribute [simp] Back passL viewFV viewL ioAtom ioL ioFV putOuts unpackD unpackL unpackR resFV share shareL leafL solidL D.solid FV.rootIs St.dropIt St.setIt FV.notIt FV.hasIt FV.hasItL zerosD goneL
end Go.Proofs.YtbhkonnakkhibaaGreat.Ab
namespace Go.Proofs.YtbhkonnakkhibaaGreat.Ab
open Go
set_option linter.unusedSectionVars false
def AOpsI (C:Ctx) (ops:Array Oper):List Nat->St->(St->Prop)->Prop
 | [],σ,K=>K σ
 | i :: r,σ,K=>match ops[i]? with
  | some o=>AOpG C ops o σ fun σ'=>AOpsI C ops r σ' K
  | none=>False
attribute [simp ↓] AOpsI
theorem AOpsI_append (C:Ctx) (ops:Array Oper) (K:St->Prop):∀ (is js:List Nat) (σ:St),AOpsI C ops (is ++ js) σ K=AOpsI C ops is σ fun σ'=>AOpsI C ops js σ' K
 | [],js,σ=>rfl
 | i :: is,js,σ=>by
  simp only [List.cons_append,AOpsI]
  have:(fun σ'=>AOpsI C ops (is ++ js) σ' K)=fun σ'=>AOpsI C ops is σ' fun σ''=>AOpsI C ops js σ'' K:=funext fun σ'=>AOpsI_append C ops K is js σ'
  rw [this]
theorem AOpsI_range (C:Ctx) (ops:Array Oper) (K:St->Prop):∀ (m i:Nat) (σ:St),i+m=ops.size->AOpsI C ops (List.range' i m) σ K=AOps C ops (ops.toList.drop i) σ K
 | 0,i,σ,h=>by
  rw [List.drop_of_length_le (by simp;omega)]
  rfl
 | m+1,i,σ,h=>by
  have hi:i < ops.toList.length:=by simp;omega
  rw [List.drop_eq_getElem_cons hi,List.range'_succ]
  have:(fun σ'=>AOpsI C ops (List.range' (i+1) m) σ' K)=fun σ'=>AOps C ops (ops.toList.drop (i+1)) σ' K:=funext fun σ'=>AOpsI_range C ops K m (i+1) σ' (by omega)
  have e:ops[i]? = some ops.toList[i]:=by
   rw [Array.getElem?_eq_getElem (by omega)]
   simp
  show (match ops[i]? with
   | some o=>AOpG C ops o σ fun σ'=>AOpsI C ops (List.range' (i+1) m) σ' K
   | none=>False)=_
  rw [e,this]
  rfl
theorem opsI_seg {C:Ctx} {ops:Array Oper} {is js:List Nat} {σ:St} {K:St->Prop} (h:∀ K1:St->Prop,(∀ σ',AOpsI C ops js σ' K->K1 σ')->AOpsI C ops is σ K1):AOpsI C ops (is ++ js) σ K:=by
 rw [AOpsI_append]
 exact h _ fun _ h=>h
theorem opsI_end {C:Ctx} {ops:Array Oper} {is:List Nat} {σ:St} {K:St->Prop} (h:∀ K1:St->Prop,(∀ σ',K σ'->K1 σ')->AOpsI C ops is σ K1):AOpsI C ops is σ K:=h _ fun _ h=>h
def chainP:List (Bool×Nat)->Plan->Plan
 | [],p=>p
 | (true,i) :: r,p=>.take i (chainP r p)
 | (false,i) :: r,p=>.all [(i,chainP r p)]
theorem ARun_chain (C:Ctx) (ops:Array Oper) (p:Plan) (K:St->Prop):∀ (l:List (Bool×Nat)) (σ:St),ARun C ops (chainP l p) σ K=AOpsI C ops (l.map (·.2)) σ fun σ'=>ARun C ops p σ' K
 | [],σ=>rfl
 | (true,i) :: l,σ=>by
  simp only [chainP,ARun,List.map_cons,AOpsI]
  have:(fun σ'=>ARun C ops (chainP l p) σ' K)=fun σ'=>AOpsI C ops (l.map (·.2)) σ' fun σ''=>ARun C ops p σ'' K:=funext fun σ'=>ARun_chain C ops p K l σ'
  rw [this]
  rfl
 | (false,i) :: l,σ=>by
  simp only [chainP,ARun,ARunL,List.map_cons,AOpsI]
  have:(fun σ'=>ARun C ops (chainP l p) σ' K)=fun σ'=>AOpsI C ops (l.map (·.2)) σ' fun σ''=>ARun C ops p σ'' K:=funext fun σ'=>ARun_chain C ops p K l σ'
  rw [this,and_true]
  rfl
section
variable {C:Ctx} {i:Nat} {Q:AEx->St->Prop} {σ:St}
theorem wregI {id:Nat} {ops:Array Oper} (is:List Nat) (he:is=List.range' 0 ops.size) (h:∀ K:St->Prop,(∀ σ',Q .normal σ'->K σ')->AOpsI C ops is σ (fun σ'=>K (norm C (aget [] C.kp id) σ'))):AWp C (.region id ops false) i Q σ:=
 wreg fun K hK=>by
  have:=h K hK
  rw [he,AOpsI_range _ _ _ _ _ _ (by omega)] at this
  exact this
theorem wdrawI {id:Nat} {ops:Array Oper} (l:List (Bool×Nat)) (hp:(chainP l .done).ok C ops) (is:List Nat) (he:is=l.map (·.2)) (h:∀ K:St->Prop,(∀ σ',Q .normal σ'->K σ')->AOpsI C ops is σ (fun σ'=>K (norm C (aget [] C.kp id) σ'))):AWp C (.region id ops true) i Q σ:=
 wdraw (chainP l .done) hp fun K hK=>by
  rw [ARun_chain,← he]
  exact h K hK
end
theorem wcondJ {C:Ctx} {i:Nat} {Q:AEx->St->Prop} {σ:St} {c:Operand} {a b:Code} (P:St->Prop) (t:Bool) (hc:opv σ c = .d (.v (.bool t))) (tail:∀ σ',P σ'->Q .normal σ')
  (h1:t=true->∀ Q':AEx->St->Prop,(∀ σ',P σ'->Q' .normal σ')->AWp C a i Q' σ) (h2:t=false->∀ Q':AEx->St->Prop,(∀ σ',P σ'->Q' .normal σ')->AWp C b i Q' σ):AWp C (.cond c a b) i Q σ:=
 ⟨t,hc,fun h=>h1 h Q tail,fun h=>h2 h Q tail⟩
def WkD (a b:D):Prop:=a=b\/(isNil0 a=true/\∃ k,b = .ow k 0 [])
def WkL:List D->List D->Prop
 | [],[]=>True
 | a :: l,b :: r=>WkD a b/\WkL l r
 | _,_=>False
def WkR:RV->RV->Prop
 | .one a,.one b=>WkD a b
 | .ag a,.ag b=>WkL a b
 | _,_=>False
def WkRs:List RV->List RV->Prop
 | [],[]=>True
 | a :: l,b :: r=>WkR a b/\WkRs l r
 | _,_=>False
section
variable {w:World} {ok:Nat->Prop}
theorem WkD.ow {a b:D} (h:WkD a b) {u:Value} {fp:List Nat} (ha:Ow w ok a u fp):Ow w ok b u fp:=by
 rcases h with rfl | ⟨h1,k,rfl⟩
 ·exact ha
 ·have hv:=isNil0_val h1 ha
  have hf:fp=[]:=by
   unfold isNil0 at h1
   split at h1
   ·simp only [Ow] at ha;exact ha.1
   ·simp only [Ow] at ha;exact ha.1
   ·simp at h1
  subst hf
  exact ow_empty k hv
theorem WkL.ow:∀ {a b:List D},WkL a b->∀ {us:List Value} {fp:List Nat},OwVs w ok a us fp->OwVs w ok b us fp
 | [],[],_,us,fp,h=>h
 | a :: l,b :: r,h,us,fp,ha=>by
  obtain ⟨u,us',f1,f2,e1,e2,h1,h2⟩:=ha
  exact ⟨u,us',f1,f2,e1,e2,h.1.ow h1,WkL.ow h.2 h2⟩
 | [],b :: r,h,_,_,_=>h.elim
 | a :: l,[],h,_,_,_=>h.elim
theorem WkR.ow:∀ {a b:RV},WkR a b->∀ {u:Value} {fp:List Nat},OwRV w ok a u fp->OwRV w ok b u fp
 | .one a,.one b,h,u,fp,ha=>WkD.ow h ha
 | .ag a,.ag b,h,u,fp,ha=>by
  obtain ⟨vs,e,h1⟩:=ha
  exact ⟨vs,e,WkL.ow h h1⟩
 | .one a,.ag b,h,_,_,_=>h.elim
 | .ag a,.one b,h,_,_,_=>h.elim
theorem WkRs.ow:∀ {a b:List RV},WkRs a b->∀ {us:List Value} {fp:List Nat},OwRs w ok a us fp->OwRs w ok b us fp
 | [],[],_,us,fp,h=>h
 | a :: l,b :: r,h,us,fp,ha=>by
  obtain ⟨u,us',f1,f2,e1,e2,h1,h2⟩:=ha
  exact ⟨u,us',f1,f2,e1,e2,WkR.ow h.1 h1,WkRs.ow h.2 h2⟩
 | [],b :: r,h,_,_,_=>h.elim
 | a :: l,[],h,_,_,_=>h.elim
end
theorem ACalls.weak {P:Program} {f:Nat} {args:List FV} {ros:List (Rn×D)} {pure:Bool} {Q Q':List D->List RV->Prop} (h:ACalls P f args ros pure Q) (hq:∀ outs res,Q outs res->∃ res',WkRs res res'/\Q' outs res'):ACalls P f args ros pure Q':=by
 refine ⟨h.1,fun w fp0 ok vs ρ φ hl hr=>(h.2 w fp0 ok vs ρ φ hl hr).mono ?_⟩
 rintro e w' ⟨v,outs,res,ok',φ',fr,he,hQ,hd⟩
 obtain ⟨res',h1,h2⟩:=hq outs res hQ
 obtain ⟨vs',e1,e2⟩:=hd.res
 exact ⟨v,outs,res',ok',φ',fr,he,h2,⟨hd.len,hd.out,hd.dis,⟨vs',e1,h1.ow e2⟩,hd.nod,hd.bl,hd.disr,hd.frm,hd.okm,hd.okn⟩⟩
theorem ACalls.weak1 {P:Program} {f:Nat} {args:List FV} {ros:List (Rn×D)} {pure:Bool} {os:List D} {rs:List RV} (h:ACalls P f args ros pure fun outs res=>outs=os/\WkRs res rs):ACalls P f args ros pure fun outs res=>outs=os/\res=rs:=
 h.weak fun outs res ⟨h1,h2⟩=>⟨rs,h2,h1,rfl⟩
attribute [simp] WkRs WkR WkL WkD isNil0
theorem nd_t {p:Prop} [Decidable p] (h:(!decide p)=true):¬ p:=by simpa using h
theorem nd_f {p:Prop} [Decidable p] (h:(!decide p)=false):p:=by simpa using h
theorem d_t {p:Prop} [Decidable p] (h:decide p=true):p:=by simpa using h
theorem d_f {p:Prop} [Decidable p] (h:decide p=false):¬ p:=by simpa using h
theorem ibeq (a b:Int):(a == b)=decide (a=b):=by
 by_cases h:a=b <;> simp [h]
theorem ibne (a b:Int):(a != b) = !decide (a=b):=by
 by_cases h:a=b <;> simp [h]
theorem wrap_nat {j:Nat} (h:j < 4611686018427387904):IntKind.i64.wrap (j:Int)=(j:Int):=wrapOk (by omega) (by omega)
section
variable {w:World} {ok:Nat->Prop} {σ:St} {ρ:Rn->Value}
end
end Go.Proofs.YtbhkonnakkhibaaGreat.Ab
namespace Go.Proofs.YtbhkonnakkhibaaGreat.Ab
open Go
set_option linter.unusedSectionVars false
structure Trm where
 e:List Int
 c:Int
deriving DecidableEq
structure Lau where
 v:Int
 ts:List Trm
deriving DecidableEq
structure Mat where
 n:Int
 r:Int
 d:List Int
deriving DecidableEq
structure Sed where
 m:Mat
 f:List Lau
deriving DecidableEq
structure Ses where
 a:Mat
 k:List Int
 s:Sed
deriving DecidableEq
abbrev shI (l:List Int):D:=.sh 1 l.length (ints l)
abbrev owI (l:List Int):D:=.ow 1 l.length (ints l)
def tS (t:Trm):List D:=[shI t.e,D.int t.c]
def tO (t:Trm):List D:=[owI t.e,D.int t.c]
def fS (f:Lau):List D:=[D.int f.v,.sh 2 f.ts.length (rows tS f.ts)]
def fO (f:Lau):List D:=[D.int f.v,.ow 2 f.ts.length (rows tO f.ts)]
def mO (m:Mat):List D:=[D.int m.n,D.int m.r,owI m.d]
def sS (s:Sed):List D:=[D.int s.m.n,D.int s.m.r,shI s.m.d,.sh 2 s.f.length (rows fS s.f)]
def sO (s:Sed):List D:=[D.int s.m.n,D.int s.m.r,owI s.m.d,.ow 2 s.f.length (rows fO s.f)]
theorem tS_two (t:Trm):(tS t).length=2:=rfl
theorem tO_two (t:Trm):(tO t).length=2:=rfl
theorem fS_two (t:Lau):(fS t).length=2:=rfl
theorem fO_two (t:Lau):(fO t).length=2:=rfl
@[simp] theorem tS_length (l:List Trm):(rows tS l).length=2*l.length:=rows_length tS_two l
@[simp] theorem tO_length (l:List Trm):(rows tO l).length=2*l.length:=rows_length tO_two l
@[simp] theorem fS_length (l:List Lau):(rows fS l).length=2*l.length:=rows_length fS_two l
@[simp] theorem fO_length (l:List Lau):(rows fO l).length=2*l.length:=rows_length fO_two l
@[simp] theorem tS_share (l:List Trm):shareL (rows tO l)=rows tS l:=by
 rw [rows_share]
 congr 1
 funext t
 simp [tO,tS,shareL,share,shareL_ints]
@[simp] theorem fS_share (l:List Lau):shareL (rows fO l)=rows fS l:=by
 rw [rows_share]
 congr 1
 funext t
 simp [fO,fS,shareL,share]
@[simp] theorem tO_noSh (l:List Trm):noShL (rows tO l):=rows_noSh (fun t=>by simp [tO,noShL,noSh,noShL_ints]) l
@[simp] theorem fO_noSh (l:List Lau):noShL (rows fO l):=rows_noSh (fun t=>by simp [fO,noShL,noSh]) l
theorem twice {α:Type} {l:List α} {i:Nat} {x:α} (h:l[i]? = some x):l[i]? = some x/\∀ h':i < l.length,l[i]'h'=x:=
 ⟨h,fun h'=>by rw [List.getElem?_eq_getElem h'] at h;injection h⟩
section
variable {l:List Trm} {g:List Lau} {i:Nat}
theorem tS_0 (h:i < l.length):(rows tS l)[2*i]? = some (shI l[i].e)/\∀ h',(rows tS l)[2*i]'h'=shI l[i].e:=twice (rows_get tS_two l i 0 h (by omega))
theorem tS_1 (h:i < l.length):(rows tS l)[2*i+1]? = some (D.int l[i].c)/\∀ h',(rows tS l)[2*i+1]'h'=D.int l[i].c:=twice (rows_get tS_two l i 1 h (by omega))
theorem fS_0 (h:i < g.length):(rows fS g)[2*i]? = some (D.int g[i].v)/\∀ h',(rows fS g)[2*i]'h'=D.int g[i].v:=twice (rows_get fS_two g i 0 h (by omega))
theorem fS_1 (h:i < g.length):(rows fS g)[2*i+1]? = some (.sh 2 g[i].ts.length (rows tS g[i].ts))/\∀ h',(rows fS g)[2*i+1]'h' = .sh 2 g[i].ts.length (rows tS g[i].ts):=twice (rows_get fS_two g i 1 h (by omega))
theorem fO_0 (h:i < g.length):(rows fO g)[2*i]? = some (D.int g[i].v)/\∀ h',(rows fO g)[2*i]'h'=D.int g[i].v:=twice (rows_get fO_two g i 0 h (by omega))
theorem fO_1 (h:i < g.length):(rows fO g)[2*i+1]? = some (.ow 2 g[i].ts.length (rows tO g[i].ts))/\∀ h',(rows fO g)[2*i+1]'h' = .ow 2 g[i].ts.length (rows tO g[i].ts):=twice (rows_get fO_two g i 1 h (by omega))
end
theorem modify_const {α:Type} (l:List α) (i:Nat) (e:α):l.modify i (fun _=>e)=l.set i e:=by
 apply List.ext_getElem?
 intro j
 rw [List.getElem?_modify,List.getElem?_set]
 split
 ·rename_i h
  subst h
  split
  ·rename_i h
   rw [List.getElem?_eq_getElem h]
   rfl
  ·rename_i h
   rw [List.getElem?_eq_none (by omega)]
   rfl
 ·simp
def marks (k:Int) (n:Nat):List Int:=(List.range n).map fun (i:Nat)=>k+(i:Int)
@[simp] theorem marks_length (k:Int) (n:Nat):(marks k n).length=n:=by simp [marks]
section
variable {α:Type} (cnt:α->Nat) (mk:α->Int->α)
def cntL:List α->Nat
 | []=>0
 | x :: xs=>cnt x+cntL xs
def mkL:List α->Int->List α
 | [],_=>[]
 | x :: xs,k=>mk x k :: mkL xs (k+cnt x)
@[simp] theorem mkL_length:∀ (l:List α) (k:Int),(mkL cnt mk l k).length=l.length
 | [],k=>rfl
 | x :: xs,k=>by simp [mkL,mkL_length xs]
end
def cntT (t:Trm):Nat:=t.e.length+1
def tZ:Option Trm->List D
 | none=>[.v (.slice none 0 0),D.int 0]
 | some t=>tO t
theorem tZ_two (t:Option Trm):(tZ t).length=2:=by cases t <;> rfl
@[simp] theorem tZ_length (l:List (Option Trm)):(rows tZ l).length=2*l.length:=rows_length tZ_two l
theorem rows_set2 {α:Type} {f:α->List D} (hk:∀ x,(f x).length=2) (xs:List α) (i:Nat) (d0 d1:D) (y:α) (h:i < xs.length) (e:f y=[d0,d1]):((rows f xs).set (2*i) d0).set (2*i+1) d1=rows f (xs.set i y):=by
 induction xs generalizing i with
 | nil=>simp at h
 | cons x xs ih=>
  cases i with
  | zero=>
   have hx:=hk x
   match hfx:f x,hx with
   | [a,b],_=>simp [rows,hfx,e]
  | succ i=>
   have hx:=hk x
   simp only [rows,List.set_cons_succ]
   rw [List.set_append_right _ _ (by rw [hx];omega),List.set_append_right _ _ (by rw [hx];omega),hx,show 2*(i+1) - 2=2*i by omega,show 2*(i+1)+1 - 2=2*i+1 by omega,ih i (by simpa using h)]
theorem fO_set2 {l:List Lau} {i n:Nat} (h:i < l.length) (v:Int) (t:List Trm) (hn:t.length=n):((rows fO l).set (2*i) (.v (.int .i64 v))).set (2*i+1) (.ow 2 n (rows tO t))=rows fO (l.set i ⟨v,t⟩):=
 rows_set2 fO_two l i _ _ _ h (by subst hn;rfl)
theorem tO_snoc (l:List Trm) (t:Trm):rows tO l ++ [D.ow 1 t.e.length (ints t.e),D.v (.int .i64 t.c)]=rows tO (l ++ [t]):=by
 rw [rows_append]
 rfl
end Go.Proofs.YtbhkonnakkhibaaGreat.Ab
namespace Go.Proofs.YtbhkonnakkhibaaGreat.Ab
open Go Go.ChangeShapes Go.WideShapes Go.ChangeAt Go.RowKit
structure Old (w w':World):Prop where
 os:w'.os=w.os
 out:w'.output=w.output
 size:w.heap.size<=w'.heap.size
 blk:∀ b,b < w.heap.size->w'.heap[b]? = w.heap[b]?
theorem Old.kept {w w':World} (h:Old w w') (may:MemPlace->Prop):w.keptBut w' may:=by
 refine ⟨h.os,h.out,fun i hi=>?_⟩
 rw [h.blk i hi]
 cases hh:w.heap[i]? with
 | none=>rfl
 | some o=>
  cases o with
  | cells c t fr=>exact ⟨rfl,rfl,rfl,fun _ _=>rfl⟩
  | map es cl=>exact .inr ⟨rfl,rfl⟩
  | _=>rfl
theorem Old.froz {w w':World} (h:Old w w') (a:Addr) (ha:a.block < w.heap.size):w'.frozen? a=w.frozen? a:=by
 unfold World.frozen?
 rw [h.blk a.block ha]
variable {H:Type} {enc:TypeId×Value->H} {P:Program}
theorem post_of_old {f:Func} {s:ChangeSpec} {apart fresh handsOn again:Bool} {W W':World} {args:Array Value} {v:Value} {ds gs:List (DataW H)} {before pa pv:List MemPlace}
  (hW:DataW.Whole enc P f.params.toList s.vars apart W args.toList ds gs before)
  (hres:∀ (b:Nat) (sp:Nat->Bool) (hd:Bool),DataW.TrodAll enc P W' b sp hd f.resultTypes.toList (v.resultList f.resultTypes.size) (s.fn H (ds ++ gs)).results [])
  (hargs:∀ sp:Nat->Bool,(∀ p∈before,sp p.block=true)->DataW.TrodAll enc P W' 0 sp true f.params.toList args.toList (s.fn H (ds ++ gs)).args pa)
  (hvars:∀ sp:Nat->Bool,(∀ p∈before,sp p.block=true)->DataW.TrodVars enc P W' sp s.vars (s.fn H (ds ++ gs)).vars pv)
  (hps:before=pa ++ pv) (ho:Old W W')
  (hok:∀ (j:Nat) (t:TypeId) (r:Value),f.resultTypes[j]? = some t->(v.resultList f.resultTypes.size)[j]? = some r->Value.okWide P W' .any 0 t r) :
  s.post enc P f apart fresh handsOn again W args v W':=by
 have hlt:∀ p∈before,p.block < W.heap.size:=fun p hp=>hW.lt p hp
 have hsp:∀ p∈before,(fun b=>decide (b < W.heap.size)) p.block=true:=fun p hp=>decide_eq_true (hlt p hp)
 have hall:∀ p∈before,(fun _:Nat=>true) p.block=true:=fun _ _=>rfl
 have happ:[] ++ pa ++ pv=before:=by rw [hps];rfl
 refine ⟨ds,gs,before,[],pa,pv,hW,hres _ _ _,hargs _ hsp,hvars _ hsp,ho.kept _,fun _=>⟨hok,_,_,[] ++ pa ++ pv,⟨[] ++ pa,pv,trodAll_append (hargs _ hall) (hres _ _ _),hvars _ hall,rfl,?_,?_⟩,?_⟩⟩
 ·obtain ⟨_,_,_,_,_,hz,hn⟩:=hW
  intro b off hp
  rw [happ] at hp
  rw [ho.froz _ (hlt _ hp)]
  exact hz b off hp
 ·obtain ⟨_,_,_,_,_,hz,hn⟩:=hW
  intro ha
  rw [happ]
  exact hn ha
 ·intro p hp _
  rw [happ] at hp
  exact hp
end Go.Proofs.YtbhkonnakkhibaaGreat.Ab
namespace Go.Proofs.YtbhkonnakkhibaaGreat.Ab
open Go Go.ChangeShapes Go.WideShapes Go.ChangeAt Go.RowKit
set_option linter.unusedSectionVars false
def oldOk (W:World):Nat->Prop:=fun b=>b < W.heap.size
theorem old_of_cell {W:World} {a:Addr} {v:Value} (h:W.cell? a=some v):oldOk W a.block:=by
 unfold World.cell? at h
 split at h
 ·rename_i hh
  unfold oldOk
  rcases Nat.lt_or_ge a.block W.heap.size with h1 | h1
  ·exact h1
  ·rw [Array.getElem?_eq_none (by omega)] at hh;simp at hh
 ·simp at h
theorem ShV_ShL {w:World} {ok:Nat->Prop} {b:Nat}:∀ {ds:List D} {us:List Value} {o:Nat},ShV w ok ds us->(∀ (j:Nat) (v:Value),us[j]? = some v->w.cell? ⟨b,o+j,none⟩ = some v)->ShL w ok b ds o
 | [],us,o,h,_=>by simp [ShL]
 | d :: ds,us,o,h,hc=>by
  simp only [ShV] at h
  obtain ⟨u,us',rfl,h1,h2⟩:=h
  simp only [ShL]
  refine ⟨⟨u,by simpa using hc 0 u rfl,h1⟩,ShV_ShL h2 fun j v hj=>?_⟩
  have:=hc (j+1) v (by simpa using hj)
  rwa [show o+1+j=o+(j+1) by omega]
theorem ShL_cat {w:World} {ok:Nat->Prop} {b:Nat}:∀ {ds es:List D} {o:Nat},ShL w ok b ds o->ShL w ok b es (o+ds.length)->ShL w ok b (ds ++ es) o
 | [],es,o,_,k=>by simpa using k
 | d :: ds,es,o,h,k=>by
  simp only [ShL] at h
  simp only [List.cons_append,ShL]
  refine ⟨h.1,ShL_cat h.2 ?_⟩
  simp only [List.length_cons] at k
  rwa [show o+1+ds.length=o+(ds.length+1) by omega]
theorem rows_ShL {w:World} {ok:Nat->Prop} {b k:Nat} {α:Type} {f:α->List D} (hk:∀ x,(f x).length=k):∀ (l:List α) (o:Nat),(∀ i (h:i < l.length),ShL w ok b (f l[i]) (o+i*k))->ShL w ok b (rows f l) o
 | [],o,_=>by simp [rows,ShL]
 | x :: l,o,h=>by
  simp only [rows]
  refine ShL_cat (by have:=h 0 (by simp);simp only [List.getElem_cons_zero,Nat.zero_mul,Nat.add_zero] at this;exact this) ?_
  rw [hk]
  refine rows_ShL hk l (o+k) fun i hi=>?_
  have:=h (i+1) (by simpa using hi)
  simp only [List.getElem_cons_succ] at this
  rwa [show o+k+i*k=o+(i+1)*k by rw [Nat.add_mul,Nat.one_mul];omega]
section
variable {H:Type} {enc:TypeId×Value->H} {P:Program} {W:World}
structure Opens (enc:TypeId×Value->H) (P:Program) (W:World) (t k:Nat) (α:Type) (f:α->List D) (G:α->Prop):Prop where
 cells:P.cellsOf t=k
 len:∀ a,(f a).length=k
 op:∀ (fuel:Nat) (cs:List Value) (x:DataW H×List MemPlace),DataW.trod enc P W 0 (fun _=>true) true fuel t cs=some x->(∀ n∈x.1.weights P t,n<=reachBytes)->∃ a:α,G a/\ShV W (oldOk W) (f a) cs
theorem Opens.to {t k:Nat} {α β:Type} {f:α->List D} {G:α->Prop} (h:Opens enc P W t k α f G) (g:α->β) {f':β->List D} {G':β->Prop} (hf:∀ a,f' (g a)=f a) (hl:∀ b,(f' b).length=k) (hG:∀ a,G a->G' (g a)):Opens enc P W t k β f' G':=
 ⟨h.cells,hl,fun fuel cs x hx hw=>by
  obtain ⟨a,h1,h2⟩:=h.op fuel cs x hx hw
  exact ⟨g a,hG a h1,by rw [hf];exact h2⟩⟩
theorem Opens.byte {t:Nat} (ht:P.underlying t=some (.int .u8)) (hc:P.cellsOf t=1):Opens enc P W t 1 Int (fun n=>[.v (.int .u8 n)]) (fun n=>0<=n/\n<=255):=
 ⟨hc,fun _=>rfl,fun fuel cs x hx _=>by
  obtain ⟨n,rfl,rfl,hw⟩:=DataW.trod_int ht hx
  exact ⟨n,bounds_u8 hw,by simp [ShV,Sh]⟩⟩
theorem mem_weightsAll {e:Nat}:∀ {l:List (DataW H)} {d:DataW H},d∈l->∀ n∈d.weights P e,n∈DataW.weightsAll P e l
 | x :: l,d,hd,n,hn=>by
  simp only [DataW.weightsAll,List.mem_append]
  rcases List.mem_cons.1 hd with rfl | hd
  ·exact .inl hn
  ·exact .inr (mem_weightsAll hd n hn)
theorem cells_get {a:Addr} {k:Nat} {cs:List Value} (h:W.cells? 0 a k=some cs):cs.length=k/\∀ (j:Nat) (v:Value),cs[j]? = some v->W.cell? (a.add j)=some v:=by
 unfold World.cells? at h
 rw [if_pos (Nat.zero_le _)] at h
 have hl:=mapM_some_length h
 simp only [List.length_range] at hl
 refine ⟨hl,fun j v hj=>?_⟩
 have hj2:j < k:=by
  rw [← hl]
  rcases Nat.lt_or_ge j cs.length with h1 | h1
  ·exact h1
  ·rw [List.getElem?_eq_none h1] at hj;simp at hj
 have:=mapM_some_get h j j (by simp [hj2])
 rw [this,hj]
theorem Opens.slice {t e k bs:Nat} {α:Type} {f:α->List D} {G:α->Prop} (h:Opens enc P W e k α f G) (hk0:0 < k) (ht:P.underlying t=some (.slice e)) (hc:P.cellsOf t=1) (hb:P.bytesOf e=bs) :
  Opens enc P W t 1 (List α) (fun l=>[.sh k l.length (rows f l)]) (fun l=>(∀ x∈l,G x)/\l.length*bs<=140737488351232):=
 ⟨hc,fun _=>rfl,fun fuel cs x hx hw=>by
  rcases DataW.trod_slice ht hx with ⟨rfl,rfl⟩ | ⟨a,len,cap,elems,rest,n,rfl,rfl,rfl,hb0,hlc,hcm,hel,hget,_,_⟩
  ·exact ⟨[],by simp,by simp [ShV,Sh,rows]⟩
  ·have hwt:(elems.length+rest.length)*bs<=140737488351232:=by
    have:=hw ((elems.length+rest.length)*bs) (by simp [DataW.weights,ht,hb])
    simpa [reachBytes] using this
   have hwe:∀ y∈elems,∀ n∈y.1.weights P e,n<=reachBytes:=fun y hy n hn=>by
    refine hw n ?_
    simp only [DataW.weights,ht,List.mem_cons,List.mem_append]
    exact .inr (.inl (mem_weightsAll (List.mem_map.2 ⟨y,hy,rfl⟩) n hn))
   have key:∀ i:Fin len,∃ y:α,G y/\∃ cs,W.cells? 0 (a.add (i.1*k)) k=some cs/\ShV W (oldOk W) (f y) cs:=fun i=>by
    have h1:=hget i.1 i.2
    rw [h.cells] at h1
    have h2:i.1 < elems.length:=by rw [hel];exact i.2
    rw [List.getElem?_eq_getElem h2,Option.bind_eq_some_iff] at h1
    obtain ⟨cs,h3,h4⟩:=h1
    obtain ⟨y,h5,h6⟩:=h.op n cs _ h4 (hwe _ (List.getElem_mem h2))
    exact ⟨y,h5,cs,h3,h6⟩
   let l:List α:=List.ofFn fun i:Fin len=>Classical.choose (key i)
   have hll:l.length=len:=by simp [l]
   have hlg:∀ i (hi:i < l.length),G l[i]/\∃ cs,W.cells? 0 (a.add (i*k)) k=some cs/\ShV W (oldOk W) (f l[i]) cs:=fun i hi=>by
    have:=Classical.choose_spec (key ⟨i,by omega⟩)
    simpa [l] using this
   refine ⟨l,⟨fun x hx=>?_,?_⟩,?_⟩
   ·obtain ⟨i,hi,rfl⟩:=List.getElem_of_mem hx
    exact (hlg i hi).1
   ·rw [hll]
    rw [hel] at hwt
    exact Nat.le_trans (Nat.mul_le_mul_right _ (by omega)) hwt
   ·simp only [ShV,Sh]
    refine ⟨_,[],rfl,⟨some a,cap,by rw [hll],by omega,rows_length h.len l,?_⟩,rfl⟩
    rcases Nat.eq_zero_or_pos l.length with hz | hp
    ·left
     rw [List.eq_nil_of_length_eq_zero hz]
     rfl
    ·right
     obtain ⟨_,cs0,hc0,_⟩:=hlg 0 hp
     obtain ⟨hl0,hg0⟩:=cells_get hc0
     have h00:cs0[0]? = some (cs0[0]'(by omega)):=List.getElem?_eq_getElem _
     have hfirst:=hg0 0 _ h00
     have hspot:a.spot=none:=by
      have:=World.cell?_spot hfirst
      simpa [Addr.add] using this
     have hold:=old_of_cell hfirst
     obtain ⟨b,off,spot⟩:=a
     simp only at hspot
     subst hspot
     refine ⟨b,off,rfl,by simpa [Addr.add] using hold,rows_ShL h.len l off fun i hi=>?_⟩
     obtain ⟨_,csi,hci,hsi⟩:=hlg i hi
     refine ShV_ShL hsi fun j v hj=>?_
     have:=(cells_get hci).2 j v hj
     rwa [Go.WideShapes.add_plain,Go.WideShapes.add_plain] at this⟩
structure Arg (enc:TypeId×Value->H) (P:Program) (W:World) (t:Nat) (α:Type) (F:α->FV) (G:α->Prop):Prop where
 rec_:P.readableRec t=true
 row:t < P.types.size
 op:∀ (base:Nat) (v:Value) (d:DataW H) (p:List MemPlace),Value.okWide P W .any base t v->DataW.Trod enc P W 0 (fun _=>true) true t v d p->(∀ n∈d.weights P t,n<=reachBytes)->∃ a:α,G a/\∀ (σ:St) (ρ:Rn->Value),FR W (oldOk W) σ ρ (F a) v
def plainT (P:Program) (t:TypeId):Bool:=
 match P.underlying t with
 | some (.int _)=>true
 | some .bool=>true
 | some .string=>true
 | some (.slice _)=>true
 | _=>false
theorem plain_cells {t:TypeId} {base:Nat} {v:Value} (h:plainT P t=true) (hv:Value.okWide P W .any base t v):v.cells = #[v]:=by
 unfold plainT at h
 unfold Value.okWide Cell.okWide Cell.ok at hv
 cases v <;> first | rfl | (split at h <;> simp_all)
theorem Arg.one {t:Nat} {α:Type} {f:α->D} {G:α->Prop} (h:Opens enc P W t 1 α (fun a=>[f a]) G) (hr:P.readableRec t=true) (hrow:t < P.types.size) (hp:plainT P t=true):Arg enc P W t α (fun a=>.d (f a)) G:=
 ⟨hr,hrow,fun base' v d p ho hd hw=>by
  obtain ⟨fuel,hx⟩:=hd
  obtain ⟨a,h1,h2⟩:=h.op fuel _ _ hx hw
  refine ⟨a,h1,fun σ ρ=>?_⟩
  rw [plain_cells hp ho] at h2
  simp only [ShV,List.cons.injEq] at h2
  obtain ⟨u,us,⟨rfl,rfl⟩,h3,_⟩:=h2
  simpa only [FR] using h3⟩
theorem lawW {f:Nat} {args:List FV} (h:ACalls P f args [] true (fun outs res=>outs=[]/\res=[.one (D.bool true)])) {vs:List Value} (hv:∀ (σ:St) (ρ:Rn->Value),FRL W (oldOk W) σ ρ args vs) :
  Calls P f vs.toArray W fun e w'=>e = .returned (.bool true)/\Below W.heap.size W w':=by
 have hlen:∀ {σ:St} {ρ:Rn->Value} {aas:List FV} {us:List Value},FRL W (oldOk W) σ ρ aas us->us.length=aas.length/\∀ t,FR W (oldOk W) σ ρ (argEnv aas t) (us.getD t undef):=by
  intro σ ρ aas
  induction aas with
  | nil=>
   intro us h
   simp only [FRL] at h
   subst h
   exact ⟨rfl,fun t=>by simp [argEnv,FR]⟩
  | cons a aas ih=>
   intro us h
   simp only [FRL] at h
   obtain ⟨u,vs,rfl,h1,h2⟩:=h
   obtain ⟨h3,h4⟩:=ih h2
   refine ⟨by simp [h3],fun t=>?_⟩
   cases t with
   | zero=>simpa [argEnv] using h1
   | succ t=>simpa [argEnv] using h4 t
 have:=h.2 W [] (oldOk W) vs (fun _=>undef) (fun _=>[]) (hlen (hv ⟨fun _=>.dead,fun _=>none⟩ (fun _=>undef))).1 ⟨fun r d hd=>by simp [ofR] at hd,fun r r' d d' _ hd=>by simp [ofR] at hd,(hlen (hv _ _)).2,fun b hb=>hb,Keeps.refl W []⟩
 refine Calls.mono this ?_
 rintro e w' ⟨v,outs,res,ok',φ',fr,rfl,⟨rfl,rfl⟩,hd⟩
 obtain ⟨vs,e1,e2⟩:=hd.res
 simp only [OwRs,OwRV,if_true] at e2
 obtain ⟨u,us,f1,f2,rfl,_,h1,h2,_⟩:=e2
 subst h2
 simp only [Ow] at h1
 refine ⟨?_,hd.frm.os,hd.frm.tape,hd.frm.out,hd.frm.size,fun b hb=>hd.frm.old b hb (by simp)⟩
 rw [e1,h1.2]
 rfl
theorem trodAll_stays (hl:laidOutB P=true) {W':World} (hb:Below W.heap.size W W') {sp:Nat->Bool}:∀ {ts:List TypeId} {vs:List Value} {ds:List (DataW H)} {p:List MemPlace},(∀ t∈ts,P.readableRec t=true/\t < P.types.size) ->
  DataW.TrodAll enc P W 0 (fun _=>true) true ts vs ds p->(∀ x∈p,x.block < W.heap.size)->(∀ x∈p,sp x.block=true)->DataW.TrodAll enc P W' 0 sp true ts vs ds p
 | [],[],[],p,_,h,_,_=>h
 | t :: ts,v :: vs,d :: ds,p,ht,h,h1,h2=>by
  obtain ⟨p1,p2,h3,h4,rfl⟩:=h
  have h5:=ht t (by simp)
  refine ⟨p1,p2,WideElems.Trod_stays hl h5.1 h5.2 h3 (fun x hx=>hb.same (h1 x (by simp [hx]))) (fun x hx=>h2 x (by simp [hx])),trodAll_stays hl hb (fun t ht'=>ht t (by simp [ht'])) h4 (fun x hx=>h1 x (by simp [hx])) (fun x hx=>h2 x (by simp [hx])),rfl⟩
 | [],_ :: _,_,_,_,h,_,_=>h.elim
 | [],[],_ :: _,_,_,h,_,_=>h.elim
 | _ :: _,[],_,_,_,h,_,_=>h.elim
 | _ :: _,_ :: _,[],_,_,h,_,_=>h.elim
theorem post_of_below (hl:laidOutB P=true) {f:Func} {s:ChangeSpec} {apart fresh handsOn again:Bool} {W':World} {args:Array Value} {ds gs:List (DataW H)} {before:List MemPlace}
  (hW:DataW.Whole enc P f.params.toList s.vars apart W args.toList ds gs before) (hv0:s.vars=[]) (hts:∀ t∈f.params.toList,P.readableRec t=true/\t < P.types.size)
  (hfn:s.fn H ds = { results:=[.lit (.bool true)],args:=ds }) {tb:TypeId} (hres:f.resultTypes = #[tb]) (htb:P.underlying tb=some .bool) (hb:Below W.heap.size W W') (hok:∀ W':World,Value.okWide P W' .any 0 tb (.bool true)) :
  s.post enc P f apart fresh handsOn again W args (.bool true) W':=by
 have hlt:∀ p∈before,p.block < W.heap.size:=fun p hp=>hW.lt p hp
 have hW0:=hW
 obtain ⟨p,q,hA,hV,rfl,hz,hn⟩:=hW
 rw [hv0] at hV
 obtain ⟨rfl,rfl⟩:=trodVars_none hV
 simp only [List.append_nil] at hlt hz hn
 have hfn2:s.fn H (ds ++ []) = { results:=[.lit (.bool true)],args:=ds }:=by rw [List.append_nil];exact hfn
 have hvar:∀ sp:Nat->Bool,DataW.TrodVars enc P W' sp s.vars [] []:=fun sp=>by rw [hv0];rfl
 have hr:∀ (b:Nat) (sp:Nat->Bool) (hd:Bool),DataW.TrodAll enc P W' b sp hd f.resultTypes.toList ((Value.bool true).resultList f.resultTypes.size) [.lit (.bool true)] []:=fun b sp hd=>by
  rw [hres]
  exact trodAll_cons_mk (p:=[]) (p':=[]) (shut_bool htb _) trodAll_mk0
 have ha:∀ sp:Nat->Bool,(∀ x∈p,sp x.block=true)->DataW.TrodAll enc P W' 0 sp true f.params.toList args.toList ds p:=fun sp hs=>trodAll_stays hl hb hts hA hlt hs
 exact post_of_old (pa:=p) (pv:=[]) hW0 (fun b sp hd=>by rw [hfn2];exact hr b sp hd) (fun sp hs=>by rw [hfn2];exact ha sp fun x hx=>hs x (by simp [hx])) (fun sp _=>by rw [hfn2];exact hvar sp) rfl ⟨hb.os,hb.output,hb.size,hb.block⟩ (ok_one hres rfl (hok W'))
end
end Go.Proofs.YtbhkonnakkhibaaGreat.Ab
namespace Go.Proofs.YtbhkonnakkhibaaGreat.Ab
open Go Go.ChangeShapes Go.WideShapes Go.ChangeAt Go.RowKit
set_option maxRecDepth 100000
section
variable {H:Type} {enc:TypeId×Value->H} {W:World}
theorem laidOut:laidOutB Tryz.prog=true:=by kernel_rfl
theorem okBool (W':World):Value.okWide Tryz.prog W' .any 0 4 (.bool true):=okWide_bool_mk Tryz.underlying4 _
end
end Go.Proofs.YtbhkonnakkhibaaGreat.Ab
namespace Go.Proofs.YtbhkonnakkhibaaGreat.Ab
open Go
def TTab:TT:=[
 (2,⟨.int .i64,1,8,[.int .i64 0]⟩),
 (3,⟨.int .i64,1,8,[.int .i64 0]⟩),
 (4,⟨.bool,1,1,[.bool false]⟩),
 (5,⟨.int .u8,1,1,[.int .u8 0]⟩),
 (6,⟨.int .u8,1,1,[.int .u8 0]⟩),
 (9,⟨.str,1,16,[.string .empty]⟩),
 (16,⟨.other,1,8,[.pointer none]⟩),
 (22,⟨.sl 3,1,24,[.slice none 0 0]⟩),
 (24,⟨.st [(0,3),(1,3),(2,22)],3,40,[.int .i64 0,.int .i64 0,.slice none 0 0]⟩),
 (26,⟨.sl 51,1,24,[.slice none 0 0]⟩),
 (29,⟨.st [(0,3),(1,3),(2,22)],3,40,[.int .i64 0,.int .i64 0,.slice none 0 0]⟩),
 (39,⟨.sl 5,1,24,[.slice none 0 0]⟩),
 (42,⟨.st [(0,29),(3,26)],4,64,[.int .i64 0,.int .i64 0,.slice none 0 0,.slice none 0 0]⟩),
 (49,⟨.sl 107,1,24,[.slice none 0 0]⟩),
 (51,⟨.st [(0,3),(1,49)],2,32,[.int .i64 0,.slice none 0 0]⟩),
 (57,⟨.sl 218,1,24,[.slice none 0 0]⟩),
 (59,⟨.st [(0,24),(3,57)],4,64,[.int .i64 0,.int .i64 0,.slice none 0 0,.slice none 0 0]⟩),
 (61,⟨.st [(0,24),(3,22),(4,59)],8,128,[.int .i64 0,.int .i64 0,.slice none 0 0,.slice none 0 0,.int .i64 0,.int .i64 0,.slice none 0 0,.slice none 0 0]⟩),
 (65,⟨.st [(0,29),(3,22),(4,42)],8,128,[.int .i64 0,.int .i64 0,.slice none 0 0,.slice none 0 0,.int .i64 0,.int .i64 0,.slice none 0 0,.slice none 0 0]⟩),
 (86,⟨.sl 29,1,24,[.slice none 0 0]⟩),
 (96,⟨.other,1,8,[.pointer none]⟩),
 (107,⟨.st [(0,22),(1,3)],2,32,[.slice none 0 0,.int .i64 0]⟩),
 (110,⟨.sl 22,1,24,[.slice none 0 0]⟩),
 (114,⟨.sl 165,1,24,[.slice none 0 0]⟩),
 (116,⟨.other,1,8,[.pointer none]⟩),
 (119,⟨.arr 8 3,8,64,[.int .i64 0,.int .i64 0,.int .i64 0,.int .i64 0,.int .i64 0,.int .i64 0,.int .i64 0,.int .i64 0]⟩),
 (129,⟨.sl 186,1,24,[.slice none 0 0]⟩),
 (131,⟨.st [(0,3),(1,129)],2,32,[.int .i64 0,.slice none 0 0]⟩),
 (136,⟨.sl 110,1,24,[.slice none 0 0]⟩),
 (154,⟨.arr 2 51,4,64,[.int .i64 0,.slice none 0 0,.int .i64 0,.slice none 0 0]⟩),
 (157,⟨.st [(0,39),(1,3),(2,3)],3,40,[.slice none 0 0,.int .i64 0,.int .i64 0]⟩),
 (165,⟨.st [(0,3),(1,3)],2,16,[.int .i64 0,.int .i64 0]⟩),
 (175,⟨.map 119 3,1,8,[.map none]⟩),
 (177,⟨.st [(0,3),(1,175)],2,16,[.int .i64 0,.map none]⟩),
 (186,⟨.st [(0,22),(1,3),(2,3)],3,40,[.slice none 0 0,.int .i64 0,.int .i64 0]⟩),
 (191,⟨.other,1,8,[.pointer none]⟩),
 (196,⟨.st [(0,119),(8,3)],9,72,[.int .i64 0,.int .i64 0,.int .i64 0,.int .i64 0,.int .i64 0,.int .i64 0,.int .i64 0,.int .i64 0,.int .i64 0]⟩),
 (199,⟨.map 196 3,1,8,[.map none]⟩),
 (201,⟨.st [(0,3),(1,199)],2,16,[.int .i64 0,.map none]⟩),
 (214,⟨.int .u64,1,8,[.int .u64 0]⟩),
 (216,⟨.sl 261,1,24,[.slice none 0 0]⟩),
 (218,⟨.st [(0,3),(1,216)],2,32,[.int .i64 0,.slice none 0 0]⟩),
 (225,⟨.sl 129,1,24,[.slice none 0 0]⟩),
 (234,⟨.sl 9,1,24,[.slice none 0 0]⟩),
 (261,⟨.st [(0,22),(1,3)],2,32,[.slice none 0 0,.int .i64 0]⟩)]
theorem tt2:tget TTab 2=some ⟨.int .i64,1,8,[.int .i64 0]⟩:=rfl
theorem tt3:tget TTab 3=some ⟨.int .i64,1,8,[.int .i64 0]⟩:=rfl
theorem tt4:tget TTab 4=some ⟨.bool,1,1,[.bool false]⟩:=rfl
theorem tt5:tget TTab 5=some ⟨.int .u8,1,1,[.int .u8 0]⟩:=rfl
theorem tt6:tget TTab 6=some ⟨.int .u8,1,1,[.int .u8 0]⟩:=rfl
theorem tt9:tget TTab 9=some ⟨.str,1,16,[.string .empty]⟩:=rfl
theorem tt16:tget TTab 16=some ⟨.other,1,8,[.pointer none]⟩:=rfl
theorem tt22:tget TTab 22=some ⟨.sl 3,1,24,[.slice none 0 0]⟩:=rfl
theorem tt24:tget TTab 24=some ⟨.st [(0,3),(1,3),(2,22)],3,40,[.int .i64 0,.int .i64 0,.slice none 0 0]⟩:=rfl
theorem tt26:tget TTab 26=some ⟨.sl 51,1,24,[.slice none 0 0]⟩:=rfl
theorem tt29:tget TTab 29=some ⟨.st [(0,3),(1,3),(2,22)],3,40,[.int .i64 0,.int .i64 0,.slice none 0 0]⟩:=rfl
theorem tt39:tget TTab 39=some ⟨.sl 5,1,24,[.slice none 0 0]⟩:=rfl
theorem tt42:tget TTab 42=some ⟨.st [(0,29),(3,26)],4,64,[.int .i64 0,.int .i64 0,.slice none 0 0,.slice none 0 0]⟩:=rfl
theorem tt49:tget TTab 49=some ⟨.sl 107,1,24,[.slice none 0 0]⟩:=rfl
theorem tt51:tget TTab 51=some ⟨.st [(0,3),(1,49)],2,32,[.int .i64 0,.slice none 0 0]⟩:=rfl
theorem tt57:tget TTab 57=some ⟨.sl 218,1,24,[.slice none 0 0]⟩:=rfl
theorem tt59:tget TTab 59=some ⟨.st [(0,24),(3,57)],4,64,[.int .i64 0,.int .i64 0,.slice none 0 0,.slice none 0 0]⟩:=rfl
theorem tt61:tget TTab 61=some ⟨.st [(0,24),(3,22),(4,59)],8,128,[.int .i64 0,.int .i64 0,.slice none 0 0,.slice none 0 0,.int .i64 0,.int .i64 0,.slice none 0 0,.slice none 0 0]⟩:=rfl
theorem tt65:tget TTab 65=some ⟨.st [(0,29),(3,22),(4,42)],8,128,[.int .i64 0,.int .i64 0,.slice none 0 0,.slice none 0 0,.int .i64 0,.int .i64 0,.slice none 0 0,.slice none 0 0]⟩:=rfl
theorem tt86:tget TTab 86=some ⟨.sl 29,1,24,[.slice none 0 0]⟩:=rfl
theorem tt96:tget TTab 96=some ⟨.other,1,8,[.pointer none]⟩:=rfl
theorem tt107:tget TTab 107=some ⟨.st [(0,22),(1,3)],2,32,[.slice none 0 0,.int .i64 0]⟩:=rfl
theorem tt110:tget TTab 110=some ⟨.sl 22,1,24,[.slice none 0 0]⟩:=rfl
theorem tt114:tget TTab 114=some ⟨.sl 165,1,24,[.slice none 0 0]⟩:=rfl
theorem tt116:tget TTab 116=some ⟨.other,1,8,[.pointer none]⟩:=rfl
theorem tt119:tget TTab 119=some ⟨.arr 8 3,8,64,[.int .i64 0,.int .i64 0,.int .i64 0,.int .i64 0,.int .i64 0,.int .i64 0,.int .i64 0,.int .i64 0]⟩:=rfl
theorem tt129:tget TTab 129=some ⟨.sl 186,1,24,[.slice none 0 0]⟩:=rfl
theorem tt131:tget TTab 131=some ⟨.st [(0,3),(1,129)],2,32,[.int .i64 0,.slice none 0 0]⟩:=rfl
theorem tt136:tget TTab 136=some ⟨.sl 110,1,24,[.slice none 0 0]⟩:=rfl
theorem tt154:tget TTab 154=some ⟨.arr 2 51,4,64,[.int .i64 0,.slice none 0 0,.int .i64 0,.slice none 0 0]⟩:=rfl
theorem tt157:tget TTab 157=some ⟨.st [(0,39),(1,3),(2,3)],3,40,[.slice none 0 0,.int .i64 0,.int .i64 0]⟩:=rfl
theorem tt165:tget TTab 165=some ⟨.st [(0,3),(1,3)],2,16,[.int .i64 0,.int .i64 0]⟩:=rfl
theorem tt175:tget TTab 175=some ⟨.map 119 3,1,8,[.map none]⟩:=rfl
theorem tt177:tget TTab 177=some ⟨.st [(0,3),(1,175)],2,16,[.int .i64 0,.map none]⟩:=rfl
theorem tt186:tget TTab 186=some ⟨.st [(0,22),(1,3),(2,3)],3,40,[.slice none 0 0,.int .i64 0,.int .i64 0]⟩:=rfl
theorem tt191:tget TTab 191=some ⟨.other,1,8,[.pointer none]⟩:=rfl
theorem tt196:tget TTab 196=some ⟨.st [(0,119),(8,3)],9,72,[.int .i64 0,.int .i64 0,.int .i64 0,.int .i64 0,.int .i64 0,.int .i64 0,.int .i64 0,.int .i64 0,.int .i64 0]⟩:=rfl
theorem tt199:tget TTab 199=some ⟨.map 196 3,1,8,[.map none]⟩:=rfl
theorem tt201:tget TTab 201=some ⟨.st [(0,3),(1,199)],2,16,[.int .i64 0,.map none]⟩:=rfl
theorem tt214:tget TTab 214=some ⟨.int .u64,1,8,[.int .u64 0]⟩:=rfl
theorem tt216:tget TTab 216=some ⟨.sl 261,1,24,[.slice none 0 0]⟩:=rfl
theorem tt218:tget TTab 218=some ⟨.st [(0,3),(1,216)],2,32,[.int .i64 0,.slice none 0 0]⟩:=rfl
theorem tt225:tget TTab 225=some ⟨.sl 129,1,24,[.slice none 0 0]⟩:=rfl
theorem tt234:tget TTab 234=some ⟨.sl 9,1,24,[.slice none 0 0]⟩:=rfl
theorem tt261:tget TTab 261=some ⟨.st [(0,22),(1,3)],2,32,[.slice none 0 0,.int .i64 0]⟩:=rfl
attribute [simp] tt2 tt3 tt4 tt5 tt6 tt9 tt16 tt22 tt24 tt26 tt29 tt39 tt42 tt49 tt51 tt57 tt59 tt61 tt65 tt86 tt96 tt107 tt110 tt114 tt116 tt119 tt129 tt131 tt136 tt154 tt157 tt165 tt175 tt177 tt186 tt191 tt196 tt199 tt201 tt214 tt216 tt218 tt225 tt234 tt261
def MM:List (Nat×List Bool):=[(17,[true,false]),(18,[true,false]),(19,[true,false]),(68,[true,false]),(72,[true,false]),(73,[true,false]),(94,[true,false,false]),(95,[true]),(116,[true,false]),(146,[true,false]),(148,[true,false]),(164,[true,false]),(190,[true,false,false]),(191,[true]),(211,[true]),(222,[true,false]),(229,[true,false])]
theorem mm0:aget [] MM 0=[]:=rfl
theorem mm1:aget [] MM 1=[]:=rfl
theorem mm2:aget [] MM 2=[]:=rfl
theorem mm3:aget [] MM 3=[]:=rfl
theorem mm4:aget [] MM 4=[]:=rfl
theorem mm5:aget [] MM 5=[]:=rfl
theorem mm6:aget [] MM 6=[]:=rfl
theorem mm7:aget [] MM 7=[]:=rfl
theorem mm8:aget [] MM 8=[]:=rfl
theorem mm9:aget [] MM 9=[]:=rfl
theorem mm10:aget [] MM 10=[]:=rfl
theorem mm11:aget [] MM 11=[]:=rfl
theorem mm12:aget [] MM 12=[]:=rfl
theorem mm13:aget [] MM 13=[]:=rfl
theorem mm14:aget [] MM 14=[]:=rfl
theorem mm15:aget [] MM 15=[]:=rfl
theorem mm16:aget [] MM 16=[]:=rfl
theorem mm17:aget [] MM 17=[true,false]:=rfl
theorem mm18:aget [] MM 18=[true,false]:=rfl
theorem mm19:aget [] MM 19=[true,false]:=rfl
theorem mm20:aget [] MM 20=[]:=rfl
theorem mm21:aget [] MM 21=[]:=rfl
theorem mm22:aget [] MM 22=[]:=rfl
theorem mm23:aget [] MM 23=[]:=rfl
theorem mm24:aget [] MM 24=[]:=rfl
theorem mm25:aget [] MM 25=[]:=rfl
theorem mm26:aget [] MM 26=[]:=rfl
theorem mm27:aget [] MM 27=[]:=rfl
theorem mm28:aget [] MM 28=[]:=rfl
theorem mm29:aget [] MM 29=[]:=rfl
theorem mm30:aget [] MM 30=[]:=rfl
theorem mm31:aget [] MM 31=[]:=rfl
theorem mm32:aget [] MM 32=[]:=rfl
theorem mm33:aget [] MM 33=[]:=rfl
theorem mm34:aget [] MM 34=[]:=rfl
theorem mm35:aget [] MM 35=[]:=rfl
theorem mm36:aget [] MM 36=[]:=rfl
theorem mm37:aget [] MM 37=[]:=rfl
theorem mm38:aget [] MM 38=[]:=rfl
theorem mm39:aget [] MM 39=[]:=rfl
theorem mm40:aget [] MM 40=[]:=rfl
theorem mm41:aget [] MM 41=[]:=rfl
theorem mm42:aget [] MM 42=[]:=rfl
theorem mm43:aget [] MM 43=[]:=rfl
theorem mm44:aget [] MM 44=[]:=rfl
theorem mm45:aget [] MM 45=[]:=rfl
theorem mm46:aget [] MM 46=[]:=rfl
theorem mm47:aget [] MM 47=[]:=rfl
theorem mm48:aget [] MM 48=[]:=rfl
theorem mm49:aget [] MM 49=[]:=rfl
theorem mm50:aget [] MM 50=[]:=rfl
theorem mm51:aget [] MM 51=[]:=rfl
theorem mm52:aget [] MM 52=[]:=rfl
theorem mm53:aget [] MM 53=[]:=rfl
theorem mm54:aget [] MM 54=[]:=rfl
theorem mm55:aget [] MM 55=[]:=rfl
theorem mm56:aget [] MM 56=[]:=rfl
theorem mm57:aget [] MM 57=[]:=rfl
theorem mm58:aget [] MM 58=[]:=rfl
theorem mm59:aget [] MM 59=[]:=rfl
theorem mm60:aget [] MM 60=[]:=rfl
theorem mm61:aget [] MM 61=[]:=rfl
theorem mm62:aget [] MM 62=[]:=rfl
theorem mm63:aget [] MM 63=[]:=rfl
theorem mm64:aget [] MM 64=[]:=rfl
theorem mm65:aget [] MM 65=[]:=rfl
theorem mm66:aget [] MM 66=[]:=rfl
theorem mm67:aget [] MM 67=[]:=rfl
theorem mm68:aget [] MM 68=[true,false]:=rfl
theorem mm69:aget [] MM 69=[]:=rfl
theorem mm70:aget [] MM 70=[]:=rfl
theorem mm71:aget [] MM 71=[]:=rfl
theorem mm72:aget [] MM 72=[true,false]:=rfl
theorem mm73:aget [] MM 73=[true,false]:=rfl
theorem mm74:aget [] MM 74=[]:=rfl
theorem mm75:aget [] MM 75=[]:=rfl
theorem mm76:aget [] MM 76=[]:=rfl
theorem mm77:aget [] MM 77=[]:=rfl
theorem mm78:aget [] MM 78=[]:=rfl
theorem mm79:aget [] MM 79=[]:=rfl
theorem mm80:aget [] MM 80=[]:=rfl
theorem mm81:aget [] MM 81=[]:=rfl
theorem mm82:aget [] MM 82=[]:=rfl
theorem mm83:aget [] MM 83=[]:=rfl
theorem mm84:aget [] MM 84=[]:=rfl
theorem mm85:aget [] MM 85=[]:=rfl
theorem mm86:aget [] MM 86=[]:=rfl
theorem mm87:aget [] MM 87=[]:=rfl
theorem mm88:aget [] MM 88=[]:=rfl
theorem mm89:aget [] MM 89=[]:=rfl
theorem mm90:aget [] MM 90=[]:=rfl
theorem mm91:aget [] MM 91=[]:=rfl
theorem mm92:aget [] MM 92=[]:=rfl
theorem mm93:aget [] MM 93=[]:=rfl
theorem mm94:aget [] MM 94=[true,false,false]:=rfl
theorem mm95:aget [] MM 95=[true]:=rfl
theorem mm96:aget [] MM 96=[]:=rfl
theorem mm97:aget [] MM 97=[]:=rfl
theorem mm98:aget [] MM 98=[]:=rfl
theorem mm99:aget [] MM 99=[]:=rfl
theorem mm100:aget [] MM 100=[]:=rfl
theorem mm101:aget [] MM 101=[]:=rfl
theorem mm102:aget [] MM 102=[]:=rfl
theorem mm103:aget [] MM 103=[]:=rfl
theorem mm104:aget [] MM 104=[]:=rfl
theorem mm105:aget [] MM 105=[]:=rfl
theorem mm106:aget [] MM 106=[]:=rfl
theorem mm107:aget [] MM 107=[]:=rfl
theorem mm108:aget [] MM 108=[]:=rfl
theorem mm109:aget [] MM 109=[]:=rfl
theorem mm110:aget [] MM 110=[]:=rfl
theorem mm111:aget [] MM 111=[]:=rfl
theorem mm112:aget [] MM 112=[]:=rfl
theorem mm113:aget [] MM 113=[]:=rfl
theorem mm114:aget [] MM 114=[]:=rfl
theorem mm115:aget [] MM 115=[]:=rfl
theorem mm116:aget [] MM 116=[true,false]:=rfl
theorem mm117:aget [] MM 117=[]:=rfl
theorem mm118:aget [] MM 118=[]:=rfl
theorem mm119:aget [] MM 119=[]:=rfl
theorem mm120:aget [] MM 120=[]:=rfl
theorem mm121:aget [] MM 121=[]:=rfl
theorem mm122:aget [] MM 122=[]:=rfl
theorem mm123:aget [] MM 123=[]:=rfl
theorem mm124:aget [] MM 124=[]:=rfl
theorem mm125:aget [] MM 125=[]:=rfl
theorem mm126:aget [] MM 126=[]:=rfl
theorem mm127:aget [] MM 127=[]:=rfl
theorem mm128:aget [] MM 128=[]:=rfl
theorem mm129:aget [] MM 129=[]:=rfl
theorem mm130:aget [] MM 130=[]:=rfl
theorem mm131:aget [] MM 131=[]:=rfl
theorem mm132:aget [] MM 132=[]:=rfl
theorem mm133:aget [] MM 133=[]:=rfl
theorem mm134:aget [] MM 134=[]:=rfl
theorem mm135:aget [] MM 135=[]:=rfl
theorem mm136:aget [] MM 136=[]:=rfl
theorem mm137:aget [] MM 137=[]:=rfl
theorem mm138:aget [] MM 138=[]:=rfl
theorem mm139:aget [] MM 139=[]:=rfl
theorem mm140:aget [] MM 140=[]:=rfl
theorem mm141:aget [] MM 141=[]:=rfl
theorem mm142:aget [] MM 142=[]:=rfl
theorem mm143:aget [] MM 143=[]:=rfl
theorem mm144:aget [] MM 144=[]:=rfl
theorem mm145:aget [] MM 145=[]:=rfl
theorem mm146:aget [] MM 146=[true,false]:=rfl
theorem mm147:aget [] MM 147=[]:=rfl
theorem mm148:aget [] MM 148=[true,false]:=rfl
theorem mm149:aget [] MM 149=[]:=rfl
theorem mm150:aget [] MM 150=[]:=rfl
theorem mm151:aget [] MM 151=[]:=rfl
theorem mm152:aget [] MM 152=[]:=rfl
theorem mm153:aget [] MM 153=[]:=rfl
theorem mm154:aget [] MM 154=[]:=rfl
theorem mm155:aget [] MM 155=[]:=rfl
theorem mm156:aget [] MM 156=[]:=rfl
theorem mm157:aget [] MM 157=[]:=rfl
theorem mm158:aget [] MM 158=[]:=rfl
theorem mm159:aget [] MM 159=[]:=rfl
theorem mm160:aget [] MM 160=[]:=rfl
theorem mm161:aget [] MM 161=[]:=rfl
theorem mm162:aget [] MM 162=[]:=rfl
theorem mm163:aget [] MM 163=[]:=rfl
theorem mm164:aget [] MM 164=[true,false]:=rfl
theorem mm165:aget [] MM 165=[]:=rfl
theorem mm166:aget [] MM 166=[]:=rfl
theorem mm167:aget [] MM 167=[]:=rfl
theorem mm168:aget [] MM 168=[]:=rfl
theorem mm169:aget [] MM 169=[]:=rfl
theorem mm170:aget [] MM 170=[]:=rfl
theorem mm171:aget [] MM 171=[]:=rfl
theorem mm172:aget [] MM 172=[]:=rfl
theorem mm173:aget [] MM 173=[]:=rfl
theorem mm174:aget [] MM 174=[]:=rfl
theorem mm175:aget [] MM 175=[]:=rfl
theorem mm176:aget [] MM 176=[]:=rfl
theorem mm177:aget [] MM 177=[]:=rfl
theorem mm178:aget [] MM 178=[]:=rfl
theorem mm179:aget [] MM 179=[]:=rfl
theorem mm180:aget [] MM 180=[]:=rfl
theorem mm181:aget [] MM 181=[]:=rfl
theorem mm182:aget [] MM 182=[]:=rfl
theorem mm183:aget [] MM 183=[]:=rfl
theorem mm184:aget [] MM 184=[]:=rfl
theorem mm185:aget [] MM 185=[]:=rfl
theorem mm186:aget [] MM 186=[]:=rfl
theorem mm187:aget [] MM 187=[]:=rfl
theorem mm188:aget [] MM 188=[]:=rfl
theorem mm189:aget [] MM 189=[]:=rfl
theorem mm190:aget [] MM 190=[true,false,false]:=rfl
theorem mm191:aget [] MM 191=[true]:=rfl
theorem mm192:aget [] MM 192=[]:=rfl
theorem mm193:aget [] MM 193=[]:=rfl
theorem mm194:aget [] MM 194=[]:=rfl
theorem mm195:aget [] MM 195=[]:=rfl
theorem mm196:aget [] MM 196=[]:=rfl
theorem mm197:aget [] MM 197=[]:=rfl
theorem mm198:aget [] MM 198=[]:=rfl
theorem mm199:aget [] MM 199=[]:=rfl
theorem mm200:aget [] MM 200=[]:=rfl
theorem mm201:aget [] MM 201=[]:=rfl
theorem mm202:aget [] MM 202=[]:=rfl
theorem mm203:aget [] MM 203=[]:=rfl
theorem mm204:aget [] MM 204=[]:=rfl
theorem mm205:aget [] MM 205=[]:=rfl
theorem mm206:aget [] MM 206=[]:=rfl
theorem mm207:aget [] MM 207=[]:=rfl
theorem mm208:aget [] MM 208=[]:=rfl
theorem mm209:aget [] MM 209=[]:=rfl
theorem mm210:aget [] MM 210=[]:=rfl
theorem mm211:aget [] MM 211=[true]:=rfl
theorem mm212:aget [] MM 212=[]:=rfl
theorem mm213:aget [] MM 213=[]:=rfl
theorem mm214:aget [] MM 214=[]:=rfl
theorem mm215:aget [] MM 215=[]:=rfl
theorem mm216:aget [] MM 216=[]:=rfl
theorem mm217:aget [] MM 217=[]:=rfl
theorem mm218:aget [] MM 218=[]:=rfl
theorem mm219:aget [] MM 219=[]:=rfl
theorem mm220:aget [] MM 220=[]:=rfl
theorem mm221:aget [] MM 221=[]:=rfl
theorem mm222:aget [] MM 222=[true,false]:=rfl
theorem mm223:aget [] MM 223=[]:=rfl
theorem mm224:aget [] MM 224=[]:=rfl
theorem mm225:aget [] MM 225=[]:=rfl
theorem mm226:aget [] MM 226=[]:=rfl
theorem mm227:aget [] MM 227=[]:=rfl
theorem mm228:aget [] MM 228=[]:=rfl
theorem mm229:aget [] MM 229=[true,false]:=rfl
theorem mm230:aget [] MM 230=[]:=rfl
theorem mm231:aget [] MM 231=[]:=rfl
theorem mm232:aget [] MM 232=[]:=rfl
theorem mm233:aget [] MM 233=[]:=rfl
theorem mm234:aget [] MM 234=[]:=rfl
theorem mm235:aget [] MM 235=[]:=rfl
theorem mm236:aget [] MM 236=[]:=rfl
theorem mm237:aget [] MM 237=[]:=rfl
theorem mm238:aget [] MM 238=[]:=rfl
theorem mm239:aget [] MM 239=[]:=rfl
theorem mm240:aget [] MM 240=[]:=rfl
theorem mm241:aget [] MM 241=[]:=rfl
theorem mm242:aget [] MM 242=[]:=rfl
theorem mm243:aget [] MM 243=[]:=rfl
theorem mm244:aget [] MM 244=[]:=rfl
theorem mm245:aget [] MM 245=[]:=rfl
theorem mm246:aget [] MM 246=[]:=rfl
theorem mm247:aget [] MM 247=[]:=rfl
theorem mm248:aget [] MM 248=[]:=rfl
theorem mm249:aget [] MM 249=[]:=rfl
theorem mm250:aget [] MM 250=[]:=rfl
theorem mm251:aget [] MM 251=[]:=rfl
theorem mm252:aget [] MM 252=[]:=rfl
theorem mm253:aget [] MM 253=[]:=rfl
theorem mm254:aget [] MM 254=[]:=rfl
theorem mm255:aget [] MM 255=[]:=rfl
theorem mm256:aget [] MM 256=[]:=rfl
theorem mm257:aget [] MM 257=[]:=rfl
theorem mm258:aget [] MM 258=[]:=rfl
theorem mm259:aget [] MM 259=[]:=rfl
theorem mm260:aget [] MM 260=[]:=rfl
theorem mm261:aget [] MM 261=[]:=rfl
theorem mm262:aget [] MM 262=[]:=rfl
theorem mm263:aget [] MM 263=[]:=rfl
theorem mm264:aget [] MM 264=[]:=rfl
theorem mm265:aget [] MM 265=[]:=rfl
theorem mm266:aget [] MM 266=[]:=rfl
theorem mm267:aget [] MM 267=[]:=rfl
theorem mm268:aget [] MM 268=[]:=rfl
theorem mm269:aget [] MM 269=[]:=rfl
theorem mm270:aget [] MM 270=[]:=rfl
theorem mm271:aget [] MM 271=[]:=rfl
theorem mm272:aget [] MM 272=[]:=rfl
theorem mm273:aget [] MM 273=[]:=rfl
theorem mm274:aget [] MM 274=[]:=rfl
theorem mm275:aget [] MM 275=[]:=rfl
theorem mm276:aget [] MM 276=[]:=rfl
theorem mm277:aget [] MM 277=[]:=rfl
theorem mm278:aget [] MM 278=[]:=rfl
theorem mm279:aget [] MM 279=[]:=rfl
theorem mm280:aget [] MM 280=[]:=rfl
theorem mm281:aget [] MM 281=[]:=rfl
theorem mm282:aget [] MM 282=[]:=rfl
theorem mm283:aget [] MM 283=[]:=rfl
theorem mm284:aget [] MM 284=[]:=rfl
theorem mm285:aget [] MM 285=[]:=rfl
theorem mm286:aget [] MM 286=[]:=rfl
theorem mm287:aget [] MM 287=[]:=rfl
theorem mm288:aget [] MM 288=[]:=rfl
theorem mm289:aget [] MM 289=[]:=rfl
theorem mm290:aget [] MM 290=[]:=rfl
theorem mm291:aget [] MM 291=[]:=rfl
theorem mm292:aget [] MM 292=[]:=rfl
theorem mm293:aget [] MM 293=[]:=rfl
theorem mm294:aget [] MM 294=[]:=rfl
theorem mm295:aget [] MM 295=[]:=rfl
theorem mm296:aget [] MM 296=[]:=rfl
attribute [simp] mm0 mm1 mm2 mm3 mm4 mm5 mm6 mm7 mm8 mm9 mm10 mm11 mm12 mm13 mm14 mm15 mm16 mm17 mm18 mm19 mm20 mm21 mm22 mm23 mm24 mm25 mm26 mm27 mm28 mm29 mm30 mm31 mm32 mm33 mm34 mm35 mm36 mm37 mm38 mm39 mm40 mm41 mm42 mm43 mm44 mm45 mm46 mm47 mm48 mm49 mm50 mm51 mm52 mm53 mm54 mm55 mm56 mm57 mm58 mm59 mm60 mm61 mm62 mm63 mm64 mm65 mm66 mm67 mm68 mm69 mm70 mm71 mm72 mm73 mm74 mm75 mm76 mm77 mm78 mm79 mm80 mm81 mm82 mm83 mm84 mm85 mm86 mm87 mm88 mm89 mm90 mm91 mm92 mm93 mm94 mm95 mm96 mm97 mm98 mm99 mm100 mm101 mm102 mm103 mm104 mm105 mm106 mm107 mm108 mm109 mm110 mm111 mm112 mm113 mm114 mm115 mm116 mm117 mm118 mm119 mm120 mm121 mm122 mm123 mm124 mm125 mm126 mm127 mm128 mm129 mm130 mm131 mm132 mm133 mm134 mm135 mm136 mm137 mm138 mm139 mm140 mm141 mm142 mm143 mm144 mm145 mm146 mm147 mm148 mm149 mm150 mm151 mm152 mm153 mm154 mm155 mm156 mm157 mm158 mm159 mm160 mm161 mm162 mm163 mm164 mm165 mm166 mm167 mm168 mm169 mm170 mm171 mm172 mm173 mm174 mm175 mm176 mm177 mm178 mm179 mm180 mm181 mm182 mm183 mm184 mm185 mm186 mm187 mm188 mm189 mm190 mm191 mm192 mm193 mm194 mm195 mm196 mm197 mm198 mm199 mm200 mm201 mm202 mm203 mm204 mm205 mm206 mm207 mm208 mm209 mm210 mm211 mm212 mm213 mm214 mm215 mm216 mm217 mm218 mm219 mm220 mm221 mm222 mm223 mm224 mm225 mm226 mm227 mm228 mm229 mm230 mm231 mm232 mm233 mm234 mm235 mm236 mm237 mm238 mm239 mm240 mm241 mm242 mm243 mm244 mm245 mm246 mm247 mm248 mm249 mm250 mm251 mm252 mm253 mm254 mm255 mm256 mm257 mm258 mm259 mm260 mm261 mm262 mm263 mm264 mm265 mm266 mm267 mm268 mm269 mm270 mm271 mm272 mm273 mm274 mm275 mm276 mm277 mm278 mm279 mm280 mm281 mm282 mm283 mm284 mm285 mm286 mm287 mm288 mm289 mm290 mm291 mm292 mm293 mm294 mm295 mm296
namespace F
abbrev laws_FnSomos:Nat:=8
abbrev laws_big:Nat:=21
abbrev impl_MutateSeed:Nat:=23
abbrev impl_SeedOk:Nat:=26
abbrev laws_laurents:Nat:=30
abbrev laws_at0:Nat:=44
abbrev impl_SomosLaurents:Nat:=45
abbrev impl_SomosTerms:Nat:=46
abbrev spec_SomosLaurents:Nat:=47
abbrev impl_EvaluateLaurent:Nat:=48
abbrev laws_ones:Nat:=49
abbrev impl_IsPositive:Nat:=50
abbrev impl_SomosMatrix:Nat:=51
abbrev impl_MutateMatrix:Nat:=52
abbrev impl_RenameMatrix:Nat:=53
abbrev impl_InitialSeed:Nat:=54
abbrev laws_matrices:Nat:=55
abbrev spec_MonomialLaurent:Nat:=58
abbrev spec_l3Unit:Nat:=59
abbrev impl_ConstantLaurent:Nat:=63
abbrev impl_MonomialLaurent:Nat:=64
abbrev impl_unit:Nat:=65
abbrev impl_exchange:Nat:=66
abbrev impl_within:Nat:=75
abbrev impl_copySeed:Nat:=76
abbrev spec_l1In:Nat:=78
abbrev impl_MatrixOk:Nat:=81
abbrev slices_ContainsFunc_impl_Laurent_impl_Laurent:Nat:=82
abbrev impl_SeedOk_1:Nat:=83
abbrev impl_LaurentOk:Nat:=84
abbrev impl_MulLaurents:Nat:=85
abbrev laws_ints:Nat:=86
abbrev impl_AddLaurents:Nat:=87
abbrev spec_l2Shut:Nat:=89
abbrev impl_newBuilding:Nat:=92
abbrev impl_Matrix_at:Nat:=93
abbrev impl_building_add:Nat:=94
abbrev impl_building_done:Nat:=95
abbrev impl_DivideLaurents:Nat:=118
abbrev spec_MulLaurents:Nat:=119
abbrev spec_AddLaurents:Nat:=120
abbrev spec_DivideLaurents:Nat:=121
abbrev slices_ContainsFunc_int_int:Nat:=122
abbrev impl_EvaluateLaurent_1:Nat:=123
abbrev impl_residue:Nat:=124
abbrev impl_inverse:Nat:=125
abbrev impl_powerOf:Nat:=126
abbrev slices_ContainsFunc_impl_Term_impl_Term:Nat:=127
abbrev impl_IsPositive_1:Nat:=128
abbrev impl_mutated:Nat:=129
abbrev impl_isOrder:Nat:=130
abbrev slices_Clone_int_int:Nat:=131
abbrev spec_l1Ints:Nat:=135
abbrev spec_l2Right:Nat:=136
abbrev impl_expOk:Nat:=140
abbrev spec_l2Key:Nat:=147
abbrev spec_l2Gather:Nat:=149
abbrev impl_copyLaurent:Nat:=151
abbrev impl_shaped:Nat:=154
abbrev impl_factors:Nat:=155
abbrev slices_IndexFunc_impl_Laurent_impl_Laurent:Nat:=156
abbrev impl_coefOk:Nat:=157
abbrev slices_Compare_int_int:Nat:=158
abbrev impl_bothOk:Nat:=159
abbrev impl_plusExp:Nat:=160
abbrev impl_keyOf:Nat:=161
abbrev spec_l2Exp:Nat:=163
abbrev slices_SortFunc_impl_Term_impl_Term:Nat:=164
abbrev impl_building_done_1:Nat:=165
abbrev spec_l2Two:Nat:=195
abbrev spec_l2Times:Nat:=196
abbrev spec_l2Open:Nat:=197
abbrev spec_l2Base:Nat:=198
abbrev spec_l2Plus:Nat:=199
abbrev spec_l2Divide:Nat:=200
abbrev slices_IndexFunc_int_int:Nat:=201
abbrev slices_IndexFunc_impl_Term_impl_Term:Nat:=202
abbrev slices_Contains_int_int:Nat:=203
abbrev spec_l1Less:Nat:=206
abbrev impl_expOk_1:Nat:=207
abbrev impl_shaped_1:Nat:=213
abbrev impl_gcd:Nat:=214
abbrev cmp_Compare_int:Nat:=215
abbrev spec_l2Least:Nat:=233
abbrev spec_l2Most:Nat:=234
abbrev slices_Index_int_int:Nat:=235
abbrev cmp_isNaN_int:Nat:=244
end F
namespace C
noncomputable def spec_l1Ints:Ctx:={ P:=Tryz.prog,T:=TTab,M:=MM,nW:=0,kp:=[(0,[0]),(1,[2])],lp:=[],pl:=[] }
noncomputable def spec_l1In:Ctx:={ P:=Tryz.prog,T:=TTab,M:=MM,nW:=0,kp:=[(0,[0,1,2]),(1,[6])],lp:=[],pl:=[] }
noncomputable def spec_l1Less:Ctx:={ P:=Tryz.prog,T:=TTab,M:=MM,nW:=0,kp:=[(0,[0,1]),(1,[0,1,5]),(2,[0,1,5,15]),(3,[0,1,5]),(4,[0,1,5,26]),(5,[4]),(6,[4])],lp:=[(0,[0,1,5])],pl:=[(4,.take 0 (.take 1 (.take 2 (.take 3 (.take 4 (.take 5 (.take 6 (.take 7 (.take 8 (.done)))))))))),(5,.take 0 (.take 1 (.take 2 (.take 3 (.take 4 (.take 5 (.take 6 (.take 7 (.take 8 (.take 9 (.done)))))))))))] }
noncomputable def spec_l2Right:Ctx:={ P:=Tryz.prog,T:=TTab,M:=MM,nW:=0,kp:=[(0,[1]),(1,[1,15]),(2,[2]),(3,[1,3]),(4,[1,3,20]),(5,[1,3]),(6,[1,3,4]),(7,[1,3,4,61]),(8,[2]),(9,[1,3,4,5]),(10,[1,3,4,5,65]),(11,[1,3,4,5]),(12,[1,3,4,5,74]),(13,[2]),(14,[2])],lp:=[(0,[1,3]),(2,[1,3,4,5])],pl:=[(7,.take 0 (.take 1 (.take 2 (.take 3 (.take 4 (.take 5 (.take 6 (.take 7 (.take 8 (.take 9 (.take 10 (.take 11 (.take 12 (.take 13 (.all [(14,.take 15 (.take 16 (.take 17 (.take 18 (.take 19 (.take 20 (.take 21 (.take 22 (.take 23 (.take 24 (.take 25 (.take 26 (.take 27 (.take 28 (.take 29 (.all [(30,.take 31 (.take 32 (.take 33 (.done))))]))))))))))))))))])))))))))))))))] }
noncomputable def spec_MonomialLaurent:Ctx:={ P:=Tryz.prog,T:=TTab,M:=MM,nW:=0,kp:=[(0,[0,2]),(1,[2,3]),(2,[2,3,13]),(3,[2]),(4,[2])],lp:=[],pl:=[] }
noncomputable def spec_l3Unit:Ctx:={ P:=Tryz.prog,T:=TTab,M:=MM,nW:=0,kp:=[(0,[0,1]),(1,[1,5]),(2,[5]),(3,[4])],lp:=[],pl:=[] }
noncomputable def impl_within:Ctx:={ P:=Tryz.prog,T:=TTab,M:=MM,nW:=0,kp:=[(0,[0,1,2]),(1,[6])],lp:=[],pl:=[] }
noncomputable def slices_IndexFunc_int_int:Ctx:={ P:=Tryz.prog,T:=TTab,M:=MM,nW:=0,kp:=[(0,[0,1]),(1,[0,1,7,8]),(2,[0,1,7,8,9]),(3,[0,1,5,7,8]),(4,[0,1,5,7,8,16]),(5,[4]),(6,[0,1,7,8]),(7,[4])],lp:=[(0,[0,1,7,8])],pl:=[] }
noncomputable def slices_ContainsFunc_int_int:Ctx:={ P:=Tryz.prog,T:=TTab,M:=MM,nW:=0,kp:=[(0,[0,1]),(1,[4])],lp:=[],pl:=[] }
noncomputable def impl_shaped_1:Ctx:={ P:=Tryz.prog,T:=TTab,M:=MM,nW:=0,kp:=[(0,[0]),(1,[2])],lp:=[],pl:=[] }
noncomputable def impl_shaped:Ctx:={ P:=Tryz.prog,T:=TTab,M:=MM,nW:=0,kp:=[(0,[1]),(1,[2])],lp:=[],pl:=[] }
noncomputable def impl_Matrix_at:Ctx:={ P:=Tryz.prog,T:=TTab,M:=MM,nW:=0,kp:=[(0,[1,2,3]),(1,[6])],lp:=[],pl:=[] }
noncomputable def impl_gcd:Ctx:={ P:=Tryz.prog,T:=TTab,M:=MM,nW:=0,kp:=[(0,[0,1]),(1,[0,1,6]),(2,[0,1]),(3,[4])],lp:=[(0,[0,1])],pl:=[(2,.take 0 (.take 1 (.take 2 (.take 3 (.take 4 (.take 5 (.done)))))))] }
noncomputable def impl_factors:Ctx:={ P:=Tryz.prog,T:=TTab,M:=MM,nW:=0,kp:=[(0,[1]),(1,[1,3,4]),(2,[1,3,4,5]),(3,[1,3,4,5,34,35]),(4,[1,3,4,5,34,35,36]),(5,[1,3,4,5,6,34,35]),(6,[1,3,4,5,6,34,35,42]),(7,[1,3,4,5,6,34,35]),(8,[1,3,4,5,7,34,35]),(9,[1,3,4,5,7,8,34,35]),(10,[1,3,4,5,7,8,34,35,54]),(11,[1,3,4,5,7,8,34,35]),(12,[1,3,4,5,7,8,9,34,35]),(13,[1,3,4,5,7,8,9,34,35,62,63]),(14,[1,3,4,5,7,8,9,34,35,62,63,64]),(15,[1,3,4,5,7,8,9,10,34,35,62,63]),(16,[1,3,4,5,7,8,9,10,11,12,34,35,62,63]),(17,[1,3,4,5,7,8,9,10,11,12,34,35,62,63,80]),(18,[1,3,4,5,7,8,9,10,11,12,34,35,62,63,98]),(19,[2]),(20,[1,3,4,5,7,8,9,10,13,14,34,35,62,63]),(21,[1,3,4,5,7,8,9,10,13,14,15,34,35,62,63]),(22,[1,3,4,5,7,8,9,10,13,14,34,35,62,63]),(23,[1,3,4,5,7,8,9,10,13,14,34,35,62,63,130]),(24,[1,3,4,5,7,8,9,10,34,35,62,63]),(25,[1,3,4,5,7,8,9,34,35,62,63]),(26,[1,3,4,5,7,8,9,34,35,62,63,156]),(27,[2]),(28,[1,3,4,5,7,8,9,34,35,62,63]),(29,[1,3,4,5,7,16,34,35]),(30,[1,3,4,5,7,16,34,35,158,159,160]),(31,[1,3,4,5,7,16,34,35,158,159,160,161]),(32,[1,3,4,5,7,16,18,34,35,158,159,160]),(33,[1,3,4,5,7,16,34,35,158,159,160]),(34,[1,3,4,5,7,16,34,35,158,159,160]),(35,[1,3,4,5,7,16,19,34,35]),(36,[1,3,4,5,7,16,19,34,35,178,179,180]),(37,[1,3,4,5,7,16,19,34,35,178,179,180,181]),(38,[1,3,4,5,7,16,19,21,34,35,178,179,180]),(39,[1,3,4,5,7,16,19,21,34,35,178,179,180]),(40,[1,3,4,5,7,16,19,34,35,178,179,180]),(41,[1,3,4,5,7,16,19,34,35,178,179,180]),(42,[1,3,4,5,19,34,35,205,206,207]),(43,[1,3,4,5,19,34,35,205,206,207,208]),(44,[1,3,4,5,19,23,34,35,205,206,207]),(45,[1,3,4,5,19,34,35,205,206,207]),(46,[1,3,4,5,19,34,35,205,206,207]),(47,[1,3,4,5,34,35]),(48,[2])],lp:=[(0,[1,3,4,5,34,35]),(2,[1,3,4,5,7,8,34,35]),(4,[1,3,4,5,7,8,9,34,35,62,63]),(6,[1,3,4,5,7,16,34,35,158,159,160]),(8,[1,3,4,5,7,16,19,34,35,178,179,180]),(10,[1,3,4,5,19,34,35,205,206,207])],pl:=[(1,.take 0 (.take 1 (.take 3 (.take 4 (.all [(2,.take 6 (.all [(5,.take 7 (.done))])),(5,.all [(2,.take 6 (.take 7 (.done)))])]))))),(16,.take 0 (.take 1 (.take 2 (.take 4 (.take 5 (.take 6 (.all [(3,.all [(7,.take 8 (.take 9 (.take 10 (.done))))])]))))))),(20,.take 0 (.take 1 (.take 2 (.take 3 (.take 4 (.take 5 (.take 6 (.take 7 (.take 8 (.take 9 (.take 10 (.take 11 (.take 12 (.take 13 (.take 14 (.take 15 (.take 16 (.take 17 (.take 18 (.take 19 (.done))))))))))))))))))))),(22,.take 0 (.take 1 (.take 2 (.take 3 (.take 4 (.take 5 (.take 6 (.take 7 (.done))))))))),(33,.take 0 (.take 1 (.take 2 (.take 3 (.take 4 (.take 5 (.take 8 (.take 9 (.take 10 (.take 11 (.all [(6,.take 7 (.take 12 (.take 13 (.done))))]))))))))))),(39,.take 0 (.take 1 (.take 2 (.take 3 (.take 4 (.take 5 (.take 6 (.take 7 (.take 8 (.take 9 (.take 10 (.take 11 (.take 12 (.take 13 (.all [(14,.done)])))))))))))))))] }
noncomputable def impl_MatrixOk:Ctx:={ P:=Tryz.prog,T:=TTab,M:=MM,nW:=0,kp:=[(0,[1]),(1,[2])],lp:=[],pl:=[] }
noncomputable def slices_Clone_int_int:Ctx:={ P:=Tryz.prog,T:=TTab,M:=MM,nW:=0,kp:=[(0,[0]),(1,[0,4]),(2,[2]),(3,[2])],lp:=[],pl:=[] }
noncomputable def impl_unit:Ctx:={ P:=Tryz.prog,T:=TTab,M:=MM,nW:=0,kp:=[(0,[0,1]),(1,[1,5]),(2,[5]),(3,[4])],lp:=[],pl:=[] }
noncomputable def impl_expOk_1:Ctx:={ P:=Tryz.prog,T:=TTab,M:=MM,nW:=0,kp:=[(0,[0]),(1,[2])],lp:=[],pl:=[] }
noncomputable def impl_expOk:Ctx:={ P:=Tryz.prog,T:=TTab,M:=MM,nW:=0,kp:=[(0,[0,1]),(1,[4])],lp:=[],pl:=[] }
noncomputable def impl_MonomialLaurent:Ctx:={ P:=Tryz.prog,T:=TTab,M:=MM,nW:=0,kp:=[(0,[0,2]),(1,[0,2,13]),(2,[2]),(3,[2])],lp:=[],pl:=[] }
noncomputable def impl_InitialSeed:Ctx:={ P:=Tryz.prog,T:=TTab,M:=MM,nW:=0,kp:=[(0,[1,2]),(1,[1,2,8]),(2,[2,3]),(3,[1,2,4]),(4,[1,2,4,5]),(5,[1,2,4,5,22]),(6,[1,2,4,5]),(7,[1,2,4,5]),(8,[2,3])],lp:=[(0,[1,2,4,5])],pl:=[(3,.take 0 (.take 1 (.take 2 (.take 3 (.take 4 (.take 5 (.all [(6,.take 7 (.take 8 (.all [(9,.all [(10,.done)])]))),(9,.all [(6,.take 7 (.take 8 (.all [(10,.done)])))])]))))))),(7,.take 0 (.take 1 (.take 2 (.take 3 (.take 4 (.all [(5,.all [(6,.all [(7,.all [(8,.take 9 (.all [(10,.done)]))])])])]))))))] }
noncomputable def impl_copyLaurent:Ctx:={ P:=Tryz.prog,T:=TTab,M:=MM,nW:=0,kp:=[(0,[1,2]),(1,[1,2,3]),(2,[2,3,10,11,12]),(3,[2,3,10,11,12,13]),(4,[2,3,5,10,11,12]),(5,[2,3,10,11,12]),(6,[2,3,10,11,12]),(7,[2])],lp:=[(0,[2,3,10,11,12])],pl:=[(5,.take 0 (.take 1 (.take 2 (.take 3 (.take 5 (.take 6 (.all [(4,.take 7 (.all [(8,.all [(9,.take 10 (.all [(11,.done)]))])]))])))))))] }
noncomputable def impl_copySeed:Ctx:={ P:=Tryz.prog,T:=TTab,M:=MM,nW:=0,kp:=[(0,[1,2]),(1,[1,2,3]),(2,[2,3,19,20,21]),(3,[2,3,19,20,21,22]),(4,[2,3,5,19,20,21]),(5,[2,3,19,20,21]),(6,[2,3,19,20,21]),(7,[2])],lp:=[(0,[2,3,19,20,21])],pl:=[(1,.take 0 (.take 1 (.take 2 (.take 3 (.take 4 (.take 5 (.take 6 (.take 7 (.take 8 (.all [(9,.take 10 (.take 11 (.all [(12,.all [(13,.done)])]))),(12,.all [(9,.take 10 (.take 11 (.all [(13,.done)])))])])))))))))),(5,.take 0 (.take 1 (.take 2 (.all [(3,.all [(4,.all [(5,.take 6 (.all [(7,.done)]))])])]))))] }
noncomputable def spec_l2Two:Ctx:={ P:=Tryz.prog,T:=TTab,M:=MM,nW:=0,kp:=[(0,[2,3]),(1,[4])],lp:=[],pl:=[] }
noncomputable def spec_l2Exp:Ctx:={ P:=Tryz.prog,T:=TTab,M:=MM,nW:=0,kp:=[(0,[0,1]),(1,[0,1,5]),(2,[0,5,6]),(3,[0,5,6,12]),(4,[0,5,6]),(5,[0,5,6]),(6,[0,5,6]),(7,[4])],lp:=[(0,[0,5,6])],pl:=[] }
noncomputable def spec_l2Shut:Ctx:={ P:=Tryz.prog,T:=TTab,M:=MM,nW:=0,kp:=[(0,[0,1,4]),(1,[0,1,4,10]),(2,[4,5]),(3,[0,1,4,6]),(4,[0,1,4,6,7]),(5,[0,1,4,6,7,18]),(6,[0,1,4,6,7]),(7,[0,1,4,6,7]),(8,[4,6,41]),(9,[4,5]),(10,[4,5])],lp:=[(0,[0,1,4,6,7])],pl:=[(7,.take 0 (.take 1 (.take 2 (.take 3 (.take 4 (.take 5 (.take 6 (.take 7 (.take 9 (.take 10 (.take 11 (.take 12 (.take 13 (.all [(8,.take 14 (.all [(15,.all [(16,.take 17 (.all [(18,.done)]))])]))]))))))))))))))] }
noncomputable def spec_l2Key:Ctx:={ P:=Tryz.prog,T:=TTab,M:=MM,nW:=0,kp:=[(0,[0]),(1,[0,3]),(2,[0,3,4]),(3,[0,3,4,8]),(4,[0,3,4]),(5,[0,3,4]),(6,[2])],lp:=[(0,[0,3,4])],pl:=[] }
noncomputable def spec_l2Base:Ctx:={ P:=Tryz.prog,T:=TTab,M:=MM,nW:=0,kp:=[(0,[0]),(1,[2])],lp:=[],pl:=[] }
noncomputable def spec_l2Open:Ctx:={ P:=Tryz.prog,T:=TTab,M:=MM,nW:=0,kp:=[(0,[1]),(1,[1,3]),(2,[1,3,4]),(3,[1,3,4,10]),(4,[1,3,4]),(5,[1,3,4]),(6,[2])],lp:=[(0,[1,3,4])],pl:=[(5,.take 0 (.take 1 (.take 2 (.take 3 (.take 4 (.take 5 (.take 6 (.take 8 (.take 9 (.take 10 (.take 11 (.take 12 (.take 13 (.all [(7,.take 14 (.all [(15,.all [(16,.take 17 (.done))])]))]))))))))))))))] }
noncomputable def spec_l2Gather:Ctx:={ P:=Tryz.prog,T:=TTab,M:=MM,nW:=0,kp:=[(0,[0]),(1,[3]),(2,[3,4]),(3,[3,4,19]),(4,[3,4]),(5,[3,4,5]),(6,[3,4,5,6]),(7,[3,4,5,6,28]),(8,[3,4,5,6]),(9,[3,4,5,6,7]),(10,[3,4,5,6,7,8]),(11,[3,4,5,6,7,8,9]),(12,[3,4,5,6,7,8,9,10]),(13,[3,4,5,6,7,8,9,10,55]),(14,[3,4,5,6,7,8,9,10,76]),(15,[3,4,5,6,7,8,9,10]),(16,[3,4,5,6,7,8,9,10]),(17,[3,4,5,6,7,8,9,10]),(18,[3,4,5,6,7,8,9,10]),(19,[3,4]),(20,[3,11]),(21,[3,11,12]),(22,[3,11,12,100]),(23,[3,11,12]),(24,[3,11,12,120]),(25,[3,11,12]),(26,[3,11,12]),(27,[3,11,12,165]),(28,[3,11,12,173]),(29,[3,11,12]),(30,[2])],lp:=[(0,[3,4]),(2,[3,4,5,6]),(4,[3,4,5,6,7,8,9,10]),(6,[3,11,12])],pl:=[(14,.take 0 (.take 1 (.take 2 (.take 3 (.take 4 (.take 5 (.take 6 (.take 7 (.take 8 (.take 9 (.take 10 (.take 11 (.take 12 (.take 13 (.take 14 (.take 15 (.take 16 (.take 17 (.take 18 (.take 19 (.take 20 (.done)))))))))))))))))))))),(24,.take 0 (.take 1 (.take 2 (.take 3 (.take 4 (.take 5 (.take 6 (.take 7 (.take 8 (.take 9 (.take 10 (.take 11 (.take 12 (.take 13 (.take 14 (.take 15 (.take 16 (.take 17 (.done))))))))))))))))))),(25,.take 0 (.take 1 (.take 2 (.take 3 (.take 4 (.take 5 (.take 6 (.take 7 (.take 8 (.take 9 (.take 10 (.take 11 (.take 12 (.take 13 (.take 14 (.take 15 (.take 16 (.take 17 (.take 18 (.all [(19,.done)])))))))))))))))))))),(27,.take 0 (.take 1 (.take 2 (.take 3 (.take 4 (.take 5 (.take 6 (.take 7 (.take 8 (.take 9 (.take 10 (.take 11 (.take 12 (.take 13 (.take 14 (.take 15 (.take 16 (.take 17 (.take 18 (.done))))))))))))))))))))] }
noncomputable def spec_l2Times:Ctx:={ P:=Tryz.prog,T:=TTab,M:=MM,nW:=0,kp:=[(0,[0,1,2]),(1,[0,1,2,7]),(2,[0,1,2,7,8]),(3,[0,1,2,7,8,19]),(4,[0,1,2,7,8]),(5,[0,1,2,7,8,9]),(6,[0,1,2,7,8,9,25]),(7,[0,1,2,7,8,9]),(8,[0,1,2,7,8,9]),(9,[6])],lp:=[(0,[0,1,2,7,8]),(2,[0,1,2,7,8,9])],pl:=[(8,.take 0 (.take 1 (.take 2 (.take 3 (.take 4 (.take 5 (.take 6 (.take 7 (.take 8 (.take 9 (.take 10 (.take 11 (.take 12 (.take 13 (.take 14 (.take 15 (.take 16 (.take 17 (.take 18 (.take 19 (.take 20 (.take 21 (.take 22 (.take 23 (.take 24 (.take 25 (.all [(26,.all [(27,.take 28 (.done))])])))))))))))))))))))))))))))] }
noncomputable def spec_MulLaurents:Ctx:={ P:=Tryz.prog,T:=TTab,M:=MM,nW:=0,kp:=[(0,[2,3,4]),(1,[2,3,4,9]),(2,[4,5]),(3,[4,5])],lp:=[],pl:=[(3,.take 0 (.take 2 (.take 4 (.take 5 (.take 8 (.take 9 (.all [(1,.all [(3,.all [(6,.all [(7,.all [(10,.take 11 (.take 12 (.all [(13,.take 14 (.done))])))])])])])])))))))] }
noncomputable def spec_l2Least:Ctx:={ P:=Tryz.prog,T:=TTab,M:=MM,nW:=0,kp:=[(0,[1]),(1,[1,3]),(2,[1,3,4]),(3,[1,3,4,16]),(4,[1,3,4]),(5,[1,3,4,5]),(6,[1,3,4,5,22]),(7,[1,3,4,5]),(8,[1,3,4,5]),(9,[2])],lp:=[(0,[1,3,4]),(2,[1,3,4,5])],pl:=[(8,.take 0 (.take 1 (.take 2 (.take 3 (.take 4 (.take 5 (.take 6 (.take 7 (.take 8 (.take 9 (.take 10 (.take 11 (.take 12 (.take 13 (.take 14 (.take 15 (.take 16 (.all [(17,.done)]))))))))))))))))))] }
noncomputable def cmp_isNaN_int:Ctx:={ P:=Tryz.prog,T:=TTab,M:=MM,nW:=0,kp:=[(0,[0]),(1,[2])],lp:=[],pl:=[] }
noncomputable def cmp_Compare_int:Ctx:={ P:=Tryz.prog,T:=TTab,M:=MM,nW:=0,kp:=[(0,[0,1]),(1,[0,1,5]),(2,[0,1,5,6]),(3,[0,1,6,11]),(4,[12]),(5,[4]),(6,[4]),(7,[0,1,13]),(8,[4]),(9,[0,1,16]),(10,[4]),(11,[19]),(12,[4]),(13,[4])],lp:=[],pl:=[] }
noncomputable def slices_Compare_int_int:Ctx:={ P:=Tryz.prog,T:=TTab,M:=MM,nW:=0,kp:=[(0,[0,1]),(1,[0,1,9,10,11]),(2,[0,1,9,10,11,12]),(3,[0,1,5,6,9,10,11]),(4,[0,1,5,6,9,10,11,19]),(5,[4]),(6,[0,1,6,7,9,10,11]),(7,[0,1,8,9,10,11]),(8,[0,1,8,9,10,11,28]),(9,[4]),(10,[0,1,9,10,11]),(11,[35]),(12,[4]),(13,[4])],lp:=[(0,[0,1,9,10,11])],pl:=[] }
noncomputable def impl_coefOk:Ctx:={ P:=Tryz.prog,T:=TTab,M:=MM,nW:=0,kp:=[(0,[0]),(1,[2])],lp:=[],pl:=[] }
noncomputable def impl_LaurentOk:Ctx:={ P:=Tryz.prog,T:=TTab,M:=MM,nW:=0,kp:=[(0,[1]),(1,[1,14]),(2,[2]),(3,[1,16,17,18]),(4,[1,16,17,18,19]),(5,[1,3,4,16,17,18]),(6,[1,16,17,18,51]),(7,[2]),(8,[1,16,17,18]),(9,[2])],lp:=[(0,[1,16,17,18])],pl:=[(6,.take 0 (.take 1 (.take 2 (.take 3 (.all [(4,.take 5 (.take 6 (.take 7 (.take 8 (.all [(9,.take 10 (.take 11 (.take 12 (.take 13 (.take 14 (.take 15 (.take 16 (.take 17 (.take 18 (.take 19 (.take 20 (.take 21 (.take 22 (.take 23 (.take 24 (.all [(25,.take 26 (.take 27 (.take 28 (.done))))]))))))))))))))))])))))])))))] }
noncomputable def impl_bothOk:Ctx:={ P:=Tryz.prog,T:=TTab,M:=MM,nW:=0,kp:=[(0,[2,3]),(1,[4])],lp:=[],pl:=[] }
noncomputable def impl_newBuilding:Ctx:={ P:=Tryz.prog,T:=TTab,M:=MM,nW:=0,kp:=[(0,[0]),(1,[2])],lp:=[],pl:=[] }
noncomputable def impl_building_add:Ctx:={ P:=Tryz.prog,T:=TTab,M:=MM,nW:=1,kp:=[(0,[0,2,4]),(1,[0,2,4]),(2,[0,2,4,15]),(3,[]),(4,[])],lp:=[],pl:=[(1,.take 0 (.take 1 (.take 2 (.take 3 (.take 4 (.take 5 (.take 6 (.take 7 (.take 8 (.done)))))))))),(3,.take 0 (.take 1 (.take 2 (.take 3 (.take 4 (.all [(5,.done)])))))),(4,.take 0 (.take 1 (.take 2 (.take 3 (.take 4 (.take 5 (.all [(6,.done)])))))))] }
noncomputable def impl_plusExp:Ctx:={ P:=Tryz.prog,T:=TTab,M:=MM,nW:=0,kp:=[(0,[1,3,5,6]),(1,[1,3,5,6,8]),(2,[1,3,5,6,8,9]),(3,[1,3,5,6,7,8]),(4,[1,3,5,6,8]),(5,[1,3,5,6,8]),(6,[6])],lp:=[(0,[1,3,5,6,8])],pl:=[(4,.take 0 (.take 1 (.take 2 (.take 3 (.take 4 (.take 5 (.take 6 (.take 7 (.take 8 (.take 9 (.all [(10,.done)])))))))))))] }
noncomputable def impl_keyOf:Ctx:={ P:=Tryz.prog,T:=TTab,M:=MM,nW:=0,kp:=[(0,[0,2]),(1,[0,2,3]),(2,[2,3]),(3,[2])],lp:=[],pl:=[] }
noncomputable def slices_SortFunc_impl_Term_impl_Term:Ctx:={ P:=Tryz.prog,T:=TTab,M:=MM,nW:=0,kp:=[(0,[0,1,4]),(1,[])],lp:=[],pl:=[] }
noncomputable def impl_building_done_1:Ctx:={ P:=Tryz.prog,T:=TTab,M:=MM,nW:=0,kp:=[(0,[2,3]),(1,[4])],lp:=[],pl:=[] }
noncomputable def impl_building_done:Ctx:={ P:=Tryz.prog,T:=TTab,M:=MM,nW:=1,kp:=[(0,[0,2]),(1,[0,2,4]),(2,[0,2,4,17]),(3,[2,3]),(4,[0,2,4,23]),(5,[0,2,4,23,25]),(6,[0,2,4,5,6,23]),(7,[0,2,4,23]),(8,[2,4]),(9,[2,4,47]),(10,[2,3]),(11,[2,3])],lp:=[(0,[0,2,4,23])],pl:=[(7,.take 0 (.take 1 (.take 2 (.take 3 (.take 4 (.take 5 (.take 6 (.take 8 (.all [(7,.take 9 (.all [(10,.all [(11,.take 12 (.all [(13,.done)]))])]))])))))))))] }
noncomputable def impl_MulLaurents:Ctx:={ P:=Tryz.prog,T:=TTab,M:=MM,nW:=0,kp:=[(0,[2,3,4]),(1,[2,3,4,14]),(2,[4,5]),(3,[2,3,4,6]),(4,[3,4,6,20,21,22]),(5,[3,4,6,20,21,22,23]),(6,[3,4,6,8,20,21,22]),(7,[3,4,6,8,20,21,22,27,28,29]),(8,[3,4,6,8,20,21,22,27,28,29,30]),(9,[3,4,6,8,10,20,21,22,27,28,29]),(10,[3,4,6,8,20,21,22,27,28,29]),(11,[3,4,6,8,20,21,22,27,28,29]),(12,[3,4,6,20,21,22]),(13,[4,5])],lp:=[(0,[3,4,6,20,21,22]),(2,[3,4,6,8,20,21,22,27,28,29])],pl:=[(10,.take 0 (.take 1 (.take 2 (.take 4 (.take 5 (.take 8 (.take 9 (.take 10 (.take 11 (.take 12 (.all [(3,.all [(6,.all [(7,.all [(13,.done)])])])])))))))))))] }
noncomputable def impl_ConstantLaurent:Ctx:={ P:=Tryz.prog,T:=TTab,M:=MM,nW:=0,kp:=[(0,[0,1,4]),(1,[0,1,4,12]),(2,[4]),(3,[0,1,4,15]),(4,[4]),(5,[4])],lp:=[],pl:=[] }
noncomputable def impl_DivideLaurents:Ctx:={ P:=Tryz.prog,T:=TTab,M:=MM,nW:=0,kp:=[(0,[2,3,4]),(1,[2,3,4,28]),(2,[4,5]),(3,[2,3,4,6]),(4,[2,3,4,6,34,35,36]),(5,[2,3,4,6,34,35,36,37]),(6,[2,3,4,6,8,34,35,36]),(7,[2,3,4,6,34,35,36]),(8,[2,3,4,6,34,35,36]),(9,[2,3,4,6,9]),(10,[2,3,4,6,9,10]),(11,[2,3,4,6,9,10,60]),(12,[2,3,4,6,9,10,11]),(13,[2,3,4,6,9,10,11,12]),(14,[2,3,4,6,9,10,11,12,65]),(15,[2,3,4,6,9,10,11,12,65,67]),(16,[2,3,4,6,9,10,11,12,13,65]),(17,[2,3,4,6,9,10,11,12,13,65,76]),(18,[2,3,4,6,9,10,11,12,65]),(19,[2,3,4,6,9,10,11,14]),(20,[2,3,4,6,9,10,14,15]),(21,[2,3,4,6,9,10,14,15,16]),(22,[2,3,4,6,9,10,15,16,119]),(23,[4,5]),(24,[2,3,4,6,9,10,15,16]),(25,[2,3,4,6,9,10,15,16,126,127,128]),(26,[2,3,4,6,9,10,15,16,126,127,128,129]),(27,[2,3,4,6,9,10,15,16,18,126,127,128]),(28,[2,3,4,6,9,10,15,16,126,127,128]),(29,[2,3,4,6,9,10,15,16,126,127,128]),(30,[4,5])],lp:=[(0,[2,3,4,6,34,35,36]),(2,[2,3,4,6,9,10]),(4,[2,3,4,6,9,10,11,12,65]),(6,[2,3,4,6,9,10,15,16,126,127,128])],pl:=[(7,.take 0 (.take 1 (.take 2 (.take 4 (.take 5 (.all [(3,.all [(6,.done)])])))))),(17,.take 0 (.take 1 (.take 2 (.take 3 (.all [(4,.take 5 (.take 6 (.done)))]))))),(19,.take 0 (.take 1 (.take 2 (.take 3 (.take 4 (.take 5 (.take 6 (.done)))))))),(20,.take 0 (.take 1 (.take 2 (.all [(3,.all [(4,.all [(5,.all [(6,.done)])]),(5,.all [(4,.all [(6,.done)])])]),(5,.all [(3,.all [(4,.all [(6,.done)])])])])))),(22,.take 0 (.take 1 (.take 2 (.take 3 (.take 4 (.take 5 (.take 6 (.take 7 (.take 8 (.take 9 (.take 10 (.all [(11,.take 12 (.take 13 (.take 14 (.take 15 (.all [(16,.take 17 (.take 18 (.take 19 (.take 20 (.take 21 (.take 22 (.take 23 (.take 24 (.take 25 (.take 26 (.done)))))))))))])))))])))))))))))),(28,.take 0 (.take 1 (.take 2 (.take 3 (.take 6 (.take 7 (.take 8 (.take 9 (.take 10 (.all [(4,.all [(5,.all [(11,.done)])])]))))))))))] }
noncomputable def spec_DivideLaurents:Ctx:={ P:=Tryz.prog,T:=TTab,M:=MM,nW:=0,kp:=[(0,[2,3,4]),(1,[2,3,4,15]),(2,[4,5]),(3,[4,5])],lp:=[],pl:=[] }
noncomputable def spec_l2Divide:Ctx:={ P:=Tryz.prog,T:=TTab,M:=MM,nW:=0,kp:=[(0,[2,3,4]),(1,[2,3,4,6]),(2,[2,3,4,6,7]),(3,[2,3,4,6,7,8]),(4,[2,3,4,6,7,8,9]),(5,[2,3,4,6,7,8,9,28]),(6,[4,5]),(7,[2,3,4,6,7,8,9,10,11]),(8,[2,3,4,6,7,8,9,10,11,12,13]),(9,[2,3,4,6,7,8,9,10,11,12,13,45]),(10,[2,3,4,6,7,8,9,10,11,12,13,55]),(11,[4,5]),(12,[2,3,4,6,7,8,9,10,11,12,13,14]),(13,[2,3,4,6,7,8,9,10,11,12,13,14,15]),(14,[2,3,4,6,7,8,9,10,11,12,13,14,15,16]),(15,[2,3,4,6,7,8,9,10,11,12,13,14,15,16,17]),(16,[2,3,4,6,7,8,9,10,11,12,13,14,15,16,17,78]),(17,[2,3,4,6,7,8,9,10,11,12,13,14,15,16,17]),(18,[2,3,4,6,7,8,9,10,11,12,13,14,15,16,17]),(19,[2,3,4,6,7,8,9,10,11,12,13,14,15,16,17,120]),(20,[4,5]),(21,[2,3,4,6,7,8,9,10,11,12,13,14]),(22,[2,3,4,6,7,8,9,10,11,12,13,14,133]),(23,[4,5]),(24,[2,3,4,6,7,8,9,10,11,12,13,14]),(25,[2,3,4,6,7,8,9,10,11,12,13]),(26,[4,5])],lp:=[(0,[2,3,4,6,7,8,9,10,11,12,13]),(2,[2,3,4,6,7,8,9,10,11,12,13,14,15,16,17])],pl:=[(7,.take 0 (.take 2 (.all [(1,.all [(3,.take 4 (.take 5 (.done)))])]))),(8,.take 0 (.take 2 (.all [(1,.all [(3,.take 4 (.take 5 (.done)))])]))),(10,.take 0 (.take 1 (.take 2 (.take 3 (.take 4 (.take 5 (.take 6 (.take 7 (.take 8 (.take 9 (.done))))))))))),(12,.take 0 (.take 1 (.take 2 (.take 3 (.take 4 (.take 5 (.take 6 (.take 7 (.take 8 (.take 9 (.all [(10,.all [(11,.done)])]))))))))))),(13,.take 0 (.take 1 (.take 2 (.take 3 (.take 4 (.take 5 (.all [(6,.take 7 (.done))]))))))),(18,.take 0 (.take 1 (.take 2 (.take 3 (.take 4 (.take 5 (.take 6 (.take 7 (.take 8 (.take 9 (.take 10 (.take 11 (.take 12 (.take 13 (.all [(14,.all [(15,.take 16 (.done))])]))))))))))))))),(19,.take 0 (.take 1 (.take 2 (.take 3 (.take 4 (.take 5 (.take 6 (.take 7 (.take 8 (.take 9 (.take 10 (.take 11 (.take 12 (.take 13 (.take 14 (.take 15 (.take 16 (.take 17 (.take 18 (.take 19 (.take 20 (.take 21 (.all [(22,.take 23 (.done))])))))))))))))))))))))))] }
noncomputable def spec_l2Plus:Ctx:={ P:=Tryz.prog,T:=TTab,M:=MM,nW:=0,kp:=[(0,[0,1,2]),(1,[1,2,7]),(2,[1,2,7,8]),(3,[1,2,7,8,15]),(4,[1,2,7,8]),(5,[1,2,7,8]),(6,[6])],lp:=[(0,[1,2,7,8])],pl:=[(5,.take 0 (.take 1 (.take 2 (.take 3 (.take 4 (.take 5 (.take 6 (.take 7 (.take 8 (.take 9 (.take 10 (.take 11 (.take 12 (.take 13 (.all [(14,.all [(15,.take 16 (.done))])])))))))))))))))] }
noncomputable def spec_l2Most:Ctx:={ P:=Tryz.prog,T:=TTab,M:=MM,nW:=0,kp:=[(0,[1]),(1,[1,3]),(2,[1,3,4]),(3,[1,3,4,16]),(4,[1,3,4]),(5,[1,3,4,5]),(6,[1,3,4,5,22]),(7,[1,3,4,5]),(8,[1,3,4,5]),(9,[2])],lp:=[(0,[1,3,4]),(2,[1,3,4,5])],pl:=[(8,.take 0 (.take 1 (.take 2 (.take 3 (.take 4 (.take 5 (.take 6 (.take 7 (.take 8 (.take 9 (.take 10 (.take 11 (.take 12 (.take 13 (.take 14 (.take 15 (.take 16 (.all [(17,.done)]))))))))))))))))))] }
noncomputable def impl_AddLaurents:Ctx:={ P:=Tryz.prog,T:=TTab,M:=MM,nW:=0,kp:=[(0,[1,3,5,6]),(1,[1,3,5,6,21]),(2,[6,7]),(3,[1,3,5,6,8]),(4,[1,5,6,8,27,28,29]),(5,[1,5,6,8,27,28,29,30]),(6,[1,5,6,8,10,27,28,29]),(7,[1,5,6,8,27,28,29]),(8,[1,5,6,8,27,28,29]),(9,[1,6,8,42,43,44]),(10,[1,6,8,42,43,44,45]),(11,[1,6,8,12,42,43,44]),(12,[1,6,8,42,43,44]),(13,[1,6,8,42,43,44]),(14,[6,7])],lp:=[(0,[1,5,6,8,27,28,29]),(2,[1,6,8,42,43,44])],pl:=[(7,.take 0 (.take 1 (.take 2 (.take 4 (.take 5 (.all [(3,.all [(6,.done)])])))))),(12,.take 0 (.take 1 (.take 2 (.take 4 (.take 5 (.take 6 (.take 7 (.all [(3,.all [(8,.done)])]))))))))] }
noncomputable def laws_big:Ctx:={ P:=Tryz.prog,T:=TTab,M:=MM,nW:=0,kp:=[(0,[0]),(1,[2])],lp:=[],pl:=[] }
noncomputable def laws_ints:Ctx:={ P:=Tryz.prog,T:=TTab,M:=MM,nW:=0,kp:=[(0,[0,1]),(1,[0,1,10]),(2,[4]),(3,[0,1,5]),(4,[0,1,5,14]),(5,[0,1,5]),(6,[0,1,5,25]),(7,[4]),(8,[4])],lp:=[(0,[0,1,5])],pl:=[(6,.take 0 (.take 1 (.take 2 (.take 3 (.take 4 (.take 5 (.take 6 (.take 7 (.take 8 (.done))))))))))] }
noncomputable def laws_laurents:Ctx:={ P:=Tryz.prog,T:=TTab,M:=MM,nW:=0,kp:=[(0,[2,3]),(1,[2,3,19]),(2,[4]),(3,[2,3,5]),(4,[2,3,5,24]),(5,[2,3,5]),(6,[2,3,5,55]),(7,[4]),(8,[4])],lp:=[(0,[2,3,5])],pl:=[(6,.take 0 (.take 1 (.take 2 (.take 3 (.take 4 (.take 5 (.take 6 (.take 7 (.take 8 (.take 9 (.take 10 (.take 11 (.take 12 (.take 13 (.take 14 (.take 15 (.take 16 (.take 17 (.take 18 (.take 19 (.take 20 (.take 21 (.take 22 (.take 23 (.take 24 (.take 25 (.all [(26,.take 27 (.take 28 (.done)))])))))))))))))))))))))))))))] }
noncomputable def spec_AddLaurents:Ctx:={ P:=Tryz.prog,T:=TTab,M:=MM,nW:=0,kp:=[(0,[1,3,5,6]),(1,[1,3,5,6,16]),(2,[6,7]),(3,[6,7])],lp:=[],pl:=[(3,.take 0 (.take 2 (.take 3 (.take 6 (.take 7 (.all [(1,.all [(4,.all [(5,.all [(8,.take 9 (.take 10 (.all [(11,.take 12 (.done))])))])])])]))))))] }
noncomputable def spec_SomosLaurents:Ctx:={ P:=Tryz.prog,T:=TTab,M:=MM,nW:=0,kp:=[(0,[0,1]),(1,[0,1,23]),(2,[4,5]),(3,[0,1,6]),(4,[0,1,6,7]),(5,[0,1,6,7,27]),(6,[0,1,6,7]),(7,[0,1,6,7,32]),(8,[0,1,6,7]),(9,[0,1,6,7,8]),(10,[0,1,6,7,8,9]),(11,[0,1,6,7,8,9,46]),(12,[0,1,6,7,8,9]),(13,[0,1,6,7,8,9,10,11]),(14,[0,1,6,7,8,9,11,12,13]),(15,[0,1,6,7,8,9,12,78]),(16,[4,5]),(17,[0,1,6,7,8,9]),(18,[0,1,6,7,14,15]),(19,[0,1,6,7,14,92]),(20,[4,5]),(21,[0,1,6,7]),(22,[4,5])],lp:=[(0,[0,1,6,7]),(2,[0,1,6,7,8,9])],pl:=[(13,.take 0 (.take 1 (.take 2 (.take 3 (.take 4 (.take 5 (.take 6 (.take 7 (.take 8 (.take 9 (.take 10 (.take 11 (.take 12 (.take 13 (.all [(14,.take 15 (.take 16 (.take 17 (.all [(18,.all [(19,.take 20 (.done))])])))),(18,.all [(14,.take 15 (.take 16 (.take 17 (.all [(19,.take 20 (.done))]))))])]))))))))))))))),(18,.take 0 (.take 1 (.take 2 (.take 3 (.take 4 (.take 5 (.take 6 (.all [(7,.take 8 (.take 9 (.take 10 (.all [(11,.all [(12,.take 13 (.done))])])))),(11,.all [(7,.take 8 (.take 9 (.take 10 (.all [(12,.take 13 (.done))]))))])]))))))))] }
noncomputable def impl_SomosLaurents:Ctx:={ P:=Tryz.prog,T:=TTab,M:=MM,nW:=0,kp:=[(0,[0,1]),(1,[0,1,23]),(2,[4,5]),(3,[0,1,6]),(4,[0,1,6,7]),(5,[0,1,6,7,26]),(6,[0,1,6,7]),(7,[0,1,6,7,31]),(8,[0,1,6,7]),(9,[0,1,6,7,8]),(10,[0,1,6,7,8,9]),(11,[0,1,6,7,8,9,44]),(12,[0,1,6,7,8,9]),(13,[0,1,6,7,8,9,10,11]),(14,[0,1,6,7,8,9,11,12,13]),(15,[0,1,6,7,8,9,12,76]),(16,[4,5]),(17,[0,1,6,7,8,9]),(18,[0,1,6,7,14,15]),(19,[0,1,6,7,14,90]),(20,[4,5]),(21,[0,1,6,7]),(22,[4,5])],lp:=[(0,[0,1,6,7]),(2,[0,1,6,7,8,9])],pl:=[(13,.take 0 (.take 1 (.take 2 (.take 3 (.take 4 (.take 5 (.take 6 (.take 7 (.take 8 (.take 9 (.take 10 (.take 11 (.take 12 (.take 13 (.all [(14,.take 15 (.take 16 (.take 17 (.all [(18,.all [(19,.take 20 (.done))])])))),(18,.all [(14,.take 15 (.take 16 (.take 17 (.all [(19,.take 20 (.done))]))))])]))))))))))))))),(18,.take 0 (.take 1 (.take 2 (.take 3 (.take 4 (.take 5 (.take 6 (.all [(7,.take 8 (.take 9 (.take 10 (.all [(11,.all [(12,.take 13 (.done))])])))),(11,.all [(7,.take 8 (.take 9 (.take 10 (.all [(12,.take 13 (.done))]))))])]))))))))] }
noncomputable def impl_MutateMatrix:Ctx:={ P:=Tryz.prog,T:=TTab,M:=MM,nW:=0,kp:=[(0,[1,2,4]),(1,[1,2,4,17]),(2,[4,5]),(3,[4,6]),(4,[4,6,24]),(5,[4,5]),(6,[4,5])],lp:=[],pl:=[] }
noncomputable def impl_MutateSeed:Ctx:={ P:=Tryz.prog,T:=TTab,M:=MM,nW:=0,kp:=[(0,[1,2,4]),(1,[1,2,4,22]),(2,[4,5]),(3,[1,2,4,6,7]),(4,[1,2,4,6,7,8,9]),(5,[1,2,4,6,8,45]),(6,[4,5]),(7,[1,4,6,8,10]),(8,[1,4,6,10]),(9,[4,10]),(10,[4,5])],lp:=[],pl:=[] }
noncomputable def impl_SeedOk_1:Ctx:={ P:=Tryz.prog,T:=TTab,M:=MM,nW:=0,kp:=[(0,[1,2]),(1,[3])],lp:=[],pl:=[] }
noncomputable def impl_SeedOk:Ctx:={ P:=Tryz.prog,T:=TTab,M:=MM,nW:=0,kp:=[(0,[1]),(1,[1,15]),(2,[2]),(3,[2])],lp:=[],pl:=[] }
noncomputable def impl_exchange:Ctx:={ P:=Tryz.prog,T:=TTab,M:=MM,nW:=0,kp:=[(0,[1,2,3,6]),(1,[1,2,3,6,8]),(2,[1,2,3,6,8,18,19,20]),(3,[1,2,3,6,8,18,19,20,21]),(4,[1,2,3,6,8,9,10,18,19,20]),(5,[1,2,3,6,8,9,10,11,18,19,20]),(6,[1,2,3,6,8,9,10,11,18,19,20]),(7,[1,2,3,6,8,9,10,11,18,19,20,31,32,33]),(8,[1,2,3,6,8,9,10,11,18,19,20,31,32,33,34]),(9,[1,2,3,6,8,9,10,11,13,14,18,19,20,31,32,33]),(10,[1,2,3,6,8,9,10,11,14,15,18,19,20,31,32,33]),(11,[1,2,3,6,8,9,10,11,14,15,18,19,20,31,32,33,45]),(12,[6,7]),(13,[1,2,3,6,8,9,10,11,14,15,18,19,20,31,32,33,48]),(14,[1,2,3,6,8,9,10,11,14,15,18,19,20,31,32,33]),(15,[1,2,3,6,8,9,10,11,12,14,15,18,19,20,31,32,33]),(16,[1,2,3,6,8,9,10,11,14,15,18,19,20,31,32,33,58]),(17,[6,7]),(18,[1,2,3,6,8,9,10,11,18,19,20,31,32,33]),(19,[1,2,3,6,8,18,19,20]),(20,[1,2,3,6,8,18,19,20]),(21,[1,2,6,16,17]),(22,[1,2,6,16,74]),(23,[6,7]),(24,[6,7])],lp:=[(0,[1,2,3,6,8,18,19,20]),(2,[1,2,3,6,8,9,10,11,18,19,20,31,32,33]),(4,[1,2,3,6,8,9,10,11,14,15,18,19,20,31,32,33])],pl:=[(24,.take 0 (.take 1 (.take 2 (.take 3 (.take 4 (.all [(5,.take 6 (.take 7 (.all [(8,.take 9 (.done))])))]))))))] }
noncomputable def impl_mutated:Ctx:={ P:=Tryz.prog,T:=TTab,M:=MM,nW:=0,kp:=[(0,[1,2,4]),(1,[1,2,4,5]),(2,[1,2,4,5,6]),(3,[1,2,4,5,6,22]),(4,[1,2,4,5,6]),(5,[1,2,4,5,6,7]),(6,[1,2,4,5,6,7,28]),(7,[1,2,4,5,6,7]),(8,[1,2,4,5,6,7,8]),(9,[1,2,4,5,6,7,8,9,10]),(10,[1,2,4,5,6,7,8,9,10,48]),(11,[1,2,4,5,6,7]),(12,[1,2,4,5,6,7,8,9,10,63]),(13,[1,2,4,5,6,7]),(14,[1,2,4,5,6,7,8,9,10,78]),(15,[1,2,4,5,6,7]),(16,[4])],lp:=[(0,[1,2,4,5,6]),(2,[1,2,4,5,6,7])],pl:=[(1,.take 0 (.take 1 (.take 2 (.take 3 (.take 4 (.take 5 (.all [(6,.take 7 (.all [(8,.all [(9,.done)])])),(8,.all [(6,.take 7 (.all [(9,.done)]))])]))))))),(9,.take 0 (.take 1 (.take 2 (.take 4 (.take 5 (.take 6 (.all [(3,.all [(7,.take 8 (.take 9 (.done)))])])))))))] }
noncomputable def slices_IndexFunc_impl_Laurent_impl_Laurent:Ctx:={ P:=Tryz.prog,T:=TTab,M:=MM,nW:=0,kp:=[(0,[0,1]),(1,[0,1,7,8]),(2,[0,1,7,8,9]),(3,[0,1,5,7,8]),(4,[0,1,5,7,8,16]),(5,[4]),(6,[0,1,7,8]),(7,[4])],lp:=[(0,[0,1,7,8])],pl:=[] }
noncomputable def slices_ContainsFunc_impl_Laurent_impl_Laurent:Ctx:={ P:=Tryz.prog,T:=TTab,M:=MM,nW:=0,kp:=[(0,[0,1]),(1,[4])],lp:=[],pl:=[] }
noncomputable def impl_residue:Ctx:={ P:=Tryz.prog,T:=TTab,M:=MM,nW:=0,kp:=[(0,[0]),(1,[2])],lp:=[],pl:=[] }
noncomputable def impl_powerOf:Ctx:={ P:=Tryz.prog,T:=TTab,M:=MM,nW:=0,kp:=[(0,[0,1]),(1,[0,1,5]),(2,[0,1,5,7]),(3,[0,1,5]),(4,[0,1,5]),(5,[4])],lp:=[(0,[0,1,5])],pl:=[] }
noncomputable def impl_inverse:Ctx:={ P:=Tryz.prog,T:=TTab,M:=MM,nW:=0,kp:=[(0,[0]),(1,[3,4]),(2,[3,4,5]),(3,[3,4,5,8]),(4,[3,4,5]),(5,[3,4,5,13]),(6,[3,4,5]),(7,[3,4,5]),(8,[2])],lp:=[(0,[3,4,5])],pl:=[] }
noncomputable def impl_EvaluateLaurent_1:Ctx:={ P:=Tryz.prog,T:=TTab,M:=MM,nW:=0,kp:=[(0,[0]),(1,[2])],lp:=[],pl:=[] }
noncomputable def impl_EvaluateLaurent:Ctx:={ P:=Tryz.prog,T:=TTab,M:=MM,nW:=0,kp:=[(0,[1,2]),(1,[1,2,25]),(2,[4]),(3,[1,2,5]),(4,[1,5,27,28,29]),(5,[1,5,27,28,29,30]),(6,[1,5,7,27,28,29]),(7,[1,5,7,8,27,28,29]),(8,[1,5,8,27,28,29,37,38,39]),(9,[1,5,8,27,28,29,37,38,39,40]),(10,[1,5,8,9,10,27,28,29,37,38,39]),(11,[1,5,8,10,11,27,28,29,37,38,39]),(12,[1,5,8,10,11,27,28,29,37,38,39,50]),(13,[1,5,8,10,11,27,28,29,37,38,39]),(14,[1,5,8,27,28,29,37,38,39]),(15,[1,5,8,27,28,29,37,38,39]),(16,[1,5,27,28,29]),(17,[1,5,27,28,29]),(18,[4])],lp:=[(0,[1,5,27,28,29]),(2,[1,5,8,27,28,29,37,38,39])],pl:=[] }
noncomputable def laws_at0:Ctx:={ P:=Tryz.prog,T:=TTab,M:=MM,nW:=0,kp:=[(0,[0,1]),(1,[0,1,8]),(2,[4]),(3,[4])],lp:=[],pl:=[] }
noncomputable def impl_IsPositive:Ctx:={ P:=Tryz.prog,T:=TTab,M:=MM,nW:=0,kp:=[(0,[1]),(1,[2])],lp:=[],pl:=[] }
noncomputable def impl_IsPositive_1:Ctx:={ P:=Tryz.prog,T:=TTab,M:=MM,nW:=0,kp:=[(0,[1]),(1,[2])],lp:=[],pl:=[] }
noncomputable def slices_IndexFunc_impl_Term_impl_Term:Ctx:={ P:=Tryz.prog,T:=TTab,M:=MM,nW:=0,kp:=[(0,[0,1]),(1,[0,1,7,8]),(2,[0,1,7,8,9]),(3,[0,1,5,7,8]),(4,[0,1,5,7,8,16]),(5,[4]),(6,[0,1,7,8]),(7,[4])],lp:=[(0,[0,1,7,8])],pl:=[] }
noncomputable def slices_ContainsFunc_impl_Term_impl_Term:Ctx:={ P:=Tryz.prog,T:=TTab,M:=MM,nW:=0,kp:=[(0,[0,1]),(1,[4])],lp:=[],pl:=[] }
noncomputable def slices_Index_int_int:Ctx:={ P:=Tryz.prog,T:=TTab,M:=MM,nW:=0,kp:=[(0,[0,1]),(1,[0,1,7,8]),(2,[0,1,7,8,9]),(3,[0,1,5,7,8]),(4,[0,1,5,7,8,16]),(5,[4]),(6,[0,1,7,8]),(7,[4])],lp:=[(0,[0,1,7,8])],pl:=[] }
noncomputable def slices_Contains_int_int:Ctx:={ P:=Tryz.prog,T:=TTab,M:=MM,nW:=0,kp:=[(0,[0,1]),(1,[4])],lp:=[],pl:=[] }
noncomputable def impl_isOrder:Ctx:={ P:=Tryz.prog,T:=TTab,M:=MM,nW:=0,kp:=[(0,[0,1]),(1,[0,1,10]),(2,[4]),(3,[0,1,11,12,13]),(4,[0,1,11,12,13,14]),(5,[0,1,5,6,11,12,13]),(6,[0,1,11,12,13,29]),(7,[4]),(8,[0,1,11,12,13]),(9,[4])],lp:=[(0,[0,1,11,12,13])],pl:=[] }
noncomputable def impl_RenameMatrix:Ctx:={ P:=Tryz.prog,T:=TTab,M:=MM,nW:=0,kp:=[(0,[1,2,4]),(1,[1,2,4,19]),(2,[4,5]),(3,[1,2,4,6]),(4,[1,2,4,6,7]),(5,[1,2,4,6,7,33]),(6,[1,2,4,6,7]),(7,[1,2,4,6,7,8]),(8,[1,2,4,6,7,8,40]),(9,[1,2,4,6,7,8]),(10,[1,2,4,6,7,8,9]),(11,[1,2,4,6,7,8,9,48]),(12,[1,2,4,6,7,8,9]),(13,[1,2,4,6,7,8,9]),(14,[4,5])],lp:=[(0,[1,2,4,6,7]),(2,[1,2,4,6,7,8,9])],pl:=[(3,.take 0 (.take 1 (.take 2 (.take 3 (.take 4 (.take 5 (.take 6 (.all [(7,.take 8 (.all [(9,.all [(10,.done)])])),(9,.all [(7,.take 8 (.all [(10,.done)]))])])))))))),(13,.take 0 (.take 1 (.take 2 (.take 3 (.take 4 (.take 5 (.take 6 (.take 7 (.take 8 (.take 9 (.take 10 (.take 11 (.take 12 (.take 13 (.all [(14,.take 15 (.all [(16,.done)]))])))))))))))))))] }
noncomputable def impl_SomosMatrix:Ctx:={ P:=Tryz.prog,T:=TTab,M:=MM,nW:=0,kp:=[(0,[0,2]),(1,[2,4]),(2,[2,4,5]),(3,[2,3]),(4,[2,9]),(5,[2,3]),(6,[2,3])],lp:=[],pl:=[] }
noncomputable def impl_SomosTerms:Ctx:={ P:=Tryz.prog,T:=TTab,M:=MM,nW:=0,kp:=[(0,[0,1]),(1,[0,1,17]),(2,[4,5]),(3,[0,1,6]),(4,[0,1,6,7]),(5,[0,1,6,7,20]),(6,[0,1,6,7]),(7,[0,1,6,7,8]),(8,[0,1,6,7,8,25]),(9,[0,1,6,7,8]),(10,[0,1,6,7,8,9]),(11,[0,1,6,7,8,9,29]),(12,[0,1,6,7,8,9]),(13,[0,1,6,7,8,9]),(14,[0,1,6,7,8]),(15,[0,1,6,7,8,58]),(16,[4,5]),(17,[0,1,6,7]),(18,[4,5])],lp:=[(0,[0,1,6,7]),(2,[0,1,6,7,8,9])],pl:=[(13,.take 0 (.take 1 (.take 2 (.take 3 (.take 4 (.take 5 (.take 6 (.take 7 (.take 8 (.take 9 (.take 10 (.take 11 (.take 12 (.take 13 (.take 14 (.take 15 (.take 16 (.take 17 (.done)))))))))))))))))))] }
noncomputable def laws_matrices:Ctx:={ P:=Tryz.prog,T:=TTab,M:=MM,nW:=0,kp:=[(0,[2,3]),(1,[4])],lp:=[],pl:=[] }
noncomputable def laws_ones:Ctx:={ P:=Tryz.prog,T:=TTab,M:=MM,nW:=0,kp:=[(0,[0]),(1,[0,3]),(2,[0,3,8]),(3,[0,3]),(4,[2])],lp:=[(0,[0,3])],pl:=[] }
noncomputable def laws_FnSomos:Ctx:={ P:=Tryz.prog,T:=TTab,M:=MM,nW:=0,kp:=[(0,[0]),(1,[0,26]),(2,[2]),(3,[0,3]),(4,[3,4]),(5,[3,4,5,6]),(6,[3,4,5,6,7,8]),(7,[3,4,5,6,7,8,10]),(8,[3,4,5,6,7,64]),(9,[2]),(10,[3,4,5,6,7,11]),(11,[3,4,5,6,7,11,70]),(12,[3,4,5,6,7,11]),(13,[3,4,5,6,7,11,93]),(14,[2]),(15,[3,4,5,6,12,13]),(16,[3,4,5,6,12,13,102]),(17,[2]),(18,[3,4,5,6,12,104]),(19,[2]),(20,[3,4,5,6,12,14,15]),(21,[3,4,5,6,12,14,15,16]),(22,[3,4,5,6,12,14,15,16,17]),(23,[3,4,5,6,12,14,15,16,17,113]),(24,[3,4,5,6,12,14,15,16,17]),(25,[3,4,5,6,12,14,15,16,17]),(26,[3,4,5,6,12,15,18,19]),(27,[3,4,5,6,12,15,18,19,20,21]),(28,[3,4,5,6,20,151]),(29,[2]),(30,[3,4,5,6,20,22]),(31,[3,4,5,6,20,22,158]),(32,[3,4,5,6,20,22]),(33,[3,4,5,6,20,22,23,24]),(34,[3,4,5,6,20,22,23,185]),(35,[2]),(36,[3,4,5,6,20,22]),(37,[2])],lp:=[(0,[3,4,5,6,7,11]),(2,[3,4,5,6,12,14,15,16,17]),(4,[3,4,5,6,20,22])],pl:=[(13,.take 0 (.take 1 (.take 2 (.take 3 (.take 4 (.take 7 (.take 8 (.take 9 (.take 10 (.take 11 (.all [(5,.all [(6,.take 12 (.take 13 (.take 14 (.take 15 (.take 16 (.take 17 (.all [(18,.take 19 (.take 20 (.done)))])))))))])]))))))))))),(33,.take 0 (.take 1 (.take 2 (.take 3 (.all [(4,.take 5 (.take 6 (.take 7 (.all [(8,.all [(9,.take 10 (.done))])])))),(8,.all [(4,.take 5 (.take 6 (.take 7 (.all [(9,.take 10 (.done))]))))])]))))),(34,.take 0 (.take 1 (.take 2 (.take 3 (.take 4 (.take 5 (.take 6 (.take 7 (.take 8 (.take 9 (.take 10 (.take 11 (.take 12 (.take 13 (.all [(14,.take 15 (.take 16 (.done)))])))))))))))))))] }
end C
end Go.Proofs.YtbhkonnakkhibaaGreat.Ab
namespace Go.Proofs.YtbhkonnakkhibaaGreat.Ab
open Go
set_option maxRecDepth 10000
theorem tabT:tabB Tryz.prog TTab=true:=by kernel_rfl
theorem folT:Tryz.prog.follows .mixedOrders=true:=by kernel_rfl
theorem wrap_succ {j:Nat} (h:j < 4611686018427387904):IntKind.i64.wrap ((j:Int)+1)=((j+1:Nat):Int):=by
 rw [wrapOk (by omega) (by omega)]
 omega
theorem impl_within_calls (n low high:Int):ACalls Tryz.prog F.impl_within [.int n,.int low,.int high] [] true (fun outs res=>outs=[]/\res=[.one (D.bool (decide (low<=n/\n<=high)))]):=by
 refine ACalls.of_body (C:=C.impl_within) (n:=Tryz.f75.ntmps) tabT folT Tryz.func75 rfl (by kernel_rfl) rfl (Nat.le_of_ble_eq_true rfl) (by decide) (by kernel_rfl) (by kernel_rfl) rfl (by simp) (by simp) ?_
 simp only [Tryz.f75]
 refine wseq ?_
 refine wreg fun K hK=>?_
 simp [C.impl_within]
 refine hK _ ?_;clear hK K
 show AWp _ _ _ _ _
 refine wseq ?_
 refine wreg fun K hK=>?_
 have hJ:K ⟨ofL [(6,.bool (decide (low<=n/\n<=high)))],ofRO []⟩:=by
  refine hK _ ?_;clear hK K
  show AWp _ _ _ _ _
  refine wret ?_
  simp [C.impl_within]
 clear hK
 by_cases h:low<=n
 ·simp [C.impl_within,h]
  refine cast (congrArg K ?_) hJ
  simp [h]
 ·simp [C.impl_within,h]
  refine cast (congrArg K ?_) hJ
  simp [h]
theorem spec_l1In_calls (n low high:Int):ACalls Tryz.prog F.spec_l1In [.int n,.int low,.int high] [] true (fun outs res=>outs=[]/\res=[.one (D.bool (decide (low<=n/\n<=high)))]):=by
 refine ACalls.of_body (C:=C.spec_l1In) (n:=Tryz.f78.ntmps) tabT folT Tryz.func78 rfl (by kernel_rfl) rfl (Nat.le_of_ble_eq_true rfl) (by decide) (by kernel_rfl) (by kernel_rfl) rfl (by simp) (by simp) ?_
 simp only [Tryz.f78]
 refine wseq ?_
 refine wreg fun K hK=>?_
 simp [C.spec_l1In]
 refine hK _ ?_;clear hK K
 show AWp _ _ _ _ _
 refine wseq ?_
 refine wreg fun K hK=>?_
 have hJ:K ⟨ofL [(6,.bool (decide (low<=n/\n<=high)))],ofRO []⟩:=by
  refine hK _ ?_;clear hK K
  show AWp _ _ _ _ _
  refine wret ?_
  simp [C.spec_l1In]
 clear hK
 by_cases h:low<=n
 ·simp [C.spec_l1In,h]
  refine cast (congrArg K ?_) hJ
  simp [h]
 ·simp [C.spec_l1In,h]
  refine cast (congrArg K ?_) hJ
  simp [h]
theorem spec_l1Ints_calls (xs:List Int) (hx:xs.length < 17592186044416):ACalls Tryz.prog F.spec_l1Ints [.d (shI xs)] [] true (fun outs res=>outs=[]/\res=[.one (owI xs)]):=by
 refine ACalls.of_body (C:=C.spec_l1Ints) (n:=Tryz.f135.ntmps) tabT folT Tryz.func135 rfl (by kernel_rfl) rfl (Nat.le_of_ble_eq_true rfl) (by decide) (by kernel_rfl) (by kernel_rfl) rfl (by simp) (by simp) ?_
 simp only [Tryz.f135]
 refine wseq ?_
 refine wreg fun K hK=>?_
 simp [C.spec_l1Ints]
 refine hK _ ?_;clear hK K
 show AWp _ _ _ _ _
 refine wseq ?_
 refine wreg fun K hK=>?_
 simp [C.spec_l1Ints,show xs.length*8<=140737488355328 by omega]
 refine hK _ ?_;clear hK K
 show AWp _ _ _ _ _
 refine wret ?_
 simp [C.spec_l1Ints]
theorem slices_Clone_int_int_calls (xs:List Int) (hx:xs.length < 17592186044416):ACalls Tryz.prog F.slices_Clone_int_int [.d (shI xs)] [] true (fun outs res=>outs=[]/\WkRs res [.one (owI xs)]):=by
 refine ACalls.of_body (C:=C.slices_Clone_int_int) (n:=Tryz.f131.ntmps) tabT folT Tryz.func131 rfl (by kernel_rfl) rfl (Nat.le_of_ble_eq_true rfl) (by decide) (by kernel_rfl) (by kernel_rfl) rfl (by simp) (by simp) ?_
 simp only [Tryz.f131]
 refine wseq ?_
 refine wreg fun K hK=>?_
 simp [C.slices_Clone_int_int]
 refine hK _ ?_;clear hK K
 show AWp _ _ _ _ _
 refine wseq ?_
 refine wseq ?_
 refine wreg fun K hK=>?_
 simp [C.slices_Clone_int_int]
 refine ⟨?_,fun h=>?_⟩
 ·refine hK _ ?_;clear hK K
  show AWp _ _ _ _ _
  refine wcond _ rfl (fun hc1=>?_) (fun hc1=>?_)
  ·simp at hc1
  ·refine wskip ?_
   show AWp _ _ _ _ _
   refine wseq ?_
   refine wreg fun K hK=>?_
   simp [C.slices_Clone_int_int,show xs.length*8<=140737488355328 by omega]
   refine hK _ ?_;clear hK K
   show AWp _ _ _ _ _
   refine wret ?_
   simp [C.slices_Clone_int_int]
 ·refine hK _ ?_;clear hK K
  show AWp _ _ _ _ _
  refine wcond _ rfl (fun hc2=>?_) (fun hc2=>?_)
  ·refine wseq ?_
   refine wreg fun K hK=>?_
   simp [C.slices_Clone_int_int]
   refine hK _ ?_;clear hK K
   show AWp _ _ _ _ _
   refine wret ?_
   simp [C.slices_Clone_int_int,h,ints]
  ·simp at hc2
theorem clone_calls (xs:List Int) (hx:xs.length < 17592186044416):ACalls Tryz.prog F.slices_Clone_int_int [.d (shI xs)] [] true (fun outs res=>outs=[]/\res=[.one (owI xs)]):=(slices_Clone_int_int_calls xs hx).weak1
theorem impl_gcd_calls (a b:Int) (ha:-4611686018427387904 < a/\a < 4611686018427387904) (hb:-4611686018427387904 < b/\b < 4611686018427387904):ACalls Tryz.prog F.impl_gcd [.int a,.int b] [] true (fun outs res=>outs=[]/\res=[.one (D.int (Int.gcd a b:Int))]):=by
 refine ACalls.of_body (C:=C.impl_gcd) (n:=Tryz.f214.ntmps) tabT folT Tryz.func214 rfl (by kernel_rfl) rfl (Nat.le_of_ble_eq_true rfl) (by decide) (by kernel_rfl) (by kernel_rfl) rfl (by simp) (by simp) ?_
 simp only [Tryz.f214]
 refine wseq ?_
 refine wreg fun K hK=>?_
 simp [C.impl_gcd]
 refine hK _ ?_;clear hK K
 show AWp _ _ _ _ _
 refine wseq ?_
 refine wblock ?_
 refine wloop (fun x:Int×Int=>⟨ofL [(0,.int x.1),(1,.int x.2)],ofRO []⟩) (fun x=>Int.gcd x.1 x.2=Int.gcd a b/\(-4611686018427387904 < x.1/\x.1 < 4611686018427387904)/\(-4611686018427387904 < x.2/\x.2 < 4611686018427387904)) (fun x=>x.2.natAbs) (a,b) (by simp [C.impl_gcd]) ⟨rfl,ha,hb⟩ ?_
 intro x1 hx1 R1 hR1
 obtain ⟨p,q⟩:=x1
 obtain ⟨hg,hp,hq⟩:=hx1
 dsimp only at hg hp hq ⊢
 refine wseq ?_
 refine wseq ?_
 refine wreg fun K hK=>?_
 simp [C.impl_gcd]
 refine hK _ ?_;clear hK K
 show AWp _ _ _ _ _
 refine wcond _ rfl (fun hc1=>?_) (fun hc1=>?_)
 ·refine wskip ?_
  show AWp _ _ _ _ _
  refine wblock ?_
  have hq0:q≠0:=by simpa using hc1
  refine wdraw (.take 0 (.take 1 (.take 2 (.take 3 (.take 4 (.take 5 (.done))))))) ⟨by kernel_rfl,by kernel_rfl⟩ fun K hK=>?_
  simp [C.impl_gcd,hq0]
  refine hK _ ?_;clear hK K
  simp [C.impl_gcd]
  have hn:(p.tmod q).natAbs < q.natAbs:=by rw [Int.natAbs_tmod];exact Nat.mod_lt _ (by omega)
  refine hR1 (q,p.tmod q) ⟨?_,hq,by dsimp only;omega⟩ hn
  rw [← hg]
  unfold Int.gcd
  rw [Int.natAbs_tmod,Nat.gcd_comm p.natAbs,Nat.gcd_rec q.natAbs p.natAbs,Nat.gcd_comm]
 ·refine wexit ?_
  show AWp _ _ _ _ _
  refine wseq ?_
  have hq0:q=0:=by simpa using hc1
  subst hq0
  refine wreg fun K hK=>?_
  simp [C.impl_gcd]
  rw [wrapOk (x:=-p) (by omega) (by omega)]
  refine hK _ ?_;clear hK K
  show AWp _ _ _ _ _
  refine wret ?_
  have hpg:max p (-p)=(Int.gcd a b:Int):=by rw [← hg];simp [Int.gcd];omega
  simp [C.impl_gcd,hpg]
end Go.Proofs.YtbhkonnakkhibaaGreat.Ab
namespace Go.Proofs.YtbhkonnakkhibaaGreat.Ab
open Go
set_option maxRecDepth 10000
abbrev aF (f:Lau):FV:=.ag [.int f.v,.d (.sh 2 f.ts.length (rows tS f.ts))]
end Go.Proofs.YtbhkonnakkhibaaGreat.Ab
namespace Go.Proofs.YtbhkonnakkhibaaGreat.Ab
open Go
set_option linter.unusedSectionVars false
section
variable {K:Type} [DecidableEq K]
def co (k:K):List (K×Int)->Int
 | []=>0
 | x :: l=>(if x.1=k then x.2 else 0)+co k l
theorem co_append (k:K):∀ (l r:List (K×Int)),co k (l ++ r)=co k l+co k r
 | [],r=>by simp [co]
 | x :: l,r=>by simp [co,co_append k l r,Int.add_assoc]
theorem co_none (k:K):∀ (l:List (K×Int)),(∀ x∈l,x.1≠k)->co k l=0
 | [],_=>rfl
 | x :: l,h=>by
  simp only [co]
  rw [if_neg (h x (by simp)),co_none k l fun y hy=>h y (by simp [hy])]
  rfl
theorem co_perm (k:K) {l r:List (K×Int)} (h:l.Perm r):co k l=co k r:=by
 induction h with
 | nil=>rfl
 | cons x _ ih=>simp [co,ih]
 | swap x y l=>simp only [co];omega
 | trans _ _ ih1 ih2=>rw [ih1,ih2]
theorem co_mem {k:K}:∀ {l:List (K×Int)},co k l≠0->∃ x∈l,x.1=k
 | [],h=>absurd rfl h
 | x :: l,h=>by
  simp only [co] at h
  by_cases e:x.1=k
  ·exact ⟨x,by simp,e⟩
  ·rw [if_neg e] at h
   obtain ⟨y,hy,e2⟩:=co_mem (k:=k) (l:=l) (by omega)
   exact ⟨y,by simp [hy],e2⟩
structure Ord (lt:K->K->Bool):Prop where
 irr:∀ a,lt a a=false
 tr:∀ a b c,lt a b=true->lt b c=true->lt a c=true
 tot:∀ a b,lt a b=true\/a=b\/lt b a=true
variable {lt:K->K->Bool}
def Desc (lt:K->K->Bool) (l:List (K×Int)):Prop:=l.Pairwise fun a b=>lt b.1 a.1=true
def Nz (l:List (K×Int)):Prop:=∀ x∈l,x.2≠0
theorem desc_tail_ne (ho:Ord lt) {x:K×Int} {l:List (K×Int)} (h:Desc lt (x :: l)):∀ y∈l,y.1≠x.1:=by
 intro y hy e
 have:=(List.pairwise_cons.1 h).1 y hy
 rw [e,ho.irr] at this
 simp at this
theorem desc_above (ho:Ord lt) {x:K×Int} {l:List (K×Int)} (h:Desc lt (x :: l)) {k:K} (hk:lt x.1 k=true):∀ y∈x :: l,y.1≠k:=by
 intro y hy e
 rcases List.mem_cons.1 hy with rfl | hy
 ·rw [e,ho.irr] at hk
  simp at hk
 ·have:=ho.tr _ _ _ ((List.pairwise_cons.1 h).1 y hy) hk
  rw [e,ho.irr] at this
  simp at this
theorem desc_unique (ho:Ord lt):∀ (l r:List (K×Int)),Desc lt l->Desc lt r->Nz l->Nz r->(∀ k,co k l=co k r)->l=r
 | [],[],_,_,_,_,_=>rfl
 | [],y :: r,_,h2,_,z2,h=>by
  have:=h y.1
  simp only [co,if_true] at this
  rw [co_none y.1 r (desc_tail_ne ho h2)] at this
  exact absurd (by omega) (z2 y (by simp))
 | x :: l,[],h1,_,z1,_,h=>by
  have:=h x.1
  simp only [co,if_true] at this
  rw [co_none x.1 l (desc_tail_ne ho h1)] at this
  exact absurd (by omega) (z1 x (by simp))
 | x :: l,y :: r,h1,h2,z1,z2,h=>by
  rcases ho.tot x.1 y.1 with e | e | e
  ·have:=h y.1
   rw [co_none y.1 _ (desc_above ho h1 e)] at this
   simp only [co,if_true] at this
   rw [co_none y.1 r (desc_tail_ne ho h2)] at this
   exact absurd (by omega) (z2 y (by simp))
  ·have e2:x.2=y.2:=by
    have:=h x.1
    simp only [co,if_true] at this
    rw [if_pos e.symm,co_none x.1 l (desc_tail_ne ho h1),e,co_none y.1 r (desc_tail_ne ho h2)] at this
    omega
   have exy:x=y:=Prod.ext e e2
   subst exy
   congr 1
   refine desc_unique ho l r (List.pairwise_cons.1 h1).2 (List.pairwise_cons.1 h2).2 (fun z hz=>z1 z (by simp [hz])) (fun z hz=>z2 z (by simp [hz])) fun k=>?_
   have:=h k
   simp only [co] at this
   omega
  ·have:=h x.1
   rw [co_none x.1 (y :: r) (desc_above ho h2 e)] at this
   simp only [co,if_true] at this
   rw [co_none x.1 l (desc_tail_ne ho h1)] at this
   exact absurd (by omega) (z1 x (by simp))
def insK (lt:K->K->Bool) (k:K) (c:Int):List (K×Int)->List (K×Int)
 | []=>if c=0 then [] else [(k,c)]
 | x :: l=>if x.1=k then (if x.2+c=0 then l else (k,x.2+c) :: l) else if lt x.1 k then (if c=0 then x :: l else (k,c) :: x :: l) else x :: insK lt k c l
def nf (lt:K->K->Bool):List (K×Int)->List (K×Int)
 | []=>[]
 | x :: l=>insK lt x.1 x.2 (nf lt l)
theorem insK_mem {k:K} {c:Int}:∀ {l:List (K×Int)} {y:K×Int},y∈insK lt k c l->y.1=k\/y∈l
 | [],y,h=>by
  simp only [insK] at h
  split at h
  ·simp at h
  ·simp only [List.mem_singleton] at h
   subst h
   exact .inl rfl
 | x :: l,y,h=>by
  simp only [insK] at h
  split at h
  ·split at h
   ·exact .inr (by simp [h])
   ·rcases List.mem_cons.1 h with rfl | h
    ·exact .inl rfl
    ·exact .inr (by simp [h])
  ·split at h
   ·split at h
    ·exact .inr h
    ·rcases List.mem_cons.1 h with rfl | h
     ·exact .inl rfl
     ·exact .inr h
   ·rcases List.mem_cons.1 h with rfl | h
    ·exact .inr (by simp)
    ·rcases insK_mem h with h | h
     ·exact .inl h
     ·exact .inr (by simp [h])
theorem insK_desc (ho:Ord lt) (k:K) (c:Int):∀ (l:List (K×Int)),Desc lt l->Desc lt (insK lt k c l)
 | [],_=>by
  simp only [insK]
  split
  ·exact List.Pairwise.nil
  ·exact List.pairwise_singleton _ _
 | x :: l,h=>by
  have h1:=List.pairwise_cons.1 h
  simp only [insK]
  split
  ·rename_i e
   split
   ·exact h1.2
   ·exact List.pairwise_cons.2 ⟨fun y hy=>by rw [← e];exact h1.1 y hy,h1.2⟩
  ·rename_i e
   split
   ·rename_i e2
    split
    ·exact h
    ·refine List.pairwise_cons.2 ⟨fun y hy=>?_,h⟩
     rcases List.mem_cons.1 hy with rfl | hy
     ·exact e2
     ·exact ho.tr _ _ _ (h1.1 y hy) e2
   ·rename_i e2
    refine List.pairwise_cons.2 ⟨fun y hy=>?_,insK_desc ho k c l h1.2⟩
    rcases insK_mem hy with hy | hy
    ·rw [hy]
     rcases ho.tot k x.1 with q | q | q
     ·exact q
     ·exact absurd q.symm e
     ·exact absurd q e2
    ·exact h1.1 y hy
theorem insK_nz (k:K) (c:Int):∀ (l:List (K×Int)),Nz l->Nz (insK lt k c l)
 | [],_=>by
  simp only [insK]
  split
  ·intro y hy;simp at hy
  ·rename_i hc
   intro y hy
   simp only [List.mem_singleton] at hy
   subst hy
   exact hc
 | x :: l,h=>by
  have h1:Nz l:=fun z hz=>h z (by simp [hz])
  simp only [insK]
  split
  ·split
   ·exact h1
   ·rename_i hc
    intro y hy
    rcases List.mem_cons.1 hy with rfl | hy
    ·exact hc
    ·exact h1 y hy
  ·split
   ·split
    ·exact h
    ·rename_i hc
     intro y hy
     rcases List.mem_cons.1 hy with rfl | hy
     ·exact hc
     ·exact h y hy
   ·intro y hy
    rcases List.mem_cons.1 hy with rfl | hy
    ·exact h y (by simp)
    ·exact insK_nz k c l h1 y hy
theorem insK_co (k:K) (c:Int) (q:K):∀ (l:List (K×Int)),co q (insK lt k c l)=(if k=q then c else 0)+co q l
 | []=>by
  simp only [insK]
  split
  ·rename_i e
   subst e
   simp [co]
  ·simp [co]
 | x :: l=>by
  simp only [insK]
  split
  ·rename_i e
   split
   ·rename_i e2
    simp only [co,e]
    split <;> omega
   ·simp only [co,e]
    split <;> omega
  ·split
   ·split
    ·rename_i e
     subst e
     simp
    ·simp only [co]
   ·simp only [co,insK_co k c q l]
    omega
theorem nf_desc (ho:Ord lt):∀ (l:List (K×Int)),Desc lt (nf lt l)
 | []=>List.Pairwise.nil
 | x :: l=>insK_desc ho _ _ _ (nf_desc ho l)
theorem nf_nz:∀ (l:List (K×Int)),Nz (nf lt l)
 | []=>by intro y hy;simp [nf] at hy
 | x :: l=>insK_nz _ _ _ (nf_nz l)
theorem nf_co (q:K):∀ (l:List (K×Int)),co q (nf lt l)=co q l
 | []=>rfl
 | x :: l=>by
  simp only [nf,insK_co,nf_co q l,co]
theorem nf_mem:∀ {l:List (K×Int)} {y:K×Int},y∈nf lt l->∃ x∈l,x.1=y.1
 | [],y,h=>by simp [nf] at h
 | x :: l,y,h=>by
  rcases insK_mem h with h | h
  ·exact ⟨x,by simp,h.symm⟩
  ·obtain ⟨z,hz,e⟩:=nf_mem h
   exact ⟨z,by simp [hz],e⟩
theorem nf_unique (ho:Ord lt) {t l:List (K×Int)} (h1:Desc lt t) (h2:Nz t) (h3:∀ k,co k t=co k l):t=nf lt l:=
 desc_unique ho t (nf lt l) h1 (nf_desc ho l) h2 (nf_nz l) fun k=>by rw [h3 k,nf_co]
end
def lexlt:List Int->List Int->Bool
 | [],[]=>false
 | [],_ :: _=>true
 | _ :: _,[]=>false
 | a :: x,b :: y=>if a=b then lexlt x y else decide (a < b)
theorem lexlt_irr:∀ a,lexlt a a=false
 | []=>rfl
 | a :: x=>by simp [lexlt,lexlt_irr x]
theorem lexlt_tr:∀ a b c,lexlt a b=true->lexlt b c=true->lexlt a c=true
 | [],[],_,h,_=>by simp [lexlt] at h
 | [],_ :: _,[],_,h=>by simp [lexlt] at h
 | [],_ :: _,_ :: _,_,_=>rfl
 | _ :: _,[],_,h,_=>by simp [lexlt] at h
 | _ :: _,_ :: _,[],_,h=>by simp [lexlt] at h
 | a :: x,b :: y,c :: z,h1,h2=>by
  simp only [lexlt] at h1 h2 ⊢
  by_cases e1:a=b
  ·subst e1
   rw [if_pos rfl] at h1
   by_cases e2:a=c
   ·subst e2
    rw [if_pos rfl] at h2 ⊢
    exact lexlt_tr x y z h1 h2
   ·rw [if_neg e2] at h2 ⊢
    exact h2
  ·rw [if_neg e1] at h1
   by_cases e2:b=c
   ·subst e2
    rw [if_neg e1]
    exact h1
   ·rw [if_neg e2] at h2
    simp only [decide_eq_true_eq] at h1 h2
    rw [if_neg (by omega)]
    simp only [decide_eq_true_eq]
    omega
theorem lexlt_tot:∀ a b,lexlt a b=true\/a=b\/lexlt b a=true
 | [],[]=>.inr (.inl rfl)
 | [],_ :: _=>.inl rfl
 | _ :: _,[]=>.inr (.inr rfl)
 | a :: x,b :: y=>by
  simp only [lexlt]
  by_cases e:a=b
  ·subst e
   simp only [if_true]
   rcases lexlt_tot x y with h | h | h
   ·exact .inl h
   ·exact .inr (.inl (by rw [h]))
   ·exact .inr (.inr h)
  ·rw [if_neg e,if_neg (Ne.symm e)]
   simp only [decide_eq_true_eq]
   omega
theorem lexOrd:Ord lexlt:=⟨lexlt_irr,lexlt_tr,lexlt_tot⟩
end Go.Proofs.YtbhkonnakkhibaaGreat.Ab
namespace Go.Proofs.YtbhkonnakkhibaaGreat.Ab
open Go
set_option linter.unusedSectionVars false
def keyA (k:Int):List Int->Int
 | []=>k
 | x :: l=>keyA (k*128+x+64) l
def Dig (l:List Int):Prop:=∀ x∈l,-64<=x/\x<=63
theorem Dig.tail {x:Int} {l:List Int} (h:Dig (x :: l)):Dig l:=fun y hy=>h y (by simp [hy])
theorem Dig.head {x:Int} {l:List Int} (h:Dig (x :: l)):-64<=x/\x<=63:=h x (by simp)
theorem keyA_append:∀ (a b:List Int) (k:Int),keyA k (a ++ b)=keyA (keyA k a) b
 | [],b,k=>rfl
 | x :: a,b,k=>by simp [keyA,keyA_append a b]
theorem keyA_lt:∀ (a b:List Int) (p q:Int),a.length=b.length->Dig a->Dig b->p < q->keyA p a < keyA q b
 | [],[],p,q,_,_,_,h=>h
 | x :: a,y :: b,p,q,hl,ha,hb,h=>by
  have h1:=ha.head
  have h2:=hb.head
  exact keyA_lt a b _ _ (by simpa using hl) ha.tail hb.tail (by omega)
 | [],_ :: _,_,_,h,_,_,_=>by simp at h
 | _ :: _,[],_,_,h,_,_,_=>by simp at h
theorem keyA_lex:∀ (a b:List Int) (p:Int),a.length=b.length->Dig a->Dig b->lexlt a b=true->keyA p a < keyA p b
 | [],[],p,_,_,_,h=>by simp [lexlt] at h
 | x :: a,y :: b,p,hl,ha,hb,h=>by
  simp only [lexlt] at h
  have h1:=ha.head
  have h2:=hb.head
  split at h
  ·rename_i e
   subst e
   exact keyA_lex a b _ (by simpa using hl) ha.tail hb.tail h
  ·simp only [decide_eq_true_eq] at h
   exact keyA_lt a b _ _ (by simpa using hl) ha.tail hb.tail (by omega)
 | [],_ :: _,_,h,_,_,_=>by simp at h
 | _ :: _,[],_,h,_,_,_=>by simp at h
theorem keyA_inj {a b:List Int} {p:Int} (hl:a.length=b.length) (ha:Dig a) (hb:Dig b) (h:keyA p a=keyA p b):a=b:=by
 rcases lexlt_tot a b with h1 | h1 | h1
 ·have:=keyA_lex a b p hl ha hb h1
  omega
 ·exact h1
 ·have:=keyA_lex b a p hl.symm hb ha h1
  omega
theorem keyA_lex_iff {a b:List Int} {p:Int} (hl:a.length=b.length) (ha:Dig a) (hb:Dig b):lexlt a b=decide (keyA p a < keyA p b):=by
 rcases lexlt_tot a b with h1 | h1 | h1
 ·have:=keyA_lex a b p hl ha hb h1
  simp [h1,this]
 ·subst h1
  simp [lexlt_irr]
 ·have:=keyA_lex b a p hl.symm hb ha h1
  have h2:lexlt a b=false:=by
   cases h3:lexlt a b with
   | false=>rfl
   | true=>
    have:=lexlt_tr _ _ _ h1 h3
    rw [lexlt_irr] at this
    simp at this
  rw [h2]
  simp
  omega
theorem keyA_nonneg:∀ (a:List Int) (p:Int),Dig a->0<=p->0<=keyA p a
 | [],p,_,h=>h
 | x :: a,p,ha,h=>keyA_nonneg a _ ha.tail (by have:=ha.head;omega)
theorem keyA_bound:∀ (a:List Int) (p B:Int),Dig a->0<=p->p < B->keyA p a < B*128 ^ a.length
 | [],p,B,_,_,h=>by simpa [keyA] using h
 | x :: a,p,B,ha,h0,h=>by
  have h1:=ha.head
  have:=keyA_bound a (p*128+x+64) (B*128) ha.tail (by omega) (by omega)
  rw [List.length_cons,Int.pow_succ,Int.mul_comm _ (128:Int),← Int.mul_assoc]
  exact this
theorem keyA_key {a:List Int} (ha:Dig a) (hl:a.length<=8):0<=keyA 0 a/\keyA 0 a < 72057594037927936:=by
 refine ⟨keyA_nonneg a 0 ha (by omega),?_⟩
 have h:=keyA_bound a 0 1 ha (by omega) (by omega)
 have h2:(128:Int) ^ a.length<=128 ^ 8:=by
  have:(128:Nat) ^ a.length<=128 ^ 8:=Nat.pow_le_pow_right (by omega) hl
  exact_mod_cast this
 have h3:(128:Int) ^ 8=72057594037927936:=by decide
 omega
def addE (k:Int):List Int->List Int->List Int
 | x :: a,y :: b=>(x+k*y) :: addE k a b
 | a,[]=>a
 | [],_=>[]
theorem addE_length (k:Int):∀ (a b:List Int),a.length=b.length->(addE k a b).length=a.length
 | [],[],_=>rfl
 | x :: a,y :: b,h=>by simp [addE,addE_length k a b (by simpa using h)]
 | [],_ :: _,h=>by simp at h
 | _ :: _,[],h=>by simp at h
theorem addE_snoc (t x y:Int):∀ (a b:List Int),a.length=b.length->addE t (a ++ [x]) (b ++ [y])=addE t a b ++ [x+t*y]
 | [],[],_=>rfl
 | u :: a,v :: b,h=>by simp [addE,addE_snoc t x y a b (by simpa using h)]
 | [],_ :: _,h=>by simp at h
 | _ :: _,[],h=>by simp at h
theorem addE_get {t:Int} {aas bs:List Int} {i:Nat} (h:i < aas.length) (hl:aas.length=bs.length):(addE t (aas.take i) (bs.take i) ++ aas.drop i)[i]? = some aas[i]:=by
 have h1:(addE t (aas.take i) (bs.take i)).length=i:=by
  rw [addE_length _ _ _ (by simp;omega)]
  simp
  omega
 rw [List.getElem?_append_right (by omega),h1,Nat.sub_self,List.drop_eq_getElem_cons h]
 rfl
theorem addE_step {t:Int} {aas bs:List Int} {i:Nat} (h:i < aas.length) (hl:aas.length=bs.length):(addE t (aas.take i) (bs.take i) ++ aas.drop i).set i (aas[i]+t*bs[i])=addE t (aas.take (i+1)) (bs.take (i+1)) ++ aas.drop (i+1):=by
 have h1:(addE t (aas.take i) (bs.take i)).length=i:=by
  rw [addE_length _ _ _ (by simp;omega)]
  simp
  omega
 rw [List.set_append_right _ _ (by omega),h1,Nat.sub_self,List.drop_eq_getElem_cons h,List.set_cons_zero,List.take_succ_eq_append_getElem h,List.take_succ_eq_append_getElem (show i < bs.length by omega),addE_snoc _ _ _ _ _ (by simp;omega),List.append_assoc]
 rfl
theorem keyA_add:∀ (a b:List Int) (p q s:Int),a.length=b.length->keyA (p+q - s) (addE 1 a b)=keyA p a+keyA q b - keyA s (List.replicate a.length 0)
 | [],[],p,q,s,_=>rfl
 | x :: a,y :: b,p,q,s,h=>by
  simp only [addE,keyA,List.length_cons,List.replicate_succ]
  rw [← keyA_add a b _ _ _ (by simpa using h)]
  congr 1
  omega
 | [],_ :: _,_,_,_,h=>by simp at h
 | _ :: _,[],_,_,_,h=>by simp at h
theorem keyA_dec {a:List Int} {x p:Int} (ha:Dig a) (hx:-64<=x/\x<=63) (hp:0<=p):(keyA p (a ++ [x])).tmod 128 - 64=x/\(keyA p (a ++ [x])).tdiv 128=keyA p a:=by
 have h:=keyA_nonneg a p ha hp
 rw [keyA_append]
 simp only [keyA]
 rw [Int.tmod_eq_emod_of_nonneg (by omega),Int.tdiv_eq_ediv_of_nonneg (by omega)]
 omega
end Go.Proofs.YtbhkonnakkhibaaGreat.Ab
namespace Go.Proofs.YtbhkonnakkhibaaGreat.Ab
open Go
set_option linter.unusedSectionVars false
def Good (v:Int) (t:Trm):Prop:=(t.e.length:Int)=v/\t.c≠0/\(-1000000<=t.c/\t.c<=1000000)/\∀ x∈t.e,-20<=x/\x<=20
def DescT (ts:List Trm):Prop:=ts.Pairwise fun a b=>lexlt b.e a.e=true
def Right (f:Lau):Prop:=(1<=f.v/\f.v<=8)/\f.ts.length<=600/\(∀ t∈f.ts,Good f.v t)/\DescT f.ts
noncomputable instance (f:Lau):Decidable (Right f):=Classical.propDecidable _
def zeroF:Lau:=⟨0,[]⟩
theorem descT_snoc {ts:List Trm} {t:Trm} (h:DescT ts) (hl:∀ x,ts.getLast? = some x->lexlt t.e x.e=true):DescT (ts ++ [t]):=by
 unfold DescT at *
 rw [List.pairwise_append]
 refine ⟨h,List.pairwise_singleton _ _,fun a ha b hb=>?_⟩
 simp only [List.mem_singleton] at hb
 subst hb
 rcases List.eq_nil_or_concat ts with rfl | ⟨l,x,rfl⟩
 ·simp at ha
 ·have hx:=hl x (by simp)
  simp only [List.concat_eq_append,List.mem_append,List.mem_singleton] at ha
  rcases ha with ha | rfl
  ·simp only [List.concat_eq_append] at h
   rw [List.pairwise_append] at h
   exact lexlt_tr _ _ _ hx (h.2.2 a ha x (by simp))
  ·exact hx
theorem descT_step {ts:List Trm} {j:Nat} (h1:j < ts.length) (h:DescT (ts.take j)) (hl:j=0\/lexlt ts[j].e ts[j - 1].e=true):DescT (ts.take (j+1)):=by
 rw [List.take_succ_eq_append_getElem h1]
 refine descT_snoc h fun x hx=>?_
 rcases hl with rfl | hl
 ·simp at hx
 ·rcases Nat.eq_zero_or_pos j with rfl | hj
  ·simp at hx
  ·have:(ts.take j).getLast? = some ts[j - 1]:=by
    rw [List.getLast?_eq_getElem?,List.length_take,Nat.min_eq_left (Nat.le_of_lt h1),List.getElem?_take_of_lt (by omega),List.getElem?_eq_getElem (by omega)]
   rw [this] at hx
   injection hx with hx
   subst hx
   exact hl
theorem descT_next {ts:List Trm} {j:Nat} (h1:j < ts.length) (h:DescT ts):j=0\/lexlt ts[j].e ts[j - 1].e=true:=by
 rcases Nat.eq_zero_or_pos j with rfl | hj
 ·exact .inl rfl
 ·right
  exact List.pairwise_iff_getElem.1 h (j - 1) j (by omega) h1 (by omega)
def gM (x:Int×Int):List D:=[D.int x.1,D.int x.2]
theorem gM_two (x:Int×Int):(gM x).length=2:=rfl
@[simp] theorem gM_length (l:List (Int×Int)):(rows gM l).length=2*l.length:=rows_length gM_two l
theorem gM_leaf:∀ l:List (Int×Int),leafL (rows gM l)
 | []=>trivial
 | x :: l=>⟨rfl,rfl,gM_leaf l⟩
theorem gM_noSh (l:List (Int×Int)):noShL (rows gM l):=rows_noSh (fun t=>by simp [gM,noShL,noSh]) l
theorem gM_share:∀ l:List (Int×Int),shareL (rows gM l)=rows gM l
 | []=>rfl
 | x :: l=>by simp [rows,gM,shareL,share,gM_share l]
attribute [simp] gM_leaf gM_noSh gM_share
theorem gM_snoc (l:List (Int×Int)) (k c:Int):rows gM l ++ [D.v (.int .i64 k),D.v (.int .i64 c)]=rows gM (l ++ [(k,c)]):=by
 rw [rows_append]
 rfl
section
variable {l:List (Int×Int)} {i:Nat}
theorem gM_0 (h:i < l.length):(rows gM l)[2*i]? = some (D.int l[i].1)/\∀ h',(rows gM l)[2*i]'h'=D.int l[i].1:=twice (rows_get gM_two l i 0 h (by omega))
theorem gM_1 (h:i < l.length):(rows gM l)[2*i+1]? = some (D.int l[i].2)/\∀ h',(rows gM l)[2*i+1]'h'=D.int l[i].2:=twice (rows_get gM_two l i 1 h (by omega))
theorem gM_set1 (h:i < l.length) (x:Int):(rows gM l).set (2*i+1) (.v (.int .i64 x))=rows gM (l.set i (l[i].1,x)):=rows_set gM_two l i 1 _ _ h (by omega) rfl
end
def ilt (a b:Int):Bool:=decide (a < b)
theorem ilt_ord:Ord ilt:=⟨fun a=>by simp [ilt],fun a b c h1 h2=>by simp [ilt] at *;omega,fun a b=>by simp only [ilt,decide_eq_true_eq];omega⟩
def Exps (n:Nat) (l:List (List Int×Int)):Prop:=∀ x∈l,x.1.length=n/\Dig x.1
def kc (x:List Int×Int):Int×Int:=(keyA 0 x.1,x.2)
def tm (x:List Int×Int):Trm:=⟨x.1,x.2⟩
def pr (t:Trm):List Int×Int:=(t.e,t.c)
theorem insK_key {n:Nat} (k:List Int) (c:Int) (hk:k.length=n/\Dig k):∀ (l:List (List Int×Int)),Exps n l->insK ilt (keyA 0 k) c (l.map kc)=(insK lexlt k c l).map kc
 | [],_=>by
  simp only [insK,List.map_nil]
  split <;> simp [kc]
 | x :: l,h=>by
  have hx:=h x (by simp)
  have hl:Exps n l:=fun y hy=>h y (by simp [hy])
  simp only [insK,List.map_cons]
  have e1:((kc x).1=keyA 0 k)↔(x.1=k):=⟨fun e=>keyA_inj (hx.1.trans hk.1.symm) hx.2 hk.2 e,fun e=>by simp [kc,e]⟩
  have e2:ilt (kc x).1 (keyA 0 k)=lexlt x.1 k:=(keyA_lex_iff (hx.1.trans hk.1.symm) hx.2 hk.2).symm
  by_cases q:x.1=k
  ·rw [if_pos (e1.2 q),if_pos q]
   show (if x.2+c=0 then _ else _)=_
   split <;> simp [kc]
  ·rw [if_neg (fun e=>q (e1.1 e)),if_neg q,e2]
   split
   ·split <;> simp [kc]
   ·rw [insK_key k c hk l hl,List.map_cons]
theorem nf_exps {n:Nat} {l:List (List Int×Int)} (h:Exps n l):Exps n (nf lexlt l):=fun y hy=>by
 obtain ⟨x,hx,e⟩:=nf_mem hy
 rw [← e]
 exact h x hx
theorem nf_key {n:Nat}:∀ (l:List (List Int×Int)),Exps n l->nf ilt (l.map kc)=(nf lexlt l).map kc
 | [],_=>rfl
 | x :: l,h=>by
  have hl:Exps n l:=fun y hy=>h y (by simp [hy])
  simp only [nf,List.map_cons]
  rw [nf_key l hl]
  exact insK_key x.1 x.2 (h x (by simp)) _ (nf_exps hl)
noncomputable def shutF (v:Int) (l:List (List Int×Int)):Lau×Bool:=if Right ⟨v,(nf lexlt l).map tm⟩ then (⟨v,(nf lexlt l).map tm⟩,true) else (zeroF,false)
def prodL (a b:List (List Int×Int)):List (List Int×Int):=a.flatMap fun x=>b.map fun y=>(addE 1 x.1 y.1,x.2*y.2)
noncomputable def mulF (f g:Lau):Lau×Bool:=if Right f/\Right g/\f.v=g.v then shutF f.v (prodL (f.ts.map pr) (g.ts.map pr)) else (zeroF,false)
theorem shutF_right (v:Int) (l:List (List Int×Int)):Right (shutF v l).1\/(shutF v l)=(zeroF,false):=by
 unfold shutF
 split
 ·exact .inl (by assumption)
 ·exact .inr rfl
theorem mulF_right (f g:Lau):Right (mulF f g).1\/mulF f g=(zeroF,false):=by
 unfold mulF
 split
 ·exact shutF_right _ _
 ·exact .inr rfl
end Go.Proofs.YtbhkonnakkhibaaGreat.Ab
namespace Go.Proofs.YtbhkonnakkhibaaGreat.Ab
open Go
set_option maxRecDepth 10000
set_option maxHeartbeats 2000000
theorem spec_l1Less_calls (a b:List Int) (ha:a.length < 4611686018427387904):ACalls Tryz.prog F.spec_l1Less [.d (shI a),.d (shI b)] [] true (fun outs res=>outs=[]/\res=[.one (D.bool (lexlt a b))]):=by
 refine ACalls.of_body (C:=C.spec_l1Less) (n:=Tryz.f206.ntmps) tabT folT Tryz.func206 rfl (by kernel_rfl) rfl (Nat.le_of_ble_eq_true rfl) (by decide) (by kernel_rfl) (by kernel_rfl) rfl (by simp) (by simp) ?_
 simp only [Tryz.f206]
 refine wseq ?_
 refine wreg fun K hK=>?_
 simp [C.spec_l1Less]
 refine hK _ ?_;clear hK K
 show AWp _ _ _ _ _
 refine wseq ?_
 refine wseq ?_
 refine wreg fun K hK=>?_
 simp [C.spec_l1Less]
 refine hK _ ?_;clear hK K
 show AWp _ _ _ _ _
 refine wblock ?_
 refine wloop (fun k:Nat=>⟨ofL [(0,.d (shI a)),(1,.d (shI b)),(5,FV.int k)],ofRO []⟩) (fun k=>k<=a.length/\k<=b.length/\lexlt a b=lexlt (a.drop k) (b.drop k)) (fun k=>a.length - k) 0 (by simp [C.spec_l1Less]) (by simp) ?_
 intro x1 hx1 R1 hR1
 obtain ⟨hk,hk2,ht⟩:=hx1
 refine wseq ?_
 refine wseq ?_
 refine wreg fun K hK=>?_
 have hJ:K ⟨ofL [(0,.d (shI a)),(1,.d (shI b)),(5,FV.int x1),(15,.bool (decide (x1 < a.length/\x1 < b.length)))],ofRO []⟩:=by
  refine hK _ ?_;clear hK K
  show AWp _ _ _ _ _
  refine wcond _ rfl (fun hc1=>?_) (fun hc1=>?_)
  ·have hh:x1 < a.length/\x1 < b.length:=by simpa using hc1
   obtain ⟨h1,h2⟩:=hh
   refine wskip ?_
   show AWp _ _ _ _ _
   refine wseq ?_
   refine wblock ?_
   refine wseq ?_
   refine wdraw (.take 0 (.take 1 (.take 2 (.take 3 (.take 4 (.take 5 (.take 6 (.take 7 (.take 8 (.done)))))))))) ⟨by kernel_rfl,by kernel_rfl⟩ fun K hK=>?_
   simp [C.spec_l1Less,get_ints,h1,h2]
   refine hK _ ?_;clear hK K
   show AWp _ _ _ _ _
   refine wcond _ rfl (fun hc2=>?_) (fun hc2=>?_)
   ·refine wseq ?_
    refine wdraw (.take 0 (.take 1 (.take 2 (.take 3 (.take 4 (.take 5 (.take 6 (.take 7 (.take 8 (.take 9 (.done))))))))))) ⟨by kernel_rfl,by kernel_rfl⟩ fun K hK=>?_
    simp [C.spec_l1Less,get_ints,h1,h2]
    refine hK _ ?_;clear hK K
    show AWp _ _ _ _ _
    refine wret ?_
    simp at hc2
    simp [C.spec_l1Less]
    rw [ht,List.drop_eq_getElem_cons h1,List.drop_eq_getElem_cons h2]
    simp [lexlt,hc2]
   ·refine wskip ?_
    show AWp _ _ _ _ _
    refine wreg fun K hK=>?_
    simp [C.spec_l1Less,wrap_succ (show x1 < 4611686018427387904 by omega)]
    refine hK _ ?_;clear hK K
    simp [C.spec_l1Less]
    simp at hc2
    refine hR1 (x1+1) ⟨h1,h2,?_⟩ (by omega)
    rw [ht,List.drop_eq_getElem_cons h1,List.drop_eq_getElem_cons h2]
    simp [lexlt,hc2]
  ·have hh:¬ (x1 < a.length/\x1 < b.length):=by simpa using hc1
   refine wexit ?_
   show AWp _ _ _ _ _
   refine wseq ?_
   refine wreg fun K hK=>?_
   simp [C.spec_l1Less]
   refine hK _ ?_;clear hK K
   show AWp _ _ _ _ _
   refine wret ?_
   simp [C.spec_l1Less]
   rw [ht]
   by_cases q:x1 < a.length
   ·rw [List.drop_eq_nil_of_le (show b.length<=x1 by omega),List.drop_eq_getElem_cons q]
    simp [lexlt]
    omega
   ·rw [List.drop_eq_nil_of_le (show a.length<=x1 by omega)]
    by_cases q2:x1 < b.length
    ·rw [List.drop_eq_getElem_cons q2]
     simp [lexlt]
     omega
    ·rw [List.drop_eq_nil_of_le (show b.length<=x1 by omega)]
     simp [lexlt]
     omega
 clear hK
 by_cases hg:x1 < a.length
 ·simp [C.spec_l1Less,hg]
  refine cast (congrArg K ?_) hJ
  simp [hg]
 ·simp [C.spec_l1Less,hg]
  refine cast (congrArg K ?_) hJ
  simp [hg]
theorem spec_l2Right_calls (f:Lau) (hx:f.ts.length < 4611686018427387904) (hxe:∀ t∈f.ts,t.e.length < 4611686018427387904):ACalls Tryz.prog F.spec_l2Right [aF f] [] true (fun outs res=>outs=[]/\res=[.one (D.bool (decide (Right f)))]):=by
 refine ACalls.of_body (C:=C.spec_l2Right) (n:=Tryz.f136.ntmps) tabT folT Tryz.func136 rfl (by kernel_rfl) rfl (Nat.le_of_ble_eq_true rfl) (by decide) (by kernel_rfl) (by kernel_rfl) rfl (by simp) (by simp) ?_
 simp only [Tryz.f136]
 refine wseq ?_
 refine wreg fun K hK=>?_
 simp [C.spec_l2Right,fS,tS]
 refine hK _ ?_;clear hK K
 show AWp _ _ _ _ _
 refine wseq ?_
 refine wseq ?_
 refine wregI ([0,1,2] ++ ([3,4,5,6,7,8,9])) rfl fun K hK=>?_
 have hJ:K ⟨ofL [(1,.pt (1,0) [] 0),(15,.bool (decide (¬ (1<=f.v/\f.v<=8)\/600 < (f.ts.length:Int))))],ofRO [((1,0),some (.bx (fS f)))]⟩:=by
  refine hK _ ?_;clear hK K
  show AWp _ _ _ _ _
  refine wcond _ rfl (fun hc1=>?_) (fun hc1=>?_)
  ·have hh:=d_t hc1
   refine wseq ?_
   refine wreg fun K hK=>?_
   simp [C.spec_l2Right,fS,tS]
   refine hK _ ?_;clear hK K
   show AWp _ _ _ _ _
   refine wret ?_
   simp [C.spec_l2Right,fS,tS]
   intro hr;have:=hr.1;have:=hr.2.1;omega
  ·have hh0:=d_f hc1
   have hh:(1<=f.v/\f.v<=8)/\f.ts.length<=600:=by omega
   refine wskip ?_
   show AWp _ _ _ _ _
   refine wseq ?_
   refine wseq ?_
   refine wreg fun K hK=>?_
   simp [C.spec_l2Right,fS,tS]
   refine hK _ ?_;clear hK K
   show AWp _ _ _ _ _
   refine wblock ?_
   refine wloop (fun k:Nat=>⟨ofL [(1,.pt (1,0) [] 0),(3,.int k)],ofRO [((1,0),some (.bx (fS f)))]⟩) (fun k=>k<=f.ts.length/\(∀ t∈f.ts.take k,Good f.v t)/\DescT (f.ts.take k)) (fun k=>f.ts.length - k) 0 (by simp [C.spec_l2Right,fS]) (by simp [DescT]) ?_
   intro x1 hx1 R1 hR1
   obtain ⟨hk,hgood,hdesc⟩:=hx1
   refine wseq ?_
   refine wseq ?_
   refine wreg fun K hK=>?_
   simp [C.spec_l2Right,fS,tS]
   refine hK _ ?_;clear hK K
   show AWp _ _ _ _ _
   refine wcond _ rfl (fun hc2=>?_) (fun hc2=>?_)
   ·have h1:x1 < f.ts.length:=by simpa using hc2
    refine wskip ?_
    show AWp _ _ _ _ _
    refine wseq ?_
    refine wblock ?_
    refine wseq ?_
    refine wreg fun K hK=>?_
    simp [C.spec_l2Right,fS,tS,h1,tS_0 h1,tS_1 h1]
    refine hK _ ?_;clear hK K
    show AWp _ _ _ _ _
    refine wseq ?_
    refine wseq ?_
    have hp:0 < x1->x1 - 1 < f.ts.length:=by omega
    refine wdrawI [(true,0),(true,1),(true,2),(true,3),(true,4),(true,5),(true,6),(true,7),(true,8),(true,9),(true,10),(true,11),(true,12),(true,13),(false,14),(true,15),(true,16),(true,17),(true,18),(true,19),(true,20),(true,21),(true,22),(true,23),(true,24),(true,25),(true,26),(true,27),(true,28),(true,29),(false,30),(true,31),(true,32),(true,33)] ⟨by kernel_rfl,by kernel_rfl⟩ ([0,1,2,3,4,5,6,7,8,9,10,11,12,13,14] ++ ([15,16,17,18,19,20,21,22,23,24,25,26,27,28,29,30] ++ ([31,32,33]))) rfl fun K hK=>?_
    have hJ:K ⟨ofL [(1,.pt (1,0) [] 0),(3,.int x1),(4,.pt (4,0) [] 0),(61,.bool (!decide ((f.ts[x1].e.length:Int)=f.v/\f.ts[x1].c≠0/\(-1000000<=f.ts[x1].c/\f.ts[x1].c<=1000000)/\(x1=0\/lexlt f.ts[x1].e f.ts[x1 - 1].e=true))))],ofRO [((1,0),some (.bx (fS f))),((4,0),some (.bx (tS f.ts[x1])))]⟩:=by
     refine hK _ ?_;clear hK K
     show AWp _ _ _ _ _
     refine wcond _ rfl (fun hc3=>?_) (fun hc3=>?_)
     ·have hb:=nd_t hc3
      refine wseq ?_
      refine wreg fun K hK=>?_
      simp [C.spec_l2Right,fS,tS]
      refine hK _ ?_;clear hK K
      show AWp _ _ _ _ _
      refine wret ?_
      simp [C.spec_l2Right,fS,tS]
      intro hr
      have hg:=hr.2.2.1 _ (List.getElem_mem h1)
      exact hb ⟨hg.1,hg.2.1,hg.2.2.1,descT_next h1 hr.2.2.2⟩
     ·have hb:=nd_f hc3
      refine wskip ?_
      show AWp _ _ _ _ _
      refine wseq ?_
      refine wreg fun K hK=>?_
      simp [C.spec_l2Right,fS,tS]
      refine hK _ ?_;clear hK K
      show AWp _ _ _ _ _
      refine wblock ?_
      refine wloop (fun i:Nat=>⟨ofL [(1,.pt (1,0) [] 0),(3,.int x1),(4,.pt (4,0) [] 0),(5,.int i)],ofRO [((1,0),some (.bx (fS f))),((4,0),some (.bx (tS f.ts[x1])))]⟩) (fun i=>i<=f.ts[x1].e.length/\∀ x∈f.ts[x1].e.take i,-20<=x/\x<=20) (fun i=>f.ts[x1].e.length - i) 0 (by simp [C.spec_l2Right,fS,tS]) (by simp) ?_
      intro x2 hx2 R2 hR2
      obtain ⟨hi,hin⟩:=hx2
      refine wseq ?_
      refine wseq ?_
      refine wreg fun K hK=>?_
      simp [C.spec_l2Right,fS,tS]
      refine hK _ ?_;clear hK K
      show AWp _ _ _ _ _
      refine wcond _ rfl (fun hc4=>?_) (fun hc4=>?_)
      ·have h2:x2 < f.ts[x1].e.length:=by have:=d_t hc4;omega
       refine wskip ?_
       show AWp _ _ _ _ _
       refine wseq ?_
       refine wblock ?_
       refine wseq ?_
       refine wregI ([0,1,2,3,4,5] ++ ([6])) rfl fun K hK=>?_
       refine opsI_seg fun L hL=>?_
       simp [C.spec_l2Right,fS,tS,h1,h2,get_ints]
       refine wcall1 (spec_l1In_calls f.ts[x1].e[x2] (-20) 20) (by simp) (by simp) ?_
       simp [C.spec_l2Right,fS,tS,h1,h2,get_ints]
       refine hL _ ?_;clear hL L
       refine opsI_end fun L hL=>?_
       simp [C.spec_l2Right,fS,tS,h1,h2,get_ints]
       refine hL _ ?_;clear hL L
       simp [C.spec_l2Right,fS,tS,h1,h2,get_ints]
       refine hK _ ?_;clear hK K
       show AWp _ _ _ _ _
       refine wcond _ rfl (fun hc5=>?_) (fun hc5=>?_)
       ·have hb2:¬ (-20<=f.ts[x1].e[x2]/\f.ts[x1].e[x2]<=20):=by simp at hc5;omega
        refine wseq ?_
        refine wreg fun K hK=>?_
        simp [C.spec_l2Right,fS,tS]
        refine hK _ ?_;clear hK K
        show AWp _ _ _ _ _
        refine wret ?_
        simp [C.spec_l2Right,fS,tS]
        intro hr
        exact hb2 ((hr.2.2.1 _ (List.getElem_mem h1)).2.2.2 _ (List.getElem_mem h2))
       ·have hb2:-20<=f.ts[x1].e[x2]/\f.ts[x1].e[x2]<=20:=by simpa using hc5
        refine wskip ?_
        show AWp _ _ _ _ _
        refine wreg fun K hK=>?_
        simp [C.spec_l2Right,fS,tS,wrap_succ (show x2 < 4611686018427387904 by have:=hxe _ (List.getElem_mem h1);omega)]
        refine hK _ ?_;clear hK K
        simp [C.spec_l2Right,fS,tS]
        refine hR2 (x2+1) ⟨h2,?_⟩ (by omega)
        rw [List.take_succ_eq_append_getElem h2]
        intro x hx
        rcases List.mem_append.1 hx with hx | hx
        ·exact hin x hx
        ·simp only [List.mem_singleton] at hx
         rw [hx]
         exact hb2
      ·have h2:x2=f.ts[x1].e.length:=by have:=d_f hc4;omega
       refine wexit ?_
       show AWp _ _ _ _ _
       refine wreg fun K hK=>?_
       simp [C.spec_l2Right,fS,tS,wrap_succ (show x1 < 4611686018427387904 by omega)]
       refine hK _ ?_;clear hK K
       simp [C.spec_l2Right,fS,tS]
       refine hR1 (x1+1) ⟨h1,?_,descT_step h1 hdesc hb.2.2.2⟩ (by omega)
       rw [List.take_succ_eq_append_getElem h1]
       intro t ht
       rcases List.mem_append.1 ht with ht | ht
       ·exact hgood t ht
       ·simp only [List.mem_singleton] at ht
        rw [ht]
        refine ⟨hb.1,hb.2.1,hb.2.2.1,?_⟩
        rw [h2,List.take_length] at hin
        exact hin
    clear hK
    by_cases ha:(f.ts[x1].e.length:Int)=f.v
    ·by_cases hb:f.ts[x1].c=0
     ·refine opsI_seg fun L hL=>?_
      simp [C.spec_l2Right,fS,tS,ha,hb]
      refine hL _ ?_;clear hL L
      refine opsI_seg fun L hL=>?_
      simp [C.spec_l2Right,fS,tS,ha,hb]
      refine hL _ ?_;clear hL L
      refine opsI_end fun L hL=>?_
      simp [C.spec_l2Right,fS,tS,ha,hb]
      refine hL _ ?_;clear hL L
      simp [C.spec_l2Right,fS,tS,ha,hb]
      refine cast (congrArg K ?_) hJ
      simp [fS,tS,ha,hb]
     ·by_cases hc:-1000000<=f.ts[x1].c/\f.ts[x1].c<=1000000
      ·by_cases hd:0 < x1
       ·obtain ⟨m,rfl⟩:∃ m,x1=m+1:=⟨x1 - 1,by omega⟩
        have hm:m < f.ts.length:=by omega
        refine opsI_seg fun L hL=>?_
        simp [C.spec_l2Right,fS,tS,hm,tS_0 hm,wrap_nat (show m < 4611686018427387904 by omega),ha,hb,hc,hd]
        refine wcall1 (spec_l1In_calls f.ts[m+1].c (-1000000) 1000000) (by simp) (by simp) ?_
        simp [C.spec_l2Right,fS,tS,hm,tS_0 hm,wrap_nat (show m < 4611686018427387904 by omega),ha,hb,hc,hd]
        refine hL _ ?_;clear hL L
        refine opsI_seg fun L hL=>?_
        simp [C.spec_l2Right,fS,tS,hm,tS_0 hm,wrap_nat (show m < 4611686018427387904 by omega),ha,hb,hc,hd]
        refine wcall1 (spec_l1Less_calls f.ts[m+1].e f.ts[m].e (hxe _ (List.getElem_mem h1))) (by simp) (by simp) ?_
        simp [C.spec_l2Right,fS,tS,hm,tS_0 hm,wrap_nat (show m < 4611686018427387904 by omega),ha,hb,hc,hd]
        refine hL _ ?_;clear hL L
        refine opsI_end fun L hL=>?_
        simp [C.spec_l2Right,fS,tS,hm,tS_0 hm,wrap_nat (show m < 4611686018427387904 by omega),ha,hb,hc,hd]
        refine hL _ ?_;clear hL L
        simp [C.spec_l2Right,fS,tS,hm,tS_0 hm,wrap_nat (show m < 4611686018427387904 by omega),ha,hb,hc,hd]
        refine cast (congrArg K ?_) hJ
        simp [fS,tS,ha,hb,hc,hd]
       ·obtain rfl:x1=0:=by omega
        refine opsI_seg fun L hL=>?_
        simp [C.spec_l2Right,fS,tS,ha,hb,hc,hd]
        refine wcall1 (spec_l1In_calls f.ts[0].c (-1000000) 1000000) (by simp) (by simp) ?_
        simp [C.spec_l2Right,fS,tS,ha,hb,hc,hd]
        refine hL _ ?_;clear hL L
        refine opsI_seg fun L hL=>?_
        simp [C.spec_l2Right,fS,tS,ha,hb,hc,hd]
        refine hL _ ?_;clear hL L
        refine opsI_end fun L hL=>?_
        simp [C.spec_l2Right,fS,tS,ha,hb,hc,hd]
        refine hL _ ?_;clear hL L
        simp [C.spec_l2Right,fS,tS,ha,hb,hc,hd]
        refine cast (congrArg K ?_) hJ
        simp [fS,tS,ha,hb,hc,hd]
      ·refine opsI_seg fun L hL=>?_
       simp [C.spec_l2Right,fS,tS,ha,hb,hc]
       refine wcall1 (spec_l1In_calls f.ts[x1].c (-1000000) 1000000) (by simp) (by simp) ?_
       simp [C.spec_l2Right,fS,tS,ha,hb,hc]
       refine hL _ ?_;clear hL L
       refine opsI_seg fun L hL=>?_
       simp [C.spec_l2Right,fS,tS,ha,hb,hc]
       refine hL _ ?_;clear hL L
       refine opsI_end fun L hL=>?_
       simp [C.spec_l2Right,fS,tS,ha,hb,hc]
       refine hL _ ?_;clear hL L
       simp [C.spec_l2Right,fS,tS,ha,hb,hc]
       refine cast (congrArg K ?_) hJ
       simp [fS,tS,ha,hb,hc]
    ·refine opsI_seg fun L hL=>?_
     simp [C.spec_l2Right,fS,tS,ha]
     refine hL _ ?_;clear hL L
     refine opsI_seg fun L hL=>?_
     simp [C.spec_l2Right,fS,tS,ha]
     refine hL _ ?_;clear hL L
     refine opsI_end fun L hL=>?_
     simp [C.spec_l2Right,fS,tS,ha]
     refine hL _ ?_;clear hL L
     simp [C.spec_l2Right,fS,tS,ha]
     refine cast (congrArg K ?_) hJ
     simp [fS,tS,ha]
   ·have h2:x1=f.ts.length:=by have:=d_f hc2;omega
    refine wexit ?_
    show AWp _ _ _ _ _
    refine wseq ?_
    refine wreg fun K hK=>?_
    simp [C.spec_l2Right,fS,tS]
    refine hK _ ?_;clear hK K
    show AWp _ _ _ _ _
    refine wret ?_
    simp [C.spec_l2Right,fS,tS]
    rw [h2,List.take_length] at hgood hdesc
    exact ⟨hh.1,hh.2,hgood,hdesc⟩
 clear hK
 by_cases ha:1<=f.v/\f.v<=8
 ·refine opsI_seg fun L hL=>?_
  simp [C.spec_l2Right,fS,tS,ha]
  refine wcall1 (spec_l1In_calls f.v 1 8) (by simp) (by simp) ?_
  simp [C.spec_l2Right,fS,tS,ha]
  refine hL _ ?_;clear hL L
  refine opsI_end fun L hL=>?_
  simp [C.spec_l2Right,fS,tS,ha]
  refine hL _ ?_;clear hL L
  simp [C.spec_l2Right,fS,tS,ha]
  refine cast (congrArg K ?_) hJ
  simp [fS,tS,ha]
 ·refine opsI_seg fun L hL=>?_
  simp [C.spec_l2Right,fS,tS,ha]
  refine wcall1 (spec_l1In_calls f.v 1 8) (by simp) (by simp) ?_
  simp [C.spec_l2Right,fS,tS,ha]
  refine hL _ ?_;clear hL L
  refine opsI_end fun L hL=>?_
  simp [C.spec_l2Right,fS,tS,ha]
  refine hL _ ?_;clear hL L
  simp [C.spec_l2Right,fS,tS,ha]
  refine cast (congrArg K ?_) hJ
  simp [fS,tS,ha]
theorem spec_l2Two_calls (f g:Lau) (hx:f.ts.length < 4611686018427387904) (hxe:∀ t∈f.ts,t.e.length < 4611686018427387904) (hy:g.ts.length < 4611686018427387904) (hye:∀ t∈g.ts,t.e.length < 4611686018427387904):ACalls Tryz.prog F.spec_l2Two [aF f,aF g] [] true (fun outs res=>outs=[]/\res=[.one (D.bool (decide (Right f/\Right g/\f.v=g.v)))]):=by
 refine ACalls.of_body (C:=C.spec_l2Two) (n:=Tryz.f195.ntmps) tabT folT Tryz.func195 rfl (by kernel_rfl) rfl (Nat.le_of_ble_eq_true rfl) (by decide) (by kernel_rfl) (by kernel_rfl) rfl (by simp) (by simp) ?_
 simp only [Tryz.f195]
 refine wseq ?_
 refine wreg fun K hK=>?_
 simp [C.spec_l2Two,fS]
 refine hK _ ?_;clear hK K
 show AWp _ _ _ _ _
 refine wseq ?_
 refine wregI ([0,1] ++ ([2,3,4] ++ ([5,6,7,8,9,10,11,12,13]))) rfl fun K hK=>?_
 have hJ:K ⟨ofL [(4,.bool (decide (Right f/\Right g/\f.v=g.v)))],ofRO []⟩:=by
  refine hK _ ?_;clear hK K
  show AWp _ _ _ _ _
  refine wret ?_
  simp [C.spec_l2Two,fS]
 clear hK
 by_cases ha:Right f
 ·by_cases hb:Right g
  ·refine opsI_seg fun L hL=>?_
   simp [C.spec_l2Two,fS,ha,hb]
   refine wcall1 (spec_l2Right_calls f hx hxe) (by simp) (by simp) ?_
   simp [C.spec_l2Two,fS,ha,hb]
   refine hL _ ?_;clear hL L
   refine opsI_seg fun L hL=>?_
   simp [C.spec_l2Two,fS,ha,hb]
   refine wcall1 (spec_l2Right_calls g hy hye) (by simp) (by simp) ?_
   simp [C.spec_l2Two,fS,ha,hb]
   refine hL _ ?_;clear hL L
   refine opsI_end fun L hL=>?_
   simp [C.spec_l2Two,fS,ha,hb]
   refine hL _ ?_;clear hL L
   simp [C.spec_l2Two,fS,ha,hb]
   refine cast (congrArg K ?_) hJ
   simp [ibeq,fS,ha,hb]
  ·refine opsI_seg fun L hL=>?_
   simp [C.spec_l2Two,fS,ha,hb]
   refine wcall1 (spec_l2Right_calls f hx hxe) (by simp) (by simp) ?_
   simp [C.spec_l2Two,fS,ha,hb]
   refine hL _ ?_;clear hL L
   refine opsI_seg fun L hL=>?_
   simp [C.spec_l2Two,fS,ha,hb]
   refine wcall1 (spec_l2Right_calls g hy hye) (by simp) (by simp) ?_
   simp [C.spec_l2Two,fS,ha,hb]
   refine hL _ ?_;clear hL L
   refine opsI_end fun L hL=>?_
   simp [C.spec_l2Two,fS,ha,hb]
   refine hL _ ?_;clear hL L
   simp [C.spec_l2Two,fS,ha,hb]
   refine cast (congrArg K ?_) hJ
   simp [ibeq,fS,ha,hb]
 ·refine opsI_seg fun L hL=>?_
  simp [C.spec_l2Two,fS,ha]
  refine wcall1 (spec_l2Right_calls f hx hxe) (by simp) (by simp) ?_
  simp [C.spec_l2Two,fS,ha]
  refine hL _ ?_;clear hL L
  refine opsI_seg fun L hL=>?_
  simp [C.spec_l2Two,fS,ha]
  refine hL _ ?_;clear hL L
  refine opsI_end fun L hL=>?_
  simp [C.spec_l2Two,fS,ha]
  refine hL _ ?_;clear hL L
  simp [C.spec_l2Two,fS,ha]
  refine cast (congrArg K ?_) hJ
  simp [ibeq,fS,ha]
theorem spec_l2Key_calls (xs:List Int) (hd:Dig xs) (hl:xs.length<=8):ACalls Tryz.prog F.spec_l2Key [.d (shI xs)] [] true (fun outs res=>outs=[]/\res=[.one (D.int (keyA 0 xs))]):=by
 refine ACalls.of_body (C:=C.spec_l2Key) (n:=Tryz.f147.ntmps) tabT folT Tryz.func147 rfl (by kernel_rfl) rfl (Nat.le_of_ble_eq_true rfl) (by decide) (by kernel_rfl) (by kernel_rfl) rfl (by simp) (by simp) ?_
 simp only [Tryz.f147]
 refine wseq ?_
 refine wreg fun K hK=>?_
 simp [C.spec_l2Key]
 refine hK _ ?_;clear hK K
 show AWp _ _ _ _ _
 refine wseq ?_
 refine wreg fun K hK=>?_
 simp [C.spec_l2Key]
 refine hK _ ?_;clear hK K
 show AWp _ _ _ _ _
 refine wseq ?_
 refine wseq ?_
 refine wreg fun K hK=>?_
 simp [C.spec_l2Key]
 refine hK _ ?_;clear hK K
 show AWp _ _ _ _ _
 refine wblock ?_
 refine wloop (fun x:Nat×Int=>⟨ofL [(0,.d (shI xs)),(3,.int x.2),(4,.int x.1)],ofRO []⟩) (fun x=>x.1<=xs.length/\x.2=keyA 0 (xs.take x.1)) (fun x=>xs.length - x.1) (0,0) (by simp [C.spec_l2Key]) (by simp [keyA]) ?_
 intro x1 hx1 R1 hR1
 obtain ⟨j,k⟩:=x1
 obtain ⟨hj,hk⟩:=hx1
 dsimp only at hj hk ⊢
 refine wseq ?_
 refine wseq ?_
 refine wreg fun K hK=>?_
 simp [C.spec_l2Key]
 refine hK _ ?_;clear hK K
 show AWp _ _ _ _ _
 refine wcond _ rfl (fun hc1=>?_) (fun hc1=>?_)
 ·have h1:j < xs.length:=d_t hc1 |> fun h=>by omega
  have hb:=keyA_key (a:=xs.take j) (fun x hx=>hd x (List.mem_of_mem_take hx)) (by simp;omega)
  rw [← hk] at hb
  have hx:=hd _ (List.getElem_mem h1)
  refine wskip ?_
  show AWp _ _ _ _ _
  refine wseq ?_
  refine wblock ?_
  refine wreg fun K hK=>?_
  simp [C.spec_l2Key,get_ints,h1]
  rw [wrapOk (x:=k*128) (by omega) (by omega),wrapOk (x:=k*128+xs[j]) (by omega) (by omega),wrapOk (x:=k*128+xs[j]+64) (by omega) (by omega)]
  refine hK _ ?_;clear hK K
  show AWp _ _ _ _ _
  refine wreg fun K hK=>?_
  simp [C.spec_l2Key,wrap_succ (show j < 4611686018427387904 by omega)]
  refine hK _ ?_;clear hK K
  simp [C.spec_l2Key]
  refine hR1 (j+1,_) ⟨h1,?_⟩ (by dsimp only;omega)
  dsimp only
  rw [List.take_succ_eq_append_getElem h1,keyA_append,← hk]
  rfl
 ·have h1:j=xs.length:=by have:=d_f hc1;omega
  refine wexit ?_
  show AWp _ _ _ _ _
  refine wseq ?_
  refine wreg fun K hK=>?_
  simp [C.spec_l2Key]
  refine hK _ ?_;clear hK K
  show AWp _ _ _ _ _
  refine wret ?_
  simp [C.spec_l2Key]
  rw [hk,h1,List.take_length]
theorem spec_l2Base_calls (n:Nat) (hn:n<=8):ACalls Tryz.prog F.spec_l2Base [.int n] [] true (fun outs res=>outs=[]/\res=[.one (D.int (keyA 0 (List.replicate n 0)))]):=by
 refine ACalls.of_body (C:=C.spec_l2Base) (n:=Tryz.f198.ntmps) tabT folT Tryz.func198 rfl (by kernel_rfl) rfl (Nat.le_of_ble_eq_true rfl) (by decide) (by kernel_rfl) (by kernel_rfl) rfl (by simp) (by simp) ?_
 simp only [Tryz.f198]
 refine wseq ?_
 refine wreg fun K hK=>?_
 simp [C.spec_l2Base]
 refine hK _ ?_;clear hK K
 show AWp _ _ _ _ _
 refine wseq ?_
 refine wregI ([0,1,2] ++ ([3])) rfl fun K hK=>?_
 refine opsI_seg fun L hL=>?_
 simp [C.spec_l2Base,zeros_ints,show (8:Int)*n<=281474976710656 by omega,show (n:Int)<=281474976710656 by omega]
 refine wcall1 (spec_l2Key_calls (List.replicate n 0) (fun x hx=>by have:=List.eq_of_mem_replicate hx;omega) (by simpa using hn)) (by simp) (by simp) ?_
 simp [C.spec_l2Base,zeros_ints,show (8:Int)*n<=281474976710656 by omega,show (n:Int)<=281474976710656 by omega]
 refine hL _ ?_;clear hL L
 refine opsI_end fun L hL=>?_
 simp [C.spec_l2Base,zeros_ints,show (8:Int)*n<=281474976710656 by omega,show (n:Int)<=281474976710656 by omega]
 refine hL _ ?_;clear hL L
 simp [C.spec_l2Base,zeros_ints,show (8:Int)*n<=281474976710656 by omega,show (n:Int)<=281474976710656 by omega]
 refine hK _ ?_;clear hK K
 show AWp _ _ _ _ _
 refine wret ?_
 simp [C.spec_l2Base]
theorem spec_l2Exp_calls (e:List Int) (hd:Dig e) (hl:e.length<=8):ACalls Tryz.prog F.spec_l2Exp [.int (keyA 0 e),.int e.length] [] true (fun outs res=>outs=[]/\res=[.one (owI e)]):=by
 refine ACalls.of_body (C:=C.spec_l2Exp) (n:=Tryz.f163.ntmps) tabT folT Tryz.func163 rfl (by kernel_rfl) rfl (Nat.le_of_ble_eq_true rfl) (by decide) (by kernel_rfl) (by kernel_rfl) rfl (by simp) (by simp) ?_
 simp only [Tryz.f163]
 refine wseq ?_
 refine wreg fun K hK=>?_
 simp [C.spec_l2Exp]
 refine hK _ ?_;clear hK K
 show AWp _ _ _ _ _
 refine wseq ?_
 refine wreg fun K hK=>?_
 simp [C.spec_l2Exp,zeros_ints,show (8:Int)*e.length<=281474976710656 by omega,show (e.length:Int)<=281474976710656 by omega]
 refine hK _ ?_;clear hK K
 show AWp _ _ _ _ _
 refine wseq ?_
 refine wseq ?_
 refine wreg fun K hK=>?_
 simp [C.spec_l2Exp]
 rw [wrapOk (x:=(e.length:Int) - 1) (by omega) (by omega)]
 refine hK _ ?_;clear hK K
 show AWp _ _ _ _ _
 refine wblock ?_
 refine wloop (fun x:Nat×Int×List Int=>⟨ofL [(0,.int x.2.1),(5,.al (5,0) [] 0 e.length),(6,.int ((x.1:Int) - 1))],ofRO [((5,0),some (.ow 1 e.length (ints x.2.2)))]⟩) (fun x=>x.1<=e.length/\x.2.1=keyA 0 (e.take x.1)/\x.2.2.length=e.length/\x.2.2.drop x.1=e.drop x.1) (fun x=>x.1) (e.length,keyA 0 e,List.replicate e.length 0) (by simp [C.spec_l2Exp]) (by simp) ?_
 intro x1 hx1 R1 hR1
 obtain ⟨j,k,gs⟩:=x1
 obtain ⟨hj,hk,hg,he⟩:=hx1
 dsimp only at hj hk hg he ⊢
 refine wseq ?_
 refine wseq ?_
 refine wreg fun K hK=>?_
 simp [C.spec_l2Exp]
 refine hK _ ?_;clear hK K
 show AWp _ _ _ _ _
 refine wcond _ rfl (fun hc1=>?_) (fun hc1=>?_)
 ·obtain ⟨m,rfl⟩:∃ m,j=m+1:=⟨j - 1,by have:=d_t hc1;omega⟩
  have h1:m < e.length:=by omega
  have hq:Dig (e.take m):=fun x hx=>hd x (List.mem_of_mem_take hx)
  have hdec:=keyA_dec (a:=e.take m) (x:=e[m]) (p:=0) hq (hd _ (List.getElem_mem h1)) (by omega)
  rw [← List.take_succ_eq_append_getElem h1,← hk] at hdec
  have hkb:=keyA_key (a:=e.take (m+1)) (fun x hx=>hd x (List.mem_of_mem_take hx)) (by simp;omega)
  rw [← hk] at hkb
  have hkb2:=keyA_key (a:=e.take m) hq (by simp;omega)
  have hx:=hd _ (List.getElem_mem h1)
  refine wskip ?_
  show AWp _ _ _ _ _
  refine wseq ?_
  refine wblock ?_
  refine wseq ?_
  refine wreg fun K hK=>?_
  simp [C.spec_l2Exp,h1,hg]
  rw [hdec.1,wrapOk (x:=e[m]) (by omega) (by omega)]
  refine hK _ ?_;clear hK K
  show AWp _ _ _ _ _
  refine wreg fun K hK=>?_
  simp [C.spec_l2Exp]
  rw [hdec.2,wrapOk (x:=keyA 0 (e.take m)) (by omega) (by omega)]
  refine hK _ ?_;clear hK K
  show AWp _ _ _ _ _
  refine wreg fun K hK=>?_
  simp [C.spec_l2Exp]
  rw [wrapOk (x:=(m:Int) - 1) (by omega) (by omega)]
  refine hK _ ?_;clear hK K
  simp [C.spec_l2Exp]
  refine hR1 (m,_,_) ⟨by dsimp only;omega,rfl,by simpa using hg,?_⟩ (by dsimp only;omega)
  dsimp only
  rw [List.drop_eq_getElem_cons h1,List.drop_eq_getElem_cons (by simp;omega),List.drop_set_of_lt (by omega),he]
  simp
 ·have hj0:j=0:=by have:=d_f hc1;omega
  refine wexit ?_
  show AWp _ _ _ _ _
  refine wseq ?_
  refine wreg fun K hK=>?_
  simp [C.spec_l2Exp]
  refine hK _ ?_;clear hK K
  show AWp _ _ _ _ _
  refine wret ?_
  simp [C.spec_l2Exp]
  rw [hj0,List.drop_zero,List.drop_zero] at he
  rw [he]
end Go.Proofs.YtbhkonnakkhibaaGreat.Ab
namespace Go.Proofs.YtbhkonnakkhibaaGreat.Ab
open Go
set_option maxRecDepth 10000
set_option maxHeartbeats 2000000
def cmpI (a b:Int):Int:=if a < b then -1 else if b < a then 1 else 0
def cmpL:List Int->List Int->Int
 | [],[]=>0
 | [],_ :: _=>-1
 | _ :: _,[]=>1
 | a :: x,b :: y=>if a=b then cmpL x y else if a < b then -1 else 1
theorem cmpL_neg:∀ (a b:List Int),decide (cmpL a b < 0)=lexlt a b
 | [],[]=>rfl
 | [],_ :: _=>rfl
 | _ :: _,[]=>rfl
 | a :: x,b :: y=>by
  have ih:=cmpL_neg x y
  by_cases h:a=b
  ·have e:cmpL (a :: x) (b :: y)=cmpL x y:=by simp [cmpL,h]
   rw [e,ih]
   simp [lexlt,h]
  ·by_cases h2:a < b
   ·have e:cmpL (a :: x) (b :: y)=-1:=by simp [cmpL,h,h2]
    rw [e]
    simp [lexlt,h,h2]
   ·have e:cmpL (a :: x) (b :: y)=1:=by simp [cmpL,h,h2]
    rw [e]
    simp [lexlt,h,h2]
theorem cmpL_pos:∀ (a b:List Int),decide (cmpL a b<=0) = !lexlt b a
 | [],[]=>rfl
 | [],_ :: _=>rfl
 | _ :: _,[]=>rfl
 | a :: x,b :: y=>by
  have ih:=cmpL_pos x y
  by_cases h:a=b
  ·have e:cmpL (a :: x) (b :: y)=cmpL x y:=by simp [cmpL,h]
   rw [e,ih]
   simp [lexlt,h]
  ·by_cases h2:a < b
   ·have e:cmpL (a :: x) (b :: y)=-1:=by simp [cmpL,h,h2]
    rw [e]
    simp [lexlt,Ne.symm h]
    omega
   ·have e:cmpL (a :: x) (b :: y)=1:=by simp [cmpL,h,h2]
    rw [e]
    simp [lexlt,Ne.symm h]
    omega
def okE (e:List Int) (v:Int):Bool:=decide ((e.length:Int)=v) && !e.any (fun x=>!decide (-20<=x/\x<=20))
theorem okE_iff {e:List Int} {v:Int}:okE e v=true↔(e.length:Int)=v/\∀ x∈e,-20<=x/\x<=20:=by
 unfold okE
 simp only [Bool.and_eq_true,decide_eq_true_eq,Bool.not_eq_true',List.any_eq_false,Bool.not_eq_true']
 refine ⟨fun ⟨h1,h2⟩=>⟨h1,fun x hx=>?_⟩,fun ⟨h1,h2⟩=>⟨h1,fun x hx=>?_⟩⟩
 ·have:=h2 x hx
  simpa using this
 ·have:=h2 x hx
  simpa using this
theorem cmp_isNaN_int_calls (a:Int):ACalls Tryz.prog F.cmp_isNaN_int [.int a] [] true (fun outs res=>outs=[]/\res=[.one (D.bool false)]):=by
 refine ACalls.of_body (C:=C.cmp_isNaN_int) (n:=Tryz.f244.ntmps) tabT folT Tryz.func244 rfl (by kernel_rfl) rfl (Nat.le_of_ble_eq_true rfl) (by decide) (by kernel_rfl) (by kernel_rfl) rfl (by simp) (by simp) ?_
 simp only [Tryz.f244]
 refine wseq ?_
 refine wreg fun K hK=>?_
 simp [C.cmp_isNaN_int]
 refine hK _ ?_;clear hK K
 show AWp _ _ _ _ _
 refine wseq ?_
 refine wreg fun K hK=>?_
 simp [C.cmp_isNaN_int]
 refine hK _ ?_;clear hK K
 show AWp _ _ _ _ _
 refine wret ?_
 simp [C.cmp_isNaN_int]
theorem cmp_Compare_int_calls (a b:Int):ACalls Tryz.prog F.cmp_Compare_int [.int a,.int b] [] true (fun outs res=>outs=[]/\res=[.one (D.int (cmpI a b))]):=by
 refine ACalls.of_body (C:=C.cmp_Compare_int) (n:=Tryz.f215.ntmps) tabT folT Tryz.func215 rfl (by kernel_rfl) rfl (Nat.le_of_ble_eq_true rfl) (by decide) (by kernel_rfl) (by kernel_rfl) rfl (by simp) (by simp) ?_
 simp only [Tryz.f215]
 refine wseq ?_
 refine wreg fun K hK=>?_
 simp [C.cmp_Compare_int]
 refine hK _ ?_;clear hK K
 show AWp _ _ _ _ _
 refine wseq ?_
 refine wregI ([0,1] ++ ([2])) rfl fun K hK=>?_
 refine opsI_seg fun L hL=>?_
 simp [C.cmp_Compare_int]
 refine wcall1 (cmp_isNaN_int_calls a) (by simp) (by simp) ?_
 simp [C.cmp_Compare_int]
 refine hL _ ?_;clear hL L
 refine opsI_end fun L hL=>?_
 simp [C.cmp_Compare_int]
 refine hL _ ?_;clear hL L
 simp [C.cmp_Compare_int]
 refine hK _ ?_;clear hK K
 show AWp _ _ _ _ _
 refine wseq ?_
 refine wregI ([0,1] ++ ([2])) rfl fun K hK=>?_
 refine opsI_seg fun L hL=>?_
 simp [C.cmp_Compare_int]
 refine wcall1 (cmp_isNaN_int_calls b) (by simp) (by simp) ?_
 simp [C.cmp_Compare_int]
 refine hL _ ?_;clear hL L
 refine opsI_end fun L hL=>?_
 simp [C.cmp_Compare_int]
 refine hL _ ?_;clear hL L
 simp [C.cmp_Compare_int]
 refine hK _ ?_;clear hK K
 show AWp _ _ _ _ _
 refine wseq ?_
 refine wseq ?_
 refine wreg fun K hK=>?_
 simp [C.cmp_Compare_int]
 refine hK _ ?_;clear hK K
 show AWp _ _ _ _ _
 refine wcond _ rfl (fun hc1=>?_) (fun hc1=>?_)
 ·simp at hc1
 ·refine wskip ?_
  show AWp _ _ _ _ _
  refine wseq ?_
  refine wseq ?_
  refine wreg fun K hK=>?_
  simp [C.cmp_Compare_int]
  refine hK _ ?_;clear hK K
  show AWp _ _ _ _ _
  refine wcond _ rfl (fun hc3=>?_) (fun hc3=>?_)
  ·simp at hc3
  ·refine wskip ?_
   show AWp _ _ _ _ _
   refine wseq ?_
   refine wseq ?_
   refine wreg fun K hK=>?_
   simp [C.cmp_Compare_int]
   refine hK _ ?_;clear hK K
   show AWp _ _ _ _ _
   refine wcond _ rfl (fun hc4=>?_) (fun hc4=>?_)
   ·have h4:=d_t hc4
    refine wseq ?_
    refine wreg fun K hK=>?_
    simp [C.cmp_Compare_int]
    refine hK _ ?_;clear hK K
    show AWp _ _ _ _ _
    refine wret ?_
    simp [C.cmp_Compare_int,cmpI,h4]
   ·have h4:=d_f hc4
    refine wskip ?_
    show AWp _ _ _ _ _
    refine wseq ?_
    refine wseq ?_
    refine wreg fun K hK=>?_
    simp [C.cmp_Compare_int]
    refine hK _ ?_;clear hK K
    show AWp _ _ _ _ _
    refine wcond _ rfl (fun hc5=>?_) (fun hc5=>?_)
    ·have h5:b < a:=by simpa using hc5
     refine wseq ?_
     refine wreg fun K hK=>?_
     simp [C.cmp_Compare_int]
     refine hK _ ?_;clear hK K
     show AWp _ _ _ _ _
     refine wret ?_
     simp [C.cmp_Compare_int,cmpI,h4,h5]
    ·have h5:¬ b < a:=by simpa using hc5
     refine wskip ?_
     show AWp _ _ _ _ _
     refine wseq ?_
     refine wreg fun K hK=>?_
     simp [C.cmp_Compare_int]
     refine hK _ ?_;clear hK K
     show AWp _ _ _ _ _
     refine wret ?_
     simp [C.cmp_Compare_int,cmpI,h4,h5]
theorem slices_Compare_int_int_calls (a b:List Int) (ha:a.length < 4611686018427387904):ACalls Tryz.prog F.slices_Compare_int_int [.d (shI a),.d (shI b)] [] true (fun outs res=>outs=[]/\res=[.one (D.int (cmpL a b))]):=by
 refine ACalls.of_body (C:=C.slices_Compare_int_int) (n:=Tryz.f158.ntmps) tabT folT Tryz.func158 rfl (by kernel_rfl) rfl (Nat.le_of_ble_eq_true rfl) (by decide) (by kernel_rfl) (by kernel_rfl) rfl (by simp) (by simp) ?_
 simp only [Tryz.f158]
 refine wseq ?_
 refine wreg fun K hK=>?_
 simp [C.slices_Compare_int_int]
 refine hK _ ?_;clear hK K
 show AWp _ _ _ _ _
 refine wseq ?_
 refine wseq ?_
 refine wreg fun K hK=>?_
 simp [C.slices_Compare_int_int]
 refine hK _ ?_;clear hK K
 show AWp _ _ _ _ _
 refine wblock ?_
 refine wloop (fun k:Nat=>⟨ofL [(0,.d (shI a)),(1,.d (shI b)),(9,.d (shI a)),(10,.int a.length),(11,FV.int k)],ofRO []⟩) (fun k=>k<=a.length/\k<=b.length/\cmpL a b=cmpL (a.drop k) (b.drop k)) (fun k=>a.length - k) 0 (by simp [C.slices_Compare_int_int]) (by simp) ?_
 intro x1 hx1 R1 hR1
 obtain ⟨hk,hk2,ht⟩:=hx1
 refine wseq ?_
 refine wreg fun K hK=>?_
 simp [C.slices_Compare_int_int]
 refine hK _ ?_;clear hK K
 show AWp _ _ _ _ _
 refine wseq ?_
 refine wcond _ rfl (fun hc1=>?_) (fun hc1=>?_)
 ·have h1:x1 < a.length:=by have:=d_t hc1;omega
  refine wskip ?_
  show AWp _ _ _ _ _
  refine wseq ?_
  refine wblock ?_
  refine wseq ?_
  refine wreg fun K hK=>?_
  simp [C.slices_Compare_int_int,get_ints,h1]
  refine hK _ ?_;clear hK K
  show AWp _ _ _ _ _
  refine wseq ?_
  refine wseq ?_
  refine wreg fun K hK=>?_
  simp [C.slices_Compare_int_int]
  refine hK _ ?_;clear hK K
  show AWp _ _ _ _ _
  refine wcond _ rfl (fun hc2=>?_) (fun hc2=>?_)
  ·have h2:b.length<=x1:=by have:=d_t hc2;omega
   refine wseq ?_
   refine wreg fun K hK=>?_
   simp [C.slices_Compare_int_int]
   refine hK _ ?_;clear hK K
   show AWp _ _ _ _ _
   refine wret ?_
   simp [C.slices_Compare_int_int]
   rw [ht,List.drop_eq_nil_of_le h2,List.drop_eq_getElem_cons h1]
   rfl
  ·have h2:x1 < b.length:=by have:=d_f hc2;omega
   refine wskip ?_
   show AWp _ _ _ _ _
   refine wseq ?_
   refine wreg fun K hK=>?_
   simp [C.slices_Compare_int_int,get_ints,h2]
   refine hK _ ?_;clear hK K
   show AWp _ _ _ _ _
   refine wseq ?_
   refine wregI ([0,1,2] ++ ([3])) rfl fun K hK=>?_
   refine opsI_seg fun L hL=>?_
   simp [C.slices_Compare_int_int]
   refine wcall1 (cmp_Compare_int_calls a[x1] b[x1]) (by simp) (by simp) ?_
   simp [C.slices_Compare_int_int]
   refine hL _ ?_;clear hL L
   refine opsI_end fun L hL=>?_
   simp [C.slices_Compare_int_int]
   refine hL _ ?_;clear hL L
   simp [C.slices_Compare_int_int]
   refine hK _ ?_;clear hK K
   show AWp _ _ _ _ _
   refine wseq ?_
   refine wreg fun K hK=>?_
   simp [C.slices_Compare_int_int]
   refine hK _ ?_;clear hK K
   show AWp _ _ _ _ _
   refine wcond _ rfl (fun hc3=>?_) (fun hc3=>?_)
   ·have hne:¬ cmpI a[x1] b[x1]=0:=by simpa using hc3
    refine wseq ?_
    refine wreg fun K hK=>?_
    simp [C.slices_Compare_int_int]
    refine hK _ ?_;clear hK K
    show AWp _ _ _ _ _
    refine wret ?_
    simp [C.slices_Compare_int_int]
    rw [ht,List.drop_eq_getElem_cons h1,List.drop_eq_getElem_cons h2]
    rcases Int.lt_trichotomy a[x1] b[x1] with q | q | q
    ·simp [cmpL,cmpI,q,Int.ne_of_lt q]
    ·simp [cmpI,q] at hne
    ·simp [cmpL,cmpI,q,Int.ne_of_gt q,Int.not_lt.2 (Int.le_of_lt q)]
   ·have heq:cmpI a[x1] b[x1]=0:=by simpa using hc3
    have hab:a[x1]=b[x1]:=by
     unfold cmpI at heq
     split at heq
     ·simp at heq
     ·split at heq
      ·simp at heq
      ·omega
    refine wskip ?_
    show AWp _ _ _ _ _
    refine wreg fun K hK=>?_
    simp [C.slices_Compare_int_int,wrap_succ (show x1 < 4611686018427387904 by omega)]
    refine hK _ ?_;clear hK K
    simp [C.slices_Compare_int_int]
    refine hR1 (x1+1) ⟨h1,h2,?_⟩ (by omega)
    rw [ht,List.drop_eq_getElem_cons h1,List.drop_eq_getElem_cons h2]
    simp [cmpL,hab]
 ·have h1:x1=a.length:=by have:=d_f hc1;omega
  have hn:a.drop x1=[]:=List.drop_eq_nil_of_le (by omega)
  refine wexit ?_
  show AWp _ _ _ _ _
  refine wseq ?_
  refine wseq ?_
  refine wreg fun K hK=>?_
  simp [C.slices_Compare_int_int]
  refine hK _ ?_;clear hK K
  show AWp _ _ _ _ _
  refine wcond _ rfl (fun hc4=>?_) (fun hc4=>?_)
  ·have h2:a.length < b.length:=by have:=d_t hc4;omega
   refine wseq ?_
   refine wreg fun K hK=>?_
   simp [C.slices_Compare_int_int]
   refine hK _ ?_;clear hK K
   show AWp _ _ _ _ _
   refine wret ?_
   simp [C.slices_Compare_int_int]
   rw [ht,hn,List.drop_eq_getElem_cons (show x1 < b.length by omega)]
   rfl
  ·have h2:¬ a.length < b.length:=by have:=d_f hc4;omega
   refine wskip ?_
   show AWp _ _ _ _ _
   refine wseq ?_
   refine wreg fun K hK=>?_
   simp [C.slices_Compare_int_int]
   refine hK _ ?_;clear hK K
   show AWp _ _ _ _ _
   refine wret ?_
   simp [C.slices_Compare_int_int]
   rw [ht,hn,List.drop_eq_nil_of_le (show b.length<=x1 by omega)]
   rfl
theorem slices_IndexFunc_int_int_calls (xs:List Int) (g:Nat) (p:Int->Bool) (hx:xs.length < 4611686018427387904) (hM:aget [] MM g=[]) (hp:∀ x∈xs,ACalls Tryz.prog g [.int x] [] true (fun outs res=>outs=[]/\res=[.one (D.bool (p x))])):ACalls Tryz.prog F.slices_IndexFunc_int_int [.d (shI xs),.d (.fn g [])] [] true (fun outs res=>outs=[]/\∃ r:Int,res=[.one (D.int r)]/\decide (0<=r)=xs.any p):=by
 refine ACalls.of_body (C:=C.slices_IndexFunc_int_int) (n:=Tryz.f201.ntmps) tabT folT Tryz.func201 rfl (by kernel_rfl) rfl (Nat.le_of_ble_eq_true rfl) (by decide) (by kernel_rfl) (by kernel_rfl) rfl (by simp) (by simp) ?_
 simp only [Tryz.f201]
 refine wseq ?_
 refine wreg fun K hK=>?_
 simp [C.slices_IndexFunc_int_int]
 refine hK _ ?_;clear hK K
 show AWp _ _ _ _ _
 refine wseq ?_
 refine wseq ?_
 refine wreg fun K hK=>?_
 simp [C.slices_IndexFunc_int_int]
 refine hK _ ?_;clear hK K
 show AWp _ _ _ _ _
 refine wblock ?_
 refine wloop (fun k:Nat=>⟨ofL [(0,.d (shI xs)),(1,.d (.fn g [])),(7,.int xs.length),(8,FV.int k)],ofRO []⟩) (fun k=>k<=xs.length/\(xs.take k).any p=false) (fun k=>xs.length - k) 0 (by simp [C.slices_IndexFunc_int_int]) (by simp) ?_
 intro x1 hx1 R1 hR1
 obtain ⟨hk,ht⟩:=hx1
 refine wseq ?_
 refine wreg fun K hK=>?_
 simp [C.slices_IndexFunc_int_int]
 refine hK _ ?_;clear hK K
 show AWp _ _ _ _ _
 refine wseq ?_
 refine wcond _ rfl (fun hc1=>?_) (fun hc1=>?_)
 ·have h1:x1 < xs.length:=by have:=d_t hc1;omega
  refine wskip ?_
  show AWp _ _ _ _ _
  refine wseq ?_
  refine wblock ?_
  refine wseq ?_
  refine wreg fun K hK=>?_
  simp [C.slices_IndexFunc_int_int]
  refine hK _ ?_;clear hK K
  show AWp _ _ _ _ _
  refine wseq ?_
  refine wregI ([0,1,2,3,4,5] ++ ([])) rfl fun K hK=>?_
  refine opsI_seg fun L hL=>?_
  simp [C.slices_IndexFunc_int_int,get_ints,h1,hM]
  refine wcall1 (hp xs[x1] (List.getElem_mem h1)) (by simp) (by simp) ?_
  simp [C.slices_IndexFunc_int_int,get_ints,h1,hM]
  refine hL _ ?_;clear hL L
  refine opsI_end fun L hL=>?_
  simp only [AOpsI]
  refine hL _ ?_;clear hL L
  simp [C.slices_IndexFunc_int_int,get_ints,h1,hM]
  refine hK _ ?_;clear hK K
  show AWp _ _ _ _ _
  refine wcond _ rfl (fun hc2=>?_) (fun hc2=>?_)
  ·have hpx:p xs[x1]=true:=by simpa using hc2
   refine wseq ?_
   refine wreg fun K hK=>?_
   simp [C.slices_IndexFunc_int_int]
   refine hK _ ?_;clear hK K
   show AWp _ _ _ _ _
   refine wret ?_
   simp [C.slices_IndexFunc_int_int]
   exact ⟨xs[x1],List.getElem_mem h1,hpx⟩
  ·have hpx:p xs[x1]=false:=by simpa using hc2
   refine wskip ?_
   show AWp _ _ _ _ _
   refine wreg fun K hK=>?_
   simp [C.slices_IndexFunc_int_int,wrap_succ (show x1 < 4611686018427387904 by omega)]
   refine hK _ ?_;clear hK K
   simp [C.slices_IndexFunc_int_int]
   refine hR1 (x1+1) ⟨h1,?_⟩ (by omega)
   rw [List.take_succ_eq_append_getElem h1,List.any_append,ht]
   simp [hpx]
 ·have h1:x1=xs.length:=by have:=d_f hc1;omega
  have ht2:xs.any p=false:=by rw [h1,List.take_length] at ht;exact ht
  refine wexit ?_
  show AWp _ _ _ _ _
  refine wseq ?_
  refine wreg fun K hK=>?_
  simp [C.slices_IndexFunc_int_int]
  refine hK _ ?_;clear hK K
  show AWp _ _ _ _ _
  refine wret ?_
  simp [C.slices_IndexFunc_int_int]
  intro x hx
  have:=List.any_eq_false.1 ht2 x hx
  simpa using this
theorem slices_ContainsFunc_int_int_calls (xs:List Int) (g:Nat) (p:Int->Bool) (hx:xs.length < 4611686018427387904) (hM:aget [] MM g=[]) (hp:∀ x∈xs,ACalls Tryz.prog g [.int x] [] true (fun outs res=>outs=[]/\res=[.one (D.bool (p x))])):ACalls Tryz.prog F.slices_ContainsFunc_int_int [.d (shI xs),.d (.fn g [])] [] true (fun outs res=>outs=[]/\res=[.one (D.bool (xs.any p))]):=by
 refine ACalls.of_body (C:=C.slices_ContainsFunc_int_int) (n:=Tryz.f122.ntmps) tabT folT Tryz.func122 rfl (by kernel_rfl) rfl (Nat.le_of_ble_eq_true rfl) (by decide) (by kernel_rfl) (by kernel_rfl) rfl (by simp) (by simp) ?_
 simp only [Tryz.f122]
 refine wseq ?_
 refine wreg fun K hK=>?_
 simp [C.slices_ContainsFunc_int_int]
 refine hK _ ?_;clear hK K
 show AWp _ _ _ _ _
 refine wseq ?_
 refine wregI ([0,1,2] ++ ([3,4])) rfl fun K hK=>?_
 refine opsI_seg fun L hL=>?_
 simp [C.slices_ContainsFunc_int_int]
 refine wcall (slices_IndexFunc_int_int_calls xs g p hx hM hp) (by simp) (by simp) (by simp) ?_
 rintro outs res ⟨rfl,r,rfl,hr⟩
 simp [C.slices_ContainsFunc_int_int]
 refine hL _ ?_;clear hL L
 refine opsI_end fun L hL=>?_
 simp [C.slices_ContainsFunc_int_int]
 refine hL _ ?_;clear hL L
 simp [C.slices_ContainsFunc_int_int]
 refine hK _ ?_;clear hK K
 show AWp _ _ _ _ _
 refine wret ?_
 simp [C.slices_ContainsFunc_int_int]
 exact hr
theorem impl_expOk_1_calls (x:Int):ACalls Tryz.prog F.impl_expOk_1 [.int x] [] true (fun outs res=>outs=[]/\res=[.one (D.bool (!decide (-20<=x/\x<=20)))]):=by
 refine ACalls.of_body (C:=C.impl_expOk_1) (n:=Tryz.f207.ntmps) tabT folT Tryz.func207 rfl (by kernel_rfl) rfl (Nat.le_of_ble_eq_true rfl) (by decide) (by kernel_rfl) (by kernel_rfl) rfl (by simp) (by simp) ?_
 simp only [Tryz.f207]
 refine wseq ?_
 refine wreg fun K hK=>?_
 simp [C.impl_expOk_1]
 refine hK _ ?_;clear hK K
 show AWp _ _ _ _ _
 refine wseq ?_
 refine wregI ([0,1] ++ ([2,3])) rfl fun K hK=>?_
 refine opsI_seg fun L hL=>?_
 simp [C.impl_expOk_1]
 refine wcall1 (impl_within_calls x (-20) 20) (by simp) (by simp) ?_
 simp [C.impl_expOk_1]
 refine hL _ ?_;clear hL L
 refine opsI_end fun L hL=>?_
 simp [C.impl_expOk_1]
 refine hL _ ?_;clear hL L
 simp [C.impl_expOk_1]
 refine hK _ ?_;clear hK K
 show AWp _ _ _ _ _
 refine wret ?_
 simp [C.impl_expOk_1]
theorem impl_expOk_calls (e:List Int) (v:Int) (hx:e.length < 4611686018427387904):ACalls Tryz.prog F.impl_expOk [.d (shI e),.int v] [] true (fun outs res=>outs=[]/\res=[.one (D.bool (okE e v))]):=by
 refine ACalls.of_body (C:=C.impl_expOk) (n:=Tryz.f140.ntmps) tabT folT Tryz.func140 rfl (by kernel_rfl) rfl (Nat.le_of_ble_eq_true rfl) (by decide) (by kernel_rfl) (by kernel_rfl) rfl (by simp) (by simp) ?_
 simp only [Tryz.f140]
 refine wseq ?_
 refine wreg fun K hK=>?_
 simp [C.impl_expOk]
 refine hK _ ?_;clear hK K
 show AWp _ _ _ _ _
 refine wseq ?_
 refine wregI ([0,1,2,3,4,5,6] ++ ([7,8,9])) rfl fun K hK=>?_
 have hJ:K ⟨ofL [(4,.bool (okE e v))],ofRO []⟩:=by
  refine hK _ ?_;clear hK K
  show AWp _ _ _ _ _
  refine wret ?_
  simp [C.impl_expOk]
 clear hK
 by_cases ha:(e.length:Int)=v
 ·refine opsI_seg fun L hL=>?_
  simp [C.impl_expOk,ha]
  refine wcall1 (slices_ContainsFunc_int_int_calls e _ (fun x=>!decide (-20<=x/\x<=20)) hx rfl (fun x _=>impl_expOk_1_calls x)) (by simp) (by simp) ?_
  simp [C.impl_expOk,ha]
  refine hL _ ?_;clear hL L
  refine opsI_end fun L hL=>?_
  simp [C.impl_expOk,ha]
  refine hL _ ?_;clear hL L
  simp [C.impl_expOk,ha]
  refine cast (congrArg K ?_) hJ
  simp [okE,ha]
 ·refine opsI_seg fun L hL=>?_
  simp [C.impl_expOk,ha]
  refine hL _ ?_;clear hL L
  refine opsI_end fun L hL=>?_
  simp [C.impl_expOk,ha]
  refine hL _ ?_;clear hL L
  simp [C.impl_expOk,ha]
  refine cast (congrArg K ?_) hJ
  simp [okE,ha]
theorem impl_coefOk_calls (c:Int):ACalls Tryz.prog F.impl_coefOk [.int c] [] true (fun outs res=>outs=[]/\res=[.one (D.bool (decide (c≠0/\-1000000<=c/\c<=1000000)))]):=by
 refine ACalls.of_body (C:=C.impl_coefOk) (n:=Tryz.f157.ntmps) tabT folT Tryz.func157 rfl (by kernel_rfl) rfl (Nat.le_of_ble_eq_true rfl) (by decide) (by kernel_rfl) (by kernel_rfl) rfl (by simp) (by simp) ?_
 simp only [Tryz.f157]
 refine wseq ?_
 refine wreg fun K hK=>?_
 simp [C.impl_coefOk]
 refine hK _ ?_;clear hK K
 show AWp _ _ _ _ _
 refine wseq ?_
 refine wregI ([0,1,2,3,4] ++ ([5,6])) rfl fun K hK=>?_
 have hJ:K ⟨ofL [(2,.bool (decide (c≠0/\-1000000<=c/\c<=1000000)))],ofRO []⟩:=by
  refine hK _ ?_;clear hK K
  show AWp _ _ _ _ _
  refine wret ?_
  simp [C.impl_coefOk]
 clear hK
 by_cases ha:c=0
 ·refine opsI_seg fun L hL=>?_
  simp [C.impl_coefOk,ha]
  refine hL _ ?_;clear hL L
  refine opsI_end fun L hL=>?_
  simp [C.impl_coefOk,ha]
  refine hL _ ?_;clear hL L
  simp [C.impl_coefOk,ha]
  refine cast (congrArg K ?_) hJ
  simp [ha]
 ·refine opsI_seg fun L hL=>?_
  simp [C.impl_coefOk,ha]
  refine wcall1 (impl_within_calls c (-1000000) 1000000) (by simp) (by simp) ?_
  simp [C.impl_coefOk,ha]
  refine hL _ ?_;clear hL L
  refine opsI_end fun L hL=>?_
  simp [C.impl_coefOk,ha]
  refine hL _ ?_;clear hL L
  simp [C.impl_coefOk,ha]
  refine cast (congrArg K ?_) hJ
  simp [ha]
theorem impl_LaurentOk_calls (f:Lau) (hx:f.ts.length < 4611686018427387904) (hxe:∀ t∈f.ts,t.e.length < 4611686018427387904):ACalls Tryz.prog F.impl_LaurentOk [aF f] [] true (fun outs res=>outs=[]/\res=[.one (D.bool (decide (Right f)))]):=by
 refine ACalls.of_body (C:=C.impl_LaurentOk) (n:=Tryz.f84.ntmps) tabT folT Tryz.func84 rfl (by kernel_rfl) rfl (Nat.le_of_ble_eq_true rfl) (by decide) (by kernel_rfl) (by kernel_rfl) rfl (by simp) (by simp) ?_
 simp only [Tryz.f84]
 refine wseq ?_
 refine wreg fun K hK=>?_
 simp [C.impl_LaurentOk,fS,tS]
 refine hK _ ?_;clear hK K
 show AWp _ _ _ _ _
 refine wseq ?_
 refine wseq ?_
 refine wregI ([0,1,2] ++ ([3,4,5,6,7,8,9])) rfl fun K hK=>?_
 have hJ:K ⟨ofL [(1,.pt (1,0) [] 0),(14,.bool (decide (¬ (1<=f.v/\f.v<=8)\/600 < (f.ts.length:Int))))],ofRO [((1,0),some (.bx (fS f)))]⟩:=by
  refine hK _ ?_;clear hK K
  show AWp _ _ _ _ _
  refine wcond _ rfl (fun hc1=>?_) (fun hc1=>?_)
  ·have hh:=d_t hc1
   refine wseq ?_
   refine wreg fun K hK=>?_
   simp [C.impl_LaurentOk,fS,tS]
   refine hK _ ?_;clear hK K
   show AWp _ _ _ _ _
   refine wret ?_
   simp [C.impl_LaurentOk,fS,tS]
   intro hr;have:=hr.1;have:=hr.2.1;omega
  ·have hh0:=d_f hc1
   have hh:(1<=f.v/\f.v<=8)/\f.ts.length<=600:=by omega
   refine wskip ?_
   show AWp _ _ _ _ _
   refine wseq ?_
   refine wseq ?_
   refine wreg fun K hK=>?_
   simp [C.impl_LaurentOk,fS,tS]
   refine hK _ ?_;clear hK K
   show AWp _ _ _ _ _
   refine wblock ?_
   refine wloop (fun k:Nat=>⟨ofL [(1,.pt (1,0) [] 0),(16,.d (.sh 2 f.ts.length (rows tS f.ts))),(17,.int f.ts.length),(18,.int k)],ofRO [((1,0),some (.bx (fS f)))]⟩) (fun k=>k<=f.ts.length/\(∀ t∈f.ts.take k,Good f.v t)/\DescT (f.ts.take k)) (fun k=>f.ts.length - k) 0 (by simp [C.impl_LaurentOk,fS]) (by simp [DescT]) ?_
   intro x1 hx1 R1 hR1
   obtain ⟨hk,hgood,hdesc⟩:=hx1
   refine wseq ?_
   refine wreg fun K hK=>?_
   simp [C.impl_LaurentOk,fS,tS]
   refine hK _ ?_;clear hK K
   show AWp _ _ _ _ _
   refine wseq ?_
   refine wcond _ rfl (fun hc2=>?_) (fun hc2=>?_)
   ·have h1:x1 < f.ts.length:=by have:=d_t hc2;omega
    refine wskip ?_
    show AWp _ _ _ _ _
    refine wseq ?_
    refine wblock ?_
    refine wseq ?_
    refine wreg fun K hK=>?_
    simp [C.impl_LaurentOk,fS,tS,h1,tS_0 h1,tS_1 h1]
    refine hK _ ?_;clear hK K
    show AWp _ _ _ _ _
    refine wseq ?_
    refine wdrawI [(true,0),(true,1),(true,2),(true,3),(false,4),(true,5),(true,6),(true,7),(true,8),(false,9),(true,10),(true,11),(true,12),(true,13),(true,14),(true,15),(true,16),(true,17),(true,18),(true,19),(true,20),(true,21),(true,22),(true,23),(true,24),(false,25),(true,26),(true,27),(true,28)] ⟨by kernel_rfl,by kernel_rfl⟩ ([0,1,2,3,4] ++ ([5,6,7,8,9] ++ ([10,11,12,13,14,15,16,17,18,19,20,21,22,23,24,25] ++ ([26,27,28])))) rfl fun K hK=>?_
    have hJ:K ⟨ofL [(1,.pt (1,0) [] 0),(16,.d (.sh 2 f.ts.length (rows tS f.ts))),(17,.int f.ts.length),(18,.int x1),(51,.bool (!decide (okE f.ts[x1].e f.v=true/\(f.ts[x1].c≠0/\-1000000<=f.ts[x1].c/\f.ts[x1].c<=1000000)/\(x1=0\/lexlt f.ts[x1].e f.ts[x1 - 1].e=true))))],ofRO [((1,0),some (.bx (fS f)))]⟩:=by
     refine hK _ ?_;clear hK K
     show AWp _ _ _ _ _
     refine wcond _ rfl (fun hc3=>?_) (fun hc3=>?_)
     ·have hb:=nd_t hc3
      refine wseq ?_
      refine wreg fun K hK=>?_
      simp [C.impl_LaurentOk,fS,tS]
      refine hK _ ?_;clear hK K
      show AWp _ _ _ _ _
      refine wret ?_
      simp [C.impl_LaurentOk,fS,tS]
      intro hr
      have hg:=hr.2.2.1 _ (List.getElem_mem h1)
      exact hb ⟨okE_iff.2 ⟨hg.1,hg.2.2.2⟩,⟨hg.2.1,hg.2.2.1⟩,descT_next h1 hr.2.2.2⟩
     ·have hb:=nd_f hc3
      refine wskip ?_
      show AWp _ _ _ _ _
      refine wreg fun K hK=>?_
      simp [C.impl_LaurentOk,fS,tS,wrap_succ (show x1 < 4611686018427387904 by omega)]
      refine hK _ ?_;clear hK K
      simp [C.impl_LaurentOk,fS,tS]
      refine hR1 (x1+1) ⟨h1,?_,descT_step h1 hdesc hb.2.2⟩ (by omega)
      rw [List.take_succ_eq_append_getElem h1]
      intro t ht
      rcases List.mem_append.1 ht with ht | ht
      ·exact hgood t ht
      ·simp only [List.mem_singleton] at ht
       rw [ht]
       have ho:=okE_iff.1 hb.1
       exact ⟨ho.1,hb.2.1.1,hb.2.1.2,ho.2⟩
    clear hK
    by_cases ha:okE f.ts[x1].e f.v=true
    ·by_cases hb:f.ts[x1].c≠0/\-1000000<=f.ts[x1].c/\f.ts[x1].c<=1000000
     ·by_cases hd:0 < x1
      ·obtain ⟨m,rfl⟩:∃ m,x1=m+1:=⟨x1 - 1,by omega⟩
       have hm:m < f.ts.length:=by omega
       refine opsI_seg fun L hL=>?_
       simp [C.impl_LaurentOk,fS,tS,hm,tS_0 hm,wrap_nat (show m < 4611686018427387904 by omega),ha,hb,hd]
       refine wcall1 (impl_expOk_calls f.ts[m+1].e f.v (hxe _ (List.getElem_mem h1))) (by simp) (by simp) ?_
       simp [C.impl_LaurentOk,fS,tS,hm,tS_0 hm,wrap_nat (show m < 4611686018427387904 by omega),ha,hb,hd]
       refine hL _ ?_;clear hL L
       refine opsI_seg fun L hL=>?_
       simp [C.impl_LaurentOk,fS,tS,hm,tS_0 hm,wrap_nat (show m < 4611686018427387904 by omega),ha,hb,hd]
       refine wcall1 (impl_coefOk_calls f.ts[m+1].c) (by simp) (by simp) ?_
       simp [C.impl_LaurentOk,fS,tS,hm,tS_0 hm,wrap_nat (show m < 4611686018427387904 by omega),ha,hb,hd]
       refine hL _ ?_;clear hL L
       refine opsI_seg fun L hL=>?_
       simp [C.impl_LaurentOk,fS,tS,hm,tS_0 hm,wrap_nat (show m < 4611686018427387904 by omega),ha,hb,hd]
       refine wcall1 (slices_Compare_int_int_calls f.ts[m].e f.ts[m+1].e (hxe _ (List.getElem_mem hm))) (by simp) (by simp) ?_
       simp [C.impl_LaurentOk,fS,tS,hm,tS_0 hm,wrap_nat (show m < 4611686018427387904 by omega),ha,hb,hd]
       refine hL _ ?_;clear hL L
       refine opsI_end fun L hL=>?_
       simp [C.impl_LaurentOk,fS,tS,hm,tS_0 hm,wrap_nat (show m < 4611686018427387904 by omega),ha,hb,hd]
       refine hL _ ?_;clear hL L
       simp [C.impl_LaurentOk,fS,tS,hm,tS_0 hm,wrap_nat (show m < 4611686018427387904 by omega),ha,hb,hd]
       refine cast (congrArg K ?_) hJ
       simp [cmpL_pos,fS,tS,ha,hb,hd]
      ·obtain rfl:x1=0:=by omega
       refine opsI_seg fun L hL=>?_
       simp [C.impl_LaurentOk,fS,tS,ha,hb,hd]
       refine wcall1 (impl_expOk_calls f.ts[0].e f.v (hxe _ (List.getElem_mem h1))) (by simp) (by simp) ?_
       simp [C.impl_LaurentOk,fS,tS,ha,hb,hd]
       refine hL _ ?_;clear hL L
       refine opsI_seg fun L hL=>?_
       simp [C.impl_LaurentOk,fS,tS,ha,hb,hd]
       refine wcall1 (impl_coefOk_calls f.ts[0].c) (by simp) (by simp) ?_
       simp [C.impl_LaurentOk,fS,tS,ha,hb,hd]
       refine hL _ ?_;clear hL L
       refine opsI_seg fun L hL=>?_
       simp [C.impl_LaurentOk,fS,tS,ha,hb,hd]
       refine hL _ ?_;clear hL L
       refine opsI_end fun L hL=>?_
       simp [C.impl_LaurentOk,fS,tS,ha,hb,hd]
       refine hL _ ?_;clear hL L
       simp [C.impl_LaurentOk,fS,tS,ha,hb,hd]
       refine cast (congrArg K ?_) hJ
       simp [fS,tS,ha,hb,hd]
     ·refine opsI_seg fun L hL=>?_
      simp [C.impl_LaurentOk,fS,tS,ha,hb]
      refine wcall1 (impl_expOk_calls f.ts[x1].e f.v (hxe _ (List.getElem_mem h1))) (by simp) (by simp) ?_
      simp [C.impl_LaurentOk,fS,tS,ha,hb]
      refine hL _ ?_;clear hL L
      refine opsI_seg fun L hL=>?_
      simp [C.impl_LaurentOk,fS,tS,ha,hb]
      refine wcall1 (impl_coefOk_calls f.ts[x1].c) (by simp) (by simp) ?_
      simp [C.impl_LaurentOk,fS,tS,ha,hb]
      refine hL _ ?_;clear hL L
      refine opsI_seg fun L hL=>?_
      simp [C.impl_LaurentOk,fS,tS,ha,hb]
      refine hL _ ?_;clear hL L
      refine opsI_end fun L hL=>?_
      simp [C.impl_LaurentOk,fS,tS,ha,hb]
      refine hL _ ?_;clear hL L
      simp [C.impl_LaurentOk,fS,tS,ha,hb]
      refine cast (congrArg K ?_) hJ
      simp [fS,tS,ha,hb]
    ·refine opsI_seg fun L hL=>?_
     simp [C.impl_LaurentOk,fS,tS,ha]
     refine wcall1 (impl_expOk_calls f.ts[x1].e f.v (hxe _ (List.getElem_mem h1))) (by simp) (by simp) ?_
     simp [C.impl_LaurentOk,fS,tS,ha]
     refine hL _ ?_;clear hL L
     refine opsI_seg fun L hL=>?_
     simp [C.impl_LaurentOk,fS,tS,ha]
     refine hL _ ?_;clear hL L
     refine opsI_seg fun L hL=>?_
     simp [C.impl_LaurentOk,fS,tS,ha]
     refine hL _ ?_;clear hL L
     refine opsI_end fun L hL=>?_
     simp [C.impl_LaurentOk,fS,tS,ha]
     refine hL _ ?_;clear hL L
     simp [C.impl_LaurentOk,fS,tS,ha]
     refine cast (congrArg K ?_) hJ
     simp [fS,tS,ha]
   ·have h2:x1=f.ts.length:=by have:=d_f hc2;omega
    refine wexit ?_
    show AWp _ _ _ _ _
    refine wseq ?_
    refine wreg fun K hK=>?_
    simp [C.impl_LaurentOk,fS,tS]
    refine hK _ ?_;clear hK K
    show AWp _ _ _ _ _
    refine wret ?_
    simp [C.impl_LaurentOk,fS,tS]
    rw [h2,List.take_length] at hgood hdesc
    exact ⟨hh.1,hh.2,hgood,hdesc⟩
 clear hK
 by_cases ha:1<=f.v/\f.v<=8
 ·refine opsI_seg fun L hL=>?_
  simp [C.impl_LaurentOk,fS,tS,ha]
  refine wcall1 (impl_within_calls f.v 1 8) (by simp) (by simp) ?_
  simp [C.impl_LaurentOk,fS,tS,ha]
  refine hL _ ?_;clear hL L
  refine opsI_end fun L hL=>?_
  simp [C.impl_LaurentOk,fS,tS,ha]
  refine hL _ ?_;clear hL L
  simp [C.impl_LaurentOk,fS,tS,ha]
  refine cast (congrArg K ?_) hJ
  simp [fS,tS,ha]
 ·refine opsI_seg fun L hL=>?_
  simp [C.impl_LaurentOk,fS,tS,ha]
  refine wcall1 (impl_within_calls f.v 1 8) (by simp) (by simp) ?_
  simp [C.impl_LaurentOk,fS,tS,ha]
  refine hL _ ?_;clear hL L
  refine opsI_end fun L hL=>?_
  simp [C.impl_LaurentOk,fS,tS,ha]
  refine hL _ ?_;clear hL L
  simp [C.impl_LaurentOk,fS,tS,ha]
  refine cast (congrArg K ?_) hJ
  simp [fS,tS,ha]
theorem impl_bothOk_calls (f g:Lau) (hx:f.ts.length < 4611686018427387904) (hxe:∀ t∈f.ts,t.e.length < 4611686018427387904) (hy:g.ts.length < 4611686018427387904) (hye:∀ t∈g.ts,t.e.length < 4611686018427387904):ACalls Tryz.prog F.impl_bothOk [aF f,aF g] [] true (fun outs res=>outs=[]/\res=[.one (D.bool (decide (Right f/\Right g/\f.v=g.v)))]):=by
 refine ACalls.of_body (C:=C.impl_bothOk) (n:=Tryz.f159.ntmps) tabT folT Tryz.func159 rfl (by kernel_rfl) rfl (Nat.le_of_ble_eq_true rfl) (by decide) (by kernel_rfl) (by kernel_rfl) rfl (by simp) (by simp) ?_
 simp only [Tryz.f159]
 refine wseq ?_
 refine wreg fun K hK=>?_
 simp [C.impl_bothOk,fS]
 refine hK _ ?_;clear hK K
 show AWp _ _ _ _ _
 refine wseq ?_
 refine wregI ([0,1] ++ ([2,3,4] ++ ([5,6,7,8,9,10,11,12,13]))) rfl fun K hK=>?_
 have hJ:K ⟨ofL [(4,.bool (decide (Right f/\Right g/\f.v=g.v)))],ofRO []⟩:=by
  refine hK _ ?_;clear hK K
  show AWp _ _ _ _ _
  refine wret ?_
  simp [C.impl_bothOk,fS]
 clear hK
 by_cases ha:Right f
 ·by_cases hb:Right g
  ·refine opsI_seg fun L hL=>?_
   simp [C.impl_bothOk,fS,ha,hb]
   refine wcall1 (impl_LaurentOk_calls f hx hxe) (by simp) (by simp) ?_
   simp [C.impl_bothOk,fS,ha,hb]
   refine hL _ ?_;clear hL L
   refine opsI_seg fun L hL=>?_
   simp [C.impl_bothOk,fS,ha,hb]
   refine wcall1 (impl_LaurentOk_calls g hy hye) (by simp) (by simp) ?_
   simp [C.impl_bothOk,fS,ha,hb]
   refine hL _ ?_;clear hL L
   refine opsI_end fun L hL=>?_
   simp [C.impl_bothOk,fS,ha,hb]
   refine hL _ ?_;clear hL L
   simp [C.impl_bothOk,fS,ha,hb]
   refine cast (congrArg K ?_) hJ
   simp [ibeq,fS,ha,hb]
  ·refine opsI_seg fun L hL=>?_
   simp [C.impl_bothOk,fS,ha,hb]
   refine wcall1 (impl_LaurentOk_calls f hx hxe) (by simp) (by simp) ?_
   simp [C.impl_bothOk,fS,ha,hb]
   refine hL _ ?_;clear hL L
   refine opsI_seg fun L hL=>?_
   simp [C.impl_bothOk,fS,ha,hb]
   refine wcall1 (impl_LaurentOk_calls g hy hye) (by simp) (by simp) ?_
   simp [C.impl_bothOk,fS,ha,hb]
   refine hL _ ?_;clear hL L
   refine opsI_end fun L hL=>?_
   simp [C.impl_bothOk,fS,ha,hb]
   refine hL _ ?_;clear hL L
   simp [C.impl_bothOk,fS,ha,hb]
   refine cast (congrArg K ?_) hJ
   simp [ibeq,fS,ha,hb]
 ·refine opsI_seg fun L hL=>?_
  simp [C.impl_bothOk,fS,ha]
  refine wcall1 (impl_LaurentOk_calls f hx hxe) (by simp) (by simp) ?_
  simp [C.impl_bothOk,fS,ha]
  refine hL _ ?_;clear hL L
  refine opsI_seg fun L hL=>?_
  simp [C.impl_bothOk,fS,ha]
  refine hL _ ?_;clear hL L
  refine opsI_end fun L hL=>?_
  simp [C.impl_bothOk,fS,ha]
  refine hL _ ?_;clear hL L
  simp [C.impl_bothOk,fS,ha]
  refine cast (congrArg K ?_) hJ
  simp [ibeq,fS,ha]
end Go.Proofs.YtbhkonnakkhibaaGreat.Ab
namespace Go.Proofs.YtbhkonnakkhibaaGreat.Ab
open Go
set_option maxRecDepth 10000
set_option maxHeartbeats 1000000
abbrev aM (m:Mat):FV:=.ag [.int m.n,.int m.r,.d (shI m.d)]
abbrev aS (s:Sed):FV:=.ag [.int s.m.n,.int s.m.r,.d (shI s.m.d),.d (.sh 2 s.f.length (rows fS s.f))]
theorem mat_eq {a b:Mat}:a=b↔a.n=b.n/\a.r=b.r/\a.d=b.d:=by
 cases a;cases b;simp
def SmF (f:Lau):Prop:=f.ts.length < 4611686018427387904/\∀ t∈f.ts,t.e.length < 4611686018427387904
end Go.Proofs.YtbhkonnakkhibaaGreat.Ab
namespace Go.Proofs.YtbhkonnakkhibaaGreat.Ab
open Go
set_option maxRecDepth 10000
set_option maxHeartbeats 2000000
def unitL (n i:Nat):List Int:=(List.replicate n 0).set i 1
theorem unitL_length (n i:Nat):(unitL n i).length=n:=by simp [unitL]
noncomputable def monoF (e:List Int):Lau:=if Right ⟨e.length,[⟨e,1⟩]⟩ then ⟨e.length,[⟨e,1⟩]⟩ else zeroF
noncomputable def varsL (r:Nat):List Lau:=(List.range r).map fun i=>monoF (unitL r i)
theorem fO_snoc (l:List Lau) (f:Lau):rows fO l ++ [D.v (.int .i64 f.v),D.ow 2 f.ts.length (rows tO f.ts)]=rows fO (l ++ [f]):=by
 rw [rows_append]
 rfl
theorem mono_right {e:List Int}:Right ⟨e.length,[⟨e,1⟩]⟩↔(1<=(e.length:Int)/\(e.length:Int)<=8)/\okE e e.length=true:=by
 rw [okE_iff]
 unfold Right Good DescT
 simp
theorem spec_l3Unit_calls (n i:Nat) (hn:n<=8) (hi:i < n):ACalls Tryz.prog F.spec_l3Unit [.int n,.int i] [] true (fun outs res=>outs=[]/\res=[.one (owI (unitL n i))]):=by
 refine ACalls.of_body (C:=C.spec_l3Unit) (n:=Tryz.f59.ntmps) tabT folT Tryz.func59 rfl (by kernel_rfl) rfl (Nat.le_of_ble_eq_true rfl) (by decide) (by kernel_rfl) (by kernel_rfl) rfl (by simp) (by simp) ?_
 simp only [Tryz.f59]
 refine wseq ?_
 refine wreg fun K hK=>?_
 simp [C.spec_l3Unit]
 refine hK _ ?_;clear hK K
 show AWp _ _ _ _ _
 refine wseq ?_
 refine wreg fun K hK=>?_
 simp [C.spec_l3Unit,zeros_ints,show (8:Int)*n<=281474976710656 by omega,show (n:Int)<=281474976710656 by omega]
 refine hK _ ?_;clear hK K
 show AWp _ _ _ _ _
 refine wseq ?_
 refine wreg fun K hK=>?_
 simp [C.spec_l3Unit,hi]
 refine hK _ ?_;clear hK K
 show AWp _ _ _ _ _
 refine wseq ?_
 refine wreg fun K hK=>?_
 simp [C.spec_l3Unit]
 refine hK _ ?_;clear hK K
 show AWp _ _ _ _ _
 refine wret ?_
 simp [C.spec_l3Unit,unitL]
theorem impl_unit_calls (n i:Nat) (hn:n<=8) (hi:i < n):ACalls Tryz.prog F.impl_unit [.int n,.int i] [] true (fun outs res=>outs=[]/\res=[.one (owI (unitL n i))]):=by
 refine ACalls.of_body (C:=C.impl_unit) (n:=Tryz.f65.ntmps) tabT folT Tryz.func65 rfl (by kernel_rfl) rfl (Nat.le_of_ble_eq_true rfl) (by decide) (by kernel_rfl) (by kernel_rfl) rfl (by simp) (by simp) ?_
 simp only [Tryz.f65]
 refine wseq ?_
 refine wreg fun K hK=>?_
 simp [C.impl_unit]
 refine hK _ ?_;clear hK K
 show AWp _ _ _ _ _
 refine wseq ?_
 refine wreg fun K hK=>?_
 simp [C.impl_unit,zeros_ints,show (8:Int)*n<=281474976710656 by omega,show (n:Int)<=281474976710656 by omega]
 refine hK _ ?_;clear hK K
 show AWp _ _ _ _ _
 refine wseq ?_
 refine wreg fun K hK=>?_
 simp [C.impl_unit,hi]
 refine hK _ ?_;clear hK K
 show AWp _ _ _ _ _
 refine wseq ?_
 refine wreg fun K hK=>?_
 simp [C.impl_unit]
 refine hK _ ?_;clear hK K
 show AWp _ _ _ _ _
 refine wret ?_
 simp [C.impl_unit,unitL]
theorem spec_MonomialLaurent_calls (e:List Int) (hx:e.length < 17592186044416):ACalls Tryz.prog F.spec_MonomialLaurent [.d (shI e)] [] true (fun outs res=>outs=[]/\WkRs res [.ag (fO (monoF e))]):=by
 refine ACalls.of_body (C:=C.spec_MonomialLaurent) (n:=Tryz.f58.ntmps) tabT folT Tryz.func58 rfl (by kernel_rfl) rfl (Nat.le_of_ble_eq_true rfl) (by decide) (by kernel_rfl) (by kernel_rfl) rfl (by simp) (by simp) ?_
 simp only [Tryz.f58]
 refine wseq ?_
 refine wreg fun K hK=>?_
 simp [C.spec_MonomialLaurent]
 refine hK _ ?_;clear hK K
 show AWp _ _ _ _ _
 refine wseq ?_
 refine wregI ([0,1,2,3] ++ ([4,5,6,7,8])) rfl fun K hK=>?_
 refine opsI_seg fun L hL=>?_
 simp [C.spec_MonomialLaurent]
 refine wcall1 (spec_l1Ints_calls e hx) (by simp) (by simp) ?_
 simp [C.spec_MonomialLaurent]
 refine hL _ ?_;clear hL L
 refine opsI_end fun L hL=>?_
 simp [C.spec_MonomialLaurent]
 refine hL _ ?_;clear hL L
 simp [C.spec_MonomialLaurent]
 refine hK _ ?_;clear hK K
 show AWp _ _ _ _ _
 refine wseq ?_
 refine wseq ?_
 refine wregI ([0,1] ++ ([2])) rfl fun K hK=>?_
 refine opsI_seg fun L hL=>?_
 simp [C.spec_MonomialLaurent,rows,tO,tS]
 refine wcall1 (spec_l2Right_calls ⟨e.length,[⟨e,1⟩]⟩ (by simp) (by simp;omega)) (by simp [rows,tO,tS]) (by simp) ?_
 simp [C.spec_MonomialLaurent,rows,tO,tS]
 refine hL _ ?_;clear hL L
 refine opsI_end fun L hL=>?_
 simp [C.spec_MonomialLaurent,rows,tO,tS]
 refine hL _ ?_;clear hL L
 simp [C.spec_MonomialLaurent,rows,tO,tS]
 refine hK _ ?_;clear hK K
 show AWp _ _ _ _ _
 refine wcond _ rfl (fun hc1=>?_) (fun hc1=>?_)
 ·have hr:=nd_t hc1
  refine wseq ?_
  refine wreg fun K hK=>?_
  simp [C.spec_MonomialLaurent]
  refine hK _ ?_;clear hK K
  show AWp _ _ _ _ _
  refine wret ?_
  simp [C.spec_MonomialLaurent,monoF,hr,fO,zeroF,rows]
 ·have hr:=nd_f hc1
  refine wskip ?_
  show AWp _ _ _ _ _
  refine wseq ?_
  refine wreg fun K hK=>?_
  simp [C.spec_MonomialLaurent]
  refine hK _ ?_;clear hK K
  show AWp _ _ _ _ _
  refine wret ?_
  simp [C.spec_MonomialLaurent,monoF,hr,fO,rows,tO]
theorem sMono_calls (e:List Int) (hx:e.length < 17592186044416):ACalls Tryz.prog F.spec_MonomialLaurent [.d (shI e)] [] true (fun outs res=>outs=[]/\res=[.ag (fO (monoF e))]):=(spec_MonomialLaurent_calls e hx).weak1
theorem impl_MonomialLaurent_calls (e:List Int) (hx:e.length < 17592186044416):ACalls Tryz.prog F.impl_MonomialLaurent [.d (shI e)] [] true (fun outs res=>outs=[]/\WkRs res [.ag (fO (monoF e))]):=by
 refine ACalls.of_body (C:=C.impl_MonomialLaurent) (n:=Tryz.f64.ntmps) tabT folT Tryz.func64 rfl (by kernel_rfl) rfl (Nat.le_of_ble_eq_true rfl) (by decide) (by kernel_rfl) (by kernel_rfl) rfl (by simp) (by simp) ?_
 simp only [Tryz.f64]
 refine wseq ?_
 refine wreg fun K hK=>?_
 simp [C.impl_MonomialLaurent]
 refine hK _ ?_;clear hK K
 show AWp _ _ _ _ _
 refine wseq ?_
 refine wseq ?_
 refine wregI ([0,1,2] ++ ([3,4,5,6,7,8] ++ ([9,10]))) rfl fun K hK=>?_
 have hJ:K ⟨ofL [(0,.d (shI e)),(2,.pt (2,0) [] 0),(13,.bool (!decide ((1<=(e.length:Int)/\(e.length:Int)<=8)/\okE e e.length=true)))],ofRO [((2,0),some (.bx [D.int 0,.v (.slice none 0 0)]))]⟩:=by
  refine hK _ ?_;clear hK K
  show AWp _ _ _ _ _
  refine wcond _ rfl (fun hc1=>?_) (fun hc1=>?_)
  ·have hr:¬ Right ⟨e.length,[⟨e,1⟩]⟩:=fun h=>nd_t hc1 (mono_right.1 h)
   refine wseq ?_
   refine wreg fun K hK=>?_
   simp [C.impl_MonomialLaurent]
   refine hK _ ?_;clear hK K
   show AWp _ _ _ _ _
   refine wret ?_
   simp [C.impl_MonomialLaurent,monoF,hr,fO,zeroF,rows]
  ·have hr:Right ⟨e.length,[⟨e,1⟩]⟩:=mono_right.2 (nd_f hc1)
   refine wskip ?_
   show AWp _ _ _ _ _
   refine wseq ?_
   refine wregI ([0,1,2,3] ++ ([4,5,6,7])) rfl fun K hK=>?_
   refine opsI_seg fun L hL=>?_
   simp [C.impl_MonomialLaurent]
   refine wcall1 (clone_calls e hx) (by simp) (by simp) ?_
   simp [C.impl_MonomialLaurent]
   refine hL _ ?_;clear hL L
   refine opsI_end fun L hL=>?_
   simp [C.impl_MonomialLaurent]
   refine hL _ ?_;clear hL L
   simp [C.impl_MonomialLaurent]
   refine hK _ ?_;clear hK K
   show AWp _ _ _ _ _
   refine wret ?_
   simp [C.impl_MonomialLaurent,monoF,hr,fO,rows,tO]
 clear hK
 by_cases ha:1<=(e.length:Int)/\(e.length:Int)<=8
 ·refine opsI_seg fun L hL=>?_
  simp [C.impl_MonomialLaurent,ha]
  refine wcall1 (impl_within_calls e.length 1 8) (by simp) (by simp) ?_
  simp [C.impl_MonomialLaurent,ha]
  refine hL _ ?_;clear hL L
  refine opsI_seg fun L hL=>?_
  simp [C.impl_MonomialLaurent,ha]
  refine wcall1 (impl_expOk_calls e e.length (by omega)) (by simp) (by simp) ?_
  simp [C.impl_MonomialLaurent,ha]
  refine hL _ ?_;clear hL L
  refine opsI_end fun L hL=>?_
  simp [C.impl_MonomialLaurent,ha]
  refine hL _ ?_;clear hL L
  simp [C.impl_MonomialLaurent,ha]
  refine cast (congrArg K ?_) hJ
  simp [Bool.not_and,ha]
 ·refine opsI_seg fun L hL=>?_
  simp [C.impl_MonomialLaurent,ha]
  refine wcall1 (impl_within_calls e.length 1 8) (by simp) (by simp) ?_
  simp [C.impl_MonomialLaurent,ha]
  refine hL _ ?_;clear hL L
  refine opsI_seg fun L hL=>?_
  simp [C.impl_MonomialLaurent,ha]
  refine hL _ ?_;clear hL L
  refine opsI_end fun L hL=>?_
  simp [C.impl_MonomialLaurent,ha]
  refine hL _ ?_;clear hL L
  simp [C.impl_MonomialLaurent,ha]
  refine cast (congrArg K ?_) hJ
  simp [Bool.not_and,ha]
theorem iMono_calls (e:List Int) (hx:e.length < 17592186044416):ACalls Tryz.prog F.impl_MonomialLaurent [.d (shI e)] [] true (fun outs res=>outs=[]/\res=[.ag (fO (monoF e))]):=(impl_MonomialLaurent_calls e hx).weak1
abbrev m0:Mat:=⟨2,2,[0,1,-1,0]⟩
noncomputable abbrev z0:Ses:=⟨m0,[],⟨m0,varsL 2⟩⟩
theorem impl_InitialSeed_calls (n:Int) (r:Nat) (d:List Int) (hr:r<=8) (hx:d.length < 17592186044416) (hok:ACalls Tryz.prog F.impl_MatrixOk [.ag [.int n,.int r,.d (shI d)]] [] true (fun outs res=>outs=[]/\res=[.one (D.bool true)])):ACalls Tryz.prog F.impl_InitialSeed [.ag [.int n,.int r,.d (shI d)]] [] true (fun outs res=>outs=[]/\res=[.ag (sO ⟨⟨n,r,d⟩,varsL r⟩),.one (D.bool true)]):=by
 refine ACalls.of_body (C:=C.impl_InitialSeed) (n:=Tryz.f54.ntmps) tabT folT Tryz.func54 rfl (by kernel_rfl) rfl (Nat.le_of_ble_eq_true rfl) (by decide) (by kernel_rfl) (by kernel_rfl) rfl (by simp) (by simp) ?_
 simp only [Tryz.f54]
 refine wseq ?_
 refine wreg fun K hK=>?_
 simp [C.impl_InitialSeed]
 refine hK _ ?_;clear hK K
 show AWp _ _ _ _ _
 refine wseq ?_
 refine wseq ?_
 refine wregI ([0,1] ++ ([2])) rfl fun K hK=>?_
 refine opsI_seg fun L hL=>?_
 simp [C.impl_InitialSeed]
 refine wcall1 (hok) (by simp) (by simp) ?_
 simp [C.impl_InitialSeed]
 refine hL _ ?_;clear hL L
 refine opsI_end fun L hL=>?_
 simp [C.impl_InitialSeed]
 refine hL _ ?_;clear hL L
 simp [C.impl_InitialSeed]
 refine hK _ ?_;clear hK K
 show AWp _ _ _ _ _
 refine wcond _ rfl (fun hc1=>?_) (fun hc1=>?_)
 ·simp at hc1
 ·refine wskip ?_
  show AWp _ _ _ _ _
  refine wseq ?_
  refine wdraw (.take 0 (.take 1 (.take 2 (.take 3 (.take 4 (.take 5 (.all [(6,.take 7 (.take 8 (.all [(9,.all [(10,.done)])]))),(9,.all [(6,.take 7 (.take 8 (.all [(10,.done)])))])]))))))) ⟨by kernel_rfl,by kernel_rfl⟩ fun K hK=>?_
  have hJ:K ⟨ofL [(1,.pt (1,0) [] 0),(2,.pt (2,0) [] 0),(4,.pt (4,0) [] 0)],ofRO [((1,0),some (.bx [D.int n,D.int r,shI d])),((2,0),some (.bx [D.int 0,D.int 0,.v (.slice none 0 0),.v (.slice none 0 0)])),((4,0),some (.bx [D.int n,D.int r,owI d,.v (.slice none 0 0)]))]⟩:=by
   refine hK _ ?_;clear hK K
   show AWp _ _ _ _ _
   refine wseq ?_
   refine wseq ?_
   refine wreg fun K hK=>?_
   simp [C.impl_InitialSeed]
   refine hK _ ?_;clear hK K
   show AWp _ _ _ _ _
   refine wblock ?_
   refine wloopW (fun x:Nat×List Lau=>⟨ofL [(1,.pt (1,0) [] 0),(2,.pt (2,0) [] 0),(4,.pt (4,0) [] 0),(5,.int x.1)],ofRO [((1,0),some (.bx [D.int n,D.int r,shI d])),((2,0),some (.bx [D.int 0,D.int 0,.v (.slice none 0 0),.v (.slice none 0 0)])),((4,0),some (.bx [D.int n,D.int r,owI d,.ow 2 x.1 (rows fO x.2)]))]⟩) (fun x=>x.1<=r/\x.2=(List.range x.1).map fun i=>monoF (unitL r i)) (fun x=>r - x.1) (0,[]) [.cell (4,0) [] 3 2] (by simp [C.impl_InitialSeed,rows];(first | (constructor <;> funext t) | funext t) <;> simp only [ofL,ofRO] <;> (repeat' (first | rfl | split)) <;> simp_all) (by simp) ?_
   intro x1 hx1 R1 hR1
   obtain ⟨j,gs⟩:=x1
   obtain ⟨hj,hg⟩:=hx1
   dsimp only at hj hg ⊢
   refine wseq ?_
   refine wseq ?_
   refine wreg fun K hK=>?_
   simp [C.impl_InitialSeed]
   refine hK _ ?_;clear hK K
   show AWp _ _ _ _ _
   refine wcond _ rfl (fun hc2=>?_) (fun hc2=>?_)
   ·have h1:j < r:=by have:=d_t hc2;omega
    have hgl:gs.length=j:=by rw [hg];simp
    refine wskip ?_
    show AWp _ _ _ _ _
    refine wseq ?_
    refine wblock ?_
    refine wdrawI [(true,0),(true,1),(true,2),(true,3),(true,4),(false,5),(false,6),(false,7),(false,8),(true,9),(false,10)] ⟨by kernel_rfl,by kernel_rfl⟩ ([0,1,2,3,4,5] ++ ([6] ++ ([7,8,9,10]))) rfl fun K hK=>?_
    refine opsI_seg fun L hL=>?_
    simp [C.impl_InitialSeed,fO,fO_snoc,show (j+1)*32<=140737488355328 by omega]
    refine wcall1 (impl_unit_calls r j hr h1) (by simp) (by simp) ?_
    simp [C.impl_InitialSeed,fO,fO_snoc,show (j+1)*32<=140737488355328 by omega]
    refine hL _ ?_;clear hL L
    refine opsI_seg fun L hL=>?_
    simp [C.impl_InitialSeed,fO,fO_snoc,show (j+1)*32<=140737488355328 by omega]
    refine wcall1 (iMono_calls (unitL r j) (by rw [unitL_length];omega)) (by simp) (by simp) ?_
    simp [C.impl_InitialSeed,fO,fO_snoc,show (j+1)*32<=140737488355328 by omega]
    refine hL _ ?_;clear hL L
    refine opsI_end fun L hL=>?_
    simp [C.impl_InitialSeed,fO,fO_snoc,show (j+1)*32<=140737488355328 by omega]
    refine hL _ ?_;clear hL L
    simp [C.impl_InitialSeed,fO,fO_snoc,show (j+1)*32<=140737488355328 by omega]
    refine hK _ ?_;clear hK K
    show AWp _ _ _ _ _
    refine wreg fun K hK=>?_
    simp [C.impl_InitialSeed,wrap_succ (show j < 4611686018427387904 by omega)]
    refine hK _ ?_;clear hK K
    simp [C.impl_InitialSeed]
    refine hR1 (j+1,_) ⟨h1,?_⟩ (by dsimp only;omega)
    dsimp only
    rw [hg,List.range_succ,List.map_append]
    rfl
   ·have h1:j=r:=by have:=d_f hc2;omega
    subst h1
    refine wexit ?_
    show AWp _ _ _ _ _
    refine wseq ?_
    refine wreg fun K hK=>?_
    simp [C.impl_InitialSeed]
    refine hK _ ?_;clear hK K
    show AWp _ _ _ _ _
    refine wret ?_
    simp [C.impl_InitialSeed,hg,sO,varsL]
  clear hK
  simp [C.impl_InitialSeed]
  refine ⟨?_,?_⟩
  ·refine wcall1 (clone_calls d hx) (by simp) (by simp) ?_
   simp [C.impl_InitialSeed]
   exact hJ
  ·refine wcall1 (clone_calls d hx) (by simp) (by simp) ?_
   simp [C.impl_InitialSeed]
   exact hJ
theorem impl_copyLaurent_calls (f:Lau) (hl:f.ts.length<=1000000) (he:∀ t∈f.ts,t.e.length < 17592186044416):ACalls Tryz.prog F.impl_copyLaurent [aF f] [] true (fun outs res=>outs=[]/\res=[.ag (fO f)]):=by
 refine ACalls.of_body (C:=C.impl_copyLaurent) (n:=Tryz.f151.ntmps) tabT folT Tryz.func151 rfl (by kernel_rfl) rfl (Nat.le_of_ble_eq_true rfl) (by decide) (by kernel_rfl) (by kernel_rfl) rfl (by simp) (by simp) ?_
 simp only [Tryz.f151]
 refine wseq ?_
 refine wreg fun K hK=>?_
 simp [C.impl_copyLaurent]
 refine hK _ ?_;clear hK K
 show AWp _ _ _ _ _
 refine wseq ?_
 refine wreg fun K hK=>?_
 simp [C.impl_copyLaurent]
 refine hK _ ?_;clear hK K
 show AWp _ _ _ _ _
 refine wseq ?_
 refine wseq ?_
 refine wreg fun K hK=>?_
 simp [C.impl_copyLaurent]
 refine hK _ ?_;clear hK K
 show AWp _ _ _ _ _
 refine wblock ?_
 refine wloopW (fun x:Nat×List Trm=>⟨ofL [(2,.pt (2,0) [] 0),(3,.pt (3,0) [] 0),(10,.d (.sh 2 f.ts.length (rows tS f.ts))),(11,.int f.ts.length),(12,.int x.1)],ofRO [((2,0),some (.bx [D.int 0,.v (.slice none 0 0)])),((3,0),some (.bx [D.int f.v,.ow 2 x.1 (rows tO x.2)]))]⟩) (fun x=>x.1<=f.ts.length/\x.2=f.ts.take x.1) (fun x=>f.ts.length - x.1) (0,[]) [.cell (3,0) [] 1 2] (by simp [C.impl_copyLaurent,rows];(first | (constructor <;> funext t) | funext t) <;> simp only [ofL,ofRO] <;> (repeat' (first | rfl | split)) <;> simp_all) (by simp) ?_
 intro x1 hx1 R1 hR1
 obtain ⟨j,gs⟩:=x1
 obtain ⟨hj,hg⟩:=hx1
 dsimp only at hj hg ⊢
 refine wseq ?_
 refine wreg fun K hK=>?_
 simp [C.impl_copyLaurent]
 refine hK _ ?_;clear hK K
 show AWp _ _ _ _ _
 refine wseq ?_
 refine wcond _ rfl (fun hc1=>?_) (fun hc1=>?_)
 ·have h1:j < f.ts.length:=by have:=d_t hc1;omega
  have hgl:gs.length=j:=by rw [hg];simp;omega
  refine wskip ?_
  show AWp _ _ _ _ _
  refine wseq ?_
  refine wblock ?_
  refine wseq ?_
  refine wreg fun K hK=>?_
  simp [C.impl_copyLaurent,h1,tS_0 h1,tS_1 h1]
  refine hK _ ?_;clear hK K
  show AWp _ _ _ _ _
  refine wdrawI [(true,0),(true,1),(true,2),(true,3),(true,5),(true,6),(false,4),(true,7),(false,8),(false,9),(true,10),(false,11)] ⟨by kernel_rfl,by kernel_rfl⟩ ([0,1,2,3,5,6,4] ++ ([7,8,9,10,11])) rfl fun K hK=>?_
  refine opsI_seg fun L hL=>?_
  simp [C.impl_copyLaurent,h1,tO_snoc,show (j+1)*32<=140737488355328 by omega]
  refine wcall1 (clone_calls f.ts[j].e (he _ (List.getElem_mem h1))) (by simp) (by simp) ?_
  simp [C.impl_copyLaurent,h1,tO_snoc,show (j+1)*32<=140737488355328 by omega]
  refine hL _ ?_;clear hL L
  refine opsI_end fun L hL=>?_
  simp [C.impl_copyLaurent,h1,tO_snoc,show (j+1)*32<=140737488355328 by omega]
  refine hL _ ?_;clear hL L
  simp [C.impl_copyLaurent,h1,tO_snoc,show (j+1)*32<=140737488355328 by omega]
  refine hK _ ?_;clear hK K
  show AWp _ _ _ _ _
  refine wreg fun K hK=>?_
  simp [C.impl_copyLaurent,wrap_succ (show j < 4611686018427387904 by omega)]
  refine hK _ ?_;clear hK K
  simp [C.impl_copyLaurent]
  refine hR1 (j+1,_) ⟨h1,?_⟩ (by dsimp only;omega)
  dsimp only
  rw [hg,List.take_succ_eq_append_getElem h1]
 ·have h1:j=f.ts.length:=by have:=d_f hc1;omega
  refine wexit ?_
  show AWp _ _ _ _ _
  refine wseq ?_
  refine wreg fun K hK=>?_
  simp [C.impl_copyLaurent]
  refine hK _ ?_;clear hK K
  show AWp _ _ _ _ _
  refine wret ?_
  simp [C.impl_copyLaurent,hg,h1,fO]
theorem impl_copySeed_calls (s:Sed) (hx:s.m.d.length < 17592186044416) (hl:s.f.length<=1000000) (hf:∀ f∈s.f,f.ts.length<=1000000/\∀ t∈f.ts,t.e.length < 17592186044416):ACalls Tryz.prog F.impl_copySeed [aS s] [] true (fun outs res=>outs=[]/\res=[.ag (sO s)]):=by
 refine ACalls.of_body (C:=C.impl_copySeed) (n:=Tryz.f76.ntmps) tabT folT Tryz.func76 rfl (by kernel_rfl) rfl (Nat.le_of_ble_eq_true rfl) (by decide) (by kernel_rfl) (by kernel_rfl) rfl (by simp) (by simp) ?_
 simp only [Tryz.f76]
 refine wseq ?_
 refine wreg fun K hK=>?_
 simp [C.impl_copySeed,sS]
 refine hK _ ?_;clear hK K
 show AWp _ _ _ _ _
 refine wseq ?_
 refine wdraw (.take 0 (.take 1 (.take 2 (.take 3 (.take 4 (.take 5 (.take 6 (.take 7 (.take 8 (.all [(9,.take 10 (.take 11 (.all [(12,.all [(13,.done)])]))),(12,.all [(9,.take 10 (.take 11 (.all [(13,.done)])))])])))))))))) ⟨by kernel_rfl,by kernel_rfl⟩ fun K hK=>?_
 have hJ:K ⟨ofL [(1,.pt (1,0) [] 0),(2,.pt (2,0) [] 0),(3,.pt (3,0) [] 0)],ofRO [((1,0),some (.bx (sS s))),((2,0),some (.bx [D.int 0,D.int 0,.v (.slice none 0 0),.v (.slice none 0 0)])),((3,0),some (.bx [D.int s.m.n,D.int s.m.r,owI s.m.d,.v (.slice none 0 0)]))]⟩:=by
  refine hK _ ?_;clear hK K
  show AWp _ _ _ _ _
  refine wseq ?_
  refine wseq ?_
  refine wreg fun K hK=>?_
  simp [C.impl_copySeed,sS]
  refine hK _ ?_;clear hK K
  show AWp _ _ _ _ _
  refine wblock ?_
  refine wloopW (fun x:Nat×List Lau=>⟨ofL [(2,.pt (2,0) [] 0),(3,.pt (3,0) [] 0),(19,.d (.sh 2 s.f.length (rows fS s.f))),(20,.int s.f.length),(21,.int x.1)],ofRO [((2,0),some (.bx [D.int 0,D.int 0,.v (.slice none 0 0),.v (.slice none 0 0)])),((3,0),some (.bx [D.int s.m.n,D.int s.m.r,owI s.m.d,.ow 2 x.1 (rows fO x.2)]))]⟩) (fun x=>x.1<=s.f.length/\x.2=s.f.take x.1) (fun x=>s.f.length - x.1) (0,[]) [.cell (3,0) [] 3 2] (by simp [C.impl_copySeed,rows];(first | (constructor <;> funext t) | funext t) <;> simp only [ofL,ofRO] <;> (repeat' (first | rfl | split)) <;> simp_all) (by simp) ?_
  intro x1 hx1 R1 hR1
  obtain ⟨j,gs⟩:=x1
  obtain ⟨hj,hg⟩:=hx1
  dsimp only at hj hg ⊢
  refine wseq ?_
  refine wreg fun K hK=>?_
  simp [C.impl_copySeed,sS]
  refine hK _ ?_;clear hK K
  show AWp _ _ _ _ _
  refine wseq ?_
  refine wcond _ rfl (fun hc1=>?_) (fun hc1=>?_)
  ·have h1:j < s.f.length:=by have:=d_t hc1;omega
   have hgl:gs.length=j:=by rw [hg];simp;omega
   refine wskip ?_
   show AWp _ _ _ _ _
   refine wseq ?_
   refine wblock ?_
   refine wseq ?_
   refine wreg fun K hK=>?_
   simp [C.impl_copySeed,sS,h1,fS_0 h1,fS_1 h1]
   refine hK _ ?_;clear hK K
   show AWp _ _ _ _ _
   refine wdrawI [(true,0),(true,1),(true,2),(false,3),(false,4),(false,5),(true,6),(false,7)] ⟨by kernel_rfl,by kernel_rfl⟩ ([0,1,2,3] ++ ([4,5,6,7])) rfl fun K hK=>?_
   refine opsI_seg fun L hL=>?_
   simp [C.impl_copySeed,sS,h1,fO,fO_snoc,show (j+1)*32<=140737488355328 by omega]
   refine wcall1 (impl_copyLaurent_calls s.f[j] (hf _ (List.getElem_mem h1)).1 (hf _ (List.getElem_mem h1)).2) (by simp) (by simp) ?_
   simp [C.impl_copySeed,sS,h1,fO,fO_snoc,show (j+1)*32<=140737488355328 by omega]
   refine hL _ ?_;clear hL L
   refine opsI_end fun L hL=>?_
   simp [C.impl_copySeed,sS,h1,fO,fO_snoc,show (j+1)*32<=140737488355328 by omega]
   refine hL _ ?_;clear hL L
   simp [C.impl_copySeed,sS,h1,fO,fO_snoc,show (j+1)*32<=140737488355328 by omega]
   refine hK _ ?_;clear hK K
   show AWp _ _ _ _ _
   refine wreg fun K hK=>?_
   simp [C.impl_copySeed,sS,wrap_succ (show j < 4611686018427387904 by omega)]
   refine hK _ ?_;clear hK K
   simp [C.impl_copySeed,sS]
   refine hR1 (j+1,_) ⟨h1,?_⟩ (by dsimp only;omega)
   dsimp only
   rw [hg,List.take_succ_eq_append_getElem h1]
  ·have h1:j=s.f.length:=by have:=d_f hc1;omega
   refine wexit ?_
   show AWp _ _ _ _ _
   refine wseq ?_
   refine wreg fun K hK=>?_
   simp [C.impl_copySeed,sS]
   refine hK _ ?_;clear hK K
   show AWp _ _ _ _ _
   refine wret ?_
   simp [C.impl_copySeed,sS,hg,h1,sO]
 clear hK
 simp [C.impl_copySeed]
 refine ⟨?_,?_⟩
 ·refine wcall1 (clone_calls s.m.d hx) (by simp) (by simp) ?_
  simp [C.impl_copySeed]
  exact hJ
 ·refine wcall1 (clone_calls s.m.d hx) (by simp) (by simp) ?_
  simp [C.impl_copySeed]
  exact hJ
end Go.Proofs.YtbhkonnakkhibaaGreat.Ab
namespace Go.Proofs.YtbhkonnakkhibaaGreat.Ab
open Go
set_option maxRecDepth 10000
set_option maxHeartbeats 2000000
theorem impl_shaped_1_calls (x:Int):ACalls Tryz.prog F.impl_shaped_1 [.int x] [] true (fun outs res=>outs=[]/\res=[.one (D.bool (!decide (-99<=x/\x<=99)))]):=by
 refine ACalls.of_body (C:=C.impl_shaped_1) (n:=Tryz.f213.ntmps) tabT folT Tryz.func213 rfl (by kernel_rfl) rfl (Nat.le_of_ble_eq_true rfl) (by decide) (by kernel_rfl) (by kernel_rfl) rfl (by simp) (by simp) ?_
 simp only [Tryz.f213]
 refine wseq ?_
 refine wreg fun K hK=>?_
 simp [C.impl_shaped_1]
 refine hK _ ?_;clear hK K
 show AWp _ _ _ _ _
 refine wseq ?_
 refine wregI ([0,1] ++ ([2,3])) rfl fun K hK=>?_
 refine opsI_seg fun L hL=>?_
 simp [C.impl_shaped_1]
 refine wcall1 (impl_within_calls x (-99) 99) (by simp) (by simp) ?_
 simp [C.impl_shaped_1]
 refine hL _ ?_;clear hL L
 refine opsI_end fun L hL=>?_
 simp [C.impl_shaped_1]
 refine hL _ ?_;clear hL L
 simp [C.impl_shaped_1]
 refine hK _ ?_;clear hK K
 show AWp _ _ _ _ _
 refine wret ?_
 simp [C.impl_shaped_1]
theorem impl_Matrix_at_calls (m:Mat) (i j q:Nat) (n:Nat) (hn:m.n=n) (hq:q=i*n+j) (hlt:q < m.d.length) (hb:m.d.length < 1000000):ACalls Tryz.prog F.impl_Matrix_at [aM m,.int i,.int j] [] true (fun outs res=>outs=[]/\res=[.one (D.int (m.d[q]'hlt))]):=by
 refine ACalls.of_body (C:=C.impl_Matrix_at) (n:=Tryz.f93.ntmps) tabT folT Tryz.func93 rfl (by kernel_rfl) rfl (Nat.le_of_ble_eq_true rfl) (by decide) (by kernel_rfl) (by kernel_rfl) rfl (by simp) (by simp) ?_
 simp only [Tryz.f93]
 refine wseq ?_
 refine wreg fun K hK=>?_
 simp [C.impl_Matrix_at]
 refine hK _ ?_;clear hK K
 show AWp _ _ _ _ _
 refine wseq ?_
 have h0:((i:Int)*n)=((i*n:Nat):Int):=by simp
 have h1:IntKind.i64.wrap ((i:Int)*n)=(i:Int)*n:=by
  rw [h0,wrapOk (by omega) (by omega)]
 have h2:IntKind.i64.wrap ((i:Int)*n+j)=(q:Int):=by
  rw [h0,wrapOk (by omega) (by omega)]
  omega
 refine wreg fun K hK=>?_
 simp [C.impl_Matrix_at,hn,h1,h2,hlt,get_ints]
 refine hK _ ?_;clear hK K
 show AWp _ _ _ _ _
 refine wret ?_
 simp [C.impl_Matrix_at]
end Go.Proofs.YtbhkonnakkhibaaGreat.Ab
namespace Go.Proofs.YtbhkonnakkhibaaGreat.Ab
open Go
def g0 (l:List Int) (i:Nat):Int:=l.getD i 0
def bM (m:Mat) (i j:Nat):Int:=g0 m.d (i*m.n.toNat+j)
structure Sol (n:Nat) (b:Nat->Nat->Int) (d:Nat->Int):Prop where
 pos:∀ i,i < n->0 < d i
 rel:∀ i j,i < n->j < n->d i*b i j=-(d j*b j i)
theorem g0_set (l:List Int) (i j:Nat) (x:Int) (h:i < l.length):g0 (l.set i x) j=if i=j then x else g0 l j:=by
 simp only [g0,List.getD_eq_getElem?_getD,List.getElem?_set]
 split
 ·rename_i e;subst e;simp [h]
 ·rfl
theorem frac (A B:Int) (hA:0 < A) (hB:0 < B):∃ a b g:Int,0 < a/\0 < b/\0 < g/\(Int.gcd A B:Int)=g/\A=a*g/\B=b*g/\a.natAbs.Coprime b.natAbs:=by
 obtain ⟨A,rfl⟩:=Int.eq_ofNat_of_zero_le (Int.le_of_lt hA)
 obtain ⟨B,rfl⟩:=Int.eq_ofNat_of_zero_le (Int.le_of_lt hB)
 have hA':0 < A:=by omega
 have hB':0 < B:=by omega
 have hg:0 < A.gcd B:=Nat.gcd_pos_of_pos_left _ hA'
 have e1:=Nat.div_mul_cancel (Nat.gcd_dvd_left A B)
 have e2:=Nat.div_mul_cancel (Nat.gcd_dvd_right A B)
 refine ⟨(A / A.gcd B:Nat),(B / A.gcd B:Nat),A.gcd B,?_,?_,by omega,rfl,?_,?_,?_⟩
 ·have:=Nat.div_pos (Nat.le_of_dvd hA' (Nat.gcd_dvd_left A B)) hg;omega
 ·have:=Nat.div_pos (Nat.le_of_dvd hB' (Nat.gcd_dvd_right A B)) hg;omega
 ·rw [← Int.natCast_mul,e1]
 ·rw [← Int.natCast_mul,e2]
 ·rw [Int.natAbs_natCast,Int.natAbs_natCast];exact Nat.coprime_div_gcd_div_gcd hg
def Edge (b:Nat->Nat->Int) (num den:List Int) (P:List Nat) (i j:Nat):Prop:=
 (b i j=0/\b j i=0)\/(j∈P/\g0 num i*g0 den j*b i j=-(g0 num j*g0 den i*b j i))
structure BJ (n:Nat) (b:Nat->Nat->Int) (old:List Nat) (s:Nat) (num den:List Int) (P:List Nat) (a j:Nat):Prop where
 ln:num.length=n
 ld:den.length=n
 pn:P.Nodup
 pl:∀ i∈P,i < n
 mem:∀ i,i < n->(g0 num i≠0↔i∈old\/i∈P)
 pd:∀ i∈P,i ∉ old
 hd:P[0]? = some s
 s1:g0 num s=1/\g0 den s=1
 pos:∀ i∈P,0 < g0 num i/\0 < g0 den i/\(g0 num i).natAbs.Coprime (g0 den i).natAbs
 bd:∀ t (h:t < P.length),(g0 num P[t]).natAbs<=99 ^ t/\(g0 den P[t]).natAbs<=99 ^ t
 qd:∃ Q:Nat,0 < Q/\Q<=99 ^ (P.length - 1)/\∀ i∈P,(g0 den i).natAbs ∣ Q
 sol:∀ d,Sol n b d->∀ i∈P,d i*g0 den i=d s*g0 num i
 edge:∀ t (h:t < P.length),(t < a->∀ k,k < n->Edge b num den P P[t] k)/\(t=a->∀ k,k < j->Edge b num den P P[t] k)
structure OJ (n:Nat) (b:Nat->Nat->Int) (old:List Nat) (out:List Int):Prop where
 lo:out.length=n
 cl:∀ i∈old,i < n/\0 < g0 out i/\∀ j,j < n->(b i j=0/\b j i=0)\/(j∈old/\g0 out i*b i j=-(g0 out j*b j i))
 mn:∀ d,Sol n b d->∀ i∈old,g0 out i ∣ d i
section
variable {n:Nat} {b:Nat->Nat->Int} {old:List Nat} {s:Nat} {num den out:List Int} {P:List Nat} {a j:Nat}
theorem BJ.start (ln:num.length=n) (ld:den.length=n) (hs:s < n) (hm:∀ i,i < n->(g0 num i≠0↔i∈old)) (h0:g0 num s=0):BJ n b old s (num.set s 1) (den.set s 1) [s] 0 0:=by
 have hso:s ∉ old:=fun h=>(hm s hs).2 h h0
 refine ⟨by simpa using ln,by simpa using ld,by simp,by simpa using hs,fun i hi=>?_,by simpa using hso,rfl,?_,?_,?_,⟨1,by simp,by simp,?_⟩,?_,?_⟩
 ·rw [g0_set _ _ _ _ (by omega)]
  by_cases e:s=i
  ·simp [e]
  ·rw [if_neg e,hm i hi]
   simp;omega
 ·rw [g0_set _ _ _ _ (by omega),g0_set _ _ _ _ (by omega)];simp
 ·intro i hi
  obtain rfl:i=s:=by simpa using hi
  rw [g0_set _ _ _ _ (by omega),g0_set _ _ _ _ (by omega)];simp
 ·intro t ht
  obtain rfl:t=0:=by simpa using ht
  simp only [List.getElem_cons_zero]
  rw [g0_set _ _ _ _ (by omega),g0_set _ _ _ _ (by omega)];simp
 ·intro i hi
  obtain rfl:i=s:=by simpa using hi
  rw [g0_set _ _ _ _ (by omega)];simp
 ·intro d _ i hi
  obtain rfl:i=s:=by simpa using hi
  rw [g0_set _ _ _ _ (by omega),g0_set _ _ _ _ (by omega)];simp
 ·intro t ht
  exact ⟨fun h=>absurd h (by omega),fun _ k h=>absurd h (by omega)⟩
theorem BJ.skip (h:BJ n b old s num den P a j) (ha:a < P.length) (h1:b P[a] j=0) (h2:b j P[a]=0):BJ n b old s num den P a (j+1):=
 { h with edge:=fun t ht=>⟨(h.edge t ht).1,fun e k hk=>by
   subst e
   by_cases q:k=j
   ·subst q;exact .inl ⟨h1,h2⟩
   ·exact (h.edge t ht).2 rfl k (by omega)⟩ }
theorem BJ.next (h:BJ n b old s num den P a n):BJ n b old s num den P (a+1) 0:=
 { h with edge:=fun t ht=>⟨fun e k hk=>by
   by_cases q:t=a
   ·exact (h.edge t ht).2 q k hk
   ·exact (h.edge t ht).1 (by omega) k hk,fun _ k h=>absurd h (by omega)⟩ }
theorem mul_sign {x y p q:Int} (hx:0 < x) (hy:0 < y) (e:x*p=y*q):(0 < p->0 < q)/\(p=0->q=0)/\(p < 0->q < 0):=by
 refine ⟨fun h=>?_,fun h=>?_,fun h=>?_⟩
 ·have h1:0 < y*q:=e ▸ Int.mul_pos hx h
  exact Int.pos_of_mul_pos_right h1 (by omega)
 ·rw [h,Int.mul_zero] at e
  rcases Int.mul_eq_zero.1 e.symm with h | h <;> omega
 ·have h1:0 < y * -q:=by rw [Int.mul_neg,← e,← Int.mul_neg];exact Int.mul_pos hx (by omega)
  have:=Int.pos_of_mul_pos_right h1 (by omega)
  omega
theorem sol_sign {d:Nat->Int} (hd:Sol n b d) {i:Nat} (hi:i < n) (hj:j < n):(0 < b i j↔0 < -b j i)/\(b i j=0↔b j i=0)/\(b i j < 0↔-b j i < 0):=by
 have h1:=hd.pos i hi
 have h2:=hd.pos j hj
 have h3:=hd.rel i j hi hj
 have e:d i*b i j=d j * -b j i:=by rw [h3,Int.mul_neg]
 have q1:=mul_sign h1 h2 e
 have q2:=mul_sign h2 h1 e.symm
 refine ⟨⟨q1.1,q2.1⟩,⟨fun h=>?_,fun h=>?_⟩,⟨q1.2.2,q2.2.2⟩⟩
 ·have:=q1.2.1 h;omega
 ·exact q2.2.1 (by omega)
theorem natAbs_same {p q:Int} (h:0 < p/\0 < q\/p < 0/\q < 0):∃ u v:Int,0 < u/\0 < v/\max p (-p)=u/\max q (-q)=v/\v*p=u*q/\u.natAbs=p.natAbs/\v.natAbs=q.natAbs/\(∀ x y:Int,x*p=y*q->x*u=y*v):=by
 rcases h with h | h
 ·refine ⟨p,q,h.1,h.2,by omega,by omega,Int.mul_comm _ _,rfl,rfl,fun x y e=>e⟩
 ·refine ⟨-p,-q,by omega,by omega,by omega,by omega,by grind,by omega,by omega,fun x y e=>by grind⟩
theorem BJ.new (h:BJ n b old s num den P a j) (hoc:∀ i∈old,∀ j,j < n->(b i j=0/\b j i=0)\/j∈old) (ha:a < P.length) (hj:j < n) (hB:∀ i j,i < n->j < n->(b i j).natAbs<=99)
  (hpq:0 < b P[a] j/\0 < -b j P[a]\/b P[a] j < 0/\-b j P[a] < 0) (hz:g0 num j=0) {u v x y g:Int}
  (hu:max (b P[a] j) (-b P[a] j)=u) (hv:max (-b j P[a]) (- -b j P[a])=v) (hg:0 < g) (hx0:0 < x) (hy0:0 < y) (hx:g0 num P[a]*u=x*g) (hy:g0 den P[a]*v=y*g) (hco:x.natAbs.Coprime y.natAbs) :
  BJ n b old s (num.set j x) (den.set j y) (P ++ [j]) a (j+1):=by
 have hin:P[a]∈P:=List.getElem_mem ha
 have hi:=h.pl _ hin
 have hjP:j ∉ old/\j ∉ P:=by
  have:=h.mem j hj
  simp only [hz,ne_eq,not_true_eq_false,false_iff,not_or] at this
  exact this
 have hne:∀ i∈P,j≠i:=fun i hi e=>hjP.2 (e ▸ hi)
 obtain ⟨u',v',hu0,hv0,hu',hv',hvp,hup,hvq,hrat⟩:=natAbs_same hpq
 obtain rfl:u=u':=by omega
 obtain rfl:v=v':=by omega
 have hpi:=h.pos _ hin
 have gn:∀ i∈P,g0 (num.set j x) i=g0 num i:=fun i hi=>by
  rw [g0_set _ _ _ _ (by have:=h.ln;omega),if_neg (hne i hi)]
 have gd:∀ i∈P,g0 (den.set j y) i=g0 den i:=fun i hi=>by
  rw [g0_set _ _ _ _ (by have:=h.ld;omega),if_neg (hne i hi)]
 have gnj:g0 (num.set j x) j=x:=by rw [g0_set _ _ _ _ (by have:=h.ln;omega),if_pos rfl]
 have gdj:g0 (den.set j y) j=y:=by rw [g0_set _ _ _ _ (by have:=h.ld;omega),if_pos rfl]
 have hs:s∈P:=List.mem_of_getElem? h.hd
 have hb1:u.natAbs<=99:=hup ▸ hB _ _ hi hj
 have hb2:v.natAbs<=99:=by have:=hB _ _ hj hi;omega
 have hxd:x.natAbs ∣ (g0 num P[a]).natAbs*u.natAbs:=by
  rw [← Int.natAbs_mul,hx,Int.natAbs_mul];exact Nat.dvd_mul_right _ _
 have hyd:y.natAbs ∣ (g0 den P[a]).natAbs*v.natAbs:=by
  rw [← Int.natAbs_mul,hy,Int.natAbs_mul];exact Nat.dvd_mul_right _ _
 have hbx:x.natAbs<=99 ^ P.length:=by
  have h1:=Nat.le_of_dvd (Nat.mul_pos (by omega) (by omega)) hxd
  have h2:=Nat.mul_le_mul (h.bd a ha).1 hb1
  rw [← Nat.pow_succ] at h2
  have h3:99 ^ (a+1)<=99 ^ P.length:=Nat.pow_le_pow_right (by omega) (by omega)
  exact Nat.le_trans h1 (Nat.le_trans h2 h3)
 have hby:y.natAbs<=99 ^ P.length:=by
  have h1:=Nat.le_of_dvd (Nat.mul_pos (by omega) (by omega)) hyd
  have h2:=Nat.mul_le_mul (h.bd a ha).2 hb2
  rw [← Nat.pow_succ] at h2
  have h3:99 ^ (a+1)<=99 ^ P.length:=Nat.pow_le_pow_right (by omega) (by omega)
  exact Nat.le_trans h1 (Nat.le_trans h2 h3)
 refine ⟨by simpa using h.ln,by simpa using h.ld,?_,?_,?_,?_,?_,?_,?_,?_,?_,?_,?_⟩
 ·rw [List.nodup_append]
  exact ⟨h.pn,by simp,fun i hi k hk=>by simp at hk;subst hk;exact (hne i hi).symm⟩
 ·intro i hi
  rcases List.mem_append.1 hi with hi | hi
  ·exact h.pl i hi
  ·simp at hi;omega
 ·intro i hi
  by_cases e:j=i
  ·subst e;rw [gnj];simp;omega
  ·rw [g0_set _ _ _ _ (by have:=h.ln;omega),if_neg e,h.mem i hi]
   simp only [List.mem_append,List.mem_singleton]
   constructor
   ·rintro (q | q)
    ·exact .inl q
    ·exact .inr (.inl q)
   ·rintro (q | q | q)
    ·exact .inl q
    ·exact .inr q
    ·omega
 ·intro i hi
  rcases List.mem_append.1 hi with hi | hi
  ·exact h.pd i hi
  ·simp at hi;subst hi;exact hjP.1
 ·rw [List.getElem?_append_left (by omega)];exact h.hd
 ·rw [gn s hs,gd s hs];exact h.s1
 ·intro i hi
  rcases List.mem_append.1 hi with hi | hi
  ·rw [gn i hi,gd i hi];exact h.pos i hi
  ·simp at hi;subst hi;rw [gnj,gdj];exact ⟨hx0,hy0,hco⟩
 ·intro t ht
  by_cases e:t < P.length
  ·have hm:=List.getElem_mem e
   rw [List.getElem_append_left e,gn _ hm,gd _ hm]
   exact h.bd t e
  ·have e2:t=P.length:=by simp at ht;omega
   subst e2
   simp only [List.getElem_concat_length]
   rw [gnj,gdj]
   exact ⟨hbx,hby⟩
 ·obtain ⟨Q,q1,q2,q3⟩:=h.qd
  refine ⟨Q*v.natAbs,Nat.mul_pos q1 (by omega),?_,?_⟩
  ·rw [List.length_append,List.length_singleton,Nat.add_sub_cancel]
   have h2:=Nat.mul_le_mul q2 hb2
   rw [← Nat.pow_succ,show (P.length - 1).succ=P.length by omega] at h2
   exact h2
  ·intro i hi
   rcases List.mem_append.1 hi with hi | hi
   ·rw [gd i hi];exact Nat.dvd_trans (q3 i hi) (Nat.dvd_mul_right _ _)
   ·simp at hi;subst hi;rw [gdj]
    exact Nat.dvd_trans hyd (Nat.mul_dvd_mul_right (q3 _ hin) _)
 ·intro d hd i hi'
  rcases List.mem_append.1 hi' with hi' | hi'
  ·rw [gn i hi',gd i hi'];exact h.sol d hd i hi'
  ·simp at hi';subst hi';rw [gnj,gdj]
   have e1:=h.sol d hd _ hin
   have e2:=hrat (d P[a]) (d i) (by have:=hd.rel _ i hi hj;rw [this,Int.mul_neg])
   have:d i*y*g=d s*x*g:=by
    rw [Int.mul_assoc,← hy,Int.mul_assoc,← hx]
    calc d i*(g0 den P[a]*v)=(d i*v)*g0 den P[a]:=by grind
     _=(d P[a]*g0 den P[a])*u:=by rw [← e2];grind
     _=d s*(g0 num P[a]*u):=by rw [e1];grind
   exact Int.eq_of_mul_eq_mul_right (by omega) this
 ·intro t ht
  have key:∀ i k,i∈P->Edge b num den P i k->Edge b (num.set j x) (den.set j y) (P ++ [j]) i k:=fun i k hi hk=>by
   rcases hk with hk | ⟨hk,e⟩
   ·exact .inl hk
   ·refine .inr ⟨by simp [hk],?_⟩
    rw [gn i hi,gd i hi,gn k hk,gd k hk];exact e
  by_cases e:t < P.length
  ·rw [List.getElem_append_left e]
   refine ⟨fun hta k hk=>key _ _ (List.getElem_mem e) ((h.edge t e).1 hta k hk),fun hta k hk=>?_⟩
   by_cases q:k=j
   ·obtain rfl:=hta;obtain rfl:=q
    refine .inr ⟨by simp,?_⟩
    rw [gn _ hin,gd _ hin,gnj,gdj]
    have:g0 num P[t]*y*b P[t] k*g=-(x*g0 den P[t]*b k P[t])*g:=by
     calc g0 num P[t]*y*b P[t] k*g=g0 num P[t]*(y*g)*b P[t] k:=by grind
      _=g0 num P[t]*g0 den P[t]*(v*b P[t] k):=by rw [← hy];grind
      _=(g0 num P[t]*u)*g0 den P[t]*(-b k P[t]):=by rw [hvp];grind
      _=-(x*g0 den P[t]*b k P[t])*g:=by rw [hx];grind
    exact Int.eq_of_mul_eq_mul_right (by omega) this
   ·exact key _ _ (List.getElem_mem e) ((h.edge t e).2 hta k (by omega))
  ·have e2:t=P.length:=by simp at ht;omega
   exact ⟨fun h=>absurd h (by omega),fun h=>absurd h (by omega)⟩
theorem BJ.inP (h:BJ n b old s num den P a j) (hoc:∀ i∈old,∀ j,j < n->(b i j=0/\b j i=0)\/j∈old) (ha:a < P.length) (hj:j < n) (hne:b P[a] j≠0) (hz:g0 num j≠0):j∈P:=by
 have hin:P[a]∈P:=List.getElem_mem ha
 rcases (h.mem j hj).1 hz with q | q
 ·rcases hoc j q P[a] (h.pl _ hin) with e | e
  ·exact absurd e.2 hne
  ·exact absurd e (h.pd _ hin)
 ·exact q
theorem BJ.cmp (h:BJ n b old s num den P a j) (hoc:∀ i∈old,∀ j,j < n->(b i j=0/\b j i=0)\/j∈old) (ha:a < P.length) (hj:j < n)
  (hpq:0 < b P[a] j/\0 < -b j P[a]\/b P[a] j < 0/\-b j P[a] < 0) (hz:g0 num j≠0) {u v x y g:Int}
  (hu:max (b P[a] j) (-b P[a] j)=u) (hv:max (-b j P[a]) (- -b j P[a])=v) (hg:0 < g) (hx0:0 < x) (hy0:0 < y) (hx:g0 num P[a]*u=x*g) (hy:g0 den P[a]*v=y*g) (hco:x.natAbs.Coprime y.natAbs) :
  (g0 num j=x/\g0 den j=y->BJ n b old s num den P a (j+1))/\(¬ (g0 num j=x/\g0 den j=y)->∀ d,¬ Sol n b d):=by
 have hin:P[a]∈P:=List.getElem_mem ha
 have hjP:=h.inP hoc ha hj (by omega) hz
 obtain ⟨u',v',hu0,hv0,hu',hv',hvp,hup,hvq,hrat⟩:=natAbs_same hpq
 obtain rfl:u=u':=by omega
 obtain rfl:v=v':=by omega
 refine ⟨fun ⟨e1,e2⟩=>?_,fun hne d hd=>hne ?_⟩
 ·refine { h with edge:=fun t ht=>⟨(h.edge t ht).1,fun e k hk=>?_⟩ }
  subst e
  by_cases q:k=j
  ·subst q
   refine .inr ⟨hjP,?_⟩
   rw [e1,e2]
   have:g0 num P[t]*y*b P[t] k*g=-(x*g0 den P[t]*b k P[t])*g:=by
    calc g0 num P[t]*y*b P[t] k*g=g0 num P[t]*(y*g)*b P[t] k:=by grind
     _=g0 num P[t]*g0 den P[t]*(v*b P[t] k):=by rw [← hy];grind
     _=(g0 num P[t]*u)*g0 den P[t]*(-b k P[t]):=by rw [hvp];grind
     _=-(x*g0 den P[t]*b k P[t])*g:=by rw [hx];grind
   exact Int.eq_of_mul_eq_mul_right (by omega) this
  ·exact (h.edge t ht).2 rfl k (by omega)
 ·have e1:=h.sol d hd _ hin
  have e3:=h.sol d hd _ hjP
  have e2:=hrat (d P[a]) (d j) (by have:=hd.rel _ j (h.pl _ hin) hj;rw [this,Int.mul_neg])
  have e4:d j*y=d s*x:=by
   have:d j*y*g=d s*x*g:=by
    rw [Int.mul_assoc,← hy,Int.mul_assoc,← hx]
    calc d j*(g0 den P[a]*v)=(d j*v)*g0 den P[a]:=by grind
     _=(d P[a]*g0 den P[a])*u:=by rw [← e2];grind
     _=d s*(g0 num P[a]*u):=by rw [e1];grind
   exact Int.eq_of_mul_eq_mul_right (by omega) this
  have hp:=h.pos j hjP
  have hds:=hd.pos s (h.pl s (List.mem_of_getElem? h.hd))
  have e5:g0 num j*y=x*g0 den j:=by
   have h0:d s*(g0 num j*y)=d s*(x*g0 den j):=by
    calc d s*(g0 num j*y)=(d s*g0 num j)*y:=by grind
     _=(d j*y)*g0 den j:=by rw [← e3];grind
     _=d s*(x*g0 den j):=by rw [e4];grind
   exact Int.eq_of_mul_eq_mul_left (by omega) h0
  have e6:(g0 num j).natAbs*y.natAbs=x.natAbs*(g0 den j).natAbs:=by rw [← Int.natAbs_mul,e5,Int.natAbs_mul]
  have k1:(g0 num j).natAbs=x.natAbs:=by
   refine Nat.dvd_antisymm ?_ ?_
   ·exact hp.2.2.dvd_of_dvd_mul_right (e6 ▸ Nat.dvd_mul_right _ _)
   ·exact hco.dvd_of_dvd_mul_right (e6 ▸ Nat.dvd_mul_right _ _)
  have k2:(g0 den j).natAbs=y.natAbs:=by
   rw [k1] at e6
   exact (Nat.eq_of_mul_eq_mul_left (by omega) e6).symm
  omega
theorem sign_fail {i j:Nat} (hi:i < n) (hj:j < n) (h0:¬ (b i j=0/\-b j i=0)) (h:¬ (0 < b i j/\0 < -b j i\/b i j < 0/\-b j i < 0)\/i=j) (d:Nat->Int):¬ Sol n b d:=fun hd=>by
 obtain ⟨h1,h2,h3⟩:=sol_sign hd hi hj
 rcases h with h | h
 ·omega
 ·subst h
  omega
theorem BJ.den_dvd (h:BJ n b old s num den P a j) {d:Nat->Int} (hd:Sol n b d) {i:Nat} (hi:i∈P):g0 den i ∣ d s:=by
 have e:=h.sol d hd i hi
 have hp:=h.pos i hi
 have:(g0 den i).natAbs ∣ (d s).natAbs:=by
  refine hp.2.2.symm.dvd_of_dvd_mul_right (n:=(g0 num i).natAbs) ?_
  rw [← Int.natAbs_mul,← e,Int.natAbs_mul]
  exact Nat.dvd_mul_left _ _
 exact Int.natAbs_dvd_natAbs.1 this
structure CJ (n:Nat) (b:Nat->Nat->Int) (s:Nat) (den:List Int) (P:List Nat) (t:Nat) (c:Int):Prop where
 pos:0 < c
 dv:∀ i∈P.take t,g0 den i ∣ c
 qd:c<=99 ^ 4
 ex:∃ Q:Nat,Q<=99 ^ 4/\0 < Q/\c.natAbs ∣ Q/\∀ i∈P,(g0 den i).natAbs ∣ Q
 sol:∀ d,Sol n b d->c ∣ d s
theorem lcm_step {c e:Int} (hc:0 < c) (he:0 < e):∃ w:Nat,c.tdiv (Int.gcd c e:Int)=w/\w<=c/\(w:Int)*e=(Nat.lcm c.natAbs e.natAbs:Nat):=by
 obtain ⟨c,rfl⟩:=Int.eq_ofNat_of_zero_le (Int.le_of_lt hc)
 obtain ⟨e,rfl⟩:=Int.eq_ofNat_of_zero_le (Int.le_of_lt he)
 refine ⟨c / c.gcd e,?_,?_,?_⟩
 ·rw [Int.gcd_natCast_natCast,← Int.ofNat_tdiv]
 ·have:=Nat.div_le_self c (c.gcd e);omega
 ·rw [Int.natAbs_natCast,Int.natAbs_natCast,← Int.natCast_mul,Nat.lcm]
  congr 1
  rw [Nat.div_mul_right_comm (Nat.gcd_dvd_left c e)]
theorem CJ.start (h:BJ n b old s num den P a j) (hn:n<=5) (hPl:P.length<=n):CJ n b s den P 0 1:=by
 obtain ⟨Q,q1,q2,q3⟩:=h.qd
 refine ⟨by omega,by simp,by decide,⟨Q,Nat.le_trans q2 (Nat.pow_le_pow_right (by omega) (by omega)),q1,by simp,q3⟩,fun d _=>Int.one_dvd _⟩
theorem CJ.step {t:Nat} {c:Int} (h:CJ n b s den P t c) (hB:BJ n b old s num den P a j) (ht:t < P.length):CJ n b s den P (t+1) (c.tdiv (Int.gcd c (g0 den P[t]):Int)*g0 den P[t]):=by
 have hin:P[t]∈P:=List.getElem_mem ht
 obtain ⟨w,w1,_,w2⟩:=lcm_step h.pos (hB.pos _ hin).2.1
 rw [w1,w2]
 obtain ⟨Q,q1,q2,q3,q4⟩:=h.ex
 have hQ:Nat.lcm c.natAbs (g0 den P[t]).natAbs ∣ Q:=Nat.lcm_dvd q3 (q4 _ hin)
 have hp:0 < Nat.lcm c.natAbs (g0 den P[t]).natAbs:=Nat.pos_of_dvd_of_pos hQ q2
 have hl:=Nat.le_of_dvd q2 hQ
 refine ⟨by omega,fun i hi=>?_,?_,⟨Q,q1,q2,by simpa using hQ,q4⟩,fun d hd=>?_⟩
 ·rw [List.take_succ_eq_append_getElem ht] at hi
  rcases List.mem_append.1 hi with hi | hi
  ·exact Int.dvd_trans (h.dv i hi) (Int.natAbs_dvd.1 (Int.natCast_dvd_natCast.2 (Nat.dvd_lcm_left _ _)))
  ·obtain rfl:i=P[t]:=by simpa using hi
   exact Int.natAbs_dvd.1 (Int.natCast_dvd_natCast.2 (Nat.dvd_lcm_right _ _))
 ·have:(Nat.lcm c.natAbs (g0 den P[t]).natAbs:Int)<=((99 ^ 4:Nat):Int):=by omega
  exact this
 ·have h1:c.natAbs ∣ (d s).natAbs:=Int.natAbs_dvd_natAbs.2 (h.sol d hd)
  have h2:(g0 den P[t]).natAbs ∣ (d s).natAbs:=Int.natAbs_dvd_natAbs.2 (hB.den_dvd hd hin)
  exact Int.dvd_natAbs.1 (Int.natCast_dvd_natCast.2 (Nat.lcm_dvd h1 h2))
def wM (c:Int) (num den:List Int) (i:Nat):Int:=c.tdiv (g0 den i)*g0 num i
theorem pow4 {P:List Nat} {t n:Nat} (ht:t < P.length) (hn:n<=5) (hP:P.length<=n):99 ^ t<=99 ^ 4:=Nat.pow_le_pow_right (by omega) (by omega)
theorem wM_spec {c:Int} (h:CJ n b s den P P.length c) (hB:BJ n b old s num den P a j) (hn:n<=5) (hPl:P.length<=n) {i:Nat} (hi:i∈P) :
  0 < c.tdiv (g0 den i)/\c.tdiv (g0 den i)<=99 ^ 4/\0 < wM c num den i/\wM c num den i<=99 ^ 8/\wM c num den i*g0 den i=c*g0 num i/\(∀ d,Sol n b d->wM c num den i ∣ d i):=by
 obtain ⟨h1,h2,h3⟩:=hB.pos i hi
 have hd:=h.dv i (by rw [List.take_length];exact hi)
 obtain ⟨k,hk⟩:=hd
 have e1:c.tdiv (g0 den i)=k:=by rw [hk,Int.mul_comm,Int.mul_tdiv_cancel _ (by omega)]
 have hk0:0 < k:=Int.pos_of_mul_pos_right (hk ▸ h.pos) (by omega)
 have hkc:k<=c:=by
  rw [hk]
  have:1*k<=g0 den i*k:=Int.mul_le_mul_of_nonneg_right (by omega) (by omega)
  omega
 have hc:=h.qd
 obtain ⟨t,ht,rfl⟩:=List.getElem_of_mem hi
 have hb:=(hB.bd t ht).1
 have hb2:=pow4 ht hn hPl
 unfold wM
 rw [e1]
 refine ⟨hk0,by omega,Int.mul_pos hk0 h1,?_,?_,fun d hd=>?_⟩
 ·have h5:k.natAbs*(g0 num P[t]).natAbs<=99 ^ 4*99 ^ 4:=Nat.mul_le_mul (by omega) (by omega)
  rw [← Int.natAbs_mul] at h5
  have h6:=Int.mul_pos hk0 h1
  generalize k*g0 num P[t]=z at *
  omega
 ·rw [hk];grind
 ·obtain ⟨z,hz⟩:=h.sol d hd
  have e:=hB.sol d hd _ hi
  refine ⟨z,?_⟩
  have:d P[t]*g0 den P[t]=k*g0 num P[t]*z*g0 den P[t]:=by rw [e,hz,hk];grind
  exact Int.eq_of_mul_eq_mul_right (by omega) this
theorem take_mem_snoc {P:List Nat} {t:Nat} (ht:t < P.length) (i:Nat):i∈P.take (t+1)↔i∈P.take t\/i=P[t]:=by
 rw [List.take_succ_eq_append_getElem ht];simp only [List.mem_append,List.mem_singleton]
theorem nodup_take {P:List Nat} (h:P.Nodup) {t:Nat} (ht:t < P.length):P[t] ∉ P.take t:=fun hm=>by
 have:(P.take t ++ P.drop t).Nodup:=by rw [List.take_append_drop];exact h
 rw [List.nodup_append] at this
 exact this.2.2 _ hm P[t] (by rw [List.drop_eq_getElem_cons ht];simp only [List.mem_cons,true_or]) rfl
structure WJ (c:Int) (num den:List Int) (P:List Nat) (o0:List Int) (t:Nat) (o:List Int) (g:Int):Prop where
 len:o.length=o0.length
 val:∀ i,g0 o i=if i∈P.take t then wM c num den i else g0 o0 i
 g0':0<=g/\(0 < t->0 < g)
 gd:∀ i∈P.take t,g ∣ wM c num den i
theorem WJ.start (c:Int) (num den:List Int) (P:List Nat) (o0:List Int):WJ c num den P o0 0 o0 0:=⟨rfl,by simp,by omega,by simp⟩
theorem WJ.step {c:Int} {o0 o:List Int} {t:Nat} {g:Int} (h:WJ c num den P o0 t o g) (ht:t < P.length) (hl:P[t] < o0.length) (hw:0 < wM c num den P[t]):WJ c num den P o0 (t+1) (o.set P[t] (wM c num den P[t])) (Int.gcd g (wM c num den P[t]):Int):=by
 refine ⟨by simpa using h.len,fun i=>?_,⟨by omega,fun _=>?_⟩,fun i hi=>?_⟩
 ·rw [g0_set _ _ _ _ (by have:=h.len;omega),h.val i]
  simp only [take_mem_snoc ht]
  by_cases e:P[t]=i
  ·subst e;simp
  ·rw [if_neg e]
   have:¬ i=P[t]:=fun q=>e q.symm
   simp [this]
 ·have:=Int.gcd_pos_of_ne_zero_right g (show wM c num den P[t]≠0 by omega)
  omega
 ·rcases (take_mem_snoc ht i).1 hi with hi | rfl
  ·exact Int.dvd_trans (Int.gcd_dvd_left _ _) (h.gd i hi)
  ·exact Int.gcd_dvd_right _ _
structure VJ (w:Nat->Int) (g:Int) (P:List Nat) (o0:List Int) (t:Nat) (o:List Int):Prop where
 len:o.length=o0.length
 val:∀ i,g0 o i=if i∈P.take t then (w i).tdiv g else if i∈P then w i else g0 o0 i
theorem VJ.start {c:Int} {o0 o:List Int} {g:Int} (h:WJ c num den P o0 P.length o g):VJ (wM c num den) g P o0 0 o:=⟨h.len,fun i=>by rw [h.val i,List.take_length];simp⟩
theorem VJ.step {w:Nat->Int} {g:Int} {o0 o:List Int} {t:Nat} (hP:P.Nodup) (h:VJ w g P o0 t o) (ht:t < P.length) (hl:P[t] < o0.length):g0 o P[t]=w P[t]/\VJ w g P o0 (t+1) (o.set P[t] ((w P[t]).tdiv g)):=by
 refine ⟨by rw [h.val,if_neg (nodup_take hP ht),if_pos (List.getElem_mem ht)],by simpa using h.len,fun i=>?_⟩
 rw [g0_set _ _ _ _ (by have:=h.len;omega),h.val i]
 simp only [take_mem_snoc ht]
 by_cases e:P[t]=i
 ·subst e;simp
 ·rw [if_neg e]
  have:¬ i=P[t]:=fun q=>e q.symm
  simp [this]
theorem OJ.grow {c g:Int} {o0 o1 o:List Int} (hO:OJ n b old o0) (hB:BJ n b old s num den P P.length j) (hn:n<=5) (hPl:P.length<=n) (hC:CJ n b s den P P.length c) (hW:WJ c num den P o0 P.length o1 g) (hV:VJ (wM c num den) g P o0 P.length o):OJ n b (old ++ P) o:=by
 have hgp:0 < g:=hW.g0'.2 (List.length_pos_of_mem (List.mem_of_getElem? hB.hd))
 have hv:∀ i∈P,∃ z,0 < z/\g0 o i=z/\wM c num den i=z*g:=fun i hi=>by
  obtain ⟨z,hz⟩:=hW.gd i (by rw [List.take_length];exact hi)
  have hp:=(wM_spec hC hB hn hPl hi).2.2.1
  refine ⟨z,Int.pos_of_mul_pos_right (hz ▸ hp) (by omega),?_,by rw [hz,Int.mul_comm]⟩
  rw [hV.val,List.take_length,if_pos hi,hz,Int.mul_comm,Int.mul_tdiv_cancel _ (by omega)]
 have hov:∀ i∈old,g0 o i=g0 o0 i:=fun i hi=>by
  have:i ∉ P:=fun q=>hB.pd i q hi
  rw [hV.val,List.take_length,if_neg this,if_neg this]
 refine ⟨hV.len.trans hO.lo,fun i hi=>?_,fun d hd i hi=>?_⟩
 ·rcases List.mem_append.1 hi with hi | hi
  ·obtain ⟨h1,h2,h3⟩:=hO.cl i hi
   refine ⟨h1,by rw [hov i hi];exact h2,fun k hk=>(h3 k hk).imp id fun ⟨e1,e2⟩=>⟨by simp [e1],by rw [hov i hi,hov k e1];exact e2⟩⟩
  ·obtain ⟨z,z0,z1,z2⟩:=hv i hi
   refine ⟨hB.pl i hi,by omega,fun k hk=>?_⟩
   obtain ⟨t,ht,rfl⟩:=List.getElem_of_mem hi
   rcases (hB.edge t ht).1 ht k hk with e | ⟨e1,e2⟩
   ·exact .inl e
   ·right
    obtain ⟨x,x0,x1,x2⟩:=hv k e1
    refine ⟨by simp [e1],?_⟩
    rw [z1,x1]
    have f1:=(wM_spec hC hB hn hPl hi).2.2.2.2.1
    have f2:=(wM_spec hC hB hn hPl e1).2.2.2.2.1
    rw [z2] at f1
    rw [x2] at f2
    have p1:=hB.pos _ hi
    have p2:=hB.pos _ e1
    have hc:=hC.pos
    have key:(z*b P[t] k)*(g*g0 den P[t]*g0 den k)=(-(x*b k P[t]))*(g*g0 den P[t]*g0 den k):=by
     calc (z*b P[t] k)*(g*g0 den P[t]*g0 den k)=(z*g*g0 den P[t])*g0 den k*b P[t] k:=by grind
      _=c*(g0 num P[t]*g0 den k*b P[t] k):=by rw [f1];grind
      _=-(c*g0 num k)*g0 den P[t]*b k P[t]:=by rw [e2];grind
      _=(-(x*b k P[t]))*(g*g0 den P[t]*g0 den k):=by rw [← f2];grind
    exact Int.eq_of_mul_eq_mul_right (by have:=Int.mul_pos (Int.mul_pos hgp p1.2.1) p2.2.1;omega) key
 ·rcases List.mem_append.1 hi with hi | hi
  ·rw [hov i hi];exact hO.mn d hd i hi
  ·obtain ⟨z,z0,z1,z2⟩:=hv i hi
   rw [z1]
   have h1:=(wM_spec hC hB hn hPl hi).2.2.2.2.2 d hd
   rw [z2] at h1
   exact Int.dvd_trans (Int.dvd_mul_right _ _) h1
end
end Go.Proofs.YtbhkonnakkhibaaGreat.Ab
namespace Go.Proofs.YtbhkonnakkhibaaGreat.Ab
open Go
section
variable {n:Nat} {b:Nat->Nat->Int} {old:List Nat} {s:Nat} {d0 d:List Int} {L F:List Nat} {a j:Nat}
theorem nodup_len:∀ {n:Nat} {L:List Nat},L.Nodup->(∀ i∈L,i < n)->L.length<=n
 | 0,L,_,h2=>by
  cases L with
  | nil=>simp
  | cons x L=>exact absurd (h2 x (by simp)) (by omega)
 | n+1,L,h1,h2=>by
  have h3:=nodup_len (n:=n) (L:=L.erase n) (h1.erase n) fun i hi=>by
   have h4:=h2 i (List.mem_of_mem_erase hi)
   have h5:i≠n:=fun e=>by
    subst e
    exact (List.Nodup.not_mem_erase h1) hi
   omega
  by_cases e:n∈L
  ·rw [List.length_erase_of_mem e] at h3;omega
  ·rw [List.erase_of_not_mem e] at h3;omega
end
end Go.Proofs.YtbhkonnakkhibaaGreat.Ab
namespace Go.Proofs.YtbhkonnakkhibaaGreat.Ab
open Go
def ShM (m:Mat):Prop:=(1<=m.n/\m.n<=5)/\(m.n<=m.r/\m.r<=8)/\(m.d.length:Int)=m.n*m.r/\∀ x∈m.d,-99<=x/\x<=99
def MatOK (m:Mat):Prop:=ShM m/\∃ d,Sol m.n.toNat (bM m) d
noncomputable instance (m:Mat):Decidable (ShM m):=Classical.propDecidable _
noncomputable instance (m:Mat):Decidable (MatOK m):=Classical.propDecidable _
def MinSol (n:Nat) (b:Nat->Nat->Int) (l:List Int):Prop:=l.length=n/\Sol n b (g0 l)/\∀ e,Sol n b e->∀ i,i < n->g0 l i ∣ e i
theorem MinSol.uniq {n:Nat} {b:Nat->Nat->Int} {l k:List Int} (h:MinSol n b l) (h':MinSol n b k):l=k:=by
 refine List.ext_getElem (by rw [h.1,h'.1]) fun i h1 h2=>?_
 have hi:i < n:=by have:=h.1;omega
 have e1:=h.2.2 _ h'.2.1 i hi
 have e2:=h'.2.2 _ h.2.1 i hi
 have p1:=h.2.1.pos i hi
 have p2:=h'.2.1.pos i hi
 have:g0 l i=g0 k i:=Int.dvd_antisymm (by omega) (by omega) e1 e2
 simpa [g0,List.getD_eq_getElem?_getD,h1,h2] using this
theorem OJ.min {n:Nat} {b:Nat->Nat->Int} {old:List Nat} {out:List Int} (h:OJ n b old out) (ha:∀ i,i < n->i∈old):MinSol n b out:=by
 refine ⟨h.lo,⟨fun i hi=>(h.cl i (ha i hi)).2.1,fun i j hi hj=>?_⟩,fun e he i hi=>h.mn e he i (ha i hi)⟩
 rcases (h.cl i (ha i hi)).2.2 j hj with q | q
 ·rw [q.1,q.2];simp
 ·exact q.2
theorem bM_get {m:Mat} (h:ShM m) {i j:Nat} (hi:(i:Int) < m.r) (hj:(j:Int) < m.n):∃ hq:i*m.n.toNat+j < m.d.length,m.d[i*m.n.toNat+j]=bM m i j:=by
 obtain ⟨n,hn⟩:∃ n:Nat,m.n=n:=⟨m.n.toNat,by have:=h.1;omega⟩
 obtain ⟨r,hr⟩:∃ r:Nat,m.r=r:=⟨m.r.toNat,by have:=h.1;have:=h.2.1;omega⟩
 have hl:=h.2.2.1
 rw [hn,hr,← Int.natCast_mul] at hl
 have hq:i*m.n.toNat+j < m.d.length:=by
  rw [hn,Int.toNat_natCast,show m.d.length=n*r by omega]
  have h1:(i+1)*n<=r*n:=Nat.mul_le_mul_right _ (by omega)
  rw [Nat.mul_comm n r]
  rw [Nat.add_mul] at h1
  omega
 exact ⟨hq,by simp [bM,g0,List.getD_eq_getElem?_getD,hq]⟩
theorem bM_bd {m:Mat} (h:ShM m) (i j:Nat):(bM m i j).natAbs<=99:=by
 unfold bM
 simp only [g0,List.getD_eq_getElem?_getD]
 by_cases q:i*m.n.toNat+j < m.d.length
 ·rw [List.getElem?_eq_getElem q]
  have:=h.2.2.2 _ (List.getElem_mem q)
  simp only [Option.getD_some]
  omega
 ·rw [List.getElem?_eq_none (by omega)];simp
def muE (b:Nat->Nat->Int) (k i j:Nat):Int:=
 if i=k\/j=k then -b i j else if 0 < b i k/\0 < b k j then b i j+b i k*b k j else if b i k < 0/\b k j < 0 then b i j - b i k*b k j else b i j
def muD (m:Mat) (k:Nat):List Int:=(List.range m.d.length).map fun q=>muE (bM m) k (q / m.n.toNat) (q % m.n.toNat)
def muM (m:Mat) (k:Nat):Mat:=⟨m.n,m.r,muD m k⟩
@[simp] theorem muD_length (m:Mat) (k:Nat):(muD m k).length=m.d.length:=by simp [muD]
theorem muD_get (m:Mat) (k i j:Nat) (hj:j < m.n.toNat) (h:i*m.n.toNat+j < m.d.length):(muD m k)[i*m.n.toNat+j]'(by simpa using h)=muE (bM m) k i j:=by
 simp only [muD,List.getElem_map,List.getElem_range]
 rw [Nat.mul_comm i,Nat.mul_add_div (by omega),Nat.div_eq_of_lt hj,Nat.mul_add_mod,Nat.mod_eq_of_lt hj,Nat.add_zero]
noncomputable def muF (m:Mat) (k:Int):Mat×Bool:=if MatOK m/\(0<=k/\k < m.n)/\MatOK (muM m k.toNat) then (muM m k.toNat,true) else (⟨0,0,[]⟩,false)
end Go.Proofs.YtbhkonnakkhibaaGreat.Ab
namespace Go.Proofs.YtbhkonnakkhibaaGreat.Ab
open Go
set_option maxRecDepth 10000
set_option maxHeartbeats 2000000
def cN (P:List Nat):List Int:=P.map fun i=>((i:Nat):Int)
@[simp] theorem cN_length (P:List Nat):(cN P).length=P.length:=by simp [cN]
theorem cN_get {P:List Nat} {t:Nat} (h:t < P.length):(cN P)[t]'(by simpa using h)=(P[t]:Int):=by simp [cN]
theorem cN_snoc (P:List Nat) (j:Nat):ints (cN P) ++ [D.v (.int .i64 j)]=ints (cN (P ++ [j])):=by simp [cN,ints]
theorem g0_get {l:List Int} {i:Nat} (h:i < l.length):l[i]=g0 l i:=by simp [g0,List.getD_eq_getElem?_getD,h]
theorem BJ.mul {n:Nat} {b:Nat->Nat->Int} {old:List Nat} {s:Nat} {num den:List Int} {P:List Nat} {a j:Nat} (h:BJ n b old s num den P a j) (hn:n<=5) (ha:a < P.length) {u:Int} (hu:0 < u) (hu9:u<=99) :
  (0 < g0 num P[a]*u/\g0 num P[a]*u<=9509900499)/\(0 < g0 den P[a]*u/\g0 den P[a]*u<=9509900499):=by
 have hp:=h.pos _ (List.getElem_mem ha)
 have hb:=h.bd a ha
 have h4:=pow4 ha hn (nodup_len h.pn h.pl)
 have e1:=Int.mul_pos hp.1 hu
 have e2:=Int.mul_pos hp.2.1 hu
 have f1:=Nat.mul_le_mul (show (g0 num P[a]).natAbs<=99 ^ 4 by omega) (show u.natAbs<=99 by omega)
 have f2:=Nat.mul_le_mul (show (g0 den P[a]).natAbs<=99 ^ 4 by omega) (show u.natAbs<=99 by omega)
 rw [← Int.natAbs_mul] at f1 f2
 generalize g0 num P[a]*u=z1 at *
 generalize g0 den P[a]*u=z2 at *
 omega
theorem at_calls {m:Mat} {n:Nat} (hn:m.n=n) (hS:ShM m) {i j:Nat} (hi:(i:Int) < m.r) (hj:j < n):ACalls Tryz.prog F.impl_Matrix_at [.ag [.int n,.int m.r,.d (shI m.d)],.int i,.int j] [] true (fun outs res=>outs=[]/\res=[.one (D.int (bM m i j))]):=by
 obtain ⟨hq,he⟩:=bM_get hS hi (show (j:Int) < m.n by omega)
 have hnn:m.n.toNat=n:=by omega
 have hl:m.d.length < 1000000:=by
  have h1:=hS.2.2.1
  have h2:=hS.1
  have h3:=hS.2.1
  have:m.n*m.r<=5*8:=Int.mul_le_mul (by omega) (by omega) (by omega) (by omega)
  omega
 have:=impl_Matrix_at_calls m i j (i*m.n.toNat+j) n hn (by rw [hnn]) hq hl
 have e:aM m = .ag [.int n,.int m.r,.d (shI m.d)]:=by rw [← hn]
 rw [e,he] at this
 exact this
theorem impl_factors_calls (m:Mat) (n:Nat) (hn:m.n=n) (hS:ShM m):ACalls Tryz.prog F.impl_factors [.ag [.int n,.int m.r,.d (shI m.d)]] [] true (fun outs res=>outs=[]/\((∃ l,MinSol n (bM m) l/\res=[.one (owI l)])\/((∀ d,¬ Sol n (bM m) d)/\res=[.one (.v (.slice none 0 0))]))):=by
 have hn5:1<=n/\n<=5:=by have:=hS.1;omega
 have hnr:(n:Int)<=m.r:=by have:=hS.2.1;omega
 have hB:∀ i j,i < n->j < n->(bM m i j).natAbs<=99:=fun i j _ _=>bM_bd hS i j
 refine ACalls.of_body (C:=C.impl_factors) (n:=Tryz.f155.ntmps) tabT folT Tryz.func155 rfl (by kernel_rfl) rfl (Nat.le_of_ble_eq_true rfl) (by decide) (by kernel_rfl) (by kernel_rfl) rfl (by simp) (by simp) ?_
 simp only [Tryz.f155]
 refine wseq ?_
 refine wreg fun K hK=>?_
 simp [C.impl_factors]
 refine hK _ ?_;clear hK K
 show AWp _ _ _ _ _
 refine wseq ?_
 refine wdraw (.take 0 (.take 1 (.take 3 (.take 4 (.all [(2,.take 6 (.all [(5,.take 7 (.done))])),(5,.all [(2,.take 6 (.take 7 (.done)))])]))))) ⟨by kernel_rfl,by kernel_rfl⟩ fun K hK=>?_
 have hJ:K ⟨ofL [(1,.pt (1,0) [] 0),(3,.al (3,0) [] 0 n),(4,.al (4,0) [] 0 n)],ofRO [((1,0),some (.bx [D.int n,D.int m.r,shI m.d])),((3,0),some (.ow 1 n (ints (List.replicate n 0)))),((4,0),some (.ow 1 n (ints (List.replicate n 0))))]⟩:=by
  refine hK _ ?_;clear hK K
  show AWp _ _ _ _ _
  refine wseq ?_
  refine wreg fun K hK=>?_
  simp [C.impl_factors,zeros_ints,show (8:Int)*n<=281474976710656 by omega,show (n:Int)<=281474976710656 by omega]
  refine hK _ ?_;clear hK K
  show AWp _ _ _ _ _
  refine wseq ?_
  refine wseq ?_
  refine wreg fun K hK=>?_
  simp [C.impl_factors]
  refine hK _ ?_;clear hK K
  show AWp _ _ _ _ _
  refine wblock ?_
  refine wloop (fun x:Nat×List Int×List Int×List Int×List Nat=>⟨ofL [(1,.pt (1,0) [] 0),(3,.al (3,0) [] 0 n),(4,.al (4,0) [] 0 n),(5,.al (5,0) [] 0 n),(34,.int n),(35,.int (x.1:Nat))],ofRO [((1,0),some (.bx [D.int n,D.int m.r,shI m.d])),((3,0),some (.ow 1 n (ints x.2.1))),((4,0),some (.ow 1 n (ints x.2.2.1))),((5,0),some (.ow 1 n (ints x.2.2.2.1)))]⟩) (fun x=>x.1<=n/\(x.2.1.length=n/\x.2.2.1.length=n)/\(∀ i,i < n->(g0 x.2.1 i≠0↔i∈x.2.2.2.2))/\OJ n (bM m) x.2.2.2.2 x.2.2.2.1/\∀ i,i < x.1->i∈x.2.2.2.2) (fun x=>n - x.1) (0,List.replicate n 0,List.replicate n 0,List.replicate n 0,[]) (by simp [C.impl_factors]) ⟨by simp,by simp,fun i hi=>by simp [g0,List.getD_eq_getElem?_getD,hi],⟨by simp,by simp,by simp⟩,by simp⟩ ?_
  intro x1 hx1 R1 hR1
  obtain ⟨s,num,den,out,old⟩:=x1
  obtain ⟨hs,⟨hln,hld⟩,hmem,hO,hall⟩:=hx1
  dsimp only at hs hln hld hmem hO hall ⊢
  have hoc:∀ i∈old,∀ j,j < n->(bM m i j=0/\bM m j i=0)\/j∈old:=fun i hi j hj=>((hO.cl i hi).2.2 j hj).imp id fun q=>q.1
  refine wseq ?_
  refine wreg fun K hK=>?_
  simp [C.impl_factors]
  refine hK _ ?_;clear hK K
  show AWp _ _ _ _ _
  refine wseq ?_
  refine wcond _ rfl (fun hc1=>?_) (fun hc1=>?_)
  ·have h1:s < n:=by have:=d_t hc1;omega
   refine wskip ?_
   show AWp _ _ _ _ _
   refine wseq ?_
   refine wblock ?_
   refine wseq ?_
   refine wreg fun K hK=>?_
   simp [C.impl_factors]
   refine hK _ ?_;clear hK K
   show AWp _ _ _ _ _
   refine wseq ?_
   refine wseq ?_
   refine wreg fun K hK=>?_
   simp [C.impl_factors,show ((s:Int) < n) by omega,h1,hln,get_ints,g0_get]
   refine hK _ ?_;clear hK K
   show AWp _ _ _ _ _
   refine wcond _ rfl (fun hc2=>?_) (fun hc2=>?_)
   ·have hs1:g0 num s≠0:=by simpa using hc2
    refine wexit ?_
    show AWp _ _ _ _ _
    refine wreg fun K hK=>?_
    simp [C.impl_factors,wrap_succ (show s < 4611686018427387904 by omega)]
    refine hK _ ?_;clear hK K
    simp [C.impl_factors]
    refine hR1 (s+1,num,den,out,old) ⟨h1,⟨hln,hld⟩,hmem,hO,fun i hi=>?_⟩ (by dsimp only;omega)
    by_cases e:i=s
    ·exact (hmem i (by omega)).1 (e ▸ hs1)
    ·exact hall i (by dsimp only at hi;omega)
   ·have hs0:g0 num s=0:=by simpa using hc2
    have hBs:=BJ.start (b:=bM m) hln hld h1 hmem hs0
    refine wskip ?_
    show AWp _ _ _ _ _
    refine wseq ?_
    refine wreg fun K hK=>?_
    simp [C.impl_factors,show ((s:Int) < n) by omega,h1,hln,hld]
    refine hK _ ?_;clear hK K
    show AWp _ _ _ _ _
    refine wseq ?_
    refine wreg fun K hK=>?_
    simp [C.impl_factors]
    refine hK _ ?_;clear hK K
    show AWp _ _ _ _ _
    refine wseq ?_
    refine wseq ?_
    refine wreg fun K hK=>?_
    simp [C.impl_factors]
    refine hK _ ?_;clear hK K
    show AWp _ _ _ _ _
    refine wblock ?_
    refine wloop (fun x:Nat×List Int×List Int×List Nat=>⟨ofL [(1,.pt (1,0) [] 0),(3,.al (3,0) [] 0 n),(4,.al (4,0) [] 0 n),(5,.al (5,0) [] 0 n),(7,.al (7,0) [] 0 (x.2.2.2).length),(8,.int x.1),(34,.int n),(35,.int (s:Nat))],ofRO [((1,0),some (.bx [D.int n,D.int m.r,shI m.d])),((3,0),some (.ow 1 n (ints x.2.1))),((4,0),some (.ow 1 n (ints x.2.2.1))),((5,0),some (.ow 1 n (ints out))),((7,0),some (.ow 1 (x.2.2.2).length (ints (cN x.2.2.2))))]⟩) (fun x=>x.1<=x.2.2.2.length/\BJ n (bM m) old s x.2.1 x.2.2.1 x.2.2.2 x.1 0) (fun x=>n - x.1) (0,num.set s 1,den.set s 1,[s]) (by simp [C.impl_factors,cN,ints]) ⟨by simp,hBs⟩ ?_
    intro x2 hx2 R2 hR2
    clear hBs hs0 hc2 hln hld hmem
    obtain ⟨a,num,den,P⟩:=x2
    obtain ⟨haP,hBJ⟩:=hx2
    dsimp only at haP hBJ ⊢
    have hPn:=nodup_len hBJ.pn hBJ.pl
    refine wseq ?_
    refine wseq ?_
    refine wreg fun K hK=>?_
    simp [C.impl_factors]
    refine hK _ ?_;clear hK K
    show AWp _ _ _ _ _
    refine wcond _ rfl (fun hc3=>?_) (fun hc3=>?_)
    ·have ha:a < P.length:=by have:=d_t hc3;omega
     obtain ⟨i,hi⟩:∃ i,i=P[a]:=⟨_,rfl⟩
     have hiP:P[a]? = some i:=by rw [hi];exact List.getElem?_eq_getElem ha
     have hin:i < n:=by rw [hi];exact hBJ.pl _ (List.getElem_mem ha)
     refine wskip ?_
     show AWp _ _ _ _ _
     refine wseq ?_
     refine wblock ?_
     refine wseq ?_
     refine wreg fun K hK=>?_
     simp [C.impl_factors,show ((a:Int) < P.length) by omega,ha,get_ints,cN_get ha,← hi]
     refine hK _ ?_;clear hK K
     show AWp _ _ _ _ _
     refine wseq ?_
     refine wreg fun K hK=>?_
     simp [C.impl_factors]
     refine hK _ ?_;clear hK K
     show AWp _ _ _ _ _
     refine wblock ?_
     refine wloop (fun x:Nat×List Int×List Int×List Nat=>⟨ofL [(1,.pt (1,0) [] 0),(3,.al (3,0) [] 0 n),(4,.al (4,0) [] 0 n),(5,.al (5,0) [] 0 n),(7,.al (7,0) [] 0 (x.2.2.2).length),(8,.int a),(9,.int i),(34,.int n),(35,.int (s:Nat)),(62,.int n),(63,.int x.1)],ofRO [((1,0),some (.bx [D.int n,D.int m.r,shI m.d])),((3,0),some (.ow 1 n (ints x.2.1))),((4,0),some (.ow 1 n (ints x.2.2.1))),((5,0),some (.ow 1 n (ints out))),((7,0),some (.ow 1 (x.2.2.2).length (ints (cN x.2.2.2))))]⟩) (fun x=>x.1<=n/\x.2.2.2[a]? = some i/\BJ n (bM m) old s x.2.1 x.2.2.1 x.2.2.2 a x.1) (fun x=>n - x.1) (0,num,den,P) (by simp [C.impl_factors,hBJ.ln]) ⟨by simp,hiP,hBJ⟩ ?_
     intro x3 hx3 R3 hR3
     clear hiP hi ha hBJ haP hPn hc3
     obtain ⟨j,num,den,P⟩:=x3
     obtain ⟨hj2,hiP,hBJ⟩:=hx3
     dsimp only at hj2 hiP hBJ ⊢
     have hPn:=nodup_len hBJ.pn hBJ.pl
     obtain ⟨ha,hi⟩:=List.getElem?_eq_some_iff.1 hiP
     have hln:=hBJ.ln
     have hld:=hBJ.ld
     refine wseq ?_
     refine wreg fun K hK=>?_
     simp [C.impl_factors]
     refine hK _ ?_;clear hK K
     show AWp _ _ _ _ _
     refine wseq ?_
     refine wcond _ rfl (fun hc4=>?_) (fun hc4=>?_)
     ·have hj:j < n:=by have:=d_t hc4;omega
      obtain ⟨p,hp⟩:∃ p,p=bM m i j:=⟨_,rfl⟩
      obtain ⟨q,hq⟩:∃ q,q=-bM m j i:=⟨_,rfl⟩
      have hpb:-99<=p/\p<=99:=by have:=hB i j hin hj;omega
      have hqb:-99<=q/\q<=99:=by have:=hB j i hj hin;omega
      have hwq:IntKind.i64.wrap (-bM m j i)=q:=by rw [← hq];exact wrapOk (by omega) (by omega)
      refine wskip ?_
      show AWp _ _ _ _ _
      refine wseq ?_
      refine wblock ?_
      refine wseq ?_
      refine wreg fun K hK=>?_
      simp [C.impl_factors]
      refine hK _ ?_;clear hK K
      show AWp _ _ _ _ _
      refine wseq ?_
      refine wdrawI [(true,0),(true,1),(true,2),(true,4),(true,5),(true,6),(false,3),(false,7),(true,8),(true,9),(true,10)] ⟨by kernel_rfl,by kernel_rfl⟩ ([0,1,2,4,5,6,3] ++ ([7] ++ ([8,9,10]))) rfl fun K hK=>?_
      refine opsI_seg fun L hL=>?_
      simp [C.impl_factors,hwq,← hp]
      refine wcall1 (at_calls hn hS (show (i:Int) < m.r by omega) hj) (by simp) (by simp) ?_
      simp [C.impl_factors,hwq,← hp]
      refine hL _ ?_;clear hL L
      refine opsI_seg fun L hL=>?_
      simp [C.impl_factors,hwq,← hp]
      refine wcall1 (at_calls hn hS (show (j:Int) < m.r by omega) hin) (by simp) (by simp) ?_
      simp [C.impl_factors,hwq,← hp]
      refine hL _ ?_;clear hL L
      refine opsI_end fun L hL=>?_
      simp [C.impl_factors,hwq,← hp]
      refine hL _ ?_;clear hL L
      simp [C.impl_factors,hwq,← hp]
      refine hK _ ?_;clear hK K
      show AWp _ _ _ _ _
      refine wseq ?_
      refine wseq ?_
      refine wreg fun K hK=>?_
      have hJ:K ⟨ofL [(1,.pt (1,0) [] 0),(3,.al (3,0) [] 0 n),(4,.al (4,0) [] 0 n),(5,.al (5,0) [] 0 n),(7,.al (7,0) [] 0 (P).length),(8,.int a),(9,.int i),(10,.int j),(11,.int p),(12,.int q),(34,.int n),(35,.int (s:Nat)),(62,.int n),(63,.int j),(80,.bool (decide (p=0/\q=0)))],ofRO [((1,0),some (.bx [D.int n,D.int m.r,shI m.d])),((3,0),some (.ow 1 n (ints num))),((4,0),some (.ow 1 n (ints den))),((5,0),some (.ow 1 n (ints out))),((7,0),some (.ow 1 (P).length (ints (cN P))))]⟩:=by
       refine hK _ ?_;clear hK K
       show AWp _ _ _ _ _
       refine wcond _ rfl (fun hc5=>?_) (fun hc5=>?_)
       ·have hpq0:=d_t hc5
        refine wexit ?_
        show AWp _ _ _ _ _
        refine wreg fun K hK=>?_
        simp [C.impl_factors,wrap_succ (show j < 4611686018427387904 by omega)]
        refine hK _ ?_;clear hK K
        simp [C.impl_factors]
        refine hR3 (j+1,num,den,P) ⟨hj,hiP,?_⟩ (by dsimp only;omega)
        exact hBJ.skip ha (by rw [hi,← hp];exact hpq0.1) (by rw [hi];omega)
       ·have hpq0:=d_f hc5
        refine wskip ?_
        show AWp _ _ _ _ _
        refine wseq ?_
        refine wseq ?_
        refine wregI ([0,1,2,3,4,5,6,7,8,9,10,11,12,13,14,15,16,17]) rfl fun K hK=>?_
        have hJ:K ⟨ofL [(1,.pt (1,0) [] 0),(3,.al (3,0) [] 0 n),(4,.al (4,0) [] 0 n),(5,.al (5,0) [] 0 n),(7,.al (7,0) [] 0 (P).length),(8,.int a),(9,.int i),(10,.int j),(11,.int p),(12,.int q),(34,.int n),(35,.int (s:Nat)),(62,.int n),(63,.int j),(98,.bool (decide (p=0\/q=0\/¬ (0 < p↔0 < q)\/i=j)))],ofRO [((1,0),some (.bx [D.int n,D.int m.r,shI m.d])),((3,0),some (.ow 1 n (ints num))),((4,0),some (.ow 1 n (ints den))),((5,0),some (.ow 1 n (ints out))),((7,0),some (.ow 1 (P).length (ints (cN P))))]⟩:=by
         refine hK _ ?_;clear hK K
         show AWp _ _ _ _ _
         refine wcond _ rfl (fun hc6=>?_) (fun hc6=>?_)
         ·have hfl:=d_t hc6
          have hno:=fun d=>sign_fail (b:=bM m) hin hj (by omega) (by omega) d
          refine wseq ?_
          refine wreg fun K hK=>?_
          simp [C.impl_factors]
          refine hK _ ?_;clear hK K
          show AWp _ _ _ _ _
          refine wret ?_
          simp [C.impl_factors]
          exact hno
         ·have hsg:=d_f hc6
          have hpq:0 < p/\0 < q\/p < 0/\q < 0:=by omega
          obtain ⟨u,hu⟩:∃ u,u=max p (-p):=⟨_,rfl⟩
          obtain ⟨v,hv⟩:∃ v,v=max q (-q):=⟨_,rfl⟩
          have hw1:IntKind.i64.wrap (-p)=-p:=wrapOk (by omega) (by omega)
          have hw2:IntKind.i64.wrap (-q)=-q:=wrapOk (by omega) (by omega)
          have hm1:=(hBJ.mul hn5.2 ha (u:=u) (by omega) (by omega)).1
          have hm2:=(hBJ.mul hn5.2 ha (u:=v) (by omega) (by omega)).2
          rw [hi] at hm1 hm2
          have hwA:IntKind.i64.wrap (g0 num i*u)=g0 num i*u:=wrapOk (by omega) (by omega)
          have hwB:IntKind.i64.wrap (g0 den i*v)=g0 den i*v:=wrapOk (by omega) (by omega)
          obtain ⟨x,y,g,hx0,hy0,hgp,hgg,hxA,hyB,hco⟩:=frac (g0 num i*u) (g0 den i*v) hm1.1 hm2.1
          have hqA:(g0 num i*u).tdiv g=x:=by rw [hxA,Int.mul_tdiv_cancel _ (by omega)]
          have hqB:(g0 den i*v).tdiv g=y:=by rw [hyB,Int.mul_tdiv_cancel _ (by omega)]
          have hxl:x<=9509900499:=by
           have h1:x*1<=x*g:=Int.mul_le_mul_of_nonneg_left (by omega) (by omega)
           rw [← hxA] at h1
           omega
          have hyl:y<=9509900499:=by
           have h1:y*1<=y*g:=Int.mul_le_mul_of_nonneg_left (by omega) (by omega)
           rw [← hyB] at h1
           omega
          have hcall:=impl_gcd_calls (g0 num i*u) (g0 den i*v) (by omega) (by omega)
          rw [hgg] at hcall
          generalize hAA:g0 num i*u=A at *
          generalize hBB:g0 den i*v=Bb at *
          refine wskip ?_
          show AWp _ _ _ _ _
          refine wseq ?_
          refine wdrawI [(true,0),(true,1),(true,2),(true,3),(true,4),(true,5),(true,6),(true,7),(true,8),(true,9),(true,10),(true,11),(true,12),(true,13),(true,14),(true,15),(true,16),(true,17),(true,18),(true,19)] ⟨by kernel_rfl,by kernel_rfl⟩ ([0,1,2,3,4,5,6,7,8,9,10,11,12,13,14,15,16,17,18,19]) rfl fun K hK=>?_
          refine opsI_end fun L hL=>?_
          simp [C.impl_factors,show ((i:Int) < n) by omega,hin,hln,hld,get_ints,g0_get,hw1,hw2,← hu,← hv,hAA,hBB,hwA,hwB]
          refine hL _ ?_;clear hL L
          simp [C.impl_factors,show ((i:Int) < n) by omega,hin,hln,hld,get_ints,g0_get,hw1,hw2,← hu,← hv,hAA,hBB,hwA,hwB]
          refine hK _ ?_;clear hK K
          show AWp _ _ _ _ _
          refine wseq ?_
          refine wregI ([0,1,2] ++ ([3])) rfl fun K hK=>?_
          refine opsI_seg fun L hL=>?_
          simp [C.impl_factors]
          refine wcall1 (hcall) (by simp) (by simp) ?_
          simp [C.impl_factors]
          refine hL _ ?_;clear hL L
          refine opsI_end fun L hL=>?_
          simp [C.impl_factors]
          refine hL _ ?_;clear hL L
          simp [C.impl_factors]
          refine hK _ ?_;clear hK K
          show AWp _ _ _ _ _
          refine wseq ?_
          refine wdraw (.take 0 (.take 1 (.take 2 (.take 3 (.take 4 (.take 5 (.take 6 (.take 7 (.done))))))))) ⟨by kernel_rfl,by kernel_rfl⟩ fun K hK=>?_
          simp [C.impl_factors,show g≠0 by omega,hqA,hqB,wrapOk (x:=x) (by omega) (by omega),wrapOk (x:=y) (by omega) (by omega)]
          refine hK _ ?_;clear hK K
          show AWp _ _ _ _ _
          refine wseq ?_
          refine wreg fun K hK=>?_
          simp [C.impl_factors,show ((j:Int) < n) by omega,hj,hln,get_ints,g0_get]
          refine hK _ ?_;clear hK K
          show AWp _ _ _ _ _
          refine wcond _ rfl (fun hc7=>?_) (fun hc7=>?_)
          ·have hz:g0 num j=0:=by simpa using hc7
           have hnew:=hBJ.new (x:=x) (y:=y) (g:=g) (u:=u) (v:=v) hoc ha hj hB (by rw [hi,← hp,← hq];exact hpq) hz (by rw [hi,← hp];exact hu.symm) (by rw [hi,← hq];exact hv.symm) hgp hx0 hy0 (by rw [hi,hAA];exact hxA) (by rw [hi,hBB];exact hyB) hco
           refine wseq ?_
           refine wreg fun K hK=>?_
           simp [C.impl_factors,show ((j:Int) < n) by omega,hj,hln,hld]
           refine hK _ ?_;clear hK K
           show AWp _ _ _ _ _
           refine wreg fun K hK=>?_
           simp [C.impl_factors,cN_snoc,show (P.length+1)*8<=140737488355328 by omega]
           refine hK _ ?_;clear hK K
           show AWp _ _ _ _ _
           refine wreg fun K hK=>?_
           simp [C.impl_factors,wrap_succ (show j < 4611686018427387904 by omega)]
           refine hK _ ?_;clear hK K
           simp [C.impl_factors]
           refine cast (congrArg R3 ?_) (hR3 (j+1,num.set j x,den.set j y,P ++ [j]) ⟨hj,by dsimp only;rw [List.getElem?_append_left ha];exact hiP,hnew⟩ (by dsimp only;omega))
           simp
          ·have hz:g0 num j≠0:=by simpa using hc7
           have hcmp:=hBJ.cmp (x:=x) (y:=y) (g:=g) (u:=u) (v:=v) hoc ha hj (by rw [hi,← hp,← hq];exact hpq) hz (by rw [hi,← hp];exact hu.symm) (by rw [hi,← hq];exact hv.symm) hgp hx0 hy0 (by rw [hi,hAA];exact hxA) (by rw [hi,hBB];exact hyB) hco
           refine wseq ?_
           refine wregI ([0,1,2,3,4,5,6,7,8,9,10,11,12,13]) rfl fun K hK=>?_
           have hJ:K ⟨ofL [(1,.pt (1,0) [] 0),(3,.al (3,0) [] 0 n),(4,.al (4,0) [] 0 n),(5,.al (5,0) [] 0 n),(7,.al (7,0) [] 0 (P).length),(8,.int a),(9,.int i),(34,.int n),(35,.int (s:Nat)),(62,.int n),(63,.int j),(156,.bool (!decide (g0 num j=x/\g0 den j=y)))],ofRO [((1,0),some (.bx [D.int n,D.int m.r,shI m.d])),((3,0),some (.ow 1 n (ints num))),((4,0),some (.ow 1 n (ints den))),((5,0),some (.ow 1 n (ints out))),((7,0),some (.ow 1 (P).length (ints (cN P))))]⟩:=by
            refine hK _ ?_;clear hK K
            show AWp _ _ _ _ _
            refine wcond _ rfl (fun hc8=>?_) (fun hc8=>?_)
            ·have hne:=nd_t hc8
             refine wseq ?_
             refine wreg fun K hK=>?_
             simp [C.impl_factors]
             refine hK _ ?_;clear hK K
             show AWp _ _ _ _ _
             refine wret ?_
             simp [C.impl_factors]
             exact hcmp.2 hne
            ·have heq:=nd_f hc8
             refine wskip ?_
             show AWp _ _ _ _ _
             refine wreg fun K hK=>?_
             simp [C.impl_factors,wrap_succ (show j < 4611686018427387904 by omega)]
             refine hK _ ?_;clear hK K
             simp [C.impl_factors]
             exact hR3 (j+1,num,den,P) ⟨hj,hiP,hcmp.1 heq⟩ (by dsimp only;omega)
           clear hK
           by_cases h1:g0 num j=x
           ·refine opsI_end fun L hL=>?_
            simp [C.impl_factors,show ((j:Int) < n) by omega,hj,hln,hld,get_ints,g0_get,h1]
            refine hL _ ?_;clear hL L
            simp [C.impl_factors,show ((j:Int) < n) by omega,hj,hln,hld,get_ints,g0_get,h1]
            refine cast (congrArg K ?_) hJ
            simp [ibne,h1]
           ·refine opsI_end fun L hL=>?_
            simp [C.impl_factors,show ((j:Int) < n) by omega,hj,hln,hld,get_ints,g0_get,h1]
            refine hL _ ?_;clear hL L
            simp [C.impl_factors,show ((j:Int) < n) by omega,hj,hln,hld,get_ints,g0_get,h1]
            refine cast (congrArg K ?_) hJ
            simp [ibne,h1]
        clear hK
        have hij:((i:Int) == (j:Int))=decide (i=j):=by rw [Bool.eq_iff_iff];simp <;> omega
        by_cases h1:p=0 <;> by_cases h2:q=0 <;> by_cases h3:0 < p <;> by_cases h4:0 < q <;> by_cases h5:i=j <;> first
         | (exfalso;omega)
         | (simp [C.impl_factors,h1,h2,h3,h4,h5];refine cast (congrArg K ?_) hJ;simp [hij,h1,h2,h3,h4,h5];done)
      clear hK
      by_cases hz:p=0
      ·simp [C.impl_factors,hz]
       refine cast (congrArg K ?_) hJ
       simp [ibeq,hz]
      ·simp [C.impl_factors,hz]
       refine cast (congrArg K ?_) hJ
       simp [ibeq,hz]
     ·have hjn:j=n:=by have:=d_f hc4;omega
      refine wexit ?_
      show AWp _ _ _ _ _
      refine wreg fun K hK=>?_
      simp [C.impl_factors,wrap_succ (show a < 4611686018427387904 by omega)]
      refine hK _ ?_;clear hK K
      simp [C.impl_factors]
      refine hR2 (a+1,num,den,P) ⟨ha,?_⟩ (by dsimp only;omega)
      rw [hjn] at hBJ
      exact hBJ.next
    ·have hap:a=P.length:=by have:=d_f hc3;omega
     rw [hap] at hBJ
     clear hap hc3 haP
     have hln:=hBJ.ln
     have hld:=hBJ.ld
     have hP9:P.length < 4611686018427387904:=by omega
     refine wexit ?_
     show AWp _ _ _ _ _
     refine wseq ?_
     refine wreg fun K hK=>?_
     simp [C.impl_factors]
     refine hK _ ?_;clear hK K
     show AWp _ _ _ _ _
     refine wseq ?_
     refine wseq ?_
     refine wreg fun K hK=>?_
     simp [C.impl_factors]
     refine hK _ ?_;clear hK K
     show AWp _ _ _ _ _
     refine wblock ?_
     refine wloop (fun x:Nat×Int=>⟨ofL [(1,.pt (1,0) [] 0),(3,.al (3,0) [] 0 n),(4,.al (4,0) [] 0 n),(5,.al (5,0) [] 0 n),(7,.al (7,0) [] 0 (P).length),(16,.int x.2),(34,.int n),(35,.int (s:Nat)),(158,.al (7,0) [] 0 P.length),(159,.int P.length),(160,.int x.1)],ofRO [((1,0),some (.bx [D.int n,D.int m.r,shI m.d])),((3,0),some (.ow 1 n (ints num))),((4,0),some (.ow 1 n (ints den))),((5,0),some (.ow 1 n (ints out))),((7,0),some (.ow 1 (P).length (ints (cN P))))]⟩) (fun x=>x.1<=P.length/\CJ n (bM m) s den P x.1 x.2) (fun x=>P.length - x.1) (0,1) (by simp [C.impl_factors]) ⟨by simp,CJ.start hBJ hn5.2 hPn⟩ ?_
     intro x4 hx4 R4 hR4
     obtain ⟨t,c⟩:=x4
     obtain ⟨ht0,hC⟩:=hx4
     dsimp only at ht0 hC ⊢
     refine wseq ?_
     refine wreg fun K hK=>?_
     simp [C.impl_factors]
     refine hK _ ?_;clear hK K
     show AWp _ _ _ _ _
     refine wseq ?_
     refine wcond _ rfl (fun hc9=>?_) (fun hc9=>?_)
     ·have ht:t < P.length:=by have:=d_t hc9;omega
      have hin:=hBJ.pl _ (List.getElem_mem ht)
      have hdp:=hBJ.pos _ (List.getElem_mem ht)
      have hdb:=(hBJ.bd t ht).2
      have hp4:=pow4 ht hn5.2 hPn
      have hcq:=hC.qd
      have hcp:=hC.pos
      obtain ⟨w,w1,w2,w3⟩:=lcm_step hC.pos hdp.2.1
      have hstep:=hC.step hBJ ht
      have hcall:=impl_gcd_calls c (g0 den P[t]) (by omega) (by omega)
      have hgn:0 < Int.gcd c (g0 den P[t]):=Int.gcd_pos_of_ne_zero_left _ (by omega)
      have hdz:(Int.gcd c (g0 den P[t]):Int)≠0:=by omega
      have hsq:=hstep.qd
      have hsp:=hstep.pos
      rw [w1] at hstep hsq hsp
      generalize hG:(Int.gcd c (g0 den P[t]):Int)=G at *
      refine wskip ?_
      show AWp _ _ _ _ _
      refine wseq ?_
      refine wblock ?_
      refine wseq ?_
      refine wreg fun K hK=>?_
      simp [C.impl_factors,show ((t:Int) < P.length) by omega,ht,get_ints,cN_get ht]
      refine hK _ ?_;clear hK K
      show AWp _ _ _ _ _
      refine wdrawI [(true,0),(true,1),(true,2),(true,3),(true,4),(true,5),(true,8),(true,9),(true,10),(true,11),(false,6),(true,7),(true,12),(true,13)] ⟨by kernel_rfl,by kernel_rfl⟩ ([0,1,2,3,4,5,8,9,10,11,6] ++ ([7,12,13])) rfl fun K hK=>?_
      refine opsI_seg fun L hL=>?_
      simp [C.impl_factors,show ((P[t]:Int) < n) by omega,hin,hld,get_ints,g0_get,hdz,w1,wrapOk (x:=(w:Int)) (by omega) (by omega),wrapOk (x:=(w:Int)*g0 den P[t]) (by omega) (by omega)]
      refine wcall1 (hcall) (by simp) (by simp) ?_
      simp [C.impl_factors,show ((P[t]:Int) < n) by omega,hin,hld,get_ints,g0_get,hdz,w1,wrapOk (x:=(w:Int)) (by omega) (by omega),wrapOk (x:=(w:Int)*g0 den P[t]) (by omega) (by omega)]
      refine hL _ ?_;clear hL L
      refine opsI_end fun L hL=>?_
      simp [C.impl_factors,show ((P[t]:Int) < n) by omega,hin,hld,get_ints,g0_get,hdz,w1,wrapOk (x:=(w:Int)) (by omega) (by omega),wrapOk (x:=(w:Int)*g0 den P[t]) (by omega) (by omega)]
      refine hL _ ?_;clear hL L
      simp [C.impl_factors,show ((P[t]:Int) < n) by omega,hin,hld,get_ints,g0_get,hdz,w1,wrapOk (x:=(w:Int)) (by omega) (by omega),wrapOk (x:=(w:Int)*g0 den P[t]) (by omega) (by omega)]
      refine hK _ ?_;clear hK K
      show AWp _ _ _ _ _
      refine wreg fun K hK=>?_
      simp [C.impl_factors,wrap_succ (show t < 4611686018427387904 by omega)]
      refine hK _ ?_;clear hK K
      simp [C.impl_factors]
      exact hR4 (t+1,(w:Int)*g0 den P[t]) ⟨ht,hstep⟩ (by dsimp only;omega)
     ·have htP:t=P.length:=by have:=d_f hc9;omega
      rw [htP] at hC
      refine wexit ?_
      show AWp _ _ _ _ _
      refine wseq ?_
      refine wreg fun K hK=>?_
      simp [C.impl_factors]
      refine hK _ ?_;clear hK K
      show AWp _ _ _ _ _
      refine wseq ?_
      refine wseq ?_
      refine wreg fun K hK=>?_
      simp [C.impl_factors]
      refine hK _ ?_;clear hK K
      show AWp _ _ _ _ _
      refine wblock ?_
      refine wloop (fun x:Nat×List Int×Int=>⟨ofL [(1,.pt (1,0) [] 0),(3,.al (3,0) [] 0 n),(4,.al (4,0) [] 0 n),(5,.al (5,0) [] 0 n),(7,.al (7,0) [] 0 (P).length),(16,.int c),(19,.int x.2.2),(34,.int n),(35,.int (s:Nat)),(178,.al (7,0) [] 0 P.length),(179,.int P.length),(180,.int x.1)],ofRO [((1,0),some (.bx [D.int n,D.int m.r,shI m.d])),((3,0),some (.ow 1 n (ints num))),((4,0),some (.ow 1 n (ints den))),((5,0),some (.ow 1 n (ints x.2.1))),((7,0),some (.ow 1 (P).length (ints (cN P))))]⟩) (fun x=>x.1<=P.length/\WJ c num den P out x.1 x.2.1 x.2.2/\x.2.2 < 4611686018427387904) (fun x=>P.length - x.1) (0,out,0) (by simp [C.impl_factors]) ⟨by simp,WJ.start c num den P out,by simp⟩ ?_
      intro x5 hx5 R5 hR5
      obtain ⟨t5,o,g⟩:=x5
      obtain ⟨ht0',hW,hgb⟩:=hx5
      dsimp only at ht0' hW hgb ⊢
      refine wseq ?_
      refine wreg fun K hK=>?_
      simp [C.impl_factors]
      refine hK _ ?_;clear hK K
      show AWp _ _ _ _ _
      refine wseq ?_
      refine wcond _ rfl (fun hc10=>?_) (fun hc10=>?_)
      ·have ht:t5 < P.length:=by have:=d_t hc10;omega
       have hin:=hBJ.pl _ (List.getElem_mem ht)
       have hws:=wM_spec hC hBJ hn5.2 hPn (List.getElem_mem ht)
       have hdp:=hBJ.pos _ (List.getElem_mem ht)
       have hol:o.length=n:=by rw [hW.len,hO.lo]
       have hwd:wM c num den P[t5]=c.tdiv (g0 den P[t5])*g0 num P[t5]:=rfl
       have hstep:=hW.step ht (by rw [hO.lo];exact hin) hws.2.2.1
       have hg0:=hW.g0'.1
       have hcall:=impl_gcd_calls g (wM c num den P[t5]) (by omega) (by have:=hws.2.2.2.1;omega)
       have hgw:(Int.gcd g (wM c num den P[t5]):Int) < 4611686018427387904:=by
        have h1:Int.gcd g (wM c num den P[t5]) ∣ (wM c num den P[t5]).natAbs:=Nat.gcd_dvd_right _ _
        have h2:=Nat.le_of_dvd (by have:=hws.2.2.1;omega) h1
        have:=hws.2.2.2.1
        omega
       have hwA:IntKind.i64.wrap (c.tdiv (g0 den P[t5]))=c.tdiv (g0 den P[t5]):=by have:=hws.1;have:=hws.2.1;exact wrapOk (by omega) (by omega)
       have hwB:IntKind.i64.wrap (wM c num den P[t5])=wM c num den P[t5]:=by have:=hws.2.2.1;have:=hws.2.2.2.1;exact wrapOk (by omega) (by omega)
       have hog:g0 (o.set P[t5] (wM c num den P[t5])) P[t5]=wM c num den P[t5]:=by rw [g0_set _ _ _ _ (by omega),if_pos rfl]
       have hdz:g0 den P[t5]≠0:=by omega
       refine wskip ?_
       show AWp _ _ _ _ _
       refine wseq ?_
       refine wblock ?_
       refine wseq ?_
       refine wreg fun K hK=>?_
       simp [C.impl_factors,show ((t5:Int) < P.length) by omega,ht,get_ints,cN_get ht]
       refine hK _ ?_;clear hK K
       show AWp _ _ _ _ _
       refine wseq ?_
       refine wdrawI [(true,0),(true,1),(true,2),(true,3),(true,4),(true,5),(true,6),(true,7),(true,8),(true,9),(true,10),(true,11),(true,12),(true,13),(false,14)] ⟨by kernel_rfl,by kernel_rfl⟩ ([0,1,2,3,4,5,6,7,8,9,10,11,12,13,14]) rfl fun K hK=>?_
       refine opsI_end fun L hL=>?_
       simp [C.impl_factors,show ((P[t5]:Int) < n) by omega,hin,hln,hld,hol,get_ints,g0_get,hdz,hwA,← hwd,hwB]
       refine hL _ ?_;clear hL L
       simp [C.impl_factors,show ((P[t5]:Int) < n) by omega,hin,hln,hld,hol,get_ints,g0_get,hdz,hwA,← hwd,hwB]
       refine hK _ ?_;clear hK K
       show AWp _ _ _ _ _
       refine wregI ([0,1,2,3,4,5] ++ ([6])) rfl fun K hK=>?_
       refine opsI_seg fun L hL=>?_
       simp [C.impl_factors,show ((P[t5]:Int) < n) by omega,hin,hol,get_ints,g0_get,hog]
       refine wcall1 (hcall) (by simp) (by simp) ?_
       simp [C.impl_factors,show ((P[t5]:Int) < n) by omega,hin,hol,get_ints,g0_get,hog]
       refine hL _ ?_;clear hL L
       refine opsI_end fun L hL=>?_
       simp [C.impl_factors,show ((P[t5]:Int) < n) by omega,hin,hol,get_ints,g0_get,hog]
       refine hL _ ?_;clear hL L
       simp [C.impl_factors,show ((P[t5]:Int) < n) by omega,hin,hol,get_ints,g0_get,hog]
       refine hK _ ?_;clear hK K
       show AWp _ _ _ _ _
       refine wreg fun K hK=>?_
       simp [C.impl_factors,wrap_succ (show t5 < 4611686018427387904 by omega)]
       refine hK _ ?_;clear hK K
       simp [C.impl_factors]
       exact hR5 (t5+1,o.set P[t5] (wM c num den P[t5]),_) ⟨ht,hstep,hgw⟩ (by dsimp only;omega)
      ·have ht5:t5=P.length:=by have:=d_f hc10;omega
       rw [ht5] at hW
       have hgp:0 < g:=hW.g0'.2 (List.length_pos_of_mem (List.mem_of_getElem? hBJ.hd))
       refine wexit ?_
       show AWp _ _ _ _ _
       refine wseq ?_
       refine wreg fun K hK=>?_
       simp [C.impl_factors]
       refine hK _ ?_;clear hK K
       show AWp _ _ _ _ _
       refine wblock ?_
       refine wloop (fun x:Nat×List Int=>⟨ofL [(1,.pt (1,0) [] 0),(3,.al (3,0) [] 0 n),(4,.al (4,0) [] 0 n),(5,.al (5,0) [] 0 n),(19,.int g),(34,.int n),(35,.int (s:Nat)),(205,.al (205,0) [] 0 P.length),(206,.int P.length),(207,.int x.1)],ofRO [((1,0),some (.bx [D.int n,D.int m.r,shI m.d])),((3,0),some (.ow 1 n (ints num))),((4,0),some (.ow 1 n (ints den))),((5,0),some (.ow 1 n (ints x.2))),((205,0),some (.ow 1 (P).length (ints (cN P))))]⟩) (fun x=>x.1<=P.length/\VJ (wM c num den) g P out x.1 x.2) (fun x=>P.length - x.1) (0,o) (by simp [C.impl_factors]) ⟨by simp,VJ.start hW⟩ ?_
       intro x6 hx6 R6 hR6
       obtain ⟨t6,o6⟩:=x6
       obtain ⟨ht0'',hV⟩:=hx6
       dsimp only at ht0'' hV ⊢
       refine wseq ?_
       refine wreg fun K hK=>?_
       simp [C.impl_factors]
       refine hK _ ?_;clear hK K
       show AWp _ _ _ _ _
       refine wseq ?_
       refine wcond _ rfl (fun hc11=>?_) (fun hc11=>?_)
       ·have ht:t6 < P.length:=by have:=d_t hc11;omega
        have hin:=hBJ.pl _ (List.getElem_mem ht)
        have hws:=wM_spec hC hBJ hn5.2 hPn (List.getElem_mem ht)
        obtain ⟨hv1,hv2⟩:=hV.step hBJ.pn ht (by rw [hO.lo];exact hin)
        have hol:o6.length=n:=by rw [hV.len,hO.lo]
        have hwd:IntKind.i64.wrap ((wM c num den P[t6]).tdiv g)=(wM c num den P[t6]).tdiv g:=by
         have h1:((wM c num den P[t6]).tdiv g).natAbs<=(wM c num den P[t6]).natAbs:=by
          rw [Int.natAbs_tdiv]
          exact Nat.div_le_self _ _
         have:=hws.2.2.1
         have:=hws.2.2.2.1
         exact wrapOk (by omega) (by omega)
        refine wskip ?_
        show AWp _ _ _ _ _
        refine wseq ?_
        refine wblock ?_
        refine wseq ?_
        refine wreg fun K hK=>?_
        simp [C.impl_factors,show ((t6:Int) < P.length) by omega,ht,get_ints,cN_get ht]
        refine hK _ ?_;clear hK K
        show AWp _ _ _ _ _
        refine wreg fun K hK=>?_
        simp [C.impl_factors,show ((P[t6]:Int) < n) by omega,hin,hol,get_ints,g0_get,hv1,show g≠0 by omega,hwd]
        refine hK _ ?_;clear hK K
        show AWp _ _ _ _ _
        refine wreg fun K hK=>?_
        simp [C.impl_factors,wrap_succ (show t6 < 4611686018427387904 by omega)]
        refine hK _ ?_;clear hK K
        simp [C.impl_factors]
        exact hR6 (t6+1,_) ⟨ht,hv2⟩ (by dsimp only;omega)
       ·have ht6:t6=P.length:=by have:=d_f hc11;omega
        rw [ht6] at hV
        have hgrow:=hO.grow hBJ hn5.2 hPn hC hW hV
        refine wexit ?_
        show AWp _ _ _ _ _
        refine wreg fun K hK=>?_
        simp [C.impl_factors,wrap_succ (show s < 4611686018427387904 by omega)]
        refine hK _ ?_;clear hK K
        simp [C.impl_factors]
        refine hR1 (s+1,num,den,o6,old ++ P) ⟨h1,⟨hln,hld⟩,fun i hi=>?_,hgrow,fun i hi=>?_⟩ (by dsimp only;omega)
        ·dsimp only
         rw [hBJ.mem i hi,List.mem_append]
        ·dsimp only at hi ⊢
         rw [List.mem_append]
         by_cases e:i=s
         ·right
          rw [e]
          exact List.mem_of_getElem? hBJ.hd
         ·exact .inl (hall i (by omega))
  ·have hsn:s=n:=by have:=d_f hc1;omega
   subst hsn
   have hmin:=hO.min hall
   have hol:=hO.lo
   refine wexit ?_
   show AWp _ _ _ _ _
   refine wseq ?_
   refine wreg fun K hK=>?_
   simp [C.impl_factors]
   refine hK _ ?_;clear hK K
   show AWp _ _ _ _ _
   refine wret ?_
   simp [C.impl_factors]
   exact ⟨out,hmin,hol.symm,rfl⟩
 clear hK
 simp [C.impl_factors,zeros_ints,show (8:Int)*n<=281474976710656 by omega,show (n:Int)<=281474976710656 by omega]
 exact hJ
theorem factors_calls (m:Mat) (hS:ShM m):ACalls Tryz.prog F.impl_factors [aM m] [] true (fun outs res=>outs=[]/\((∃ l,MinSol m.n.toNat (bM m) l/\res=[.one (owI l)])\/((∀ d,¬ Sol m.n.toNat (bM m) d)/\res=[.one (.v (.slice none 0 0))]))):=by
 obtain ⟨n,hn⟩:∃ n:Nat,m.n=n:=⟨m.n.toNat,by have:=hS.1;omega⟩
 have h:=impl_factors_calls m n hn hS
 have e:aM m = .ag [.int n,.int m.r,.d (shI m.d)]:=by rw [← hn]
 rw [e,show m.n.toNat=n by omega]
 exact h
end Go.Proofs.YtbhkonnakkhibaaGreat.Ab
namespace Go.Proofs.YtbhkonnakkhibaaGreat.Ab
open Go
set_option maxRecDepth 10000
set_option maxHeartbeats 2000000
def kt (t:Trm):Int×Int:=(keyA 0 t.e,t.c)
theorem spec_l2Open_calls (f:Lau) (hl:f.ts.length<=1000000) (he:∀ t∈f.ts,Dig t.e/\t.e.length<=8):ACalls Tryz.prog F.spec_l2Open [aF f] [] true (fun outs res=>outs=[]/\res=[.one (.ow 2 f.ts.length (rows gM (f.ts.map kt)))]):=by
 refine ACalls.of_body (C:=C.spec_l2Open) (n:=Tryz.f197.ntmps) tabT folT Tryz.func197 rfl (by kernel_rfl) rfl (Nat.le_of_ble_eq_true rfl) (by decide) (by kernel_rfl) (by kernel_rfl) rfl (by simp) (by simp) ?_
 simp only [Tryz.f197]
 refine wseq ?_
 refine wreg fun K hK=>?_
 simp [C.spec_l2Open,fS]
 refine hK _ ?_;clear hK K
 show AWp _ _ _ _ _
 refine wseq ?_
 refine wreg fun K hK=>?_
 simp [C.spec_l2Open,fS]
 refine hK _ ?_;clear hK K
 show AWp _ _ _ _ _
 refine wseq ?_
 refine wseq ?_
 refine wreg fun K hK=>?_
 simp [C.spec_l2Open,fS]
 refine hK _ ?_;clear hK K
 show AWp _ _ _ _ _
 refine wblock ?_
 refine wloop (fun x:Nat×List (Int×Int)=>⟨ofL [(1,.pt (1,0) [] 0),(3,.al (3,0) [] 0 x.1),(4,.int x.1)],ofRO [((1,0),some (.bx (fS f))),((3,0),some (.ow 2 x.1 (rows gM x.2)))]⟩) (fun x=>x.1<=f.ts.length/\x.2=(f.ts.take x.1).map kt) (fun x=>f.ts.length - x.1) (0,[]) (by simp [C.spec_l2Open,fS,rows]) (by simp) ?_
 intro x1 hx1 R1 hR1
 obtain ⟨j,gs⟩:=x1
 obtain ⟨hj,hg⟩:=hx1
 dsimp only at hj hg ⊢
 refine wseq ?_
 refine wseq ?_
 refine wreg fun K hK=>?_
 simp [C.spec_l2Open,fS]
 refine hK _ ?_;clear hK K
 show AWp _ _ _ _ _
 refine wcond _ rfl (fun hc1=>?_) (fun hc1=>?_)
 ·have h1:j < f.ts.length:=by have:=d_t hc1;omega
  have hgl:gs.length=j:=by rw [hg];simp;omega
  refine wskip ?_
  show AWp _ _ _ _ _
  refine wseq ?_
  refine wblock ?_
  refine wdrawI [(true,0),(true,1),(true,2),(true,3),(true,4),(true,5),(true,6),(true,8),(true,9),(true,10),(true,11),(true,12),(true,13),(false,7),(true,14),(false,15),(false,16),(true,17)] ⟨by kernel_rfl,by kernel_rfl⟩ ([0,1,2,3,4,5,6,8,9,10,11,12,13,7] ++ ([14,15,16,17])) rfl fun K hK=>?_
  refine opsI_seg fun L hL=>?_
  simp [C.spec_l2Open,fS,h1,tS_0 h1,tS_1 h1,gM_snoc,show (j+1)*16<=140737488355328 by omega]
  refine wcall1 (spec_l2Key_calls f.ts[j].e (he _ (List.getElem_mem h1)).1 (he _ (List.getElem_mem h1)).2) (by simp) (by simp) ?_
  simp [C.spec_l2Open,fS,h1,tS_0 h1,tS_1 h1,gM_snoc,show (j+1)*16<=140737488355328 by omega]
  refine hL _ ?_;clear hL L
  refine opsI_end fun L hL=>?_
  simp [C.spec_l2Open,fS,h1,tS_0 h1,tS_1 h1,gM_snoc,show (j+1)*16<=140737488355328 by omega]
  refine hL _ ?_;clear hL L
  simp [C.spec_l2Open,fS,h1,tS_0 h1,tS_1 h1,gM_snoc,show (j+1)*16<=140737488355328 by omega]
  refine hK _ ?_;clear hK K
  show AWp _ _ _ _ _
  refine wreg fun K hK=>?_
  simp [C.spec_l2Open,fS,wrap_succ (show j < 4611686018427387904 by omega)]
  refine hK _ ?_;clear hK K
  simp [C.spec_l2Open,fS]
  refine hR1 (j+1,_) ⟨h1,?_⟩ (by dsimp only;omega)
  dsimp only
  rw [hg,List.take_succ_eq_append_getElem h1,List.map_append]
  rfl
 ·have h1:j=f.ts.length:=by have:=d_f hc1;omega
  refine wexit ?_
  show AWp _ _ _ _ _
  refine wseq ?_
  refine wreg fun K hK=>?_
  simp [C.spec_l2Open,fS]
  refine hK _ ?_;clear hK K
  show AWp _ _ _ _ _
  refine wret ?_
  simp [C.spec_l2Open,fS,hg,h1]
theorem spec_l2Shut_calls (ts:List Trm) (v:Nat) (hl:ts.length<=1000000) (he:∀ t∈ts,Dig t.e/\t.e.length=v) (hv:v<=8):ACalls Tryz.prog F.spec_l2Shut [.d (.sh 2 ts.length (rows gM (ts.map kt))),.int v] [] true (fun outs res=>outs=[]/\WkRs res [.ag (fO (if Right ⟨v,ts⟩ then ⟨v,ts⟩ else zeroF)),.one (D.bool (decide (Right ⟨v,ts⟩)))]):=by
 refine ACalls.of_body (C:=C.spec_l2Shut) (n:=Tryz.f89.ntmps) tabT folT Tryz.func89 rfl (by kernel_rfl) rfl (Nat.le_of_ble_eq_true rfl) (by decide) (by kernel_rfl) (by kernel_rfl) rfl (by simp) (by simp) ?_
 simp only [Tryz.f89]
 refine wseq ?_
 refine wreg fun K hK=>?_
 simp [C.spec_l2Shut]
 refine hK _ ?_;clear hK K
 show AWp _ _ _ _ _
 refine wseq ?_
 refine wseq ?_
 refine wreg fun K hK=>?_
 simp [C.spec_l2Shut]
 refine hK _ ?_;clear hK K
 show AWp _ _ _ _ _
 refine wcond _ rfl (fun hc1=>?_) (fun hc1=>?_)
 ·have hc:=d_t hc1
  have hr:¬ Right ⟨v,ts⟩:=fun h=>by have:=h.2.1;dsimp only at this;omega
  refine wseq ?_
  refine wreg fun K hK=>?_
  simp [C.spec_l2Shut]
  refine hK _ ?_;clear hK K
  show AWp _ _ _ _ _
  refine wret ?_
  simp [C.spec_l2Shut,hr,fO,zeroF,rows]
 ·have hc:=d_f hc1
  refine wskip ?_
  show AWp _ _ _ _ _
  refine wseq ?_
  refine wreg fun K hK=>?_
  simp [C.spec_l2Shut]
  refine hK _ ?_;clear hK K
  show AWp _ _ _ _ _
  refine wseq ?_
  refine wseq ?_
  refine wreg fun K hK=>?_
  simp [C.spec_l2Shut]
  refine hK _ ?_;clear hK K
  show AWp _ _ _ _ _
  refine wblock ?_
  refine wloop (fun x:Nat×List Trm=>⟨ofL [(0,.d (.sh 2 ts.length (rows gM (ts.map kt)))),(1,.int v),(4,.pt (4,0) [] 0),(6,.pt (6,0) [] 0),(7,.int x.1)],ofRO [((4,0),some (.bx [D.int 0,.v (.slice none 0 0)])),((6,0),some (.bx [D.int v,.ow 2 x.1 (rows tO x.2)]))]⟩) (fun x=>x.1<=ts.length/\x.2=ts.take x.1) (fun x=>ts.length - x.1) (0,[]) (by simp [C.spec_l2Shut,rows]) (by simp) ?_
  intro x1 hx1 R1 hR1
  obtain ⟨j,gs⟩:=x1
  obtain ⟨hj,hg⟩:=hx1
  dsimp only at hj hg ⊢
  refine wseq ?_
  refine wseq ?_
  refine wreg fun K hK=>?_
  simp [C.spec_l2Shut]
  refine hK _ ?_;clear hK K
  show AWp _ _ _ _ _
  refine wcond _ rfl (fun hc2=>?_) (fun hc2=>?_)
  ·have h1:j < ts.length:=by have:=d_t hc2;omega
   have hgl:gs.length=j:=by rw [hg];simp;omega
   have h2:j < (ts.map kt).length:=by simpa using h1
   have hkt:(ts.map kt)[j]=(keyA 0 ts[j].e,ts[j].c):=by simp [kt]
   have hel:=(he _ (List.getElem_mem h1)).2
   refine wskip ?_
   show AWp _ _ _ _ _
   refine wseq ?_
   refine wblock ?_
   refine wdrawI [(true,0),(true,1),(true,2),(true,3),(true,4),(true,5),(true,6),(true,7),(true,9),(true,10),(true,11),(true,12),(true,13),(false,8),(true,14),(false,15),(false,16),(true,17),(false,18)] ⟨by kernel_rfl,by kernel_rfl⟩ ([0,1,2,3,4,5,6,7,9,10,11,12,13,8] ++ ([14,15,16,17,18])) rfl fun K hK=>?_
   refine opsI_seg fun L hL=>?_
   simp [C.spec_l2Shut,h1,h2,hkt,gM_0 h2,gM_1 h2,show (j+1)*32<=140737488355328 by omega]
   refine wcall1 (spec_l2Exp_calls ts[j].e (he _ (List.getElem_mem h1)).1 (by omega)) (by simp;omega) (by simp) ?_
   simp [C.spec_l2Shut,h1,h2,hkt,gM_0 h2,gM_1 h2,show (j+1)*32<=140737488355328 by omega]
   refine hL _ ?_;clear hL L
   refine opsI_end fun L hL=>?_
   simp [C.spec_l2Shut,h1,h2,hkt,gM_0 h2,gM_1 h2,show (j+1)*32<=140737488355328 by omega]
   refine hL _ ?_;clear hL L
   simp [C.spec_l2Shut,h1,h2,hkt,gM_0 h2,gM_1 h2,show (j+1)*32<=140737488355328 by omega]
   refine hK _ ?_;clear hK K
   show AWp _ _ _ _ _
   refine wreg fun K hK=>?_
   simp [C.spec_l2Shut,wrap_succ (show j < 4611686018427387904 by omega)]
   refine hK _ ?_;clear hK K
   simp [C.spec_l2Shut]
   rw [tO_snoc]
   refine hR1 (j+1,_) ⟨h1,?_⟩ (by dsimp only;omega)
   dsimp only
   rw [hg,List.take_succ_eq_append_getElem h1]
  ·have h1:j=ts.length:=by have:=d_f hc2;omega
   obtain rfl:gs=ts:=by rw [hg,h1,List.take_length]
   subst h1
   refine wexit ?_
   show AWp _ _ _ _ _
   refine wseq ?_
   refine wseq ?_
   refine wregI ([0,1] ++ ([2])) rfl fun K hK=>?_
   refine opsI_seg fun L hL=>?_
   simp [C.spec_l2Shut]
   refine wcall1 (spec_l2Right_calls ⟨v,gs⟩ (by dsimp only;omega) (fun t ht=>by have:=(he t ht).2;omega)) (by simp) (by simp) ?_
   simp [C.spec_l2Shut]
   refine hL _ ?_;clear hL L
   refine opsI_end fun L hL=>?_
   simp [C.spec_l2Shut]
   refine hL _ ?_;clear hL L
   simp [C.spec_l2Shut]
   refine hK _ ?_;clear hK K
   show AWp _ _ _ _ _
   refine wcond _ rfl (fun hc3=>?_) (fun hc3=>?_)
   ·have hr:=nd_t hc3
    refine wseq ?_
    refine wreg fun K hK=>?_
    simp [C.spec_l2Shut]
    refine hK _ ?_;clear hK K
    show AWp _ _ _ _ _
    refine wret ?_
    simp [C.spec_l2Shut,hr,fO,zeroF,rows]
   ·have hr:=nd_f hc3
    refine wskip ?_
    show AWp _ _ _ _ _
    refine wseq ?_
    refine wreg fun K hK=>?_
    simp [C.spec_l2Shut]
    refine hK _ ?_;clear hK K
    show AWp _ _ _ _ _
    refine wret ?_
    simp [C.spec_l2Shut,hr,fO]
theorem l2Shut_calls (ts:List Trm) (v:Nat) (hl:ts.length<=1000000) (he:∀ t∈ts,Dig t.e/\t.e.length=v) (hv:v<=8):ACalls Tryz.prog F.spec_l2Shut [.d (.sh 2 ts.length (rows gM (ts.map kt))),.int v] [] true (fun outs res=>outs=[]/\res=[.ag (fO (if Right ⟨v,ts⟩ then ⟨v,ts⟩ else zeroF)),.one (D.bool (decide (Right ⟨v,ts⟩)))]):=(spec_l2Shut_calls ts v hl he hv).weak1
end Go.Proofs.YtbhkonnakkhibaaGreat.Ab
