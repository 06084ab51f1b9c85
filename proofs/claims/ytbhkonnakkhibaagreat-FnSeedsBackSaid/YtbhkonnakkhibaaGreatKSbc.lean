/- Steps for proofs of single functions. Rows of cells: lists of structs as trees. What the simplifier may unfold where a function is evaluated. A promise made weaker: empty slices among results and arguments. Matrices, sums, seeds and sessions as trees; numbers written into them one behind the other. From a call's promise to a row: what was there is as it was. Arguments that are read as data: numbers, texts, slices and structs as trees over old blocks. Arguments of this program's laws, read as trees. Sums as lists of keys with numbers: the descending list without zeros is told by the sum that belongs to each key. Division of sums by their greatest terms, over any keys: what it finds, what it keeps, and that it does not matter which of two tests it makes. Exponents as one number: the code is one to one, keeps the order, and goes with sums. Sums that are right; their coded terms; what products and sums come to. Printed by wip/tools/gen.py: the numbers of functions and types, and what lives where. Small functions on numbers and lists of numbers: what they answer. Sums: their size, copies, what is equal, marks. The reference's sums: which are right; codes and their decoding. The reference's coded terms: opened, multiplied, shut. Merging runs sorts; terms of one key that lie together are added. The reference's gathering: terms in order, those of one key added. The reference's products of coded terms. The reference's products and powers of sums. The reference's powers of sums. The program's sums: what is right, keys, comparisons. No condition. -/
import Derived.Test.YtbhkonnakkhibaaGreatKSbb
import Derived.WalkKit
import Derived.ProofKit
import Derived.OpenShut
import Derived.Test.YtbhkonnakkhibaaGreatProg
import Derived.Test.YtbhkonnakkhibaaGreatKSba
set_option linter.unusedVariables false
set_option linter.unusedSimpArgs false
set_option linter.unusedSectionVars false
namespace Go.Proofs.YtbhkonnakkhibaaGreat.Ab
open Go
def ints (xs:List Int):List D:=xs.map D.int
section
variable {C:Ctx} {i:Nat} {Q:AEx->St->Prop} {σ:St}
theorem wseq {a b:Code} (h:AWp C a i (AEx.seq (AWp C b i Q) Q) σ):AWp C (.seq a b) i Q σ:=h
def walkCode:List Nat->Code->Code
 | 0 :: p,.seq a _=>walkCode p a
 | 1 :: p,.seq _ b=>walkCode p b
 | 0 :: p,.cond _ a _=>walkCode p a
 | 1 :: p,.cond _ _ b=>walkCode p b
 | 0 :: p,.block _ c=>walkCode p c
 | 0 :: p,.loop c=>walkCode p c
 | _,c=>c
def codeAt (f:Func) (p:List Nat):Code:=match f.body with | some c=>walkCode p c | none=>.skip
theorem wcode {c c':Code} (h:c=c') (hh:AWp C c' i Q σ):AWp C c i Q σ:=h ▸ hh
theorem wst {c:Code} {σ2:St} (h:σ=σ2) (hh:AWp C c i Q σ2):AWp C c i Q σ:=h ▸ hh
theorem wskip (h:Q .normal σ):AWp C .skip i Q σ:=h
theorem wexit {id:Nat} (h:Q (.exit id) σ):AWp C (.exit id) i Q σ:=h
theorem wret (h:Q .ret σ):AWp C .ret i Q σ:=h
theorem wblock {id:Nat} {c:Code} (h:AWp C c id (AEx.block id Q) σ):AWp C (.block id c) i Q σ:=h
theorem wreg {id:Nat} {ops:Array Oper} (h:∀ K:St->Prop,(∀ σ',Q .normal σ'->K σ')->AOps C ops ops.toList σ (fun σ'=>K (norm C (aget [] C.kp id) σ'))):AWp C (.region id ops false) i Q σ:=h _ (fun _ h=>h)
theorem wdraw {id:Nat} {ops:Array Oper} (p:Plan) (hp:p.ok C ops) (h:∀ K:St->Prop,(∀ σ',Q .normal σ'->K σ')->ARun C ops p σ (fun σ'=>K (norm C (aget [] C.kp id) σ'))):AWp C (.region id ops true) i Q σ:=
 ⟨p,hp,h _ (fun _ h=>h)⟩
theorem wcond {c:Operand} {a b:Code} (t:Bool) (hc:opv σ c = .d (.v (.bool t))) (h1:t=true->AWp C a i Q σ) (h2:t=false->AWp C b i Q σ):AWp C (.cond c a b) i Q σ:=⟨t,hc,h1,h2⟩
theorem wloopWW {c:Code} {α:Type} (S:α->St) (J:α->Prop) (μ:α->Nat) (x0:α) (l0:List Wk) (h0:wkAll l0 (norm C (aget [] C.lp i) σ)=some (S x0)) (hJ:J x0)
  (h:∀ x,J x->∀ K:St->Prop,(∀ y,J y->μ y < μ x->K (S y))->AWp C c i (AEx.seq (fun σ'=>∃ l σ1,wkAll l (norm C (aget [] C.lp i) σ')=some σ1/\K σ1) Q) (S x)):AWp C (.loop c) i Q σ:=by
 have hex:∀ τ:St,(∃ x,J x/\τ=S x)->∃ k,(∃ x,J x/\τ=S x/\μ x=k):=fun τ ⟨x,h1,h2⟩=>⟨_,x,h1,h2,rfl⟩
 classical
 let μ':St->Nat:=fun τ=>if h:∃ k,(∃ x,J x/\τ=S x/\μ x=k) then Classical.choose (least h) else 0
 refine ⟨fun τ=>∃ x,J x/\τ=S x,μ',⟨l0,S x0,h0,x0,hJ,rfl⟩,fun τ hτ=>?_⟩
 have e1:μ' τ=Classical.choose (least (hex τ hτ)):=dif_pos (hex τ hτ)
 obtain ⟨⟨x,h1,h2,h3⟩,_⟩:=Classical.choose_spec (least (hex τ hτ))
 have:=h x h1 (fun ξ=>(∃ x,J x/\ξ=S x)/\μ' ξ < μ' τ) fun y hy hlt=>by
  have hy':∃ x,J x/\S y=S x:=⟨y,hy,rfl⟩
  refine ⟨hy',?_⟩
  have e2:μ' (S y)=Classical.choose (least (hex (S y) hy')):=dif_pos (hex (S y) hy')
  rw [e1,e2]
  have:=(Classical.choose_spec (least (hex (S y) hy'))).2 (μ y) ⟨y,hy,rfl,rfl⟩
  omega
 rw [h2]
 rw [h2] at this
 exact this
theorem wloopB {c:Code} {α:Type} (S:α->St) (J:α->Prop) (μ:α->Nat) (x0:α) (l0:List Wk) (h0:wkAll l0 (norm C (aget [] C.lp i) σ)=some (S x0)) (hJ:J x0)
  (h:∀ x,J x->∀ K:St->Prop,(∀ l τ y,wkAll l τ=some (S y)->J y->μ y < μ x->K τ)->AWp C c i (AEx.seq (fun σ'=>K (norm C (aget [] C.lp i) σ')) Q) (S x)):AWp C (.loop c) i Q σ:=
 wloopWW S J μ x0 l0 h0 hJ fun x hx K hK=>h x hx (fun τ=>∃ l σ1,wkAll l τ=some σ1/\K σ1) fun l τ y hl hy hlt=>⟨l,_,hl,hK y hy hlt⟩
theorem wloopW {c:Code} {α:Type} (S:α->St) (J:α->Prop) (μ:α->Nat) (x0:α) (l0:List Wk) (h0:wkAll l0 (norm C (aget [] C.lp i) σ)=some (S x0)) (hJ:J x0)
  (h:∀ x,J x->∀ K:St->Prop,(∀ y,J y->μ y < μ x->K (S y))->AWp C c i (AEx.seq (fun σ'=>K (norm C (aget [] C.lp i) σ')) Q) (S x)):AWp C (.loop c) i Q σ:=
 wloopB S J μ x0 l0 h0 hJ fun x hx K hK=>h x hx K fun y hy hlt=>hK [] _ y rfl hy hlt
theorem wloop {c:Code} {α:Type} (S:α->St) (J:α->Prop) (μ:α->Nat) (x0:α) (h0:norm C (aget [] C.lp i) σ=S x0) (hJ:J x0)
  (h:∀ x,J x->∀ K:St->Prop,(∀ y,J y->μ y < μ x->K (S y))->AWp C c i (AEx.seq (fun σ'=>K (norm C (aget [] C.lp i) σ')) Q) (S x)):AWp C (.loop c) i Q σ:=
 wloopW S J μ x0 [] (by rw [h0];rfl) hJ h
end
theorem ofL_nil (t:Nat):ofL [] t = .dead:=rfl
theorem ofL_cons (i:Nat) (f:FV) (r:List (Nat×FV)) (t:Nat):ofL ((i,f) :: r) t=if i=t then f else ofL r t:=rfl
theorem ofR_nil (t:Rn):ofR [] t=none:=rfl
theorem ofR_cons (i:Rn) (f:D) (r:List (Rn×D)) (t:Rn):ofR ((i,f) :: r) t=if i=t then some f else ofR r t:=rfl
theorem ofRO_nil (t:Rn):ofRO [] t=none:=rfl
theorem ofRO_cons (i:Rn) (f:Option D) (r:List (Rn×Option D)) (t:Rn):ofRO ((i,f) :: r) t=if i=t then f else ofRO r t:=rfl
theorem upd_at {α:Type} (e:Nat->α) (t:Nat) (f:α) (s:Nat):upd e t f s=if s=t then f else e s:=rfl
theorem root_env (σ:St) (r:Rn) (d:D):(σ.root r d).env=σ.env:=rfl
theorem root_rts (σ:St) (r:Rn) (d:D) (q:Rn):(σ.root r d).rts q=if q=r then some d else σ.rts q:=rfl
theorem wrapOk {x:Int} (h0:-9223372036854775808<=x) (h1:x < 9223372036854775808):IntKind.i64.wrap x=x:=by
 rw [IntKind.wrap_i64]
 omega
theorem get_ints (xs:List Int) (i:Nat) (h:i < xs.length):(ints xs)[i]? = some (D.int xs[i]):=by simp [ints,h]
theorem getElem_ints (xs:List Int) (i:Nat) (h:i < (ints xs).length):(ints xs)[i]=D.int (xs[i]'(by simpa [ints] using h)):=by simp [ints]
theorem length_ints (xs:List Int):(ints xs).length=xs.length:=by simp [ints]
theorem ints_append (xs ys:List Int):ints xs ++ ints ys=ints (xs ++ ys):=by simp [ints]
theorem ints_set (xs:List Int) (i:Nat) (x:Int):(ints xs).set i (D.v (.int .i64 x))=ints (xs.set i x):=by
 unfold ints
 rw [List.map_set]
theorem ints_take (xs:List Int) (i:Nat):(ints xs).take i=ints (xs.take i):=by simp [ints,List.map_take]
theorem ints_drop (xs:List Int) (i:Nat):(ints xs).drop i=ints (xs.drop i):=by simp [ints,List.map_drop]
theorem leafL_ints:∀ (xs:List Int),leafL (ints xs)
 | []=>trivial
 | x :: xs=>⟨rfl,leafL_ints xs⟩
theorem noShL_ints:∀ (xs:List Int),noShL (ints xs)
 | []=>trivial
 | x :: xs=>⟨trivial,noShL_ints xs⟩
theorem shareL_ints:∀ (xs:List Int),shareL (ints xs)=ints xs
 | []=>rfl
 | x :: xs=>by
  have:=shareL_ints xs
  simp only [ints,List.map_cons,shareL,share] at this ⊢
  rw [this]
theorem zeros_ints:∀ n:Nat,zerosD [.int .i64 0] n=ints (List.replicate n 0)
 | 0=>rfl
 | n+1=>by
  simp only [zerosD,zeros_ints n,List.replicate_succ]
  rfl
end Go.Proofs.YtbhkonnakkhibaaGreat.Ab
namespace Go.Proofs.YtbhkonnakkhibaaGreat.Ab
open Go
def rows {α:Type} (f:α->List D):List α->List D
 | []=>[]
 | x :: xs=>f x ++ rows f xs
section
variable {α:Type} {f:α->List D} {k:Nat}
theorem rows_append (xs ys:List α):rows f (xs ++ ys)=rows f xs ++ rows f ys:=by
 induction xs with
 | nil=>rfl
 | cons x xs ih=>simp [rows,ih]
theorem rows_length (hk:∀ x,(f x).length=k) (xs:List α):(rows f xs).length=k*xs.length:=by
 induction xs with
 | nil=>rfl
 | cons x xs ih=>simp only [rows,List.length_append,hk,ih,List.length_cons,Nat.mul_add,Nat.mul_one];omega
theorem rows_get (hk:∀ x,(f x).length=k):∀ (xs:List α) (i j:Nat) (h:i < xs.length),j < k->(rows f xs)[k*i+j]? = (f xs[i])[j]?
 | [],i,j,h,_=>by simp at h
 | x :: xs,0,j,h,hj=>by
  simp only [rows,Nat.mul_zero,Nat.zero_add,List.getElem_cons_zero]
  rw [List.getElem?_append_left (by rw [hk];exact hj)]
 | x :: xs,i+1,j,h,hj=>by
  simp only [rows,List.getElem_cons_succ]
  rw [List.getElem?_append_right (by rw [hk,Nat.mul_add];omega),hk,show k*(i+1)+j - k=k*i+j by rw [Nat.mul_add];omega]
  exact rows_get hk xs i j (by simpa using h) hj
theorem rows_take (hk:∀ x,(f x).length=k):∀ (xs:List α) (i:Nat),(rows f xs).take (k*i)=rows f (xs.take i)
 | [],i=>by simp [rows]
 | x :: xs,0=>by simp [rows]
 | x :: xs,i+1=>by
  simp only [rows,List.take_succ_cons]
  rw [List.take_append,List.take_of_length_le (by rw [hk,Nat.mul_add];omega),hk,show k*(i+1) - k=k*i by rw [Nat.mul_add];omega,rows_take hk xs i]
theorem rows_set (hk:∀ x,(f x).length=k):∀ (xs:List α) (i j:Nat) (d:D) (y:α) (h:i < xs.length),j < k->f y=(f xs[i]).set j d->(rows f xs).set (k*i+j) d=rows f (xs.set i y)
 | [],i,j,d,y,h,_,_=>by simp at h
 | x :: xs,0,j,d,y,h,hj,e=>by
  simp only [rows,Nat.mul_zero,Nat.zero_add,List.set_cons_zero,List.getElem_cons_zero] at e ⊢
  rw [List.set_append_left _ _ (by rw [hk];exact hj),e]
 | x :: xs,i+1,j,d,y,h,hj,e=>by
  simp only [rows,List.set_cons_succ,List.getElem_cons_succ] at e ⊢
  rw [List.set_append_right _ _ (by rw [hk,Nat.mul_add];omega),hk,show k*(i+1)+j - k=k*i+j by rw [Nat.mul_add];omega,rows_set hk xs i j d y (by simpa using h) hj e]
theorem shareL_append (a b:List D):shareL (a ++ b)=shareL a ++ shareL b:=by
 induction a with
 | nil=>rfl
 | cons x a ih=>simp [shareL,ih]
theorem rows_share (xs:List α):shareL (rows f xs)=rows (fun x=>shareL (f x)) xs:=by
 induction xs with
 | nil=>rfl
 | cons x xs ih=>simp [rows,shareL_append,ih]
theorem noShL_append {a b:List D} (ha:noShL a) (hb:noShL b):noShL (a ++ b):=by
 induction a with
 | nil=>exact hb
 | cons x a ih=>exact ⟨ha.1,ih ha.2⟩
theorem rows_noSh (hf:∀ x,noShL (f x)) (xs:List α):noShL (rows f xs):=by
 induction xs with
 | nil=>trivial
 | cons x xs ih=>exact noShL_append (hf x) ih
end
end Go.Proofs.YtbhkonnakkhibaaGreat.Ab
namespace Go.Proofs.YtbhkonnakkhibaaGreat.Ab
open Go
def Back (σ:St) (ios:List Io) (outs:List D) (dst:Option Nat) (res:List RV) (K:St->Prop):Prop:=
 match putOuts σ ios outs with
 | some σ1=>(match dst with
  | some d=>(match unpackR d σ1 0 res with
   | some (fs,σ2,_)=>K { σ2 with env:=upd σ2.env d (resFV fs) }
   | none=>False)
  | none=>K σ1)
 | none=>False
def CallsTo (P:Program) (f:Nat) (args:List FV) (lent:List Rn) (ios:List Io) (dst:Option Nat) (σ:St) (K:St->Prop):Prop:=
 ∃ pure Q,ACalls P f args (ios.map fun io=>(io.name,io.d)) pure Q/\(pure=true\/lent=[])/\∀ outs res,Q outs res->Back σ ios outs dst res K
theorem callTo_eq (C:Ctx) (f:Nat) (fvs:List FV) (dst:Option Nat) (σ:St) (K:St->Prop):callTo C f fvs dst σ K=(match passL σ 0 (aget [] C.M f) fvs with
 | some (args,lent,ios)=>((ios.map (·.r)).Nodup/\(ios.map (·.name)).Nodup)/\(∀ r∈ios.map (·.r),r ∉ lent)/\CallsTo C.P f args lent ios dst σ K
 | none=>False):=rfl
theorem wcall {P:Program} {f:Nat} {args args':List FV} {lent:List Rn} {ios:List Io} {dst:Option Nat} {σ:St} {K:St->Prop} {ros:List (Rn×D)} {pure:Bool} {Q:List D->List RV->Prop}
  (h:ACalls P f args' ros pure Q) (ha:args=args') (hr:(ios.map fun io=>(io.name,io.d))=ros) (hp:pure=true\/lent=[]) (hk:∀ outs res,Q outs res->Back σ ios outs dst res K):CallsTo P f args lent ios dst σ K:=
 ⟨pure,Q,by rw [hr,ha];exact h,hp,hk⟩
theorem wcall1 {P:Program} {f:Nat} {args args':List FV} {lent:List Rn} {ios:List Io} {dst:Option Nat} {σ:St} {K:St->Prop} {ros:List (Rn×D)} {os:List D} {rs:List RV}
  (h:ACalls P f args' ros true (fun outs res=>outs=os/\res=rs)) (ha:args=args') (hr:(ios.map fun io=>(io.name,io.d))=ros) (hk:Back σ ios os dst rs K):CallsTo P f args lent ios dst σ K:=
 wcall h ha hr (.inl rfl) fun outs res ⟨h1,h2⟩=>by rw [h1,h2];exact hk
theorem AOpG_eq (C:Ctx) (ops:Array Oper) (o:Oper) (σ:St) (K:St->Prop):AOpG C ops o σ K↔(match o.guard with
 | none=>AOp C o σ K
 | some (j,want)=>(match (ops[j]?).bind (·.dst) with
  | some t=>(match σ.env t with
   | .d (.v (.bool b))=>if b=want then AOp C o σ K else K (σ.set o.dst (.tu []))
   | .tu []=>K (σ.set o.dst (.tu []))
   | _=>False)
  | none=>False)):=by
 unfold AOpG
 rcases o.guard with _ | ⟨j,want⟩
 ·exact Iff.rfl
 ·simp only
  rcases (ops[j]?).bind (·.dst) with _ | t
  ·exact Iff.rfl
  ·simp only
   generalize σ.env t=f
   split
   ·rename_i b
    by_cases h:b=want <;> simp [h]
   ·exact Iff.rfl
   ·rename_i h h'
    split
    ·exact absurd rfl (h _)
    ·exact absurd rfl h'
    ·exact Iff.rfl
theorem takeCells_self (k n:Nat) (cs:List D):takeCells k n n cs=cs:=if_pos rfl
attribute [simp] fbB frzB okAtom pickF
attribute [simp ↓] AFb AFz AFrz AFrS ASlice ACut
attribute [simp] leafFs shiftInt fieldV
attribute [simp ↓] AOps AOpG_eq AOp silK ABuiltin ARun ARunL callTo_eq AAlloc ABox ABuildSlice AMake AMapUpd ARange ANext AAppend ACopy ADelete AStore ANil
attribute [simp] u8s sil silCall isNilC opv constFV aget norm normWith names addNames watchers ofL_nil ofL_cons upd_at St.set FV.roots FV.rootsL FV.ren FV.renL ofRO_nil ofRO_cons lenF binF binInt bitsV
attribute [simp] indexF tsize addOff loadF pickL isAggK renR AEx.seq AEx.block cellFV argL watchL wFV ofR_nil ofR_cons endQ endK resVals FV.whole D.leaf exportN exportD pend unpend atomsL FV.atoms groupR noShR noShL noSh Value.oneCell'
attribute [simp] St.kOf St.nOf St.obj look St.storeL St.store1 St.absorb St.put putAt D.cells? D.setCells D.quiet FV.isLeaf root_env root_rts getElem_ints length_ints leafL_ints noShL_ints shareL_ints ints_set ints_append ints_take ints_drop
attribute [simp] wk1 wkAll isNil0
attribute [simp] nilIs fieldOff fieldPl sliceF boundsF isZero buildF fillF setAtoms mapIdx2 keyInts appSrc appNew takeCells_self St.take St.kill St.killBelow FV.under FV.underL FV.deep FV.deepL belowB isPre stripP Mv.place FV.move FV.moveL
attribute [simp] Back passL viewFV viewL ioAtom ioL ioFV putOuts unpackD unpackL unpackR resFV share shareL leafL solidL D.solid FV.rootIs St.dropIt St.setIt FV.notIt FV.hasIt FV.hasItL zerosD goneL
end Go.Proofs.YtbhkonnakkhibaaGreat.Ab
namespace Go.Proofs.YtbhkonnakkhibaaGreat.Ab
open Go
def AOpsI (C:Ctx) (ops:Array Oper):List Nat->St->(St->Prop)->Prop
 | [],σ,K=>K σ
 | i :: r,σ,K=>match ops[i]? with
  | some o=>AOpG C ops o σ fun σ'=>AOpsI C ops r σ' K
  | none=>False
attribute [simp ↓] AOpsI
theorem AOpsI_append (C:Ctx) (ops:Array Oper) (K:St->Prop):∀ (is js:List Nat) (σ:St),AOpsI C ops (is ++ js) σ K=AOpsI C ops is σ fun σ'=>AOpsI C ops js σ' K
 | [],js,σ=>rfl
 | i :: is,js,σ=>by
  simp only [List.cons_append,AOpsI]
  have:(fun σ'=>AOpsI C ops (is ++ js) σ' K)=fun σ'=>AOpsI C ops is σ' fun σ''=>AOpsI C ops js σ'' K:=funext fun σ'=>AOpsI_append C ops K is js σ'
  rw [this]
theorem AOpsI_range (C:Ctx) (ops:Array Oper) (K:St->Prop):∀ (m i:Nat) (σ:St),i+m=ops.size->AOpsI C ops (List.range' i m) σ K=AOps C ops (ops.toList.drop i) σ K
 | 0,i,σ,h=>by
  rw [List.drop_of_length_le (by simp;omega)]
  rfl
 | m+1,i,σ,h=>by
  have hi:i < ops.toList.length:=by simp;omega
  rw [List.drop_eq_getElem_cons hi,List.range'_succ]
  have:(fun σ'=>AOpsI C ops (List.range' (i+1) m) σ' K)=fun σ'=>AOps C ops (ops.toList.drop (i+1)) σ' K:=funext fun σ'=>AOpsI_range C ops K m (i+1) σ' (by omega)
  have e:ops[i]? = some ops.toList[i]:=by
   rw [Array.getElem?_eq_getElem (by omega)]
   simp
  show (match ops[i]? with
   | some o=>AOpG C ops o σ fun σ'=>AOpsI C ops (List.range' (i+1) m) σ' K
   | none=>False)=_
  rw [e,this]
  rfl
theorem oSg {C:Ctx} {ops:Array Oper} {is js:List Nat} {σ:St} {K:St->Prop} (h:∀ K1:St->Prop,(∀ σ',AOpsI C ops js σ' K->K1 σ')->AOpsI C ops is σ K1):AOpsI C ops (is ++ js) σ K:=by
 rw [AOpsI_append]
 exact h _ fun _ h=>h
theorem oEn {C:Ctx} {ops:Array Oper} {is:List Nat} {σ:St} {K:St->Prop} (h:∀ K1:St->Prop,(∀ σ',K σ'->K1 σ')->AOpsI C ops is σ K1):AOpsI C ops is σ K:=h _ fun _ h=>h
def chainP:List (Bool×Nat)->Plan->Plan
 | [],p=>p
 | (true,i) :: r,p=>.take i (chainP r p)
 | (false,i) :: r,p=>.all [(i,chainP r p)]
theorem ARun_chain (C:Ctx) (ops:Array Oper) (p:Plan) (K:St->Prop):∀ (l:List (Bool×Nat)) (σ:St),ARun C ops (chainP l p) σ K=AOpsI C ops (l.map (·.2)) σ fun σ'=>ARun C ops p σ' K
 | [],σ=>rfl
 | (true,i) :: l,σ=>by
  simp only [chainP,ARun,List.map_cons,AOpsI]
  have:(fun σ'=>ARun C ops (chainP l p) σ' K)=fun σ'=>AOpsI C ops (l.map (·.2)) σ' fun σ''=>ARun C ops p σ'' K:=funext fun σ'=>ARun_chain C ops p K l σ'
  rw [this]
  rfl
 | (false,i) :: l,σ=>by
  simp only [chainP,ARun,ARunL,List.map_cons,AOpsI]
  have:(fun σ'=>ARun C ops (chainP l p) σ' K)=fun σ'=>AOpsI C ops (l.map (·.2)) σ' fun σ''=>ARun C ops p σ'' K:=funext fun σ'=>ARun_chain C ops p K l σ'
  rw [this,and_true]
  rfl
section
variable {C:Ctx} {i:Nat} {Q:AEx->St->Prop} {σ:St}
theorem wregI {id:Nat} {ops:Array Oper} (is:List Nat) (he:is=List.range' 0 ops.size) (h:∀ K:St->Prop,(∀ σ',Q .normal σ'->K σ')->AOpsI C ops is σ (fun σ'=>K (norm C (aget [] C.kp id) σ'))):AWp C (.region id ops false) i Q σ:=
 wreg fun K hK=>by
  have:=h K hK
  rw [he,AOpsI_range _ _ _ _ _ _ (by omega)] at this
  exact this
theorem wdrawI {id:Nat} {ops:Array Oper} (l:List (Bool×Nat)) (hp:(chainP l .done).ok C ops) (is:List Nat) (he:is=l.map (·.2)) (h:∀ K:St->Prop,(∀ σ',Q .normal σ'->K σ')->AOpsI C ops is σ (fun σ'=>K (norm C (aget [] C.kp id) σ'))):AWp C (.region id ops true) i Q σ:=
 wdraw (chainP l .done) hp fun K hK=>by
  rw [ARun_chain,<-he]
  exact h K hK
end
theorem wcondJ {C:Ctx} {i:Nat} {Q:AEx->St->Prop} {σ:St} {c:Operand} {a b:Code} (P:St->Prop) (t:Bool) (hc:opv σ c = .d (.v (.bool t))) (tail:∀ σ',P σ'->Q .normal σ')
  (h1:t=true->∀ Q':AEx->St->Prop,(∀ σ',P σ'->Q' .normal σ')->AWp C a i Q' σ) (h2:t=false->∀ Q':AEx->St->Prop,(∀ σ',P σ'->Q' .normal σ')->AWp C b i Q' σ):AWp C (.cond c a b) i Q σ:=
 ⟨t,hc,fun h=>h1 h Q tail,fun h=>h2 h Q tail⟩
def WkD (a b:D):Prop:=a=b\/(isNil0 a=true/\∃ k,b = .ow k 0 [])
def WkL:List D->List D->Prop
 | [],[]=>True
 | a :: l,b :: r=>WkD a b/\WkL l r
 | _,_=>False
def WkR:RV->RV->Prop
 | .one a,.one b=>WkD a b
 | .ag a,.ag b=>WkL a b
 | _,_=>False
def WkRs:List RV->List RV->Prop
 | [],[]=>True
 | a :: l,b :: r=>WkR a b/\WkRs l r
 | _,_=>False
section
variable {w:World} {ok:Nat->Prop}
theorem WkD.ow {a b:D} (h:WkD a b) {u:Value} {fp:List Nat} (ha:Ow w ok a u fp):Ow w ok b u fp:=by
 rcases h with rfl | ⟨h1,k,rfl⟩
 ·exact ha
 ·have hv:=isNil0_val h1 ha
  have hf:fp=[]:=by
   unfold isNil0 at h1
   split at h1
   ·simp only [Ow] at ha;exact ha.1
   ·simp only [Ow] at ha;exact ha.1
   ·simp at h1
  subst hf
  exact ow_empty k hv
theorem WkL.ow:∀ {a b:List D},WkL a b->∀ {us:List Value} {fp:List Nat},OwVs w ok a us fp->OwVs w ok b us fp
 | [],[],_,us,fp,h=>h
 | a :: l,b :: r,h,us,fp,ha=>by
  obtain ⟨u,us',f1,f2,e1,e2,h1,h2⟩:=ha
  exact ⟨u,us',f1,f2,e1,e2,h.1.ow h1,WkL.ow h.2 h2⟩
 | [],b :: r,h,_,_,_=>h.elim
 | a :: l,[],h,_,_,_=>h.elim
theorem WkR.ow:∀ {a b:RV},WkR a b->∀ {u:Value} {fp:List Nat},OwRV w ok a u fp->OwRV w ok b u fp
 | .one a,.one b,h,u,fp,ha=>WkD.ow h ha
 | .ag a,.ag b,h,u,fp,ha=>by
  obtain ⟨vs,e,h1⟩:=ha
  exact ⟨vs,e,WkL.ow h h1⟩
 | .one a,.ag b,h,_,_,_=>h.elim
 | .ag a,.one b,h,_,_,_=>h.elim
theorem WkRs.ow:∀ {a b:List RV},WkRs a b->∀ {us:List Value} {fp:List Nat},OwRs w ok a us fp->OwRs w ok b us fp
 | [],[],_,us,fp,h=>h
 | a :: l,b :: r,h,us,fp,ha=>by
  obtain ⟨u,us',f1,f2,e1,e2,h1,h2⟩:=ha
  exact ⟨u,us',f1,f2,e1,e2,WkR.ow h.1 h1,WkRs.ow h.2 h2⟩
 | [],b :: r,h,_,_,_=>h.elim
 | a :: l,[],h,_,_,_=>h.elim
end
theorem ACalls.weak {P:Program} {f:Nat} {args:List FV} {ros:List (Rn×D)} {pure:Bool} {Q Q':List D->List RV->Prop} (h:ACalls P f args ros pure Q) (hq:∀ outs res,Q outs res->∃ res',WkRs res res'/\Q' outs res'):ACalls P f args ros pure Q':=by
 refine ⟨h.1,fun w fp0 ok vs ρ φ hl hr=>(h.2 w fp0 ok vs ρ φ hl hr).mono ?_⟩
 rintro e w' ⟨v,outs,res,ok',φ',fr,he,hQ,hd⟩
 obtain ⟨res',h1,h2⟩:=hq outs res hQ
 obtain ⟨vs',e1,e2⟩:=hd.res
 exact ⟨v,outs,res',ok',φ',fr,he,h2,⟨hd.len,hd.out,hd.dis,⟨vs',e1,h1.ow e2⟩,hd.nod,hd.bl,hd.disr,hd.frm,hd.okm,hd.okn⟩⟩
theorem ACalls.weak1 {P:Program} {f:Nat} {args:List FV} {ros:List (Rn×D)} {pure:Bool} {os:List D} {rs:List RV} (h:ACalls P f args ros pure fun outs res=>outs=os/\WkRs res rs):ACalls P f args ros pure fun outs res=>outs=os/\res=rs:=
 h.weak fun outs res ⟨h1,h2⟩=>⟨rs,h2,h1,rfl⟩
attribute [simp] WkRs WkR WkL WkD isNil0
theorem nd_t {p:Prop} [Decidable p] (h:(!decide p)=true):¬ p:=by simpa using h
theorem nd_f {p:Prop} [Decidable p] (h:(!decide p)=false):p:=by simpa using h
theorem d_t {p:Prop} [Decidable p] (h:decide p=true):p:=by simpa using h
theorem d_f {p:Prop} [Decidable p] (h:decide p=false):¬ p:=by simpa using h
theorem ibeq (a b:Int):(a == b)=decide (a=b):=by
 by_cases h:a=b <;> simp [h]
theorem ibne (a b:Int):(a != b) = !decide (a=b):=by
 by_cases h:a=b <;> simp [h]
theorem wrap_nat {j:Nat} (h:j < 4611686018427387904):IntKind.i64.wrap (j:Int)=(j:Int):=wrapOk (by omega) (by omega)
section
variable {w:World} {ok:Nat->Prop} {σ:St} {ρ:Rn->Value}
end
end Go.Proofs.YtbhkonnakkhibaaGreat.Ab
namespace Go.Proofs.YtbhkonnakkhibaaGreat.Ab
open Go
structure Trm where
 e:List Int
 c:Int
deriving DecidableEq
structure Lau where
 v:Int
 ts:List Trm
deriving DecidableEq
structure Mat where
 n:Int
 r:Int
 d:List Int
deriving DecidableEq
structure Sed where
 m:Mat
 f:List Lau
deriving DecidableEq
structure Ses where
 a:Mat
 k:List Int
 s:Sed
deriving DecidableEq
abbrev shI (l:List Int):D:=.sh 1 l.length (ints l)
abbrev owI (l:List Int):D:=.ow 1 l.length (ints l)
def tS (t:Trm):List D:=[shI t.e,D.int t.c]
def tO (t:Trm):List D:=[owI t.e,D.int t.c]
def fS (f:Lau):List D:=[D.int f.v,.sh 2 f.ts.length (rows tS f.ts)]
def fO (f:Lau):List D:=[D.int f.v,.ow 2 f.ts.length (rows tO f.ts)]
def mS (m:Mat):List D:=[D.int m.n,D.int m.r,shI m.d]
def mO (m:Mat):List D:=[D.int m.n,D.int m.r,owI m.d]
def sS (s:Sed):List D:=[D.int s.m.n,D.int s.m.r,shI s.m.d,.sh 2 s.f.length (rows fS s.f)]
def sO (s:Sed):List D:=[D.int s.m.n,D.int s.m.r,owI s.m.d,.ow 2 s.f.length (rows fO s.f)]
theorem tS_two (t:Trm):(tS t).length=2:=rfl
theorem tO_two (t:Trm):(tO t).length=2:=rfl
theorem fS_two (t:Lau):(fS t).length=2:=rfl
theorem fO_two (t:Lau):(fO t).length=2:=rfl
@[simp] theorem tS_length (l:List Trm):(rows tS l).length=2*l.length:=rows_length tS_two l
@[simp] theorem tO_length (l:List Trm):(rows tO l).length=2*l.length:=rows_length tO_two l
@[simp] theorem fS_length (l:List Lau):(rows fS l).length=2*l.length:=rows_length fS_two l
@[simp] theorem fO_length (l:List Lau):(rows fO l).length=2*l.length:=rows_length fO_two l
@[simp] theorem tS_share (l:List Trm):shareL (rows tO l)=rows tS l:=by
 rw [rows_share]
 congr 1
 funext t
 simp [tO,tS,shareL,share,shareL_ints]
@[simp] theorem fS_share (l:List Lau):shareL (rows fO l)=rows fS l:=by
 rw [rows_share]
 congr 1
 funext t
 simp [fO,fS,shareL,share]
@[simp] theorem tO_noSh (l:List Trm):noShL (rows tO l):=rows_noSh (fun t=>by simp [tO,noShL,noSh,noShL_ints]) l
@[simp] theorem fO_noSh (l:List Lau):noShL (rows fO l):=rows_noSh (fun t=>by simp [fO,noShL,noSh]) l
theorem twice {α:Type} {l:List α} {i:Nat} {x:α} (h:l[i]? = some x):l[i]? = some x/\∀ h':i < l.length,l[i]'h'=x:=
 ⟨h,fun h'=>by rw [List.getElem?_eq_getElem h'] at h;injection h⟩
section
variable {l:List Trm} {g:List Lau} {i:Nat}
theorem tS_0 (h:i < l.length):(rows tS l)[2*i]? = some (shI l[i].e)/\∀ h',(rows tS l)[2*i]'h'=shI l[i].e:=twice (rows_get tS_two l i 0 h (by omega))
theorem tS_1 (h:i < l.length):(rows tS l)[2*i+1]? = some (D.int l[i].c)/\∀ h',(rows tS l)[2*i+1]'h'=D.int l[i].c:=twice (rows_get tS_two l i 1 h (by omega))
theorem fS_0 (h:i < g.length):(rows fS g)[2*i]? = some (D.int g[i].v)/\∀ h',(rows fS g)[2*i]'h'=D.int g[i].v:=twice (rows_get fS_two g i 0 h (by omega))
theorem fS_1 (h:i < g.length):(rows fS g)[2*i+1]? = some (.sh 2 g[i].ts.length (rows tS g[i].ts))/\∀ h',(rows fS g)[2*i+1]'h' = .sh 2 g[i].ts.length (rows tS g[i].ts):=twice (rows_get fS_two g i 1 h (by omega))
theorem fO_0 (h:i < g.length):(rows fO g)[2*i]? = some (D.int g[i].v)/\∀ h',(rows fO g)[2*i]'h'=D.int g[i].v:=twice (rows_get fO_two g i 0 h (by omega))
theorem fO_1 (h:i < g.length):(rows fO g)[2*i+1]? = some (.ow 2 g[i].ts.length (rows tO g[i].ts))/\∀ h',(rows fO g)[2*i+1]'h' = .ow 2 g[i].ts.length (rows tO g[i].ts):=twice (rows_get fO_two g i 1 h (by omega))
end
theorem modify_const {α:Type} (l:List α) (i:Nat) (e:α):l.modify i (fun _=>e)=l.set i e:=by
 apply List.ext_getElem?
 intro j
 rw [List.getElem?_modify,List.getElem?_set]
 split
 ·rename_i h
  subst h
  split
  ·rename_i h
   rw [List.getElem?_eq_getElem h]
   rfl
  ·rename_i h
   rw [List.getElem?_eq_none (by omega)]
   rfl
 ·simp
def marks (k:Int) (n:Nat):List Int:=(List.range n).map fun (i:Nat)=>k+(i:Int)
@[simp] theorem marks_length (k:Int) (n:Nat):(marks k n).length=n:=by simp [marks]
section
variable {α:Type} (cnt:α->Nat) (mk:α->Int->α)
def cntL:List α->Nat
 | []=>0
 | x :: xs=>cnt x+cntL xs
def mkL:List α->Int->List α
 | [],_=>[]
 | x :: xs,k=>mk x k :: mkL xs (k+cnt x)
@[simp] theorem mkL_length:∀ (l:List α) (k:Int),(mkL cnt mk l k).length=l.length
 | [],k=>rfl
 | x :: xs,k=>by simp [mkL,mkL_length xs]
end
def cntT (t:Trm):Nat:=t.e.length+1
def tZ:Option Trm->List D
 | none=>[.v (.slice none 0 0),D.int 0]
 | some t=>tO t
theorem tZ_two (t:Option Trm):(tZ t).length=2:=by cases t <;> rfl
@[simp] theorem tZ_length (l:List (Option Trm)):(rows tZ l).length=2*l.length:=rows_length tZ_two l
theorem rows_set2 {α:Type} {f:α->List D} (hk:∀ x,(f x).length=2) (xs:List α) (i:Nat) (d0 d1:D) (y:α) (h:i < xs.length) (e:f y=[d0,d1]):((rows f xs).set (2*i) d0).set (2*i+1) d1=rows f (xs.set i y):=by
 induction xs generalizing i with
 | nil=>simp at h
 | cons x xs ih=>
  cases i with
  | zero=>
   have hx:=hk x
   match hfx:f x,hx with
   | [a,b],_=>simp [rows,hfx,e]
  | succ i=>
   have hx:=hk x
   simp only [rows,List.set_cons_succ]
   rw [List.set_append_right _ _ (by rw [hx];omega),List.set_append_right _ _ (by rw [hx];omega),hx,show 2*(i+1) - 2=2*i by omega,show 2*(i+1)+1 - 2=2*i+1 by omega,ih i (by simpa using h)]
theorem fO_set2 {l:List Lau} {i n:Nat} (h:i < l.length) (v:Int) (t:List Trm) (hn:t.length=n):((rows fO l).set (2*i) (.v (.int .i64 v))).set (2*i+1) (.ow 2 n (rows tO t))=rows fO (l.set i ⟨v,t⟩):=
 rows_set2 fO_two l i _ _ _ h (by subst hn;rfl)
theorem tO_snoc (l:List Trm) (t:Trm):rows tO l ++ [D.ow 1 t.e.length (ints t.e),D.v (.int .i64 t.c)]=rows tO (l ++ [t]):=by
 rw [rows_append]
 rfl
end Go.Proofs.YtbhkonnakkhibaaGreat.Ab
namespace Go.Proofs.YtbhkonnakkhibaaGreat.Ab
open Go Go.ChangeShapes Go.WideShapes Go.ChangeAt Go.RowKit
structure Old (w w':World):Prop where
 os:w'.os=w.os
 out:w'.output=w.output
 size:w.heap.size<=w'.heap.size
 blk:∀ b,b < w.heap.size->w'.heap[b]? = w.heap[b]?
theorem Old.kept {w w':World} (h:Old w w') (may:MemPlace->Prop):w.keptBut w' may:=by
 refine ⟨h.os,h.out,fun i hi=>?_⟩
 rw [h.blk i hi]
 cases hh:w.heap[i]? with
 | none=>rfl
 | some o=>
  cases o with
  | cells c t fr=>exact ⟨rfl,rfl,rfl,fun _ _=>rfl⟩
  | map es cl=>exact .inr ⟨rfl,rfl⟩
  | _=>rfl
theorem Old.froz {w w':World} (h:Old w w') (a:Addr) (ha:a.block < w.heap.size):w'.frozen? a=w.frozen? a:=by
 unfold World.frozen?
 rw [h.blk a.block ha]
variable {H:Type} {enc:TypeId×Value->H} {P:Program}
theorem post_of_old {f:Func} {s:ChangeSpec} {apart fresh handsOn again:Bool} {W W':World} {args:Array Value} {v:Value} {ds gs:List (DataW H)} {before pa pv:List MemPlace}
  (hW:DataW.Whole enc P f.params.toList s.vars apart W args.toList ds gs before)
  (hres:∀ (b:Nat) (sp:Nat->Bool) (hd:Bool),DataW.TrodAll enc P W' b sp hd f.resultTypes.toList (v.resultList f.resultTypes.size) (s.fn H (ds ++ gs)).results [])
  (hargs:∀ sp:Nat->Bool,(∀ p∈before,sp p.block=true)->DataW.TrodAll enc P W' 0 sp true f.params.toList args.toList (s.fn H (ds ++ gs)).args pa)
  (hvars:∀ sp:Nat->Bool,(∀ p∈before,sp p.block=true)->DataW.TrodVars enc P W' sp s.vars (s.fn H (ds ++ gs)).vars pv)
  (hps:before=pa ++ pv) (ho:Old W W')
  (hok:∀ (j:Nat) (t:TypeId) (r:Value),f.resultTypes[j]? = some t->(v.resultList f.resultTypes.size)[j]? = some r->Value.okWide P W' .any 0 t r) :
  s.post enc P f apart fresh handsOn again W args v W':=by
 have hlt:∀ p∈before,p.block < W.heap.size:=fun p hp=>hW.lt p hp
 have hsp:∀ p∈before,(fun b=>decide (b < W.heap.size)) p.block=true:=fun p hp=>decide_eq_true (hlt p hp)
 have hall:∀ p∈before,(fun _:Nat=>true) p.block=true:=fun _ _=>rfl
 have happ:[] ++ pa ++ pv=before:=by rw [hps];rfl
 refine ⟨ds,gs,before,[],pa,pv,hW,hres _ _ _,hargs _ hsp,hvars _ hsp,ho.kept _,fun _=>⟨hok,_,_,[] ++ pa ++ pv,⟨[] ++ pa,pv,trodAll_append (hargs _ hall) (hres _ _ _),hvars _ hall,rfl,?_,?_⟩,?_⟩⟩
 ·obtain ⟨_,_,_,_,_,hz,hn⟩:=hW
  intro b off hp
  rw [happ] at hp
  rw [ho.froz _ (hlt _ hp)]
  exact hz b off hp
 ·obtain ⟨_,_,_,_,_,hz,hn⟩:=hW
  intro ha
  rw [happ]
  exact hn ha
 ·intro p hp _
  rw [happ] at hp
  exact hp
end Go.Proofs.YtbhkonnakkhibaaGreat.Ab
namespace Go.Proofs.YtbhkonnakkhibaaGreat.Ab
open Go Go.ChangeShapes Go.WideShapes Go.ChangeAt Go.RowKit
def oldOk (W:World):Nat->Prop:=fun b=>b < W.heap.size
theorem old_of_cell {W:World} {a:Addr} {v:Value} (h:W.cell? a=some v):oldOk W a.block:=by
 unfold World.cell? at h
 split at h
 ·rename_i hh
  unfold oldOk
  rcases Nat.lt_or_ge a.block W.heap.size with h1 | h1
  ·exact h1
  ·rw [Array.getElem?_eq_none (by omega)] at hh;simp at hh
 ·simp at h
theorem ShV_ShL {w:World} {ok:Nat->Prop} {b:Nat}:∀ {ds:List D} {us:List Value} {o:Nat},ShV w ok ds us->(∀ (j:Nat) (v:Value),us[j]? = some v->w.cell? ⟨b,o+j,none⟩ = some v)->ShL w ok b ds o
 | [],us,o,h,_=>by simp [ShL]
 | d :: ds,us,o,h,hc=>by
  simp only [ShV] at h
  obtain ⟨u,us',rfl,h1,h2⟩:=h
  simp only [ShL]
  refine ⟨⟨u,by simpa using hc 0 u rfl,h1⟩,ShV_ShL h2 fun j v hj=>?_⟩
  have:=hc (j+1) v (by simpa using hj)
  rwa [show o+1+j=o+(j+1) by omega]
theorem ShL_cat {w:World} {ok:Nat->Prop} {b:Nat}:∀ {ds es:List D} {o:Nat},ShL w ok b ds o->ShL w ok b es (o+ds.length)->ShL w ok b (ds ++ es) o
 | [],es,o,_,k=>by simpa using k
 | d :: ds,es,o,h,k=>by
  simp only [ShL] at h
  simp only [List.cons_append,ShL]
  refine ⟨h.1,ShL_cat h.2 ?_⟩
  simp only [List.length_cons] at k
  rwa [show o+1+ds.length=o+(ds.length+1) by omega]
theorem rows_ShL {w:World} {ok:Nat->Prop} {b k:Nat} {α:Type} {f:α->List D} (hk:∀ x,(f x).length=k):∀ (l:List α) (o:Nat),(∀ i (h:i < l.length),ShL w ok b (f l[i]) (o+i*k))->ShL w ok b (rows f l) o
 | [],o,_=>by simp [rows,ShL]
 | x :: l,o,h=>by
  simp only [rows]
  refine ShL_cat (by have:=h 0 (by simp);simp only [List.getElem_cons_zero,Nat.zero_mul,Nat.add_zero] at this;exact this) ?_
  rw [hk]
  refine rows_ShL hk l (o+k) fun i hi=>?_
  have:=h (i+1) (by simpa using hi)
  simp only [List.getElem_cons_succ] at this
  rwa [show o+k+i*k=o+(i+1)*k by rw [Nat.add_mul,Nat.one_mul];omega]
section
variable {H:Type} {enc:TypeId×Value->H} {P:Program} {W:World}
structure Opens (enc:TypeId×Value->H) (P:Program) (W:World) (t k:Nat) (α:Type) (f:α->List D) (G:α->Prop):Prop where
 cells:P.cellsOf t=k
 len:∀ a,(f a).length=k
 op:∀ (fuel:Nat) (cs:List Value) (x:DataW H×List MemPlace),DataW.trod enc P W 0 (fun _=>true) true fuel t cs=some x->(∀ n∈x.1.weights P t,n<=reachBytes)->∃ a:α,G a/\ShV W (oldOk W) (f a) cs
theorem Opens.to {t k:Nat} {α β:Type} {f:α->List D} {G:α->Prop} (h:Opens enc P W t k α f G) (g:α->β) {f':β->List D} {G':β->Prop} (hf:∀ a,f' (g a)=f a) (hl:∀ b,(f' b).length=k) (hG:∀ a,G a->G' (g a)):Opens enc P W t k β f' G':=
 ⟨h.cells,hl,fun fuel cs x hx hw=>by
  obtain ⟨a,h1,h2⟩:=h.op fuel cs x hx hw
  exact ⟨g a,hG a h1,by rw [hf];exact h2⟩⟩
theorem Opens.byte {t:Nat} (ht:P.underlying t=some (.int .u8)) (hc:P.cellsOf t=1):Opens enc P W t 1 Int (fun n=>[.v (.int .u8 n)]) (fun n=>0<=n/\n<=255):=
 ⟨hc,fun _=>rfl,fun fuel cs x hx _=>by
  obtain ⟨n,rfl,rfl,hw⟩:=DataW.trod_int ht hx
  exact ⟨n,bounds_u8 hw,by simp [ShV,Sh]⟩⟩
theorem mem_weightsAll {e:Nat}:∀ {l:List (DataW H)} {d:DataW H},d∈l->∀ n∈d.weights P e,n∈DataW.weightsAll P e l
 | x :: l,d,hd,n,hn=>by
  simp only [DataW.weightsAll,List.mem_append]
  rcases List.mem_cons.1 hd with rfl | hd
  ·exact .inl hn
  ·exact .inr (mem_weightsAll hd n hn)
theorem cells_get {a:Addr} {k:Nat} {cs:List Value} (h:W.cells? 0 a k=some cs):cs.length=k/\∀ (j:Nat) (v:Value),cs[j]? = some v->W.cell? (a.add j)=some v:=by
 unfold World.cells? at h
 rw [if_pos (Nat.zero_le _)] at h
 have hl:=mapM_some_length h
 simp only [List.length_range] at hl
 refine ⟨hl,fun j v hj=>?_⟩
 have hj2:j < k:=by
  rw [<-hl]
  rcases Nat.lt_or_ge j cs.length with h1 | h1
  ·exact h1
  ·rw [List.getElem?_eq_none h1] at hj;simp at hj
 have:=mapM_some_get h j j (by simp [hj2])
 rw [this,hj]
theorem Opens.slice {t e k bs:Nat} {α:Type} {f:α->List D} {G:α->Prop} (h:Opens enc P W e k α f G) (hk0:0 < k) (ht:P.underlying t=some (.slice e)) (hc:P.cellsOf t=1) (hb:P.bytesOf e=bs) :
  Opens enc P W t 1 (List α) (fun l=>[.sh k l.length (rows f l)]) (fun l=>(∀ x∈l,G x)/\l.length*bs<=140737488351232):=
 ⟨hc,fun _=>rfl,fun fuel cs x hx hw=>by
  rcases DataW.trod_slice ht hx with ⟨rfl,rfl⟩ | ⟨a,len,cap,elems,rest,n,rfl,rfl,rfl,hb0,hlc,hcm,hel,hget,_,_⟩
  ·exact ⟨[],by simp,by simp [ShV,Sh,rows]⟩
  ·have hwt:(elems.length+rest.length)*bs<=140737488351232:=by
    have:=hw ((elems.length+rest.length)*bs) (by simp [DataW.weights,ht,hb])
    simpa [reachBytes] using this
   have hwe:∀ y∈elems,∀ n∈y.1.weights P e,n<=reachBytes:=fun y hy n hn=>by
    refine hw n ?_
    simp only [DataW.weights,ht,List.mem_cons,List.mem_append]
    exact .inr (.inl (mem_weightsAll (List.mem_map.2 ⟨y,hy,rfl⟩) n hn))
   have key:∀ i:Fin len,∃ y:α,G y/\∃ cs,W.cells? 0 (a.add (i.1*k)) k=some cs/\ShV W (oldOk W) (f y) cs:=fun i=>by
    have h1:=hget i.1 i.2
    rw [h.cells] at h1
    have h2:i.1 < elems.length:=by rw [hel];exact i.2
    rw [List.getElem?_eq_getElem h2,Option.bind_eq_some_iff] at h1
    obtain ⟨cs,h3,h4⟩:=h1
    obtain ⟨y,h5,h6⟩:=h.op n cs _ h4 (hwe _ (List.getElem_mem h2))
    exact ⟨y,h5,cs,h3,h6⟩
   let l:List α:=List.ofFn fun i:Fin len=>Classical.choose (key i)
   have hll:l.length=len:=by simp [l]
   have hlg:∀ i (hi:i < l.length),G l[i]/\∃ cs,W.cells? 0 (a.add (i*k)) k=some cs/\ShV W (oldOk W) (f l[i]) cs:=fun i hi=>by
    have:=Classical.choose_spec (key ⟨i,by omega⟩)
    simpa [l] using this
   refine ⟨l,⟨fun x hx=>?_,?_⟩,?_⟩
   ·obtain ⟨i,hi,rfl⟩:=List.getElem_of_mem hx
    exact (hlg i hi).1
   ·rw [hll]
    rw [hel] at hwt
    exact Nat.le_trans (Nat.mul_le_mul_right _ (by omega)) hwt
   ·simp only [ShV,Sh]
    refine ⟨_,[],rfl,⟨some a,cap,by rw [hll],by omega,rows_length h.len l,?_⟩,rfl⟩
    rcases Nat.eq_zero_or_pos l.length with hz | hp
    ·left
     rw [List.eq_nil_of_length_eq_zero hz]
     rfl
    ·right
     obtain ⟨_,cs0,hc0,_⟩:=hlg 0 hp
     obtain ⟨hl0,hg0⟩:=cells_get hc0
     have h00:cs0[0]? = some (cs0[0]'(by omega)):=List.getElem?_eq_getElem _
     have hfirst:=hg0 0 _ h00
     have hspot:a.spot=none:=by
      have:=World.cell?_spot hfirst
      simpa [Addr.add] using this
     have hold:=old_of_cell hfirst
     obtain ⟨b,off,spot⟩:=a
     simp only at hspot
     subst hspot
     refine ⟨b,off,rfl,by simpa [Addr.add] using hold,rows_ShL h.len l off fun i hi=>?_⟩
     obtain ⟨_,csi,hci,hsi⟩:=hlg i hi
     refine ShV_ShL hsi fun j v hj=>?_
     have:=(cells_get hci).2 j v hj
     rwa [Go.WideShapes.add_plain,Go.WideShapes.add_plain] at this⟩
structure Arg (enc:TypeId×Value->H) (P:Program) (W:World) (t:Nat) (α:Type) (F:α->FV) (G:α->Prop):Prop where
 rec_:P.readableRec t=true
 row:t < P.types.size
 op:∀ (base:Nat) (v:Value) (d:DataW H) (p:List MemPlace),Value.okWide P W .any base t v->DataW.Trod enc P W 0 (fun _=>true) true t v d p->(∀ n∈d.weights P t,n<=reachBytes)->∃ a:α,G a/\∀ (σ:St) (ρ:Rn->Value),FR W (oldOk W) σ ρ (F a) v
def plainT (P:Program) (t:TypeId):Bool:=
 match P.underlying t with
 | some (.int _)=>true
 | some .bool=>true
 | some .string=>true
 | some (.slice _)=>true
 | _=>false
theorem plain_cells {t:TypeId} {base:Nat} {v:Value} (h:plainT P t=true) (hv:Value.okWide P W .any base t v):v.cells = #[v]:=by
 unfold plainT at h
 unfold Value.okWide Cell.okWide Cell.ok at hv
 cases v <;> first | rfl | (split at h <;> simp_all)
theorem Arg.one {t:Nat} {α:Type} {f:α->D} {G:α->Prop} (h:Opens enc P W t 1 α (fun a=>[f a]) G) (hr:P.readableRec t=true) (hrow:t < P.types.size) (hp:plainT P t=true):Arg enc P W t α (fun a=>.d (f a)) G:=
 ⟨hr,hrow,fun base' v d p ho hd hw=>by
  obtain ⟨fuel,hx⟩:=hd
  obtain ⟨a,h1,h2⟩:=h.op fuel _ _ hx hw
  refine ⟨a,h1,fun σ ρ=>?_⟩
  rw [plain_cells hp ho] at h2
  simp only [ShV,List.cons.injEq] at h2
  obtain ⟨u,us,⟨rfl,rfl⟩,h3,_⟩:=h2
  simpa only [FR] using h3⟩
theorem lawW {f:Nat} {args:List FV} (h:ACalls P f args [] true (fun outs res=>outs=[]/\res=[.one (D.bool true)])) {vs:List Value} (hv:∀ (σ:St) (ρ:Rn->Value),FRL W (oldOk W) σ ρ args vs) :
  Calls P f vs.toArray W fun e w'=>e = .returned (.bool true)/\Below W.heap.size W w':=by
 have hlen:∀ {σ:St} {ρ:Rn->Value} {aas:List FV} {us:List Value},FRL W (oldOk W) σ ρ aas us->us.length=aas.length/\∀ t,FR W (oldOk W) σ ρ (argEnv aas t) (us.getD t undef):=by
  intro σ ρ aas
  induction aas with
  | nil=>
   intro us h
   simp only [FRL] at h
   subst h
   exact ⟨rfl,fun t=>by simp [argEnv,FR]⟩
  | cons a aas ih=>
   intro us h
   simp only [FRL] at h
   obtain ⟨u,vs,rfl,h1,h2⟩:=h
   obtain ⟨h3,h4⟩:=ih h2
   refine ⟨by simp [h3],fun t=>?_⟩
   cases t with
   | zero=>simpa [argEnv] using h1
   | succ t=>simpa [argEnv] using h4 t
 have:=h.2 W [] (oldOk W) vs (fun _=>undef) (fun _=>[]) (hlen (hv ⟨fun _=>.dead,fun _=>none⟩ (fun _=>undef))).1 ⟨fun r d hd=>by simp [ofR] at hd,fun r r' d d' _ hd=>by simp [ofR] at hd,(hlen (hv _ _)).2,fun b hb=>hb,Keeps.refl W []⟩
 refine Calls.mono this ?_
 rintro e w' ⟨v,outs,res,ok',φ',fr,rfl,⟨rfl,rfl⟩,hd⟩
 obtain ⟨vs,e1,e2⟩:=hd.res
 simp only [OwRs,OwRV,if_true] at e2
 obtain ⟨u,us,f1,f2,rfl,_,h1,h2,_⟩:=e2
 subst h2
 simp only [Ow] at h1
 refine ⟨?_,hd.frm.os,hd.frm.tape,hd.frm.out,hd.frm.size,fun b hb=>hd.frm.old b hb (by simp)⟩
 rw [e1,h1.2]
 rfl
theorem trodAll_stays (hl:laidOutB P=true) {W':World} (hb:Below W.heap.size W W') {sp:Nat->Bool}:∀ {ts:List TypeId} {vs:List Value} {ds:List (DataW H)} {p:List MemPlace},(∀ t∈ts,P.readableRec t=true/\t < P.types.size) ->
  DataW.TrodAll enc P W 0 (fun _=>true) true ts vs ds p->(∀ x∈p,x.block < W.heap.size)->(∀ x∈p,sp x.block=true)->DataW.TrodAll enc P W' 0 sp true ts vs ds p
 | [],[],[],p,_,h,_,_=>h
 | t :: ts,v :: vs,d :: ds,p,ht,h,h1,h2=>by
  obtain ⟨p1,p2,h3,h4,rfl⟩:=h
  have h5:=ht t (by simp)
  refine ⟨p1,p2,WideElems.Trod_stays hl h5.1 h5.2 h3 (fun x hx=>hb.same (h1 x (by simp [hx]))) (fun x hx=>h2 x (by simp [hx])),trodAll_stays hl hb (fun t ht'=>ht t (by simp [ht'])) h4 (fun x hx=>h1 x (by simp [hx])) (fun x hx=>h2 x (by simp [hx])),rfl⟩
 | [],_ :: _,_,_,_,h,_,_=>h.elim
 | [],[],_ :: _,_,_,h,_,_=>h.elim
 | _ :: _,[],_,_,_,h,_,_=>h.elim
 | _ :: _,_ :: _,[],_,_,h,_,_=>h.elim
theorem post_of_below (hl:laidOutB P=true) {f:Func} {s:ChangeSpec} {apart fresh handsOn again:Bool} {W':World} {args:Array Value} {ds gs:List (DataW H)} {before:List MemPlace}
  (hW:DataW.Whole enc P f.params.toList s.vars apart W args.toList ds gs before) (hv0:s.vars=[]) (hts:∀ t∈f.params.toList,P.readableRec t=true/\t < P.types.size)
  (hfn:s.fn H ds = { results:=[.lit (.bool true)],args:=ds }) {tb:TypeId} (hres:f.resultTypes = #[tb]) (htb:P.underlying tb=some .bool) (hb:Below W.heap.size W W') (hok:∀ W':World,Value.okWide P W' .any 0 tb (.bool true)) :
  s.post enc P f apart fresh handsOn again W args (.bool true) W':=by
 have hlt:∀ p∈before,p.block < W.heap.size:=fun p hp=>hW.lt p hp
 have hW0:=hW
 obtain ⟨p,q,hA,hV,rfl,hz,hn⟩:=hW
 rw [hv0] at hV
 obtain ⟨rfl,rfl⟩:=trodVars_none hV
 simp only [List.append_nil] at hlt hz hn
 have hfn2:s.fn H (ds ++ []) = { results:=[.lit (.bool true)],args:=ds }:=by rw [List.append_nil];exact hfn
 have hvar:∀ sp:Nat->Bool,DataW.TrodVars enc P W' sp s.vars [] []:=fun sp=>by rw [hv0];rfl
 have hr:∀ (b:Nat) (sp:Nat->Bool) (hd:Bool),DataW.TrodAll enc P W' b sp hd f.resultTypes.toList ((Value.bool true).resultList f.resultTypes.size) [.lit (.bool true)] []:=fun b sp hd=>by
  rw [hres]
  exact trodAll_cons_mk (p:=[]) (p':=[]) (shut_bool htb _) trodAll_mk0
 have ha:∀ sp:Nat->Bool,(∀ x∈p,sp x.block=true)->DataW.TrodAll enc P W' 0 sp true f.params.toList args.toList ds p:=fun sp hs=>trodAll_stays hl hb hts hA hlt hs
 exact post_of_old (pa:=p) (pv:=[]) hW0 (fun b sp hd=>by rw [hfn2];exact hr b sp hd) (fun sp hs=>by rw [hfn2];exact ha sp fun x hx=>hs x (by simp [hx])) (fun sp _=>by rw [hfn2];exact hvar sp) rfl ⟨hb.os,hb.output,hb.size,hb.block⟩ (ok_one hres rfl (hok W'))
end
end Go.Proofs.YtbhkonnakkhibaaGreat.Ab
namespace Go.Proofs.YtbhkonnakkhibaaGreat.Ab
open Go Go.ChangeShapes Go.WideShapes Go.ChangeAt Go.RowKit
set_option maxRecDepth 100000
section
variable {H:Type} {enc:TypeId×Value->H} {W:World}
theorem laidOut:laidOutB Tryz.prog=true:=by kernel_rfl
theorem okBool (W':World):Value.okWide Tryz.prog W' .any 0 4 (.bool true):=okWide_bool_mk Tryz.underlying4 _
end
end Go.Proofs.YtbhkonnakkhibaaGreat.Ab
namespace Go.Proofs.YtbhkonnakkhibaaGreat.Ab
open Go
section
variable {K:Type} [DecidableEq K]
def co (k:K):List (K×Int)->Int
 | []=>0
 | x :: l=>(if x.1=k then x.2 else 0)+co k l
theorem co_append (k:K):∀ (l r:List (K×Int)),co k (l ++ r)=co k l+co k r
 | [],r=>by simp [co]
 | x :: l,r=>by simp [co,co_append k l r,Int.add_assoc]
theorem co_none (k:K):∀ (l:List (K×Int)),(∀ x∈l,x.1≠k)->co k l=0
 | [],_=>rfl
 | x :: l,h=>by
  simp only [co]
  rw [if_neg (h x (by simp)),co_none k l fun y hy=>h y (by simp [hy])]
  rfl
theorem co_perm (k:K) {l r:List (K×Int)} (h:l.Perm r):co k l=co k r:=by
 induction h with
 | nil=>rfl
 | cons x _ ih=>simp [co,ih]
 | swap x y l=>simp only [co];omega
 | trans _ _ ih1 ih2=>rw [ih1,ih2]
theorem co_mem {k:K}:∀ {l:List (K×Int)},co k l≠0->∃ x∈l,x.1=k
 | [],h=>absurd rfl h
 | x :: l,h=>by
  simp only [co] at h
  by_cases e:x.1=k
  ·exact ⟨x,by simp,e⟩
  ·rw [if_neg e] at h
   obtain ⟨y,hy,e2⟩:=co_mem (k:=k) (l:=l) (by omega)
   exact ⟨y,by simp [hy],e2⟩
structure Ord (lt:K->K->Bool):Prop where
 irr:∀ a,lt a a=false
 tr:∀ a b c,lt a b=true->lt b c=true->lt a c=true
 tot:∀ a b,lt a b=true\/a=b\/lt b a=true
variable {lt:K->K->Bool}
def Desc (lt:K->K->Bool) (l:List (K×Int)):Prop:=l.Pairwise fun a b=>lt b.1 a.1=true
def Nz (l:List (K×Int)):Prop:=∀ x∈l,x.2≠0
theorem desc_tail_ne (ho:Ord lt) {x:K×Int} {l:List (K×Int)} (h:Desc lt (x :: l)):∀ y∈l,y.1≠x.1:=by
 intro y hy e
 have:=(List.pairwise_cons.1 h).1 y hy
 rw [e,ho.irr] at this
 simp at this
theorem desc_above (ho:Ord lt) {x:K×Int} {l:List (K×Int)} (h:Desc lt (x :: l)) {k:K} (hk:lt x.1 k=true):∀ y∈x :: l,y.1≠k:=by
 intro y hy e
 rcases List.mem_cons.1 hy with rfl | hy
 ·rw [e,ho.irr] at hk
  simp at hk
 ·have:=ho.tr _ _ _ ((List.pairwise_cons.1 h).1 y hy) hk
  rw [e,ho.irr] at this
  simp at this
theorem desc_unique (ho:Ord lt):∀ (l r:List (K×Int)),Desc lt l->Desc lt r->Nz l->Nz r->(∀ k,co k l=co k r)->l=r
 | [],[],_,_,_,_,_=>rfl
 | [],y :: r,_,h2,_,z2,h=>by
  have:=h y.1
  simp only [co,if_true] at this
  rw [co_none y.1 r (desc_tail_ne ho h2)] at this
  exact absurd (by omega) (z2 y (by simp))
 | x :: l,[],h1,_,z1,_,h=>by
  have:=h x.1
  simp only [co,if_true] at this
  rw [co_none x.1 l (desc_tail_ne ho h1)] at this
  exact absurd (by omega) (z1 x (by simp))
 | x :: l,y :: r,h1,h2,z1,z2,h=>by
  rcases ho.tot x.1 y.1 with e | e | e
  ·have:=h y.1
   rw [co_none y.1 _ (desc_above ho h1 e)] at this
   simp only [co,if_true] at this
   rw [co_none y.1 r (desc_tail_ne ho h2)] at this
   exact absurd (by omega) (z2 y (by simp))
  ·have e2:x.2=y.2:=by
    have:=h x.1
    simp only [co,if_true] at this
    rw [if_pos e.symm,co_none x.1 l (desc_tail_ne ho h1),e,co_none y.1 r (desc_tail_ne ho h2)] at this
    omega
   have exy:x=y:=Prod.ext e e2
   subst exy
   congr 1
   refine desc_unique ho l r (List.pairwise_cons.1 h1).2 (List.pairwise_cons.1 h2).2 (fun z hz=>z1 z (by simp [hz])) (fun z hz=>z2 z (by simp [hz])) fun k=>?_
   have:=h k
   simp only [co] at this
   omega
  ·have:=h x.1
   rw [co_none x.1 (y :: r) (desc_above ho h2 e)] at this
   simp only [co,if_true] at this
   rw [co_none x.1 l (desc_tail_ne ho h1)] at this
   exact absurd (by omega) (z1 x (by simp))
def insK (lt:K->K->Bool) (k:K) (c:Int):List (K×Int)->List (K×Int)
 | []=>if c=0 then [] else [(k,c)]
 | x :: l=>if x.1=k then (if x.2+c=0 then l else (k,x.2+c) :: l) else if lt x.1 k then (if c=0 then x :: l else (k,c) :: x :: l) else x :: insK lt k c l
def nf (lt:K->K->Bool):List (K×Int)->List (K×Int)
 | []=>[]
 | x :: l=>insK lt x.1 x.2 (nf lt l)
theorem insK_mem {k:K} {c:Int}:∀ {l:List (K×Int)} {y:K×Int},y∈insK lt k c l->y.1=k\/y∈l
 | [],y,h=>by
  simp only [insK] at h
  split at h
  ·simp at h
  ·simp only [List.mem_singleton] at h
   subst h
   exact .inl rfl
 | x :: l,y,h=>by
  simp only [insK] at h
  split at h
  ·split at h
   ·exact .inr (by simp [h])
   ·rcases List.mem_cons.1 h with rfl | h
    ·exact .inl rfl
    ·exact .inr (by simp [h])
  ·split at h
   ·split at h
    ·exact .inr h
    ·rcases List.mem_cons.1 h with rfl | h
     ·exact .inl rfl
     ·exact .inr h
   ·rcases List.mem_cons.1 h with rfl | h
    ·exact .inr (by simp)
    ·rcases insK_mem h with h | h
     ·exact .inl h
     ·exact .inr (by simp [h])
theorem insK_desc (ho:Ord lt) (k:K) (c:Int):∀ (l:List (K×Int)),Desc lt l->Desc lt (insK lt k c l)
 | [],_=>by
  simp only [insK]
  split
  ·exact List.Pairwise.nil
  ·exact List.pairwise_singleton _ _
 | x :: l,h=>by
  have h1:=List.pairwise_cons.1 h
  simp only [insK]
  split
  ·rename_i e
   split
   ·exact h1.2
   ·exact List.pairwise_cons.2 ⟨fun y hy=>by rw [<-e];exact h1.1 y hy,h1.2⟩
  ·rename_i e
   split
   ·rename_i e2
    split
    ·exact h
    ·refine List.pairwise_cons.2 ⟨fun y hy=>?_,h⟩
     rcases List.mem_cons.1 hy with rfl | hy
     ·exact e2
     ·exact ho.tr _ _ _ (h1.1 y hy) e2
   ·rename_i e2
    refine List.pairwise_cons.2 ⟨fun y hy=>?_,insK_desc ho k c l h1.2⟩
    rcases insK_mem hy with hy | hy
    ·rw [hy]
     rcases ho.tot k x.1 with q | q | q
     ·exact q
     ·exact absurd q.symm e
     ·exact absurd q e2
    ·exact h1.1 y hy
theorem insK_nz (k:K) (c:Int):∀ (l:List (K×Int)),Nz l->Nz (insK lt k c l)
 | [],_=>by
  simp only [insK]
  split
  ·intro y hy;simp at hy
  ·rename_i hc
   intro y hy
   simp only [List.mem_singleton] at hy
   subst hy
   exact hc
 | x :: l,h=>by
  have h1:Nz l:=fun z hz=>h z (by simp [hz])
  simp only [insK]
  split
  ·split
   ·exact h1
   ·rename_i hc
    intro y hy
    rcases List.mem_cons.1 hy with rfl | hy
    ·exact hc
    ·exact h1 y hy
  ·split
   ·split
    ·exact h
    ·rename_i hc
     intro y hy
     rcases List.mem_cons.1 hy with rfl | hy
     ·exact hc
     ·exact h y hy
   ·intro y hy
    rcases List.mem_cons.1 hy with rfl | hy
    ·exact h y (by simp)
    ·exact insK_nz k c l h1 y hy
theorem insK_co (k:K) (c:Int) (q:K):∀ (l:List (K×Int)),co q (insK lt k c l)=(if k=q then c else 0)+co q l
 | []=>by
  simp only [insK]
  split
  ·rename_i e
   subst e
   simp [co]
  ·simp [co]
 | x :: l=>by
  simp only [insK]
  split
  ·rename_i e
   split
   ·rename_i e2
    simp only [co,e]
    split <;> omega
   ·simp only [co,e]
    split <;> omega
  ·split
   ·split
    ·rename_i e
     subst e
     simp
    ·simp only [co]
   ·simp only [co,insK_co k c q l]
    omega
theorem nf_desc (ho:Ord lt):∀ (l:List (K×Int)),Desc lt (nf lt l)
 | []=>List.Pairwise.nil
 | x :: l=>insK_desc ho _ _ _ (nf_desc ho l)
theorem nf_nz:∀ (l:List (K×Int)),Nz (nf lt l)
 | []=>by intro y hy;simp [nf] at hy
 | x :: l=>insK_nz _ _ _ (nf_nz l)
theorem nf_co (q:K):∀ (l:List (K×Int)),co q (nf lt l)=co q l
 | []=>rfl
 | x :: l=>by
  simp only [nf,insK_co,nf_co q l,co]
theorem nf_mem:∀ {l:List (K×Int)} {y:K×Int},y∈nf lt l->∃ x∈l,x.1=y.1
 | [],y,h=>by simp [nf] at h
 | x :: l,y,h=>by
  rcases insK_mem h with h | h
  ·exact ⟨x,by simp,h.symm⟩
  ·obtain ⟨z,hz,e⟩:=nf_mem h
   exact ⟨z,by simp [hz],e⟩
theorem nf_unique (ho:Ord lt) {t l:List (K×Int)} (h1:Desc lt t) (h2:Nz t) (h3:∀ k,co k t=co k l):t=nf lt l:=
 desc_unique ho t (nf lt l) h1 (nf_desc ho l) h2 (nf_nz l) fun k=>by rw [h3 k,nf_co]
end
def lexlt:List Int->List Int->Bool
 | [],[]=>false
 | [],_ :: _=>true
 | _ :: _,[]=>false
 | a :: x,b :: y=>if a=b then lexlt x y else decide (a < b)
theorem lexlt_irr:∀ a,lexlt a a=false
 | []=>rfl
 | a :: x=>by simp [lexlt,lexlt_irr x]
theorem lexlt_tr:∀ a b c,lexlt a b=true->lexlt b c=true->lexlt a c=true
 | [],[],_,h,_=>by simp [lexlt] at h
 | [],_ :: _,[],_,h=>by simp [lexlt] at h
 | [],_ :: _,_ :: _,_,_=>rfl
 | _ :: _,[],_,h,_=>by simp [lexlt] at h
 | _ :: _,_ :: _,[],_,h=>by simp [lexlt] at h
 | a :: x,b :: y,c :: z,h1,h2=>by
  simp only [lexlt] at h1 h2 ⊢
  by_cases e1:a=b
  ·subst e1
   rw [if_pos rfl] at h1
   by_cases e2:a=c
   ·subst e2
    rw [if_pos rfl] at h2 ⊢
    exact lexlt_tr x y z h1 h2
   ·rw [if_neg e2] at h2 ⊢
    exact h2
  ·rw [if_neg e1] at h1
   by_cases e2:b=c
   ·subst e2
    rw [if_neg e1]
    exact h1
   ·rw [if_neg e2] at h2
    simp only [decide_eq_true_eq] at h1 h2
    rw [if_neg (by omega)]
    simp only [decide_eq_true_eq]
    omega
theorem lexlt_tot:∀ a b,lexlt a b=true\/a=b\/lexlt b a=true
 | [],[]=>.inr (.inl rfl)
 | [],_ :: _=>.inl rfl
 | _ :: _,[]=>.inr (.inr rfl)
 | a :: x,b :: y=>by
  simp only [lexlt]
  by_cases e:a=b
  ·subst e
   simp only [if_true]
   rcases lexlt_tot x y with h | h | h
   ·exact .inl h
   ·exact .inr (.inl (by rw [h]))
   ·exact .inr (.inr h)
  ·rw [if_neg e,if_neg (Ne.symm e)]
   simp only [decide_eq_true_eq]
   omega
theorem lexOrd:Ord lexlt:=⟨lexlt_irr,lexlt_tr,lexlt_tot⟩
end Go.Proofs.YtbhkonnakkhibaaGreat.Ab
namespace Go.Proofs.YtbhkonnakkhibaaGreat.Ab
open Go
section
variable {K:Type} [DecidableEq K]
structure Act (lt:K->K->Bool) (mul dv:K->K->K) (D:K->Prop):Prop where
 mul_dv:∀ a b,D a->D b->mul (dv a b) b=a
 dv_lt:∀ x y b,D x->D y->D b->lt x y=true->lt (dv x b) (dv y b)=true
 mul_lt:∀ e x y,D e->D x->D y->lt x y=true->lt (mul e x) (mul e y)=true
 dmul:∀ a b,D a->D b->D (mul a b)
 ddv:∀ a b,D a->D b->D (dv a b)
def mulT (mul:K->K->K) (e:K) (q:Int) (g:List (K×Int)):List (K×Int):=g.map fun y=>(mul e y.1,q*y.2)
def prodK (mul:K->K->K) (a g:List (K×Int)):List (K×Int):=a.flatMap fun x=>mulT mul x.1 x.2 g
def divGo (lt:K->K->Bool) (mul dv:K->K->K) (chk:K->Int->Bool) (g:List (K×Int)) (b:K) (d:Int):Nat->List (K×Int)->Option (List (K×Int))
 | _,[]=>some []
 | 0,_ :: _=>none
 | k+1,x :: R=>if x.2.tmod d=0/\chk (dv x.1 b) (x.2.tdiv d)=true then
   (divGo lt mul dv chk g b d k (nf lt (x :: R ++ mulT mul (dv x.1 b) (-(x.2.tdiv d)) g))).map ((dv x.1 b,x.2.tdiv d) :: ·) else none
variable {lt:K->K->Bool} {mul dv:K->K->K} {D:K->Prop} {chk chk':K->Int->Bool} {g:List (K×Int)} {b:K} {d:Int}
theorem co_mulT_neg (mul:K->K->K) (k e:K) (q:Int):∀ g:List (K×Int),co k (mulT mul e (-q) g)=-co k (mulT mul e q g)
 | []=>rfl
 | y :: g=>by
  simp only [mulT,List.map_cons,co]
  have:=co_mulT_neg mul k e q g
  simp only [mulT] at this
  rw [this]
  split
  ·rw [Int.neg_mul];omega
  ·omega
theorem divGo_chk:∀ (k:Nat) (R O:List (K×Int)),divGo lt mul dv chk g b d k R=some O->(∀ x∈O,chk' x.1 x.2=true)->divGo lt mul dv chk' g b d k R=some O
 | k,[],O,h,_=>by cases k <;> exact h
 | 0,x :: R,O,h,_=>by simp [divGo] at h
 | k+1,x :: R,O,h,hc=>by
  simp only [divGo] at h ⊢
  split at h
  ·rename_i h1
   obtain ⟨O',h2,h3⟩:=Option.map_eq_some_iff.1 h
   subst h3
   rw [if_pos ⟨h1.1,hc (dv x.1 b,x.2.tdiv d) (List.mem_cons_self ..)⟩,divGo_chk k _ O' h2 fun y hy=>hc y (by simp [hy])]
   rfl
  ·simp at h
theorem divGo_all:∀ (k:Nat) (R O:List (K×Int)),divGo lt mul dv chk g b d k R=some O->(∀ x∈O,chk x.1 x.2=true)/\O.length<=k
 | k,[],O,h=>by
  cases k <;> simp [divGo] at h <;> subst h <;> simp
 | 0,x :: R,O,h=>by simp [divGo] at h
 | k+1,x :: R,O,h=>by
  simp only [divGo] at h
  split at h
  ·rename_i h1
   obtain ⟨O',h2,h3⟩:=Option.map_eq_some_iff.1 h
   subst h3
   obtain ⟨h4,h5⟩:=divGo_all k _ O' h2
   refine ⟨fun y hy=>?_,by simp;omega⟩
   rcases List.mem_cons.1 hy with rfl | hy
   ·exact h1.2
   ·exact h4 y hy
  ·simp at h
theorem divGo_exact:∀ (k:Nat) (R O:List (K×Int)),divGo lt mul dv chk g b d k R=some O->∀ q,co q R=co q (prodK mul O g)
 | k,[],O,h,q=>by
  cases k <;> simp [divGo] at h <;> subst h <;> rfl
 | 0,x :: R,O,h,_=>by simp [divGo] at h
 | k+1,x :: R,O,h,q=>by
  simp only [divGo] at h
  split at h
  ·obtain ⟨O',h2,h3⟩:=Option.map_eq_some_iff.1 h
   subst h3
   have h4:=divGo_exact k _ O' h2 q
   rw [nf_co,co_append,co_mulT_neg] at h4
   simp only [prodK,List.flatMap_cons,co_append]
   simp only [prodK] at h4
   omega
  ·simp at h
theorem tmod_tdiv {a d:Int} (h:a.tmod d=0):a.tdiv d*d=a:=by
 have:=Int.mul_tdiv_add_tmod a d
 rw [h,Int.mul_comm] at this
 omega
theorem step_less (ho:Ord lt) (ha:Act lt mul dv D) {x:K×Int} {R:List (K×Int)} {G:List (K×Int)} (hR:Desc lt (x :: R)) (hRD:∀ y∈x :: R,D y.1) (hg:Desc lt ((b,d) :: G)) (hgD:∀ y∈(b,d) :: G,D y.1) (hm:x.2.tmod d=0) :
  (∀ y∈nf lt (x :: R ++ mulT mul (dv x.1 b) (-(x.2.tdiv d)) ((b,d) :: G)),lt y.1 x.1=true/\D y.1):=by
 intro y hy
 have hb:=hgD (b,d) (by simp)
 have hx:=hRD x (by simp)
 have hdv:=ha.ddv x.1 b hx hb
 have key:D y.1/\(y.1=x.1\/lt y.1 x.1=true):=by
  obtain ⟨z,hz,e⟩:=nf_mem hy
  rw [<-e]
  rcases List.mem_append.1 hz with hz | hz
  ·refine ⟨hRD z hz,?_⟩
   rcases List.mem_cons.1 hz with rfl | hz
   ·exact .inl rfl
   ·exact .inr (List.rel_of_pairwise_cons hR hz)
  ·obtain ⟨u,hu,rfl⟩:=List.mem_map.1 hz
   refine ⟨ha.dmul _ _ hdv (hgD u hu),?_⟩
   rcases List.mem_cons.1 hu with rfl | hu2
   ·exact .inl (ha.mul_dv _ _ hx hb)
   ·right
    have:=ha.mul_lt (dv x.1 b) u.1 b hdv (hgD u hu) hb (List.rel_of_pairwise_cons hg hu2)
    rwa [ha.mul_dv _ _ hx hb] at this
 refine ⟨?_,key.1⟩
 rcases key.2 with e | h
 ·exfalso
  have hz:=nf_nz _ y hy
  have h1:co y.1 (nf lt (x :: R ++ mulT mul (dv x.1 b) (-(x.2.tdiv d)) ((b,d) :: G)))=y.2:=by
   have hd:=nf_desc ho (x :: R ++ mulT mul (dv x.1 b) (-(x.2.tdiv d)) ((b,d) :: G))
   generalize nf lt (x :: R ++ mulT mul (dv x.1 b) (-(x.2.tdiv d)) ((b,d) :: G))=N at hy hd
   clear hz e key
   induction N with
   | nil=>simp at hy
   | cons z N ih=>
    simp only [co]
    rcases List.mem_cons.1 hy with rfl | hy2
    ·rw [if_pos rfl,co_none _ _ (desc_tail_ne ho hd)]
     omega
    ·rw [if_neg (fun e=>desc_tail_ne ho hd y hy2 e.symm),ih hy2 (List.Pairwise.of_cons hd)]
     omega
  rw [nf_co,co_append,co_mulT_neg,e] at h1
  simp only [co,if_pos,mulT,List.map_cons,ha.mul_dv _ _ hx hb] at h1
  rw [co_none _ R (desc_tail_ne ho hR),co_none x.1 _ (fun z hz=>?_),tmod_tdiv hm] at h1
  ·exact hz (by omega)
  ·obtain ⟨u,hu,rfl⟩:=List.mem_map.1 hz
   have h2:=ha.mul_lt (dv x.1 b) u.1 b hdv (hgD u (by simp [hu])) hb (List.rel_of_pairwise_cons hg hu)
   rw [ha.mul_dv _ _ hx hb] at h2
   intro e3
   simp only at e3
   rw [e3,ho.irr] at h2
   simp at h2
 ·exact h
theorem divGo_desc (ho:Ord lt) (ha:Act lt mul dv D) {G:List (K×Int)} (hg:Desc lt ((b,d) :: G)) (hgD:∀ y∈(b,d) :: G,D y.1):∀ (k:Nat) (R O:List (K×Int)),divGo lt mul dv chk ((b,d) :: G) b d k R=some O->Desc lt R->(∀ y∈R,D y.1) ->
  Desc lt O/\(∀ x∈O,D x.1)/\∀ u,D u->(∀ y∈R,lt y.1 u=true)->∀ x∈O,lt x.1 (dv u b)=true
 | k,[],O,h,_,_=>by
  have e:O=[]:=by cases k <;> simp [divGo] at h <;> exact h
  subst e
  exact ⟨List.Pairwise.nil,by simp,by simp⟩
 | 0,x :: R,O,h,_,_=>by simp [divGo] at h
 | k+1,x :: R,O,h,hR,hRD=>by
  simp only [divGo] at h
  split at h
  ·rename_i h1
   obtain ⟨O',h2,h3⟩:=Option.map_eq_some_iff.1 h
   subst h3
   have hl:=step_less ho ha hR hRD hg hgD h1.1
   have hb:=hgD (b,d) (by simp)
   have hx:=hRD x (by simp)
   obtain ⟨i1,i2,i3⟩:=divGo_desc ho ha hg hgD k _ O' h2 (nf_desc ho _) fun y hy=>(hl y hy).2
   have i4:=i3 x.1 hx fun y hy=>(hl y hy).1
   refine ⟨List.Pairwise.cons (fun y hy=>i4 y hy) i1,fun y hy=>?_,fun u hu hlu y hy=>?_⟩
   ·rcases List.mem_cons.1 hy with rfl | hy
    ·exact ha.ddv _ _ hx hb
    ·exact i2 y hy
   ·have h5:=ha.dv_lt x.1 u b hx hu hb (hlu x (by simp))
    rcases List.mem_cons.1 hy with rfl | hy
    ·exact h5
    ·exact ho.tr _ _ _ (i4 y hy) h5
  ·simp at h
theorem co_single (ho:Ord lt):∀ {l:List (K×Int)} {x:K×Int},Desc lt l->x∈l->co x.1 l=x.2
 | [],x,_,h=>by simp at h
 | z :: l,x,hd,h=>by
  simp only [co]
  rcases List.mem_cons.1 h with rfl | h2
  ·rw [if_pos rfl,co_none _ _ (desc_tail_ne ho hd)]
   omega
  ·rw [if_neg (fun e=>desc_tail_ne ho hd x h2 e.symm),co_single ho (List.Pairwise.of_cons hd) h2]
   omega
theorem co_pair2 (ho:Ord lt):∀ {O g:List (K×Int)} {x y:K×Int},Desc lt O->Desc lt g->x∈O->y∈g->(∀ u∈O,∀ v∈g,mul u.1 v.1=mul x.1 y.1->u=x/\v=y)->co (mul x.1 y.1) (prodK mul O g)=x.2*y.2:=by
 intro O g x y hO hg hx hy hu
 have row:∀ u∈O,co (mul x.1 y.1) (mulT mul u.1 u.2 g)=if u=x then x.2*y.2 else 0:=by
  intro u huO
  by_cases e:u=x
  ·rw [if_pos e]
   subst e
   have:∀ l:List (K×Int),Desc lt l->(∀ v∈l,v∈g)->co (mul u.1 y.1) (mulT mul u.1 u.2 l)=if y∈l then u.2*y.2 else 0:=by
    intro l
    induction l with
    | nil=>intro _ _;simp [mulT,co]
    | cons z l ih=>
     intro hd hs
     have h1:=ih (List.Pairwise.of_cons hd) fun v hv=>hs v (by simp [hv])
     simp only [mulT,List.map_cons,co] at h1 ⊢
     rw [h1]
     by_cases e2:z=y
     ·subst e2
      have:z ∉ l:=fun hz=>desc_tail_ne ho hd z hz rfl
      rw [if_pos rfl,if_neg this,if_pos (by simp)]
      omega
     ·rw [if_neg (fun e3=>e2 (hu u hx z (hs z (by simp)) e3).2)]
      by_cases e4:y∈l
      ·rw [if_pos e4,if_pos (by simp [e4])];omega
      ·rw [if_neg e4,if_neg (by simp [e4,Ne.symm e2])];rfl
   rw [this g hg fun _ h=>h,if_pos hy]
  ·rw [if_neg e]
   refine co_none _ _ fun z hz=>?_
   obtain ⟨v,hv,rfl⟩:=List.mem_map.1 hz
   exact fun e3=>e (hu u huO v hv e3).1
 have:∀ l:List (K×Int),Desc lt l->(∀ u∈l,u∈O)->co (mul x.1 y.1) (prodK mul l g)=if x∈l then x.2*y.2 else 0:=by
  intro l
  induction l with
  | nil=>intro _ _;simp [prodK,co]
  | cons z l ih=>
   intro hd hs
   have h1:=ih (List.Pairwise.of_cons hd) fun v hv=>hs v (by simp [hv])
   simp only [prodK,List.flatMap_cons,co_append] at h1 ⊢
   rw [h1,row z (hs z (by simp))]
   by_cases e2:z=x
   ·subst e2
    have:z ∉ l:=fun hz=>desc_tail_ne ho hd z hz rfl
    rw [if_pos rfl,if_neg this,if_pos (by simp)]
    omega
   ·rw [if_neg e2]
    by_cases e4:x∈l
    ·rw [if_pos e4,if_pos (by simp [e4])];omega
    ·rw [if_neg e4,if_neg (by simp [e4,Ne.symm e2])];rfl
 rw [this O hO fun _ h=>h,if_pos hx]
def absK (l:List (K×Int)):Nat:=(l.map fun x=>x.2.natAbs).sum
theorem absK_append (l r:List (K×Int)):absK (l ++ r)=absK l+absK r:=by simp [absK]
theorem insK_abs (k:K) (c:Int):∀ l:List (K×Int),absK (insK lt k c l)<=c.natAbs+absK l/\(insK lt k c l).length<=l.length+1
 | []=>by
  simp only [insK]
  split <;> simp [absK]
 | x :: l=>by
  have ih:=insK_abs k c l
  simp only [insK]
  split
  ·split
   ·simp [absK];omega
   ·simp [absK];omega
  ·split
   ·split
    ·simp [absK]
    ·simp [absK]
   ·simp only [absK,List.map_cons,List.sum_cons,List.length_cons] at ih ⊢
    omega
theorem nf_abs:∀ l:List (K×Int),absK (nf lt l)<=absK l/\(nf lt l).length<=l.length
 | []=>by simp [nf,absK]
 | x :: l=>by
  have ih:=nf_abs l
  have h:=insK_abs (lt:=lt) x.1 x.2 (nf lt l)
  simp only [nf]
  simp only [absK,List.map_cons,List.sum_cons,List.length_cons] at ih h ⊢
  omega
theorem mulT_abs (e:K) (q:Int):∀ g:List (K×Int),absK (mulT mul e q g)=q.natAbs*absK g
 | []=>rfl
 | y :: g=>by
  have:=mulT_abs e q g
  simp only [absK,mulT,List.map_cons,List.sum_cons,List.map_map] at this ⊢
  rw [Int.natAbs_mul,Nat.mul_add]
  omega
@[simp] theorem mulT_length (e:K) (q:Int) (g:List (K×Int)):(mulT mul e q g).length=g.length:=by simp [mulT]
end
end Go.Proofs.YtbhkonnakkhibaaGreat.Ab
namespace Go.Proofs.YtbhkonnakkhibaaGreat.Ab
open Go
def keyA (k:Int):List Int->Int
 | []=>k
 | x :: l=>keyA (k*128+x+64) l
def Dig (l:List Int):Prop:=∀ x∈l,-64<=x/\x<=63
theorem Dig.tail {x:Int} {l:List Int} (h:Dig (x :: l)):Dig l:=fun y hy=>h y (by simp [hy])
theorem Dig.head {x:Int} {l:List Int} (h:Dig (x :: l)):-64<=x/\x<=63:=h x (by simp)
theorem keyA_append:∀ (a b:List Int) (k:Int),keyA k (a ++ b)=keyA (keyA k a) b
 | [],b,k=>rfl
 | x :: a,b,k=>by simp [keyA,keyA_append a b]
theorem keyA_lt:∀ (a b:List Int) (p q:Int),a.length=b.length->Dig a->Dig b->p < q->keyA p a < keyA q b
 | [],[],p,q,_,_,_,h=>h
 | x :: a,y :: b,p,q,hl,ha,hb,h=>by
  have h1:=ha.head
  have h2:=hb.head
  exact keyA_lt a b _ _ (by simpa using hl) ha.tail hb.tail (by omega)
 | [],_ :: _,_,_,h,_,_,_=>by simp at h
 | _ :: _,[],_,_,h,_,_,_=>by simp at h
theorem keyA_lex:∀ (a b:List Int) (p:Int),a.length=b.length->Dig a->Dig b->lexlt a b=true->keyA p a < keyA p b
 | [],[],p,_,_,_,h=>by simp [lexlt] at h
 | x :: a,y :: b,p,hl,ha,hb,h=>by
  simp only [lexlt] at h
  have h1:=ha.head
  have h2:=hb.head
  split at h
  ·rename_i e
   subst e
   exact keyA_lex a b _ (by simpa using hl) ha.tail hb.tail h
  ·simp only [decide_eq_true_eq] at h
   exact keyA_lt a b _ _ (by simpa using hl) ha.tail hb.tail (by omega)
 | [],_ :: _,_,h,_,_,_=>by simp at h
 | _ :: _,[],_,h,_,_,_=>by simp at h
theorem keyA_inj {a b:List Int} {p:Int} (hl:a.length=b.length) (ha:Dig a) (hb:Dig b) (h:keyA p a=keyA p b):a=b:=by
 rcases lexlt_tot a b with h1 | h1 | h1
 ·have:=keyA_lex a b p hl ha hb h1
  omega
 ·exact h1
 ·have:=keyA_lex b a p hl.symm hb ha h1
  omega
theorem keyA_lex_iff {a b:List Int} {p:Int} (hl:a.length=b.length) (ha:Dig a) (hb:Dig b):lexlt a b=decide (keyA p a < keyA p b):=by
 rcases lexlt_tot a b with h1 | h1 | h1
 ·have:=keyA_lex a b p hl ha hb h1
  simp [h1,this]
 ·subst h1
  simp [lexlt_irr]
 ·have:=keyA_lex b a p hl.symm hb ha h1
  have h2:lexlt a b=false:=by
   cases h3:lexlt a b with
   | false=>rfl
   | true=>
    have:=lexlt_tr _ _ _ h1 h3
    rw [lexlt_irr] at this
    simp at this
  rw [h2]
  simp
  omega
theorem keyA_nonneg:∀ (a:List Int) (p:Int),Dig a->0<=p->0<=keyA p a
 | [],p,_,h=>h
 | x :: a,p,ha,h=>keyA_nonneg a _ ha.tail (by have:=ha.head;omega)
theorem keyA_bound:∀ (a:List Int) (p B:Int),Dig a->0<=p->p < B->keyA p a < B*128 ^ a.length
 | [],p,B,_,_,h=>by simpa [keyA] using h
 | x :: a,p,B,ha,h0,h=>by
  have h1:=ha.head
  have:=keyA_bound a (p*128+x+64) (B*128) ha.tail (by omega) (by omega)
  rw [List.length_cons,Int.pow_succ,Int.mul_comm _ (128:Int),<-Int.mul_assoc]
  exact this
theorem keyA_key {a:List Int} (ha:Dig a) (hl:a.length<=8):0<=keyA 0 a/\keyA 0 a < 72057594037927936:=by
 refine ⟨keyA_nonneg a 0 ha (by omega),?_⟩
 have h:=keyA_bound a 0 1 ha (by omega) (by omega)
 have h2:(128:Int) ^ a.length<=128 ^ 8:=by
  have:(128:Nat) ^ a.length<=128 ^ 8:=Nat.pow_le_pow_right (by omega) hl
  exact_mod_cast this
 have h3:(128:Int) ^ 8=72057594037927936:=by decide
 omega
def addE (k:Int):List Int->List Int->List Int
 | x :: a,y :: b=>(x+k*y) :: addE k a b
 | a,[]=>a
 | [],_=>[]
theorem addE_length (k:Int):∀ (a b:List Int),a.length=b.length->(addE k a b).length=a.length
 | [],[],_=>rfl
 | x :: a,y :: b,h=>by simp [addE,addE_length k a b (by simpa using h)]
 | [],_ :: _,h=>by simp at h
 | _ :: _,[],h=>by simp at h
theorem addE_snoc (t x y:Int):∀ (a b:List Int),a.length=b.length->addE t (a ++ [x]) (b ++ [y])=addE t a b ++ [x+t*y]
 | [],[],_=>rfl
 | u :: a,v :: b,h=>by simp [addE,addE_snoc t x y a b (by simpa using h)]
 | [],_ :: _,h=>by simp at h
 | _ :: _,[],h=>by simp at h
theorem addE_get {t:Int} {aas bs:List Int} {i:Nat} (h:i < aas.length) (hl:aas.length=bs.length):(addE t (aas.take i) (bs.take i) ++ aas.drop i)[i]? = some aas[i]:=by
 have h1:(addE t (aas.take i) (bs.take i)).length=i:=by
  rw [addE_length _ _ _ (by simp;omega)]
  simp
  omega
 rw [List.getElem?_append_right (by omega),h1,Nat.sub_self,List.drop_eq_getElem_cons h]
 rfl
theorem addE_step {t:Int} {aas bs:List Int} {i:Nat} (h:i < aas.length) (hl:aas.length=bs.length):(addE t (aas.take i) (bs.take i) ++ aas.drop i).set i (aas[i]+t*bs[i])=addE t (aas.take (i+1)) (bs.take (i+1)) ++ aas.drop (i+1):=by
 have h1:(addE t (aas.take i) (bs.take i)).length=i:=by
  rw [addE_length _ _ _ (by simp;omega)]
  simp
  omega
 rw [List.set_append_right _ _ (by omega),h1,Nat.sub_self,List.drop_eq_getElem_cons h,List.set_cons_zero,List.take_succ_eq_append_getElem h,List.take_succ_eq_append_getElem (show i < bs.length by omega),addE_snoc _ _ _ _ _ (by simp;omega),List.append_assoc]
 rfl
theorem keyA_add:∀ (a b:List Int) (p q s:Int),a.length=b.length->keyA (p+q - s) (addE 1 a b)=keyA p a+keyA q b - keyA s (List.replicate a.length 0)
 | [],[],p,q,s,_=>rfl
 | x :: a,y :: b,p,q,s,h=>by
  simp only [addE,keyA,List.length_cons,List.replicate_succ]
  rw [<-keyA_add a b _ _ _ (by simpa using h)]
  congr 1
  omega
 | [],_ :: _,_,_,_,h=>by simp at h
 | _ :: _,[],_,_,_,h=>by simp at h
theorem keyA_dec {a:List Int} {x p:Int} (ha:Dig a) (hx:-64<=x/\x<=63) (hp:0<=p):(keyA p (a ++ [x])).tmod 128 - 64=x/\(keyA p (a ++ [x])).tdiv 128=keyA p a:=by
 have h:=keyA_nonneg a p ha hp
 rw [keyA_append]
 simp only [keyA]
 rw [Int.tmod_eq_emod_of_nonneg (by omega),Int.tdiv_eq_ediv_of_nonneg (by omega)]
 omega
end Go.Proofs.YtbhkonnakkhibaaGreat.Ab
namespace Go.Proofs.YtbhkonnakkhibaaGreat.Ab
open Go
def Good (v:Int) (t:Trm):Prop:=(t.e.length:Int)=v/\t.c≠0/\(-1000000<=t.c/\t.c<=1000000)/\∀ x∈t.e,-20<=x/\x<=20
def DescT (ts:List Trm):Prop:=ts.Pairwise fun a b=>lexlt b.e a.e=true
def Right (f:Lau):Prop:=(1<=f.v/\f.v<=8)/\f.ts.length<=600/\(∀ t∈f.ts,Good f.v t)/\DescT f.ts
noncomputable instance (f:Lau):Decidable (Right f):=Classical.propDecidable _
def zeroF:Lau:=⟨0,[]⟩
theorem descT_snoc {ts:List Trm} {t:Trm} (h:DescT ts) (hl:∀ x,ts.getLast? = some x->lexlt t.e x.e=true):DescT (ts ++ [t]):=by
 unfold DescT at *
 rw [List.pairwise_append]
 refine ⟨h,List.pairwise_singleton _ _,fun a ha b hb=>?_⟩
 simp only [List.mem_singleton] at hb
 subst hb
 rcases List.eq_nil_or_concat ts with rfl | ⟨l,x,rfl⟩
 ·simp at ha
 ·have hx:=hl x (by simp)
  simp only [List.concat_eq_append,List.mem_append,List.mem_singleton] at ha
  rcases ha with ha | rfl
  ·simp only [List.concat_eq_append] at h
   rw [List.pairwise_append] at h
   exact lexlt_tr _ _ _ hx (h.2.2 a ha x (by simp))
  ·exact hx
theorem descT_step {ts:List Trm} {j:Nat} (h1:j < ts.length) (h:DescT (ts.take j)) (hl:j=0\/lexlt ts[j].e ts[j - 1].e=true):DescT (ts.take (j+1)):=by
 rw [List.take_succ_eq_append_getElem h1]
 refine descT_snoc h fun x hx=>?_
 rcases hl with rfl | hl
 ·simp at hx
 ·rcases Nat.eq_zero_or_pos j with rfl | hj
  ·simp at hx
  ·have:(ts.take j).getLast? = some ts[j - 1]:=by
    rw [List.getLast?_eq_getElem?,List.length_take,Nat.min_eq_left (Nat.le_of_lt h1),List.getElem?_take_of_lt (by omega),List.getElem?_eq_getElem (by omega)]
   rw [this] at hx
   injection hx with hx
   subst hx
   exact hl
theorem descT_next {ts:List Trm} {j:Nat} (h1:j < ts.length) (h:DescT ts):j=0\/lexlt ts[j].e ts[j - 1].e=true:=by
 rcases Nat.eq_zero_or_pos j with rfl | hj
 ·exact .inl rfl
 ·right
  exact List.pairwise_iff_getElem.1 h (j - 1) j (by omega) h1 (by omega)
def gM (x:Int×Int):List D:=[D.int x.1,D.int x.2]
theorem gM_two (x:Int×Int):(gM x).length=2:=rfl
@[simp] theorem gM_length (l:List (Int×Int)):(rows gM l).length=2*l.length:=rows_length gM_two l
theorem gM_leaf:∀ l:List (Int×Int),leafL (rows gM l)
 | []=>trivial
 | x :: l=>⟨rfl,rfl,gM_leaf l⟩
theorem gM_noSh (l:List (Int×Int)):noShL (rows gM l):=rows_noSh (fun t=>by simp [gM,noShL,noSh]) l
theorem gM_share:∀ l:List (Int×Int),shareL (rows gM l)=rows gM l
 | []=>rfl
 | x :: l=>by simp [rows,gM,shareL,share,gM_share l]
attribute [simp] gM_leaf gM_noSh gM_share
theorem gM_snoc (l:List (Int×Int)) (k c:Int):rows gM l ++ [D.v (.int .i64 k),D.v (.int .i64 c)]=rows gM (l ++ [(k,c)]):=by
 rw [rows_append]
 rfl
section
variable {l:List (Int×Int)} {i:Nat}
theorem gM_0 (h:i < l.length):(rows gM l)[2*i]? = some (D.int l[i].1)/\∀ h',(rows gM l)[2*i]'h'=D.int l[i].1:=twice (rows_get gM_two l i 0 h (by omega))
theorem gM_1 (h:i < l.length):(rows gM l)[2*i+1]? = some (D.int l[i].2)/\∀ h',(rows gM l)[2*i+1]'h'=D.int l[i].2:=twice (rows_get gM_two l i 1 h (by omega))
theorem gM_set1 (h:i < l.length) (x:Int):(rows gM l).set (2*i+1) (.v (.int .i64 x))=rows gM (l.set i (l[i].1,x)):=rows_set gM_two l i 1 _ _ h (by omega) rfl
end
def ilt (a b:Int):Bool:=decide (a < b)
theorem ilt_ord:Ord ilt:=⟨fun a=>by simp [ilt],fun a b c h1 h2=>by simp [ilt] at *;omega,fun a b=>by simp only [ilt,decide_eq_true_eq];omega⟩
def Exps (n:Nat) (l:List (List Int×Int)):Prop:=∀ x∈l,x.1.length=n/\Dig x.1
def kc (x:List Int×Int):Int×Int:=(keyA 0 x.1,x.2)
def tm (x:List Int×Int):Trm:=⟨x.1,x.2⟩
def pr (t:Trm):List Int×Int:=(t.e,t.c)
theorem insK_key {n:Nat} (k:List Int) (c:Int) (hk:k.length=n/\Dig k):∀ (l:List (List Int×Int)),Exps n l->insK ilt (keyA 0 k) c (l.map kc)=(insK lexlt k c l).map kc
 | [],_=>by
  simp only [insK,List.map_nil]
  split <;> simp [kc]
 | x :: l,h=>by
  have hx:=h x (by simp)
  have hl:Exps n l:=fun y hy=>h y (by simp [hy])
  simp only [insK,List.map_cons]
  have e1:((kc x).1=keyA 0 k)↔(x.1=k):=⟨fun e=>keyA_inj (hx.1.trans hk.1.symm) hx.2 hk.2 e,fun e=>by simp [kc,e]⟩
  have e2:ilt (kc x).1 (keyA 0 k)=lexlt x.1 k:=(keyA_lex_iff (hx.1.trans hk.1.symm) hx.2 hk.2).symm
  by_cases q:x.1=k
  ·rw [if_pos (e1.2 q),if_pos q]
   show (if x.2+c=0 then _ else _)=_
   split <;> simp [kc]
  ·rw [if_neg (fun e=>q (e1.1 e)),if_neg q,e2]
   split
   ·split <;> simp [kc]
   ·rw [insK_key k c hk l hl,List.map_cons]
theorem nf_exps {n:Nat} {l:List (List Int×Int)} (h:Exps n l):Exps n (nf lexlt l):=fun y hy=>by
 obtain ⟨x,hx,e⟩:=nf_mem hy
 rw [<-e]
 exact h x hx
theorem nf_key {n:Nat}:∀ (l:List (List Int×Int)),Exps n l->nf ilt (l.map kc)=(nf lexlt l).map kc
 | [],_=>rfl
 | x :: l,h=>by
  have hl:Exps n l:=fun y hy=>h y (by simp [hy])
  simp only [nf,List.map_cons]
  rw [nf_key l hl]
  exact insK_key x.1 x.2 (h x (by simp)) _ (nf_exps hl)
noncomputable def shutF (v:Int) (l:List (List Int×Int)):Lau×Bool:=if Right ⟨v,(nf lexlt l).map tm⟩ then (⟨v,(nf lexlt l).map tm⟩,true) else (zeroF,false)
def prodL (a b:List (List Int×Int)):List (List Int×Int):=a.flatMap fun x=>b.map fun y=>(addE 1 x.1 y.1,x.2*y.2)
noncomputable def mulF (f g:Lau):Lau×Bool:=if Right f/\Right g/\f.v=g.v then shutF f.v (prodL (f.ts.map pr) (g.ts.map pr)) else (zeroF,false)
theorem shutF_right (v:Int) (l:List (List Int×Int)):Right (shutF v l).1\/(shutF v l)=(zeroF,false):=by
 unfold shutF
 split
 ·exact .inl (by assumption)
 ·exact .inr rfl
theorem mulF_right (f g:Lau):Right (mulF f g).1\/mulF f g=(zeroF,false):=by
 unfold mulF
 split
 ·exact shutF_right _ _
 ·exact .inr rfl
end Go.Proofs.YtbhkonnakkhibaaGreat.Ab
namespace Go.Proofs.YtbhkonnakkhibaaGreat.Ab
open Go
def TTab:TT:=[
 (2,⟨.int .i64,1,8,[.int .i64 0]⟩),
 (3,⟨.int .i64,1,8,[.int .i64 0]⟩),
 (4,⟨.bool,1,1,[.bool false]⟩),
 (5,⟨.int .u8,1,1,[.int .u8 0]⟩),
 (6,⟨.int .u8,1,1,[.int .u8 0]⟩),
 (9,⟨.str,1,16,[.string .empty]⟩),
 (16,⟨.other,1,8,[.pointer none]⟩),
 (22,⟨.sl 3,1,24,[.slice none 0 0]⟩),
 (24,⟨.st [(0,3),(1,3),(2,22)],3,40,[.int .i64 0,.int .i64 0,.slice none 0 0]⟩),
 (26,⟨.sl 51,1,24,[.slice none 0 0]⟩),
 (29,⟨.st [(0,3),(1,3),(2,22)],3,40,[.int .i64 0,.int .i64 0,.slice none 0 0]⟩),
 (39,⟨.sl 5,1,24,[.slice none 0 0]⟩),
 (42,⟨.st [(0,29),(3,26)],4,64,[.int .i64 0,.int .i64 0,.slice none 0 0,.slice none 0 0]⟩),
 (49,⟨.sl 107,1,24,[.slice none 0 0]⟩),
 (51,⟨.st [(0,3),(1,49)],2,32,[.int .i64 0,.slice none 0 0]⟩),
 (57,⟨.sl 218,1,24,[.slice none 0 0]⟩),
 (59,⟨.st [(0,24),(3,57)],4,64,[.int .i64 0,.int .i64 0,.slice none 0 0,.slice none 0 0]⟩),
 (61,⟨.st [(0,24),(3,22),(4,59)],8,128,[.int .i64 0,.int .i64 0,.slice none 0 0,.slice none 0 0,.int .i64 0,.int .i64 0,.slice none 0 0,.slice none 0 0]⟩),
 (65,⟨.st [(0,29),(3,22),(4,42)],8,128,[.int .i64 0,.int .i64 0,.slice none 0 0,.slice none 0 0,.int .i64 0,.int .i64 0,.slice none 0 0,.slice none 0 0]⟩),
 (86,⟨.sl 29,1,24,[.slice none 0 0]⟩),
 (96,⟨.other,1,8,[.pointer none]⟩),
 (107,⟨.st [(0,22),(1,3)],2,32,[.slice none 0 0,.int .i64 0]⟩),
 (110,⟨.sl 22,1,24,[.slice none 0 0]⟩),
 (114,⟨.sl 165,1,24,[.slice none 0 0]⟩),
 (116,⟨.other,1,8,[.pointer none]⟩),
 (119,⟨.arr 8 3,8,64,[.int .i64 0,.int .i64 0,.int .i64 0,.int .i64 0,.int .i64 0,.int .i64 0,.int .i64 0,.int .i64 0]⟩),
 (129,⟨.sl 186,1,24,[.slice none 0 0]⟩),
 (131,⟨.st [(0,3),(1,129)],2,32,[.int .i64 0,.slice none 0 0]⟩),
 (136,⟨.sl 110,1,24,[.slice none 0 0]⟩),
 (154,⟨.arr 2 51,4,64,[.int .i64 0,.slice none 0 0,.int .i64 0,.slice none 0 0]⟩),
 (157,⟨.st [(0,39),(1,3),(2,3)],3,40,[.slice none 0 0,.int .i64 0,.int .i64 0]⟩),
 (165,⟨.st [(0,3),(1,3)],2,16,[.int .i64 0,.int .i64 0]⟩),
 (175,⟨.map 119 3,1,8,[.map none]⟩),
 (177,⟨.st [(0,3),(1,175)],2,16,[.int .i64 0,.map none]⟩),
 (186,⟨.st [(0,22),(1,3),(2,3)],3,40,[.slice none 0 0,.int .i64 0,.int .i64 0]⟩),
 (191,⟨.other,1,8,[.pointer none]⟩),
 (196,⟨.st [(0,119),(8,3)],9,72,[.int .i64 0,.int .i64 0,.int .i64 0,.int .i64 0,.int .i64 0,.int .i64 0,.int .i64 0,.int .i64 0,.int .i64 0]⟩),
 (199,⟨.map 196 3,1,8,[.map none]⟩),
 (201,⟨.st [(0,3),(1,199)],2,16,[.int .i64 0,.map none]⟩),
 (214,⟨.int .u64,1,8,[.int .u64 0]⟩),
 (216,⟨.sl 261,1,24,[.slice none 0 0]⟩),
 (218,⟨.st [(0,3),(1,216)],2,32,[.int .i64 0,.slice none 0 0]⟩),
 (225,⟨.sl 129,1,24,[.slice none 0 0]⟩),
 (234,⟨.sl 9,1,24,[.slice none 0 0]⟩),
 (261,⟨.st [(0,22),(1,3)],2,32,[.slice none 0 0,.int .i64 0]⟩)]
theorem tt2:tget TTab 2=some ⟨.int .i64,1,8,[.int .i64 0]⟩:=rfl
theorem tt3:tget TTab 3=some ⟨.int .i64,1,8,[.int .i64 0]⟩:=rfl
theorem tt4:tget TTab 4=some ⟨.bool,1,1,[.bool false]⟩:=rfl
theorem tt5:tget TTab 5=some ⟨.int .u8,1,1,[.int .u8 0]⟩:=rfl
theorem tt6:tget TTab 6=some ⟨.int .u8,1,1,[.int .u8 0]⟩:=rfl
theorem tt9:tget TTab 9=some ⟨.str,1,16,[.string .empty]⟩:=rfl
theorem tt16:tget TTab 16=some ⟨.other,1,8,[.pointer none]⟩:=rfl
theorem tt22:tget TTab 22=some ⟨.sl 3,1,24,[.slice none 0 0]⟩:=rfl
theorem tt24:tget TTab 24=some ⟨.st [(0,3),(1,3),(2,22)],3,40,[.int .i64 0,.int .i64 0,.slice none 0 0]⟩:=rfl
theorem tt26:tget TTab 26=some ⟨.sl 51,1,24,[.slice none 0 0]⟩:=rfl
theorem tt29:tget TTab 29=some ⟨.st [(0,3),(1,3),(2,22)],3,40,[.int .i64 0,.int .i64 0,.slice none 0 0]⟩:=rfl
theorem tt39:tget TTab 39=some ⟨.sl 5,1,24,[.slice none 0 0]⟩:=rfl
theorem tt42:tget TTab 42=some ⟨.st [(0,29),(3,26)],4,64,[.int .i64 0,.int .i64 0,.slice none 0 0,.slice none 0 0]⟩:=rfl
theorem tt49:tget TTab 49=some ⟨.sl 107,1,24,[.slice none 0 0]⟩:=rfl
theorem tt51:tget TTab 51=some ⟨.st [(0,3),(1,49)],2,32,[.int .i64 0,.slice none 0 0]⟩:=rfl
theorem tt57:tget TTab 57=some ⟨.sl 218,1,24,[.slice none 0 0]⟩:=rfl
theorem tt59:tget TTab 59=some ⟨.st [(0,24),(3,57)],4,64,[.int .i64 0,.int .i64 0,.slice none 0 0,.slice none 0 0]⟩:=rfl
theorem tt61:tget TTab 61=some ⟨.st [(0,24),(3,22),(4,59)],8,128,[.int .i64 0,.int .i64 0,.slice none 0 0,.slice none 0 0,.int .i64 0,.int .i64 0,.slice none 0 0,.slice none 0 0]⟩:=rfl
theorem tt65:tget TTab 65=some ⟨.st [(0,29),(3,22),(4,42)],8,128,[.int .i64 0,.int .i64 0,.slice none 0 0,.slice none 0 0,.int .i64 0,.int .i64 0,.slice none 0 0,.slice none 0 0]⟩:=rfl
theorem tt86:tget TTab 86=some ⟨.sl 29,1,24,[.slice none 0 0]⟩:=rfl
theorem tt96:tget TTab 96=some ⟨.other,1,8,[.pointer none]⟩:=rfl
theorem tt107:tget TTab 107=some ⟨.st [(0,22),(1,3)],2,32,[.slice none 0 0,.int .i64 0]⟩:=rfl
theorem tt110:tget TTab 110=some ⟨.sl 22,1,24,[.slice none 0 0]⟩:=rfl
theorem tt114:tget TTab 114=some ⟨.sl 165,1,24,[.slice none 0 0]⟩:=rfl
theorem tt116:tget TTab 116=some ⟨.other,1,8,[.pointer none]⟩:=rfl
theorem tt119:tget TTab 119=some ⟨.arr 8 3,8,64,[.int .i64 0,.int .i64 0,.int .i64 0,.int .i64 0,.int .i64 0,.int .i64 0,.int .i64 0,.int .i64 0]⟩:=rfl
theorem tt129:tget TTab 129=some ⟨.sl 186,1,24,[.slice none 0 0]⟩:=rfl
theorem tt131:tget TTab 131=some ⟨.st [(0,3),(1,129)],2,32,[.int .i64 0,.slice none 0 0]⟩:=rfl
theorem tt136:tget TTab 136=some ⟨.sl 110,1,24,[.slice none 0 0]⟩:=rfl
theorem tt154:tget TTab 154=some ⟨.arr 2 51,4,64,[.int .i64 0,.slice none 0 0,.int .i64 0,.slice none 0 0]⟩:=rfl
theorem tt157:tget TTab 157=some ⟨.st [(0,39),(1,3),(2,3)],3,40,[.slice none 0 0,.int .i64 0,.int .i64 0]⟩:=rfl
theorem tt165:tget TTab 165=some ⟨.st [(0,3),(1,3)],2,16,[.int .i64 0,.int .i64 0]⟩:=rfl
theorem tt175:tget TTab 175=some ⟨.map 119 3,1,8,[.map none]⟩:=rfl
theorem tt177:tget TTab 177=some ⟨.st [(0,3),(1,175)],2,16,[.int .i64 0,.map none]⟩:=rfl
theorem tt186:tget TTab 186=some ⟨.st [(0,22),(1,3),(2,3)],3,40,[.slice none 0 0,.int .i64 0,.int .i64 0]⟩:=rfl
theorem tt191:tget TTab 191=some ⟨.other,1,8,[.pointer none]⟩:=rfl
theorem tt196:tget TTab 196=some ⟨.st [(0,119),(8,3)],9,72,[.int .i64 0,.int .i64 0,.int .i64 0,.int .i64 0,.int .i64 0,.int .i64 0,.int .i64 0,.int .i64 0,.int .i64 0]⟩:=rfl
theorem tt199:tget TTab 199=some ⟨.map 196 3,1,8,[.map none]⟩:=rfl
theorem tt201:tget TTab 201=some ⟨.st [(0,3),(1,199)],2,16,[.int .i64 0,.map none]⟩:=rfl
theorem tt214:tget TTab 214=some ⟨.int .u64,1,8,[.int .u64 0]⟩:=rfl
theorem tt216:tget TTab 216=some ⟨.sl 261,1,24,[.slice none 0 0]⟩:=rfl
theorem tt218:tget TTab 218=some ⟨.st [(0,3),(1,216)],2,32,[.int .i64 0,.slice none 0 0]⟩:=rfl
theorem tt225:tget TTab 225=some ⟨.sl 129,1,24,[.slice none 0 0]⟩:=rfl
theorem tt234:tget TTab 234=some ⟨.sl 9,1,24,[.slice none 0 0]⟩:=rfl
theorem tt261:tget TTab 261=some ⟨.st [(0,22),(1,3)],2,32,[.slice none 0 0,.int .i64 0]⟩:=rfl
attribute [simp] tt2 tt3 tt4 tt5 tt6 tt9 tt16 tt22 tt24 tt26 tt29 tt39 tt42 tt49 tt51 tt57 tt59 tt61 tt65 tt86 tt96 tt107 tt110 tt114 tt116 tt119 tt129 tt131 tt136 tt154 tt157 tt165 tt175 tt177 tt186 tt191 tt196 tt199 tt201 tt214 tt216 tt218 tt225 tt234 tt261
def MM:List (Nat×List Bool):=[(17,[true,false]),(18,[true,false]),(19,[true,false]),(68,[true,false]),(71,[true]),(72,[true,false]),(73,[true,false]),(74,[true,false]),(94,[true,false,false]),(95,[true]),(116,[true,false]),(143,[true,false]),(144,[true,true]),(146,[true,false]),(148,[true,false]),(150,[true,false]),(164,[true,false]),(190,[true,false,false]),(191,[true]),(209,[true,false]),(210,[true,true]),(211,[true]),(222,[true,false]),(229,[true,false]),(237,[true,true,false,false,false,false]),(240,[true,false])]
theorem mm0:aget [] MM 0=[]:=rfl
theorem mm1:aget [] MM 1=[]:=rfl
theorem mm2:aget [] MM 2=[]:=rfl
theorem mm3:aget [] MM 3=[]:=rfl
theorem mm4:aget [] MM 4=[]:=rfl
theorem mm5:aget [] MM 5=[]:=rfl
theorem mm6:aget [] MM 6=[]:=rfl
theorem mm7:aget [] MM 7=[]:=rfl
theorem mm8:aget [] MM 8=[]:=rfl
theorem mm9:aget [] MM 9=[]:=rfl
theorem mm10:aget [] MM 10=[]:=rfl
theorem mm11:aget [] MM 11=[]:=rfl
theorem mm12:aget [] MM 12=[]:=rfl
theorem mm13:aget [] MM 13=[]:=rfl
theorem mm14:aget [] MM 14=[]:=rfl
theorem mm15:aget [] MM 15=[]:=rfl
theorem mm16:aget [] MM 16=[]:=rfl
theorem mm17:aget [] MM 17=[true,false]:=rfl
theorem mm18:aget [] MM 18=[true,false]:=rfl
theorem mm19:aget [] MM 19=[true,false]:=rfl
theorem mm20:aget [] MM 20=[]:=rfl
theorem mm21:aget [] MM 21=[]:=rfl
theorem mm22:aget [] MM 22=[]:=rfl
theorem mm23:aget [] MM 23=[]:=rfl
theorem mm24:aget [] MM 24=[]:=rfl
theorem mm25:aget [] MM 25=[]:=rfl
theorem mm26:aget [] MM 26=[]:=rfl
theorem mm27:aget [] MM 27=[]:=rfl
theorem mm28:aget [] MM 28=[]:=rfl
theorem mm29:aget [] MM 29=[]:=rfl
theorem mm30:aget [] MM 30=[]:=rfl
theorem mm31:aget [] MM 31=[]:=rfl
theorem mm32:aget [] MM 32=[]:=rfl
theorem mm33:aget [] MM 33=[]:=rfl
theorem mm34:aget [] MM 34=[]:=rfl
theorem mm35:aget [] MM 35=[]:=rfl
theorem mm36:aget [] MM 36=[]:=rfl
theorem mm37:aget [] MM 37=[]:=rfl
theorem mm38:aget [] MM 38=[]:=rfl
theorem mm39:aget [] MM 39=[]:=rfl
theorem mm40:aget [] MM 40=[]:=rfl
theorem mm41:aget [] MM 41=[]:=rfl
theorem mm42:aget [] MM 42=[]:=rfl
theorem mm43:aget [] MM 43=[]:=rfl
theorem mm44:aget [] MM 44=[]:=rfl
theorem mm45:aget [] MM 45=[]:=rfl
theorem mm46:aget [] MM 46=[]:=rfl
theorem mm47:aget [] MM 47=[]:=rfl
theorem mm48:aget [] MM 48=[]:=rfl
theorem mm49:aget [] MM 49=[]:=rfl
theorem mm50:aget [] MM 50=[]:=rfl
theorem mm51:aget [] MM 51=[]:=rfl
theorem mm52:aget [] MM 52=[]:=rfl
theorem mm53:aget [] MM 53=[]:=rfl
theorem mm54:aget [] MM 54=[]:=rfl
theorem mm55:aget [] MM 55=[]:=rfl
theorem mm56:aget [] MM 56=[]:=rfl
theorem mm57:aget [] MM 57=[]:=rfl
theorem mm58:aget [] MM 58=[]:=rfl
theorem mm59:aget [] MM 59=[]:=rfl
theorem mm60:aget [] MM 60=[]:=rfl
theorem mm61:aget [] MM 61=[]:=rfl
theorem mm62:aget [] MM 62=[]:=rfl
theorem mm63:aget [] MM 63=[]:=rfl
theorem mm64:aget [] MM 64=[]:=rfl
theorem mm65:aget [] MM 65=[]:=rfl
theorem mm66:aget [] MM 66=[]:=rfl
theorem mm67:aget [] MM 67=[]:=rfl
theorem mm68:aget [] MM 68=[true,false]:=rfl
theorem mm69:aget [] MM 69=[]:=rfl
theorem mm70:aget [] MM 70=[]:=rfl
theorem mm71:aget [] MM 71=[true]:=rfl
theorem mm72:aget [] MM 72=[true,false]:=rfl
theorem mm73:aget [] MM 73=[true,false]:=rfl
theorem mm74:aget [] MM 74=[true,false]:=rfl
theorem mm75:aget [] MM 75=[]:=rfl
theorem mm76:aget [] MM 76=[]:=rfl
theorem mm77:aget [] MM 77=[]:=rfl
theorem mm78:aget [] MM 78=[]:=rfl
theorem mm79:aget [] MM 79=[]:=rfl
theorem mm80:aget [] MM 80=[]:=rfl
theorem mm81:aget [] MM 81=[]:=rfl
theorem mm82:aget [] MM 82=[]:=rfl
theorem mm83:aget [] MM 83=[]:=rfl
theorem mm84:aget [] MM 84=[]:=rfl
theorem mm85:aget [] MM 85=[]:=rfl
theorem mm86:aget [] MM 86=[]:=rfl
theorem mm87:aget [] MM 87=[]:=rfl
theorem mm88:aget [] MM 88=[]:=rfl
theorem mm89:aget [] MM 89=[]:=rfl
theorem mm90:aget [] MM 90=[]:=rfl
theorem mm91:aget [] MM 91=[]:=rfl
theorem mm92:aget [] MM 92=[]:=rfl
theorem mm93:aget [] MM 93=[]:=rfl
theorem mm94:aget [] MM 94=[true,false,false]:=rfl
theorem mm95:aget [] MM 95=[true]:=rfl
theorem mm96:aget [] MM 96=[]:=rfl
theorem mm97:aget [] MM 97=[]:=rfl
theorem mm98:aget [] MM 98=[]:=rfl
theorem mm99:aget [] MM 99=[]:=rfl
theorem mm100:aget [] MM 100=[]:=rfl
theorem mm101:aget [] MM 101=[]:=rfl
theorem mm102:aget [] MM 102=[]:=rfl
theorem mm103:aget [] MM 103=[]:=rfl
theorem mm104:aget [] MM 104=[]:=rfl
theorem mm105:aget [] MM 105=[]:=rfl
theorem mm106:aget [] MM 106=[]:=rfl
theorem mm107:aget [] MM 107=[]:=rfl
theorem mm108:aget [] MM 108=[]:=rfl
theorem mm109:aget [] MM 109=[]:=rfl
theorem mm110:aget [] MM 110=[]:=rfl
theorem mm111:aget [] MM 111=[]:=rfl
theorem mm112:aget [] MM 112=[]:=rfl
theorem mm113:aget [] MM 113=[]:=rfl
theorem mm114:aget [] MM 114=[]:=rfl
theorem mm115:aget [] MM 115=[]:=rfl
theorem mm116:aget [] MM 116=[true,false]:=rfl
theorem mm117:aget [] MM 117=[]:=rfl
theorem mm118:aget [] MM 118=[]:=rfl
theorem mm119:aget [] MM 119=[]:=rfl
theorem mm120:aget [] MM 120=[]:=rfl
theorem mm121:aget [] MM 121=[]:=rfl
theorem mm122:aget [] MM 122=[]:=rfl
theorem mm123:aget [] MM 123=[]:=rfl
theorem mm124:aget [] MM 124=[]:=rfl
theorem mm125:aget [] MM 125=[]:=rfl
theorem mm126:aget [] MM 126=[]:=rfl
theorem mm127:aget [] MM 127=[]:=rfl
theorem mm128:aget [] MM 128=[]:=rfl
theorem mm129:aget [] MM 129=[]:=rfl
theorem mm130:aget [] MM 130=[]:=rfl
theorem mm131:aget [] MM 131=[]:=rfl
theorem mm132:aget [] MM 132=[]:=rfl
theorem mm133:aget [] MM 133=[]:=rfl
theorem mm134:aget [] MM 134=[]:=rfl
theorem mm135:aget [] MM 135=[]:=rfl
theorem mm136:aget [] MM 136=[]:=rfl
theorem mm137:aget [] MM 137=[]:=rfl
theorem mm138:aget [] MM 138=[]:=rfl
theorem mm139:aget [] MM 139=[]:=rfl
theorem mm140:aget [] MM 140=[]:=rfl
theorem mm141:aget [] MM 141=[]:=rfl
theorem mm142:aget [] MM 142=[]:=rfl
theorem mm143:aget [] MM 143=[true,false]:=rfl
theorem mm144:aget [] MM 144=[true,true]:=rfl
theorem mm145:aget [] MM 145=[]:=rfl
theorem mm146:aget [] MM 146=[true,false]:=rfl
theorem mm147:aget [] MM 147=[]:=rfl
theorem mm148:aget [] MM 148=[true,false]:=rfl
theorem mm149:aget [] MM 149=[]:=rfl
theorem mm150:aget [] MM 150=[true,false]:=rfl
theorem mm151:aget [] MM 151=[]:=rfl
theorem mm152:aget [] MM 152=[]:=rfl
theorem mm153:aget [] MM 153=[]:=rfl
theorem mm154:aget [] MM 154=[]:=rfl
theorem mm155:aget [] MM 155=[]:=rfl
theorem mm156:aget [] MM 156=[]:=rfl
theorem mm157:aget [] MM 157=[]:=rfl
theorem mm158:aget [] MM 158=[]:=rfl
theorem mm159:aget [] MM 159=[]:=rfl
theorem mm160:aget [] MM 160=[]:=rfl
theorem mm161:aget [] MM 161=[]:=rfl
theorem mm162:aget [] MM 162=[]:=rfl
theorem mm163:aget [] MM 163=[]:=rfl
theorem mm164:aget [] MM 164=[true,false]:=rfl
theorem mm165:aget [] MM 165=[]:=rfl
theorem mm166:aget [] MM 166=[]:=rfl
theorem mm167:aget [] MM 167=[]:=rfl
theorem mm168:aget [] MM 168=[]:=rfl
theorem mm169:aget [] MM 169=[]:=rfl
theorem mm170:aget [] MM 170=[]:=rfl
theorem mm171:aget [] MM 171=[]:=rfl
theorem mm172:aget [] MM 172=[]:=rfl
theorem mm173:aget [] MM 173=[]:=rfl
theorem mm174:aget [] MM 174=[]:=rfl
theorem mm175:aget [] MM 175=[]:=rfl
theorem mm176:aget [] MM 176=[]:=rfl
theorem mm177:aget [] MM 177=[]:=rfl
theorem mm178:aget [] MM 178=[]:=rfl
theorem mm179:aget [] MM 179=[]:=rfl
theorem mm180:aget [] MM 180=[]:=rfl
theorem mm181:aget [] MM 181=[]:=rfl
theorem mm182:aget [] MM 182=[]:=rfl
theorem mm183:aget [] MM 183=[]:=rfl
theorem mm184:aget [] MM 184=[]:=rfl
theorem mm185:aget [] MM 185=[]:=rfl
theorem mm186:aget [] MM 186=[]:=rfl
theorem mm187:aget [] MM 187=[]:=rfl
theorem mm188:aget [] MM 188=[]:=rfl
theorem mm189:aget [] MM 189=[]:=rfl
theorem mm190:aget [] MM 190=[true,false,false]:=rfl
theorem mm191:aget [] MM 191=[true]:=rfl
theorem mm192:aget [] MM 192=[]:=rfl
theorem mm193:aget [] MM 193=[]:=rfl
theorem mm194:aget [] MM 194=[]:=rfl
theorem mm195:aget [] MM 195=[]:=rfl
theorem mm196:aget [] MM 196=[]:=rfl
theorem mm197:aget [] MM 197=[]:=rfl
theorem mm198:aget [] MM 198=[]:=rfl
theorem mm199:aget [] MM 199=[]:=rfl
theorem mm200:aget [] MM 200=[]:=rfl
theorem mm201:aget [] MM 201=[]:=rfl
theorem mm202:aget [] MM 202=[]:=rfl
theorem mm203:aget [] MM 203=[]:=rfl
theorem mm204:aget [] MM 204=[]:=rfl
theorem mm205:aget [] MM 205=[]:=rfl
theorem mm206:aget [] MM 206=[]:=rfl
theorem mm207:aget [] MM 207=[]:=rfl
theorem mm208:aget [] MM 208=[]:=rfl
theorem mm209:aget [] MM 209=[true,false]:=rfl
theorem mm210:aget [] MM 210=[true,true]:=rfl
theorem mm211:aget [] MM 211=[true]:=rfl
theorem mm212:aget [] MM 212=[]:=rfl
theorem mm213:aget [] MM 213=[]:=rfl
theorem mm214:aget [] MM 214=[]:=rfl
theorem mm215:aget [] MM 215=[]:=rfl
theorem mm216:aget [] MM 216=[]:=rfl
theorem mm217:aget [] MM 217=[]:=rfl
theorem mm218:aget [] MM 218=[]:=rfl
theorem mm219:aget [] MM 219=[]:=rfl
theorem mm220:aget [] MM 220=[]:=rfl
theorem mm221:aget [] MM 221=[]:=rfl
theorem mm222:aget [] MM 222=[true,false]:=rfl
theorem mm223:aget [] MM 223=[]:=rfl
theorem mm224:aget [] MM 224=[]:=rfl
theorem mm225:aget [] MM 225=[]:=rfl
theorem mm226:aget [] MM 226=[]:=rfl
theorem mm227:aget [] MM 227=[]:=rfl
theorem mm228:aget [] MM 228=[]:=rfl
theorem mm229:aget [] MM 229=[true,false]:=rfl
theorem mm230:aget [] MM 230=[]:=rfl
theorem mm231:aget [] MM 231=[]:=rfl
theorem mm232:aget [] MM 232=[]:=rfl
theorem mm233:aget [] MM 233=[]:=rfl
theorem mm234:aget [] MM 234=[]:=rfl
theorem mm235:aget [] MM 235=[]:=rfl
theorem mm236:aget [] MM 236=[]:=rfl
theorem mm237:aget [] MM 237=[true,true,false,false,false,false]:=rfl
theorem mm238:aget [] MM 238=[]:=rfl
theorem mm239:aget [] MM 239=[]:=rfl
theorem mm240:aget [] MM 240=[true,false]:=rfl
theorem mm241:aget [] MM 241=[]:=rfl
theorem mm242:aget [] MM 242=[]:=rfl
theorem mm243:aget [] MM 243=[]:=rfl
theorem mm244:aget [] MM 244=[]:=rfl
theorem mm245:aget [] MM 245=[]:=rfl
theorem mm246:aget [] MM 246=[]:=rfl
theorem mm247:aget [] MM 247=[]:=rfl
theorem mm248:aget [] MM 248=[]:=rfl
theorem mm249:aget [] MM 249=[]:=rfl
theorem mm250:aget [] MM 250=[]:=rfl
theorem mm251:aget [] MM 251=[]:=rfl
theorem mm252:aget [] MM 252=[]:=rfl
theorem mm253:aget [] MM 253=[]:=rfl
theorem mm254:aget [] MM 254=[]:=rfl
theorem mm255:aget [] MM 255=[]:=rfl
theorem mm256:aget [] MM 256=[]:=rfl
theorem mm257:aget [] MM 257=[]:=rfl
theorem mm258:aget [] MM 258=[]:=rfl
theorem mm259:aget [] MM 259=[]:=rfl
theorem mm260:aget [] MM 260=[]:=rfl
theorem mm261:aget [] MM 261=[]:=rfl
theorem mm262:aget [] MM 262=[]:=rfl
theorem mm263:aget [] MM 263=[]:=rfl
theorem mm264:aget [] MM 264=[]:=rfl
theorem mm265:aget [] MM 265=[]:=rfl
theorem mm266:aget [] MM 266=[]:=rfl
theorem mm267:aget [] MM 267=[]:=rfl
theorem mm268:aget [] MM 268=[]:=rfl
theorem mm269:aget [] MM 269=[]:=rfl
theorem mm270:aget [] MM 270=[]:=rfl
theorem mm271:aget [] MM 271=[]:=rfl
theorem mm272:aget [] MM 272=[]:=rfl
theorem mm273:aget [] MM 273=[]:=rfl
theorem mm274:aget [] MM 274=[]:=rfl
theorem mm275:aget [] MM 275=[]:=rfl
theorem mm276:aget [] MM 276=[]:=rfl
theorem mm277:aget [] MM 277=[]:=rfl
theorem mm278:aget [] MM 278=[]:=rfl
theorem mm279:aget [] MM 279=[]:=rfl
theorem mm280:aget [] MM 280=[]:=rfl
theorem mm281:aget [] MM 281=[]:=rfl
theorem mm282:aget [] MM 282=[]:=rfl
theorem mm283:aget [] MM 283=[]:=rfl
theorem mm284:aget [] MM 284=[]:=rfl
theorem mm285:aget [] MM 285=[]:=rfl
theorem mm286:aget [] MM 286=[]:=rfl
theorem mm287:aget [] MM 287=[]:=rfl
theorem mm288:aget [] MM 288=[]:=rfl
theorem mm289:aget [] MM 289=[]:=rfl
theorem mm290:aget [] MM 290=[]:=rfl
theorem mm291:aget [] MM 291=[]:=rfl
theorem mm292:aget [] MM 292=[]:=rfl
theorem mm293:aget [] MM 293=[]:=rfl
theorem mm294:aget [] MM 294=[]:=rfl
theorem mm295:aget [] MM 295=[]:=rfl
theorem mm296:aget [] MM 296=[]:=rfl
attribute [simp] mm0 mm1 mm2 mm3 mm4 mm5 mm6 mm7 mm8 mm9 mm10 mm11 mm12 mm13 mm14 mm15 mm16 mm17 mm18 mm19 mm20 mm21 mm22 mm23 mm24 mm25 mm26 mm27 mm28 mm29 mm30 mm31 mm32 mm33 mm34 mm35 mm36 mm37 mm38 mm39 mm40 mm41 mm42 mm43 mm44 mm45 mm46 mm47 mm48 mm49 mm50 mm51 mm52 mm53 mm54 mm55 mm56 mm57 mm58 mm59 mm60 mm61 mm62 mm63 mm64 mm65 mm66 mm67 mm68 mm69 mm70 mm71 mm72 mm73 mm74 mm75 mm76 mm77 mm78 mm79 mm80 mm81 mm82 mm83 mm84 mm85 mm86 mm87 mm88 mm89 mm90 mm91 mm92 mm93 mm94 mm95 mm96 mm97 mm98 mm99 mm100 mm101 mm102 mm103 mm104 mm105 mm106 mm107 mm108 mm109 mm110 mm111 mm112 mm113 mm114 mm115 mm116 mm117 mm118 mm119 mm120 mm121 mm122 mm123 mm124 mm125 mm126 mm127 mm128 mm129 mm130 mm131 mm132 mm133 mm134 mm135 mm136 mm137 mm138 mm139 mm140 mm141 mm142 mm143 mm144 mm145 mm146 mm147 mm148 mm149 mm150 mm151 mm152 mm153 mm154 mm155 mm156 mm157 mm158 mm159 mm160 mm161 mm162 mm163 mm164 mm165 mm166 mm167 mm168 mm169 mm170 mm171 mm172 mm173 mm174 mm175 mm176 mm177 mm178 mm179 mm180 mm181 mm182 mm183 mm184 mm185 mm186 mm187 mm188 mm189 mm190 mm191 mm192 mm193 mm194 mm195 mm196 mm197 mm198 mm199 mm200 mm201 mm202 mm203 mm204 mm205 mm206 mm207 mm208 mm209 mm210 mm211 mm212 mm213 mm214 mm215 mm216 mm217 mm218 mm219 mm220 mm221 mm222 mm223 mm224 mm225 mm226 mm227 mm228 mm229 mm230 mm231 mm232 mm233 mm234 mm235 mm236 mm237 mm238 mm239 mm240 mm241 mm242 mm243 mm244 mm245 mm246 mm247 mm248 mm249 mm250 mm251 mm252 mm253 mm254 mm255 mm256 mm257 mm258 mm259 mm260 mm261 mm262 mm263 mm264 mm265 mm266 mm267 mm268 mm269 mm270 mm271 mm272 mm273 mm274 mm275 mm276 mm277 mm278 mm279 mm280 mm281 mm282 mm283 mm284 mm285 mm286 mm287 mm288 mm289 mm290 mm291 mm292 mm293 mm294 mm295 mm296
namespace F
abbrev laws_FnSeedsBack:Nat:=4
abbrev laws_big:Nat:=21
abbrev spec_DrawMutateSeed:Nat:=22
abbrev impl_MutateSeed:Nat:=23
abbrev spec_MutateSeed:Nat:=24
abbrev laws_seeds:Nat:=25
abbrev impl_SeedOk:Nat:=26
abbrev spec_ConstantLaurent:Nat:=27
abbrev laws_entry:Nat:=28
abbrev laws_times:Nat:=29
abbrev laws_laurents:Nat:=30
abbrev laws_plus:Nat:=31
abbrev impl_MutateMatrix:Nat:=52
abbrev laws_matrices:Nat:=55
abbrev spec_MonomialLaurent:Nat:=58
abbrev spec_l3Unit:Nat:=59
abbrev spec_l3Exchange:Nat:=60
abbrev spec_l3Column:Nat:=61
abbrev impl_ConstantLaurent:Nat:=63
abbrev impl_exchange:Nat:=66
abbrev spec_l1New:Nat:=70
abbrev spec_dSeed:Nat:=71
abbrev spec_l1Once:Nat:=72
abbrev spec_dLaurent:Nat:=73
abbrev spec_dIndex:Nat:=74
abbrev impl_within:Nat:=75
abbrev impl_copySeed:Nat:=76
abbrev spec_SeedOk:Nat:=77
abbrev spec_l1In:Nat:=78
abbrev spec_l3Mutate:Nat:=79
abbrev laws_lists:Nat:=80
abbrev impl_MatrixOk:Nat:=81
abbrev slices_ContainsFunc_impl_Laurent_impl_Laurent:Nat:=82
abbrev impl_SeedOk_1:Nat:=83
abbrev impl_LaurentOk:Nat:=84
abbrev impl_MulLaurents:Nat:=85
abbrev laws_ints:Nat:=86
abbrev impl_AddLaurents:Nat:=87
abbrev spec_l2Shut:Nat:=89
abbrev impl_newBuilding:Nat:=92
abbrev impl_Matrix_at:Nat:=93
abbrev impl_building_add:Nat:=94
abbrev impl_building_done:Nat:=95
abbrev impl_DivideLaurents:Nat:=118
abbrev spec_MulLaurents:Nat:=119
abbrev spec_AddLaurents:Nat:=120
abbrev spec_DivideLaurents:Nat:=121
abbrev slices_ContainsFunc_int_int:Nat:=122
abbrev impl_mutated:Nat:=129
abbrev slices_Clone_int_int:Nat:=131
abbrev spec_MutateMatrix:Nat:=134
abbrev spec_l1Ints:Nat:=135
abbrev spec_l2Right:Nat:=136
abbrev spec_l3Product:Nat:=137
abbrev spec_l1At:Nat:=138
abbrev impl_expOk:Nat:=140
abbrev spec_dFinite:Nat:=143
abbrev spec_dFrozen:Nat:=144
abbrev spec_l3Initial:Nat:=145
abbrev spec_l1Below:Nat:=146
abbrev spec_l2Key:Nat:=147
abbrev spec_dExp:Nat:=148
abbrev spec_l2Gather:Nat:=149
abbrev spec_l1PickInt:Nat:=150
abbrev impl_copyLaurent:Nat:=151
abbrev spec_MatrixOk:Nat:=152
abbrev spec_l3CopyLaurent:Nat:=153
abbrev impl_shaped:Nat:=154
abbrev impl_factors:Nat:=155
abbrev slices_IndexFunc_impl_Laurent_impl_Laurent:Nat:=156
abbrev impl_coefOk:Nat:=157
abbrev slices_Compare_int_int:Nat:=158
abbrev impl_bothOk:Nat:=159
abbrev impl_plusExp:Nat:=160
abbrev impl_keyOf:Nat:=161
abbrev spec_l2Exp:Nat:=163
abbrev slices_SortFunc_impl_Term_impl_Term:Nat:=164
abbrev impl_building_done_1:Nat:=165
abbrev spec_l1CopyMatrix:Nat:=167
abbrev spec_l2Two:Nat:=195
abbrev spec_l2Times:Nat:=196
abbrev spec_l2Open:Nat:=197
abbrev spec_l2Base:Nat:=198
abbrev spec_l2Plus:Nat:=199
abbrev spec_l2Divide:Nat:=200
abbrev slices_IndexFunc_int_int:Nat:=201
abbrev spec_l1Mutate:Nat:=204
abbrev spec_l1Sizes:Nat:=205
abbrev spec_l1Less:Nat:=206
abbrev impl_expOk_1:Nat:=207
abbrev spec_dTree:Nat:=209
abbrev spec_dMoved:Nat:=210
abbrev spec_l1Byte:Nat:=211
abbrev spec_l1Factors:Nat:=212
abbrev impl_shaped_1:Nat:=213
abbrev impl_gcd:Nat:=214
abbrev cmp_Compare_int:Nat:=215
abbrev spec_l2Least:Nat:=233
abbrev spec_l2Most:Nat:=234
abbrev spec_dZero:Nat:=236
abbrev spec_dJoin:Nat:=237
abbrev spec_FormatInt:Nat:=238
abbrev spec_l1Rename:Nat:=239
abbrev spec_dNames:Nat:=240
abbrev spec_l1Piece:Nat:=241
abbrev spec_l1Abs:Nat:=242
abbrev spec_l1Gcd:Nat:=243
abbrev cmp_isNaN_int:Nat:=244
abbrev spec_l1Has:Nat:=260
end F
namespace C
noncomputable def spec_l1Ints:Ctx:={ P:=Tryz.prog,T:=TTab,M:=MM,nW:=0,kp:=[(0,[0]),(1,[2])],lp:=[],pl:=[] }
noncomputable def spec_l1CopyMatrix:Ctx:={ P:=Tryz.prog,T:=TTab,M:=MM,nW:=0,kp:=[(0,[1,2]),(1,[2])],lp:=[],pl:=[(1,.take 0 (.take 1 (.take 2 (.take 3 (.take 4 (.take 5 (.all [(6,.take 7 (.all [(8,.done)]))])))))))] }
noncomputable def spec_l1In:Ctx:={ P:=Tryz.prog,T:=TTab,M:=MM,nW:=0,kp:=[(0,[0,1,2]),(1,[6])],lp:=[],pl:=[] }
noncomputable def spec_l1Less:Ctx:={ P:=Tryz.prog,T:=TTab,M:=MM,nW:=0,kp:=[(0,[0,1]),(1,[0,1,5]),(2,[0,1,5,15]),(3,[0,1,5]),(4,[0,1,5,26]),(5,[4]),(6,[4])],lp:=[(0,[0,1,5])],pl:=[(4,.take 0 (.take 1 (.take 2 (.take 3 (.take 4 (.take 5 (.take 6 (.take 7 (.take 8 (.done)))))))))),(5,.take 0 (.take 1 (.take 2 (.take 3 (.take 4 (.take 5 (.take 6 (.take 7 (.take 8 (.take 9 (.done)))))))))))] }
noncomputable def spec_l2Right:Ctx:={ P:=Tryz.prog,T:=TTab,M:=MM,nW:=0,kp:=[(0,[1]),(1,[1,15]),(2,[2]),(3,[1,3]),(4,[1,3,20]),(5,[1,3]),(6,[1,3,4]),(7,[1,3,4,61]),(8,[2]),(9,[1,3,4,5]),(10,[1,3,4,5,65]),(11,[1,3,4,5]),(12,[1,3,4,5,74]),(13,[2]),(14,[2])],lp:=[(0,[1,3]),(2,[1,3,4,5])],pl:=[(7,.take 0 (.take 1 (.take 2 (.take 3 (.take 4 (.take 5 (.take 6 (.take 7 (.take 8 (.take 9 (.take 10 (.take 11 (.take 12 (.take 13 (.all [(14,.take 15 (.take 16 (.take 17 (.take 18 (.take 19 (.take 20 (.take 21 (.take 22 (.take 23 (.take 24 (.take 25 (.take 26 (.take 27 (.take 28 (.take 29 (.all [(30,.take 31 (.take 32 (.take 33 (.done))))]))))))))))))))))])))))))))))))))] }
noncomputable def spec_MonomialLaurent:Ctx:={ P:=Tryz.prog,T:=TTab,M:=MM,nW:=0,kp:=[(0,[0,2]),(1,[2,3]),(2,[2,3,13]),(3,[2]),(4,[2])],lp:=[],pl:=[] }
noncomputable def spec_l3Unit:Ctx:={ P:=Tryz.prog,T:=TTab,M:=MM,nW:=0,kp:=[(0,[0,1]),(1,[1,5]),(2,[5]),(3,[4])],lp:=[],pl:=[] }
noncomputable def spec_l3Initial:Ctx:={ P:=Tryz.prog,T:=TTab,M:=MM,nW:=0,kp:=[(0,[1,2]),(1,[1,2,3]),(2,[1,2,3,4]),(3,[1,2,3,4,11]),(4,[1,2,3,4]),(5,[1,2,3,4]),(6,[2])],lp:=[(0,[1,2,3,4])],pl:=[(5,.take 0 (.take 1 (.take 2 (.take 3 (.take 4 (.all [(5,.all [(6,.all [(7,.all [(8,.take 9 (.all [(10,.done)]))])])])]))))))] }
noncomputable def impl_within:Ctx:={ P:=Tryz.prog,T:=TTab,M:=MM,nW:=0,kp:=[(0,[0,1,2]),(1,[6])],lp:=[],pl:=[] }
noncomputable def slices_IndexFunc_int_int:Ctx:={ P:=Tryz.prog,T:=TTab,M:=MM,nW:=0,kp:=[(0,[0,1]),(1,[0,1,7,8]),(2,[0,1,7,8,9]),(3,[0,1,5,7,8]),(4,[0,1,5,7,8,16]),(5,[4]),(6,[0,1,7,8]),(7,[4])],lp:=[(0,[0,1,7,8])],pl:=[] }
noncomputable def slices_ContainsFunc_int_int:Ctx:={ P:=Tryz.prog,T:=TTab,M:=MM,nW:=0,kp:=[(0,[0,1]),(1,[4])],lp:=[],pl:=[] }
noncomputable def impl_shaped_1:Ctx:={ P:=Tryz.prog,T:=TTab,M:=MM,nW:=0,kp:=[(0,[0]),(1,[2])],lp:=[],pl:=[] }
noncomputable def impl_shaped:Ctx:={ P:=Tryz.prog,T:=TTab,M:=MM,nW:=0,kp:=[(0,[1]),(1,[2])],lp:=[],pl:=[] }
noncomputable def impl_Matrix_at:Ctx:={ P:=Tryz.prog,T:=TTab,M:=MM,nW:=0,kp:=[(0,[1,2,3]),(1,[6])],lp:=[],pl:=[] }
noncomputable def impl_gcd:Ctx:={ P:=Tryz.prog,T:=TTab,M:=MM,nW:=0,kp:=[(0,[0,1]),(1,[0,1,6]),(2,[0,1]),(3,[4])],lp:=[(0,[0,1])],pl:=[(2,.take 0 (.take 1 (.take 2 (.take 3 (.take 4 (.take 5 (.done)))))))] }
noncomputable def impl_factors:Ctx:={ P:=Tryz.prog,T:=TTab,M:=MM,nW:=0,kp:=[(0,[1]),(1,[1,3,4]),(2,[1,3,4,5]),(3,[1,3,4,5,34,35]),(4,[1,3,4,5,34,35,36]),(5,[1,3,4,5,6,34,35]),(6,[1,3,4,5,6,34,35,42]),(7,[1,3,4,5,6,34,35]),(8,[1,3,4,5,7,34,35]),(9,[1,3,4,5,7,8,34,35]),(10,[1,3,4,5,7,8,34,35,54]),(11,[1,3,4,5,7,8,34,35]),(12,[1,3,4,5,7,8,9,34,35]),(13,[1,3,4,5,7,8,9,34,35,62,63]),(14,[1,3,4,5,7,8,9,34,35,62,63,64]),(15,[1,3,4,5,7,8,9,10,34,35,62,63]),(16,[1,3,4,5,7,8,9,10,11,12,34,35,62,63]),(17,[1,3,4,5,7,8,9,10,11,12,34,35,62,63,80]),(18,[1,3,4,5,7,8,9,10,11,12,34,35,62,63,98]),(19,[2]),(20,[1,3,4,5,7,8,9,10,13,14,34,35,62,63]),(21,[1,3,4,5,7,8,9,10,13,14,15,34,35,62,63]),(22,[1,3,4,5,7,8,9,10,13,14,34,35,62,63]),(23,[1,3,4,5,7,8,9,10,13,14,34,35,62,63,130]),(24,[1,3,4,5,7,8,9,10,34,35,62,63]),(25,[1,3,4,5,7,8,9,34,35,62,63]),(26,[1,3,4,5,7,8,9,34,35,62,63,156]),(27,[2]),(28,[1,3,4,5,7,8,9,34,35,62,63]),(29,[1,3,4,5,7,16,34,35]),(30,[1,3,4,5,7,16,34,35,158,159,160]),(31,[1,3,4,5,7,16,34,35,158,159,160,161]),(32,[1,3,4,5,7,16,18,34,35,158,159,160]),(33,[1,3,4,5,7,16,34,35,158,159,160]),(34,[1,3,4,5,7,16,34,35,158,159,160]),(35,[1,3,4,5,7,16,19,34,35]),(36,[1,3,4,5,7,16,19,34,35,178,179,180]),(37,[1,3,4,5,7,16,19,34,35,178,179,180,181]),(38,[1,3,4,5,7,16,19,21,34,35,178,179,180]),(39,[1,3,4,5,7,16,19,21,34,35,178,179,180]),(40,[1,3,4,5,7,16,19,34,35,178,179,180]),(41,[1,3,4,5,7,16,19,34,35,178,179,180]),(42,[1,3,4,5,19,34,35,205,206,207]),(43,[1,3,4,5,19,34,35,205,206,207,208]),(44,[1,3,4,5,19,23,34,35,205,206,207]),(45,[1,3,4,5,19,34,35,205,206,207]),(46,[1,3,4,5,19,34,35,205,206,207]),(47,[1,3,4,5,34,35]),(48,[2])],lp:=[(0,[1,3,4,5,34,35]),(2,[1,3,4,5,7,8,34,35]),(4,[1,3,4,5,7,8,9,34,35,62,63]),(6,[1,3,4,5,7,16,34,35,158,159,160]),(8,[1,3,4,5,7,16,19,34,35,178,179,180]),(10,[1,3,4,5,19,34,35,205,206,207])],pl:=[(1,.take 0 (.take 1 (.take 3 (.take 4 (.all [(2,.take 6 (.all [(5,.take 7 (.done))])),(5,.all [(2,.take 6 (.take 7 (.done)))])]))))),(16,.take 0 (.take 1 (.take 2 (.take 4 (.take 5 (.take 6 (.all [(3,.all [(7,.take 8 (.take 9 (.take 10 (.done))))])]))))))),(20,.take 0 (.take 1 (.take 2 (.take 3 (.take 4 (.take 5 (.take 6 (.take 7 (.take 8 (.take 9 (.take 10 (.take 11 (.take 12 (.take 13 (.take 14 (.take 15 (.take 16 (.take 17 (.take 18 (.take 19 (.done))))))))))))))))))))),(22,.take 0 (.take 1 (.take 2 (.take 3 (.take 4 (.take 5 (.take 6 (.take 7 (.done))))))))),(33,.take 0 (.take 1 (.take 2 (.take 3 (.take 4 (.take 5 (.take 8 (.take 9 (.take 10 (.take 11 (.all [(6,.take 7 (.take 12 (.take 13 (.done))))]))))))))))),(39,.take 0 (.take 1 (.take 2 (.take 3 (.take 4 (.take 5 (.take 6 (.take 7 (.take 8 (.take 9 (.take 10 (.take 11 (.take 12 (.take 13 (.all [(14,.done)])))))))))))))))] }
noncomputable def impl_MatrixOk:Ctx:={ P:=Tryz.prog,T:=TTab,M:=MM,nW:=0,kp:=[(0,[1]),(1,[2])],lp:=[],pl:=[] }
noncomputable def slices_Clone_int_int:Ctx:={ P:=Tryz.prog,T:=TTab,M:=MM,nW:=0,kp:=[(0,[0]),(1,[0,4]),(2,[2]),(3,[2])],lp:=[],pl:=[] }
noncomputable def impl_expOk_1:Ctx:={ P:=Tryz.prog,T:=TTab,M:=MM,nW:=0,kp:=[(0,[0]),(1,[2])],lp:=[],pl:=[] }
noncomputable def impl_expOk:Ctx:={ P:=Tryz.prog,T:=TTab,M:=MM,nW:=0,kp:=[(0,[0,1]),(1,[4])],lp:=[],pl:=[] }
noncomputable def impl_copyLaurent:Ctx:={ P:=Tryz.prog,T:=TTab,M:=MM,nW:=0,kp:=[(0,[1,2]),(1,[1,2,3]),(2,[2,3,10,11,12]),(3,[2,3,10,11,12,13]),(4,[2,3,5,10,11,12]),(5,[2,3,10,11,12]),(6,[2,3,10,11,12]),(7,[2])],lp:=[(0,[2,3,10,11,12])],pl:=[(5,.take 0 (.take 1 (.take 2 (.take 3 (.take 5 (.take 6 (.all [(4,.take 7 (.all [(8,.all [(9,.take 10 (.all [(11,.done)]))])]))])))))))] }
noncomputable def impl_copySeed:Ctx:={ P:=Tryz.prog,T:=TTab,M:=MM,nW:=0,kp:=[(0,[1,2]),(1,[1,2,3]),(2,[2,3,19,20,21]),(3,[2,3,19,20,21,22]),(4,[2,3,5,19,20,21]),(5,[2,3,19,20,21]),(6,[2,3,19,20,21]),(7,[2])],lp:=[(0,[2,3,19,20,21])],pl:=[(1,.take 0 (.take 1 (.take 2 (.take 3 (.take 4 (.take 5 (.take 6 (.take 7 (.take 8 (.all [(9,.take 10 (.take 11 (.all [(12,.all [(13,.done)])]))),(12,.all [(9,.take 10 (.take 11 (.all [(13,.done)])))])])))))))))),(5,.take 0 (.take 1 (.take 2 (.all [(3,.all [(4,.all [(5,.take 6 (.all [(7,.done)]))])])]))))] }
noncomputable def spec_l2Two:Ctx:={ P:=Tryz.prog,T:=TTab,M:=MM,nW:=0,kp:=[(0,[2,3]),(1,[4])],lp:=[],pl:=[] }
noncomputable def spec_l2Exp:Ctx:={ P:=Tryz.prog,T:=TTab,M:=MM,nW:=0,kp:=[(0,[0,1]),(1,[0,1,5]),(2,[0,5,6]),(3,[0,5,6,12]),(4,[0,5,6]),(5,[0,5,6]),(6,[0,5,6]),(7,[4])],lp:=[(0,[0,5,6])],pl:=[] }
noncomputable def spec_l2Shut:Ctx:={ P:=Tryz.prog,T:=TTab,M:=MM,nW:=0,kp:=[(0,[0,1,4]),(1,[0,1,4,10]),(2,[4,5]),(3,[0,1,4,6]),(4,[0,1,4,6,7]),(5,[0,1,4,6,7,18]),(6,[0,1,4,6,7]),(7,[0,1,4,6,7]),(8,[4,6,41]),(9,[4,5]),(10,[4,5])],lp:=[(0,[0,1,4,6,7])],pl:=[(7,.take 0 (.take 1 (.take 2 (.take 3 (.take 4 (.take 5 (.take 6 (.take 7 (.take 9 (.take 10 (.take 11 (.take 12 (.take 13 (.all [(8,.take 14 (.all [(15,.all [(16,.take 17 (.all [(18,.done)]))])]))]))))))))))))))] }
noncomputable def spec_l2Key:Ctx:={ P:=Tryz.prog,T:=TTab,M:=MM,nW:=0,kp:=[(0,[0]),(1,[0,3]),(2,[0,3,4]),(3,[0,3,4,8]),(4,[0,3,4]),(5,[0,3,4]),(6,[2])],lp:=[(0,[0,3,4])],pl:=[] }
noncomputable def spec_l2Base:Ctx:={ P:=Tryz.prog,T:=TTab,M:=MM,nW:=0,kp:=[(0,[0]),(1,[2])],lp:=[],pl:=[] }
noncomputable def spec_l2Open:Ctx:={ P:=Tryz.prog,T:=TTab,M:=MM,nW:=0,kp:=[(0,[1]),(1,[1,3]),(2,[1,3,4]),(3,[1,3,4,10]),(4,[1,3,4]),(5,[1,3,4]),(6,[2])],lp:=[(0,[1,3,4])],pl:=[(5,.take 0 (.take 1 (.take 2 (.take 3 (.take 4 (.take 5 (.take 6 (.take 8 (.take 9 (.take 10 (.take 11 (.take 12 (.take 13 (.all [(7,.take 14 (.all [(15,.all [(16,.take 17 (.done))])]))]))))))))))))))] }
noncomputable def spec_l2Gather:Ctx:={ P:=Tryz.prog,T:=TTab,M:=MM,nW:=0,kp:=[(0,[0]),(1,[3]),(2,[3,4]),(3,[3,4,19]),(4,[3,4]),(5,[3,4,5]),(6,[3,4,5,6]),(7,[3,4,5,6,28]),(8,[3,4,5,6]),(9,[3,4,5,6,7]),(10,[3,4,5,6,7,8]),(11,[3,4,5,6,7,8,9]),(12,[3,4,5,6,7,8,9,10]),(13,[3,4,5,6,7,8,9,10,55]),(14,[3,4,5,6,7,8,9,10,76]),(15,[3,4,5,6,7,8,9,10]),(16,[3,4,5,6,7,8,9,10]),(17,[3,4,5,6,7,8,9,10]),(18,[3,4,5,6,7,8,9,10]),(19,[3,4]),(20,[3,11]),(21,[3,11,12]),(22,[3,11,12,100]),(23,[3,11,12]),(24,[3,11,12,120]),(25,[3,11,12]),(26,[3,11,12]),(27,[3,11,12,165]),(28,[3,11,12,173]),(29,[3,11,12]),(30,[2])],lp:=[(0,[3,4]),(2,[3,4,5,6]),(4,[3,4,5,6,7,8,9,10]),(6,[3,11,12])],pl:=[(14,.take 0 (.take 1 (.take 2 (.take 3 (.take 4 (.take 5 (.take 6 (.take 7 (.take 8 (.take 9 (.take 10 (.take 11 (.take 12 (.take 13 (.take 14 (.take 15 (.take 16 (.take 17 (.take 18 (.take 19 (.take 20 (.done)))))))))))))))))))))),(24,.take 0 (.take 1 (.take 2 (.take 3 (.take 4 (.take 5 (.take 6 (.take 7 (.take 8 (.take 9 (.take 10 (.take 11 (.take 12 (.take 13 (.take 14 (.take 15 (.take 16 (.take 17 (.done))))))))))))))))))),(25,.take 0 (.take 1 (.take 2 (.take 3 (.take 4 (.take 5 (.take 6 (.take 7 (.take 8 (.take 9 (.take 10 (.take 11 (.take 12 (.take 13 (.take 14 (.take 15 (.take 16 (.take 17 (.take 18 (.all [(19,.done)])))))))))))))))))))),(27,.take 0 (.take 1 (.take 2 (.take 3 (.take 4 (.take 5 (.take 6 (.take 7 (.take 8 (.take 9 (.take 10 (.take 11 (.take 12 (.take 13 (.take 14 (.take 15 (.take 16 (.take 17 (.take 18 (.done))))))))))))))))))))] }
noncomputable def spec_l2Times:Ctx:={ P:=Tryz.prog,T:=TTab,M:=MM,nW:=0,kp:=[(0,[0,1,2]),(1,[0,1,2,7]),(2,[0,1,2,7,8]),(3,[0,1,2,7,8,19]),(4,[0,1,2,7,8]),(5,[0,1,2,7,8,9]),(6,[0,1,2,7,8,9,25]),(7,[0,1,2,7,8,9]),(8,[0,1,2,7,8,9]),(9,[6])],lp:=[(0,[0,1,2,7,8]),(2,[0,1,2,7,8,9])],pl:=[(8,.take 0 (.take 1 (.take 2 (.take 3 (.take 4 (.take 5 (.take 6 (.take 7 (.take 8 (.take 9 (.take 10 (.take 11 (.take 12 (.take 13 (.take 14 (.take 15 (.take 16 (.take 17 (.take 18 (.take 19 (.take 20 (.take 21 (.take 22 (.take 23 (.take 24 (.take 25 (.all [(26,.all [(27,.take 28 (.done))])])))))))))))))))))))))))))))] }
noncomputable def spec_MulLaurents:Ctx:={ P:=Tryz.prog,T:=TTab,M:=MM,nW:=0,kp:=[(0,[2,3,4]),(1,[2,3,4,9]),(2,[4,5]),(3,[4,5])],lp:=[],pl:=[(3,.take 0 (.take 2 (.take 4 (.take 5 (.take 8 (.take 9 (.all [(1,.all [(3,.all [(6,.all [(7,.all [(10,.take 11 (.take 12 (.all [(13,.take 14 (.done))])))])])])])])))))))] }
noncomputable def spec_l2Least:Ctx:={ P:=Tryz.prog,T:=TTab,M:=MM,nW:=0,kp:=[(0,[1]),(1,[1,3]),(2,[1,3,4]),(3,[1,3,4,16]),(4,[1,3,4]),(5,[1,3,4,5]),(6,[1,3,4,5,22]),(7,[1,3,4,5]),(8,[1,3,4,5]),(9,[2])],lp:=[(0,[1,3,4]),(2,[1,3,4,5])],pl:=[(8,.take 0 (.take 1 (.take 2 (.take 3 (.take 4 (.take 5 (.take 6 (.take 7 (.take 8 (.take 9 (.take 10 (.take 11 (.take 12 (.take 13 (.take 14 (.take 15 (.take 16 (.all [(17,.done)]))))))))))))))))))] }
noncomputable def cmp_isNaN_int:Ctx:={ P:=Tryz.prog,T:=TTab,M:=MM,nW:=0,kp:=[(0,[0]),(1,[2])],lp:=[],pl:=[] }
noncomputable def cmp_Compare_int:Ctx:={ P:=Tryz.prog,T:=TTab,M:=MM,nW:=0,kp:=[(0,[0,1]),(1,[0,1,5]),(2,[0,1,5,6]),(3,[0,1,6,11]),(4,[12]),(5,[4]),(6,[4]),(7,[0,1,13]),(8,[4]),(9,[0,1,16]),(10,[4]),(11,[19]),(12,[4]),(13,[4])],lp:=[],pl:=[] }
noncomputable def slices_Compare_int_int:Ctx:={ P:=Tryz.prog,T:=TTab,M:=MM,nW:=0,kp:=[(0,[0,1]),(1,[0,1,9,10,11]),(2,[0,1,9,10,11,12]),(3,[0,1,5,6,9,10,11]),(4,[0,1,5,6,9,10,11,19]),(5,[4]),(6,[0,1,6,7,9,10,11]),(7,[0,1,8,9,10,11]),(8,[0,1,8,9,10,11,28]),(9,[4]),(10,[0,1,9,10,11]),(11,[35]),(12,[4]),(13,[4])],lp:=[(0,[0,1,9,10,11])],pl:=[] }
noncomputable def impl_coefOk:Ctx:={ P:=Tryz.prog,T:=TTab,M:=MM,nW:=0,kp:=[(0,[0]),(1,[2])],lp:=[],pl:=[] }
noncomputable def impl_LaurentOk:Ctx:={ P:=Tryz.prog,T:=TTab,M:=MM,nW:=0,kp:=[(0,[1]),(1,[1,14]),(2,[2]),(3,[1,16,17,18]),(4,[1,16,17,18,19]),(5,[1,3,4,16,17,18]),(6,[1,16,17,18,51]),(7,[2]),(8,[1,16,17,18]),(9,[2])],lp:=[(0,[1,16,17,18])],pl:=[(6,.take 0 (.take 1 (.take 2 (.take 3 (.all [(4,.take 5 (.take 6 (.take 7 (.take 8 (.all [(9,.take 10 (.take 11 (.take 12 (.take 13 (.take 14 (.take 15 (.take 16 (.take 17 (.take 18 (.take 19 (.take 20 (.take 21 (.take 22 (.take 23 (.take 24 (.all [(25,.take 26 (.take 27 (.take 28 (.done))))]))))))))))))))))])))))])))))] }
noncomputable def impl_bothOk:Ctx:={ P:=Tryz.prog,T:=TTab,M:=MM,nW:=0,kp:=[(0,[2,3]),(1,[4])],lp:=[],pl:=[] }
noncomputable def impl_newBuilding:Ctx:={ P:=Tryz.prog,T:=TTab,M:=MM,nW:=0,kp:=[(0,[0]),(1,[2])],lp:=[],pl:=[] }
noncomputable def impl_building_add:Ctx:={ P:=Tryz.prog,T:=TTab,M:=MM,nW:=1,kp:=[(0,[0,2,4]),(1,[0,2,4]),(2,[0,2,4,15]),(3,[]),(4,[])],lp:=[],pl:=[(1,.take 0 (.take 1 (.take 2 (.take 3 (.take 4 (.take 5 (.take 6 (.take 7 (.take 8 (.done)))))))))),(3,.take 0 (.take 1 (.take 2 (.take 3 (.take 4 (.all [(5,.done)])))))),(4,.take 0 (.take 1 (.take 2 (.take 3 (.take 4 (.take 5 (.all [(6,.done)])))))))] }
noncomputable def impl_plusExp:Ctx:={ P:=Tryz.prog,T:=TTab,M:=MM,nW:=0,kp:=[(0,[1,3,5,6]),(1,[1,3,5,6,8]),(2,[1,3,5,6,8,9]),(3,[1,3,5,6,7,8]),(4,[1,3,5,6,8]),(5,[1,3,5,6,8]),(6,[6])],lp:=[(0,[1,3,5,6,8])],pl:=[(4,.take 0 (.take 1 (.take 2 (.take 3 (.take 4 (.take 5 (.take 6 (.take 7 (.take 8 (.take 9 (.all [(10,.done)])))))))))))] }
noncomputable def impl_keyOf:Ctx:={ P:=Tryz.prog,T:=TTab,M:=MM,nW:=0,kp:=[(0,[0,2]),(1,[0,2,3]),(2,[2,3]),(3,[2])],lp:=[],pl:=[] }
noncomputable def slices_SortFunc_impl_Term_impl_Term:Ctx:={ P:=Tryz.prog,T:=TTab,M:=MM,nW:=0,kp:=[(0,[0,1,4]),(1,[])],lp:=[],pl:=[] }
noncomputable def impl_building_done_1:Ctx:={ P:=Tryz.prog,T:=TTab,M:=MM,nW:=0,kp:=[(0,[2,3]),(1,[4])],lp:=[],pl:=[] }
noncomputable def impl_building_done:Ctx:={ P:=Tryz.prog,T:=TTab,M:=MM,nW:=1,kp:=[(0,[0,2]),(1,[0,2,4]),(2,[0,2,4,17]),(3,[2,3]),(4,[0,2,4,23]),(5,[0,2,4,23,25]),(6,[0,2,4,5,6,23]),(7,[0,2,4,23]),(8,[2,4]),(9,[2,4,47]),(10,[2,3]),(11,[2,3])],lp:=[(0,[0,2,4,23])],pl:=[(7,.take 0 (.take 1 (.take 2 (.take 3 (.take 4 (.take 5 (.take 6 (.take 8 (.all [(7,.take 9 (.all [(10,.all [(11,.take 12 (.all [(13,.done)]))])]))])))))))))] }
noncomputable def impl_MulLaurents:Ctx:={ P:=Tryz.prog,T:=TTab,M:=MM,nW:=0,kp:=[(0,[2,3,4]),(1,[2,3,4,14]),(2,[4,5]),(3,[2,3,4,6]),(4,[3,4,6,20,21,22]),(5,[3,4,6,20,21,22,23]),(6,[3,4,6,8,20,21,22]),(7,[3,4,6,8,20,21,22,27,28,29]),(8,[3,4,6,8,20,21,22,27,28,29,30]),(9,[3,4,6,8,10,20,21,22,27,28,29]),(10,[3,4,6,8,20,21,22,27,28,29]),(11,[3,4,6,8,20,21,22,27,28,29]),(12,[3,4,6,20,21,22]),(13,[4,5])],lp:=[(0,[3,4,6,20,21,22]),(2,[3,4,6,8,20,21,22,27,28,29])],pl:=[(10,.take 0 (.take 1 (.take 2 (.take 4 (.take 5 (.take 8 (.take 9 (.take 10 (.take 11 (.take 12 (.all [(3,.all [(6,.all [(7,.all [(13,.done)])])])])))))))))))] }
noncomputable def impl_ConstantLaurent:Ctx:={ P:=Tryz.prog,T:=TTab,M:=MM,nW:=0,kp:=[(0,[0,1,4]),(1,[0,1,4,12]),(2,[4]),(3,[0,1,4,15]),(4,[4]),(5,[4])],lp:=[],pl:=[] }
noncomputable def spec_ConstantLaurent:Ctx:={ P:=Tryz.prog,T:=TTab,M:=MM,nW:=0,kp:=[(0,[0,1,4]),(1,[0,1,4,12]),(2,[4]),(3,[0,1,4,15]),(4,[4]),(5,[4])],lp:=[],pl:=[] }
noncomputable def impl_DivideLaurents:Ctx:={ P:=Tryz.prog,T:=TTab,M:=MM,nW:=0,kp:=[(0,[2,3,4]),(1,[2,3,4,28]),(2,[4,5]),(3,[2,3,4,6]),(4,[2,3,4,6,34,35,36]),(5,[2,3,4,6,34,35,36,37]),(6,[2,3,4,6,8,34,35,36]),(7,[2,3,4,6,34,35,36]),(8,[2,3,4,6,34,35,36]),(9,[2,3,4,6,9]),(10,[2,3,4,6,9,10]),(11,[2,3,4,6,9,10,60]),(12,[2,3,4,6,9,10,11]),(13,[2,3,4,6,9,10,11,12]),(14,[2,3,4,6,9,10,11,12,65]),(15,[2,3,4,6,9,10,11,12,65,67]),(16,[2,3,4,6,9,10,11,12,13,65]),(17,[2,3,4,6,9,10,11,12,13,65,76]),(18,[2,3,4,6,9,10,11,12,65]),(19,[2,3,4,6,9,10,11,14]),(20,[2,3,4,6,9,10,14,15]),(21,[2,3,4,6,9,10,14,15,16]),(22,[2,3,4,6,9,10,15,16,119]),(23,[4,5]),(24,[2,3,4,6,9,10,15,16]),(25,[2,3,4,6,9,10,15,16,126,127,128]),(26,[2,3,4,6,9,10,15,16,126,127,128,129]),(27,[2,3,4,6,9,10,15,16,18,126,127,128]),(28,[2,3,4,6,9,10,15,16,126,127,128]),(29,[2,3,4,6,9,10,15,16,126,127,128]),(30,[4,5])],lp:=[(0,[2,3,4,6,34,35,36]),(2,[2,3,4,6,9,10]),(4,[2,3,4,6,9,10,11,12,65]),(6,[2,3,4,6,9,10,15,16,126,127,128])],pl:=[(7,.take 0 (.take 1 (.take 2 (.take 4 (.take 5 (.all [(3,.all [(6,.done)])])))))),(17,.take 0 (.take 1 (.take 2 (.take 3 (.all [(4,.take 5 (.take 6 (.done)))]))))),(19,.take 0 (.take 1 (.take 2 (.take 3 (.take 4 (.take 5 (.take 6 (.done)))))))),(20,.take 0 (.take 1 (.take 2 (.all [(3,.all [(4,.all [(5,.all [(6,.done)])]),(5,.all [(4,.all [(6,.done)])])]),(5,.all [(3,.all [(4,.all [(6,.done)])])])])))),(22,.take 0 (.take 1 (.take 2 (.take 3 (.take 4 (.take 5 (.take 6 (.take 7 (.take 8 (.take 9 (.take 10 (.all [(11,.take 12 (.take 13 (.take 14 (.take 15 (.all [(16,.take 17 (.take 18 (.take 19 (.take 20 (.take 21 (.take 22 (.take 23 (.take 24 (.take 25 (.take 26 (.done)))))))))))])))))])))))))))))),(28,.take 0 (.take 1 (.take 2 (.take 3 (.take 6 (.take 7 (.take 8 (.take 9 (.take 10 (.all [(4,.all [(5,.all [(11,.done)])])]))))))))))] }
noncomputable def spec_DivideLaurents:Ctx:={ P:=Tryz.prog,T:=TTab,M:=MM,nW:=0,kp:=[(0,[2,3,4]),(1,[2,3,4,15]),(2,[4,5]),(3,[4,5])],lp:=[],pl:=[] }
noncomputable def spec_l2Divide:Ctx:={ P:=Tryz.prog,T:=TTab,M:=MM,nW:=0,kp:=[(0,[2,3,4]),(1,[2,3,4,6]),(2,[2,3,4,6,7]),(3,[2,3,4,6,7,8]),(4,[2,3,4,6,7,8,9]),(5,[2,3,4,6,7,8,9,28]),(6,[4,5]),(7,[2,3,4,6,7,8,9,10,11]),(8,[2,3,4,6,7,8,9,10,11,12,13]),(9,[2,3,4,6,7,8,9,10,11,12,13,45]),(10,[2,3,4,6,7,8,9,10,11,12,13,55]),(11,[4,5]),(12,[2,3,4,6,7,8,9,10,11,12,13,14]),(13,[2,3,4,6,7,8,9,10,11,12,13,14,15]),(14,[2,3,4,6,7,8,9,10,11,12,13,14,15,16]),(15,[2,3,4,6,7,8,9,10,11,12,13,14,15,16,17]),(16,[2,3,4,6,7,8,9,10,11,12,13,14,15,16,17,78]),(17,[2,3,4,6,7,8,9,10,11,12,13,14,15,16,17]),(18,[2,3,4,6,7,8,9,10,11,12,13,14,15,16,17]),(19,[2,3,4,6,7,8,9,10,11,12,13,14,15,16,17,120]),(20,[4,5]),(21,[2,3,4,6,7,8,9,10,11,12,13,14]),(22,[2,3,4,6,7,8,9,10,11,12,13,14,133]),(23,[4,5]),(24,[2,3,4,6,7,8,9,10,11,12,13,14]),(25,[2,3,4,6,7,8,9,10,11,12,13]),(26,[4,5])],lp:=[(0,[2,3,4,6,7,8,9,10,11,12,13]),(2,[2,3,4,6,7,8,9,10,11,12,13,14,15,16,17])],pl:=[(7,.take 0 (.take 2 (.all [(1,.all [(3,.take 4 (.take 5 (.done)))])]))),(8,.take 0 (.take 2 (.all [(1,.all [(3,.take 4 (.take 5 (.done)))])]))),(10,.take 0 (.take 1 (.take 2 (.take 3 (.take 4 (.take 5 (.take 6 (.take 7 (.take 8 (.take 9 (.done))))))))))),(12,.take 0 (.take 1 (.take 2 (.take 3 (.take 4 (.take 5 (.take 6 (.take 7 (.take 8 (.take 9 (.all [(10,.all [(11,.done)])]))))))))))),(13,.take 0 (.take 1 (.take 2 (.take 3 (.take 4 (.take 5 (.all [(6,.take 7 (.done))]))))))),(18,.take 0 (.take 1 (.take 2 (.take 3 (.take 4 (.take 5 (.take 6 (.take 7 (.take 8 (.take 9 (.take 10 (.take 11 (.take 12 (.take 13 (.all [(14,.all [(15,.take 16 (.done))])]))))))))))))))),(19,.take 0 (.take 1 (.take 2 (.take 3 (.take 4 (.take 5 (.take 6 (.take 7 (.take 8 (.take 9 (.take 10 (.take 11 (.take 12 (.take 13 (.take 14 (.take 15 (.take 16 (.take 17 (.take 18 (.take 19 (.take 20 (.take 21 (.all [(22,.take 23 (.done))])))))))))))))))))))))))] }
noncomputable def spec_l2Plus:Ctx:={ P:=Tryz.prog,T:=TTab,M:=MM,nW:=0,kp:=[(0,[0,1,2]),(1,[1,2,7]),(2,[1,2,7,8]),(3,[1,2,7,8,15]),(4,[1,2,7,8]),(5,[1,2,7,8]),(6,[6])],lp:=[(0,[1,2,7,8])],pl:=[(5,.take 0 (.take 1 (.take 2 (.take 3 (.take 4 (.take 5 (.take 6 (.take 7 (.take 8 (.take 9 (.take 10 (.take 11 (.take 12 (.take 13 (.all [(14,.all [(15,.take 16 (.done))])])))))))))))))))] }
noncomputable def spec_l2Most:Ctx:={ P:=Tryz.prog,T:=TTab,M:=MM,nW:=0,kp:=[(0,[1]),(1,[1,3]),(2,[1,3,4]),(3,[1,3,4,16]),(4,[1,3,4]),(5,[1,3,4,5]),(6,[1,3,4,5,22]),(7,[1,3,4,5]),(8,[1,3,4,5]),(9,[2])],lp:=[(0,[1,3,4]),(2,[1,3,4,5])],pl:=[(8,.take 0 (.take 1 (.take 2 (.take 3 (.take 4 (.take 5 (.take 6 (.take 7 (.take 8 (.take 9 (.take 10 (.take 11 (.take 12 (.take 13 (.take 14 (.take 15 (.take 16 (.all [(17,.done)]))))))))))))))))))] }
noncomputable def impl_AddLaurents:Ctx:={ P:=Tryz.prog,T:=TTab,M:=MM,nW:=0,kp:=[(0,[1,3,5,6]),(1,[1,3,5,6,21]),(2,[6,7]),(3,[1,3,5,6,8]),(4,[1,5,6,8,27,28,29]),(5,[1,5,6,8,27,28,29,30]),(6,[1,5,6,8,10,27,28,29]),(7,[1,5,6,8,27,28,29]),(8,[1,5,6,8,27,28,29]),(9,[1,6,8,42,43,44]),(10,[1,6,8,42,43,44,45]),(11,[1,6,8,12,42,43,44]),(12,[1,6,8,42,43,44]),(13,[1,6,8,42,43,44]),(14,[6,7])],lp:=[(0,[1,5,6,8,27,28,29]),(2,[1,6,8,42,43,44])],pl:=[(7,.take 0 (.take 1 (.take 2 (.take 4 (.take 5 (.all [(3,.all [(6,.done)])])))))),(12,.take 0 (.take 1 (.take 2 (.take 4 (.take 5 (.take 6 (.take 7 (.all [(3,.all [(8,.done)])]))))))))] }
noncomputable def laws_big:Ctx:={ P:=Tryz.prog,T:=TTab,M:=MM,nW:=0,kp:=[(0,[0]),(1,[2])],lp:=[],pl:=[] }
noncomputable def spec_l1New:Ctx:={ P:=Tryz.prog,T:=TTab,M:=MM,nW:=0,kp:=[(0,[0]),(1,[0,3]),(2,[0,3,4]),(3,[0,3,4,15]),(4,[0,3,4]),(5,[0,3,4]),(6,[2])],lp:=[(0,[0,3,4])],pl:=[] }
noncomputable def spec_l1Byte:Ctx:={ P:=Tryz.prog,T:=TTab,M:=MM,nW:=1,kp:=[(0,[0]),(1,[0]),(2,[0,3]),(3,[0,3,34]),(4,[0,3]),(5,[3]),(6,[2])],lp:=[],pl:=[(2,.take 0 (.take 1 (.take 2 (.take 3 (.take 4 (.take 5 (.take 6 (.take 7 (.take 8 (.take 9 (.take 10 (.take 11 (.take 12 (.done)))))))))))))),(3,.take 0 (.take 1 (.take 2 (.take 3 (.take 4 (.take 5 (.take 6 (.take 7 (.take 8 (.take 9 (.done))))))))))),(4,.take 0 (.take 1 (.take 2 (.take 3 (.take 4 (.take 5 (.take 6 (.take 7 (.take 8 (.take 9 (.take 10 (.take 11 (.take 12 (.take 13 (.take 14 (.done))))))))))))))))] }
noncomputable def spec_l1Below:Ctx:={ P:=Tryz.prog,T:=TTab,M:=MM,nW:=1,kp:=[(0,[0,1]),(1,[0,1,10]),(2,[4]),(3,[0,1,12]),(4,[4]),(5,[0,1,5]),(6,[0,1,5,6]),(7,[0,1,5,6,7]),(8,[1,5,6,7,8]),(9,[4])],lp:=[],pl:=[] }
noncomputable def spec_dExp:Ctx:={ P:=Tryz.prog,T:=TTab,M:=MM,nW:=1,kp:=[(0,[0,1]),(1,[0,1,5]),(2,[0,1,5,6]),(3,[0,1,5,6,10]),(4,[0,1,5,6]),(5,[0,1,5,6]),(6,[4])],lp:=[(0,[0,1,5,6])],pl:=[] }
noncomputable def spec_dLaurent:Ctx:={ P:=Tryz.prog,T:=TTab,M:=MM,nW:=1,kp:=[(0,[0,1,4]),(1,[0,1,4,5]),(2,[0,1,4,5,6]),(3,[0,1,4,5,6,7]),(4,[0,1,4,5,6,7,15]),(5,[0,1,4,5,6,7]),(6,[0,1,4,5,6,7]),(7,[4,8]),(8,[4])],lp:=[(0,[0,1,4,5,6,7])],pl:=[] }
noncomputable def laws_ints:Ctx:={ P:=Tryz.prog,T:=TTab,M:=MM,nW:=0,kp:=[(0,[0,1]),(1,[0,1,10]),(2,[4]),(3,[0,1,5]),(4,[0,1,5,14]),(5,[0,1,5]),(6,[0,1,5,25]),(7,[4]),(8,[4])],lp:=[(0,[0,1,5])],pl:=[(6,.take 0 (.take 1 (.take 2 (.take 3 (.take 4 (.take 5 (.take 6 (.take 7 (.take 8 (.done))))))))))] }
noncomputable def laws_laurents:Ctx:={ P:=Tryz.prog,T:=TTab,M:=MM,nW:=0,kp:=[(0,[2,3]),(1,[2,3,19]),(2,[4]),(3,[2,3,5]),(4,[2,3,5,24]),(5,[2,3,5]),(6,[2,3,5,55]),(7,[4]),(8,[4])],lp:=[(0,[2,3,5])],pl:=[(6,.take 0 (.take 1 (.take 2 (.take 3 (.take 4 (.take 5 (.take 6 (.take 7 (.take 8 (.take 9 (.take 10 (.take 11 (.take 12 (.take 13 (.take 14 (.take 15 (.take 16 (.take 17 (.take 18 (.take 19 (.take 20 (.take 21 (.take 22 (.take 23 (.take 24 (.take 25 (.all [(26,.take 27 (.take 28 (.done)))])))))))))))))))))))))))))))] }
noncomputable def laws_times:Ctx:={ P:=Tryz.prog,T:=TTab,M:=MM,nW:=0,kp:=[(0,[2,3,4]),(1,[4,5]),(2,[4])],lp:=[],pl:=[] }
noncomputable def spec_AddLaurents:Ctx:={ P:=Tryz.prog,T:=TTab,M:=MM,nW:=0,kp:=[(0,[1,3,5,6]),(1,[1,3,5,6,16]),(2,[6,7]),(3,[6,7])],lp:=[],pl:=[(3,.take 0 (.take 2 (.take 3 (.take 6 (.take 7 (.all [(1,.all [(4,.all [(5,.all [(8,.take 9 (.take 10 (.all [(11,.take 12 (.done))])))])])])]))))))] }
noncomputable def impl_MutateMatrix:Ctx:={ P:=Tryz.prog,T:=TTab,M:=MM,nW:=0,kp:=[(0,[1,2,4]),(1,[1,2,4,17]),(2,[4,5]),(3,[4,6]),(4,[4,6,24]),(5,[4,5]),(6,[4,5])],lp:=[],pl:=[] }
noncomputable def impl_MutateSeed:Ctx:={ P:=Tryz.prog,T:=TTab,M:=MM,nW:=0,kp:=[(0,[1,2,4]),(1,[1,2,4,22]),(2,[4,5]),(3,[1,2,4,6,7]),(4,[1,2,4,6,7,8,9]),(5,[1,2,4,6,8,45]),(6,[4,5]),(7,[1,4,6,8,10]),(8,[1,4,6,10]),(9,[4,10]),(10,[4,5])],lp:=[],pl:=[] }
noncomputable def impl_SeedOk_1:Ctx:={ P:=Tryz.prog,T:=TTab,M:=MM,nW:=0,kp:=[(0,[1,2]),(1,[3])],lp:=[],pl:=[] }
noncomputable def impl_SeedOk:Ctx:={ P:=Tryz.prog,T:=TTab,M:=MM,nW:=0,kp:=[(0,[1]),(1,[1,15]),(2,[2]),(3,[2])],lp:=[],pl:=[] }
noncomputable def impl_exchange:Ctx:={ P:=Tryz.prog,T:=TTab,M:=MM,nW:=0,kp:=[(0,[1,2,3,6]),(1,[1,2,3,6,8]),(2,[1,2,3,6,8,18,19,20]),(3,[1,2,3,6,8,18,19,20,21]),(4,[1,2,3,6,8,9,10,18,19,20]),(5,[1,2,3,6,8,9,10,11,18,19,20]),(6,[1,2,3,6,8,9,10,11,18,19,20]),(7,[1,2,3,6,8,9,10,11,18,19,20,31,32,33]),(8,[1,2,3,6,8,9,10,11,18,19,20,31,32,33,34]),(9,[1,2,3,6,8,9,10,11,13,14,18,19,20,31,32,33]),(10,[1,2,3,6,8,9,10,11,14,15,18,19,20,31,32,33]),(11,[1,2,3,6,8,9,10,11,14,15,18,19,20,31,32,33,45]),(12,[6,7]),(13,[1,2,3,6,8,9,10,11,14,15,18,19,20,31,32,33,48]),(14,[1,2,3,6,8,9,10,11,14,15,18,19,20,31,32,33]),(15,[1,2,3,6,8,9,10,11,12,14,15,18,19,20,31,32,33]),(16,[1,2,3,6,8,9,10,11,14,15,18,19,20,31,32,33,58]),(17,[6,7]),(18,[1,2,3,6,8,9,10,11,18,19,20,31,32,33]),(19,[1,2,3,6,8,18,19,20]),(20,[1,2,3,6,8,18,19,20]),(21,[1,2,6,16,17]),(22,[1,2,6,16,74]),(23,[6,7]),(24,[6,7])],lp:=[(0,[1,2,3,6,8,18,19,20]),(2,[1,2,3,6,8,9,10,11,18,19,20,31,32,33]),(4,[1,2,3,6,8,9,10,11,14,15,18,19,20,31,32,33])],pl:=[(24,.take 0 (.take 1 (.take 2 (.take 3 (.take 4 (.all [(5,.take 6 (.take 7 (.all [(8,.take 9 (.done))])))]))))))] }
noncomputable def impl_mutated:Ctx:={ P:=Tryz.prog,T:=TTab,M:=MM,nW:=0,kp:=[(0,[1,2,4]),(1,[1,2,4,5]),(2,[1,2,4,5,6]),(3,[1,2,4,5,6,22]),(4,[1,2,4,5,6]),(5,[1,2,4,5,6,7]),(6,[1,2,4,5,6,7,28]),(7,[1,2,4,5,6,7]),(8,[1,2,4,5,6,7,8]),(9,[1,2,4,5,6,7,8,9,10]),(10,[1,2,4,5,6,7,8,9,10,48]),(11,[1,2,4,5,6,7]),(12,[1,2,4,5,6,7,8,9,10,63]),(13,[1,2,4,5,6,7]),(14,[1,2,4,5,6,7,8,9,10,78]),(15,[1,2,4,5,6,7]),(16,[4])],lp:=[(0,[1,2,4,5,6]),(2,[1,2,4,5,6,7])],pl:=[(1,.take 0 (.take 1 (.take 2 (.take 3 (.take 4 (.take 5 (.all [(6,.take 7 (.all [(8,.all [(9,.done)])])),(8,.all [(6,.take 7 (.all [(9,.done)]))])]))))))),(9,.take 0 (.take 1 (.take 2 (.take 4 (.take 5 (.take 6 (.all [(3,.all [(7,.take 8 (.take 9 (.done)))])])))))))] }
noncomputable def slices_IndexFunc_impl_Laurent_impl_Laurent:Ctx:={ P:=Tryz.prog,T:=TTab,M:=MM,nW:=0,kp:=[(0,[0,1]),(1,[0,1,7,8]),(2,[0,1,7,8,9]),(3,[0,1,5,7,8]),(4,[0,1,5,7,8,16]),(5,[4]),(6,[0,1,7,8]),(7,[4])],lp:=[(0,[0,1,7,8])],pl:=[] }
noncomputable def slices_ContainsFunc_impl_Laurent_impl_Laurent:Ctx:={ P:=Tryz.prog,T:=TTab,M:=MM,nW:=0,kp:=[(0,[0,1]),(1,[4])],lp:=[],pl:=[] }
noncomputable def spec_l1Abs:Ctx:={ P:=Tryz.prog,T:=TTab,M:=MM,nW:=0,kp:=[(0,[0]),(1,[2])],lp:=[],pl:=[] }
noncomputable def spec_l1At:Ctx:={ P:=Tryz.prog,T:=TTab,M:=MM,nW:=0,kp:=[(0,[1,2,3]),(1,[6])],lp:=[],pl:=[] }
noncomputable def spec_l1Gcd:Ctx:={ P:=Tryz.prog,T:=TTab,M:=MM,nW:=0,kp:=[(0,[0,1]),(1,[0,1,6]),(2,[0,1]),(3,[4])],lp:=[(0,[0,1])],pl:=[(2,.take 0 (.take 1 (.take 2 (.take 3 (.take 4 (.take 5 (.done)))))))] }
noncomputable def spec_l1Has:Ctx:={ P:=Tryz.prog,T:=TTab,M:=MM,nW:=0,kp:=[(0,[0,1]),(1,[0,1,5]),(2,[0,1,5,9]),(3,[0,1,5]),(4,[0,1,5,17]),(5,[4]),(6,[4])],lp:=[(0,[0,1,5])],pl:=[] }
noncomputable def spec_l1Sizes:Ctx:={ P:=Tryz.prog,T:=TTab,M:=MM,nW:=0,kp:=[(0,[1]),(1,[1,30]),(2,[2]),(3,[1,3]),(4,[1,3,35]),(5,[1,3]),(6,[1,3,44]),(7,[2]),(8,[1,4]),(9,[1,4,48]),(10,[1,4]),(11,[1,4,5]),(12,[1,4,5,54]),(13,[1,4,5]),(14,[1,4,5,6]),(15,[1,4,5,6,7]),(16,[1,4,5,76]),(17,[2]),(18,[2])],lp:=[(0,[1,3]),(2,[1,4]),(4,[1,4,5])],pl:=[] }
noncomputable def spec_l1Piece:Ctx:={ P:=Tryz.prog,T:=TTab,M:=MM,nW:=0,kp:=[(0,[1,2]),(1,[1,2,6]),(2,[2,6,7]),(3,[2,6,7,8]),(4,[2,6,7,8,17]),(5,[2,6,7,8]),(6,[2,6,7,8,9]),(7,[2,6,7,8,9,23]),(8,[2,6,7,8,9]),(9,[2,6,7,8,9,39]),(10,[2,6,7,8,9]),(11,[2,6,7,8,9]),(12,[4,5])],lp:=[(0,[2,6,7,8]),(2,[2,6,7,8,9])],pl:=[(9,.take 0 (.take 1 (.take 2 (.take 3 (.take 4 (.take 5 (.all [(6,.take 7 (.take 8 (.take 9 (.take 10 (.all [(11,.take 12 (.take 13 (.done)))])))))])))))))] }
noncomputable def spec_l1Factors:Ctx:={ P:=Tryz.prog,T:=TTab,M:=MM,nW:=0,kp:=[(0,[1]),(1,[1,4]),(2,[1,4,5]),(3,[1,4,5,20]),(4,[1,4,5]),(5,[1,4,5,27]),(6,[1,4,5,6,7]),(7,[1,4,5,6,7]),(8,[1,4,5,6,7,8]),(9,[1,4,5,6,7,8,40]),(10,[1,4,5,6,7,8]),(11,[1,4,5,6,7,8]),(12,[1,4,5,6,7,9]),(13,[1,4,5,6,7,9,10]),(14,[1,4,5,6,7,9,10,69]),(15,[1,4,5,6,7,9,10]),(16,[1,4,5,6,7,9,10]),(17,[1,4,5,6,7,9,10]),(18,[1,4,5,6,9,11]),(19,[1,4,5,6,9,11,121]),(20,[1,4,5,6,9,11]),(21,[1,4,5,6,9,11]),(22,[1,4,12]),(23,[1,4,12,142]),(24,[1,4,12]),(25,[1,4,12,13]),(26,[1,4,12,13,148]),(27,[1,4,12,13]),(28,[1,4,12,13,170]),(29,[2,3]),(30,[2,3])],lp:=[(0,[1,4,5]),(2,[1,4,5,6,7,8]),(4,[1,4,5,6,7,9,10]),(6,[1,4,5,6,9,11]),(8,[1,4,12]),(10,[1,4,12,13])],pl:=[(11,.take 0 (.take 1 (.take 2 (.take 3 (.take 4 (.take 5 (.take 6 (.take 7 (.take 8 (.take 9 (.take 10 (.take 11 (.take 12 (.take 13 (.take 14 (.all [(15,.all [(16,.take 17 (.take 18 (.all [(19,.done)])))])])))))))))))))))),(16,.take 0 (.take 1 (.take 2 (.take 3 (.take 4 (.take 5 (.take 6 (.take 7 (.take 8 (.take 9 (.take 10 (.take 11 (.take 12 (.take 13 (.take 14 (.take 15 (.take 16 (.take 17 (.take 18 (.take 19 (.take 20 (.take 24 (.take 25 (.take 26 (.take 27 (.take 28 (.take 29 (.take 30 (.take 31 (.take 32 (.all [(21,.all [(22,.take 23 (.all [(33,.all [(34,.take 35 (.take 36 (.all [(37,.done)])))])]))])]))))))))))))))))))))))))))))))),(21,.take 0 (.take 1 (.take 2 (.take 3 (.take 4 (.take 5 (.take 6 (.take 7 (.take 8 (.take 9 (.take 10 (.take 11 (.take 12 (.take 13 (.take 14 (.all [(15,.done)])))))))))))))))),(28,.take 0 (.take 1 (.take 2 (.take 3 (.take 4 (.take 5 (.take 6 (.take 9 (.take 10 (.take 11 (.take 12 (.take 13 (.take 14 (.take 15 (.all [(7,.take 8 (.all [(16,.take 17 (.take 18 (.take 19 (.done))))]))])))))))))))))))] }
noncomputable def spec_MatrixOk:Ctx:={ P:=Tryz.prog,T:=TTab,M:=MM,nW:=0,kp:=[(0,[1]),(1,[1,7]),(2,[2]),(3,[4]),(4,[2])],lp:=[],pl:=[] }
noncomputable def spec_l1Mutate:Ctx:={ P:=Tryz.prog,T:=TTab,M:=MM,nW:=0,kp:=[(0,[1,2,4]),(1,[1,2,4,5]),(2,[1,2,4,5,6]),(3,[1,2,4,5,6,15]),(4,[1,2,4,5,6]),(5,[1,2,4,5,6,7]),(6,[1,2,4,5,6,7,21]),(7,[1,2,4,5,6,7]),(8,[1,2,4,5,6,7,8]),(9,[1,2,4,5,6,7,8,9]),(10,[1,2,4,5,6,7,8,9,32]),(11,[1,2,4,5,6,7]),(12,[1,2,4,5,6,7,8,9,55]),(13,[1,2,4,5,6,7]),(14,[1,2,4,5,6,7,8,9,79]),(15,[1,2,4,5,6,7]),(16,[4])],lp:=[(0,[1,2,4,5,6]),(2,[1,2,4,5,6,7])],pl:=[(11,.take 0 (.take 1 (.take 2 (.take 3 (.take 4 (.take 5 (.take 6 (.take 7 (.take 8 (.take 9 (.take 10 (.all [(11,.take 12 (.take 13 (.all [(14,.done)])))])))))))))))),(13,.take 0 (.take 1 (.take 2 (.take 3 (.take 4 (.take 5 (.take 6 (.take 7 (.take 8 (.take 9 (.take 10 (.take 12 (.take 13 (.take 14 (.all [(11,.take 15 (.take 16 (.all [(17,.done)])))]))))))))))))))),(15,.take 0 (.take 1 (.take 2 (.take 3 (.take 4 (.take 5 (.take 6 (.take 7 (.take 8 (.take 9 (.take 10 (.take 12 (.take 13 (.take 14 (.all [(11,.take 15 (.take 16 (.all [(17,.done)])))])))))))))))))))] }
noncomputable def spec_MutateMatrix:Ctx:={ P:=Tryz.prog,T:=TTab,M:=MM,nW:=0,kp:=[(0,[1,2,4]),(1,[1,2,4,17]),(2,[4,5]),(3,[4,6]),(4,[4,6,24]),(5,[4,5]),(6,[4,5])],lp:=[],pl:=[] }
noncomputable def spec_SeedOk:Ctx:={ P:=Tryz.prog,T:=TTab,M:=MM,nW:=0,kp:=[(0,[1]),(1,[1,16]),(2,[2]),(3,[1,3]),(4,[1,3,21]),(5,[1,3]),(6,[1,3,52]),(7,[2]),(8,[2])],lp:=[(0,[1,3])],pl:=[(6,.take 0 (.take 1 (.take 2 (.take 3 (.take 4 (.all [(5,.take 6 (.take 7 (.take 8 (.take 9 (.take 10 (.take 11 (.take 12 (.take 13 (.take 14 (.take 15 (.take 16 (.take 17 (.take 18 (.take 19 (.take 20 (.take 21 (.take 22 (.take 23 (.take 24 (.take 25 (.take 26 (.take 27 (.take 28 (.done))))))))))))))))))))))))]))))))] }
noncomputable def spec_l3Column:Ctx:={ P:=Tryz.prog,T:=TTab,M:=MM,nW:=0,kp:=[(0,[1,2]),(1,[1,2,5]),(2,[1,2,5,6]),(3,[1,2,5,6,11]),(4,[1,2,5,6]),(5,[1,2,5,6]),(6,[4])],lp:=[(0,[1,2,5,6])],pl:=[] }
noncomputable def spec_l3CopyLaurent:Ctx:={ P:=Tryz.prog,T:=TTab,M:=MM,nW:=0,kp:=[(0,[1,2]),(1,[1,2,3]),(2,[1,2,3,4]),(3,[1,2,3,4,13]),(4,[1,2,3,4]),(5,[1,2,3,4]),(6,[2])],lp:=[(0,[1,2,3,4])],pl:=[(5,.take 0 (.take 1 (.take 2 (.take 3 (.take 4 (.take 5 (.take 6 (.take 7 (.take 9 (.take 10 (.take 11 (.take 12 (.take 13 (.take 14 (.all [(8,.take 15 (.all [(16,.all [(17,.take 18 (.all [(19,.done)]))])]))])))))))))))))))] }
noncomputable def spec_l3Product:Ctx:={ P:=Tryz.prog,T:=TTab,M:=MM,nW:=0,kp:=[(0,[0,1,2,6]),(1,[0,1,2,6,8]),(2,[0,1,2,6,8,9]),(3,[0,1,2,6,8,9,21]),(4,[0,1,2,6,8,9]),(5,[0,1,2,6,8,9,10]),(6,[0,1,2,6,8,9,10,31]),(7,[0,1,2,6,8,9,10]),(8,[0,1,2,6,8,9,10,11,12]),(9,[0,1,2,6,8,9,10,11,44]),(10,[6,7]),(11,[0,1,2,6,8,9,10]),(12,[6,7])],lp:=[(0,[0,1,2,6,8,9]),(2,[0,1,2,6,8,9,10])],pl:=[(8,.take 0 (.take 1 (.take 2 (.take 3 (.take 4 (.all [(5,.take 6 (.take 7 (.take 8 (.all [(9,.all [(10,.take 11 (.done))])])))),(9,.all [(5,.take 6 (.take 7 (.take 8 (.all [(10,.take 11 (.done))]))))])]))))))] }
noncomputable def spec_l3Exchange:Ctx:={ P:=Tryz.prog,T:=TTab,M:=MM,nW:=0,kp:=[(0,[0,1,5,6]),(1,[0,1,5,6,8]),(2,[0,1,5,6,8,18]),(3,[0,1,5,6,8]),(4,[0,1,5,6,8,26]),(5,[6,7]),(6,[0,1,5,6,9,10]),(7,[5,6,9,10,11,12]),(8,[5,6,9,11,45]),(9,[6,7]),(10,[5,6,13,14]),(11,[5,6,13,54]),(12,[6,7]),(13,[6,7])],lp:=[(0,[0,1,5,6,8])],pl:=[] }
noncomputable def spec_l3Mutate:Ctx:={ P:=Tryz.prog,T:=TTab,M:=MM,nW:=0,kp:=[(0,[1,2,4]),(1,[1,2,4,6,7]),(2,[1,2,4,6,7,8,9]),(3,[1,2,4,6,8,39]),(4,[4,5]),(5,[1,2,4,8,10]),(6,[1,2,4,8,10,11]),(7,[1,2,4,8,10,11,47]),(8,[1,2,4,8,10,11]),(9,[1,2,4,8,10,11]),(10,[4,10]),(11,[4,5])],lp:=[(0,[1,2,4,8,10,11])],pl:=[(2,.take 0 (.take 1 (.take 2 (.take 3 (.take 4 (.take 6 (.take 7 (.take 8 (.take 9 (.take 10 (.all [(5,.all [(11,.take 12 (.take 13 (.take 14 (.all [(15,.all [(16,.take 17 (.done))])])))),(15,.all [(11,.take 12 (.take 13 (.take 14 (.all [(16,.take 17 (.done))]))))])]),(15,.all [(5,.all [(11,.take 12 (.take 13 (.take 14 (.all [(16,.take 17 (.done))]))))])])]))))))))))),(9,.take 0 (.take 1 (.take 2 (.take 3 (.take 4 (.take 5 (.take 6 (.all [(7,.all [(8,.all [(9,.take 10 (.all [(11,.done)]))])])]))))))))] }
noncomputable def spec_MutateSeed:Ctx:={ P:=Tryz.prog,T:=TTab,M:=MM,nW:=0,kp:=[(0,[1,2,4]),(1,[1,2,4,17]),(2,[4,5]),(3,[4,5])],lp:=[],pl:=[] }
noncomputable def spec_l1Once:Ctx:={ P:=Tryz.prog,T:=TTab,M:=MM,nW:=1,kp:=[(0,[0,1]),(1,[4])],lp:=[],pl:=[] }
noncomputable def laws_plus:Ctx:={ P:=Tryz.prog,T:=TTab,M:=MM,nW:=0,kp:=[(0,[1,3,5,6]),(1,[6,7]),(2,[6])],lp:=[],pl:=[] }
noncomputable def laws_matrices:Ctx:={ P:=Tryz.prog,T:=TTab,M:=MM,nW:=0,kp:=[(0,[2,3]),(1,[4])],lp:=[],pl:=[] }
noncomputable def laws_lists:Ctx:={ P:=Tryz.prog,T:=TTab,M:=MM,nW:=0,kp:=[(0,[0,1]),(1,[0,1,10]),(2,[4]),(3,[0,1,5]),(4,[0,1,5,14]),(5,[0,1,5]),(6,[0,1,5,26]),(7,[4]),(8,[4])],lp:=[(0,[0,1,5])],pl:=[(6,.take 0 (.take 1 (.take 2 (.take 3 (.take 4 (.take 5 (.take 6 (.take 7 (.all [(8,.take 9 (.done))])))))))))] }
noncomputable def laws_seeds:Ctx:={ P:=Tryz.prog,T:=TTab,M:=MM,nW:=0,kp:=[(0,[2,3]),(1,[4])],lp:=[],pl:=[] }
noncomputable def laws_entry:Ctx:={ P:=Tryz.prog,T:=TTab,M:=MM,nW:=0,kp:=[(0,[1,2,3]),(1,[1,2,3,16]),(2,[6]),(3,[6])],lp:=[],pl:=[] }
noncomputable def spec_FormatInt:Ctx:={ P:=Tryz.prog,T:=TTab,M:=MM,nW:=0,kp:=[(0,[0]),(1,[0,3]),(2,[0,3,4]),(3,[0,3,4,16]),(4,[0,3,4,5]),(5,[0,3,4,5,20]),(6,[0,3,4,5]),(7,[0,3,4]),(8,[0,3,4]),(9,[0,3,6]),(10,[3,6,33]),(11,[3,6]),(12,[3,6,7]),(13,[3,6,7,41]),(14,[3,6,7]),(15,[3,6,7]),(16,[2])],lp:=[(0,[0,3,4]),(2,[3,6,7])],pl:=[] }
noncomputable def spec_dZero:Ctx:={ P:=Tryz.prog,T:=TTab,M:=MM,nW:=0,kp:=[(0,[0,2]),(1,[2])],lp:=[],pl:=[] }
noncomputable def spec_dJoin:Ctx:={ P:=Tryz.prog,T:=TTab,M:=MM,nW:=2,kp:=[(0,[0,2,3,4,5,7]),(1,[2,3,4,5,7,13]),(2,[2,3,4,5,7]),(3,[2,3,5,7]),(4,[])],lp:=[],pl:=[],fb:=[7] }
noncomputable def spec_dTree:Ctx:={ P:=Tryz.prog,T:=TTab,M:=MM,nW:=1,kp:=[(0,[0,1,4]),(1,[0,1,4,6]),(2,[0,1,4,6,7]),(3,[0,1,4,6,7,41]),(4,[0,1,4,6,7]),(5,[0,4,6,7,63]),(6,[0,4,6,7]),(7,[0,4,6,7,64]),(8,[0,4,6,7,64,65]),(9,[0,4,6,7,64,65]),(10,[0,4,6,7,8]),(11,[0,4,6,7,8,9]),(12,[0,4,6,7,8,9,73]),(13,[0,4,6,7,8,9]),(14,[0,4,6,7,8,9]),(15,[0,4,7,8,87]),(16,[4,7,8]),(17,[4,5]),(18,[4,7,8]),(19,[4,5]),(20,[0,4,7,64,110]),(21,[4,7,10]),(22,[4,5]),(23,[0,4,7,64,119]),(24,[0,4,11]),(25,[4,11]),(26,[4,5]),(27,[0,4,7,64,126]),(28,[0,4,12]),(29,[0,4,12,13]),(30,[0,4,12,13,130]),(31,[0,4,12,13]),(32,[0,4,12,13]),(33,[4,5]),(34,[0,4,7,64,138]),(35,[0,4,14]),(36,[0,4,14]),(37,[0,4,14]),(38,[4,14]),(39,[4,5]),(40,[0,4,7,151]),(41,[0,4,15]),(42,[4,15]),(43,[4,5]),(44,[0,4,7,16]),(45,[0,4,7,16,17]),(46,[0,4,7,16,17,163]),(47,[0,4,7,16,17]),(48,[0,4,7,16,17]),(49,[4,5])],lp:=[(1,[0,4,6,7,8,9]),(3,[0,4,12,13]),(5,[0,4,7,16,17])],pl:=[(17,.take 0 (.take 1 (.all [(2,.take 3 (.all [(4,.take 5 (.done))]))]))),(19,.take 0 (.take 1 (.all [(2,.take 3 (.all [(4,.take 5 (.done))]))]))),(22,.take 0 (.take 2 (.all [(1,.take 3 (.all [(4,.all [(5,.take 6 (.done))]),(5,.take 4 (.take 6 (.done)))])),(5,.all [(1,.take 3 (.take 4 (.take 6 (.done))))])]))),(49,.take 0 (.take 1 (.all [(2,.take 3 (.all [(4,.take 5 (.done))]))])))] }
noncomputable def spec_dNames:Ctx:={ P:=Tryz.prog,T:=TTab,M:=MM,nW:=1,kp:=[(0,[0,1]),(1,[0,1,5]),(2,[0,1,5,6]),(3,[0,1,5,6,11]),(4,[0,1,5,6]),(5,[0,1,5,6,7]),(6,[0,1,5,6]),(7,[4])],lp:=[(0,[0,1,5,6])],pl:=[(6,.take 1 (.take 2 (.take 3 (.take 5 (.take 8 (.take 9 (.take 10 (.all [(0,.all [(4,.all [(6,.all [(7,.all [(11,.take 12 (.done))])])]),(6,.all [(4,.all [(7,.all [(11,.take 12 (.done))])])])]),(6,.all [(0,.all [(4,.all [(7,.all [(11,.take 12 (.done))])])])])]))))))))] }
noncomputable def spec_l1Rename:Ctx:={ P:=Tryz.prog,T:=TTab,M:=MM,nW:=0,kp:=[(0,[1,2,4]),(1,[1,2,4,5]),(2,[1,2,4,5,6]),(3,[1,2,4,5,6,14]),(4,[1,2,4,5,6]),(5,[1,2,4,5,6,7]),(6,[1,2,4,5,6,7,21]),(7,[1,2,4,5,6,7]),(8,[1,2,4,5,6,7,8]),(9,[1,2,4,5,6,7,8,29]),(10,[1,2,4,5,6,7,8]),(11,[1,2,4,5,6,7,8]),(12,[4])],lp:=[(0,[1,2,4,5,6]),(2,[1,2,4,5,6,7,8])],pl:=[(11,.take 0 (.take 1 (.take 2 (.take 3 (.take 4 (.take 5 (.take 6 (.take 7 (.take 8 (.take 9 (.take 10 (.take 11 (.take 12 (.take 13 (.all [(14,.take 15 (.all [(16,.done)]))])))))))))))))))] }
noncomputable def spec_dMoved:Ctx:={ P:=Tryz.prog,T:=TTab,M:=MM,nW:=2,kp:=[(0,[0,3,4]),(1,[0,3,4,5]),(2,[0,3,4,5,6]),(3,[0,3,4,5,6,13]),(4,[0,3,4,5,6]),(5,[0,3,4,5,6,7,8]),(6,[0,3,4,5,6,7,25]),(7,[0,3,4,5,6]),(8,[4])],lp:=[(0,[0,3,4,5,6])],pl:=[(5,.take 1 (.take 2 (.take 3 (.all [(0,.all [(4,.all [(5,.take 6 (.take 7 (.take 8 (.all [(9,.all [(10,.take 11 (.done))])])))),(9,.all [(5,.take 6 (.take 7 (.take 8 (.all [(10,.take 11 (.done))]))))])]),(9,.all [(4,.all [(5,.take 6 (.take 7 (.take 8 (.all [(10,.take 11 (.done))]))))])])]),(4,.take 0 (.all [(5,.take 6 (.take 7 (.take 8 (.all [(9,.all [(10,.take 11 (.done))])])))),(9,.all [(5,.take 6 (.take 7 (.take 8 (.all [(10,.take 11 (.done))]))))])])),(9,.all [(0,.all [(4,.all [(5,.take 6 (.take 7 (.take 8 (.all [(10,.take 11 (.done))]))))])]),(4,.take 0 (.all [(5,.take 6 (.take 7 (.take 8 (.all [(10,.take 11 (.done))]))))]))])])))),(8,.take 1 (.take 2 (.take 3 (.all [(0,.all [(4,.all [(5,.all [(6,.done)])])]),(4,.take 0 (.all [(5,.all [(6,.done)])]))]))))] }
noncomputable def spec_dFinite:Ctx:={ P:=Tryz.prog,T:=TTab,M:=MM,nW:=1,kp:=[(0,[0,1,4]),(1,[0,4,6,7]),(2,[4,5])],lp:=[],pl:=[] }
noncomputable def spec_dFrozen:Ctx:={ P:=Tryz.prog,T:=TTab,M:=MM,nW:=2,kp:=[(0,[0,3,4]),(1,[0,3,4,5]),(2,[0,3,4,5,6]),(3,[0,3,4,5,6,7]),(4,[0,3,4,5,6,7,15]),(5,[0,3,4,5,6,7]),(6,[0,3,4,5,6,7,8]),(7,[0,3,4,5,6,7,8,21]),(8,[0,3,4,5,6,7,8]),(9,[0,3,4,5,6,7,8]),(10,[0,3,4,5,6,7]),(11,[4])],lp:=[(0,[0,3,4,5,6,7]),(2,[0,3,4,5,6,7,8])],pl:=[(9,.take 0 (.take 2 (.all [(1,.all [(3,.take 4 (.all [(5,.all [(6,.take 7 (.all [(8,.done)]))])]))]),(3,.take 1 (.take 4 (.all [(5,.all [(6,.take 7 (.all [(8,.done)]))])])))])))] }
noncomputable def spec_dSeed:Ctx:={ P:=Tryz.prog,T:=TTab,M:=MM,nW:=1,kp:=[(0,[0,2]),(1,[0,2,3]),(2,[0,2,3,16]),(3,[0,2,3]),(4,[0,2,3,5]),(5,[0,2,3,5,6]),(6,[0,2,3,5,6,7]),(7,[0,2,3,5,6,7,26]),(8,[0,2,3,5,6,7]),(9,[0,2,3,5,6,7,8,9]),(10,[0,2,3,5,6,7,8,38]),(11,[0,2,3,5,6,7]),(12,[2])],lp:=[(0,[0,2,3,5,6,7])],pl:=[(9,.take 1 (.take 2 (.take 3 (.all [(0,.all [(4,.all [(5,.take 6 (.take 7 (.take 8 (.all [(9,.all [(10,.take 11 (.done))])])))),(9,.all [(5,.take 6 (.take 7 (.take 8 (.all [(10,.take 11 (.done))]))))])]),(9,.all [(4,.all [(5,.take 6 (.take 7 (.take 8 (.all [(10,.take 11 (.done))]))))])])]),(4,.take 0 (.all [(5,.take 6 (.take 7 (.take 8 (.all [(9,.all [(10,.take 11 (.done))])])))),(9,.all [(5,.take 6 (.take 7 (.take 8 (.all [(10,.take 11 (.done))]))))])])),(9,.all [(0,.all [(4,.all [(5,.take 6 (.take 7 (.take 8 (.all [(10,.take 11 (.done))]))))])]),(4,.take 0 (.all [(5,.take 6 (.take 7 (.take 8 (.all [(10,.take 11 (.done))]))))]))])]))))] }
noncomputable def spec_l1PickInt:Ctx:={ P:=Tryz.prog,T:=TTab,M:=MM,nW:=1,kp:=[(0,[0,1]),(1,[4])],lp:=[],pl:=[] }
noncomputable def spec_dIndex:Ctx:={ P:=Tryz.prog,T:=TTab,M:=MM,nW:=1,kp:=[(0,[0,1]),(1,[0,1,6]),(2,[4]),(3,[4])],lp:=[],pl:=[],fb:=[11] }
noncomputable def spec_DrawMutateSeed:Ctx:={ P:=Tryz.prog,T:=TTab,M:=MM,nW:=0,kp:=[(0,[0,2]),(1,[2,4]),(2,[2,4,5]),(3,[2,4,5,11]),(4,[2,4,5]),(5,[2,3])],lp:=[],pl:=[(4,.take 0 (.take 2 (.take 3 (.take 4 (.take 5 (.all [(1,.all [(6,.take 7 (.all [(8,.done)]))]),(6,.take 1 (.take 7 (.all [(8,.done)])))])))))),(5,.take 1 (.take 2 (.take 3 (.take 4 (.all [(0,.all [(5,.all [(6,.take 7 (.done))])]),(5,.take 0 (.all [(6,.take 7 (.done))]))])))))] }
noncomputable def laws_FnSeedsBack:Ctx:={ P:=Tryz.prog,T:=TTab,M:=MM,nW:=0,kp:=[(0,[0]),(1,[0,21]),(2,[2]),(3,[3,4]),(4,[3,4,5,6]),(5,[3,4,5,6,8]),(6,[3,4,5,6,41]),(7,[2]),(8,[3,4,5,43]),(9,[2]),(10,[3,4,5,9,10]),(11,[3,4,5,9,55]),(12,[12]),(13,[2]),(14,[3,4,5,81]),(15,[2]),(16,[3,4,5,13]),(17,[3,4,5,13,14]),(18,[3,4,5,13,14,15]),(19,[3,4,5,13,14,15,16]),(20,[3,4,5,13,14,15,16,91]),(21,[3,4,5,13,14,15,16]),(22,[3,4,5,13,14,15,16,17]),(23,[3,4,5,13,14,15,16,17,18]),(24,[3,4,5,13,14,15,16,17,18,101]),(25,[3,4,5,13,14,15,16,17,18]),(26,[3,4,5,13,14,15,16,17,18]),(27,[3,4,5,13,14,15,16,17,19]),(28,[3,4,5,13,14,15,16,17,19,114]),(29,[3,4,5,13,14,15,16,17,19]),(30,[3,4,5,13,14,15,16,17,19]),(31,[3,4,5,13,14,15,16,140]),(32,[2]),(33,[2])],lp:=[(0,[3,4,5,13,14,15,16]),(2,[3,4,5,13,14,15,16,17,18]),(4,[3,4,5,13,14,15,16,17,19])],pl:=[(26,.take 0 (.take 1 (.take 2 (.take 3 (.take 4 (.take 5 (.all [(6,.all [(7,.done)])]))))))),(30,.take 0 (.take 1 (.take 2 (.take 3 (.take 4 (.take 5 (.all [(6,.all [(7,.done)])]))))))),(31,.take 0 (.take 1 (.take 2 (.take 3 (.take 4 (.take 5 (.take 6 (.take 7 (.take 8 (.take 9 (.take 10 (.take 11 (.take 12 (.take 13 (.all [(14,.take 15 (.take 16 (.done)))]))))))))))))))),(33,.take 0 (.take 1 (.take 2 (.take 3 (.take 4 (.take 5 (.take 6 (.take 7 (.take 8 (.take 9 (.take 11 (.take 12 (.all [(10,.all [(13,.all [(14,.take 15 (.done))])])])))))))))))))] }
end C
end Go.Proofs.YtbhkonnakkhibaaGreat.Ab
namespace Go.Proofs.YtbhkonnakkhibaaGreat.Ab
open Go
set_option maxRecDepth 10000
theorem tabT:tabB Tryz.prog TTab=true:=by kernel_rfl
theorem folT:Tryz.prog.follows .mixedOrders=true:=by kernel_rfl
theorem wrap_succ {j:Nat} (h:j < 4611686018427387904):IntKind.i64.wrap ((j:Int)+1)=((j+1:Nat):Int):=by
 rw [wrapOk (by omega) (by omega)]
 omega
theorem impl_within_c (n low high:Int):ACalls Tryz.prog F.impl_within [.int n,.int low,.int high] [] true (fun outs res=>outs=[]/\res=[.one (D.bool (decide (low<=n/\n<=high)))]):=by
 refine ACalls.of_body (C:=C.impl_within) (n:=Tryz.f75.ntmps) tabT folT Tryz.func75 rfl (by kernel_rfl) rfl (Nat.le_of_ble_eq_true rfl) (by decide) (by kernel_rfl) (by kernel_rfl) rfl (by simp) (by simp) ?_
 simp only [Tryz.f75]
 refine wseq ?_
 refine wreg fun K hK=>?_
 simp [C.impl_within]
 refine hK _ ?_;clear hK K
 show AWp _ _ _ _ _
 refine wseq ?_
 refine wreg fun K hK=>?_
 have hJ:K ⟨ofL [(6,.bool (decide (low<=n/\n<=high)))],ofRO []⟩:=by
  refine hK _ ?_;clear hK K
  show AWp _ _ _ _ _
  refine wret ?_
  simp [C.impl_within]
 clear hK
 by_cases h:low<=n
 ·simp [C.impl_within,h]
  refine cast (congrArg K ?_) hJ
  simp [h]
 ·simp [C.impl_within,h]
  refine cast (congrArg K ?_) hJ
  simp [h]
theorem spec_l1In_c (n low high:Int):ACalls Tryz.prog F.spec_l1In [.int n,.int low,.int high] [] true (fun outs res=>outs=[]/\res=[.one (D.bool (decide (low<=n/\n<=high)))]):=by
 refine ACalls.of_body (C:=C.spec_l1In) (n:=Tryz.f78.ntmps) tabT folT Tryz.func78 rfl (by kernel_rfl) rfl (Nat.le_of_ble_eq_true rfl) (by decide) (by kernel_rfl) (by kernel_rfl) rfl (by simp) (by simp) ?_
 simp only [Tryz.f78]
 refine wseq ?_
 refine wreg fun K hK=>?_
 simp [C.spec_l1In]
 refine hK _ ?_;clear hK K
 show AWp _ _ _ _ _
 refine wseq ?_
 refine wreg fun K hK=>?_
 have hJ:K ⟨ofL [(6,.bool (decide (low<=n/\n<=high)))],ofRO []⟩:=by
  refine hK _ ?_;clear hK K
  show AWp _ _ _ _ _
  refine wret ?_
  simp [C.spec_l1In]
 clear hK
 by_cases h:low<=n
 ·simp [C.spec_l1In,h]
  refine cast (congrArg K ?_) hJ
  simp [h]
 ·simp [C.spec_l1In,h]
  refine cast (congrArg K ?_) hJ
  simp [h]
theorem spec_l1Ints_c (xs:List Int) (hx:xs.length < 17592186044416):ACalls Tryz.prog F.spec_l1Ints [.d (shI xs)] [] true (fun outs res=>outs=[]/\res=[.one (owI xs)]):=by
 refine ACalls.of_body (C:=C.spec_l1Ints) (n:=Tryz.f135.ntmps) tabT folT Tryz.func135 rfl (by kernel_rfl) rfl (Nat.le_of_ble_eq_true rfl) (by decide) (by kernel_rfl) (by kernel_rfl) rfl (by simp) (by simp) ?_
 simp only [Tryz.f135]
 refine wseq ?_
 refine wreg fun K hK=>?_
 simp [C.spec_l1Ints]
 refine hK _ ?_;clear hK K
 show AWp _ _ _ _ _
 refine wseq ?_
 refine wreg fun K hK=>?_
 simp [C.spec_l1Ints,show xs.length*8<=140737488355328 by omega]
 refine hK _ ?_;clear hK K
 show AWp _ _ _ _ _
 refine wret ?_
 simp [C.spec_l1Ints]
theorem slices_Clone_int_int_c (xs:List Int) (hx:xs.length < 17592186044416):ACalls Tryz.prog F.slices_Clone_int_int [.d (shI xs)] [] true (fun outs res=>outs=[]/\WkRs res [.one (owI xs)]):=by
 refine ACalls.of_body (C:=C.slices_Clone_int_int) (n:=Tryz.f131.ntmps) tabT folT Tryz.func131 rfl (by kernel_rfl) rfl (Nat.le_of_ble_eq_true rfl) (by decide) (by kernel_rfl) (by kernel_rfl) rfl (by simp) (by simp) ?_
 simp only [Tryz.f131]
 refine wseq ?_
 refine wreg fun K hK=>?_
 simp [C.slices_Clone_int_int]
 refine hK _ ?_;clear hK K
 show AWp _ _ _ _ _
 refine wseq ?_
 refine wseq ?_
 refine wreg fun K hK=>?_
 simp [C.slices_Clone_int_int]
 refine ⟨?_,fun h=>?_⟩
 ·refine hK _ ?_;clear hK K
  show AWp _ _ _ _ _
  refine wcond _ rfl (fun hc1=>?_) (fun hc1=>?_)
  ·simp at hc1
  ·refine wskip ?_
   show AWp _ _ _ _ _
   refine wseq ?_
   refine wreg fun K hK=>?_
   simp [C.slices_Clone_int_int,show xs.length*8<=140737488355328 by omega]
   refine hK _ ?_;clear hK K
   show AWp _ _ _ _ _
   refine wret ?_
   simp [C.slices_Clone_int_int]
 ·refine hK _ ?_;clear hK K
  show AWp _ _ _ _ _
  refine wcond _ rfl (fun hc2=>?_) (fun hc2=>?_)
  ·refine wseq ?_
   refine wreg fun K hK=>?_
   simp [C.slices_Clone_int_int]
   refine hK _ ?_;clear hK K
   show AWp _ _ _ _ _
   refine wret ?_
   simp [C.slices_Clone_int_int,h,ints]
  ·simp at hc2
theorem clone_c (xs:List Int) (hx:xs.length < 17592186044416):ACalls Tryz.prog F.slices_Clone_int_int [.d (shI xs)] [] true (fun outs res=>outs=[]/\res=[.one (owI xs)]):=(slices_Clone_int_int_c xs hx).weak1
theorem impl_gcd_c (a b:Int) (ha:-4611686018427387904 < a/\a < 4611686018427387904) (hb:-4611686018427387904 < b/\b < 4611686018427387904):ACalls Tryz.prog F.impl_gcd [.int a,.int b] [] true (fun outs res=>outs=[]/\res=[.one (D.int (Int.gcd a b:Int))]):=by
 refine ACalls.of_body (C:=C.impl_gcd) (n:=Tryz.f214.ntmps) tabT folT Tryz.func214 rfl (by kernel_rfl) rfl (Nat.le_of_ble_eq_true rfl) (by decide) (by kernel_rfl) (by kernel_rfl) rfl (by simp) (by simp) ?_
 simp only [Tryz.f214]
 refine wseq ?_
 refine wreg fun K hK=>?_
 simp [C.impl_gcd]
 refine hK _ ?_;clear hK K
 show AWp _ _ _ _ _
 refine wseq ?_
 refine wblock ?_
 refine wloop (fun x:Int×Int=>⟨ofL [(0,.int x.1),(1,.int x.2)],ofRO []⟩) (fun x=>Int.gcd x.1 x.2=Int.gcd a b/\(-4611686018427387904 < x.1/\x.1 < 4611686018427387904)/\(-4611686018427387904 < x.2/\x.2 < 4611686018427387904)) (fun x=>x.2.natAbs) (a,b) (by simp [C.impl_gcd]) ⟨rfl,ha,hb⟩ ?_
 intro x1 hx1 R1 hR1
 obtain ⟨p,q⟩:=x1
 obtain ⟨hg,hp,hq⟩:=hx1
 dsimp only at hg hp hq ⊢
 refine wseq ?_
 refine wseq ?_
 refine wreg fun K hK=>?_
 simp [C.impl_gcd]
 refine hK _ ?_;clear hK K
 show AWp _ _ _ _ _
 refine wcond _ rfl (fun hc1=>?_) (fun hc1=>?_)
 ·refine wskip ?_
  show AWp _ _ _ _ _
  refine wblock ?_
  have hq0:q≠0:=by simpa using hc1
  refine wdraw (.take 0 (.take 1 (.take 2 (.take 3 (.take 4 (.take 5 (.done))))))) ⟨by kernel_rfl,by kernel_rfl⟩ fun K hK=>?_
  simp [C.impl_gcd,hq0]
  refine hK _ ?_;clear hK K
  simp [C.impl_gcd]
  have hn:(p.tmod q).natAbs < q.natAbs:=by rw [Int.natAbs_tmod];exact Nat.mod_lt _ (by omega)
  refine hR1 (q,p.tmod q) ⟨?_,hq,by dsimp only;omega⟩ hn
  rw [<-hg]
  unfold Int.gcd
  rw [Int.natAbs_tmod,Nat.gcd_comm p.natAbs,Nat.gcd_rec q.natAbs p.natAbs,Nat.gcd_comm]
 ·refine wexit ?_
  show AWp _ _ _ _ _
  refine wseq ?_
  have hq0:q=0:=by simpa using hc1
  subst hq0
  refine wreg fun K hK=>?_
  simp [C.impl_gcd]
  rw [wrapOk (x:=-p) (by omega) (by omega)]
  refine hK _ ?_;clear hK K
  show AWp _ _ _ _ _
  refine wret ?_
  have hpg:max p (-p)=(Int.gcd a b:Int):=by rw [<-hg];simp [Int.gcd];omega
  simp [C.impl_gcd,hpg]
end Go.Proofs.YtbhkonnakkhibaaGreat.Ab
namespace Go.Proofs.YtbhkonnakkhibaaGreat.Ab
open Go
set_option maxRecDepth 10000
abbrev aF (f:Lau):FV:=.ag [.int f.v,.d (.sh 2 f.ts.length (rows tS f.ts))]
end Go.Proofs.YtbhkonnakkhibaaGreat.Ab
namespace Go.Proofs.YtbhkonnakkhibaaGreat.Ab
open Go
set_option maxRecDepth 10000
set_option maxHeartbeats 2000000
theorem spec_l1Less_c (a b:List Int) (ha:a.length < 4611686018427387904):ACalls Tryz.prog F.spec_l1Less [.d (shI a),.d (shI b)] [] true (fun outs res=>outs=[]/\res=[.one (D.bool (lexlt a b))]):=by
 refine ACalls.of_body (C:=C.spec_l1Less) (n:=Tryz.f206.ntmps) tabT folT Tryz.func206 rfl (by kernel_rfl) rfl (Nat.le_of_ble_eq_true rfl) (by decide) (by kernel_rfl) (by kernel_rfl) rfl (by simp) (by simp) ?_
 simp only [Tryz.f206]
 refine wseq ?_
 refine wreg fun K hK=>?_
 simp [C.spec_l1Less]
 refine hK _ ?_;clear hK K
 show AWp _ _ _ _ _
 refine wseq ?_
 refine wseq ?_
 refine wreg fun K hK=>?_
 simp [C.spec_l1Less]
 refine hK _ ?_;clear hK K
 show AWp _ _ _ _ _
 refine wblock ?_
 refine wloop (fun k:Nat=>⟨ofL [(0,.d (shI a)),(1,.d (shI b)),(5,FV.int k)],ofRO []⟩) (fun k=>k<=a.length/\k<=b.length/\lexlt a b=lexlt (a.drop k) (b.drop k)) (fun k=>a.length - k) 0 (by simp [C.spec_l1Less]) (by simp) ?_
 intro x1 hx1 R1 hR1
 obtain ⟨hk,hk2,ht⟩:=hx1
 refine wseq ?_
 refine wseq ?_
 refine wreg fun K hK=>?_
 have hJ:K ⟨ofL [(0,.d (shI a)),(1,.d (shI b)),(5,FV.int x1),(15,.bool (decide (x1 < a.length/\x1 < b.length)))],ofRO []⟩:=by
  refine hK _ ?_;clear hK K
  show AWp _ _ _ _ _
  refine wcond _ rfl (fun hc1=>?_) (fun hc1=>?_)
  ·have hh:x1 < a.length/\x1 < b.length:=by simpa using hc1
   obtain ⟨h1,h2⟩:=hh
   refine wskip ?_
   show AWp _ _ _ _ _
   refine wseq ?_
   refine wblock ?_
   refine wseq ?_
   refine wdraw (.take 0 (.take 1 (.take 2 (.take 3 (.take 4 (.take 5 (.take 6 (.take 7 (.take 8 (.done)))))))))) ⟨by kernel_rfl,by kernel_rfl⟩ fun K hK=>?_
   simp [C.spec_l1Less,get_ints,h1,h2]
   refine hK _ ?_;clear hK K
   show AWp _ _ _ _ _
   refine wcond _ rfl (fun hc2=>?_) (fun hc2=>?_)
   ·refine wseq ?_
    refine wdraw (.take 0 (.take 1 (.take 2 (.take 3 (.take 4 (.take 5 (.take 6 (.take 7 (.take 8 (.take 9 (.done))))))))))) ⟨by kernel_rfl,by kernel_rfl⟩ fun K hK=>?_
    simp [C.spec_l1Less,get_ints,h1,h2]
    refine hK _ ?_;clear hK K
    show AWp _ _ _ _ _
    refine wret ?_
    simp at hc2
    simp [C.spec_l1Less]
    rw [ht,List.drop_eq_getElem_cons h1,List.drop_eq_getElem_cons h2]
    simp [lexlt,hc2]
   ·refine wskip ?_
    show AWp _ _ _ _ _
    refine wreg fun K hK=>?_
    simp [C.spec_l1Less,wrap_succ (show x1 < 4611686018427387904 by omega)]
    refine hK _ ?_;clear hK K
    simp [C.spec_l1Less]
    simp at hc2
    refine hR1 (x1+1) ⟨h1,h2,?_⟩ (by omega)
    rw [ht,List.drop_eq_getElem_cons h1,List.drop_eq_getElem_cons h2]
    simp [lexlt,hc2]
  ·have hh:¬ (x1 < a.length/\x1 < b.length):=by simpa using hc1
   refine wexit ?_
   show AWp _ _ _ _ _
   refine wseq ?_
   refine wreg fun K hK=>?_
   simp [C.spec_l1Less]
   refine hK _ ?_;clear hK K
   show AWp _ _ _ _ _
   refine wret ?_
   simp [C.spec_l1Less]
   rw [ht]
   by_cases q:x1 < a.length
   ·rw [List.drop_eq_nil_of_le (show b.length<=x1 by omega),List.drop_eq_getElem_cons q]
    simp [lexlt]
    omega
   ·rw [List.drop_eq_nil_of_le (show a.length<=x1 by omega)]
    by_cases q2:x1 < b.length
    ·rw [List.drop_eq_getElem_cons q2]
     simp [lexlt]
     omega
    ·rw [List.drop_eq_nil_of_le (show b.length<=x1 by omega)]
     simp [lexlt]
     omega
 clear hK
 by_cases hg:x1 < a.length
 ·simp [C.spec_l1Less,hg]
  refine cast (congrArg K ?_) hJ
  simp [hg]
 ·simp [C.spec_l1Less,hg]
  refine cast (congrArg K ?_) hJ
  simp [hg]
theorem spec_l2Right_c (f:Lau) (hx:f.ts.length < 4611686018427387904) (hxe:∀ t∈f.ts,t.e.length < 4611686018427387904):ACalls Tryz.prog F.spec_l2Right [aF f] [] true (fun outs res=>outs=[]/\res=[.one (D.bool (decide (Right f)))]):=by
 refine ACalls.of_body (C:=C.spec_l2Right) (n:=Tryz.f136.ntmps) tabT folT Tryz.func136 rfl (by kernel_rfl) rfl (Nat.le_of_ble_eq_true rfl) (by decide) (by kernel_rfl) (by kernel_rfl) rfl (by simp) (by simp) ?_
 simp only [Tryz.f136]
 refine wseq ?_
 refine wreg fun K hK=>?_
 simp [C.spec_l2Right,fS,tS]
 refine hK _ ?_;clear hK K
 show AWp _ _ _ _ _
 refine wseq ?_
 refine wseq ?_
 refine wregI ([0,1,2] ++ ([3,4,5,6,7,8,9])) rfl fun K hK=>?_
 have hJ:K ⟨ofL [(1,.pt (1,0) [] 0),(15,.bool (decide (¬ (1<=f.v/\f.v<=8)\/600 < (f.ts.length:Int))))],ofRO [((1,0),some (.bx (fS f)))]⟩:=by
  refine hK _ ?_;clear hK K
  show AWp _ _ _ _ _
  refine wcond _ rfl (fun hc1=>?_) (fun hc1=>?_)
  ·have hh:=d_t hc1
   refine wseq ?_
   refine wreg fun K hK=>?_
   simp [C.spec_l2Right,fS,tS]
   refine hK _ ?_;clear hK K
   show AWp _ _ _ _ _
   refine wret ?_
   simp [C.spec_l2Right,fS,tS]
   intro hr;have:=hr.1;have:=hr.2.1;omega
  ·have hh0:=d_f hc1
   have hh:(1<=f.v/\f.v<=8)/\f.ts.length<=600:=by omega
   refine wskip ?_
   show AWp _ _ _ _ _
   refine wseq ?_
   refine wseq ?_
   refine wreg fun K hK=>?_
   simp [C.spec_l2Right,fS,tS]
   refine hK _ ?_;clear hK K
   show AWp _ _ _ _ _
   refine wblock ?_
   refine wloop (fun k:Nat=>⟨ofL [(1,.pt (1,0) [] 0),(3,.int k)],ofRO [((1,0),some (.bx (fS f)))]⟩) (fun k=>k<=f.ts.length/\(∀ t∈f.ts.take k,Good f.v t)/\DescT (f.ts.take k)) (fun k=>f.ts.length - k) 0 (by simp [C.spec_l2Right,fS]) (by simp [DescT]) ?_
   intro x1 hx1 R1 hR1
   obtain ⟨hk,hgood,hdesc⟩:=hx1
   refine wseq ?_
   refine wseq ?_
   refine wreg fun K hK=>?_
   simp [C.spec_l2Right,fS,tS]
   refine hK _ ?_;clear hK K
   show AWp _ _ _ _ _
   refine wcond _ rfl (fun hc2=>?_) (fun hc2=>?_)
   ·have h1:x1 < f.ts.length:=by simpa using hc2
    refine wskip ?_
    show AWp _ _ _ _ _
    refine wseq ?_
    refine wblock ?_
    refine wseq ?_
    refine wreg fun K hK=>?_
    simp [C.spec_l2Right,fS,tS,h1,tS_0 h1,tS_1 h1]
    refine hK _ ?_;clear hK K
    show AWp _ _ _ _ _
    refine wseq ?_
    refine wseq ?_
    have hp:0 < x1->x1 - 1 < f.ts.length:=by omega
    refine wdrawI [(true,0),(true,1),(true,2),(true,3),(true,4),(true,5),(true,6),(true,7),(true,8),(true,9),(true,10),(true,11),(true,12),(true,13),(false,14),(true,15),(true,16),(true,17),(true,18),(true,19),(true,20),(true,21),(true,22),(true,23),(true,24),(true,25),(true,26),(true,27),(true,28),(true,29),(false,30),(true,31),(true,32),(true,33)] ⟨by kernel_rfl,by kernel_rfl⟩ ([0,1,2,3,4,5,6,7,8,9,10,11,12,13,14] ++ ([15,16,17,18,19,20,21,22,23,24,25,26,27,28,29,30] ++ ([31,32,33]))) rfl fun K hK=>?_
    have hJ:K ⟨ofL [(1,.pt (1,0) [] 0),(3,.int x1),(4,.pt (4,0) [] 0),(61,.bool (!decide ((f.ts[x1].e.length:Int)=f.v/\f.ts[x1].c≠0/\(-1000000<=f.ts[x1].c/\f.ts[x1].c<=1000000)/\(x1=0\/lexlt f.ts[x1].e f.ts[x1 - 1].e=true))))],ofRO [((1,0),some (.bx (fS f))),((4,0),some (.bx (tS f.ts[x1])))]⟩:=by
     refine hK _ ?_;clear hK K
     show AWp _ _ _ _ _
     refine wcond _ rfl (fun hc3=>?_) (fun hc3=>?_)
     ·have hb:=nd_t hc3
      refine wseq ?_
      refine wreg fun K hK=>?_
      simp [C.spec_l2Right,fS,tS]
      refine hK _ ?_;clear hK K
      show AWp _ _ _ _ _
      refine wret ?_
      simp [C.spec_l2Right,fS,tS]
      intro hr
      have hg:=hr.2.2.1 _ (List.getElem_mem h1)
      exact hb ⟨hg.1,hg.2.1,hg.2.2.1,descT_next h1 hr.2.2.2⟩
     ·have hb:=nd_f hc3
      refine wskip ?_
      show AWp _ _ _ _ _
      refine wseq ?_
      refine wreg fun K hK=>?_
      simp [C.spec_l2Right,fS,tS]
      refine hK _ ?_;clear hK K
      show AWp _ _ _ _ _
      refine wblock ?_
      refine wloop (fun i:Nat=>⟨ofL [(1,.pt (1,0) [] 0),(3,.int x1),(4,.pt (4,0) [] 0),(5,.int i)],ofRO [((1,0),some (.bx (fS f))),((4,0),some (.bx (tS f.ts[x1])))]⟩) (fun i=>i<=f.ts[x1].e.length/\∀ x∈f.ts[x1].e.take i,-20<=x/\x<=20) (fun i=>f.ts[x1].e.length - i) 0 (by simp [C.spec_l2Right,fS,tS]) (by simp) ?_
      intro x2 hx2 R2 hR2
      obtain ⟨hi,hin⟩:=hx2
      refine wseq ?_
      refine wseq ?_
      refine wreg fun K hK=>?_
      simp [C.spec_l2Right,fS,tS]
      refine hK _ ?_;clear hK K
      show AWp _ _ _ _ _
      refine wcond _ rfl (fun hc4=>?_) (fun hc4=>?_)
      ·have h2:x2 < f.ts[x1].e.length:=by have:=d_t hc4;omega
       refine wskip ?_
       show AWp _ _ _ _ _
       refine wseq ?_
       refine wblock ?_
       refine wseq ?_
       refine wregI ([0,1,2,3,4,5] ++ ([6])) rfl fun K hK=>?_
       refine oSg fun L hL=>?_
       simp [C.spec_l2Right,fS,tS,h1,h2,get_ints]
       refine wcall1 (spec_l1In_c f.ts[x1].e[x2] (-20) 20) (by simp) (by simp) ?_
       simp [C.spec_l2Right,fS,tS,h1,h2,get_ints]
       refine hL _ ?_;clear hL L
       refine oEn fun L hL=>?_
       simp [C.spec_l2Right,fS,tS,h1,h2,get_ints]
       refine hL _ ?_;clear hL L
       simp [C.spec_l2Right,fS,tS,h1,h2,get_ints]
       refine hK _ ?_;clear hK K
       show AWp _ _ _ _ _
       refine wcond _ rfl (fun hc5=>?_) (fun hc5=>?_)
       ·have hb2:¬ (-20<=f.ts[x1].e[x2]/\f.ts[x1].e[x2]<=20):=by simp at hc5;omega
        refine wseq ?_
        refine wreg fun K hK=>?_
        simp [C.spec_l2Right,fS,tS]
        refine hK _ ?_;clear hK K
        show AWp _ _ _ _ _
        refine wret ?_
        simp [C.spec_l2Right,fS,tS]
        intro hr
        exact hb2 ((hr.2.2.1 _ (List.getElem_mem h1)).2.2.2 _ (List.getElem_mem h2))
       ·have hb2:-20<=f.ts[x1].e[x2]/\f.ts[x1].e[x2]<=20:=by simpa using hc5
        refine wskip ?_
        show AWp _ _ _ _ _
        refine wreg fun K hK=>?_
        simp [C.spec_l2Right,fS,tS,wrap_succ (show x2 < 4611686018427387904 by have:=hxe _ (List.getElem_mem h1);omega)]
        refine hK _ ?_;clear hK K
        simp [C.spec_l2Right,fS,tS]
        refine hR2 (x2+1) ⟨h2,?_⟩ (by omega)
        rw [List.take_succ_eq_append_getElem h2]
        intro x hx
        rcases List.mem_append.1 hx with hx | hx
        ·exact hin x hx
        ·simp only [List.mem_singleton] at hx
         rw [hx]
         exact hb2
      ·have h2:x2=f.ts[x1].e.length:=by have:=d_f hc4;omega
       refine wexit ?_
       show AWp _ _ _ _ _
       refine wreg fun K hK=>?_
       simp [C.spec_l2Right,fS,tS,wrap_succ (show x1 < 4611686018427387904 by omega)]
       refine hK _ ?_;clear hK K
       simp [C.spec_l2Right,fS,tS]
       refine hR1 (x1+1) ⟨h1,?_,descT_step h1 hdesc hb.2.2.2⟩ (by omega)
       rw [List.take_succ_eq_append_getElem h1]
       intro t ht
       rcases List.mem_append.1 ht with ht | ht
       ·exact hgood t ht
       ·simp only [List.mem_singleton] at ht
        rw [ht]
        refine ⟨hb.1,hb.2.1,hb.2.2.1,?_⟩
        rw [h2,List.take_length] at hin
        exact hin
    clear hK
    by_cases ha:(f.ts[x1].e.length:Int)=f.v
    ·by_cases hb:f.ts[x1].c=0
     ·refine oSg fun L hL=>?_
      simp [C.spec_l2Right,fS,tS,ha,hb]
      refine hL _ ?_;clear hL L
      refine oSg fun L hL=>?_
      simp [C.spec_l2Right,fS,tS,ha,hb]
      refine hL _ ?_;clear hL L
      refine oEn fun L hL=>?_
      simp [C.spec_l2Right,fS,tS,ha,hb]
      refine hL _ ?_;clear hL L
      simp [C.spec_l2Right,fS,tS,ha,hb]
      refine cast (congrArg K ?_) hJ
      simp [fS,tS,ha,hb]
     ·by_cases hc:-1000000<=f.ts[x1].c/\f.ts[x1].c<=1000000
      ·by_cases hd:0 < x1
       ·obtain ⟨m,rfl⟩:∃ m,x1=m+1:=⟨x1 - 1,by omega⟩
        have hm:m < f.ts.length:=by omega
        refine oSg fun L hL=>?_
        simp [C.spec_l2Right,fS,tS,hm,tS_0 hm,wrap_nat (show m < 4611686018427387904 by omega),ha,hb,hc,hd]
        refine wcall1 (spec_l1In_c f.ts[m+1].c (-1000000) 1000000) (by simp) (by simp) ?_
        simp [C.spec_l2Right,fS,tS,hm,tS_0 hm,wrap_nat (show m < 4611686018427387904 by omega),ha,hb,hc,hd]
        refine hL _ ?_;clear hL L
        refine oSg fun L hL=>?_
        simp [C.spec_l2Right,fS,tS,hm,tS_0 hm,wrap_nat (show m < 4611686018427387904 by omega),ha,hb,hc,hd]
        refine wcall1 (spec_l1Less_c f.ts[m+1].e f.ts[m].e (hxe _ (List.getElem_mem h1))) (by simp) (by simp) ?_
        simp [C.spec_l2Right,fS,tS,hm,tS_0 hm,wrap_nat (show m < 4611686018427387904 by omega),ha,hb,hc,hd]
        refine hL _ ?_;clear hL L
        refine oEn fun L hL=>?_
        simp [C.spec_l2Right,fS,tS,hm,tS_0 hm,wrap_nat (show m < 4611686018427387904 by omega),ha,hb,hc,hd]
        refine hL _ ?_;clear hL L
        simp [C.spec_l2Right,fS,tS,hm,tS_0 hm,wrap_nat (show m < 4611686018427387904 by omega),ha,hb,hc,hd]
        refine cast (congrArg K ?_) hJ
        simp [fS,tS,ha,hb,hc,hd]
       ·obtain rfl:x1=0:=by omega
        refine oSg fun L hL=>?_
        simp [C.spec_l2Right,fS,tS,ha,hb,hc,hd]
        refine wcall1 (spec_l1In_c f.ts[0].c (-1000000) 1000000) (by simp) (by simp) ?_
        simp [C.spec_l2Right,fS,tS,ha,hb,hc,hd]
        refine hL _ ?_;clear hL L
        refine oSg fun L hL=>?_
        simp [C.spec_l2Right,fS,tS,ha,hb,hc,hd]
        refine hL _ ?_;clear hL L
        refine oEn fun L hL=>?_
        simp [C.spec_l2Right,fS,tS,ha,hb,hc,hd]
        refine hL _ ?_;clear hL L
        simp [C.spec_l2Right,fS,tS,ha,hb,hc,hd]
        refine cast (congrArg K ?_) hJ
        simp [fS,tS,ha,hb,hc,hd]
      ·refine oSg fun L hL=>?_
       simp [C.spec_l2Right,fS,tS,ha,hb,hc]
       refine wcall1 (spec_l1In_c f.ts[x1].c (-1000000) 1000000) (by simp) (by simp) ?_
       simp [C.spec_l2Right,fS,tS,ha,hb,hc]
       refine hL _ ?_;clear hL L
       refine oSg fun L hL=>?_
       simp [C.spec_l2Right,fS,tS,ha,hb,hc]
       refine hL _ ?_;clear hL L
       refine oEn fun L hL=>?_
       simp [C.spec_l2Right,fS,tS,ha,hb,hc]
       refine hL _ ?_;clear hL L
       simp [C.spec_l2Right,fS,tS,ha,hb,hc]
       refine cast (congrArg K ?_) hJ
       simp [fS,tS,ha,hb,hc]
    ·refine oSg fun L hL=>?_
     simp [C.spec_l2Right,fS,tS,ha]
     refine hL _ ?_;clear hL L
     refine oSg fun L hL=>?_
     simp [C.spec_l2Right,fS,tS,ha]
     refine hL _ ?_;clear hL L
     refine oEn fun L hL=>?_
     simp [C.spec_l2Right,fS,tS,ha]
     refine hL _ ?_;clear hL L
     simp [C.spec_l2Right,fS,tS,ha]
     refine cast (congrArg K ?_) hJ
     simp [fS,tS,ha]
   ·have h2:x1=f.ts.length:=by have:=d_f hc2;omega
    refine wexit ?_
    show AWp _ _ _ _ _
    refine wseq ?_
    refine wreg fun K hK=>?_
    simp [C.spec_l2Right,fS,tS]
    refine hK _ ?_;clear hK K
    show AWp _ _ _ _ _
    refine wret ?_
    simp [C.spec_l2Right,fS,tS]
    rw [h2,List.take_length] at hgood hdesc
    exact ⟨hh.1,hh.2,hgood,hdesc⟩
 clear hK
 by_cases ha:1<=f.v/\f.v<=8
 ·refine oSg fun L hL=>?_
  simp [C.spec_l2Right,fS,tS,ha]
  refine wcall1 (spec_l1In_c f.v 1 8) (by simp) (by simp) ?_
  simp [C.spec_l2Right,fS,tS,ha]
  refine hL _ ?_;clear hL L
  refine oEn fun L hL=>?_
  simp [C.spec_l2Right,fS,tS,ha]
  refine hL _ ?_;clear hL L
  simp [C.spec_l2Right,fS,tS,ha]
  refine cast (congrArg K ?_) hJ
  simp [fS,tS,ha]
 ·refine oSg fun L hL=>?_
  simp [C.spec_l2Right,fS,tS,ha]
  refine wcall1 (spec_l1In_c f.v 1 8) (by simp) (by simp) ?_
  simp [C.spec_l2Right,fS,tS,ha]
  refine hL _ ?_;clear hL L
  refine oEn fun L hL=>?_
  simp [C.spec_l2Right,fS,tS,ha]
  refine hL _ ?_;clear hL L
  simp [C.spec_l2Right,fS,tS,ha]
  refine cast (congrArg K ?_) hJ
  simp [fS,tS,ha]
theorem spec_l2Two_c (f g:Lau) (hx:f.ts.length < 4611686018427387904) (hxe:∀ t∈f.ts,t.e.length < 4611686018427387904) (hy:g.ts.length < 4611686018427387904) (hye:∀ t∈g.ts,t.e.length < 4611686018427387904):ACalls Tryz.prog F.spec_l2Two [aF f,aF g] [] true (fun outs res=>outs=[]/\res=[.one (D.bool (decide (Right f/\Right g/\f.v=g.v)))]):=by
 refine ACalls.of_body (C:=C.spec_l2Two) (n:=Tryz.f195.ntmps) tabT folT Tryz.func195 rfl (by kernel_rfl) rfl (Nat.le_of_ble_eq_true rfl) (by decide) (by kernel_rfl) (by kernel_rfl) rfl (by simp) (by simp) ?_
 simp only [Tryz.f195]
 refine wseq ?_
 refine wreg fun K hK=>?_
 simp [C.spec_l2Two,fS]
 refine hK _ ?_;clear hK K
 show AWp _ _ _ _ _
 refine wseq ?_
 refine wregI ([0,1] ++ ([2,3,4] ++ ([5,6,7,8,9,10,11,12,13]))) rfl fun K hK=>?_
 have hJ:K ⟨ofL [(4,.bool (decide (Right f/\Right g/\f.v=g.v)))],ofRO []⟩:=by
  refine hK _ ?_;clear hK K
  show AWp _ _ _ _ _
  refine wret ?_
  simp [C.spec_l2Two,fS]
 clear hK
 by_cases ha:Right f
 ·by_cases hb:Right g
  ·refine oSg fun L hL=>?_
   simp [C.spec_l2Two,fS,ha,hb]
   refine wcall1 (spec_l2Right_c f hx hxe) (by simp) (by simp) ?_
   simp [C.spec_l2Two,fS,ha,hb]
   refine hL _ ?_;clear hL L
   refine oSg fun L hL=>?_
   simp [C.spec_l2Two,fS,ha,hb]
   refine wcall1 (spec_l2Right_c g hy hye) (by simp) (by simp) ?_
   simp [C.spec_l2Two,fS,ha,hb]
   refine hL _ ?_;clear hL L
   refine oEn fun L hL=>?_
   simp [C.spec_l2Two,fS,ha,hb]
   refine hL _ ?_;clear hL L
   simp [C.spec_l2Two,fS,ha,hb]
   refine cast (congrArg K ?_) hJ
   simp [ibeq,fS,ha,hb]
  ·refine oSg fun L hL=>?_
   simp [C.spec_l2Two,fS,ha,hb]
   refine wcall1 (spec_l2Right_c f hx hxe) (by simp) (by simp) ?_
   simp [C.spec_l2Two,fS,ha,hb]
   refine hL _ ?_;clear hL L
   refine oSg fun L hL=>?_
   simp [C.spec_l2Two,fS,ha,hb]
   refine wcall1 (spec_l2Right_c g hy hye) (by simp) (by simp) ?_
   simp [C.spec_l2Two,fS,ha,hb]
   refine hL _ ?_;clear hL L
   refine oEn fun L hL=>?_
   simp [C.spec_l2Two,fS,ha,hb]
   refine hL _ ?_;clear hL L
   simp [C.spec_l2Two,fS,ha,hb]
   refine cast (congrArg K ?_) hJ
   simp [ibeq,fS,ha,hb]
 ·refine oSg fun L hL=>?_
  simp [C.spec_l2Two,fS,ha]
  refine wcall1 (spec_l2Right_c f hx hxe) (by simp) (by simp) ?_
  simp [C.spec_l2Two,fS,ha]
  refine hL _ ?_;clear hL L
  refine oSg fun L hL=>?_
  simp [C.spec_l2Two,fS,ha]
  refine hL _ ?_;clear hL L
  refine oEn fun L hL=>?_
  simp [C.spec_l2Two,fS,ha]
  refine hL _ ?_;clear hL L
  simp [C.spec_l2Two,fS,ha]
  refine cast (congrArg K ?_) hJ
  simp [ibeq,fS,ha]
theorem spec_l2Key_c (xs:List Int) (hd:Dig xs) (hl:xs.length<=8):ACalls Tryz.prog F.spec_l2Key [.d (shI xs)] [] true (fun outs res=>outs=[]/\res=[.one (D.int (keyA 0 xs))]):=by
 refine ACalls.of_body (C:=C.spec_l2Key) (n:=Tryz.f147.ntmps) tabT folT Tryz.func147 rfl (by kernel_rfl) rfl (Nat.le_of_ble_eq_true rfl) (by decide) (by kernel_rfl) (by kernel_rfl) rfl (by simp) (by simp) ?_
 simp only [Tryz.f147]
 refine wseq ?_
 refine wreg fun K hK=>?_
 simp [C.spec_l2Key]
 refine hK _ ?_;clear hK K
 show AWp _ _ _ _ _
 refine wseq ?_
 refine wreg fun K hK=>?_
 simp [C.spec_l2Key]
 refine hK _ ?_;clear hK K
 show AWp _ _ _ _ _
 refine wseq ?_
 refine wseq ?_
 refine wreg fun K hK=>?_
 simp [C.spec_l2Key]
 refine hK _ ?_;clear hK K
 show AWp _ _ _ _ _
 refine wblock ?_
 refine wloop (fun x:Nat×Int=>⟨ofL [(0,.d (shI xs)),(3,.int x.2),(4,.int x.1)],ofRO []⟩) (fun x=>x.1<=xs.length/\x.2=keyA 0 (xs.take x.1)) (fun x=>xs.length - x.1) (0,0) (by simp [C.spec_l2Key]) (by simp [keyA]) ?_
 intro x1 hx1 R1 hR1
 obtain ⟨j,k⟩:=x1
 obtain ⟨hj,hk⟩:=hx1
 dsimp only at hj hk ⊢
 refine wseq ?_
 refine wseq ?_
 refine wreg fun K hK=>?_
 simp [C.spec_l2Key]
 refine hK _ ?_;clear hK K
 show AWp _ _ _ _ _
 refine wcond _ rfl (fun hc1=>?_) (fun hc1=>?_)
 ·have h1:j < xs.length:=d_t hc1 |> fun h=>by omega
  have hb:=keyA_key (a:=xs.take j) (fun x hx=>hd x (List.mem_of_mem_take hx)) (by simp;omega)
  rw [<-hk] at hb
  have hx:=hd _ (List.getElem_mem h1)
  refine wskip ?_
  show AWp _ _ _ _ _
  refine wseq ?_
  refine wblock ?_
  refine wreg fun K hK=>?_
  simp [C.spec_l2Key,get_ints,h1]
  rw [wrapOk (x:=k*128) (by omega) (by omega),wrapOk (x:=k*128+xs[j]) (by omega) (by omega),wrapOk (x:=k*128+xs[j]+64) (by omega) (by omega)]
  refine hK _ ?_;clear hK K
  show AWp _ _ _ _ _
  refine wreg fun K hK=>?_
  simp [C.spec_l2Key,wrap_succ (show j < 4611686018427387904 by omega)]
  refine hK _ ?_;clear hK K
  simp [C.spec_l2Key]
  refine hR1 (j+1,_) ⟨h1,?_⟩ (by dsimp only;omega)
  dsimp only
  rw [List.take_succ_eq_append_getElem h1,keyA_append,<-hk]
  rfl
 ·have h1:j=xs.length:=by have:=d_f hc1;omega
  refine wexit ?_
  show AWp _ _ _ _ _
  refine wseq ?_
  refine wreg fun K hK=>?_
  simp [C.spec_l2Key]
  refine hK _ ?_;clear hK K
  show AWp _ _ _ _ _
  refine wret ?_
  simp [C.spec_l2Key]
  rw [hk,h1,List.take_length]
theorem spec_l2Base_c (n:Nat) (hn:n<=8):ACalls Tryz.prog F.spec_l2Base [.int n] [] true (fun outs res=>outs=[]/\res=[.one (D.int (keyA 0 (List.replicate n 0)))]):=by
 refine ACalls.of_body (C:=C.spec_l2Base) (n:=Tryz.f198.ntmps) tabT folT Tryz.func198 rfl (by kernel_rfl) rfl (Nat.le_of_ble_eq_true rfl) (by decide) (by kernel_rfl) (by kernel_rfl) rfl (by simp) (by simp) ?_
 simp only [Tryz.f198]
 refine wseq ?_
 refine wreg fun K hK=>?_
 simp [C.spec_l2Base]
 refine hK _ ?_;clear hK K
 show AWp _ _ _ _ _
 refine wseq ?_
 refine wregI ([0,1,2] ++ ([3])) rfl fun K hK=>?_
 refine oSg fun L hL=>?_
 simp [C.spec_l2Base,zeros_ints,show (8:Int)*n<=281474976710656 by omega,show (n:Int)<=281474976710656 by omega]
 refine wcall1 (spec_l2Key_c (List.replicate n 0) (fun x hx=>by have:=List.eq_of_mem_replicate hx;omega) (by simpa using hn)) (by simp) (by simp) ?_
 simp [C.spec_l2Base,zeros_ints,show (8:Int)*n<=281474976710656 by omega,show (n:Int)<=281474976710656 by omega]
 refine hL _ ?_;clear hL L
 refine oEn fun L hL=>?_
 simp [C.spec_l2Base,zeros_ints,show (8:Int)*n<=281474976710656 by omega,show (n:Int)<=281474976710656 by omega]
 refine hL _ ?_;clear hL L
 simp [C.spec_l2Base,zeros_ints,show (8:Int)*n<=281474976710656 by omega,show (n:Int)<=281474976710656 by omega]
 refine hK _ ?_;clear hK K
 show AWp _ _ _ _ _
 refine wret ?_
 simp [C.spec_l2Base]
theorem spec_l2Exp_c (e:List Int) (hd:Dig e) (hl:e.length<=8):ACalls Tryz.prog F.spec_l2Exp [.int (keyA 0 e),.int e.length] [] true (fun outs res=>outs=[]/\res=[.one (owI e)]):=by
 refine ACalls.of_body (C:=C.spec_l2Exp) (n:=Tryz.f163.ntmps) tabT folT Tryz.func163 rfl (by kernel_rfl) rfl (Nat.le_of_ble_eq_true rfl) (by decide) (by kernel_rfl) (by kernel_rfl) rfl (by simp) (by simp) ?_
 simp only [Tryz.f163]
 refine wseq ?_
 refine wreg fun K hK=>?_
 simp [C.spec_l2Exp]
 refine hK _ ?_;clear hK K
 show AWp _ _ _ _ _
 refine wseq ?_
 refine wreg fun K hK=>?_
 simp [C.spec_l2Exp,zeros_ints,show (8:Int)*e.length<=281474976710656 by omega,show (e.length:Int)<=281474976710656 by omega]
 refine hK _ ?_;clear hK K
 show AWp _ _ _ _ _
 refine wseq ?_
 refine wseq ?_
 refine wreg fun K hK=>?_
 simp [C.spec_l2Exp]
 rw [wrapOk (x:=(e.length:Int) - 1) (by omega) (by omega)]
 refine hK _ ?_;clear hK K
 show AWp _ _ _ _ _
 refine wblock ?_
 refine wloop (fun x:Nat×Int×List Int=>⟨ofL [(0,.int x.2.1),(5,.al (5,0) [] 0 e.length),(6,.int ((x.1:Int) - 1))],ofRO [((5,0),some (.ow 1 e.length (ints x.2.2)))]⟩) (fun x=>x.1<=e.length/\x.2.1=keyA 0 (e.take x.1)/\x.2.2.length=e.length/\x.2.2.drop x.1=e.drop x.1) (fun x=>x.1) (e.length,keyA 0 e,List.replicate e.length 0) (by simp [C.spec_l2Exp]) (by simp) ?_
 intro x1 hx1 R1 hR1
 obtain ⟨j,k,gs⟩:=x1
 obtain ⟨hj,hk,hg,he⟩:=hx1
 dsimp only at hj hk hg he ⊢
 refine wseq ?_
 refine wseq ?_
 refine wreg fun K hK=>?_
 simp [C.spec_l2Exp]
 refine hK _ ?_;clear hK K
 show AWp _ _ _ _ _
 refine wcond _ rfl (fun hc1=>?_) (fun hc1=>?_)
 ·obtain ⟨m,rfl⟩:∃ m,j=m+1:=⟨j - 1,by have:=d_t hc1;omega⟩
  have h1:m < e.length:=by omega
  have hq:Dig (e.take m):=fun x hx=>hd x (List.mem_of_mem_take hx)
  have hdec:=keyA_dec (a:=e.take m) (x:=e[m]) (p:=0) hq (hd _ (List.getElem_mem h1)) (by omega)
  rw [<-List.take_succ_eq_append_getElem h1,<-hk] at hdec
  have hkb:=keyA_key (a:=e.take (m+1)) (fun x hx=>hd x (List.mem_of_mem_take hx)) (by simp;omega)
  rw [<-hk] at hkb
  have hkb2:=keyA_key (a:=e.take m) hq (by simp;omega)
  have hx:=hd _ (List.getElem_mem h1)
  refine wskip ?_
  show AWp _ _ _ _ _
  refine wseq ?_
  refine wblock ?_
  refine wseq ?_
  refine wreg fun K hK=>?_
  simp [C.spec_l2Exp,h1,hg]
  rw [hdec.1,wrapOk (x:=e[m]) (by omega) (by omega)]
  refine hK _ ?_;clear hK K
  show AWp _ _ _ _ _
  refine wreg fun K hK=>?_
  simp [C.spec_l2Exp]
  rw [hdec.2,wrapOk (x:=keyA 0 (e.take m)) (by omega) (by omega)]
  refine hK _ ?_;clear hK K
  show AWp _ _ _ _ _
  refine wreg fun K hK=>?_
  simp [C.spec_l2Exp]
  rw [wrapOk (x:=(m:Int) - 1) (by omega) (by omega)]
  refine hK _ ?_;clear hK K
  simp [C.spec_l2Exp]
  refine hR1 (m,_,_) ⟨by dsimp only;omega,rfl,by simpa using hg,?_⟩ (by dsimp only;omega)
  dsimp only
  rw [List.drop_eq_getElem_cons h1,List.drop_eq_getElem_cons (by simp;omega),List.drop_set_of_lt (by omega),he]
  simp
 ·have hj0:j=0:=by have:=d_f hc1;omega
  refine wexit ?_
  show AWp _ _ _ _ _
  refine wseq ?_
  refine wreg fun K hK=>?_
  simp [C.spec_l2Exp]
  refine hK _ ?_;clear hK K
  show AWp _ _ _ _ _
  refine wret ?_
  simp [C.spec_l2Exp]
  rw [hj0,List.drop_zero,List.drop_zero] at he
  rw [he]
end Go.Proofs.YtbhkonnakkhibaaGreat.Ab
namespace Go.Proofs.YtbhkonnakkhibaaGreat.Ab
open Go
set_option maxRecDepth 10000
set_option maxHeartbeats 2000000
def kt (t:Trm):Int×Int:=(keyA 0 t.e,t.c)
theorem spec_l2Open_c (f:Lau) (hl:f.ts.length<=1000000) (he:∀ t∈f.ts,Dig t.e/\t.e.length<=8):ACalls Tryz.prog F.spec_l2Open [aF f] [] true (fun outs res=>outs=[]/\res=[.one (.ow 2 f.ts.length (rows gM (f.ts.map kt)))]):=by
 refine ACalls.of_body (C:=C.spec_l2Open) (n:=Tryz.f197.ntmps) tabT folT Tryz.func197 rfl (by kernel_rfl) rfl (Nat.le_of_ble_eq_true rfl) (by decide) (by kernel_rfl) (by kernel_rfl) rfl (by simp) (by simp) ?_
 simp only [Tryz.f197]
 refine wseq ?_
 refine wreg fun K hK=>?_
 simp [C.spec_l2Open,fS]
 refine hK _ ?_;clear hK K
 show AWp _ _ _ _ _
 refine wseq ?_
 refine wreg fun K hK=>?_
 simp [C.spec_l2Open,fS]
 refine hK _ ?_;clear hK K
 show AWp _ _ _ _ _
 refine wseq ?_
 refine wseq ?_
 refine wreg fun K hK=>?_
 simp [C.spec_l2Open,fS]
 refine hK _ ?_;clear hK K
 show AWp _ _ _ _ _
 refine wblock ?_
 refine wloop (fun x:Nat×List (Int×Int)=>⟨ofL [(1,.pt (1,0) [] 0),(3,.al (3,0) [] 0 x.1),(4,.int x.1)],ofRO [((1,0),some (.bx (fS f))),((3,0),some (.ow 2 x.1 (rows gM x.2)))]⟩) (fun x=>x.1<=f.ts.length/\x.2=(f.ts.take x.1).map kt) (fun x=>f.ts.length - x.1) (0,[]) (by simp [C.spec_l2Open,fS,rows]) (by simp) ?_
 intro x1 hx1 R1 hR1
 obtain ⟨j,gs⟩:=x1
 obtain ⟨hj,hg⟩:=hx1
 dsimp only at hj hg ⊢
 refine wseq ?_
 refine wseq ?_
 refine wreg fun K hK=>?_
 simp [C.spec_l2Open,fS]
 refine hK _ ?_;clear hK K
 show AWp _ _ _ _ _
 refine wcond _ rfl (fun hc1=>?_) (fun hc1=>?_)
 ·have h1:j < f.ts.length:=by have:=d_t hc1;omega
  have hgl:gs.length=j:=by rw [hg];simp;omega
  refine wskip ?_
  show AWp _ _ _ _ _
  refine wseq ?_
  refine wblock ?_
  refine wdrawI [(true,0),(true,1),(true,2),(true,3),(true,4),(true,5),(true,6),(true,8),(true,9),(true,10),(true,11),(true,12),(true,13),(false,7),(true,14),(false,15),(false,16),(true,17)] ⟨by kernel_rfl,by kernel_rfl⟩ ([0,1,2,3,4,5,6,8,9,10,11,12,13,7] ++ ([14,15,16,17])) rfl fun K hK=>?_
  refine oSg fun L hL=>?_
  simp [C.spec_l2Open,fS,h1,tS_0 h1,tS_1 h1,gM_snoc,show (j+1)*16<=140737488355328 by omega]
  refine wcall1 (spec_l2Key_c f.ts[j].e (he _ (List.getElem_mem h1)).1 (he _ (List.getElem_mem h1)).2) (by simp) (by simp) ?_
  simp [C.spec_l2Open,fS,h1,tS_0 h1,tS_1 h1,gM_snoc,show (j+1)*16<=140737488355328 by omega]
  refine hL _ ?_;clear hL L
  refine oEn fun L hL=>?_
  simp [C.spec_l2Open,fS,h1,tS_0 h1,tS_1 h1,gM_snoc,show (j+1)*16<=140737488355328 by omega]
  refine hL _ ?_;clear hL L
  simp [C.spec_l2Open,fS,h1,tS_0 h1,tS_1 h1,gM_snoc,show (j+1)*16<=140737488355328 by omega]
  refine hK _ ?_;clear hK K
  show AWp _ _ _ _ _
  refine wreg fun K hK=>?_
  simp [C.spec_l2Open,fS,wrap_succ (show j < 4611686018427387904 by omega)]
  refine hK _ ?_;clear hK K
  simp [C.spec_l2Open,fS]
  refine hR1 (j+1,_) ⟨h1,?_⟩ (by dsimp only;omega)
  dsimp only
  rw [hg,List.take_succ_eq_append_getElem h1,List.map_append]
  rfl
 ·have h1:j=f.ts.length:=by have:=d_f hc1;omega
  refine wexit ?_
  show AWp _ _ _ _ _
  refine wseq ?_
  refine wreg fun K hK=>?_
  simp [C.spec_l2Open,fS]
  refine hK _ ?_;clear hK K
  show AWp _ _ _ _ _
  refine wret ?_
  simp [C.spec_l2Open,fS,hg,h1]
theorem spec_l2Shut_c (ts:List Trm) (v:Nat) (hl:ts.length<=1000000) (he:∀ t∈ts,Dig t.e/\t.e.length=v) (hv:v<=8):ACalls Tryz.prog F.spec_l2Shut [.d (.sh 2 ts.length (rows gM (ts.map kt))),.int v] [] true (fun outs res=>outs=[]/\WkRs res [.ag (fO (if Right ⟨v,ts⟩ then ⟨v,ts⟩ else zeroF)),.one (D.bool (decide (Right ⟨v,ts⟩)))]):=by
 refine ACalls.of_body (C:=C.spec_l2Shut) (n:=Tryz.f89.ntmps) tabT folT Tryz.func89 rfl (by kernel_rfl) rfl (Nat.le_of_ble_eq_true rfl) (by decide) (by kernel_rfl) (by kernel_rfl) rfl (by simp) (by simp) ?_
 simp only [Tryz.f89]
 refine wseq ?_
 refine wreg fun K hK=>?_
 simp [C.spec_l2Shut]
 refine hK _ ?_;clear hK K
 show AWp _ _ _ _ _
 refine wseq ?_
 refine wseq ?_
 refine wreg fun K hK=>?_
 simp [C.spec_l2Shut]
 refine hK _ ?_;clear hK K
 show AWp _ _ _ _ _
 refine wcond _ rfl (fun hc1=>?_) (fun hc1=>?_)
 ·have hc:=d_t hc1
  have hr:¬ Right ⟨v,ts⟩:=fun h=>by have:=h.2.1;dsimp only at this;omega
  refine wseq ?_
  refine wreg fun K hK=>?_
  simp [C.spec_l2Shut]
  refine hK _ ?_;clear hK K
  show AWp _ _ _ _ _
  refine wret ?_
  simp [C.spec_l2Shut,hr,fO,zeroF,rows]
 ·have hc:=d_f hc1
  refine wskip ?_
  show AWp _ _ _ _ _
  refine wseq ?_
  refine wreg fun K hK=>?_
  simp [C.spec_l2Shut]
  refine hK _ ?_;clear hK K
  show AWp _ _ _ _ _
  refine wseq ?_
  refine wseq ?_
  refine wreg fun K hK=>?_
  simp [C.spec_l2Shut]
  refine hK _ ?_;clear hK K
  show AWp _ _ _ _ _
  refine wblock ?_
  refine wloop (fun x:Nat×List Trm=>⟨ofL [(0,.d (.sh 2 ts.length (rows gM (ts.map kt)))),(1,.int v),(4,.pt (4,0) [] 0),(6,.pt (6,0) [] 0),(7,.int x.1)],ofRO [((4,0),some (.bx [D.int 0,.v (.slice none 0 0)])),((6,0),some (.bx [D.int v,.ow 2 x.1 (rows tO x.2)]))]⟩) (fun x=>x.1<=ts.length/\x.2=ts.take x.1) (fun x=>ts.length - x.1) (0,[]) (by simp [C.spec_l2Shut,rows]) (by simp) ?_
  intro x1 hx1 R1 hR1
  obtain ⟨j,gs⟩:=x1
  obtain ⟨hj,hg⟩:=hx1
  dsimp only at hj hg ⊢
  refine wseq ?_
  refine wseq ?_
  refine wreg fun K hK=>?_
  simp [C.spec_l2Shut]
  refine hK _ ?_;clear hK K
  show AWp _ _ _ _ _
  refine wcond _ rfl (fun hc2=>?_) (fun hc2=>?_)
  ·have h1:j < ts.length:=by have:=d_t hc2;omega
   have hgl:gs.length=j:=by rw [hg];simp;omega
   have h2:j < (ts.map kt).length:=by simpa using h1
   have hkt:(ts.map kt)[j]=(keyA 0 ts[j].e,ts[j].c):=by simp [kt]
   have hel:=(he _ (List.getElem_mem h1)).2
   refine wskip ?_
   show AWp _ _ _ _ _
   refine wseq ?_
   refine wblock ?_
   refine wdrawI [(true,0),(true,1),(true,2),(true,3),(true,4),(true,5),(true,6),(true,7),(true,9),(true,10),(true,11),(true,12),(true,13),(false,8),(true,14),(false,15),(false,16),(true,17),(false,18)] ⟨by kernel_rfl,by kernel_rfl⟩ ([0,1,2,3,4,5,6,7,9,10,11,12,13,8] ++ ([14,15,16,17,18])) rfl fun K hK=>?_
   refine oSg fun L hL=>?_
   simp [C.spec_l2Shut,h1,h2,hkt,gM_0 h2,gM_1 h2,show (j+1)*32<=140737488355328 by omega]
   refine wcall1 (spec_l2Exp_c ts[j].e (he _ (List.getElem_mem h1)).1 (by omega)) (by simp;omega) (by simp) ?_
   simp [C.spec_l2Shut,h1,h2,hkt,gM_0 h2,gM_1 h2,show (j+1)*32<=140737488355328 by omega]
   refine hL _ ?_;clear hL L
   refine oEn fun L hL=>?_
   simp [C.spec_l2Shut,h1,h2,hkt,gM_0 h2,gM_1 h2,show (j+1)*32<=140737488355328 by omega]
   refine hL _ ?_;clear hL L
   simp [C.spec_l2Shut,h1,h2,hkt,gM_0 h2,gM_1 h2,show (j+1)*32<=140737488355328 by omega]
   refine hK _ ?_;clear hK K
   show AWp _ _ _ _ _
   refine wreg fun K hK=>?_
   simp [C.spec_l2Shut,wrap_succ (show j < 4611686018427387904 by omega)]
   refine hK _ ?_;clear hK K
   simp [C.spec_l2Shut]
   rw [tO_snoc]
   refine hR1 (j+1,_) ⟨h1,?_⟩ (by dsimp only;omega)
   dsimp only
   rw [hg,List.take_succ_eq_append_getElem h1]
  ·have h1:j=ts.length:=by have:=d_f hc2;omega
   obtain rfl:gs=ts:=by rw [hg,h1,List.take_length]
   subst h1
   refine wexit ?_
   show AWp _ _ _ _ _
   refine wseq ?_
   refine wseq ?_
   refine wregI ([0,1] ++ ([2])) rfl fun K hK=>?_
   refine oSg fun L hL=>?_
   simp [C.spec_l2Shut]
   refine wcall1 (spec_l2Right_c ⟨v,gs⟩ (by dsimp only;omega) (fun t ht=>by have:=(he t ht).2;omega)) (by simp) (by simp) ?_
   simp [C.spec_l2Shut]
   refine hL _ ?_;clear hL L
   refine oEn fun L hL=>?_
   simp [C.spec_l2Shut]
   refine hL _ ?_;clear hL L
   simp [C.spec_l2Shut]
   refine hK _ ?_;clear hK K
   show AWp _ _ _ _ _
   refine wcond _ rfl (fun hc3=>?_) (fun hc3=>?_)
   ·have hr:=nd_t hc3
    refine wseq ?_
    refine wreg fun K hK=>?_
    simp [C.spec_l2Shut]
    refine hK _ ?_;clear hK K
    show AWp _ _ _ _ _
    refine wret ?_
    simp [C.spec_l2Shut,hr,fO,zeroF,rows]
   ·have hr:=nd_f hc3
    refine wskip ?_
    show AWp _ _ _ _ _
    refine wseq ?_
    refine wreg fun K hK=>?_
    simp [C.spec_l2Shut]
    refine hK _ ?_;clear hK K
    show AWp _ _ _ _ _
    refine wret ?_
    simp [C.spec_l2Shut,hr,fO]
theorem l2Shut_c (ts:List Trm) (v:Nat) (hl:ts.length<=1000000) (he:∀ t∈ts,Dig t.e/\t.e.length=v) (hv:v<=8):ACalls Tryz.prog F.spec_l2Shut [.d (.sh 2 ts.length (rows gM (ts.map kt))),.int v] [] true (fun outs res=>outs=[]/\res=[.ag (fO (if Right ⟨v,ts⟩ then ⟨v,ts⟩ else zeroF)),.one (D.bool (decide (Right ⟨v,ts⟩)))]):=(spec_l2Shut_c ts v hl he hv).weak1
end Go.Proofs.YtbhkonnakkhibaaGreat.Ab
namespace Go.Proofs.YtbhkonnakkhibaaGreat.Ab
open Go
section
variable {α:Type} {le:α->α->Bool}
def Runs (le:α->α->Bool) (n:Nat) (l:List α):Prop:=∀ k,((l.drop (n*k)).take n).Pairwise fun a b=>le a b=true
theorem runs_one (l:List α):Runs le 1 l:=fun k=>by
 rcases (l.drop (1*k)) with _ | ⟨x,r⟩
 ·simp
 ·simp
theorem runs_all {n:Nat} {l:List α} (h:Runs le n l) (hl:l.length<=n):l.Pairwise fun a b=>le a b=true:=by
 have:=h 0
 rw [Nat.mul_zero,List.drop_zero,List.take_of_length_le hl] at this
 exact this
theorem runs_snoc {b k:Nat} {n0 s:List α} (h:Runs le b n0) (hl:n0.length=b*k) (hs:s.Pairwise fun a b=>le a b=true) (hsl:s.length<=b):Runs le b (n0 ++ s):=fun j=>by
 rcases Nat.lt_trichotomy j k with hj | hj | hj
 ·have h1:b*j+b<=n0.length:=by
   rw [hl,<-Nat.mul_succ]
   exact Nat.mul_le_mul_left b hj
  rw [List.drop_append_of_le_length (by omega),List.take_append_of_le_length (by rw [List.length_drop];omega)]
  exact h j
 ·subst hj
  rw [<-hl,List.drop_left,List.take_of_length_le hsl]
  exact hs
 ·have h1:n0.length+s.length<=b*j:=by
   have:b*(k+1)<=b*j:=Nat.mul_le_mul_left b hj
   rw [Nat.mul_succ] at this
   omega
  rw [List.drop_of_length_le (by simp;omega)]
  simp
end
def kle (x y:Int×Int):Bool:=decide (y.1<=x.1)
theorem kle_trans (a b c:Int×Int) (h1:kle a b=true) (h2:kle b c=true):kle a c=true:=by
 simp only [kle,decide_eq_true_eq] at *
 omega
theorem kle_total (a b:Int×Int):(kle a b || kle b a)=true:=by
 simp only [kle,Bool.or_eq_true,decide_eq_true_eq]
 omega
theorem mrg_nil_left {α:Type} (le:α->α->Bool) (ys:List α):List.merge [] ys le=ys:=by simp
theorem mrg_nil_right {α:Type} (le:α->α->Bool) (xs:List α):List.merge xs [] le=xs:=by simp
theorem mrg_cons {α:Type} (le:α->α->Bool) (x y:α) (xs ys:List α):List.merge (x :: xs) (y :: ys) le=if le x y then x :: List.merge xs (y :: ys) le else y :: List.merge (x :: xs) ys le:=by
 rw [List.merge]
theorem mrg_sorted {xs ys:List (Int×Int)} (h1:xs.Pairwise fun a b=>kle a b=true) (h2:ys.Pairwise fun a b=>kle a b=true):(List.merge xs ys kle).Pairwise fun a b=>kle a b=true:=
 List.pairwise_merge kle_trans kle_total xs ys h1 h2
theorem mrg_perm (xs ys:List (Int×Int)):(List.merge xs ys kle).Perm (xs ++ ys):=List.merge_perm_append kle
def addLast (left:List (Int×Int)) (x:Int×Int):List (Int×Int):=
 match left.getLast? with
 | some z=>if z.1=x.1 then left.dropLast ++ [(z.1,z.2+x.2)] else left ++ [x]
 | none=>[x]
def cutLast (l:List (Int×Int)):List (Int×Int):=
 match l.getLast? with
 | some z=>if z.2=0 then l.dropLast else l
 | none=>l
def combR (left:List (Int×Int)):List (Int×Int)->List (Int×Int)
 | []=>left
 | x :: r=>combR (if r.head?.map (·.1)=some x.1 then addLast left x else cutLast (addLast left x)) r
theorem co_pair (q:Int) (x:Int×Int):co q [x]=if x.1=q then x.2 else 0:=by simp [co]
theorem addLast_co (q:Int) (left:List (Int×Int)) (x:Int×Int):co q (addLast left x)=co q left+co q [x]:=by
 rcases List.eq_nil_or_concat left with rfl | ⟨l,z,rfl⟩
 ·simp [addLast,co]
 ·simp only [addLast,List.concat_eq_append,List.getLast?_append,List.getLast?_singleton,Option.some_or,List.dropLast_concat]
  split
  ·rename_i e
   rw [co_append,co_append,co_pair,co_pair,co_pair]
   simp only
   rw [e]
   split <;> omega
  ·rw [co_append (l:=l ++ [z])]
theorem cutLast_co (q:Int) (l:List (Int×Int)):co q (cutLast l)=co q l:=by
 rcases List.eq_nil_or_concat l with rfl | ⟨l,z,rfl⟩
 ·simp [cutLast]
 ·simp only [cutLast,List.concat_eq_append,List.getLast?_append,List.getLast?_singleton,Option.some_or,List.dropLast_concat]
  split
  ·rename_i e
   rw [co_append,co_pair,e]
   simp
  ·rfl
theorem combR_co (q:Int):∀ (r left:List (Int×Int)),co q (combR left r)=co q left+co q r
 | [],left=>by simp [combR,co]
 | x :: r,left=>by
  simp only [combR]
  rw [combR_co q r]
  have hx:co q (x :: r)=co q [x]+co q r:=by simp [co]
  split
  ·rw [addLast_co,hx,Int.add_assoc]
  ·rw [cutLast_co,addLast_co,hx,Int.add_assoc]
theorem desc_snoc {l:List (Int×Int)} {x:Int×Int} (h:Desc ilt l) (hx:∀ y∈l,x.1 < y.1):Desc ilt (l ++ [x]):=by
 unfold Desc at *
 rw [List.pairwise_append]
 refine ⟨h,List.pairwise_singleton _ _,fun a ha b hb=>?_⟩
 simp only [List.mem_singleton] at hb
 subst hb
 simpa [ilt] using hx a ha
def CombP (left r:List (Int×Int)):Prop:=
 Desc ilt left/\((Nz left/\∀ x∈left,∀ y∈r,y.1 < x.1) \/
  ∃ l z x r',left=l ++ [z]/\r=x :: r'/\z.1=x.1/\Nz l/\∀ a∈l,∀ y∈r,y.1 < a.1)
theorem combR_spec:∀ (r left:List (Int×Int)),(r.Pairwise fun a b=>kle a b=true)->CombP left r->Desc ilt (combR left r)/\Nz (combR left r)
 | [],left,_,h=>by
  refine ⟨h.1,?_⟩
  rcases h.2 with h2 | ⟨l,z,x,r',_,e,_⟩
  ·exact h2.1
  ·simp at e
 | x :: r,left,hs,h=>by
  have hs1:=List.pairwise_cons.1 hs
  have hle:∀ y∈r,y.1<=x.1:=fun y hy=>by simpa [kle] using hs1.1 y hy
  -- the list behind addLast ends in the key of x
  have key:∃ l z,addLast left x=l ++ [z]/\z.1=x.1/\Nz l/\Desc ilt (l ++ [z])/\∀ a∈l,x.1 < a.1:=by
   rcases h.2 with ⟨h1,h2⟩ | ⟨l,z,x',r',e1,e2,e3,h1,h2⟩
   ·refine ⟨left,x,?_,rfl,h1,desc_snoc h.1 fun y hy=>h2 y hy x (by simp),fun a ha=>h2 a ha x (by simp)⟩
    unfold addLast
    split
    ·rename_i z hz
     have hm:=List.mem_of_getLast? hz
     have:=h2 z hm x (by simp)
     rw [if_neg (by omega)]
    ·rename_i hz
     have:left=[]:=by simpa using hz
     simp [this]
   ·injection e2 with e2 e4
    subst e2;subst e1
    refine ⟨l,(z.1,z.2+x.2),?_,e3,h1,?_,fun a ha=>h2 a ha x (by simp)⟩
    ·simp [addLast,e3]
    ·refine desc_snoc ?_ fun y hy=>?_
     ·have:=h.1
      unfold Desc at this ⊢
      rw [List.pairwise_append] at this
      exact this.1
     ·have:=h2 y hy x (by simp)
      simp only
      omega
  obtain ⟨l,z,e,ez,hn,hd,hlt⟩:=key
  simp only [combR]
  split
  ·rename_i hh
   rw [e]
   refine combR_spec r _ hs1.2 ⟨hd,.inr ?_⟩
   cases r with
   | nil=>simp at hh
   | cons y r=>
    simp only [List.head?_cons,Option.map_some,Option.some.injEq] at hh
    exact ⟨l,z,y,r,rfl,rfl,by rw [ez,hh],hn,fun a ha w hw=>by have:=hlt a ha;have:=hle w hw;omega⟩
  ·rename_i hh
   have hr:∀ y∈r,y.1 < x.1:=by
    cases r with
    | nil=>intro y hy;simp at hy
    | cons y r=>
     simp only [List.head?_cons,Option.map_some,Option.some.injEq] at hh
     have h3:=(List.pairwise_cons.1 hs1.2).1
     have h4:=hle y (by simp)
     intro w hw
     rcases List.mem_cons.1 hw with rfl | hw
     ·omega
     ·have:w.1<=y.1:=by simpa [kle] using h3 w hw
      omega
   rw [e]
   have hc:cutLast (l ++ [z])=if z.2=0 then l else l ++ [z]:=by simp [cutLast]
   rw [hc]
   split
   ·refine combR_spec r _ hs1.2 ⟨?_,.inl ⟨hn,fun a ha y hy=>by have:=hlt a ha;have:=hr y hy;omega⟩⟩
    unfold Desc at hd ⊢
    rw [List.pairwise_append] at hd
    exact hd.1
   ·rename_i hz
    refine combR_spec r _ hs1.2 ⟨hd,.inl ⟨fun a ha=>?_,fun a ha y hy=>?_⟩⟩
    ·rcases List.mem_append.1 ha with ha | ha
     ·exact hn a ha
     ·simp only [List.mem_singleton] at ha
      rw [ha];exact hz
    ·rcases List.mem_append.1 ha with ha | ha
     ·have:=hlt a ha;have:=hr y hy;omega
     ·simp only [List.mem_singleton] at ha
      rw [ha,ez]
      exact hr y hy
theorem combR_nf {out l:List (Int×Int)} (hp:out.Perm l) (hs:out.Pairwise fun a b=>kle a b=true):combR [] out=nf ilt l:=by
 obtain ⟨h1,h2⟩:=combR_spec out [] hs ⟨List.Pairwise.nil,.inl ⟨by intro x hx;simp at hx,by simp⟩⟩
 refine nf_unique ilt_ord h1 h2 fun k=>?_
 rw [combR_co,co_perm k hp]
 simp [co]
def absL (l:List (Int×Int)):Nat:=(l.map fun x=>x.2.natAbs).sum
theorem absL_append (l r:List (Int×Int)):absL (l ++ r)=absL l+absL r:=by simp [absL]
theorem absL_perm {l r:List (Int×Int)} (h:l.Perm r):absL l=absL r:=(h.map _).sum_nat
theorem absL_mem {l:List (Int×Int)} {x:Int×Int} (h:x∈l):x.2.natAbs<=absL l:=by
 induction l with
 | nil=>simp at h
 | cons y l ih=>
  simp only [absL,List.map_cons,List.sum_cons]
  rcases List.mem_cons.1 h with rfl | h
  ·omega
  ·have:=ih h
   unfold absL at this
   omega
theorem absL_addLast (left:List (Int×Int)) (x:Int×Int):absL (addLast left x)<=absL left+x.2.natAbs:=by
 rcases List.eq_nil_or_concat left with rfl | ⟨l,z,rfl⟩
 ·simp [addLast,absL]
 ·simp only [addLast,List.concat_eq_append,List.getLast?_append,List.getLast?_singleton,Option.some_or,List.dropLast_concat]
  split
  ·rw [absL_append,absL_append]
   simp only [absL,List.map_cons,List.map_nil,List.sum_cons,List.sum_nil]
   omega
  ·rw [absL_append]
   simp [absL]
theorem absL_cutLast (l:List (Int×Int)):absL (cutLast l)<=absL l:=by
 rcases List.eq_nil_or_concat l with rfl | ⟨l,z,rfl⟩
 ·simp [cutLast]
 ·simp only [cutLast,List.concat_eq_append,List.getLast?_append,List.getLast?_singleton,Option.some_or,List.dropLast_concat]
  split
  ·rw [absL_append];omega
  ·exact Nat.le_refl _
end Go.Proofs.YtbhkonnakkhibaaGreat.Ab
namespace Go.Proofs.YtbhkonnakkhibaaGreat.Ab
open Go
set_option maxRecDepth 10000
set_option maxHeartbeats 2000000
def sgm (out:List (Int×Int)) (a b:Nat):List (Int×Int):=(out.drop a).take (b - a)
theorem sgm_cons {out:List (Int×Int)} {a b:Nat} (h:a < b) (h2:a < out.length):sgm out a b=out[a] :: sgm out (a+1) b:=by
 unfold sgm
 rw [List.drop_eq_getElem_cons h2,show b - a=(b - (a+1))+1 by omega,List.take_succ_cons]
theorem sgm_nil {out:List (Int×Int)} {a b:Nat} (h:b<=a):sgm out a b=[]:=by
 unfold sgm
 rw [show b - a=0 by omega,List.take_zero]
theorem sgm_runs {out:List (Int×Int)} {size at_ k b:Nat} (hr:Runs kle size out) (ha:at_=size*k) (hb:b=min (at_+size) out.length):(sgm out at_ b).Pairwise fun a b=>kle a b=true:=by
 have:=hr k
 rw [<-ha] at this
 have e:sgm out at_ b=(out.drop at_).take size:=by
  unfold sgm
  rw [hb]
  rcases Nat.le_total (at_+size) out.length with h | h
  ·rw [Nat.min_eq_left h,show at_+size - at_=size by omega]
  ·rw [Nat.min_eq_right h,List.take_of_length_le (by simp),List.take_of_length_le (by simp;omega)]
 rw [e]
 exact this
theorem sgm_take {out:List (Int×Int)} {a b c:Nat} (h1:a<=b) (h2:b<=c):out.take a ++ (sgm out a b ++ sgm out b c)=out.take c:=by
 unfold sgm
 have e1:out.take b=out.take a ++ (out.drop a).take (b - a):=by
  conv=>lhs;rw [show b=a+(b - a) by omega,List.take_add]
 have e2:out.take c=out.take b ++ (out.drop b).take (c - b):=by
  conv=>lhs;rw [show c=b+(c - b) by omega,List.take_add]
 rw [e2,e1,List.append_assoc]
theorem getD_at {out:List (Int×Int)} {i:Nat} (h:i < out.length):out.getD i (0,0)=out[i]:=by
 simp [List.getD_eq_getElem?_getD,h]
theorem tkM {G:List (Int×Int)} {m N:Nat} (hN:G.length=N) (hm:m<=N):takeCells 2 m N (rows gM G)=rows gM (G.take m):=by
 unfold takeCells
 split
 ·rename_i e
  rw [e,<-hN,List.take_length]
 ·exact rows_take gM_two G m
theorem head_next {out:List (Int×Int)} {k:Nat} (hk:k < out.length):((out.drop (k+1)).head?.map (·.1)=some out[k].1)↔¬ (k+1=out.length\/(out.getD (k+1) (0,0)).1≠(out.getD k (0,0)).1):=by
 rw [List.head?_drop,getD_at hk]
 rcases Nat.lt_or_ge (k+1) out.length with h | h
 ·rw [getD_at h,List.getElem?_eq_getElem h]
  simp
  omega
 ·rw [List.getElem?_eq_none h]
  simp
  omega
theorem addLast_same {l:List (Int×Int)} {q:Nat} {x:Int×Int} (hq:q < l.length) (e:l[q].1=x.1):addLast (l.take (q+1)) x=(l.set q (l[q].1,l[q].2+x.2)).take (q+1):=by
 have h1:(l.set q (l[q].1,l[q].2+x.2)).take (q+1)=l.take q ++ [(l[q].1,l[q].2+x.2)]:=by
  rw [List.take_succ_eq_append_getElem (by simpa using hq),List.getElem_set_self,List.take_set_of_le (Nat.le_refl q)]
 rw [h1,List.take_succ_eq_append_getElem hq]
 unfold addLast
 rw [show (l.take q ++ [l[q]]).getLast? = some l[q] by simp only [List.getLast?_append,List.getLast?_singleton,Option.some_or]]
 simp only [if_pos e,List.dropLast_concat]
theorem addLast_new {l:List (Int×Int)} {m:Nat} {x:Int×Int} (hm:m<=l.length) (e:¬ (0 < m/\(l.getD (m - 1) (0,0)).1=x.1)):addLast (l.take m) x=l.take m ++ [x]:=by
 rcases Nat.eq_zero_or_pos m with rfl | h
 ·simp [addLast]
 ·obtain ⟨q,rfl⟩:∃ q,m=q+1:=⟨m - 1,by omega⟩
  have hq:q < l.length:=by omega
  rw [show q+1 - 1=q by omega,getD_at hq] at e
  rw [List.take_succ_eq_append_getElem hq]
  unfold addLast
  simp only [List.getLast?_append,List.getLast?_singleton,Option.some_or]
  rw [if_neg (fun h=>e ⟨by omega,h⟩)]
theorem cutLast_at {l:List (Int×Int)} {q:Nat} (hq:q < l.length):cutLast (l.take (q+1))=if l[q].2=0 then l.take q else l.take (q+1):=by
 have h1:=List.take_succ_eq_append_getElem hq
 unfold cutLast
 rw [h1,show (l.take q ++ [l[q]]).getLast? = some l[q] by simp only [List.getLast?_append,List.getLast?_singleton,Option.some_or]]
 simp only [List.dropLast_concat]
theorem ofL_pad3 (a b c:Nat×FV):ofL [a,b,c]=ofL [a,b,c,(0,.dead)]:=by
 funext t
 simp only [ofL]
 split
 ·rfl
 ·split
  ·rfl
  ·split
   ·rfl
   ·split <;> rfl
theorem pair_eta (x:Int×Int):(x.1,x.2)=x:=rfl
theorem spec_l2Gather_c (l:List (Int×Int)) (hl:l.length<=1000000) (hc:absL l < 4611686018427387904):ACalls Tryz.prog F.spec_l2Gather [.d (.sh 2 l.length (rows gM l))] [] true (fun outs res=>outs=[]/\res=[.one (.ow 2 (nf ilt l).length (rows gM (nf ilt l)))]):=by
 refine ACalls.of_body (C:=C.spec_l2Gather) (n:=Tryz.f149.ntmps) tabT folT Tryz.func149 rfl (by kernel_rfl) rfl (Nat.le_of_ble_eq_true rfl) (by decide) (by kernel_rfl) (by kernel_rfl) rfl (by simp) (by simp) ?_
 simp only [Tryz.f149]
 refine wseq ?_
 refine wreg fun K hK=>?_
 simp [C.spec_l2Gather]
 refine hK _ ?_;clear hK K
 show AWp _ _ _ _ _
 refine wseq ?_
 refine wreg fun K hK=>?_
 simp [C.spec_l2Gather,show l.length*16<=140737488355328 by omega]
 refine hK _ ?_;clear hK K
 show AWp _ _ _ _ _
 refine wseq ?_
 refine wseq ?_
 refine wreg fun K hK=>?_
 simp [C.spec_l2Gather]
 refine hK _ ?_;clear hK K
 show AWp _ _ _ _ _
 refine wblock ?_
 refine wloop (fun x:Nat×List (Int×Int)=>⟨ofL [(3,.al (3,0) [] 0 l.length),(4,.int x.1)],ofRO [((3,0),some (.ow 2 l.length (rows gM x.2)))]⟩) (fun x=>x.2.Perm l/\Runs kle x.1 x.2/\1<=x.1/\x.1<=2*l.length+1) (fun x=>2*l.length+1 - x.1) (1,l) (by simp [C.spec_l2Gather]) ⟨List.Perm.refl _,runs_one _,by simp,by dsimp only;omega⟩ ?_
 intro x1 hx1 R1 hR1
 obtain ⟨size,out⟩:=x1
 obtain ⟨hperm,hruns,hs1,hs2⟩:=hx1
 dsimp only at hperm hruns hs1 hs2 ⊢
 have hol:out.length=l.length:=hperm.length_eq
 refine wseq ?_
 refine wseq ?_
 refine wreg fun K hK=>?_
 simp [C.spec_l2Gather]
 refine hK _ ?_;clear hK K
 show AWp _ _ _ _ _
 refine wcond _ rfl (fun hc1=>?_) (fun hc1=>?_)
 ·have hlt:size < l.length:=by have:=d_t hc1;omega
  refine wskip ?_
  show AWp _ _ _ _ _
  refine wseq ?_
  refine wblock ?_
  refine wseq ?_
  refine wreg fun K hK=>?_
  simp [C.spec_l2Gather,show (16:Int)*l.length<=281474976710656 by omega,show (l.length:Int)<=281474976710656 by omega]
  refine hK _ ?_;clear hK K
  show AWp _ _ _ _ _
  refine wseq ?_
  refine wseq ?_
  refine wreg fun K hK=>?_
  simp [C.spec_l2Gather]
  refine hK _ ?_;clear hK K
  show AWp _ _ _ _ _
  refine wblock ?_
  refine wloop (fun x:Nat×List (Int×Int)×Nat=>⟨ofL [(3,.al (3,0) [] 0 l.length),(4,.int size),(5,.al (5,0) [] 0 x.2.2),(6,.int x.1)],ofRO [((3,0),some (.ow 2 l.length (rows gM out))),((5,0),some (.ow 2 x.2.2 (rows gM x.2.1)))]⟩) (fun x=>(∃ k,x.1=2*size*k)/\x.2.2=x.2.1.length/\x.2.1.length=min x.1 l.length/\x.2.1.Perm (out.take x.1)/\Runs kle (2*size) x.2.1/\x.1<=l.length+2*size) (fun x=>l.length+2*size - x.1) (0,[],0) (by simp [C.spec_l2Gather,rows]) ⟨⟨0,rfl⟩,rfl,by simp,by simp,fun k=>by simp,by dsimp only;omega⟩ ?_
  intro x2 hx2 R2 hR2
  obtain ⟨at_,next,m⟩:=x2
  obtain ⟨⟨k,hk⟩,hm,hnl,hnp,hnr,hab⟩:=hx2
  dsimp only at hk hm hnl hnp hnr hab ⊢
  refine wseq ?_
  refine wseq ?_
  refine wreg fun K hK=>?_
  simp [C.spec_l2Gather]
  refine hK _ ?_;clear hK K
  show AWp _ _ _ _ _
  refine wcond _ rfl (fun hc2=>?_) (fun hc2=>?_)
  ·have hat:at_ < l.length:=by have:=d_t hc2;omega
   have hnl2:next.length=at_:=by omega
   obtain ⟨mid,hmid⟩:∃ mid,mid=min (at_+size) l.length:=⟨_,rfl⟩
   obtain ⟨en,hen⟩:∃ en,en=min (at_+2*size) l.length:=⟨_,rfl⟩
   have hmid2:min ((at_:Int)+size) l.length=(mid:Int):=by omega
   have hen2:min ((at_:Int)+2*size) l.length=(en:Int):=by omega
   refine wskip ?_
   show AWp _ _ _ _ _
   refine wseq ?_
   refine wblock ?_
   refine wseq ?_
   refine wreg fun K hK=>?_
   simp [C.spec_l2Gather]
   refine hK _ ?_;clear hK K
   show AWp _ _ _ _ _
   refine wseq ?_
   refine wreg fun K hK=>?_
   simp [C.spec_l2Gather]
   rw [wrapOk (x:=(at_:Int)+size) (by omega) (by omega),hmid2]
   refine hK _ ?_;clear hK K
   show AWp _ _ _ _ _
   refine wseq ?_
   refine wreg fun K hK=>?_
   simp [C.spec_l2Gather]
   refine hK _ ?_;clear hK K
   show AWp _ _ _ _ _
   refine wseq ?_
   refine wreg fun K hK=>?_
   simp [C.spec_l2Gather]
   rw [wrapOk (x:=2*(size:Int)) (by omega) (by omega),wrapOk (x:=(at_:Int)+2*size) (by omega) (by omega),hen2]
   refine hK _ ?_;clear hK K
   show AWp _ _ _ _ _
   refine wblock ?_
   refine wloop (fun x:Nat×Nat×List (Int×Int)×Nat=>⟨ofL [(3,.al (3,0) [] 0 l.length),(4,.int size),(5,.al (5,0) [] 0 x.2.2.2),(6,.int at_),(7,.int x.1),(8,.int mid),(9,.int x.2.1),(10,.int en)],ofRO [((3,0),some (.ow 2 l.length (rows gM out))),((5,0),some (.ow 2 x.2.2.2 (rows gM x.2.2.1)))]⟩) (fun x=>x.1<=mid/\x.2.1<=en/\mid<=x.2.1/\x.2.2.2=x.2.2.1.length/\x.2.2.2<=3000000 - ((mid - x.1)+(en - x.2.1))/\∃ M,x.2.2.1=next ++ M/\M ++ List.merge (sgm out x.1 mid) (sgm out x.2.1 en) kle=List.merge (sgm out at_ mid) (sgm out mid en) kle) (fun x=>(mid - x.1)+(en - x.2.1)) (at_,mid,next,m) (by simp [C.spec_l2Gather]) ⟨by dsimp only;omega,by dsimp only;omega,by dsimp only;omega,hm,by dsimp only;omega,[],by simp,by simp⟩ ?_
   intro x3 hx3 R3 hR3
   obtain ⟨i,j,nx,mm⟩:=x3
   obtain ⟨h1,h2,h3,h4,h5,M,h6,h7⟩:=hx3
   dsimp only at h1 h2 h3 h4 h5 h6 h7 ⊢
   refine wseq ?_
   refine wseq ?_
   refine wreg fun K hK=>?_
   have hJ:K ⟨ofL [(3,.al (3,0) [] 0 l.length),(4,.int size),(5,.al (5,0) [] 0 mm),(6,.int at_),(7,.int i),(8,.int mid),(9,.int j),(10,.int en),(55,.bool (decide (i < mid\/j < en)))],ofRO [((3,0),some (.ow 2 l.length (rows gM out))),((5,0),some (.ow 2 mm (rows gM nx)))]⟩:=by
    refine hK _ ?_;clear hK K
    show AWp _ _ _ _ _
    refine wcond _ rfl (fun hc3=>?_) (fun hc3=>?_)
    ·have hij:=d_t hc3
     refine wskip ?_
     show AWp _ _ _ _ _
     refine wblock ?_
     refine wseq ?_
     refine wdrawI [(true,0),(true,1),(true,2),(true,3),(true,4),(true,5),(true,6),(true,7),(true,8),(true,9),(true,10),(true,11),(true,12),(true,13),(true,14),(true,15),(true,16),(true,17),(true,18),(true,19),(true,20)] ⟨by kernel_rfl,by kernel_rfl⟩ ([0,1,2,3,4,5,6,7,8,9,10,11,12,13,14,15,16,17,18,19,20]) rfl fun K hK=>?_
     have hJ:K ⟨ofL [(3,.al (3,0) [] 0 l.length),(4,.int size),(5,.al (5,0) [] 0 mm),(6,.int at_),(7,.int i),(8,.int mid),(9,.int j),(10,.int en),(76,.bool (decide (en<=j\/(i < mid/\(out.getD j (0,0)).1<=(out.getD i (0,0)).1))))],ofRO [((3,0),some (.ow 2 l.length (rows gM out))),((5,0),some (.ow 2 mm (rows gM nx)))]⟩:=by
      refine hK _ ?_;clear hK K
      show AWp _ _ _ _ _
      refine wcond _ rfl (fun hc4=>?_) (fun hc4=>?_)
      ·have hcc:=d_t hc4
       have him:i < mid:=by omega
       have hi:i < out.length:=by omega
       have hi':i < l.length:=by omega
       refine wseq ?_
       refine wreg fun K hK=>?_
       simp [C.spec_l2Gather,hi',gM_0 hi,gM_1 hi,gM_snoc,pair_eta,show (mm+1)*16<=140737488355328 by omega]
       refine hK _ ?_;clear hK K
       show AWp _ _ _ _ _
       refine wreg fun K hK=>?_
       simp [C.spec_l2Gather,wrap_succ (show i < 4611686018427387904 by omega)]
       refine hK _ ?_;clear hK K
       simp [C.spec_l2Gather]
       refine hR3 (i+1,j,_,mm+1) ⟨him,h2,h3,by dsimp only;rw [h4];simp,by dsimp only;omega,M ++ [out[i]],by dsimp only;rw [h6,List.append_assoc],?_⟩ (by dsimp only;omega)
       dsimp only
       rw [<-h7,List.append_assoc,sgm_cons him hi]
       rcases Nat.lt_or_ge j en with hje | hje
       ·have hj:j < out.length:=by omega
        rw [sgm_cons hje hj,mrg_cons]
        have hk':kle out[i] out[j]=true:=by
         rcases hcc with hcc | ⟨_,hcc⟩
         ·omega
         ·rw [getD_at hi,getD_at hj] at hcc
          simpa [kle] using hcc
        rw [if_pos hk']
        rfl
       ·rw [sgm_nil hje,mrg_nil_right,mrg_nil_right]
        rfl
      ·have hcc:=d_f hc4
       have hje:j < en:=by omega
       have hj:j < out.length:=by omega
       have hj':j < l.length:=by omega
       refine wseq ?_
       refine wreg fun K hK=>?_
       simp [C.spec_l2Gather,hj',gM_0 hj,gM_1 hj,gM_snoc,pair_eta,show (mm+1)*16<=140737488355328 by omega]
       refine hK _ ?_;clear hK K
       show AWp _ _ _ _ _
       refine wreg fun K hK=>?_
       simp [C.spec_l2Gather,wrap_succ (show j < 4611686018427387904 by omega)]
       refine hK _ ?_;clear hK K
       simp [C.spec_l2Gather]
       refine hR3 (i,j+1,_,mm+1) ⟨h1,hje,by dsimp only;omega,by dsimp only;rw [h4];simp,by dsimp only;omega,M ++ [out[j]],by dsimp only;rw [h6,List.append_assoc],?_⟩ (by dsimp only;omega)
       dsimp only
       rw [<-h7,List.append_assoc,sgm_cons hje hj]
       rcases Nat.lt_or_ge i mid with him | him
       ·have hi:i < out.length:=by omega
        rw [sgm_cons him hi,mrg_cons]
        have hk':¬ kle out[i] out[j]=true:=by
         intro hk'
         refine hcc (.inr ⟨him,?_⟩)
         rw [getD_at hi,getD_at hj]
         simpa [kle] using hk'
        rw [if_neg hk']
        rfl
       ·rw [sgm_nil him,mrg_nil_left,mrg_nil_left]
        rfl
     clear hK
     by_cases ha:en<=j
     ·refine oEn fun L hL=>?_
      simp [C.spec_l2Gather,ha]
      refine hL _ ?_;clear hL L
      simp [C.spec_l2Gather,ha]
      refine cast (congrArg K ?_) hJ
      simp [ha]
     ·by_cases hb:i < mid
      ·have hi:i < out.length:=by omega
       have hj:j < out.length:=by omega
       have hi':i < l.length:=by omega
       have hj':j < l.length:=by omega
       refine oEn fun L hL=>?_
       simp [C.spec_l2Gather,hi',hj',gM_0 hi,gM_0 hj,ha,hb]
       refine hL _ ?_;clear hL L
       simp [C.spec_l2Gather,hi',hj',gM_0 hi,gM_0 hj,ha,hb]
       refine cast (congrArg K ?_) hJ
       simp [List.getD_eq_getElem?_getD,hi,hj,ha,hb]
      ·refine oEn fun L hL=>?_
       simp [C.spec_l2Gather,ha,hb]
       refine hL _ ?_;clear hL L
       simp [C.spec_l2Gather,ha,hb]
       refine cast (congrArg K ?_) hJ
       simp [ha,hb]
    ·have hij:=d_f hc3
     have ei:mid<=i:=by omega
     have ej:en<=j:=by omega
     rw [sgm_nil ei,sgm_nil ej,mrg_nil_left,List.append_nil] at h7
     refine wexit ?_
     show AWp _ _ _ _ _
     refine wreg fun K hK=>?_
     simp [C.spec_l2Gather]
     rw [wrapOk (x:=2*(size:Int)) (by omega) (by omega),wrapOk (x:=(at_:Int)+2*size) (by omega) (by omega)]
     refine hK _ ?_;clear hK K
     have hA:(sgm out at_ mid).Pairwise fun a b=>kle a b=true:=sgm_runs (k:=2*k) hruns (by rw [hk];rw [Nat.mul_comm 2 size,Nat.mul_assoc]) (by rw [hmid,hol])
     have hB:(sgm out mid en).Pairwise fun a b=>kle a b=true:=by
      rcases Nat.le_total (at_+size) l.length with hq | hq
      ·have e1:mid=at_+size:=by omega
       exact sgm_runs (k:=2*k+1) hruns (by rw [e1,hk,Nat.mul_succ,Nat.mul_comm 2 size,Nat.mul_assoc]) (by rw [hol,hen,e1];congr 1;omega)
      ·rw [sgm_nil (by omega)]
       exact List.Pairwise.nil
     have hM:=mrg_sorted hA hB
     have hMp:=mrg_perm (sgm out at_ mid) (sgm out mid en)
     rw [<-h7] at hM hMp
     have hMl:M.length=en - at_:=by
      have:=hMp.length_eq
      have e2:=congrArg List.length (sgm_take (out:=out) (a:=at_) (b:=mid) (c:=en) (by omega) (by omega))
      simp only [List.length_append,List.length_take] at this e2
      omega
     simp [C.spec_l2Gather]
     rw [show (at_:Int)+2*size=((at_+2*size:Nat):Int) by omega]
     refine hR2 (at_+2*size,nx,mm) ⟨⟨k+1,by dsimp only;rw [hk,Nat.mul_succ]⟩,h4,?_,?_,?_,by dsimp only;omega⟩ (by dsimp only;omega)
     ·dsimp only
      rw [h6,List.length_append,hMl]
      omega
     ·dsimp only
      rw [h6]
      have e3:out.take (at_+2*size)=out.take en:=by
       rw [hen]
       rcases Nat.le_total (at_+2*size) l.length with hq | hq
       ·rw [Nat.min_eq_left hq]
       ·rw [Nat.min_eq_right hq,List.take_of_length_le (by omega),List.take_of_length_le (by omega)]
      rw [e3,<-sgm_take (out:=out) (a:=at_) (b:=mid) (c:=en) (by omega) (by omega)]
      exact hnp.append hMp
     ·dsimp only
      rw [h6]
      exact runs_snoc hnr (by rw [hnl2,hk]) hM (by omega)
   clear hK
   by_cases ha:i < mid
   ·simp [C.spec_l2Gather,ha]
    refine cast (congrArg K ?_) hJ
    simp [ha]
   ·simp [C.spec_l2Gather,ha]
    refine cast (congrArg K ?_) hJ
    simp [ha]
  ·have hat:l.length<=at_:=by have:=d_f hc2;omega
   have hml:m=l.length:=by omega
   refine wexit ?_
   show AWp _ _ _ _ _
   refine wreg fun K hK=>?_
   simp [C.spec_l2Gather]
   refine hK _ ?_;clear hK K
   show AWp _ _ _ _ _
   refine wreg fun K hK=>?_
   simp [C.spec_l2Gather]
   rw [wrapOk (x:=(size:Int)*2) (by omega) (by omega)]
   refine hK _ ?_;clear hK K
   simp [C.spec_l2Gather]
   rw [show (size:Int)*2=((2*size:Nat):Int) by omega,hml]
   refine hR1 (2*size,next) ⟨?_,hnr,by dsimp only;omega,by dsimp only;omega⟩ (by dsimp only;omega)
   dsimp only
   rw [List.take_of_length_le (by omega)] at hnp
   exact hnp.trans hperm
 ·have hlt:l.length<=size:=by have:=d_f hc1;omega
  have hsort:=runs_all hruns (by omega)
  have hnf:=combR_nf hperm hsort
  have habs:=absL_perm hperm
  refine wexit ?_
  show AWp _ _ _ _ _
  refine wseq ?_
  refine wreg fun K hK=>?_
  simp [C.spec_l2Gather]
  refine hK _ ?_;clear hK K
  show AWp _ _ _ _ _
  refine wseq ?_
  refine wseq ?_
  refine wreg fun K hK=>?_
  simp [C.spec_l2Gather]
  refine hK _ ?_;clear hK K
  show AWp _ _ _ _ _
  refine wblock ?_
  refine wloop (fun x:Nat×List (Int×Int)×Nat×Nat=>⟨ofL [(3,.al (3,0) [] 0 l.length),(11,.al (11,0) [] 0 x.2.2.1),(12,.int x.1)],ofRO [((3,0),some (.ow 2 l.length (rows gM out))),((11,0),some (.ow 2 x.2.2.2 (rows gM x.2.1)))]⟩) (fun x=>x.1<=l.length/\x.2.1.length=x.2.2.2/\x.2.2.1<=x.2.2.2/\x.2.2.1<=x.1/\combR (x.2.1.take x.2.2.1) (out.drop x.1)=nf ilt l/\absL (x.2.1.take x.2.2.1)<=absL (out.take x.1)) (fun x=>l.length - x.1) (0,[],0,0) (by simp [C.spec_l2Gather,rows]) ⟨by simp,by simp,by simp,by simp,by simpa using hnf,by simp⟩ ?_
  intro x4 hx4 R4 hR4
  obtain ⟨k,G,m,N⟩:=x4
  obtain ⟨g1,g2,g3,g4,g5,g6⟩:=hx4
  dsimp only at g1 g2 g3 g4 g5 g6 ⊢
  refine wseq ?_
  refine wseq ?_
  refine wreg fun K hK=>?_
  simp [C.spec_l2Gather]
  refine hK _ ?_;clear hK K
  show AWp _ _ _ _ _
  refine wcond _ rfl (fun hc5=>?_) (fun hc5=>?_)
  ·have hk:k < l.length:=by have:=d_t hc5;omega
   have hko:k < out.length:=by omega
   have hokb:(out.take k) ++ [out[k]]=out.take (k+1):=(List.take_succ_eq_append_getElem hko).symm
   have hab1:absL (out.take (k+1))=absL (out.take k)+out[k].2.natAbs:=by rw [<-hokb,absL_append];simp [absL]
   have hab2:absL (out.take (k+1))<=absL l:=by
    rw [<-habs]
    conv=>rhs;rw [<-List.take_append_drop (k+1) out,absL_append]
    omega
   refine wskip ?_
   show AWp _ _ _ _ _
   refine wseq ?_
   refine wblock ?_
   refine wseq ?_
   refine wseq ?_
   refine wdrawI [(true,0),(true,1),(true,2),(true,3),(true,4),(true,5),(true,6),(true,7),(true,8),(true,9),(true,10),(true,11),(true,12),(true,13),(true,14),(true,15),(true,16),(true,17)] ⟨by kernel_rfl,by kernel_rfl⟩ ([0,1,2,3,4,5,6,7,8,9,10,11,12,13,14,15,16,17]) rfl fun K hK=>?_
   have hJ:K ⟨ofL [(3,.al (3,0) [] 0 l.length),(11,.al (11,0) [] 0 m),(12,.int k),(120,.bool (decide (0 < m/\(G.getD (m - 1) (0,0)).1=(out.getD k (0,0)).1)))],ofRO [((3,0),some (.ow 2 l.length (rows gM out))),((11,0),some (.ow 2 N (rows gM G)))]⟩:=by
    refine hK _ ?_;clear hK K
    show AWp _ _ _ _ _
    refine wcondJ (fun σ'=>∃ G' m' N',(G'.length=N'/\m'<=N'/\0 < m'/\m'<=k+1/\G'.take m'=addLast (G.take m) out[k])/\σ'=⟨ofL [(3,.al (3,0) [] 0 l.length),(11,.al (11,0) [] 0 m'),(12,.int k)],ofRO [((3,0),some (.ow 2 l.length (rows gM out))),((11,0),some (.ow 2 N' (rows gM G')))]⟩) _ rfl ?_ (fun hc6 Qc6 hQc6=>?_) (fun hc6 Qc6 hQc6=>?_)
    ·rintro σc6 ⟨G',m',N',⟨f1,f2,f3,f4,f5⟩,rfl⟩
     have habG:absL (G'.take m')<=absL (out.take (k+1)):=by
      have:=absL_addLast (G.take m) out[k]
      rw [f5,hab1]
      omega
     obtain ⟨q,rfl⟩:∃ q,m'=q+1:=⟨m' - 1,by omega⟩
     have hq:q < G'.length:=by omega
     have hqN:q < N':=by omega
     show AWp _ _ _ _ _
     refine wseq ?_
     refine wdrawI [(true,0),(true,1),(true,2),(true,3),(true,4),(true,5),(true,6),(true,7),(true,8),(true,9),(true,10),(true,11),(true,12),(true,13),(true,14),(true,15),(true,16),(true,17),(true,18)] ⟨by kernel_rfl,by kernel_rfl⟩ ([0,1,2,3,4,5,6,7,8,9,10,11,12,13,14,15,16,17,18]) rfl fun K hK=>?_
     have hJ:K ⟨ofL [(3,.al (3,0) [] 0 l.length),(11,.al (11,0) [] 0 (q+1)),(12,.int k),(165,.bool (decide (k+1=l.length\/(out.getD (k+1) (0,0)).1≠(out.getD k (0,0)).1)))],ofRO [((3,0),some (.ow 2 l.length (rows gM out))),((11,0),some (.ow 2 N' (rows gM G')))]⟩:=by
      refine hK _ ?_;clear hK K
      show AWp _ _ _ _ _
      refine wcondJ (fun σ'=>∃ m' t f,(m'<=q+1/\G'.take m'=if (out.drop (k+1)).head?.map (·.1)=some out[k].1 then G'.take (q+1) else cutLast (G'.take (q+1)))/\σ'=⟨ofL [(3,.al (3,0) [] 0 l.length),(11,.al (11,0) [] 0 m'),(12,.int k),(t,f)],ofRO [((3,0),some (.ow 2 l.length (rows gM out))),((11,0),some (.ow 2 N' (rows gM G')))]⟩) _ rfl ?_ (fun hc7 Qc7 hQc7=>?_) (fun hc7 Qc7 hQc7=>?_)
      ·rintro σc7 ⟨m',tt,ff,⟨e1,e2⟩,rfl⟩
       show AWp _ _ _ _ _
       refine wreg fun K hK=>?_
       simp [C.spec_l2Gather,wrap_succ (show k < 4611686018427387904 by omega)]
       refine hK _ ?_;clear hK K
       simp [C.spec_l2Gather]
       refine hR4 (k+1,G',m',N') ⟨hk,f1,by dsimp only;omega,by dsimp only;omega,?_,?_⟩ (by dsimp only;omega)
       ·dsimp only
        rw [e2,f5,<-g5,List.drop_eq_getElem_cons hko]
        rfl
       ·dsimp only
        rw [e2]
        split
        ·exact habG
        ·exact Nat.le_trans (absL_cutLast _) habG
      ·have hcc:=d_t hc7
       have hnx:¬ ((out.drop (k+1)).head?.map (·.1)=some out[k].1):=by rw [head_next hko];rw [hol];exact fun h=>h hcc
       refine wseq ?_
       refine wreg fun K hK=>?_
       simp [C.spec_l2Gather,show ((q:Int) < q+1) by omega,hqN,f1,gM_1 hq,wrap_nat (show q < 4611686018427387904 by omega)]
       refine hK _ ?_;clear hK K
       show AWp _ _ _ _ _
       refine wcond _ rfl (fun hc8=>?_) (fun hc8=>?_)
       ·have hz:G'[q].2=0:=by simpa using hc8
        refine wreg fun K hK=>?_
        simp [C.spec_l2Gather,show ((q:Int)<=q+1) by omega,hqN,wrap_nat (show q < 4611686018427387904 by omega)]
        refine hK _ ?_;clear hK K
        first
         | (rw [ofL_pad3];exact hQc7 _ ⟨q,0,.dead,⟨by omega,by rw [if_neg hnx,cutLast_at hq,if_pos hz]⟩,rfl⟩)
         | exact hQc7 _ ⟨q+1,_,_,⟨by omega,by rw [if_neg hnx,cutLast_at hq,if_neg hz]⟩,rfl⟩
       ·have hz:¬ G'[q].2=0:=by simpa using hc8
        refine wskip ?_
        first
         | (rw [ofL_pad3];exact hQc7 _ ⟨q,0,.dead,⟨by omega,by rw [if_neg hnx,cutLast_at hq,if_pos hz]⟩,rfl⟩)
         | exact hQc7 _ ⟨q+1,_,_,⟨by omega,by rw [if_neg hnx,cutLast_at hq,if_neg hz]⟩,rfl⟩
      ·have hcc:=d_f hc7
       have hnx:(out.drop (k+1)).head?.map (·.1)=some out[k].1:=by rw [head_next hko];rw [hol];exact hcc
       refine wskip ?_
       exact hQc7 _ ⟨q+1,_,_,⟨Nat.le_refl _,by rw [if_pos hnx]⟩,rfl⟩
     clear hK
     by_cases ha:k+1=l.length
     ·refine oEn fun L hL=>?_
      simp [C.spec_l2Gather,wrap_succ (show k < 4611686018427387904 by omega),wrap_nat (show l.length < 4611686018427387904 by omega),show ((k:Int)+1=l.length) by omega,ha]
      refine hL _ ?_;clear hL L
      simp [C.spec_l2Gather,wrap_succ (show k < 4611686018427387904 by omega),wrap_nat (show l.length < 4611686018427387904 by omega),show ((k:Int)+1=l.length) by omega,ha]
      refine cast (congrArg K ?_) hJ
      simp [ha,ha]
     ·have hk1:k+1 < l.length:=by omega
      have hko1:k+1 < out.length:=by omega
      refine oEn fun L hL=>?_
      simp [C.spec_l2Gather,wrap_succ (show k < 4611686018427387904 by omega),wrap_nat (show l.length < 4611686018427387904 by omega),show ¬ ((k:Int)+1=l.length) by omega,show (0<=(k:Int)+1) by omega,show ((k:Int)+1 < l.length) by omega,show ((k:Int)+1).toNat=k+1 by omega,hk1,hk,gM_0 hko1,gM_0 hko,ha]
      refine hL _ ?_;clear hL L
      simp [C.spec_l2Gather,wrap_succ (show k < 4611686018427387904 by omega),wrap_nat (show l.length < 4611686018427387904 by omega),show ¬ ((k:Int)+1=l.length) by omega,show (0<=(k:Int)+1) by omega,show ((k:Int)+1 < l.length) by omega,show ((k:Int)+1).toNat=k+1 by omega,hk1,hk,gM_0 hko1,gM_0 hko,ha]
      refine cast (congrArg K ?_) hJ
      simp [List.getD_eq_getElem?_getD,hko1,hko,ibne,show ¬ (k+1=l.length) by omega,ha]
    ·have hcc:=d_t hc6
     obtain ⟨q,rfl⟩:∃ q,m=q+1:=⟨m - 1,by omega⟩
     have hq:q < G.length:=by omega
     have hqN:q < N:=by omega
     have hek:G[q].1=out[k].1:=by
      have:=hcc.2
      rw [show q+1 - 1=q by omega,getD_at hq,getD_at hko] at this
      exact this
     have hGq:=absL_mem (l:=G.take (q+1)) (x:=G[q]) (by rw [List.take_succ_eq_append_getElem hq];exact List.mem_append_right _ (List.mem_singleton.2 rfl))
     refine wdrawI [(true,0),(true,1),(true,2),(true,3),(true,4),(true,5),(true,6),(true,7),(true,8),(true,9),(true,10),(true,11),(true,12),(true,13),(true,14),(true,15),(true,16),(true,17),(true,18),(false,19)] ⟨by kernel_rfl,by kernel_rfl⟩ ([0,1,2,3,4,5,6,7,8,9,10,11,12,13,14,15,16,17,18,19]) rfl fun K hK=>?_
     refine oEn fun L hL=>?_
     simp [C.spec_l2Gather,show ((q:Int) < q+1) by omega,hqN,g2,hk,gM_1 hq,gM_1 hko,gM_set1 hq,wrap_nat (show q < 4611686018427387904 by omega),wrapOk (x:=G[q].2+out[k].2) (by omega) (by omega)]
     refine hL _ ?_;clear hL L
     simp [C.spec_l2Gather,show ((q:Int) < q+1) by omega,hqN,g2,hk,gM_1 hq,gM_1 hko,gM_set1 hq,wrap_nat (show q < 4611686018427387904 by omega),wrapOk (x:=G[q].2+out[k].2) (by omega) (by omega)]
     refine hK _ ?_;clear hK K
     refine hQc6 _ ⟨_,q+1,N,⟨?_,g3,by omega,by omega,?_⟩,rfl⟩
     ·simpa using g2
     ·exact (addLast_same hq hek).symm
    ·have hcc:=d_f hc6
     have hnew:=addLast_new (l:=G) (m:=m) (x:=out[k]) (by omega) (by rw [getD_at hko] at hcc;exact hcc)
     refine wreg fun K hK=>?_
     simp [C.spec_l2Gather,hk,gM_0 hko,gM_1 hko,tkM g2 g3,gM_snoc,pair_eta,show (m+1)*16<=140737488355328 by omega]
     refine hK _ ?_;clear hK K
     refine hQc6 _ ⟨_,m+1,m+1,⟨?_,Nat.le_refl _,by omega,by omega,?_⟩,rfl⟩
     ·simp
      omega
     ·rw [hnew,List.take_of_length_le (by simp;omega)]
   clear hK
   by_cases ha:0 < m
   ·obtain ⟨q,rfl⟩:∃ q,m=q+1:=⟨m - 1,by omega⟩
    have hq:q < G.length:=by omega
    have hqN:q < N:=by omega
    refine oEn fun L hL=>?_
    simp [C.spec_l2Gather,show ((q:Int) < q+1) by omega,hk,hqN,g2,gM_0 hq,gM_0 hko,wrap_nat (show q < 4611686018427387904 by omega),ha]
    refine hL _ ?_;clear hL L
    simp [C.spec_l2Gather,show ((q:Int) < q+1) by omega,hk,hqN,g2,gM_0 hq,gM_0 hko,wrap_nat (show q < 4611686018427387904 by omega),ha]
    refine cast (congrArg K ?_) hJ
    simp [List.getD_eq_getElem?_getD,hq,hko,ibeq,ha]
   ·refine oEn fun L hL=>?_
    simp [C.spec_l2Gather,ha]
    refine hL _ ?_;clear hL L
    simp [C.spec_l2Gather,ha]
    refine cast (congrArg K ?_) hJ
    simp [ha]
  ·have hk:k=l.length:=by have:=d_f hc5;omega
   have hfin:G.take m=nf ilt l:=by
    rw [<-g5,hk,<-hol,List.drop_length]
    rfl
   have hml:m=(nf ilt l).length:=by rw [<-hfin,List.length_take];omega
   refine wexit ?_
   show AWp _ _ _ _ _
   refine wseq ?_
   refine wreg fun K hK=>?_
   simp [C.spec_l2Gather]
   refine hK _ ?_;clear hK K
   show AWp _ _ _ _ _
   refine wret ?_
   simp [C.spec_l2Gather,tkM g2 g3,hfin]
   exact hml
end Go.Proofs.YtbhkonnakkhibaaGreat.Ab
namespace Go.Proofs.YtbhkonnakkhibaaGreat.Ab
open Go
set_option maxRecDepth 10000
set_option maxHeartbeats 2000000
def pM (base:Int) (x y:Int×Int):Int×Int:=(x.1+y.1 - base,x.2*y.2)
def prodM (base:Int) (a b:List (Int×Int)):List (Int×Int):=a.flatMap fun x=>b.map (pM base x)
theorem prodM_step {base:Int} {a b:List (Int×Int)} {i:Nat} (h:i < a.length):prodM base (a.take (i+1)) b=prodM base (a.take i) b ++ b.map (pM base a[i]):=by
 unfold prodM
 rw [List.take_succ_eq_append_getElem h,List.flatMap_append]
 simp
def MonOk (l:List (Int×Int)):Prop:=∀ x∈l,(0<=x.1/\x.1 < 72057594037927936)/\(-1000000<=x.2/\x.2<=1000000)
theorem mul_bd {x y:Int} (hx:-1000000<=x/\x<=1000000) (hy:-1000000<=y/\y<=1000000):-1000000000000<=x*y/\x*y<=1000000000000:=by
 have h1:(x*y).natAbs<=1000000*1000000:=by
  rw [Int.natAbs_mul]
  exact Nat.mul_le_mul (by omega) (by omega)
 omega
theorem absL_le {l:List (Int×Int)} {B:Nat} (h:∀ x∈l,x.2.natAbs<=B):absL l<=l.length*B:=by
 induction l with
 | nil=>simp [absL]
 | cons x l ih=>
  have h1:=h x (by simp)
  have h2:=ih fun y hy=>h y (by simp [hy])
  simp only [absL,List.map_cons,List.sum_cons,List.length_cons,Nat.add_mul,Nat.one_mul] at h2 ⊢
  omega
theorem prodM_len (base:Int) (a b:List (Int×Int)):(prodM base a b).length=a.length*b.length:=by
 unfold prodM
 induction a with
 | nil=>simp
 | cons x a ih=>simp [List.flatMap_cons,ih,Nat.add_mul];omega
theorem prodM_abs {base:Int} {a b:List (Int×Int)} (ha:MonOk a) (hb:MonOk b) (hla:a.length<=600) (hlb:b.length<=600):absL (prodM base a b) < 4611686018427387904:=by
 have h1:absL (prodM base a b)<=(prodM base a b).length*1000000000000:=absL_le fun x hx=>by
  unfold prodM at hx
  obtain ⟨u,hu,hx⟩:=List.mem_flatMap.1 hx
  obtain ⟨v,hv,rfl⟩:=List.mem_map.1 hx
  have:=mul_bd (ha u hu).2 (hb v hv).2
  simp only [pM]
  omega
 rw [prodM_len] at h1
 have h2:a.length*b.length<=600*600:=Nat.mul_le_mul hla hlb
 omega
theorem spec_l2Times_c (a b:List (Int×Int)) (base:Int) (hbase:0<=base/\base < 72057594037927936) (ha:MonOk a) (hb:MonOk b) (hla:a.length<=600) (hlb:b.length<=600):ACalls Tryz.prog F.spec_l2Times [.d (.sh 2 a.length (rows gM a)),.d (.sh 2 b.length (rows gM b)),.int base] [] true (fun outs res=>outs=[]/\res=[.one (.ow 2 (nf ilt (prodM base a b)).length (rows gM (nf ilt (prodM base a b))))]):=by
 have hab:a.length*b.length<=600*600:=Nat.mul_le_mul hla hlb
 have habz:IntKind.i64.wrap ((a.length:Int)*b.length)=((a.length*b.length:Nat):Int):=by
  rw [show (a.length:Int)*b.length=((a.length*b.length:Nat):Int) by simp,wrapOk (by omega) (by omega)]
 generalize hq:a.length*b.length=q at hab habz
 refine ACalls.of_body (C:=C.spec_l2Times) (n:=Tryz.f196.ntmps) tabT folT Tryz.func196 rfl (by kernel_rfl) rfl (Nat.le_of_ble_eq_true rfl) (by decide) (by kernel_rfl) (by kernel_rfl) rfl (by simp) (by simp) ?_
 simp only [Tryz.f196]
 refine wseq ?_
 refine wreg fun K hK=>?_
 simp [C.spec_l2Times]
 refine hK _ ?_;clear hK K
 show AWp _ _ _ _ _
 refine wseq ?_
 refine wreg fun K hK=>?_
 simp [C.spec_l2Times,habz,show (16:Int)*q<=281474976710656 by omega,show (q:Int)<=281474976710656 by omega]
 refine hK _ ?_;clear hK K
 show AWp _ _ _ _ _
 refine wseq ?_
 refine wseq ?_
 refine wreg fun K hK=>?_
 simp [C.spec_l2Times]
 refine hK _ ?_;clear hK K
 show AWp _ _ _ _ _
 refine wblock ?_
 refine wloop (fun x:Nat×List (Int×Int)×Nat=>⟨ofL [(0,.d (.sh 2 a.length (rows gM a))),(1,.d (.sh 2 b.length (rows gM b))),(2,.int base),(7,.al (7,0) [] 0 x.2.2),(8,.int x.1)],ofRO [((7,0),some (.ow 2 x.2.2 (rows gM x.2.1)))]⟩) (fun x=>x.1<=a.length/\x.2.1=prodM base (a.take x.1) b/\x.2.2=x.2.1.length/\x.2.2<=x.1*600) (fun x=>a.length - x.1) (0,[],0) (by simp [C.spec_l2Times,rows]) (by simp [prodM]) ?_
 intro x1 hx1 R1 hR1
 obtain ⟨i,out,m⟩:=x1
 obtain ⟨hi,hout,hm,hmb⟩:=hx1
 dsimp only at hi hout hm hmb ⊢
 refine wseq ?_
 refine wseq ?_
 refine wreg fun K hK=>?_
 simp [C.spec_l2Times]
 refine hK _ ?_;clear hK K
 show AWp _ _ _ _ _
 refine wcond _ rfl (fun hc1=>?_) (fun hc1=>?_)
 ·have hia:i < a.length:=by have:=d_t hc1;omega
  refine wskip ?_
  show AWp _ _ _ _ _
  refine wseq ?_
  refine wblock ?_
  refine wseq ?_
  refine wreg fun K hK=>?_
  simp [C.spec_l2Times]
  refine hK _ ?_;clear hK K
  show AWp _ _ _ _ _
  refine wblock ?_
  refine wloop (fun x:Nat×List (Int×Int)×Nat=>⟨ofL [(0,.d (.sh 2 a.length (rows gM a))),(1,.d (.sh 2 b.length (rows gM b))),(2,.int base),(7,.al (7,0) [] 0 x.2.2),(8,.int i),(9,.int x.1)],ofRO [((7,0),some (.ow 2 x.2.2 (rows gM x.2.1)))]⟩) (fun x=>x.1<=b.length/\x.2.1=out ++ (b.take x.1).map (pM base a[i])/\x.2.2=x.2.1.length/\x.2.2<=i*600+x.1) (fun x=>b.length - x.1) (0,out,m) (by simp [C.spec_l2Times]) ⟨by simp,by simp,hm,by dsimp only;omega⟩ ?_
  intro x2 hx2 R2 hR2
  obtain ⟨j,o2,m2⟩:=x2
  obtain ⟨hj,ho2,hm2,hm2b⟩:=hx2
  dsimp only at hj ho2 hm2 hm2b ⊢
  refine wseq ?_
  refine wseq ?_
  refine wreg fun K hK=>?_
  simp [C.spec_l2Times]
  refine hK _ ?_;clear hK K
  show AWp _ _ _ _ _
  refine wcond _ rfl (fun hc2=>?_) (fun hc2=>?_)
  ·have hjb:j < b.length:=by have:=d_t hc2;omega
   have hA:=ha _ (List.getElem_mem hia)
   have hB:=hb _ (List.getElem_mem hjb)
   have hAB:=mul_bd hA.2 hB.2
   refine wskip ?_
   show AWp _ _ _ _ _
   refine wseq ?_
   refine wblock ?_
   refine wdrawI [(true,0),(true,1),(true,2),(true,3),(true,4),(true,5),(true,6),(true,7),(true,8),(true,9),(true,10),(true,11),(true,12),(true,13),(true,14),(true,15),(true,16),(true,17),(true,18),(true,19),(true,20),(true,21),(true,22),(true,23),(true,24),(true,25),(false,26),(false,27),(true,28)] ⟨by kernel_rfl,by kernel_rfl⟩ ([0,1,2,3,4,5,6,7,8,9,10,11,12,13,14,15,16,17,18,19,20,21,22,23,24,25,26,27,28]) rfl fun K hK=>?_
   refine oEn fun L hL=>?_
   simp [C.spec_l2Times,hia,hjb,gM_0 hia,gM_1 hia,gM_0 hjb,gM_1 hjb,gM_snoc,wrapOk (x:=a[i].1+b[j].1) (by omega) (by omega),wrapOk (x:=a[i].1+b[j].1 - base) (by omega) (by omega),wrapOk (x:=a[i].2*b[j].2) (by omega) (by omega),show (m2+1)*16<=140737488355328 by omega]
   refine hL _ ?_;clear hL L
   simp [C.spec_l2Times,hia,hjb,gM_0 hia,gM_1 hia,gM_0 hjb,gM_1 hjb,gM_snoc,wrapOk (x:=a[i].1+b[j].1) (by omega) (by omega),wrapOk (x:=a[i].1+b[j].1 - base) (by omega) (by omega),wrapOk (x:=a[i].2*b[j].2) (by omega) (by omega),show (m2+1)*16<=140737488355328 by omega]
   refine hK _ ?_;clear hK K
   show AWp _ _ _ _ _
   refine wreg fun K hK=>?_
   simp [C.spec_l2Times,wrap_succ (show j < 4611686018427387904 by omega)]
   refine hK _ ?_;clear hK K
   simp [C.spec_l2Times]
   refine hR2 (j+1,_,m2+1) ⟨hjb,?_,by dsimp only;rw [hm2];simp,by dsimp only;omega⟩ (by dsimp only;omega)
   dsimp only
   rw [ho2,List.take_succ_eq_append_getElem hjb,List.map_append,List.append_assoc]
   rfl
  ·have hjb:j=b.length:=by have:=d_f hc2;omega
   refine wexit ?_
   show AWp _ _ _ _ _
   refine wreg fun K hK=>?_
   simp [C.spec_l2Times,wrap_succ (show i < 4611686018427387904 by omega)]
   refine hK _ ?_;clear hK K
   simp [C.spec_l2Times]
   refine hR1 (i+1,o2,m2) ⟨hia,?_,hm2,by dsimp only;omega⟩ (by dsimp only;omega)
   dsimp only
   rw [prodM_step hia,<-hout,ho2,hjb,List.take_length]
 ·have hia:i=a.length:=by have:=d_f hc1;omega
  have hfull:out=prodM base a b:=by rw [hout,hia,List.take_length]
  subst hfull
  subst hm
  refine wexit ?_
  show AWp _ _ _ _ _
  refine wseq ?_
  refine wregI ([0,1] ++ ([2])) rfl fun K hK=>?_
  refine oSg fun L hL=>?_
  simp [C.spec_l2Times]
  refine wcall1 (spec_l2Gather_c (prodM base a b) (by omega) (prodM_abs ha hb hla hlb)) (by simp) (by simp) ?_
  simp [C.spec_l2Times]
  refine hL _ ?_;clear hL L
  refine oEn fun L hL=>?_
  simp [C.spec_l2Times]
  refine hL _ ?_;clear hL L
  simp [C.spec_l2Times]
  refine hK _ ?_;clear hK K
  show AWp _ _ _ _ _
  refine wret ?_
  simp [C.spec_l2Times]
end Go.Proofs.YtbhkonnakkhibaaGreat.Ab
namespace Go.Proofs.YtbhkonnakkhibaaGreat.Ab
open Go
set_option maxRecDepth 10000
set_option maxHeartbeats 2000000
theorem insK_len {K:Type} [DecidableEq K] {lt:K->K->Bool} (k:K) (c:Int):∀ l:List (K×Int),(insK lt k c l).length<=l.length+1
 | []=>by simp only [insK];split <;> simp
 | x :: l=>by
  simp only [insK]
  split
  ·split <;> simp
   omega
  ·split
   ·split <;> simp
   ·simp only [List.length_cons]
    have:=insK_len (lt:=lt) k c l
    omega
theorem nf_len {K:Type} [DecidableEq K] {lt:K->K->Bool}:∀ l:List (K×Int),(nf lt l).length<=l.length
 | []=>by simp [nf]
 | x :: l=>by
  simp only [nf,List.length_cons]
  have:=insK_len (lt:=lt) x.1 x.2 (nf lt l)
  have:=nf_len (lt:=lt) l
  omega
theorem right_dig {f:Lau} (h:Right f) {n:Nat} (hn:f.v=n):∀ t∈f.ts,t.e.length=n/\Dig t.e/\(∀ x∈t.e,-20<=x/\x<=20)/\(-1000000<=t.c/\t.c<=1000000):=fun t ht=>by
 obtain ⟨h1,_,h2,h3⟩:=h.2.2.1 t ht
 exact ⟨by omega,fun x hx=>by have:=h3 x hx;omega,h3,h2⟩
theorem right_mon {f:Lau} (h:Right f) {n:Nat} (hn:f.v=n):MonOk (f.ts.map kt):=fun x hx=>by
 obtain ⟨t,ht,rfl⟩:=List.mem_map.1 hx
 obtain ⟨h1,h2,_,h3⟩:=right_dig h hn t ht
 have:=h.1
 exact ⟨keyA_key h2 (by omega),h3⟩
theorem addE_mem {a b:List Int} (hl:a.length=b.length) {p q:Int} (ha:∀ x∈a,-p<=x/\x<=p) (hb:∀ x∈b,-q<=x/\x<=q):∀ x∈addE 1 a b,-(p+q)<=x/\x<=p+q:=by
 induction a generalizing b with
 | nil=>cases b with
  | nil=>intro x hx;simp [addE] at hx
  | cons y b=>simp at hl
 | cons u a ih=>cases b with
  | nil=>simp at hl
  | cons v b=>
   intro x hx
   simp only [addE,List.mem_cons] at hx
   rcases hx with rfl | hx
   ·have:=ha u (by simp)
    have:=hb v (by simp)
    omega
   ·exact ih (by simpa using hl) (fun x hx=>ha x (by simp [hx])) (fun x hx=>hb x (by simp [hx])) x hx
theorem prodL_mem {a b:List (List Int×Int)} {z:List Int×Int} (h:z∈prodL a b):∃ x∈a,∃ y∈b,z=(addE 1 x.1 y.1,x.2*y.2):=by
 unfold prodL at h
 obtain ⟨x,hx,h⟩:=List.mem_flatMap.1 h
 obtain ⟨y,hy,rfl⟩:=List.mem_map.1 h
 exact ⟨x,hx,y,hy,rfl⟩
theorem prodL_exps {f g:Lau} (hf:Right f) (hg:Right g) {n:Nat} (h1:f.v=n) (h2:g.v=n):Exps n (prodL (f.ts.map pr) (g.ts.map pr)):=fun z hz=>by
 obtain ⟨x,hx,y,hy,rfl⟩:=prodL_mem hz
 obtain ⟨t,ht,rfl⟩:=List.mem_map.1 hx
 obtain ⟨u,hu,rfl⟩:=List.mem_map.1 hy
 obtain ⟨a1,_,a2,_⟩:=right_dig hf h1 t ht
 obtain ⟨b1,_,b2,_⟩:=right_dig hg h2 u hu
 refine ⟨by simp only [pr];rw [addE_length _ _ _ (by omega)];exact a1,fun x hx=>?_⟩
 have:=addE_mem (a:=t.e) (b:=u.e) (by omega) (p:=20) (q:=20) a2 b2 x hx
 omega
theorem flatMap_same {α β:Type} {f g:α->List β}:∀ (l:List α),(∀ x∈l,f x=g x)->l.flatMap f=l.flatMap g
 | [],_=>rfl
 | x :: l,h=>by
  simp only [List.flatMap_cons]
  rw [h x (by simp),flatMap_same l fun y hy=>h y (by simp [hy])]
theorem prodL_coded {f g:Lau} (hf:Right f) (hg:Right g) {n:Nat} (h1:f.v=n) (h2:g.v=n):prodM (keyA 0 (List.replicate n 0)) (f.ts.map kt) (g.ts.map kt)=(prodL (f.ts.map pr) (g.ts.map pr)).map kc:=by
 unfold prodM prodL
 rw [List.map_flatMap,List.flatMap_map,List.flatMap_map]
 refine flatMap_same _ fun t ht=>?_
 rw [List.map_map,List.map_map,List.map_map]
 refine List.map_congr_left fun u hu=>?_
 obtain ⟨a1,_⟩:=right_dig hf h1 t ht
 obtain ⟨b1,_⟩:=right_dig hg h2 u hu
 have:=keyA_add t.e u.e 0 0 0 (by omega)
 rw [a1] at this
 simp only [Function.comp,pM,kt,kc,pr]
 rw [<-this]
 rfl
theorem kt_tm:kt ∘ tm=kc:=rfl
theorem prod_nf {f g:Lau} (hf:Right f) (hg:Right g) {n:Nat} (h1:f.v=n) (h2:g.v=n):nf ilt (prodM (keyA 0 (List.replicate n 0)) (f.ts.map kt) (g.ts.map kt))=((nf lexlt (prodL (f.ts.map pr) (g.ts.map pr))).map tm).map kt:=by
 rw [prodL_coded hf hg h1 h2,nf_key _ (prodL_exps hf hg h1 h2),List.map_map,kt_tm]
theorem prodL_len (a b:List (List Int×Int)):(prodL a b).length=a.length*b.length:=by
 unfold prodL
 induction a with
 | nil=>simp
 | cons x a ih=>simp [List.flatMap_cons,ih,Nat.add_mul];omega
theorem spec_MulLaurents_c (f g:Lau) (hx:f.ts.length < 4611686018427387904) (hxe:∀ t∈f.ts,t.e.length < 4611686018427387904) (hy:g.ts.length < 4611686018427387904) (hye:∀ t∈g.ts,t.e.length < 4611686018427387904):ACalls Tryz.prog F.spec_MulLaurents [aF f,aF g] [] true (fun outs res=>outs=[]/\WkRs res [.ag (fO (mulF f g).1),.one (D.bool (mulF f g).2)]):=by
 refine ACalls.of_body (C:=C.spec_MulLaurents) (n:=Tryz.f119.ntmps) tabT folT Tryz.func119 rfl (by kernel_rfl) rfl (Nat.le_of_ble_eq_true rfl) (by decide) (by kernel_rfl) (by kernel_rfl) rfl (by simp) (by simp) ?_
 simp only [Tryz.f119]
 refine wseq ?_
 refine wreg fun K hK=>?_
 simp [C.spec_MulLaurents]
 refine hK _ ?_;clear hK K
 show AWp _ _ _ _ _
 refine wseq ?_
 refine wseq ?_
 refine wregI ([0,1,2] ++ ([3])) rfl fun K hK=>?_
 refine oSg fun L hL=>?_
 simp [C.spec_MulLaurents]
 refine wcall1 (spec_l2Two_c f g hx hxe hy hye) (by simp) (by simp) ?_
 simp [C.spec_MulLaurents]
 refine hL _ ?_;clear hL L
 refine oEn fun L hL=>?_
 simp [C.spec_MulLaurents]
 refine hL _ ?_;clear hL L
 simp [C.spec_MulLaurents]
 refine hK _ ?_;clear hK K
 show AWp _ _ _ _ _
 refine wcond _ rfl (fun hc1=>?_) (fun hc1=>?_)
 ·have hr:¬ (Right f/\Right g/\f.v=g.v):=by
   intro ⟨q1,q2,q3⟩
   simp [q1,q2,q3] at hc1
  have hm:mulF f g=(zeroF,false):=if_neg hr
  refine wseq ?_
  refine wreg fun K hK=>?_
  simp [C.spec_MulLaurents]
  refine hK _ ?_;clear hK K
  show AWp _ _ _ _ _
  refine wret ?_
  simp [C.spec_MulLaurents,hm,fO,zeroF,rows]
 ·have hr:Right f/\Right g/\f.v=g.v:=by simpa using hc1
  obtain ⟨hf,hg,hfg⟩:=hr
  have hv:=hf.1
  obtain ⟨n,hn⟩:∃ n:Nat,f.v=n:=⟨f.v.toNat,by omega⟩
  have hn2:g.v=n:=by omega
  have hn8:n<=8:=by omega
  have hfl:=hf.2.1
  have hgl:=hg.2.1
  have hnf:=prod_nf hf hg hn hn2
  obtain ⟨T,hT⟩:∃ T,T=(nf lexlt (prodL (f.ts.map pr) (g.ts.map pr))).map tm:=⟨_,rfl⟩
  rw [<-hT] at hnf
  have hTl:T.length<=1000000:=by
   rw [hT,List.length_map]
   have h1:=nf_len (lt:=lexlt) (prodL (f.ts.map pr) (g.ts.map pr))
   rw [prodL_len,List.length_map,List.length_map] at h1
   have h2:f.ts.length*g.ts.length<=600*600:=Nat.mul_le_mul hfl hgl
   omega
  have hTe:∀ t∈T,Dig t.e/\t.e.length=n:=fun t ht=>by
   rw [hT] at ht
   obtain ⟨z,hz,rfl⟩:=List.mem_map.1 ht
   have:=nf_exps (prodL_exps hf hg hn hn2) z hz
   exact ⟨this.2,this.1⟩
  have hm:mulF f g=if Right ⟨f.v,T⟩ then (⟨f.v,T⟩,true) else (zeroF,false):=by
   unfold mulF
   rw [if_pos ⟨hf,hg,hfg⟩]
   unfold shutF
   rw [<-hT]
  have hdf:∀ t∈f.ts,Dig t.e/\t.e.length<=8:=fun t ht=>by have:=right_dig hf hn t ht;exact ⟨this.2.1,by omega⟩
  have hdg:∀ t∈g.ts,Dig t.e/\t.e.length<=8:=fun t ht=>by have:=right_dig hg hn2 t ht;exact ⟨this.2.1,by omega⟩
  have hz8:=keyA_key (a:=List.replicate n 0) (fun x hx=>by have:=List.eq_of_mem_replicate hx;omega) (by simpa using hn8)
  have hTimes:=spec_l2Times_c (f.ts.map kt) (g.ts.map kt) (keyA 0 (List.replicate n 0)) hz8 (right_mon hf hn) (right_mon hg hn2) (by simpa using hfl) (by simpa using hgl)
  rw [hnf] at hTimes
  simp only [List.length_map] at hTimes
  refine wskip ?_
  show AWp _ _ _ _ _
  refine wseq ?_
  refine wdrawI [(true,0),(true,2),(true,4),(true,5),(true,8),(true,9),(false,1),(false,3),(false,6),(false,7),(false,10),(true,11),(true,12),(false,13),(true,14)] ⟨by kernel_rfl,by kernel_rfl⟩ ([0,2,4,5,8,9,1] ++ ([3] ++ ([6] ++ ([7] ++ ([10] ++ ([11,12,13,14])))))) rfl fun K hK=>?_
  refine oSg fun L hL=>?_
  simp [C.spec_MulLaurents]
  refine wcall1 (spec_l2Open_c f (by omega) hdf) (by simp) (by simp) ?_
  simp [C.spec_MulLaurents]
  refine hL _ ?_;clear hL L
  refine oSg fun L hL=>?_
  simp [C.spec_MulLaurents]
  refine wcall1 (spec_l2Open_c g (by omega) hdg) (by simp) (by simp) ?_
  simp [C.spec_MulLaurents]
  refine hL _ ?_;clear hL L
  refine oSg fun L hL=>?_
  simp [C.spec_MulLaurents]
  refine wcall1 (spec_l2Base_c n hn8) (by simp;omega) (by simp) ?_
  simp [C.spec_MulLaurents]
  refine hL _ ?_;clear hL L
  refine oSg fun L hL=>?_
  simp [C.spec_MulLaurents]
  refine wcall1 (hTimes) (by simp) (by simp) ?_
  simp [C.spec_MulLaurents]
  refine hL _ ?_;clear hL L
  refine oSg fun L hL=>?_
  simp [C.spec_MulLaurents]
  refine wcall1 (l2Shut_c T n hTl hTe hn8) (by simp;omega) (by simp) ?_
  simp [C.spec_MulLaurents]
  refine hL _ ?_;clear hL L
  refine oEn fun L hL=>?_
  simp [C.spec_MulLaurents]
  refine hL _ ?_;clear hL L
  simp [C.spec_MulLaurents]
  refine hK _ ?_;clear hK K
  show AWp _ _ _ _ _
  refine wret ?_
  simp [C.spec_MulLaurents]
  rw [hm,hn]
  by_cases hR:Right ⟨(n:Int),T⟩
  ·simp [hR,fO]
  ·simp [hR,fO]
theorem sMul_c (f g:Lau) (hx:f.ts.length < 4611686018427387904) (hxe:∀ t∈f.ts,t.e.length < 4611686018427387904) (hy:g.ts.length < 4611686018427387904) (hye:∀ t∈g.ts,t.e.length < 4611686018427387904):ACalls Tryz.prog F.spec_MulLaurents [aF f,aF g] [] true (fun outs res=>outs=[]/\res=[.ag (fO (mulF f g).1),.one (D.bool (mulF f g).2)]):=(spec_MulLaurents_c f g hx hxe hy hye).weak1
def oneF (n:Nat):Lau:=⟨n,[⟨List.replicate n 0,1⟩]⟩
theorem oneF_right {n:Nat} (h:1<=n/\n<=8):Right (oneF n):=by
 refine ⟨by simp only [oneF];omega,by simp [oneF],fun t ht=>?_,List.pairwise_singleton _ _⟩
 simp only [oneF,List.mem_singleton] at ht
 subst ht
 exact ⟨by simp [oneF],by simp,by simp,fun x hx=>by have:=List.eq_of_mem_replicate hx;omega⟩
theorem spec_ConstantLaurent_c (n:Nat) (hn:1<=n/\n<=8):ACalls Tryz.prog F.spec_ConstantLaurent [.int n,.int 1] [] true (fun outs res=>outs=[]/\res=[.ag (fO (oneF n))]):=by
 refine ACalls.of_body (C:=C.spec_ConstantLaurent) (n:=Tryz.f27.ntmps) tabT folT Tryz.func27 rfl (by kernel_rfl) rfl (Nat.le_of_ble_eq_true rfl) (by decide) (by kernel_rfl) (by kernel_rfl) rfl (by simp) (by simp) ?_
 simp only [Tryz.f27]
 refine wseq ?_
 refine wreg fun K hK=>?_
 simp [C.spec_ConstantLaurent]
 refine hK _ ?_;clear hK K
 show AWp _ _ _ _ _
 refine wseq ?_
 refine wseq ?_
 refine wregI ([0,1] ++ ([2,3,4,5] ++ ([6,7]))) rfl fun K hK=>?_
 refine oSg fun L hL=>?_
 simp [C.spec_ConstantLaurent,show (1<=(n:Int)) by omega,show ((n:Int)<=8) by omega]
 refine wcall1 (spec_l1In_c n 1 8) (by simp) (by simp) ?_
 simp [C.spec_ConstantLaurent,show (1<=(n:Int)) by omega,show ((n:Int)<=8) by omega]
 refine hL _ ?_;clear hL L
 refine oSg fun L hL=>?_
 simp [C.spec_ConstantLaurent,show (1<=(n:Int)) by omega,show ((n:Int)<=8) by omega]
 refine wcall1 (spec_l1In_c 1 (-1000000) 1000000) (by simp) (by simp) ?_
 simp [C.spec_ConstantLaurent,show (1<=(n:Int)) by omega,show ((n:Int)<=8) by omega]
 refine hL _ ?_;clear hL L
 refine oEn fun L hL=>?_
 simp [C.spec_ConstantLaurent,show (1<=(n:Int)) by omega,show ((n:Int)<=8) by omega]
 refine hL _ ?_;clear hL L
 simp [C.spec_ConstantLaurent,show (1<=(n:Int)) by omega,show ((n:Int)<=8) by omega]
 refine hK _ ?_;clear hK K
 show AWp _ _ _ _ _
 refine wcond _ rfl (fun hc1=>?_) (fun hc1=>?_)
 ·simp at hc1
 ·refine wskip ?_
  show AWp _ _ _ _ _
  refine wseq ?_
  refine wseq ?_
  refine wreg fun K hK=>?_
  simp [C.spec_ConstantLaurent]
  refine hK _ ?_;clear hK K
  show AWp _ _ _ _ _
  refine wcond _ rfl (fun hc2=>?_) (fun hc2=>?_)
  ·simp at hc2
  ·refine wskip ?_
   show AWp _ _ _ _ _
   refine wseq ?_
   refine wreg fun K hK=>?_
   simp [C.spec_ConstantLaurent,zeros_ints,show (8:Int)*n<=281474976710656 by omega,show (n:Int)<=281474976710656 by omega]
   refine hK _ ?_;clear hK K
   show AWp _ _ _ _ _
   refine wret ?_
   simp [C.spec_ConstantLaurent,fO,oneF,rows,tO]
end Go.Proofs.YtbhkonnakkhibaaGreat.Ab
namespace Go.Proofs.YtbhkonnakkhibaaGreat.Ab
open Go
set_option maxRecDepth 10000
set_option maxHeartbeats 2000000
end Go.Proofs.YtbhkonnakkhibaaGreat.Ab
namespace Go.Proofs.YtbhkonnakkhibaaGreat.Ab
open Go
set_option maxRecDepth 10000
set_option maxHeartbeats 2000000
def cmpI (a b:Int):Int:=if a < b then -1 else if b < a then 1 else 0
def cmpL:List Int->List Int->Int
 | [],[]=>0
 | [],_ :: _=>-1
 | _ :: _,[]=>1
 | a :: x,b :: y=>if a=b then cmpL x y else if a < b then -1 else 1
theorem cmpL_neg:∀ (a b:List Int),decide (cmpL a b < 0)=lexlt a b
 | [],[]=>rfl
 | [],_ :: _=>rfl
 | _ :: _,[]=>rfl
 | a :: x,b :: y=>by
  have ih:=cmpL_neg x y
  by_cases h:a=b
  ·have e:cmpL (a :: x) (b :: y)=cmpL x y:=by simp [cmpL,h]
   rw [e,ih]
   simp [lexlt,h]
  ·by_cases h2:a < b
   ·have e:cmpL (a :: x) (b :: y)=-1:=by simp [cmpL,h,h2]
    rw [e]
    simp [lexlt,h,h2]
   ·have e:cmpL (a :: x) (b :: y)=1:=by simp [cmpL,h,h2]
    rw [e]
    simp [lexlt,h,h2]
theorem cmpL_pos:∀ (a b:List Int),decide (cmpL a b<=0) = !lexlt b a
 | [],[]=>rfl
 | [],_ :: _=>rfl
 | _ :: _,[]=>rfl
 | a :: x,b :: y=>by
  have ih:=cmpL_pos x y
  by_cases h:a=b
  ·have e:cmpL (a :: x) (b :: y)=cmpL x y:=by simp [cmpL,h]
   rw [e,ih]
   simp [lexlt,h]
  ·by_cases h2:a < b
   ·have e:cmpL (a :: x) (b :: y)=-1:=by simp [cmpL,h,h2]
    rw [e]
    simp [lexlt,Ne.symm h]
    omega
   ·have e:cmpL (a :: x) (b :: y)=1:=by simp [cmpL,h,h2]
    rw [e]
    simp [lexlt,Ne.symm h]
    omega
def okE (e:List Int) (v:Int):Bool:=decide ((e.length:Int)=v) && !e.any (fun x=>!decide (-20<=x/\x<=20))
theorem okE_iff {e:List Int} {v:Int}:okE e v=true↔(e.length:Int)=v/\∀ x∈e,-20<=x/\x<=20:=by
 unfold okE
 simp only [Bool.and_eq_true,decide_eq_true_eq,Bool.not_eq_true',List.any_eq_false,Bool.not_eq_true']
 refine ⟨fun ⟨h1,h2⟩=>⟨h1,fun x hx=>?_⟩,fun ⟨h1,h2⟩=>⟨h1,fun x hx=>?_⟩⟩
 ·have:=h2 x hx
  simpa using this
 ·have:=h2 x hx
  simpa using this
theorem cmp_isNaN_int_c (a:Int):ACalls Tryz.prog F.cmp_isNaN_int [.int a] [] true (fun outs res=>outs=[]/\res=[.one (D.bool false)]):=by
 refine ACalls.of_body (C:=C.cmp_isNaN_int) (n:=Tryz.f244.ntmps) tabT folT Tryz.func244 rfl (by kernel_rfl) rfl (Nat.le_of_ble_eq_true rfl) (by decide) (by kernel_rfl) (by kernel_rfl) rfl (by simp) (by simp) ?_
 simp only [Tryz.f244]
 refine wseq ?_
 refine wreg fun K hK=>?_
 simp [C.cmp_isNaN_int]
 refine hK _ ?_;clear hK K
 show AWp _ _ _ _ _
 refine wseq ?_
 refine wreg fun K hK=>?_
 simp [C.cmp_isNaN_int]
 refine hK _ ?_;clear hK K
 show AWp _ _ _ _ _
 refine wret ?_
 simp [C.cmp_isNaN_int]
theorem cmp_Compare_int_c (a b:Int):ACalls Tryz.prog F.cmp_Compare_int [.int a,.int b] [] true (fun outs res=>outs=[]/\res=[.one (D.int (cmpI a b))]):=by
 refine ACalls.of_body (C:=C.cmp_Compare_int) (n:=Tryz.f215.ntmps) tabT folT Tryz.func215 rfl (by kernel_rfl) rfl (Nat.le_of_ble_eq_true rfl) (by decide) (by kernel_rfl) (by kernel_rfl) rfl (by simp) (by simp) ?_
 simp only [Tryz.f215]
 refine wseq ?_
 refine wreg fun K hK=>?_
 simp [C.cmp_Compare_int]
 refine hK _ ?_;clear hK K
 show AWp _ _ _ _ _
 refine wseq ?_
 refine wregI ([0,1] ++ ([2])) rfl fun K hK=>?_
 refine oSg fun L hL=>?_
 simp [C.cmp_Compare_int]
 refine wcall1 (cmp_isNaN_int_c a) (by simp) (by simp) ?_
 simp [C.cmp_Compare_int]
 refine hL _ ?_;clear hL L
 refine oEn fun L hL=>?_
 simp [C.cmp_Compare_int]
 refine hL _ ?_;clear hL L
 simp [C.cmp_Compare_int]
 refine hK _ ?_;clear hK K
 show AWp _ _ _ _ _
 refine wseq ?_
 refine wregI ([0,1] ++ ([2])) rfl fun K hK=>?_
 refine oSg fun L hL=>?_
 simp [C.cmp_Compare_int]
 refine wcall1 (cmp_isNaN_int_c b) (by simp) (by simp) ?_
 simp [C.cmp_Compare_int]
 refine hL _ ?_;clear hL L
 refine oEn fun L hL=>?_
 simp [C.cmp_Compare_int]
 refine hL _ ?_;clear hL L
 simp [C.cmp_Compare_int]
 refine hK _ ?_;clear hK K
 show AWp _ _ _ _ _
 refine wseq ?_
 refine wseq ?_
 refine wreg fun K hK=>?_
 simp [C.cmp_Compare_int]
 refine hK _ ?_;clear hK K
 show AWp _ _ _ _ _
 refine wcond _ rfl (fun hc1=>?_) (fun hc1=>?_)
 ·simp at hc1
 ·refine wskip ?_
  show AWp _ _ _ _ _
  refine wseq ?_
  refine wseq ?_
  refine wreg fun K hK=>?_
  simp [C.cmp_Compare_int]
  refine hK _ ?_;clear hK K
  show AWp _ _ _ _ _
  refine wcond _ rfl (fun hc3=>?_) (fun hc3=>?_)
  ·simp at hc3
  ·refine wskip ?_
   show AWp _ _ _ _ _
   refine wseq ?_
   refine wseq ?_
   refine wreg fun K hK=>?_
   simp [C.cmp_Compare_int]
   refine hK _ ?_;clear hK K
   show AWp _ _ _ _ _
   refine wcond _ rfl (fun hc4=>?_) (fun hc4=>?_)
   ·have h4:=d_t hc4
    refine wseq ?_
    refine wreg fun K hK=>?_
    simp [C.cmp_Compare_int]
    refine hK _ ?_;clear hK K
    show AWp _ _ _ _ _
    refine wret ?_
    simp [C.cmp_Compare_int,cmpI,h4]
   ·have h4:=d_f hc4
    refine wskip ?_
    show AWp _ _ _ _ _
    refine wseq ?_
    refine wseq ?_
    refine wreg fun K hK=>?_
    simp [C.cmp_Compare_int]
    refine hK _ ?_;clear hK K
    show AWp _ _ _ _ _
    refine wcond _ rfl (fun hc5=>?_) (fun hc5=>?_)
    ·have h5:b < a:=by simpa using hc5
     refine wseq ?_
     refine wreg fun K hK=>?_
     simp [C.cmp_Compare_int]
     refine hK _ ?_;clear hK K
     show AWp _ _ _ _ _
     refine wret ?_
     simp [C.cmp_Compare_int,cmpI,h4,h5]
    ·have h5:¬ b < a:=by simpa using hc5
     refine wskip ?_
     show AWp _ _ _ _ _
     refine wseq ?_
     refine wreg fun K hK=>?_
     simp [C.cmp_Compare_int]
     refine hK _ ?_;clear hK K
     show AWp _ _ _ _ _
     refine wret ?_
     simp [C.cmp_Compare_int,cmpI,h4,h5]
theorem slices_Compare_int_int_c (a b:List Int) (ha:a.length < 4611686018427387904):ACalls Tryz.prog F.slices_Compare_int_int [.d (shI a),.d (shI b)] [] true (fun outs res=>outs=[]/\res=[.one (D.int (cmpL a b))]):=by
 refine ACalls.of_body (C:=C.slices_Compare_int_int) (n:=Tryz.f158.ntmps) tabT folT Tryz.func158 rfl (by kernel_rfl) rfl (Nat.le_of_ble_eq_true rfl) (by decide) (by kernel_rfl) (by kernel_rfl) rfl (by simp) (by simp) ?_
 simp only [Tryz.f158]
 refine wseq ?_
 refine wreg fun K hK=>?_
 simp [C.slices_Compare_int_int]
 refine hK _ ?_;clear hK K
 show AWp _ _ _ _ _
 refine wseq ?_
 refine wseq ?_
 refine wreg fun K hK=>?_
 simp [C.slices_Compare_int_int]
 refine hK _ ?_;clear hK K
 show AWp _ _ _ _ _
 refine wblock ?_
 refine wloop (fun k:Nat=>⟨ofL [(0,.d (shI a)),(1,.d (shI b)),(9,.d (shI a)),(10,.int a.length),(11,FV.int k)],ofRO []⟩) (fun k=>k<=a.length/\k<=b.length/\cmpL a b=cmpL (a.drop k) (b.drop k)) (fun k=>a.length - k) 0 (by simp [C.slices_Compare_int_int]) (by simp) ?_
 intro x1 hx1 R1 hR1
 obtain ⟨hk,hk2,ht⟩:=hx1
 refine wseq ?_
 refine wreg fun K hK=>?_
 simp [C.slices_Compare_int_int]
 refine hK _ ?_;clear hK K
 show AWp _ _ _ _ _
 refine wseq ?_
 refine wcond _ rfl (fun hc1=>?_) (fun hc1=>?_)
 ·have h1:x1 < a.length:=by have:=d_t hc1;omega
  refine wskip ?_
  show AWp _ _ _ _ _
  refine wseq ?_
  refine wblock ?_
  refine wseq ?_
  refine wreg fun K hK=>?_
  simp [C.slices_Compare_int_int,get_ints,h1]
  refine hK _ ?_;clear hK K
  show AWp _ _ _ _ _
  refine wseq ?_
  refine wseq ?_
  refine wreg fun K hK=>?_
  simp [C.slices_Compare_int_int]
  refine hK _ ?_;clear hK K
  show AWp _ _ _ _ _
  refine wcond _ rfl (fun hc2=>?_) (fun hc2=>?_)
  ·have h2:b.length<=x1:=by have:=d_t hc2;omega
   refine wseq ?_
   refine wreg fun K hK=>?_
   simp [C.slices_Compare_int_int]
   refine hK _ ?_;clear hK K
   show AWp _ _ _ _ _
   refine wret ?_
   simp [C.slices_Compare_int_int]
   rw [ht,List.drop_eq_nil_of_le h2,List.drop_eq_getElem_cons h1]
   rfl
  ·have h2:x1 < b.length:=by have:=d_f hc2;omega
   refine wskip ?_
   show AWp _ _ _ _ _
   refine wseq ?_
   refine wreg fun K hK=>?_
   simp [C.slices_Compare_int_int,get_ints,h2]
   refine hK _ ?_;clear hK K
   show AWp _ _ _ _ _
   refine wseq ?_
   refine wregI ([0,1,2] ++ ([3])) rfl fun K hK=>?_
   refine oSg fun L hL=>?_
   simp [C.slices_Compare_int_int]
   refine wcall1 (cmp_Compare_int_c a[x1] b[x1]) (by simp) (by simp) ?_
   simp [C.slices_Compare_int_int]
   refine hL _ ?_;clear hL L
   refine oEn fun L hL=>?_
   simp [C.slices_Compare_int_int]
   refine hL _ ?_;clear hL L
   simp [C.slices_Compare_int_int]
   refine hK _ ?_;clear hK K
   show AWp _ _ _ _ _
   refine wseq ?_
   refine wreg fun K hK=>?_
   simp [C.slices_Compare_int_int]
   refine hK _ ?_;clear hK K
   show AWp _ _ _ _ _
   refine wcond _ rfl (fun hc3=>?_) (fun hc3=>?_)
   ·have hne:¬ cmpI a[x1] b[x1]=0:=by simpa using hc3
    refine wseq ?_
    refine wreg fun K hK=>?_
    simp [C.slices_Compare_int_int]
    refine hK _ ?_;clear hK K
    show AWp _ _ _ _ _
    refine wret ?_
    simp [C.slices_Compare_int_int]
    rw [ht,List.drop_eq_getElem_cons h1,List.drop_eq_getElem_cons h2]
    rcases Int.lt_trichotomy a[x1] b[x1] with q | q | q
    ·simp [cmpL,cmpI,q,Int.ne_of_lt q]
    ·simp [cmpI,q] at hne
    ·simp [cmpL,cmpI,q,Int.ne_of_gt q,Int.not_lt.2 (Int.le_of_lt q)]
   ·have heq:cmpI a[x1] b[x1]=0:=by simpa using hc3
    have hab:a[x1]=b[x1]:=by
     unfold cmpI at heq
     split at heq
     ·simp at heq
     ·split at heq
      ·simp at heq
      ·omega
    refine wskip ?_
    show AWp _ _ _ _ _
    refine wreg fun K hK=>?_
    simp [C.slices_Compare_int_int,wrap_succ (show x1 < 4611686018427387904 by omega)]
    refine hK _ ?_;clear hK K
    simp [C.slices_Compare_int_int]
    refine hR1 (x1+1) ⟨h1,h2,?_⟩ (by omega)
    rw [ht,List.drop_eq_getElem_cons h1,List.drop_eq_getElem_cons h2]
    simp [cmpL,hab]
 ·have h1:x1=a.length:=by have:=d_f hc1;omega
  have hn:a.drop x1=[]:=List.drop_eq_nil_of_le (by omega)
  refine wexit ?_
  show AWp _ _ _ _ _
  refine wseq ?_
  refine wseq ?_
  refine wreg fun K hK=>?_
  simp [C.slices_Compare_int_int]
  refine hK _ ?_;clear hK K
  show AWp _ _ _ _ _
  refine wcond _ rfl (fun hc4=>?_) (fun hc4=>?_)
  ·have h2:a.length < b.length:=by have:=d_t hc4;omega
   refine wseq ?_
   refine wreg fun K hK=>?_
   simp [C.slices_Compare_int_int]
   refine hK _ ?_;clear hK K
   show AWp _ _ _ _ _
   refine wret ?_
   simp [C.slices_Compare_int_int]
   rw [ht,hn,List.drop_eq_getElem_cons (show x1 < b.length by omega)]
   rfl
  ·have h2:¬ a.length < b.length:=by have:=d_f hc4;omega
   refine wskip ?_
   show AWp _ _ _ _ _
   refine wseq ?_
   refine wreg fun K hK=>?_
   simp [C.slices_Compare_int_int]
   refine hK _ ?_;clear hK K
   show AWp _ _ _ _ _
   refine wret ?_
   simp [C.slices_Compare_int_int]
   rw [ht,hn,List.drop_eq_nil_of_le (show b.length<=x1 by omega)]
   rfl
theorem slices_IndexFunc_int_int_c (xs:List Int) (g:Nat) (p:Int->Bool) (hx:xs.length < 4611686018427387904) (hM:aget [] MM g=[]) (hp:∀ x∈xs,ACalls Tryz.prog g [.int x] [] true (fun outs res=>outs=[]/\res=[.one (D.bool (p x))])):ACalls Tryz.prog F.slices_IndexFunc_int_int [.d (shI xs),.d (.fn g [])] [] true (fun outs res=>outs=[]/\∃ r:Int,res=[.one (D.int r)]/\decide (0<=r)=xs.any p):=by
 refine ACalls.of_body (C:=C.slices_IndexFunc_int_int) (n:=Tryz.f201.ntmps) tabT folT Tryz.func201 rfl (by kernel_rfl) rfl (Nat.le_of_ble_eq_true rfl) (by decide) (by kernel_rfl) (by kernel_rfl) rfl (by simp) (by simp) ?_
 simp only [Tryz.f201]
 refine wseq ?_
 refine wreg fun K hK=>?_
 simp [C.slices_IndexFunc_int_int]
 refine hK _ ?_;clear hK K
 show AWp _ _ _ _ _
 refine wseq ?_
 refine wseq ?_
 refine wreg fun K hK=>?_
 simp [C.slices_IndexFunc_int_int]
 refine hK _ ?_;clear hK K
 show AWp _ _ _ _ _
 refine wblock ?_
 refine wloop (fun k:Nat=>⟨ofL [(0,.d (shI xs)),(1,.d (.fn g [])),(7,.int xs.length),(8,FV.int k)],ofRO []⟩) (fun k=>k<=xs.length/\(xs.take k).any p=false) (fun k=>xs.length - k) 0 (by simp [C.slices_IndexFunc_int_int]) (by simp) ?_
 intro x1 hx1 R1 hR1
 obtain ⟨hk,ht⟩:=hx1
 refine wseq ?_
 refine wreg fun K hK=>?_
 simp [C.slices_IndexFunc_int_int]
 refine hK _ ?_;clear hK K
 show AWp _ _ _ _ _
 refine wseq ?_
 refine wcond _ rfl (fun hc1=>?_) (fun hc1=>?_)
 ·have h1:x1 < xs.length:=by have:=d_t hc1;omega
  refine wskip ?_
  show AWp _ _ _ _ _
  refine wseq ?_
  refine wblock ?_
  refine wseq ?_
  refine wreg fun K hK=>?_
  simp [C.slices_IndexFunc_int_int]
  refine hK _ ?_;clear hK K
  show AWp _ _ _ _ _
  refine wseq ?_
  refine wregI ([0,1,2,3,4,5] ++ ([])) rfl fun K hK=>?_
  refine oSg fun L hL=>?_
  simp [C.slices_IndexFunc_int_int,get_ints,h1,hM]
  refine wcall1 (hp xs[x1] (List.getElem_mem h1)) (by simp) (by simp) ?_
  simp [C.slices_IndexFunc_int_int,get_ints,h1,hM]
  refine hL _ ?_;clear hL L
  refine oEn fun L hL=>?_
  simp only [AOpsI]
  refine hL _ ?_;clear hL L
  simp [C.slices_IndexFunc_int_int,get_ints,h1,hM]
  refine hK _ ?_;clear hK K
  show AWp _ _ _ _ _
  refine wcond _ rfl (fun hc2=>?_) (fun hc2=>?_)
  ·have hpx:p xs[x1]=true:=by simpa using hc2
   refine wseq ?_
   refine wreg fun K hK=>?_
   simp [C.slices_IndexFunc_int_int]
   refine hK _ ?_;clear hK K
   show AWp _ _ _ _ _
   refine wret ?_
   simp [C.slices_IndexFunc_int_int]
   exact ⟨xs[x1],List.getElem_mem h1,hpx⟩
  ·have hpx:p xs[x1]=false:=by simpa using hc2
   refine wskip ?_
   show AWp _ _ _ _ _
   refine wreg fun K hK=>?_
   simp [C.slices_IndexFunc_int_int,wrap_succ (show x1 < 4611686018427387904 by omega)]
   refine hK _ ?_;clear hK K
   simp [C.slices_IndexFunc_int_int]
   refine hR1 (x1+1) ⟨h1,?_⟩ (by omega)
   rw [List.take_succ_eq_append_getElem h1,List.any_append,ht]
   simp [hpx]
 ·have h1:x1=xs.length:=by have:=d_f hc1;omega
  have ht2:xs.any p=false:=by rw [h1,List.take_length] at ht;exact ht
  refine wexit ?_
  show AWp _ _ _ _ _
  refine wseq ?_
  refine wreg fun K hK=>?_
  simp [C.slices_IndexFunc_int_int]
  refine hK _ ?_;clear hK K
  show AWp _ _ _ _ _
  refine wret ?_
  simp [C.slices_IndexFunc_int_int]
  intro x hx
  have:=List.any_eq_false.1 ht2 x hx
  simpa using this
theorem slices_ContainsFunc_int_int_c (xs:List Int) (g:Nat) (p:Int->Bool) (hx:xs.length < 4611686018427387904) (hM:aget [] MM g=[]) (hp:∀ x∈xs,ACalls Tryz.prog g [.int x] [] true (fun outs res=>outs=[]/\res=[.one (D.bool (p x))])):ACalls Tryz.prog F.slices_ContainsFunc_int_int [.d (shI xs),.d (.fn g [])] [] true (fun outs res=>outs=[]/\res=[.one (D.bool (xs.any p))]):=by
 refine ACalls.of_body (C:=C.slices_ContainsFunc_int_int) (n:=Tryz.f122.ntmps) tabT folT Tryz.func122 rfl (by kernel_rfl) rfl (Nat.le_of_ble_eq_true rfl) (by decide) (by kernel_rfl) (by kernel_rfl) rfl (by simp) (by simp) ?_
 simp only [Tryz.f122]
 refine wseq ?_
 refine wreg fun K hK=>?_
 simp [C.slices_ContainsFunc_int_int]
 refine hK _ ?_;clear hK K
 show AWp _ _ _ _ _
 refine wseq ?_
 refine wregI ([0,1,2] ++ ([3,4])) rfl fun K hK=>?_
 refine oSg fun L hL=>?_
 simp [C.slices_ContainsFunc_int_int]
 refine wcall (slices_IndexFunc_int_int_c xs g p hx hM hp) (by simp) (by simp) (by simp) ?_
 rintro outs res ⟨rfl,r,rfl,hr⟩
 simp [C.slices_ContainsFunc_int_int]
 refine hL _ ?_;clear hL L
 refine oEn fun L hL=>?_
 simp [C.slices_ContainsFunc_int_int]
 refine hL _ ?_;clear hL L
 simp [C.slices_ContainsFunc_int_int]
 refine hK _ ?_;clear hK K
 show AWp _ _ _ _ _
 refine wret ?_
 simp [C.slices_ContainsFunc_int_int]
 exact hr
theorem impl_expOk_1_c (x:Int):ACalls Tryz.prog F.impl_expOk_1 [.int x] [] true (fun outs res=>outs=[]/\res=[.one (D.bool (!decide (-20<=x/\x<=20)))]):=by
 refine ACalls.of_body (C:=C.impl_expOk_1) (n:=Tryz.f207.ntmps) tabT folT Tryz.func207 rfl (by kernel_rfl) rfl (Nat.le_of_ble_eq_true rfl) (by decide) (by kernel_rfl) (by kernel_rfl) rfl (by simp) (by simp) ?_
 simp only [Tryz.f207]
 refine wseq ?_
 refine wreg fun K hK=>?_
 simp [C.impl_expOk_1]
 refine hK _ ?_;clear hK K
 show AWp _ _ _ _ _
 refine wseq ?_
 refine wregI ([0,1] ++ ([2,3])) rfl fun K hK=>?_
 refine oSg fun L hL=>?_
 simp [C.impl_expOk_1]
 refine wcall1 (impl_within_c x (-20) 20) (by simp) (by simp) ?_
 simp [C.impl_expOk_1]
 refine hL _ ?_;clear hL L
 refine oEn fun L hL=>?_
 simp [C.impl_expOk_1]
 refine hL _ ?_;clear hL L
 simp [C.impl_expOk_1]
 refine hK _ ?_;clear hK K
 show AWp _ _ _ _ _
 refine wret ?_
 simp [C.impl_expOk_1]
theorem impl_expOk_c (e:List Int) (v:Int) (hx:e.length < 4611686018427387904):ACalls Tryz.prog F.impl_expOk [.d (shI e),.int v] [] true (fun outs res=>outs=[]/\res=[.one (D.bool (okE e v))]):=by
 refine ACalls.of_body (C:=C.impl_expOk) (n:=Tryz.f140.ntmps) tabT folT Tryz.func140 rfl (by kernel_rfl) rfl (Nat.le_of_ble_eq_true rfl) (by decide) (by kernel_rfl) (by kernel_rfl) rfl (by simp) (by simp) ?_
 simp only [Tryz.f140]
 refine wseq ?_
 refine wreg fun K hK=>?_
 simp [C.impl_expOk]
 refine hK _ ?_;clear hK K
 show AWp _ _ _ _ _
 refine wseq ?_
 refine wregI ([0,1,2,3,4,5,6] ++ ([7,8,9])) rfl fun K hK=>?_
 have hJ:K ⟨ofL [(4,.bool (okE e v))],ofRO []⟩:=by
  refine hK _ ?_;clear hK K
  show AWp _ _ _ _ _
  refine wret ?_
  simp [C.impl_expOk]
 clear hK
 by_cases ha:(e.length:Int)=v
 ·refine oSg fun L hL=>?_
  simp [C.impl_expOk,ha]
  refine wcall1 (slices_ContainsFunc_int_int_c e _ (fun x=>!decide (-20<=x/\x<=20)) hx rfl (fun x _=>impl_expOk_1_c x)) (by simp) (by simp) ?_
  simp [C.impl_expOk,ha]
  refine hL _ ?_;clear hL L
  refine oEn fun L hL=>?_
  simp [C.impl_expOk,ha]
  refine hL _ ?_;clear hL L
  simp [C.impl_expOk,ha]
  refine cast (congrArg K ?_) hJ
  simp [okE,ha]
 ·refine oSg fun L hL=>?_
  simp [C.impl_expOk,ha]
  refine hL _ ?_;clear hL L
  refine oEn fun L hL=>?_
  simp [C.impl_expOk,ha]
  refine hL _ ?_;clear hL L
  simp [C.impl_expOk,ha]
  refine cast (congrArg K ?_) hJ
  simp [okE,ha]
theorem impl_coefOk_c (c:Int):ACalls Tryz.prog F.impl_coefOk [.int c] [] true (fun outs res=>outs=[]/\res=[.one (D.bool (decide (c≠0/\-1000000<=c/\c<=1000000)))]):=by
 refine ACalls.of_body (C:=C.impl_coefOk) (n:=Tryz.f157.ntmps) tabT folT Tryz.func157 rfl (by kernel_rfl) rfl (Nat.le_of_ble_eq_true rfl) (by decide) (by kernel_rfl) (by kernel_rfl) rfl (by simp) (by simp) ?_
 simp only [Tryz.f157]
 refine wseq ?_
 refine wreg fun K hK=>?_
 simp [C.impl_coefOk]
 refine hK _ ?_;clear hK K
 show AWp _ _ _ _ _
 refine wseq ?_
 refine wregI ([0,1,2,3,4] ++ ([5,6])) rfl fun K hK=>?_
 have hJ:K ⟨ofL [(2,.bool (decide (c≠0/\-1000000<=c/\c<=1000000)))],ofRO []⟩:=by
  refine hK _ ?_;clear hK K
  show AWp _ _ _ _ _
  refine wret ?_
  simp [C.impl_coefOk]
 clear hK
 by_cases ha:c=0
 ·refine oSg fun L hL=>?_
  simp [C.impl_coefOk,ha]
  refine hL _ ?_;clear hL L
  refine oEn fun L hL=>?_
  simp [C.impl_coefOk,ha]
  refine hL _ ?_;clear hL L
  simp [C.impl_coefOk,ha]
  refine cast (congrArg K ?_) hJ
  simp [ha]
 ·refine oSg fun L hL=>?_
  simp [C.impl_coefOk,ha]
  refine wcall1 (impl_within_c c (-1000000) 1000000) (by simp) (by simp) ?_
  simp [C.impl_coefOk,ha]
  refine hL _ ?_;clear hL L
  refine oEn fun L hL=>?_
  simp [C.impl_coefOk,ha]
  refine hL _ ?_;clear hL L
  simp [C.impl_coefOk,ha]
  refine cast (congrArg K ?_) hJ
  simp [ha]
theorem impl_LaurentOk_c (f:Lau) (hx:f.ts.length < 4611686018427387904) (hxe:∀ t∈f.ts,t.e.length < 4611686018427387904):ACalls Tryz.prog F.impl_LaurentOk [aF f] [] true (fun outs res=>outs=[]/\res=[.one (D.bool (decide (Right f)))]):=by
 refine ACalls.of_body (C:=C.impl_LaurentOk) (n:=Tryz.f84.ntmps) tabT folT Tryz.func84 rfl (by kernel_rfl) rfl (Nat.le_of_ble_eq_true rfl) (by decide) (by kernel_rfl) (by kernel_rfl) rfl (by simp) (by simp) ?_
 simp only [Tryz.f84]
 refine wseq ?_
 refine wreg fun K hK=>?_
 simp [C.impl_LaurentOk,fS,tS]
 refine hK _ ?_;clear hK K
 show AWp _ _ _ _ _
 refine wseq ?_
 refine wseq ?_
 refine wregI ([0,1,2] ++ ([3,4,5,6,7,8,9])) rfl fun K hK=>?_
 have hJ:K ⟨ofL [(1,.pt (1,0) [] 0),(14,.bool (decide (¬ (1<=f.v/\f.v<=8)\/600 < (f.ts.length:Int))))],ofRO [((1,0),some (.bx (fS f)))]⟩:=by
  refine hK _ ?_;clear hK K
  show AWp _ _ _ _ _
  refine wcond _ rfl (fun hc1=>?_) (fun hc1=>?_)
  ·have hh:=d_t hc1
   refine wseq ?_
   refine wreg fun K hK=>?_
   simp [C.impl_LaurentOk,fS,tS]
   refine hK _ ?_;clear hK K
   show AWp _ _ _ _ _
   refine wret ?_
   simp [C.impl_LaurentOk,fS,tS]
   intro hr;have:=hr.1;have:=hr.2.1;omega
  ·have hh0:=d_f hc1
   have hh:(1<=f.v/\f.v<=8)/\f.ts.length<=600:=by omega
   refine wskip ?_
   show AWp _ _ _ _ _
   refine wseq ?_
   refine wseq ?_
   refine wreg fun K hK=>?_
   simp [C.impl_LaurentOk,fS,tS]
   refine hK _ ?_;clear hK K
   show AWp _ _ _ _ _
   refine wblock ?_
   refine wloop (fun k:Nat=>⟨ofL [(1,.pt (1,0) [] 0),(16,.d (.sh 2 f.ts.length (rows tS f.ts))),(17,.int f.ts.length),(18,.int k)],ofRO [((1,0),some (.bx (fS f)))]⟩) (fun k=>k<=f.ts.length/\(∀ t∈f.ts.take k,Good f.v t)/\DescT (f.ts.take k)) (fun k=>f.ts.length - k) 0 (by simp [C.impl_LaurentOk,fS]) (by simp [DescT]) ?_
   intro x1 hx1 R1 hR1
   obtain ⟨hk,hgood,hdesc⟩:=hx1
   refine wseq ?_
   refine wreg fun K hK=>?_
   simp [C.impl_LaurentOk,fS,tS]
   refine hK _ ?_;clear hK K
   show AWp _ _ _ _ _
   refine wseq ?_
   refine wcond _ rfl (fun hc2=>?_) (fun hc2=>?_)
   ·have h1:x1 < f.ts.length:=by have:=d_t hc2;omega
    refine wskip ?_
    show AWp _ _ _ _ _
    refine wseq ?_
    refine wblock ?_
    refine wseq ?_
    refine wreg fun K hK=>?_
    simp [C.impl_LaurentOk,fS,tS,h1,tS_0 h1,tS_1 h1]
    refine hK _ ?_;clear hK K
    show AWp _ _ _ _ _
    refine wseq ?_
    refine wdrawI [(true,0),(true,1),(true,2),(true,3),(false,4),(true,5),(true,6),(true,7),(true,8),(false,9),(true,10),(true,11),(true,12),(true,13),(true,14),(true,15),(true,16),(true,17),(true,18),(true,19),(true,20),(true,21),(true,22),(true,23),(true,24),(false,25),(true,26),(true,27),(true,28)] ⟨by kernel_rfl,by kernel_rfl⟩ ([0,1,2,3,4] ++ ([5,6,7,8,9] ++ ([10,11,12,13,14,15,16,17,18,19,20,21,22,23,24,25] ++ ([26,27,28])))) rfl fun K hK=>?_
    have hJ:K ⟨ofL [(1,.pt (1,0) [] 0),(16,.d (.sh 2 f.ts.length (rows tS f.ts))),(17,.int f.ts.length),(18,.int x1),(51,.bool (!decide (okE f.ts[x1].e f.v=true/\(f.ts[x1].c≠0/\-1000000<=f.ts[x1].c/\f.ts[x1].c<=1000000)/\(x1=0\/lexlt f.ts[x1].e f.ts[x1 - 1].e=true))))],ofRO [((1,0),some (.bx (fS f)))]⟩:=by
     refine hK _ ?_;clear hK K
     show AWp _ _ _ _ _
     refine wcond _ rfl (fun hc3=>?_) (fun hc3=>?_)
     ·have hb:=nd_t hc3
      refine wseq ?_
      refine wreg fun K hK=>?_
      simp [C.impl_LaurentOk,fS,tS]
      refine hK _ ?_;clear hK K
      show AWp _ _ _ _ _
      refine wret ?_
      simp [C.impl_LaurentOk,fS,tS]
      intro hr
      have hg:=hr.2.2.1 _ (List.getElem_mem h1)
      exact hb ⟨okE_iff.2 ⟨hg.1,hg.2.2.2⟩,⟨hg.2.1,hg.2.2.1⟩,descT_next h1 hr.2.2.2⟩
     ·have hb:=nd_f hc3
      refine wskip ?_
      show AWp _ _ _ _ _
      refine wreg fun K hK=>?_
      simp [C.impl_LaurentOk,fS,tS,wrap_succ (show x1 < 4611686018427387904 by omega)]
      refine hK _ ?_;clear hK K
      simp [C.impl_LaurentOk,fS,tS]
      refine hR1 (x1+1) ⟨h1,?_,descT_step h1 hdesc hb.2.2⟩ (by omega)
      rw [List.take_succ_eq_append_getElem h1]
      intro t ht
      rcases List.mem_append.1 ht with ht | ht
      ·exact hgood t ht
      ·simp only [List.mem_singleton] at ht
       rw [ht]
       have ho:=okE_iff.1 hb.1
       exact ⟨ho.1,hb.2.1.1,hb.2.1.2,ho.2⟩
    clear hK
    by_cases ha:okE f.ts[x1].e f.v=true
    ·by_cases hb:f.ts[x1].c≠0/\-1000000<=f.ts[x1].c/\f.ts[x1].c<=1000000
     ·by_cases hd:0 < x1
      ·obtain ⟨m,rfl⟩:∃ m,x1=m+1:=⟨x1 - 1,by omega⟩
       have hm:m < f.ts.length:=by omega
       refine oSg fun L hL=>?_
       simp [C.impl_LaurentOk,fS,tS,hm,tS_0 hm,wrap_nat (show m < 4611686018427387904 by omega),ha,hb,hd]
       refine wcall1 (impl_expOk_c f.ts[m+1].e f.v (hxe _ (List.getElem_mem h1))) (by simp) (by simp) ?_
       simp [C.impl_LaurentOk,fS,tS,hm,tS_0 hm,wrap_nat (show m < 4611686018427387904 by omega),ha,hb,hd]
       refine hL _ ?_;clear hL L
       refine oSg fun L hL=>?_
       simp [C.impl_LaurentOk,fS,tS,hm,tS_0 hm,wrap_nat (show m < 4611686018427387904 by omega),ha,hb,hd]
       refine wcall1 (impl_coefOk_c f.ts[m+1].c) (by simp) (by simp) ?_
       simp [C.impl_LaurentOk,fS,tS,hm,tS_0 hm,wrap_nat (show m < 4611686018427387904 by omega),ha,hb,hd]
       refine hL _ ?_;clear hL L
       refine oSg fun L hL=>?_
       simp [C.impl_LaurentOk,fS,tS,hm,tS_0 hm,wrap_nat (show m < 4611686018427387904 by omega),ha,hb,hd]
       refine wcall1 (slices_Compare_int_int_c f.ts[m].e f.ts[m+1].e (hxe _ (List.getElem_mem hm))) (by simp) (by simp) ?_
       simp [C.impl_LaurentOk,fS,tS,hm,tS_0 hm,wrap_nat (show m < 4611686018427387904 by omega),ha,hb,hd]
       refine hL _ ?_;clear hL L
       refine oEn fun L hL=>?_
       simp [C.impl_LaurentOk,fS,tS,hm,tS_0 hm,wrap_nat (show m < 4611686018427387904 by omega),ha,hb,hd]
       refine hL _ ?_;clear hL L
       simp [C.impl_LaurentOk,fS,tS,hm,tS_0 hm,wrap_nat (show m < 4611686018427387904 by omega),ha,hb,hd]
       refine cast (congrArg K ?_) hJ
       simp [cmpL_pos,fS,tS,ha,hb,hd]
      ·obtain rfl:x1=0:=by omega
       refine oSg fun L hL=>?_
       simp [C.impl_LaurentOk,fS,tS,ha,hb,hd]
       refine wcall1 (impl_expOk_c f.ts[0].e f.v (hxe _ (List.getElem_mem h1))) (by simp) (by simp) ?_
       simp [C.impl_LaurentOk,fS,tS,ha,hb,hd]
       refine hL _ ?_;clear hL L
       refine oSg fun L hL=>?_
       simp [C.impl_LaurentOk,fS,tS,ha,hb,hd]
       refine wcall1 (impl_coefOk_c f.ts[0].c) (by simp) (by simp) ?_
       simp [C.impl_LaurentOk,fS,tS,ha,hb,hd]
       refine hL _ ?_;clear hL L
       refine oSg fun L hL=>?_
       simp [C.impl_LaurentOk,fS,tS,ha,hb,hd]
       refine hL _ ?_;clear hL L
       refine oEn fun L hL=>?_
       simp [C.impl_LaurentOk,fS,tS,ha,hb,hd]
       refine hL _ ?_;clear hL L
       simp [C.impl_LaurentOk,fS,tS,ha,hb,hd]
       refine cast (congrArg K ?_) hJ
       simp [fS,tS,ha,hb,hd]
     ·refine oSg fun L hL=>?_
      simp [C.impl_LaurentOk,fS,tS,ha,hb]
      refine wcall1 (impl_expOk_c f.ts[x1].e f.v (hxe _ (List.getElem_mem h1))) (by simp) (by simp) ?_
      simp [C.impl_LaurentOk,fS,tS,ha,hb]
      refine hL _ ?_;clear hL L
      refine oSg fun L hL=>?_
      simp [C.impl_LaurentOk,fS,tS,ha,hb]
      refine wcall1 (impl_coefOk_c f.ts[x1].c) (by simp) (by simp) ?_
      simp [C.impl_LaurentOk,fS,tS,ha,hb]
      refine hL _ ?_;clear hL L
      refine oSg fun L hL=>?_
      simp [C.impl_LaurentOk,fS,tS,ha,hb]
      refine hL _ ?_;clear hL L
      refine oEn fun L hL=>?_
      simp [C.impl_LaurentOk,fS,tS,ha,hb]
      refine hL _ ?_;clear hL L
      simp [C.impl_LaurentOk,fS,tS,ha,hb]
      refine cast (congrArg K ?_) hJ
      simp [fS,tS,ha,hb]
    ·refine oSg fun L hL=>?_
     simp [C.impl_LaurentOk,fS,tS,ha]
     refine wcall1 (impl_expOk_c f.ts[x1].e f.v (hxe _ (List.getElem_mem h1))) (by simp) (by simp) ?_
     simp [C.impl_LaurentOk,fS,tS,ha]
     refine hL _ ?_;clear hL L
     refine oSg fun L hL=>?_
     simp [C.impl_LaurentOk,fS,tS,ha]
     refine hL _ ?_;clear hL L
     refine oSg fun L hL=>?_
     simp [C.impl_LaurentOk,fS,tS,ha]
     refine hL _ ?_;clear hL L
     refine oEn fun L hL=>?_
     simp [C.impl_LaurentOk,fS,tS,ha]
     refine hL _ ?_;clear hL L
     simp [C.impl_LaurentOk,fS,tS,ha]
     refine cast (congrArg K ?_) hJ
     simp [fS,tS,ha]
   ·have h2:x1=f.ts.length:=by have:=d_f hc2;omega
    refine wexit ?_
    show AWp _ _ _ _ _
    refine wseq ?_
    refine wreg fun K hK=>?_
    simp [C.impl_LaurentOk,fS,tS]
    refine hK _ ?_;clear hK K
    show AWp _ _ _ _ _
    refine wret ?_
    simp [C.impl_LaurentOk,fS,tS]
    rw [h2,List.take_length] at hgood hdesc
    exact ⟨hh.1,hh.2,hgood,hdesc⟩
 clear hK
 by_cases ha:1<=f.v/\f.v<=8
 ·refine oSg fun L hL=>?_
  simp [C.impl_LaurentOk,fS,tS,ha]
  refine wcall1 (impl_within_c f.v 1 8) (by simp) (by simp) ?_
  simp [C.impl_LaurentOk,fS,tS,ha]
  refine hL _ ?_;clear hL L
  refine oEn fun L hL=>?_
  simp [C.impl_LaurentOk,fS,tS,ha]
  refine hL _ ?_;clear hL L
  simp [C.impl_LaurentOk,fS,tS,ha]
  refine cast (congrArg K ?_) hJ
  simp [fS,tS,ha]
 ·refine oSg fun L hL=>?_
  simp [C.impl_LaurentOk,fS,tS,ha]
  refine wcall1 (impl_within_c f.v 1 8) (by simp) (by simp) ?_
  simp [C.impl_LaurentOk,fS,tS,ha]
  refine hL _ ?_;clear hL L
  refine oEn fun L hL=>?_
  simp [C.impl_LaurentOk,fS,tS,ha]
  refine hL _ ?_;clear hL L
  simp [C.impl_LaurentOk,fS,tS,ha]
  refine cast (congrArg K ?_) hJ
  simp [fS,tS,ha]
theorem impl_bothOk_c (f g:Lau) (hx:f.ts.length < 4611686018427387904) (hxe:∀ t∈f.ts,t.e.length < 4611686018427387904) (hy:g.ts.length < 4611686018427387904) (hye:∀ t∈g.ts,t.e.length < 4611686018427387904):ACalls Tryz.prog F.impl_bothOk [aF f,aF g] [] true (fun outs res=>outs=[]/\res=[.one (D.bool (decide (Right f/\Right g/\f.v=g.v)))]):=by
 refine ACalls.of_body (C:=C.impl_bothOk) (n:=Tryz.f159.ntmps) tabT folT Tryz.func159 rfl (by kernel_rfl) rfl (Nat.le_of_ble_eq_true rfl) (by decide) (by kernel_rfl) (by kernel_rfl) rfl (by simp) (by simp) ?_
 simp only [Tryz.f159]
 refine wseq ?_
 refine wreg fun K hK=>?_
 simp [C.impl_bothOk,fS]
 refine hK _ ?_;clear hK K
 show AWp _ _ _ _ _
 refine wseq ?_
 refine wregI ([0,1] ++ ([2,3,4] ++ ([5,6,7,8,9,10,11,12,13]))) rfl fun K hK=>?_
 have hJ:K ⟨ofL [(4,.bool (decide (Right f/\Right g/\f.v=g.v)))],ofRO []⟩:=by
  refine hK _ ?_;clear hK K
  show AWp _ _ _ _ _
  refine wret ?_
  simp [C.impl_bothOk,fS]
 clear hK
 by_cases ha:Right f
 ·by_cases hb:Right g
  ·refine oSg fun L hL=>?_
   simp [C.impl_bothOk,fS,ha,hb]
   refine wcall1 (impl_LaurentOk_c f hx hxe) (by simp) (by simp) ?_
   simp [C.impl_bothOk,fS,ha,hb]
   refine hL _ ?_;clear hL L
   refine oSg fun L hL=>?_
   simp [C.impl_bothOk,fS,ha,hb]
   refine wcall1 (impl_LaurentOk_c g hy hye) (by simp) (by simp) ?_
   simp [C.impl_bothOk,fS,ha,hb]
   refine hL _ ?_;clear hL L
   refine oEn fun L hL=>?_
   simp [C.impl_bothOk,fS,ha,hb]
   refine hL _ ?_;clear hL L
   simp [C.impl_bothOk,fS,ha,hb]
   refine cast (congrArg K ?_) hJ
   simp [ibeq,fS,ha,hb]
  ·refine oSg fun L hL=>?_
   simp [C.impl_bothOk,fS,ha,hb]
   refine wcall1 (impl_LaurentOk_c f hx hxe) (by simp) (by simp) ?_
   simp [C.impl_bothOk,fS,ha,hb]
   refine hL _ ?_;clear hL L
   refine oSg fun L hL=>?_
   simp [C.impl_bothOk,fS,ha,hb]
   refine wcall1 (impl_LaurentOk_c g hy hye) (by simp) (by simp) ?_
   simp [C.impl_bothOk,fS,ha,hb]
   refine hL _ ?_;clear hL L
   refine oEn fun L hL=>?_
   simp [C.impl_bothOk,fS,ha,hb]
   refine hL _ ?_;clear hL L
   simp [C.impl_bothOk,fS,ha,hb]
   refine cast (congrArg K ?_) hJ
   simp [ibeq,fS,ha,hb]
 ·refine oSg fun L hL=>?_
  simp [C.impl_bothOk,fS,ha]
  refine wcall1 (impl_LaurentOk_c f hx hxe) (by simp) (by simp) ?_
  simp [C.impl_bothOk,fS,ha]
  refine hL _ ?_;clear hL L
  refine oSg fun L hL=>?_
  simp [C.impl_bothOk,fS,ha]
  refine hL _ ?_;clear hL L
  refine oEn fun L hL=>?_
  simp [C.impl_bothOk,fS,ha]
  refine hL _ ?_;clear hL L
  simp [C.impl_bothOk,fS,ha]
  refine cast (congrArg K ?_) hJ
  simp [ibeq,fS,ha]
end Go.Proofs.YtbhkonnakkhibaaGreat.Ab
