/- Steps for proofs of single functions. Rows of cells: lists of structs as trees. What the simplifier may unfold where a function is evaluated. A promise made weaker: empty slices among results and arguments. Matrices, sums, seeds and sessions as trees; numbers written into them one behind the other. From a call's promise to a row: what was there is as it was. Arguments that are read as data: numbers, texts, slices and structs as trees over old blocks. Arguments of this program's laws, read as trees. Printed by wip/tools/gen.py: the numbers of functions and types, and what lives where. Small functions on numbers and lists of numbers: what they answer. Sums: their size, copies, what is equal, marks. Sums as lists of keys with numbers: the descending list without zeros is told by the sum that belongs to each key. Exponents as one number: the code is one to one, keeps the order, and goes with sums. Sums that are right; their coded terms; what products and sums come to. The reference's sums: which are right; codes and their decoding. The program's sums: what is right, keys, comparisons. Seeds and sessions: what is equal, marks. The first seed and the first session, on both sides. What a matrix of small entries is: its shape and its factors, at the first session's matrix. Factors of a matrix by fractions: what holds along the search. Factors of a matrix by pieces: what holds along the search. Matrices that are right, their least factors, mutation. The factors of a matrix, by the program. The reference's coded terms: opened, multiplied, shut. Merging runs sorts; terms of one key that lie together are added. The reference's gathering: terms in order, those of one key added. The reference's products of coded terms. The reference's products and powers of sums. The reference's powers of sums. Keys of the program's sums, and their building. The program's powers of sums, over its products. A map of padded exponents as a sum. The program's products of sums, over the end of a building. Powers of sums: the program's are the reference's, fresh at each call. Least exponents, denominators, numerators. slices.SortFunc in the calculus: from a contract over worlds to a contract over trees. Matrices that are right, mutation of a matrix, by the program. Sizes, pieces and factors of a matrix, by the reference. No condition. -/
import Derived.Test.YtfcgcgmleogamaaKFmb
import Derived.WalkKit
import Derived.ProofKit
import Derived.OpenShut
import Derived.Test.YtfcgcgmleogamaaProg
import Derived.Test.YtfcgcgmleogamaaKFma
import Derived.Shelf.SlSortCmp.InsertionK
import Derived.Shelf.SlSortFuncK.ComposeK
set_option linter.unusedVariables false
set_option linter.unusedSimpArgs false
set_option linter.unusedSectionVars false
namespace Go.Proofs.Ytfcgcgmleogamaa.Ab
open Go
def ints (xs:List Int):List D:=xs.map D.int
section
variable {C:Ctx} {i:Nat} {Q:AEx->St->Prop} {σ:St}
theorem wseq {a b:Code} (h:AWp C a i (AEx.seq (AWp C b i Q) Q) σ):AWp C (.seq a b) i Q σ:=h
theorem wskip (h:Q .normal σ):AWp C .skip i Q σ:=h
theorem wexit {id:Nat} (h:Q (.exit id) σ):AWp C (.exit id) i Q σ:=h
theorem wret (h:Q .ret σ):AWp C .ret i Q σ:=h
theorem wblock {id:Nat} {c:Code} (h:AWp C c id (AEx.block id Q) σ):AWp C (.block id c) i Q σ:=h
theorem wreg {id:Nat} {ops:Array Oper} (h:∀ K:St->Prop,(∀ σ',Q .normal σ'->K σ')->AOps C ops ops.toList σ (fun σ'=>K (norm C (aget [] C.kp id) σ'))):AWp C (.region id ops false) i Q σ:=h _ (fun _ h=>h)
theorem wdraw {id:Nat} {ops:Array Oper} (p:Plan) (hp:p.ok C ops) (h:∀ K:St->Prop,(∀ σ',Q .normal σ'->K σ')->ARun C ops p σ (fun σ'=>K (norm C (aget [] C.kp id) σ'))):AWp C (.region id ops true) i Q σ:=
 ⟨p,hp,h _ (fun _ h=>h)⟩
theorem wcond {c:Operand} {a b:Code} (t:Bool) (hc:opv σ c = .d (.v (.bool t))) (h1:t=true->AWp C a i Q σ) (h2:t=false->AWp C b i Q σ):AWp C (.cond c a b) i Q σ:=⟨t,hc,h1,h2⟩
theorem wloopWW {c:Code} {α:Type} (S:α->St) (J:α->Prop) (μ:α->Nat) (x0:α) (l0:List Wk) (h0:wkAll l0 (norm C (aget [] C.lp i) σ)=some (S x0)) (hJ:J x0)
  (h:∀ x,J x->∀ K:St->Prop,(∀ y,J y->μ y < μ x->K (S y))->AWp C c i (AEx.seq (fun σ'=>∃ l σ1,wkAll l (norm C (aget [] C.lp i) σ')=some σ1/\K σ1) Q) (S x)):AWp C (.loop c) i Q σ:=by
 have hex:∀ τ:St,(∃ x,J x/\τ=S x)->∃ k,(∃ x,J x/\τ=S x/\μ x=k):=fun τ ⟨x,h1,h2⟩=>⟨_,x,h1,h2,rfl⟩
 classical
 let μ':St->Nat:=fun τ=>if h:∃ k,(∃ x,J x/\τ=S x/\μ x=k) then Classical.choose (least h) else 0
 refine ⟨fun τ=>∃ x,J x/\τ=S x,μ',⟨l0,S x0,h0,x0,hJ,rfl⟩,fun τ hτ=>?_⟩
 have e1:μ' τ=Classical.choose (least (hex τ hτ)):=dif_pos (hex τ hτ)
 obtain ⟨⟨x,h1,h2,h3⟩,_⟩:=Classical.choose_spec (least (hex τ hτ))
 have:=h x h1 (fun ξ=>(∃ x,J x/\ξ=S x)/\μ' ξ < μ' τ) fun y hy hlt=>by
  have hy':∃ x,J x/\S y=S x:=⟨y,hy,rfl⟩
  refine ⟨hy',?_⟩
  have e2:μ' (S y)=Classical.choose (least (hex (S y) hy')):=dif_pos (hex (S y) hy')
  rw [e1,e2]
  have:=(Classical.choose_spec (least (hex (S y) hy'))).2 (μ y) ⟨y,hy,rfl,rfl⟩
  omega
 rw [h2]
 rw [h2] at this
 exact this
theorem wloopB {c:Code} {α:Type} (S:α->St) (J:α->Prop) (μ:α->Nat) (x0:α) (l0:List Wk) (h0:wkAll l0 (norm C (aget [] C.lp i) σ)=some (S x0)) (hJ:J x0)
  (h:∀ x,J x->∀ K:St->Prop,(∀ l τ y,wkAll l τ=some (S y)->J y->μ y < μ x->K τ)->AWp C c i (AEx.seq (fun σ'=>K (norm C (aget [] C.lp i) σ')) Q) (S x)):AWp C (.loop c) i Q σ:=
 wloopWW S J μ x0 l0 h0 hJ fun x hx K hK=>h x hx (fun τ=>∃ l σ1,wkAll l τ=some σ1/\K σ1) fun l τ y hl hy hlt=>⟨l,_,hl,hK y hy hlt⟩
theorem wloopW {c:Code} {α:Type} (S:α->St) (J:α->Prop) (μ:α->Nat) (x0:α) (l0:List Wk) (h0:wkAll l0 (norm C (aget [] C.lp i) σ)=some (S x0)) (hJ:J x0)
  (h:∀ x,J x->∀ K:St->Prop,(∀ y,J y->μ y < μ x->K (S y))->AWp C c i (AEx.seq (fun σ'=>K (norm C (aget [] C.lp i) σ')) Q) (S x)):AWp C (.loop c) i Q σ:=
 wloopB S J μ x0 l0 h0 hJ fun x hx K hK=>h x hx K fun y hy hlt=>hK [] _ y rfl hy hlt
theorem wloop {c:Code} {α:Type} (S:α->St) (J:α->Prop) (μ:α->Nat) (x0:α) (h0:norm C (aget [] C.lp i) σ=S x0) (hJ:J x0)
  (h:∀ x,J x->∀ K:St->Prop,(∀ y,J y->μ y < μ x->K (S y))->AWp C c i (AEx.seq (fun σ'=>K (norm C (aget [] C.lp i) σ')) Q) (S x)):AWp C (.loop c) i Q σ:=
 wloopW S J μ x0 [] (by rw [h0];rfl) hJ h
end
theorem ofL_nil (t:Nat):ofL [] t = .dead:=rfl
theorem ofL_cons (i:Nat) (f:FV) (r:List (Nat×FV)) (t:Nat):ofL ((i,f) :: r) t=if i=t then f else ofL r t:=rfl
theorem ofR_nil (t:Rn):ofR [] t=none:=rfl
theorem ofR_cons (i:Rn) (f:D) (r:List (Rn×D)) (t:Rn):ofR ((i,f) :: r) t=if i=t then some f else ofR r t:=rfl
theorem ofRO_nil (t:Rn):ofRO [] t=none:=rfl
theorem ofRO_cons (i:Rn) (f:Option D) (r:List (Rn×Option D)) (t:Rn):ofRO ((i,f) :: r) t=if i=t then f else ofRO r t:=rfl
theorem upd_at {α:Type} (e:Nat->α) (t:Nat) (f:α) (s:Nat):upd e t f s=if s=t then f else e s:=rfl
theorem root_env (σ:St) (r:Rn) (d:D):(σ.root r d).env=σ.env:=rfl
theorem root_rts (σ:St) (r:Rn) (d:D) (q:Rn):(σ.root r d).rts q=if q=r then some d else σ.rts q:=rfl
theorem wrapOk {x:Int} (h0:-9223372036854775808<=x) (h1:x < 9223372036854775808):IntKind.i64.wrap x=x:=by
 rw [IntKind.wrap_i64]
 omega
theorem get_ints (xs:List Int) (i:Nat) (h:i < xs.length):(ints xs)[i]? = some (D.int xs[i]):=by simp [ints,h]
theorem getElem_ints (xs:List Int) (i:Nat) (h:i < (ints xs).length):(ints xs)[i]=D.int (xs[i]'(by simpa [ints] using h)):=by simp [ints]
theorem length_ints (xs:List Int):(ints xs).length=xs.length:=by simp [ints]
theorem ints_append (xs ys:List Int):ints xs ++ ints ys=ints (xs ++ ys):=by simp [ints]
theorem ints_set (xs:List Int) (i:Nat) (x:Int):(ints xs).set i (D.v (.int .i64 x))=ints (xs.set i x):=by
 unfold ints
 rw [List.map_set]
theorem ints_take (xs:List Int) (i:Nat):(ints xs).take i=ints (xs.take i):=by simp [ints,List.map_take]
theorem ints_drop (xs:List Int) (i:Nat):(ints xs).drop i=ints (xs.drop i):=by simp [ints,List.map_drop]
theorem leafL_ints:∀ (xs:List Int),leafL (ints xs)
 | []=>trivial
 | x :: xs=>⟨rfl,leafL_ints xs⟩
theorem noShL_ints:∀ (xs:List Int),noShL (ints xs)
 | []=>trivial
 | x :: xs=>⟨trivial,noShL_ints xs⟩
theorem shareL_ints:∀ (xs:List Int),shareL (ints xs)=ints xs
 | []=>rfl
 | x :: xs=>by
  have:=shareL_ints xs
  simp only [ints,List.map_cons,shareL,share] at this ⊢
  rw [this]
theorem zeros_ints:∀ n:Nat,zerosD [.int .i64 0] n=ints (List.replicate n 0)
 | 0=>rfl
 | n+1=>by
  simp only [zerosD,zeros_ints n,List.replicate_succ]
  rfl
end Go.Proofs.Ytfcgcgmleogamaa.Ab
namespace Go.Proofs.Ytfcgcgmleogamaa.Ab
open Go
def rows {α:Type} (f:α->List D):List α->List D
 | []=>[]
 | x :: xs=>f x ++ rows f xs
section
variable {α:Type} {f:α->List D} {k:Nat}
theorem rows_append (xs ys:List α):rows f (xs ++ ys)=rows f xs ++ rows f ys:=by
 induction xs with
 | nil=>rfl
 | cons x xs ih=>simp [rows,ih]
theorem rows_length (hk:∀ x,(f x).length=k) (xs:List α):(rows f xs).length=k*xs.length:=by
 induction xs with
 | nil=>rfl
 | cons x xs ih=>simp only [rows,List.length_append,hk,ih,List.length_cons,Nat.mul_add,Nat.mul_one];omega
theorem rows_get (hk:∀ x,(f x).length=k):∀ (xs:List α) (i j:Nat) (h:i < xs.length),j < k->(rows f xs)[k*i+j]? = (f xs[i])[j]?
 | [],i,j,h,_=>by simp at h
 | x :: xs,0,j,h,hj=>by
  simp only [rows,Nat.mul_zero,Nat.zero_add,List.getElem_cons_zero]
  rw [List.getElem?_append_left (by rw [hk];exact hj)]
 | x :: xs,i+1,j,h,hj=>by
  simp only [rows,List.getElem_cons_succ]
  rw [List.getElem?_append_right (by rw [hk,Nat.mul_add];omega),hk,show k*(i+1)+j - k=k*i+j by rw [Nat.mul_add];omega]
  exact rows_get hk xs i j (by simpa using h) hj
theorem rows_set (hk:∀ x,(f x).length=k):∀ (xs:List α) (i j:Nat) (d:D) (y:α) (h:i < xs.length),j < k->f y=(f xs[i]).set j d->(rows f xs).set (k*i+j) d=rows f (xs.set i y)
 | [],i,j,d,y,h,_,_=>by simp at h
 | x :: xs,0,j,d,y,h,hj,e=>by
  simp only [rows,Nat.mul_zero,Nat.zero_add,List.set_cons_zero,List.getElem_cons_zero] at e ⊢
  rw [List.set_append_left _ _ (by rw [hk];exact hj),e]
 | x :: xs,i+1,j,d,y,h,hj,e=>by
  simp only [rows,List.set_cons_succ,List.getElem_cons_succ] at e ⊢
  rw [List.set_append_right _ _ (by rw [hk,Nat.mul_add];omega),hk,show k*(i+1)+j - k=k*i+j by rw [Nat.mul_add];omega,rows_set hk xs i j d y (by simpa using h) hj e]
theorem shareL_append (a b:List D):shareL (a ++ b)=shareL a ++ shareL b:=by
 induction a with
 | nil=>rfl
 | cons x a ih=>simp [shareL,ih]
theorem rows_share (xs:List α):shareL (rows f xs)=rows (fun x=>shareL (f x)) xs:=by
 induction xs with
 | nil=>rfl
 | cons x xs ih=>simp [rows,shareL_append,ih]
theorem noShL_append {a b:List D} (ha:noShL a) (hb:noShL b):noShL (a ++ b):=by
 induction a with
 | nil=>exact hb
 | cons x a ih=>exact ⟨ha.1,ih ha.2⟩
theorem rows_noSh (hf:∀ x,noShL (f x)) (xs:List α):noShL (rows f xs):=by
 induction xs with
 | nil=>trivial
 | cons x xs ih=>exact noShL_append (hf x) ih
end
end Go.Proofs.Ytfcgcgmleogamaa.Ab
namespace Go.Proofs.Ytfcgcgmleogamaa.Ab
open Go
def Back (σ:St) (ios:List Io) (outs:List D) (dst:Option Nat) (res:List RV) (K:St->Prop):Prop:=
 match putOuts σ ios outs with
 | some σ1=>(match dst with
  | some d=>(match unpackR d σ1 0 res with
   | some (fs,σ2,_)=>K { σ2 with env:=upd σ2.env d (resFV fs) }
   | none=>False)
  | none=>K σ1)
 | none=>False
def CallsTo (P:Program) (f:Nat) (args:List FV) (lent:List Rn) (ios:List Io) (dst:Option Nat) (σ:St) (K:St->Prop):Prop:=
 ∃ pure Q,ACalls P f args (ios.map fun io=>(io.name,io.d)) pure Q/\(pure=true\/lent=[])/\∀ outs res,Q outs res->Back σ ios outs dst res K
theorem callTo_eq (C:Ctx) (f:Nat) (fvs:List FV) (dst:Option Nat) (σ:St) (K:St->Prop):callTo C f fvs dst σ K=(match passL σ 0 (aget [] C.M f) fvs with
 | some (args,lent,ios)=>((ios.map (·.r)).Nodup/\(ios.map (·.name)).Nodup)/\(∀ r∈ios.map (·.r),r ∉ lent)/\CallsTo C.P f args lent ios dst σ K
 | none=>False):=rfl
theorem wcall {P:Program} {f:Nat} {args args':List FV} {lent:List Rn} {ios:List Io} {dst:Option Nat} {σ:St} {K:St->Prop} {ros:List (Rn×D)} {pure:Bool} {Q:List D->List RV->Prop}
  (h:ACalls P f args' ros pure Q) (ha:args=args') (hr:(ios.map fun io=>(io.name,io.d))=ros) (hp:pure=true\/lent=[]) (hk:∀ outs res,Q outs res->Back σ ios outs dst res K):CallsTo P f args lent ios dst σ K:=
 ⟨pure,Q,by rw [hr,ha];exact h,hp,hk⟩
theorem wcall1 {P:Program} {f:Nat} {args args':List FV} {lent:List Rn} {ios:List Io} {dst:Option Nat} {σ:St} {K:St->Prop} {ros:List (Rn×D)} {os:List D} {rs:List RV}
  (h:ACalls P f args' ros true (fun outs res=>outs=os/\res=rs)) (ha:args=args') (hr:(ios.map fun io=>(io.name,io.d))=ros) (hk:Back σ ios os dst rs K):CallsTo P f args lent ios dst σ K:=
 wcall h ha hr (.inl rfl) fun outs res ⟨h1,h2⟩=>by rw [h1,h2];exact hk
theorem AOpG_eq (C:Ctx) (ops:Array Oper) (o:Oper) (σ:St) (K:St->Prop):AOpG C ops o σ K↔(match o.guard with
 | none=>AOp C o σ K
 | some (j,want)=>(match (ops[j]?).bind (·.dst) with
  | some t=>(match σ.env t with
   | .d (.v (.bool b))=>if b=want then AOp C o σ K else K (σ.set o.dst (.tu []))
   | .tu []=>K (σ.set o.dst (.tu []))
   | _=>False)
  | none=>False)):=by
 unfold AOpG
 rcases o.guard with _ | ⟨j,want⟩
 ·exact Iff.rfl
 ·simp only
  rcases (ops[j]?).bind (·.dst) with _ | t
  ·exact Iff.rfl
  ·simp only
   generalize σ.env t=f
   split
   ·rename_i b
    by_cases h:b=want <;> simp [h]
   ·exact Iff.rfl
   ·rename_i h h'
    split
    ·exact absurd rfl (h _)
    ·exact absurd rfl h'
    ·exact Iff.rfl
theorem takeCells_self (k n:Nat) (cs:List D):takeCells k n n cs=cs:=if_pos rfl
attribute [simp] fbB frzB okAtom pickF
attribute [simp ↓] AFb AFz AFrz AFrS ASlice ACut
attribute [simp] leafFs shiftInt fieldV
attribute [simp ↓] AOps AOpG_eq AOp silK ABuiltin ARun ARunL callTo_eq AAlloc ABox ABuildSlice AMake AMapUpd ARange ANext AAppend ACopy ADelete AStore ANil
attribute [simp] u8s sil silCall isNilC opv constFV aget norm normWith names addNames watchers ofL_nil ofL_cons upd_at St.set FV.roots FV.rootsL FV.ren FV.renL ofRO_nil ofRO_cons lenF binF binInt bitsV
attribute [simp] indexF tsize addOff loadF pickL isAggK renR AEx.seq AEx.block cellFV argL watchL wFV ofR_nil ofR_cons endQ endK resVals FV.whole D.leaf exportN exportD pend unpend atomsL FV.atoms groupR noShR noShL noSh Value.oneCell'
attribute [simp] St.kOf St.nOf St.obj look St.storeL St.store1 St.absorb St.put putAt D.cells? D.setCells D.quiet FV.isLeaf root_env root_rts getElem_ints length_ints leafL_ints noShL_ints shareL_ints ints_set ints_append ints_take ints_drop
attribute [simp] wk1 wkAll isNil0
attribute [simp] nilIs fieldOff fieldPl sliceF boundsF isZero buildF fillF setAtoms mapIdx2 keyInts appSrc appNew takeCells_self St.take St.kill St.killBelow FV.under FV.underL FV.deep FV.deepL belowB isPre stripP Mv.place FV.move FV.moveL
attribute [simp] Back passL viewFV viewL ioAtom ioL ioFV putOuts unpackD unpackL unpackR resFV share shareL leafL solidL D.solid FV.rootIs St.dropIt St.setIt FV.notIt FV.hasIt FV.hasItL zerosD goneL
end Go.Proofs.Ytfcgcgmleogamaa.Ab
namespace Go.Proofs.Ytfcgcgmleogamaa.Ab
open Go
def AOpsI (C:Ctx) (ops:Array Oper):List Nat->St->(St->Prop)->Prop
 | [],σ,K=>K σ
 | i :: r,σ,K=>match ops[i]? with
  | some o=>AOpG C ops o σ fun σ'=>AOpsI C ops r σ' K
  | none=>False
attribute [simp ↓] AOpsI
theorem AOpsI_append (C:Ctx) (ops:Array Oper) (K:St->Prop):∀ (is js:List Nat) (σ:St),AOpsI C ops (is ++ js) σ K=AOpsI C ops is σ fun σ'=>AOpsI C ops js σ' K
 | [],js,σ=>rfl
 | i :: is,js,σ=>by
  simp only [List.cons_append,AOpsI]
  have:(fun σ'=>AOpsI C ops (is ++ js) σ' K)=fun σ'=>AOpsI C ops is σ' fun σ''=>AOpsI C ops js σ'' K:=funext fun σ'=>AOpsI_append C ops K is js σ'
  rw [this]
theorem AOpsI_range (C:Ctx) (ops:Array Oper) (K:St->Prop):∀ (m i:Nat) (σ:St),i+m=ops.size->AOpsI C ops (List.range' i m) σ K=AOps C ops (ops.toList.drop i) σ K
 | 0,i,σ,h=>by
  rw [List.drop_of_length_le (by simp;omega)]
  rfl
 | m+1,i,σ,h=>by
  have hi:i < ops.toList.length:=by simp;omega
  rw [List.drop_eq_getElem_cons hi,List.range'_succ]
  have:(fun σ'=>AOpsI C ops (List.range' (i+1) m) σ' K)=fun σ'=>AOps C ops (ops.toList.drop (i+1)) σ' K:=funext fun σ'=>AOpsI_range C ops K m (i+1) σ' (by omega)
  have e:ops[i]? = some ops.toList[i]:=by
   rw [Array.getElem?_eq_getElem (by omega)]
   simp
  show (match ops[i]? with
   | some o=>AOpG C ops o σ fun σ'=>AOpsI C ops (List.range' (i+1) m) σ' K
   | none=>False)=_
  rw [e,this]
  rfl
theorem oSg {C:Ctx} {ops:Array Oper} {is js:List Nat} {σ:St} {K:St->Prop} (h:∀ K1:St->Prop,(∀ σ',AOpsI C ops js σ' K->K1 σ')->AOpsI C ops is σ K1):AOpsI C ops (is ++ js) σ K:=by
 rw [AOpsI_append]
 exact h _ fun _ h=>h
theorem oEn {C:Ctx} {ops:Array Oper} {is:List Nat} {σ:St} {K:St->Prop} (h:∀ K1:St->Prop,(∀ σ',K σ'->K1 σ')->AOpsI C ops is σ K1):AOpsI C ops is σ K:=h _ fun _ h=>h
def chainP:List (Bool×Nat)->Plan->Plan
 | [],p=>p
 | (true,i) :: r,p=>.take i (chainP r p)
 | (false,i) :: r,p=>.all [(i,chainP r p)]
theorem ARun_chain (C:Ctx) (ops:Array Oper) (p:Plan) (K:St->Prop):∀ (l:List (Bool×Nat)) (σ:St),ARun C ops (chainP l p) σ K=AOpsI C ops (l.map (·.2)) σ fun σ'=>ARun C ops p σ' K
 | [],σ=>rfl
 | (true,i) :: l,σ=>by
  simp only [chainP,ARun,List.map_cons,AOpsI]
  have:(fun σ'=>ARun C ops (chainP l p) σ' K)=fun σ'=>AOpsI C ops (l.map (·.2)) σ' fun σ''=>ARun C ops p σ'' K:=funext fun σ'=>ARun_chain C ops p K l σ'
  rw [this]
  rfl
 | (false,i) :: l,σ=>by
  simp only [chainP,ARun,ARunL,List.map_cons,AOpsI]
  have:(fun σ'=>ARun C ops (chainP l p) σ' K)=fun σ'=>AOpsI C ops (l.map (·.2)) σ' fun σ''=>ARun C ops p σ'' K:=funext fun σ'=>ARun_chain C ops p K l σ'
  rw [this,and_true]
  rfl
section
variable {C:Ctx} {i:Nat} {Q:AEx->St->Prop} {σ:St}
theorem wregI {id:Nat} {ops:Array Oper} (is:List Nat) (he:is=List.range' 0 ops.size) (h:∀ K:St->Prop,(∀ σ',Q .normal σ'->K σ')->AOpsI C ops is σ (fun σ'=>K (norm C (aget [] C.kp id) σ'))):AWp C (.region id ops false) i Q σ:=
 wreg fun K hK=>by
  have:=h K hK
  rw [he,AOpsI_range _ _ _ _ _ _ (by omega)] at this
  exact this
theorem wdrawI {id:Nat} {ops:Array Oper} (l:List (Bool×Nat)) (hp:(chainP l .done).ok C ops) (is:List Nat) (he:is=l.map (·.2)) (h:∀ K:St->Prop,(∀ σ',Q .normal σ'->K σ')->AOpsI C ops is σ (fun σ'=>K (norm C (aget [] C.kp id) σ'))):AWp C (.region id ops true) i Q σ:=
 wdraw (chainP l .done) hp fun K hK=>by
  rw [ARun_chain,<-he]
  exact h K hK
end
theorem wcondJ {C:Ctx} {i:Nat} {Q:AEx->St->Prop} {σ:St} {c:Operand} {a b:Code} (P:St->Prop) (t:Bool) (hc:opv σ c = .d (.v (.bool t))) (tail:∀ σ',P σ'->Q .normal σ')
  (h1:t=true->∀ Q':AEx->St->Prop,(∀ σ',P σ'->Q' .normal σ')->AWp C a i Q' σ) (h2:t=false->∀ Q':AEx->St->Prop,(∀ σ',P σ'->Q' .normal σ')->AWp C b i Q' σ):AWp C (.cond c a b) i Q σ:=
 ⟨t,hc,fun h=>h1 h Q tail,fun h=>h2 h Q tail⟩
def WkD (a b:D):Prop:=a=b\/(isNil0 a=true/\∃ k,b = .ow k 0 [])
def WkL:List D->List D->Prop
 | [],[]=>True
 | a :: l,b :: r=>WkD a b/\WkL l r
 | _,_=>False
def WkR:RV->RV->Prop
 | .one a,.one b=>WkD a b
 | .ag a,.ag b=>WkL a b
 | _,_=>False
def WkRs:List RV->List RV->Prop
 | [],[]=>True
 | a :: l,b :: r=>WkR a b/\WkRs l r
 | _,_=>False
section
variable {w:World} {ok:Nat->Prop}
theorem WkD.ow {a b:D} (h:WkD a b) {u:Value} {fp:List Nat} (ha:Ow w ok a u fp):Ow w ok b u fp:=by
 rcases h with rfl | ⟨h1,k,rfl⟩
 ·exact ha
 ·have hv:=isNil0_val h1 ha
  have hf:fp=[]:=by
   unfold isNil0 at h1
   split at h1
   ·simp only [Ow] at ha;exact ha.1
   ·simp only [Ow] at ha;exact ha.1
   ·simp at h1
  subst hf
  exact ow_empty k hv
theorem WkL.ow:∀ {a b:List D},WkL a b->∀ {us:List Value} {fp:List Nat},OwVs w ok a us fp->OwVs w ok b us fp
 | [],[],_,us,fp,h=>h
 | a :: l,b :: r,h,us,fp,ha=>by
  obtain ⟨u,us',f1,f2,e1,e2,h1,h2⟩:=ha
  exact ⟨u,us',f1,f2,e1,e2,h.1.ow h1,WkL.ow h.2 h2⟩
 | [],b :: r,h,_,_,_=>h.elim
 | a :: l,[],h,_,_,_=>h.elim
theorem WkR.ow:∀ {a b:RV},WkR a b->∀ {u:Value} {fp:List Nat},OwRV w ok a u fp->OwRV w ok b u fp
 | .one a,.one b,h,u,fp,ha=>WkD.ow h ha
 | .ag a,.ag b,h,u,fp,ha=>by
  obtain ⟨vs,e,h1⟩:=ha
  exact ⟨vs,e,WkL.ow h h1⟩
 | .one a,.ag b,h,_,_,_=>h.elim
 | .ag a,.one b,h,_,_,_=>h.elim
theorem WkRs.ow:∀ {a b:List RV},WkRs a b->∀ {us:List Value} {fp:List Nat},OwRs w ok a us fp->OwRs w ok b us fp
 | [],[],_,us,fp,h=>h
 | a :: l,b :: r,h,us,fp,ha=>by
  obtain ⟨u,us',f1,f2,e1,e2,h1,h2⟩:=ha
  exact ⟨u,us',f1,f2,e1,e2,WkR.ow h.1 h1,WkRs.ow h.2 h2⟩
 | [],b :: r,h,_,_,_=>h.elim
 | a :: l,[],h,_,_,_=>h.elim
end
theorem ACalls.weak {P:Program} {f:Nat} {args:List FV} {ros:List (Rn×D)} {pure:Bool} {Q Q':List D->List RV->Prop} (h:ACalls P f args ros pure Q) (hq:∀ outs res,Q outs res->∃ res',WkRs res res'/\Q' outs res'):ACalls P f args ros pure Q':=by
 refine ⟨h.1,fun w fp0 ok vs ρ φ hl hr=>(h.2 w fp0 ok vs ρ φ hl hr).mono ?_⟩
 rintro e w' ⟨v,outs,res,ok',φ',fr,he,hQ,hd⟩
 obtain ⟨res',h1,h2⟩:=hq outs res hQ
 obtain ⟨vs',e1,e2⟩:=hd.res
 exact ⟨v,outs,res',ok',φ',fr,he,h2,⟨hd.len,hd.out,hd.dis,⟨vs',e1,h1.ow e2⟩,hd.nod,hd.bl,hd.disr,hd.frm,hd.okm,hd.okn⟩⟩
theorem ACalls.weak1 {P:Program} {f:Nat} {args:List FV} {ros:List (Rn×D)} {pure:Bool} {os:List D} {rs:List RV} (h:ACalls P f args ros pure fun outs res=>outs=os/\WkRs res rs):ACalls P f args ros pure fun outs res=>outs=os/\res=rs:=
 h.weak fun outs res ⟨h1,h2⟩=>⟨rs,h2,h1,rfl⟩
attribute [simp] WkRs WkR WkL WkD isNil0
theorem nd_t {p:Prop} [Decidable p] (h:(!decide p)=true):¬ p:=by simpa using h
theorem nd_f {p:Prop} [Decidable p] (h:(!decide p)=false):p:=by simpa using h
theorem d_t {p:Prop} [Decidable p] (h:decide p=true):p:=by simpa using h
theorem d_f {p:Prop} [Decidable p] (h:decide p=false):¬ p:=by simpa using h
theorem ibeq (a b:Int):(a == b)=decide (a=b):=by
 by_cases h:a=b <;> simp [h]
theorem ibne (a b:Int):(a != b) = !decide (a=b):=by
 by_cases h:a=b <;> simp [h]
section
variable {w:World} {ok:Nat->Prop} {σ:St} {ρ:Rn->Value}
end
end Go.Proofs.Ytfcgcgmleogamaa.Ab
namespace Go.Proofs.Ytfcgcgmleogamaa.Ab
open Go
structure Trm where
 e:List Int
 c:Int
deriving DecidableEq
structure Lau where
 v:Int
 ts:List Trm
deriving DecidableEq
structure Mat where
 n:Int
 r:Int
 d:List Int
deriving DecidableEq
structure Sed where
 m:Mat
 f:List Lau
deriving DecidableEq
structure Ses where
 a:Mat
 k:List Int
 s:Sed
deriving DecidableEq
abbrev shI (l:List Int):D:=.sh 1 l.length (ints l)
abbrev owI (l:List Int):D:=.ow 1 l.length (ints l)
def tS (t:Trm):List D:=[shI t.e,D.int t.c]
def tO (t:Trm):List D:=[owI t.e,D.int t.c]
def fS (f:Lau):List D:=[D.int f.v,.sh 2 f.ts.length (rows tS f.ts)]
def fO (f:Lau):List D:=[D.int f.v,.ow 2 f.ts.length (rows tO f.ts)]
def mS (m:Mat):List D:=[D.int m.n,D.int m.r,shI m.d]
def mO (m:Mat):List D:=[D.int m.n,D.int m.r,owI m.d]
theorem tS_two (t:Trm):(tS t).length=2:=rfl
theorem tO_two (t:Trm):(tO t).length=2:=rfl
theorem fS_two (t:Lau):(fS t).length=2:=rfl
theorem fO_two (t:Lau):(fO t).length=2:=rfl
@[simp] theorem tS_length (l:List Trm):(rows tS l).length=2*l.length:=rows_length tS_two l
@[simp] theorem tO_length (l:List Trm):(rows tO l).length=2*l.length:=rows_length tO_two l
@[simp] theorem fS_length (l:List Lau):(rows fS l).length=2*l.length:=rows_length fS_two l
@[simp] theorem fO_length (l:List Lau):(rows fO l).length=2*l.length:=rows_length fO_two l
@[simp] theorem tS_share (l:List Trm):shareL (rows tO l)=rows tS l:=by
 rw [rows_share]
 congr 1
 funext t
 simp [tO,tS,shareL,share,shareL_ints]
@[simp] theorem fS_share (l:List Lau):shareL (rows fO l)=rows fS l:=by
 rw [rows_share]
 congr 1
 funext t
 simp [fO,fS,shareL,share]
@[simp] theorem tO_noSh (l:List Trm):noShL (rows tO l):=rows_noSh (fun t=>by simp [tO,noShL,noSh,noShL_ints]) l
@[simp] theorem fO_noSh (l:List Lau):noShL (rows fO l):=rows_noSh (fun t=>by simp [fO,noShL,noSh]) l
theorem twice {α:Type} {l:List α} {i:Nat} {x:α} (h:l[i]? = some x):l[i]? = some x/\∀ h':i < l.length,l[i]'h'=x:=
 ⟨h,fun h'=>by rw [List.getElem?_eq_getElem h'] at h;injection h⟩
section
variable {l:List Trm} {g:List Lau} {i:Nat}
end
theorem modify_const {α:Type} (l:List α) (i:Nat) (e:α):l.modify i (fun _=>e)=l.set i e:=by
 apply List.ext_getElem?
 intro j
 rw [List.getElem?_modify,List.getElem?_set]
 split
 ·rename_i h
  subst h
  split
  ·rename_i h
   rw [List.getElem?_eq_getElem h]
   rfl
  ·rename_i h
   rw [List.getElem?_eq_none (by omega)]
   rfl
 ·simp
def marks (k:Int) (n:Nat):List Int:=(List.range n).map fun (i:Nat)=>k+(i:Int)
@[simp] theorem marks_length (k:Int) (n:Nat):(marks k n).length=n:=by simp [marks]
section
variable {α:Type} (cnt:α->Nat) (mk:α->Int->α)
def mkL:List α->Int->List α
 | [],_=>[]
 | x :: xs,k=>mk x k :: mkL xs (k+cnt x)
@[simp] theorem mkL_length:∀ (l:List α) (k:Int),(mkL cnt mk l k).length=l.length
 | [],k=>rfl
 | x :: xs,k=>by simp [mkL,mkL_length xs]
end
def tZ:Option Trm->List D
 | none=>[.v (.slice none 0 0),D.int 0]
 | some t=>tO t
theorem tZ_two (t:Option Trm):(tZ t).length=2:=by cases t <;> rfl
@[simp] theorem tZ_length (l:List (Option Trm)):(rows tZ l).length=2*l.length:=rows_length tZ_two l
end Go.Proofs.Ytfcgcgmleogamaa.Ab
namespace Go.Proofs.Ytfcgcgmleogamaa.Ab
open Go Go.ChangeShapes Go.WideShapes Go.ChangeAt Go.RowKit
structure Old (w w':World):Prop where
 os:w'.os=w.os
 out:w'.output=w.output
 size:w.heap.size<=w'.heap.size
 blk:∀ b,b < w.heap.size->w'.heap[b]? = w.heap[b]?
theorem Old.kept {w w':World} (h:Old w w') (may:MemPlace->Prop):w.keptBut w' may:=by
 refine ⟨h.os,h.out,fun i hi=>?_⟩
 rw [h.blk i hi]
 cases hh:w.heap[i]? with
 | none=>rfl
 | some o=>
  cases o with
  | cells c t fr=>exact ⟨rfl,rfl,rfl,fun _ _=>rfl⟩
  | map es cl=>exact .inr ⟨rfl,rfl⟩
  | _=>rfl
theorem Old.froz {w w':World} (h:Old w w') (a:Addr) (ha:a.block < w.heap.size):w'.frozen? a=w.frozen? a:=by
 unfold World.frozen?
 rw [h.blk a.block ha]
variable {H:Type} {enc:TypeId×Value->H} {P:Program}
theorem post_of_old {f:Func} {s:ChangeSpec} {apart fresh handsOn again:Bool} {W W':World} {args:Array Value} {v:Value} {ds gs:List (DataW H)} {before pa pv:List MemPlace}
  (hW:DataW.Whole enc P f.params.toList s.vars apart W args.toList ds gs before)
  (hres:∀ (b:Nat) (sp:Nat->Bool) (hd:Bool),DataW.TrodAll enc P W' b sp hd f.resultTypes.toList (v.resultList f.resultTypes.size) (s.fn H (ds ++ gs)).results [])
  (hargs:∀ sp:Nat->Bool,(∀ p∈before,sp p.block=true)->DataW.TrodAll enc P W' 0 sp true f.params.toList args.toList (s.fn H (ds ++ gs)).args pa)
  (hvars:∀ sp:Nat->Bool,(∀ p∈before,sp p.block=true)->DataW.TrodVars enc P W' sp s.vars (s.fn H (ds ++ gs)).vars pv)
  (hps:before=pa ++ pv) (ho:Old W W')
  (hok:∀ (j:Nat) (t:TypeId) (r:Value),f.resultTypes[j]? = some t->(v.resultList f.resultTypes.size)[j]? = some r->Value.okWide P W' .any 0 t r) :
  s.post enc P f apart fresh handsOn again W args v W':=by
 have hlt:∀ p∈before,p.block < W.heap.size:=fun p hp=>hW.lt p hp
 have hsp:∀ p∈before,(fun b=>decide (b < W.heap.size)) p.block=true:=fun p hp=>decide_eq_true (hlt p hp)
 have hall:∀ p∈before,(fun _:Nat=>true) p.block=true:=fun _ _=>rfl
 have happ:[] ++ pa ++ pv=before:=by rw [hps];rfl
 refine ⟨ds,gs,before,[],pa,pv,hW,hres _ _ _,hargs _ hsp,hvars _ hsp,ho.kept _,fun _=>⟨hok,_,_,[] ++ pa ++ pv,⟨[] ++ pa,pv,trodAll_append (hargs _ hall) (hres _ _ _),hvars _ hall,rfl,?_,?_⟩,?_⟩⟩
 ·obtain ⟨_,_,_,_,_,hz,hn⟩:=hW
  intro b off hp
  rw [happ] at hp
  rw [ho.froz _ (hlt _ hp)]
  exact hz b off hp
 ·obtain ⟨_,_,_,_,_,hz,hn⟩:=hW
  intro ha
  rw [happ]
  exact hn ha
 ·intro p hp _
  rw [happ] at hp
  exact hp
end Go.Proofs.Ytfcgcgmleogamaa.Ab
namespace Go.Proofs.Ytfcgcgmleogamaa.Ab
open Go Go.ChangeShapes Go.WideShapes Go.ChangeAt Go.RowKit
def oldOk (W:World):Nat->Prop:=fun b=>b < W.heap.size
theorem old_of_cell {W:World} {a:Addr} {v:Value} (h:W.cell? a=some v):oldOk W a.block:=by
 unfold World.cell? at h
 split at h
 ·rename_i hh
  unfold oldOk
  rcases Nat.lt_or_ge a.block W.heap.size with h1 | h1
  ·exact h1
  ·rw [Array.getElem?_eq_none (by omega)] at hh;simp at hh
 ·simp at h
theorem ShV_ShL {w:World} {ok:Nat->Prop} {b:Nat}:∀ {ds:List D} {us:List Value} {o:Nat},ShV w ok ds us->(∀ (j:Nat) (v:Value),us[j]? = some v->w.cell? ⟨b,o+j,none⟩ = some v)->ShL w ok b ds o
 | [],us,o,h,_=>by simp [ShL]
 | d :: ds,us,o,h,hc=>by
  simp only [ShV] at h
  obtain ⟨u,us',rfl,h1,h2⟩:=h
  simp only [ShL]
  refine ⟨⟨u,by simpa using hc 0 u rfl,h1⟩,ShV_ShL h2 fun j v hj=>?_⟩
  have:=hc (j+1) v (by simpa using hj)
  rwa [show o+1+j=o+(j+1) by omega]
theorem ShL_cat {w:World} {ok:Nat->Prop} {b:Nat}:∀ {ds es:List D} {o:Nat},ShL w ok b ds o->ShL w ok b es (o+ds.length)->ShL w ok b (ds ++ es) o
 | [],es,o,_,k=>by simpa using k
 | d :: ds,es,o,h,k=>by
  simp only [ShL] at h
  simp only [List.cons_append,ShL]
  refine ⟨h.1,ShL_cat h.2 ?_⟩
  simp only [List.length_cons] at k
  rwa [show o+1+ds.length=o+(ds.length+1) by omega]
theorem rows_ShL {w:World} {ok:Nat->Prop} {b k:Nat} {α:Type} {f:α->List D} (hk:∀ x,(f x).length=k):∀ (l:List α) (o:Nat),(∀ i (h:i < l.length),ShL w ok b (f l[i]) (o+i*k))->ShL w ok b (rows f l) o
 | [],o,_=>by simp [rows,ShL]
 | x :: l,o,h=>by
  simp only [rows]
  refine ShL_cat (by have:=h 0 (by simp);simp only [List.getElem_cons_zero,Nat.zero_mul,Nat.add_zero] at this;exact this) ?_
  rw [hk]
  refine rows_ShL hk l (o+k) fun i hi=>?_
  have:=h (i+1) (by simpa using hi)
  simp only [List.getElem_cons_succ] at this
  rwa [show o+k+i*k=o+(i+1)*k by rw [Nat.add_mul,Nat.one_mul];omega]
section
variable {H:Type} {enc:TypeId×Value->H} {P:Program} {W:World}
structure Opens (enc:TypeId×Value->H) (P:Program) (W:World) (t k:Nat) (α:Type) (f:α->List D) (G:α->Prop):Prop where
 cells:P.cellsOf t=k
 len:∀ a,(f a).length=k
 op:∀ (fuel:Nat) (cs:List Value) (x:DataW H×List MemPlace),DataW.trod enc P W 0 (fun _=>true) true fuel t cs=some x->(∀ n∈x.1.weights P t,n<=reachBytes)->∃ a:α,G a/\ShV W (oldOk W) (f a) cs
theorem Opens.to {t k:Nat} {α β:Type} {f:α->List D} {G:α->Prop} (h:Opens enc P W t k α f G) (g:α->β) {f':β->List D} {G':β->Prop} (hf:∀ a,f' (g a)=f a) (hl:∀ b,(f' b).length=k) (hG:∀ a,G a->G' (g a)):Opens enc P W t k β f' G':=
 ⟨h.cells,hl,fun fuel cs x hx hw=>by
  obtain ⟨a,h1,h2⟩:=h.op fuel cs x hx hw
  exact ⟨g a,hG a h1,by rw [hf];exact h2⟩⟩
theorem Opens.byte {t:Nat} (ht:P.underlying t=some (.int .u8)) (hc:P.cellsOf t=1):Opens enc P W t 1 Int (fun n=>[.v (.int .u8 n)]) (fun n=>0<=n/\n<=255):=
 ⟨hc,fun _=>rfl,fun fuel cs x hx _=>by
  obtain ⟨n,rfl,rfl,hw⟩:=DataW.trod_int ht hx
  exact ⟨n,bounds_u8 hw,by simp [ShV,Sh]⟩⟩
theorem mem_weightsAll {e:Nat}:∀ {l:List (DataW H)} {d:DataW H},d∈l->∀ n∈d.weights P e,n∈DataW.weightsAll P e l
 | x :: l,d,hd,n,hn=>by
  simp only [DataW.weightsAll,List.mem_append]
  rcases List.mem_cons.1 hd with rfl | hd
  ·exact .inl hn
  ·exact .inr (mem_weightsAll hd n hn)
theorem cells_get {a:Addr} {k:Nat} {cs:List Value} (h:W.cells? 0 a k=some cs):cs.length=k/\∀ (j:Nat) (v:Value),cs[j]? = some v->W.cell? (a.add j)=some v:=by
 unfold World.cells? at h
 rw [if_pos (Nat.zero_le _)] at h
 have hl:=mapM_some_length h
 simp only [List.length_range] at hl
 refine ⟨hl,fun j v hj=>?_⟩
 have hj2:j < k:=by
  rw [<-hl]
  rcases Nat.lt_or_ge j cs.length with h1 | h1
  ·exact h1
  ·rw [List.getElem?_eq_none h1] at hj;simp at hj
 have:=mapM_some_get h j j (by simp [hj2])
 rw [this,hj]
theorem Opens.slice {t e k bs:Nat} {α:Type} {f:α->List D} {G:α->Prop} (h:Opens enc P W e k α f G) (hk0:0 < k) (ht:P.underlying t=some (.slice e)) (hc:P.cellsOf t=1) (hb:P.bytesOf e=bs) :
  Opens enc P W t 1 (List α) (fun l=>[.sh k l.length (rows f l)]) (fun l=>(∀ x∈l,G x)/\l.length*bs<=140737488351232):=
 ⟨hc,fun _=>rfl,fun fuel cs x hx hw=>by
  rcases DataW.trod_slice ht hx with ⟨rfl,rfl⟩ | ⟨a,len,cap,elems,rest,n,rfl,rfl,rfl,hb0,hlc,hcm,hel,hget,_,_⟩
  ·exact ⟨[],by simp,by simp [ShV,Sh,rows]⟩
  ·have hwt:(elems.length+rest.length)*bs<=140737488351232:=by
    have:=hw ((elems.length+rest.length)*bs) (by simp [DataW.weights,ht,hb])
    simpa [reachBytes] using this
   have hwe:∀ y∈elems,∀ n∈y.1.weights P e,n<=reachBytes:=fun y hy n hn=>by
    refine hw n ?_
    simp only [DataW.weights,ht,List.mem_cons,List.mem_append]
    exact .inr (.inl (mem_weightsAll (List.mem_map.2 ⟨y,hy,rfl⟩) n hn))
   have key:∀ i:Fin len,∃ y:α,G y/\∃ cs,W.cells? 0 (a.add (i.1*k)) k=some cs/\ShV W (oldOk W) (f y) cs:=fun i=>by
    have h1:=hget i.1 i.2
    rw [h.cells] at h1
    have h2:i.1 < elems.length:=by rw [hel];exact i.2
    rw [List.getElem?_eq_getElem h2,Option.bind_eq_some_iff] at h1
    obtain ⟨cs,h3,h4⟩:=h1
    obtain ⟨y,h5,h6⟩:=h.op n cs _ h4 (hwe _ (List.getElem_mem h2))
    exact ⟨y,h5,cs,h3,h6⟩
   let l:List α:=List.ofFn fun i:Fin len=>Classical.choose (key i)
   have hll:l.length=len:=by simp [l]
   have hlg:∀ i (hi:i < l.length),G l[i]/\∃ cs,W.cells? 0 (a.add (i*k)) k=some cs/\ShV W (oldOk W) (f l[i]) cs:=fun i hi=>by
    have:=Classical.choose_spec (key ⟨i,by omega⟩)
    simpa [l] using this
   refine ⟨l,⟨fun x hx=>?_,?_⟩,?_⟩
   ·obtain ⟨i,hi,rfl⟩:=List.getElem_of_mem hx
    exact (hlg i hi).1
   ·rw [hll]
    rw [hel] at hwt
    exact Nat.le_trans (Nat.mul_le_mul_right _ (by omega)) hwt
   ·simp only [ShV,Sh]
    refine ⟨_,[],rfl,⟨some a,cap,by rw [hll],by omega,rows_length h.len l,?_⟩,rfl⟩
    rcases Nat.eq_zero_or_pos l.length with hz | hp
    ·left
     rw [List.eq_nil_of_length_eq_zero hz]
     rfl
    ·right
     obtain ⟨_,cs0,hc0,_⟩:=hlg 0 hp
     obtain ⟨hl0,hg0⟩:=cells_get hc0
     have h00:cs0[0]? = some (cs0[0]'(by omega)):=List.getElem?_eq_getElem _
     have hfirst:=hg0 0 _ h00
     have hspot:a.spot=none:=by
      have:=World.cell?_spot hfirst
      simpa [Addr.add] using this
     have hold:=old_of_cell hfirst
     obtain ⟨b,off,spot⟩:=a
     simp only at hspot
     subst hspot
     refine ⟨b,off,rfl,by simpa [Addr.add] using hold,rows_ShL h.len l off fun i hi=>?_⟩
     obtain ⟨_,csi,hci,hsi⟩:=hlg i hi
     refine ShV_ShL hsi fun j v hj=>?_
     have:=(cells_get hci).2 j v hj
     rwa [Go.WideShapes.add_plain,Go.WideShapes.add_plain] at this⟩
structure Arg (enc:TypeId×Value->H) (P:Program) (W:World) (t:Nat) (α:Type) (F:α->FV) (G:α->Prop):Prop where
 rec_:P.readableRec t=true
 row:t < P.types.size
 op:∀ (base:Nat) (v:Value) (d:DataW H) (p:List MemPlace),Value.okWide P W .any base t v->DataW.Trod enc P W 0 (fun _=>true) true t v d p->(∀ n∈d.weights P t,n<=reachBytes)->∃ a:α,G a/\∀ (σ:St) (ρ:Rn->Value),FR W (oldOk W) σ ρ (F a) v
def plainT (P:Program) (t:TypeId):Bool:=
 match P.underlying t with
 | some (.int _)=>true
 | some .bool=>true
 | some .string=>true
 | some (.slice _)=>true
 | _=>false
theorem plain_cells {t:TypeId} {base:Nat} {v:Value} (h:plainT P t=true) (hv:Value.okWide P W .any base t v):v.cells = #[v]:=by
 unfold plainT at h
 unfold Value.okWide Cell.okWide Cell.ok at hv
 cases v <;> first | rfl | (split at h <;> simp_all)
theorem Arg.one {t:Nat} {α:Type} {f:α->D} {G:α->Prop} (h:Opens enc P W t 1 α (fun a=>[f a]) G) (hr:P.readableRec t=true) (hrow:t < P.types.size) (hp:plainT P t=true):Arg enc P W t α (fun a=>.d (f a)) G:=
 ⟨hr,hrow,fun base' v d p ho hd hw=>by
  obtain ⟨fuel,hx⟩:=hd
  obtain ⟨a,h1,h2⟩:=h.op fuel _ _ hx hw
  refine ⟨a,h1,fun σ ρ=>?_⟩
  rw [plain_cells hp ho] at h2
  simp only [ShV,List.cons.injEq] at h2
  obtain ⟨u,us,⟨rfl,rfl⟩,h3,_⟩:=h2
  simpa only [FR] using h3⟩
theorem lawW {f:Nat} {args:List FV} (h:ACalls P f args [] true (fun outs res=>outs=[]/\res=[.one (D.bool true)])) {vs:List Value} (hv:∀ (σ:St) (ρ:Rn->Value),FRL W (oldOk W) σ ρ args vs) :
  Calls P f vs.toArray W fun e w'=>e = .returned (.bool true)/\Below W.heap.size W w':=by
 have hlen:∀ {σ:St} {ρ:Rn->Value} {aas:List FV} {us:List Value},FRL W (oldOk W) σ ρ aas us->us.length=aas.length/\∀ t,FR W (oldOk W) σ ρ (argEnv aas t) (us.getD t undef):=by
  intro σ ρ aas
  induction aas with
  | nil=>
   intro us h
   simp only [FRL] at h
   subst h
   exact ⟨rfl,fun t=>by simp [argEnv,FR]⟩
  | cons a aas ih=>
   intro us h
   simp only [FRL] at h
   obtain ⟨u,vs,rfl,h1,h2⟩:=h
   obtain ⟨h3,h4⟩:=ih h2
   refine ⟨by simp [h3],fun t=>?_⟩
   cases t with
   | zero=>simpa [argEnv] using h1
   | succ t=>simpa [argEnv] using h4 t
 have:=h.2 W [] (oldOk W) vs (fun _=>undef) (fun _=>[]) (hlen (hv ⟨fun _=>.dead,fun _=>none⟩ (fun _=>undef))).1 ⟨fun r d hd=>by simp [ofR] at hd,fun r r' d d' _ hd=>by simp [ofR] at hd,(hlen (hv _ _)).2,fun b hb=>hb,Keeps.refl W []⟩
 refine Calls.mono this ?_
 rintro e w' ⟨v,outs,res,ok',φ',fr,rfl,⟨rfl,rfl⟩,hd⟩
 obtain ⟨vs,e1,e2⟩:=hd.res
 simp only [OwRs,OwRV,if_true] at e2
 obtain ⟨u,us,f1,f2,rfl,_,h1,h2,_⟩:=e2
 subst h2
 simp only [Ow] at h1
 refine ⟨?_,hd.frm.os,hd.frm.tape,hd.frm.out,hd.frm.size,fun b hb=>hd.frm.old b hb (by simp)⟩
 rw [e1,h1.2]
 rfl
theorem trodAll_stays (hl:laidOutB P=true) {W':World} (hb:Below W.heap.size W W') {sp:Nat->Bool}:∀ {ts:List TypeId} {vs:List Value} {ds:List (DataW H)} {p:List MemPlace},(∀ t∈ts,P.readableRec t=true/\t < P.types.size) ->
  DataW.TrodAll enc P W 0 (fun _=>true) true ts vs ds p->(∀ x∈p,x.block < W.heap.size)->(∀ x∈p,sp x.block=true)->DataW.TrodAll enc P W' 0 sp true ts vs ds p
 | [],[],[],p,_,h,_,_=>h
 | t :: ts,v :: vs,d :: ds,p,ht,h,h1,h2=>by
  obtain ⟨p1,p2,h3,h4,rfl⟩:=h
  have h5:=ht t (by simp)
  refine ⟨p1,p2,WideElems.Trod_stays hl h5.1 h5.2 h3 (fun x hx=>hb.same (h1 x (by simp [hx]))) (fun x hx=>h2 x (by simp [hx])),trodAll_stays hl hb (fun t ht'=>ht t (by simp [ht'])) h4 (fun x hx=>h1 x (by simp [hx])) (fun x hx=>h2 x (by simp [hx])),rfl⟩
 | [],_ :: _,_,_,_,h,_,_=>h.elim
 | [],[],_ :: _,_,_,h,_,_=>h.elim
 | _ :: _,[],_,_,_,h,_,_=>h.elim
 | _ :: _,_ :: _,[],_,_,h,_,_=>h.elim
theorem post_of_below (hl:laidOutB P=true) {f:Func} {s:ChangeSpec} {apart fresh handsOn again:Bool} {W':World} {args:Array Value} {ds gs:List (DataW H)} {before:List MemPlace}
  (hW:DataW.Whole enc P f.params.toList s.vars apart W args.toList ds gs before) (hv0:s.vars=[]) (hts:∀ t∈f.params.toList,P.readableRec t=true/\t < P.types.size)
  (hfn:s.fn H ds = { results:=[.lit (.bool true)],args:=ds }) {tb:TypeId} (hres:f.resultTypes = #[tb]) (htb:P.underlying tb=some .bool) (hb:Below W.heap.size W W') (hok:∀ W':World,Value.okWide P W' .any 0 tb (.bool true)) :
  s.post enc P f apart fresh handsOn again W args (.bool true) W':=by
 have hlt:∀ p∈before,p.block < W.heap.size:=fun p hp=>hW.lt p hp
 have hW0:=hW
 obtain ⟨p,q,hA,hV,rfl,hz,hn⟩:=hW
 rw [hv0] at hV
 obtain ⟨rfl,rfl⟩:=trodVars_none hV
 simp only [List.append_nil] at hlt hz hn
 have hfn2:s.fn H (ds ++ []) = { results:=[.lit (.bool true)],args:=ds }:=by rw [List.append_nil];exact hfn
 have hvar:∀ sp:Nat->Bool,DataW.TrodVars enc P W' sp s.vars [] []:=fun sp=>by rw [hv0];rfl
 have hr:∀ (b:Nat) (sp:Nat->Bool) (hd:Bool),DataW.TrodAll enc P W' b sp hd f.resultTypes.toList ((Value.bool true).resultList f.resultTypes.size) [.lit (.bool true)] []:=fun b sp hd=>by
  rw [hres]
  exact trodAll_cons_mk (p:=[]) (p':=[]) (shut_bool htb _) trodAll_mk0
 have ha:∀ sp:Nat->Bool,(∀ x∈p,sp x.block=true)->DataW.TrodAll enc P W' 0 sp true f.params.toList args.toList ds p:=fun sp hs=>trodAll_stays hl hb hts hA hlt hs
 exact post_of_old (pa:=p) (pv:=[]) hW0 (fun b sp hd=>by rw [hfn2];exact hr b sp hd) (fun sp hs=>by rw [hfn2];exact ha sp fun x hx=>hs x (by simp [hx])) (fun sp _=>by rw [hfn2];exact hvar sp) rfl ⟨hb.os,hb.output,hb.size,hb.block⟩ (ok_one hres rfl (hok W'))
end
end Go.Proofs.Ytfcgcgmleogamaa.Ab
namespace Go.Proofs.Ytfcgcgmleogamaa.Ab
open Go Go.ChangeShapes Go.WideShapes Go.ChangeAt Go.RowKit
set_option maxRecDepth 100000
section
variable {H:Type} {enc:TypeId×Value->H} {W:World}
theorem laidOut:laidOutB Try.prog=true:=by kernel_rfl
theorem okBool (W':World):Value.okWide Try.prog W' .any 0 4 (.bool true):=okWide_bool_mk Try.underlying4 _
end
end Go.Proofs.Ytfcgcgmleogamaa.Ab
namespace Go.Proofs.Ytfcgcgmleogamaa.Ab
open Go
def TTab:TT:=[
 (2,⟨.int .i64,1,8,[.int .i64 0]⟩),
 (3,⟨.int .i64,1,8,[.int .i64 0]⟩),
 (4,⟨.bool,1,1,[.bool false]⟩),
 (5,⟨.int .u8,1,1,[.int .u8 0]⟩),
 (6,⟨.int .u8,1,1,[.int .u8 0]⟩),
 (9,⟨.str,1,16,[.string .empty]⟩),
 (22,⟨.sl 5,1,24,[.slice none 0 0]⟩),
 (24,⟨.sl 3,1,24,[.slice none 0 0]⟩),
 (26,⟨.st [(0,3),(1,3),(2,24)],3,40,[.int .i64 0,.int .i64 0,.slice none 0 0]⟩),
 (29,⟨.sl 24,1,24,[.slice none 0 0]⟩),
 (42,⟨.sl 44,1,24,[.slice none 0 0]⟩),
 (44,⟨.st [(0,3),(1,3)],2,16,[.int .i64 0,.int .i64 0]⟩),
 (47,⟨.sl 112,1,24,[.slice none 0 0]⟩),
 (49,⟨.st [(0,3),(1,47)],2,32,[.int .i64 0,.slice none 0 0]⟩),
 (70,⟨.sl 49,1,24,[.slice none 0 0]⟩),
 (72,⟨.st [(0,26),(3,70)],4,64,[.int .i64 0,.int .i64 0,.slice none 0 0,.slice none 0 0]⟩),
 (77,⟨.sl 78,1,24,[.slice none 0 0]⟩),
 (78,⟨.st [(0,3),(1,3)],2,16,[.int .i64 0,.int .i64 0]⟩),
 (86,⟨.other,1,8,[.pointer none]⟩),
 (89,⟨.sl 29,1,24,[.slice none 0 0]⟩),
 (90,⟨.sl 26,1,24,[.slice none 0 0]⟩),
 (112,⟨.st [(0,24),(1,3)],2,32,[.slice none 0 0,.int .i64 0]⟩),
 (116,⟨.st [(0,3),(1,42)],2,32,[.int .i64 0,.slice none 0 0]⟩),
 (123,⟨.sl 42,1,24,[.slice none 0 0]⟩),
 (135,⟨.sl 172,1,24,[.slice none 0 0]⟩),
 (141,⟨.st [(0,22),(1,3),(2,3)],3,40,[.slice none 0 0,.int .i64 0,.int .i64 0]⟩),
 (151,⟨.other,1,8,[.pointer none]⟩),
 (155,⟨.arr 8 3,8,64,[.int .i64 0,.int .i64 0,.int .i64 0,.int .i64 0,.int .i64 0,.int .i64 0,.int .i64 0,.int .i64 0]⟩),
 (169,⟨.arr 2 49,4,64,[.int .i64 0,.slice none 0 0,.int .i64 0,.slice none 0 0]⟩),
 (172,⟨.st [(0,3),(1,3)],2,16,[.int .i64 0,.int .i64 0]⟩),
 (173,⟨.sl 135,1,24,[.slice none 0 0]⟩),
 (174,⟨.sl 4,1,24,[.slice none 0 0]⟩),
 (184,⟨.map 155 3,1,8,[.map none]⟩),
 (186,⟨.st [(0,3),(1,184)],2,16,[.int .i64 0,.map none]⟩),
 (199,⟨.sl 9,1,24,[.slice none 0 0]⟩),
 (201,⟨.int .u64,1,8,[.int .u64 0]⟩)]
theorem tt2:tget TTab 2=some ⟨.int .i64,1,8,[.int .i64 0]⟩:=rfl
theorem tt3:tget TTab 3=some ⟨.int .i64,1,8,[.int .i64 0]⟩:=rfl
theorem tt4:tget TTab 4=some ⟨.bool,1,1,[.bool false]⟩:=rfl
theorem tt5:tget TTab 5=some ⟨.int .u8,1,1,[.int .u8 0]⟩:=rfl
theorem tt6:tget TTab 6=some ⟨.int .u8,1,1,[.int .u8 0]⟩:=rfl
theorem tt9:tget TTab 9=some ⟨.str,1,16,[.string .empty]⟩:=rfl
theorem tt22:tget TTab 22=some ⟨.sl 5,1,24,[.slice none 0 0]⟩:=rfl
theorem tt24:tget TTab 24=some ⟨.sl 3,1,24,[.slice none 0 0]⟩:=rfl
theorem tt26:tget TTab 26=some ⟨.st [(0,3),(1,3),(2,24)],3,40,[.int .i64 0,.int .i64 0,.slice none 0 0]⟩:=rfl
theorem tt29:tget TTab 29=some ⟨.sl 24,1,24,[.slice none 0 0]⟩:=rfl
theorem tt42:tget TTab 42=some ⟨.sl 44,1,24,[.slice none 0 0]⟩:=rfl
theorem tt44:tget TTab 44=some ⟨.st [(0,3),(1,3)],2,16,[.int .i64 0,.int .i64 0]⟩:=rfl
theorem tt47:tget TTab 47=some ⟨.sl 112,1,24,[.slice none 0 0]⟩:=rfl
theorem tt49:tget TTab 49=some ⟨.st [(0,3),(1,47)],2,32,[.int .i64 0,.slice none 0 0]⟩:=rfl
theorem tt70:tget TTab 70=some ⟨.sl 49,1,24,[.slice none 0 0]⟩:=rfl
theorem tt72:tget TTab 72=some ⟨.st [(0,26),(3,70)],4,64,[.int .i64 0,.int .i64 0,.slice none 0 0,.slice none 0 0]⟩:=rfl
theorem tt77:tget TTab 77=some ⟨.sl 78,1,24,[.slice none 0 0]⟩:=rfl
theorem tt78:tget TTab 78=some ⟨.st [(0,3),(1,3)],2,16,[.int .i64 0,.int .i64 0]⟩:=rfl
theorem tt86:tget TTab 86=some ⟨.other,1,8,[.pointer none]⟩:=rfl
theorem tt89:tget TTab 89=some ⟨.sl 29,1,24,[.slice none 0 0]⟩:=rfl
theorem tt90:tget TTab 90=some ⟨.sl 26,1,24,[.slice none 0 0]⟩:=rfl
theorem tt112:tget TTab 112=some ⟨.st [(0,24),(1,3)],2,32,[.slice none 0 0,.int .i64 0]⟩:=rfl
theorem tt116:tget TTab 116=some ⟨.st [(0,3),(1,42)],2,32,[.int .i64 0,.slice none 0 0]⟩:=rfl
theorem tt123:tget TTab 123=some ⟨.sl 42,1,24,[.slice none 0 0]⟩:=rfl
theorem tt135:tget TTab 135=some ⟨.sl 172,1,24,[.slice none 0 0]⟩:=rfl
theorem tt141:tget TTab 141=some ⟨.st [(0,22),(1,3),(2,3)],3,40,[.slice none 0 0,.int .i64 0,.int .i64 0]⟩:=rfl
theorem tt151:tget TTab 151=some ⟨.other,1,8,[.pointer none]⟩:=rfl
theorem tt155:tget TTab 155=some ⟨.arr 8 3,8,64,[.int .i64 0,.int .i64 0,.int .i64 0,.int .i64 0,.int .i64 0,.int .i64 0,.int .i64 0,.int .i64 0]⟩:=rfl
theorem tt169:tget TTab 169=some ⟨.arr 2 49,4,64,[.int .i64 0,.slice none 0 0,.int .i64 0,.slice none 0 0]⟩:=rfl
theorem tt172:tget TTab 172=some ⟨.st [(0,3),(1,3)],2,16,[.int .i64 0,.int .i64 0]⟩:=rfl
theorem tt173:tget TTab 173=some ⟨.sl 135,1,24,[.slice none 0 0]⟩:=rfl
theorem tt174:tget TTab 174=some ⟨.sl 4,1,24,[.slice none 0 0]⟩:=rfl
theorem tt184:tget TTab 184=some ⟨.map 155 3,1,8,[.map none]⟩:=rfl
theorem tt186:tget TTab 186=some ⟨.st [(0,3),(1,184)],2,16,[.int .i64 0,.map none]⟩:=rfl
theorem tt199:tget TTab 199=some ⟨.sl 9,1,24,[.slice none 0 0]⟩:=rfl
theorem tt201:tget TTab 201=some ⟨.int .u64,1,8,[.int .u64 0]⟩:=rfl
attribute [simp] tt2 tt3 tt4 tt5 tt6 tt9 tt22 tt24 tt26 tt29 tt42 tt44 tt47 tt49 tt70 tt72 tt77 tt78 tt86 tt89 tt90 tt112 tt116 tt123 tt135 tt141 tt151 tt155 tt169 tt172 tt173 tt174 tt184 tt186 tt199 tt201
def MM:List (Nat×List Bool):=[(50,[true,false]),(51,[true,false]),(54,[true]),(71,[true,false]),(72,[true,false,false]),(73,[true,false]),(108,[true,false]),(110,[true,false]),(124,[true,false]),(126,[true,false]),(130,[true,false,false]),(133,[true]),(163,[true,false]),(165,[true,false]),(166,[true,true]),(172,[true]),(173,[true,true]),(174,[true,false]),(187,[true,true,false,false,false,false]),(195,[true,false])]
theorem mm0:aget [] MM 0=[]:=rfl
theorem mm1:aget [] MM 1=[]:=rfl
theorem mm2:aget [] MM 2=[]:=rfl
theorem mm3:aget [] MM 3=[]:=rfl
theorem mm4:aget [] MM 4=[]:=rfl
theorem mm5:aget [] MM 5=[]:=rfl
theorem mm6:aget [] MM 6=[]:=rfl
theorem mm7:aget [] MM 7=[]:=rfl
theorem mm8:aget [] MM 8=[]:=rfl
theorem mm9:aget [] MM 9=[]:=rfl
theorem mm10:aget [] MM 10=[]:=rfl
theorem mm11:aget [] MM 11=[]:=rfl
theorem mm12:aget [] MM 12=[]:=rfl
theorem mm13:aget [] MM 13=[]:=rfl
theorem mm14:aget [] MM 14=[]:=rfl
theorem mm15:aget [] MM 15=[]:=rfl
theorem mm16:aget [] MM 16=[]:=rfl
theorem mm17:aget [] MM 17=[]:=rfl
theorem mm18:aget [] MM 18=[]:=rfl
theorem mm19:aget [] MM 19=[]:=rfl
theorem mm20:aget [] MM 20=[]:=rfl
theorem mm21:aget [] MM 21=[]:=rfl
theorem mm22:aget [] MM 22=[]:=rfl
theorem mm23:aget [] MM 23=[]:=rfl
theorem mm24:aget [] MM 24=[]:=rfl
theorem mm25:aget [] MM 25=[]:=rfl
theorem mm26:aget [] MM 26=[]:=rfl
theorem mm27:aget [] MM 27=[]:=rfl
theorem mm28:aget [] MM 28=[]:=rfl
theorem mm29:aget [] MM 29=[]:=rfl
theorem mm30:aget [] MM 30=[]:=rfl
theorem mm31:aget [] MM 31=[]:=rfl
theorem mm32:aget [] MM 32=[]:=rfl
theorem mm33:aget [] MM 33=[]:=rfl
theorem mm34:aget [] MM 34=[]:=rfl
theorem mm35:aget [] MM 35=[]:=rfl
theorem mm36:aget [] MM 36=[]:=rfl
theorem mm37:aget [] MM 37=[]:=rfl
theorem mm38:aget [] MM 38=[]:=rfl
theorem mm39:aget [] MM 39=[]:=rfl
theorem mm40:aget [] MM 40=[]:=rfl
theorem mm41:aget [] MM 41=[]:=rfl
theorem mm42:aget [] MM 42=[]:=rfl
theorem mm43:aget [] MM 43=[]:=rfl
theorem mm44:aget [] MM 44=[]:=rfl
theorem mm45:aget [] MM 45=[]:=rfl
theorem mm46:aget [] MM 46=[]:=rfl
theorem mm47:aget [] MM 47=[]:=rfl
theorem mm48:aget [] MM 48=[]:=rfl
theorem mm49:aget [] MM 49=[]:=rfl
theorem mm50:aget [] MM 50=[true,false]:=rfl
theorem mm51:aget [] MM 51=[true,false]:=rfl
theorem mm52:aget [] MM 52=[]:=rfl
theorem mm53:aget [] MM 53=[]:=rfl
theorem mm54:aget [] MM 54=[true]:=rfl
theorem mm55:aget [] MM 55=[]:=rfl
theorem mm56:aget [] MM 56=[]:=rfl
theorem mm57:aget [] MM 57=[]:=rfl
theorem mm58:aget [] MM 58=[]:=rfl
theorem mm59:aget [] MM 59=[]:=rfl
theorem mm60:aget [] MM 60=[]:=rfl
theorem mm61:aget [] MM 61=[]:=rfl
theorem mm62:aget [] MM 62=[]:=rfl
theorem mm63:aget [] MM 63=[]:=rfl
theorem mm64:aget [] MM 64=[]:=rfl
theorem mm65:aget [] MM 65=[]:=rfl
theorem mm66:aget [] MM 66=[]:=rfl
theorem mm67:aget [] MM 67=[]:=rfl
theorem mm68:aget [] MM 68=[]:=rfl
theorem mm69:aget [] MM 69=[]:=rfl
theorem mm70:aget [] MM 70=[]:=rfl
theorem mm71:aget [] MM 71=[true,false]:=rfl
theorem mm72:aget [] MM 72=[true,false,false]:=rfl
theorem mm73:aget [] MM 73=[true,false]:=rfl
theorem mm74:aget [] MM 74=[]:=rfl
theorem mm75:aget [] MM 75=[]:=rfl
theorem mm76:aget [] MM 76=[]:=rfl
theorem mm77:aget [] MM 77=[]:=rfl
theorem mm78:aget [] MM 78=[]:=rfl
theorem mm79:aget [] MM 79=[]:=rfl
theorem mm80:aget [] MM 80=[]:=rfl
theorem mm81:aget [] MM 81=[]:=rfl
theorem mm82:aget [] MM 82=[]:=rfl
theorem mm83:aget [] MM 83=[]:=rfl
theorem mm84:aget [] MM 84=[]:=rfl
theorem mm85:aget [] MM 85=[]:=rfl
theorem mm86:aget [] MM 86=[]:=rfl
theorem mm87:aget [] MM 87=[]:=rfl
theorem mm88:aget [] MM 88=[]:=rfl
theorem mm89:aget [] MM 89=[]:=rfl
theorem mm90:aget [] MM 90=[]:=rfl
theorem mm91:aget [] MM 91=[]:=rfl
theorem mm92:aget [] MM 92=[]:=rfl
theorem mm93:aget [] MM 93=[]:=rfl
theorem mm94:aget [] MM 94=[]:=rfl
theorem mm95:aget [] MM 95=[]:=rfl
theorem mm96:aget [] MM 96=[]:=rfl
theorem mm97:aget [] MM 97=[]:=rfl
theorem mm98:aget [] MM 98=[]:=rfl
theorem mm99:aget [] MM 99=[]:=rfl
theorem mm100:aget [] MM 100=[]:=rfl
theorem mm101:aget [] MM 101=[]:=rfl
theorem mm102:aget [] MM 102=[]:=rfl
theorem mm103:aget [] MM 103=[]:=rfl
theorem mm104:aget [] MM 104=[]:=rfl
theorem mm105:aget [] MM 105=[]:=rfl
theorem mm106:aget [] MM 106=[]:=rfl
theorem mm107:aget [] MM 107=[]:=rfl
theorem mm108:aget [] MM 108=[true,false]:=rfl
theorem mm109:aget [] MM 109=[]:=rfl
theorem mm110:aget [] MM 110=[true,false]:=rfl
theorem mm111:aget [] MM 111=[]:=rfl
theorem mm112:aget [] MM 112=[]:=rfl
theorem mm113:aget [] MM 113=[]:=rfl
theorem mm114:aget [] MM 114=[]:=rfl
theorem mm115:aget [] MM 115=[]:=rfl
theorem mm116:aget [] MM 116=[]:=rfl
theorem mm117:aget [] MM 117=[]:=rfl
theorem mm118:aget [] MM 118=[]:=rfl
theorem mm119:aget [] MM 119=[]:=rfl
theorem mm120:aget [] MM 120=[]:=rfl
theorem mm121:aget [] MM 121=[]:=rfl
theorem mm122:aget [] MM 122=[]:=rfl
theorem mm123:aget [] MM 123=[]:=rfl
theorem mm124:aget [] MM 124=[true,false]:=rfl
theorem mm125:aget [] MM 125=[]:=rfl
theorem mm126:aget [] MM 126=[true,false]:=rfl
theorem mm127:aget [] MM 127=[]:=rfl
theorem mm128:aget [] MM 128=[]:=rfl
theorem mm129:aget [] MM 129=[]:=rfl
theorem mm130:aget [] MM 130=[true,false,false]:=rfl
theorem mm131:aget [] MM 131=[]:=rfl
theorem mm132:aget [] MM 132=[]:=rfl
theorem mm133:aget [] MM 133=[true]:=rfl
theorem mm134:aget [] MM 134=[]:=rfl
theorem mm135:aget [] MM 135=[]:=rfl
theorem mm136:aget [] MM 136=[]:=rfl
theorem mm137:aget [] MM 137=[]:=rfl
theorem mm138:aget [] MM 138=[]:=rfl
theorem mm139:aget [] MM 139=[]:=rfl
theorem mm140:aget [] MM 140=[]:=rfl
theorem mm141:aget [] MM 141=[]:=rfl
theorem mm142:aget [] MM 142=[]:=rfl
theorem mm143:aget [] MM 143=[]:=rfl
theorem mm144:aget [] MM 144=[]:=rfl
theorem mm145:aget [] MM 145=[]:=rfl
theorem mm146:aget [] MM 146=[]:=rfl
theorem mm147:aget [] MM 147=[]:=rfl
theorem mm148:aget [] MM 148=[]:=rfl
theorem mm149:aget [] MM 149=[]:=rfl
theorem mm150:aget [] MM 150=[]:=rfl
theorem mm151:aget [] MM 151=[]:=rfl
theorem mm152:aget [] MM 152=[]:=rfl
theorem mm153:aget [] MM 153=[]:=rfl
theorem mm154:aget [] MM 154=[]:=rfl
theorem mm155:aget [] MM 155=[]:=rfl
theorem mm156:aget [] MM 156=[]:=rfl
theorem mm157:aget [] MM 157=[]:=rfl
theorem mm158:aget [] MM 158=[]:=rfl
theorem mm159:aget [] MM 159=[]:=rfl
theorem mm160:aget [] MM 160=[]:=rfl
theorem mm161:aget [] MM 161=[]:=rfl
theorem mm162:aget [] MM 162=[]:=rfl
theorem mm163:aget [] MM 163=[true,false]:=rfl
theorem mm164:aget [] MM 164=[]:=rfl
theorem mm165:aget [] MM 165=[true,false]:=rfl
theorem mm166:aget [] MM 166=[true,true]:=rfl
theorem mm167:aget [] MM 167=[]:=rfl
theorem mm168:aget [] MM 168=[]:=rfl
theorem mm169:aget [] MM 169=[]:=rfl
theorem mm170:aget [] MM 170=[]:=rfl
theorem mm171:aget [] MM 171=[]:=rfl
theorem mm172:aget [] MM 172=[true]:=rfl
theorem mm173:aget [] MM 173=[true,true]:=rfl
theorem mm174:aget [] MM 174=[true,false]:=rfl
theorem mm175:aget [] MM 175=[]:=rfl
theorem mm176:aget [] MM 176=[]:=rfl
theorem mm177:aget [] MM 177=[]:=rfl
theorem mm178:aget [] MM 178=[]:=rfl
theorem mm179:aget [] MM 179=[]:=rfl
theorem mm180:aget [] MM 180=[]:=rfl
theorem mm181:aget [] MM 181=[]:=rfl
theorem mm182:aget [] MM 182=[]:=rfl
theorem mm183:aget [] MM 183=[]:=rfl
theorem mm184:aget [] MM 184=[]:=rfl
theorem mm185:aget [] MM 185=[]:=rfl
theorem mm186:aget [] MM 186=[]:=rfl
theorem mm187:aget [] MM 187=[true,true,false,false,false,false]:=rfl
theorem mm188:aget [] MM 188=[]:=rfl
theorem mm189:aget [] MM 189=[]:=rfl
theorem mm190:aget [] MM 190=[]:=rfl
theorem mm191:aget [] MM 191=[]:=rfl
theorem mm192:aget [] MM 192=[]:=rfl
theorem mm193:aget [] MM 193=[]:=rfl
theorem mm194:aget [] MM 194=[]:=rfl
theorem mm195:aget [] MM 195=[true,false]:=rfl
theorem mm196:aget [] MM 196=[]:=rfl
theorem mm197:aget [] MM 197=[]:=rfl
theorem mm198:aget [] MM 198=[]:=rfl
theorem mm199:aget [] MM 199=[]:=rfl
theorem mm200:aget [] MM 200=[]:=rfl
theorem mm201:aget [] MM 201=[]:=rfl
theorem mm202:aget [] MM 202=[]:=rfl
theorem mm203:aget [] MM 203=[]:=rfl
theorem mm204:aget [] MM 204=[]:=rfl
theorem mm205:aget [] MM 205=[]:=rfl
theorem mm206:aget [] MM 206=[]:=rfl
theorem mm207:aget [] MM 207=[]:=rfl
theorem mm208:aget [] MM 208=[]:=rfl
theorem mm209:aget [] MM 209=[]:=rfl
theorem mm210:aget [] MM 210=[]:=rfl
theorem mm211:aget [] MM 211=[]:=rfl
theorem mm212:aget [] MM 212=[]:=rfl
theorem mm213:aget [] MM 213=[]:=rfl
theorem mm214:aget [] MM 214=[]:=rfl
theorem mm215:aget [] MM 215=[]:=rfl
theorem mm216:aget [] MM 216=[]:=rfl
theorem mm217:aget [] MM 217=[]:=rfl
theorem mm218:aget [] MM 218=[]:=rfl
theorem mm219:aget [] MM 219=[]:=rfl
theorem mm220:aget [] MM 220=[]:=rfl
theorem mm221:aget [] MM 221=[]:=rfl
theorem mm222:aget [] MM 222=[]:=rfl
theorem mm223:aget [] MM 223=[]:=rfl
theorem mm224:aget [] MM 224=[]:=rfl
theorem mm225:aget [] MM 225=[]:=rfl
theorem mm226:aget [] MM 226=[]:=rfl
theorem mm227:aget [] MM 227=[]:=rfl
attribute [simp] mm0 mm1 mm2 mm3 mm4 mm5 mm6 mm7 mm8 mm9 mm10 mm11 mm12 mm13 mm14 mm15 mm16 mm17 mm18 mm19 mm20 mm21 mm22 mm23 mm24 mm25 mm26 mm27 mm28 mm29 mm30 mm31 mm32 mm33 mm34 mm35 mm36 mm37 mm38 mm39 mm40 mm41 mm42 mm43 mm44 mm45 mm46 mm47 mm48 mm49 mm50 mm51 mm52 mm53 mm54 mm55 mm56 mm57 mm58 mm59 mm60 mm61 mm62 mm63 mm64 mm65 mm66 mm67 mm68 mm69 mm70 mm71 mm72 mm73 mm74 mm75 mm76 mm77 mm78 mm79 mm80 mm81 mm82 mm83 mm84 mm85 mm86 mm87 mm88 mm89 mm90 mm91 mm92 mm93 mm94 mm95 mm96 mm97 mm98 mm99 mm100 mm101 mm102 mm103 mm104 mm105 mm106 mm107 mm108 mm109 mm110 mm111 mm112 mm113 mm114 mm115 mm116 mm117 mm118 mm119 mm120 mm121 mm122 mm123 mm124 mm125 mm126 mm127 mm128 mm129 mm130 mm131 mm132 mm133 mm134 mm135 mm136 mm137 mm138 mm139 mm140 mm141 mm142 mm143 mm144 mm145 mm146 mm147 mm148 mm149 mm150 mm151 mm152 mm153 mm154 mm155 mm156 mm157 mm158 mm159 mm160 mm161 mm162 mm163 mm164 mm165 mm166 mm167 mm168 mm169 mm170 mm171 mm172 mm173 mm174 mm175 mm176 mm177 mm178 mm179 mm180 mm181 mm182 mm183 mm184 mm185 mm186 mm187 mm188 mm189 mm190 mm191 mm192 mm193 mm194 mm195 mm196 mm197 mm198 mm199 mm200 mm201 mm202 mm203 mm204 mm205 mm206 mm207 mm208 mm209 mm210 mm211 mm212 mm213 mm214 mm215 mm216 mm217 mm218 mm219 mm220 mm221 mm222 mm223 mm224 mm225 mm226 mm227
namespace F
abbrev laws_FnForms:Nat:=3
abbrev laws_big:Nat:=9
abbrev spec_DrawQuantumWalk:Nat:=10
abbrev impl_FormAlong:Nat:=11
abbrev impl_PrincipalMatrix:Nat:=12
abbrev impl_MutateAlong:Nat:=13
abbrev impl_SymmetrizerOf:Nat:=14
abbrev impl_IsForm:Nat:=15
abbrev spec_FormAlong:Nat:=16
abbrev laws_entry:Nat:=17
abbrev laws_at0:Nat:=18
abbrev impl_MutateForm:Nat:=19
abbrev impl_MutateMatrix:Nat:=20
abbrev spec_MutateForm:Nat:=21
abbrev laws_rows:Nat:=22
abbrev laws_ints:Nat:=33
abbrev spec_l1New:Nat:=53
abbrev spec_dQuantum:Nat:=54
abbrev impl_forms:Nat:=55
abbrev impl_MatrixOk:Nat:=56
abbrev slices_Clone_int_int:Nat:=57
abbrev impl_shaped:Nat:=58
abbrev impl_factors:Nat:=59
abbrev impl_within:Nat:=60
abbrev spec_FormOf:Nat:=61
abbrev spec_l4Along:Nat:=62
abbrev impl_unit:Nat:=63
abbrev impl_Matrix_at:Nat:=64
abbrev impl_paired:Nat:=65
abbrev impl_mutated:Nat:=66
abbrev spec_l8Form:Nat:=67
abbrev spec_MatrixOk:Nat:=68
abbrev spec_l1In:Nat:=69
abbrev spec_l8Mutate:Nat:=70
abbrev spec_dSteps:Nat:=72
abbrev spec_l1Ints:Nat:=83
abbrev slices_ContainsFunc_int_int:Nat:=90
abbrev spec_dFinite:Nat:=110
abbrev impl_walk:Nat:=111
abbrev impl_FormOf:Nat:=112
abbrev impl_shaped_1:Nat:=113
abbrev impl_gcd:Nat:=114
abbrev spec_l4Square:Nat:=115
abbrev spec_l8FormOf:Nat:=116
abbrev spec_l1Principal:Nat:=117
abbrev spec_MutateMatrix:Nat:=118
abbrev spec_l1Sizes:Nat:=119
abbrev spec_l1Factors:Nat:=120
abbrev spec_l1At:Nat:=121
abbrev spec_l3Unit:Nat:=122
abbrev spec_l8Skew:Nat:=123
abbrev spec_l1Below:Nat:=124
abbrev spec_dNames:Nat:=126
abbrev slices_IndexFunc_int_int:Nat:=150
abbrev spec_dTree:Nat:=165
abbrev spec_dMoved:Nat:=166
abbrev spec_l1CopyMatrix:Nat:=167
abbrev spec_l1Mutate:Nat:=168
abbrev spec_l1Piece:Nat:=169
abbrev spec_l1Abs:Nat:=170
abbrev spec_l1Gcd:Nat:=171
abbrev spec_l1Byte:Nat:=172
abbrev spec_dZero:Nat:=186
abbrev spec_dJoin:Nat:=187
abbrev spec_FormatInt:Nat:=188
abbrev spec_l1Rename:Nat:=189
abbrev spec_l1Has:Nat:=190
abbrev spec_l1Once:Nat:=195
end F
namespace C
noncomputable def spec_l1Ints:Ctx:={ P:=Try.prog,T:=TTab,M:=MM,nW:=0,kp:=[(0,[0]),(1,[2])],lp:=[],pl:=[] }
noncomputable def spec_l1CopyMatrix:Ctx:={ P:=Try.prog,T:=TTab,M:=MM,nW:=0,kp:=[(0,[1,2]),(1,[2])],lp:=[],pl:=[(1,.take 0 (.take 1 (.take 2 (.take 3 (.take 4 (.take 5 (.all [(6,.take 7 (.all [(8,.done)]))])))))))] }
noncomputable def spec_l1In:Ctx:={ P:=Try.prog,T:=TTab,M:=MM,nW:=0,kp:=[(0,[0,1,2]),(1,[6])],lp:=[],pl:=[] }
noncomputable def spec_l3Unit:Ctx:={ P:=Try.prog,T:=TTab,M:=MM,nW:=0,kp:=[(0,[0,1]),(1,[1,5]),(2,[5]),(3,[4])],lp:=[],pl:=[] }
noncomputable def impl_within:Ctx:={ P:=Try.prog,T:=TTab,M:=MM,nW:=0,kp:=[(0,[0,1,2]),(1,[6])],lp:=[],pl:=[] }
noncomputable def slices_IndexFunc_int_int:Ctx:={ P:=Try.prog,T:=TTab,M:=MM,nW:=0,kp:=[(0,[0,1]),(1,[0,1,7,8]),(2,[0,1,7,8,9]),(3,[0,1,5,7,8]),(4,[0,1,5,7,8,16]),(5,[4]),(6,[0,1,7,8]),(7,[4])],lp:=[(0,[0,1,7,8])],pl:=[] }
noncomputable def slices_ContainsFunc_int_int:Ctx:={ P:=Try.prog,T:=TTab,M:=MM,nW:=0,kp:=[(0,[0,1]),(1,[4])],lp:=[],pl:=[] }
noncomputable def impl_shaped_1:Ctx:={ P:=Try.prog,T:=TTab,M:=MM,nW:=0,kp:=[(0,[0]),(1,[2])],lp:=[],pl:=[] }
noncomputable def impl_shaped:Ctx:={ P:=Try.prog,T:=TTab,M:=MM,nW:=0,kp:=[(0,[1]),(1,[2])],lp:=[],pl:=[] }
noncomputable def impl_Matrix_at:Ctx:={ P:=Try.prog,T:=TTab,M:=MM,nW:=0,kp:=[(0,[1,2,3]),(1,[6])],lp:=[],pl:=[] }
noncomputable def impl_gcd:Ctx:={ P:=Try.prog,T:=TTab,M:=MM,nW:=0,kp:=[(0,[0,1]),(1,[0,1,6]),(2,[0,1]),(3,[4])],lp:=[(0,[0,1])],pl:=[(2,.take 0 (.take 1 (.take 2 (.take 3 (.take 4 (.take 5 (.done)))))))] }
noncomputable def impl_factors:Ctx:={ P:=Try.prog,T:=TTab,M:=MM,nW:=0,kp:=[(0,[1]),(1,[1,3,4]),(2,[1,3,4,5]),(3,[1,3,4,5,34,35]),(4,[1,3,4,5,34,35,36]),(5,[1,3,4,5,6,34,35]),(6,[1,3,4,5,6,34,35,42]),(7,[1,3,4,5,6,34,35]),(8,[1,3,4,5,7,34,35]),(9,[1,3,4,5,7,8,34,35]),(10,[1,3,4,5,7,8,34,35,54]),(11,[1,3,4,5,7,8,34,35]),(12,[1,3,4,5,7,8,9,34,35]),(13,[1,3,4,5,7,8,9,34,35,62,63]),(14,[1,3,4,5,7,8,9,34,35,62,63,64]),(15,[1,3,4,5,7,8,9,10,34,35,62,63]),(16,[1,3,4,5,7,8,9,10,11,12,34,35,62,63]),(17,[1,3,4,5,7,8,9,10,11,12,34,35,62,63,80]),(18,[1,3,4,5,7,8,9,10,11,12,34,35,62,63,98]),(19,[2]),(20,[1,3,4,5,7,8,9,10,13,14,34,35,62,63]),(21,[1,3,4,5,7,8,9,10,13,14,15,34,35,62,63]),(22,[1,3,4,5,7,8,9,10,13,14,34,35,62,63]),(23,[1,3,4,5,7,8,9,10,13,14,34,35,62,63,130]),(24,[1,3,4,5,7,8,9,10,34,35,62,63]),(25,[1,3,4,5,7,8,9,34,35,62,63]),(26,[1,3,4,5,7,8,9,34,35,62,63,156]),(27,[2]),(28,[1,3,4,5,7,8,9,34,35,62,63]),(29,[1,3,4,5,7,16,34,35]),(30,[1,3,4,5,7,16,34,35,158,159,160]),(31,[1,3,4,5,7,16,34,35,158,159,160,161]),(32,[1,3,4,5,7,16,18,34,35,158,159,160]),(33,[1,3,4,5,7,16,34,35,158,159,160]),(34,[1,3,4,5,7,16,34,35,158,159,160]),(35,[1,3,4,5,7,16,19,34,35]),(36,[1,3,4,5,7,16,19,34,35,178,179,180]),(37,[1,3,4,5,7,16,19,34,35,178,179,180,181]),(38,[1,3,4,5,7,16,19,21,34,35,178,179,180]),(39,[1,3,4,5,7,16,19,21,34,35,178,179,180]),(40,[1,3,4,5,7,16,19,34,35,178,179,180]),(41,[1,3,4,5,7,16,19,34,35,178,179,180]),(42,[1,3,4,5,19,34,35,205,206,207]),(43,[1,3,4,5,19,34,35,205,206,207,208]),(44,[1,3,4,5,19,23,34,35,205,206,207]),(45,[1,3,4,5,19,34,35,205,206,207]),(46,[1,3,4,5,19,34,35,205,206,207]),(47,[1,3,4,5,34,35]),(48,[2])],lp:=[(0,[1,3,4,5,34,35]),(2,[1,3,4,5,7,8,34,35]),(4,[1,3,4,5,7,8,9,34,35,62,63]),(6,[1,3,4,5,7,16,34,35,158,159,160]),(8,[1,3,4,5,7,16,19,34,35,178,179,180]),(10,[1,3,4,5,19,34,35,205,206,207])],pl:=[(1,.take 0 (.take 1 (.take 3 (.take 4 (.all [(2,.take 6 (.all [(5,.take 7 (.done))])),(5,.all [(2,.take 6 (.take 7 (.done)))])]))))),(16,.take 0 (.take 1 (.take 2 (.take 4 (.take 5 (.take 6 (.all [(3,.all [(7,.take 8 (.take 9 (.take 10 (.done))))])]))))))),(20,.take 0 (.take 1 (.take 2 (.take 3 (.take 4 (.take 5 (.take 6 (.take 7 (.take 8 (.take 9 (.take 10 (.take 11 (.take 12 (.take 13 (.take 14 (.take 15 (.take 16 (.take 17 (.take 18 (.take 19 (.done))))))))))))))))))))),(22,.take 0 (.take 1 (.take 2 (.take 3 (.take 4 (.take 5 (.take 6 (.take 7 (.done))))))))),(33,.take 0 (.take 1 (.take 2 (.take 3 (.take 4 (.take 5 (.take 8 (.take 9 (.take 10 (.take 11 (.all [(6,.take 7 (.take 12 (.take 13 (.done))))]))))))))))),(39,.take 0 (.take 1 (.take 2 (.take 3 (.take 4 (.take 5 (.take 6 (.take 7 (.take 8 (.take 9 (.take 10 (.take 11 (.take 12 (.take 13 (.all [(14,.done)])))))))))))))))] }
noncomputable def impl_MatrixOk:Ctx:={ P:=Try.prog,T:=TTab,M:=MM,nW:=0,kp:=[(0,[1]),(1,[2])],lp:=[],pl:=[] }
noncomputable def slices_Clone_int_int:Ctx:={ P:=Try.prog,T:=TTab,M:=MM,nW:=0,kp:=[(0,[0]),(1,[0,4]),(2,[2]),(3,[2])],lp:=[],pl:=[] }
noncomputable def impl_unit:Ctx:={ P:=Try.prog,T:=TTab,M:=MM,nW:=0,kp:=[(0,[0,1]),(1,[1,5]),(2,[5]),(3,[4])],lp:=[],pl:=[] }
noncomputable def impl_paired:Ctx:={ P:=Try.prog,T:=TTab,M:=MM,nW:=0,kp:=[(0,[0,1,2]),(1,[0,1,2,7]),(2,[1,2,7,12,13,14]),(3,[1,2,7,12,13,14,15]),(4,[1,2,7,8,9,12,13,14]),(5,[1,2,7,8,12,13,14,19,20,21]),(6,[1,2,7,8,12,13,14,19,20,21,22]),(7,[1,2,7,8,10,11,12,13,14,19,20,21]),(8,[1,2,7,8,12,13,14,19,20,21]),(9,[1,2,7,8,12,13,14,19,20,21]),(10,[1,2,7,12,13,14]),(11,[6])],lp:=[(0,[1,2,7,12,13,14]),(2,[1,2,7,8,12,13,14,19,20,21])],pl:=[(8,.take 0 (.take 1 (.take 2 (.take 3 (.take 4 (.take 5 (.take 6 (.take 7 (.take 8 (.take 9 (.take 10 (.take 11 (.take 12 (.take 13 (.done)))))))))))))))] }
noncomputable def impl_IsForm:Ctx:={ P:=Try.prog,T:=TTab,M:=MM,nW:=0,kp:=[(0,[0]),(1,[0,3]),(2,[0,3,13]),(3,[2]),(4,[0,3,14,15,16]),(5,[0,3,14,15,16,17]),(6,[0,3,5,14,15,16]),(7,[0,3,14,15,16,23]),(8,[2]),(9,[0,3,14,15,16]),(10,[0,26,27]),(11,[0,26,27,28]),(12,[0,6,26,27]),(13,[0,6,26,27,33,34,35]),(14,[0,6,26,27,33,34,35,36]),(15,[0,6,7,8,26,27,33,34,35]),(16,[0,6,26,27,33,34,35,54]),(17,[2]),(18,[0,6,26,27,33,34,35]),(19,[0,26,27]),(20,[2])],lp:=[(0,[0,3,14,15,16]),(2,[0,26,27]),(4,[0,6,26,27,33,34,35])],pl:=[] }
noncomputable def spec_l8Form:Ctx:={ P:=Try.prog,T:=TTab,M:=MM,nW:=0,kp:=[(0,[0]),(1,[0,3]),(2,[0,3,11]),(3,[2]),(4,[0,3,4]),(5,[0,3,4,14]),(6,[0,3,4]),(7,[0,3,4,23]),(8,[2]),(9,[0,3,5]),(10,[0,3,5,26]),(11,[0,3,5]),(12,[0,3,5,6]),(13,[0,3,5,6,31]),(14,[0,3,5,6]),(15,[0,3,5,6,60]),(16,[2]),(17,[2])],lp:=[(0,[0,3,4]),(2,[0,3,5]),(4,[0,3,5,6])],pl:=[(15,.take 0 (.take 1 (.take 2 (.take 3 (.take 4 (.take 5 (.take 6 (.all [(7,.take 8 (.take 9 (.take 10 (.take 11 (.take 12 (.take 13 (.take 14 (.take 15 (.take 16 (.take 17 (.take 18 (.take 19 (.take 20 (.take 21 (.take 22 (.take 23 (.take 24 (.take 25 (.take 26 (.done))))))))))))))))))))]))))))))] }
noncomputable def spec_l8Skew:Ctx:={ P:=Try.prog,T:=TTab,M:=MM,nW:=0,kp:=[(0,[0,1,2]),(1,[0,1,2,7]),(2,[0,1,2,7,8]),(3,[0,1,2,7,8,13]),(4,[0,1,2,7,8]),(5,[0,1,2,7,8,9]),(6,[0,1,2,7,8,9,19]),(7,[0,1,2,7,8,9]),(8,[0,1,2,7,8,9]),(9,[6])],lp:=[(0,[0,1,2,7,8]),(2,[0,1,2,7,8,9])],pl:=[(8,.take 0 (.take 1 (.take 2 (.take 3 (.take 4 (.take 5 (.take 6 (.take 7 (.take 8 (.take 9 (.take 10 (.take 11 (.take 12 (.take 13 (.take 14 (.take 15 (.take 16 (.take 17 (.take 18 (.take 19 (.done)))))))))))))))))))))] }
noncomputable def laws_big:Ctx:={ P:=Try.prog,T:=TTab,M:=MM,nW:=0,kp:=[(0,[0]),(1,[2])],lp:=[],pl:=[] }
noncomputable def spec_l1New:Ctx:={ P:=Try.prog,T:=TTab,M:=MM,nW:=0,kp:=[(0,[0]),(1,[0,3]),(2,[0,3,4]),(3,[0,3,4,15]),(4,[0,3,4]),(5,[0,3,4]),(6,[2])],lp:=[(0,[0,3,4])],pl:=[] }
noncomputable def spec_l1Byte:Ctx:={ P:=Try.prog,T:=TTab,M:=MM,nW:=1,kp:=[(0,[0]),(1,[0]),(2,[0,3]),(3,[0,3,34]),(4,[0,3]),(5,[3]),(6,[2])],lp:=[],pl:=[(2,.take 0 (.take 1 (.take 2 (.take 3 (.take 4 (.take 5 (.take 6 (.take 7 (.take 8 (.take 9 (.take 10 (.take 11 (.take 12 (.done)))))))))))))),(3,.take 0 (.take 1 (.take 2 (.take 3 (.take 4 (.take 5 (.take 6 (.take 7 (.take 8 (.take 9 (.done))))))))))),(4,.take 0 (.take 1 (.take 2 (.take 3 (.take 4 (.take 5 (.take 6 (.take 7 (.take 8 (.take 9 (.take 10 (.take 11 (.take 12 (.take 13 (.take 14 (.done))))))))))))))))] }
noncomputable def spec_l1Below:Ctx:={ P:=Try.prog,T:=TTab,M:=MM,nW:=1,kp:=[(0,[0,1]),(1,[0,1,10]),(2,[4]),(3,[0,1,12]),(4,[4]),(5,[0,1,5]),(6,[0,1,5,6]),(7,[0,1,5,6,7]),(8,[1,5,6,7,8]),(9,[4])],lp:=[],pl:=[] }
noncomputable def laws_ints:Ctx:={ P:=Try.prog,T:=TTab,M:=MM,nW:=0,kp:=[(0,[0,1]),(1,[0,1,10]),(2,[4]),(3,[0,1,5]),(4,[0,1,5,14]),(5,[0,1,5]),(6,[0,1,5,25]),(7,[4]),(8,[4])],lp:=[(0,[0,1,5])],pl:=[(6,.take 0 (.take 1 (.take 2 (.take 3 (.take 4 (.take 5 (.take 6 (.take 7 (.take 8 (.done))))))))))] }
noncomputable def impl_MutateMatrix:Ctx:={ P:=Try.prog,T:=TTab,M:=MM,nW:=0,kp:=[(0,[1,2,4]),(1,[1,2,4,17]),(2,[4,5]),(3,[4,6]),(4,[4,6,24]),(5,[4,5]),(6,[4,5])],lp:=[],pl:=[] }
noncomputable def impl_mutated:Ctx:={ P:=Try.prog,T:=TTab,M:=MM,nW:=0,kp:=[(0,[1,2,4]),(1,[1,2,4,5]),(2,[1,2,4,5,6]),(3,[1,2,4,5,6,22]),(4,[1,2,4,5,6]),(5,[1,2,4,5,6,7]),(6,[1,2,4,5,6,7,28]),(7,[1,2,4,5,6,7]),(8,[1,2,4,5,6,7,8]),(9,[1,2,4,5,6,7,8,9,10]),(10,[1,2,4,5,6,7,8,9,10,48]),(11,[1,2,4,5,6,7]),(12,[1,2,4,5,6,7,8,9,10,63]),(13,[1,2,4,5,6,7]),(14,[1,2,4,5,6,7,8,9,10,78]),(15,[1,2,4,5,6,7]),(16,[4])],lp:=[(0,[1,2,4,5,6]),(2,[1,2,4,5,6,7])],pl:=[(1,.take 0 (.take 1 (.take 2 (.take 3 (.take 4 (.take 5 (.all [(6,.take 7 (.all [(8,.all [(9,.done)])])),(8,.all [(6,.take 7 (.all [(9,.done)]))])]))))))),(9,.take 0 (.take 1 (.take 2 (.take 4 (.take 5 (.take 6 (.all [(3,.all [(7,.take 8 (.take 9 (.done)))])])))))))] }
noncomputable def spec_l1Abs:Ctx:={ P:=Try.prog,T:=TTab,M:=MM,nW:=0,kp:=[(0,[0]),(1,[2])],lp:=[],pl:=[] }
noncomputable def spec_l1At:Ctx:={ P:=Try.prog,T:=TTab,M:=MM,nW:=0,kp:=[(0,[1,2,3]),(1,[6])],lp:=[],pl:=[] }
noncomputable def spec_l1Gcd:Ctx:={ P:=Try.prog,T:=TTab,M:=MM,nW:=0,kp:=[(0,[0,1]),(1,[0,1,6]),(2,[0,1]),(3,[4])],lp:=[(0,[0,1])],pl:=[(2,.take 0 (.take 1 (.take 2 (.take 3 (.take 4 (.take 5 (.done)))))))] }
noncomputable def spec_l1Has:Ctx:={ P:=Try.prog,T:=TTab,M:=MM,nW:=0,kp:=[(0,[0,1]),(1,[0,1,5]),(2,[0,1,5,9]),(3,[0,1,5]),(4,[0,1,5,17]),(5,[4]),(6,[4])],lp:=[(0,[0,1,5])],pl:=[] }
noncomputable def spec_l1Sizes:Ctx:={ P:=Try.prog,T:=TTab,M:=MM,nW:=0,kp:=[(0,[1]),(1,[1,30]),(2,[2]),(3,[1,3]),(4,[1,3,35]),(5,[1,3]),(6,[1,3,44]),(7,[2]),(8,[1,4]),(9,[1,4,48]),(10,[1,4]),(11,[1,4,5]),(12,[1,4,5,54]),(13,[1,4,5]),(14,[1,4,5,6]),(15,[1,4,5,6,7]),(16,[1,4,5,76]),(17,[2]),(18,[2])],lp:=[(0,[1,3]),(2,[1,4]),(4,[1,4,5])],pl:=[] }
noncomputable def spec_l1Piece:Ctx:={ P:=Try.prog,T:=TTab,M:=MM,nW:=0,kp:=[(0,[1,2]),(1,[1,2,6]),(2,[2,6,7]),(3,[2,6,7,8]),(4,[2,6,7,8,17]),(5,[2,6,7,8]),(6,[2,6,7,8,9]),(7,[2,6,7,8,9,23]),(8,[2,6,7,8,9]),(9,[2,6,7,8,9,39]),(10,[2,6,7,8,9]),(11,[2,6,7,8,9]),(12,[4,5])],lp:=[(0,[2,6,7,8]),(2,[2,6,7,8,9])],pl:=[(9,.take 0 (.take 1 (.take 2 (.take 3 (.take 4 (.take 5 (.all [(6,.take 7 (.take 8 (.take 9 (.take 10 (.all [(11,.take 12 (.take 13 (.done)))])))))])))))))] }
noncomputable def spec_l1Factors:Ctx:={ P:=Try.prog,T:=TTab,M:=MM,nW:=0,kp:=[(0,[1]),(1,[1,4]),(2,[1,4,5]),(3,[1,4,5,20]),(4,[1,4,5]),(5,[1,4,5,27]),(6,[1,4,5,6,7]),(7,[1,4,5,6,7]),(8,[1,4,5,6,7,8]),(9,[1,4,5,6,7,8,40]),(10,[1,4,5,6,7,8]),(11,[1,4,5,6,7,8]),(12,[1,4,5,6,7,9]),(13,[1,4,5,6,7,9,10]),(14,[1,4,5,6,7,9,10,69]),(15,[1,4,5,6,7,9,10]),(16,[1,4,5,6,7,9,10]),(17,[1,4,5,6,7,9,10]),(18,[1,4,5,6,9,11]),(19,[1,4,5,6,9,11,121]),(20,[1,4,5,6,9,11]),(21,[1,4,5,6,9,11]),(22,[1,4,12]),(23,[1,4,12,142]),(24,[1,4,12]),(25,[1,4,12,13]),(26,[1,4,12,13,148]),(27,[1,4,12,13]),(28,[1,4,12,13,170]),(29,[2,3]),(30,[2,3])],lp:=[(0,[1,4,5]),(2,[1,4,5,6,7,8]),(4,[1,4,5,6,7,9,10]),(6,[1,4,5,6,9,11]),(8,[1,4,12]),(10,[1,4,12,13])],pl:=[(11,.take 0 (.take 1 (.take 2 (.take 3 (.take 4 (.take 5 (.take 6 (.take 7 (.take 8 (.take 9 (.take 10 (.take 11 (.take 12 (.take 13 (.take 14 (.all [(15,.all [(16,.take 17 (.take 18 (.all [(19,.done)])))])])))))))))))))))),(16,.take 0 (.take 1 (.take 2 (.take 3 (.take 4 (.take 5 (.take 6 (.take 7 (.take 8 (.take 9 (.take 10 (.take 11 (.take 12 (.take 13 (.take 14 (.take 15 (.take 16 (.take 17 (.take 18 (.take 19 (.take 20 (.take 24 (.take 25 (.take 26 (.take 27 (.take 28 (.take 29 (.take 30 (.take 31 (.take 32 (.all [(21,.all [(22,.take 23 (.all [(33,.all [(34,.take 35 (.take 36 (.all [(37,.done)])))])]))])]))))))))))))))))))))))))))))))),(21,.take 0 (.take 1 (.take 2 (.take 3 (.take 4 (.take 5 (.take 6 (.take 7 (.take 8 (.take 9 (.take 10 (.take 11 (.take 12 (.take 13 (.take 14 (.all [(15,.done)])))))))))))))))),(28,.take 0 (.take 1 (.take 2 (.take 3 (.take 4 (.take 5 (.take 6 (.take 9 (.take 10 (.take 11 (.take 12 (.take 13 (.take 14 (.take 15 (.all [(7,.take 8 (.all [(16,.take 17 (.take 18 (.take 19 (.done))))]))])))))))))))))))] }
noncomputable def spec_MatrixOk:Ctx:={ P:=Try.prog,T:=TTab,M:=MM,nW:=0,kp:=[(0,[1]),(1,[1,7]),(2,[2]),(3,[4]),(4,[2])],lp:=[],pl:=[] }
noncomputable def spec_l1Mutate:Ctx:={ P:=Try.prog,T:=TTab,M:=MM,nW:=0,kp:=[(0,[1,2,4]),(1,[1,2,4,5]),(2,[1,2,4,5,6]),(3,[1,2,4,5,6,15]),(4,[1,2,4,5,6]),(5,[1,2,4,5,6,7]),(6,[1,2,4,5,6,7,21]),(7,[1,2,4,5,6,7]),(8,[1,2,4,5,6,7,8]),(9,[1,2,4,5,6,7,8,9]),(10,[1,2,4,5,6,7,8,9,32]),(11,[1,2,4,5,6,7]),(12,[1,2,4,5,6,7,8,9,55]),(13,[1,2,4,5,6,7]),(14,[1,2,4,5,6,7,8,9,79]),(15,[1,2,4,5,6,7]),(16,[4])],lp:=[(0,[1,2,4,5,6]),(2,[1,2,4,5,6,7])],pl:=[(11,.take 0 (.take 1 (.take 2 (.take 3 (.take 4 (.take 5 (.take 6 (.take 7 (.take 8 (.take 9 (.take 10 (.all [(11,.take 12 (.take 13 (.all [(14,.done)])))])))))))))))),(13,.take 0 (.take 1 (.take 2 (.take 3 (.take 4 (.take 5 (.take 6 (.take 7 (.take 8 (.take 9 (.take 10 (.take 12 (.take 13 (.take 14 (.all [(11,.take 15 (.take 16 (.all [(17,.done)])))]))))))))))))))),(15,.take 0 (.take 1 (.take 2 (.take 3 (.take 4 (.take 5 (.take 6 (.take 7 (.take 8 (.take 9 (.take 10 (.take 12 (.take 13 (.take 14 (.all [(11,.take 15 (.take 16 (.all [(17,.done)])))])))))))))))))))] }
noncomputable def spec_MutateMatrix:Ctx:={ P:=Try.prog,T:=TTab,M:=MM,nW:=0,kp:=[(0,[1,2,4]),(1,[1,2,4,17]),(2,[4,5]),(3,[4,6]),(4,[4,6,24]),(5,[4,5]),(6,[4,5])],lp:=[],pl:=[] }
noncomputable def spec_l1Once:Ctx:={ P:=Try.prog,T:=TTab,M:=MM,nW:=1,kp:=[(0,[0,1]),(1,[4])],lp:=[],pl:=[] }
noncomputable def impl_PrincipalMatrix:Ctx:={ P:=Try.prog,T:=TTab,M:=MM,nW:=0,kp:=[(0,[1,2]),(1,[1,2,22]),(2,[2,3]),(3,[1,2,4]),(4,[1,2,4,5]),(5,[1,2,4,5,36]),(6,[1,2,4,5]),(7,[1,2,4,5,6]),(8,[1,2,4,5,6,42]),(9,[1,2,4,5,6]),(10,[1,2,4,5,6,47]),(11,[1,2,4,5,6]),(12,[1,2,4,5,6]),(13,[2,3])],lp:=[(0,[1,2,4,5]),(2,[1,2,4,5,6])],pl:=[(3,.take 0 (.take 1 (.take 2 (.take 3 (.take 4 (.take 5 (.take 6 (.all [(7,.take 8 (.all [(9,.all [(10,.done)])])),(9,.all [(7,.take 8 (.all [(10,.done)]))])]))))))))] }
noncomputable def impl_walk:Ctx:={ P:=Try.prog,T:=TTab,M:=MM,nW:=0,kp:=[(0,[1,2]),(1,[1,6,7]),(2,[1,6,22]),(3,[4,5]),(4,[1,6,8]),(5,[6,8,25,26,27]),(6,[6,8,25,26,27,28]),(7,[6,8,10,25,26,27]),(8,[6,7,8,25,26,27]),(9,[6,8,25,26,27,38]),(10,[4,5]),(11,[6,8,25,26,27]),(12,[6,8,25,26,27]),(13,[4,5])],lp:=[(0,[6,8,25,26,27])],pl:=[],fb:=[11,31] }
noncomputable def spec_l4Square:Ctx:={ P:=Try.prog,T:=TTab,M:=MM,nW:=0,kp:=[(0,[1]),(1,[2])],lp:=[],pl:=[] }
noncomputable def spec_l1Principal:Ctx:={ P:=Try.prog,T:=TTab,M:=MM,nW:=0,kp:=[(0,[1,2]),(1,[1,2,3]),(2,[1,2,3]),(3,[1,2,3,4]),(4,[1,2,3,4,15]),(5,[1,2,3,4]),(6,[1,2,3,4,5]),(7,[1,2,3,4,5]),(8,[1,2,3,4]),(9,[2])],lp:=[(0,[1,2,3,4])],pl:=[] }
noncomputable def spec_l4Along:Ctx:={ P:=Try.prog,T:=TTab,M:=MM,nW:=0,kp:=[(0,[1,2]),(1,[1,2,17]),(2,[4,5]),(3,[1,6]),(4,[1,6,7]),(5,[1,6,7,24]),(6,[1,6,7]),(7,[1,6,7,8,9]),(8,[1,6,7,8,40]),(9,[4,5]),(10,[1,6,7]),(11,[4,5])],lp:=[(0,[1,6,7])],pl:=[(7,.take 0 (.take 1 (.take 2 (.take 3 (.take 4 (.take 5 (.take 6 (.take 7 (.all [(8,.take 9 (.take 10 (.take 11 (.all [(12,.all [(13,.take 14 (.done))])])))),(12,.all [(8,.take 9 (.take 10 (.take 11 (.all [(13,.take 14 (.done))]))))])])))))))))] }
noncomputable def laws_at0:Ctx:={ P:=Try.prog,T:=TTab,M:=MM,nW:=0,kp:=[(0,[0,1]),(1,[0,1,8]),(2,[4]),(3,[4])],lp:=[],pl:=[] }
noncomputable def laws_entry:Ctx:={ P:=Try.prog,T:=TTab,M:=MM,nW:=0,kp:=[(0,[1,2,3]),(1,[1,2,3,16]),(2,[6]),(3,[6])],lp:=[],pl:=[] }
noncomputable def spec_FormatInt:Ctx:={ P:=Try.prog,T:=TTab,M:=MM,nW:=0,kp:=[(0,[0]),(1,[0,3]),(2,[0,3,4]),(3,[0,3,4,16]),(4,[0,3,4,5]),(5,[0,3,4,5,20]),(6,[0,3,4,5]),(7,[0,3,4]),(8,[0,3,4]),(9,[0,3,6]),(10,[3,6,33]),(11,[3,6]),(12,[3,6,7]),(13,[3,6,7,41]),(14,[3,6,7]),(15,[3,6,7]),(16,[2])],lp:=[(0,[0,3,4]),(2,[3,6,7])],pl:=[] }
noncomputable def spec_dZero:Ctx:={ P:=Try.prog,T:=TTab,M:=MM,nW:=0,kp:=[(0,[0,2]),(1,[2])],lp:=[],pl:=[] }
noncomputable def spec_dJoin:Ctx:={ P:=Try.prog,T:=TTab,M:=MM,nW:=2,kp:=[(0,[0,2,3,4,5,7]),(1,[2,3,4,5,7,13]),(2,[2,3,4,5,7]),(3,[2,3,5,7]),(4,[])],lp:=[],pl:=[],fb:=[7] }
noncomputable def spec_dTree:Ctx:={ P:=Try.prog,T:=TTab,M:=MM,nW:=1,kp:=[(0,[0,1,4]),(1,[0,1,4,6]),(2,[0,1,4,6,7]),(3,[0,1,4,6,7,41]),(4,[0,1,4,6,7]),(5,[0,4,6,7,63]),(6,[0,4,6,7]),(7,[0,4,6,7,64]),(8,[0,4,6,7,64,65]),(9,[0,4,6,7,64,65]),(10,[0,4,6,7,8]),(11,[0,4,6,7,8,9]),(12,[0,4,6,7,8,9,73]),(13,[0,4,6,7,8,9]),(14,[0,4,6,7,8,9]),(15,[0,4,7,8,87]),(16,[4,7,8]),(17,[4,5]),(18,[4,7,8]),(19,[4,5]),(20,[0,4,7,64,110]),(21,[4,7,10]),(22,[4,5]),(23,[0,4,7,64,119]),(24,[0,4,11]),(25,[4,11]),(26,[4,5]),(27,[0,4,7,64,126]),(28,[0,4,12]),(29,[0,4,12,13]),(30,[0,4,12,13,130]),(31,[0,4,12,13]),(32,[0,4,12,13]),(33,[4,5]),(34,[0,4,7,64,138]),(35,[0,4,14]),(36,[0,4,14]),(37,[0,4,14]),(38,[4,14]),(39,[4,5]),(40,[0,4,7,151]),(41,[0,4,15]),(42,[4,15]),(43,[4,5]),(44,[0,4,7,16]),(45,[0,4,7,16,17]),(46,[0,4,7,16,17,163]),(47,[0,4,7,16,17]),(48,[0,4,7,16,17]),(49,[4,5])],lp:=[(1,[0,4,6,7,8,9]),(3,[0,4,12,13]),(5,[0,4,7,16,17])],pl:=[(17,.take 0 (.take 1 (.all [(2,.take 3 (.all [(4,.take 5 (.done))]))]))),(19,.take 0 (.take 1 (.all [(2,.take 3 (.all [(4,.take 5 (.done))]))]))),(22,.take 0 (.take 2 (.all [(1,.take 3 (.all [(4,.all [(5,.take 6 (.done))]),(5,.take 4 (.take 6 (.done)))])),(5,.all [(1,.take 3 (.take 4 (.take 6 (.done))))])]))),(49,.take 0 (.take 1 (.all [(2,.take 3 (.all [(4,.take 5 (.done))]))])))] }
noncomputable def spec_dNames:Ctx:={ P:=Try.prog,T:=TTab,M:=MM,nW:=1,kp:=[(0,[0,1]),(1,[0,1,5]),(2,[0,1,5,6]),(3,[0,1,5,6,11]),(4,[0,1,5,6]),(5,[0,1,5,6,7]),(6,[0,1,5,6]),(7,[4])],lp:=[(0,[0,1,5,6])],pl:=[(6,.take 1 (.take 2 (.take 3 (.take 5 (.take 8 (.take 9 (.take 10 (.all [(0,.all [(4,.all [(6,.all [(7,.all [(11,.take 12 (.done))])])]),(6,.all [(4,.all [(7,.all [(11,.take 12 (.done))])])])]),(6,.all [(0,.all [(4,.all [(7,.all [(11,.take 12 (.done))])])])])]))))))))] }
noncomputable def spec_l1Rename:Ctx:={ P:=Try.prog,T:=TTab,M:=MM,nW:=0,kp:=[(0,[1,2,4]),(1,[1,2,4,5]),(2,[1,2,4,5,6]),(3,[1,2,4,5,6,14]),(4,[1,2,4,5,6]),(5,[1,2,4,5,6,7]),(6,[1,2,4,5,6,7,21]),(7,[1,2,4,5,6,7]),(8,[1,2,4,5,6,7,8]),(9,[1,2,4,5,6,7,8,29]),(10,[1,2,4,5,6,7,8]),(11,[1,2,4,5,6,7,8]),(12,[4])],lp:=[(0,[1,2,4,5,6]),(2,[1,2,4,5,6,7,8])],pl:=[(11,.take 0 (.take 1 (.take 2 (.take 3 (.take 4 (.take 5 (.take 6 (.take 7 (.take 8 (.take 9 (.take 10 (.take 11 (.take 12 (.take 13 (.all [(14,.take 15 (.all [(16,.done)]))])))))))))))))))] }
noncomputable def spec_dMoved:Ctx:={ P:=Try.prog,T:=TTab,M:=MM,nW:=2,kp:=[(0,[0,3,4]),(1,[0,3,4,5]),(2,[0,3,4,5,6]),(3,[0,3,4,5,6,13]),(4,[0,3,4,5,6]),(5,[0,3,4,5,6,7,8]),(6,[0,3,4,5,6,7,25]),(7,[0,3,4,5,6]),(8,[4])],lp:=[(0,[0,3,4,5,6])],pl:=[(5,.take 1 (.take 2 (.take 3 (.all [(0,.all [(4,.all [(5,.take 6 (.take 7 (.take 8 (.all [(9,.all [(10,.take 11 (.done))])])))),(9,.all [(5,.take 6 (.take 7 (.take 8 (.all [(10,.take 11 (.done))]))))])]),(9,.all [(4,.all [(5,.take 6 (.take 7 (.take 8 (.all [(10,.take 11 (.done))]))))])])]),(4,.take 0 (.all [(5,.take 6 (.take 7 (.take 8 (.all [(9,.all [(10,.take 11 (.done))])])))),(9,.all [(5,.take 6 (.take 7 (.take 8 (.all [(10,.take 11 (.done))]))))])])),(9,.all [(0,.all [(4,.all [(5,.take 6 (.take 7 (.take 8 (.all [(10,.take 11 (.done))]))))])]),(4,.take 0 (.all [(5,.take 6 (.take 7 (.take 8 (.all [(10,.take 11 (.done))]))))]))])])))),(8,.take 1 (.take 2 (.take 3 (.all [(0,.all [(4,.all [(5,.all [(6,.done)])])]),(4,.take 0 (.all [(5,.all [(6,.done)])]))]))))] }
noncomputable def spec_dFinite:Ctx:={ P:=Try.prog,T:=TTab,M:=MM,nW:=1,kp:=[(0,[0,1,4]),(1,[0,4,6,7]),(2,[4,5])],lp:=[],pl:=[] }
noncomputable def spec_dSteps:Ctx:={ P:=Try.prog,T:=TTab,M:=MM,nW:=1,kp:=[(0,[0,1,2]),(1,[0,1,2,7]),(2,[0,1,7,8]),(3,[0,1,7,8,9]),(4,[0,1,7,8,9,17]),(5,[0,1,7,8,9]),(6,[0,1,7,8,9]),(7,[6])],lp:=[(0,[0,1,7,8,9])],pl:=[] }
noncomputable def spec_dQuantum:Ctx:={ P:=Try.prog,T:=TTab,M:=MM,nW:=1,kp:=[(0,[0,2]),(1,[0,2,4]),(2,[2,3])],lp:=[],pl:=[(2,.take 1 (.take 2 (.take 3 (.all [(0,.all [(4,.all [(5,.take 6 (.done))])]),(4,.take 0 (.all [(5,.take 6 (.done))]))]))))] }
noncomputable def spec_DrawQuantumWalk:Ctx:={ P:=Try.prog,T:=TTab,M:=MM,nW:=0,kp:=[(0,[0,2]),(1,[2,4]),(2,[2,5,6]),(3,[2,3])],lp:=[],pl:=[],fb:=[6] }
noncomputable def impl_SymmetrizerOf:Ctx:={ P:=Try.prog,T:=TTab,M:=MM,nW:=0,kp:=[(0,[1]),(1,[1,5]),(2,[2]),(3,[2])],lp:=[],pl:=[] }
noncomputable def impl_FormOf:Ctx:={ P:=Try.prog,T:=TTab,M:=MM,nW:=0,kp:=[(0,[1]),(1,[1,4]),(2,[1,4,5]),(3,[1,4,5,25]),(4,[2,3]),(5,[1,4,5,6]),(6,[1,4,5,6,27,28]),(7,[1,4,5,6,27,28,29]),(8,[1,4,5,6,27,28]),(9,[1,4,5,6,27,28]),(10,[1,4,5,6,7]),(11,[1,4,5,6,7,39]),(12,[1,4,5,6,7]),(13,[1,4,5,6,7]),(14,[1,4,5,6,7,8]),(15,[1,4,5,6,7,8,69]),(16,[1,4,5,6,7,8]),(17,[1,4,5,6,7,8]),(18,[6,94]),(19,[2,3]),(20,[2,3])],lp:=[(0,[1,4,5,6,27,28]),(2,[1,4,5,6,7]),(4,[1,4,5,6,7,8])],pl:=[(13,.take 0 (.take 1 (.take 2 (.take 3 (.take 4 (.take 5 (.take 6 (.take 7 (.take 8 (.take 9 (.take 10 (.take 11 (.take 12 (.take 13 (.take 14 (.take 15 (.take 16 (.take 17 (.take 18 (.take 19 (.take 20 (.take 21 (.take 22 (.take 23 (.all [(24,.take 25 (.all [(26,.done)]))]))))))))))))))))))))))))),(17,.take 0 (.take 1 (.take 2 (.take 3 (.take 4 (.take 5 (.take 6 (.take 7 (.take 8 (.take 9 (.take 10 (.take 11 (.take 12 (.take 13 (.take 14 (.take 15 (.take 16 (.all [(17,.take 18 (.take 19 (.all [(20,.done)])))]))))))))))))))))))] }
noncomputable def impl_MutateForm:Ctx:={ P:=Try.prog,T:=TTab,M:=MM,nW:=0,kp:=[(0,[0,2,4]),(1,[0,2,4,41]),(2,[6,7]),(3,[0,2,4,8]),(4,[0,2,4,8,9]),(5,[0,2,4,8,9,10]),(6,[0,2,4,8,9,10,46]),(7,[0,2,4,8,9,10]),(8,[0,2,4,8,9,10,11]),(9,[0,2,4,8,9,10,11,54]),(10,[0,2,4,8,9,10,11]),(11,[0,2,4,8,9,10,11,12]),(12,[0,2,4,8,9,10,11,12,60]),(13,[0,2,4,8,9,10,11,12]),(14,[0,2,4,8,9,10,11,12]),(15,[0,2,4,8,9,10]),(16,[0,9,13]),(17,[0,9,13,78,79,80]),(18,[0,9,13,78,79,80,81]),(19,[0,9,13,15,78,79,80]),(20,[0,9,13,15,16,78,79,80]),(21,[0,9,13,15,16,78,79,80,84,85,86]),(22,[0,9,13,15,16,78,79,80,84,85,86,87]),(23,[0,9,13,15,16,18,78,79,80,84,85,86]),(24,[0,9,13,15,16,78,79,80,84,85,86]),(25,[0,9,13,15,16,78,79,80,84,85,86]),(26,[0,9,13,78,79,80]),(27,[0,9,13,78,79,80]),(28,[13,105]),(29,[6,7]),(30,[6,7])],lp:=[(0,[0,2,4,8,9,10]),(2,[0,2,4,8,9,10,11,12]),(4,[0,9,13,78,79,80]),(6,[0,9,13,15,16,78,79,80,84,85,86])],pl:=[(14,.take 0 (.take 1 (.take 2 (.take 3 (.take 4 (.take 5 (.take 6 (.all [(7,.take 8 (.take 9 (.take 10 (.all [(11,.done)]))))]))))))))] }
noncomputable def impl_forms:Ctx:={ P:=Try.prog,T:=TTab,M:=MM,nW:=0,kp:=[(0,[1,2]),(1,[1,2,7,8]),(2,[1,7,8,9,10]),(3,[1,7,9,30]),(4,[4,5,6]),(5,[1,7,9,11]),(6,[7,9,11,33,34,35]),(7,[7,9,11,33,34,35,36]),(8,[7,9,11,12,13,33,34,35]),(9,[7,9,10,11,33,34,35]),(10,[7,9,11,33,34,35,51]),(11,[4,5,6]),(12,[7,9,11,33,34,35]),(13,[7,9,11,33,34,35]),(14,[4,5,6])],lp:=[(0,[7,9,11,33,34,35])],pl:=[],fb:=[9] }
noncomputable def impl_FormAlong:Ctx:={ P:=Try.prog,T:=TTab,M:=MM,nW:=0,kp:=[(0,[1,2]),(1,[6,8]),(2,[6,17]),(3,[4,5]),(4,[4,5])],lp:=[],pl:=[] }
noncomputable def spec_FormOf:Ctx:={ P:=Try.prog,T:=TTab,M:=MM,nW:=0,kp:=[(0,[1]),(1,[1,7]),(2,[2,3]),(3,[4]),(4,[4,12]),(5,[2,3]),(6,[2,3])],lp:=[],pl:=[] }
noncomputable def spec_l8FormOf:Ctx:={ P:=Try.prog,T:=TTab,M:=MM,nW:=0,kp:=[(0,[1]),(1,[1,3]),(2,[1,3,5]),(3,[1,3,5,6]),(4,[1,3,5,6,7]),(5,[1,3,5,6,7,21]),(6,[1,3,5,6,7]),(7,[1,3,5,6,7,8]),(8,[1,3,5,6,7,8,9]),(9,[1,3,5,6,7,8,9,30]),(10,[1,3,5,6,7,8,9]),(11,[1,3,5,6,7,8,9,33]),(12,[1,3,5,6,7,8,9]),(13,[1,3,5,6,7,8,9,52]),(14,[1,3,5,6,7,8,9]),(15,[1,3,5,6,7,8,9,70]),(16,[1,3,5,6,7,8,9]),(17,[1,3,5,6,7]),(18,[2])],lp:=[(0,[1,3,5,6,7]),(2,[1,3,5,6,7,8,9])],pl:=[(16,.take 0 (.take 1 (.take 2 (.take 3 (.take 4 (.take 5 (.take 6 (.take 7 (.take 8 (.take 9 (.take 10 (.take 11 (.take 12 (.take 13 (.take 14 (.all [(15,.take 16 (.take 17 (.take 18 (.all [(19,.done)]))))]))))))))))))))))] }
noncomputable def spec_l8Mutate:Ctx:={ P:=Try.prog,T:=TTab,M:=MM,nW:=0,kp:=[(0,[0,2,4]),(1,[0,2,4,7]),(2,[0,2,4,7,8]),(3,[0,2,4,7,8,9]),(4,[0,2,4,7,8,9,22]),(5,[0,2,4,7,8,9]),(6,[0,2,4,7,8,9]),(7,[0,2,7,8]),(8,[0,2,7,8,10]),(9,[0,2,7,8,10,11]),(10,[0,2,7,8,10,11,39]),(11,[0,2,7,8,10,11]),(12,[0,2,7,8,10,11,12]),(13,[0,2,7,8,10,11,12,13]),(14,[0,2,7,8,10,11,12,13,45]),(15,[0,2,7,8,10,11,12,13]),(16,[0,2,7,8,10,11,12,13,14,15]),(17,[0,2,7,8,10,11,12,13,14,15,56]),(18,[0,2,7,8,10,11,12,13,14,15]),(19,[0,2,7,8,10,11,12,13,14,15,60]),(20,[0,2,7,8,10,11,12,13,14,15]),(21,[0,2,7,8,10,11,12,13]),(22,[0,2,7,8,10,11]),(23,[6])],lp:=[(0,[0,2,4,7,8,9]),(2,[0,2,7,8,10,11]),(4,[0,2,7,8,10,11,12,13])],pl:=[] }
noncomputable def spec_MutateForm:Ctx:={ P:=Try.prog,T:=TTab,M:=MM,nW:=0,kp:=[(0,[0,2,4]),(1,[0,2,4,31]),(2,[6,7]),(3,[8]),(4,[8,38]),(5,[6,7]),(6,[6,7])],lp:=[],pl:=[] }
noncomputable def spec_FormAlong:Ctx:={ P:=Try.prog,T:=TTab,M:=MM,nW:=0,kp:=[(0,[1,2]),(1,[1,2,6,7]),(2,[1,6,7,8,9]),(3,[1,6,8,29]),(4,[4,5]),(5,[1,6,8,10]),(6,[1,6,8,10,33]),(7,[1,6,8,10]),(8,[1,8,10,11,12]),(9,[1,8,10,11,50]),(10,[4,5]),(11,[1,6,8,10]),(12,[4,5])],lp:=[(0,[1,6,8,10])],pl:=[(8,.take 0 (.take 1 (.take 2 (.take 3 (.take 4 (.take 5 (.take 6 (.take 7 (.take 8 (.all [(9,.take 10 (.take 11 (.take 12 (.take 13 (.take 14 (.done))))))]))))))))))] }
noncomputable def impl_MutateAlong:Ctx:={ P:=Try.prog,T:=TTab,M:=MM,nW:=0,kp:=[(0,[1,2,4]),(1,[1,2,4,17]),(2,[4,5]),(3,[1,4,6]),(4,[1,4,6]),(5,[4,6,27,28,29]),(6,[4,6,27,28,29,30]),(7,[4,6,9,27,28,29]),(8,[4,6,7,27,28,29]),(9,[4,6,27,28,29,40]),(10,[4,5]),(11,[4,6,27,28,29]),(12,[4,5])],lp:=[(0,[4,6,27,28,29])],pl:=[(3,.take 0 (.take 1 (.take 2 (.take 3 (.take 4 (.take 5 (.all [(6,.take 7 (.all [(8,.all [(9,.done)])])),(8,.all [(6,.take 7 (.all [(9,.done)]))])])))))))] }
noncomputable def laws_rows:Ctx:={ P:=Try.prog,T:=TTab,M:=MM,nW:=0,kp:=[(0,[0,1]),(1,[0,1,10]),(2,[4]),(3,[0,1,5]),(4,[0,1,5,14]),(5,[0,1,5]),(6,[0,1,5,26]),(7,[4]),(8,[4])],lp:=[(0,[0,1,5])],pl:=[(6,.take 0 (.take 1 (.take 2 (.take 3 (.take 4 (.take 5 (.take 6 (.take 7 (.all [(8,.take 9 (.done))])))))))))] }
noncomputable def laws_FnForms:Ctx:={ P:=Try.prog,T:=TTab,M:=MM,nW:=0,kp:=[(0,[0]),(1,[0,28]),(2,[2]),(3,[0,3,4]),(4,[0,3,4,5,6]),(5,[0,3,4,5,6,7,8]),(6,[0,3,4,5,6,8,9,10]),(7,[0,3,4,5,6,8,9,10,11]),(8,[0,3,4,5,6,8,9,11,82]),(9,[6,8,13]),(10,[2]),(11,[0,3,5,9,11,14]),(12,[0,3,5,9,11,14,101]),(13,[0,3,5,9,11,14]),(14,[0,3,5,9,11,14,15]),(15,[0,3,5,9,11,14,15,108]),(16,[0,3,5,9,11,14,15]),(17,[0,3,5,9,11,14,15,16]),(18,[0,3,5,9,11,14,15,16,17]),(19,[0,3,5,9,11,14,15,16,17,115]),(20,[0,3,5,9,11,14,15,16,17]),(21,[0,3,5,9,11,14,15,16,17]),(22,[0,3,5,9,11,14,15,151]),(23,[2]),(24,[5,9,18]),(25,[5,9,18,19,20]),(26,[5,9,18,19,20,21,22]),(27,[5,9,18,19,20,21,175]),(28,[20,24]),(29,[2]),(30,[5,25,26]),(31,[2])],lp:=[(0,[0,3,5,9,11,14]),(2,[0,3,5,9,11,14,15]),(4,[0,3,5,9,11,14,15,16,17])],pl:=[(21,.take 0 (.take 1 (.take 2 (.take 3 (.take 5 (.take 6 (.take 7 (.take 8 (.take 9 (.take 10 (.take 11 (.all [(4,.take 12 (.take 13 (.take 14 (.done))))])))))))))))),(24,.take 0 (.take 2 (.take 3 (.all [(1,.take 4 (.take 5 (.done)))]))))],fb:=[29] }
end C
end Go.Proofs.Ytfcgcgmleogamaa.Ab
namespace Go.Proofs.Ytfcgcgmleogamaa.Ab
open Go
set_option maxRecDepth 10000
theorem tabT:tabB Try.prog TTab=true:=by kernel_rfl
theorem folT:Try.prog.follows .mixedOrders=true:=by kernel_rfl
theorem wrap_succ {j:Nat} (h:j < 4611686018427387904):IntKind.i64.wrap ((j:Int)+1)=((j+1:Nat):Int):=by
 rw [wrapOk (by omega) (by omega)]
 omega
theorem impl_within_c (n low high:Int):ACalls Try.prog F.impl_within [.int n,.int low,.int high] [] true (fun outs res=>outs=[]/\res=[.one (D.bool (decide (low<=n/\n<=high)))]):=by
 refine ACalls.of_body (C:=C.impl_within) (n:=Try.f60.ntmps) tabT folT Try.func60 rfl (by kernel_rfl) rfl (Nat.le_of_ble_eq_true rfl) (by decide) (by kernel_rfl) (by kernel_rfl) rfl (by simp) (by simp) ?_
 simp only [Try.f60]
 refine wseq ?_
 refine wreg fun K hK=>?_
 simp [C.impl_within]
 refine hK _ ?_;clear hK K
 show AWp _ _ _ _ _
 refine wseq ?_
 refine wreg fun K hK=>?_
 have hJ:K ⟨ofL [(6,.bool (decide (low<=n/\n<=high)))],ofRO []⟩:=by
  refine hK _ ?_;clear hK K
  show AWp _ _ _ _ _
  refine wret ?_
  simp [C.impl_within]
 clear hK
 by_cases h:low<=n
 ·simp [C.impl_within,h]
  refine cast (congrArg K ?_) hJ
  simp [h]
 ·simp [C.impl_within,h]
  refine cast (congrArg K ?_) hJ
  simp [h]
theorem spec_l1In_c (n low high:Int):ACalls Try.prog F.spec_l1In [.int n,.int low,.int high] [] true (fun outs res=>outs=[]/\res=[.one (D.bool (decide (low<=n/\n<=high)))]):=by
 refine ACalls.of_body (C:=C.spec_l1In) (n:=Try.f69.ntmps) tabT folT Try.func69 rfl (by kernel_rfl) rfl (Nat.le_of_ble_eq_true rfl) (by decide) (by kernel_rfl) (by kernel_rfl) rfl (by simp) (by simp) ?_
 simp only [Try.f69]
 refine wseq ?_
 refine wreg fun K hK=>?_
 simp [C.spec_l1In]
 refine hK _ ?_;clear hK K
 show AWp _ _ _ _ _
 refine wseq ?_
 refine wreg fun K hK=>?_
 have hJ:K ⟨ofL [(6,.bool (decide (low<=n/\n<=high)))],ofRO []⟩:=by
  refine hK _ ?_;clear hK K
  show AWp _ _ _ _ _
  refine wret ?_
  simp [C.spec_l1In]
 clear hK
 by_cases h:low<=n
 ·simp [C.spec_l1In,h]
  refine cast (congrArg K ?_) hJ
  simp [h]
 ·simp [C.spec_l1In,h]
  refine cast (congrArg K ?_) hJ
  simp [h]
theorem spec_l1Ints_c (xs:List Int) (hx:xs.length < 17592186044416):ACalls Try.prog F.spec_l1Ints [.d (shI xs)] [] true (fun outs res=>outs=[]/\res=[.one (owI xs)]):=by
 refine ACalls.of_body (C:=C.spec_l1Ints) (n:=Try.f83.ntmps) tabT folT Try.func83 rfl (by kernel_rfl) rfl (Nat.le_of_ble_eq_true rfl) (by decide) (by kernel_rfl) (by kernel_rfl) rfl (by simp) (by simp) ?_
 simp only [Try.f83]
 refine wseq ?_
 refine wreg fun K hK=>?_
 simp [C.spec_l1Ints]
 refine hK _ ?_;clear hK K
 show AWp _ _ _ _ _
 refine wseq ?_
 refine wreg fun K hK=>?_
 simp [C.spec_l1Ints,show xs.length*8<=140737488355328 by omega]
 refine hK _ ?_;clear hK K
 show AWp _ _ _ _ _
 refine wret ?_
 simp [C.spec_l1Ints]
theorem slices_Clone_int_int_c (xs:List Int) (hx:xs.length < 17592186044416):ACalls Try.prog F.slices_Clone_int_int [.d (shI xs)] [] true (fun outs res=>outs=[]/\WkRs res [.one (owI xs)]):=by
 refine ACalls.of_body (C:=C.slices_Clone_int_int) (n:=Try.f57.ntmps) tabT folT Try.func57 rfl (by kernel_rfl) rfl (Nat.le_of_ble_eq_true rfl) (by decide) (by kernel_rfl) (by kernel_rfl) rfl (by simp) (by simp) ?_
 simp only [Try.f57]
 refine wseq ?_
 refine wreg fun K hK=>?_
 simp [C.slices_Clone_int_int]
 refine hK _ ?_;clear hK K
 show AWp _ _ _ _ _
 refine wseq ?_
 refine wseq ?_
 refine wreg fun K hK=>?_
 simp [C.slices_Clone_int_int]
 refine ⟨?_,fun h=>?_⟩
 ·refine hK _ ?_;clear hK K
  show AWp _ _ _ _ _
  refine wcond _ rfl (fun hc1=>?_) (fun hc1=>?_)
  ·simp at hc1
  ·refine wskip ?_
   show AWp _ _ _ _ _
   refine wseq ?_
   refine wreg fun K hK=>?_
   simp [C.slices_Clone_int_int,show xs.length*8<=140737488355328 by omega]
   refine hK _ ?_;clear hK K
   show AWp _ _ _ _ _
   refine wret ?_
   simp [C.slices_Clone_int_int]
 ·refine hK _ ?_;clear hK K
  show AWp _ _ _ _ _
  refine wcond _ rfl (fun hc2=>?_) (fun hc2=>?_)
  ·refine wseq ?_
   refine wreg fun K hK=>?_
   simp [C.slices_Clone_int_int]
   refine hK _ ?_;clear hK K
   show AWp _ _ _ _ _
   refine wret ?_
   simp [C.slices_Clone_int_int,h,ints]
  ·simp at hc2
theorem clone_c (xs:List Int) (hx:xs.length < 17592186044416):ACalls Try.prog F.slices_Clone_int_int [.d (shI xs)] [] true (fun outs res=>outs=[]/\res=[.one (owI xs)]):=(slices_Clone_int_int_c xs hx).weak1
theorem impl_gcd_c (a b:Int) (ha:-4611686018427387904 < a/\a < 4611686018427387904) (hb:-4611686018427387904 < b/\b < 4611686018427387904):ACalls Try.prog F.impl_gcd [.int a,.int b] [] true (fun outs res=>outs=[]/\res=[.one (D.int (Int.gcd a b:Int))]):=by
 refine ACalls.of_body (C:=C.impl_gcd) (n:=Try.f114.ntmps) tabT folT Try.func114 rfl (by kernel_rfl) rfl (Nat.le_of_ble_eq_true rfl) (by decide) (by kernel_rfl) (by kernel_rfl) rfl (by simp) (by simp) ?_
 simp only [Try.f114]
 refine wseq ?_
 refine wreg fun K hK=>?_
 simp [C.impl_gcd]
 refine hK _ ?_;clear hK K
 show AWp _ _ _ _ _
 refine wseq ?_
 refine wblock ?_
 refine wloop (fun x:Int×Int=>⟨ofL [(0,.int x.1),(1,.int x.2)],ofRO []⟩) (fun x=>Int.gcd x.1 x.2=Int.gcd a b/\(-4611686018427387904 < x.1/\x.1 < 4611686018427387904)/\(-4611686018427387904 < x.2/\x.2 < 4611686018427387904)) (fun x=>x.2.natAbs) (a,b) (by simp [C.impl_gcd]) ⟨rfl,ha,hb⟩ ?_
 intro x1 hx1 R1 hR1
 obtain ⟨p,q⟩:=x1
 obtain ⟨hg,hp,hq⟩:=hx1
 dsimp only at hg hp hq ⊢
 refine wseq ?_
 refine wseq ?_
 refine wreg fun K hK=>?_
 simp [C.impl_gcd]
 refine hK _ ?_;clear hK K
 show AWp _ _ _ _ _
 refine wcond _ rfl (fun hc1=>?_) (fun hc1=>?_)
 ·refine wskip ?_
  show AWp _ _ _ _ _
  refine wblock ?_
  have hq0:q≠0:=by simpa using hc1
  refine wdraw (.take 0 (.take 1 (.take 2 (.take 3 (.take 4 (.take 5 (.done))))))) ⟨by kernel_rfl,by kernel_rfl⟩ fun K hK=>?_
  simp [C.impl_gcd,hq0]
  refine hK _ ?_;clear hK K
  simp [C.impl_gcd]
  have hn:(p.tmod q).natAbs < q.natAbs:=by rw [Int.natAbs_tmod];exact Nat.mod_lt _ (by omega)
  refine hR1 (q,p.tmod q) ⟨?_,hq,by dsimp only;omega⟩ hn
  rw [<-hg]
  unfold Int.gcd
  rw [Int.natAbs_tmod,Nat.gcd_comm p.natAbs,Nat.gcd_rec q.natAbs p.natAbs,Nat.gcd_comm]
 ·refine wexit ?_
  show AWp _ _ _ _ _
  refine wseq ?_
  have hq0:q=0:=by simpa using hc1
  subst hq0
  refine wreg fun K hK=>?_
  simp [C.impl_gcd]
  rw [wrapOk (x:=-p) (by omega) (by omega)]
  refine hK _ ?_;clear hK K
  show AWp _ _ _ _ _
  refine wret ?_
  have hpg:max p (-p)=(Int.gcd a b:Int):=by rw [<-hg];simp [Int.gcd];omega
  simp [C.impl_gcd,hpg]
end Go.Proofs.Ytfcgcgmleogamaa.Ab
namespace Go.Proofs.Ytfcgcgmleogamaa.Ab
open Go
set_option maxRecDepth 10000
end Go.Proofs.Ytfcgcgmleogamaa.Ab
namespace Go.Proofs.Ytfcgcgmleogamaa.Ab
open Go
section
variable {K:Type} [DecidableEq K]
def co (k:K):List (K×Int)->Int
 | []=>0
 | x :: l=>(if x.1=k then x.2 else 0)+co k l
theorem co_none (k:K):∀ (l:List (K×Int)),(∀ x∈l,x.1≠k)->co k l=0
 | [],_=>rfl
 | x :: l,h=>by
  simp only [co]
  rw [if_neg (h x (by simp)),co_none k l fun y hy=>h y (by simp [hy])]
  rfl
structure Ord (lt:K->K->Bool):Prop where
 irr:∀ a,lt a a=false
 tr:∀ a b c,lt a b=true->lt b c=true->lt a c=true
 tot:∀ a b,lt a b=true\/a=b\/lt b a=true
variable {lt:K->K->Bool}
def Desc (lt:K->K->Bool) (l:List (K×Int)):Prop:=l.Pairwise fun a b=>lt b.1 a.1=true
def Nz (l:List (K×Int)):Prop:=∀ x∈l,x.2≠0
theorem desc_tail_ne (ho:Ord lt) {x:K×Int} {l:List (K×Int)} (h:Desc lt (x :: l)):∀ y∈l,y.1≠x.1:=by
 intro y hy e
 have:=(List.pairwise_cons.1 h).1 y hy
 rw [e,ho.irr] at this
 simp at this
theorem desc_above (ho:Ord lt) {x:K×Int} {l:List (K×Int)} (h:Desc lt (x :: l)) {k:K} (hk:lt x.1 k=true):∀ y∈x :: l,y.1≠k:=by
 intro y hy e
 rcases List.mem_cons.1 hy with rfl | hy
 ·rw [e,ho.irr] at hk
  simp at hk
 ·have:=ho.tr _ _ _ ((List.pairwise_cons.1 h).1 y hy) hk
  rw [e,ho.irr] at this
  simp at this
theorem desc_unique (ho:Ord lt):∀ (l r:List (K×Int)),Desc lt l->Desc lt r->Nz l->Nz r->(∀ k,co k l=co k r)->l=r
 | [],[],_,_,_,_,_=>rfl
 | [],y :: r,_,h2,_,z2,h=>by
  have:=h y.1
  simp only [co,if_true] at this
  rw [co_none y.1 r (desc_tail_ne ho h2)] at this
  exact absurd (by omega) (z2 y (by simp))
 | x :: l,[],h1,_,z1,_,h=>by
  have:=h x.1
  simp only [co,if_true] at this
  rw [co_none x.1 l (desc_tail_ne ho h1)] at this
  exact absurd (by omega) (z1 x (by simp))
 | x :: l,y :: r,h1,h2,z1,z2,h=>by
  rcases ho.tot x.1 y.1 with e | e | e
  ·have:=h y.1
   rw [co_none y.1 _ (desc_above ho h1 e)] at this
   simp only [co,if_true] at this
   rw [co_none y.1 r (desc_tail_ne ho h2)] at this
   exact absurd (by omega) (z2 y (by simp))
  ·have e2:x.2=y.2:=by
    have:=h x.1
    simp only [co,if_true] at this
    rw [if_pos e.symm,co_none x.1 l (desc_tail_ne ho h1),e,co_none y.1 r (desc_tail_ne ho h2)] at this
    omega
   have exy:x=y:=Prod.ext e e2
   subst exy
   congr 1
   refine desc_unique ho l r (List.pairwise_cons.1 h1).2 (List.pairwise_cons.1 h2).2 (fun z hz=>z1 z (by simp [hz])) (fun z hz=>z2 z (by simp [hz])) fun k=>?_
   have:=h k
   simp only [co] at this
   omega
  ·have:=h x.1
   rw [co_none x.1 (y :: r) (desc_above ho h2 e)] at this
   simp only [co,if_true] at this
   rw [co_none x.1 l (desc_tail_ne ho h1)] at this
   exact absurd (by omega) (z1 x (by simp))
def insK (lt:K->K->Bool) (k:K) (c:Int):List (K×Int)->List (K×Int)
 | []=>if c=0 then [] else [(k,c)]
 | x :: l=>if x.1=k then (if x.2+c=0 then l else (k,x.2+c) :: l) else if lt x.1 k then (if c=0 then x :: l else (k,c) :: x :: l) else x :: insK lt k c l
def nf (lt:K->K->Bool):List (K×Int)->List (K×Int)
 | []=>[]
 | x :: l=>insK lt x.1 x.2 (nf lt l)
theorem insK_mem {k:K} {c:Int}:∀ {l:List (K×Int)} {y:K×Int},y∈insK lt k c l->y.1=k\/y∈l
 | [],y,h=>by
  simp only [insK] at h
  split at h
  ·simp at h
  ·simp only [List.mem_singleton] at h
   subst h
   exact .inl rfl
 | x :: l,y,h=>by
  simp only [insK] at h
  split at h
  ·split at h
   ·exact .inr (by simp [h])
   ·rcases List.mem_cons.1 h with rfl | h
    ·exact .inl rfl
    ·exact .inr (by simp [h])
  ·split at h
   ·split at h
    ·exact .inr h
    ·rcases List.mem_cons.1 h with rfl | h
     ·exact .inl rfl
     ·exact .inr h
   ·rcases List.mem_cons.1 h with rfl | h
    ·exact .inr (by simp)
    ·rcases insK_mem h with h | h
     ·exact .inl h
     ·exact .inr (by simp [h])
theorem insK_desc (ho:Ord lt) (k:K) (c:Int):∀ (l:List (K×Int)),Desc lt l->Desc lt (insK lt k c l)
 | [],_=>by
  simp only [insK]
  split
  ·exact List.Pairwise.nil
  ·exact List.pairwise_singleton _ _
 | x :: l,h=>by
  have h1:=List.pairwise_cons.1 h
  simp only [insK]
  split
  ·rename_i e
   split
   ·exact h1.2
   ·exact List.pairwise_cons.2 ⟨fun y hy=>by rw [<-e];exact h1.1 y hy,h1.2⟩
  ·rename_i e
   split
   ·rename_i e2
    split
    ·exact h
    ·refine List.pairwise_cons.2 ⟨fun y hy=>?_,h⟩
     rcases List.mem_cons.1 hy with rfl | hy
     ·exact e2
     ·exact ho.tr _ _ _ (h1.1 y hy) e2
   ·rename_i e2
    refine List.pairwise_cons.2 ⟨fun y hy=>?_,insK_desc ho k c l h1.2⟩
    rcases insK_mem hy with hy | hy
    ·rw [hy]
     rcases ho.tot k x.1 with q | q | q
     ·exact q
     ·exact absurd q.symm e
     ·exact absurd q e2
    ·exact h1.1 y hy
theorem insK_nz (k:K) (c:Int):∀ (l:List (K×Int)),Nz l->Nz (insK lt k c l)
 | [],_=>by
  simp only [insK]
  split
  ·intro y hy;simp at hy
  ·rename_i hc
   intro y hy
   simp only [List.mem_singleton] at hy
   subst hy
   exact hc
 | x :: l,h=>by
  have h1:Nz l:=fun z hz=>h z (by simp [hz])
  simp only [insK]
  split
  ·split
   ·exact h1
   ·rename_i hc
    intro y hy
    rcases List.mem_cons.1 hy with rfl | hy
    ·exact hc
    ·exact h1 y hy
  ·split
   ·split
    ·exact h
    ·rename_i hc
     intro y hy
     rcases List.mem_cons.1 hy with rfl | hy
     ·exact hc
     ·exact h y hy
   ·intro y hy
    rcases List.mem_cons.1 hy with rfl | hy
    ·exact h y (by simp)
    ·exact insK_nz k c l h1 y hy
theorem insK_co (k:K) (c:Int) (q:K):∀ (l:List (K×Int)),co q (insK lt k c l)=(if k=q then c else 0)+co q l
 | []=>by
  simp only [insK]
  split
  ·rename_i e
   subst e
   simp [co]
  ·simp [co]
 | x :: l=>by
  simp only [insK]
  split
  ·rename_i e
   split
   ·rename_i e2
    simp only [co,e]
    split <;> omega
   ·simp only [co,e]
    split <;> omega
  ·split
   ·split
    ·rename_i e
     subst e
     simp
    ·simp only [co]
   ·simp only [co,insK_co k c q l]
    omega
theorem nf_desc (ho:Ord lt):∀ (l:List (K×Int)),Desc lt (nf lt l)
 | []=>List.Pairwise.nil
 | x :: l=>insK_desc ho _ _ _ (nf_desc ho l)
theorem nf_nz:∀ (l:List (K×Int)),Nz (nf lt l)
 | []=>by intro y hy;simp [nf] at hy
 | x :: l=>insK_nz _ _ _ (nf_nz l)
theorem nf_co (q:K):∀ (l:List (K×Int)),co q (nf lt l)=co q l
 | []=>rfl
 | x :: l=>by
  simp only [nf,insK_co,nf_co q l,co]
theorem nf_unique (ho:Ord lt) {t l:List (K×Int)} (h1:Desc lt t) (h2:Nz t) (h3:∀ k,co k t=co k l):t=nf lt l:=
 desc_unique ho t (nf lt l) h1 (nf_desc ho l) h2 (nf_nz l) fun k=>by rw [h3 k,nf_co]
end
def lexlt:List Int->List Int->Bool
 | [],[]=>false
 | [],_ :: _=>true
 | _ :: _,[]=>false
 | a :: x,b :: y=>if a=b then lexlt x y else decide (a < b)
theorem lexlt_irr:∀ a,lexlt a a=false
 | []=>rfl
 | a :: x=>by simp [lexlt,lexlt_irr x]
theorem lexlt_tr:∀ a b c,lexlt a b=true->lexlt b c=true->lexlt a c=true
 | [],[],_,h,_=>by simp [lexlt] at h
 | [],_ :: _,[],_,h=>by simp [lexlt] at h
 | [],_ :: _,_ :: _,_,_=>rfl
 | _ :: _,[],_,h,_=>by simp [lexlt] at h
 | _ :: _,_ :: _,[],_,h=>by simp [lexlt] at h
 | a :: x,b :: y,c :: z,h1,h2=>by
  simp only [lexlt] at h1 h2 ⊢
  by_cases e1:a=b
  ·subst e1
   rw [if_pos rfl] at h1
   by_cases e2:a=c
   ·subst e2
    rw [if_pos rfl] at h2 ⊢
    exact lexlt_tr x y z h1 h2
   ·rw [if_neg e2] at h2 ⊢
    exact h2
  ·rw [if_neg e1] at h1
   by_cases e2:b=c
   ·subst e2
    rw [if_neg e1]
    exact h1
   ·rw [if_neg e2] at h2
    simp only [decide_eq_true_eq] at h1 h2
    rw [if_neg (by omega)]
    simp only [decide_eq_true_eq]
    omega
theorem lexlt_tot:∀ a b,lexlt a b=true\/a=b\/lexlt b a=true
 | [],[]=>.inr (.inl rfl)
 | [],_ :: _=>.inl rfl
 | _ :: _,[]=>.inr (.inr rfl)
 | a :: x,b :: y=>by
  simp only [lexlt]
  by_cases e:a=b
  ·subst e
   simp only [if_true]
   rcases lexlt_tot x y with h | h | h
   ·exact .inl h
   ·exact .inr (.inl (by rw [h]))
   ·exact .inr (.inr h)
  ·rw [if_neg e,if_neg (Ne.symm e)]
   simp only [decide_eq_true_eq]
   omega
theorem lexOrd:Ord lexlt:=⟨lexlt_irr,lexlt_tr,lexlt_tot⟩
def qlt (a b:List Int×Int):Bool:=if a.1=b.1 then decide (a.2 < b.2) else lexlt a.1 b.1
end Go.Proofs.Ytfcgcgmleogamaa.Ab
namespace Go.Proofs.Ytfcgcgmleogamaa.Ab
open Go
def Dig (l:List Int):Prop:=∀ x∈l,-64<=x/\x<=63
def addE (k:Int):List Int->List Int->List Int
 | x :: a,y :: b=>(x+k*y) :: addE k a b
 | a,[]=>a
 | [],_=>[]
end Go.Proofs.Ytfcgcgmleogamaa.Ab
namespace Go.Proofs.Ytfcgcgmleogamaa.Ab
open Go
def Good (v:Int) (t:Trm):Prop:=(t.e.length:Int)=v/\t.c≠0/\(-1000000<=t.c/\t.c<=1000000)/\∀ x∈t.e,-20<=x/\x<=20
def DescT (ts:List Trm):Prop:=ts.Pairwise fun a b=>lexlt b.e a.e=true
def Right (f:Lau):Prop:=(1<=f.v/\f.v<=8)/\f.ts.length<=600/\(∀ t∈f.ts,Good f.v t)/\DescT f.ts
noncomputable instance (f:Lau):Decidable (Right f):=Classical.propDecidable _
def zeroF:Lau:=⟨0,[]⟩
def gM (x:Int×Int):List D:=[D.int x.1,D.int x.2]
theorem gM_two (x:Int×Int):(gM x).length=2:=rfl
@[simp] theorem gM_length (l:List (Int×Int)):(rows gM l).length=2*l.length:=rows_length gM_two l
theorem gM_leaf:∀ l:List (Int×Int),leafL (rows gM l)
 | []=>trivial
 | x :: l=>⟨rfl,rfl,gM_leaf l⟩
theorem gM_noSh (l:List (Int×Int)):noShL (rows gM l):=rows_noSh (fun t=>by simp [gM,noShL,noSh]) l
theorem gM_share:∀ l:List (Int×Int),shareL (rows gM l)=rows gM l
 | []=>rfl
 | x :: l=>by simp [rows,gM,shareL,share,gM_share l]
attribute [simp] gM_leaf gM_noSh gM_share
section
variable {l:List (Int×Int)} {i:Nat}
end
def tm (x:List Int×Int):Trm:=⟨x.1,x.2⟩
def pr (t:Trm):List Int×Int:=(t.e,t.c)
noncomputable def shutF (v:Int) (l:List (List Int×Int)):Lau×Bool:=if Right ⟨v,(nf lexlt l).map tm⟩ then (⟨v,(nf lexlt l).map tm⟩,true) else (zeroF,false)
def prodL (a b:List (List Int×Int)):List (List Int×Int):=a.flatMap fun x=>b.map fun y=>(addE 1 x.1 y.1,x.2*y.2)
noncomputable def mulF (f g:Lau):Lau×Bool:=if Right f/\Right g/\f.v=g.v then shutF f.v (prodL (f.ts.map pr) (g.ts.map pr)) else (zeroF,false)
end Go.Proofs.Ytfcgcgmleogamaa.Ab
namespace Go.Proofs.Ytfcgcgmleogamaa.Ab
open Go
set_option maxRecDepth 10000
set_option maxHeartbeats 2000000
end Go.Proofs.Ytfcgcgmleogamaa.Ab
namespace Go.Proofs.Ytfcgcgmleogamaa.Ab
open Go
set_option maxRecDepth 10000
set_option maxHeartbeats 2000000
theorem slices_IndexFunc_int_int_c (xs:List Int) (g:Nat) (p:Int->Bool) (hx:xs.length < 4611686018427387904) (hM:aget [] MM g=[]) (hp:∀ x∈xs,ACalls Try.prog g [.int x] [] true (fun outs res=>outs=[]/\res=[.one (D.bool (p x))])):ACalls Try.prog F.slices_IndexFunc_int_int [.d (shI xs),.d (.fn g [])] [] true (fun outs res=>outs=[]/\∃ r:Int,res=[.one (D.int r)]/\decide (0<=r)=xs.any p):=by
 refine ACalls.of_body (C:=C.slices_IndexFunc_int_int) (n:=Try.f150.ntmps) tabT folT Try.func150 rfl (by kernel_rfl) rfl (Nat.le_of_ble_eq_true rfl) (by decide) (by kernel_rfl) (by kernel_rfl) rfl (by simp) (by simp) ?_
 simp only [Try.f150]
 refine wseq ?_
 refine wreg fun K hK=>?_
 simp [C.slices_IndexFunc_int_int]
 refine hK _ ?_;clear hK K
 show AWp _ _ _ _ _
 refine wseq ?_
 refine wseq ?_
 refine wreg fun K hK=>?_
 simp [C.slices_IndexFunc_int_int]
 refine hK _ ?_;clear hK K
 show AWp _ _ _ _ _
 refine wblock ?_
 refine wloop (fun k:Nat=>⟨ofL [(0,.d (shI xs)),(1,.d (.fn g [])),(7,.int xs.length),(8,FV.int k)],ofRO []⟩) (fun k=>k<=xs.length/\(xs.take k).any p=false) (fun k=>xs.length - k) 0 (by simp [C.slices_IndexFunc_int_int]) (by simp) ?_
 intro x1 hx1 R1 hR1
 obtain ⟨hk,ht⟩:=hx1
 refine wseq ?_
 refine wreg fun K hK=>?_
 simp [C.slices_IndexFunc_int_int]
 refine hK _ ?_;clear hK K
 show AWp _ _ _ _ _
 refine wseq ?_
 refine wcond _ rfl (fun hc1=>?_) (fun hc1=>?_)
 ·have h1:x1 < xs.length:=by have:=d_t hc1;omega
  refine wskip ?_
  show AWp _ _ _ _ _
  refine wseq ?_
  refine wblock ?_
  refine wseq ?_
  refine wreg fun K hK=>?_
  simp [C.slices_IndexFunc_int_int]
  refine hK _ ?_;clear hK K
  show AWp _ _ _ _ _
  refine wseq ?_
  refine wregI ([0,1,2,3,4,5] ++ ([])) rfl fun K hK=>?_
  refine oSg fun L hL=>?_
  simp [C.slices_IndexFunc_int_int,get_ints,h1,hM]
  refine wcall1 (hp xs[x1] (List.getElem_mem h1)) (by simp) (by simp) ?_
  simp [C.slices_IndexFunc_int_int,get_ints,h1,hM]
  refine hL _ ?_;clear hL L
  refine oEn fun L hL=>?_
  simp only [AOpsI]
  refine hL _ ?_;clear hL L
  simp [C.slices_IndexFunc_int_int,get_ints,h1,hM]
  refine hK _ ?_;clear hK K
  show AWp _ _ _ _ _
  refine wcond _ rfl (fun hc2=>?_) (fun hc2=>?_)
  ·have hpx:p xs[x1]=true:=by simpa using hc2
   refine wseq ?_
   refine wreg fun K hK=>?_
   simp [C.slices_IndexFunc_int_int]
   refine hK _ ?_;clear hK K
   show AWp _ _ _ _ _
   refine wret ?_
   simp [C.slices_IndexFunc_int_int]
   exact ⟨xs[x1],List.getElem_mem h1,hpx⟩
  ·have hpx:p xs[x1]=false:=by simpa using hc2
   refine wskip ?_
   show AWp _ _ _ _ _
   refine wreg fun K hK=>?_
   simp [C.slices_IndexFunc_int_int,wrap_succ (show x1 < 4611686018427387904 by omega)]
   refine hK _ ?_;clear hK K
   simp [C.slices_IndexFunc_int_int]
   refine hR1 (x1+1) ⟨h1,?_⟩ (by omega)
   rw [List.take_succ_eq_append_getElem h1,List.any_append,ht]
   simp [hpx]
 ·have h1:x1=xs.length:=by have:=d_f hc1;omega
  have ht2:xs.any p=false:=by rw [h1,List.take_length] at ht;exact ht
  refine wexit ?_
  show AWp _ _ _ _ _
  refine wseq ?_
  refine wreg fun K hK=>?_
  simp [C.slices_IndexFunc_int_int]
  refine hK _ ?_;clear hK K
  show AWp _ _ _ _ _
  refine wret ?_
  simp [C.slices_IndexFunc_int_int]
  intro x hx
  have:=List.any_eq_false.1 ht2 x hx
  simpa using this
theorem slices_ContainsFunc_int_int_c (xs:List Int) (g:Nat) (p:Int->Bool) (hx:xs.length < 4611686018427387904) (hM:aget [] MM g=[]) (hp:∀ x∈xs,ACalls Try.prog g [.int x] [] true (fun outs res=>outs=[]/\res=[.one (D.bool (p x))])):ACalls Try.prog F.slices_ContainsFunc_int_int [.d (shI xs),.d (.fn g [])] [] true (fun outs res=>outs=[]/\res=[.one (D.bool (xs.any p))]):=by
 refine ACalls.of_body (C:=C.slices_ContainsFunc_int_int) (n:=Try.f90.ntmps) tabT folT Try.func90 rfl (by kernel_rfl) rfl (Nat.le_of_ble_eq_true rfl) (by decide) (by kernel_rfl) (by kernel_rfl) rfl (by simp) (by simp) ?_
 simp only [Try.f90]
 refine wseq ?_
 refine wreg fun K hK=>?_
 simp [C.slices_ContainsFunc_int_int]
 refine hK _ ?_;clear hK K
 show AWp _ _ _ _ _
 refine wseq ?_
 refine wregI ([0,1,2] ++ ([3,4])) rfl fun K hK=>?_
 refine oSg fun L hL=>?_
 simp [C.slices_ContainsFunc_int_int]
 refine wcall (slices_IndexFunc_int_int_c xs g p hx hM hp) (by simp) (by simp) (by simp) ?_
 rintro outs res ⟨rfl,r,rfl,hr⟩
 simp [C.slices_ContainsFunc_int_int]
 refine hL _ ?_;clear hL L
 refine oEn fun L hL=>?_
 simp [C.slices_ContainsFunc_int_int]
 refine hL _ ?_;clear hL L
 simp [C.slices_ContainsFunc_int_int]
 refine hK _ ?_;clear hK K
 show AWp _ _ _ _ _
 refine wret ?_
 simp [C.slices_ContainsFunc_int_int]
 exact hr
end Go.Proofs.Ytfcgcgmleogamaa.Ab
namespace Go.Proofs.Ytfcgcgmleogamaa.Ab
open Go
set_option maxRecDepth 10000
set_option maxHeartbeats 1000000
abbrev aM (m:Mat):FV:=.ag [.int m.n,.int m.r,.d (shI m.d)]
end Go.Proofs.Ytfcgcgmleogamaa.Ab
namespace Go.Proofs.Ytfcgcgmleogamaa.Ab
open Go
set_option maxRecDepth 10000
set_option maxHeartbeats 2000000
def unitL (n i:Nat):List Int:=(List.replicate n 0).set i 1
theorem unitL_length (n i:Nat):(unitL n i).length=n:=by simp [unitL]
noncomputable def monoF (e:List Int):Lau:=if Right ⟨e.length,[⟨e,1⟩]⟩ then ⟨e.length,[⟨e,1⟩]⟩ else zeroF
noncomputable def varsL (r:Nat):List Lau:=(List.range r).map fun i=>monoF (unitL r i)
theorem spec_l1CopyMatrix_c (m:Mat) (hx:m.d.length < 17592186044416):ACalls Try.prog F.spec_l1CopyMatrix [aM m] [] true (fun outs res=>outs=[]/\res=[.ag (mO m)]):=by
 refine ACalls.of_body (C:=C.spec_l1CopyMatrix) (n:=Try.f167.ntmps) tabT folT Try.func167 rfl (by kernel_rfl) rfl (Nat.le_of_ble_eq_true rfl) (by decide) (by kernel_rfl) (by kernel_rfl) rfl (by simp) (by simp) ?_
 simp only [Try.f167]
 refine wseq ?_
 refine wreg fun K hK=>?_
 simp [C.spec_l1CopyMatrix]
 refine hK _ ?_;clear hK K
 show AWp _ _ _ _ _
 refine wseq ?_
 refine wdrawI [(true,0),(true,1),(true,2),(true,3),(true,4),(true,5),(false,6),(true,7),(false,8)] ⟨by kernel_rfl,by kernel_rfl⟩ ([0,1,2,3,4,5,6] ++ ([7,8])) rfl fun K hK=>?_
 refine oSg fun L hL=>?_
 simp [C.spec_l1CopyMatrix]
 refine wcall1 (spec_l1Ints_c m.d hx) (by simp) (by simp) ?_
 simp [C.spec_l1CopyMatrix]
 refine hL _ ?_;clear hL L
 refine oEn fun L hL=>?_
 simp [C.spec_l1CopyMatrix]
 refine hL _ ?_;clear hL L
 simp [C.spec_l1CopyMatrix]
 refine hK _ ?_;clear hK K
 show AWp _ _ _ _ _
 refine wret ?_
 simp [C.spec_l1CopyMatrix,mO]
theorem spec_l3Unit_c (n i:Nat) (hn:n<=8) (hi:i < n):ACalls Try.prog F.spec_l3Unit [.int n,.int i] [] true (fun outs res=>outs=[]/\res=[.one (owI (unitL n i))]):=by
 refine ACalls.of_body (C:=C.spec_l3Unit) (n:=Try.f122.ntmps) tabT folT Try.func122 rfl (by kernel_rfl) rfl (Nat.le_of_ble_eq_true rfl) (by decide) (by kernel_rfl) (by kernel_rfl) rfl (by simp) (by simp) ?_
 simp only [Try.f122]
 refine wseq ?_
 refine wreg fun K hK=>?_
 simp [C.spec_l3Unit]
 refine hK _ ?_;clear hK K
 show AWp _ _ _ _ _
 refine wseq ?_
 refine wreg fun K hK=>?_
 simp [C.spec_l3Unit,zeros_ints,show (8:Int)*n<=281474976710656 by omega,show (n:Int)<=281474976710656 by omega]
 refine hK _ ?_;clear hK K
 show AWp _ _ _ _ _
 refine wseq ?_
 refine wreg fun K hK=>?_
 simp [C.spec_l3Unit,hi]
 refine hK _ ?_;clear hK K
 show AWp _ _ _ _ _
 refine wseq ?_
 refine wreg fun K hK=>?_
 simp [C.spec_l3Unit]
 refine hK _ ?_;clear hK K
 show AWp _ _ _ _ _
 refine wret ?_
 simp [C.spec_l3Unit,unitL]
theorem impl_unit_c (n i:Nat) (hn:n<=8) (hi:i < n):ACalls Try.prog F.impl_unit [.int n,.int i] [] true (fun outs res=>outs=[]/\res=[.one (owI (unitL n i))]):=by
 refine ACalls.of_body (C:=C.impl_unit) (n:=Try.f63.ntmps) tabT folT Try.func63 rfl (by kernel_rfl) rfl (Nat.le_of_ble_eq_true rfl) (by decide) (by kernel_rfl) (by kernel_rfl) rfl (by simp) (by simp) ?_
 simp only [Try.f63]
 refine wseq ?_
 refine wreg fun K hK=>?_
 simp [C.impl_unit]
 refine hK _ ?_;clear hK K
 show AWp _ _ _ _ _
 refine wseq ?_
 refine wreg fun K hK=>?_
 simp [C.impl_unit,zeros_ints,show (8:Int)*n<=281474976710656 by omega,show (n:Int)<=281474976710656 by omega]
 refine hK _ ?_;clear hK K
 show AWp _ _ _ _ _
 refine wseq ?_
 refine wreg fun K hK=>?_
 simp [C.impl_unit,hi]
 refine hK _ ?_;clear hK K
 show AWp _ _ _ _ _
 refine wseq ?_
 refine wreg fun K hK=>?_
 simp [C.impl_unit]
 refine hK _ ?_;clear hK K
 show AWp _ _ _ _ _
 refine wret ?_
 simp [C.impl_unit,unitL]
abbrev m0:Mat:=⟨2,2,[0,1,-1,0]⟩
noncomputable abbrev z0:Ses:=⟨m0,[],⟨m0,varsL 2⟩⟩
end Go.Proofs.Ytfcgcgmleogamaa.Ab
namespace Go.Proofs.Ytfcgcgmleogamaa.Ab
open Go
set_option maxRecDepth 10000
set_option maxHeartbeats 2000000
theorem impl_shaped_1_c (x:Int):ACalls Try.prog F.impl_shaped_1 [.int x] [] true (fun outs res=>outs=[]/\res=[.one (D.bool (!decide (-99<=x/\x<=99)))]):=by
 refine ACalls.of_body (C:=C.impl_shaped_1) (n:=Try.f113.ntmps) tabT folT Try.func113 rfl (by kernel_rfl) rfl (Nat.le_of_ble_eq_true rfl) (by decide) (by kernel_rfl) (by kernel_rfl) rfl (by simp) (by simp) ?_
 simp only [Try.f113]
 refine wseq ?_
 refine wreg fun K hK=>?_
 simp [C.impl_shaped_1]
 refine hK _ ?_;clear hK K
 show AWp _ _ _ _ _
 refine wseq ?_
 refine wregI ([0,1] ++ ([2,3])) rfl fun K hK=>?_
 refine oSg fun L hL=>?_
 simp [C.impl_shaped_1]
 refine wcall1 (impl_within_c x (-99) 99) (by simp) (by simp) ?_
 simp [C.impl_shaped_1]
 refine hL _ ?_;clear hL L
 refine oEn fun L hL=>?_
 simp [C.impl_shaped_1]
 refine hL _ ?_;clear hL L
 simp [C.impl_shaped_1]
 refine hK _ ?_;clear hK K
 show AWp _ _ _ _ _
 refine wret ?_
 simp [C.impl_shaped_1]
theorem impl_Matrix_at_c (m:Mat) (i j q:Nat) (n:Nat) (hn:m.n=n) (hq:q=i*n+j) (hlt:q < m.d.length) (hb:m.d.length < 1000000):ACalls Try.prog F.impl_Matrix_at [aM m,.int i,.int j] [] true (fun outs res=>outs=[]/\res=[.one (D.int (m.d[q]'hlt))]):=by
 refine ACalls.of_body (C:=C.impl_Matrix_at) (n:=Try.f64.ntmps) tabT folT Try.func64 rfl (by kernel_rfl) rfl (Nat.le_of_ble_eq_true rfl) (by decide) (by kernel_rfl) (by kernel_rfl) rfl (by simp) (by simp) ?_
 simp only [Try.f64]
 refine wseq ?_
 refine wreg fun K hK=>?_
 simp [C.impl_Matrix_at]
 refine hK _ ?_;clear hK K
 show AWp _ _ _ _ _
 refine wseq ?_
 have h0:((i:Int)*n)=((i*n:Nat):Int):=by simp
 have h1:IntKind.i64.wrap ((i:Int)*n)=(i:Int)*n:=by
  rw [h0,wrapOk (by omega) (by omega)]
 have h2:IntKind.i64.wrap ((i:Int)*n+j)=(q:Int):=by
  rw [h0,wrapOk (by omega) (by omega)]
  omega
 refine wreg fun K hK=>?_
 simp [C.impl_Matrix_at,hn,h1,h2,hlt,get_ints]
 refine hK _ ?_;clear hK K
 show AWp _ _ _ _ _
 refine wret ?_
 simp [C.impl_Matrix_at]
end Go.Proofs.Ytfcgcgmleogamaa.Ab
namespace Go.Proofs.Ytfcgcgmleogamaa.Ab
open Go
def g0 (l:List Int) (i:Nat):Int:=l.getD i 0
def bM (m:Mat) (i j:Nat):Int:=g0 m.d (i*m.n.toNat+j)
structure Sol (n:Nat) (b:Nat->Nat->Int) (d:Nat->Int):Prop where
 pos:∀ i,i < n->0 < d i
 rel:∀ i j,i < n->j < n->d i*b i j=-(d j*b j i)
theorem g0_set (l:List Int) (i j:Nat) (x:Int) (h:i < l.length):g0 (l.set i x) j=if i=j then x else g0 l j:=by
 simp only [g0,List.getD_eq_getElem?_getD,List.getElem?_set]
 split
 ·rename_i e;subst e;simp [h]
 ·rfl
theorem frac (A B:Int) (hA:0 < A) (hB:0 < B):∃ a b g:Int,0 < a/\0 < b/\0 < g/\(Int.gcd A B:Int)=g/\A=a*g/\B=b*g/\a.natAbs.Coprime b.natAbs:=by
 obtain ⟨A,rfl⟩:=Int.eq_ofNat_of_zero_le (Int.le_of_lt hA)
 obtain ⟨B,rfl⟩:=Int.eq_ofNat_of_zero_le (Int.le_of_lt hB)
 have hA':0 < A:=by omega
 have hB':0 < B:=by omega
 have hg:0 < A.gcd B:=Nat.gcd_pos_of_pos_left _ hA'
 have e1:=Nat.div_mul_cancel (Nat.gcd_dvd_left A B)
 have e2:=Nat.div_mul_cancel (Nat.gcd_dvd_right A B)
 refine ⟨(A / A.gcd B:Nat),(B / A.gcd B:Nat),A.gcd B,?_,?_,by omega,rfl,?_,?_,?_⟩
 ·have:=Nat.div_pos (Nat.le_of_dvd hA' (Nat.gcd_dvd_left A B)) hg;omega
 ·have:=Nat.div_pos (Nat.le_of_dvd hB' (Nat.gcd_dvd_right A B)) hg;omega
 ·rw [<-Int.natCast_mul,e1]
 ·rw [<-Int.natCast_mul,e2]
 ·rw [Int.natAbs_natCast,Int.natAbs_natCast];exact Nat.coprime_div_gcd_div_gcd hg
def Edge (b:Nat->Nat->Int) (num den:List Int) (P:List Nat) (i j:Nat):Prop:=
 (b i j=0/\b j i=0)\/(j∈P/\g0 num i*g0 den j*b i j=-(g0 num j*g0 den i*b j i))
structure BJ (n:Nat) (b:Nat->Nat->Int) (old:List Nat) (s:Nat) (num den:List Int) (P:List Nat) (a j:Nat):Prop where
 ln:num.length=n
 ld:den.length=n
 pn:P.Nodup
 pl:∀ i∈P,i < n
 mem:∀ i,i < n->(g0 num i≠0↔i∈old\/i∈P)
 pd:∀ i∈P,i ∉ old
 hd:P[0]? = some s
 s1:g0 num s=1/\g0 den s=1
 pos:∀ i∈P,0 < g0 num i/\0 < g0 den i/\(g0 num i).natAbs.Coprime (g0 den i).natAbs
 bd:∀ t (h:t < P.length),(g0 num P[t]).natAbs<=99 ^ t/\(g0 den P[t]).natAbs<=99 ^ t
 qd:∃ Q:Nat,0 < Q/\Q<=99 ^ (P.length - 1)/\∀ i∈P,(g0 den i).natAbs ∣ Q
 sol:∀ d,Sol n b d->∀ i∈P,d i*g0 den i=d s*g0 num i
 edge:∀ t (h:t < P.length),(t < a->∀ k,k < n->Edge b num den P P[t] k)/\(t=a->∀ k,k < j->Edge b num den P P[t] k)
structure OJ (n:Nat) (b:Nat->Nat->Int) (old:List Nat) (out:List Int):Prop where
 lo:out.length=n
 cl:∀ i∈old,i < n/\0 < g0 out i/\∀ j,j < n->(b i j=0/\b j i=0)\/(j∈old/\g0 out i*b i j=-(g0 out j*b j i))
 mn:∀ d,Sol n b d->∀ i∈old,g0 out i ∣ d i
 bd:∀ i∈old,g0 out i<=99 ^ 8
section
variable {n:Nat} {b:Nat->Nat->Int} {old:List Nat} {s:Nat} {num den out:List Int} {P:List Nat} {a j:Nat}
theorem BJ.start (ln:num.length=n) (ld:den.length=n) (hs:s < n) (hm:∀ i,i < n->(g0 num i≠0↔i∈old)) (h0:g0 num s=0):BJ n b old s (num.set s 1) (den.set s 1) [s] 0 0:=by
 have hso:s ∉ old:=fun h=>(hm s hs).2 h h0
 refine ⟨by simpa using ln,by simpa using ld,by simp,by simpa using hs,fun i hi=>?_,by simpa using hso,rfl,?_,?_,?_,⟨1,by simp,by simp,?_⟩,?_,?_⟩
 ·rw [g0_set _ _ _ _ (by omega)]
  by_cases e:s=i
  ·simp [e]
  ·rw [if_neg e,hm i hi]
   simp;omega
 ·rw [g0_set _ _ _ _ (by omega),g0_set _ _ _ _ (by omega)];simp
 ·intro i hi
  obtain rfl:i=s:=by simpa using hi
  rw [g0_set _ _ _ _ (by omega),g0_set _ _ _ _ (by omega)];simp
 ·intro t ht
  obtain rfl:t=0:=by simpa using ht
  simp only [List.getElem_cons_zero]
  rw [g0_set _ _ _ _ (by omega),g0_set _ _ _ _ (by omega)];simp
 ·intro i hi
  obtain rfl:i=s:=by simpa using hi
  rw [g0_set _ _ _ _ (by omega)];simp
 ·intro d _ i hi
  obtain rfl:i=s:=by simpa using hi
  rw [g0_set _ _ _ _ (by omega),g0_set _ _ _ _ (by omega)];simp
 ·intro t ht
  exact ⟨fun h=>absurd h (by omega),fun _ k h=>absurd h (by omega)⟩
theorem BJ.skip (h:BJ n b old s num den P a j) (ha:a < P.length) (h1:b P[a] j=0) (h2:b j P[a]=0):BJ n b old s num den P a (j+1):=
 { h with edge:=fun t ht=>⟨(h.edge t ht).1,fun e k hk=>by
   subst e
   by_cases q:k=j
   ·subst q;exact .inl ⟨h1,h2⟩
   ·exact (h.edge t ht).2 rfl k (by omega)⟩ }
theorem BJ.next (h:BJ n b old s num den P a n):BJ n b old s num den P (a+1) 0:=
 { h with edge:=fun t ht=>⟨fun e k hk=>by
   by_cases q:t=a
   ·exact (h.edge t ht).2 q k hk
   ·exact (h.edge t ht).1 (by omega) k hk,fun _ k h=>absurd h (by omega)⟩ }
theorem mul_sign {x y p q:Int} (hx:0 < x) (hy:0 < y) (e:x*p=y*q):(0 < p->0 < q)/\(p=0->q=0)/\(p < 0->q < 0):=by
 refine ⟨fun h=>?_,fun h=>?_,fun h=>?_⟩
 ·have h1:0 < y*q:=e ▸ Int.mul_pos hx h
  exact Int.pos_of_mul_pos_right h1 (by omega)
 ·rw [h,Int.mul_zero] at e
  rcases Int.mul_eq_zero.1 e.symm with h | h <;> omega
 ·have h1:0 < y * -q:=by rw [Int.mul_neg,<-e,<-Int.mul_neg];exact Int.mul_pos hx (by omega)
  have:=Int.pos_of_mul_pos_right h1 (by omega)
  omega
theorem sol_sign {d:Nat->Int} (hd:Sol n b d) {i:Nat} (hi:i < n) (hj:j < n):(0 < b i j↔0 < -b j i)/\(b i j=0↔b j i=0)/\(b i j < 0↔-b j i < 0):=by
 have h1:=hd.pos i hi
 have h2:=hd.pos j hj
 have h3:=hd.rel i j hi hj
 have e:d i*b i j=d j * -b j i:=by rw [h3,Int.mul_neg]
 have q1:=mul_sign h1 h2 e
 have q2:=mul_sign h2 h1 e.symm
 refine ⟨⟨q1.1,q2.1⟩,⟨fun h=>?_,fun h=>?_⟩,⟨q1.2.2,q2.2.2⟩⟩
 ·have:=q1.2.1 h;omega
 ·exact q2.2.1 (by omega)
theorem natAbs_same {p q:Int} (h:0 < p/\0 < q\/p < 0/\q < 0):∃ u v:Int,0 < u/\0 < v/\max p (-p)=u/\max q (-q)=v/\v*p=u*q/\u.natAbs=p.natAbs/\v.natAbs=q.natAbs/\(∀ x y:Int,x*p=y*q->x*u=y*v):=by
 rcases h with h | h
 ·refine ⟨p,q,h.1,h.2,by omega,by omega,Int.mul_comm _ _,rfl,rfl,fun x y e=>e⟩
 ·refine ⟨-p,-q,by omega,by omega,by omega,by omega,by grind,by omega,by omega,fun x y e=>by grind⟩
theorem BJ.new (h:BJ n b old s num den P a j) (hoc:∀ i∈old,∀ j,j < n->(b i j=0/\b j i=0)\/j∈old) (ha:a < P.length) (hj:j < n) (hB:∀ i j,i < n->j < n->(b i j).natAbs<=99)
  (hpq:0 < b P[a] j/\0 < -b j P[a]\/b P[a] j < 0/\-b j P[a] < 0) (hz:g0 num j=0) {u v x y g:Int}
  (hu:max (b P[a] j) (-b P[a] j)=u) (hv:max (-b j P[a]) (- -b j P[a])=v) (hg:0 < g) (hx0:0 < x) (hy0:0 < y) (hx:g0 num P[a]*u=x*g) (hy:g0 den P[a]*v=y*g) (hco:x.natAbs.Coprime y.natAbs) :
  BJ n b old s (num.set j x) (den.set j y) (P ++ [j]) a (j+1):=by
 have hin:P[a]∈P:=List.getElem_mem ha
 have hi:=h.pl _ hin
 have hjP:j ∉ old/\j ∉ P:=by
  have:=h.mem j hj
  simp only [hz,ne_eq,not_true_eq_false,false_iff,not_or] at this
  exact this
 have hne:∀ i∈P,j≠i:=fun i hi e=>hjP.2 (e ▸ hi)
 obtain ⟨u',v',hu0,hv0,hu',hv',hvp,hup,hvq,hrat⟩:=natAbs_same hpq
 obtain rfl:u=u':=by omega
 obtain rfl:v=v':=by omega
 have hpi:=h.pos _ hin
 have gn:∀ i∈P,g0 (num.set j x) i=g0 num i:=fun i hi=>by
  rw [g0_set _ _ _ _ (by have:=h.ln;omega),if_neg (hne i hi)]
 have gd:∀ i∈P,g0 (den.set j y) i=g0 den i:=fun i hi=>by
  rw [g0_set _ _ _ _ (by have:=h.ld;omega),if_neg (hne i hi)]
 have gnj:g0 (num.set j x) j=x:=by rw [g0_set _ _ _ _ (by have:=h.ln;omega),if_pos rfl]
 have gdj:g0 (den.set j y) j=y:=by rw [g0_set _ _ _ _ (by have:=h.ld;omega),if_pos rfl]
 have hs:s∈P:=List.mem_of_getElem? h.hd
 have hb1:u.natAbs<=99:=hup ▸ hB _ _ hi hj
 have hb2:v.natAbs<=99:=by have:=hB _ _ hj hi;omega
 have hxd:x.natAbs ∣ (g0 num P[a]).natAbs*u.natAbs:=by
  rw [<-Int.natAbs_mul,hx,Int.natAbs_mul];exact Nat.dvd_mul_right _ _
 have hyd:y.natAbs ∣ (g0 den P[a]).natAbs*v.natAbs:=by
  rw [<-Int.natAbs_mul,hy,Int.natAbs_mul];exact Nat.dvd_mul_right _ _
 have hbx:x.natAbs<=99 ^ P.length:=by
  have h1:=Nat.le_of_dvd (Nat.mul_pos (by omega) (by omega)) hxd
  have h2:=Nat.mul_le_mul (h.bd a ha).1 hb1
  rw [<-Nat.pow_succ] at h2
  have h3:99 ^ (a+1)<=99 ^ P.length:=Nat.pow_le_pow_right (by omega) (by omega)
  exact Nat.le_trans h1 (Nat.le_trans h2 h3)
 have hby:y.natAbs<=99 ^ P.length:=by
  have h1:=Nat.le_of_dvd (Nat.mul_pos (by omega) (by omega)) hyd
  have h2:=Nat.mul_le_mul (h.bd a ha).2 hb2
  rw [<-Nat.pow_succ] at h2
  have h3:99 ^ (a+1)<=99 ^ P.length:=Nat.pow_le_pow_right (by omega) (by omega)
  exact Nat.le_trans h1 (Nat.le_trans h2 h3)
 refine ⟨by simpa using h.ln,by simpa using h.ld,?_,?_,?_,?_,?_,?_,?_,?_,?_,?_,?_⟩
 ·rw [List.nodup_append]
  exact ⟨h.pn,by simp,fun i hi k hk=>by simp at hk;subst hk;exact (hne i hi).symm⟩
 ·intro i hi
  rcases List.mem_append.1 hi with hi | hi
  ·exact h.pl i hi
  ·simp at hi;omega
 ·intro i hi
  by_cases e:j=i
  ·subst e;rw [gnj];simp;omega
  ·rw [g0_set _ _ _ _ (by have:=h.ln;omega),if_neg e,h.mem i hi]
   simp only [List.mem_append,List.mem_singleton]
   constructor
   ·rintro (q | q)
    ·exact .inl q
    ·exact .inr (.inl q)
   ·rintro (q | q | q)
    ·exact .inl q
    ·exact .inr q
    ·omega
 ·intro i hi
  rcases List.mem_append.1 hi with hi | hi
  ·exact h.pd i hi
  ·simp at hi;subst hi;exact hjP.1
 ·rw [List.getElem?_append_left (by omega)];exact h.hd
 ·rw [gn s hs,gd s hs];exact h.s1
 ·intro i hi
  rcases List.mem_append.1 hi with hi | hi
  ·rw [gn i hi,gd i hi];exact h.pos i hi
  ·simp at hi;subst hi;rw [gnj,gdj];exact ⟨hx0,hy0,hco⟩
 ·intro t ht
  by_cases e:t < P.length
  ·have hm:=List.getElem_mem e
   rw [List.getElem_append_left e,gn _ hm,gd _ hm]
   exact h.bd t e
  ·have e2:t=P.length:=by simp at ht;omega
   subst e2
   simp only [List.getElem_concat_length]
   rw [gnj,gdj]
   exact ⟨hbx,hby⟩
 ·obtain ⟨Q,q1,q2,q3⟩:=h.qd
  refine ⟨Q*v.natAbs,Nat.mul_pos q1 (by omega),?_,?_⟩
  ·rw [List.length_append,List.length_singleton,Nat.add_sub_cancel]
   have h2:=Nat.mul_le_mul q2 hb2
   rw [<-Nat.pow_succ,show (P.length - 1).succ=P.length by omega] at h2
   exact h2
  ·intro i hi
   rcases List.mem_append.1 hi with hi | hi
   ·rw [gd i hi];exact Nat.dvd_trans (q3 i hi) (Nat.dvd_mul_right _ _)
   ·simp at hi;subst hi;rw [gdj]
    exact Nat.dvd_trans hyd (Nat.mul_dvd_mul_right (q3 _ hin) _)
 ·intro d hd i hi'
  rcases List.mem_append.1 hi' with hi' | hi'
  ·rw [gn i hi',gd i hi'];exact h.sol d hd i hi'
  ·simp at hi';subst hi';rw [gnj,gdj]
   have e1:=h.sol d hd _ hin
   have e2:=hrat (d P[a]) (d i) (by have:=hd.rel _ i hi hj;rw [this,Int.mul_neg])
   have:d i*y*g=d s*x*g:=by
    rw [Int.mul_assoc,<-hy,Int.mul_assoc,<-hx]
    calc d i*(g0 den P[a]*v)=(d i*v)*g0 den P[a]:=by grind
     _=(d P[a]*g0 den P[a])*u:=by rw [<-e2];grind
     _=d s*(g0 num P[a]*u):=by rw [e1];grind
   exact Int.eq_of_mul_eq_mul_right (by omega) this
 ·intro t ht
  have key:∀ i k,i∈P->Edge b num den P i k->Edge b (num.set j x) (den.set j y) (P ++ [j]) i k:=fun i k hi hk=>by
   rcases hk with hk | ⟨hk,e⟩
   ·exact .inl hk
   ·refine .inr ⟨by simp [hk],?_⟩
    rw [gn i hi,gd i hi,gn k hk,gd k hk];exact e
  by_cases e:t < P.length
  ·rw [List.getElem_append_left e]
   refine ⟨fun hta k hk=>key _ _ (List.getElem_mem e) ((h.edge t e).1 hta k hk),fun hta k hk=>?_⟩
   by_cases q:k=j
   ·obtain rfl:=hta;obtain rfl:=q
    refine .inr ⟨by simp,?_⟩
    rw [gn _ hin,gd _ hin,gnj,gdj]
    have:g0 num P[t]*y*b P[t] k*g=-(x*g0 den P[t]*b k P[t])*g:=by
     calc g0 num P[t]*y*b P[t] k*g=g0 num P[t]*(y*g)*b P[t] k:=by grind
      _=g0 num P[t]*g0 den P[t]*(v*b P[t] k):=by rw [<-hy];grind
      _=(g0 num P[t]*u)*g0 den P[t]*(-b k P[t]):=by rw [hvp];grind
      _=-(x*g0 den P[t]*b k P[t])*g:=by rw [hx];grind
    exact Int.eq_of_mul_eq_mul_right (by omega) this
   ·exact key _ _ (List.getElem_mem e) ((h.edge t e).2 hta k (by omega))
  ·have e2:t=P.length:=by simp at ht;omega
   exact ⟨fun h=>absurd h (by omega),fun h=>absurd h (by omega)⟩
theorem BJ.inP (h:BJ n b old s num den P a j) (hoc:∀ i∈old,∀ j,j < n->(b i j=0/\b j i=0)\/j∈old) (ha:a < P.length) (hj:j < n) (hne:b P[a] j≠0) (hz:g0 num j≠0):j∈P:=by
 have hin:P[a]∈P:=List.getElem_mem ha
 rcases (h.mem j hj).1 hz with q | q
 ·rcases hoc j q P[a] (h.pl _ hin) with e | e
  ·exact absurd e.2 hne
  ·exact absurd e (h.pd _ hin)
 ·exact q
theorem BJ.cmp (h:BJ n b old s num den P a j) (hoc:∀ i∈old,∀ j,j < n->(b i j=0/\b j i=0)\/j∈old) (ha:a < P.length) (hj:j < n)
  (hpq:0 < b P[a] j/\0 < -b j P[a]\/b P[a] j < 0/\-b j P[a] < 0) (hz:g0 num j≠0) {u v x y g:Int}
  (hu:max (b P[a] j) (-b P[a] j)=u) (hv:max (-b j P[a]) (- -b j P[a])=v) (hg:0 < g) (hx0:0 < x) (hy0:0 < y) (hx:g0 num P[a]*u=x*g) (hy:g0 den P[a]*v=y*g) (hco:x.natAbs.Coprime y.natAbs) :
  (g0 num j=x/\g0 den j=y->BJ n b old s num den P a (j+1))/\(¬ (g0 num j=x/\g0 den j=y)->∀ d,¬ Sol n b d):=by
 have hin:P[a]∈P:=List.getElem_mem ha
 have hjP:=h.inP hoc ha hj (by omega) hz
 obtain ⟨u',v',hu0,hv0,hu',hv',hvp,hup,hvq,hrat⟩:=natAbs_same hpq
 obtain rfl:u=u':=by omega
 obtain rfl:v=v':=by omega
 refine ⟨fun ⟨e1,e2⟩=>?_,fun hne d hd=>hne ?_⟩
 ·refine { h with edge:=fun t ht=>⟨(h.edge t ht).1,fun e k hk=>?_⟩ }
  subst e
  by_cases q:k=j
  ·subst q
   refine .inr ⟨hjP,?_⟩
   rw [e1,e2]
   have:g0 num P[t]*y*b P[t] k*g=-(x*g0 den P[t]*b k P[t])*g:=by
    calc g0 num P[t]*y*b P[t] k*g=g0 num P[t]*(y*g)*b P[t] k:=by grind
     _=g0 num P[t]*g0 den P[t]*(v*b P[t] k):=by rw [<-hy];grind
     _=(g0 num P[t]*u)*g0 den P[t]*(-b k P[t]):=by rw [hvp];grind
     _=-(x*g0 den P[t]*b k P[t])*g:=by rw [hx];grind
   exact Int.eq_of_mul_eq_mul_right (by omega) this
  ·exact (h.edge t ht).2 rfl k (by omega)
 ·have e1:=h.sol d hd _ hin
  have e3:=h.sol d hd _ hjP
  have e2:=hrat (d P[a]) (d j) (by have:=hd.rel _ j (h.pl _ hin) hj;rw [this,Int.mul_neg])
  have e4:d j*y=d s*x:=by
   have:d j*y*g=d s*x*g:=by
    rw [Int.mul_assoc,<-hy,Int.mul_assoc,<-hx]
    calc d j*(g0 den P[a]*v)=(d j*v)*g0 den P[a]:=by grind
     _=(d P[a]*g0 den P[a])*u:=by rw [<-e2];grind
     _=d s*(g0 num P[a]*u):=by rw [e1];grind
   exact Int.eq_of_mul_eq_mul_right (by omega) this
  have hp:=h.pos j hjP
  have hds:=hd.pos s (h.pl s (List.mem_of_getElem? h.hd))
  have e5:g0 num j*y=x*g0 den j:=by
   have h0:d s*(g0 num j*y)=d s*(x*g0 den j):=by
    calc d s*(g0 num j*y)=(d s*g0 num j)*y:=by grind
     _=(d j*y)*g0 den j:=by rw [<-e3];grind
     _=d s*(x*g0 den j):=by rw [e4];grind
   exact Int.eq_of_mul_eq_mul_left (by omega) h0
  have e6:(g0 num j).natAbs*y.natAbs=x.natAbs*(g0 den j).natAbs:=by rw [<-Int.natAbs_mul,e5,Int.natAbs_mul]
  have k1:(g0 num j).natAbs=x.natAbs:=by
   refine Nat.dvd_antisymm ?_ ?_
   ·exact hp.2.2.dvd_of_dvd_mul_right (e6 ▸ Nat.dvd_mul_right _ _)
   ·exact hco.dvd_of_dvd_mul_right (e6 ▸ Nat.dvd_mul_right _ _)
  have k2:(g0 den j).natAbs=y.natAbs:=by
   rw [k1] at e6
   exact (Nat.eq_of_mul_eq_mul_left (by omega) e6).symm
  omega
theorem sign_fail {i j:Nat} (hi:i < n) (hj:j < n) (h0:¬ (b i j=0/\-b j i=0)) (h:¬ (0 < b i j/\0 < -b j i\/b i j < 0/\-b j i < 0)\/i=j) (d:Nat->Int):¬ Sol n b d:=fun hd=>by
 obtain ⟨h1,h2,h3⟩:=sol_sign hd hi hj
 rcases h with h | h
 ·omega
 ·subst h
  omega
theorem BJ.den_dvd (h:BJ n b old s num den P a j) {d:Nat->Int} (hd:Sol n b d) {i:Nat} (hi:i∈P):g0 den i ∣ d s:=by
 have e:=h.sol d hd i hi
 have hp:=h.pos i hi
 have:(g0 den i).natAbs ∣ (d s).natAbs:=by
  refine hp.2.2.symm.dvd_of_dvd_mul_right (n:=(g0 num i).natAbs) ?_
  rw [<-Int.natAbs_mul,<-e,Int.natAbs_mul]
  exact Nat.dvd_mul_left _ _
 exact Int.natAbs_dvd_natAbs.1 this
structure CJ (n:Nat) (b:Nat->Nat->Int) (s:Nat) (den:List Int) (P:List Nat) (t:Nat) (c:Int):Prop where
 pos:0 < c
 dv:∀ i∈P.take t,g0 den i ∣ c
 qd:c<=99 ^ 4
 ex:∃ Q:Nat,Q<=99 ^ 4/\0 < Q/\c.natAbs ∣ Q/\∀ i∈P,(g0 den i).natAbs ∣ Q
 sol:∀ d,Sol n b d->c ∣ d s
theorem lcm_step {c e:Int} (hc:0 < c) (he:0 < e):∃ w:Nat,c.tdiv (Int.gcd c e:Int)=w/\w<=c/\(w:Int)*e=(Nat.lcm c.natAbs e.natAbs:Nat):=by
 obtain ⟨c,rfl⟩:=Int.eq_ofNat_of_zero_le (Int.le_of_lt hc)
 obtain ⟨e,rfl⟩:=Int.eq_ofNat_of_zero_le (Int.le_of_lt he)
 refine ⟨c / c.gcd e,?_,?_,?_⟩
 ·rw [Int.gcd_natCast_natCast,<-Int.ofNat_tdiv]
 ·have:=Nat.div_le_self c (c.gcd e);omega
 ·rw [Int.natAbs_natCast,Int.natAbs_natCast,<-Int.natCast_mul,Nat.lcm]
  congr 1
  rw [Nat.div_mul_right_comm (Nat.gcd_dvd_left c e)]
theorem CJ.start (h:BJ n b old s num den P a j) (hn:n<=5) (hPl:P.length<=n):CJ n b s den P 0 1:=by
 obtain ⟨Q,q1,q2,q3⟩:=h.qd
 refine ⟨by omega,by simp,by decide,⟨Q,Nat.le_trans q2 (Nat.pow_le_pow_right (by omega) (by omega)),q1,by simp,q3⟩,fun d _=>Int.one_dvd _⟩
theorem CJ.step {t:Nat} {c:Int} (h:CJ n b s den P t c) (hB:BJ n b old s num den P a j) (ht:t < P.length):CJ n b s den P (t+1) (c.tdiv (Int.gcd c (g0 den P[t]):Int)*g0 den P[t]):=by
 have hin:P[t]∈P:=List.getElem_mem ht
 obtain ⟨w,w1,_,w2⟩:=lcm_step h.pos (hB.pos _ hin).2.1
 rw [w1,w2]
 obtain ⟨Q,q1,q2,q3,q4⟩:=h.ex
 have hQ:Nat.lcm c.natAbs (g0 den P[t]).natAbs ∣ Q:=Nat.lcm_dvd q3 (q4 _ hin)
 have hp:0 < Nat.lcm c.natAbs (g0 den P[t]).natAbs:=Nat.pos_of_dvd_of_pos hQ q2
 have hl:=Nat.le_of_dvd q2 hQ
 refine ⟨by omega,fun i hi=>?_,?_,⟨Q,q1,q2,by simpa using hQ,q4⟩,fun d hd=>?_⟩
 ·rw [List.take_succ_eq_append_getElem ht] at hi
  rcases List.mem_append.1 hi with hi | hi
  ·exact Int.dvd_trans (h.dv i hi) (Int.natAbs_dvd.1 (Int.natCast_dvd_natCast.2 (Nat.dvd_lcm_left _ _)))
  ·obtain rfl:i=P[t]:=by simpa using hi
   exact Int.natAbs_dvd.1 (Int.natCast_dvd_natCast.2 (Nat.dvd_lcm_right _ _))
 ·have:(Nat.lcm c.natAbs (g0 den P[t]).natAbs:Int)<=((99 ^ 4:Nat):Int):=by omega
  exact this
 ·have h1:c.natAbs ∣ (d s).natAbs:=Int.natAbs_dvd_natAbs.2 (h.sol d hd)
  have h2:(g0 den P[t]).natAbs ∣ (d s).natAbs:=Int.natAbs_dvd_natAbs.2 (hB.den_dvd hd hin)
  exact Int.dvd_natAbs.1 (Int.natCast_dvd_natCast.2 (Nat.lcm_dvd h1 h2))
def wM (c:Int) (num den:List Int) (i:Nat):Int:=c.tdiv (g0 den i)*g0 num i
theorem pow4 {P:List Nat} {t n:Nat} (ht:t < P.length) (hn:n<=5) (hP:P.length<=n):99 ^ t<=99 ^ 4:=Nat.pow_le_pow_right (by omega) (by omega)
theorem wM_spec {c:Int} (h:CJ n b s den P P.length c) (hB:BJ n b old s num den P a j) (hn:n<=5) (hPl:P.length<=n) {i:Nat} (hi:i∈P) :
  0 < c.tdiv (g0 den i)/\c.tdiv (g0 den i)<=99 ^ 4/\0 < wM c num den i/\wM c num den i<=99 ^ 8/\wM c num den i*g0 den i=c*g0 num i/\(∀ d,Sol n b d->wM c num den i ∣ d i):=by
 obtain ⟨h1,h2,h3⟩:=hB.pos i hi
 have hd:=h.dv i (by rw [List.take_length];exact hi)
 obtain ⟨k,hk⟩:=hd
 have e1:c.tdiv (g0 den i)=k:=by rw [hk,Int.mul_comm,Int.mul_tdiv_cancel _ (by omega)]
 have hk0:0 < k:=Int.pos_of_mul_pos_right (hk ▸ h.pos) (by omega)
 have hkc:k<=c:=by
  rw [hk]
  have:1*k<=g0 den i*k:=Int.mul_le_mul_of_nonneg_right (by omega) (by omega)
  omega
 have hc:=h.qd
 obtain ⟨t,ht,rfl⟩:=List.getElem_of_mem hi
 have hb:=(hB.bd t ht).1
 have hb2:=pow4 ht hn hPl
 unfold wM
 rw [e1]
 refine ⟨hk0,by omega,Int.mul_pos hk0 h1,?_,?_,fun d hd=>?_⟩
 ·have h5:k.natAbs*(g0 num P[t]).natAbs<=99 ^ 4*99 ^ 4:=Nat.mul_le_mul (by omega) (by omega)
  rw [<-Int.natAbs_mul] at h5
  have h6:=Int.mul_pos hk0 h1
  generalize k*g0 num P[t]=z at *
  omega
 ·rw [hk];grind
 ·obtain ⟨z,hz⟩:=h.sol d hd
  have e:=hB.sol d hd _ hi
  refine ⟨z,?_⟩
  have:d P[t]*g0 den P[t]=k*g0 num P[t]*z*g0 den P[t]:=by rw [e,hz,hk];grind
  exact Int.eq_of_mul_eq_mul_right (by omega) this
theorem take_mem_snoc {P:List Nat} {t:Nat} (ht:t < P.length) (i:Nat):i∈P.take (t+1)↔i∈P.take t\/i=P[t]:=by
 rw [List.take_succ_eq_append_getElem ht];simp only [List.mem_append,List.mem_singleton]
theorem nodup_take {P:List Nat} (h:P.Nodup) {t:Nat} (ht:t < P.length):P[t] ∉ P.take t:=fun hm=>by
 have:(P.take t ++ P.drop t).Nodup:=by rw [List.take_append_drop];exact h
 rw [List.nodup_append] at this
 exact this.2.2 _ hm P[t] (by rw [List.drop_eq_getElem_cons ht];simp only [List.mem_cons,true_or]) rfl
structure WJ (c:Int) (num den:List Int) (P:List Nat) (o0:List Int) (t:Nat) (o:List Int) (g:Int):Prop where
 len:o.length=o0.length
 val:∀ i,g0 o i=if i∈P.take t then wM c num den i else g0 o0 i
 g0':0<=g/\(0 < t->0 < g)
 gd:∀ i∈P.take t,g ∣ wM c num den i
theorem WJ.start (c:Int) (num den:List Int) (P:List Nat) (o0:List Int):WJ c num den P o0 0 o0 0:=⟨rfl,by simp,by omega,by simp⟩
theorem WJ.step {c:Int} {o0 o:List Int} {t:Nat} {g:Int} (h:WJ c num den P o0 t o g) (ht:t < P.length) (hl:P[t] < o0.length) (hw:0 < wM c num den P[t]):WJ c num den P o0 (t+1) (o.set P[t] (wM c num den P[t])) (Int.gcd g (wM c num den P[t]):Int):=by
 refine ⟨by simpa using h.len,fun i=>?_,⟨by omega,fun _=>?_⟩,fun i hi=>?_⟩
 ·rw [g0_set _ _ _ _ (by have:=h.len;omega),h.val i]
  simp only [take_mem_snoc ht]
  by_cases e:P[t]=i
  ·subst e;simp
  ·rw [if_neg e]
   have:¬ i=P[t]:=fun q=>e q.symm
   simp [this]
 ·have:=Int.gcd_pos_of_ne_zero_right g (show wM c num den P[t]≠0 by omega)
  omega
 ·rcases (take_mem_snoc ht i).1 hi with hi | rfl
  ·exact Int.dvd_trans (Int.gcd_dvd_left _ _) (h.gd i hi)
  ·exact Int.gcd_dvd_right _ _
structure VJ (w:Nat->Int) (g:Int) (P:List Nat) (o0:List Int) (t:Nat) (o:List Int):Prop where
 len:o.length=o0.length
 val:∀ i,g0 o i=if i∈P.take t then (w i).tdiv g else if i∈P then w i else g0 o0 i
theorem VJ.start {c:Int} {o0 o:List Int} {g:Int} (h:WJ c num den P o0 P.length o g):VJ (wM c num den) g P o0 0 o:=⟨h.len,fun i=>by rw [h.val i,List.take_length];simp⟩
theorem VJ.step {w:Nat->Int} {g:Int} {o0 o:List Int} {t:Nat} (hP:P.Nodup) (h:VJ w g P o0 t o) (ht:t < P.length) (hl:P[t] < o0.length):g0 o P[t]=w P[t]/\VJ w g P o0 (t+1) (o.set P[t] ((w P[t]).tdiv g)):=by
 refine ⟨by rw [h.val,if_neg (nodup_take hP ht),if_pos (List.getElem_mem ht)],by simpa using h.len,fun i=>?_⟩
 rw [g0_set _ _ _ _ (by have:=h.len;omega),h.val i]
 simp only [take_mem_snoc ht]
 by_cases e:P[t]=i
 ·subst e;simp
 ·rw [if_neg e]
  have:¬ i=P[t]:=fun q=>e q.symm
  simp [this]
theorem OJ.grow {c g:Int} {o0 o1 o:List Int} (hO:OJ n b old o0) (hB:BJ n b old s num den P P.length j) (hn:n<=5) (hPl:P.length<=n) (hC:CJ n b s den P P.length c) (hW:WJ c num den P o0 P.length o1 g) (hV:VJ (wM c num den) g P o0 P.length o):OJ n b (old ++ P) o:=by
 have hgp:0 < g:=hW.g0'.2 (List.length_pos_of_mem (List.mem_of_getElem? hB.hd))
 have hv:∀ i∈P,∃ z,0 < z/\g0 o i=z/\wM c num den i=z*g:=fun i hi=>by
  obtain ⟨z,hz⟩:=hW.gd i (by rw [List.take_length];exact hi)
  have hp:=(wM_spec hC hB hn hPl hi).2.2.1
  refine ⟨z,Int.pos_of_mul_pos_right (hz ▸ hp) (by omega),?_,by rw [hz,Int.mul_comm]⟩
  rw [hV.val,List.take_length,if_pos hi,hz,Int.mul_comm,Int.mul_tdiv_cancel _ (by omega)]
 have hov:∀ i∈old,g0 o i=g0 o0 i:=fun i hi=>by
  have:i ∉ P:=fun q=>hB.pd i q hi
  rw [hV.val,List.take_length,if_neg this,if_neg this]
 refine ⟨hV.len.trans hO.lo,fun i hi=>?_,fun d hd i hi=>?_,fun i hi=>?_⟩
 ·rcases List.mem_append.1 hi with hi | hi
  ·obtain ⟨h1,h2,h3⟩:=hO.cl i hi
   refine ⟨h1,by rw [hov i hi];exact h2,fun k hk=>(h3 k hk).imp id fun ⟨e1,e2⟩=>⟨by simp [e1],by rw [hov i hi,hov k e1];exact e2⟩⟩
  ·obtain ⟨z,z0,z1,z2⟩:=hv i hi
   refine ⟨hB.pl i hi,by omega,fun k hk=>?_⟩
   obtain ⟨t,ht,rfl⟩:=List.getElem_of_mem hi
   rcases (hB.edge t ht).1 ht k hk with e | ⟨e1,e2⟩
   ·exact .inl e
   ·right
    obtain ⟨x,x0,x1,x2⟩:=hv k e1
    refine ⟨by simp [e1],?_⟩
    rw [z1,x1]
    have f1:=(wM_spec hC hB hn hPl hi).2.2.2.2.1
    have f2:=(wM_spec hC hB hn hPl e1).2.2.2.2.1
    rw [z2] at f1
    rw [x2] at f2
    have p1:=hB.pos _ hi
    have p2:=hB.pos _ e1
    have hc:=hC.pos
    have key:(z*b P[t] k)*(g*g0 den P[t]*g0 den k)=(-(x*b k P[t]))*(g*g0 den P[t]*g0 den k):=by
     calc (z*b P[t] k)*(g*g0 den P[t]*g0 den k)=(z*g*g0 den P[t])*g0 den k*b P[t] k:=by grind
      _=c*(g0 num P[t]*g0 den k*b P[t] k):=by rw [f1];grind
      _=-(c*g0 num k)*g0 den P[t]*b k P[t]:=by rw [e2];grind
      _=(-(x*b k P[t]))*(g*g0 den P[t]*g0 den k):=by rw [<-f2];grind
    exact Int.eq_of_mul_eq_mul_right (by have:=Int.mul_pos (Int.mul_pos hgp p1.2.1) p2.2.1;omega) key
 ·rcases List.mem_append.1 hi with hi | hi
  ·rw [hov i hi];exact hO.mn d hd i hi
  ·obtain ⟨z,z0,z1,z2⟩:=hv i hi
   rw [z1]
   have h1:=(wM_spec hC hB hn hPl hi).2.2.2.2.2 d hd
   rw [z2] at h1
   exact Int.dvd_trans (Int.dvd_mul_right _ _) h1
 ·rcases List.mem_append.1 hi with hi | hi
  ·rw [hov i hi];exact hO.bd i hi
  ·obtain ⟨z,z0,z1,z2⟩:=hv i hi
   rw [z1]
   have h1:=(wM_spec hC hB hn hPl hi).2.2.2.1
   rw [z2] at h1
   have h2:z*1<=z*g:=Int.mul_le_mul_of_nonneg_left (by omega) (by omega)
   omega
end
end Go.Proofs.Ytfcgcgmleogamaa.Ab
namespace Go.Proofs.Ytfcgcgmleogamaa.Ab
open Go
structure PJ (n:Nat) (b:Nat->Nat->Int) (s:Nat) (L F:List Nat) (a j:Nat):Prop where
 lf:F.length=L.length
 nd:L.Nodup
 lt:∀ i∈L,i < n
 hd:L[0]? = some s
 par:∀ k (h:k < L.length),0 < k->∃ k',∃ h':k' < L.length,k' < k/\F[k]? = some L[k']/\b L[k'] L[k]≠0
 cl:∀ t (h:t < L.length),(t < a->∀ k,k < n->b L[t] k≠0->k∈L)/\(t=a->∀ k,k < j->b L[t] k≠0->k∈L)
section
variable {n:Nat} {b:Nat->Nat->Int} {old:List Nat} {s:Nat} {d0 d:List Int} {L F:List Nat} {a j:Nat}
theorem PJ.start (hs:s < n):PJ n b s [s] [s] 0 0:=
 ⟨rfl,by simp,by simpa using hs,rfl,fun k h h0=>by simp at h;omega,fun t ht=>⟨fun h=>absurd h (by omega),fun _ k h=>absurd h (by omega)⟩⟩
theorem PJ.skip (h:PJ n b s L F a j) (ha:a < L.length) (hb:b L[a] j=0\/j∈L):PJ n b s L F a (j+1):=
 { h with cl:=fun t ht=>⟨(h.cl t ht).1,fun e k hk hne=>by
   obtain rfl:=e
   by_cases q:k=j
   ·obtain rfl:=q
    rcases hb with hb | hb
    ·exact absurd hb hne
    ·exact hb
   ·exact (h.cl t ht).2 rfl k (by omega) hne⟩ }
theorem PJ.new (h:PJ n b s L F a j) (ha:a < L.length) (hj:j < n) (hb:b L[a] j≠0) (hn:j ∉ L):PJ n b s (L ++ [j]) (F ++ [L[a]]) a (j+1):=by
 refine ⟨by simp [h.lf],?_,fun i hi=>?_,?_,fun k hk h0=>?_,fun t ht=>?_⟩
 ·rw [List.nodup_append]
  exact ⟨h.nd,by simp,fun i hi k hk=>by simp at hk;subst hk;exact fun e=>hn (e ▸ hi)⟩
 ·rcases List.mem_append.1 hi with hi | hi
  ·exact h.lt i hi
  ·simp at hi;omega
 ·rw [List.getElem?_append_left (by omega)];exact h.hd
 ·by_cases e:k < L.length
  ·obtain ⟨k',h',e1,e2,e3⟩:=h.par k e h0
   refine ⟨k',by simp;omega,e1,?_,?_⟩
   ·rw [List.getElem?_append_left (by rw [h.lf];exact e),e2,List.getElem_append_left h']
   ·rw [List.getElem_append_left h',List.getElem_append_left e];exact e3
  ·have e2:k=L.length:=by simp at hk;omega
   subst e2
   refine ⟨a,by simp;omega,ha,?_,?_⟩
   ·rw [List.getElem?_append_right (by rw [h.lf];exact Nat.le_refl _),h.lf,Nat.sub_self,List.getElem_append_left ha];rfl
   ·rw [List.getElem_append_left ha];simpa using hb
 ·by_cases e:t < L.length
  ·rw [List.getElem_append_left e]
   refine ⟨fun q k hk hne=>by simp [(h.cl t e).1 q k hk hne],fun q k hk hne=>?_⟩
   obtain rfl:=q
   by_cases q:k=j
   ·simp [q]
   ·simp [(h.cl t e).2 rfl k (by omega) hne]
  ·have:t=L.length:=by simp at ht;omega
   exact ⟨fun h=>absurd h (by omega),fun h=>absurd h (by omega)⟩
theorem PJ.next (h:PJ n b s L F a n):PJ n b s L F (a+1) 0:=
 { h with cl:=fun t ht=>⟨fun e k hk hne=>by
   by_cases q:t=a
   ·exact (h.cl t ht).2 q k hk hne
   ·exact (h.cl t ht).1 (by omega) k hk hne,fun _ k h=>absurd h (by omega)⟩ }
structure Piece (n:Nat) (b:Nat->Nat->Int) (s:Nat) (L F:List Nat):Prop where
 lf:F.length=L.length
 nd:L.Nodup
 lt:∀ i∈L,i < n
 hd:L[0]? = some s
 par:∀ k (h:k < L.length),0 < k->∃ k',∃ h':k' < L.length,k' < k/\F[k]? = some L[k']/\b L[k'] L[k]≠0
 cl:∀ i∈L,∀ k,k < n->b i k≠0->k∈L
theorem PJ.done (h:PJ n b s L F L.length j):Piece n b s L F:=⟨h.lf,h.nd,h.lt,h.hd,h.par,fun i hi k hk hne=>by
 obtain ⟨t,ht,rfl⟩:=List.getElem_of_mem hi
 exact (h.cl t ht).1 ht k hk hne⟩
theorem nodup_len:∀ {n:Nat} {L:List Nat},L.Nodup->(∀ i∈L,i < n)->L.length<=n
 | 0,L,_,h2=>by
  cases L with
  | nil=>simp
  | cons x L=>exact absurd (h2 x (by simp)) (by omega)
 | n+1,L,h1,h2=>by
  have h3:=nodup_len (n:=n) (L:=L.erase n) (h1.erase n) fun i hi=>by
   have h4:=h2 i (List.mem_of_mem_erase hi)
   have h5:i≠n:=fun e=>by
    subst e
    exact (List.Nodup.not_mem_erase h1) hi
   omega
  by_cases e:n∈L
  ·rw [List.length_erase_of_mem e] at h3;omega
  ·rw [List.erase_of_not_mem e] at h3;omega
def qM (b:Nat->Nat->Int) (L F:List Nat) (k:Nat):Nat:=(b (L.getD k 0) (F.getD k 0)).natAbs
def rM (b:Nat->Nat->Int) (L F:List Nat):Nat->Nat->Nat
 | _,0=>1
 | t,m+1=>qM b L F t*rM b L F (t+1) m
def pM1 (b:Nat->Nat->Int) (L F:List Nat):Nat->Nat
 | 0=>1
 | m+1=>pM1 b L F m*qM b L F (m+1)
theorem rM_snoc (b:Nat->Nat->Int) (L F:List Nat):∀ t m,rM b L F t (m+1)=rM b L F t m*qM b L F (t+m)
 | t,0=>by simp [rM]
 | t,m+1=>by
  rw [rM,rM_snoc b L F (t+1) m,rM,Nat.mul_assoc,show t+1+m=t+(m+1) by omega]
theorem pM1_eq (b:Nat->Nat->Int) (L F:List Nat):∀ m,pM1 b L F m=rM b L F 1 m
 | 0=>rfl
 | m+1=>by rw [pM1,pM1_eq b L F m,rM_snoc,Nat.add_comm 1 m]
theorem rM_dvd (b:Nat->Nat->Int) (L F:List Nat) {t m:Nat} (h:0 < m):rM b L F t m=qM b L F t*rM b L F (t+1) (m - 1):=by
 cases m with
 | zero=>omega
 | succ m=>rfl
structure DJ (n:Nat) (b:Nat->Nat->Int) (s:Nat) (L F:List Nat) (d0:List Int) (t:Nat) (d:List Int) (g:Int):Prop where
 len:d.length=n
 oth:∀ i,i ∉ L.take t->g0 d i=g0 d0 i
 pos:∀ k (h:k < L.length),k < t->0 < g0 d L[k]/\(g0 d L[k]).natAbs<=99 ^ (L.length - 1+k)/\(rM b L F t (L.length - t):Int) ∣ g0 d L[k]/\∀ e,Sol n b e->e L[k]*g0 d s=e s*g0 d L[k]
 gp:0 < g/\g<=g0 d s
 gd:∀ k (h:k < L.length),k < t->g ∣ g0 d L[k]
 gx:∀ x y:Int,(∀ k (h:k < L.length),k < t->x ∣ y*g0 d L[k])->x ∣ y*g
theorem Piece.q (h:Piece n b s L F) (hs:∀ i j,i < n->j < n->(b i j=0↔b j i=0)) {k:Nat} (hk:k < L.length) (h0:0 < k):∃ k',∃ h':k' < L.length,k' < k/\F[k]? = some L[k']/\b L[k'] L[k]≠0/\b L[k] L[k']≠0/\qM b L F k=(b L[k] L[k']).natAbs/\0 < qM b L F k:=by
 obtain ⟨k',h',e1,e2,e3⟩:=h.par k hk h0
 have e4:b L[k] L[k']≠0:=fun q=>e3 ((hs _ _ (h.lt _ (List.getElem_mem h')) (h.lt _ (List.getElem_mem hk))).2 q)
 have e5:qM b L F k=(b L[k] L[k']).natAbs:=by
  unfold qM
  rw [List.getD_eq_getElem?_getD,List.getD_eq_getElem?_getD,e2,List.getElem?_eq_getElem hk]
  rfl
 exact ⟨k',h',e1,e2,e3,e4,e5,by omega⟩
theorem Piece.pM_bd (h:Piece n b s L F) (hs:∀ i j,i < n->j < n->(b i j=0↔b j i=0)) (hB:∀ i j,i < n->j < n->(b i j).natAbs<=99):∀ m,m < L.length->0 < pM1 b L F m/\pM1 b L F m<=99 ^ m
 | 0,_=>by simp [pM1]
 | m+1,hm=>by
  obtain ⟨h1,h2⟩:=h.pM_bd hs hB m (by omega)
  obtain ⟨k',h',e1,e2,e3,e4,e5,e6⟩:=h.q hs hm (by omega)
  have h3:qM b L F (m+1)<=99:=by rw [e5];exact hB _ _ (h.lt _ (List.getElem_mem hm)) (h.lt _ (List.getElem_mem h'))
  exact ⟨Nat.mul_pos h1 e6,by rw [pM1,Nat.pow_succ];exact Nat.mul_le_mul h2 h3⟩
theorem Piece.first (h:Piece n b s L F):∃ hl:0 < L.length,L[0]=s:=by
 obtain ⟨h1,h2⟩:=List.getElem?_eq_some_iff.1 h.hd
 exact ⟨h1,h2⟩
theorem DJ.start (h:Piece n b s L F) (hs:∀ i j,i < n->j < n->(b i j=0↔b j i=0)) (hB:∀ i j,i < n->j < n->(b i j).natAbs<=99) (hl:d0.length=n):DJ n b s L F d0 1 (d0.set s (pM1 b L F (L.length - 1):Nat)) (pM1 b L F (L.length - 1):Nat):=by
 obtain ⟨hl0,hl1⟩:=h.first
 have hsn:=h.lt s (hl1 ▸ List.getElem_mem hl0)
 have hv:g0 (d0.set s (pM1 b L F (L.length - 1):Nat)) s=(pM1 b L F (L.length - 1):Nat):=by rw [g0_set _ _ _ _ (by omega),if_pos rfl]
 obtain ⟨p1,p2⟩:=h.pM_bd hs hB (L.length - 1) (by omega)
 have htk:∀ k (h:k < L.length),k < 1->L[k]=s:=fun k hk h1=>by
  obtain rfl:k=0:=by omega
  exact hl1
 refine ⟨by simpa using hl,fun i hi=>?_,fun k hk h1=>?_,⟨by omega,by rw [hv];exact Int.le_refl _⟩,fun k hk h1=>?_,fun x y hx=>?_⟩
 ·have:i≠s:=fun e=>hi (by rw [e,<-hl1,take_mem_snoc hl0];exact .inr rfl)
  rw [g0_set _ _ _ _ (by omega),if_neg (fun e=>this e.symm)]
 ·rw [htk k hk h1,hv]
  refine ⟨by omega,?_,?_,fun e _=>rfl⟩
  ·have:k=0:=by omega
   subst this
   simpa using p2
  ·rw [pM1_eq];exact Int.dvd_refl _
 ·rw [htk k hk h1,hv];exact Int.dvd_refl _
 ·have:=hx 0 hl0 (by omega)
  rw [hl1,hv] at this
  exact this
theorem DJ.step {t:Nat} {g:Int} (h:Piece n b s L F) (hs:∀ i j,i < n->j < n->(b i j=0↔b j i=0)) (hB:∀ i j,i < n->j < n->(b i j).natAbs<=99) (hJ:DJ n b s L F d0 t d g) (ht:t < L.length) (h0:0 < t) :
  ∃ t',∃ h':t' < L.length,t' < t/\F[t]? = some L[t']/\∃ w:Int,0 < w/\(g0 d L[t']).natAbs<=99 ^ (L.length - 1+t')/\0 < g0 d L[t']/\(b L[t'] L[t]).natAbs<=99/\b L[t] L[t']≠0/\(g0 d L[t']*((b L[t'] L[t]).natAbs:Int)).tdiv ((b L[t] L[t']).natAbs:Int)=w /\
   DJ n b s L F d0 (t+1) (d.set L[t] w) (Int.gcd g w:Int):=by
 obtain ⟨t',h',e1,e2,e3,e4,e5,e6⟩:=h.q hs ht h0
 obtain ⟨p1,p2,p3,p4⟩:=hJ.pos t' h' e1
 have hi:=h.lt _ (List.getElem_mem h')
 have hj:=h.lt _ (List.getElem_mem ht)
 have hr:=rM_dvd b L F (t:=t) (m:=L.length - t) (by omega)
 rw [show L.length - t - 1=L.length - (t+1) by omega] at hr
 have p3':=p3
 obtain ⟨m,hm⟩:=p3
 rw [hr,e5,Int.natCast_mul] at hm
 generalize hQ:((b L[t] L[t']).natAbs:Int)=Q at *
 generalize hPp:((b L[t'] L[t]).natAbs:Int)=Pp at *
 generalize hRr:(rM b L F (t+1) (L.length - (t+1)):Int)=R at *
 have hQ0:0 < Q:=by omega
 have hP0:0 < Pp:=by omega
 have hP9:Pp<=99:=by have:=hB _ _ hi hj;omega
 have hRm:0 < R*m:=by
  have:0 < Q*(R*m):=by rw [<-Int.mul_assoc,<-hm];exact p1
  exact Int.pos_of_mul_pos_right this (by omega)
 have hw:(g0 d L[t']*Pp).tdiv Q=R*m*Pp:=by
  rw [hm,show Q*R*m*Pp=(R*m*Pp)*Q by grind,Int.mul_tdiv_cancel _ (by omega)]
 have hw0:0 < R*m*Pp:=Int.mul_pos hRm hP0
 have hnt:L[t] ∉ L.take t:=nodup_take h.nd ht
 have hne:∀ k (hk:k < L.length),k < t->L[t]≠L[k]:=fun k hk hkt e=>hnt (by rw [e,List.mem_take_iff_getElem];exact ⟨k,by omega,rfl⟩)
 obtain ⟨hl0,hl1⟩:=h.first
 have hds:g0 (d.set L[t] (R*m*Pp)) s=g0 d s:=by
  rw [g0_set _ _ _ _ (by have:=hJ.len;omega),if_neg (hl1 ▸ hne 0 hl0 h0)]
 have hgk:∀ k (hk:k < L.length),k < t->g0 (d.set L[t] (R*m*Pp)) L[k]=g0 d L[k]:=fun k hk hkt=>by
  rw [g0_set _ _ _ _ (by have:=hJ.len;omega),if_neg (hne k hk hkt)]
 have hgt:g0 (d.set L[t] (R*m*Pp)) L[t]=R*m*Pp:=by rw [g0_set _ _ _ _ (by have:=hJ.len;omega),if_pos rfl]
 refine ⟨t',h',e1,e2,R*m*Pp,hw0,p2,p1,hB _ _ hi hj,e4,by rw [hPp,hQ];exact hw,?_⟩
 have hgg:0 < Int.gcd g (R*m*Pp):=Int.gcd_pos_of_ne_zero_right g (by omega)
 refine ⟨by simpa using hJ.len,fun i hi=>?_,fun k hk hkt=>?_,⟨by omega,?_⟩,fun k hk hkt=>?_,fun x y hx=>?_⟩
 ·rw [take_mem_snoc ht,not_or] at hi
  rw [g0_set _ _ _ _ (by have:=hJ.len;omega),if_neg (fun e=>hi.2 e.symm)]
  exact hJ.oth i hi.1
 ·by_cases q:k < t
  ·obtain ⟨q1,q2,q3,q4⟩:=hJ.pos k hk q
   rw [hgk k hk q,hds]
   refine ⟨q1,q2,?_,q4⟩
   rw [hr,Int.natCast_mul,hRr] at q3
   rw [hRr]
   exact Int.dvd_trans (Int.dvd_mul_left _ _) q3
  ·obtain rfl:k=t:=by omega
   rw [hgt,hds]
   refine ⟨hw0,?_,by rw [hRr,Int.mul_assoc];exact Int.dvd_mul_right _ _,fun e he=>?_⟩
   ·have h1:(R*m).natAbs<=(g0 d L[t']).natAbs:=by
     rw [hm,Int.mul_assoc,Int.natAbs_mul Q]
     exact Nat.le_mul_of_pos_left _ (by omega)
    rw [Int.natAbs_mul]
    have h2:=Nat.mul_le_mul (Nat.le_trans h1 p2) (show Pp.natAbs<=99 by omega)
    rw [<-Nat.pow_succ] at h2
    exact Nat.le_trans h2 (Nat.pow_le_pow_right (by omega) (by omega))
   ·have f1:=p4 e he
    have f2:=he.rel L[t'] L[k] hi hj
    have f3:e L[t']*Pp=e L[k]*Q:=by
     obtain ⟨s1,s2,s3⟩:=sol_sign he hi hj
     rcases (show 0 < b L[t'] L[k]/\0 < -b L[k] L[t']\/b L[t'] L[k] < 0/\-b L[k] L[t'] < 0 by omega) with z | z
     ·rw [show Pp=b L[t'] L[k] by omega,show Q=-b L[k] L[t'] by omega];grind
     ·rw [show Pp=-b L[t'] L[k] by omega,show Q=b L[k] L[t'] by omega];grind
    have key:e L[k]*g0 d s*Q=e s*(R*m*Pp)*Q:=by
     calc e L[k]*g0 d s*Q=(e L[t']*g0 d s)*Pp:=by grind
      _=e s*(g0 d L[t']*Pp):=by rw [f1];grind
      _=e s*(R*m*Pp)*Q:=by rw [hm];grind
    exact Int.eq_of_mul_eq_mul_right (by omega) key
 ·rw [hds]
  have:Int.gcd g (R*m*Pp) ∣ g.natAbs:=Nat.gcd_dvd_left _ _
  have:=Nat.le_of_dvd (by have:=hJ.gp;omega) this
  have:=hJ.gp
  omega
 ·by_cases q:k < t
  ·rw [hgk k hk q]
   exact Int.dvd_trans (Int.gcd_dvd_left _ _) (hJ.gd k hk q)
  ·obtain rfl:k=t:=by omega
   rw [hgt];exact Int.gcd_dvd_right _ _
 ·have x1:=hJ.gx x y fun k hk hkt=>by have:=hx k hk (by omega);rwa [hgk k hk hkt] at this
  have x2:=hx t ht (by omega)
  rw [hgt] at x2
  have x3:x.natAbs ∣ Nat.gcd (y*g).natAbs (y*(R*m*Pp)).natAbs:=Nat.dvd_gcd (Int.natAbs_dvd_natAbs.2 x1) (Int.natAbs_dvd_natAbs.2 x2)
  rw [Int.natAbs_mul,Int.natAbs_mul,Nat.gcd_mul_left] at x3
  refine Int.natAbs_dvd_natAbs.1 ?_
  rw [Int.natAbs_mul]
  exact x3
structure EJ (g:Int) (L:List Nat) (d1:List Int) (t:Nat) (d:List Int):Prop where
 len:d.length=d1.length
 val:∀ i,g0 d i=if i∈L.take t then (g0 d1 i).tdiv g else g0 d1 i
theorem EJ.start (g:Int) (L:List Nat) (d1:List Int):EJ g L d1 0 d1:=⟨rfl,by simp⟩
theorem EJ.step {g:Int} {d1:List Int} {t:Nat} (h:EJ g L d1 t d) (hP:L.Nodup) (ht:t < L.length) (hl:L[t] < d1.length):g0 d L[t]=g0 d1 L[t]/\EJ g L d1 (t+1) (d.set L[t] ((g0 d1 L[t]).tdiv g)):=by
 refine ⟨by rw [h.val,if_neg (nodup_take hP ht)],by simpa using h.len,fun i=>?_⟩
 rw [g0_set _ _ _ _ (by have:=h.len;omega),h.val i]
 simp only [take_mem_snoc ht]
 by_cases e:L[t]=i
 ·subst e;simp
 ·rw [if_neg e]
  have:¬ i=L[t]:=fun q=>e q.symm
  simp [this]
structure OS (n:Nat) (b:Nat->Nat->Int) (old:List Nat) (d:List Int):Prop where
 lo:d.length=n
 zr:∀ i,i < n->(0 < g0 d i↔i∈old)
 cl:∀ i∈old,i < n/\(∀ j,j < n->b i j≠0->j∈old)
 sol:∀ e,Sol n b e->∀ i∈old,g0 d i ∣ e i/\∀ j,j < n->b i j≠0->e i*g0 d j=e j*g0 d i
 bd:∀ i∈old,(g0 d i).natAbs<=99 ^ 8
theorem OS.grow {g:Int} {d1:List Int} (hO:OS n b old d0) (h:Piece n b s L F) (hn:n<=5) (hdis:∀ i∈L,i ∉ old) (hJ:DJ n b s L F d0 L.length d1 g) (hE:EJ g L d1 L.length d):OS n b (old ++ L) d:=by
 have hll:=nodup_len h.nd h.lt
 obtain ⟨hl0,hl1⟩:=h.first
 have hsL:s∈L:=hl1 ▸ List.getElem_mem hl0
 have hv:∀ i∈L,∃ z,0 < z/\g0 d i=z/\g0 d1 i=z*g:=fun i hi=>by
  obtain ⟨k,hk,rfl⟩:=List.getElem_of_mem hi
  obtain ⟨z,hz⟩:=hJ.gd k hk hk
  refine ⟨z,Int.pos_of_mul_pos_right (hz ▸ (hJ.pos k hk hk).1) (by have:=hJ.gp;omega),?_,by rw [hz,Int.mul_comm]⟩
  rw [hE.val,List.take_length,if_pos hi,hz,Int.mul_comm,Int.mul_tdiv_cancel _ (by have:=hJ.gp;omega)]
 have hov:∀ i,i ∉ L->g0 d i=g0 d0 i:=fun i hi=>by
  rw [hE.val,List.take_length,if_neg hi]
  exact hJ.oth i (by rw [List.take_length];exact hi)
 have hoo:∀ i∈old,g0 d i=g0 d0 i:=fun i hi=>hov i fun q=>hdis i q hi
 refine ⟨by rw [hE.len,hJ.len],fun i hi=>?_,fun i hi=>?_,fun e he i hi=>?_,fun i hi=>?_⟩
 ·by_cases q:i∈L
  ·obtain ⟨z,z0,z1,_⟩:=hv i q
   rw [z1];simp [q,z0]
  ·rw [hov i q,hO.zr i hi]
   simp [q]
 ·rcases List.mem_append.1 hi with hi | hi
  ·exact ⟨(hO.cl i hi).1,fun j hj hne=>by simp [(hO.cl i hi).2 j hj hne]⟩
  ·exact ⟨h.lt i hi,fun j hj hne=>by simp [h.cl i hi j hj hne]⟩
 ·rcases List.mem_append.1 hi with hi | hi
  ·obtain ⟨q1,q2⟩:=hO.sol e he i hi
   refine ⟨by rw [hoo i hi];exact q1,fun j hj hne=>?_⟩
   rw [hoo i hi,hoo j ((hO.cl i hi).2 j hj hne)]
   exact q2 j hj hne
  ·have hg:=hJ.gp.1
   have rel:∀ k∈L,e k*g0 d s=e s*g0 d k:=fun k hk=>by
    obtain ⟨z,z0,z1,z2⟩:=hv k hk
    obtain ⟨y,y0,y1,y2⟩:=hv s hsL
    obtain ⟨t,ht,rfl⟩:=List.getElem_of_mem hk
    have:=(hJ.pos t ht ht).2.2.2 e he
    rw [z2,y2] at this
    rw [z1,y1]
    refine Int.eq_of_mul_eq_mul_right (a:=g) (by omega) ?_
    grind
   obtain ⟨y,y0,y1,y2⟩:=hv s hsL
   have hsd:g0 d s ∣ e s:=by
    have:=hJ.gx (g0 d s*g) (e s) fun k hk _=>by
     obtain ⟨z,z0,z1,z2⟩:=hv L[k] (List.getElem_mem hk)
     rw [z2,<-z1,<-Int.mul_assoc,<-rel _ (List.getElem_mem hk)]
     exact ⟨e L[k],by grind⟩
    obtain ⟨c,hc⟩:=this
    exact ⟨c,Int.eq_of_mul_eq_mul_right (a:=g) (by omega) (by rw [hc];grind)⟩
   obtain ⟨c,hc⟩:=hsd
   have mul:∀ k∈L,e k=g0 d k*c:=fun k hk=>by
    have:=rel k hk
    rw [hc] at this
    exact Int.eq_of_mul_eq_mul_right (a:=g0 d s) (by omega) (by rw [this];grind)
   refine ⟨⟨c,mul i hi⟩,fun j hj hne=>?_⟩
   rw [mul i hi,mul j (h.cl i hi j hj hne)]
   grind
 ·rcases List.mem_append.1 hi with hi | hi
  ·rw [hoo i hi];exact hO.bd i hi
  ·obtain ⟨z,z0,z1,z2⟩:=hv i hi
   obtain ⟨t,ht,rfl⟩:=List.getElem_of_mem hi
   have h1:=(hJ.pos t ht ht).2.1
   have h2:(g0 d L[t]).natAbs<=(g0 d1 L[t]).natAbs:=by
    rw [z1,z2,Int.natAbs_mul]
    exact Nat.le_mul_of_pos_right _ (by have:=hJ.gp;omega)
   exact Nat.le_trans h2 (Nat.le_trans h1 (Nat.pow_le_pow_right (by omega) (by omega)))
theorem OS.rel {e:Nat->Int} (hO:OS n b old d) (he:Sol n b e) {i:Nat} (hi:i∈old) (hj:j < n) (hs:∀ i j,i < n->j < n->(b i j=0↔b j i=0)):g0 d i*b i j=-(g0 d j*b j i):=by
 have hin:=(hO.cl i hi).1
 by_cases q:b i j=0
 ·rw [q,(hs i j hin hj).1 q];simp
 ·have h1:=(hO.sol e he i hi).2 j hj q
  have h2:=he.rel i j hin hj
  have h3:=he.pos j hj
  refine Int.eq_of_mul_eq_mul_right (a:=e j) (by omega) ?_
  calc g0 d i*b i j*e j=(e j*g0 d i)*b i j:=by grind
   _=g0 d j*(e i*b i j):=by rw [<-h1];grind
   _=-(g0 d j*b j i)*e j:=by rw [h2];grind
end
end Go.Proofs.Ytfcgcgmleogamaa.Ab
namespace Go.Proofs.Ytfcgcgmleogamaa.Ab
open Go
def ShM (m:Mat):Prop:=(1<=m.n/\m.n<=5)/\(m.n<=m.r/\m.r<=8)/\(m.d.length:Int)=m.n*m.r/\∀ x∈m.d,-99<=x/\x<=99
def MatOK (m:Mat):Prop:=ShM m/\∃ d,Sol m.n.toNat (bM m) d
noncomputable instance (m:Mat):Decidable (ShM m):=Classical.propDecidable _
noncomputable instance (m:Mat):Decidable (MatOK m):=Classical.propDecidable _
def MinSol (n:Nat) (b:Nat->Nat->Int) (l:List Int):Prop:=l.length=n/\Sol n b (g0 l)/\(∀ e,Sol n b e->∀ i,i < n->g0 l i ∣ e i)/\∀ i,i < n->g0 l i<=99 ^ 8
theorem MinSol.uniq {n:Nat} {b:Nat->Nat->Int} {l k:List Int} (h:MinSol n b l) (h':MinSol n b k):l=k:=by
 refine List.ext_getElem (by rw [h.1,h'.1]) fun i h1 h2=>?_
 have hi:i < n:=by have:=h.1;omega
 have e1:=h.2.2.1 _ h'.2.1 i hi
 have e2:=h'.2.2.1 _ h.2.1 i hi
 have p1:=h.2.1.pos i hi
 have p2:=h'.2.1.pos i hi
 have:g0 l i=g0 k i:=Int.dvd_antisymm (by omega) (by omega) e1 e2
 simpa [g0,List.getD_eq_getElem?_getD,h1,h2] using this
theorem OJ.min {n:Nat} {b:Nat->Nat->Int} {old:List Nat} {out:List Int} (h:OJ n b old out) (ha:∀ i,i < n->i∈old):MinSol n b out:=by
 refine ⟨h.lo,⟨fun i hi=>(h.cl i (ha i hi)).2.1,fun i j hi hj=>?_⟩,fun e he i hi=>h.mn e he i (ha i hi),fun i hi=>h.bd i (ha i hi)⟩
 rcases (h.cl i (ha i hi)).2.2 j hj with q | q
 ·rw [q.1,q.2];simp
 ·exact q.2
theorem OS.min {n:Nat} {b:Nat->Nat->Int} {old:List Nat} {out:List Int} (h:OS n b old out) (ha:∀ i,i < n->i∈old) (hr:∀ i j,i < n->j < n->g0 out i*b i j=-(g0 out j*b j i)):MinSol n b out:=
 ⟨h.lo,⟨fun i hi=>(h.zr i hi).2 (ha i hi),hr⟩,fun e he i hi=>(h.sol e he i (ha i hi)).1,fun i hi=>by have:=h.bd i (ha i hi);omega⟩
theorem MatOK.of_min {m:Mat} (h:ShM m) {l:List Int} (hl:MinSol m.n.toNat (bM m) l):MatOK m:=⟨h,_,hl.2.1⟩
theorem bM_get {m:Mat} (h:ShM m) {i j:Nat} (hi:(i:Int) < m.r) (hj:(j:Int) < m.n):∃ hq:i*m.n.toNat+j < m.d.length,m.d[i*m.n.toNat+j]=bM m i j:=by
 obtain ⟨n,hn⟩:∃ n:Nat,m.n=n:=⟨m.n.toNat,by have:=h.1;omega⟩
 obtain ⟨r,hr⟩:∃ r:Nat,m.r=r:=⟨m.r.toNat,by have:=h.1;have:=h.2.1;omega⟩
 have hl:=h.2.2.1
 rw [hn,hr,<-Int.natCast_mul] at hl
 have hq:i*m.n.toNat+j < m.d.length:=by
  rw [hn,Int.toNat_natCast,show m.d.length=n*r by omega]
  have h1:(i+1)*n<=r*n:=Nat.mul_le_mul_right _ (by omega)
  rw [Nat.mul_comm n r]
  rw [Nat.add_mul] at h1
  omega
 exact ⟨hq,by simp [bM,g0,List.getD_eq_getElem?_getD,hq]⟩
theorem bM_bd {m:Mat} (h:ShM m) (i j:Nat):(bM m i j).natAbs<=99:=by
 unfold bM
 simp only [g0,List.getD_eq_getElem?_getD]
 by_cases q:i*m.n.toNat+j < m.d.length
 ·rw [List.getElem?_eq_getElem q]
  have:=h.2.2.2 _ (List.getElem_mem q)
  simp only [Option.getD_some]
  omega
 ·rw [List.getElem?_eq_none (by omega)];simp
def muE (b:Nat->Nat->Int) (k i j:Nat):Int:=
 if i=k\/j=k then -b i j else if 0 < b i k/\0 < b k j then b i j+b i k*b k j else if b i k < 0/\b k j < 0 then b i j - b i k*b k j else b i j
theorem muE_sol {n k:Nat} {b:Nat->Nat->Int} {d:Nat->Int} (h:Sol n b d) (hk:k < n):Sol n (muE b k) d:=by
 refine ⟨h.pos,fun i j hi hj=>?_⟩
 obtain ⟨a1,a2,a3⟩:=sol_sign h hi hk
 obtain ⟨c1,c2,c3⟩:=sol_sign h hj hk
 have e0:=h.rel i j hi hj
 have e1:=h.rel i k hi hk
 have e2:=h.rel j k hj hk
 have key:d i*(b i k*b k j)=d j*(b j k*b k i):=by
  have hp:=h.pos k hk
  refine Int.eq_of_mul_eq_mul_right (a:=d k) (by omega) ?_
  calc d i*(b i k*b k j)*d k=(d i*b i k)*(d k*b k j):=by grind
   _=(d k*b k i)*(d j*b j k):=by rw [e1,show d k*b k j=-(d j*b j k) by rw [e2];grind];grind
   _=d j*(b j k*b k i)*d k:=by grind
 unfold muE
 by_cases hc:i=k\/j=k
 ·rw [if_pos hc,if_pos (Or.comm.1 hc)];grind
 ·rw [if_neg hc,if_neg (fun q=>hc (Or.comm.1 q))]
  by_cases h1:0 < b i k/\0 < b k j
  ·rw [if_pos h1,if_neg (by omega),if_pos (by omega)];grind
  ·rw [if_neg h1]
   by_cases h2:b i k < 0/\b k j < 0
   ·rw [if_pos h2,if_pos (by omega)];grind
   ·rw [if_neg h2,if_neg (by omega),if_neg (by omega)];exact e0
def muD (m:Mat) (k:Nat):List Int:=(List.range m.d.length).map fun q=>muE (bM m) k (q / m.n.toNat) (q % m.n.toNat)
def muM (m:Mat) (k:Nat):Mat:=⟨m.n,m.r,muD m k⟩
@[simp] theorem muD_length (m:Mat) (k:Nat):(muD m k).length=m.d.length:=by simp [muD]
theorem muD_get (m:Mat) (k i j:Nat) (hj:j < m.n.toNat) (h:i*m.n.toNat+j < m.d.length):(muD m k)[i*m.n.toNat+j]'(by simpa using h)=muE (bM m) k i j:=by
 simp only [muD,List.getElem_map,List.getElem_range]
 rw [Nat.mul_comm i,Nat.mul_add_div (by omega),Nat.div_eq_of_lt hj,Nat.mul_add_mod,Nat.mod_eq_of_lt hj,Nat.add_zero]
theorem muM_b {m:Mat} (h:ShM m) {k i j:Nat} (hi:(i:Int) < m.r) (hj:(j:Int) < m.n):bM (muM m k) i j=muE (bM m) k i j:=by
 obtain ⟨hq,_⟩:=bM_get h hi hj
 have:=muD_get m k i j (by omega) hq
 rw [<-this]
 have h2:i*m.n.toNat+j < (muD m k).length:=by simpa using hq
 show g0 (muD m k) (i*m.n.toNat+j)=_
 simp only [g0,List.getD_eq_getElem?_getD]
 rw [List.getElem?_eq_getElem h2];rfl
theorem Sol.congr {n:Nat} {b c:Nat->Nat->Int} {d:Nat->Int} (h:Sol n b d) (e:∀ i j,i < n->j < n->c i j=b i j):Sol n c d:=
 ⟨h.pos,fun i j hi hj=>by rw [e i j hi hj,e j i hj hi];exact h.rel i j hi hj⟩
theorem muM_sol {m:Mat} (h:MatOK m) {k:Nat} (hk:(k:Int) < m.n):∃ d,Sol (muM m k).n.toNat (bM (muM m k)) d:=by
 obtain ⟨hS,d,hd⟩:=h
 have h1:=hS.1
 have h2:=hS.2.1
 refine ⟨d,?_⟩
 show Sol m.n.toNat _ d
 exact (muE_sol hd (show k < m.n.toNat by omega)).congr fun i j hi hj=>muM_b hS (by omega) (by omega)
noncomputable def muF (m:Mat) (k:Int):Mat×Bool:=if MatOK m/\(0<=k/\k < m.n)/\MatOK (muM m k.toNat) then (muM m k.toNat,true) else (⟨0,0,[]⟩,false)
end Go.Proofs.Ytfcgcgmleogamaa.Ab
namespace Go.Proofs.Ytfcgcgmleogamaa.Ab
open Go
set_option maxRecDepth 10000
set_option maxHeartbeats 2000000
def cN (P:List Nat):List Int:=P.map fun i=>((i:Nat):Int)
@[simp] theorem cN_length (P:List Nat):(cN P).length=P.length:=by simp [cN]
theorem cN_get {P:List Nat} {t:Nat} (h:t < P.length):(cN P)[t]'(by simpa using h)=(P[t]:Int):=by simp [cN]
theorem cN_snoc (P:List Nat) (j:Nat):ints (cN P) ++ [D.v (.int .i64 j)]=ints (cN (P ++ [j])):=by simp [cN,ints]
theorem g0_get {l:List Int} {i:Nat} (h:i < l.length):l[i]=g0 l i:=by simp [g0,List.getD_eq_getElem?_getD,h]
theorem BJ.mul {n:Nat} {b:Nat->Nat->Int} {old:List Nat} {s:Nat} {num den:List Int} {P:List Nat} {a j:Nat} (h:BJ n b old s num den P a j) (hn:n<=5) (ha:a < P.length) {u:Int} (hu:0 < u) (hu9:u<=99) :
  (0 < g0 num P[a]*u/\g0 num P[a]*u<=9509900499)/\(0 < g0 den P[a]*u/\g0 den P[a]*u<=9509900499):=by
 have hp:=h.pos _ (List.getElem_mem ha)
 have hb:=h.bd a ha
 have h4:=pow4 ha hn (nodup_len h.pn h.pl)
 have e1:=Int.mul_pos hp.1 hu
 have e2:=Int.mul_pos hp.2.1 hu
 have f1:=Nat.mul_le_mul (show (g0 num P[a]).natAbs<=99 ^ 4 by omega) (show u.natAbs<=99 by omega)
 have f2:=Nat.mul_le_mul (show (g0 den P[a]).natAbs<=99 ^ 4 by omega) (show u.natAbs<=99 by omega)
 rw [<-Int.natAbs_mul] at f1 f2
 generalize g0 num P[a]*u=z1 at *
 generalize g0 den P[a]*u=z2 at *
 omega
theorem at_c {m:Mat} {n:Nat} (hn:m.n=n) (hS:ShM m) {i j:Nat} (hi:(i:Int) < m.r) (hj:j < n):ACalls Try.prog F.impl_Matrix_at [.ag [.int n,.int m.r,.d (shI m.d)],.int i,.int j] [] true (fun outs res=>outs=[]/\res=[.one (D.int (bM m i j))]):=by
 obtain ⟨hq,he⟩:=bM_get hS hi (show (j:Int) < m.n by omega)
 have hnn:m.n.toNat=n:=by omega
 have hl:m.d.length < 1000000:=by
  have h1:=hS.2.2.1
  have h2:=hS.1
  have h3:=hS.2.1
  have:m.n*m.r<=5*8:=Int.mul_le_mul (by omega) (by omega) (by omega) (by omega)
  omega
 have:=impl_Matrix_at_c m i j (i*m.n.toNat+j) n hn (by rw [hnn]) hq hl
 have e:aM m = .ag [.int n,.int m.r,.d (shI m.d)]:=by rw [<-hn]
 rw [e,he] at this
 exact this
theorem impl_factors_c (m:Mat) (n:Nat) (hn:m.n=n) (hS:ShM m):ACalls Try.prog F.impl_factors [.ag [.int n,.int m.r,.d (shI m.d)]] [] true (fun outs res=>outs=[]/\((∃ l,MinSol n (bM m) l/\res=[.one (owI l)])\/((∀ d,¬ Sol n (bM m) d)/\res=[.one (.v (.slice none 0 0))]))):=by
 have hn5:1<=n/\n<=5:=by have:=hS.1;omega
 have hnr:(n:Int)<=m.r:=by have:=hS.2.1;omega
 have hB:∀ i j,i < n->j < n->(bM m i j).natAbs<=99:=fun i j _ _=>bM_bd hS i j
 refine ACalls.of_body (C:=C.impl_factors) (n:=Try.f59.ntmps) tabT folT Try.func59 rfl (by kernel_rfl) rfl (Nat.le_of_ble_eq_true rfl) (by decide) (by kernel_rfl) (by kernel_rfl) rfl (by simp) (by simp) ?_
 simp only [Try.f59]
 refine wseq ?_
 refine wreg fun K hK=>?_
 simp [C.impl_factors]
 refine hK _ ?_;clear hK K
 show AWp _ _ _ _ _
 refine wseq ?_
 refine wdraw (.take 0 (.take 1 (.take 3 (.take 4 (.all [(2,.take 6 (.all [(5,.take 7 (.done))])),(5,.all [(2,.take 6 (.take 7 (.done)))])]))))) ⟨by kernel_rfl,by kernel_rfl⟩ fun K hK=>?_
 have hJ:K ⟨ofL [(1,.pt (1,0) [] 0),(3,.al (3,0) [] 0 n),(4,.al (4,0) [] 0 n)],ofRO [((1,0),some (.bx [D.int n,D.int m.r,shI m.d])),((3,0),some (.ow 1 n (ints (List.replicate n 0)))),((4,0),some (.ow 1 n (ints (List.replicate n 0))))]⟩:=by
  refine hK _ ?_;clear hK K
  show AWp _ _ _ _ _
  refine wseq ?_
  refine wreg fun K hK=>?_
  simp [C.impl_factors,zeros_ints,show (8:Int)*n<=281474976710656 by omega,show (n:Int)<=281474976710656 by omega]
  refine hK _ ?_;clear hK K
  show AWp _ _ _ _ _
  refine wseq ?_
  refine wseq ?_
  refine wreg fun K hK=>?_
  simp [C.impl_factors]
  refine hK _ ?_;clear hK K
  show AWp _ _ _ _ _
  refine wblock ?_
  refine wloop (fun x:Nat×List Int×List Int×List Int×List Nat=>⟨ofL [(1,.pt (1,0) [] 0),(3,.al (3,0) [] 0 n),(4,.al (4,0) [] 0 n),(5,.al (5,0) [] 0 n),(34,.int n),(35,.int (x.1:Nat))],ofRO [((1,0),some (.bx [D.int n,D.int m.r,shI m.d])),((3,0),some (.ow 1 n (ints x.2.1))),((4,0),some (.ow 1 n (ints x.2.2.1))),((5,0),some (.ow 1 n (ints x.2.2.2.1)))]⟩) (fun x=>x.1<=n/\(x.2.1.length=n/\x.2.2.1.length=n)/\(∀ i,i < n->(g0 x.2.1 i≠0↔i∈x.2.2.2.2))/\OJ n (bM m) x.2.2.2.2 x.2.2.2.1/\∀ i,i < x.1->i∈x.2.2.2.2) (fun x=>n - x.1) (0,List.replicate n 0,List.replicate n 0,List.replicate n 0,[]) (by simp [C.impl_factors]) ⟨by simp,by simp,fun i hi=>by simp [g0,List.getD_eq_getElem?_getD,hi],⟨by simp,by simp,by simp,by simp⟩,by simp⟩ ?_
  intro x1 hx1 R1 hR1
  obtain ⟨s,num,den,out,old⟩:=x1
  obtain ⟨hs,⟨hln,hld⟩,hmem,hO,hall⟩:=hx1
  dsimp only at hs hln hld hmem hO hall ⊢
  have hoc:∀ i∈old,∀ j,j < n->(bM m i j=0/\bM m j i=0)\/j∈old:=fun i hi j hj=>((hO.cl i hi).2.2 j hj).imp id fun q=>q.1
  refine wseq ?_
  refine wreg fun K hK=>?_
  simp [C.impl_factors]
  refine hK _ ?_;clear hK K
  show AWp _ _ _ _ _
  refine wseq ?_
  refine wcond _ rfl (fun hc1=>?_) (fun hc1=>?_)
  ·have h1:s < n:=by have:=d_t hc1;omega
   refine wskip ?_
   show AWp _ _ _ _ _
   refine wseq ?_
   refine wblock ?_
   refine wseq ?_
   refine wreg fun K hK=>?_
   simp [C.impl_factors]
   refine hK _ ?_;clear hK K
   show AWp _ _ _ _ _
   refine wseq ?_
   refine wseq ?_
   refine wreg fun K hK=>?_
   simp [C.impl_factors,show ((s:Int) < n) by omega,h1,hln,get_ints,g0_get]
   refine hK _ ?_;clear hK K
   show AWp _ _ _ _ _
   refine wcond _ rfl (fun hc2=>?_) (fun hc2=>?_)
   ·have hs1:g0 num s≠0:=by simpa using hc2
    refine wexit ?_
    show AWp _ _ _ _ _
    refine wreg fun K hK=>?_
    simp [C.impl_factors,wrap_succ (show s < 4611686018427387904 by omega)]
    refine hK _ ?_;clear hK K
    simp [C.impl_factors]
    refine hR1 (s+1,num,den,out,old) ⟨h1,⟨hln,hld⟩,hmem,hO,fun i hi=>?_⟩ (by dsimp only;omega)
    by_cases e:i=s
    ·exact (hmem i (by omega)).1 (e ▸ hs1)
    ·exact hall i (by dsimp only at hi;omega)
   ·have hs0:g0 num s=0:=by simpa using hc2
    have hBs:=BJ.start (b:=bM m) hln hld h1 hmem hs0
    refine wskip ?_
    show AWp _ _ _ _ _
    refine wseq ?_
    refine wreg fun K hK=>?_
    simp [C.impl_factors,show ((s:Int) < n) by omega,h1,hln,hld]
    refine hK _ ?_;clear hK K
    show AWp _ _ _ _ _
    refine wseq ?_
    refine wreg fun K hK=>?_
    simp [C.impl_factors]
    refine hK _ ?_;clear hK K
    show AWp _ _ _ _ _
    refine wseq ?_
    refine wseq ?_
    refine wreg fun K hK=>?_
    simp [C.impl_factors]
    refine hK _ ?_;clear hK K
    show AWp _ _ _ _ _
    refine wblock ?_
    refine wloop (fun x:Nat×List Int×List Int×List Nat=>⟨ofL [(1,.pt (1,0) [] 0),(3,.al (3,0) [] 0 n),(4,.al (4,0) [] 0 n),(5,.al (5,0) [] 0 n),(7,.al (7,0) [] 0 (x.2.2.2).length),(8,.int x.1),(34,.int n),(35,.int (s:Nat))],ofRO [((1,0),some (.bx [D.int n,D.int m.r,shI m.d])),((3,0),some (.ow 1 n (ints x.2.1))),((4,0),some (.ow 1 n (ints x.2.2.1))),((5,0),some (.ow 1 n (ints out))),((7,0),some (.ow 1 (x.2.2.2).length (ints (cN x.2.2.2))))]⟩) (fun x=>x.1<=x.2.2.2.length/\BJ n (bM m) old s x.2.1 x.2.2.1 x.2.2.2 x.1 0) (fun x=>n - x.1) (0,num.set s 1,den.set s 1,[s]) (by simp [C.impl_factors,cN,ints]) ⟨by simp,hBs⟩ ?_
    intro x2 hx2 R2 hR2
    clear hBs hs0 hc2 hln hld hmem
    obtain ⟨a,num,den,P⟩:=x2
    obtain ⟨haP,hBJ⟩:=hx2
    dsimp only at haP hBJ ⊢
    have hPn:=nodup_len hBJ.pn hBJ.pl
    refine wseq ?_
    refine wseq ?_
    refine wreg fun K hK=>?_
    simp [C.impl_factors]
    refine hK _ ?_;clear hK K
    show AWp _ _ _ _ _
    refine wcond _ rfl (fun hc3=>?_) (fun hc3=>?_)
    ·have ha:a < P.length:=by have:=d_t hc3;omega
     obtain ⟨i,hi⟩:∃ i,i=P[a]:=⟨_,rfl⟩
     have hiP:P[a]? = some i:=by rw [hi];exact List.getElem?_eq_getElem ha
     have hin:i < n:=by rw [hi];exact hBJ.pl _ (List.getElem_mem ha)
     refine wskip ?_
     show AWp _ _ _ _ _
     refine wseq ?_
     refine wblock ?_
     refine wseq ?_
     refine wreg fun K hK=>?_
     simp [C.impl_factors,show ((a:Int) < P.length) by omega,ha,get_ints,cN_get ha,<-hi]
     refine hK _ ?_;clear hK K
     show AWp _ _ _ _ _
     refine wseq ?_
     refine wreg fun K hK=>?_
     simp [C.impl_factors]
     refine hK _ ?_;clear hK K
     show AWp _ _ _ _ _
     refine wblock ?_
     refine wloop (fun x:Nat×List Int×List Int×List Nat=>⟨ofL [(1,.pt (1,0) [] 0),(3,.al (3,0) [] 0 n),(4,.al (4,0) [] 0 n),(5,.al (5,0) [] 0 n),(7,.al (7,0) [] 0 (x.2.2.2).length),(8,.int a),(9,.int i),(34,.int n),(35,.int (s:Nat)),(62,.int n),(63,.int x.1)],ofRO [((1,0),some (.bx [D.int n,D.int m.r,shI m.d])),((3,0),some (.ow 1 n (ints x.2.1))),((4,0),some (.ow 1 n (ints x.2.2.1))),((5,0),some (.ow 1 n (ints out))),((7,0),some (.ow 1 (x.2.2.2).length (ints (cN x.2.2.2))))]⟩) (fun x=>x.1<=n/\x.2.2.2[a]? = some i/\BJ n (bM m) old s x.2.1 x.2.2.1 x.2.2.2 a x.1) (fun x=>n - x.1) (0,num,den,P) (by simp [C.impl_factors,hBJ.ln]) ⟨by simp,hiP,hBJ⟩ ?_
     intro x3 hx3 R3 hR3
     clear hiP hi ha hBJ haP hPn hc3
     obtain ⟨j,num,den,P⟩:=x3
     obtain ⟨hj2,hiP,hBJ⟩:=hx3
     dsimp only at hj2 hiP hBJ ⊢
     have hPn:=nodup_len hBJ.pn hBJ.pl
     obtain ⟨ha,hi⟩:=List.getElem?_eq_some_iff.1 hiP
     have hln:=hBJ.ln
     have hld:=hBJ.ld
     refine wseq ?_
     refine wreg fun K hK=>?_
     simp [C.impl_factors]
     refine hK _ ?_;clear hK K
     show AWp _ _ _ _ _
     refine wseq ?_
     refine wcond _ rfl (fun hc4=>?_) (fun hc4=>?_)
     ·have hj:j < n:=by have:=d_t hc4;omega
      obtain ⟨p,hp⟩:∃ p,p=bM m i j:=⟨_,rfl⟩
      obtain ⟨q,hq⟩:∃ q,q=-bM m j i:=⟨_,rfl⟩
      have hpb:-99<=p/\p<=99:=by have:=hB i j hin hj;omega
      have hqb:-99<=q/\q<=99:=by have:=hB j i hj hin;omega
      have hwq:IntKind.i64.wrap (-bM m j i)=q:=by rw [<-hq];exact wrapOk (by omega) (by omega)
      refine wskip ?_
      show AWp _ _ _ _ _
      refine wseq ?_
      refine wblock ?_
      refine wseq ?_
      refine wreg fun K hK=>?_
      simp [C.impl_factors]
      refine hK _ ?_;clear hK K
      show AWp _ _ _ _ _
      refine wseq ?_
      refine wdrawI [(true,0),(true,1),(true,2),(true,4),(true,5),(true,6),(false,3),(false,7),(true,8),(true,9),(true,10)] ⟨by kernel_rfl,by kernel_rfl⟩ ([0,1,2,4,5,6,3] ++ ([7] ++ ([8,9,10]))) rfl fun K hK=>?_
      refine oSg fun L hL=>?_
      simp [C.impl_factors,hwq,<-hp]
      refine wcall1 (at_c hn hS (show (i:Int) < m.r by omega) hj) (by simp) (by simp) ?_
      simp [C.impl_factors,hwq,<-hp]
      refine hL _ ?_;clear hL L
      refine oSg fun L hL=>?_
      simp [C.impl_factors,hwq,<-hp]
      refine wcall1 (at_c hn hS (show (j:Int) < m.r by omega) hin) (by simp) (by simp) ?_
      simp [C.impl_factors,hwq,<-hp]
      refine hL _ ?_;clear hL L
      refine oEn fun L hL=>?_
      simp [C.impl_factors,hwq,<-hp]
      refine hL _ ?_;clear hL L
      simp [C.impl_factors,hwq,<-hp]
      refine hK _ ?_;clear hK K
      show AWp _ _ _ _ _
      refine wseq ?_
      refine wseq ?_
      refine wreg fun K hK=>?_
      have hJ:K ⟨ofL [(1,.pt (1,0) [] 0),(3,.al (3,0) [] 0 n),(4,.al (4,0) [] 0 n),(5,.al (5,0) [] 0 n),(7,.al (7,0) [] 0 (P).length),(8,.int a),(9,.int i),(10,.int j),(11,.int p),(12,.int q),(34,.int n),(35,.int (s:Nat)),(62,.int n),(63,.int j),(80,.bool (decide (p=0/\q=0)))],ofRO [((1,0),some (.bx [D.int n,D.int m.r,shI m.d])),((3,0),some (.ow 1 n (ints num))),((4,0),some (.ow 1 n (ints den))),((5,0),some (.ow 1 n (ints out))),((7,0),some (.ow 1 (P).length (ints (cN P))))]⟩:=by
       refine hK _ ?_;clear hK K
       show AWp _ _ _ _ _
       refine wcond _ rfl (fun hc5=>?_) (fun hc5=>?_)
       ·have hpq0:=d_t hc5
        refine wexit ?_
        show AWp _ _ _ _ _
        refine wreg fun K hK=>?_
        simp [C.impl_factors,wrap_succ (show j < 4611686018427387904 by omega)]
        refine hK _ ?_;clear hK K
        simp [C.impl_factors]
        refine hR3 (j+1,num,den,P) ⟨hj,hiP,?_⟩ (by dsimp only;omega)
        exact hBJ.skip ha (by rw [hi,<-hp];exact hpq0.1) (by rw [hi];omega)
       ·have hpq0:=d_f hc5
        refine wskip ?_
        show AWp _ _ _ _ _
        refine wseq ?_
        refine wseq ?_
        refine wregI ([0,1,2,3,4,5,6,7,8,9,10,11,12,13,14,15,16,17]) rfl fun K hK=>?_
        have hJ:K ⟨ofL [(1,.pt (1,0) [] 0),(3,.al (3,0) [] 0 n),(4,.al (4,0) [] 0 n),(5,.al (5,0) [] 0 n),(7,.al (7,0) [] 0 (P).length),(8,.int a),(9,.int i),(10,.int j),(11,.int p),(12,.int q),(34,.int n),(35,.int (s:Nat)),(62,.int n),(63,.int j),(98,.bool (decide (p=0\/q=0\/¬ (0 < p↔0 < q)\/i=j)))],ofRO [((1,0),some (.bx [D.int n,D.int m.r,shI m.d])),((3,0),some (.ow 1 n (ints num))),((4,0),some (.ow 1 n (ints den))),((5,0),some (.ow 1 n (ints out))),((7,0),some (.ow 1 (P).length (ints (cN P))))]⟩:=by
         refine hK _ ?_;clear hK K
         show AWp _ _ _ _ _
         refine wcond _ rfl (fun hc6=>?_) (fun hc6=>?_)
         ·have hfl:=d_t hc6
          have hno:=fun d=>sign_fail (b:=bM m) hin hj (by omega) (by omega) d
          refine wseq ?_
          refine wreg fun K hK=>?_
          simp [C.impl_factors]
          refine hK _ ?_;clear hK K
          show AWp _ _ _ _ _
          refine wret ?_
          simp [C.impl_factors]
          exact hno
         ·have hsg:=d_f hc6
          have hpq:0 < p/\0 < q\/p < 0/\q < 0:=by omega
          obtain ⟨u,hu⟩:∃ u,u=max p (-p):=⟨_,rfl⟩
          obtain ⟨v,hv⟩:∃ v,v=max q (-q):=⟨_,rfl⟩
          have hw1:IntKind.i64.wrap (-p)=-p:=wrapOk (by omega) (by omega)
          have hw2:IntKind.i64.wrap (-q)=-q:=wrapOk (by omega) (by omega)
          have hm1:=(hBJ.mul hn5.2 ha (u:=u) (by omega) (by omega)).1
          have hm2:=(hBJ.mul hn5.2 ha (u:=v) (by omega) (by omega)).2
          rw [hi] at hm1 hm2
          have hwA:IntKind.i64.wrap (g0 num i*u)=g0 num i*u:=wrapOk (by omega) (by omega)
          have hwB:IntKind.i64.wrap (g0 den i*v)=g0 den i*v:=wrapOk (by omega) (by omega)
          obtain ⟨x,y,g,hx0,hy0,hgp,hgg,hxA,hyB,hco⟩:=frac (g0 num i*u) (g0 den i*v) hm1.1 hm2.1
          have hqA:(g0 num i*u).tdiv g=x:=by rw [hxA,Int.mul_tdiv_cancel _ (by omega)]
          have hqB:(g0 den i*v).tdiv g=y:=by rw [hyB,Int.mul_tdiv_cancel _ (by omega)]
          have hxl:x<=9509900499:=by
           have h1:x*1<=x*g:=Int.mul_le_mul_of_nonneg_left (by omega) (by omega)
           rw [<-hxA] at h1
           omega
          have hyl:y<=9509900499:=by
           have h1:y*1<=y*g:=Int.mul_le_mul_of_nonneg_left (by omega) (by omega)
           rw [<-hyB] at h1
           omega
          have hcall:=impl_gcd_c (g0 num i*u) (g0 den i*v) (by omega) (by omega)
          rw [hgg] at hcall
          generalize hAA:g0 num i*u=A at *
          generalize hBB:g0 den i*v=Bb at *
          refine wskip ?_
          show AWp _ _ _ _ _
          refine wseq ?_
          refine wdrawI [(true,0),(true,1),(true,2),(true,3),(true,4),(true,5),(true,6),(true,7),(true,8),(true,9),(true,10),(true,11),(true,12),(true,13),(true,14),(true,15),(true,16),(true,17),(true,18),(true,19)] ⟨by kernel_rfl,by kernel_rfl⟩ ([0,1,2,3,4,5,6,7,8,9,10,11,12,13,14,15,16,17,18,19]) rfl fun K hK=>?_
          refine oEn fun L hL=>?_
          simp [C.impl_factors,show ((i:Int) < n) by omega,hin,hln,hld,get_ints,g0_get,hw1,hw2,<-hu,<-hv,hAA,hBB,hwA,hwB]
          refine hL _ ?_;clear hL L
          simp [C.impl_factors,show ((i:Int) < n) by omega,hin,hln,hld,get_ints,g0_get,hw1,hw2,<-hu,<-hv,hAA,hBB,hwA,hwB]
          refine hK _ ?_;clear hK K
          show AWp _ _ _ _ _
          refine wseq ?_
          refine wregI ([0,1,2] ++ ([3])) rfl fun K hK=>?_
          refine oSg fun L hL=>?_
          simp [C.impl_factors]
          refine wcall1 (hcall) (by simp) (by simp) ?_
          simp [C.impl_factors]
          refine hL _ ?_;clear hL L
          refine oEn fun L hL=>?_
          simp [C.impl_factors]
          refine hL _ ?_;clear hL L
          simp [C.impl_factors]
          refine hK _ ?_;clear hK K
          show AWp _ _ _ _ _
          refine wseq ?_
          refine wdraw (.take 0 (.take 1 (.take 2 (.take 3 (.take 4 (.take 5 (.take 6 (.take 7 (.done))))))))) ⟨by kernel_rfl,by kernel_rfl⟩ fun K hK=>?_
          simp [C.impl_factors,show g≠0 by omega,hqA,hqB,wrapOk (x:=x) (by omega) (by omega),wrapOk (x:=y) (by omega) (by omega)]
          refine hK _ ?_;clear hK K
          show AWp _ _ _ _ _
          refine wseq ?_
          refine wreg fun K hK=>?_
          simp [C.impl_factors,show ((j:Int) < n) by omega,hj,hln,get_ints,g0_get]
          refine hK _ ?_;clear hK K
          show AWp _ _ _ _ _
          refine wcond _ rfl (fun hc7=>?_) (fun hc7=>?_)
          ·have hz:g0 num j=0:=by simpa using hc7
           have hnew:=hBJ.new (x:=x) (y:=y) (g:=g) (u:=u) (v:=v) hoc ha hj hB (by rw [hi,<-hp,<-hq];exact hpq) hz (by rw [hi,<-hp];exact hu.symm) (by rw [hi,<-hq];exact hv.symm) hgp hx0 hy0 (by rw [hi,hAA];exact hxA) (by rw [hi,hBB];exact hyB) hco
           refine wseq ?_
           refine wreg fun K hK=>?_
           simp [C.impl_factors,show ((j:Int) < n) by omega,hj,hln,hld]
           refine hK _ ?_;clear hK K
           show AWp _ _ _ _ _
           refine wreg fun K hK=>?_
           simp [C.impl_factors,cN_snoc,show (P.length+1)*8<=140737488355328 by omega]
           refine hK _ ?_;clear hK K
           show AWp _ _ _ _ _
           refine wreg fun K hK=>?_
           simp [C.impl_factors,wrap_succ (show j < 4611686018427387904 by omega)]
           refine hK _ ?_;clear hK K
           simp [C.impl_factors]
           refine cast (congrArg R3 ?_) (hR3 (j+1,num.set j x,den.set j y,P ++ [j]) ⟨hj,by dsimp only;rw [List.getElem?_append_left ha];exact hiP,hnew⟩ (by dsimp only;omega))
           simp
          ·have hz:g0 num j≠0:=by simpa using hc7
           have hcmp:=hBJ.cmp (x:=x) (y:=y) (g:=g) (u:=u) (v:=v) hoc ha hj (by rw [hi,<-hp,<-hq];exact hpq) hz (by rw [hi,<-hp];exact hu.symm) (by rw [hi,<-hq];exact hv.symm) hgp hx0 hy0 (by rw [hi,hAA];exact hxA) (by rw [hi,hBB];exact hyB) hco
           refine wseq ?_
           refine wregI ([0,1,2,3,4,5,6,7,8,9,10,11,12,13]) rfl fun K hK=>?_
           have hJ:K ⟨ofL [(1,.pt (1,0) [] 0),(3,.al (3,0) [] 0 n),(4,.al (4,0) [] 0 n),(5,.al (5,0) [] 0 n),(7,.al (7,0) [] 0 (P).length),(8,.int a),(9,.int i),(34,.int n),(35,.int (s:Nat)),(62,.int n),(63,.int j),(156,.bool (!decide (g0 num j=x/\g0 den j=y)))],ofRO [((1,0),some (.bx [D.int n,D.int m.r,shI m.d])),((3,0),some (.ow 1 n (ints num))),((4,0),some (.ow 1 n (ints den))),((5,0),some (.ow 1 n (ints out))),((7,0),some (.ow 1 (P).length (ints (cN P))))]⟩:=by
            refine hK _ ?_;clear hK K
            show AWp _ _ _ _ _
            refine wcond _ rfl (fun hc8=>?_) (fun hc8=>?_)
            ·have hne:=nd_t hc8
             refine wseq ?_
             refine wreg fun K hK=>?_
             simp [C.impl_factors]
             refine hK _ ?_;clear hK K
             show AWp _ _ _ _ _
             refine wret ?_
             simp [C.impl_factors]
             exact hcmp.2 hne
            ·have heq:=nd_f hc8
             refine wskip ?_
             show AWp _ _ _ _ _
             refine wreg fun K hK=>?_
             simp [C.impl_factors,wrap_succ (show j < 4611686018427387904 by omega)]
             refine hK _ ?_;clear hK K
             simp [C.impl_factors]
             exact hR3 (j+1,num,den,P) ⟨hj,hiP,hcmp.1 heq⟩ (by dsimp only;omega)
           clear hK
           by_cases h1:g0 num j=x
           ·refine oEn fun L hL=>?_
            simp [C.impl_factors,show ((j:Int) < n) by omega,hj,hln,hld,get_ints,g0_get,h1]
            refine hL _ ?_;clear hL L
            simp [C.impl_factors,show ((j:Int) < n) by omega,hj,hln,hld,get_ints,g0_get,h1]
            refine cast (congrArg K ?_) hJ
            simp [ibne,h1]
           ·refine oEn fun L hL=>?_
            simp [C.impl_factors,show ((j:Int) < n) by omega,hj,hln,hld,get_ints,g0_get,h1]
            refine hL _ ?_;clear hL L
            simp [C.impl_factors,show ((j:Int) < n) by omega,hj,hln,hld,get_ints,g0_get,h1]
            refine cast (congrArg K ?_) hJ
            simp [ibne,h1]
        clear hK
        have hij:((i:Int) == (j:Int))=decide (i=j):=by rw [Bool.eq_iff_iff];simp <;> omega
        by_cases h1:p=0 <;> by_cases h2:q=0 <;> by_cases h3:0 < p <;> by_cases h4:0 < q <;> by_cases h5:i=j <;> first
         | (exfalso;omega)
         | (simp [C.impl_factors,h1,h2,h3,h4,h5];refine cast (congrArg K ?_) hJ;simp [hij,h1,h2,h3,h4,h5];done)
      clear hK
      by_cases hz:p=0
      ·simp [C.impl_factors,hz]
       refine cast (congrArg K ?_) hJ
       simp [ibeq,hz]
      ·simp [C.impl_factors,hz]
       refine cast (congrArg K ?_) hJ
       simp [ibeq,hz]
     ·have hjn:j=n:=by have:=d_f hc4;omega
      refine wexit ?_
      show AWp _ _ _ _ _
      refine wreg fun K hK=>?_
      simp [C.impl_factors,wrap_succ (show a < 4611686018427387904 by omega)]
      refine hK _ ?_;clear hK K
      simp [C.impl_factors]
      refine hR2 (a+1,num,den,P) ⟨ha,?_⟩ (by dsimp only;omega)
      rw [hjn] at hBJ
      exact hBJ.next
    ·have hap:a=P.length:=by have:=d_f hc3;omega
     rw [hap] at hBJ
     clear hap hc3 haP
     have hln:=hBJ.ln
     have hld:=hBJ.ld
     have hP9:P.length < 4611686018427387904:=by omega
     refine wexit ?_
     show AWp _ _ _ _ _
     refine wseq ?_
     refine wreg fun K hK=>?_
     simp [C.impl_factors]
     refine hK _ ?_;clear hK K
     show AWp _ _ _ _ _
     refine wseq ?_
     refine wseq ?_
     refine wreg fun K hK=>?_
     simp [C.impl_factors]
     refine hK _ ?_;clear hK K
     show AWp _ _ _ _ _
     refine wblock ?_
     refine wloop (fun x:Nat×Int=>⟨ofL [(1,.pt (1,0) [] 0),(3,.al (3,0) [] 0 n),(4,.al (4,0) [] 0 n),(5,.al (5,0) [] 0 n),(7,.al (7,0) [] 0 (P).length),(16,.int x.2),(34,.int n),(35,.int (s:Nat)),(158,.al (7,0) [] 0 P.length),(159,.int P.length),(160,.int x.1)],ofRO [((1,0),some (.bx [D.int n,D.int m.r,shI m.d])),((3,0),some (.ow 1 n (ints num))),((4,0),some (.ow 1 n (ints den))),((5,0),some (.ow 1 n (ints out))),((7,0),some (.ow 1 (P).length (ints (cN P))))]⟩) (fun x=>x.1<=P.length/\CJ n (bM m) s den P x.1 x.2) (fun x=>P.length - x.1) (0,1) (by simp [C.impl_factors]) ⟨by simp,CJ.start hBJ hn5.2 hPn⟩ ?_
     intro x4 hx4 R4 hR4
     obtain ⟨t,c⟩:=x4
     obtain ⟨ht0,hC⟩:=hx4
     dsimp only at ht0 hC ⊢
     refine wseq ?_
     refine wreg fun K hK=>?_
     simp [C.impl_factors]
     refine hK _ ?_;clear hK K
     show AWp _ _ _ _ _
     refine wseq ?_
     refine wcond _ rfl (fun hc9=>?_) (fun hc9=>?_)
     ·have ht:t < P.length:=by have:=d_t hc9;omega
      have hin:=hBJ.pl _ (List.getElem_mem ht)
      have hdp:=hBJ.pos _ (List.getElem_mem ht)
      have hdb:=(hBJ.bd t ht).2
      have hp4:=pow4 ht hn5.2 hPn
      have hcq:=hC.qd
      have hcp:=hC.pos
      obtain ⟨w,w1,w2,w3⟩:=lcm_step hC.pos hdp.2.1
      have hstep:=hC.step hBJ ht
      have hcall:=impl_gcd_c c (g0 den P[t]) (by omega) (by omega)
      have hgn:0 < Int.gcd c (g0 den P[t]):=Int.gcd_pos_of_ne_zero_left _ (by omega)
      have hdz:(Int.gcd c (g0 den P[t]):Int)≠0:=by omega
      have hsq:=hstep.qd
      have hsp:=hstep.pos
      rw [w1] at hstep hsq hsp
      generalize hG:(Int.gcd c (g0 den P[t]):Int)=G at *
      refine wskip ?_
      show AWp _ _ _ _ _
      refine wseq ?_
      refine wblock ?_
      refine wseq ?_
      refine wreg fun K hK=>?_
      simp [C.impl_factors,show ((t:Int) < P.length) by omega,ht,get_ints,cN_get ht]
      refine hK _ ?_;clear hK K
      show AWp _ _ _ _ _
      refine wdrawI [(true,0),(true,1),(true,2),(true,3),(true,4),(true,5),(true,8),(true,9),(true,10),(true,11),(false,6),(true,7),(true,12),(true,13)] ⟨by kernel_rfl,by kernel_rfl⟩ ([0,1,2,3,4,5,8,9,10,11,6] ++ ([7,12,13])) rfl fun K hK=>?_
      refine oSg fun L hL=>?_
      simp [C.impl_factors,show ((P[t]:Int) < n) by omega,hin,hld,get_ints,g0_get,hdz,w1,wrapOk (x:=(w:Int)) (by omega) (by omega),wrapOk (x:=(w:Int)*g0 den P[t]) (by omega) (by omega)]
      refine wcall1 (hcall) (by simp) (by simp) ?_
      simp [C.impl_factors,show ((P[t]:Int) < n) by omega,hin,hld,get_ints,g0_get,hdz,w1,wrapOk (x:=(w:Int)) (by omega) (by omega),wrapOk (x:=(w:Int)*g0 den P[t]) (by omega) (by omega)]
      refine hL _ ?_;clear hL L
      refine oEn fun L hL=>?_
      simp [C.impl_factors,show ((P[t]:Int) < n) by omega,hin,hld,get_ints,g0_get,hdz,w1,wrapOk (x:=(w:Int)) (by omega) (by omega),wrapOk (x:=(w:Int)*g0 den P[t]) (by omega) (by omega)]
      refine hL _ ?_;clear hL L
      simp [C.impl_factors,show ((P[t]:Int) < n) by omega,hin,hld,get_ints,g0_get,hdz,w1,wrapOk (x:=(w:Int)) (by omega) (by omega),wrapOk (x:=(w:Int)*g0 den P[t]) (by omega) (by omega)]
      refine hK _ ?_;clear hK K
      show AWp _ _ _ _ _
      refine wreg fun K hK=>?_
      simp [C.impl_factors,wrap_succ (show t < 4611686018427387904 by omega)]
      refine hK _ ?_;clear hK K
      simp [C.impl_factors]
      exact hR4 (t+1,(w:Int)*g0 den P[t]) ⟨ht,hstep⟩ (by dsimp only;omega)
     ·have htP:t=P.length:=by have:=d_f hc9;omega
      rw [htP] at hC
      refine wexit ?_
      show AWp _ _ _ _ _
      refine wseq ?_
      refine wreg fun K hK=>?_
      simp [C.impl_factors]
      refine hK _ ?_;clear hK K
      show AWp _ _ _ _ _
      refine wseq ?_
      refine wseq ?_
      refine wreg fun K hK=>?_
      simp [C.impl_factors]
      refine hK _ ?_;clear hK K
      show AWp _ _ _ _ _
      refine wblock ?_
      refine wloop (fun x:Nat×List Int×Int=>⟨ofL [(1,.pt (1,0) [] 0),(3,.al (3,0) [] 0 n),(4,.al (4,0) [] 0 n),(5,.al (5,0) [] 0 n),(7,.al (7,0) [] 0 (P).length),(16,.int c),(19,.int x.2.2),(34,.int n),(35,.int (s:Nat)),(178,.al (7,0) [] 0 P.length),(179,.int P.length),(180,.int x.1)],ofRO [((1,0),some (.bx [D.int n,D.int m.r,shI m.d])),((3,0),some (.ow 1 n (ints num))),((4,0),some (.ow 1 n (ints den))),((5,0),some (.ow 1 n (ints x.2.1))),((7,0),some (.ow 1 (P).length (ints (cN P))))]⟩) (fun x=>x.1<=P.length/\WJ c num den P out x.1 x.2.1 x.2.2/\x.2.2 < 4611686018427387904) (fun x=>P.length - x.1) (0,out,0) (by simp [C.impl_factors]) ⟨by simp,WJ.start c num den P out,by simp⟩ ?_
      intro x5 hx5 R5 hR5
      obtain ⟨t5,o,g⟩:=x5
      obtain ⟨ht0',hW,hgb⟩:=hx5
      dsimp only at ht0' hW hgb ⊢
      refine wseq ?_
      refine wreg fun K hK=>?_
      simp [C.impl_factors]
      refine hK _ ?_;clear hK K
      show AWp _ _ _ _ _
      refine wseq ?_
      refine wcond _ rfl (fun hc10=>?_) (fun hc10=>?_)
      ·have ht:t5 < P.length:=by have:=d_t hc10;omega
       have hin:=hBJ.pl _ (List.getElem_mem ht)
       have hws:=wM_spec hC hBJ hn5.2 hPn (List.getElem_mem ht)
       have hdp:=hBJ.pos _ (List.getElem_mem ht)
       have hol:o.length=n:=by rw [hW.len,hO.lo]
       have hwd:wM c num den P[t5]=c.tdiv (g0 den P[t5])*g0 num P[t5]:=rfl
       have hstep:=hW.step ht (by rw [hO.lo];exact hin) hws.2.2.1
       have hg0:=hW.g0'.1
       have hcall:=impl_gcd_c g (wM c num den P[t5]) (by omega) (by have:=hws.2.2.2.1;omega)
       have hgw:(Int.gcd g (wM c num den P[t5]):Int) < 4611686018427387904:=by
        have h1:Int.gcd g (wM c num den P[t5]) ∣ (wM c num den P[t5]).natAbs:=Nat.gcd_dvd_right _ _
        have h2:=Nat.le_of_dvd (by have:=hws.2.2.1;omega) h1
        have:=hws.2.2.2.1
        omega
       have hwA:IntKind.i64.wrap (c.tdiv (g0 den P[t5]))=c.tdiv (g0 den P[t5]):=by have:=hws.1;have:=hws.2.1;exact wrapOk (by omega) (by omega)
       have hwB:IntKind.i64.wrap (wM c num den P[t5])=wM c num den P[t5]:=by have:=hws.2.2.1;have:=hws.2.2.2.1;exact wrapOk (by omega) (by omega)
       have hog:g0 (o.set P[t5] (wM c num den P[t5])) P[t5]=wM c num den P[t5]:=by rw [g0_set _ _ _ _ (by omega),if_pos rfl]
       have hdz:g0 den P[t5]≠0:=by omega
       refine wskip ?_
       show AWp _ _ _ _ _
       refine wseq ?_
       refine wblock ?_
       refine wseq ?_
       refine wreg fun K hK=>?_
       simp [C.impl_factors,show ((t5:Int) < P.length) by omega,ht,get_ints,cN_get ht]
       refine hK _ ?_;clear hK K
       show AWp _ _ _ _ _
       refine wseq ?_
       refine wdrawI [(true,0),(true,1),(true,2),(true,3),(true,4),(true,5),(true,6),(true,7),(true,8),(true,9),(true,10),(true,11),(true,12),(true,13),(false,14)] ⟨by kernel_rfl,by kernel_rfl⟩ ([0,1,2,3,4,5,6,7,8,9,10,11,12,13,14]) rfl fun K hK=>?_
       refine oEn fun L hL=>?_
       simp [C.impl_factors,show ((P[t5]:Int) < n) by omega,hin,hln,hld,hol,get_ints,g0_get,hdz,hwA,<-hwd,hwB]
       refine hL _ ?_;clear hL L
       simp [C.impl_factors,show ((P[t5]:Int) < n) by omega,hin,hln,hld,hol,get_ints,g0_get,hdz,hwA,<-hwd,hwB]
       refine hK _ ?_;clear hK K
       show AWp _ _ _ _ _
       refine wregI ([0,1,2,3,4,5] ++ ([6])) rfl fun K hK=>?_
       refine oSg fun L hL=>?_
       simp [C.impl_factors,show ((P[t5]:Int) < n) by omega,hin,hol,get_ints,g0_get,hog]
       refine wcall1 (hcall) (by simp) (by simp) ?_
       simp [C.impl_factors,show ((P[t5]:Int) < n) by omega,hin,hol,get_ints,g0_get,hog]
       refine hL _ ?_;clear hL L
       refine oEn fun L hL=>?_
       simp [C.impl_factors,show ((P[t5]:Int) < n) by omega,hin,hol,get_ints,g0_get,hog]
       refine hL _ ?_;clear hL L
       simp [C.impl_factors,show ((P[t5]:Int) < n) by omega,hin,hol,get_ints,g0_get,hog]
       refine hK _ ?_;clear hK K
       show AWp _ _ _ _ _
       refine wreg fun K hK=>?_
       simp [C.impl_factors,wrap_succ (show t5 < 4611686018427387904 by omega)]
       refine hK _ ?_;clear hK K
       simp [C.impl_factors]
       exact hR5 (t5+1,o.set P[t5] (wM c num den P[t5]),_) ⟨ht,hstep,hgw⟩ (by dsimp only;omega)
      ·have ht5:t5=P.length:=by have:=d_f hc10;omega
       rw [ht5] at hW
       have hgp:0 < g:=hW.g0'.2 (List.length_pos_of_mem (List.mem_of_getElem? hBJ.hd))
       refine wexit ?_
       show AWp _ _ _ _ _
       refine wseq ?_
       refine wreg fun K hK=>?_
       simp [C.impl_factors]
       refine hK _ ?_;clear hK K
       show AWp _ _ _ _ _
       refine wblock ?_
       refine wloop (fun x:Nat×List Int=>⟨ofL [(1,.pt (1,0) [] 0),(3,.al (3,0) [] 0 n),(4,.al (4,0) [] 0 n),(5,.al (5,0) [] 0 n),(19,.int g),(34,.int n),(35,.int (s:Nat)),(205,.al (205,0) [] 0 P.length),(206,.int P.length),(207,.int x.1)],ofRO [((1,0),some (.bx [D.int n,D.int m.r,shI m.d])),((3,0),some (.ow 1 n (ints num))),((4,0),some (.ow 1 n (ints den))),((5,0),some (.ow 1 n (ints x.2))),((205,0),some (.ow 1 (P).length (ints (cN P))))]⟩) (fun x=>x.1<=P.length/\VJ (wM c num den) g P out x.1 x.2) (fun x=>P.length - x.1) (0,o) (by simp [C.impl_factors]) ⟨by simp,VJ.start hW⟩ ?_
       intro x6 hx6 R6 hR6
       obtain ⟨t6,o6⟩:=x6
       obtain ⟨ht0'',hV⟩:=hx6
       dsimp only at ht0'' hV ⊢
       refine wseq ?_
       refine wreg fun K hK=>?_
       simp [C.impl_factors]
       refine hK _ ?_;clear hK K
       show AWp _ _ _ _ _
       refine wseq ?_
       refine wcond _ rfl (fun hc11=>?_) (fun hc11=>?_)
       ·have ht:t6 < P.length:=by have:=d_t hc11;omega
        have hin:=hBJ.pl _ (List.getElem_mem ht)
        have hws:=wM_spec hC hBJ hn5.2 hPn (List.getElem_mem ht)
        obtain ⟨hv1,hv2⟩:=hV.step hBJ.pn ht (by rw [hO.lo];exact hin)
        have hol:o6.length=n:=by rw [hV.len,hO.lo]
        have hwd:IntKind.i64.wrap ((wM c num den P[t6]).tdiv g)=(wM c num den P[t6]).tdiv g:=by
         have h1:((wM c num den P[t6]).tdiv g).natAbs<=(wM c num den P[t6]).natAbs:=by
          rw [Int.natAbs_tdiv]
          exact Nat.div_le_self _ _
         have:=hws.2.2.1
         have:=hws.2.2.2.1
         exact wrapOk (by omega) (by omega)
        refine wskip ?_
        show AWp _ _ _ _ _
        refine wseq ?_
        refine wblock ?_
        refine wseq ?_
        refine wreg fun K hK=>?_
        simp [C.impl_factors,show ((t6:Int) < P.length) by omega,ht,get_ints,cN_get ht]
        refine hK _ ?_;clear hK K
        show AWp _ _ _ _ _
        refine wreg fun K hK=>?_
        simp [C.impl_factors,show ((P[t6]:Int) < n) by omega,hin,hol,get_ints,g0_get,hv1,show g≠0 by omega,hwd]
        refine hK _ ?_;clear hK K
        show AWp _ _ _ _ _
        refine wreg fun K hK=>?_
        simp [C.impl_factors,wrap_succ (show t6 < 4611686018427387904 by omega)]
        refine hK _ ?_;clear hK K
        simp [C.impl_factors]
        exact hR6 (t6+1,_) ⟨ht,hv2⟩ (by dsimp only;omega)
       ·have ht6:t6=P.length:=by have:=d_f hc11;omega
        rw [ht6] at hV
        have hgrow:=hO.grow hBJ hn5.2 hPn hC hW hV
        refine wexit ?_
        show AWp _ _ _ _ _
        refine wreg fun K hK=>?_
        simp [C.impl_factors,wrap_succ (show s < 4611686018427387904 by omega)]
        refine hK _ ?_;clear hK K
        simp [C.impl_factors]
        refine hR1 (s+1,num,den,o6,old ++ P) ⟨h1,⟨hln,hld⟩,fun i hi=>?_,hgrow,fun i hi=>?_⟩ (by dsimp only;omega)
        ·dsimp only
         rw [hBJ.mem i hi,List.mem_append]
        ·dsimp only at hi ⊢
         rw [List.mem_append]
         by_cases e:i=s
         ·right
          rw [e]
          exact List.mem_of_getElem? hBJ.hd
         ·exact .inl (hall i (by omega))
  ·have hsn:s=n:=by have:=d_f hc1;omega
   subst hsn
   have hmin:=hO.min hall
   have hol:=hO.lo
   refine wexit ?_
   show AWp _ _ _ _ _
   refine wseq ?_
   refine wreg fun K hK=>?_
   simp [C.impl_factors]
   refine hK _ ?_;clear hK K
   show AWp _ _ _ _ _
   refine wret ?_
   simp [C.impl_factors]
   exact ⟨out,hmin,hol.symm,rfl⟩
 clear hK
 simp [C.impl_factors,zeros_ints,show (8:Int)*n<=281474976710656 by omega,show (n:Int)<=281474976710656 by omega]
 exact hJ
theorem factors_c (m:Mat) (hS:ShM m):ACalls Try.prog F.impl_factors [aM m] [] true (fun outs res=>outs=[]/\((∃ l,MinSol m.n.toNat (bM m) l/\res=[.one (owI l)])\/((∀ d,¬ Sol m.n.toNat (bM m) d)/\res=[.one (.v (.slice none 0 0))]))):=by
 obtain ⟨n,hn⟩:∃ n:Nat,m.n=n:=⟨m.n.toNat,by have:=hS.1;omega⟩
 have h:=impl_factors_c m n hn hS
 have e:aM m = .ag [.int n,.int m.r,.d (shI m.d)]:=by rw [<-hn]
 rw [e,show m.n.toNat=n by omega]
 exact h
end Go.Proofs.Ytfcgcgmleogamaa.Ab
namespace Go.Proofs.Ytfcgcgmleogamaa.Ab
open Go
set_option maxRecDepth 10000
set_option maxHeartbeats 2000000
end Go.Proofs.Ytfcgcgmleogamaa.Ab
namespace Go.Proofs.Ytfcgcgmleogamaa.Ab
open Go
section
variable {α:Type} {le:α->α->Bool}
end
end Go.Proofs.Ytfcgcgmleogamaa.Ab
namespace Go.Proofs.Ytfcgcgmleogamaa.Ab
open Go
set_option maxRecDepth 10000
set_option maxHeartbeats 2000000
end Go.Proofs.Ytfcgcgmleogamaa.Ab
namespace Go.Proofs.Ytfcgcgmleogamaa.Ab
open Go
set_option maxRecDepth 10000
set_option maxHeartbeats 2000000
end Go.Proofs.Ytfcgcgmleogamaa.Ab
namespace Go.Proofs.Ytfcgcgmleogamaa.Ab
open Go
set_option maxRecDepth 10000
set_option maxHeartbeats 2000000
theorem right_dig {f:Lau} (h:Right f) {n:Nat} (hn:f.v=n):∀ t∈f.ts,t.e.length=n/\Dig t.e/\(∀ x∈t.e,-20<=x/\x<=20)/\(-1000000<=t.c/\t.c<=1000000):=fun t ht=>by
 obtain ⟨h1,_,h2,h3⟩:=h.2.2.1 t ht
 exact ⟨by omega,fun x hx=>by have:=h3 x hx;omega,h3,h2⟩
def oneF (n:Nat):Lau:=⟨n,[⟨List.replicate n 0,1⟩]⟩
theorem oneF_right {n:Nat} (h:1<=n/\n<=8):Right (oneF n):=by
 refine ⟨by simp only [oneF];omega,by simp [oneF],fun t ht=>?_,List.pairwise_singleton _ _⟩
 simp only [oneF,List.mem_singleton] at ht
 subst ht
 exact ⟨by simp [oneF],by simp,by simp,fun x hx=>by have:=List.eq_of_mem_replicate hx;omega⟩
end Go.Proofs.Ytfcgcgmleogamaa.Ab
namespace Go.Proofs.Ytfcgcgmleogamaa.Ab
open Go
set_option maxRecDepth 10000
set_option maxHeartbeats 2000000
end Go.Proofs.Ytfcgcgmleogamaa.Ab
namespace Go.Proofs.Ytfcgcgmleogamaa.Ab
open Go
set_option maxRecDepth 10000
set_option maxHeartbeats 2000000
attribute [local simp] mapKV flatInt tileB
end Go.Proofs.Ytfcgcgmleogamaa.Ab
namespace Go.Proofs.Ytfcgcgmleogamaa.Ab
open Go
set_option maxRecDepth 10000
set_option maxHeartbeats 2000000
end Go.Proofs.Ytfcgcgmleogamaa.Ab
namespace Go.Proofs.Ytfcgcgmleogamaa.Ab
open Go
end Go.Proofs.Ytfcgcgmleogamaa.Ab
namespace Go.Proofs.Ytfcgcgmleogamaa.Ab
open Go
set_option maxRecDepth 10000
set_option maxHeartbeats 2000000
end Go.Proofs.Ytfcgcgmleogamaa.Ab
namespace Go.Proofs.Ytfcgcgmleogamaa.Ab
open Go
set_option maxRecDepth 10000
set_option maxHeartbeats 2000000
end Go.Proofs.Ytfcgcgmleogamaa.Ab
namespace Go.Proofs.Ytfcgcgmleogamaa.Ab
open Go
set_option maxRecDepth 10000
set_option maxHeartbeats 2000000
def minF (x:Int) (ts:List Trm) (i:Nat):Int:=ts.foldl (fun m t=>min m (t.e.getD i 0)) x
def lowA (x:Nat->Int) (ts:List Trm) (n:Nat):List Int:=(List.range n).map fun i=>minF (x i) ts i
@[simp] theorem lowA_length (x:Nat->Int) (ts:List Trm) (n:Nat):(lowA x ts n).length=n:=by simp [lowA]
theorem mix_set {α:Type} (xs ys:List α) (i:Nat) (h:i < xs.length) (hl:xs.length=ys.length):(xs.take i ++ ys.drop i).set i xs[i]=xs.take (i+1) ++ ys.drop (i+1):=by
 rw [List.set_append_right _ _ (by simp;omega),List.take_succ_eq_append_getElem h]
 simp only [List.length_take,Nat.min_eq_left (Nat.le_of_lt h),Nat.sub_self]
 rw [List.drop_eq_getElem_cons (by omega),List.set_cons_zero,List.append_assoc]
 rfl
theorem mix_get {α:Type} (xs ys:List α) (i:Nat) (h:i < ys.length) (hl:xs.length=ys.length):(xs.take i ++ ys.drop i)[i]? = some ys[i]:=by
 rw [List.getElem?_append_right (by simp;omega)]
 simp [Nat.min_eq_left (show i<=xs.length by omega),h]
def headE (ts:List Trm) (i:Nat):Int:=match ts with | []=>0 | t :: _=>t.e.getD i 0
def lowL (ts:List Trm) (n:Nat):List Int:=lowA (headE ts) ts n
def denL (f:Lau):List Int:=(lowL f.ts f.v.toNat).map fun x=>-x
@[simp] theorem denL_length (f:Lau):(denL f).length=f.v.toNat:=by simp [denL,lowL]
end Go.Proofs.Ytfcgcgmleogamaa.Ab
namespace Go.Proofs.Ytfcgcgmleogamaa.Ab
open Go
section
variable {τ:Type} {f:τ->List D} {k:Nat} {w:World} {ok:Nat->Prop}
end
section
variable {α:Type} [Inhabited α] {enc:α->List Value} {k:Nat} {w:World} {b o:Nat}
end
theorem ACalls.mono {P:Program} {f:Nat} {args:List FV} {ros:List (Rn×D)} {pure:Bool} {Q Q':List D->List RV->Prop} (h:ACalls P f args ros pure Q) (hq:∀ outs res,Q outs res->Q' outs res):ACalls P f args ros pure Q':=
 ⟨h.1,fun w fp0 ok vs ρ φ hl hR=>(h.2 w fp0 ok vs ρ φ hl hR).mono fun e w' ⟨v,outs,res,ok',φ',fr,he,hQ,hD⟩=>⟨v,outs,res,ok',φ',fr,he,hq _ _ hQ,hD⟩⟩
end Go.Proofs.Ytfcgcgmleogamaa.Ab
namespace Go.Proofs.Ytfcgcgmleogamaa.Ab
open Go
set_option maxRecDepth 10000
set_option maxHeartbeats 2000000
theorem natbeq (a b:Nat):((a:Int) == (b:Int))=decide (a=b):=by rw [Bool.eq_iff_iff];simp <;> omega
theorem notAny (l:List Int):(!(l.any fun x=>!decide (-99<=x) || !decide (x<=99)))=decide (∀ x∈l,-99<=x/\x<=99):=by
 rw [Bool.eq_iff_iff];simp [List.any_eq_true]
theorem factors_some {m:Mat} (hS:ShM m) {l:List Int} (h:MinSol m.n.toNat (bM m) l):ACalls Try.prog F.impl_factors [aM m] [] true (fun outs res=>outs=[]/\res=[.one (owI l)]):=
 (factors_c m hS).mono fun outs res ⟨h1,h2⟩=>by
  refine ⟨h1,?_⟩
  rcases h2 with ⟨k,hk,h2⟩ | ⟨hno,_⟩
  ·rw [h2,hk.uniq h]
  ·exact absurd h.2.1 (hno _)
theorem factors_none {m:Mat} (hS:ShM m) (h:∀ l,¬ MinSol m.n.toNat (bM m) l):ACalls Try.prog F.impl_factors [aM m] [] true (fun outs res=>outs=[]/\(∀ d,¬ Sol m.n.toNat (bM m) d)/\res=[.one (.v (.slice none 0 0))]):=
 (factors_c m hS).mono fun outs res ⟨h1,h2⟩=>by
  rcases h2 with ⟨k,hk,h2⟩ | ⟨hno,h2⟩
  ·exact absurd hk (h k)
  ·exact ⟨h1,hno,h2⟩
theorem impl_shapedG_c (m:Mat) (hx:m.d.length < 17592186044416):ACalls Try.prog F.impl_shaped [aM m] [] true (fun outs res=>outs=[]/\res=[.one (D.bool (decide (ShM m)))]):=by
 refine ACalls.of_body (C:=C.impl_shaped) (n:=Try.f58.ntmps) tabT folT Try.func58 rfl (by kernel_rfl) rfl (Nat.le_of_ble_eq_true rfl) (by decide) (by kernel_rfl) (by kernel_rfl) rfl (by simp) (by simp) ?_
 simp only [Try.f58]
 refine wseq ?_
 refine wreg fun K hK=>?_
 simp [C.impl_shaped]
 refine hK _ ?_;clear hK K
 show AWp _ _ _ _ _
 refine wseq ?_
 refine wregI ([0,1,2] ++ ([3,4,5,6,7,8] ++ ([9,10,11,12,13,14,15,16,17,18,19,20,21,22,23,24] ++ ([25,26,27])))) rfl fun K hK=>?_
 have hJ:K ⟨ofL [(2,.bool (decide (ShM m)))],ofRO []⟩:=by
  refine hK _ ?_;clear hK K
  show AWp _ _ _ _ _
  refine wret ?_
  simp [C.impl_shaped]
 clear hK
 by_cases h1:1<=m.n/\m.n<=5
 ·by_cases h2:m.n<=m.r/\m.r<=8
  ·by_cases h3:(m.d.length:Int)=m.n*m.r
   ·have hnr:IntKind.i64.wrap (m.n*m.r)=m.n*m.r:=by
     have h4:m.n*m.r<=5*8:=Int.mul_le_mul (by omega) (by omega) (by omega) (by omega)
     have h5:0<=m.n*m.r:=Int.mul_nonneg (by omega) (by omega)
     exact wrapOk (by omega) (by omega)
    refine oSg fun L hL=>?_
    simp [C.impl_shaped,hnr,h1,h2,h3]
    refine wcall1 (impl_within_c m.n 1 5) (by simp) (by simp) ?_
    simp [C.impl_shaped,hnr,h1,h2,h3]
    refine hL _ ?_;clear hL L
    refine oSg fun L hL=>?_
    simp [C.impl_shaped,hnr,h1,h2,h3]
    refine wcall1 (impl_within_c m.r m.n 8) (by simp) (by simp) ?_
    simp [C.impl_shaped,hnr,h1,h2,h3]
    refine hL _ ?_;clear hL L
    refine oSg fun L hL=>?_
    simp [C.impl_shaped,hnr,h1,h2,h3]
    refine wcall1 (slices_ContainsFunc_int_int_c m.d _ (fun x=>!decide (-99<=x/\x<=99)) (by omega) rfl (fun x _=>impl_shaped_1_c x)) (by simp) (by simp) ?_
    simp [C.impl_shaped,hnr,h1,h2,h3]
    refine hL _ ?_;clear hL L
    refine oEn fun L hL=>?_
    simp [C.impl_shaped,hnr,h1,h2,h3]
    refine hL _ ?_;clear hL L
    simp [C.impl_shaped,hnr,h1,h2,h3]
    refine cast (congrArg K ?_) hJ
    simp [ShM,notAny,h1,h2,h3]
   ·have hnr:IntKind.i64.wrap (m.n*m.r)=m.n*m.r:=by
     have h4:m.n*m.r<=5*8:=Int.mul_le_mul (by omega) (by omega) (by omega) (by omega)
     have h5:0<=m.n*m.r:=Int.mul_nonneg (by omega) (by omega)
     exact wrapOk (by omega) (by omega)
    refine oSg fun L hL=>?_
    simp [C.impl_shaped,hnr,h1,h2,h3]
    refine wcall1 (impl_within_c m.n 1 5) (by simp) (by simp) ?_
    simp [C.impl_shaped,hnr,h1,h2,h3]
    refine hL _ ?_;clear hL L
    refine oSg fun L hL=>?_
    simp [C.impl_shaped,hnr,h1,h2,h3]
    refine wcall1 (impl_within_c m.r m.n 8) (by simp) (by simp) ?_
    simp [C.impl_shaped,hnr,h1,h2,h3]
    refine hL _ ?_;clear hL L
    refine oSg fun L hL=>?_
    simp [C.impl_shaped,hnr,h1,h2,h3]
    refine hL _ ?_;clear hL L
    refine oEn fun L hL=>?_
    simp [C.impl_shaped,hnr,h1,h2,h3]
    refine hL _ ?_;clear hL L
    simp [C.impl_shaped,hnr,h1,h2,h3]
    refine cast (congrArg K ?_) hJ
    simp [ShM,h1,h2,h3]
  ·refine oSg fun L hL=>?_
   simp [C.impl_shaped,h1,h2]
   refine wcall1 (impl_within_c m.n 1 5) (by simp) (by simp) ?_
   simp [C.impl_shaped,h1,h2]
   refine hL _ ?_;clear hL L
   refine oSg fun L hL=>?_
   simp [C.impl_shaped,h1,h2]
   refine wcall1 (impl_within_c m.r m.n 8) (by simp) (by simp) ?_
   simp [C.impl_shaped,h1,h2]
   refine hL _ ?_;clear hL L
   refine oSg fun L hL=>?_
   simp [C.impl_shaped,h1,h2]
   refine hL _ ?_;clear hL L
   refine oEn fun L hL=>?_
   simp [C.impl_shaped,h1,h2]
   refine hL _ ?_;clear hL L
   simp [C.impl_shaped,h1,h2]
   refine cast (congrArg K ?_) hJ
   simp [ShM,h1,h2]
 ·refine oSg fun L hL=>?_
  simp [C.impl_shaped,h1]
  refine wcall1 (impl_within_c m.n 1 5) (by simp) (by simp) ?_
  simp [C.impl_shaped,h1]
  refine hL _ ?_;clear hL L
  refine oSg fun L hL=>?_
  simp [C.impl_shaped,h1]
  refine hL _ ?_;clear hL L
  refine oSg fun L hL=>?_
  simp [C.impl_shaped,h1]
  refine hL _ ?_;clear hL L
  refine oEn fun L hL=>?_
  simp [C.impl_shaped,h1]
  refine hL _ ?_;clear hL L
  simp [C.impl_shaped,h1]
  refine cast (congrArg K ?_) hJ
  simp [ShM,h1]
theorem impl_MatrixOkG_c (m:Mat) (hx:m.d.length < 17592186044416):ACalls Try.prog F.impl_MatrixOk [aM m] [] true (fun outs res=>outs=[]/\res=[.one (D.bool (decide (MatOK m)))]):=by
 refine ACalls.of_body (C:=C.impl_MatrixOk) (n:=Try.f56.ntmps) tabT folT Try.func56 rfl (by kernel_rfl) rfl (Nat.le_of_ble_eq_true rfl) (by decide) (by kernel_rfl) (by kernel_rfl) rfl (by simp) (by simp) ?_
 simp only [Try.f56]
 refine wseq ?_
 refine wreg fun K hK=>?_
 simp [C.impl_MatrixOk]
 refine hK _ ?_;clear hK K
 show AWp _ _ _ _ _
 refine wseq ?_
 refine wregI ([0,1] ++ ([2,3,4] ++ ([5,6,7]))) rfl fun K hK=>?_
 have hJ:K ⟨ofL [(2,.bool (decide (MatOK m)))],ofRO []⟩:=by
  refine hK _ ?_;clear hK K
  show AWp _ _ _ _ _
  refine wret ?_
  simp [C.impl_MatrixOk]
 clear hK
 by_cases h1:ShM m
 ·by_cases h2:∃ l,MinSol m.n.toNat (bM m) l
  ·obtain ⟨l,hl⟩:=h2
   have h2:∃ d,Sol m.n.toNat (bM m) d:=⟨_,hl.2.1⟩
   have hlne:l≠[]:=fun e=>by
    have h3:=hl.1
    rw [e] at h3
    have:=h1.1
    simp at h3
    omega
   refine oSg fun L hL=>?_
   simp [C.impl_MatrixOk,hlne,h1,h2]
   refine wcall1 (impl_shapedG_c m hx) (by simp) (by simp) ?_
   simp [C.impl_MatrixOk,hlne,h1,h2]
   refine hL _ ?_;clear hL L
   refine oSg fun L hL=>?_
   simp [C.impl_MatrixOk,hlne,h1,h2]
   refine wcall1 (factors_some h1 hl) (by simp) (by simp) ?_
   simp [C.impl_MatrixOk,hlne,h1,h2]
   refine hL _ ?_;clear hL L
   refine oEn fun L hL=>?_
   simp [C.impl_MatrixOk,hlne,h1,h2]
   refine hL _ ?_;clear hL L
   simp [C.impl_MatrixOk,hlne,h1,h2]
   refine cast (congrArg K ?_) hJ
   simp [MatOK,h1,h2]
  ·refine oSg fun L hL=>?_
   simp [C.impl_MatrixOk,h1,h2]
   refine wcall1 (impl_shapedG_c m hx) (by simp) (by simp) ?_
   simp [C.impl_MatrixOk,h1,h2]
   refine hL _ ?_;clear hL L
   refine oSg fun L hL=>?_
   simp [C.impl_MatrixOk,h1,h2]
   refine wcall (factors_none h1 (fun l hl=>h2 ⟨l,hl⟩)) (by simp) (by simp) (by simp) ?_
   rintro outs res ⟨rfl,hno,rfl⟩
   simp [C.impl_MatrixOk,h1,h2]
   refine hL _ ?_;clear hL L
   refine oEn fun L hL=>?_
   simp [C.impl_MatrixOk,h1,h2]
   refine hL _ ?_;clear hL L
   simp [C.impl_MatrixOk,h1,h2]
   refine cast (congrArg K ?_) hJ
   simp [MatOK,hno,h1,h2]
 ·refine oSg fun L hL=>?_
  simp [C.impl_MatrixOk,h1]
  refine wcall1 (impl_shapedG_c m hx) (by simp) (by simp) ?_
  simp [C.impl_MatrixOk,h1]
  refine hL _ ?_;clear hL L
  refine oSg fun L hL=>?_
  simp [C.impl_MatrixOk,h1]
  refine hL _ ?_;clear hL L
  refine oEn fun L hL=>?_
  simp [C.impl_MatrixOk,h1]
  refine hL _ ?_;clear hL L
  simp [C.impl_MatrixOk,h1]
  refine cast (congrArg K ?_) hJ
  simp [MatOK,h1]
theorem impl_mutated_c (m:Mat) (n r k:Nat) (hn:m.n=n) (hr:m.r=r) (hS:ShM m) (hk:k < n):ACalls Try.prog F.impl_mutated [.ag [.int n,.int r,.d (shI m.d)],.int k] [] true (fun outs res=>outs=[]/\res=[.ag (mO (muM m k))]):=by
 have hn5:1<=n/\n<=5:=by have:=hS.1;omega
 have hnr:n<=r/\r<=8:=by have:=hS.2.1;omega
 have hnn:m.n.toNat=n:=by omega
 have hL:m.d.length=r*n:=by
  have h1:=hS.2.2.1
  rw [hn,hr,<-Int.natCast_mul,Nat.mul_comm] at h1
  omega
 have hL40:m.d.length<=40:=by
  rw [hL]
  exact Nat.le_trans (Nat.mul_le_mul hnr.2 hn5.2) (by omega)
 refine ACalls.of_body (C:=C.impl_mutated) (n:=Try.f66.ntmps) tabT folT Try.func66 rfl (by kernel_rfl) rfl (Nat.le_of_ble_eq_true rfl) (by decide) (by kernel_rfl) (by kernel_rfl) rfl (by simp) (by simp) ?_
 simp only [Try.f66]
 refine wseq ?_
 refine wreg fun K hK=>?_
 simp [C.impl_mutated]
 refine hK _ ?_;clear hK K
 show AWp _ _ _ _ _
 refine wseq ?_
 refine wdraw (.take 0 (.take 1 (.take 2 (.take 3 (.take 4 (.take 5 (.all [(6,.take 7 (.all [(8,.all [(9,.done)])])),(8,.all [(6,.take 7 (.all [(9,.done)]))])]))))))) ⟨by kernel_rfl,by kernel_rfl⟩ fun K hK=>?_
 have hJ:K ⟨ofL [(1,.int k),(2,.pt (2,0) [] 0),(4,.pt (4,0) [] 0),(5,.pt (5,0) [] 0)],ofRO [((2,0),some (.bx [D.int n,D.int r,shI m.d])),((4,0),some (.bx [D.int 0,D.int 0,.v (.slice none 0 0)])),((5,0),some (.bx [D.int n,D.int r,owI m.d]))]⟩:=by
  refine hK _ ?_;clear hK K
  show AWp _ _ _ _ _
  refine wseq ?_
  refine wseq ?_
  refine wreg fun K hK=>?_
  simp [C.impl_mutated]
  refine hK _ ?_;clear hK K
  show AWp _ _ _ _ _
  refine wblock ?_
  refine wloop (fun x:Nat=>⟨ofL [(1,.int k),(2,.pt (2,0) [] 0),(4,.pt (4,0) [] 0),(5,.pt (5,0) [] 0),(6,.int x)],ofRO [((2,0),some (.bx [D.int n,D.int r,shI m.d])),((4,0),some (.bx [D.int 0,D.int 0,.v (.slice none 0 0)])),((5,0),some (.bx [D.int n,D.int r,.ow 1 m.d.length (ints ((muD m k).take (x*n) ++ m.d.drop (x*n)))]))]⟩) (fun x=>x<=r) (fun x=>r - x) 0 (by simp [C.impl_mutated]) (by simp) ?_
  intro x1 hx1 R1 hR1
  refine wseq ?_
  refine wseq ?_
  refine wreg fun K hK=>?_
  simp [C.impl_mutated]
  refine hK _ ?_;clear hK K
  show AWp _ _ _ _ _
  refine wcond _ rfl (fun hc1=>?_) (fun hc1=>?_)
  ·have hi:x1 < r:=by have:=d_t hc1;omega
   refine wskip ?_
   show AWp _ _ _ _ _
   refine wseq ?_
   refine wblock ?_
   refine wseq ?_
   refine wreg fun K hK=>?_
   simp [C.impl_mutated]
   refine hK _ ?_;clear hK K
   show AWp _ _ _ _ _
   refine wblock ?_
   refine wloop (fun x:Nat=>⟨ofL [(1,.int k),(2,.pt (2,0) [] 0),(4,.pt (4,0) [] 0),(5,.pt (5,0) [] 0),(6,.int x1),(7,.int x)],ofRO [((2,0),some (.bx [D.int n,D.int r,shI m.d])),((4,0),some (.bx [D.int 0,D.int 0,.v (.slice none 0 0)])),((5,0),some (.bx [D.int n,D.int r,.ow 1 m.d.length (ints ((muD m k).take (x1*n+x) ++ m.d.drop (x1*n+x)))]))]⟩) (fun x=>x<=n) (fun x=>n - x) 0 (by simp [C.impl_mutated]) (by simp) ?_
   intro x2 hx2 R2 hR2
   refine wseq ?_
   refine wseq ?_
   refine wreg fun K hK=>?_
   simp [C.impl_mutated]
   refine hK _ ?_;clear hK K
   show AWp _ _ _ _ _
   refine wcond _ rfl (fun hc2=>?_) (fun hc2=>?_)
   ·have hj:x2 < n:=by have:=d_t hc2;omega
    obtain ⟨q,hq⟩:∃ q,q=x1*n+x2:=⟨_,rfl⟩
    have hqe:(x1:Int)*n+x2=(q:Int):=by rw [hq];simp
    have hqL:q < m.d.length:=by
     rw [hL,hq]
     have h1:(x1+1)*n<=r*n:=Nat.mul_le_mul_right _ (by omega)
     rw [Nat.add_mul] at h1
     omega
    have hq0:IntKind.i64.wrap ((x1:Int)*n)=(x1:Int)*n:=by
     have:(x1:Int)*n=((x1*n:Nat):Int):=by simp
     rw [this]
     exact wrapOk (by omega) (by omega)
    have hq1:IntKind.i64.wrap ((x1:Int)*n+x2)=(q:Int):=by rw [hqe];exact wrapOk (by omega) (by omega)
    have hg:=mix_get (muD m k) m.d q hqL (by simp)
    have hst:=mix_set (muD m k) m.d q (by simpa using hqL) (by simp)
    have hmu:(muD m k)[q]'(by simpa using hqL)=muE (bM m) k x1 x2:=by
     have:=muD_get m k x1 x2 (by omega) (by rw [hnn,<-hq];exact hqL)
     simp only [hnn,<-hq] at this
     exact this
    have hdq:m.d[q]=bM m x1 x2:=by
     obtain ⟨h1,h2⟩:=bM_get hS (i:=x1) (j:=x2) (by omega) (by omega)
     rw [<-h2]
     congr 1
     rw [hnn,hq]
    rw [hmu] at hst
    rw [<-hq]
    have hml:((muD m k).take q ++ m.d.drop q).length=m.d.length:=by simp;omega
    generalize hM:(muD m k).take q ++ m.d.drop q=M at hg hst hml
    have hMq:M[q]'(by omega)=bM m x1 x2:=by
     rw [List.getElem?_eq_getElem (by omega)] at hg
     injection hg with hg
     rw [hg,hdq]
    have b0:=bM_bd hS x1 x2
    have b1:=bM_bd hS x1 k
    have b2:=bM_bd hS k x2
    have hat1:=at_c hn hS (i:=x1) (j:=k) (by omega) hk
    have hat2:=at_c hn hS (i:=k) (j:=x2) (by omega) hj
    rw [hr] at hat1 hat2
    obtain ⟨A,hA⟩:∃ A,A=bM m x1 k:=⟨_,rfl⟩
    obtain ⟨B,hB⟩:∃ B,B=bM m k x2:=⟨_,rfl⟩
    obtain ⟨X,hX⟩:∃ X,X=bM m x1 x2:=⟨_,rfl⟩
    have hmuv:muE (bM m) k x1 x2=if x1=k\/x2=k then -X else if 0 < A/\0 < B then X+A*B else if A < 0/\B < 0 then X - A*B else X:=by rw [hA,hB,hX];rfl
    rw [hmuv] at hst
    rw [<-hA] at hat1 b1
    rw [<-hB] at hat2 b2
    rw [<-hX] at hMq b0
    have hab:(A*B).natAbs<=99*99:=by rw [Int.natAbs_mul];exact Nat.mul_le_mul b1 b2
    clear hmuv hA hB hX hmu hdq hM
    have hwab:IntKind.i64.wrap (A*B)=A*B:=wrapOk (by omega) (by omega)
    refine wskip ?_
    show AWp _ _ _ _ _
    refine wseq ?_
    refine wblock ?_
    refine wseq ?_
    refine wreg fun K hK=>?_
    simp [C.impl_mutated,hq0,hq1,show (q:Int) < m.d.length by omega,hqL]
    refine hK _ ?_;clear hK K
    show AWp _ _ _ _ _
    refine wseq ?_
    refine wdrawI [(true,0),(true,1),(true,2),(true,4),(true,5),(true,6),(false,3),(false,7),(true,8),(true,9)] ⟨by kernel_rfl,by kernel_rfl⟩ ([0,1,2,4,5,6,3] ++ ([7] ++ ([8,9]))) rfl fun K hK=>?_
    refine oSg fun L hL=>?_
    simp [C.impl_mutated]
    refine wcall1 (hat1) (by simp) (by simp) ?_
    simp [C.impl_mutated]
    refine hL _ ?_;clear hL L
    refine oSg fun L hL=>?_
    simp [C.impl_mutated]
    refine wcall1 (hat2) (by simp) (by simp) ?_
    simp [C.impl_mutated]
    refine hL _ ?_;clear hL L
    refine oEn fun L hL=>?_
    simp [C.impl_mutated]
    refine hL _ ?_;clear hL L
    simp [C.impl_mutated]
    refine hK _ ?_;clear hK K
    show AWp _ _ _ _ _
    refine wblock ?_
    refine wseq ?_
    refine wreg fun K hK=>?_
    have hJ:K ⟨ofL [(1,.int k),(2,.pt (2,0) [] 0),(4,.pt (4,0) [] 0),(5,.pt (5,0) [] 0),(6,.int x1),(7,.int x2),(8,.pt (5,0) [2] q),(9,.int A),(10,.int B),(48,.bool (decide (x1=k\/x2=k)))],ofRO [((2,0),some (.bx [D.int n,D.int r,shI m.d])),((4,0),some (.bx [D.int 0,D.int 0,.v (.slice none 0 0)])),((5,0),some (.bx [D.int n,D.int r,.ow 1 m.d.length (ints M)]))]⟩:=by
     refine hK _ ?_;clear hK K
     show AWp _ _ _ _ _
     refine wcond _ rfl (fun hc3=>?_) (fun hc3=>?_)
     ·have h3:=d_t hc3
      rw [if_pos h3] at hst
      refine wreg fun K hK=>?_
      simp [C.impl_mutated,get_ints,hml,hqL,hMq,wrapOk (x:=-X) (by omega) (by omega),hst]
      refine hK _ ?_;clear hK K
      show AWp _ _ _ _ _
      refine wreg fun K hK=>?_
      simp [C.impl_mutated,wrap_succ (show x2 < 4611686018427387904 by omega)]
      refine hK _ ?_;clear hK K
      simp [C.impl_mutated]
      refine cast (congrArg R2 ?_) (hR2 (x2+1) hj (by omega))
      simp [<-Nat.add_assoc,<-hq]
     ·have h3:=d_f hc3
      rw [if_neg h3] at hst
      refine wseq ?_
      refine wreg fun K hK=>?_
      have hJ:K ⟨ofL [(1,.int k),(2,.pt (2,0) [] 0),(4,.pt (4,0) [] 0),(5,.pt (5,0) [] 0),(6,.int x1),(7,.int x2),(8,.pt (5,0) [2] q),(9,.int A),(10,.int B),(63,.bool (decide (0 < A/\0 < B)))],ofRO [((2,0),some (.bx [D.int n,D.int r,shI m.d])),((4,0),some (.bx [D.int 0,D.int 0,.v (.slice none 0 0)])),((5,0),some (.bx [D.int n,D.int r,.ow 1 m.d.length (ints M)]))]⟩:=by
       refine hK _ ?_;clear hK K
       show AWp _ _ _ _ _
       refine wcond _ rfl (fun hc4=>?_) (fun hc4=>?_)
       ·have h4:=d_t hc4
        rw [if_pos h4] at hst
        refine wreg fun K hK=>?_
        simp [C.impl_mutated,get_ints,hml,hqL,hMq,hwab,wrapOk (x:=X+A*B) (by omega) (by omega),hst]
        refine hK _ ?_;clear hK K
        show AWp _ _ _ _ _
        refine wreg fun K hK=>?_
        simp [C.impl_mutated,wrap_succ (show x2 < 4611686018427387904 by omega)]
        refine hK _ ?_;clear hK K
        simp [C.impl_mutated]
        refine cast (congrArg R2 ?_) (hR2 (x2+1) hj (by omega))
        simp [<-Nat.add_assoc,<-hq]
       ·have h4:=d_f hc4
        rw [if_neg h4] at hst
        refine wseq ?_
        refine wreg fun K hK=>?_
        have hJ:K ⟨ofL [(1,.int k),(2,.pt (2,0) [] 0),(4,.pt (4,0) [] 0),(5,.pt (5,0) [] 0),(6,.int x1),(7,.int x2),(8,.pt (5,0) [2] q),(9,.int A),(10,.int B),(78,.bool (decide (A < 0/\B < 0)))],ofRO [((2,0),some (.bx [D.int n,D.int r,shI m.d])),((4,0),some (.bx [D.int 0,D.int 0,.v (.slice none 0 0)])),((5,0),some (.bx [D.int n,D.int r,.ow 1 m.d.length (ints M)]))]⟩:=by
         refine hK _ ?_;clear hK K
         show AWp _ _ _ _ _
         refine wcond _ rfl (fun hc5=>?_) (fun hc5=>?_)
         ·have h5:=d_t hc5
          rw [if_pos h5] at hst
          refine wreg fun K hK=>?_
          simp [C.impl_mutated,get_ints,hml,hqL,hMq,hwab,wrapOk (x:=X - A*B) (by omega) (by omega),hst]
          refine hK _ ?_;clear hK K
          show AWp _ _ _ _ _
          refine wreg fun K hK=>?_
          simp [C.impl_mutated,wrap_succ (show x2 < 4611686018427387904 by omega)]
          refine hK _ ?_;clear hK K
          simp [C.impl_mutated]
          refine cast (congrArg R2 ?_) (hR2 (x2+1) hj (by omega))
          simp [<-Nat.add_assoc,<-hq]
         ·have h5:=d_f hc5
          rw [if_neg h5] at hst
          have hMM:M=(muD m k).take (q+1) ++ m.d.drop (q+1):=by
           rw [<-hst]
           refine (List.ext_getElem? fun z=>?_)
           rw [List.getElem?_set]
           split
           ·rename_i e
            subst e
            rw [if_pos (by omega),List.getElem?_eq_getElem (by omega),hMq]
           ·rfl
          refine wskip ?_
          show AWp _ _ _ _ _
          refine wreg fun K hK=>?_
          simp [C.impl_mutated,wrap_succ (show x2 < 4611686018427387904 by omega)]
          refine hK _ ?_;clear hK K
          simp [C.impl_mutated]
          refine cast (congrArg R2 ?_) (hR2 (x2+1) hj (by omega))
          simp [<-Nat.add_assoc,<-hq,<-hMM]
        clear hK
        by_cases h1:A < 0
        ·simp [C.impl_mutated,h1]
         refine cast (congrArg K ?_) hJ
         simp [h1]
        ·simp [C.impl_mutated,h1]
         refine cast (congrArg K ?_) hJ
         simp [h1]
      clear hK
      by_cases h1:0 < A
      ·simp [C.impl_mutated,h1]
       refine cast (congrArg K ?_) hJ
       simp [h1]
      ·simp [C.impl_mutated,h1]
       refine cast (congrArg K ?_) hJ
       simp [h1]
    clear hK
    by_cases h1:x1=k
    ·simp [C.impl_mutated,natbeq,h1]
     refine cast (congrArg K ?_) hJ
     simp [natbeq,h1]
    ·simp [C.impl_mutated,natbeq,h1]
     refine cast (congrArg K ?_) hJ
     simp [natbeq,h1]
   ·have hj:x2=n:=by have:=d_f hc2;omega
    refine wexit ?_
    show AWp _ _ _ _ _
    refine wreg fun K hK=>?_
    simp [C.impl_mutated,wrap_succ (show x1 < 4611686018427387904 by omega)]
    refine hK _ ?_;clear hK K
    simp [C.impl_mutated]
    refine cast (congrArg R1 ?_) (hR1 (x1+1) hi (by omega))
    simp [Nat.add_mul,hj]
  ·have hi:x1=r:=by have:=d_f hc1;omega
   have htk:List.take (x1*n) (muD m k) ++ List.drop (x1*n) m.d=muD m k:=by
    rw [hi,<-hL,List.take_of_length_le (by simp),List.drop_length,List.append_nil]
   refine wexit ?_
   show AWp _ _ _ _ _
   refine wseq ?_
   refine wreg fun K hK=>?_
   simp [C.impl_mutated]
   refine hK _ ?_;clear hK K
   show AWp _ _ _ _ _
   refine wret ?_
   simp [C.impl_mutated,mO,muM,htk,hn,hr]
 clear hK
 simp [C.impl_mutated]
 repeat' first
  | (refine wcall1 (clone_c m.d (by omega)) ?_ (by simp) ?_;(focus (simp;done));simp [C.impl_mutated])
  | (refine cast (congrArg K ?_) hJ;simp;done)
  | refine And.intro ?_ ?_
theorem impl_MutateMatrix_c (m:Mat) (k:Int) (hx:m.d.length < 17592186044416):ACalls Try.prog F.impl_MutateMatrix [aM m,.int k] [] true (fun outs res=>outs=[]/\WkRs res [.ag (mO (muF m k).1),.one (D.bool (muF m k).2)]):=by
 refine ACalls.of_body (C:=C.impl_MutateMatrix) (n:=Try.f20.ntmps) tabT folT Try.func20 rfl (by kernel_rfl) rfl (Nat.le_of_ble_eq_true rfl) (by decide) (by kernel_rfl) (by kernel_rfl) rfl (by simp) (by simp) ?_
 simp only [Try.f20]
 refine wseq ?_
 refine wreg fun K hK=>?_
 simp [C.impl_MutateMatrix,mO]
 refine hK _ ?_;clear hK K
 show AWp _ _ _ _ _
 refine wseq ?_
 refine wseq ?_
 refine wregI ([0,1] ++ ([2,3,4,5,6,7,8] ++ ([9,10]))) rfl fun K hK=>?_
 have hJ:K ⟨ofL [(1,.int k),(2,.pt (2,0) [] 0),(4,.pt (4,0) [] 0),(17,.bool (!decide (MatOK m/\(0<=k/\k < m.n))))],ofRO [((2,0),some (.bx [D.int m.n,D.int m.r,shI m.d])),((4,0),some (.bx [D.int 0,D.int 0,.v (.slice none 0 0)]))]⟩:=by
  refine hK _ ?_;clear hK K
  show AWp _ _ _ _ _
  refine wcond _ rfl (fun hc1=>?_) (fun hc1=>?_)
  ·have hr:=nd_t hc1
   have hm:muF m k=(⟨0,0,[]⟩,false):=if_neg (fun h=>hr ⟨h.1,h.2.1⟩)
   refine wseq ?_
   refine wreg fun K hK=>?_
   simp [C.impl_MutateMatrix,mO]
   refine hK _ ?_;clear hK K
   show AWp _ _ _ _ _
   refine wret ?_
   simp [C.impl_MutateMatrix,mO,hm,ints]
  ·have hr:=nd_f hc1
   obtain ⟨hok,hk⟩:=hr
   have hS:=hok.1
   obtain ⟨n,hn⟩:∃ n:Nat,m.n=n:=⟨m.n.toNat,by have:=hS.1;omega⟩
   obtain ⟨r,hr⟩:∃ r:Nat,m.r=r:=⟨m.r.toNat,by have:=hS.1;have:=hS.2.1;omega⟩
   obtain ⟨k,rfl⟩:∃ j:Nat,k=j:=⟨k.toNat,by omega⟩
   have hcall:=impl_mutated_c m n r k hn hr hS (by omega)
   have hm:muF m k=if MatOK (muM m k) then (muM m k,true) else (⟨0,0,[]⟩,false):=by
    unfold muF
    rw [Int.toNat_natCast]
    by_cases q:MatOK (muM m k)
    ·rw [if_pos ⟨hok,hk,q⟩,if_pos q]
    ·rw [if_neg (fun h=>q h.2.2),if_neg q]
   have hml:(muM m k).d.length < 17592186044416:=by
    show (muD m k).length < _
    simpa using hx
   refine wskip ?_
   show AWp _ _ _ _ _
   refine wseq ?_
   refine wregI ([0,1,2] ++ ([3,4])) rfl fun K hK=>?_
   refine oSg fun L hL=>?_
   simp [C.impl_MutateMatrix,mO,hn,hr]
   refine wcall1 (hcall) (by simp) (by simp) ?_
   simp [C.impl_MutateMatrix,mO,hn,hr]
   refine hL _ ?_;clear hL L
   refine oEn fun L hL=>?_
   simp [C.impl_MutateMatrix,mO,hn,hr]
   refine hL _ ?_;clear hL L
   simp [C.impl_MutateMatrix,mO,hn,hr]
   refine hK _ ?_;clear hK K
   show AWp _ _ _ _ _
   refine wseq ?_
   refine wseq ?_
   refine wregI ([0,1] ++ ([2])) rfl fun K hK=>?_
   refine oSg fun L hL=>?_
   simp [C.impl_MutateMatrix,mO]
   refine wcall1 (impl_MatrixOkG_c (muM m k) hml) (by simp) (by simp) ?_
   simp [C.impl_MutateMatrix,mO]
   refine hL _ ?_;clear hL L
   refine oEn fun L hL=>?_
   simp [C.impl_MutateMatrix,mO]
   refine hL _ ?_;clear hL L
   simp [C.impl_MutateMatrix,mO]
   refine hK _ ?_;clear hK K
   show AWp _ _ _ _ _
   refine wcond _ rfl (fun hc2=>?_) (fun hc2=>?_)
   ·have hno:=nd_t hc2
    refine wseq ?_
    refine wreg fun K hK=>?_
    simp [C.impl_MutateMatrix,mO]
    refine hK _ ?_;clear hK K
    show AWp _ _ _ _ _
    refine wret ?_
    simp [C.impl_MutateMatrix,mO,hm,hno,ints]
   ·have hyes:=nd_f hc2
    refine wskip ?_
    show AWp _ _ _ _ _
    refine wseq ?_
    refine wreg fun K hK=>?_
    simp [C.impl_MutateMatrix,mO]
    refine hK _ ?_;clear hK K
    show AWp _ _ _ _ _
    refine wret ?_
    simp [C.impl_MutateMatrix,mO,hm,hyes]
 clear hK
 by_cases h1:MatOK m
 ·have hwn:IntKind.i64.wrap (m.n - 1)=m.n - 1:=by have:=h1.1.1;exact wrapOk (by omega) (by omega)
  have hle:∀ x:Int,(x<=m.n - 1)=(x < m.n):=fun x=>by rw [eq_iff_iff];omega
  refine oSg fun L hL=>?_
  simp [C.impl_MutateMatrix,mO,hwn,hle,h1]
  refine wcall1 (impl_MatrixOkG_c m hx) (by simp) (by simp) ?_
  simp [C.impl_MutateMatrix,mO,hwn,hle,h1]
  refine hL _ ?_;clear hL L
  refine oSg fun L hL=>?_
  simp [C.impl_MutateMatrix,mO,hwn,hle,h1]
  refine wcall1 (impl_within_c k 0 (m.n - 1)) (by simp) (by simp) ?_
  simp [C.impl_MutateMatrix,mO,hwn,hle,h1]
  refine hL _ ?_;clear hL L
  refine oEn fun L hL=>?_
  simp [C.impl_MutateMatrix,mO,hwn,hle,h1]
  refine hL _ ?_;clear hL L
  simp [C.impl_MutateMatrix,mO,hwn,hle,h1]
  refine cast (congrArg K ?_) hJ
  simp [Bool.not_and,mO,h1]
 ·refine oSg fun L hL=>?_
  simp [C.impl_MutateMatrix,mO,h1]
  refine wcall1 (impl_MatrixOkG_c m hx) (by simp) (by simp) ?_
  simp [C.impl_MutateMatrix,mO,h1]
  refine hL _ ?_;clear hL L
  refine oSg fun L hL=>?_
  simp [C.impl_MutateMatrix,mO,h1]
  refine hL _ ?_;clear hL L
  refine oEn fun L hL=>?_
  simp [C.impl_MutateMatrix,mO,h1]
  refine hL _ ?_;clear hL L
  simp [C.impl_MutateMatrix,mO,h1]
  refine cast (congrArg K ?_) hJ
  simp [Bool.not_and,mO,h1]
theorem iMu_c (m:Mat) (k:Int) (hx:m.d.length < 17592186044416):ACalls Try.prog F.impl_MutateMatrix [aM m,.int k] [] true (fun outs res=>outs=[]/\res=[.ag (mO (muF m k).1),.one (D.bool (muF m k).2)]):=(impl_MutateMatrix_c m k hx).weak1
end Go.Proofs.Ytfcgcgmleogamaa.Ab
namespace Go.Proofs.Ytfcgcgmleogamaa.Ab
open Go
set_option maxRecDepth 10000
set_option maxHeartbeats 2000000
def SgM (m:Mat) (i j:Nat):Prop:=(0 < bM m i j↔bM m j i < 0)/\(bM m i j=0↔bM m j i=0)
def SzM (m:Mat):Prop:=ShM m/\∀ i j,i < m.n.toNat->j < m.n.toNat->SgM m i j
noncomputable instance (m:Mat):Decidable (SzM m):=Classical.propDecidable _
theorem sh_L {m:Mat} (hS:ShM m):m.d.length<=40:=by
 have h1:=hS.2.2.1
 have h2:=hS.1
 have h3:=hS.2.1
 have:m.n*m.r<=5*8:=Int.mul_le_mul (by omega) (by omega) (by omega) (by omega)
 omega
theorem spec_l1At_c (m:Mat) (n r i j:Nat) (hn:m.n=n) (hr:m.r=r) (hS:ShM m) (hi:i < r) (hj:j < n):ACalls Try.prog F.spec_l1At [.ag [.int n,.int r,.d (shI m.d)],.int i,.int j] [] true (fun outs res=>outs=[]/\res=[.one (D.int (bM m i j))]):=by
 obtain ⟨hqL,he⟩:=bM_get hS (i:=i) (j:=j) (by omega) (by omega)
 have hnn:m.n.toNat=n:=by omega
 have hL:=sh_L hS
 rw [hnn] at hqL
 have he2:m.d[i*n+j]=bM m i j:=by rw [<-he];congr 1;rw [hnn]
 refine ACalls.of_body (C:=C.spec_l1At) (n:=Try.f121.ntmps) tabT folT Try.func121 rfl (by kernel_rfl) rfl (Nat.le_of_ble_eq_true rfl) (by decide) (by kernel_rfl) (by kernel_rfl) rfl (by simp) (by simp) ?_
 simp only [Try.f121]
 refine wseq ?_
 refine wreg fun K hK=>?_
 simp [C.spec_l1At]
 refine hK _ ?_;clear hK K
 show AWp _ _ _ _ _
 refine wseq ?_
 have h0:((i:Int)*n)=((i*n:Nat):Int):=by simp
 have h1:IntKind.i64.wrap ((i:Int)*n)=(i:Int)*n:=by
  rw [h0,wrapOk (by omega) (by omega)]
 obtain ⟨q,hq⟩:∃ q,q=i*n+j:=⟨_,rfl⟩
 have h2:IntKind.i64.wrap ((i:Int)*n+j)=(q:Int):=by
  rw [h0,wrapOk (by omega) (by omega)]
  omega
 simp only [<-hq] at he2 hqL
 refine wreg fun K hK=>?_
 simp [C.spec_l1At,h1,h2,hqL,get_ints,he2]
 refine hK _ ?_;clear hK K
 show AWp _ _ _ _ _
 refine wret ?_
 simp [C.spec_l1At]
theorem spec_l1Abs_c (x:Int) (hx:-4611686018427387904 < x/\x < 4611686018427387904):ACalls Try.prog F.spec_l1Abs [.int x] [] true (fun outs res=>outs=[]/\res=[.one (D.int (x.natAbs:Int))]):=by
 refine ACalls.of_body (C:=C.spec_l1Abs) (n:=Try.f170.ntmps) tabT folT Try.func170 rfl (by kernel_rfl) rfl (Nat.le_of_ble_eq_true rfl) (by decide) (by kernel_rfl) (by kernel_rfl) rfl (by simp) (by simp) ?_
 simp only [Try.f170]
 refine wseq ?_
 refine wreg fun K hK=>?_
 simp [C.spec_l1Abs]
 refine hK _ ?_;clear hK K
 show AWp _ _ _ _ _
 refine wseq ?_
 refine wreg fun K hK=>?_
 simp [C.spec_l1Abs,wrapOk (x:=-x) (by omega) (by omega)]
 refine hK _ ?_;clear hK K
 show AWp _ _ _ _ _
 refine wret ?_
 have hm:max x (-x)=(x.natAbs:Int):=by omega
 simp [C.spec_l1Abs,hm]
theorem spec_l1Gcd_c (a b:Int) (ha:0<=a/\a < 4611686018427387904) (hb:0<=b/\b < 4611686018427387904):ACalls Try.prog F.spec_l1Gcd [.int a,.int b] [] true (fun outs res=>outs=[]/\res=[.one (D.int (Int.gcd a b:Int))]):=by
 refine ACalls.of_body (C:=C.spec_l1Gcd) (n:=Try.f171.ntmps) tabT folT Try.func171 rfl (by kernel_rfl) rfl (Nat.le_of_ble_eq_true rfl) (by decide) (by kernel_rfl) (by kernel_rfl) rfl (by simp) (by simp) ?_
 simp only [Try.f171]
 refine wseq ?_
 refine wreg fun K hK=>?_
 simp [C.spec_l1Gcd]
 refine hK _ ?_;clear hK K
 show AWp _ _ _ _ _
 refine wseq ?_
 refine wblock ?_
 refine wloop (fun x:Int×Int=>⟨ofL [(0,.int x.1),(1,.int x.2)],ofRO []⟩) (fun x=>Int.gcd x.1 x.2=Int.gcd a b/\(0<=x.1/\x.1 < 4611686018427387904)/\(0<=x.2/\x.2 < 4611686018427387904)) (fun x=>x.2.natAbs) (a,b) (by simp [C.spec_l1Gcd]) ⟨rfl,ha,hb⟩ ?_
 intro x1 hx1 R1 hR1
 obtain ⟨p,q⟩:=x1
 obtain ⟨hg,hp,hq⟩:=hx1
 dsimp only at hg hp hq ⊢
 refine wseq ?_
 refine wseq ?_
 refine wreg fun K hK=>?_
 simp [C.spec_l1Gcd]
 refine hK _ ?_;clear hK K
 show AWp _ _ _ _ _
 refine wcond _ rfl (fun hc1=>?_) (fun hc1=>?_)
 ·refine wskip ?_
  show AWp _ _ _ _ _
  refine wblock ?_
  have hq0:q≠0:=by simpa using hc1
  refine wdraw (.take 0 (.take 1 (.take 2 (.take 3 (.take 4 (.take 5 (.done))))))) ⟨by kernel_rfl,by kernel_rfl⟩ fun K hK=>?_
  simp [C.spec_l1Gcd,hq0]
  refine hK _ ?_;clear hK K
  simp [C.spec_l1Gcd]
  have hn:(p.tmod q).natAbs < q.natAbs:=by rw [Int.natAbs_tmod];exact Nat.mod_lt _ (by omega)
  refine hR1 (q,p.tmod q) ⟨?_,hq,by dsimp only;have:=Int.tmod_nonneg q hp.1;omega⟩ hn
  rw [<-hg]
  unfold Int.gcd
  rw [Int.natAbs_tmod,Nat.gcd_comm p.natAbs,Nat.gcd_rec q.natAbs p.natAbs,Nat.gcd_comm]
 ·refine wexit ?_
  show AWp _ _ _ _ _
  refine wseq ?_
  have hq0:q=0:=by simpa using hc1
  subst hq0
  refine wreg fun K hK=>?_
  simp [C.spec_l1Gcd]
  refine hK _ ?_;clear hK K
  show AWp _ _ _ _ _
  refine wret ?_
  have hpg:p=(Int.gcd a b:Int):=by rw [<-hg];simp [Int.gcd];omega
  simp [C.spec_l1Gcd,hpg]
theorem spec_l1Has_c (P:List Nat) (j:Nat) (hP:P.length < 4611686018427387904):ACalls Try.prog F.spec_l1Has [.d (.sh 1 P.length (ints (cN P))),.int j] [] true (fun outs res=>outs=[]/\res=[.one (D.bool (decide (j∈P)))]):=by
 refine ACalls.of_body (C:=C.spec_l1Has) (n:=Try.f190.ntmps) tabT folT Try.func190 rfl (by kernel_rfl) rfl (Nat.le_of_ble_eq_true rfl) (by decide) (by kernel_rfl) (by kernel_rfl) rfl (by simp) (by simp) ?_
 simp only [Try.f190]
 refine wseq ?_
 refine wreg fun K hK=>?_
 simp [C.spec_l1Has]
 refine hK _ ?_;clear hK K
 show AWp _ _ _ _ _
 refine wseq ?_
 refine wseq ?_
 refine wreg fun K hK=>?_
 simp [C.spec_l1Has]
 refine hK _ ?_;clear hK K
 show AWp _ _ _ _ _
 refine wblock ?_
 refine wloop (fun x:Nat=>⟨ofL [(0,.d (.sh 1 P.length (ints (cN P)))),(1,.int j),(5,.int x)],ofRO []⟩) (fun x=>x<=P.length/\j ∉ P.take x) (fun x=>P.length - x) 0 (by simp [C.spec_l1Has]) (by simp) ?_
 intro x1 hx1 R1 hR1
 obtain ⟨ht,hno⟩:=hx1
 refine wseq ?_
 refine wseq ?_
 refine wreg fun K hK=>?_
 simp [C.spec_l1Has]
 refine hK _ ?_;clear hK K
 show AWp _ _ _ _ _
 refine wcond _ rfl (fun hc1=>?_) (fun hc1=>?_)
 ·have h1:x1 < P.length:=by have:=d_t hc1;omega
  refine wskip ?_
  show AWp _ _ _ _ _
  refine wseq ?_
  refine wblock ?_
  refine wseq ?_
  refine wreg fun K hK=>?_
  simp [C.spec_l1Has,h1,get_ints,cN_get h1,natbeq]
  refine hK _ ?_;clear hK K
  show AWp _ _ _ _ _
  refine wcond _ rfl (fun hc2=>?_) (fun hc2=>?_)
  ·have e:P[x1]=j:=by simpa using hc2
   refine wseq ?_
   refine wreg fun K hK=>?_
   simp [C.spec_l1Has]
   refine hK _ ?_;clear hK K
   show AWp _ _ _ _ _
   refine wret ?_
   simp [C.spec_l1Has]
   rw [<-e];exact List.getElem_mem h1
  ·have e:¬ P[x1]=j:=by simpa using hc2
   refine wskip ?_
   show AWp _ _ _ _ _
   refine wreg fun K hK=>?_
   simp [C.spec_l1Has,wrap_succ (show x1 < 4611686018427387904 by omega)]
   refine hK _ ?_;clear hK K
   simp [C.spec_l1Has]
   refine hR1 (x1+1) ⟨h1,fun h=>?_⟩ (by omega)
   rcases (take_mem_snoc h1 j).1 h with h | h
   ·exact hno h
   ·exact e h.symm
 ·have h1:x1=P.length:=by have:=d_f hc1;omega
  rw [h1,List.take_length] at hno
  refine wexit ?_
  show AWp _ _ _ _ _
  refine wseq ?_
  refine wreg fun K hK=>?_
  simp [C.spec_l1Has]
  refine hK _ ?_;clear hK K
  show AWp _ _ _ _ _
  refine wret ?_
  simp [C.spec_l1Has,hno]
theorem spec_l1Sizes_c (m:Mat) (hx:m.d.length < 17592186044416):ACalls Try.prog F.spec_l1Sizes [aM m] [] true (fun outs res=>outs=[]/\res=[.one (D.bool (decide (SzM m)))]):=by
 refine ACalls.of_body (C:=C.spec_l1Sizes) (n:=Try.f119.ntmps) tabT folT Try.func119 rfl (by kernel_rfl) rfl (Nat.le_of_ble_eq_true rfl) (by decide) (by kernel_rfl) (by kernel_rfl) rfl (by simp) (by simp) ?_
 simp only [Try.f119]
 refine wseq ?_
 refine wreg fun K hK=>?_
 simp [C.spec_l1Sizes]
 refine hK _ ?_;clear hK K
 show AWp _ _ _ _ _
 refine wseq ?_
 refine wseq ?_
 refine wregI ([0,1,2] ++ ([3,4,5,6,7,8,9] ++ ([10,11,12,13,14,15,16,17,18,19,20,21,22]))) rfl fun K hK=>?_
 have hJ:K ⟨ofL [(1,.pt (1,0) [] 0),(30,.bool (!decide ((1<=m.n/\m.n<=5)/\(m.n<=m.r/\m.r<=8)/\(m.d.length:Int)=m.n*m.r)))],ofRO [((1,0),some (.bx [D.int m.n,D.int m.r,shI m.d]))]⟩:=by
  refine hK _ ?_;clear hK K
  show AWp _ _ _ _ _
  refine wcond _ rfl (fun hc1=>?_) (fun hc1=>?_)
  ·have hr:=nd_t hc1
   have hno:¬ SzM m:=fun h=>hr ⟨h.1.1,h.1.2.1,h.1.2.2.1⟩
   refine wseq ?_
   refine wreg fun K hK=>?_
   simp [C.spec_l1Sizes]
   refine hK _ ?_;clear hK K
   show AWp _ _ _ _ _
   refine wret ?_
   simp [C.spec_l1Sizes,hno]
  ·have hr:=nd_f hc1
   obtain ⟨h1,h2,h3⟩:=hr
   obtain ⟨n,hn⟩:∃ n:Nat,m.n=n:=⟨m.n.toNat,by omega⟩
   obtain ⟨r,hr⟩:∃ r:Nat,m.r=r:=⟨m.r.toNat,by omega⟩
   have hnn:m.n.toNat=n:=by omega
   refine wskip ?_
   show AWp _ _ _ _ _
   refine wseq ?_
   refine wseq ?_
   refine wreg fun K hK=>?_
   simp [C.spec_l1Sizes]
   refine hK _ ?_;clear hK K
   show AWp _ _ _ _ _
   refine wblock ?_
   refine wloop (fun x:Nat=>⟨ofL [(1,.pt (1,0) [] 0),(3,.int x)],ofRO [((1,0),some (.bx [D.int n,D.int r,shI m.d]))]⟩) (fun x=>x<=m.d.length/\∀ y∈m.d.take x,-99<=y/\y<=99) (fun x=>m.d.length - x) 0 (by simp [C.spec_l1Sizes,hn,hr]) (by simp) ?_
   intro x1 hx1 R1 hR1
   obtain ⟨ht,hall⟩:=hx1
   refine wseq ?_
   refine wseq ?_
   refine wreg fun K hK=>?_
   simp [C.spec_l1Sizes]
   refine hK _ ?_;clear hK K
   show AWp _ _ _ _ _
   refine wcond _ rfl (fun hc2=>?_) (fun hc2=>?_)
   ·have hi:x1 < m.d.length:=by have:=d_t hc2;omega
    refine wskip ?_
    show AWp _ _ _ _ _
    refine wseq ?_
    refine wblock ?_
    refine wseq ?_
    refine wregI ([0,1,2,3,4,5] ++ ([6])) rfl fun K hK=>?_
    refine oSg fun L hL=>?_
    simp [C.spec_l1Sizes,hi,get_ints]
    refine wcall1 (spec_l1In_c m.d[x1] (-99) 99) (by simp) (by simp) ?_
    simp [C.spec_l1Sizes,hi,get_ints]
    refine hL _ ?_;clear hL L
    refine oEn fun L hL=>?_
    simp [C.spec_l1Sizes,hi,get_ints]
    refine hL _ ?_;clear hL L
    simp [C.spec_l1Sizes,hi,get_ints]
    refine hK _ ?_;clear hK K
    show AWp _ _ _ _ _
    refine wcond _ rfl (fun hc3=>?_) (fun hc3=>?_)
    ·have hbad:¬ (-99<=m.d[x1]/\m.d[x1]<=99):=by simp at hc3;omega
     have hno:¬ SzM m:=fun h=>hbad (h.1.2.2.2 _ (List.getElem_mem hi))
     refine wseq ?_
     refine wreg fun K hK=>?_
     simp [C.spec_l1Sizes]
     refine hK _ ?_;clear hK K
     show AWp _ _ _ _ _
     refine wret ?_
     simp [C.spec_l1Sizes,hno]
    ·have hgood:-99<=m.d[x1]/\m.d[x1]<=99:=by simp at hc3;omega
     refine wskip ?_
     show AWp _ _ _ _ _
     refine wreg fun K hK=>?_
     simp [C.spec_l1Sizes,wrap_succ (show x1 < 4611686018427387904 by omega)]
     refine hK _ ?_;clear hK K
     simp [C.spec_l1Sizes]
     refine hR1 (x1+1) ⟨hi,fun y hy=>?_⟩ (by omega)
     rw [List.take_succ_eq_append_getElem hi] at hy
     rcases List.mem_append.1 hy with hy | hy
     ·exact hall y hy
     ·rw [List.mem_singleton] at hy
      rw [hy]
      exact hgood
   ·have hi:x1=m.d.length:=by have:=d_f hc2;omega
    rw [hi,List.take_length] at hall
    have hS:ShM m:=⟨h1,h2,h3,hall⟩
    clear ht hi hc2
    refine wexit ?_
    show AWp _ _ _ _ _
    refine wseq ?_
    refine wseq ?_
    refine wreg fun K hK=>?_
    simp [C.spec_l1Sizes]
    refine hK _ ?_;clear hK K
    show AWp _ _ _ _ _
    refine wblock ?_
    refine wloop (fun x:Nat=>⟨ofL [(1,.pt (1,0) [] 0),(4,.int x)],ofRO [((1,0),some (.bx [D.int n,D.int r,shI m.d]))]⟩) (fun x=>x<=n/\∀ i j,i < x->j < n->SgM m i j) (fun x=>n - x) 0 (by simp [C.spec_l1Sizes]) (by simp) ?_
    intro x2 hx2 R2 hR2
    obtain ⟨hi0,hA⟩:=hx2
    refine wseq ?_
    refine wseq ?_
    refine wreg fun K hK=>?_
    simp [C.spec_l1Sizes]
    refine hK _ ?_;clear hK K
    show AWp _ _ _ _ _
    refine wcond _ rfl (fun hc4=>?_) (fun hc4=>?_)
    ·have hi:x2 < n:=by have:=d_t hc4;omega
     refine wskip ?_
     show AWp _ _ _ _ _
     refine wseq ?_
     refine wblock ?_
     refine wseq ?_
     refine wreg fun K hK=>?_
     simp [C.spec_l1Sizes]
     refine hK _ ?_;clear hK K
     show AWp _ _ _ _ _
     refine wblock ?_
     refine wloop (fun x:Nat=>⟨ofL [(1,.pt (1,0) [] 0),(4,.int x2),(5,.int x)],ofRO [((1,0),some (.bx [D.int n,D.int r,shI m.d]))]⟩) (fun x=>x<=n/\∀ j,j < x->SgM m x2 j) (fun x=>n - x) 0 (by simp [C.spec_l1Sizes]) (by simp) ?_
     intro x3 hx3 R3 hR3
     obtain ⟨hj0,hB⟩:=hx3
     refine wseq ?_
     refine wseq ?_
     refine wreg fun K hK=>?_
     simp [C.spec_l1Sizes]
     refine hK _ ?_;clear hK K
     show AWp _ _ _ _ _
     refine wcond _ rfl (fun hc5=>?_) (fun hc5=>?_)
     ·have hj:x3 < n:=by have:=d_t hc5;omega
      obtain ⟨a,ha⟩:∃ a,a=bM m x2 x3:=⟨_,rfl⟩
      obtain ⟨b,hb⟩:∃ b,b=bM m x3 x2:=⟨_,rfl⟩
      have hat1:=spec_l1At_c m n r x2 x3 hn hr hS (by omega) hj
      have hat2:=spec_l1At_c m n r x3 x2 hn hr hS (by omega) hi
      rw [<-ha] at hat1
      rw [<-hb] at hat2
      have hsg:SgM m x2 x3=((0 < a↔b < 0)/\(a=0↔b=0)):=by rw [ha,hb];rfl
      refine wskip ?_
      show AWp _ _ _ _ _
      refine wseq ?_
      refine wblock ?_
      refine wseq ?_
      refine wregI ([0,1,2,3] ++ ([4])) rfl fun K hK=>?_
      refine oSg fun L hL=>?_
      simp [C.spec_l1Sizes]
      refine wcall1 (hat1) (by simp) (by simp) ?_
      simp [C.spec_l1Sizes]
      refine hL _ ?_;clear hL L
      refine oEn fun L hL=>?_
      simp [C.spec_l1Sizes]
      refine hL _ ?_;clear hL L
      simp [C.spec_l1Sizes]
      refine hK _ ?_;clear hK K
      show AWp _ _ _ _ _
      refine wseq ?_
      refine wregI ([0,1,2,3] ++ ([4])) rfl fun K hK=>?_
      refine oSg fun L hL=>?_
      simp [C.spec_l1Sizes]
      refine wcall1 (hat2) (by simp) (by simp) ?_
      simp [C.spec_l1Sizes]
      refine hL _ ?_;clear hL L
      refine oEn fun L hL=>?_
      simp [C.spec_l1Sizes]
      refine hL _ ?_;clear hL L
      simp [C.spec_l1Sizes]
      refine hK _ ?_;clear hK K
      show AWp _ _ _ _ _
      refine wseq ?_
      refine wreg fun K hK=>?_
      have hJ:K ⟨ofL [(1,.pt (1,0) [] 0),(4,.int x2),(5,.int x3),(76,.bool (!decide ((0 < a↔b < 0)/\(a=0↔b=0))))],ofRO [((1,0),some (.bx [D.int n,D.int r,shI m.d]))]⟩:=by
       refine hK _ ?_;clear hK K
       show AWp _ _ _ _ _
       refine wcond _ rfl (fun hc6=>?_) (fun hc6=>?_)
       ·have hbad:=nd_t hc6
        have hno:¬ SzM m:=fun h=>hbad (hsg ▸ h.2 x2 x3 (by omega) (by omega))
        refine wseq ?_
        refine wreg fun K hK=>?_
        simp [C.spec_l1Sizes]
        refine hK _ ?_;clear hK K
        show AWp _ _ _ _ _
        refine wret ?_
        simp [C.spec_l1Sizes,hno]
       ·have hgood:=nd_f hc6
        refine wskip ?_
        show AWp _ _ _ _ _
        refine wreg fun K hK=>?_
        simp [C.spec_l1Sizes,wrap_succ (show x3 < 4611686018427387904 by omega)]
        refine hK _ ?_;clear hK K
        simp [C.spec_l1Sizes]
        refine hR3 (x3+1) ⟨hj,fun j hjx=>?_⟩ (by omega)
        by_cases e:j=x3
        ·rw [e,hsg];exact hgood
        ·exact hB j (by omega)
      clear hK
      by_cases h1:0 < a <;> by_cases h2:b < 0 <;> by_cases h3:a=0 <;> by_cases h4:b=0 <;> first
       | (exfalso;omega)
       | (simp [C.spec_l1Sizes,ibeq,h1,h2,h3,h4];refine cast (congrArg K ?_) hJ;simp [ibeq,h1,h2,h3,h4];done)
     ·have hj:x3=n:=by have:=d_f hc5;omega
      refine wexit ?_
      show AWp _ _ _ _ _
      refine wreg fun K hK=>?_
      simp [C.spec_l1Sizes,wrap_succ (show x2 < 4611686018427387904 by omega)]
      refine hK _ ?_;clear hK K
      simp [C.spec_l1Sizes]
      refine hR2 (x2+1) ⟨hi,fun i j hix hjn=>?_⟩ (by omega)
      by_cases e:i=x2
      ·rw [e];exact hB j (by omega)
      ·exact hA i j (by omega) hjn
    ·have hi:x2=n:=by have:=d_f hc4;omega
     have hyes:SzM m:=⟨hS,fun i j h1 h2=>hA i j (by omega) (by omega)⟩
     refine wexit ?_
     show AWp _ _ _ _ _
     refine wseq ?_
     refine wreg fun K hK=>?_
     simp [C.spec_l1Sizes]
     refine hK _ ?_;clear hK K
     show AWp _ _ _ _ _
     refine wret ?_
     simp [C.spec_l1Sizes,hyes]
 clear hK
 by_cases h1:1<=m.n/\m.n<=5
 ·by_cases h2:m.n<=m.r/\m.r<=8
  ·have hnr:IntKind.i64.wrap (m.n*m.r)=m.n*m.r:=by
    have h4:m.n*m.r<=5*8:=Int.mul_le_mul (by omega) (by omega) (by omega) (by omega)
    have h5:0<=m.n*m.r:=Int.mul_nonneg (by omega) (by omega)
    exact wrapOk (by omega) (by omega)
   refine oSg fun L hL=>?_
   simp [C.spec_l1Sizes,hnr,h1,h2]
   refine wcall1 (spec_l1In_c m.n 1 5) (by simp) (by simp) ?_
   simp [C.spec_l1Sizes,hnr,h1,h2]
   refine hL _ ?_;clear hL L
   refine oSg fun L hL=>?_
   simp [C.spec_l1Sizes,hnr,h1,h2]
   refine wcall1 (spec_l1In_c m.r m.n 8) (by simp) (by simp) ?_
   simp [C.spec_l1Sizes,hnr,h1,h2]
   refine hL _ ?_;clear hL L
   refine oEn fun L hL=>?_
   simp [C.spec_l1Sizes,hnr,h1,h2]
   refine hL _ ?_;clear hL L
   simp [C.spec_l1Sizes,hnr,h1,h2]
   refine cast (congrArg K ?_) hJ
   simp [ibne,h1,h2]
  ·refine oSg fun L hL=>?_
   simp [C.spec_l1Sizes,h1,h2]
   refine wcall1 (spec_l1In_c m.n 1 5) (by simp) (by simp) ?_
   simp [C.spec_l1Sizes,h1,h2]
   refine hL _ ?_;clear hL L
   refine oSg fun L hL=>?_
   simp [C.spec_l1Sizes,h1,h2]
   refine wcall1 (spec_l1In_c m.r m.n 8) (by simp) (by simp) ?_
   simp [C.spec_l1Sizes,h1,h2]
   refine hL _ ?_;clear hL L
   refine oEn fun L hL=>?_
   simp [C.spec_l1Sizes,h1,h2]
   refine hL _ ?_;clear hL L
   simp [C.spec_l1Sizes,h1,h2]
   refine cast (congrArg K ?_) hJ
   simp [ibne,h1,h2]
 ·refine oSg fun L hL=>?_
  simp [C.spec_l1Sizes,h1]
  refine wcall1 (spec_l1In_c m.n 1 5) (by simp) (by simp) ?_
  simp [C.spec_l1Sizes,h1]
  refine hL _ ?_;clear hL L
  refine oSg fun L hL=>?_
  simp [C.spec_l1Sizes,h1]
  refine hL _ ?_;clear hL L
  refine oEn fun L hL=>?_
  simp [C.spec_l1Sizes,h1]
  refine hL _ ?_;clear hL L
  simp [C.spec_l1Sizes,h1]
  refine cast (congrArg K ?_) hJ
  simp [ibne,h1]
theorem spec_l1Piece_c (m:Mat) (n r s:Nat) (hn:m.n=n) (hr:m.r=r) (hS:ShM m) (hs:s < n):ACalls Try.prog F.spec_l1Piece [.ag [.int n,.int r,.d (shI m.d)],.int s] [] true (fun outs res=>outs=[]/\∃ L F,Piece n (bM m) s L F/\res=[.one (.ow 1 L.length (ints (cN L))),.one (.ow 1 F.length (ints (cN F)))]):=by
 have hnr:n<=r:=by have:=hS.2.1;omega
 have hn5:n<=5:=by have:=hS.1;omega
 refine ACalls.of_body (C:=C.spec_l1Piece) (n:=Try.f169.ntmps) tabT folT Try.func169 rfl (by kernel_rfl) rfl (Nat.le_of_ble_eq_true rfl) (by decide) (by kernel_rfl) (by kernel_rfl) rfl (by simp) (by simp) ?_
 simp only [Try.f169]
 refine wseq ?_
 refine wreg fun K hK=>?_
 simp [C.spec_l1Piece]
 refine hK _ ?_;clear hK K
 show AWp _ _ _ _ _
 refine wseq ?_
 refine wreg fun K hK=>?_
 simp [C.spec_l1Piece]
 refine hK _ ?_;clear hK K
 show AWp _ _ _ _ _
 refine wseq ?_
 refine wreg fun K hK=>?_
 simp [C.spec_l1Piece]
 refine hK _ ?_;clear hK K
 show AWp _ _ _ _ _
 refine wseq ?_
 refine wseq ?_
 refine wreg fun K hK=>?_
 simp [C.spec_l1Piece]
 refine hK _ ?_;clear hK K
 show AWp _ _ _ _ _
 refine wblock ?_
 refine wloop (fun x:Nat×List Nat×List Nat=>⟨ofL [(2,.pt (2,0) [] 0),(6,.al (6,0) [] 0 x.2.1.length),(7,.al (7,0) [] 0 x.2.2.length),(8,.int x.1)],ofRO [((2,0),some (.bx [D.int n,D.int r,shI m.d])),((6,0),some (.ow 1 x.2.1.length (ints (cN x.2.1)))),((7,0),some (.ow 1 x.2.2.length (ints (cN x.2.2))))]⟩) (fun x=>x.1<=x.2.1.length/\PJ n (bM m) s x.2.1 x.2.2 x.1 0) (fun x=>n - x.1) (0,[s],[s]) (by simp [C.spec_l1Piece,cN,ints]) ⟨by simp,PJ.start hs⟩ ?_
 intro x1 hx1 R1 hR1
 obtain ⟨a,L,F⟩:=x1
 obtain ⟨ha0,hJ1⟩:=hx1
 dsimp only at ha0 hJ1 ⊢
 have hLn:=nodup_len hJ1.nd hJ1.lt
 refine wseq ?_
 refine wseq ?_
 refine wreg fun K hK=>?_
 simp [C.spec_l1Piece]
 refine hK _ ?_;clear hK K
 show AWp _ _ _ _ _
 refine wcond _ rfl (fun hc1=>?_) (fun hc1=>?_)
 ·have ha:a < L.length:=by have:=d_t hc1;omega
  obtain ⟨i,hi⟩:∃ i,i=L[a]:=⟨_,rfl⟩
  have hia:L[a]? = some i:=by rw [hi];exact List.getElem?_eq_getElem ha
  have hin:i < n:=by rw [hi];exact hJ1.lt _ (List.getElem_mem ha)
  refine wskip ?_
  show AWp _ _ _ _ _
  refine wseq ?_
  refine wblock ?_
  refine wseq ?_
  refine wreg fun K hK=>?_
  simp [C.spec_l1Piece]
  refine hK _ ?_;clear hK K
  show AWp _ _ _ _ _
  refine wblock ?_
  refine wloop (fun x:Nat×List Nat×List Nat=>⟨ofL [(2,.pt (2,0) [] 0),(6,.al (6,0) [] 0 x.2.1.length),(7,.al (7,0) [] 0 x.2.2.length),(8,.int a),(9,.int x.1)],ofRO [((2,0),some (.bx [D.int n,D.int r,shI m.d])),((6,0),some (.ow 1 x.2.1.length (ints (cN x.2.1)))),((7,0),some (.ow 1 x.2.2.length (ints (cN x.2.2))))]⟩) (fun x=>x.1<=n/\x.2.1[a]? = some i/\PJ n (bM m) s x.2.1 x.2.2 a x.1) (fun x=>n - x.1) (0,L,F) (by simp [C.spec_l1Piece]) ⟨by simp,hia,hJ1⟩ ?_
  intro x2 hx2 R2 hR2
  clear hia hi ha hJ1 ha0 hLn hc1
  obtain ⟨j,L,F⟩:=x2
  obtain ⟨hj0,hia,hJ2⟩:=hx2
  dsimp only at hj0 hia hJ2 ⊢
  have hLn:=nodup_len hJ2.nd hJ2.lt
  have hFl:=hJ2.lf
  obtain ⟨ha,hi⟩:=List.getElem?_eq_some_iff.1 hia
  refine wseq ?_
  refine wseq ?_
  refine wreg fun K hK=>?_
  simp [C.spec_l1Piece]
  refine hK _ ?_;clear hK K
  show AWp _ _ _ _ _
  refine wcond _ rfl (fun hc2=>?_) (fun hc2=>?_)
  ·have hj:j < n:=by have:=d_t hc2;omega
   have hat:=spec_l1At_c m n r i j hn hr hS (by omega) hj
   have hhas:=spec_l1Has_c L j (by omega)
   refine wskip ?_
   show AWp _ _ _ _ _
   refine wseq ?_
   refine wblock ?_
   refine wseq ?_
   refine wdrawI [(true,0),(true,1),(true,2),(true,3),(true,4),(true,5),(false,6),(true,7),(true,8),(true,9),(true,10),(false,11),(true,12),(true,13)] ⟨by kernel_rfl,by kernel_rfl⟩ ([0,1,2,3,4,5,6] ++ ([7,8,9,10,11] ++ ([12,13]))) rfl fun K hK=>?_
   have hJ:K ⟨ofL [(2,.pt (2,0) [] 0),(6,.al (6,0) [] 0 L.length),(7,.al (7,0) [] 0 F.length),(8,.int a),(9,.int j),(39,.bool (decide (¬ bM m i j=0/\j ∉ L)))],ofRO [((2,0),some (.bx [D.int n,D.int r,shI m.d])),((6,0),some (.ow 1 L.length (ints (cN L)))),((7,0),some (.ow 1 F.length (ints (cN F))))]⟩:=by
    refine hK _ ?_;clear hK K
    show AWp _ _ _ _ _
    refine wcond _ rfl (fun hc3=>?_) (fun hc3=>?_)
    ·have h3:=d_t hc3
     have hnew:=hJ2.new ha hj (by rw [hi];exact h3.1) h3.2
     rw [hi] at hnew
     have hg6:(cN (L ++ [j]))[a]'(by simp;omega)=(i:Int):=by rw [cN_get (by simp;omega),List.getElem_append_left ha,hi]
     refine wseq ?_
     refine wreg fun K hK=>?_
     simp [C.spec_l1Piece,cN_snoc,show (L.length+1)*8<=140737488355328 by omega]
     refine hK _ ?_;clear hK K
     show AWp _ _ _ _ _
     refine wreg fun K hK=>?_
     simp [C.spec_l1Piece,cN_snoc,get_ints,hg6,show ((a:Int) < (L.length:Int)+1) by omega,show a < L.length+1 by omega,show (F.length+1)*8<=140737488355328 by omega]
     refine hK _ ?_;clear hK K
     show AWp _ _ _ _ _
     refine wreg fun K hK=>?_
     simp [C.spec_l1Piece,wrap_succ (show j < 4611686018427387904 by omega)]
     refine hK _ ?_;clear hK K
     simp [C.spec_l1Piece]
     refine cast (congrArg R2 ?_) (hR2 (j+1,L ++ [j],F ++ [i]) ⟨hj,by dsimp only;rw [List.getElem?_append_left ha];exact hia,hnew⟩ (by dsimp only;omega))
     simp
    ·have h3:=d_f hc3
     have hskip:=hJ2.skip ha (by rw [hi];by_cases q:bM m i j=0;exact .inl q;by_cases q2:j∈L;exact .inr q2;exact absurd ⟨q,q2⟩ h3)
     refine wskip ?_
     show AWp _ _ _ _ _
     refine wreg fun K hK=>?_
     simp [C.spec_l1Piece,wrap_succ (show j < 4611686018427387904 by omega)]
     refine hK _ ?_;clear hK K
     simp [C.spec_l1Piece]
     exact hR2 (j+1,L,F) ⟨hj,hia,hskip⟩ (by dsimp only;omega)
   clear hK
   by_cases h1:bM m i j=0
   ·refine oSg fun L hL=>?_
    simp [C.spec_l1Piece,ha,get_ints,cN_get ha,hi,h1]
    refine wcall1 (hat) (by simp) (by simp) ?_
    simp [C.spec_l1Piece,ha,get_ints,cN_get ha,hi,h1]
    refine hL _ ?_;clear hL L
    refine oSg fun L hL=>?_
    simp [C.spec_l1Piece,ha,get_ints,cN_get ha,hi,h1]
    refine hL _ ?_;clear hL L
    refine oEn fun L hL=>?_
    simp [C.spec_l1Piece,ha,get_ints,cN_get ha,hi,h1]
    refine hL _ ?_;clear hL L
    simp [C.spec_l1Piece,ha,get_ints,cN_get ha,hi,h1]
    refine cast (congrArg K ?_) hJ
    simp [h1]
   ·refine oSg fun L hL=>?_
    simp [C.spec_l1Piece,ha,get_ints,cN_get ha,hi,h1]
    refine wcall1 (hat) (by simp) (by simp) ?_
    simp [C.spec_l1Piece,ha,get_ints,cN_get ha,hi,h1]
    refine hL _ ?_;clear hL L
    refine oSg fun L hL=>?_
    simp [C.spec_l1Piece,ha,get_ints,cN_get ha,hi,h1]
    refine wcall1 (hhas) (by simp) (by simp) ?_
    simp [C.spec_l1Piece,ha,get_ints,cN_get ha,hi,h1]
    refine hL _ ?_;clear hL L
    refine oEn fun L hL=>?_
    simp [C.spec_l1Piece,ha,get_ints,cN_get ha,hi,h1]
    refine hL _ ?_;clear hL L
    simp [C.spec_l1Piece,ha,get_ints,cN_get ha,hi,h1]
    refine cast (congrArg K ?_) hJ
    simp [h1]
  ·have hj:j=n:=by have:=d_f hc2;omega
   refine wexit ?_
   show AWp _ _ _ _ _
   refine wreg fun K hK=>?_
   simp [C.spec_l1Piece,wrap_succ (show a < 4611686018427387904 by omega)]
   refine hK _ ?_;clear hK K
   simp [C.spec_l1Piece]
   refine hR1 (a+1,L,F) ⟨ha,?_⟩ (by dsimp only;omega)
   rw [hj] at hJ2
   exact hJ2.next
 ·have ha:a=L.length:=by have:=d_f hc1;omega
  rw [ha] at hJ1
  refine wexit ?_
  show AWp _ _ _ _ _
  refine wseq ?_
  refine wreg fun K hK=>?_
  simp [C.spec_l1Piece]
  refine hK _ ?_;clear hK K
  show AWp _ _ _ _ _
  refine wret ?_
  simp [C.spec_l1Piece]
  exact ⟨L,F,hJ1.done,⟨rfl,rfl⟩,rfl,rfl⟩
end Go.Proofs.Ytfcgcgmleogamaa.Ab
