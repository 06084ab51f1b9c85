/- Steps for proofs of single functions. Rows of cells: lists of structs as trees. What the simplifier may unfold where a function is evaluated. A promise made weaker: empty slices among results and arguments. Matrices, sums, seeds and sessions as trees; numbers written into them one behind the other. From a call's promise to a row: what was there is as it was. Arguments that are read as data: numbers, texts, slices and structs as trees over old blocks. Arguments of this program's laws, read as trees. Sums as lists of keys with numbers: the descending list without zeros is told by the sum that belongs to each key. Division of sums by their greatest terms, over any keys: what it finds, what it keeps, and that it does not matter which of two tests it makes. Sums as linear maps: what a function on keys makes of a sum. Exponents as one number: the code is one to one, keeps the order, and goes with sums. Sums that are right; their coded terms; what products and sums come to. Sums and their values at great numbers: equal values make equal sums. Triangulations of polygons with at most eight vertices: what the kernel counts through. Vectors of vertices from triangle to triangle: determinants of two vectors are lengths. Division finds the factor of a product again, over any keys. Printed by wip/tools/gen.py: the numbers of functions and types, and what lives where. Small functions on numbers and lists of numbers: what they answer. Sums: their size, copies, what is equal, marks. The reference's sums: which are right; codes and their decoding. The reference's coded terms: opened, multiplied, shut. Merging runs sorts; terms of one key that lie together are added. The reference's gathering: terms in order, those of one key added. The reference's products of coded terms. The reference's products and powers of sums. The reference's powers of sums. No condition. -/
import Derived.Test.YtfcgcgmleogamaaKAlb
import Derived.WalkKit
import Derived.ProofKit
import Derived.OpenShut
import Derived.Test.YtfcgcgmleogamaaProg
import Derived.Test.YtfcgcgmleogamaaKAla
set_option linter.unusedVariables false
set_option linter.unusedSimpArgs false
set_option linter.unusedSectionVars false
namespace Go.Proofs.Ytfcgcgmleogamaa.Ab
open Go
def ints (xs:List Int):List D:=xs.map D.int
section
variable {C:Ctx} {i:Nat} {Q:AEx->St->Prop} {σ:St}
theorem wseq {a b:Code} (h:AWp C a i (AEx.seq (AWp C b i Q) Q) σ):AWp C (.seq a b) i Q σ:=h
def walkCode:List Nat->Code->Code
 | 0 :: p,.seq a _=>walkCode p a
 | 1 :: p,.seq _ b=>walkCode p b
 | 0 :: p,.cond _ a _=>walkCode p a
 | 1 :: p,.cond _ _ b=>walkCode p b
 | 0 :: p,.block _ c=>walkCode p c
 | 0 :: p,.loop c=>walkCode p c
 | _,c=>c
def codeAt (f:Func) (p:List Nat):Code:=match f.body with | some c=>walkCode p c | none=>.skip
theorem wcode {c c':Code} (h:c=c') (hh:AWp C c' i Q σ):AWp C c i Q σ:=h ▸ hh
theorem wst {c:Code} {σ2:St} (h:σ=σ2) (hh:AWp C c i Q σ2):AWp C c i Q σ:=h ▸ hh
theorem wskip (h:Q .normal σ):AWp C .skip i Q σ:=h
theorem wexit {id:Nat} (h:Q (.exit id) σ):AWp C (.exit id) i Q σ:=h
theorem wret (h:Q .ret σ):AWp C .ret i Q σ:=h
theorem wblock {id:Nat} {c:Code} (h:AWp C c id (AEx.block id Q) σ):AWp C (.block id c) i Q σ:=h
theorem wreg {id:Nat} {ops:Array Oper} (h:∀ K:St->Prop,(∀ σ',Q .normal σ'->K σ')->AOps C ops ops.toList σ (fun σ'=>K (norm C (aget [] C.kp id) σ'))):AWp C (.region id ops false) i Q σ:=h _ (fun _ h=>h)
theorem wdraw {id:Nat} {ops:Array Oper} (p:Plan) (hp:p.ok C ops) (h:∀ K:St->Prop,(∀ σ',Q .normal σ'->K σ')->ARun C ops p σ (fun σ'=>K (norm C (aget [] C.kp id) σ'))):AWp C (.region id ops true) i Q σ:=
 ⟨p,hp,h _ (fun _ h=>h)⟩
theorem wcond {c:Operand} {a b:Code} (t:Bool) (hc:opv σ c = .d (.v (.bool t))) (h1:t=true->AWp C a i Q σ) (h2:t=false->AWp C b i Q σ):AWp C (.cond c a b) i Q σ:=⟨t,hc,h1,h2⟩
theorem wloopWW {c:Code} {α:Type} (S:α->St) (J:α->Prop) (μ:α->Nat) (x0:α) (l0:List Wk) (h0:wkAll l0 (norm C (aget [] C.lp i) σ)=some (S x0)) (hJ:J x0)
  (h:∀ x,J x->∀ K:St->Prop,(∀ y,J y->μ y < μ x->K (S y))->AWp C c i (AEx.seq (fun σ'=>∃ l σ1,wkAll l (norm C (aget [] C.lp i) σ')=some σ1/\K σ1) Q) (S x)):AWp C (.loop c) i Q σ:=by
 have hex:∀ τ:St,(∃ x,J x/\τ=S x)->∃ k,(∃ x,J x/\τ=S x/\μ x=k):=fun τ ⟨x,h1,h2⟩=>⟨_,x,h1,h2,rfl⟩
 classical
 let μ':St->Nat:=fun τ=>if h:∃ k,(∃ x,J x/\τ=S x/\μ x=k) then Classical.choose (least h) else 0
 refine ⟨fun τ=>∃ x,J x/\τ=S x,μ',⟨l0,S x0,h0,x0,hJ,rfl⟩,fun τ hτ=>?_⟩
 have e1:μ' τ=Classical.choose (least (hex τ hτ)):=dif_pos (hex τ hτ)
 obtain ⟨⟨x,h1,h2,h3⟩,_⟩:=Classical.choose_spec (least (hex τ hτ))
 have:=h x h1 (fun ξ=>(∃ x,J x/\ξ=S x)/\μ' ξ < μ' τ) fun y hy hlt=>by
  have hy':∃ x,J x/\S y=S x:=⟨y,hy,rfl⟩
  refine ⟨hy',?_⟩
  have e2:μ' (S y)=Classical.choose (least (hex (S y) hy')):=dif_pos (hex (S y) hy')
  rw [e1,e2]
  have:=(Classical.choose_spec (least (hex (S y) hy'))).2 (μ y) ⟨y,hy,rfl,rfl⟩
  omega
 rw [h2]
 rw [h2] at this
 exact this
theorem wloopB {c:Code} {α:Type} (S:α->St) (J:α->Prop) (μ:α->Nat) (x0:α) (l0:List Wk) (h0:wkAll l0 (norm C (aget [] C.lp i) σ)=some (S x0)) (hJ:J x0)
  (h:∀ x,J x->∀ K:St->Prop,(∀ l τ y,wkAll l τ=some (S y)->J y->μ y < μ x->K τ)->AWp C c i (AEx.seq (fun σ'=>K (norm C (aget [] C.lp i) σ')) Q) (S x)):AWp C (.loop c) i Q σ:=
 wloopWW S J μ x0 l0 h0 hJ fun x hx K hK=>h x hx (fun τ=>∃ l σ1,wkAll l τ=some σ1/\K σ1) fun l τ y hl hy hlt=>⟨l,_,hl,hK y hy hlt⟩
theorem wloopW {c:Code} {α:Type} (S:α->St) (J:α->Prop) (μ:α->Nat) (x0:α) (l0:List Wk) (h0:wkAll l0 (norm C (aget [] C.lp i) σ)=some (S x0)) (hJ:J x0)
  (h:∀ x,J x->∀ K:St->Prop,(∀ y,J y->μ y < μ x->K (S y))->AWp C c i (AEx.seq (fun σ'=>K (norm C (aget [] C.lp i) σ')) Q) (S x)):AWp C (.loop c) i Q σ:=
 wloopB S J μ x0 l0 h0 hJ fun x hx K hK=>h x hx K fun y hy hlt=>hK [] _ y rfl hy hlt
theorem wloop {c:Code} {α:Type} (S:α->St) (J:α->Prop) (μ:α->Nat) (x0:α) (h0:norm C (aget [] C.lp i) σ=S x0) (hJ:J x0)
  (h:∀ x,J x->∀ K:St->Prop,(∀ y,J y->μ y < μ x->K (S y))->AWp C c i (AEx.seq (fun σ'=>K (norm C (aget [] C.lp i) σ')) Q) (S x)):AWp C (.loop c) i Q σ:=
 wloopW S J μ x0 [] (by rw [h0];rfl) hJ h
end
theorem ofL_nil (t:Nat):ofL [] t = .dead:=rfl
theorem ofL_cons (i:Nat) (f:FV) (r:List (Nat×FV)) (t:Nat):ofL ((i,f) :: r) t=if i=t then f else ofL r t:=rfl
theorem ofR_nil (t:Rn):ofR [] t=none:=rfl
theorem ofR_cons (i:Rn) (f:D) (r:List (Rn×D)) (t:Rn):ofR ((i,f) :: r) t=if i=t then some f else ofR r t:=rfl
theorem ofRO_nil (t:Rn):ofRO [] t=none:=rfl
theorem ofRO_cons (i:Rn) (f:Option D) (r:List (Rn×Option D)) (t:Rn):ofRO ((i,f) :: r) t=if i=t then f else ofRO r t:=rfl
theorem upd_at {α:Type} (e:Nat->α) (t:Nat) (f:α) (s:Nat):upd e t f s=if s=t then f else e s:=rfl
theorem root_env (σ:St) (r:Rn) (d:D):(σ.root r d).env=σ.env:=rfl
theorem root_rts (σ:St) (r:Rn) (d:D) (q:Rn):(σ.root r d).rts q=if q=r then some d else σ.rts q:=rfl
theorem wrapOk {x:Int} (h0:-9223372036854775808<=x) (h1:x < 9223372036854775808):IntKind.i64.wrap x=x:=by
 rw [IntKind.wrap_i64]
 omega
theorem get_ints (xs:List Int) (i:Nat) (h:i < xs.length):(ints xs)[i]? = some (D.int xs[i]):=by simp [ints,h]
theorem getElem_ints (xs:List Int) (i:Nat) (h:i < (ints xs).length):(ints xs)[i]=D.int (xs[i]'(by simpa [ints] using h)):=by simp [ints]
theorem length_ints (xs:List Int):(ints xs).length=xs.length:=by simp [ints]
theorem ints_append (xs ys:List Int):ints xs ++ ints ys=ints (xs ++ ys):=by simp [ints]
theorem ints_set (xs:List Int) (i:Nat) (x:Int):(ints xs).set i (D.v (.int .i64 x))=ints (xs.set i x):=by
 unfold ints
 rw [List.map_set]
theorem ints_take (xs:List Int) (i:Nat):(ints xs).take i=ints (xs.take i):=by simp [ints,List.map_take]
theorem ints_drop (xs:List Int) (i:Nat):(ints xs).drop i=ints (xs.drop i):=by simp [ints,List.map_drop]
theorem leafL_ints:∀ (xs:List Int),leafL (ints xs)
 | []=>trivial
 | x :: xs=>⟨rfl,leafL_ints xs⟩
theorem noShL_ints:∀ (xs:List Int),noShL (ints xs)
 | []=>trivial
 | x :: xs=>⟨trivial,noShL_ints xs⟩
theorem shareL_ints:∀ (xs:List Int),shareL (ints xs)=ints xs
 | []=>rfl
 | x :: xs=>by
  have:=shareL_ints xs
  simp only [ints,List.map_cons,shareL,share] at this ⊢
  rw [this]
theorem zeros_ints:∀ n:Nat,zerosD [.int .i64 0] n=ints (List.replicate n 0)
 | 0=>rfl
 | n+1=>by
  simp only [zerosD,zeros_ints n,List.replicate_succ]
  rfl
end Go.Proofs.Ytfcgcgmleogamaa.Ab
namespace Go.Proofs.Ytfcgcgmleogamaa.Ab
open Go
def rows {α:Type} (f:α->List D):List α->List D
 | []=>[]
 | x :: xs=>f x ++ rows f xs
section
variable {α:Type} {f:α->List D} {k:Nat}
theorem rows_append (xs ys:List α):rows f (xs ++ ys)=rows f xs ++ rows f ys:=by
 induction xs with
 | nil=>rfl
 | cons x xs ih=>simp [rows,ih]
theorem rows_length (hk:∀ x,(f x).length=k) (xs:List α):(rows f xs).length=k*xs.length:=by
 induction xs with
 | nil=>rfl
 | cons x xs ih=>simp only [rows,List.length_append,hk,ih,List.length_cons,Nat.mul_add,Nat.mul_one];omega
theorem rows_get (hk:∀ x,(f x).length=k):∀ (xs:List α) (i j:Nat) (h:i < xs.length),j < k->(rows f xs)[k*i+j]? = (f xs[i])[j]?
 | [],i,j,h,_=>by simp at h
 | x :: xs,0,j,h,hj=>by
  simp only [rows,Nat.mul_zero,Nat.zero_add,List.getElem_cons_zero]
  rw [List.getElem?_append_left (by rw [hk];exact hj)]
 | x :: xs,i+1,j,h,hj=>by
  simp only [rows,List.getElem_cons_succ]
  rw [List.getElem?_append_right (by rw [hk,Nat.mul_add];omega),hk,show k*(i+1)+j - k=k*i+j by rw [Nat.mul_add];omega]
  exact rows_get hk xs i j (by simpa using h) hj
theorem rows_take (hk:∀ x,(f x).length=k):∀ (xs:List α) (i:Nat),(rows f xs).take (k*i)=rows f (xs.take i)
 | [],i=>by simp [rows]
 | x :: xs,0=>by simp [rows]
 | x :: xs,i+1=>by
  simp only [rows,List.take_succ_cons]
  rw [List.take_append,List.take_of_length_le (by rw [hk,Nat.mul_add];omega),hk,show k*(i+1) - k=k*i by rw [Nat.mul_add];omega,rows_take hk xs i]
theorem rows_set (hk:∀ x,(f x).length=k):∀ (xs:List α) (i j:Nat) (d:D) (y:α) (h:i < xs.length),j < k->f y=(f xs[i]).set j d->(rows f xs).set (k*i+j) d=rows f (xs.set i y)
 | [],i,j,d,y,h,_,_=>by simp at h
 | x :: xs,0,j,d,y,h,hj,e=>by
  simp only [rows,Nat.mul_zero,Nat.zero_add,List.set_cons_zero,List.getElem_cons_zero] at e ⊢
  rw [List.set_append_left _ _ (by rw [hk];exact hj),e]
 | x :: xs,i+1,j,d,y,h,hj,e=>by
  simp only [rows,List.set_cons_succ,List.getElem_cons_succ] at e ⊢
  rw [List.set_append_right _ _ (by rw [hk,Nat.mul_add];omega),hk,show k*(i+1)+j - k=k*i+j by rw [Nat.mul_add];omega,rows_set hk xs i j d y (by simpa using h) hj e]
theorem shareL_append (a b:List D):shareL (a ++ b)=shareL a ++ shareL b:=by
 induction a with
 | nil=>rfl
 | cons x a ih=>simp [shareL,ih]
theorem rows_share (xs:List α):shareL (rows f xs)=rows (fun x=>shareL (f x)) xs:=by
 induction xs with
 | nil=>rfl
 | cons x xs ih=>simp [rows,shareL_append,ih]
theorem noShL_append {a b:List D} (ha:noShL a) (hb:noShL b):noShL (a ++ b):=by
 induction a with
 | nil=>exact hb
 | cons x a ih=>exact ⟨ha.1,ih ha.2⟩
theorem rows_noSh (hf:∀ x,noShL (f x)) (xs:List α):noShL (rows f xs):=by
 induction xs with
 | nil=>trivial
 | cons x xs ih=>exact noShL_append (hf x) ih
end
end Go.Proofs.Ytfcgcgmleogamaa.Ab
namespace Go.Proofs.Ytfcgcgmleogamaa.Ab
open Go
def Back (σ:St) (ios:List Io) (outs:List D) (dst:Option Nat) (res:List RV) (K:St->Prop):Prop:=
 match putOuts σ ios outs with
 | some σ1=>(match dst with
  | some d=>(match unpackR d σ1 0 res with
   | some (fs,σ2,_)=>K { σ2 with env:=upd σ2.env d (resFV fs) }
   | none=>False)
  | none=>K σ1)
 | none=>False
def CallsTo (P:Program) (f:Nat) (args:List FV) (lent:List Rn) (ios:List Io) (dst:Option Nat) (σ:St) (K:St->Prop):Prop:=
 ∃ pure Q,ACalls P f args (ios.map fun io=>(io.name,io.d)) pure Q/\(pure=true\/lent=[])/\∀ outs res,Q outs res->Back σ ios outs dst res K
theorem callTo_eq (C:Ctx) (f:Nat) (fvs:List FV) (dst:Option Nat) (σ:St) (K:St->Prop):callTo C f fvs dst σ K=(match passL σ 0 (aget [] C.M f) fvs with
 | some (args,lent,ios)=>((ios.map (·.r)).Nodup/\(ios.map (·.name)).Nodup)/\(∀ r∈ios.map (·.r),r ∉ lent)/\CallsTo C.P f args lent ios dst σ K
 | none=>False):=rfl
theorem wcall {P:Program} {f:Nat} {args args':List FV} {lent:List Rn} {ios:List Io} {dst:Option Nat} {σ:St} {K:St->Prop} {ros:List (Rn×D)} {pure:Bool} {Q:List D->List RV->Prop}
  (h:ACalls P f args' ros pure Q) (ha:args=args') (hr:(ios.map fun io=>(io.name,io.d))=ros) (hp:pure=true\/lent=[]) (hk:∀ outs res,Q outs res->Back σ ios outs dst res K):CallsTo P f args lent ios dst σ K:=
 ⟨pure,Q,by rw [hr,ha];exact h,hp,hk⟩
theorem wcall1 {P:Program} {f:Nat} {args args':List FV} {lent:List Rn} {ios:List Io} {dst:Option Nat} {σ:St} {K:St->Prop} {ros:List (Rn×D)} {os:List D} {rs:List RV}
  (h:ACalls P f args' ros true (fun outs res=>outs=os/\res=rs)) (ha:args=args') (hr:(ios.map fun io=>(io.name,io.d))=ros) (hk:Back σ ios os dst rs K):CallsTo P f args lent ios dst σ K:=
 wcall h ha hr (.inl rfl) fun outs res ⟨h1,h2⟩=>by rw [h1,h2];exact hk
theorem AOpG_eq (C:Ctx) (ops:Array Oper) (o:Oper) (σ:St) (K:St->Prop):AOpG C ops o σ K↔(match o.guard with
 | none=>AOp C o σ K
 | some (j,want)=>(match (ops[j]?).bind (·.dst) with
  | some t=>(match σ.env t with
   | .d (.v (.bool b))=>if b=want then AOp C o σ K else K (σ.set o.dst (.tu []))
   | .tu []=>K (σ.set o.dst (.tu []))
   | _=>False)
  | none=>False)):=by
 unfold AOpG
 rcases o.guard with _ | ⟨j,want⟩
 ·exact Iff.rfl
 ·simp only
  rcases (ops[j]?).bind (·.dst) with _ | t
  ·exact Iff.rfl
  ·simp only
   generalize σ.env t=f
   split
   ·rename_i b
    by_cases h:b=want <;> simp [h]
   ·exact Iff.rfl
   ·rename_i h h'
    split
    ·exact absurd rfl (h _)
    ·exact absurd rfl h'
    ·exact Iff.rfl
theorem takeCells_self (k n:Nat) (cs:List D):takeCells k n n cs=cs:=if_pos rfl
attribute [simp] fbB frzB okAtom pickF
attribute [simp ↓] AFb AFz AFrz AFrS ASlice ACut
attribute [simp] leafFs shiftInt fieldV
attribute [simp ↓] AOps AOpG_eq AOp silK ABuiltin ARun ARunL callTo_eq AAlloc ABox ABuildSlice AMake AMapUpd ARange ANext AAppend ACopy ADelete AStore ANil
attribute [simp] u8s sil silCall isNilC opv constFV aget norm normWith names addNames watchers ofL_nil ofL_cons upd_at St.set FV.roots FV.rootsL FV.ren FV.renL ofRO_nil ofRO_cons lenF binF binInt bitsV
attribute [simp] indexF tsize addOff loadF pickL isAggK renR AEx.seq AEx.block cellFV argL watchL wFV ofR_nil ofR_cons endQ endK resVals FV.whole D.leaf exportN exportD pend unpend atomsL FV.atoms groupR noShR noShL noSh Value.oneCell'
attribute [simp] St.kOf St.nOf St.obj look St.storeL St.store1 St.absorb St.put putAt D.cells? D.setCells D.quiet FV.isLeaf root_env root_rts getElem_ints length_ints leafL_ints noShL_ints shareL_ints ints_set ints_append ints_take ints_drop
attribute [simp] wk1 wkAll isNil0
attribute [simp] nilIs fieldOff fieldPl sliceF boundsF isZero buildF fillF setAtoms mapIdx2 keyInts appSrc appNew takeCells_self St.take St.kill St.killBelow FV.under FV.underL FV.deep FV.deepL belowB isPre stripP Mv.place FV.move FV.moveL
attribute [simp] Back passL viewFV viewL ioAtom ioL ioFV putOuts unpackD unpackL unpackR resFV share shareL leafL solidL D.solid FV.rootIs St.dropIt St.setIt FV.notIt FV.hasIt FV.hasItL zerosD goneL
end Go.Proofs.Ytfcgcgmleogamaa.Ab
namespace Go.Proofs.Ytfcgcgmleogamaa.Ab
open Go
def AOpsI (C:Ctx) (ops:Array Oper):List Nat->St->(St->Prop)->Prop
 | [],σ,K=>K σ
 | i :: r,σ,K=>match ops[i]? with
  | some o=>AOpG C ops o σ fun σ'=>AOpsI C ops r σ' K
  | none=>False
attribute [simp ↓] AOpsI
theorem AOpsI_append (C:Ctx) (ops:Array Oper) (K:St->Prop):∀ (is js:List Nat) (σ:St),AOpsI C ops (is ++ js) σ K=AOpsI C ops is σ fun σ'=>AOpsI C ops js σ' K
 | [],js,σ=>rfl
 | i :: is,js,σ=>by
  simp only [List.cons_append,AOpsI]
  have:(fun σ'=>AOpsI C ops (is ++ js) σ' K)=fun σ'=>AOpsI C ops is σ' fun σ''=>AOpsI C ops js σ'' K:=funext fun σ'=>AOpsI_append C ops K is js σ'
  rw [this]
theorem AOpsI_range (C:Ctx) (ops:Array Oper) (K:St->Prop):∀ (m i:Nat) (σ:St),i+m=ops.size->AOpsI C ops (List.range' i m) σ K=AOps C ops (ops.toList.drop i) σ K
 | 0,i,σ,h=>by
  rw [List.drop_of_length_le (by simp;omega)]
  rfl
 | m+1,i,σ,h=>by
  have hi:i < ops.toList.length:=by simp;omega
  rw [List.drop_eq_getElem_cons hi,List.range'_succ]
  have:(fun σ'=>AOpsI C ops (List.range' (i+1) m) σ' K)=fun σ'=>AOps C ops (ops.toList.drop (i+1)) σ' K:=funext fun σ'=>AOpsI_range C ops K m (i+1) σ' (by omega)
  have e:ops[i]? = some ops.toList[i]:=by
   rw [Array.getElem?_eq_getElem (by omega)]
   simp
  show (match ops[i]? with
   | some o=>AOpG C ops o σ fun σ'=>AOpsI C ops (List.range' (i+1) m) σ' K
   | none=>False)=_
  rw [e,this]
  rfl
theorem oSg {C:Ctx} {ops:Array Oper} {is js:List Nat} {σ:St} {K:St->Prop} (h:∀ K1:St->Prop,(∀ σ',AOpsI C ops js σ' K->K1 σ')->AOpsI C ops is σ K1):AOpsI C ops (is ++ js) σ K:=by
 rw [AOpsI_append]
 exact h _ fun _ h=>h
theorem oEn {C:Ctx} {ops:Array Oper} {is:List Nat} {σ:St} {K:St->Prop} (h:∀ K1:St->Prop,(∀ σ',K σ'->K1 σ')->AOpsI C ops is σ K1):AOpsI C ops is σ K:=h _ fun _ h=>h
def chainP:List (Bool×Nat)->Plan->Plan
 | [],p=>p
 | (true,i) :: r,p=>.take i (chainP r p)
 | (false,i) :: r,p=>.all [(i,chainP r p)]
theorem ARun_chain (C:Ctx) (ops:Array Oper) (p:Plan) (K:St->Prop):∀ (l:List (Bool×Nat)) (σ:St),ARun C ops (chainP l p) σ K=AOpsI C ops (l.map (·.2)) σ fun σ'=>ARun C ops p σ' K
 | [],σ=>rfl
 | (true,i) :: l,σ=>by
  simp only [chainP,ARun,List.map_cons,AOpsI]
  have:(fun σ'=>ARun C ops (chainP l p) σ' K)=fun σ'=>AOpsI C ops (l.map (·.2)) σ' fun σ''=>ARun C ops p σ'' K:=funext fun σ'=>ARun_chain C ops p K l σ'
  rw [this]
  rfl
 | (false,i) :: l,σ=>by
  simp only [chainP,ARun,ARunL,List.map_cons,AOpsI]
  have:(fun σ'=>ARun C ops (chainP l p) σ' K)=fun σ'=>AOpsI C ops (l.map (·.2)) σ' fun σ''=>ARun C ops p σ'' K:=funext fun σ'=>ARun_chain C ops p K l σ'
  rw [this,and_true]
  rfl
section
variable {C:Ctx} {i:Nat} {Q:AEx->St->Prop} {σ:St}
theorem wregI {id:Nat} {ops:Array Oper} (is:List Nat) (he:is=List.range' 0 ops.size) (h:∀ K:St->Prop,(∀ σ',Q .normal σ'->K σ')->AOpsI C ops is σ (fun σ'=>K (norm C (aget [] C.kp id) σ'))):AWp C (.region id ops false) i Q σ:=
 wreg fun K hK=>by
  have:=h K hK
  rw [he,AOpsI_range _ _ _ _ _ _ (by omega)] at this
  exact this
theorem wdrawI {id:Nat} {ops:Array Oper} (l:List (Bool×Nat)) (hp:(chainP l .done).ok C ops) (is:List Nat) (he:is=l.map (·.2)) (h:∀ K:St->Prop,(∀ σ',Q .normal σ'->K σ')->AOpsI C ops is σ (fun σ'=>K (norm C (aget [] C.kp id) σ'))):AWp C (.region id ops true) i Q σ:=
 wdraw (chainP l .done) hp fun K hK=>by
  rw [ARun_chain,<-he]
  exact h K hK
end
theorem wcondJ {C:Ctx} {i:Nat} {Q:AEx->St->Prop} {σ:St} {c:Operand} {a b:Code} (P:St->Prop) (t:Bool) (hc:opv σ c = .d (.v (.bool t))) (tail:∀ σ',P σ'->Q .normal σ')
  (h1:t=true->∀ Q':AEx->St->Prop,(∀ σ',P σ'->Q' .normal σ')->AWp C a i Q' σ) (h2:t=false->∀ Q':AEx->St->Prop,(∀ σ',P σ'->Q' .normal σ')->AWp C b i Q' σ):AWp C (.cond c a b) i Q σ:=
 ⟨t,hc,fun h=>h1 h Q tail,fun h=>h2 h Q tail⟩
def WkD (a b:D):Prop:=a=b\/(isNil0 a=true/\∃ k,b = .ow k 0 [])
def WkL:List D->List D->Prop
 | [],[]=>True
 | a :: l,b :: r=>WkD a b/\WkL l r
 | _,_=>False
def WkR:RV->RV->Prop
 | .one a,.one b=>WkD a b
 | .ag a,.ag b=>WkL a b
 | _,_=>False
def WkRs:List RV->List RV->Prop
 | [],[]=>True
 | a :: l,b :: r=>WkR a b/\WkRs l r
 | _,_=>False
section
variable {w:World} {ok:Nat->Prop}
theorem WkD.ow {a b:D} (h:WkD a b) {u:Value} {fp:List Nat} (ha:Ow w ok a u fp):Ow w ok b u fp:=by
 rcases h with rfl | ⟨h1,k,rfl⟩
 ·exact ha
 ·have hv:=isNil0_val h1 ha
  have hf:fp=[]:=by
   unfold isNil0 at h1
   split at h1
   ·simp only [Ow] at ha;exact ha.1
   ·simp only [Ow] at ha;exact ha.1
   ·simp at h1
  subst hf
  exact ow_empty k hv
theorem WkL.ow:∀ {a b:List D},WkL a b->∀ {us:List Value} {fp:List Nat},OwVs w ok a us fp->OwVs w ok b us fp
 | [],[],_,us,fp,h=>h
 | a :: l,b :: r,h,us,fp,ha=>by
  obtain ⟨u,us',f1,f2,e1,e2,h1,h2⟩:=ha
  exact ⟨u,us',f1,f2,e1,e2,h.1.ow h1,WkL.ow h.2 h2⟩
 | [],b :: r,h,_,_,_=>h.elim
 | a :: l,[],h,_,_,_=>h.elim
theorem WkR.ow:∀ {a b:RV},WkR a b->∀ {u:Value} {fp:List Nat},OwRV w ok a u fp->OwRV w ok b u fp
 | .one a,.one b,h,u,fp,ha=>WkD.ow h ha
 | .ag a,.ag b,h,u,fp,ha=>by
  obtain ⟨vs,e,h1⟩:=ha
  exact ⟨vs,e,WkL.ow h h1⟩
 | .one a,.ag b,h,_,_,_=>h.elim
 | .ag a,.one b,h,_,_,_=>h.elim
theorem WkRs.ow:∀ {a b:List RV},WkRs a b->∀ {us:List Value} {fp:List Nat},OwRs w ok a us fp->OwRs w ok b us fp
 | [],[],_,us,fp,h=>h
 | a :: l,b :: r,h,us,fp,ha=>by
  obtain ⟨u,us',f1,f2,e1,e2,h1,h2⟩:=ha
  exact ⟨u,us',f1,f2,e1,e2,WkR.ow h.1 h1,WkRs.ow h.2 h2⟩
 | [],b :: r,h,_,_,_=>h.elim
 | a :: l,[],h,_,_,_=>h.elim
end
theorem ACalls.weak {P:Program} {f:Nat} {args:List FV} {ros:List (Rn×D)} {pure:Bool} {Q Q':List D->List RV->Prop} (h:ACalls P f args ros pure Q) (hq:∀ outs res,Q outs res->∃ res',WkRs res res'/\Q' outs res'):ACalls P f args ros pure Q':=by
 refine ⟨h.1,fun w fp0 ok vs ρ φ hl hr=>(h.2 w fp0 ok vs ρ φ hl hr).mono ?_⟩
 rintro e w' ⟨v,outs,res,ok',φ',fr,he,hQ,hd⟩
 obtain ⟨res',h1,h2⟩:=hq outs res hQ
 obtain ⟨vs',e1,e2⟩:=hd.res
 exact ⟨v,outs,res',ok',φ',fr,he,h2,⟨hd.len,hd.out,hd.dis,⟨vs',e1,h1.ow e2⟩,hd.nod,hd.bl,hd.disr,hd.frm,hd.okm,hd.okn⟩⟩
theorem ACalls.weak1 {P:Program} {f:Nat} {args:List FV} {ros:List (Rn×D)} {pure:Bool} {os:List D} {rs:List RV} (h:ACalls P f args ros pure fun outs res=>outs=os/\WkRs res rs):ACalls P f args ros pure fun outs res=>outs=os/\res=rs:=
 h.weak fun outs res ⟨h1,h2⟩=>⟨rs,h2,h1,rfl⟩
attribute [simp] WkRs WkR WkL WkD isNil0
theorem nd_t {p:Prop} [Decidable p] (h:(!decide p)=true):¬ p:=by simpa using h
theorem nd_f {p:Prop} [Decidable p] (h:(!decide p)=false):p:=by simpa using h
theorem d_t {p:Prop} [Decidable p] (h:decide p=true):p:=by simpa using h
theorem d_f {p:Prop} [Decidable p] (h:decide p=false):¬ p:=by simpa using h
theorem ibeq (a b:Int):(a == b)=decide (a=b):=by
 by_cases h:a=b <;> simp [h]
theorem ibne (a b:Int):(a != b) = !decide (a=b):=by
 by_cases h:a=b <;> simp [h]
theorem wrap_nat {j:Nat} (h:j < 4611686018427387904):IntKind.i64.wrap (j:Int)=(j:Int):=wrapOk (by omega) (by omega)
section
variable {w:World} {ok:Nat->Prop} {σ:St} {ρ:Rn->Value}
end
end Go.Proofs.Ytfcgcgmleogamaa.Ab
namespace Go.Proofs.Ytfcgcgmleogamaa.Ab
open Go
structure Trm where
 e:List Int
 c:Int
deriving DecidableEq
structure Lau where
 v:Int
 ts:List Trm
deriving DecidableEq
structure Mat where
 n:Int
 r:Int
 d:List Int
deriving DecidableEq
structure Sed where
 m:Mat
 f:List Lau
deriving DecidableEq
structure Ses where
 a:Mat
 k:List Int
 s:Sed
deriving DecidableEq
abbrev shI (l:List Int):D:=.sh 1 l.length (ints l)
abbrev owI (l:List Int):D:=.ow 1 l.length (ints l)
def tS (t:Trm):List D:=[shI t.e,D.int t.c]
def tO (t:Trm):List D:=[owI t.e,D.int t.c]
def fS (f:Lau):List D:=[D.int f.v,.sh 2 f.ts.length (rows tS f.ts)]
def fO (f:Lau):List D:=[D.int f.v,.ow 2 f.ts.length (rows tO f.ts)]
def mS (m:Mat):List D:=[D.int m.n,D.int m.r,shI m.d]
def mO (m:Mat):List D:=[D.int m.n,D.int m.r,owI m.d]
theorem tS_two (t:Trm):(tS t).length=2:=rfl
theorem tO_two (t:Trm):(tO t).length=2:=rfl
theorem fS_two (t:Lau):(fS t).length=2:=rfl
theorem fO_two (t:Lau):(fO t).length=2:=rfl
@[simp] theorem tS_length (l:List Trm):(rows tS l).length=2*l.length:=rows_length tS_two l
@[simp] theorem tO_length (l:List Trm):(rows tO l).length=2*l.length:=rows_length tO_two l
@[simp] theorem fS_length (l:List Lau):(rows fS l).length=2*l.length:=rows_length fS_two l
@[simp] theorem fO_length (l:List Lau):(rows fO l).length=2*l.length:=rows_length fO_two l
@[simp] theorem tS_share (l:List Trm):shareL (rows tO l)=rows tS l:=by
 rw [rows_share]
 congr 1
 funext t
 simp [tO,tS,shareL,share,shareL_ints]
@[simp] theorem fS_share (l:List Lau):shareL (rows fO l)=rows fS l:=by
 rw [rows_share]
 congr 1
 funext t
 simp [fO,fS,shareL,share]
@[simp] theorem tO_noSh (l:List Trm):noShL (rows tO l):=rows_noSh (fun t=>by simp [tO,noShL,noSh,noShL_ints]) l
@[simp] theorem fO_noSh (l:List Lau):noShL (rows fO l):=rows_noSh (fun t=>by simp [fO,noShL,noSh]) l
theorem twice {α:Type} {l:List α} {i:Nat} {x:α} (h:l[i]? = some x):l[i]? = some x/\∀ h':i < l.length,l[i]'h'=x:=
 ⟨h,fun h'=>by rw [List.getElem?_eq_getElem h'] at h;injection h⟩
section
variable {l:List Trm} {g:List Lau} {i:Nat}
theorem tS_0 (h:i < l.length):(rows tS l)[2*i]? = some (shI l[i].e)/\∀ h',(rows tS l)[2*i]'h'=shI l[i].e:=twice (rows_get tS_two l i 0 h (by omega))
theorem tS_1 (h:i < l.length):(rows tS l)[2*i+1]? = some (D.int l[i].c)/\∀ h',(rows tS l)[2*i+1]'h'=D.int l[i].c:=twice (rows_get tS_two l i 1 h (by omega))
theorem tO_0 (h:i < l.length):(rows tO l)[2*i]? = some (owI l[i].e)/\∀ h',(rows tO l)[2*i]'h'=owI l[i].e:=twice (rows_get tO_two l i 0 h (by omega))
theorem tO_1 (h:i < l.length):(rows tO l)[2*i+1]? = some (D.int l[i].c)/\∀ h',(rows tO l)[2*i+1]'h'=D.int l[i].c:=twice (rows_get tO_two l i 1 h (by omega))
theorem tO_set0 (h:i < l.length) (x:List Int):(rows tO l).set (2*i) (.ow 1 x.length (ints x))=rows tO (l.set i ⟨x,l[i].c⟩):=rows_set tO_two l i 0 _ _ h (by omega) rfl
end
theorem modify_const {α:Type} (l:List α) (i:Nat) (e:α):l.modify i (fun _=>e)=l.set i e:=by
 apply List.ext_getElem?
 intro j
 rw [List.getElem?_modify,List.getElem?_set]
 split
 ·rename_i h
  subst h
  split
  ·rename_i h
   rw [List.getElem?_eq_getElem h]
   rfl
  ·rename_i h
   rw [List.getElem?_eq_none (by omega)]
   rfl
 ·simp
def marks (k:Int) (n:Nat):List Int:=(List.range n).map fun (i:Nat)=>k+(i:Int)
@[simp] theorem marks_length (k:Int) (n:Nat):(marks k n).length=n:=by simp [marks]
theorem marks_get (k:Int) (n i:Nat) (h:i < n):(marks k n)[i]'(by simpa using h)=k+i:=by simp [marks]
theorem marks_succ (k:Int) (n:Nat):marks k (n+1)=marks k n ++ [k+n]:=by simp [marks,List.range_succ]
section
variable {α:Type} (cnt:α->Nat) (mk:α->Int->α)
def cntL:List α->Nat
 | []=>0
 | x :: xs=>cnt x+cntL xs
def mkL:List α->Int->List α
 | [],_=>[]
 | x :: xs,k=>mk x k :: mkL xs (k+cnt x)
@[simp] theorem mkL_length:∀ (l:List α) (k:Int),(mkL cnt mk l k).length=l.length
 | [],k=>rfl
 | x :: xs,k=>by simp [mkL,mkL_length xs]
theorem cntL_append:∀ (l r:List α),cntL cnt (l ++ r)=cntL cnt l+cntL cnt r
 | [],r=>by simp [cntL]
 | x :: xs,r=>by simp [cntL,cntL_append xs r,Nat.add_assoc]
theorem mkL_append:∀ (l r:List α) (k:Int),mkL cnt mk (l ++ r) k=mkL cnt mk l k ++ mkL cnt mk r (k+cntL cnt l)
 | [],r,k=>by simp [mkL,cntL]
 | x :: xs,r,k=>by
  simp only [List.cons_append,mkL,mkL_append xs r,cntL]
  rw [show k+(cnt x:Int)+(cntL cnt xs:Int)=k+((cnt x+cntL cnt xs:Nat):Int) by omega]
theorem cntL_step (l:List α) (j:Nat) (h:j < l.length):cntL cnt (l.take (j+1))=cntL cnt (l.take j)+cnt l[j]:=by
 rw [List.take_succ_eq_append_getElem h,cntL_append]
 simp [cntL]
theorem cntL_le (l:List α) (j:Nat):cntL cnt (l.take j)<=cntL cnt l:=by
 have:cntL cnt l=cntL cnt (l.take j)+cntL cnt (l.drop j):=by rw [<-cntL_append,List.take_append_drop]
 omega
theorem cntL_le1 (l:List α) (j:Nat) (h:j < l.length):cntL cnt (l.take j)+cnt l[j]<=cntL cnt l:=by
 rw [<-cntL_step cnt l j h]
 exact cntL_le cnt l (j+1)
theorem mkL_get1 (l:List α) (k:Int) (j:Nat) (h:j < l.length):(mkL cnt mk l k)[j]'(by simpa using h)=mk l[j] (k+cntL cnt (l.take j)):=by
 have e:l=l.take j ++ l[j] :: l.drop (j+1):=by rw [<-List.drop_eq_getElem_cons h,List.take_append_drop]
 have e2:mkL cnt mk l k=mkL cnt mk (l.take j) k ++ mk l[j] (k+cntL cnt (l.take j)) :: mkL cnt mk (l.drop (j+1)) (k+cntL cnt (l.take j)+cnt l[j]):=by
  conv=>lhs;rw [e]
  rw [mkL_append]
  rfl
 have:(mkL cnt mk l k)[j]? = some (mk l[j] (k+cntL cnt (l.take j))):=by
  rw [e2,List.getElem?_append_right (by simp;omega)]
  simp [Nat.min_eq_left (Nat.le_of_lt h)]
 rw [List.getElem?_eq_getElem (by simpa using h)] at this
 injection this
theorem mkL_get2 (l:List α) (k:Int) (j:Nat) (h:j < l.length):(mkL cnt mk (l.take j) k ++ l.drop j)[j]? = some l[j]:=by
 rw [List.getElem?_append_right (by simp;omega)]
 simp [Nat.min_eq_left (Nat.le_of_lt h),h]
theorem mkL_step (l:List α) (k:Int) (j:Nat) (h:j < l.length):(mkL cnt mk (l.take j) k ++ l.drop j).set j (mk l[j] (k+cntL cnt (l.take j)))=mkL cnt mk (l.take (j+1)) k ++ l.drop (j+1):=by
 rw [List.set_append_right _ _ (by simp;omega),List.take_succ_eq_append_getElem h,mkL_append]
 simp [Nat.min_eq_left (Nat.le_of_lt h),mkL]
 rw [List.drop_eq_getElem_cons h]
 rfl
end
def cntT (t:Trm):Nat:=t.e.length+1
def mkT (t:Trm) (k:Int):Trm:=⟨marks k t.e.length,k+t.e.length⟩
def tZ:Option Trm->List D
 | none=>[.v (.slice none 0 0),D.int 0]
 | some t=>tO t
theorem tZ_two (t:Option Trm):(tZ t).length=2:=by cases t <;> rfl
@[simp] theorem tZ_length (l:List (Option Trm)):(rows tZ l).length=2*l.length:=rows_length tZ_two l
theorem rows_set2 {α:Type} {f:α->List D} (hk:∀ x,(f x).length=2) (xs:List α) (i:Nat) (d0 d1:D) (y:α) (h:i < xs.length) (e:f y=[d0,d1]):((rows f xs).set (2*i) d0).set (2*i+1) d1=rows f (xs.set i y):=by
 induction xs generalizing i with
 | nil=>simp at h
 | cons x xs ih=>
  cases i with
  | zero=>
   have hx:=hk x
   match hfx:f x,hx with
   | [a,b],_=>simp [rows,hfx,e]
  | succ i=>
   have hx:=hk x
   simp only [rows,List.set_cons_succ]
   rw [List.set_append_right _ _ (by rw [hx];omega),List.set_append_right _ _ (by rw [hx];omega),hx,show 2*(i+1) - 2=2*i by omega,show 2*(i+1)+1 - 2=2*i+1 by omega,ih i (by simpa using h)]
theorem tO_set2 {l:List Trm} {i n:Nat} (h:i < l.length) (e:List Int) (c:Int) (hn:e.length=n):((rows tO l).set (2*i) (.ow 1 n (ints e))).set (2*i+1) (.v (.int .i64 c))=rows tO (l.set i ⟨e,c⟩):=
 rows_set2 tO_two l i _ _ _ h (by subst hn;rfl)
theorem tO_snoc (l:List Trm) (t:Trm):rows tO l ++ [D.ow 1 t.e.length (ints t.e),D.v (.int .i64 t.c)]=rows tO (l ++ [t]):=by
 rw [rows_append]
 rfl
end Go.Proofs.Ytfcgcgmleogamaa.Ab
namespace Go.Proofs.Ytfcgcgmleogamaa.Ab
open Go Go.ChangeShapes Go.WideShapes Go.ChangeAt Go.RowKit
structure Old (w w':World):Prop where
 os:w'.os=w.os
 out:w'.output=w.output
 size:w.heap.size<=w'.heap.size
 blk:∀ b,b < w.heap.size->w'.heap[b]? = w.heap[b]?
theorem Old.kept {w w':World} (h:Old w w') (may:MemPlace->Prop):w.keptBut w' may:=by
 refine ⟨h.os,h.out,fun i hi=>?_⟩
 rw [h.blk i hi]
 cases hh:w.heap[i]? with
 | none=>rfl
 | some o=>
  cases o with
  | cells c t fr=>exact ⟨rfl,rfl,rfl,fun _ _=>rfl⟩
  | map es cl=>exact .inr ⟨rfl,rfl⟩
  | _=>rfl
theorem Old.froz {w w':World} (h:Old w w') (a:Addr) (ha:a.block < w.heap.size):w'.frozen? a=w.frozen? a:=by
 unfold World.frozen?
 rw [h.blk a.block ha]
variable {H:Type} {enc:TypeId×Value->H} {P:Program}
theorem post_of_old {f:Func} {s:ChangeSpec} {apart fresh handsOn again:Bool} {W W':World} {args:Array Value} {v:Value} {ds gs:List (DataW H)} {before pa pv:List MemPlace}
  (hW:DataW.Whole enc P f.params.toList s.vars apart W args.toList ds gs before)
  (hres:∀ (b:Nat) (sp:Nat->Bool) (hd:Bool),DataW.TrodAll enc P W' b sp hd f.resultTypes.toList (v.resultList f.resultTypes.size) (s.fn H (ds ++ gs)).results [])
  (hargs:∀ sp:Nat->Bool,(∀ p∈before,sp p.block=true)->DataW.TrodAll enc P W' 0 sp true f.params.toList args.toList (s.fn H (ds ++ gs)).args pa)
  (hvars:∀ sp:Nat->Bool,(∀ p∈before,sp p.block=true)->DataW.TrodVars enc P W' sp s.vars (s.fn H (ds ++ gs)).vars pv)
  (hps:before=pa ++ pv) (ho:Old W W')
  (hok:∀ (j:Nat) (t:TypeId) (r:Value),f.resultTypes[j]? = some t->(v.resultList f.resultTypes.size)[j]? = some r->Value.okWide P W' .any 0 t r) :
  s.post enc P f apart fresh handsOn again W args v W':=by
 have hlt:∀ p∈before,p.block < W.heap.size:=fun p hp=>hW.lt p hp
 have hsp:∀ p∈before,(fun b=>decide (b < W.heap.size)) p.block=true:=fun p hp=>decide_eq_true (hlt p hp)
 have hall:∀ p∈before,(fun _:Nat=>true) p.block=true:=fun _ _=>rfl
 have happ:[] ++ pa ++ pv=before:=by rw [hps];rfl
 refine ⟨ds,gs,before,[],pa,pv,hW,hres _ _ _,hargs _ hsp,hvars _ hsp,ho.kept _,fun _=>⟨hok,_,_,[] ++ pa ++ pv,⟨[] ++ pa,pv,trodAll_append (hargs _ hall) (hres _ _ _),hvars _ hall,rfl,?_,?_⟩,?_⟩⟩
 ·obtain ⟨_,_,_,_,_,hz,hn⟩:=hW
  intro b off hp
  rw [happ] at hp
  rw [ho.froz _ (hlt _ hp)]
  exact hz b off hp
 ·obtain ⟨_,_,_,_,_,hz,hn⟩:=hW
  intro ha
  rw [happ]
  exact hn ha
 ·intro p hp _
  rw [happ] at hp
  exact hp
end Go.Proofs.Ytfcgcgmleogamaa.Ab
namespace Go.Proofs.Ytfcgcgmleogamaa.Ab
open Go Go.ChangeShapes Go.WideShapes Go.ChangeAt Go.RowKit
def oldOk (W:World):Nat->Prop:=fun b=>b < W.heap.size
theorem old_of_cell {W:World} {a:Addr} {v:Value} (h:W.cell? a=some v):oldOk W a.block:=by
 unfold World.cell? at h
 split at h
 ·rename_i hh
  unfold oldOk
  rcases Nat.lt_or_ge a.block W.heap.size with h1 | h1
  ·exact h1
  ·rw [Array.getElem?_eq_none (by omega)] at hh;simp at hh
 ·simp at h
theorem ShV_ShL {w:World} {ok:Nat->Prop} {b:Nat}:∀ {ds:List D} {us:List Value} {o:Nat},ShV w ok ds us->(∀ (j:Nat) (v:Value),us[j]? = some v->w.cell? ⟨b,o+j,none⟩ = some v)->ShL w ok b ds o
 | [],us,o,h,_=>by simp [ShL]
 | d :: ds,us,o,h,hc=>by
  simp only [ShV] at h
  obtain ⟨u,us',rfl,h1,h2⟩:=h
  simp only [ShL]
  refine ⟨⟨u,by simpa using hc 0 u rfl,h1⟩,ShV_ShL h2 fun j v hj=>?_⟩
  have:=hc (j+1) v (by simpa using hj)
  rwa [show o+1+j=o+(j+1) by omega]
theorem ShL_cat {w:World} {ok:Nat->Prop} {b:Nat}:∀ {ds es:List D} {o:Nat},ShL w ok b ds o->ShL w ok b es (o+ds.length)->ShL w ok b (ds ++ es) o
 | [],es,o,_,k=>by simpa using k
 | d :: ds,es,o,h,k=>by
  simp only [ShL] at h
  simp only [List.cons_append,ShL]
  refine ⟨h.1,ShL_cat h.2 ?_⟩
  simp only [List.length_cons] at k
  rwa [show o+1+ds.length=o+(ds.length+1) by omega]
theorem rows_ShL {w:World} {ok:Nat->Prop} {b k:Nat} {α:Type} {f:α->List D} (hk:∀ x,(f x).length=k):∀ (l:List α) (o:Nat),(∀ i (h:i < l.length),ShL w ok b (f l[i]) (o+i*k))->ShL w ok b (rows f l) o
 | [],o,_=>by simp [rows,ShL]
 | x :: l,o,h=>by
  simp only [rows]
  refine ShL_cat (by have:=h 0 (by simp);simp only [List.getElem_cons_zero,Nat.zero_mul,Nat.add_zero] at this;exact this) ?_
  rw [hk]
  refine rows_ShL hk l (o+k) fun i hi=>?_
  have:=h (i+1) (by simpa using hi)
  simp only [List.getElem_cons_succ] at this
  rwa [show o+k+i*k=o+(i+1)*k by rw [Nat.add_mul,Nat.one_mul];omega]
section
variable {H:Type} {enc:TypeId×Value->H} {P:Program} {W:World}
structure Opens (enc:TypeId×Value->H) (P:Program) (W:World) (t k:Nat) (α:Type) (f:α->List D) (G:α->Prop):Prop where
 cells:P.cellsOf t=k
 len:∀ a,(f a).length=k
 op:∀ (fuel:Nat) (cs:List Value) (x:DataW H×List MemPlace),DataW.trod enc P W 0 (fun _=>true) true fuel t cs=some x->(∀ n∈x.1.weights P t,n<=reachBytes)->∃ a:α,G a/\ShV W (oldOk W) (f a) cs
theorem Opens.to {t k:Nat} {α β:Type} {f:α->List D} {G:α->Prop} (h:Opens enc P W t k α f G) (g:α->β) {f':β->List D} {G':β->Prop} (hf:∀ a,f' (g a)=f a) (hl:∀ b,(f' b).length=k) (hG:∀ a,G a->G' (g a)):Opens enc P W t k β f' G':=
 ⟨h.cells,hl,fun fuel cs x hx hw=>by
  obtain ⟨a,h1,h2⟩:=h.op fuel cs x hx hw
  exact ⟨g a,hG a h1,by rw [hf];exact h2⟩⟩
def i64b (n:Int):Prop:=-9223372036854775808<=n/\n<=9223372036854775807
theorem Opens.int {t:Nat} (ht:P.underlying t=some (.int .i64)) (hc:P.cellsOf t=1):Opens enc P W t 1 Int (fun n=>[D.int n]) i64b:=
 ⟨hc,fun _=>rfl,fun fuel cs x hx _=>by
  obtain ⟨n,rfl,rfl,hw⟩:=DataW.trod_int ht hx
  exact ⟨n,bounds_i64 hw,by simp [ShV,Sh]⟩⟩
theorem mem_weightsAll {e:Nat}:∀ {l:List (DataW H)} {d:DataW H},d∈l->∀ n∈d.weights P e,n∈DataW.weightsAll P e l
 | x :: l,d,hd,n,hn=>by
  simp only [DataW.weightsAll,List.mem_append]
  rcases List.mem_cons.1 hd with rfl | hd
  ·exact .inl hn
  ·exact .inr (mem_weightsAll hd n hn)
theorem cells_get {a:Addr} {k:Nat} {cs:List Value} (h:W.cells? 0 a k=some cs):cs.length=k/\∀ (j:Nat) (v:Value),cs[j]? = some v->W.cell? (a.add j)=some v:=by
 unfold World.cells? at h
 rw [if_pos (Nat.zero_le _)] at h
 have hl:=mapM_some_length h
 simp only [List.length_range] at hl
 refine ⟨hl,fun j v hj=>?_⟩
 have hj2:j < k:=by
  rw [<-hl]
  rcases Nat.lt_or_ge j cs.length with h1 | h1
  ·exact h1
  ·rw [List.getElem?_eq_none h1] at hj;simp at hj
 have:=mapM_some_get h j j (by simp [hj2])
 rw [this,hj]
theorem Opens.slice {t e k bs:Nat} {α:Type} {f:α->List D} {G:α->Prop} (h:Opens enc P W e k α f G) (hk0:0 < k) (ht:P.underlying t=some (.slice e)) (hc:P.cellsOf t=1) (hb:P.bytesOf e=bs) :
  Opens enc P W t 1 (List α) (fun l=>[.sh k l.length (rows f l)]) (fun l=>(∀ x∈l,G x)/\l.length*bs<=140737488351232):=
 ⟨hc,fun _=>rfl,fun fuel cs x hx hw=>by
  rcases DataW.trod_slice ht hx with ⟨rfl,rfl⟩ | ⟨a,len,cap,elems,rest,n,rfl,rfl,rfl,hb0,hlc,hcm,hel,hget,_,_⟩
  ·exact ⟨[],by simp,by simp [ShV,Sh,rows]⟩
  ·have hwt:(elems.length+rest.length)*bs<=140737488351232:=by
    have:=hw ((elems.length+rest.length)*bs) (by simp [DataW.weights,ht,hb])
    simpa [reachBytes] using this
   have hwe:∀ y∈elems,∀ n∈y.1.weights P e,n<=reachBytes:=fun y hy n hn=>by
    refine hw n ?_
    simp only [DataW.weights,ht,List.mem_cons,List.mem_append]
    exact .inr (.inl (mem_weightsAll (List.mem_map.2 ⟨y,hy,rfl⟩) n hn))
   have key:∀ i:Fin len,∃ y:α,G y/\∃ cs,W.cells? 0 (a.add (i.1*k)) k=some cs/\ShV W (oldOk W) (f y) cs:=fun i=>by
    have h1:=hget i.1 i.2
    rw [h.cells] at h1
    have h2:i.1 < elems.length:=by rw [hel];exact i.2
    rw [List.getElem?_eq_getElem h2,Option.bind_eq_some_iff] at h1
    obtain ⟨cs,h3,h4⟩:=h1
    obtain ⟨y,h5,h6⟩:=h.op n cs _ h4 (hwe _ (List.getElem_mem h2))
    exact ⟨y,h5,cs,h3,h6⟩
   let l:List α:=List.ofFn fun i:Fin len=>Classical.choose (key i)
   have hll:l.length=len:=by simp [l]
   have hlg:∀ i (hi:i < l.length),G l[i]/\∃ cs,W.cells? 0 (a.add (i*k)) k=some cs/\ShV W (oldOk W) (f l[i]) cs:=fun i hi=>by
    have:=Classical.choose_spec (key ⟨i,by omega⟩)
    simpa [l] using this
   refine ⟨l,⟨fun x hx=>?_,?_⟩,?_⟩
   ·obtain ⟨i,hi,rfl⟩:=List.getElem_of_mem hx
    exact (hlg i hi).1
   ·rw [hll]
    rw [hel] at hwt
    exact Nat.le_trans (Nat.mul_le_mul_right _ (by omega)) hwt
   ·simp only [ShV,Sh]
    refine ⟨_,[],rfl,⟨some a,cap,by rw [hll],by omega,rows_length h.len l,?_⟩,rfl⟩
    rcases Nat.eq_zero_or_pos l.length with hz | hp
    ·left
     rw [List.eq_nil_of_length_eq_zero hz]
     rfl
    ·right
     obtain ⟨_,cs0,hc0,_⟩:=hlg 0 hp
     obtain ⟨hl0,hg0⟩:=cells_get hc0
     have h00:cs0[0]? = some (cs0[0]'(by omega)):=List.getElem?_eq_getElem _
     have hfirst:=hg0 0 _ h00
     have hspot:a.spot=none:=by
      have:=World.cell?_spot hfirst
      simpa [Addr.add] using this
     have hold:=old_of_cell hfirst
     obtain ⟨b,off,spot⟩:=a
     simp only at hspot
     subst hspot
     refine ⟨b,off,rfl,by simpa [Addr.add] using hold,rows_ShL h.len l off fun i hi=>?_⟩
     obtain ⟨_,csi,hci,hsi⟩:=hlg i hi
     refine ShV_ShL hsi fun j v hj=>?_
     have:=(cells_get hci).2 j v hj
     rwa [Go.WideShapes.add_plain,Go.WideShapes.add_plain] at this⟩
theorem Opens.struct2 {t t0 t1 k0 k1:Nat} {F0 F1:Field} {α0 α1:Type} {f0:α0->List D} {f1:α1->List D} {G0:α0->Prop} {G1:α1->Prop} (h0:Opens enc P W t0 k0 α0 f0 G0) (h1:Opens enc P W t1 k1 α1 f1 G1)
  (ht:P.underlying t=some (.struct #[F0,F1])) (e0:F0.type=t0/\F0.offset=0) (e1:F1.type=t1/\F1.offset=k0) (hc:P.cellsOf t=k0+k1) :
  Opens enc P W t (k0+k1) (α0×α1) (fun a=>f0 a.1 ++ f1 a.2) (fun a=>G0 a.1/\G1 a.2):=
 ⟨hc,fun a=>by simp [h0.len,h1.len],fun fuel cs x hx hw=>by
  obtain ⟨xs,n,rfl,rfl,hl,hxl,hg⟩:=DataW.trod_struct ht hx
  match xs,hxl with
  | [y0,y1],_=>
  have g0:=hg 0 F0 rfl
  have g1:=hg 1 F1 rfl
  rw [e0.1,e0.2,h0.cells] at g0
  rw [e1.1,e1.2,h1.cells] at g1
  simp only [DataW.weights,ht,List.map_cons,List.map_nil,DataW.weightsEach,List.mem_append,e0.1,e1.1] at hw
  obtain ⟨a0,p0,q0⟩:=h0.op n _ _ g0 (fun n hn=>hw n (.inl hn))
  obtain ⟨a1,p1,q1⟩:=h1.op n _ _ g1 (fun n hn=>hw n (.inr (.inl hn)))
  refine ⟨(a0,a1),⟨p0,p1⟩,?_⟩
  have:=ShV_append q0 q1
  rw [hc] at hl
  rwa [List.drop_zero,List.take_of_length_le (l:=cs.drop k0) (by simp;omega),List.take_append_drop] at this⟩
structure Arg (enc:TypeId×Value->H) (P:Program) (W:World) (t:Nat) (α:Type) (F:α->FV) (G:α->Prop):Prop where
 rec_:P.readableRec t=true
 row:t < P.types.size
 op:∀ (base:Nat) (v:Value) (d:DataW H) (p:List MemPlace),Value.okWide P W .any base t v->DataW.Trod enc P W 0 (fun _=>true) true t v d p->(∀ n∈d.weights P t,n<=reachBytes)->∃ a:α,G a/\∀ (σ:St) (ρ:Rn->Value),FR W (oldOk W) σ ρ (F a) v
def plainT (P:Program) (t:TypeId):Bool:=
 match P.underlying t with
 | some (.int _)=>true
 | some .bool=>true
 | some .string=>true
 | some (.slice _)=>true
 | _=>false
theorem plain_cells {t:TypeId} {base:Nat} {v:Value} (h:plainT P t=true) (hv:Value.okWide P W .any base t v):v.cells = #[v]:=by
 unfold plainT at h
 unfold Value.okWide Cell.okWide Cell.ok at hv
 cases v <;> first | rfl | (split at h <;> simp_all)
theorem Arg.one {t:Nat} {α:Type} {f:α->D} {G:α->Prop} (h:Opens enc P W t 1 α (fun a=>[f a]) G) (hr:P.readableRec t=true) (hrow:t < P.types.size) (hp:plainT P t=true):Arg enc P W t α (fun a=>.d (f a)) G:=
 ⟨hr,hrow,fun base' v d p ho hd hw=>by
  obtain ⟨fuel,hx⟩:=hd
  obtain ⟨a,h1,h2⟩:=h.op fuel _ _ hx hw
  refine ⟨a,h1,fun σ ρ=>?_⟩
  rw [plain_cells hp ho] at h2
  simp only [ShV,List.cons.injEq] at h2
  obtain ⟨u,us,⟨rfl,rfl⟩,h3,_⟩:=h2
  simpa only [FR] using h3⟩
theorem ShV_FRL {w:World} {ok:Nat->Prop} {σ:St} {ρ:Rn->Value}:∀ {ds:List D} {us:List Value},ShV w ok ds us->FRL w ok σ ρ (ds.map .d) us
 | [],us,h=>by simpa [ShV,FRL] using h
 | d :: ds,us,h=>by
  simp only [ShV] at h
  obtain ⟨u,vs,rfl,h1,h2⟩:=h
  simp only [List.map_cons,FRL]
  exact ⟨u,vs,rfl,by simpa [FR] using h1,ShV_FRL h2⟩
theorem Arg.agg {t k:Nat} {α:Type} {f:α->List D} {G:α->Prop} {fs:Array Field} (h:Opens enc P W t k α f G) (hr:P.readableRec t=true) (hrow:t < P.types.size) (ht:P.underlying t=some (.struct fs)):Arg enc P W t α (fun a=>.ag ((f a).map .d)) G:=
 ⟨hr,hrow,fun base' v d p ho hd hw=>by
  obtain ⟨fuel,hx⟩:=hd
  obtain ⟨a,h1,h2⟩:=h.op fuel _ _ hx hw
  refine ⟨a,h1,fun σ ρ=>?_⟩
  unfold Value.okWide at ho
  rw [ht] at ho
  obtain ⟨cs,rfl,_⟩:=ho
  simp only [FR]
  exact ⟨cs,rfl,ShV_FRL h2⟩⟩
theorem lawW {f:Nat} {args:List FV} (h:ACalls P f args [] true (fun outs res=>outs=[]/\res=[.one (D.bool true)])) {vs:List Value} (hv:∀ (σ:St) (ρ:Rn->Value),FRL W (oldOk W) σ ρ args vs) :
  Calls P f vs.toArray W fun e w'=>e = .returned (.bool true)/\Below W.heap.size W w':=by
 have hlen:∀ {σ:St} {ρ:Rn->Value} {aas:List FV} {us:List Value},FRL W (oldOk W) σ ρ aas us->us.length=aas.length/\∀ t,FR W (oldOk W) σ ρ (argEnv aas t) (us.getD t undef):=by
  intro σ ρ aas
  induction aas with
  | nil=>
   intro us h
   simp only [FRL] at h
   subst h
   exact ⟨rfl,fun t=>by simp [argEnv,FR]⟩
  | cons a aas ih=>
   intro us h
   simp only [FRL] at h
   obtain ⟨u,vs,rfl,h1,h2⟩:=h
   obtain ⟨h3,h4⟩:=ih h2
   refine ⟨by simp [h3],fun t=>?_⟩
   cases t with
   | zero=>simpa [argEnv] using h1
   | succ t=>simpa [argEnv] using h4 t
 have:=h.2 W [] (oldOk W) vs (fun _=>undef) (fun _=>[]) (hlen (hv ⟨fun _=>.dead,fun _=>none⟩ (fun _=>undef))).1 ⟨fun r d hd=>by simp [ofR] at hd,fun r r' d d' _ hd=>by simp [ofR] at hd,(hlen (hv _ _)).2,fun b hb=>hb,Keeps.refl W []⟩
 refine Calls.mono this ?_
 rintro e w' ⟨v,outs,res,ok',φ',fr,rfl,⟨rfl,rfl⟩,hd⟩
 obtain ⟨vs,e1,e2⟩:=hd.res
 simp only [OwRs,OwRV,if_true] at e2
 obtain ⟨u,us,f1,f2,rfl,_,h1,h2,_⟩:=e2
 subst h2
 simp only [Ow] at h1
 refine ⟨?_,hd.frm.os,hd.frm.tape,hd.frm.out,hd.frm.size,fun b hb=>hd.frm.old b hb (by simp)⟩
 rw [e1,h1.2]
 rfl
theorem trodAll_stays (hl:laidOutB P=true) {W':World} (hb:Below W.heap.size W W') {sp:Nat->Bool}:∀ {ts:List TypeId} {vs:List Value} {ds:List (DataW H)} {p:List MemPlace},(∀ t∈ts,P.readableRec t=true/\t < P.types.size) ->
  DataW.TrodAll enc P W 0 (fun _=>true) true ts vs ds p->(∀ x∈p,x.block < W.heap.size)->(∀ x∈p,sp x.block=true)->DataW.TrodAll enc P W' 0 sp true ts vs ds p
 | [],[],[],p,_,h,_,_=>h
 | t :: ts,v :: vs,d :: ds,p,ht,h,h1,h2=>by
  obtain ⟨p1,p2,h3,h4,rfl⟩:=h
  have h5:=ht t (by simp)
  refine ⟨p1,p2,WideElems.Trod_stays hl h5.1 h5.2 h3 (fun x hx=>hb.same (h1 x (by simp [hx]))) (fun x hx=>h2 x (by simp [hx])),trodAll_stays hl hb (fun t ht'=>ht t (by simp [ht'])) h4 (fun x hx=>h1 x (by simp [hx])) (fun x hx=>h2 x (by simp [hx])),rfl⟩
 | [],_ :: _,_,_,_,h,_,_=>h.elim
 | [],[],_ :: _,_,_,h,_,_=>h.elim
 | _ :: _,[],_,_,_,h,_,_=>h.elim
 | _ :: _,_ :: _,[],_,_,h,_,_=>h.elim
theorem post_of_below (hl:laidOutB P=true) {f:Func} {s:ChangeSpec} {apart fresh handsOn again:Bool} {W':World} {args:Array Value} {ds gs:List (DataW H)} {before:List MemPlace}
  (hW:DataW.Whole enc P f.params.toList s.vars apart W args.toList ds gs before) (hv0:s.vars=[]) (hts:∀ t∈f.params.toList,P.readableRec t=true/\t < P.types.size)
  (hfn:s.fn H ds = { results:=[.lit (.bool true)],args:=ds }) {tb:TypeId} (hres:f.resultTypes = #[tb]) (htb:P.underlying tb=some .bool) (hb:Below W.heap.size W W') (hok:∀ W':World,Value.okWide P W' .any 0 tb (.bool true)) :
  s.post enc P f apart fresh handsOn again W args (.bool true) W':=by
 have hlt:∀ p∈before,p.block < W.heap.size:=fun p hp=>hW.lt p hp
 have hW0:=hW
 obtain ⟨p,q,hA,hV,rfl,hz,hn⟩:=hW
 rw [hv0] at hV
 obtain ⟨rfl,rfl⟩:=trodVars_none hV
 simp only [List.append_nil] at hlt hz hn
 have hfn2:s.fn H (ds ++ []) = { results:=[.lit (.bool true)],args:=ds }:=by rw [List.append_nil];exact hfn
 have hvar:∀ sp:Nat->Bool,DataW.TrodVars enc P W' sp s.vars [] []:=fun sp=>by rw [hv0];rfl
 have hr:∀ (b:Nat) (sp:Nat->Bool) (hd:Bool),DataW.TrodAll enc P W' b sp hd f.resultTypes.toList ((Value.bool true).resultList f.resultTypes.size) [.lit (.bool true)] []:=fun b sp hd=>by
  rw [hres]
  exact trodAll_cons_mk (p:=[]) (p':=[]) (shut_bool htb _) trodAll_mk0
 have ha:∀ sp:Nat->Bool,(∀ x∈p,sp x.block=true)->DataW.TrodAll enc P W' 0 sp true f.params.toList args.toList ds p:=fun sp hs=>trodAll_stays hl hb hts hA hlt hs
 exact post_of_old (pa:=p) (pv:=[]) hW0 (fun b sp hd=>by rw [hfn2];exact hr b sp hd) (fun sp hs=>by rw [hfn2];exact ha sp fun x hx=>hs x (by simp [hx])) (fun sp _=>by rw [hfn2];exact hvar sp) rfl ⟨hb.os,hb.output,hb.size,hb.block⟩ (ok_one hres rfl (hok W'))
end
end Go.Proofs.Ytfcgcgmleogamaa.Ab
namespace Go.Proofs.Ytfcgcgmleogamaa.Ab
open Go Go.ChangeShapes Go.WideShapes Go.ChangeAt Go.RowKit
set_option maxRecDepth 100000
section
variable {H:Type} {enc:TypeId×Value->H} {W:World}
theorem opInt:Opens enc Try.prog W 3 1 Int (fun n=>[D.int n]) i64b:=Opens.int Try.underlying3 (by kernel_rfl)
theorem argInt:Arg enc Try.prog W 3 Int (fun n=>.int n) i64b:=Arg.one opInt (by kernel_rfl) (of_decide_eq_true (by kernel_rfl)) (by kernel_rfl)
theorem laidOut:laidOutB Try.prog=true:=by kernel_rfl
theorem okBool (W':World):Value.okWide Try.prog W' .any 0 4 (.bool true):=okWide_bool_mk Try.underlying4 _
end
end Go.Proofs.Ytfcgcgmleogamaa.Ab
namespace Go.Proofs.Ytfcgcgmleogamaa.Ab
open Go
section
variable {K:Type} [DecidableEq K]
def co (k:K):List (K×Int)->Int
 | []=>0
 | x :: l=>(if x.1=k then x.2 else 0)+co k l
theorem co_append (k:K):∀ (l r:List (K×Int)),co k (l ++ r)=co k l+co k r
 | [],r=>by simp [co]
 | x :: l,r=>by simp [co,co_append k l r,Int.add_assoc]
theorem co_none (k:K):∀ (l:List (K×Int)),(∀ x∈l,x.1≠k)->co k l=0
 | [],_=>rfl
 | x :: l,h=>by
  simp only [co]
  rw [if_neg (h x (by simp)),co_none k l fun y hy=>h y (by simp [hy])]
  rfl
theorem co_perm (k:K) {l r:List (K×Int)} (h:l.Perm r):co k l=co k r:=by
 induction h with
 | nil=>rfl
 | cons x _ ih=>simp [co,ih]
 | swap x y l=>simp only [co];omega
 | trans _ _ ih1 ih2=>rw [ih1,ih2]
theorem co_mem {k:K}:∀ {l:List (K×Int)},co k l≠0->∃ x∈l,x.1=k
 | [],h=>absurd rfl h
 | x :: l,h=>by
  simp only [co] at h
  by_cases e:x.1=k
  ·exact ⟨x,by simp,e⟩
  ·rw [if_neg e] at h
   obtain ⟨y,hy,e2⟩:=co_mem (k:=k) (l:=l) (by omega)
   exact ⟨y,by simp [hy],e2⟩
structure Ord (lt:K->K->Bool):Prop where
 irr:∀ a,lt a a=false
 tr:∀ a b c,lt a b=true->lt b c=true->lt a c=true
 tot:∀ a b,lt a b=true\/a=b\/lt b a=true
variable {lt:K->K->Bool}
def Desc (lt:K->K->Bool) (l:List (K×Int)):Prop:=l.Pairwise fun a b=>lt b.1 a.1=true
def Nz (l:List (K×Int)):Prop:=∀ x∈l,x.2≠0
theorem desc_tail_ne (ho:Ord lt) {x:K×Int} {l:List (K×Int)} (h:Desc lt (x :: l)):∀ y∈l,y.1≠x.1:=by
 intro y hy e
 have:=(List.pairwise_cons.1 h).1 y hy
 rw [e,ho.irr] at this
 simp at this
theorem desc_above (ho:Ord lt) {x:K×Int} {l:List (K×Int)} (h:Desc lt (x :: l)) {k:K} (hk:lt x.1 k=true):∀ y∈x :: l,y.1≠k:=by
 intro y hy e
 rcases List.mem_cons.1 hy with rfl | hy
 ·rw [e,ho.irr] at hk
  simp at hk
 ·have:=ho.tr _ _ _ ((List.pairwise_cons.1 h).1 y hy) hk
  rw [e,ho.irr] at this
  simp at this
theorem desc_unique (ho:Ord lt):∀ (l r:List (K×Int)),Desc lt l->Desc lt r->Nz l->Nz r->(∀ k,co k l=co k r)->l=r
 | [],[],_,_,_,_,_=>rfl
 | [],y :: r,_,h2,_,z2,h=>by
  have:=h y.1
  simp only [co,if_true] at this
  rw [co_none y.1 r (desc_tail_ne ho h2)] at this
  exact absurd (by omega) (z2 y (by simp))
 | x :: l,[],h1,_,z1,_,h=>by
  have:=h x.1
  simp only [co,if_true] at this
  rw [co_none x.1 l (desc_tail_ne ho h1)] at this
  exact absurd (by omega) (z1 x (by simp))
 | x :: l,y :: r,h1,h2,z1,z2,h=>by
  rcases ho.tot x.1 y.1 with e | e | e
  ·have:=h y.1
   rw [co_none y.1 _ (desc_above ho h1 e)] at this
   simp only [co,if_true] at this
   rw [co_none y.1 r (desc_tail_ne ho h2)] at this
   exact absurd (by omega) (z2 y (by simp))
  ·have e2:x.2=y.2:=by
    have:=h x.1
    simp only [co,if_true] at this
    rw [if_pos e.symm,co_none x.1 l (desc_tail_ne ho h1),e,co_none y.1 r (desc_tail_ne ho h2)] at this
    omega
   have exy:x=y:=Prod.ext e e2
   subst exy
   congr 1
   refine desc_unique ho l r (List.pairwise_cons.1 h1).2 (List.pairwise_cons.1 h2).2 (fun z hz=>z1 z (by simp [hz])) (fun z hz=>z2 z (by simp [hz])) fun k=>?_
   have:=h k
   simp only [co] at this
   omega
  ·have:=h x.1
   rw [co_none x.1 (y :: r) (desc_above ho h2 e)] at this
   simp only [co,if_true] at this
   rw [co_none x.1 l (desc_tail_ne ho h1)] at this
   exact absurd (by omega) (z1 x (by simp))
def insK (lt:K->K->Bool) (k:K) (c:Int):List (K×Int)->List (K×Int)
 | []=>if c=0 then [] else [(k,c)]
 | x :: l=>if x.1=k then (if x.2+c=0 then l else (k,x.2+c) :: l) else if lt x.1 k then (if c=0 then x :: l else (k,c) :: x :: l) else x :: insK lt k c l
def nf (lt:K->K->Bool):List (K×Int)->List (K×Int)
 | []=>[]
 | x :: l=>insK lt x.1 x.2 (nf lt l)
theorem insK_mem {k:K} {c:Int}:∀ {l:List (K×Int)} {y:K×Int},y∈insK lt k c l->y.1=k\/y∈l
 | [],y,h=>by
  simp only [insK] at h
  split at h
  ·simp at h
  ·simp only [List.mem_singleton] at h
   subst h
   exact .inl rfl
 | x :: l,y,h=>by
  simp only [insK] at h
  split at h
  ·split at h
   ·exact .inr (by simp [h])
   ·rcases List.mem_cons.1 h with rfl | h
    ·exact .inl rfl
    ·exact .inr (by simp [h])
  ·split at h
   ·split at h
    ·exact .inr h
    ·rcases List.mem_cons.1 h with rfl | h
     ·exact .inl rfl
     ·exact .inr h
   ·rcases List.mem_cons.1 h with rfl | h
    ·exact .inr (by simp)
    ·rcases insK_mem h with h | h
     ·exact .inl h
     ·exact .inr (by simp [h])
theorem insK_desc (ho:Ord lt) (k:K) (c:Int):∀ (l:List (K×Int)),Desc lt l->Desc lt (insK lt k c l)
 | [],_=>by
  simp only [insK]
  split
  ·exact List.Pairwise.nil
  ·exact List.pairwise_singleton _ _
 | x :: l,h=>by
  have h1:=List.pairwise_cons.1 h
  simp only [insK]
  split
  ·rename_i e
   split
   ·exact h1.2
   ·exact List.pairwise_cons.2 ⟨fun y hy=>by rw [<-e];exact h1.1 y hy,h1.2⟩
  ·rename_i e
   split
   ·rename_i e2
    split
    ·exact h
    ·refine List.pairwise_cons.2 ⟨fun y hy=>?_,h⟩
     rcases List.mem_cons.1 hy with rfl | hy
     ·exact e2
     ·exact ho.tr _ _ _ (h1.1 y hy) e2
   ·rename_i e2
    refine List.pairwise_cons.2 ⟨fun y hy=>?_,insK_desc ho k c l h1.2⟩
    rcases insK_mem hy with hy | hy
    ·rw [hy]
     rcases ho.tot k x.1 with q | q | q
     ·exact q
     ·exact absurd q.symm e
     ·exact absurd q e2
    ·exact h1.1 y hy
theorem insK_nz (k:K) (c:Int):∀ (l:List (K×Int)),Nz l->Nz (insK lt k c l)
 | [],_=>by
  simp only [insK]
  split
  ·intro y hy;simp at hy
  ·rename_i hc
   intro y hy
   simp only [List.mem_singleton] at hy
   subst hy
   exact hc
 | x :: l,h=>by
  have h1:Nz l:=fun z hz=>h z (by simp [hz])
  simp only [insK]
  split
  ·split
   ·exact h1
   ·rename_i hc
    intro y hy
    rcases List.mem_cons.1 hy with rfl | hy
    ·exact hc
    ·exact h1 y hy
  ·split
   ·split
    ·exact h
    ·rename_i hc
     intro y hy
     rcases List.mem_cons.1 hy with rfl | hy
     ·exact hc
     ·exact h y hy
   ·intro y hy
    rcases List.mem_cons.1 hy with rfl | hy
    ·exact h y (by simp)
    ·exact insK_nz k c l h1 y hy
theorem insK_co (k:K) (c:Int) (q:K):∀ (l:List (K×Int)),co q (insK lt k c l)=(if k=q then c else 0)+co q l
 | []=>by
  simp only [insK]
  split
  ·rename_i e
   subst e
   simp [co]
  ·simp [co]
 | x :: l=>by
  simp only [insK]
  split
  ·rename_i e
   split
   ·rename_i e2
    simp only [co,e]
    split <;> omega
   ·simp only [co,e]
    split <;> omega
  ·split
   ·split
    ·rename_i e
     subst e
     simp
    ·simp only [co]
   ·simp only [co,insK_co k c q l]
    omega
theorem nf_desc (ho:Ord lt):∀ (l:List (K×Int)),Desc lt (nf lt l)
 | []=>List.Pairwise.nil
 | x :: l=>insK_desc ho _ _ _ (nf_desc ho l)
theorem nf_nz:∀ (l:List (K×Int)),Nz (nf lt l)
 | []=>by intro y hy;simp [nf] at hy
 | x :: l=>insK_nz _ _ _ (nf_nz l)
theorem nf_co (q:K):∀ (l:List (K×Int)),co q (nf lt l)=co q l
 | []=>rfl
 | x :: l=>by
  simp only [nf,insK_co,nf_co q l,co]
theorem nf_mem:∀ {l:List (K×Int)} {y:K×Int},y∈nf lt l->∃ x∈l,x.1=y.1
 | [],y,h=>by simp [nf] at h
 | x :: l,y,h=>by
  rcases insK_mem h with h | h
  ·exact ⟨x,by simp,h.symm⟩
  ·obtain ⟨z,hz,e⟩:=nf_mem h
   exact ⟨z,by simp [hz],e⟩
theorem nf_unique (ho:Ord lt) {t l:List (K×Int)} (h1:Desc lt t) (h2:Nz t) (h3:∀ k,co k t=co k l):t=nf lt l:=
 desc_unique ho t (nf lt l) h1 (nf_desc ho l) h2 (nf_nz l) fun k=>by rw [h3 k,nf_co]
end
def lexlt:List Int->List Int->Bool
 | [],[]=>false
 | [],_ :: _=>true
 | _ :: _,[]=>false
 | a :: x,b :: y=>if a=b then lexlt x y else decide (a < b)
theorem lexlt_irr:∀ a,lexlt a a=false
 | []=>rfl
 | a :: x=>by simp [lexlt,lexlt_irr x]
theorem lexlt_tr:∀ a b c,lexlt a b=true->lexlt b c=true->lexlt a c=true
 | [],[],_,h,_=>by simp [lexlt] at h
 | [],_ :: _,[],_,h=>by simp [lexlt] at h
 | [],_ :: _,_ :: _,_,_=>rfl
 | _ :: _,[],_,h,_=>by simp [lexlt] at h
 | _ :: _,_ :: _,[],_,h=>by simp [lexlt] at h
 | a :: x,b :: y,c :: z,h1,h2=>by
  simp only [lexlt] at h1 h2 ⊢
  by_cases e1:a=b
  ·subst e1
   rw [if_pos rfl] at h1
   by_cases e2:a=c
   ·subst e2
    rw [if_pos rfl] at h2 ⊢
    exact lexlt_tr x y z h1 h2
   ·rw [if_neg e2] at h2 ⊢
    exact h2
  ·rw [if_neg e1] at h1
   by_cases e2:b=c
   ·subst e2
    rw [if_neg e1]
    exact h1
   ·rw [if_neg e2] at h2
    simp only [decide_eq_true_eq] at h1 h2
    rw [if_neg (by omega)]
    simp only [decide_eq_true_eq]
    omega
theorem lexlt_tot:∀ a b,lexlt a b=true\/a=b\/lexlt b a=true
 | [],[]=>.inr (.inl rfl)
 | [],_ :: _=>.inl rfl
 | _ :: _,[]=>.inr (.inr rfl)
 | a :: x,b :: y=>by
  simp only [lexlt]
  by_cases e:a=b
  ·subst e
   simp only [if_true]
   rcases lexlt_tot x y with h | h | h
   ·exact .inl h
   ·exact .inr (.inl (by rw [h]))
   ·exact .inr (.inr h)
  ·rw [if_neg e,if_neg (Ne.symm e)]
   simp only [decide_eq_true_eq]
   omega
theorem lexOrd:Ord lexlt:=⟨lexlt_irr,lexlt_tr,lexlt_tot⟩
def qlt (a b:List Int×Int):Bool:=if a.1=b.1 then decide (a.2 < b.2) else lexlt a.1 b.1
end Go.Proofs.Ytfcgcgmleogamaa.Ab
namespace Go.Proofs.Ytfcgcgmleogamaa.Ab
open Go
section
variable {K:Type} [DecidableEq K]
structure Act (lt:K->K->Bool) (mul dv:K->K->K) (D:K->Prop):Prop where
 mul_dv:∀ a b,D a->D b->mul (dv a b) b=a
 dv_lt:∀ x y b,D x->D y->D b->lt x y=true->lt (dv x b) (dv y b)=true
 mul_lt:∀ e x y,D e->D x->D y->lt x y=true->lt (mul e x) (mul e y)=true
 dmul:∀ a b,D a->D b->D (mul a b)
 ddv:∀ a b,D a->D b->D (dv a b)
def mulT (mul:K->K->K) (e:K) (q:Int) (g:List (K×Int)):List (K×Int):=g.map fun y=>(mul e y.1,q*y.2)
def prodK (mul:K->K->K) (a g:List (K×Int)):List (K×Int):=a.flatMap fun x=>mulT mul x.1 x.2 g
def divGo (lt:K->K->Bool) (mul dv:K->K->K) (chk:K->Int->Bool) (g:List (K×Int)) (b:K) (d:Int):Nat->List (K×Int)->Option (List (K×Int))
 | _,[]=>some []
 | 0,_ :: _=>none
 | k+1,x :: R=>if x.2.tmod d=0/\chk (dv x.1 b) (x.2.tdiv d)=true then
   (divGo lt mul dv chk g b d k (nf lt (x :: R ++ mulT mul (dv x.1 b) (-(x.2.tdiv d)) g))).map ((dv x.1 b,x.2.tdiv d) :: ·) else none
variable {lt:K->K->Bool} {mul dv:K->K->K} {D:K->Prop} {chk chk':K->Int->Bool} {g:List (K×Int)} {b:K} {d:Int}
theorem co_mulT_neg (mul:K->K->K) (k e:K) (q:Int):∀ g:List (K×Int),co k (mulT mul e (-q) g)=-co k (mulT mul e q g)
 | []=>rfl
 | y :: g=>by
  simp only [mulT,List.map_cons,co]
  have:=co_mulT_neg mul k e q g
  simp only [mulT] at this
  rw [this]
  split
  ·rw [Int.neg_mul];omega
  ·omega
theorem tmod_tdiv {a d:Int} (h:a.tmod d=0):a.tdiv d*d=a:=by
 have:=Int.mul_tdiv_add_tmod a d
 rw [h,Int.mul_comm] at this
 omega
theorem step_less (ho:Ord lt) (ha:Act lt mul dv D) {x:K×Int} {R:List (K×Int)} {G:List (K×Int)} (hR:Desc lt (x :: R)) (hRD:∀ y∈x :: R,D y.1) (hg:Desc lt ((b,d) :: G)) (hgD:∀ y∈(b,d) :: G,D y.1) (hm:x.2.tmod d=0) :
  (∀ y∈nf lt (x :: R ++ mulT mul (dv x.1 b) (-(x.2.tdiv d)) ((b,d) :: G)),lt y.1 x.1=true/\D y.1):=by
 intro y hy
 have hb:=hgD (b,d) (by simp)
 have hx:=hRD x (by simp)
 have hdv:=ha.ddv x.1 b hx hb
 have key:D y.1/\(y.1=x.1\/lt y.1 x.1=true):=by
  obtain ⟨z,hz,e⟩:=nf_mem hy
  rw [<-e]
  rcases List.mem_append.1 hz with hz | hz
  ·refine ⟨hRD z hz,?_⟩
   rcases List.mem_cons.1 hz with rfl | hz
   ·exact .inl rfl
   ·exact .inr (List.rel_of_pairwise_cons hR hz)
  ·obtain ⟨u,hu,rfl⟩:=List.mem_map.1 hz
   refine ⟨ha.dmul _ _ hdv (hgD u hu),?_⟩
   rcases List.mem_cons.1 hu with rfl | hu2
   ·exact .inl (ha.mul_dv _ _ hx hb)
   ·right
    have:=ha.mul_lt (dv x.1 b) u.1 b hdv (hgD u hu) hb (List.rel_of_pairwise_cons hg hu2)
    rwa [ha.mul_dv _ _ hx hb] at this
 refine ⟨?_,key.1⟩
 rcases key.2 with e | h
 ·exfalso
  have hz:=nf_nz _ y hy
  have h1:co y.1 (nf lt (x :: R ++ mulT mul (dv x.1 b) (-(x.2.tdiv d)) ((b,d) :: G)))=y.2:=by
   have hd:=nf_desc ho (x :: R ++ mulT mul (dv x.1 b) (-(x.2.tdiv d)) ((b,d) :: G))
   generalize nf lt (x :: R ++ mulT mul (dv x.1 b) (-(x.2.tdiv d)) ((b,d) :: G))=N at hy hd
   clear hz e key
   induction N with
   | nil=>simp at hy
   | cons z N ih=>
    simp only [co]
    rcases List.mem_cons.1 hy with rfl | hy2
    ·rw [if_pos rfl,co_none _ _ (desc_tail_ne ho hd)]
     omega
    ·rw [if_neg (fun e=>desc_tail_ne ho hd y hy2 e.symm),ih hy2 (List.Pairwise.of_cons hd)]
     omega
  rw [nf_co,co_append,co_mulT_neg,e] at h1
  simp only [co,if_pos,mulT,List.map_cons,ha.mul_dv _ _ hx hb] at h1
  rw [co_none _ R (desc_tail_ne ho hR),co_none x.1 _ (fun z hz=>?_),tmod_tdiv hm] at h1
  ·exact hz (by omega)
  ·obtain ⟨u,hu,rfl⟩:=List.mem_map.1 hz
   have h2:=ha.mul_lt (dv x.1 b) u.1 b hdv (hgD u (by simp [hu])) hb (List.rel_of_pairwise_cons hg hu)
   rw [ha.mul_dv _ _ hx hb] at h2
   intro e3
   simp only at e3
   rw [e3,ho.irr] at h2
   simp at h2
 ·exact h
theorem co_single (ho:Ord lt):∀ {l:List (K×Int)} {x:K×Int},Desc lt l->x∈l->co x.1 l=x.2
 | [],x,_,h=>by simp at h
 | z :: l,x,hd,h=>by
  simp only [co]
  rcases List.mem_cons.1 h with rfl | h2
  ·rw [if_pos rfl,co_none _ _ (desc_tail_ne ho hd)]
   omega
  ·rw [if_neg (fun e=>desc_tail_ne ho hd x h2 e.symm),co_single ho (List.Pairwise.of_cons hd) h2]
   omega
def absK (l:List (K×Int)):Nat:=(l.map fun x=>x.2.natAbs).sum
theorem absK_append (l r:List (K×Int)):absK (l ++ r)=absK l+absK r:=by simp [absK]
theorem insK_abs (k:K) (c:Int):∀ l:List (K×Int),absK (insK lt k c l)<=c.natAbs+absK l/\(insK lt k c l).length<=l.length+1
 | []=>by
  simp only [insK]
  split <;> simp [absK]
 | x :: l=>by
  have ih:=insK_abs k c l
  simp only [insK]
  split
  ·split
   ·simp [absK];omega
   ·simp [absK];omega
  ·split
   ·split
    ·simp [absK]
    ·simp [absK]
   ·simp only [absK,List.map_cons,List.sum_cons,List.length_cons] at ih ⊢
    omega
theorem nf_abs:∀ l:List (K×Int),absK (nf lt l)<=absK l/\(nf lt l).length<=l.length
 | []=>by simp [nf,absK]
 | x :: l=>by
  have ih:=nf_abs l
  have h:=insK_abs (lt:=lt) x.1 x.2 (nf lt l)
  simp only [nf]
  simp only [absK,List.map_cons,List.sum_cons,List.length_cons] at ih h ⊢
  omega
theorem mulT_abs (e:K) (q:Int):∀ g:List (K×Int),absK (mulT mul e q g)=q.natAbs*absK g
 | []=>rfl
 | y :: g=>by
  have:=mulT_abs e q g
  simp only [absK,mulT,List.map_cons,List.sum_cons,List.map_map] at this ⊢
  rw [Int.natAbs_mul,Nat.mul_add]
  omega
@[simp] theorem mulT_length (e:K) (q:Int) (g:List (K×Int)):(mulT mul e q g).length=g.length:=by simp [mulT]
end
end Go.Proofs.Ytfcgcgmleogamaa.Ab
namespace Go.Proofs.Ytfcgcgmleogamaa.Ab
open Go
section
variable {K:Type} [DecidableEq K] {lt:K->K->Bool} {mul:K->K->K}
def vl (φ:K->Int):List (K×Int)->Int
 | []=>0
 | x :: l=>x.2*φ x.1+vl φ l
omit [DecidableEq K] in
theorem vl_app (φ:K->Int):∀ l r:List (K×Int),vl φ (l ++ r)=vl φ l+vl φ r
 | [],r=>by simp [vl]
 | x :: l,r=>by simp only [List.cons_append,vl,vl_app φ l r];omega
theorem vl_insK (φ:K->Int) (k:K) (c:Int):∀ l:List (K×Int),vl φ (insK lt k c l)=c*φ k+vl φ l
 | []=>by
  simp only [insK]
  split
  ·rename_i h;simp [vl,h]
  ·simp [vl]
 | x :: l=>by
  simp only [insK]
  split
  ·rename_i h
   subst h
   split
   ·rename_i h2
    have:c=-x.2:=by omega
    subst this
    simp only [vl,Int.neg_mul]
    omega
   ·simp only [vl,Int.add_mul]
    omega
  ·split
   ·split
    ·rename_i h;simp [vl,h]
    ·simp only [vl]
   ·simp only [vl,vl_insK φ k c l]
    omega
theorem vl_nf (φ:K->Int):∀ l:List (K×Int),vl φ (nf lt l)=vl φ l
 | []=>rfl
 | x :: l=>by simp only [nf,vl_insK,vl_nf φ l,vl]
theorem co_vl (k:K):∀ l:List (K×Int),co k l=vl (fun e=>if e=k then 1 else 0) l
 | []=>rfl
 | x :: l=>by
  simp only [co,vl,co_vl k l]
  split <;> simp
theorem nf_vl (ho:Ord lt) {l r:List (K×Int)} (h:∀ φ,vl φ l=vl φ r):nf lt l=nf lt r:=
 nf_unique ho (nf_desc ho _) (nf_nz _) fun k=>by rw [nf_co,co_vl,co_vl,h]
omit [DecidableEq K] in
theorem vl_congr {φ ψ:K->Int}:∀ {l:List (K×Int)},(∀ x∈l,φ x.1=ψ x.1)->vl φ l=vl ψ l
 | [],_=>rfl
 | x :: l,h=>by
  simp only [vl,h x (by simp),vl_congr (l:=l) fun y hy=>h y (by simp [hy])]
omit [DecidableEq K] in
theorem vl_add (φ ψ:K->Int):∀ l:List (K×Int),vl (fun e=>φ e+ψ e) l=vl φ l+vl ψ l
 | []=>rfl
 | x :: l=>by
  simp only [vl,vl_add φ ψ l,Int.mul_add]
  omega
omit [DecidableEq K] in
theorem vl_mul (c:Int) (φ:K->Int):∀ l:List (K×Int),vl (fun e=>c*φ e) l=c*vl φ l
 | []=>by simp [vl]
 | x :: l=>by
  simp only [vl,vl_mul c φ l,Int.mul_add]
  rw [Int.mul_left_comm]
omit [DecidableEq K] in
theorem vl_zero:∀ l:List (K×Int),vl (fun _=>0) l=0
 | []=>rfl
 | x :: l=>by simp [vl,vl_zero l]
omit [DecidableEq K] in
theorem vl_fub {J:Type} (φ:K->J->Int) (b:List (J×Int)):∀ a:List (K×Int),vl (fun e=>vl (fun e'=>φ e e') b) a=vl (fun e'=>vl (fun e=>φ e e') a) b
 | []=>by
  simp only [vl]
  rw [vl_zero]
 | x :: a=>by
  simp only [vl]
  rw [vl_add,vl_mul,vl_fub φ b a]
omit [DecidableEq K] in
theorem vl_map (g:K->K) (q:Int) (φ:K->Int):∀ l:List (K×Int),vl φ (l.map fun y=>(g y.1,q*y.2))=q*vl (fun e=>φ (g e)) l
 | []=>by simp [vl]
 | x :: l=>by
  simp only [List.map_cons,vl,vl_map g q φ l,Int.mul_add,Int.mul_assoc]
omit [DecidableEq K] in
theorem vl_prodK (φ:K->Int) (g:List (K×Int)):∀ a:List (K×Int),vl φ (prodK mul a g)=vl (fun e=>vl (fun e'=>φ (mul e e')) g) a
 | []=>rfl
 | x :: a=>by
  have:=vl_prodK φ g a
  unfold prodK at this ⊢
  simp only [List.flatMap_cons,vl_app,vl,this]
  unfold mulT
  rw [vl_map]
omit [DecidableEq K] in
theorem vl_prod_com {D:K->Prop} (hc:∀ a b,D a->D b->mul a b=mul b a) (φ:K->Int) {a b:List (K×Int)} (ha:∀ x∈a,D x.1) (hb:∀ x∈b,D x.1):vl φ (prodK mul a b)=vl φ (prodK mul b a):=by
 rw [vl_prodK,vl_prodK,vl_fub]
 exact vl_congr fun x hx=>vl_congr fun y hy=>by rw [hc _ _ (ha y hy) (hb x hx)]
omit [DecidableEq K] in
omit [DecidableEq K] in
end
end Go.Proofs.Ytfcgcgmleogamaa.Ab
namespace Go.Proofs.Ytfcgcgmleogamaa.Ab
open Go
def keyA (k:Int):List Int->Int
 | []=>k
 | x :: l=>keyA (k*128+x+64) l
def Dig (l:List Int):Prop:=∀ x∈l,-64<=x/\x<=63
theorem Dig.tail {x:Int} {l:List Int} (h:Dig (x :: l)):Dig l:=fun y hy=>h y (by simp [hy])
theorem Dig.head {x:Int} {l:List Int} (h:Dig (x :: l)):-64<=x/\x<=63:=h x (by simp)
theorem keyA_append:∀ (a b:List Int) (k:Int),keyA k (a ++ b)=keyA (keyA k a) b
 | [],b,k=>rfl
 | x :: a,b,k=>by simp [keyA,keyA_append a b]
theorem keyA_lt:∀ (a b:List Int) (p q:Int),a.length=b.length->Dig a->Dig b->p < q->keyA p a < keyA q b
 | [],[],p,q,_,_,_,h=>h
 | x :: a,y :: b,p,q,hl,ha,hb,h=>by
  have h1:=ha.head
  have h2:=hb.head
  exact keyA_lt a b _ _ (by simpa using hl) ha.tail hb.tail (by omega)
 | [],_ :: _,_,_,h,_,_,_=>by simp at h
 | _ :: _,[],_,_,h,_,_,_=>by simp at h
theorem keyA_lex:∀ (a b:List Int) (p:Int),a.length=b.length->Dig a->Dig b->lexlt a b=true->keyA p a < keyA p b
 | [],[],p,_,_,_,h=>by simp [lexlt] at h
 | x :: a,y :: b,p,hl,ha,hb,h=>by
  simp only [lexlt] at h
  have h1:=ha.head
  have h2:=hb.head
  split at h
  ·rename_i e
   subst e
   exact keyA_lex a b _ (by simpa using hl) ha.tail hb.tail h
  ·simp only [decide_eq_true_eq] at h
   exact keyA_lt a b _ _ (by simpa using hl) ha.tail hb.tail (by omega)
 | [],_ :: _,_,h,_,_,_=>by simp at h
 | _ :: _,[],_,h,_,_,_=>by simp at h
theorem keyA_inj {a b:List Int} {p:Int} (hl:a.length=b.length) (ha:Dig a) (hb:Dig b) (h:keyA p a=keyA p b):a=b:=by
 rcases lexlt_tot a b with h1 | h1 | h1
 ·have:=keyA_lex a b p hl ha hb h1
  omega
 ·exact h1
 ·have:=keyA_lex b a p hl.symm hb ha h1
  omega
theorem keyA_lex_iff {a b:List Int} {p:Int} (hl:a.length=b.length) (ha:Dig a) (hb:Dig b):lexlt a b=decide (keyA p a < keyA p b):=by
 rcases lexlt_tot a b with h1 | h1 | h1
 ·have:=keyA_lex a b p hl ha hb h1
  simp [h1,this]
 ·subst h1
  simp [lexlt_irr]
 ·have:=keyA_lex b a p hl.symm hb ha h1
  have h2:lexlt a b=false:=by
   cases h3:lexlt a b with
   | false=>rfl
   | true=>
    have:=lexlt_tr _ _ _ h1 h3
    rw [lexlt_irr] at this
    simp at this
  rw [h2]
  simp
  omega
theorem keyA_nonneg:∀ (a:List Int) (p:Int),Dig a->0<=p->0<=keyA p a
 | [],p,_,h=>h
 | x :: a,p,ha,h=>keyA_nonneg a _ ha.tail (by have:=ha.head;omega)
theorem keyA_bound:∀ (a:List Int) (p B:Int),Dig a->0<=p->p < B->keyA p a < B*128 ^ a.length
 | [],p,B,_,_,h=>by simpa [keyA] using h
 | x :: a,p,B,ha,h0,h=>by
  have h1:=ha.head
  have:=keyA_bound a (p*128+x+64) (B*128) ha.tail (by omega) (by omega)
  rw [List.length_cons,Int.pow_succ,Int.mul_comm _ (128:Int),<-Int.mul_assoc]
  exact this
theorem keyA_key {a:List Int} (ha:Dig a) (hl:a.length<=8):0<=keyA 0 a/\keyA 0 a < 72057594037927936:=by
 refine ⟨keyA_nonneg a 0 ha (by omega),?_⟩
 have h:=keyA_bound a 0 1 ha (by omega) (by omega)
 have h2:(128:Int) ^ a.length<=128 ^ 8:=by
  have:(128:Nat) ^ a.length<=128 ^ 8:=Nat.pow_le_pow_right (by omega) hl
  exact_mod_cast this
 have h3:(128:Int) ^ 8=72057594037927936:=by decide
 omega
def addE (k:Int):List Int->List Int->List Int
 | x :: a,y :: b=>(x+k*y) :: addE k a b
 | a,[]=>a
 | [],_=>[]
theorem addE_length (k:Int):∀ (a b:List Int),a.length=b.length->(addE k a b).length=a.length
 | [],[],_=>rfl
 | x :: a,y :: b,h=>by simp [addE,addE_length k a b (by simpa using h)]
 | [],_ :: _,h=>by simp at h
 | _ :: _,[],h=>by simp at h
theorem addE_snoc (t x y:Int):∀ (a b:List Int),a.length=b.length->addE t (a ++ [x]) (b ++ [y])=addE t a b ++ [x+t*y]
 | [],[],_=>rfl
 | u :: a,v :: b,h=>by simp [addE,addE_snoc t x y a b (by simpa using h)]
 | [],_ :: _,h=>by simp at h
 | _ :: _,[],h=>by simp at h
theorem addE_get {t:Int} {aas bs:List Int} {i:Nat} (h:i < aas.length) (hl:aas.length=bs.length):(addE t (aas.take i) (bs.take i) ++ aas.drop i)[i]? = some aas[i]:=by
 have h1:(addE t (aas.take i) (bs.take i)).length=i:=by
  rw [addE_length _ _ _ (by simp;omega)]
  simp
  omega
 rw [List.getElem?_append_right (by omega),h1,Nat.sub_self,List.drop_eq_getElem_cons h]
 rfl
theorem addE_step {t:Int} {aas bs:List Int} {i:Nat} (h:i < aas.length) (hl:aas.length=bs.length):(addE t (aas.take i) (bs.take i) ++ aas.drop i).set i (aas[i]+t*bs[i])=addE t (aas.take (i+1)) (bs.take (i+1)) ++ aas.drop (i+1):=by
 have h1:(addE t (aas.take i) (bs.take i)).length=i:=by
  rw [addE_length _ _ _ (by simp;omega)]
  simp
  omega
 rw [List.set_append_right _ _ (by omega),h1,Nat.sub_self,List.drop_eq_getElem_cons h,List.set_cons_zero,List.take_succ_eq_append_getElem h,List.take_succ_eq_append_getElem (show i < bs.length by omega),addE_snoc _ _ _ _ _ (by simp;omega),List.append_assoc]
 rfl
theorem keyA_add:∀ (a b:List Int) (p q s:Int),a.length=b.length->keyA (p+q - s) (addE 1 a b)=keyA p a+keyA q b - keyA s (List.replicate a.length 0)
 | [],[],p,q,s,_=>rfl
 | x :: a,y :: b,p,q,s,h=>by
  simp only [addE,keyA,List.length_cons,List.replicate_succ]
  rw [<-keyA_add a b _ _ _ (by simpa using h)]
  congr 1
  omega
 | [],_ :: _,_,_,_,h=>by simp at h
 | _ :: _,[],_,_,_,h=>by simp at h
theorem keyA_dec {a:List Int} {x p:Int} (ha:Dig a) (hx:-64<=x/\x<=63) (hp:0<=p):(keyA p (a ++ [x])).tmod 128 - 64=x/\(keyA p (a ++ [x])).tdiv 128=keyA p a:=by
 have h:=keyA_nonneg a p ha hp
 rw [keyA_append]
 simp only [keyA]
 rw [Int.tmod_eq_emod_of_nonneg (by omega),Int.tdiv_eq_ediv_of_nonneg (by omega)]
 omega
end Go.Proofs.Ytfcgcgmleogamaa.Ab
namespace Go.Proofs.Ytfcgcgmleogamaa.Ab
open Go
def Good (v:Int) (t:Trm):Prop:=(t.e.length:Int)=v/\t.c≠0/\(-1000000<=t.c/\t.c<=1000000)/\∀ x∈t.e,-20<=x/\x<=20
def DescT (ts:List Trm):Prop:=ts.Pairwise fun a b=>lexlt b.e a.e=true
def Right (f:Lau):Prop:=(1<=f.v/\f.v<=8)/\f.ts.length<=600/\(∀ t∈f.ts,Good f.v t)/\DescT f.ts
noncomputable instance (f:Lau):Decidable (Right f):=Classical.propDecidable _
def zeroF:Lau:=⟨0,[]⟩
theorem descT_snoc {ts:List Trm} {t:Trm} (h:DescT ts) (hl:∀ x,ts.getLast? = some x->lexlt t.e x.e=true):DescT (ts ++ [t]):=by
 unfold DescT at *
 rw [List.pairwise_append]
 refine ⟨h,List.pairwise_singleton _ _,fun a ha b hb=>?_⟩
 simp only [List.mem_singleton] at hb
 subst hb
 rcases List.eq_nil_or_concat ts with rfl | ⟨l,x,rfl⟩
 ·simp at ha
 ·have hx:=hl x (by simp)
  simp only [List.concat_eq_append,List.mem_append,List.mem_singleton] at ha
  rcases ha with ha | rfl
  ·simp only [List.concat_eq_append] at h
   rw [List.pairwise_append] at h
   exact lexlt_tr _ _ _ hx (h.2.2 a ha x (by simp))
  ·exact hx
theorem descT_step {ts:List Trm} {j:Nat} (h1:j < ts.length) (h:DescT (ts.take j)) (hl:j=0\/lexlt ts[j].e ts[j - 1].e=true):DescT (ts.take (j+1)):=by
 rw [List.take_succ_eq_append_getElem h1]
 refine descT_snoc h fun x hx=>?_
 rcases hl with rfl | hl
 ·simp at hx
 ·rcases Nat.eq_zero_or_pos j with rfl | hj
  ·simp at hx
  ·have:(ts.take j).getLast? = some ts[j - 1]:=by
    rw [List.getLast?_eq_getElem?,List.length_take,Nat.min_eq_left (Nat.le_of_lt h1),List.getElem?_take_of_lt (by omega),List.getElem?_eq_getElem (by omega)]
   rw [this] at hx
   injection hx with hx
   subst hx
   exact hl
theorem descT_next {ts:List Trm} {j:Nat} (h1:j < ts.length) (h:DescT ts):j=0\/lexlt ts[j].e ts[j - 1].e=true:=by
 rcases Nat.eq_zero_or_pos j with rfl | hj
 ·exact .inl rfl
 ·right
  exact List.pairwise_iff_getElem.1 h (j - 1) j (by omega) h1 (by omega)
def gM (x:Int×Int):List D:=[D.int x.1,D.int x.2]
theorem gM_two (x:Int×Int):(gM x).length=2:=rfl
@[simp] theorem gM_length (l:List (Int×Int)):(rows gM l).length=2*l.length:=rows_length gM_two l
theorem gM_leaf:∀ l:List (Int×Int),leafL (rows gM l)
 | []=>trivial
 | x :: l=>⟨rfl,rfl,gM_leaf l⟩
theorem gM_noSh (l:List (Int×Int)):noShL (rows gM l):=rows_noSh (fun t=>by simp [gM,noShL,noSh]) l
theorem gM_share:∀ l:List (Int×Int),shareL (rows gM l)=rows gM l
 | []=>rfl
 | x :: l=>by simp [rows,gM,shareL,share,gM_share l]
attribute [simp] gM_leaf gM_noSh gM_share
theorem gM_snoc (l:List (Int×Int)) (k c:Int):rows gM l ++ [D.v (.int .i64 k),D.v (.int .i64 c)]=rows gM (l ++ [(k,c)]):=by
 rw [rows_append]
 rfl
section
variable {l:List (Int×Int)} {i:Nat}
theorem gM_0 (h:i < l.length):(rows gM l)[2*i]? = some (D.int l[i].1)/\∀ h',(rows gM l)[2*i]'h'=D.int l[i].1:=twice (rows_get gM_two l i 0 h (by omega))
theorem gM_1 (h:i < l.length):(rows gM l)[2*i+1]? = some (D.int l[i].2)/\∀ h',(rows gM l)[2*i+1]'h'=D.int l[i].2:=twice (rows_get gM_two l i 1 h (by omega))
theorem gM_set1 (h:i < l.length) (x:Int):(rows gM l).set (2*i+1) (.v (.int .i64 x))=rows gM (l.set i (l[i].1,x)):=rows_set gM_two l i 1 _ _ h (by omega) rfl
end
def ilt (a b:Int):Bool:=decide (a < b)
theorem ilt_ord:Ord ilt:=⟨fun a=>by simp [ilt],fun a b c h1 h2=>by simp [ilt] at *;omega,fun a b=>by simp only [ilt,decide_eq_true_eq];omega⟩
def Exps (n:Nat) (l:List (List Int×Int)):Prop:=∀ x∈l,x.1.length=n/\Dig x.1
def kc (x:List Int×Int):Int×Int:=(keyA 0 x.1,x.2)
def tm (x:List Int×Int):Trm:=⟨x.1,x.2⟩
def pr (t:Trm):List Int×Int:=(t.e,t.c)
theorem insK_key {n:Nat} (k:List Int) (c:Int) (hk:k.length=n/\Dig k):∀ (l:List (List Int×Int)),Exps n l->insK ilt (keyA 0 k) c (l.map kc)=(insK lexlt k c l).map kc
 | [],_=>by
  simp only [insK,List.map_nil]
  split <;> simp [kc]
 | x :: l,h=>by
  have hx:=h x (by simp)
  have hl:Exps n l:=fun y hy=>h y (by simp [hy])
  simp only [insK,List.map_cons]
  have e1:((kc x).1=keyA 0 k)↔(x.1=k):=⟨fun e=>keyA_inj (hx.1.trans hk.1.symm) hx.2 hk.2 e,fun e=>by simp [kc,e]⟩
  have e2:ilt (kc x).1 (keyA 0 k)=lexlt x.1 k:=(keyA_lex_iff (hx.1.trans hk.1.symm) hx.2 hk.2).symm
  by_cases q:x.1=k
  ·rw [if_pos (e1.2 q),if_pos q]
   show (if x.2+c=0 then _ else _)=_
   split <;> simp [kc]
  ·rw [if_neg (fun e=>q (e1.1 e)),if_neg q,e2]
   split
   ·split <;> simp [kc]
   ·rw [insK_key k c hk l hl,List.map_cons]
theorem nf_exps {n:Nat} {l:List (List Int×Int)} (h:Exps n l):Exps n (nf lexlt l):=fun y hy=>by
 obtain ⟨x,hx,e⟩:=nf_mem hy
 rw [<-e]
 exact h x hx
theorem nf_key {n:Nat}:∀ (l:List (List Int×Int)),Exps n l->nf ilt (l.map kc)=(nf lexlt l).map kc
 | [],_=>rfl
 | x :: l,h=>by
  have hl:Exps n l:=fun y hy=>h y (by simp [hy])
  simp only [nf,List.map_cons]
  rw [nf_key l hl]
  exact insK_key x.1 x.2 (h x (by simp)) _ (nf_exps hl)
noncomputable def shutF (v:Int) (l:List (List Int×Int)):Lau×Bool:=if Right ⟨v,(nf lexlt l).map tm⟩ then (⟨v,(nf lexlt l).map tm⟩,true) else (zeroF,false)
def prodL (a b:List (List Int×Int)):List (List Int×Int):=a.flatMap fun x=>b.map fun y=>(addE 1 x.1 y.1,x.2*y.2)
noncomputable def mulF (f g:Lau):Lau×Bool:=if Right f/\Right g/\f.v=g.v then shutF f.v (prodL (f.ts.map pr) (g.ts.map pr)) else (zeroF,false)
end Go.Proofs.Ytfcgcgmleogamaa.Ab
namespace Go.Proofs.Ytfcgcgmleogamaa.Ab
open Go
abbrev LS:=List (List Int×Int)
def phT (T:Nat) (e:List Int):Int:=(T:Int) ^ (keyA 0 e).toNat
def bsN (n:Nat):Nat:=(keyA 0 (List.replicate n 0)).toNat
def eT (T:Nat) (l:LS):Int:=vl (phT T) l
theorem eT_app (T:Nat) (l r:LS):eT T (l ++ r)=eT T l+eT T r:=vl_app _ l r
theorem eT_nf (T:Nat) (l:LS):eT T (nf lexlt l)=eT T l:=vl_nf _ l
theorem phT_pos {T:Nat} (hT:1<=T) (e:List Int):0 < phT T e:=Int.pow_pos (by omega)
theorem dig_rep (n:Nat):Dig (List.replicate n 0):=fun x hx=>by
 have:=List.eq_of_mem_replicate hx
 omega
theorem phT_mul (T:Nat) {n:Nat} {a b:List Int} (ha:a.length=n) (hb:b.length=n) (da:Dig a) (db:Dig b) (dab:Dig (addE 1 a b)):phT T (addE 1 a b)*(T:Int) ^ bsN n=phT T a*phT T b:=by
 unfold phT bsN
 rw [<-Int.pow_add,<-Int.pow_add]
 congr 1
 have h1:=keyA_add a b 0 0 0 (by omega)
 rw [ha,show (0:Int)+0 - 0=0 from rfl] at h1
 have h2:=keyA_nonneg _ 0 da (by omega)
 have h3:=keyA_nonneg _ 0 db (by omega)
 have h4:=keyA_nonneg _ 0 dab (by omega)
 have h5:=keyA_nonneg _ 0 (dig_rep n) (by omega)
 omega
def ExB (n E:Nat) (l:LS):Prop:=∀ x∈l,x.1.length=n/\∀ y∈x.1,-(E:Int)<=y/\y<=E
theorem ExB.dig {n E:Nat} {l:LS} (h:ExB n E l) (hE:E<=63):Exps n l:=fun x hx=>⟨(h x hx).1,fun y hy=>by have:=(h x hx).2 y hy;omega⟩
theorem addE_bnd:∀ {a b:List Int} {E F:Nat},a.length=b.length->(∀ y∈a,-(E:Int)<=y/\y<=E)->(∀ y∈b,-(F:Int)<=y/\y<=F)->∀ y∈addE 1 a b,-((E+F:Nat):Int)<=y/\y<=(E+F:Nat)
 | [],[],E,F,_,_,_,y,hy=>by simp [addE] at hy
 | a :: aa,b :: bs,E,F,hl,ha,hb,y,hy=>by
  simp only [addE,List.mem_cons] at hy
  rcases hy with rfl | hy
  ·have:=ha a (by simp)
   have:=hb b (by simp)
   omega
  ·exact addE_bnd (by simpa using hl) (fun y hy=>ha y (by simp [hy])) (fun y hy=>hb y (by simp [hy])) y hy
theorem ExB.prod {n E F:Nat} {a b:LS} (ha:ExB n E a) (hb:ExB n F b):ExB n (E+F) (prodL a b):=fun x hx=>by
 simp only [prodL,List.mem_flatMap,List.mem_map] at hx
 obtain ⟨p,hp,q,hq,rfl⟩:=hx
 have h1:=ha p hp
 have h2:=hb q hq
 exact ⟨by rw [addE_length _ _ _ (by omega)];exact h1.1,addE_bnd (by omega) h1.2 h2.2⟩
theorem ExB.app {n E:Nat} {a b:LS} (ha:ExB n E a) (hb:ExB n E b):ExB n E (a ++ b):=fun x hx=>(List.mem_append.1 hx).elim (ha x) (hb x)
theorem ExB.nf {n E:Nat} {a:LS} (ha:ExB n E a):ExB n E (nf lexlt a):=fun x hx=>by
 obtain ⟨z,h1,h2⟩:=nf_mem hx
 have:=ha z h1
 rwa [h2] at this
theorem ExB.mono {n E F:Nat} {a:LS} (ha:ExB n E a) (h:E<=F):ExB n F a:=fun x hx=>⟨(ha x hx).1,fun y hy=>by have:=(ha x hx).2 y hy;omega⟩
theorem eT_prod (T:Nat) {n E F:Nat} {a b:LS} (ha:ExB n E a) (hb:ExB n F b) (hEF:E+F<=63):eT T (prodL a b)*(T:Int) ^ bsN n=eT T a*eT T b:=by
 have h1:∀ (a:LS),ExB n E a->eT T (prodL a b)*(T:Int) ^ bsN n=eT T a*eT T b:=fun a=>by
  induction a with
  | nil=>intro _;simp [prodL,eT,vl]
  | cons x a ih=>
   intro hx
   have h2:=ih fun y hy=>hx y (by simp [hy])
   have h3:prodL (x :: a) b=(b.map fun y=>(addE 1 x.1 y.1,x.2*y.2)) ++ prodL a b:=rfl
   have h4:∀ b:LS,ExB n F b->eT T (b.map fun y=>(addE 1 x.1 y.1,x.2*y.2))*(T:Int) ^ bsN n=x.2*phT T x.1*eT T b:=fun b=>by
    induction b with
    | nil=>intro _;simp [eT,vl]
    | cons y b ih2=>
     intro hy
     have h5:=ih2 fun z hz=>hy z (by simp [hz])
     have q1:=hx x (by simp)
     have q2:=hy y (by simp)
     have h6:=phT_mul T q1.1 q2.1 (fun z hz=>by have:=q1.2 z hz;omega) (fun z hz=>by have:=q2.2 z hz;omega) (fun z hz=>by have:=addE_bnd (by omega) q1.2 q2.2 z hz;omega)
     simp only [List.map_cons,eT,vl] at h5 ⊢
     rw [Int.add_mul,h5,Int.mul_add,Int.mul_assoc,h6]
     generalize vl (phT T) b=B
     grind
   rw [h3,eT_app,Int.add_mul,h2,h4 b hb]
   simp only [eT,vl]
   rw [Int.add_mul]
 exact h1 a ha
theorem eT_scale (T:Nat) (k:Int) (l:LS):eT T (l.map fun y=>(y.1,k*y.2))=k*eT T l:=by
 have:=vl_map (fun e:List Int=>e) k (phT T) l
 exact this
theorem eT_bound {T:Nat} (hT:1<=T) {m:Nat}:∀ {l:LS},(∀ x∈l,(keyA 0 x.1).toNat<=m)->(eT T l).natAbs<=absK l*T ^ m
 | [],_=>by simp [eT,vl]
 | x :: l,h=>by
  have h1:=eT_bound hT (l:=l) fun y hy=>h y (by simp [hy])
  have h2:=h x (by simp)
  have h3:(phT T x.1).natAbs<=T ^ m:=by
   unfold phT
   rw [Int.natAbs_pow,Int.natAbs_natCast]
   exact Nat.pow_le_pow_right hT h2
  have h4:eT T (x :: l)=x.2*phT T x.1+eT T l:=rfl
  have h5:absK (x :: l)=x.2.natAbs+absK l:=by simp [absK]
  rw [h4,h5,Nat.add_mul]
  refine Nat.le_trans (Int.natAbs_add_le _ _) (Nat.add_le_add ?_ h1)
  rw [Int.natAbs_mul]
  exact Nat.mul_le_mul_left _ h3
theorem eT_ne {n:Nat} {x:List Int×Int} {l:LS} (hd:Desc lexlt (x :: l)) (hx:x.2≠0) (he:Exps n (x :: l)):∃ T,2<=T/\eT T (x :: l)≠0:=by
 refine ⟨absK l+2,by omega,fun h0=>?_⟩
 have h4:eT (absK l+2) (x :: l)=x.2*phT (absK l+2) x.1+eT (absK l+2) l:=rfl
 have ex:=he x (by simp)
 have kx:=keyA_nonneg _ 0 ex.2 (by omega)
 have hlt:∀ y∈l,(keyA 0 y.1).toNat+1<=(keyA 0 x.1).toNat:=fun y hy=>by
  have ey:=he y (by simp [hy])
  have ky:=keyA_nonneg _ 0 ey.2 (by omega)
  have:=keyA_lex y.1 x.1 0 (ey.1.trans ex.1.symm) ey.2 ex.2 ((List.pairwise_cons.1 hd).1 y hy)
  omega
 cases l with
 | nil=>
  rw [h4] at h0
  have hp:=phT_pos (T:=absK ([]:LS)+2) (by omega) x.1
  simp only [eT,vl,Int.add_zero] at h0
  rcases Int.mul_eq_zero.1 h0 with h | h
  ·exact hx h
  ·omega
 | cons y l=>
  have hy1:=hlt y (by simp)
  obtain ⟨m,hm⟩:∃ m,(keyA 0 x.1).toNat=m+1:=⟨(keyA 0 x.1).toNat - 1,by omega⟩
  obtain ⟨T,hTe⟩:∃ T,T=absK (y :: l)+2:=⟨_,rfl⟩
  rw [<-hTe] at h0 h4
  have hb:=eT_bound (T:=T) (by omega) (m:=m) (l:=y :: l) fun z hz=>by have:=hlt z hz;omega
  have h6:(phT T x.1).natAbs=T ^ m*T:=by
   unfold phT
   rw [Int.natAbs_pow,Int.natAbs_natCast,hm,Nat.pow_succ]
  have h7:(x.2*phT T x.1).natAbs=(eT T (y :: l)).natAbs:=by
   rw [h4] at h0
   omega
  rw [Int.natAbs_mul,h6] at h7
  have h8:1<=x.2.natAbs:=by omega
  have h9:1<=T ^ m:=Nat.pow_pos (by omega)
  have h10:T ^ m*T<=x.2.natAbs*(T ^ m*T):=Nat.le_mul_of_pos_left _ h8
  have h11:T ^ m*T<=absK (y :: l)*T ^ m:=by omega
  rw [Nat.mul_comm] at h11
  have:=Nat.le_of_mul_le_mul_right h11 (by omega)
  omega
theorem eT_sep {n:Nat} {l r:LS} (hl:Exps n l) (hr:Exps n r) (h:∀ T,2<=T->eT T l=eT T r):nf lexlt l=nf lexlt r:=by
 obtain ⟨d,hd⟩:∃ d,d=nf lexlt (l ++ r.map fun y=>(y.1,-1*y.2)):=⟨_,rfl⟩
 have hz:∀ T,2<=T->eT T d=0:=fun T hT=>by
  rw [hd,eT_nf,eT_app,eT_scale,h T hT]
  omega
 have hde:Exps n d:=by
  rw [hd]
  refine nf_exps fun x hx=>?_
  rcases List.mem_append.1 hx with hx | hx
  ·exact hl x hx
  ·obtain ⟨y,hy,rfl⟩:=List.mem_map.1 hx
   exact hr y hy
 have hdd:Desc lexlt d:=by rw [hd];exact nf_desc lexOrd _
 have hdn:Nz d:=by rw [hd];exact nf_nz _
 have hnil:d=[]:=by
  cases d with
  | nil=>rfl
  | cons x t=>
   obtain ⟨T,hT,hne⟩:=eT_ne hdd (hdn x (by simp)) hde
   exact absurd (hz T hT) hne
 refine nf_vl lexOrd fun φ=>?_
 have h1:vl φ d=0:=by rw [hnil];rfl
 rw [hd,vl_nf,vl_app] at h1
 have h2:=vl_map (fun e:List Int=>e) (-1) φ r
 have h3:vl φ (r.map fun y=>(y.1,-1*y.2))=-1*vl φ r:=h2
 rw [h3] at h1
 omega
def vT (T n:Nat) (l:LS):Rat:=(eT T l:Rat) / ((T:Rat) ^ bsN n)
theorem powR_ne {T m:Nat} (hT:2<=T):((T:Rat) ^ m)≠0:=by
 have h:(0:Rat) < (T:Rat):=by
  have:((0:Nat):Rat) < (T:Rat):=by exact_mod_cast (show 0 < T by omega)
  simpa using this
 exact Rat.ne_of_gt (Rat.pow_pos h)
theorem vT_app (T n:Nat) (l r:LS):vT T n (l ++ r)=vT T n l+vT T n r:=by
 unfold vT
 rw [eT_app,Rat.intCast_add]
 grind
theorem vT_nf (T n:Nat) (l:LS):vT T n (nf lexlt l)=vT T n l:=by
 unfold vT
 rw [eT_nf]
theorem vT_scale (T n:Nat) (k:Int) (l:LS):vT T n (l.map fun y=>(y.1,k*y.2))=(k:Rat)*vT T n l:=by
 unfold vT
 rw [eT_scale,Rat.intCast_mul]
 grind
theorem vT_prod {T n E F:Nat} (hT:2<=T) {a b:LS} (ha:ExB n E a) (hb:ExB n F b) (hEF:E+F<=63):vT T n (prodL a b)=vT T n a*vT T n b:=by
 have h:=eT_prod T ha hb hEF
 have hp:=powR_ne (m:=bsN n) hT
 have h2:((eT T (prodL a b):Int):Rat)*((T:Rat) ^ bsN n)=(eT T a:Rat)*(eT T b:Rat):=by
  have:=congrArg (fun z:Int=>(z:Rat)) h
  simp only [Rat.intCast_mul,Rat.intCast_pow,Rat.intCast_natCast] at this
  exact this
 unfold vT
 generalize (T:Rat) ^ bsN n=P at *
 generalize ((eT T (prodL a b):Int):Rat)=X at *
 grind
theorem vT_sep {n:Nat} {l r:LS} (hl:Exps n l) (hr:Exps n r) (h:∀ T,2<=T->vT T n l=vT T n r):nf lexlt l=nf lexlt r:=by
 refine eT_sep hl hr fun T hT=>?_
 have h1:=h T hT
 unfold vT at h1
 have hp:=powR_ne (m:=bsN n) hT
 generalize (T:Rat) ^ bsN n=P at *
 have:((eT T l:Int):Rat)=((eT T r:Int):Rat):=by grind
 exact_mod_cast this
end Go.Proofs.Ytfcgcgmleogamaa.Ab
namespace Go.Proofs.Ytfcgcgmleogamaa.Ab
open Go
set_option maxRecDepth 100000
abbrev Dg:=Nat×Nat
def crs (d e:Dg):Bool:=(Nat.blt d.1 e.1 && (Nat.blt e.1 d.2 && Nat.blt d.2 e.2)) || (Nat.blt e.1 d.1 && (Nat.blt d.1 e.2 && Nat.blt e.2 d.2))
def allD (v:Nat):List Dg:=(List.range v).flatMap fun a=>((List.range v).filter fun b=>Nat.ble (a+2) b && (Nat.blt 0 a || Nat.blt b (v - 1))).map fun b=>(a,b)
def enumC (P:List Dg->Bool):List Dg->List Dg->Nat->Bool
 | _,F,0=>P F
 | [],_,_+1=>true
 | d :: ds,F,r+1=>enumC P ds F (r+1) && (if F.all (fun e=>!crs e d) then enumC P ds (d :: F) r else true)
def srt (a b:Nat):Dg:=if Nat.ble a b then (a,b) else (b,a)
def dgq (d e:Dg):Bool:=Nat.beq d.1 e.1 && Nat.beq d.2 e.2
def sd (v:Nat) (d:Dg):Bool:=Nat.beq (d.1+1) d.2 || (Nat.beq d.1 0 && Nat.beq (d.2+1) v)
def knD (v:Nat) (F:List Dg) (d:Dg):Bool:=sd v d || F.any (dgq d)
def kn (v:Nat) (F:List Dg) (a b:Nat):Bool:=knD v F (srt a b)
def cntD (F:List Dg) (a c:Nat):Nat:=F.countP (crs (srt a c))
def bimp (a b:Bool):Bool:=!a || b
def good (v:Nat) (F:List Dg) (a c:Nat) (e:Dg):Bool:=crs (srt a c) e && (kn v F a e.1 && kn v F a e.2)
def chk1 (v:Nat) (F:List Dg):Bool:=
 (List.range v).all fun a=>(List.range v).all fun c=>Nat.beq a c || (kn v F a c || (F.any (good v F a c) && F.all fun e=>bimp (good v F a c e) ((Nat.beq (cntD F a e.1) 0 && Nat.beq (cntD F a e.2) 0) && (Nat.blt (cntD F c e.1) (cntD F a c) && Nat.blt (cntD F c e.2) (cntD F a c)))))
def tris (v:Nat) (F:List Dg):List (Nat×Nat×Nat):=
 (List.range v).flatMap fun a=>(List.range v).flatMap fun b=>((List.range v).filter fun c=>Nat.blt a b && (Nat.blt b c && (knD v F (a,b) && (knD v F (b,c) && knD v F (a,c))))).map fun c=>(a,b,c)
def att (k:List Bool×List (Nat×Nat×Nat)) (s p q:Nat):List Bool×List (Nat×Nat×Nat):=
 match !k.1.getD s false && (k.1.getD p false && k.1.getD q false) with
 | true=>(k.1.set s true,k.2 ++ [(s,p,q)])
 | false=>k
def run1 (k:List Bool×List (Nat×Nat×Nat)):List (Nat×Nat×Nat)->List Bool×List (Nat×Nat×Nat)
 | []=>k
 | t :: ts=>run1 (att (att (att k t.1 t.2.1 t.2.2) t.2.1 t.2.2 t.1) t.2.2 t.1 t.2.1) ts
def runN (T:List (Nat×Nat×Nat)):Nat->List Bool×List (Nat×Nat×Nat)->List Bool×List (Nat×Nat×Nat)
 | 0,k=>k
 | n+1,k=>runN T n (run1 k T)
def made:List (Nat×Nat×Nat)->List Dg->Option (List Dg)
 | [],M=>some M
 | t :: ts,M=>if M.any (dgq (srt t.2.1 t.2.2)) then made ts (srt t.1 t.2.1 :: srt t.1 t.2.2 :: M) else none
def kn0 (v:Nat) (t:Nat×Nat×Nat):List Bool:=((List.replicate v false).set t.1 true).set t.2.1 true
def chk2 (v:Nat) (F:List Dg):Bool:=
 match tris v F with
 | []=>false
 | t :: ts=>
  let r:=runN (t :: ts) v (kn0 v t,[])
  Nat.blt t.1 t.2.1 && ((r.1.all id && Nat.beq r.1.length v) && match made r.2 [(t.1,t.2.1)] with
   | none=>false
   | some M=>F.all (fun e=>M.any (dgq e)) && (List.range v).all fun a=>M.any (dgq (srt a (if Nat.beq (a+1) v then 0 else a+1))))
def chkB (v:Nat) (F:List Dg):Bool:=chk1 v F && chk2 v F
theorem chk_4:enumC (chkB 4) (allD 4) [] 1=true:=by decide +kernel
theorem chk_5:enumC (chkB 5) (allD 5) [] 2=true:=by decide +kernel
theorem chk_6:enumC (chkB 6) (allD 6) [] 3=true:=by decide +kernel
theorem chk_7:enumC (chkB 7) (allD 7) [] 4=true:=by decide +kernel
theorem chk_8:enumC (chkB 8) (allD 8) [] 5=true:=by decide +kernel
theorem chk_all {v:Nat} (h:4<=v/\v<=8):enumC (chkB v) (allD v) [] (v - 3)=true:=by
 obtain rfl | rfl | rfl | rfl | rfl:v=4\/v=5\/v=6\/v=7\/v=8:=by omega
 ·exact chk_4
 ·exact chk_5
 ·exact chk_6
 ·exact chk_7
 ·exact chk_8
theorem crs_sym (d e:Dg):crs d e=crs e d:=by
 unfold crs
 rw [Bool.or_comm]
theorem enumC_ok (P:List Dg->Bool):∀ (ds F S:List Dg) (r:Nat),enumC P ds F r=true->S.Sublist ds->S.length=r->(S.Pairwise fun d e=>crs d e=false)->(∀ d∈S,∀ e∈F,crs e d=false)->P (S.reverse ++ F)=true
 | ds,F,S,0,h,hs,hl,hp,hf=>by
  have:S=[]:=List.length_eq_zero_iff.1 hl
  subst this
  cases ds <;> simpa [enumC] using h
 | [],F,S,r+1,h,hs,hl,hp,hf=>by
  have:=List.eq_nil_of_sublist_nil hs
  subst this
  simp at hl
 | d :: ds,F,S,r+1,h,hs,hl,hp,hf=>by
  simp only [enumC,Bool.and_eq_true] at h
  obtain ⟨h1,h2⟩:=h
  cases hs with
  | cons _ hs=>exact enumC_ok P ds F S (r+1) h1 hs hl hp hf
  | cons_cons _ hs=>
   rename_i S
   have hall:F.all (fun e=>!crs e d)=true:=List.all_eq_true.2 fun e he=>by
    rw [hf d (by simp) e he]
    rfl
   rw [if_pos hall] at h2
   obtain ⟨hp1,hp2⟩:=List.pairwise_cons.1 hp
   have:=enumC_ok P ds (d :: F) S r h2 hs (by simpa using hl) hp2 fun x hx e he=>by
    rcases List.mem_cons.1 he with rfl | he
    ·exact hp1 x hx
    ·exact hf x (by simp [hx]) e he
   simpa using this
structure Tri (v:Nat) (l:List Dg):Prop where
 vb:4<=v/\v<=8
 len:l.length=v - 3
 mem:∀ d∈l,d∈allD v
 apart:l.Pairwise fun d e=>d≠e/\crs d e=false
theorem allD_nodup {v:Nat} (h:v<=8):(allD v).Nodup:=by
 obtain rfl | rfl | rfl | rfl | rfl | rfl | rfl | rfl | rfl:v=0\/v=1\/v=2\/v=3\/v=4\/v=5\/v=6\/v=7\/v=8:=by omega
 all_goals decide +kernel
theorem Tri.nodup {v:Nat} {l:List Dg} (h:Tri v l):l.Nodup:=h.apart.imp fun h=>h.1
theorem Tri.perm {v:Nat} {l l':List Dg} (h:Tri v l) (hp:l'.Perm l):Tri v l':=⟨h.vb,hp.length_eq.trans h.len,fun d hd=>h.mem d (hp.subset hd),(hp.pairwise_iff fun hh=>⟨hh.1.symm,by rw [crs_sym];exact hh.2⟩).2 h.apart⟩
theorem tri_chk {v:Nat} {l:List Dg} (h:Tri v l):∃ F,F.Perm l/\chkB v F=true:=by
 have hn:=allD_nodup h.vb.2
 obtain ⟨S,hS⟩:∃ S,S=(allD v).filter fun d=>l.contains d:=⟨_,rfl⟩
 have hsub:S.Sublist (allD v):=by rw [hS];exact List.filter_sublist
 have hp:S.Perm l:=(List.perm_ext_iff_of_nodup (hsub.nodup hn) h.nodup).2 fun d=>by
  rw [hS,List.mem_filter]
  simp only [List.contains_eq_mem,decide_eq_true_eq]
  exact ⟨fun h=>h.2,fun hd=>⟨h.mem d hd,hd⟩⟩
 have hT:=h.perm hp
 have:=enumC_ok (chkB v) (allD v) [] S (v - 3) (chk_all h.vb) hsub hT.len (hT.apart.imp fun h=>h.2) (by simp)
 rw [List.append_nil] at this
 exact ⟨S.reverse,(List.reverse_perm S).trans hp,this⟩
theorem any_perm {α:Type} {p:α->Bool} {l r:List α} (h:l.Perm r):l.any p=r.any p:=by
 rw [Bool.eq_iff_iff,List.any_eq_true,List.any_eq_true]
 exact ⟨fun ⟨x,hx,hp⟩=>⟨x,h.mem_iff.1 hx,hp⟩,fun ⟨x,hx,hp⟩=>⟨x,h.mem_iff.2 hx,hp⟩⟩
theorem all_perm {α:Type} {p:α->Bool} {l r:List α} (h:l.Perm r):l.all p=r.all p:=by
 rw [Bool.eq_iff_iff,List.all_eq_true,List.all_eq_true]
 exact ⟨fun q x hx=>q x (h.mem_iff.2 hx),fun q x hx=>q x (h.mem_iff.1 hx)⟩
theorem knD_perm {v:Nat} {l r:List Dg} (h:l.Perm r):knD v l=knD v r:=by
 funext d
 unfold knD
 rw [any_perm h]
theorem kn_perm {v:Nat} {l r:List Dg} (h:l.Perm r):kn v l=kn v r:=by
 funext a b
 unfold kn
 rw [knD_perm h]
theorem cntD_perm {l r:List Dg} (h:l.Perm r):cntD l=cntD r:=by
 funext a b
 exact h.countP_eq _
theorem good_perm {v:Nat} {l r:List Dg} (h:l.Perm r):good v l=good v r:=by
 funext a c e
 unfold good
 rw [kn_perm h]
theorem chk1_perm {v:Nat} {l r:List Dg} (h:l.Perm r):chk1 v l=chk1 v r:=by
 unfold chk1
 rw [kn_perm h,cntD_perm h,good_perm h]
 simp only [any_perm h,all_perm h]
theorem tris_perm {v:Nat} {l r:List Dg} (h:l.Perm r):tris v l=tris v r:=by
 unfold tris
 rw [knD_perm h]
theorem chk2_perm {v:Nat} {l r:List Dg} (h:l.Perm r):chk2 v l=chk2 v r:=by
 unfold chk2
 rw [tris_perm h]
 simp only [all_perm h]
theorem tri_1 {v:Nat} {l:List Dg} (h:Tri v l):chk1 v l=true:=by
 obtain ⟨F,h1,h2⟩:=tri_chk h
 rw [<-chk1_perm h1]
 simp only [chkB,Bool.and_eq_true] at h2
 exact h2.1
theorem tri_2 {v:Nat} {l:List Dg} (h:Tri v l):chk2 v l=true:=by
 obtain ⟨F,h1,h2⟩:=tri_chk h
 rw [<-chk2_perm h1]
 simp only [chkB,Bool.and_eq_true] at h2
 exact h2.2
theorem dgq_eq {d e:Dg}:dgq d e=true↔d=e:=by
 obtain ⟨a,b⟩:=d
 obtain ⟨c,g⟩:=e
 simp [dgq]
theorem bimp_eq {a b:Bool}:bimp a b=true↔(a=true->b=true):=by cases a <;> cases b <;> simp [bimp]
theorem tri_good {v:Nat} {l:List Dg} (h:Tri v l) {a c:Nat} (ha:a < v) (hc:c < v) (hac:a≠c) (hk:kn v l a c=false):(∃ e∈l,good v l a c e=true)/\∀ e∈l,good v l a c e=true->(cntD l a e.1=0/\cntD l a e.2=0)/\cntD l c e.1 < cntD l a c/\cntD l c e.2 < cntD l a c:=by
 have:=tri_1 h
 unfold chk1 at this
 rw [List.all_eq_true] at this
 have:=this a (List.mem_range.2 ha)
 rw [List.all_eq_true] at this
 have:=this c (List.mem_range.2 hc)
 rw [hk,show Nat.beq a c=false from Bool.eq_false_iff.2 fun e=>hac (Nat.eq_of_beq_eq_true e)] at this
 simp only [Bool.false_or,Bool.and_eq_true,List.any_eq_true,List.all_eq_true,bimp_eq] at this
 refine ⟨this.1,fun e he hg=>?_⟩
 have:=this.2 e he hg
 simpa using this
theorem tri_made {v:Nat} {l:List Dg} (h:Tri v l):∃ t ts M,tris v l=t :: ts/\t.1 < t.2.1/\(∀ x∈(runN (t :: ts) v (kn0 v t,[])).1,x=true)/\(runN (t :: ts) v (kn0 v t,[])).1.length=v/\made (runN (t :: ts) v (kn0 v t,[])).2 [(t.1,t.2.1)]=some M/\(∀ e∈l,e∈M)/\∀ a,a < v->srt a (if a+1=v then 0 else a+1)∈M:=by
 have:=tri_2 h
 unfold chk2 at this
 split at this
 ·simp at this
 ·rename_i t ts ht
  dsimp only at this
  simp only [Bool.and_eq_true] at this
  obtain ⟨h1,⟨h2,h3⟩,h4⟩:=this
  split at h4
  ·simp at h4
  ·rename_i M hM
   simp only [Bool.and_eq_true,List.all_eq_true,List.any_eq_true,List.mem_range] at h4
   refine ⟨t,ts,M,ht,by simpa using h1,?_,by simpa using h3,hM,fun e he=>?_,fun a ha=>?_⟩
   ·simpa [List.all_eq_true] using h2
   ·obtain ⟨x,hx,hq⟩:=h4.1 e he
    rw [dgq_eq] at hq
    rw [hq]
    exact hx
   ·obtain ⟨x,hx,hq⟩:=h4.2 a ha
    rw [dgq_eq] at hq
    rw [<-hq] at hx
    by_cases hv:a+1=v
    ·rw [if_pos hv]
     rw [show Nat.beq (a+1) v=true from Nat.beq_eq ▸ (by simpa using hv)] at hx
     exact hx
    ·rw [if_neg hv]
     rw [show Nat.beq (a+1) v=false from Bool.eq_false_iff.2 fun e=>hv (Nat.eq_of_beq_eq_true e)] at hx
     exact hx
end Go.Proofs.Ytfcgcgmleogamaa.Ab
namespace Go.Proofs.Ytfcgcgmleogamaa.Ab
open Go
abbrev N3:=Nat×Nat×Nat
def gatt {σ:Type} (upd:σ->N3->σ) (k:List Bool×σ) (s p q:Nat):List Bool×σ:=
 match !k.1.getD s false && (k.1.getD p false && k.1.getD q false) with
 | true=>(k.1.set s true,upd k.2 (s,p,q))
 | false=>k
def grun1 {σ:Type} (upd:σ->N3->σ) (k:List Bool×σ):List N3->List Bool×σ
 | []=>k
 | t :: ts=>grun1 upd (gatt upd (gatt upd (gatt upd k t.1 t.2.1 t.2.2) t.2.1 t.2.2 t.1) t.2.2 t.1 t.2.1) ts
def grunN {σ:Type} (upd:σ->N3->σ) (T:List N3):Nat->List Bool×σ->List Bool×σ
 | 0,k=>k
 | n+1,k=>grunN upd T n (grun1 upd k T)
inductive OkA:List Bool->List N3->List Bool->Prop
 | nil (k:List Bool):OkA k [] k
 | cons {k k':List Bool} {s p q:Nat} {A:List N3} (h1:k.getD s false=false) (h2:k.getD p false=true) (h3:k.getD q false=true) (h:OkA (k.set s true) A k'):OkA k ((s,p,q) :: A) k'
theorem OkA.app {k1 k2 k3:List Bool} {A B:List N3} (h1:OkA k1 A k2) (h2:OkA k2 B k3):OkA k1 (A ++ B) k3:=by
 induction h1 with
 | nil=>exact h2
 | cons a b c d ih=>exact .cons a b c (ih h2)
def Same {σ:Type} (upd:σ->N3->σ) (f:List Bool×σ->List Bool×σ) (g:List Bool×List N3->List Bool×List N3):Prop:=
 ∀ (k:List Bool) (x:σ) (A0:List N3),∃ (k':List Bool) (A:List N3),g (k,A0)=(k',A0 ++ A)/\f (k,x)=(k',A.foldl upd x)/\OkA k A k'
theorem same_id {σ:Type} (upd:σ->N3->σ):Same upd id id:=fun k x A0=>⟨k,[],by simp,rfl,.nil k⟩
theorem same_comp {σ:Type} {upd:σ->N3->σ} {f f':List Bool×σ->List Bool×σ} {g g':List Bool×List N3->List Bool×List N3} (h:Same upd f g) (h':Same upd f' g'):Same upd (fun k=>f' (f k)) (fun k=>g' (g k)):=fun k x A0=>by
 obtain ⟨k1,A1,a1,a2,a3⟩:=h k x A0
 obtain ⟨k2,A2,b1,b2,b3⟩:=h' k1 (A1.foldl upd x) (A0 ++ A1)
 refine ⟨k2,A1 ++ A2,by simp only [a1,b1,List.append_assoc],by simp only [a2,b2,List.foldl_append],a3.app b3⟩
theorem same_att {σ:Type} (upd:σ->N3->σ) (s p q:Nat):Same upd (fun k=>gatt upd k s p q) (fun k=>att k s p q):=fun k x A0=>by
 cases hc:(!k.getD s false && (k.getD p false && k.getD q false)) with
 | false=>exact ⟨k,[],by simp only [att,hc,List.append_nil],by simp only [gatt,hc,List.foldl_nil],.nil k⟩
 | true=>
  refine ⟨k.set s true,[(s,p,q)],by simp only [att,hc],by simp only [gatt,hc,List.foldl_cons,List.foldl_nil],?_⟩
  simp only [Bool.and_eq_true,Bool.not_eq_true'] at hc
  exact .cons hc.1 hc.2.1 hc.2.2 (.nil _)
theorem same_run1 {σ:Type} (upd:σ->N3->σ):∀ T:List N3,Same upd (fun k=>grun1 upd k T) (fun k=>run1 k T)
 | []=>same_id upd
 | t :: ts=>same_comp (same_comp (same_comp (same_att upd t.1 t.2.1 t.2.2) (same_att upd t.2.1 t.2.2 t.1)) (same_att upd t.2.2 t.1 t.2.1)) (same_run1 upd ts)
theorem same_runN {σ:Type} (upd:σ->N3->σ) (T:List N3):∀ n:Nat,Same upd (grunN upd T n) (runN T n)
 | 0=>same_id upd
 | n+1=>by
  show Same upd (fun k=>grunN upd T n (grun1 upd k T)) (fun k=>runN T n (run1 k T))
  exact same_comp (same_run1 upd T) (same_runN upd T n)
abbrev V2:=Rat×Rat
def detV (X:Nat->V2) (i j:Nat):Rat:=(X i).1*(X j).2 - (X i).2*(X j).1
def updV (ln:Dg->Rat) (X:Nat->V2) (t:N3):Nat->V2:=
 let d:=srt t.2.1 t.2.2
 let a:=ln (srt d.2 t.1) / ln d*(if d.2 < t.1 then -1 else 1)
 let b:=ln (srt d.1 t.1) / ln d*(if t.1 < d.1 then -1 else 1)
 fun i=>if i=t.1 then (a*(X d.1).1+b*(X d.2).1,a*(X d.1).2+b*(X d.2).2) else X i
def VInv (ln:Dg->Rat) (k:List Bool) (X:Nat->V2) (M:List Dg):Prop:=∀ d∈M,detV X d.1 d.2=ln d/\k.getD d.1 false=true/\k.getD d.2 false=true/\d.1 < d.2
theorem srt_lt {a b:Nat} (h:a < b):srt a b=(a,b):=by
 unfold srt
 rw [if_pos (by simp;omega)]
theorem srt_gt {a b:Nat} (h:b < a):srt a b=(b,a):=by
 unfold srt
 rw [if_neg (by simp;omega)]
theorem srt_com (a b:Nat):srt a b=srt b a:=by
 rcases Nat.lt_trichotomy a b with h | h | h
 ·rw [srt_lt h,srt_gt h]
 ·rw [h]
 ·rw [srt_lt h,srt_gt h]
theorem getD_setT {k:List Bool} {s i:Nat} (h:k.getD i false=true):(k.set s true).getD i false=true:=by
 simp only [List.getD_eq_getElem?_getD,List.getElem?_set] at h ⊢
 split
 ·split <;> simp_all
 ·exact h
theorem getD_setS {k:List Bool} {s:Nat} (h:s < k.length):(k.set s true).getD s false=true:=by
 simp [List.getD_eq_getElem?_getD,List.getElem?_set,h]
theorem vinv_step {ln:Dg->Rat} (hln:∀ d,ln d≠0) {k:List Bool} {X:Nat->V2} {M:List Dg} (h:VInv ln k X M) {s p q:Nat} (hs:s < k.length) (h1:k.getD s false=false) (hM:srt p q∈M) :
  VInv ln (k.set s true) (updV ln X (s,p,q)) (srt s p :: srt s q :: M):=by
 obtain ⟨d,hd⟩:∃ d,d=srt p q:=⟨_,rfl⟩
 rw [<-hd] at hM
 obtain ⟨m1,m2,m3,m4⟩:=h d hM
 have n1:s≠d.1:=fun e=>by rw [<-e,h1] at m2;exact absurd m2 (by simp)
 have n2:s≠d.2:=fun e=>by rw [<-e,h1] at m3;exact absurd m3 (by simp)
 have hpq:(srt s p=srt d.1 s/\srt s q=srt d.2 s)\/(srt s p=srt d.2 s/\srt s q=srt d.1 s):=by
  rcases Nat.lt_trichotomy p q with h | h | h
  ·rw [srt_lt h] at hd
   rw [hd]
   exact .inl ⟨srt_com _ _,srt_com _ _⟩
  ·exfalso
   rw [h] at hd
   rw [hd] at m4
   unfold srt at m4
   simp at m4
  ·rw [srt_gt h] at hd
   rw [hd]
   exact .inr ⟨srt_com _ _,srt_com _ _⟩
 have old:∀ i,i≠s->updV ln X (s,p,q) i=X i:=fun i hi=>by simp only [updV,if_neg hi]
 have new:updV ln X (s,p,q) s=(ln (srt d.2 s) / ln d*(if d.2 < s then -1 else 1)*(X d.1).1+ln (srt d.1 s) / ln d*(if s < d.1 then -1 else 1)*(X d.2).1,ln (srt d.2 s) / ln d*(if d.2 < s then -1 else 1)*(X d.1).2+ln (srt d.1 s) / ln d*(if s < d.1 then -1 else 1)*(X d.2).2):=by
  simp only [updV,if_pos,<-hd]
 have hl:=hln d
 have hA:∀ e,e=srt d.1 s->detV (updV ln X (s,p,q)) e.1 e.2=ln e/\(k.set s true).getD e.1 false=true/\(k.set s true).getD e.2 false=true/\e.1 < e.2:=fun e he=>by
  rcases Nat.lt_or_gt_of_ne n1 with g | g
  ·rw [srt_gt g] at he
   subst he
   refine ⟨?_,getD_setS hs,getD_setT m2,g⟩
   have e1:detV (updV ln X (s,p,q)) s d.1=-(ln (srt d.1 s) / ln d*(if s < d.1 then -1 else 1)*detV X d.1 d.2):=by
    unfold detV
    rw [new,old _ (Ne.symm n1)]
    dsimp only
    generalize ln (srt d.2 s) / ln d*(if d.2 < s then -1 else 1)=aa
    generalize ln (srt d.1 s) / ln d*(if s < d.1 then -1 else 1)=bb
    grind
   rw [e1,m1,if_pos g,srt_gt g]
   grind
  ·rw [srt_lt g] at he
   subst he
   refine ⟨?_,getD_setT m2,getD_setS hs,g⟩
   have e1:detV (updV ln X (s,p,q)) d.1 s=ln (srt d.1 s) / ln d*(if s < d.1 then -1 else 1)*detV X d.1 d.2:=by
    unfold detV
    rw [new,old _ (Ne.symm n1)]
    dsimp only
    generalize ln (srt d.2 s) / ln d*(if d.2 < s then -1 else 1)=aa
    generalize ln (srt d.1 s) / ln d*(if s < d.1 then -1 else 1)=bb
    grind
   rw [e1,m1,if_neg (by omega),srt_lt g]
   grind
 have hB:∀ e,e=srt d.2 s->detV (updV ln X (s,p,q)) e.1 e.2=ln e/\(k.set s true).getD e.1 false=true/\(k.set s true).getD e.2 false=true/\e.1 < e.2:=fun e he=>by
  rcases Nat.lt_or_gt_of_ne n2 with g | g
  ·rw [srt_gt g] at he
   subst he
   refine ⟨?_,getD_setS hs,getD_setT m3,g⟩
   have e1:detV (updV ln X (s,p,q)) s d.2=ln (srt d.2 s) / ln d*(if d.2 < s then -1 else 1)*detV X d.1 d.2:=by
    unfold detV
    rw [new,old _ (Ne.symm n2)]
    dsimp only
    generalize ln (srt d.2 s) / ln d*(if d.2 < s then -1 else 1)=aa
    generalize ln (srt d.1 s) / ln d*(if s < d.1 then -1 else 1)=bb
    grind
   rw [e1,m1,if_neg (by omega),srt_gt g]
   grind
  ·rw [srt_lt g] at he
   subst he
   refine ⟨?_,getD_setT m3,getD_setS hs,g⟩
   have e1:detV (updV ln X (s,p,q)) d.2 s=-(ln (srt d.2 s) / ln d*(if d.2 < s then -1 else 1)*detV X d.1 d.2):=by
    unfold detV
    rw [new,old _ (Ne.symm n2)]
    dsimp only
    generalize ln (srt d.2 s) / ln d*(if d.2 < s then -1 else 1)=aa
    generalize ln (srt d.1 s) / ln d*(if s < d.1 then -1 else 1)=bb
    grind
   rw [e1,m1,if_pos g,srt_lt g]
   grind
 intro e he
 rcases List.mem_cons.1 he with he | he
 ·rcases hpq with ⟨a,b⟩ | ⟨a,b⟩
  ·exact hA e (he.trans a)
  ·exact hB e (he.trans a)
 ·rcases List.mem_cons.1 he with he | he
  ·rcases hpq with ⟨a,b⟩ | ⟨a,b⟩
   ·exact hB e (he.trans b)
   ·exact hA e (he.trans b)
  ·obtain ⟨q1,q2,q3,q4⟩:=h e he
   refine ⟨?_,getD_setT q2,getD_setT q3,q4⟩
   rw [<-q1]
   unfold detV
   rw [old,old]
   ·exact fun e'=>by rw [e',h1] at q3;exact absurd q3 (by simp)
   ·exact fun e'=>by rw [e',h1] at q2;exact absurd q2 (by simp)
theorem vinv_fold {ln:Dg->Rat} (hln:∀ d,ln d≠0):∀ {A:List N3} {k k':List Bool} {X:Nat->V2} {M M':List Dg},OkA k A k'->(∀ t∈A,t.1 < k.length)->made A M=some M'->VInv ln k X M->VInv ln k' (A.foldl (updV ln) X) M'
 | [],k,k',X,M,M',h,_,hm,hv=>by
  cases h
  simp only [made,Option.some.injEq] at hm
  subst hm
  exact hv
 | (s,p,q) :: A,k,k',X,M,M',h,hl,hm,hv=>by
  cases h with
  | cons h1 h2 h3 h=>
   simp only [made] at hm
   split at hm
   ·rename_i hmm
    rw [List.any_eq_true] at hmm
    obtain ⟨e,he,hee⟩:=hmm
    rw [dgq_eq] at hee
    subst hee
    exact vinv_fold (A:=A) (M:=srt s p :: srt s q :: M) hln h (fun t ht=>by rw [List.length_set];exact hl t (List.mem_cons_of_mem _ ht)) hm (vinv_step hln hv (hl (s,p,q) (by simp)) h1 he)
   ·cases hm
theorem okA_len {k k':List Bool} {A:List N3} (h:OkA k A k'):k'.length=k.length:=by
 induction h with
 | nil=>rfl
 | cons _ _ _ _ ih=>rw [ih,List.length_set]
def initV (ln:Dg->Rat) (t:N3):Nat->V2:=fun i=>if i=t.2.1 then (0,ln (t.1,t.2.1)) else if i=t.1 then (1,0) else (0,0)
def vecV (v:Nat) (l:List Dg) (ln:Dg->Rat):Nat->V2:=match tris v l with
 | []=>fun _=>(0,0)
 | t :: ts=>(grunN (updV ln) (t :: ts) v (kn0 v t,initV ln t)).2
theorem tris_bd {v:Nat} {l:List Dg} {t:N3} (h:t∈tris v l):t.1 < t.2.1/\t.2.1 < t.2.2/\t.2.2 < v/\knD v l (t.1,t.2.1)=true/\knD v l (t.2.1,t.2.2)=true/\knD v l (t.1,t.2.2)=true:=by
 simp only [tris,List.mem_flatMap,List.mem_range,List.mem_map,List.mem_filter,Bool.and_eq_true] at h
 obtain ⟨a,ha,b,hb,c,⟨hc,h1,h2,h3,h4,h5⟩,rfl⟩:=h
 exact ⟨by simpa using h1,by simpa using h2,hc,h3,h4,h5⟩
theorem run1_mem:∀ (T:List N3) (k:List Bool) (A:List N3),(∀ x∈A,∃ t∈T,x=(t.1,t.2.1,t.2.2)\/x=(t.2.1,t.2.2,t.1)\/x=(t.2.2,t.1,t.2.1))->∀ T',(∀ t∈T',t∈T)->∀ x∈(run1 (k,A) T').2,∃ t∈T,x=(t.1,t.2.1,t.2.2)\/x=(t.2.1,t.2.2,t.1)\/x=(t.2.2,t.1,t.2.1):=by
 intro T k A hA T'
 induction T' generalizing k A with
 | nil=>exact fun _=>hA
 | cons t ts ih=>
  intro hT
  have one:∀ (k:List Bool×List N3) (s p q:Nat),(∀ x∈k.2,∃ t∈T,x=(t.1,t.2.1,t.2.2)\/x=(t.2.1,t.2.2,t.1)\/x=(t.2.2,t.1,t.2.1))->(∃ t∈T,(s,p,q)=(t.1,t.2.1,t.2.2)\/(s,p,q)=(t.2.1,t.2.2,t.1)\/(s,p,q)=(t.2.2,t.1,t.2.1))->∀ x∈(att k s p q).2,∃ t∈T,x=(t.1,t.2.1,t.2.2)\/x=(t.2.1,t.2.2,t.1)\/x=(t.2.2,t.1,t.2.1):=fun k s p q h1 h2 x hx=>by
   unfold att at hx
   split at hx
   ·rcases List.mem_append.1 hx with hx | hx
    ·exact h1 x hx
    ·rw [List.mem_singleton] at hx
     subst hx
     exact h2
   ·exact h1 x hx
  have ht:=hT t (by simp)
  have h3:=one _ t.2.2 t.1 t.2.1 (one _ t.2.1 t.2.2 t.1 (one (k,A) t.1 t.2.1 t.2.2 hA ⟨t,ht,.inl rfl⟩) ⟨t,ht,.inr (.inl rfl)⟩) ⟨t,ht,.inr (.inr rfl)⟩
  exact ih _ _ h3 fun x hx=>hT x (by simp [hx])
theorem runN_mem (T:List N3):∀ (n:Nat) (k:List Bool) (A:List N3),(∀ x∈A,∃ t∈T,x=(t.1,t.2.1,t.2.2)\/x=(t.2.1,t.2.2,t.1)\/x=(t.2.2,t.1,t.2.1))->∀ x∈(runN T n (k,A)).2,∃ t∈T,x=(t.1,t.2.1,t.2.2)\/x=(t.2.1,t.2.2,t.1)\/x=(t.2.2,t.1,t.2.1)
 | 0,k,A,h=>h
 | n+1,k,A,h=>runN_mem T n _ _ (run1_mem T k A h T fun t ht=>ht)
theorem kn0_at {v:Nat} {t:N3} (h1:t.1 < v) (h2:t.2.1 < v):(kn0 v t).getD t.1 false=true/\(kn0 v t).getD t.2.1 false=true:=by
 unfold kn0
 exact ⟨getD_setT (getD_setS (by simpa using h1)),getD_setS (by simpa using h2)⟩
theorem vec_known {v:Nat} {l:List Dg} (h:Tri v l) {ln:Dg->Rat} (hln:∀ d,ln d≠0) {a c:Nat} (hac:a < c) (hc:c < v) (hk:knD v l (a,c)=true):detV (vecV v l ln) a c=ln (a,c):=by
 obtain ⟨t,ts,M,h1,h2,h3,h4,h5,h6,h7⟩:=tri_made h
 obtain ⟨b1,b2,b3,-⟩:=tris_bd (v:=v) (l:=l) (t:=t) (by rw [h1];simp)
 obtain ⟨k',A,e1,e2,e3⟩:=same_runN (updV ln) (t :: ts) v (kn0 v t) (initV ln t) []
 have hmem:=runN_mem (t :: ts) v (kn0 v t) [] (by simp)
 rw [e1] at h5 hmem
 simp only [List.nil_append] at h5 hmem
 have hlen:(kn0 v t).length=v:=by simp [kn0]
 have hv0:VInv ln (kn0 v t) (initV ln t) [(t.1,t.2.1)]:=by
  intro d hd
  rw [List.mem_singleton] at hd
  subst hd
  refine ⟨?_,(kn0_at (by omega) (by omega)).1,(kn0_at (t:=t) (by omega) (by omega)).2,h2⟩
  simp only [detV,initV,if_pos,if_neg (show ¬ t.1=t.2.1 by omega)]
  grind
 have hfin:=vinv_fold hln e3 (fun x hx=>by
  obtain ⟨u,hu,hx⟩:=hmem x hx
  have:=tris_bd (v:=v) (l:=l) (t:=u) (by rw [h1];exact hu)
  rw [hlen]
  rcases hx with rfl | rfl | rfl <;> dsimp only <;> omega) h5 hv0
 have hvec:vecV v l ln=A.foldl (updV ln) (initV ln t):=by
  unfold vecV
  rw [h1]
  show (grunN (updV ln) (t :: ts) v (kn0 v t,initV ln t)).2=_
  rw [e2]
 have hin:(a,c)∈M:=by
  unfold knD at hk
  rw [Bool.or_eq_true] at hk
  rcases hk with hk | hk
  ·unfold sd at hk
   simp only [Bool.or_eq_true,Bool.and_eq_true] at hk
   rcases hk with hk | ⟨hk1,hk2⟩
   ·have hk:=Nat.eq_of_beq_eq_true hk
    have:=h7 a (by omega)
    rw [if_neg (by omega),srt_lt (by omega),hk] at this
    exact this
   ·have hk1:=Nat.eq_of_beq_eq_true hk1
    have hk2:=Nat.eq_of_beq_eq_true hk2
    have:=h7 c hc
    rw [if_pos hk2,srt_gt (by omega)] at this
    rw [hk1]
    exact this
  ·rw [List.any_eq_true] at hk
   obtain ⟨e,he,hee⟩:=hk
   rw [dgq_eq] at hee
   rw [hee]
   exact h6 e he
 have:=(hfin _ hin).1
 rw [<-hvec] at this
 exact this
theorem ptolemy (X:Nat->V2) (a b c d:Nat):detV X a c*detV X b d=detV X a b*detV X c d+detV X a d*detV X b c:=by
 unfold detV
 grind
def lenV (X:Nat->V2) (a c:Nat):Rat:=detV X (srt a c).1 (srt a c).2
theorem lenV_com (X:Nat->V2) (a c:Nat):lenV X a c=lenV X c a:=by unfold lenV;rw [srt_com]
theorem lenV_lt (X:Nat->V2) {a c:Nat} (h:a < c):lenV X a c=detV X a c:=by unfold lenV;rw [srt_lt h]
theorem lenV_cross (X:Nat->V2) {a c:Nat} {e:Dg} (h:crs (srt a c) e=true):lenV X a c*lenV X e.1 e.2=lenV X a e.1*lenV X c e.2+lenV X a e.2*lenV X c e.1:=by
 obtain ⟨p,q⟩:=e
 have hne:a≠c:=by
  rintro rfl
  rw [show srt a a=(a,a) by unfold srt;split <;> rfl] at h
  simp only [crs,Nat.blt_eq,Bool.or_eq_true,Bool.and_eq_true] at h
  omega
 rcases Nat.lt_or_gt_of_ne hne with g | g
 ·rw [srt_lt g] at h
  simp only [crs,Bool.or_eq_true,Bool.and_eq_true,Nat.blt_eq] at h
  dsimp only
  rcases h with ⟨h1,h2,h3⟩ | ⟨h1,h2,h3⟩
  ·have:=ptolemy X a p c q
   rw [lenV_lt X g,lenV_lt X (show p < q by omega),lenV_lt X h1,lenV_lt X h3,lenV_lt X (show a < q by omega),lenV_com X c p,lenV_lt X h2]
   exact this
  ·have:=ptolemy X p a q c
   rw [lenV_lt X g,lenV_lt X (show p < q by omega),lenV_com X a p,lenV_lt X h1,lenV_com X c q,lenV_lt X h3,lenV_lt X h2,lenV_com X c p,lenV_lt X (show p < c by omega)]
   grind
 ·rw [srt_gt g] at h
  simp only [crs,Bool.or_eq_true,Bool.and_eq_true,Nat.blt_eq] at h
  dsimp only
  rcases h with ⟨h1,h2,h3⟩ | ⟨h1,h2,h3⟩
  ·have:=ptolemy X c p a q
   rw [lenV_com X a c,lenV_lt X g,lenV_lt X (show p < q by omega),lenV_com X a p,lenV_lt X h2,lenV_lt X (show c < q by omega),lenV_lt X h3,lenV_lt X h1]
   grind
  ·have:=ptolemy X p c q a
   rw [lenV_com X a c,lenV_lt X g,lenV_lt X (show p < q by omega),lenV_com X a p,lenV_lt X (show p < a by omega),lenV_lt X h2,lenV_com X a q,lenV_lt X h3,lenV_com X c p,lenV_lt X h1]
   grind
end Go.Proofs.Ytfcgcgmleogamaa.Ab
namespace Go.Proofs.Ytfcgcgmleogamaa.Ab
open Go
section
variable {K:Type} [DecidableEq K] {lt:K->K->Bool} {mul dv:K->K->K} {D:K->Prop} {chk:K->Int->Bool}
theorem insK_top {k:K} {c:Int} (ho:Ord lt) (hc:c≠0):∀ (l:List (K×Int)),(∀ x∈l,lt x.1 k=true)->insK lt k c l=(k,c) :: l
 | [],_=>by simp [insK,hc]
 | x :: l,h=>by
  have hx:=h x (by simp)
  have hne:¬ x.1=k:=fun e=>by rw [e,ho.irr] at hx;simp at hx
  simp only [insK]
  rw [if_neg hne,if_pos hx,if_neg hc]
theorem co_prodK_cons (q:K) (x:K×Int) (a g:List (K×Int)):co q (prodK mul (x :: a) g)=co q (mulT mul x.1 x.2 g)+co q (prodK mul a g):=by
 unfold prodK
 rw [List.flatMap_cons,co_append]
theorem prodK_mem {a g:List (K×Int)} {y:K×Int} (h:y∈prodK mul a g):∃ x∈a,∃ z∈g,y=(mul x.1 z.1,x.2*z.2):=by
 unfold prodK at h
 obtain ⟨x,hx,h⟩:=List.mem_flatMap.1 h
 obtain ⟨z,hz,h⟩:=List.mem_map.1 h
 exact ⟨x,hx,z,hz,h.symm⟩
theorem divGo_prod (ho:Ord lt) (ha:Act lt mul dv D) (hdm:∀ a b,D a->D b->dv (mul a b) b=a) (hml:∀ x y b,D x->D y->D b->lt x y=true->lt (mul x b) (mul y b)=true)
  {b:K} {d:Int} {gt:List (K×Int)} (hgd:Desc lt ((b,d) :: gt)) (hg0:d≠0) (hgD:∀ x∈(b,d) :: gt,D x.1) :
  ∀ (k:Nat) (fs:List (K×Int)),Desc lt fs->Nz fs->(∀ x∈fs,D x.1/\chk x.1 x.2=true)->fs.length<=k->divGo lt mul dv chk ((b,d) :: gt) b d k (nf lt (prodK mul fs ((b,d) :: gt)))=some fs
 | k,[],_,_,_,_=>by cases k <;> rfl
 | 0,x :: fs,_,_,_,h=>by simp at h
 | k+1,x :: fs,hd,hz,hc,hk=>by
  obtain ⟨hd1,hd2⟩:=List.pairwise_cons.1 hd
  have hxz:=hz x (by simp)
  have hxD:=(hc x (by simp)).1
  have hbD:=hgD (b,d) (by simp)
  have hc0:x.2*d≠0:=Int.mul_ne_zero hxz hg0
  have hgt:=(List.pairwise_cons.1 hgd).1
  -- the greatest term
  have hrest:∀ y∈mulT mul x.1 x.2 gt ++ prodK mul fs ((b,d) :: gt),lt y.1 (mul x.1 b)=true:=fun y hy=>by
   rcases List.mem_append.1 hy with hy | hy
   ·obtain ⟨z,hzg,rfl⟩:=List.mem_map.1 hy
    exact ha.mul_lt _ _ _ hxD (hgD z (by simp [hzg])) hbD (hgt z hzg)
   ·obtain ⟨u,hu,z,hzg,rfl⟩:=prodK_mem hy
    have huD:=(hc u (by simp [hu])).1
    have h1:=hml _ _ b huD hxD hbD (hd1 u hu)
    rcases List.mem_cons.1 hzg with rfl | hzg
    ·exact h1
    ·exact ho.tr _ _ _ (ha.mul_lt _ _ _ huD (hgD z (by simp [hzg])) hbD (hgt z hzg)) h1
  have hR:nf lt (prodK mul (x :: fs) ((b,d) :: gt))=(mul x.1 b,x.2*d) :: nf lt (mulT mul x.1 x.2 gt ++ prodK mul fs ((b,d) :: gt)):=by
   have e:prodK mul (x :: fs) ((b,d) :: gt)=(mul x.1 b,x.2*d) :: (mulT mul x.1 x.2 gt ++ prodK mul fs ((b,d) :: gt)):=rfl
   rw [e]
   show insK lt (mul x.1 b) (x.2*d) (nf lt _)=_
   refine insK_top ho hc0 _ fun y hy=>?_
   obtain ⟨z,hzz,e2⟩:=nf_mem hy
   rw [<-e2]
   exact hrest z hzz
  rw [hR]
  simp only [divGo]
  have h1:(x.2*d).tmod d=0:=Int.mul_tmod_left _ _
  have h2:(x.2*d).tdiv d=x.2:=Int.mul_tdiv_cancel _ hg0
  rw [hdm _ _ hxD hbD,h1,h2,if_pos ⟨rfl,(hc x (by simp)).2⟩]
  have hnf:nf lt ((mul x.1 b,x.2*d) :: nf lt (mulT mul x.1 x.2 gt ++ prodK mul fs ((b,d) :: gt)) ++ mulT mul x.1 (-x.2) ((b,d) :: gt))=nf lt (prodK mul fs ((b,d) :: gt)):=by
   refine nf_unique ho (nf_desc ho _) (nf_nz _) fun q=>?_
   rw [nf_co,<-hR,co_append,nf_co,co_prodK_cons,co_mulT_neg]
   omega
  rw [hnf,divGo_prod ho ha hdm hml hgd hg0 hgD k fs hd2 (fun y hy=>hz y (by simp [hy])) (fun y hy=>hc y (by simp [hy])) (by simpa using hk)]
  rfl
end
end Go.Proofs.Ytfcgcgmleogamaa.Ab
namespace Go.Proofs.Ytfcgcgmleogamaa.Ab
open Go
def TTab:TT:=[
 (2,⟨.int .i64,1,8,[.int .i64 0]⟩),
 (3,⟨.int .i64,1,8,[.int .i64 0]⟩),
 (4,⟨.bool,1,1,[.bool false]⟩),
 (5,⟨.int .u8,1,1,[.int .u8 0]⟩),
 (6,⟨.int .u8,1,1,[.int .u8 0]⟩),
 (9,⟨.str,1,16,[.string .empty]⟩),
 (22,⟨.sl 5,1,24,[.slice none 0 0]⟩),
 (24,⟨.sl 3,1,24,[.slice none 0 0]⟩),
 (26,⟨.st [(0,3),(1,3),(2,24)],3,40,[.int .i64 0,.int .i64 0,.slice none 0 0]⟩),
 (29,⟨.sl 24,1,24,[.slice none 0 0]⟩),
 (42,⟨.sl 44,1,24,[.slice none 0 0]⟩),
 (44,⟨.st [(0,3),(1,3)],2,16,[.int .i64 0,.int .i64 0]⟩),
 (47,⟨.sl 112,1,24,[.slice none 0 0]⟩),
 (49,⟨.st [(0,3),(1,47)],2,32,[.int .i64 0,.slice none 0 0]⟩),
 (70,⟨.sl 49,1,24,[.slice none 0 0]⟩),
 (72,⟨.st [(0,26),(3,70)],4,64,[.int .i64 0,.int .i64 0,.slice none 0 0,.slice none 0 0]⟩),
 (77,⟨.sl 78,1,24,[.slice none 0 0]⟩),
 (78,⟨.st [(0,3),(1,3)],2,16,[.int .i64 0,.int .i64 0]⟩),
 (86,⟨.other,1,8,[.pointer none]⟩),
 (89,⟨.sl 29,1,24,[.slice none 0 0]⟩),
 (90,⟨.sl 26,1,24,[.slice none 0 0]⟩),
 (112,⟨.st [(0,24),(1,3)],2,32,[.slice none 0 0,.int .i64 0]⟩),
 (116,⟨.st [(0,3),(1,42)],2,32,[.int .i64 0,.slice none 0 0]⟩),
 (123,⟨.sl 42,1,24,[.slice none 0 0]⟩),
 (135,⟨.sl 172,1,24,[.slice none 0 0]⟩),
 (141,⟨.st [(0,22),(1,3),(2,3)],3,40,[.slice none 0 0,.int .i64 0,.int .i64 0]⟩),
 (151,⟨.other,1,8,[.pointer none]⟩),
 (155,⟨.arr 8 3,8,64,[.int .i64 0,.int .i64 0,.int .i64 0,.int .i64 0,.int .i64 0,.int .i64 0,.int .i64 0,.int .i64 0]⟩),
 (169,⟨.arr 2 49,4,64,[.int .i64 0,.slice none 0 0,.int .i64 0,.slice none 0 0]⟩),
 (172,⟨.st [(0,3),(1,3)],2,16,[.int .i64 0,.int .i64 0]⟩),
 (173,⟨.sl 135,1,24,[.slice none 0 0]⟩),
 (174,⟨.sl 4,1,24,[.slice none 0 0]⟩),
 (184,⟨.map 155 3,1,8,[.map none]⟩),
 (186,⟨.st [(0,3),(1,184)],2,16,[.int .i64 0,.map none]⟩),
 (199,⟨.sl 9,1,24,[.slice none 0 0]⟩),
 (201,⟨.int .u64,1,8,[.int .u64 0]⟩)]
theorem tt2:tget TTab 2=some ⟨.int .i64,1,8,[.int .i64 0]⟩:=rfl
theorem tt3:tget TTab 3=some ⟨.int .i64,1,8,[.int .i64 0]⟩:=rfl
theorem tt4:tget TTab 4=some ⟨.bool,1,1,[.bool false]⟩:=rfl
theorem tt5:tget TTab 5=some ⟨.int .u8,1,1,[.int .u8 0]⟩:=rfl
theorem tt6:tget TTab 6=some ⟨.int .u8,1,1,[.int .u8 0]⟩:=rfl
theorem tt9:tget TTab 9=some ⟨.str,1,16,[.string .empty]⟩:=rfl
theorem tt22:tget TTab 22=some ⟨.sl 5,1,24,[.slice none 0 0]⟩:=rfl
theorem tt24:tget TTab 24=some ⟨.sl 3,1,24,[.slice none 0 0]⟩:=rfl
theorem tt26:tget TTab 26=some ⟨.st [(0,3),(1,3),(2,24)],3,40,[.int .i64 0,.int .i64 0,.slice none 0 0]⟩:=rfl
theorem tt29:tget TTab 29=some ⟨.sl 24,1,24,[.slice none 0 0]⟩:=rfl
theorem tt42:tget TTab 42=some ⟨.sl 44,1,24,[.slice none 0 0]⟩:=rfl
theorem tt44:tget TTab 44=some ⟨.st [(0,3),(1,3)],2,16,[.int .i64 0,.int .i64 0]⟩:=rfl
theorem tt47:tget TTab 47=some ⟨.sl 112,1,24,[.slice none 0 0]⟩:=rfl
theorem tt49:tget TTab 49=some ⟨.st [(0,3),(1,47)],2,32,[.int .i64 0,.slice none 0 0]⟩:=rfl
theorem tt70:tget TTab 70=some ⟨.sl 49,1,24,[.slice none 0 0]⟩:=rfl
theorem tt72:tget TTab 72=some ⟨.st [(0,26),(3,70)],4,64,[.int .i64 0,.int .i64 0,.slice none 0 0,.slice none 0 0]⟩:=rfl
theorem tt77:tget TTab 77=some ⟨.sl 78,1,24,[.slice none 0 0]⟩:=rfl
theorem tt78:tget TTab 78=some ⟨.st [(0,3),(1,3)],2,16,[.int .i64 0,.int .i64 0]⟩:=rfl
theorem tt86:tget TTab 86=some ⟨.other,1,8,[.pointer none]⟩:=rfl
theorem tt89:tget TTab 89=some ⟨.sl 29,1,24,[.slice none 0 0]⟩:=rfl
theorem tt90:tget TTab 90=some ⟨.sl 26,1,24,[.slice none 0 0]⟩:=rfl
theorem tt112:tget TTab 112=some ⟨.st [(0,24),(1,3)],2,32,[.slice none 0 0,.int .i64 0]⟩:=rfl
theorem tt116:tget TTab 116=some ⟨.st [(0,3),(1,42)],2,32,[.int .i64 0,.slice none 0 0]⟩:=rfl
theorem tt123:tget TTab 123=some ⟨.sl 42,1,24,[.slice none 0 0]⟩:=rfl
theorem tt135:tget TTab 135=some ⟨.sl 172,1,24,[.slice none 0 0]⟩:=rfl
theorem tt141:tget TTab 141=some ⟨.st [(0,22),(1,3),(2,3)],3,40,[.slice none 0 0,.int .i64 0,.int .i64 0]⟩:=rfl
theorem tt151:tget TTab 151=some ⟨.other,1,8,[.pointer none]⟩:=rfl
theorem tt155:tget TTab 155=some ⟨.arr 8 3,8,64,[.int .i64 0,.int .i64 0,.int .i64 0,.int .i64 0,.int .i64 0,.int .i64 0,.int .i64 0,.int .i64 0]⟩:=rfl
theorem tt169:tget TTab 169=some ⟨.arr 2 49,4,64,[.int .i64 0,.slice none 0 0,.int .i64 0,.slice none 0 0]⟩:=rfl
theorem tt172:tget TTab 172=some ⟨.st [(0,3),(1,3)],2,16,[.int .i64 0,.int .i64 0]⟩:=rfl
theorem tt173:tget TTab 173=some ⟨.sl 135,1,24,[.slice none 0 0]⟩:=rfl
theorem tt174:tget TTab 174=some ⟨.sl 4,1,24,[.slice none 0 0]⟩:=rfl
theorem tt184:tget TTab 184=some ⟨.map 155 3,1,8,[.map none]⟩:=rfl
theorem tt186:tget TTab 186=some ⟨.st [(0,3),(1,184)],2,16,[.int .i64 0,.map none]⟩:=rfl
theorem tt199:tget TTab 199=some ⟨.sl 9,1,24,[.slice none 0 0]⟩:=rfl
theorem tt201:tget TTab 201=some ⟨.int .u64,1,8,[.int .u64 0]⟩:=rfl
attribute [simp] tt2 tt3 tt4 tt5 tt6 tt9 tt22 tt24 tt26 tt29 tt42 tt44 tt47 tt49 tt70 tt72 tt77 tt78 tt86 tt89 tt90 tt112 tt116 tt123 tt135 tt141 tt151 tt155 tt169 tt172 tt173 tt174 tt184 tt186 tt199 tt201
def MM:List (Nat×List Bool):=[(50,[true,false]),(51,[true,false]),(54,[true]),(71,[true,false]),(72,[true,false,false]),(73,[true,false]),(108,[true,false]),(110,[true,false]),(124,[true,false]),(126,[true,false]),(130,[true,false,false]),(133,[true]),(163,[true,false]),(165,[true,false]),(166,[true,true]),(172,[true]),(173,[false,false,false,true,true]),(174,[true,false]),(187,[true,true,false,false,false,false]),(195,[true,false])]
theorem mm0:aget [] MM 0=[]:=rfl
theorem mm1:aget [] MM 1=[]:=rfl
theorem mm2:aget [] MM 2=[]:=rfl
theorem mm3:aget [] MM 3=[]:=rfl
theorem mm4:aget [] MM 4=[]:=rfl
theorem mm5:aget [] MM 5=[]:=rfl
theorem mm6:aget [] MM 6=[]:=rfl
theorem mm7:aget [] MM 7=[]:=rfl
theorem mm8:aget [] MM 8=[]:=rfl
theorem mm9:aget [] MM 9=[]:=rfl
theorem mm10:aget [] MM 10=[]:=rfl
theorem mm11:aget [] MM 11=[]:=rfl
theorem mm12:aget [] MM 12=[]:=rfl
theorem mm13:aget [] MM 13=[]:=rfl
theorem mm14:aget [] MM 14=[]:=rfl
theorem mm15:aget [] MM 15=[]:=rfl
theorem mm16:aget [] MM 16=[]:=rfl
theorem mm17:aget [] MM 17=[]:=rfl
theorem mm18:aget [] MM 18=[]:=rfl
theorem mm19:aget [] MM 19=[]:=rfl
theorem mm20:aget [] MM 20=[]:=rfl
theorem mm21:aget [] MM 21=[]:=rfl
theorem mm22:aget [] MM 22=[]:=rfl
theorem mm23:aget [] MM 23=[]:=rfl
theorem mm24:aget [] MM 24=[]:=rfl
theorem mm25:aget [] MM 25=[]:=rfl
theorem mm26:aget [] MM 26=[]:=rfl
theorem mm27:aget [] MM 27=[]:=rfl
theorem mm28:aget [] MM 28=[]:=rfl
theorem mm29:aget [] MM 29=[]:=rfl
theorem mm30:aget [] MM 30=[]:=rfl
theorem mm31:aget [] MM 31=[]:=rfl
theorem mm32:aget [] MM 32=[]:=rfl
theorem mm33:aget [] MM 33=[]:=rfl
theorem mm34:aget [] MM 34=[]:=rfl
theorem mm35:aget [] MM 35=[]:=rfl
theorem mm36:aget [] MM 36=[]:=rfl
theorem mm37:aget [] MM 37=[]:=rfl
theorem mm38:aget [] MM 38=[]:=rfl
theorem mm39:aget [] MM 39=[]:=rfl
theorem mm40:aget [] MM 40=[]:=rfl
theorem mm41:aget [] MM 41=[]:=rfl
theorem mm42:aget [] MM 42=[]:=rfl
theorem mm43:aget [] MM 43=[]:=rfl
theorem mm44:aget [] MM 44=[]:=rfl
theorem mm45:aget [] MM 45=[]:=rfl
theorem mm46:aget [] MM 46=[]:=rfl
theorem mm47:aget [] MM 47=[]:=rfl
theorem mm48:aget [] MM 48=[]:=rfl
theorem mm49:aget [] MM 49=[]:=rfl
theorem mm50:aget [] MM 50=[true,false]:=rfl
theorem mm51:aget [] MM 51=[true,false]:=rfl
theorem mm52:aget [] MM 52=[]:=rfl
theorem mm53:aget [] MM 53=[]:=rfl
theorem mm54:aget [] MM 54=[true]:=rfl
theorem mm55:aget [] MM 55=[]:=rfl
theorem mm56:aget [] MM 56=[]:=rfl
theorem mm57:aget [] MM 57=[]:=rfl
theorem mm58:aget [] MM 58=[]:=rfl
theorem mm59:aget [] MM 59=[]:=rfl
theorem mm60:aget [] MM 60=[]:=rfl
theorem mm61:aget [] MM 61=[]:=rfl
theorem mm62:aget [] MM 62=[]:=rfl
theorem mm63:aget [] MM 63=[]:=rfl
theorem mm64:aget [] MM 64=[]:=rfl
theorem mm65:aget [] MM 65=[]:=rfl
theorem mm66:aget [] MM 66=[]:=rfl
theorem mm67:aget [] MM 67=[]:=rfl
theorem mm68:aget [] MM 68=[]:=rfl
theorem mm69:aget [] MM 69=[]:=rfl
theorem mm70:aget [] MM 70=[]:=rfl
theorem mm71:aget [] MM 71=[true,false]:=rfl
theorem mm72:aget [] MM 72=[true,false,false]:=rfl
theorem mm73:aget [] MM 73=[true,false]:=rfl
theorem mm74:aget [] MM 74=[]:=rfl
theorem mm75:aget [] MM 75=[]:=rfl
theorem mm76:aget [] MM 76=[]:=rfl
theorem mm77:aget [] MM 77=[]:=rfl
theorem mm78:aget [] MM 78=[]:=rfl
theorem mm79:aget [] MM 79=[]:=rfl
theorem mm80:aget [] MM 80=[]:=rfl
theorem mm81:aget [] MM 81=[]:=rfl
theorem mm82:aget [] MM 82=[]:=rfl
theorem mm83:aget [] MM 83=[]:=rfl
theorem mm84:aget [] MM 84=[]:=rfl
theorem mm85:aget [] MM 85=[]:=rfl
theorem mm86:aget [] MM 86=[]:=rfl
theorem mm87:aget [] MM 87=[]:=rfl
theorem mm88:aget [] MM 88=[]:=rfl
theorem mm89:aget [] MM 89=[]:=rfl
theorem mm90:aget [] MM 90=[]:=rfl
theorem mm91:aget [] MM 91=[]:=rfl
theorem mm92:aget [] MM 92=[]:=rfl
theorem mm93:aget [] MM 93=[]:=rfl
theorem mm94:aget [] MM 94=[]:=rfl
theorem mm95:aget [] MM 95=[]:=rfl
theorem mm96:aget [] MM 96=[]:=rfl
theorem mm97:aget [] MM 97=[]:=rfl
theorem mm98:aget [] MM 98=[]:=rfl
theorem mm99:aget [] MM 99=[]:=rfl
theorem mm100:aget [] MM 100=[]:=rfl
theorem mm101:aget [] MM 101=[]:=rfl
theorem mm102:aget [] MM 102=[]:=rfl
theorem mm103:aget [] MM 103=[]:=rfl
theorem mm104:aget [] MM 104=[]:=rfl
theorem mm105:aget [] MM 105=[]:=rfl
theorem mm106:aget [] MM 106=[]:=rfl
theorem mm107:aget [] MM 107=[]:=rfl
theorem mm108:aget [] MM 108=[true,false]:=rfl
theorem mm109:aget [] MM 109=[]:=rfl
theorem mm110:aget [] MM 110=[true,false]:=rfl
theorem mm111:aget [] MM 111=[]:=rfl
theorem mm112:aget [] MM 112=[]:=rfl
theorem mm113:aget [] MM 113=[]:=rfl
theorem mm114:aget [] MM 114=[]:=rfl
theorem mm115:aget [] MM 115=[]:=rfl
theorem mm116:aget [] MM 116=[]:=rfl
theorem mm117:aget [] MM 117=[]:=rfl
theorem mm118:aget [] MM 118=[]:=rfl
theorem mm119:aget [] MM 119=[]:=rfl
theorem mm120:aget [] MM 120=[]:=rfl
theorem mm121:aget [] MM 121=[]:=rfl
theorem mm122:aget [] MM 122=[]:=rfl
theorem mm123:aget [] MM 123=[]:=rfl
theorem mm124:aget [] MM 124=[true,false]:=rfl
theorem mm125:aget [] MM 125=[]:=rfl
theorem mm126:aget [] MM 126=[true,false]:=rfl
theorem mm127:aget [] MM 127=[]:=rfl
theorem mm128:aget [] MM 128=[]:=rfl
theorem mm129:aget [] MM 129=[]:=rfl
theorem mm130:aget [] MM 130=[true,false,false]:=rfl
theorem mm131:aget [] MM 131=[]:=rfl
theorem mm132:aget [] MM 132=[]:=rfl
theorem mm133:aget [] MM 133=[true]:=rfl
theorem mm134:aget [] MM 134=[]:=rfl
theorem mm135:aget [] MM 135=[]:=rfl
theorem mm136:aget [] MM 136=[]:=rfl
theorem mm137:aget [] MM 137=[]:=rfl
theorem mm138:aget [] MM 138=[]:=rfl
theorem mm139:aget [] MM 139=[]:=rfl
theorem mm140:aget [] MM 140=[]:=rfl
theorem mm141:aget [] MM 141=[]:=rfl
theorem mm142:aget [] MM 142=[]:=rfl
theorem mm143:aget [] MM 143=[]:=rfl
theorem mm144:aget [] MM 144=[]:=rfl
theorem mm145:aget [] MM 145=[]:=rfl
theorem mm146:aget [] MM 146=[]:=rfl
theorem mm147:aget [] MM 147=[]:=rfl
theorem mm148:aget [] MM 148=[]:=rfl
theorem mm149:aget [] MM 149=[]:=rfl
theorem mm150:aget [] MM 150=[]:=rfl
theorem mm151:aget [] MM 151=[]:=rfl
theorem mm152:aget [] MM 152=[]:=rfl
theorem mm153:aget [] MM 153=[]:=rfl
theorem mm154:aget [] MM 154=[]:=rfl
theorem mm155:aget [] MM 155=[]:=rfl
theorem mm156:aget [] MM 156=[]:=rfl
theorem mm157:aget [] MM 157=[]:=rfl
theorem mm158:aget [] MM 158=[]:=rfl
theorem mm159:aget [] MM 159=[]:=rfl
theorem mm160:aget [] MM 160=[]:=rfl
theorem mm161:aget [] MM 161=[]:=rfl
theorem mm162:aget [] MM 162=[]:=rfl
theorem mm163:aget [] MM 163=[true,false]:=rfl
theorem mm164:aget [] MM 164=[]:=rfl
theorem mm165:aget [] MM 165=[true,false]:=rfl
theorem mm166:aget [] MM 166=[true,true]:=rfl
theorem mm167:aget [] MM 167=[]:=rfl
theorem mm168:aget [] MM 168=[]:=rfl
theorem mm169:aget [] MM 169=[]:=rfl
theorem mm170:aget [] MM 170=[]:=rfl
theorem mm171:aget [] MM 171=[]:=rfl
theorem mm172:aget [] MM 172=[true]:=rfl
theorem mm173:aget [] MM 173=[false,false,false,true,true]:=rfl
theorem mm174:aget [] MM 174=[true,false]:=rfl
theorem mm175:aget [] MM 175=[]:=rfl
theorem mm176:aget [] MM 176=[]:=rfl
theorem mm177:aget [] MM 177=[]:=rfl
theorem mm178:aget [] MM 178=[]:=rfl
theorem mm179:aget [] MM 179=[]:=rfl
theorem mm180:aget [] MM 180=[]:=rfl
theorem mm181:aget [] MM 181=[]:=rfl
theorem mm182:aget [] MM 182=[]:=rfl
theorem mm183:aget [] MM 183=[]:=rfl
theorem mm184:aget [] MM 184=[]:=rfl
theorem mm185:aget [] MM 185=[]:=rfl
theorem mm186:aget [] MM 186=[]:=rfl
theorem mm187:aget [] MM 187=[true,true,false,false,false,false]:=rfl
theorem mm188:aget [] MM 188=[]:=rfl
theorem mm189:aget [] MM 189=[]:=rfl
theorem mm190:aget [] MM 190=[]:=rfl
theorem mm191:aget [] MM 191=[]:=rfl
theorem mm192:aget [] MM 192=[]:=rfl
theorem mm193:aget [] MM 193=[]:=rfl
theorem mm194:aget [] MM 194=[]:=rfl
theorem mm195:aget [] MM 195=[true,false]:=rfl
theorem mm196:aget [] MM 196=[]:=rfl
theorem mm197:aget [] MM 197=[]:=rfl
theorem mm198:aget [] MM 198=[]:=rfl
theorem mm199:aget [] MM 199=[]:=rfl
theorem mm200:aget [] MM 200=[]:=rfl
theorem mm201:aget [] MM 201=[]:=rfl
theorem mm202:aget [] MM 202=[]:=rfl
theorem mm203:aget [] MM 203=[]:=rfl
theorem mm204:aget [] MM 204=[]:=rfl
theorem mm205:aget [] MM 205=[]:=rfl
theorem mm206:aget [] MM 206=[]:=rfl
theorem mm207:aget [] MM 207=[]:=rfl
theorem mm208:aget [] MM 208=[]:=rfl
theorem mm209:aget [] MM 209=[]:=rfl
theorem mm210:aget [] MM 210=[]:=rfl
theorem mm211:aget [] MM 211=[]:=rfl
theorem mm212:aget [] MM 212=[]:=rfl
theorem mm213:aget [] MM 213=[]:=rfl
theorem mm214:aget [] MM 214=[]:=rfl
theorem mm215:aget [] MM 215=[]:=rfl
theorem mm216:aget [] MM 216=[]:=rfl
theorem mm217:aget [] MM 217=[]:=rfl
theorem mm218:aget [] MM 218=[]:=rfl
theorem mm219:aget [] MM 219=[]:=rfl
theorem mm220:aget [] MM 220=[]:=rfl
theorem mm221:aget [] MM 221=[]:=rfl
theorem mm222:aget [] MM 222=[]:=rfl
theorem mm223:aget [] MM 223=[]:=rfl
theorem mm224:aget [] MM 224=[]:=rfl
theorem mm225:aget [] MM 225=[]:=rfl
theorem mm226:aget [] MM 226=[]:=rfl
theorem mm227:aget [] MM 227=[]:=rfl
attribute [simp] mm0 mm1 mm2 mm3 mm4 mm5 mm6 mm7 mm8 mm9 mm10 mm11 mm12 mm13 mm14 mm15 mm16 mm17 mm18 mm19 mm20 mm21 mm22 mm23 mm24 mm25 mm26 mm27 mm28 mm29 mm30 mm31 mm32 mm33 mm34 mm35 mm36 mm37 mm38 mm39 mm40 mm41 mm42 mm43 mm44 mm45 mm46 mm47 mm48 mm49 mm50 mm51 mm52 mm53 mm54 mm55 mm56 mm57 mm58 mm59 mm60 mm61 mm62 mm63 mm64 mm65 mm66 mm67 mm68 mm69 mm70 mm71 mm72 mm73 mm74 mm75 mm76 mm77 mm78 mm79 mm80 mm81 mm82 mm83 mm84 mm85 mm86 mm87 mm88 mm89 mm90 mm91 mm92 mm93 mm94 mm95 mm96 mm97 mm98 mm99 mm100 mm101 mm102 mm103 mm104 mm105 mm106 mm107 mm108 mm109 mm110 mm111 mm112 mm113 mm114 mm115 mm116 mm117 mm118 mm119 mm120 mm121 mm122 mm123 mm124 mm125 mm126 mm127 mm128 mm129 mm130 mm131 mm132 mm133 mm134 mm135 mm136 mm137 mm138 mm139 mm140 mm141 mm142 mm143 mm144 mm145 mm146 mm147 mm148 mm149 mm150 mm151 mm152 mm153 mm154 mm155 mm156 mm157 mm158 mm159 mm160 mm161 mm162 mm163 mm164 mm165 mm166 mm167 mm168 mm169 mm170 mm171 mm172 mm173 mm174 mm175 mm176 mm177 mm178 mm179 mm180 mm181 mm182 mm183 mm184 mm185 mm186 mm187 mm188 mm189 mm190 mm191 mm192 mm193 mm194 mm195 mm196 mm197 mm198 mm199 mm200 mm201 mm202 mm203 mm204 mm205 mm206 mm207 mm208 mm209 mm210 mm211 mm212 mm213 mm214 mm215 mm216 mm217 mm218 mm219 mm220 mm221 mm222 mm223 mm224 mm225 mm226 mm227
namespace F
abbrev laws_FnExactArcLaurent:Nat:=8
abbrev impl_ArcLaurent:Nat:=28
abbrev impl_DiagonalsCross:Nat:=31
abbrev laws_szDiagonalS:Nat:=44
abbrev spec_ArcLaurent:Nat:=45
abbrev laws_toDiagonalS:Nat:=46
abbrev laws_toDiagonal:Nat:=47
abbrev laws_eqLaurent:Nat:=48
abbrev laws_eqDiagonalS:Nat:=49
abbrev laws_markDiagonalS:Nat:=50
abbrev laws_markLaurent:Nat:=51
abbrev laws_heldLaurent:Nat:=52
abbrev slices_Clone_int_int:Nat:=57
abbrev impl_within:Nat:=60
abbrev impl_unit:Nat:=63
abbrev spec_l1In:Nat:=69
abbrev impl_MulLaurents:Nat:=74
abbrev impl_AddLaurents:Nat:=76
abbrev impl_IsTriangulation:Nat:=77
abbrev impl_IsDiagonal:Nat:=78
abbrev impl_lengths_of:Nat:=79
abbrev impl_LaurentOk:Nat:=80
abbrev spec_l2Right:Nat:=84
abbrev slices_ContainsFunc_int_int:Nat:=90
abbrev slices_Index_impl_Diagonal_impl_Diagonal:Nat:=95
abbrev impl_MonomialLaurent:Nat:=96
abbrev spec_IsTriangulation:Nat:=102
abbrev spec_IsDiagonal:Nat:=103
abbrev spec_l2Shut:Nat:=104
abbrev spec_l5Arc:Nat:=105
abbrev laws_eqTermS:Nat:=106
abbrev laws_eqDiagonal:Nat:=107
abbrev laws_markTermS:Nat:=108
abbrev laws_heldTermS:Nat:=109
abbrev impl_bothOk:Nat:=128
abbrev impl_newBuilding:Nat:=129
abbrev impl_building_add:Nat:=130
abbrev impl_plusExp:Nat:=131
abbrev impl_keyOf:Nat:=132
abbrev impl_building_done:Nat:=133
abbrev impl_polygonOk:Nat:=134
abbrev impl_apart:Nat:=135
abbrev impl_beside:Nat:=136
abbrev impl_ConstantLaurent:Nat:=137
abbrev impl_lengths_known:Nat:=138
abbrev impl_DivideLaurents:Nat:=139
abbrev impl_expOk:Nat:=140
abbrev impl_coefOk:Nat:=141
abbrev slices_Compare_int_int:Nat:=142
abbrev spec_l1Less:Nat:=144
abbrev slices_Contains_impl_Diagonal_impl_Diagonal:Nat:=146
abbrev slices_IndexFunc_int_int:Nat:=150
abbrev spec_l5Polygon:Nat:=154
abbrev spec_l5Cross:Nat:=155
abbrev spec_l2Exp:Nat:=156
abbrev spec_l2Base:Nat:=157
abbrev spec_l5Triangles:Nat:=158
abbrev spec_l5Length:Nat:=159
abbrev spec_l2Times:Nat:=160
abbrev spec_l2Plus:Nat:=161
abbrev laws_eqTerm:Nat:=162
abbrev laws_markIntS:Nat:=163
abbrev laws_heldIntS:Nat:=164
abbrev slices_SortFunc_impl_Term_impl_Term:Nat:=174
abbrev impl_building_done_1:Nat:=175
abbrev slices_ContainsFunc_impl_Diagonal_impl_Diagonal:Nat:=176
abbrev impl_apart_1:Nat:=177
abbrev impl_expOk_1:Nat:=178
abbrev cmp_Compare_int:Nat:=179
abbrev spec_l2Key:Nat:=182
abbrev spec_l5Side:Nat:=183
abbrev spec_l2Gather:Nat:=184
abbrev laws_eqIntS:Nat:=185
abbrev slices_IndexFunc_impl_Diagonal_impl_Diagonal:Nat:=193
abbrev cmp_isNaN_int:Nat:=194
end F
namespace C
noncomputable def spec_l1In:Ctx:={ P:=Try.prog,T:=TTab,M:=MM,nW:=0,kp:=[(0,[0,1,2]),(1,[6])],lp:=[],pl:=[] }
noncomputable def spec_l1Less:Ctx:={ P:=Try.prog,T:=TTab,M:=MM,nW:=0,kp:=[(0,[0,1]),(1,[0,1,5]),(2,[0,1,5,15]),(3,[0,1,5]),(4,[0,1,5,26]),(5,[4]),(6,[4])],lp:=[(0,[0,1,5])],pl:=[(4,.take 0 (.take 1 (.take 2 (.take 3 (.take 4 (.take 5 (.take 6 (.take 7 (.take 8 (.done)))))))))),(5,.take 0 (.take 1 (.take 2 (.take 3 (.take 4 (.take 5 (.take 6 (.take 7 (.take 8 (.take 9 (.done)))))))))))] }
noncomputable def spec_l2Right:Ctx:={ P:=Try.prog,T:=TTab,M:=MM,nW:=0,kp:=[(0,[1]),(1,[1,15]),(2,[2]),(3,[1,3]),(4,[1,3,20]),(5,[1,3]),(6,[1,3,4]),(7,[1,3,4,61]),(8,[2]),(9,[1,3,4,5]),(10,[1,3,4,5,65]),(11,[1,3,4,5]),(12,[1,3,4,5,74]),(13,[2]),(14,[2])],lp:=[(0,[1,3]),(2,[1,3,4,5])],pl:=[(7,.take 0 (.take 1 (.take 2 (.take 3 (.take 4 (.take 5 (.take 6 (.take 7 (.take 8 (.take 9 (.take 10 (.take 11 (.take 12 (.take 13 (.all [(14,.take 15 (.take 16 (.take 17 (.take 18 (.take 19 (.take 20 (.take 21 (.take 22 (.take 23 (.take 24 (.take 25 (.take 26 (.take 27 (.take 28 (.take 29 (.all [(30,.take 31 (.take 32 (.take 33 (.done))))]))))))))))))))))])))))))))))))))] }
noncomputable def impl_within:Ctx:={ P:=Try.prog,T:=TTab,M:=MM,nW:=0,kp:=[(0,[0,1,2]),(1,[6])],lp:=[],pl:=[] }
noncomputable def slices_IndexFunc_int_int:Ctx:={ P:=Try.prog,T:=TTab,M:=MM,nW:=0,kp:=[(0,[0,1]),(1,[0,1,7,8]),(2,[0,1,7,8,9]),(3,[0,1,5,7,8]),(4,[0,1,5,7,8,16]),(5,[4]),(6,[0,1,7,8]),(7,[4])],lp:=[(0,[0,1,7,8])],pl:=[] }
noncomputable def slices_ContainsFunc_int_int:Ctx:={ P:=Try.prog,T:=TTab,M:=MM,nW:=0,kp:=[(0,[0,1]),(1,[4])],lp:=[],pl:=[] }
noncomputable def slices_Clone_int_int:Ctx:={ P:=Try.prog,T:=TTab,M:=MM,nW:=0,kp:=[(0,[0]),(1,[0,4]),(2,[2]),(3,[2])],lp:=[],pl:=[] }
noncomputable def impl_unit:Ctx:={ P:=Try.prog,T:=TTab,M:=MM,nW:=0,kp:=[(0,[0,1]),(1,[1,5]),(2,[5]),(3,[4])],lp:=[],pl:=[] }
noncomputable def impl_expOk_1:Ctx:={ P:=Try.prog,T:=TTab,M:=MM,nW:=0,kp:=[(0,[0]),(1,[2])],lp:=[],pl:=[] }
noncomputable def impl_expOk:Ctx:={ P:=Try.prog,T:=TTab,M:=MM,nW:=0,kp:=[(0,[0,1]),(1,[4])],lp:=[],pl:=[] }
noncomputable def impl_MonomialLaurent:Ctx:={ P:=Try.prog,T:=TTab,M:=MM,nW:=0,kp:=[(0,[0,2]),(1,[0,2,13]),(2,[2]),(3,[2])],lp:=[],pl:=[] }
noncomputable def laws_eqIntS:Ctx:={ P:=Try.prog,T:=TTab,M:=MM,nW:=0,kp:=[(0,[0,1]),(1,[0,1,10]),(2,[4]),(3,[0,1,5]),(4,[0,1,5,14]),(5,[0,1,5]),(6,[0,1,5,25]),(7,[4]),(8,[4])],lp:=[(0,[0,1,5])],pl:=[(6,.take 0 (.take 1 (.take 2 (.take 3 (.take 4 (.take 5 (.take 6 (.take 7 (.take 8 (.done))))))))))] }
noncomputable def laws_eqTerm:Ctx:={ P:=Try.prog,T:=TTab,M:=MM,nW:=0,kp:=[(0,[2,3]),(1,[2,3,10]),(2,[4]),(3,[15]),(4,[4]),(5,[4])],lp:=[],pl:=[] }
noncomputable def laws_eqTermS:Ctx:={ P:=Try.prog,T:=TTab,M:=MM,nW:=0,kp:=[(0,[0,1]),(1,[0,1,10]),(2,[4]),(3,[0,1,5]),(4,[0,1,5,14]),(5,[0,1,5]),(6,[0,1,5,26]),(7,[4]),(8,[4])],lp:=[(0,[0,1,5])],pl:=[(6,.take 0 (.take 1 (.take 2 (.take 3 (.take 4 (.take 5 (.take 6 (.take 7 (.all [(8,.take 9 (.done))])))))))))] }
noncomputable def laws_eqLaurent:Ctx:={ P:=Try.prog,T:=TTab,M:=MM,nW:=0,kp:=[(0,[2,3]),(1,[2,3,9]),(2,[4]),(3,[15]),(4,[4]),(5,[4])],lp:=[],pl:=[] }
noncomputable def laws_markIntS:Ctx:={ P:=Try.prog,T:=TTab,M:=MM,nW:=1,kp:=[(0,[0,1]),(1,[0,1,5]),(2,[0,1,5,9]),(3,[0,1,5]),(4,[0,1,5]),(5,[0,1,5]),(6,[4])],lp:=[(0,[0,1,5])],pl:=[] }
noncomputable def laws_markTermS:Ctx:={ P:=Try.prog,T:=TTab,M:=MM,nW:=1,kp:=[(0,[0,1]),(1,[0,1,5]),(2,[0,1,5,9]),(3,[0,1,5]),(4,[0,1,5]),(5,[0,1,5]),(6,[0,1,5]),(7,[4])],lp:=[(0,[0,1,5])],pl:=[] }
noncomputable def laws_heldIntS:Ctx:={ P:=Try.prog,T:=TTab,M:=MM,nW:=0,kp:=[(0,[0,1]),(1,[0,1,5]),(2,[0,1,5,9]),(3,[0,1,5]),(4,[0,1,5,17]),(5,[4]),(6,[0,1,5]),(7,[4])],lp:=[(0,[0,1,5])],pl:=[] }
noncomputable def laws_heldTermS:Ctx:={ P:=Try.prog,T:=TTab,M:=MM,nW:=0,kp:=[(0,[0,1]),(1,[0,1,5]),(2,[0,1,5,9]),(3,[0,1,5]),(4,[0,1,5]),(5,[0,1,5,20]),(6,[4]),(7,[0,1,5,27]),(8,[4]),(9,[0,1,5]),(10,[4])],lp:=[(0,[0,1,5])],pl:=[] }
noncomputable def laws_markLaurent:Ctx:={ P:=Try.prog,T:=TTab,M:=MM,nW:=1,kp:=[(0,[1,2]),(1,[1]),(2,[4])],lp:=[],pl:=[] }
noncomputable def laws_heldLaurent:Ctx:={ P:=Try.prog,T:=TTab,M:=MM,nW:=0,kp:=[(0,[1,2]),(1,[1]),(2,[1,10]),(3,[4]),(4,[4])],lp:=[],pl:=[] }
noncomputable def spec_l2Exp:Ctx:={ P:=Try.prog,T:=TTab,M:=MM,nW:=0,kp:=[(0,[0,1]),(1,[0,1,5]),(2,[0,5,6]),(3,[0,5,6,12]),(4,[0,5,6]),(5,[0,5,6]),(6,[0,5,6]),(7,[4])],lp:=[(0,[0,5,6])],pl:=[] }
noncomputable def spec_l2Shut:Ctx:={ P:=Try.prog,T:=TTab,M:=MM,nW:=0,kp:=[(0,[0,1,4]),(1,[0,1,4,10]),(2,[4,5]),(3,[0,1,4,6]),(4,[0,1,4,6,7]),(5,[0,1,4,6,7,18]),(6,[0,1,4,6,7]),(7,[0,1,4,6,7]),(8,[4,6,41]),(9,[4,5]),(10,[4,5])],lp:=[(0,[0,1,4,6,7])],pl:=[(7,.take 0 (.take 1 (.take 2 (.take 3 (.take 4 (.take 5 (.take 6 (.take 7 (.take 9 (.take 10 (.take 11 (.take 12 (.take 13 (.all [(8,.take 14 (.all [(15,.all [(16,.take 17 (.all [(18,.done)]))])]))]))))))))))))))] }
noncomputable def spec_l2Key:Ctx:={ P:=Try.prog,T:=TTab,M:=MM,nW:=0,kp:=[(0,[0]),(1,[0,3]),(2,[0,3,4]),(3,[0,3,4,8]),(4,[0,3,4]),(5,[0,3,4]),(6,[2])],lp:=[(0,[0,3,4])],pl:=[] }
noncomputable def spec_l2Base:Ctx:={ P:=Try.prog,T:=TTab,M:=MM,nW:=0,kp:=[(0,[0]),(1,[2])],lp:=[],pl:=[] }
noncomputable def spec_l2Gather:Ctx:={ P:=Try.prog,T:=TTab,M:=MM,nW:=0,kp:=[(0,[0]),(1,[3]),(2,[3,4]),(3,[3,4,19]),(4,[3,4]),(5,[3,4,5]),(6,[3,4,5,6]),(7,[3,4,5,6,28]),(8,[3,4,5,6]),(9,[3,4,5,6,7]),(10,[3,4,5,6,7,8]),(11,[3,4,5,6,7,8,9]),(12,[3,4,5,6,7,8,9,10]),(13,[3,4,5,6,7,8,9,10,55]),(14,[3,4,5,6,7,8,9,10,76]),(15,[3,4,5,6,7,8,9,10]),(16,[3,4,5,6,7,8,9,10]),(17,[3,4,5,6,7,8,9,10]),(18,[3,4,5,6,7,8,9,10]),(19,[3,4]),(20,[3,11]),(21,[3,11,12]),(22,[3,11,12,100]),(23,[3,11,12]),(24,[3,11,12,120]),(25,[3,11,12]),(26,[3,11,12]),(27,[3,11,12,165]),(28,[3,11,12,173]),(29,[3,11,12]),(30,[2])],lp:=[(0,[3,4]),(2,[3,4,5,6]),(4,[3,4,5,6,7,8,9,10]),(6,[3,11,12])],pl:=[(14,.take 0 (.take 1 (.take 2 (.take 3 (.take 4 (.take 5 (.take 6 (.take 7 (.take 8 (.take 9 (.take 10 (.take 11 (.take 12 (.take 13 (.take 14 (.take 15 (.take 16 (.take 17 (.take 18 (.take 19 (.take 20 (.done)))))))))))))))))))))),(24,.take 0 (.take 1 (.take 2 (.take 3 (.take 4 (.take 5 (.take 6 (.take 7 (.take 8 (.take 9 (.take 10 (.take 11 (.take 12 (.take 13 (.take 14 (.take 15 (.take 16 (.take 17 (.done))))))))))))))))))),(25,.take 0 (.take 1 (.take 2 (.take 3 (.take 4 (.take 5 (.take 6 (.take 7 (.take 8 (.take 9 (.take 10 (.take 11 (.take 12 (.take 13 (.take 14 (.take 15 (.take 16 (.take 17 (.take 18 (.all [(19,.done)])))))))))))))))))))),(27,.take 0 (.take 1 (.take 2 (.take 3 (.take 4 (.take 5 (.take 6 (.take 7 (.take 8 (.take 9 (.take 10 (.take 11 (.take 12 (.take 13 (.take 14 (.take 15 (.take 16 (.take 17 (.take 18 (.done))))))))))))))))))))] }
noncomputable def spec_l2Times:Ctx:={ P:=Try.prog,T:=TTab,M:=MM,nW:=0,kp:=[(0,[0,1,2]),(1,[0,1,2,7]),(2,[0,1,2,7,8]),(3,[0,1,2,7,8,19]),(4,[0,1,2,7,8]),(5,[0,1,2,7,8,9]),(6,[0,1,2,7,8,9,25]),(7,[0,1,2,7,8,9]),(8,[0,1,2,7,8,9]),(9,[6])],lp:=[(0,[0,1,2,7,8]),(2,[0,1,2,7,8,9])],pl:=[(8,.take 0 (.take 1 (.take 2 (.take 3 (.take 4 (.take 5 (.take 6 (.take 7 (.take 8 (.take 9 (.take 10 (.take 11 (.take 12 (.take 13 (.take 14 (.take 15 (.take 16 (.take 17 (.take 18 (.take 19 (.take 20 (.take 21 (.take 22 (.take 23 (.take 24 (.take 25 (.all [(26,.all [(27,.take 28 (.done))])])))))))))))))))))))))))))))] }
noncomputable def cmp_isNaN_int:Ctx:={ P:=Try.prog,T:=TTab,M:=MM,nW:=0,kp:=[(0,[0]),(1,[2])],lp:=[],pl:=[] }
noncomputable def cmp_Compare_int:Ctx:={ P:=Try.prog,T:=TTab,M:=MM,nW:=0,kp:=[(0,[0,1]),(1,[0,1,5]),(2,[0,1,5,6]),(3,[0,1,6,11]),(4,[12]),(5,[4]),(6,[4]),(7,[0,1,13]),(8,[4]),(9,[0,1,16]),(10,[4]),(11,[19]),(12,[4]),(13,[4])],lp:=[],pl:=[] }
noncomputable def slices_Compare_int_int:Ctx:={ P:=Try.prog,T:=TTab,M:=MM,nW:=0,kp:=[(0,[0,1]),(1,[0,1,9,10,11]),(2,[0,1,9,10,11,12]),(3,[0,1,5,6,9,10,11]),(4,[0,1,5,6,9,10,11,19]),(5,[4]),(6,[0,1,6,7,9,10,11]),(7,[0,1,8,9,10,11]),(8,[0,1,8,9,10,11,28]),(9,[4]),(10,[0,1,9,10,11]),(11,[35]),(12,[4]),(13,[4])],lp:=[(0,[0,1,9,10,11])],pl:=[] }
noncomputable def impl_coefOk:Ctx:={ P:=Try.prog,T:=TTab,M:=MM,nW:=0,kp:=[(0,[0]),(1,[2])],lp:=[],pl:=[] }
noncomputable def impl_LaurentOk:Ctx:={ P:=Try.prog,T:=TTab,M:=MM,nW:=0,kp:=[(0,[1]),(1,[1,14]),(2,[2]),(3,[1,16,17,18]),(4,[1,16,17,18,19]),(5,[1,3,4,16,17,18]),(6,[1,16,17,18,51]),(7,[2]),(8,[1,16,17,18]),(9,[2])],lp:=[(0,[1,16,17,18])],pl:=[(6,.take 0 (.take 1 (.take 2 (.take 3 (.all [(4,.take 5 (.take 6 (.take 7 (.take 8 (.all [(9,.take 10 (.take 11 (.take 12 (.take 13 (.take 14 (.take 15 (.take 16 (.take 17 (.take 18 (.take 19 (.take 20 (.take 21 (.take 22 (.take 23 (.take 24 (.all [(25,.take 26 (.take 27 (.take 28 (.done))))]))))))))))))))))])))))])))))] }
noncomputable def impl_bothOk:Ctx:={ P:=Try.prog,T:=TTab,M:=MM,nW:=0,kp:=[(0,[2,3]),(1,[4])],lp:=[],pl:=[] }
noncomputable def impl_newBuilding:Ctx:={ P:=Try.prog,T:=TTab,M:=MM,nW:=0,kp:=[(0,[0]),(1,[2])],lp:=[],pl:=[] }
noncomputable def impl_building_add:Ctx:={ P:=Try.prog,T:=TTab,M:=MM,nW:=1,kp:=[(0,[0,2,4]),(1,[0,2,4]),(2,[0,2,4,15]),(3,[]),(4,[])],lp:=[],pl:=[(1,.take 0 (.take 1 (.take 2 (.take 3 (.take 4 (.take 5 (.take 6 (.take 7 (.take 8 (.done)))))))))),(3,.take 0 (.take 1 (.take 2 (.take 3 (.take 4 (.all [(5,.done)])))))),(4,.take 0 (.take 1 (.take 2 (.take 3 (.take 4 (.take 5 (.all [(6,.done)])))))))] }
noncomputable def impl_plusExp:Ctx:={ P:=Try.prog,T:=TTab,M:=MM,nW:=0,kp:=[(0,[1,3,5,6]),(1,[1,3,5,6,8]),(2,[1,3,5,6,8,9]),(3,[1,3,5,6,7,8]),(4,[1,3,5,6,8]),(5,[1,3,5,6,8]),(6,[6])],lp:=[(0,[1,3,5,6,8])],pl:=[(4,.take 0 (.take 1 (.take 2 (.take 3 (.take 4 (.take 5 (.take 6 (.take 7 (.take 8 (.take 9 (.all [(10,.done)])))))))))))] }
noncomputable def impl_keyOf:Ctx:={ P:=Try.prog,T:=TTab,M:=MM,nW:=0,kp:=[(0,[0,2]),(1,[0,2,3]),(2,[2,3]),(3,[2])],lp:=[],pl:=[] }
noncomputable def slices_SortFunc_impl_Term_impl_Term:Ctx:={ P:=Try.prog,T:=TTab,M:=MM,nW:=0,kp:=[(0,[0,1,4]),(1,[])],lp:=[],pl:=[] }
noncomputable def impl_building_done_1:Ctx:={ P:=Try.prog,T:=TTab,M:=MM,nW:=0,kp:=[(0,[2,3]),(1,[4])],lp:=[],pl:=[] }
noncomputable def impl_building_done:Ctx:={ P:=Try.prog,T:=TTab,M:=MM,nW:=1,kp:=[(0,[0,2]),(1,[0,2,4]),(2,[0,2,4,17]),(3,[2,3]),(4,[0,2,4,23]),(5,[0,2,4,23,25]),(6,[0,2,4,5,6,23]),(7,[0,2,4,23]),(8,[2,4]),(9,[2,4,47]),(10,[2,3]),(11,[2,3])],lp:=[(0,[0,2,4,23])],pl:=[(7,.take 0 (.take 1 (.take 2 (.take 3 (.take 4 (.take 5 (.take 6 (.take 8 (.all [(7,.take 9 (.all [(10,.all [(11,.take 12 (.all [(13,.done)]))])]))])))))))))] }
noncomputable def impl_MulLaurents:Ctx:={ P:=Try.prog,T:=TTab,M:=MM,nW:=0,kp:=[(0,[2,3,4]),(1,[2,3,4,14]),(2,[4,5]),(3,[2,3,4,6]),(4,[3,4,6,20,21,22]),(5,[3,4,6,20,21,22,23]),(6,[3,4,6,8,20,21,22]),(7,[3,4,6,8,20,21,22,27,28,29]),(8,[3,4,6,8,20,21,22,27,28,29,30]),(9,[3,4,6,8,10,20,21,22,27,28,29]),(10,[3,4,6,8,20,21,22,27,28,29]),(11,[3,4,6,8,20,21,22,27,28,29]),(12,[3,4,6,20,21,22]),(13,[4,5])],lp:=[(0,[3,4,6,20,21,22]),(2,[3,4,6,8,20,21,22,27,28,29])],pl:=[(10,.take 0 (.take 1 (.take 2 (.take 4 (.take 5 (.take 8 (.take 9 (.take 10 (.take 11 (.take 12 (.all [(3,.all [(6,.all [(7,.all [(13,.done)])])])])))))))))))] }
noncomputable def impl_ConstantLaurent:Ctx:={ P:=Try.prog,T:=TTab,M:=MM,nW:=0,kp:=[(0,[0,1,4]),(1,[0,1,4,12]),(2,[4]),(3,[0,1,4,15]),(4,[4]),(5,[4])],lp:=[],pl:=[] }
noncomputable def impl_DivideLaurents:Ctx:={ P:=Try.prog,T:=TTab,M:=MM,nW:=0,kp:=[(0,[2,3,4]),(1,[2,3,4,28]),(2,[4,5]),(3,[2,3,4,6]),(4,[2,3,4,6,34,35,36]),(5,[2,3,4,6,34,35,36,37]),(6,[2,3,4,6,8,34,35,36]),(7,[2,3,4,6,34,35,36]),(8,[2,3,4,6,34,35,36]),(9,[2,3,4,6,9]),(10,[2,3,4,6,9,10]),(11,[2,3,4,6,9,10,60]),(12,[2,3,4,6,9,10,11]),(13,[2,3,4,6,9,10,11,12]),(14,[2,3,4,6,9,10,11,12,65]),(15,[2,3,4,6,9,10,11,12,65,67]),(16,[2,3,4,6,9,10,11,12,13,65]),(17,[2,3,4,6,9,10,11,12,13,65,76]),(18,[2,3,4,6,9,10,11,12,65]),(19,[2,3,4,6,9,10,11,14]),(20,[2,3,4,6,9,10,14,15]),(21,[2,3,4,6,9,10,14,15,16]),(22,[2,3,4,6,9,10,15,16,119]),(23,[4,5]),(24,[2,3,4,6,9,10,15,16]),(25,[2,3,4,6,9,10,15,16,126,127,128]),(26,[2,3,4,6,9,10,15,16,126,127,128,129]),(27,[2,3,4,6,9,10,15,16,18,126,127,128]),(28,[2,3,4,6,9,10,15,16,126,127,128]),(29,[2,3,4,6,9,10,15,16,126,127,128]),(30,[4,5])],lp:=[(0,[2,3,4,6,34,35,36]),(2,[2,3,4,6,9,10]),(4,[2,3,4,6,9,10,11,12,65]),(6,[2,3,4,6,9,10,15,16,126,127,128])],pl:=[(7,.take 0 (.take 1 (.take 2 (.take 4 (.take 5 (.all [(3,.all [(6,.done)])])))))),(17,.take 0 (.take 1 (.take 2 (.take 3 (.all [(4,.take 5 (.take 6 (.done)))]))))),(19,.take 0 (.take 1 (.take 2 (.take 3 (.take 4 (.take 5 (.take 6 (.done)))))))),(20,.take 0 (.take 1 (.take 2 (.all [(3,.all [(4,.all [(5,.all [(6,.done)])]),(5,.all [(4,.all [(6,.done)])])]),(5,.all [(3,.all [(4,.all [(6,.done)])])])])))),(22,.take 0 (.take 1 (.take 2 (.take 3 (.take 4 (.take 5 (.take 6 (.take 7 (.take 8 (.take 9 (.take 10 (.all [(11,.take 12 (.take 13 (.take 14 (.take 15 (.all [(16,.take 17 (.take 18 (.take 19 (.take 20 (.take 21 (.take 22 (.take 23 (.take 24 (.take 25 (.take 26 (.done)))))))))))])))))])))))))))))),(28,.take 0 (.take 1 (.take 2 (.take 3 (.take 6 (.take 7 (.take 8 (.take 9 (.take 10 (.all [(4,.all [(5,.all [(11,.done)])])]))))))))))] }
noncomputable def spec_l2Plus:Ctx:={ P:=Try.prog,T:=TTab,M:=MM,nW:=0,kp:=[(0,[0,1,2]),(1,[1,2,7]),(2,[1,2,7,8]),(3,[1,2,7,8,15]),(4,[1,2,7,8]),(5,[1,2,7,8]),(6,[6])],lp:=[(0,[1,2,7,8])],pl:=[(5,.take 0 (.take 1 (.take 2 (.take 3 (.take 4 (.take 5 (.take 6 (.take 7 (.take 8 (.take 9 (.take 10 (.take 11 (.take 12 (.take 13 (.all [(14,.all [(15,.take 16 (.done))])])))))))))))))))] }
noncomputable def impl_AddLaurents:Ctx:={ P:=Try.prog,T:=TTab,M:=MM,nW:=0,kp:=[(0,[1,3,5,6]),(1,[1,3,5,6,21]),(2,[6,7]),(3,[1,3,5,6,8]),(4,[1,5,6,8,27,28,29]),(5,[1,5,6,8,27,28,29,30]),(6,[1,5,6,8,10,27,28,29]),(7,[1,5,6,8,27,28,29]),(8,[1,5,6,8,27,28,29]),(9,[1,6,8,42,43,44]),(10,[1,6,8,42,43,44,45]),(11,[1,6,8,12,42,43,44]),(12,[1,6,8,42,43,44]),(13,[1,6,8,42,43,44]),(14,[6,7])],lp:=[(0,[1,5,6,8,27,28,29]),(2,[1,6,8,42,43,44])],pl:=[(7,.take 0 (.take 1 (.take 2 (.take 4 (.take 5 (.all [(3,.all [(6,.done)])])))))),(12,.take 0 (.take 1 (.take 2 (.take 4 (.take 5 (.take 6 (.take 7 (.all [(3,.all [(8,.done)])]))))))))] }
noncomputable def impl_polygonOk:Ctx:={ P:=Try.prog,T:=TTab,M:=MM,nW:=0,kp:=[(0,[0]),(1,[2])],lp:=[],pl:=[] }
noncomputable def impl_beside:Ctx:={ P:=Try.prog,T:=TTab,M:=MM,nW:=0,kp:=[(0,[0,1,2]),(1,[6])],lp:=[],pl:=[] }
noncomputable def impl_IsDiagonal:Ctx:={ P:=Try.prog,T:=TTab,M:=MM,nW:=0,kp:=[(0,[0,3]),(1,[4])],lp:=[],pl:=[] }
noncomputable def impl_DiagonalsCross:Ctx:={ P:=Try.prog,T:=TTab,M:=MM,nW:=0,kp:=[(0,[0,4,5]),(1,[4,5,44]),(2,[6]),(3,[6])],lp:=[],pl:=[(3,.take 0 (.take 1 (.take 2 (.take 3 (.take 4 (.take 5 (.take 7 (.take 8 (.take 9 (.take 10 (.take 11 (.take 12 (.all [(6,.all [(13,.take 14 (.take 15 (.done)))])])))))))))))))] }
noncomputable def slices_IndexFunc_impl_Diagonal_impl_Diagonal:Ctx:={ P:=Try.prog,T:=TTab,M:=MM,nW:=0,kp:=[(0,[0,1]),(1,[0,1,7,8]),(2,[0,1,7,8,9]),(3,[0,1,5,7,8]),(4,[0,1,5,7,8,16]),(5,[4]),(6,[0,1,7,8]),(7,[4])],lp:=[(0,[0,1,7,8])],pl:=[] }
noncomputable def slices_ContainsFunc_impl_Diagonal_impl_Diagonal:Ctx:={ P:=Try.prog,T:=TTab,M:=MM,nW:=0,kp:=[(0,[0,1]),(1,[4])],lp:=[],pl:=[] }
noncomputable def slices_Index_impl_Diagonal_impl_Diagonal:Ctx:={ P:=Try.prog,T:=TTab,M:=MM,nW:=0,kp:=[(0,[0,3]),(1,[0,3,7,8]),(2,[0,3,7,8,9]),(3,[0,3,5,7,8]),(4,[0,3,5,7,8,16]),(5,[4]),(6,[0,3,7,8]),(7,[4])],lp:=[(0,[0,3,7,8])],pl:=[(4,.take 0 (.take 1 (.take 2 (.take 3 (.take 4 (.take 5 (.done)))))))] }
noncomputable def slices_Contains_impl_Diagonal_impl_Diagonal:Ctx:={ P:=Try.prog,T:=TTab,M:=MM,nW:=0,kp:=[(0,[0,3]),(1,[4])],lp:=[],pl:=[] }
noncomputable def impl_apart_1:Ctx:={ P:=Try.prog,T:=TTab,M:=MM,nW:=0,kp:=[(0,[1,2,3]),(1,[4])],lp:=[],pl:=[] }
noncomputable def impl_apart:Ctx:={ P:=Try.prog,T:=TTab,M:=MM,nW:=0,kp:=[(0,[1,3,5]),(1,[6])],lp:=[],pl:=[] }
noncomputable def impl_IsTriangulation:Ctx:={ P:=Try.prog,T:=TTab,M:=MM,nW:=0,kp:=[(0,[0,1]),(1,[0,1,16]),(2,[4]),(3,[0,1,17,18,19]),(4,[0,1,17,18,19,20]),(5,[0,1,5,6,17,18,19]),(6,[0,1,17,18,19,36]),(7,[4]),(8,[0,1,17,18,19]),(9,[4])],lp:=[(0,[0,1,17,18,19])],pl:=[(6,.take 0 (.take 1 (.all [(2,.take 3 (.take 4 (.take 5 (.take 6 (.take 7 (.take 8 (.take 9 (.all [(10,.take 11 (.take 12 (.done)))]))))))))])))] }
noncomputable def impl_lengths_of:Ctx:={ P:=Try.prog,T:=TTab,M:=MM,nW:=0,kp:=[(0,[1,2,3,6]),(1,[1,2,3,6,8]),(2,[1,2,3,6,8,37]),(3,[6,7]),(4,[1,2,3,6,8,9]),(5,[1,2,3,6,8,9,47]),(6,[6,7]),(7,[1,2,3,6,8,55,56,57]),(8,[1,2,3,6,8,55,56,57,58]),(9,[1,2,3,6,8,10,11,55,56,57]),(10,[1,2,3,6,8,10,11,55,56,57,83]),(11,[1,2,3,6,10,11,12,13]),(12,[1,2,3,6,10,11,12,13,14,15]),(13,[2,3,6,10,11,12,13,14,15,16,17]),(14,[3,6,10,12,13,14,15,16,17,18,19]),(15,[3,6,10,13,15,16,17,18,19,20,21]),(16,[3,6,10,13,15,17,19,20,21,22,23]),(17,[3,6,10,13,15,17,19,21,23,24,25]),(18,[3,6,10,24,159]),(19,[6,7]),(20,[6,7]),(21,[1,2,3,6,8,55,56,57]),(22,[6,7])],lp:=[(0,[1,2,3,6,8,55,56,57])],pl:=[(20,.take 0 (.take 1 (.take 2 (.take 3 (.take 4 (.all [(5,.all [(6,.all [(7,.take 8 (.take 9 (.all [(10,.take 11 (.done))])))])])]))))))] }
noncomputable def impl_lengths_known:Ctx:={ P:=Try.prog,T:=TTab,M:=MM,nW:=0,kp:=[(0,[1,2,3]),(1,[6])],lp:=[],pl:=[] }
noncomputable def impl_ArcLaurent:Ctx:={ P:=Try.prog,T:=TTab,M:=MM,nW:=0,kp:=[(0,[0,1,5,6]),(1,[0,1,5,6,17]),(2,[6,7]),(3,[6,7])],lp:=[],pl:=[] }
noncomputable def spec_l5Polygon:Ctx:={ P:=Try.prog,T:=TTab,M:=MM,nW:=0,kp:=[(0,[0]),(1,[2])],lp:=[],pl:=[] }
noncomputable def spec_l5Cross:Ctx:={ P:=Try.prog,T:=TTab,M:=MM,nW:=0,kp:=[(0,[2,3]),(1,[4])],lp:=[],pl:=[] }
noncomputable def spec_IsDiagonal:Ctx:={ P:=Try.prog,T:=TTab,M:=MM,nW:=0,kp:=[(0,[0,3]),(1,[4])],lp:=[],pl:=[] }
noncomputable def spec_IsTriangulation:Ctx:={ P:=Try.prog,T:=TTab,M:=MM,nW:=0,kp:=[(0,[0,1]),(1,[0,1,16]),(2,[4]),(3,[0,1,5]),(4,[0,1,5,20]),(5,[0,1,5]),(6,[0,1,5,29]),(7,[4]),(8,[0,1,5,6]),(9,[0,1,5,6,32]),(10,[0,1,5,6]),(11,[0,1,5,6,54]),(12,[4]),(13,[4])],lp:=[(0,[0,1,5]),(2,[0,1,5,6])],pl:=[(11,.take 0 (.take 1 (.take 2 (.take 3 (.take 4 (.take 5 (.take 6 (.take 7 (.take 8 (.take 9 (.take 10 (.take 11 (.take 12 (.take 13 (.take 14 (.take 15 (.take 16 (.take 17 (.all [(18,.take 19 (.done))])))))))))))))))))))] }
noncomputable def spec_l5Side:Ctx:={ P:=Try.prog,T:=TTab,M:=MM,nW:=0,kp:=[(0,[0,1,2,3]),(1,[1,2,3,23]),(2,[8]),(3,[1,2,3,9]),(4,[1,2,3,9,27]),(5,[1,2,3,9]),(6,[1,2,3,9,45]),(7,[8]),(8,[8])],lp:=[(0,[1,2,3,9])],pl:=[] }
noncomputable def spec_l5Triangles:Ctx:={ P:=Try.prog,T:=TTab,M:=MM,nW:=0,kp:=[(0,[0,1]),(1,[0,1,5]),(2,[0,1,5,6]),(3,[0,1,5,6,12]),(4,[0,1,5,6]),(5,[0,1,5,6,7]),(6,[0,1,5,6,7,19]),(7,[0,1,5,6,7]),(8,[0,1,5,6,7,8]),(9,[0,1,5,6,7,8,26]),(10,[0,1,5,6,7,8]),(11,[0,1,5,6,7,8,50]),(12,[0,1,5,6,7,8]),(13,[4])],lp:=[(0,[0,1,5,6]),(2,[0,1,5,6,7]),(4,[0,1,5,6,7,8])],pl:=[] }
noncomputable def spec_l5Length:Ctx:={ P:=Try.prog,T:=TTab,M:=MM,nW:=0,kp:=[(0,[0,1,2,3]),(1,[0,9]),(2,[9,10]),(3,[9,10,24]),(4,[10]),(5,[8])],lp:=[],pl:=[] }
noncomputable def spec_l5Arc:Ctx:={ P:=Try.prog,T:=TTab,M:=MM,nW:=0,kp:=[(0,[0,1,2,3]),(1,[0,1,2,3,9]),(2,[0,1,2,3,10]),(3,[0,1,2,3,10,11]),(4,[0,1,2,3,10,11,12]),(5,[0,1,2,3,10,11,12,13]),(6,[0,1,2,3,10,11,12,13,14]),(7,[0,1,2,3,10,11,12,13,14,15]),(8,[0,1,2,3,10,11,12,13,14,15,16,17]),(9,[0,1,2,3,10,12,13,14,15,16,17]),(10,[0,1,2,3,10,12,13,14,15,16,17]),(11,[0,1,2,3,10,12,13,14,15,17]),(12,[0,1,2,3,10,12,13,14,15]),(13,[0,1,2,3,10,12,13,14,15,18]),(14,[0,1,2,3,10,12,13,14,15,18,72]),(15,[0,1,2,3,10,12,13,14,15,18]),(16,[0,1,2,3,10,12,13,14,15,18,19]),(17,[0,1,2,3,10,12,13,14,15,18,19,78]),(18,[0,1,2,3,10,12,13,14,15,18,19]),(19,[0,1,2,3,10,12,13,14,15,18,19,20]),(20,[0,1,2,3,10,12,13,14,15,18,19,20,82]),(21,[0,1,2,3,10,12,13,14,15,18,19,20]),(22,[0,1,2,3,10,12,13,14,15,18,19,20,21]),(23,[0,1,2,3,10,12,13,14,15,16,18,19,20,21]),(24,[0,1,2,3,10,12,13,14,15,16,17,18,19,20,21]),(25,[0,1,2,3,10,12,13,14,15,16,17,18,19,20,21,127]),(26,[0,1,2,3,10,12,13,14,15,16,17,18,19,20,21,130]),(27,[0,1,2,3,10,12,13,14,15,16,17,18,19,20,21]),(28,[0,1,2,3,10,12,13,14,15,16,17,18,19,20,21,22]),(29,[0,1,2,3,10,12,13,14,15,16,17,18,19,20,21,23]),(30,[0,1,2,3,10,12,13,14,15,16,17,18,19,20,21,23,24]),(31,[0,1,2,3,10,12,13,14,15,16,17,18,19,20,21,24,25]),(32,[0,1,2,3,10,12,13,14,15,16,17,18,19,20,21,24,25,165]),(33,[0,1,2,3,10,12,13,14,15,16,17,18,19,20,21,24,25]),(34,[0,1,2,3,10,12,13,14,15,16,17,18,19,20,21,24,25,171]),(35,[0,1,2,3,10,12,13,14,15,16,17,18,19,20,21,24,25]),(36,[0,1,2,3,10,12,13,14,15,16,17,18,19,20,21,24,25]),(37,[0,1,2,3,10,12,13,14,15,18,19,20,21]),(38,[0,1,2,3,10,12,13,14,15,18,19,20]),(39,[8])],lp:=[(0,[0,1,2,3,10,12,13,14,15,18]),(2,[0,1,2,3,10,12,13,14,15,18,19]),(4,[0,1,2,3,10,12,13,14,15,18,19,20])],pl:=[(8,.take 0 (.take 1 (.take 2 (.take 3 (.take 4 (.take 5 (.take 6 (.take 7 (.take 8 (.take 9 (.take 10 (.take 11 (.done))))))))))))),(36,.take 0 (.take 1 (.take 2 (.take 3 (.take 4 (.take 5 (.take 6 (.take 7 (.take 9 (.take 10 (.take 11 (.take 12 (.take 13 (.take 14 (.all [(8,.all [(15,.all [(16,.take 17 (.all [(18,.done)]))])])]))))))))))))))),(37,.take 0 (.take 1 (.take 2 (.take 3 (.take 4 (.take 5 (.take 6 (.take 7 (.take 9 (.take 10 (.take 11 (.take 12 (.take 13 (.take 14 (.all [(8,.all [(15,.all [(16,.take 17 (.all [(18,.done)]))])])]))))))))))))))),(39,.take 0 (.take 1 (.take 2 (.take 3 (.take 4 (.take 5 (.take 6 (.take 7 (.take 8 (.take 10 (.take 11 (.take 12 (.take 13 (.take 14 (.take 15 (.take 16 (.take 17 (.take 18 (.all [(9,.all [(19,.all [(20,.take 21 (.done))])])])))))))))))))))))))] }
noncomputable def spec_ArcLaurent:Ctx:={ P:=Try.prog,T:=TTab,M:=MM,nW:=0,kp:=[(0,[0,1,5,6]),(1,[0,1,5,6,17]),(2,[6,7]),(3,[6,7])],lp:=[],pl:=[] }
noncomputable def laws_FnExactArcLaurent:Ctx:={ P:=Try.prog,T:=TTab,M:=MM,nW:=0,kp:=[(0,[0,1,5]),(1,[0,1,5,7]),(2,[0,1,5,7]),(3,[0,1,5,22]),(4,[6]),(5,[0,1,5,8,9]),(6,[0,1,5,8,9,10]),(7,[0,1,5,8,9,10,11,12]),(8,[0,1,5,8,9,10,11,12,50]),(9,[6]),(10,[0,1,5,8,9,10,11,12,55]),(11,[6]),(12,[0,1,5,8,9,10,11,12,13]),(13,[0,1,5,8,9,11,12,13]),(14,[0,1,5,8,9,11,71]),(15,[6]),(16,[0,1,5,8,9,11,14]),(17,[0,1,5,8,9,11,14]),(18,[0,1,5,8,9,11,14,15]),(19,[0,1,5,8,9,11,14,15]),(20,[0,1,5,8,9,11,14,15,79]),(21,[6]),(22,[0,1,5,8,9,11,14,82]),(23,[6]),(24,[8,9,11,14,16,17]),(25,[11,14,100]),(26,[6]),(27,[11,14,15]),(28,[14,15]),(29,[14,15,105]),(30,[6]),(31,[108]),(32,[6]),(33,[6])],lp:=[],pl:=[(5,.take 0 (.take 1 (.take 3 (.all [(2,.all [(4,.all [(5,.take 6 (.take 7 (.take 8 (.all [(9,.all [(10,.take 11 (.done))])])))),(9,.all [(5,.take 6 (.take 7 (.take 8 (.all [(10,.take 11 (.done))]))))])]),(9,.all [(4,.all [(5,.take 6 (.take 7 (.take 8 (.all [(10,.take 11 (.done))]))))])])]),(9,.all [(2,.all [(4,.all [(5,.take 6 (.take 7 (.take 8 (.all [(10,.take 11 (.done))]))))])])])])))),(24,.take 0 (.take 1 (.take 3 (.all [(2,.all [(4,.all [(5,.take 6 (.take 7 (.take 8 (.all [(9,.all [(10,.take 11 (.done))])])))),(9,.all [(5,.take 6 (.take 7 (.take 8 (.all [(10,.take 11 (.done))]))))])]),(9,.all [(4,.all [(5,.take 6 (.take 7 (.take 8 (.all [(10,.take 11 (.done))]))))])])]),(9,.all [(2,.all [(4,.all [(5,.take 6 (.take 7 (.take 8 (.all [(10,.take 11 (.done))]))))])])])]))))] }
noncomputable def laws_szDiagonalS:Ctx:={ P:=Try.prog,T:=TTab,M:=MM,nW:=0,kp:=[(0,[0,1]),(1,[1]),(2,[1,10]),(3,[4]),(4,[4])],lp:=[],pl:=[] }
noncomputable def laws_toDiagonalS:Ctx:={ P:=Try.prog,T:=TTab,M:=MM,nW:=0,kp:=[(0,[0]),(1,[0,3]),(2,[0,3,4]),(3,[0,3,4,11]),(4,[0,3,4]),(5,[0,3,4]),(6,[2])],lp:=[(0,[0,3,4])],pl:=[] }
noncomputable def laws_toDiagonal:Ctx:={ P:=Try.prog,T:=TTab,M:=MM,nW:=0,kp:=[(0,[1,2]),(1,[1,2,3]),(2,[1,2,3]),(3,[2,3]),(4,[2])],lp:=[],pl:=[] }
noncomputable def laws_eqDiagonalS:Ctx:={ P:=Try.prog,T:=TTab,M:=MM,nW:=0,kp:=[(0,[0,1]),(1,[0,1,10]),(2,[4]),(3,[0,1,5]),(4,[0,1,5,14]),(5,[0,1,5]),(6,[0,1,5,26]),(7,[4]),(8,[4])],lp:=[(0,[0,1,5])],pl:=[(6,.take 0 (.take 1 (.take 2 (.take 3 (.take 4 (.take 5 (.take 6 (.take 7 (.all [(8,.take 9 (.done))])))))))))] }
noncomputable def laws_markDiagonalS:Ctx:={ P:=Try.prog,T:=TTab,M:=MM,nW:=1,kp:=[(0,[0,1]),(1,[0,1,5]),(2,[0,1,5,9]),(3,[0,1,5]),(4,[0,1,5]),(5,[0,1,5]),(6,[0,1,5]),(7,[0,1,5]),(8,[4])],lp:=[(0,[0,1,5])],pl:=[] }
noncomputable def laws_eqDiagonal:Ctx:={ P:=Try.prog,T:=TTab,M:=MM,nW:=0,kp:=[(0,[2,3]),(1,[2,3,9]),(2,[4]),(3,[14]),(4,[4]),(5,[4])],lp:=[],pl:=[] }
end C
end Go.Proofs.Ytfcgcgmleogamaa.Ab
namespace Go.Proofs.Ytfcgcgmleogamaa.Ab
open Go
set_option maxRecDepth 10000
theorem tabT:tabB Try.prog TTab=true:=by kernel_rfl
theorem folT:Try.prog.follows .mixedOrders=true:=by kernel_rfl
theorem wrap_succ {j:Nat} (h:j < 4611686018427387904):IntKind.i64.wrap ((j:Int)+1)=((j+1:Nat):Int):=by
 rw [wrapOk (by omega) (by omega)]
 omega
theorem impl_within_c (n low high:Int):ACalls Try.prog F.impl_within [.int n,.int low,.int high] [] true (fun outs res=>outs=[]/\res=[.one (D.bool (decide (low<=n/\n<=high)))]):=by
 refine ACalls.of_body (C:=C.impl_within) (n:=Try.f60.ntmps) tabT folT Try.func60 rfl (by kernel_rfl) rfl (Nat.le_of_ble_eq_true rfl) (by decide) (by kernel_rfl) (by kernel_rfl) rfl (by simp) (by simp) ?_
 simp only [Try.f60]
 refine wseq ?_
 refine wreg fun K hK=>?_
 simp [C.impl_within]
 refine hK _ ?_;clear hK K
 show AWp _ _ _ _ _
 refine wseq ?_
 refine wreg fun K hK=>?_
 have hJ:K ⟨ofL [(6,.bool (decide (low<=n/\n<=high)))],ofRO []⟩:=by
  refine hK _ ?_;clear hK K
  show AWp _ _ _ _ _
  refine wret ?_
  simp [C.impl_within]
 clear hK
 by_cases h:low<=n
 ·simp [C.impl_within,h]
  refine cast (congrArg K ?_) hJ
  simp [h]
 ·simp [C.impl_within,h]
  refine cast (congrArg K ?_) hJ
  simp [h]
theorem spec_l1In_c (n low high:Int):ACalls Try.prog F.spec_l1In [.int n,.int low,.int high] [] true (fun outs res=>outs=[]/\res=[.one (D.bool (decide (low<=n/\n<=high)))]):=by
 refine ACalls.of_body (C:=C.spec_l1In) (n:=Try.f69.ntmps) tabT folT Try.func69 rfl (by kernel_rfl) rfl (Nat.le_of_ble_eq_true rfl) (by decide) (by kernel_rfl) (by kernel_rfl) rfl (by simp) (by simp) ?_
 simp only [Try.f69]
 refine wseq ?_
 refine wreg fun K hK=>?_
 simp [C.spec_l1In]
 refine hK _ ?_;clear hK K
 show AWp _ _ _ _ _
 refine wseq ?_
 refine wreg fun K hK=>?_
 have hJ:K ⟨ofL [(6,.bool (decide (low<=n/\n<=high)))],ofRO []⟩:=by
  refine hK _ ?_;clear hK K
  show AWp _ _ _ _ _
  refine wret ?_
  simp [C.spec_l1In]
 clear hK
 by_cases h:low<=n
 ·simp [C.spec_l1In,h]
  refine cast (congrArg K ?_) hJ
  simp [h]
 ·simp [C.spec_l1In,h]
  refine cast (congrArg K ?_) hJ
  simp [h]
theorem slices_Clone_int_int_c (xs:List Int) (hx:xs.length < 17592186044416):ACalls Try.prog F.slices_Clone_int_int [.d (shI xs)] [] true (fun outs res=>outs=[]/\WkRs res [.one (owI xs)]):=by
 refine ACalls.of_body (C:=C.slices_Clone_int_int) (n:=Try.f57.ntmps) tabT folT Try.func57 rfl (by kernel_rfl) rfl (Nat.le_of_ble_eq_true rfl) (by decide) (by kernel_rfl) (by kernel_rfl) rfl (by simp) (by simp) ?_
 simp only [Try.f57]
 refine wseq ?_
 refine wreg fun K hK=>?_
 simp [C.slices_Clone_int_int]
 refine hK _ ?_;clear hK K
 show AWp _ _ _ _ _
 refine wseq ?_
 refine wseq ?_
 refine wreg fun K hK=>?_
 simp [C.slices_Clone_int_int]
 refine ⟨?_,fun h=>?_⟩
 ·refine hK _ ?_;clear hK K
  show AWp _ _ _ _ _
  refine wcond _ rfl (fun hc1=>?_) (fun hc1=>?_)
  ·simp at hc1
  ·refine wskip ?_
   show AWp _ _ _ _ _
   refine wseq ?_
   refine wreg fun K hK=>?_
   simp [C.slices_Clone_int_int,show xs.length*8<=140737488355328 by omega]
   refine hK _ ?_;clear hK K
   show AWp _ _ _ _ _
   refine wret ?_
   simp [C.slices_Clone_int_int]
 ·refine hK _ ?_;clear hK K
  show AWp _ _ _ _ _
  refine wcond _ rfl (fun hc2=>?_) (fun hc2=>?_)
  ·refine wseq ?_
   refine wreg fun K hK=>?_
   simp [C.slices_Clone_int_int]
   refine hK _ ?_;clear hK K
   show AWp _ _ _ _ _
   refine wret ?_
   simp [C.slices_Clone_int_int,h,ints]
  ·simp at hc2
theorem clone_c (xs:List Int) (hx:xs.length < 17592186044416):ACalls Try.prog F.slices_Clone_int_int [.d (shI xs)] [] true (fun outs res=>outs=[]/\res=[.one (owI xs)]):=(slices_Clone_int_int_c xs hx).weak1
theorem laws_eqIntS_c (xs ys:List Int) (hx:xs.length < 4611686018427387904):ACalls Try.prog F.laws_eqIntS [.d (shI xs),.d (shI ys)] [] true (fun outs res=>outs=[]/\res=[.one (D.bool (decide (xs=ys)))]):=by
 refine ACalls.of_body (C:=C.laws_eqIntS) (n:=Try.f185.ntmps) tabT folT Try.func185 rfl (by kernel_rfl) rfl (Nat.le_of_ble_eq_true rfl) (by decide) (by kernel_rfl) (by kernel_rfl) rfl (by simp) (by simp) ?_
 simp only [Try.f185]
 refine wseq ?_
 refine wreg fun K hK=>?_
 simp [C.laws_eqIntS]
 refine hK _ ?_;clear hK K
 show AWp _ _ _ _ _
 refine wseq ?_
 refine wseq ?_
 refine wreg fun K hK=>?_
 simp [C.laws_eqIntS]
 refine hK _ ?_;clear hK K
 show AWp _ _ _ _ _
 refine wcond _ rfl (fun hc1=>?_) (fun hc1=>?_)
 ·refine wseq ?_
  refine wreg fun K hK=>?_
  simp [C.laws_eqIntS]
  refine hK _ ?_;clear hK K
  show AWp _ _ _ _ _
  refine wret ?_
  simp at hc1
  simp [C.laws_eqIntS]
  intro e;simp [e] at hc1
 ·refine wskip ?_
  show AWp _ _ _ _ _
  refine wseq ?_
  refine wseq ?_
  refine wreg fun K hK=>?_
  simp [C.laws_eqIntS]
  refine hK _ ?_;clear hK K
  show AWp _ _ _ _ _
  refine wblock ?_
  have e:xs.length=ys.length:=by simp at hc1;omega
  refine wloop (fun k:Nat=>⟨ofL [(0,.d (shI xs)),(1,.d (shI ys)),(5,FV.int k)],ofRO []⟩) (fun k=>k<=xs.length/\xs.take k=ys.take k) (fun k=>xs.length - k) 0 (by simp [C.laws_eqIntS]) (by simp) ?_
  intro x1 hx1 R1 hR1
  obtain ⟨hk,ht⟩:=hx1
  refine wseq ?_
  refine wseq ?_
  refine wreg fun K hK=>?_
  simp [C.laws_eqIntS]
  refine hK _ ?_;clear hK K
  show AWp _ _ _ _ _
  refine wcond _ rfl (fun hc2=>?_) (fun hc2=>?_)
  ·refine wskip ?_
   show AWp _ _ _ _ _
   refine wseq ?_
   refine wblock ?_
   refine wseq ?_
   have h1:x1 < xs.length:=by simpa using hc2
   have h2:x1 < ys.length:=by omega
   refine wdraw (.take 0 (.take 1 (.take 2 (.take 3 (.take 4 (.take 5 (.take 6 (.take 7 (.take 8 (.done)))))))))) ⟨by kernel_rfl,by kernel_rfl⟩ fun K hK=>?_
   simp [C.laws_eqIntS,get_ints,h1,h2]
   refine hK _ ?_;clear hK K
   show AWp _ _ _ _ _
   refine wcond _ rfl (fun hc3=>?_) (fun hc3=>?_)
   ·refine wseq ?_
    refine wreg fun K hK=>?_
    simp [C.laws_eqIntS]
    refine hK _ ?_;clear hK K
    show AWp _ _ _ _ _
    refine wret ?_
    simp at hc3
    simp [C.laws_eqIntS]
    intro e;simp [e] at hc3
   ·refine wskip ?_
    show AWp _ _ _ _ _
    refine wreg fun K hK=>?_
    simp [C.laws_eqIntS,wrap_succ (show x1 < 4611686018427387904 by omega)]
    refine hK _ ?_;clear hK K
    simp [C.laws_eqIntS]
    simp at hc3
    refine hR1 (x1+1) ⟨h1,?_⟩ (by omega)
    rw [List.take_succ_eq_append_getElem h1,List.take_succ_eq_append_getElem h2,ht,hc3]
  ·refine wexit ?_
   show AWp _ _ _ _ _
   refine wseq ?_
   refine wreg fun K hK=>?_
   simp [C.laws_eqIntS]
   refine hK _ ?_;clear hK K
   show AWp _ _ _ _ _
   refine wret ?_
   have hk2:x1=xs.length:=by simp at hc2;omega
   simp [C.laws_eqIntS]
   rw [hk2,List.take_length,e,List.take_length] at ht
   exact ht
theorem laws_markIntS_c (xs:List Int) (k:Int) (hk0:0<=k) (hk:k+xs.length < 4611686018427387904):ACalls Try.prog F.laws_markIntS [.al (0,0) [] 0 xs.length,.int k] [((0,0),owI xs)] true (fun outs res=>outs=[.ow 1 xs.length (ints (marks k xs.length))]/\res=[.one (D.int (k+xs.length))]):=by
 refine ACalls.of_body (C:=C.laws_markIntS) (n:=Try.f163.ntmps) tabT folT Try.func163 rfl (by kernel_rfl) rfl (Nat.le_of_ble_eq_true rfl) (by decide) (by kernel_rfl) (by kernel_rfl) rfl (by simp) (by simp) ?_
 simp only [Try.f163]
 refine wseq ?_
 refine wreg fun K hK=>?_
 simp [C.laws_markIntS]
 refine hK _ ?_;clear hK K
 show AWp _ _ _ _ _
 refine wseq ?_
 refine wseq ?_
 refine wreg fun K hK=>?_
 simp [C.laws_markIntS]
 refine hK _ ?_;clear hK K
 show AWp _ _ _ _ _
 refine wblock ?_
 refine wloop (fun x:Nat×List Int×Int=>⟨ofL [(0,.al (0,0) [] 0 xs.length),(1,.int x.2.2),(5,.int x.1),(1000,.al (0,0) [] 0 xs.length)],ofRO [((0,0),some (.ow 1 xs.length (ints x.2.1)))]⟩) (fun x=>x.1<=xs.length/\x.2.1=marks k x.1 ++ xs.drop x.1/\x.2.2=k+x.1) (fun x=>xs.length - x.1) (0,xs,k) (by simp [C.laws_markIntS]) (by simp [marks]) ?_
 intro x1 hx1 R1 hR1
 obtain ⟨j,gs,kk⟩:=x1
 obtain ⟨h0,hg,he⟩:=hx1
 dsimp only at h0 hg he ⊢
 refine wseq ?_
 refine wseq ?_
 refine wreg fun K hK=>?_
 simp [C.laws_markIntS]
 refine hK _ ?_;clear hK K
 show AWp _ _ _ _ _
 refine wcond _ rfl (fun hc1=>?_) (fun hc1=>?_)
 ·refine wskip ?_
  show AWp _ _ _ _ _
  refine wseq ?_
  refine wblock ?_
  refine wseq ?_
  have h1:j < xs.length:=by simpa using hc1
  have hl:gs.length=xs.length:=by rw [hg];simp;omega
  refine wreg fun K hK=>?_
  simp [C.laws_markIntS,hl,h1]
  refine hK _ ?_;clear hK K
  show AWp _ _ _ _ _
  refine wreg fun K hK=>?_
  simp [C.laws_markIntS]
  rw [wrapOk (x:=kk+1) (by omega) (by omega)]
  refine hK _ ?_;clear hK K
  show AWp _ _ _ _ _
  refine wreg fun K hK=>?_
  simp [C.laws_markIntS,wrap_succ (show j < 4611686018427387904 by omega)]
  refine hK _ ?_;clear hK K
  simp [C.laws_markIntS]
  refine hR1 (j+1,_,kk+1) ⟨h1,?_,by dsimp only;omega⟩ (by dsimp only;omega)
  dsimp only
  rw [hg,List.set_append_right _ _ (by simp),he]
  simp [marks_succ]
  rw [List.drop_eq_getElem_cons h1]
  rfl
 ·refine wexit ?_
  show AWp _ _ _ _ _
  refine wseq ?_
  refine wreg fun K hK=>?_
  simp [C.laws_markIntS]
  refine hK _ ?_;clear hK K
  show AWp _ _ _ _ _
  refine wret ?_
  have hj2:j=xs.length:=by simp at hc1;omega
  simp [C.laws_markIntS,hj2,hg,he]
theorem laws_heldIntS_c (n:Nat) (k:Int) (hk0:0<=k) (hk:k+n < 4611686018427387904):ACalls Try.prog F.laws_heldIntS [.d (.sh 1 n (ints (marks k n))),.int k] [] true (fun outs res=>outs=[]/\res=[.one (D.int (k+n))]):=by
 refine ACalls.of_body (C:=C.laws_heldIntS) (n:=Try.f164.ntmps) tabT folT Try.func164 rfl (by kernel_rfl) rfl (Nat.le_of_ble_eq_true rfl) (by decide) (by kernel_rfl) (by kernel_rfl) rfl (by simp) (by simp) ?_
 simp only [Try.f164]
 refine wseq ?_
 refine wreg fun K hK=>?_
 simp [C.laws_heldIntS]
 refine hK _ ?_;clear hK K
 show AWp _ _ _ _ _
 refine wseq ?_
 refine wseq ?_
 refine wreg fun K hK=>?_
 simp [C.laws_heldIntS]
 refine hK _ ?_;clear hK K
 show AWp _ _ _ _ _
 refine wblock ?_
 refine wloop (fun x:Nat=>⟨ofL [(0,.d (.sh 1 n (ints (marks k n)))),(1,.int (k+x)),(5,.int x)],ofRO []⟩) (fun x=>x<=n) (fun x=>n - x) 0 (by simp [C.laws_heldIntS]) (by simp) ?_
 intro x1 hx1 R1 hR1
 refine wseq ?_
 refine wseq ?_
 refine wreg fun K hK=>?_
 simp [C.laws_heldIntS]
 refine hK _ ?_;clear hK K
 show AWp _ _ _ _ _
 refine wcond _ rfl (fun hc1=>?_) (fun hc1=>?_)
 ·refine wskip ?_
  show AWp _ _ _ _ _
  refine wseq ?_
  refine wblock ?_
  refine wseq ?_
  refine wseq ?_
  have h1:x1 < n:=by simpa using hc1
  refine wreg fun K hK=>?_
  simp [C.laws_heldIntS,get_ints,marks_get,h1]
  refine hK _ ?_;clear hK K
  show AWp _ _ _ _ _
  refine wcond _ rfl (fun hc2=>?_) (fun hc2=>?_)
  ·simp at hc2
  ·refine wskip ?_
   show AWp _ _ _ _ _
   refine wreg fun K hK=>?_
   simp [C.laws_heldIntS]
   rw [wrapOk (x:=k+x1+1) (by omega) (by omega)]
   refine hK _ ?_;clear hK K
   show AWp _ _ _ _ _
   refine wreg fun K hK=>?_
   simp [C.laws_heldIntS,wrap_succ (show x1 < 4611686018427387904 by omega)]
   refine hK _ ?_;clear hK K
   simp [C.laws_heldIntS]
   rw [show k+(x1:Int)+1=k+((x1+1:Nat):Int) by omega]
   exact hR1 (x1+1) h1 (by omega)
 ·refine wexit ?_
  show AWp _ _ _ _ _
  refine wseq ?_
  refine wreg fun K hK=>?_
  simp [C.laws_heldIntS]
  refine hK _ ?_;clear hK K
  show AWp _ _ _ _ _
  refine wret ?_
  have hj2:x1=n:=by simp at hc1;omega
  simp [C.laws_heldIntS,hj2]
end Go.Proofs.Ytfcgcgmleogamaa.Ab
namespace Go.Proofs.Ytfcgcgmleogamaa.Ab
open Go
set_option maxRecDepth 10000
abbrev aT (t:Trm):FV:=.ag [.d (shI t.e),.int t.c]
abbrev aF (f:Lau):FV:=.ag [.int f.v,.d (.sh 2 f.ts.length (rows tS f.ts))]
theorem trm_eq {a b:Trm}:a=b↔a.e=b.e/\a.c=b.c:=by
 cases a;cases b;simp
theorem lau_eq {a b:Lau}:a=b↔a.v=b.v/\a.ts=b.ts:=by
 cases a;cases b;simp
theorem laws_eqTerm_c (a b:Trm) (hx:a.e.length < 4611686018427387904):ACalls Try.prog F.laws_eqTerm [aT a,aT b] [] true (fun outs res=>outs=[]/\res=[.one (D.bool (decide (a=b)))]):=by
 refine ACalls.of_body (C:=C.laws_eqTerm) (n:=Try.f162.ntmps) tabT folT Try.func162 rfl (by kernel_rfl) rfl (Nat.le_of_ble_eq_true rfl) (by decide) (by kernel_rfl) (by kernel_rfl) rfl (by simp) (by simp) ?_
 simp only [Try.f162]
 refine wseq ?_
 refine wreg fun K hK=>?_
 simp [C.laws_eqTerm]
 refine hK _ ?_;clear hK K
 show AWp _ _ _ _ _
 refine wseq ?_
 refine wseq ?_
 refine wregI ([0,1,2,3,4] ++ ([5])) rfl fun K hK=>?_
 refine oSg fun L hL=>?_
 simp [C.laws_eqTerm]
 refine wcall1 (laws_eqIntS_c a.e b.e hx) (by simp) (by simp) ?_
 simp [C.laws_eqTerm]
 refine hL _ ?_;clear hL L
 refine oEn fun L hL=>?_
 simp [C.laws_eqTerm]
 refine hL _ ?_;clear hL L
 simp [C.laws_eqTerm]
 refine hK _ ?_;clear hK K
 show AWp _ _ _ _ _
 refine wcond _ rfl (fun hc1=>?_) (fun hc1=>?_)
 ·refine wseq ?_
  refine wreg fun K hK=>?_
  simp [C.laws_eqTerm]
  refine hK _ ?_;clear hK K
  show AWp _ _ _ _ _
  refine wret ?_
  simp at hc1
  simp [C.laws_eqTerm,trm_eq,hc1]
 ·refine wskip ?_
  show AWp _ _ _ _ _
  refine wseq ?_
  refine wseq ?_
  refine wreg fun K hK=>?_
  simp [C.laws_eqTerm]
  refine hK _ ?_;clear hK K
  show AWp _ _ _ _ _
  refine wcond _ rfl (fun hc2=>?_) (fun hc2=>?_)
  ·refine wseq ?_
   refine wreg fun K hK=>?_
   simp [C.laws_eqTerm]
   refine hK _ ?_;clear hK K
   show AWp _ _ _ _ _
   refine wret ?_
   simp at hc2
   simp [C.laws_eqTerm,trm_eq,hc2]
  ·refine wskip ?_
   show AWp _ _ _ _ _
   refine wseq ?_
   refine wreg fun K hK=>?_
   simp [C.laws_eqTerm]
   refine hK _ ?_;clear hK K
   show AWp _ _ _ _ _
   refine wret ?_
   simp at hc1 hc2
   simp [C.laws_eqTerm,trm_eq,hc1,hc2]
theorem laws_eqTermS_c (xs ys:List Trm) (hx:xs.length < 4611686018427387904) (hx2:∀ t∈xs,t.e.length < 4611686018427387904):ACalls Try.prog F.laws_eqTermS [.d (.sh 2 xs.length (rows tS xs)),.d (.sh 2 ys.length (rows tS ys))] [] true (fun outs res=>outs=[]/\res=[.one (D.bool (decide (xs=ys)))]):=by
 refine ACalls.of_body (C:=C.laws_eqTermS) (n:=Try.f106.ntmps) tabT folT Try.func106 rfl (by kernel_rfl) rfl (Nat.le_of_ble_eq_true rfl) (by decide) (by kernel_rfl) (by kernel_rfl) rfl (by simp) (by simp) ?_
 simp only [Try.f106]
 refine wseq ?_
 refine wreg fun K hK=>?_
 simp [C.laws_eqTermS]
 refine hK _ ?_;clear hK K
 show AWp _ _ _ _ _
 refine wseq ?_
 refine wseq ?_
 refine wreg fun K hK=>?_
 simp [C.laws_eqTermS]
 refine hK _ ?_;clear hK K
 show AWp _ _ _ _ _
 refine wcond _ rfl (fun hc1=>?_) (fun hc1=>?_)
 ·refine wseq ?_
  refine wreg fun K hK=>?_
  simp [C.laws_eqTermS]
  refine hK _ ?_;clear hK K
  show AWp _ _ _ _ _
  refine wret ?_
  simp at hc1
  simp [C.laws_eqTermS]
  intro e;simp [e] at hc1
 ·refine wskip ?_
  show AWp _ _ _ _ _
  refine wseq ?_
  refine wseq ?_
  refine wreg fun K hK=>?_
  simp [C.laws_eqTermS]
  refine hK _ ?_;clear hK K
  show AWp _ _ _ _ _
  refine wblock ?_
  have e:xs.length=ys.length:=by simp at hc1;omega
  refine wloop (fun k:Nat=>⟨ofL [(0,.d (.sh 2 xs.length (rows tS xs))),(1,.d (.sh 2 ys.length (rows tS ys))),(5,FV.int k)],ofRO []⟩) (fun k=>k<=xs.length/\xs.take k=ys.take k) (fun k=>xs.length - k) 0 (by simp [C.laws_eqTermS]) (by simp) ?_
  intro x1 hx1 R1 hR1
  obtain ⟨hk,ht⟩:=hx1
  refine wseq ?_
  refine wseq ?_
  refine wreg fun K hK=>?_
  simp [C.laws_eqTermS]
  refine hK _ ?_;clear hK K
  show AWp _ _ _ _ _
  refine wcond _ rfl (fun hc2=>?_) (fun hc2=>?_)
  ·refine wskip ?_
   show AWp _ _ _ _ _
   refine wseq ?_
   refine wblock ?_
   refine wseq ?_
   have h1:x1 < xs.length:=by simpa using hc2
   have h2:x1 < ys.length:=by omega
   refine wdrawI [(true,0),(true,1),(true,2),(true,3),(true,4),(true,5),(true,6),(true,7),(false,8),(true,9)] ⟨by kernel_rfl,by kernel_rfl⟩ ([0,1,2,3,4,5,6,7,8] ++ ([9])) rfl fun K hK=>?_
   refine oSg fun L hL=>?_
   simp [C.laws_eqTermS,h1,h2,tS_0 h1,tS_1 h1,tS_0 h2,tS_1 h2]
   refine wcall1 (laws_eqTerm_c xs[x1] ys[x1] (hx2 _ (List.getElem_mem h1))) (by simp) (by simp) ?_
   simp [C.laws_eqTermS,h1,h2,tS_0 h1,tS_1 h1,tS_0 h2,tS_1 h2]
   refine hL _ ?_;clear hL L
   refine oEn fun L hL=>?_
   simp [C.laws_eqTermS,h1,h2,tS_0 h1,tS_1 h1,tS_0 h2,tS_1 h2]
   refine hL _ ?_;clear hL L
   simp [C.laws_eqTermS,h1,h2,tS_0 h1,tS_1 h1,tS_0 h2,tS_1 h2]
   refine hK _ ?_;clear hK K
   show AWp _ _ _ _ _
   refine wcond _ rfl (fun hc3=>?_) (fun hc3=>?_)
   ·refine wseq ?_
    refine wreg fun K hK=>?_
    simp [C.laws_eqTermS]
    refine hK _ ?_;clear hK K
    show AWp _ _ _ _ _
    refine wret ?_
    simp at hc3
    simp [C.laws_eqTermS]
    intro e;simp [e] at hc3
   ·refine wskip ?_
    show AWp _ _ _ _ _
    refine wreg fun K hK=>?_
    simp [C.laws_eqTermS,wrap_succ (show x1 < 4611686018427387904 by omega)]
    refine hK _ ?_;clear hK K
    simp [C.laws_eqTermS]
    simp at hc3
    refine hR1 (x1+1) ⟨h1,?_⟩ (by omega)
    rw [List.take_succ_eq_append_getElem h1,List.take_succ_eq_append_getElem h2,ht,hc3]
  ·refine wexit ?_
   show AWp _ _ _ _ _
   refine wseq ?_
   refine wreg fun K hK=>?_
   simp [C.laws_eqTermS]
   refine hK _ ?_;clear hK K
   show AWp _ _ _ _ _
   refine wret ?_
   have hk2:x1=xs.length:=by simp at hc2;omega
   simp [C.laws_eqTermS]
   rw [hk2,List.take_length,e,List.take_length] at ht
   exact ht
theorem laws_eqLaurent_c (a b:Lau) (hx:a.ts.length < 4611686018427387904) (hx2:∀ t∈a.ts,t.e.length < 4611686018427387904):ACalls Try.prog F.laws_eqLaurent [aF a,aF b] [] true (fun outs res=>outs=[]/\res=[.one (D.bool (decide (a=b)))]):=by
 refine ACalls.of_body (C:=C.laws_eqLaurent) (n:=Try.f48.ntmps) tabT folT Try.func48 rfl (by kernel_rfl) rfl (Nat.le_of_ble_eq_true rfl) (by decide) (by kernel_rfl) (by kernel_rfl) rfl (by simp) (by simp) ?_
 simp only [Try.f48]
 refine wseq ?_
 refine wreg fun K hK=>?_
 simp [C.laws_eqLaurent]
 refine hK _ ?_;clear hK K
 show AWp _ _ _ _ _
 refine wseq ?_
 refine wseq ?_
 refine wreg fun K hK=>?_
 simp [C.laws_eqLaurent]
 refine hK _ ?_;clear hK K
 show AWp _ _ _ _ _
 refine wcond _ rfl (fun hc1=>?_) (fun hc1=>?_)
 ·refine wseq ?_
  refine wreg fun K hK=>?_
  simp [C.laws_eqLaurent]
  refine hK _ ?_;clear hK K
  show AWp _ _ _ _ _
  refine wret ?_
  simp at hc1
  simp [C.laws_eqLaurent,lau_eq,hc1]
 ·refine wskip ?_
  show AWp _ _ _ _ _
  refine wseq ?_
  refine wseq ?_
  refine wregI ([0,1,2,3,4] ++ ([5])) rfl fun K hK=>?_
  refine oSg fun L hL=>?_
  simp [C.laws_eqLaurent]
  refine wcall1 (laws_eqTermS_c a.ts b.ts hx hx2) (by simp) (by simp) ?_
  simp [C.laws_eqLaurent]
  refine hL _ ?_;clear hL L
  refine oEn fun L hL=>?_
  simp [C.laws_eqLaurent]
  refine hL _ ?_;clear hL L
  simp [C.laws_eqLaurent]
  refine hK _ ?_;clear hK K
  show AWp _ _ _ _ _
  refine wcond _ rfl (fun hc2=>?_) (fun hc2=>?_)
  ·refine wseq ?_
   refine wreg fun K hK=>?_
   simp [C.laws_eqLaurent]
   refine hK _ ?_;clear hK K
   show AWp _ _ _ _ _
   refine wret ?_
   simp at hc2
   simp [C.laws_eqLaurent,lau_eq,hc2]
  ·refine wskip ?_
   show AWp _ _ _ _ _
   refine wseq ?_
   refine wreg fun K hK=>?_
   simp [C.laws_eqLaurent]
   refine hK _ ?_;clear hK K
   show AWp _ _ _ _ _
   refine wret ?_
   simp at hc1 hc2
   simp [C.laws_eqLaurent,lau_eq,hc1,hc2]
theorem laws_markTermS_c (ts:List Trm) (k:Int) (hk0:0<=k) (hk:k+cntL cntT ts < 4611686018427387904) (hx:ts.length < 4611686018427387904):ACalls Try.prog F.laws_markTermS [.al (0,0) [] 0 ts.length,.int k] [((0,0),.ow 2 ts.length (rows tO ts))] true (fun outs res=>outs=[.ow 2 ts.length (rows tO (mkL cntT mkT ts k))]/\res=[.one (D.int (k+cntL cntT ts))]):=by
 refine ACalls.of_body (C:=C.laws_markTermS) (n:=Try.f108.ntmps) tabT folT Try.func108 rfl (by kernel_rfl) rfl (Nat.le_of_ble_eq_true rfl) (by decide) (by kernel_rfl) (by kernel_rfl) rfl (by simp) (by simp) ?_
 simp only [Try.f108]
 refine wseq ?_
 refine wreg fun K hK=>?_
 simp [C.laws_markTermS]
 refine hK _ ?_;clear hK K
 show AWp _ _ _ _ _
 refine wseq ?_
 refine wseq ?_
 refine wreg fun K hK=>?_
 simp [C.laws_markTermS]
 refine hK _ ?_;clear hK K
 show AWp _ _ _ _ _
 refine wblock ?_
 refine wloop (fun x:Nat×List Trm×Int=>⟨ofL [(0,.al (0,0) [] 0 ts.length),(1,.int x.2.2),(5,.int x.1),(1000,.al (0,0) [] 0 ts.length)],ofRO [((0,0),some (.ow 2 ts.length (rows tO x.2.1)))]⟩) (fun x=>x.1<=ts.length/\x.2.1=mkL cntT mkT (ts.take x.1) k ++ ts.drop x.1/\x.2.2=k+cntL cntT (ts.take x.1)) (fun x=>ts.length - x.1) (0,ts,k) (by simp [C.laws_markTermS]) (by simp [mkL,cntL]) ?_
 intro x1 hx1 R1 hR1
 obtain ⟨j,gs,kk⟩:=x1
 obtain ⟨h0,hg,he⟩:=hx1
 dsimp only at h0 hg he ⊢
 refine wseq ?_
 refine wseq ?_
 refine wreg fun K hK=>?_
 simp [C.laws_markTermS]
 refine hK _ ?_;clear hK K
 show AWp _ _ _ _ _
 refine wcond _ rfl (fun hc1=>?_) (fun hc1=>?_)
 ·refine wskip ?_
  show AWp _ _ _ _ _
  refine wseq ?_
  refine wblock ?_
  refine wseq ?_
  have h1:j < ts.length:=by simpa using hc1
  have hl:gs.length=ts.length:=by rw [hg];simp;omega
  have h2:j < gs.length:=by omega
  have hge:gs[j]=ts[j]:=by
   have:=mkL_get2 cntT mkT ts k j h1
   rw [<-hg,List.getElem?_eq_getElem h2] at this
   injection this
  have hb:=cntL_le1 cntT ts j h1
  have hcj:cntT ts[j]=ts[j].e.length+1:=rfl
  refine wregI ([0,1,2,3,4,5,6] ++ ([7])) rfl fun K hK=>?_
  refine oSg fun L hL=>?_
  simp [C.laws_markTermS,hl,h1,h2,hge,tO_0 h2,tO_1 h2,modify_const,tO_set0 h2]
  refine wcall1 (laws_markIntS_c ts[j].e kk (by omega) (by omega)) (by simp) (by simp) ?_
  simp [C.laws_markTermS,hl,h1,h2,hge,tO_0 h2,tO_1 h2,modify_const,tO_set0 h2]
  refine hL _ ?_;clear hL L
  refine oEn fun L hL=>?_
  simp [C.laws_markTermS,hl,h1,h2,hge,tO_0 h2,tO_1 h2,modify_const,tO_set0 h2]
  refine hL _ ?_;clear hL L
  simp [C.laws_markTermS,hl,h1,h2,hge,tO_0 h2,tO_1 h2,modify_const,tO_set0 h2]
  refine hK _ ?_;clear hK K
  show AWp _ _ _ _ _
  refine wseq ?_
  refine wreg fun K hK=>?_
  simp [C.laws_markTermS,h1,h2,tO_1 h2]
  refine hK _ ?_;clear hK K
  show AWp _ _ _ _ _
  refine wreg fun K hK=>?_
  simp [C.laws_markTermS]
  rw [wrapOk (x:=kk+ts[j].e.length+1) (by omega) (by omega)]
  refine hK _ ?_;clear hK K
  show AWp _ _ _ _ _
  refine wreg fun K hK=>?_
  simp [C.laws_markTermS,wrap_succ (show j < 4611686018427387904 by omega)]
  refine hK _ ?_;clear hK K
  simp [C.laws_markTermS]
  rw [tO_set2 h2 _ _ (by simp)]
  refine hR1 (j+1,_,_) ⟨h1,?_,?_⟩ (by dsimp only;omega)
  ·dsimp only
   rw [hg,he]
   exact mkL_step cntT mkT ts k j h1
  ·dsimp only
   rw [cntL_step _ _ _ h1]
   omega
 ·refine wexit ?_
  show AWp _ _ _ _ _
  refine wseq ?_
  refine wreg fun K hK=>?_
  simp [C.laws_markTermS]
  refine hK _ ?_;clear hK K
  show AWp _ _ _ _ _
  refine wret ?_
  have hj2:j=ts.length:=by simp at hc1;omega
  simp [C.laws_markTermS,hj2,hg,he]
theorem laws_markLaurent_c (f:Lau) (k:Int) (hk0:0<=k) (hk:k+cntL cntT f.ts < 4611686018427387904) (hx:f.ts.length < 4611686018427387904):ACalls Try.prog F.laws_markLaurent [.ag [.int f.v,.al (0,1) [] 0 f.ts.length],.int k] [((0,1),.ow 2 f.ts.length (rows tO f.ts))] true (fun outs res=>outs=[.ow 2 f.ts.length (rows tO (mkL cntT mkT f.ts k))]/\res=[.one (D.int (k+cntL cntT f.ts))]):=by
 refine ACalls.of_body (C:=C.laws_markLaurent) (n:=Try.f51.ntmps) tabT folT Try.func51 rfl (by kernel_rfl) rfl (Nat.le_of_ble_eq_true rfl) (by decide) (by kernel_rfl) (by kernel_rfl) rfl (by simp) (by simp) ?_
 simp only [Try.f51]
 refine wseq ?_
 refine wreg fun K hK=>?_
 simp [C.laws_markLaurent]
 refine hK _ ?_;clear hK K
 show AWp _ _ _ _ _
 refine wseq ?_
 refine wregI ([0,1,2,3] ++ ([4])) rfl fun K hK=>?_
 refine oSg fun L hL=>?_
 simp [C.laws_markLaurent,modify_const]
 refine wcall1 (laws_markTermS_c f.ts k hk0 hk hx) (by simp) (by simp) ?_
 simp [C.laws_markLaurent,modify_const]
 refine hL _ ?_;clear hL L
 refine oEn fun L hL=>?_
 simp [C.laws_markLaurent,modify_const]
 refine hL _ ?_;clear hL L
 simp [C.laws_markLaurent,modify_const]
 refine hK _ ?_;clear hK K
 show AWp _ _ _ _ _
 refine wseq ?_
 refine wreg fun K hK=>?_
 simp [C.laws_markLaurent]
 refine hK _ ?_;clear hK K
 show AWp _ _ _ _ _
 refine wret ?_
 simp [C.laws_markLaurent]
theorem laws_heldTermS_c (ts:List Trm) (k:Int) (hk0:0<=k) (hk:k+cntL cntT ts < 4611686018427387904) (hx:ts.length < 4611686018427387904):ACalls Try.prog F.laws_heldTermS [.d (.sh 2 ts.length (rows tS (mkL cntT mkT ts k))),.int k] [] true (fun outs res=>outs=[]/\res=[.one (D.int (k+cntL cntT ts))]):=by
 refine ACalls.of_body (C:=C.laws_heldTermS) (n:=Try.f109.ntmps) tabT folT Try.func109 rfl (by kernel_rfl) rfl (Nat.le_of_ble_eq_true rfl) (by decide) (by kernel_rfl) (by kernel_rfl) rfl (by simp) (by simp) ?_
 simp only [Try.f109]
 refine wseq ?_
 refine wreg fun K hK=>?_
 simp [C.laws_heldTermS]
 refine hK _ ?_;clear hK K
 show AWp _ _ _ _ _
 refine wseq ?_
 refine wseq ?_
 refine wreg fun K hK=>?_
 simp [C.laws_heldTermS]
 refine hK _ ?_;clear hK K
 show AWp _ _ _ _ _
 refine wblock ?_
 refine wloop (fun x:Nat×Int=>⟨ofL [(0,.d (.sh 2 ts.length (rows tS (mkL cntT mkT ts k)))),(1,.int x.2),(5,.int x.1)],ofRO []⟩) (fun x=>x.1<=ts.length/\x.2=k+cntL cntT (ts.take x.1)) (fun x=>ts.length - x.1) (0,k) (by simp [C.laws_heldTermS]) (by simp [cntL]) ?_
 intro x1 hx1 R1 hR1
 obtain ⟨j,kk⟩:=x1
 obtain ⟨h0,he⟩:=hx1
 dsimp only at h0 he ⊢
 refine wseq ?_
 refine wseq ?_
 refine wreg fun K hK=>?_
 simp [C.laws_heldTermS]
 refine hK _ ?_;clear hK K
 show AWp _ _ _ _ _
 refine wcond _ rfl (fun hc1=>?_) (fun hc1=>?_)
 ·refine wskip ?_
  show AWp _ _ _ _ _
  refine wseq ?_
  refine wblock ?_
  refine wseq ?_
  have h1:j < ts.length:=by simpa using hc1
  have h2:j < (mkL cntT mkT ts k).length:=by simpa using h1
  have hge:(mkL cntT mkT ts k)[j]=⟨marks kk ts[j].e.length,kk+ts[j].e.length⟩:=by
   rw [mkL_get1 _ _ _ _ _ h1,he]
   rfl
  have hb:=cntL_le1 cntT ts j h1
  have hcj:cntT ts[j]=ts[j].e.length+1:=rfl
  refine wregI ([0,1,2,3,4,5,6] ++ ([7])) rfl fun K hK=>?_
  refine oSg fun L hL=>?_
  simp [C.laws_heldTermS,h1,h2,hge,tS_0 h2,tS_1 h2]
  refine wcall1 (laws_heldIntS_c ts[j].e.length kk (by omega) (by omega)) (by simp) (by simp) ?_
  simp [C.laws_heldTermS,h1,h2,hge,tS_0 h2,tS_1 h2]
  refine hL _ ?_;clear hL L
  refine oEn fun L hL=>?_
  simp [C.laws_heldTermS,h1,h2,hge,tS_0 h2,tS_1 h2]
  refine hL _ ?_;clear hL L
  simp [C.laws_heldTermS,h1,h2,hge,tS_0 h2,tS_1 h2]
  refine hK _ ?_;clear hK K
  show AWp _ _ _ _ _
  refine wseq ?_
  refine wseq ?_
  refine wreg fun K hK=>?_
  simp [C.laws_heldTermS]
  refine hK _ ?_;clear hK K
  show AWp _ _ _ _ _
  refine wcond _ rfl (fun hc2=>?_) (fun hc2=>?_)
  ·simp at hc2;omega
  ·refine wskip ?_
   show AWp _ _ _ _ _
   refine wseq ?_
   refine wseq ?_
   refine wreg fun K hK=>?_
   simp [C.laws_heldTermS,h1,h2,hge,tS_0 h2,tS_1 h2]
   refine hK _ ?_;clear hK K
   show AWp _ _ _ _ _
   refine wcond _ rfl (fun hc3=>?_) (fun hc3=>?_)
   ·simp at hc3
   ·refine wskip ?_
    show AWp _ _ _ _ _
    refine wreg fun K hK=>?_
    simp [C.laws_heldTermS]
    rw [wrapOk (x:=kk+ts[j].e.length+1) (by omega) (by omega)]
    refine hK _ ?_;clear hK K
    show AWp _ _ _ _ _
    refine wreg fun K hK=>?_
    simp [C.laws_heldTermS,wrap_succ (show j < 4611686018427387904 by omega)]
    refine hK _ ?_;clear hK K
    simp [C.laws_heldTermS]
    refine hR1 (j+1,_) ⟨h1,?_⟩ (by dsimp only;omega)
    dsimp only
    rw [cntL_step _ _ _ h1]
    omega
 ·refine wexit ?_
  show AWp _ _ _ _ _
  refine wseq ?_
  refine wreg fun K hK=>?_
  simp [C.laws_heldTermS]
  refine hK _ ?_;clear hK K
  show AWp _ _ _ _ _
  refine wret ?_
  have hj2:j=ts.length:=by simp at hc1;omega
  simp [C.laws_heldTermS,hj2,he]
theorem laws_heldLaurent_c (v:Int) (ts:List Trm) (k:Int) (hk0:0<=k) (hk:k+cntL cntT ts < 4611686018427387904) (hx:ts.length < 4611686018427387904):ACalls Try.prog F.laws_heldLaurent [.ag [.int v,.d (.sh 2 ts.length (rows tS (mkL cntT mkT ts k)))],.int k] [] true (fun outs res=>outs=[]/\res=[.one (D.int (k+cntL cntT ts))]):=by
 refine ACalls.of_body (C:=C.laws_heldLaurent) (n:=Try.f52.ntmps) tabT folT Try.func52 rfl (by kernel_rfl) rfl (Nat.le_of_ble_eq_true rfl) (by decide) (by kernel_rfl) (by kernel_rfl) rfl (by simp) (by simp) ?_
 simp only [Try.f52]
 refine wseq ?_
 refine wreg fun K hK=>?_
 simp [C.laws_heldLaurent]
 refine hK _ ?_;clear hK K
 show AWp _ _ _ _ _
 refine wseq ?_
 refine wregI ([0,1,2,3] ++ ([4])) rfl fun K hK=>?_
 refine oSg fun L hL=>?_
 simp [C.laws_heldLaurent]
 refine wcall1 (laws_heldTermS_c ts k hk0 hk hx) (by simp) (by simp) ?_
 simp [C.laws_heldLaurent]
 refine hL _ ?_;clear hL L
 refine oEn fun L hL=>?_
 simp [C.laws_heldLaurent]
 refine hL _ ?_;clear hL L
 simp [C.laws_heldLaurent]
 refine hK _ ?_;clear hK K
 show AWp _ _ _ _ _
 refine wseq ?_
 refine wseq ?_
 refine wreg fun K hK=>?_
 simp [C.laws_heldLaurent]
 refine hK _ ?_;clear hK K
 show AWp _ _ _ _ _
 refine wcond _ rfl (fun hc1=>?_) (fun hc1=>?_)
 ·simp at hc1;omega
 ·refine wskip ?_
  show AWp _ _ _ _ _
  refine wseq ?_
  refine wreg fun K hK=>?_
  simp [C.laws_heldLaurent]
  refine hK _ ?_;clear hK K
  show AWp _ _ _ _ _
  refine wret ?_
  simp [C.laws_heldLaurent]
end Go.Proofs.Ytfcgcgmleogamaa.Ab
namespace Go.Proofs.Ytfcgcgmleogamaa.Ab
open Go
set_option maxRecDepth 10000
set_option maxHeartbeats 2000000
theorem spec_l1Less_c (a b:List Int) (ha:a.length < 4611686018427387904):ACalls Try.prog F.spec_l1Less [.d (shI a),.d (shI b)] [] true (fun outs res=>outs=[]/\res=[.one (D.bool (lexlt a b))]):=by
 refine ACalls.of_body (C:=C.spec_l1Less) (n:=Try.f144.ntmps) tabT folT Try.func144 rfl (by kernel_rfl) rfl (Nat.le_of_ble_eq_true rfl) (by decide) (by kernel_rfl) (by kernel_rfl) rfl (by simp) (by simp) ?_
 simp only [Try.f144]
 refine wseq ?_
 refine wreg fun K hK=>?_
 simp [C.spec_l1Less]
 refine hK _ ?_;clear hK K
 show AWp _ _ _ _ _
 refine wseq ?_
 refine wseq ?_
 refine wreg fun K hK=>?_
 simp [C.spec_l1Less]
 refine hK _ ?_;clear hK K
 show AWp _ _ _ _ _
 refine wblock ?_
 refine wloop (fun k:Nat=>⟨ofL [(0,.d (shI a)),(1,.d (shI b)),(5,FV.int k)],ofRO []⟩) (fun k=>k<=a.length/\k<=b.length/\lexlt a b=lexlt (a.drop k) (b.drop k)) (fun k=>a.length - k) 0 (by simp [C.spec_l1Less]) (by simp) ?_
 intro x1 hx1 R1 hR1
 obtain ⟨hk,hk2,ht⟩:=hx1
 refine wseq ?_
 refine wseq ?_
 refine wreg fun K hK=>?_
 have hJ:K ⟨ofL [(0,.d (shI a)),(1,.d (shI b)),(5,FV.int x1),(15,.bool (decide (x1 < a.length/\x1 < b.length)))],ofRO []⟩:=by
  refine hK _ ?_;clear hK K
  show AWp _ _ _ _ _
  refine wcond _ rfl (fun hc1=>?_) (fun hc1=>?_)
  ·have hh:x1 < a.length/\x1 < b.length:=by simpa using hc1
   obtain ⟨h1,h2⟩:=hh
   refine wskip ?_
   show AWp _ _ _ _ _
   refine wseq ?_
   refine wblock ?_
   refine wseq ?_
   refine wdraw (.take 0 (.take 1 (.take 2 (.take 3 (.take 4 (.take 5 (.take 6 (.take 7 (.take 8 (.done)))))))))) ⟨by kernel_rfl,by kernel_rfl⟩ fun K hK=>?_
   simp [C.spec_l1Less,get_ints,h1,h2]
   refine hK _ ?_;clear hK K
   show AWp _ _ _ _ _
   refine wcond _ rfl (fun hc2=>?_) (fun hc2=>?_)
   ·refine wseq ?_
    refine wdraw (.take 0 (.take 1 (.take 2 (.take 3 (.take 4 (.take 5 (.take 6 (.take 7 (.take 8 (.take 9 (.done))))))))))) ⟨by kernel_rfl,by kernel_rfl⟩ fun K hK=>?_
    simp [C.spec_l1Less,get_ints,h1,h2]
    refine hK _ ?_;clear hK K
    show AWp _ _ _ _ _
    refine wret ?_
    simp at hc2
    simp [C.spec_l1Less]
    rw [ht,List.drop_eq_getElem_cons h1,List.drop_eq_getElem_cons h2]
    simp [lexlt,hc2]
   ·refine wskip ?_
    show AWp _ _ _ _ _
    refine wreg fun K hK=>?_
    simp [C.spec_l1Less,wrap_succ (show x1 < 4611686018427387904 by omega)]
    refine hK _ ?_;clear hK K
    simp [C.spec_l1Less]
    simp at hc2
    refine hR1 (x1+1) ⟨h1,h2,?_⟩ (by omega)
    rw [ht,List.drop_eq_getElem_cons h1,List.drop_eq_getElem_cons h2]
    simp [lexlt,hc2]
  ·have hh:¬ (x1 < a.length/\x1 < b.length):=by simpa using hc1
   refine wexit ?_
   show AWp _ _ _ _ _
   refine wseq ?_
   refine wreg fun K hK=>?_
   simp [C.spec_l1Less]
   refine hK _ ?_;clear hK K
   show AWp _ _ _ _ _
   refine wret ?_
   simp [C.spec_l1Less]
   rw [ht]
   by_cases q:x1 < a.length
   ·rw [List.drop_eq_nil_of_le (show b.length<=x1 by omega),List.drop_eq_getElem_cons q]
    simp [lexlt]
    omega
   ·rw [List.drop_eq_nil_of_le (show a.length<=x1 by omega)]
    by_cases q2:x1 < b.length
    ·rw [List.drop_eq_getElem_cons q2]
     simp [lexlt]
     omega
    ·rw [List.drop_eq_nil_of_le (show b.length<=x1 by omega)]
     simp [lexlt]
     omega
 clear hK
 by_cases hg:x1 < a.length
 ·simp [C.spec_l1Less,hg]
  refine cast (congrArg K ?_) hJ
  simp [hg]
 ·simp [C.spec_l1Less,hg]
  refine cast (congrArg K ?_) hJ
  simp [hg]
theorem spec_l2Right_c (f:Lau) (hx:f.ts.length < 4611686018427387904) (hxe:∀ t∈f.ts,t.e.length < 4611686018427387904):ACalls Try.prog F.spec_l2Right [aF f] [] true (fun outs res=>outs=[]/\res=[.one (D.bool (decide (Right f)))]):=by
 refine ACalls.of_body (C:=C.spec_l2Right) (n:=Try.f84.ntmps) tabT folT Try.func84 rfl (by kernel_rfl) rfl (Nat.le_of_ble_eq_true rfl) (by decide) (by kernel_rfl) (by kernel_rfl) rfl (by simp) (by simp) ?_
 simp only [Try.f84]
 refine wseq ?_
 refine wreg fun K hK=>?_
 simp [C.spec_l2Right,fS,tS]
 refine hK _ ?_;clear hK K
 show AWp _ _ _ _ _
 refine wseq ?_
 refine wseq ?_
 refine wregI ([0,1,2] ++ ([3,4,5,6,7,8,9])) rfl fun K hK=>?_
 have hJ:K ⟨ofL [(1,.pt (1,0) [] 0),(15,.bool (decide (¬ (1<=f.v/\f.v<=8)\/600 < (f.ts.length:Int))))],ofRO [((1,0),some (.bx (fS f)))]⟩:=by
  refine hK _ ?_;clear hK K
  show AWp _ _ _ _ _
  refine wcond _ rfl (fun hc1=>?_) (fun hc1=>?_)
  ·have hh:=d_t hc1
   refine wseq ?_
   refine wreg fun K hK=>?_
   simp [C.spec_l2Right,fS,tS]
   refine hK _ ?_;clear hK K
   show AWp _ _ _ _ _
   refine wret ?_
   simp [C.spec_l2Right,fS,tS]
   intro hr;have:=hr.1;have:=hr.2.1;omega
  ·have hh0:=d_f hc1
   have hh:(1<=f.v/\f.v<=8)/\f.ts.length<=600:=by omega
   refine wskip ?_
   show AWp _ _ _ _ _
   refine wseq ?_
   refine wseq ?_
   refine wreg fun K hK=>?_
   simp [C.spec_l2Right,fS,tS]
   refine hK _ ?_;clear hK K
   show AWp _ _ _ _ _
   refine wblock ?_
   refine wloop (fun k:Nat=>⟨ofL [(1,.pt (1,0) [] 0),(3,.int k)],ofRO [((1,0),some (.bx (fS f)))]⟩) (fun k=>k<=f.ts.length/\(∀ t∈f.ts.take k,Good f.v t)/\DescT (f.ts.take k)) (fun k=>f.ts.length - k) 0 (by simp [C.spec_l2Right,fS]) (by simp [DescT]) ?_
   intro x1 hx1 R1 hR1
   obtain ⟨hk,hgood,hdesc⟩:=hx1
   refine wseq ?_
   refine wseq ?_
   refine wreg fun K hK=>?_
   simp [C.spec_l2Right,fS,tS]
   refine hK _ ?_;clear hK K
   show AWp _ _ _ _ _
   refine wcond _ rfl (fun hc2=>?_) (fun hc2=>?_)
   ·have h1:x1 < f.ts.length:=by simpa using hc2
    refine wskip ?_
    show AWp _ _ _ _ _
    refine wseq ?_
    refine wblock ?_
    refine wseq ?_
    refine wreg fun K hK=>?_
    simp [C.spec_l2Right,fS,tS,h1,tS_0 h1,tS_1 h1]
    refine hK _ ?_;clear hK K
    show AWp _ _ _ _ _
    refine wseq ?_
    refine wseq ?_
    have hp:0 < x1->x1 - 1 < f.ts.length:=by omega
    refine wdrawI [(true,0),(true,1),(true,2),(true,3),(true,4),(true,5),(true,6),(true,7),(true,8),(true,9),(true,10),(true,11),(true,12),(true,13),(false,14),(true,15),(true,16),(true,17),(true,18),(true,19),(true,20),(true,21),(true,22),(true,23),(true,24),(true,25),(true,26),(true,27),(true,28),(true,29),(false,30),(true,31),(true,32),(true,33)] ⟨by kernel_rfl,by kernel_rfl⟩ ([0,1,2,3,4,5,6,7,8,9,10,11,12,13,14] ++ ([15,16,17,18,19,20,21,22,23,24,25,26,27,28,29,30] ++ ([31,32,33]))) rfl fun K hK=>?_
    have hJ:K ⟨ofL [(1,.pt (1,0) [] 0),(3,.int x1),(4,.pt (4,0) [] 0),(61,.bool (!decide ((f.ts[x1].e.length:Int)=f.v/\f.ts[x1].c≠0/\(-1000000<=f.ts[x1].c/\f.ts[x1].c<=1000000)/\(x1=0\/lexlt f.ts[x1].e f.ts[x1 - 1].e=true))))],ofRO [((1,0),some (.bx (fS f))),((4,0),some (.bx (tS f.ts[x1])))]⟩:=by
     refine hK _ ?_;clear hK K
     show AWp _ _ _ _ _
     refine wcond _ rfl (fun hc3=>?_) (fun hc3=>?_)
     ·have hb:=nd_t hc3
      refine wseq ?_
      refine wreg fun K hK=>?_
      simp [C.spec_l2Right,fS,tS]
      refine hK _ ?_;clear hK K
      show AWp _ _ _ _ _
      refine wret ?_
      simp [C.spec_l2Right,fS,tS]
      intro hr
      have hg:=hr.2.2.1 _ (List.getElem_mem h1)
      exact hb ⟨hg.1,hg.2.1,hg.2.2.1,descT_next h1 hr.2.2.2⟩
     ·have hb:=nd_f hc3
      refine wskip ?_
      show AWp _ _ _ _ _
      refine wseq ?_
      refine wreg fun K hK=>?_
      simp [C.spec_l2Right,fS,tS]
      refine hK _ ?_;clear hK K
      show AWp _ _ _ _ _
      refine wblock ?_
      refine wloop (fun i:Nat=>⟨ofL [(1,.pt (1,0) [] 0),(3,.int x1),(4,.pt (4,0) [] 0),(5,.int i)],ofRO [((1,0),some (.bx (fS f))),((4,0),some (.bx (tS f.ts[x1])))]⟩) (fun i=>i<=f.ts[x1].e.length/\∀ x∈f.ts[x1].e.take i,-20<=x/\x<=20) (fun i=>f.ts[x1].e.length - i) 0 (by simp [C.spec_l2Right,fS,tS]) (by simp) ?_
      intro x2 hx2 R2 hR2
      obtain ⟨hi,hin⟩:=hx2
      refine wseq ?_
      refine wseq ?_
      refine wreg fun K hK=>?_
      simp [C.spec_l2Right,fS,tS]
      refine hK _ ?_;clear hK K
      show AWp _ _ _ _ _
      refine wcond _ rfl (fun hc4=>?_) (fun hc4=>?_)
      ·have h2:x2 < f.ts[x1].e.length:=by have:=d_t hc4;omega
       refine wskip ?_
       show AWp _ _ _ _ _
       refine wseq ?_
       refine wblock ?_
       refine wseq ?_
       refine wregI ([0,1,2,3,4,5] ++ ([6])) rfl fun K hK=>?_
       refine oSg fun L hL=>?_
       simp [C.spec_l2Right,fS,tS,h1,h2,get_ints]
       refine wcall1 (spec_l1In_c f.ts[x1].e[x2] (-20) 20) (by simp) (by simp) ?_
       simp [C.spec_l2Right,fS,tS,h1,h2,get_ints]
       refine hL _ ?_;clear hL L
       refine oEn fun L hL=>?_
       simp [C.spec_l2Right,fS,tS,h1,h2,get_ints]
       refine hL _ ?_;clear hL L
       simp [C.spec_l2Right,fS,tS,h1,h2,get_ints]
       refine hK _ ?_;clear hK K
       show AWp _ _ _ _ _
       refine wcond _ rfl (fun hc5=>?_) (fun hc5=>?_)
       ·have hb2:¬ (-20<=f.ts[x1].e[x2]/\f.ts[x1].e[x2]<=20):=by simp at hc5;omega
        refine wseq ?_
        refine wreg fun K hK=>?_
        simp [C.spec_l2Right,fS,tS]
        refine hK _ ?_;clear hK K
        show AWp _ _ _ _ _
        refine wret ?_
        simp [C.spec_l2Right,fS,tS]
        intro hr
        exact hb2 ((hr.2.2.1 _ (List.getElem_mem h1)).2.2.2 _ (List.getElem_mem h2))
       ·have hb2:-20<=f.ts[x1].e[x2]/\f.ts[x1].e[x2]<=20:=by simpa using hc5
        refine wskip ?_
        show AWp _ _ _ _ _
        refine wreg fun K hK=>?_
        simp [C.spec_l2Right,fS,tS,wrap_succ (show x2 < 4611686018427387904 by have:=hxe _ (List.getElem_mem h1);omega)]
        refine hK _ ?_;clear hK K
        simp [C.spec_l2Right,fS,tS]
        refine hR2 (x2+1) ⟨h2,?_⟩ (by omega)
        rw [List.take_succ_eq_append_getElem h2]
        intro x hx
        rcases List.mem_append.1 hx with hx | hx
        ·exact hin x hx
        ·simp only [List.mem_singleton] at hx
         rw [hx]
         exact hb2
      ·have h2:x2=f.ts[x1].e.length:=by have:=d_f hc4;omega
       refine wexit ?_
       show AWp _ _ _ _ _
       refine wreg fun K hK=>?_
       simp [C.spec_l2Right,fS,tS,wrap_succ (show x1 < 4611686018427387904 by omega)]
       refine hK _ ?_;clear hK K
       simp [C.spec_l2Right,fS,tS]
       refine hR1 (x1+1) ⟨h1,?_,descT_step h1 hdesc hb.2.2.2⟩ (by omega)
       rw [List.take_succ_eq_append_getElem h1]
       intro t ht
       rcases List.mem_append.1 ht with ht | ht
       ·exact hgood t ht
       ·simp only [List.mem_singleton] at ht
        rw [ht]
        refine ⟨hb.1,hb.2.1,hb.2.2.1,?_⟩
        rw [h2,List.take_length] at hin
        exact hin
    clear hK
    by_cases ha:(f.ts[x1].e.length:Int)=f.v
    ·by_cases hb:f.ts[x1].c=0
     ·refine oSg fun L hL=>?_
      simp [C.spec_l2Right,fS,tS,ha,hb]
      refine hL _ ?_;clear hL L
      refine oSg fun L hL=>?_
      simp [C.spec_l2Right,fS,tS,ha,hb]
      refine hL _ ?_;clear hL L
      refine oEn fun L hL=>?_
      simp [C.spec_l2Right,fS,tS,ha,hb]
      refine hL _ ?_;clear hL L
      simp [C.spec_l2Right,fS,tS,ha,hb]
      refine cast (congrArg K ?_) hJ
      simp [fS,tS,ha,hb]
     ·by_cases hc:-1000000<=f.ts[x1].c/\f.ts[x1].c<=1000000
      ·by_cases hd:0 < x1
       ·obtain ⟨m,rfl⟩:∃ m,x1=m+1:=⟨x1 - 1,by omega⟩
        have hm:m < f.ts.length:=by omega
        refine oSg fun L hL=>?_
        simp [C.spec_l2Right,fS,tS,hm,tS_0 hm,wrap_nat (show m < 4611686018427387904 by omega),ha,hb,hc,hd]
        refine wcall1 (spec_l1In_c f.ts[m+1].c (-1000000) 1000000) (by simp) (by simp) ?_
        simp [C.spec_l2Right,fS,tS,hm,tS_0 hm,wrap_nat (show m < 4611686018427387904 by omega),ha,hb,hc,hd]
        refine hL _ ?_;clear hL L
        refine oSg fun L hL=>?_
        simp [C.spec_l2Right,fS,tS,hm,tS_0 hm,wrap_nat (show m < 4611686018427387904 by omega),ha,hb,hc,hd]
        refine wcall1 (spec_l1Less_c f.ts[m+1].e f.ts[m].e (hxe _ (List.getElem_mem h1))) (by simp) (by simp) ?_
        simp [C.spec_l2Right,fS,tS,hm,tS_0 hm,wrap_nat (show m < 4611686018427387904 by omega),ha,hb,hc,hd]
        refine hL _ ?_;clear hL L
        refine oEn fun L hL=>?_
        simp [C.spec_l2Right,fS,tS,hm,tS_0 hm,wrap_nat (show m < 4611686018427387904 by omega),ha,hb,hc,hd]
        refine hL _ ?_;clear hL L
        simp [C.spec_l2Right,fS,tS,hm,tS_0 hm,wrap_nat (show m < 4611686018427387904 by omega),ha,hb,hc,hd]
        refine cast (congrArg K ?_) hJ
        simp [fS,tS,ha,hb,hc,hd]
       ·obtain rfl:x1=0:=by omega
        refine oSg fun L hL=>?_
        simp [C.spec_l2Right,fS,tS,ha,hb,hc,hd]
        refine wcall1 (spec_l1In_c f.ts[0].c (-1000000) 1000000) (by simp) (by simp) ?_
        simp [C.spec_l2Right,fS,tS,ha,hb,hc,hd]
        refine hL _ ?_;clear hL L
        refine oSg fun L hL=>?_
        simp [C.spec_l2Right,fS,tS,ha,hb,hc,hd]
        refine hL _ ?_;clear hL L
        refine oEn fun L hL=>?_
        simp [C.spec_l2Right,fS,tS,ha,hb,hc,hd]
        refine hL _ ?_;clear hL L
        simp [C.spec_l2Right,fS,tS,ha,hb,hc,hd]
        refine cast (congrArg K ?_) hJ
        simp [fS,tS,ha,hb,hc,hd]
      ·refine oSg fun L hL=>?_
       simp [C.spec_l2Right,fS,tS,ha,hb,hc]
       refine wcall1 (spec_l1In_c f.ts[x1].c (-1000000) 1000000) (by simp) (by simp) ?_
       simp [C.spec_l2Right,fS,tS,ha,hb,hc]
       refine hL _ ?_;clear hL L
       refine oSg fun L hL=>?_
       simp [C.spec_l2Right,fS,tS,ha,hb,hc]
       refine hL _ ?_;clear hL L
       refine oEn fun L hL=>?_
       simp [C.spec_l2Right,fS,tS,ha,hb,hc]
       refine hL _ ?_;clear hL L
       simp [C.spec_l2Right,fS,tS,ha,hb,hc]
       refine cast (congrArg K ?_) hJ
       simp [fS,tS,ha,hb,hc]
    ·refine oSg fun L hL=>?_
     simp [C.spec_l2Right,fS,tS,ha]
     refine hL _ ?_;clear hL L
     refine oSg fun L hL=>?_
     simp [C.spec_l2Right,fS,tS,ha]
     refine hL _ ?_;clear hL L
     refine oEn fun L hL=>?_
     simp [C.spec_l2Right,fS,tS,ha]
     refine hL _ ?_;clear hL L
     simp [C.spec_l2Right,fS,tS,ha]
     refine cast (congrArg K ?_) hJ
     simp [fS,tS,ha]
   ·have h2:x1=f.ts.length:=by have:=d_f hc2;omega
    refine wexit ?_
    show AWp _ _ _ _ _
    refine wseq ?_
    refine wreg fun K hK=>?_
    simp [C.spec_l2Right,fS,tS]
    refine hK _ ?_;clear hK K
    show AWp _ _ _ _ _
    refine wret ?_
    simp [C.spec_l2Right,fS,tS]
    rw [h2,List.take_length] at hgood hdesc
    exact ⟨hh.1,hh.2,hgood,hdesc⟩
 clear hK
 by_cases ha:1<=f.v/\f.v<=8
 ·refine oSg fun L hL=>?_
  simp [C.spec_l2Right,fS,tS,ha]
  refine wcall1 (spec_l1In_c f.v 1 8) (by simp) (by simp) ?_
  simp [C.spec_l2Right,fS,tS,ha]
  refine hL _ ?_;clear hL L
  refine oEn fun L hL=>?_
  simp [C.spec_l2Right,fS,tS,ha]
  refine hL _ ?_;clear hL L
  simp [C.spec_l2Right,fS,tS,ha]
  refine cast (congrArg K ?_) hJ
  simp [fS,tS,ha]
 ·refine oSg fun L hL=>?_
  simp [C.spec_l2Right,fS,tS,ha]
  refine wcall1 (spec_l1In_c f.v 1 8) (by simp) (by simp) ?_
  simp [C.spec_l2Right,fS,tS,ha]
  refine hL _ ?_;clear hL L
  refine oEn fun L hL=>?_
  simp [C.spec_l2Right,fS,tS,ha]
  refine hL _ ?_;clear hL L
  simp [C.spec_l2Right,fS,tS,ha]
  refine cast (congrArg K ?_) hJ
  simp [fS,tS,ha]
theorem spec_l2Key_c (xs:List Int) (hd:Dig xs) (hl:xs.length<=8):ACalls Try.prog F.spec_l2Key [.d (shI xs)] [] true (fun outs res=>outs=[]/\res=[.one (D.int (keyA 0 xs))]):=by
 refine ACalls.of_body (C:=C.spec_l2Key) (n:=Try.f182.ntmps) tabT folT Try.func182 rfl (by kernel_rfl) rfl (Nat.le_of_ble_eq_true rfl) (by decide) (by kernel_rfl) (by kernel_rfl) rfl (by simp) (by simp) ?_
 simp only [Try.f182]
 refine wseq ?_
 refine wreg fun K hK=>?_
 simp [C.spec_l2Key]
 refine hK _ ?_;clear hK K
 show AWp _ _ _ _ _
 refine wseq ?_
 refine wreg fun K hK=>?_
 simp [C.spec_l2Key]
 refine hK _ ?_;clear hK K
 show AWp _ _ _ _ _
 refine wseq ?_
 refine wseq ?_
 refine wreg fun K hK=>?_
 simp [C.spec_l2Key]
 refine hK _ ?_;clear hK K
 show AWp _ _ _ _ _
 refine wblock ?_
 refine wloop (fun x:Nat×Int=>⟨ofL [(0,.d (shI xs)),(3,.int x.2),(4,.int x.1)],ofRO []⟩) (fun x=>x.1<=xs.length/\x.2=keyA 0 (xs.take x.1)) (fun x=>xs.length - x.1) (0,0) (by simp [C.spec_l2Key]) (by simp [keyA]) ?_
 intro x1 hx1 R1 hR1
 obtain ⟨j,k⟩:=x1
 obtain ⟨hj,hk⟩:=hx1
 dsimp only at hj hk ⊢
 refine wseq ?_
 refine wseq ?_
 refine wreg fun K hK=>?_
 simp [C.spec_l2Key]
 refine hK _ ?_;clear hK K
 show AWp _ _ _ _ _
 refine wcond _ rfl (fun hc1=>?_) (fun hc1=>?_)
 ·have h1:j < xs.length:=d_t hc1 |> fun h=>by omega
  have hb:=keyA_key (a:=xs.take j) (fun x hx=>hd x (List.mem_of_mem_take hx)) (by simp;omega)
  rw [<-hk] at hb
  have hx:=hd _ (List.getElem_mem h1)
  refine wskip ?_
  show AWp _ _ _ _ _
  refine wseq ?_
  refine wblock ?_
  refine wreg fun K hK=>?_
  simp [C.spec_l2Key,get_ints,h1]
  rw [wrapOk (x:=k*128) (by omega) (by omega),wrapOk (x:=k*128+xs[j]) (by omega) (by omega),wrapOk (x:=k*128+xs[j]+64) (by omega) (by omega)]
  refine hK _ ?_;clear hK K
  show AWp _ _ _ _ _
  refine wreg fun K hK=>?_
  simp [C.spec_l2Key,wrap_succ (show j < 4611686018427387904 by omega)]
  refine hK _ ?_;clear hK K
  simp [C.spec_l2Key]
  refine hR1 (j+1,_) ⟨h1,?_⟩ (by dsimp only;omega)
  dsimp only
  rw [List.take_succ_eq_append_getElem h1,keyA_append,<-hk]
  rfl
 ·have h1:j=xs.length:=by have:=d_f hc1;omega
  refine wexit ?_
  show AWp _ _ _ _ _
  refine wseq ?_
  refine wreg fun K hK=>?_
  simp [C.spec_l2Key]
  refine hK _ ?_;clear hK K
  show AWp _ _ _ _ _
  refine wret ?_
  simp [C.spec_l2Key]
  rw [hk,h1,List.take_length]
theorem spec_l2Base_c (n:Nat) (hn:n<=8):ACalls Try.prog F.spec_l2Base [.int n] [] true (fun outs res=>outs=[]/\res=[.one (D.int (keyA 0 (List.replicate n 0)))]):=by
 refine ACalls.of_body (C:=C.spec_l2Base) (n:=Try.f157.ntmps) tabT folT Try.func157 rfl (by kernel_rfl) rfl (Nat.le_of_ble_eq_true rfl) (by decide) (by kernel_rfl) (by kernel_rfl) rfl (by simp) (by simp) ?_
 simp only [Try.f157]
 refine wseq ?_
 refine wreg fun K hK=>?_
 simp [C.spec_l2Base]
 refine hK _ ?_;clear hK K
 show AWp _ _ _ _ _
 refine wseq ?_
 refine wregI ([0,1,2] ++ ([3])) rfl fun K hK=>?_
 refine oSg fun L hL=>?_
 simp [C.spec_l2Base,zeros_ints,show (8:Int)*n<=281474976710656 by omega,show (n:Int)<=281474976710656 by omega]
 refine wcall1 (spec_l2Key_c (List.replicate n 0) (fun x hx=>by have:=List.eq_of_mem_replicate hx;omega) (by simpa using hn)) (by simp) (by simp) ?_
 simp [C.spec_l2Base,zeros_ints,show (8:Int)*n<=281474976710656 by omega,show (n:Int)<=281474976710656 by omega]
 refine hL _ ?_;clear hL L
 refine oEn fun L hL=>?_
 simp [C.spec_l2Base,zeros_ints,show (8:Int)*n<=281474976710656 by omega,show (n:Int)<=281474976710656 by omega]
 refine hL _ ?_;clear hL L
 simp [C.spec_l2Base,zeros_ints,show (8:Int)*n<=281474976710656 by omega,show (n:Int)<=281474976710656 by omega]
 refine hK _ ?_;clear hK K
 show AWp _ _ _ _ _
 refine wret ?_
 simp [C.spec_l2Base]
theorem spec_l2Exp_c (e:List Int) (hd:Dig e) (hl:e.length<=8):ACalls Try.prog F.spec_l2Exp [.int (keyA 0 e),.int e.length] [] true (fun outs res=>outs=[]/\res=[.one (owI e)]):=by
 refine ACalls.of_body (C:=C.spec_l2Exp) (n:=Try.f156.ntmps) tabT folT Try.func156 rfl (by kernel_rfl) rfl (Nat.le_of_ble_eq_true rfl) (by decide) (by kernel_rfl) (by kernel_rfl) rfl (by simp) (by simp) ?_
 simp only [Try.f156]
 refine wseq ?_
 refine wreg fun K hK=>?_
 simp [C.spec_l2Exp]
 refine hK _ ?_;clear hK K
 show AWp _ _ _ _ _
 refine wseq ?_
 refine wreg fun K hK=>?_
 simp [C.spec_l2Exp,zeros_ints,show (8:Int)*e.length<=281474976710656 by omega,show (e.length:Int)<=281474976710656 by omega]
 refine hK _ ?_;clear hK K
 show AWp _ _ _ _ _
 refine wseq ?_
 refine wseq ?_
 refine wreg fun K hK=>?_
 simp [C.spec_l2Exp]
 rw [wrapOk (x:=(e.length:Int) - 1) (by omega) (by omega)]
 refine hK _ ?_;clear hK K
 show AWp _ _ _ _ _
 refine wblock ?_
 refine wloop (fun x:Nat×Int×List Int=>⟨ofL [(0,.int x.2.1),(5,.al (5,0) [] 0 e.length),(6,.int ((x.1:Int) - 1))],ofRO [((5,0),some (.ow 1 e.length (ints x.2.2)))]⟩) (fun x=>x.1<=e.length/\x.2.1=keyA 0 (e.take x.1)/\x.2.2.length=e.length/\x.2.2.drop x.1=e.drop x.1) (fun x=>x.1) (e.length,keyA 0 e,List.replicate e.length 0) (by simp [C.spec_l2Exp]) (by simp) ?_
 intro x1 hx1 R1 hR1
 obtain ⟨j,k,gs⟩:=x1
 obtain ⟨hj,hk,hg,he⟩:=hx1
 dsimp only at hj hk hg he ⊢
 refine wseq ?_
 refine wseq ?_
 refine wreg fun K hK=>?_
 simp [C.spec_l2Exp]
 refine hK _ ?_;clear hK K
 show AWp _ _ _ _ _
 refine wcond _ rfl (fun hc1=>?_) (fun hc1=>?_)
 ·obtain ⟨m,rfl⟩:∃ m,j=m+1:=⟨j - 1,by have:=d_t hc1;omega⟩
  have h1:m < e.length:=by omega
  have hq:Dig (e.take m):=fun x hx=>hd x (List.mem_of_mem_take hx)
  have hdec:=keyA_dec (a:=e.take m) (x:=e[m]) (p:=0) hq (hd _ (List.getElem_mem h1)) (by omega)
  rw [<-List.take_succ_eq_append_getElem h1,<-hk] at hdec
  have hkb:=keyA_key (a:=e.take (m+1)) (fun x hx=>hd x (List.mem_of_mem_take hx)) (by simp;omega)
  rw [<-hk] at hkb
  have hkb2:=keyA_key (a:=e.take m) hq (by simp;omega)
  have hx:=hd _ (List.getElem_mem h1)
  refine wskip ?_
  show AWp _ _ _ _ _
  refine wseq ?_
  refine wblock ?_
  refine wseq ?_
  refine wreg fun K hK=>?_
  simp [C.spec_l2Exp,h1,hg]
  rw [hdec.1,wrapOk (x:=e[m]) (by omega) (by omega)]
  refine hK _ ?_;clear hK K
  show AWp _ _ _ _ _
  refine wreg fun K hK=>?_
  simp [C.spec_l2Exp]
  rw [hdec.2,wrapOk (x:=keyA 0 (e.take m)) (by omega) (by omega)]
  refine hK _ ?_;clear hK K
  show AWp _ _ _ _ _
  refine wreg fun K hK=>?_
  simp [C.spec_l2Exp]
  rw [wrapOk (x:=(m:Int) - 1) (by omega) (by omega)]
  refine hK _ ?_;clear hK K
  simp [C.spec_l2Exp]
  refine hR1 (m,_,_) ⟨by dsimp only;omega,rfl,by simpa using hg,?_⟩ (by dsimp only;omega)
  dsimp only
  rw [List.drop_eq_getElem_cons h1,List.drop_eq_getElem_cons (by simp;omega),List.drop_set_of_lt (by omega),he]
  simp
 ·have hj0:j=0:=by have:=d_f hc1;omega
  refine wexit ?_
  show AWp _ _ _ _ _
  refine wseq ?_
  refine wreg fun K hK=>?_
  simp [C.spec_l2Exp]
  refine hK _ ?_;clear hK K
  show AWp _ _ _ _ _
  refine wret ?_
  simp [C.spec_l2Exp]
  rw [hj0,List.drop_zero,List.drop_zero] at he
  rw [he]
end Go.Proofs.Ytfcgcgmleogamaa.Ab
namespace Go.Proofs.Ytfcgcgmleogamaa.Ab
open Go
set_option maxRecDepth 10000
set_option maxHeartbeats 2000000
def kt (t:Trm):Int×Int:=(keyA 0 t.e,t.c)
theorem spec_l2Shut_c (ts:List Trm) (v:Nat) (hl:ts.length<=1000000) (he:∀ t∈ts,Dig t.e/\t.e.length=v) (hv:v<=8):ACalls Try.prog F.spec_l2Shut [.d (.sh 2 ts.length (rows gM (ts.map kt))),.int v] [] true (fun outs res=>outs=[]/\WkRs res [.ag (fO (if Right ⟨v,ts⟩ then ⟨v,ts⟩ else zeroF)),.one (D.bool (decide (Right ⟨v,ts⟩)))]):=by
 refine ACalls.of_body (C:=C.spec_l2Shut) (n:=Try.f104.ntmps) tabT folT Try.func104 rfl (by kernel_rfl) rfl (Nat.le_of_ble_eq_true rfl) (by decide) (by kernel_rfl) (by kernel_rfl) rfl (by simp) (by simp) ?_
 simp only [Try.f104]
 refine wseq ?_
 refine wreg fun K hK=>?_
 simp [C.spec_l2Shut]
 refine hK _ ?_;clear hK K
 show AWp _ _ _ _ _
 refine wseq ?_
 refine wseq ?_
 refine wreg fun K hK=>?_
 simp [C.spec_l2Shut]
 refine hK _ ?_;clear hK K
 show AWp _ _ _ _ _
 refine wcond _ rfl (fun hc1=>?_) (fun hc1=>?_)
 ·have hc:=d_t hc1
  have hr:¬ Right ⟨v,ts⟩:=fun h=>by have:=h.2.1;dsimp only at this;omega
  refine wseq ?_
  refine wreg fun K hK=>?_
  simp [C.spec_l2Shut]
  refine hK _ ?_;clear hK K
  show AWp _ _ _ _ _
  refine wret ?_
  simp [C.spec_l2Shut,hr,fO,zeroF,rows]
 ·have hc:=d_f hc1
  refine wskip ?_
  show AWp _ _ _ _ _
  refine wseq ?_
  refine wreg fun K hK=>?_
  simp [C.spec_l2Shut]
  refine hK _ ?_;clear hK K
  show AWp _ _ _ _ _
  refine wseq ?_
  refine wseq ?_
  refine wreg fun K hK=>?_
  simp [C.spec_l2Shut]
  refine hK _ ?_;clear hK K
  show AWp _ _ _ _ _
  refine wblock ?_
  refine wloop (fun x:Nat×List Trm=>⟨ofL [(0,.d (.sh 2 ts.length (rows gM (ts.map kt)))),(1,.int v),(4,.pt (4,0) [] 0),(6,.pt (6,0) [] 0),(7,.int x.1)],ofRO [((4,0),some (.bx [D.int 0,.v (.slice none 0 0)])),((6,0),some (.bx [D.int v,.ow 2 x.1 (rows tO x.2)]))]⟩) (fun x=>x.1<=ts.length/\x.2=ts.take x.1) (fun x=>ts.length - x.1) (0,[]) (by simp [C.spec_l2Shut,rows]) (by simp) ?_
  intro x1 hx1 R1 hR1
  obtain ⟨j,gs⟩:=x1
  obtain ⟨hj,hg⟩:=hx1
  dsimp only at hj hg ⊢
  refine wseq ?_
  refine wseq ?_
  refine wreg fun K hK=>?_
  simp [C.spec_l2Shut]
  refine hK _ ?_;clear hK K
  show AWp _ _ _ _ _
  refine wcond _ rfl (fun hc2=>?_) (fun hc2=>?_)
  ·have h1:j < ts.length:=by have:=d_t hc2;omega
   have hgl:gs.length=j:=by rw [hg];simp;omega
   have h2:j < (ts.map kt).length:=by simpa using h1
   have hkt:(ts.map kt)[j]=(keyA 0 ts[j].e,ts[j].c):=by simp [kt]
   have hel:=(he _ (List.getElem_mem h1)).2
   refine wskip ?_
   show AWp _ _ _ _ _
   refine wseq ?_
   refine wblock ?_
   refine wdrawI [(true,0),(true,1),(true,2),(true,3),(true,4),(true,5),(true,6),(true,7),(true,9),(true,10),(true,11),(true,12),(true,13),(false,8),(true,14),(false,15),(false,16),(true,17),(false,18)] ⟨by kernel_rfl,by kernel_rfl⟩ ([0,1,2,3,4,5,6,7,9,10,11,12,13,8] ++ ([14,15,16,17,18])) rfl fun K hK=>?_
   refine oSg fun L hL=>?_
   simp [C.spec_l2Shut,h1,h2,hkt,gM_0 h2,gM_1 h2,show (j+1)*32<=140737488355328 by omega]
   refine wcall1 (spec_l2Exp_c ts[j].e (he _ (List.getElem_mem h1)).1 (by omega)) (by simp;omega) (by simp) ?_
   simp [C.spec_l2Shut,h1,h2,hkt,gM_0 h2,gM_1 h2,show (j+1)*32<=140737488355328 by omega]
   refine hL _ ?_;clear hL L
   refine oEn fun L hL=>?_
   simp [C.spec_l2Shut,h1,h2,hkt,gM_0 h2,gM_1 h2,show (j+1)*32<=140737488355328 by omega]
   refine hL _ ?_;clear hL L
   simp [C.spec_l2Shut,h1,h2,hkt,gM_0 h2,gM_1 h2,show (j+1)*32<=140737488355328 by omega]
   refine hK _ ?_;clear hK K
   show AWp _ _ _ _ _
   refine wreg fun K hK=>?_
   simp [C.spec_l2Shut,wrap_succ (show j < 4611686018427387904 by omega)]
   refine hK _ ?_;clear hK K
   simp [C.spec_l2Shut]
   rw [tO_snoc]
   refine hR1 (j+1,_) ⟨h1,?_⟩ (by dsimp only;omega)
   dsimp only
   rw [hg,List.take_succ_eq_append_getElem h1]
  ·have h1:j=ts.length:=by have:=d_f hc2;omega
   obtain rfl:gs=ts:=by rw [hg,h1,List.take_length]
   subst h1
   refine wexit ?_
   show AWp _ _ _ _ _
   refine wseq ?_
   refine wseq ?_
   refine wregI ([0,1] ++ ([2])) rfl fun K hK=>?_
   refine oSg fun L hL=>?_
   simp [C.spec_l2Shut]
   refine wcall1 (spec_l2Right_c ⟨v,gs⟩ (by dsimp only;omega) (fun t ht=>by have:=(he t ht).2;omega)) (by simp) (by simp) ?_
   simp [C.spec_l2Shut]
   refine hL _ ?_;clear hL L
   refine oEn fun L hL=>?_
   simp [C.spec_l2Shut]
   refine hL _ ?_;clear hL L
   simp [C.spec_l2Shut]
   refine hK _ ?_;clear hK K
   show AWp _ _ _ _ _
   refine wcond _ rfl (fun hc3=>?_) (fun hc3=>?_)
   ·have hr:=nd_t hc3
    refine wseq ?_
    refine wreg fun K hK=>?_
    simp [C.spec_l2Shut]
    refine hK _ ?_;clear hK K
    show AWp _ _ _ _ _
    refine wret ?_
    simp [C.spec_l2Shut,hr,fO,zeroF,rows]
   ·have hr:=nd_f hc3
    refine wskip ?_
    show AWp _ _ _ _ _
    refine wseq ?_
    refine wreg fun K hK=>?_
    simp [C.spec_l2Shut]
    refine hK _ ?_;clear hK K
    show AWp _ _ _ _ _
    refine wret ?_
    simp [C.spec_l2Shut,hr,fO]
theorem l2Shut_c (ts:List Trm) (v:Nat) (hl:ts.length<=1000000) (he:∀ t∈ts,Dig t.e/\t.e.length=v) (hv:v<=8):ACalls Try.prog F.spec_l2Shut [.d (.sh 2 ts.length (rows gM (ts.map kt))),.int v] [] true (fun outs res=>outs=[]/\res=[.ag (fO (if Right ⟨v,ts⟩ then ⟨v,ts⟩ else zeroF)),.one (D.bool (decide (Right ⟨v,ts⟩)))]):=(spec_l2Shut_c ts v hl he hv).weak1
end Go.Proofs.Ytfcgcgmleogamaa.Ab
namespace Go.Proofs.Ytfcgcgmleogamaa.Ab
open Go
section
variable {α:Type} {le:α->α->Bool}
def Runs (le:α->α->Bool) (n:Nat) (l:List α):Prop:=∀ k,((l.drop (n*k)).take n).Pairwise fun a b=>le a b=true
theorem runs_one (l:List α):Runs le 1 l:=fun k=>by
 rcases (l.drop (1*k)) with _ | ⟨x,r⟩
 ·simp
 ·simp
theorem runs_all {n:Nat} {l:List α} (h:Runs le n l) (hl:l.length<=n):l.Pairwise fun a b=>le a b=true:=by
 have:=h 0
 rw [Nat.mul_zero,List.drop_zero,List.take_of_length_le hl] at this
 exact this
theorem runs_snoc {b k:Nat} {n0 s:List α} (h:Runs le b n0) (hl:n0.length=b*k) (hs:s.Pairwise fun a b=>le a b=true) (hsl:s.length<=b):Runs le b (n0 ++ s):=fun j=>by
 rcases Nat.lt_trichotomy j k with hj | hj | hj
 ·have h1:b*j+b<=n0.length:=by
   rw [hl,<-Nat.mul_succ]
   exact Nat.mul_le_mul_left b hj
  rw [List.drop_append_of_le_length (by omega),List.take_append_of_le_length (by rw [List.length_drop];omega)]
  exact h j
 ·subst hj
  rw [<-hl,List.drop_left,List.take_of_length_le hsl]
  exact hs
 ·have h1:n0.length+s.length<=b*j:=by
   have:b*(k+1)<=b*j:=Nat.mul_le_mul_left b hj
   rw [Nat.mul_succ] at this
   omega
  rw [List.drop_of_length_le (by simp;omega)]
  simp
end
def kle (x y:Int×Int):Bool:=decide (y.1<=x.1)
theorem kle_trans (a b c:Int×Int) (h1:kle a b=true) (h2:kle b c=true):kle a c=true:=by
 simp only [kle,decide_eq_true_eq] at *
 omega
theorem kle_total (a b:Int×Int):(kle a b || kle b a)=true:=by
 simp only [kle,Bool.or_eq_true,decide_eq_true_eq]
 omega
theorem mrg_nil_left {α:Type} (le:α->α->Bool) (ys:List α):List.merge [] ys le=ys:=by simp
theorem mrg_nil_right {α:Type} (le:α->α->Bool) (xs:List α):List.merge xs [] le=xs:=by simp
theorem mrg_cons {α:Type} (le:α->α->Bool) (x y:α) (xs ys:List α):List.merge (x :: xs) (y :: ys) le=if le x y then x :: List.merge xs (y :: ys) le else y :: List.merge (x :: xs) ys le:=by
 rw [List.merge]
theorem mrg_sorted {xs ys:List (Int×Int)} (h1:xs.Pairwise fun a b=>kle a b=true) (h2:ys.Pairwise fun a b=>kle a b=true):(List.merge xs ys kle).Pairwise fun a b=>kle a b=true:=
 List.pairwise_merge kle_trans kle_total xs ys h1 h2
theorem mrg_perm (xs ys:List (Int×Int)):(List.merge xs ys kle).Perm (xs ++ ys):=List.merge_perm_append kle
def addLast (left:List (Int×Int)) (x:Int×Int):List (Int×Int):=
 match left.getLast? with
 | some z=>if z.1=x.1 then left.dropLast ++ [(z.1,z.2+x.2)] else left ++ [x]
 | none=>[x]
def cutLast (l:List (Int×Int)):List (Int×Int):=
 match l.getLast? with
 | some z=>if z.2=0 then l.dropLast else l
 | none=>l
def combR (left:List (Int×Int)):List (Int×Int)->List (Int×Int)
 | []=>left
 | x :: r=>combR (if r.head?.map (·.1)=some x.1 then addLast left x else cutLast (addLast left x)) r
theorem co_pair (q:Int) (x:Int×Int):co q [x]=if x.1=q then x.2 else 0:=by simp [co]
theorem addLast_co (q:Int) (left:List (Int×Int)) (x:Int×Int):co q (addLast left x)=co q left+co q [x]:=by
 rcases List.eq_nil_or_concat left with rfl | ⟨l,z,rfl⟩
 ·simp [addLast,co]
 ·simp only [addLast,List.concat_eq_append,List.getLast?_append,List.getLast?_singleton,Option.some_or,List.dropLast_concat]
  split
  ·rename_i e
   rw [co_append,co_append,co_pair,co_pair,co_pair]
   simp only
   rw [e]
   split <;> omega
  ·rw [co_append (l:=l ++ [z])]
theorem cutLast_co (q:Int) (l:List (Int×Int)):co q (cutLast l)=co q l:=by
 rcases List.eq_nil_or_concat l with rfl | ⟨l,z,rfl⟩
 ·simp [cutLast]
 ·simp only [cutLast,List.concat_eq_append,List.getLast?_append,List.getLast?_singleton,Option.some_or,List.dropLast_concat]
  split
  ·rename_i e
   rw [co_append,co_pair,e]
   simp
  ·rfl
theorem combR_co (q:Int):∀ (r left:List (Int×Int)),co q (combR left r)=co q left+co q r
 | [],left=>by simp [combR,co]
 | x :: r,left=>by
  simp only [combR]
  rw [combR_co q r]
  have hx:co q (x :: r)=co q [x]+co q r:=by simp [co]
  split
  ·rw [addLast_co,hx,Int.add_assoc]
  ·rw [cutLast_co,addLast_co,hx,Int.add_assoc]
theorem desc_snoc {l:List (Int×Int)} {x:Int×Int} (h:Desc ilt l) (hx:∀ y∈l,x.1 < y.1):Desc ilt (l ++ [x]):=by
 unfold Desc at *
 rw [List.pairwise_append]
 refine ⟨h,List.pairwise_singleton _ _,fun a ha b hb=>?_⟩
 simp only [List.mem_singleton] at hb
 subst hb
 simpa [ilt] using hx a ha
def CombP (left r:List (Int×Int)):Prop:=
 Desc ilt left/\((Nz left/\∀ x∈left,∀ y∈r,y.1 < x.1) \/
  ∃ l z x r',left=l ++ [z]/\r=x :: r'/\z.1=x.1/\Nz l/\∀ a∈l,∀ y∈r,y.1 < a.1)
theorem combR_spec:∀ (r left:List (Int×Int)),(r.Pairwise fun a b=>kle a b=true)->CombP left r->Desc ilt (combR left r)/\Nz (combR left r)
 | [],left,_,h=>by
  refine ⟨h.1,?_⟩
  rcases h.2 with h2 | ⟨l,z,x,r',_,e,_⟩
  ·exact h2.1
  ·simp at e
 | x :: r,left,hs,h=>by
  have hs1:=List.pairwise_cons.1 hs
  have hle:∀ y∈r,y.1<=x.1:=fun y hy=>by simpa [kle] using hs1.1 y hy
  -- the list behind addLast ends in the key of x
  have key:∃ l z,addLast left x=l ++ [z]/\z.1=x.1/\Nz l/\Desc ilt (l ++ [z])/\∀ a∈l,x.1 < a.1:=by
   rcases h.2 with ⟨h1,h2⟩ | ⟨l,z,x',r',e1,e2,e3,h1,h2⟩
   ·refine ⟨left,x,?_,rfl,h1,desc_snoc h.1 fun y hy=>h2 y hy x (by simp),fun a ha=>h2 a ha x (by simp)⟩
    unfold addLast
    split
    ·rename_i z hz
     have hm:=List.mem_of_getLast? hz
     have:=h2 z hm x (by simp)
     rw [if_neg (by omega)]
    ·rename_i hz
     have:left=[]:=by simpa using hz
     simp [this]
   ·injection e2 with e2 e4
    subst e2;subst e1
    refine ⟨l,(z.1,z.2+x.2),?_,e3,h1,?_,fun a ha=>h2 a ha x (by simp)⟩
    ·simp [addLast,e3]
    ·refine desc_snoc ?_ fun y hy=>?_
     ·have:=h.1
      unfold Desc at this ⊢
      rw [List.pairwise_append] at this
      exact this.1
     ·have:=h2 y hy x (by simp)
      simp only
      omega
  obtain ⟨l,z,e,ez,hn,hd,hlt⟩:=key
  simp only [combR]
  split
  ·rename_i hh
   rw [e]
   refine combR_spec r _ hs1.2 ⟨hd,.inr ?_⟩
   cases r with
   | nil=>simp at hh
   | cons y r=>
    simp only [List.head?_cons,Option.map_some,Option.some.injEq] at hh
    exact ⟨l,z,y,r,rfl,rfl,by rw [ez,hh],hn,fun a ha w hw=>by have:=hlt a ha;have:=hle w hw;omega⟩
  ·rename_i hh
   have hr:∀ y∈r,y.1 < x.1:=by
    cases r with
    | nil=>intro y hy;simp at hy
    | cons y r=>
     simp only [List.head?_cons,Option.map_some,Option.some.injEq] at hh
     have h3:=(List.pairwise_cons.1 hs1.2).1
     have h4:=hle y (by simp)
     intro w hw
     rcases List.mem_cons.1 hw with rfl | hw
     ·omega
     ·have:w.1<=y.1:=by simpa [kle] using h3 w hw
      omega
   rw [e]
   have hc:cutLast (l ++ [z])=if z.2=0 then l else l ++ [z]:=by simp [cutLast]
   rw [hc]
   split
   ·refine combR_spec r _ hs1.2 ⟨?_,.inl ⟨hn,fun a ha y hy=>by have:=hlt a ha;have:=hr y hy;omega⟩⟩
    unfold Desc at hd ⊢
    rw [List.pairwise_append] at hd
    exact hd.1
   ·rename_i hz
    refine combR_spec r _ hs1.2 ⟨hd,.inl ⟨fun a ha=>?_,fun a ha y hy=>?_⟩⟩
    ·rcases List.mem_append.1 ha with ha | ha
     ·exact hn a ha
     ·simp only [List.mem_singleton] at ha
      rw [ha];exact hz
    ·rcases List.mem_append.1 ha with ha | ha
     ·have:=hlt a ha;have:=hr y hy;omega
     ·simp only [List.mem_singleton] at ha
      rw [ha,ez]
      exact hr y hy
theorem combR_nf {out l:List (Int×Int)} (hp:out.Perm l) (hs:out.Pairwise fun a b=>kle a b=true):combR [] out=nf ilt l:=by
 obtain ⟨h1,h2⟩:=combR_spec out [] hs ⟨List.Pairwise.nil,.inl ⟨by intro x hx;simp at hx,by simp⟩⟩
 refine nf_unique ilt_ord h1 h2 fun k=>?_
 rw [combR_co,co_perm k hp]
 simp [co]
def absL (l:List (Int×Int)):Nat:=(l.map fun x=>x.2.natAbs).sum
theorem absL_append (l r:List (Int×Int)):absL (l ++ r)=absL l+absL r:=by simp [absL]
theorem absL_perm {l r:List (Int×Int)} (h:l.Perm r):absL l=absL r:=(h.map _).sum_nat
theorem absL_mem {l:List (Int×Int)} {x:Int×Int} (h:x∈l):x.2.natAbs<=absL l:=by
 induction l with
 | nil=>simp at h
 | cons y l ih=>
  simp only [absL,List.map_cons,List.sum_cons]
  rcases List.mem_cons.1 h with rfl | h
  ·omega
  ·have:=ih h
   unfold absL at this
   omega
theorem absL_addLast (left:List (Int×Int)) (x:Int×Int):absL (addLast left x)<=absL left+x.2.natAbs:=by
 rcases List.eq_nil_or_concat left with rfl | ⟨l,z,rfl⟩
 ·simp [addLast,absL]
 ·simp only [addLast,List.concat_eq_append,List.getLast?_append,List.getLast?_singleton,Option.some_or,List.dropLast_concat]
  split
  ·rw [absL_append,absL_append]
   simp only [absL,List.map_cons,List.map_nil,List.sum_cons,List.sum_nil]
   omega
  ·rw [absL_append]
   simp [absL]
theorem absL_cutLast (l:List (Int×Int)):absL (cutLast l)<=absL l:=by
 rcases List.eq_nil_or_concat l with rfl | ⟨l,z,rfl⟩
 ·simp [cutLast]
 ·simp only [cutLast,List.concat_eq_append,List.getLast?_append,List.getLast?_singleton,Option.some_or,List.dropLast_concat]
  split
  ·rw [absL_append];omega
  ·exact Nat.le_refl _
end Go.Proofs.Ytfcgcgmleogamaa.Ab
namespace Go.Proofs.Ytfcgcgmleogamaa.Ab
open Go
set_option maxRecDepth 10000
set_option maxHeartbeats 2000000
def sgm (out:List (Int×Int)) (a b:Nat):List (Int×Int):=(out.drop a).take (b - a)
theorem sgm_cons {out:List (Int×Int)} {a b:Nat} (h:a < b) (h2:a < out.length):sgm out a b=out[a] :: sgm out (a+1) b:=by
 unfold sgm
 rw [List.drop_eq_getElem_cons h2,show b - a=(b - (a+1))+1 by omega,List.take_succ_cons]
theorem sgm_nil {out:List (Int×Int)} {a b:Nat} (h:b<=a):sgm out a b=[]:=by
 unfold sgm
 rw [show b - a=0 by omega,List.take_zero]
theorem sgm_runs {out:List (Int×Int)} {size at_ k b:Nat} (hr:Runs kle size out) (ha:at_=size*k) (hb:b=min (at_+size) out.length):(sgm out at_ b).Pairwise fun a b=>kle a b=true:=by
 have:=hr k
 rw [<-ha] at this
 have e:sgm out at_ b=(out.drop at_).take size:=by
  unfold sgm
  rw [hb]
  rcases Nat.le_total (at_+size) out.length with h | h
  ·rw [Nat.min_eq_left h,show at_+size - at_=size by omega]
  ·rw [Nat.min_eq_right h,List.take_of_length_le (by simp),List.take_of_length_le (by simp;omega)]
 rw [e]
 exact this
theorem sgm_take {out:List (Int×Int)} {a b c:Nat} (h1:a<=b) (h2:b<=c):out.take a ++ (sgm out a b ++ sgm out b c)=out.take c:=by
 unfold sgm
 have e1:out.take b=out.take a ++ (out.drop a).take (b - a):=by
  conv=>lhs;rw [show b=a+(b - a) by omega,List.take_add]
 have e2:out.take c=out.take b ++ (out.drop b).take (c - b):=by
  conv=>lhs;rw [show c=b+(c - b) by omega,List.take_add]
 rw [e2,e1,List.append_assoc]
theorem getD_at {out:List (Int×Int)} {i:Nat} (h:i < out.length):out.getD i (0,0)=out[i]:=by
 simp [List.getD_eq_getElem?_getD,h]
theorem tkM {G:List (Int×Int)} {m N:Nat} (hN:G.length=N) (hm:m<=N):takeCells 2 m N (rows gM G)=rows gM (G.take m):=by
 unfold takeCells
 split
 ·rename_i e
  rw [e,<-hN,List.take_length]
 ·exact rows_take gM_two G m
theorem head_next {out:List (Int×Int)} {k:Nat} (hk:k < out.length):((out.drop (k+1)).head?.map (·.1)=some out[k].1)↔¬ (k+1=out.length\/(out.getD (k+1) (0,0)).1≠(out.getD k (0,0)).1):=by
 rw [List.head?_drop,getD_at hk]
 rcases Nat.lt_or_ge (k+1) out.length with h | h
 ·rw [getD_at h,List.getElem?_eq_getElem h]
  simp
  omega
 ·rw [List.getElem?_eq_none h]
  simp
  omega
theorem addLast_same {l:List (Int×Int)} {q:Nat} {x:Int×Int} (hq:q < l.length) (e:l[q].1=x.1):addLast (l.take (q+1)) x=(l.set q (l[q].1,l[q].2+x.2)).take (q+1):=by
 have h1:(l.set q (l[q].1,l[q].2+x.2)).take (q+1)=l.take q ++ [(l[q].1,l[q].2+x.2)]:=by
  rw [List.take_succ_eq_append_getElem (by simpa using hq),List.getElem_set_self,List.take_set_of_le (Nat.le_refl q)]
 rw [h1,List.take_succ_eq_append_getElem hq]
 unfold addLast
 rw [show (l.take q ++ [l[q]]).getLast? = some l[q] by simp only [List.getLast?_append,List.getLast?_singleton,Option.some_or]]
 simp only [if_pos e,List.dropLast_concat]
theorem addLast_new {l:List (Int×Int)} {m:Nat} {x:Int×Int} (hm:m<=l.length) (e:¬ (0 < m/\(l.getD (m - 1) (0,0)).1=x.1)):addLast (l.take m) x=l.take m ++ [x]:=by
 rcases Nat.eq_zero_or_pos m with rfl | h
 ·simp [addLast]
 ·obtain ⟨q,rfl⟩:∃ q,m=q+1:=⟨m - 1,by omega⟩
  have hq:q < l.length:=by omega
  rw [show q+1 - 1=q by omega,getD_at hq] at e
  rw [List.take_succ_eq_append_getElem hq]
  unfold addLast
  simp only [List.getLast?_append,List.getLast?_singleton,Option.some_or]
  rw [if_neg (fun h=>e ⟨by omega,h⟩)]
theorem cutLast_at {l:List (Int×Int)} {q:Nat} (hq:q < l.length):cutLast (l.take (q+1))=if l[q].2=0 then l.take q else l.take (q+1):=by
 have h1:=List.take_succ_eq_append_getElem hq
 unfold cutLast
 rw [h1,show (l.take q ++ [l[q]]).getLast? = some l[q] by simp only [List.getLast?_append,List.getLast?_singleton,Option.some_or]]
 simp only [List.dropLast_concat]
theorem ofL_pad3 (a b c:Nat×FV):ofL [a,b,c]=ofL [a,b,c,(0,.dead)]:=by
 funext t
 simp only [ofL]
 split
 ·rfl
 ·split
  ·rfl
  ·split
   ·rfl
   ·split <;> rfl
theorem pair_eta (x:Int×Int):(x.1,x.2)=x:=rfl
theorem spec_l2Gather_c (l:List (Int×Int)) (hl:l.length<=1000000) (hc:absL l < 4611686018427387904):ACalls Try.prog F.spec_l2Gather [.d (.sh 2 l.length (rows gM l))] [] true (fun outs res=>outs=[]/\res=[.one (.ow 2 (nf ilt l).length (rows gM (nf ilt l)))]):=by
 refine ACalls.of_body (C:=C.spec_l2Gather) (n:=Try.f184.ntmps) tabT folT Try.func184 rfl (by kernel_rfl) rfl (Nat.le_of_ble_eq_true rfl) (by decide) (by kernel_rfl) (by kernel_rfl) rfl (by simp) (by simp) ?_
 simp only [Try.f184]
 refine wseq ?_
 refine wreg fun K hK=>?_
 simp [C.spec_l2Gather]
 refine hK _ ?_;clear hK K
 show AWp _ _ _ _ _
 refine wseq ?_
 refine wreg fun K hK=>?_
 simp [C.spec_l2Gather,show l.length*16<=140737488355328 by omega]
 refine hK _ ?_;clear hK K
 show AWp _ _ _ _ _
 refine wseq ?_
 refine wseq ?_
 refine wreg fun K hK=>?_
 simp [C.spec_l2Gather]
 refine hK _ ?_;clear hK K
 show AWp _ _ _ _ _
 refine wblock ?_
 refine wloop (fun x:Nat×List (Int×Int)=>⟨ofL [(3,.al (3,0) [] 0 l.length),(4,.int x.1)],ofRO [((3,0),some (.ow 2 l.length (rows gM x.2)))]⟩) (fun x=>x.2.Perm l/\Runs kle x.1 x.2/\1<=x.1/\x.1<=2*l.length+1) (fun x=>2*l.length+1 - x.1) (1,l) (by simp [C.spec_l2Gather]) ⟨List.Perm.refl _,runs_one _,by simp,by dsimp only;omega⟩ ?_
 intro x1 hx1 R1 hR1
 obtain ⟨size,out⟩:=x1
 obtain ⟨hperm,hruns,hs1,hs2⟩:=hx1
 dsimp only at hperm hruns hs1 hs2 ⊢
 have hol:out.length=l.length:=hperm.length_eq
 refine wseq ?_
 refine wseq ?_
 refine wreg fun K hK=>?_
 simp [C.spec_l2Gather]
 refine hK _ ?_;clear hK K
 show AWp _ _ _ _ _
 refine wcond _ rfl (fun hc1=>?_) (fun hc1=>?_)
 ·have hlt:size < l.length:=by have:=d_t hc1;omega
  refine wskip ?_
  show AWp _ _ _ _ _
  refine wseq ?_
  refine wblock ?_
  refine wseq ?_
  refine wreg fun K hK=>?_
  simp [C.spec_l2Gather,show (16:Int)*l.length<=281474976710656 by omega,show (l.length:Int)<=281474976710656 by omega]
  refine hK _ ?_;clear hK K
  show AWp _ _ _ _ _
  refine wseq ?_
  refine wseq ?_
  refine wreg fun K hK=>?_
  simp [C.spec_l2Gather]
  refine hK _ ?_;clear hK K
  show AWp _ _ _ _ _
  refine wblock ?_
  refine wloop (fun x:Nat×List (Int×Int)×Nat=>⟨ofL [(3,.al (3,0) [] 0 l.length),(4,.int size),(5,.al (5,0) [] 0 x.2.2),(6,.int x.1)],ofRO [((3,0),some (.ow 2 l.length (rows gM out))),((5,0),some (.ow 2 x.2.2 (rows gM x.2.1)))]⟩) (fun x=>(∃ k,x.1=2*size*k)/\x.2.2=x.2.1.length/\x.2.1.length=min x.1 l.length/\x.2.1.Perm (out.take x.1)/\Runs kle (2*size) x.2.1/\x.1<=l.length+2*size) (fun x=>l.length+2*size - x.1) (0,[],0) (by simp [C.spec_l2Gather,rows]) ⟨⟨0,rfl⟩,rfl,by simp,by simp,fun k=>by simp,by dsimp only;omega⟩ ?_
  intro x2 hx2 R2 hR2
  obtain ⟨at_,next,m⟩:=x2
  obtain ⟨⟨k,hk⟩,hm,hnl,hnp,hnr,hab⟩:=hx2
  dsimp only at hk hm hnl hnp hnr hab ⊢
  refine wseq ?_
  refine wseq ?_
  refine wreg fun K hK=>?_
  simp [C.spec_l2Gather]
  refine hK _ ?_;clear hK K
  show AWp _ _ _ _ _
  refine wcond _ rfl (fun hc2=>?_) (fun hc2=>?_)
  ·have hat:at_ < l.length:=by have:=d_t hc2;omega
   have hnl2:next.length=at_:=by omega
   obtain ⟨mid,hmid⟩:∃ mid,mid=min (at_+size) l.length:=⟨_,rfl⟩
   obtain ⟨en,hen⟩:∃ en,en=min (at_+2*size) l.length:=⟨_,rfl⟩
   have hmid2:min ((at_:Int)+size) l.length=(mid:Int):=by omega
   have hen2:min ((at_:Int)+2*size) l.length=(en:Int):=by omega
   refine wskip ?_
   show AWp _ _ _ _ _
   refine wseq ?_
   refine wblock ?_
   refine wseq ?_
   refine wreg fun K hK=>?_
   simp [C.spec_l2Gather]
   refine hK _ ?_;clear hK K
   show AWp _ _ _ _ _
   refine wseq ?_
   refine wreg fun K hK=>?_
   simp [C.spec_l2Gather]
   rw [wrapOk (x:=(at_:Int)+size) (by omega) (by omega),hmid2]
   refine hK _ ?_;clear hK K
   show AWp _ _ _ _ _
   refine wseq ?_
   refine wreg fun K hK=>?_
   simp [C.spec_l2Gather]
   refine hK _ ?_;clear hK K
   show AWp _ _ _ _ _
   refine wseq ?_
   refine wreg fun K hK=>?_
   simp [C.spec_l2Gather]
   rw [wrapOk (x:=2*(size:Int)) (by omega) (by omega),wrapOk (x:=(at_:Int)+2*size) (by omega) (by omega),hen2]
   refine hK _ ?_;clear hK K
   show AWp _ _ _ _ _
   refine wblock ?_
   refine wloop (fun x:Nat×Nat×List (Int×Int)×Nat=>⟨ofL [(3,.al (3,0) [] 0 l.length),(4,.int size),(5,.al (5,0) [] 0 x.2.2.2),(6,.int at_),(7,.int x.1),(8,.int mid),(9,.int x.2.1),(10,.int en)],ofRO [((3,0),some (.ow 2 l.length (rows gM out))),((5,0),some (.ow 2 x.2.2.2 (rows gM x.2.2.1)))]⟩) (fun x=>x.1<=mid/\x.2.1<=en/\mid<=x.2.1/\x.2.2.2=x.2.2.1.length/\x.2.2.2<=3000000 - ((mid - x.1)+(en - x.2.1))/\∃ M,x.2.2.1=next ++ M/\M ++ List.merge (sgm out x.1 mid) (sgm out x.2.1 en) kle=List.merge (sgm out at_ mid) (sgm out mid en) kle) (fun x=>(mid - x.1)+(en - x.2.1)) (at_,mid,next,m) (by simp [C.spec_l2Gather]) ⟨by dsimp only;omega,by dsimp only;omega,by dsimp only;omega,hm,by dsimp only;omega,[],by simp,by simp⟩ ?_
   intro x3 hx3 R3 hR3
   obtain ⟨i,j,nx,mm⟩:=x3
   obtain ⟨h1,h2,h3,h4,h5,M,h6,h7⟩:=hx3
   dsimp only at h1 h2 h3 h4 h5 h6 h7 ⊢
   refine wseq ?_
   refine wseq ?_
   refine wreg fun K hK=>?_
   have hJ:K ⟨ofL [(3,.al (3,0) [] 0 l.length),(4,.int size),(5,.al (5,0) [] 0 mm),(6,.int at_),(7,.int i),(8,.int mid),(9,.int j),(10,.int en),(55,.bool (decide (i < mid\/j < en)))],ofRO [((3,0),some (.ow 2 l.length (rows gM out))),((5,0),some (.ow 2 mm (rows gM nx)))]⟩:=by
    refine hK _ ?_;clear hK K
    show AWp _ _ _ _ _
    refine wcond _ rfl (fun hc3=>?_) (fun hc3=>?_)
    ·have hij:=d_t hc3
     refine wskip ?_
     show AWp _ _ _ _ _
     refine wblock ?_
     refine wseq ?_
     refine wdrawI [(true,0),(true,1),(true,2),(true,3),(true,4),(true,5),(true,6),(true,7),(true,8),(true,9),(true,10),(true,11),(true,12),(true,13),(true,14),(true,15),(true,16),(true,17),(true,18),(true,19),(true,20)] ⟨by kernel_rfl,by kernel_rfl⟩ ([0,1,2,3,4,5,6,7,8,9,10,11,12,13,14,15,16,17,18,19,20]) rfl fun K hK=>?_
     have hJ:K ⟨ofL [(3,.al (3,0) [] 0 l.length),(4,.int size),(5,.al (5,0) [] 0 mm),(6,.int at_),(7,.int i),(8,.int mid),(9,.int j),(10,.int en),(76,.bool (decide (en<=j\/(i < mid/\(out.getD j (0,0)).1<=(out.getD i (0,0)).1))))],ofRO [((3,0),some (.ow 2 l.length (rows gM out))),((5,0),some (.ow 2 mm (rows gM nx)))]⟩:=by
      refine hK _ ?_;clear hK K
      show AWp _ _ _ _ _
      refine wcond _ rfl (fun hc4=>?_) (fun hc4=>?_)
      ·have hcc:=d_t hc4
       have him:i < mid:=by omega
       have hi:i < out.length:=by omega
       have hi':i < l.length:=by omega
       refine wseq ?_
       refine wreg fun K hK=>?_
       simp [C.spec_l2Gather,hi',gM_0 hi,gM_1 hi,gM_snoc,pair_eta,show (mm+1)*16<=140737488355328 by omega]
       refine hK _ ?_;clear hK K
       show AWp _ _ _ _ _
       refine wreg fun K hK=>?_
       simp [C.spec_l2Gather,wrap_succ (show i < 4611686018427387904 by omega)]
       refine hK _ ?_;clear hK K
       simp [C.spec_l2Gather]
       refine hR3 (i+1,j,_,mm+1) ⟨him,h2,h3,by dsimp only;rw [h4];simp,by dsimp only;omega,M ++ [out[i]],by dsimp only;rw [h6,List.append_assoc],?_⟩ (by dsimp only;omega)
       dsimp only
       rw [<-h7,List.append_assoc,sgm_cons him hi]
       rcases Nat.lt_or_ge j en with hje | hje
       ·have hj:j < out.length:=by omega
        rw [sgm_cons hje hj,mrg_cons]
        have hk':kle out[i] out[j]=true:=by
         rcases hcc with hcc | ⟨_,hcc⟩
         ·omega
         ·rw [getD_at hi,getD_at hj] at hcc
          simpa [kle] using hcc
        rw [if_pos hk']
        rfl
       ·rw [sgm_nil hje,mrg_nil_right,mrg_nil_right]
        rfl
      ·have hcc:=d_f hc4
       have hje:j < en:=by omega
       have hj:j < out.length:=by omega
       have hj':j < l.length:=by omega
       refine wseq ?_
       refine wreg fun K hK=>?_
       simp [C.spec_l2Gather,hj',gM_0 hj,gM_1 hj,gM_snoc,pair_eta,show (mm+1)*16<=140737488355328 by omega]
       refine hK _ ?_;clear hK K
       show AWp _ _ _ _ _
       refine wreg fun K hK=>?_
       simp [C.spec_l2Gather,wrap_succ (show j < 4611686018427387904 by omega)]
       refine hK _ ?_;clear hK K
       simp [C.spec_l2Gather]
       refine hR3 (i,j+1,_,mm+1) ⟨h1,hje,by dsimp only;omega,by dsimp only;rw [h4];simp,by dsimp only;omega,M ++ [out[j]],by dsimp only;rw [h6,List.append_assoc],?_⟩ (by dsimp only;omega)
       dsimp only
       rw [<-h7,List.append_assoc,sgm_cons hje hj]
       rcases Nat.lt_or_ge i mid with him | him
       ·have hi:i < out.length:=by omega
        rw [sgm_cons him hi,mrg_cons]
        have hk':¬ kle out[i] out[j]=true:=by
         intro hk'
         refine hcc (.inr ⟨him,?_⟩)
         rw [getD_at hi,getD_at hj]
         simpa [kle] using hk'
        rw [if_neg hk']
        rfl
       ·rw [sgm_nil him,mrg_nil_left,mrg_nil_left]
        rfl
     clear hK
     by_cases ha:en<=j
     ·refine oEn fun L hL=>?_
      simp [C.spec_l2Gather,ha]
      refine hL _ ?_;clear hL L
      simp [C.spec_l2Gather,ha]
      refine cast (congrArg K ?_) hJ
      simp [ha]
     ·by_cases hb:i < mid
      ·have hi:i < out.length:=by omega
       have hj:j < out.length:=by omega
       have hi':i < l.length:=by omega
       have hj':j < l.length:=by omega
       refine oEn fun L hL=>?_
       simp [C.spec_l2Gather,hi',hj',gM_0 hi,gM_0 hj,ha,hb]
       refine hL _ ?_;clear hL L
       simp [C.spec_l2Gather,hi',hj',gM_0 hi,gM_0 hj,ha,hb]
       refine cast (congrArg K ?_) hJ
       simp [List.getD_eq_getElem?_getD,hi,hj,ha,hb]
      ·refine oEn fun L hL=>?_
       simp [C.spec_l2Gather,ha,hb]
       refine hL _ ?_;clear hL L
       simp [C.spec_l2Gather,ha,hb]
       refine cast (congrArg K ?_) hJ
       simp [ha,hb]
    ·have hij:=d_f hc3
     have ei:mid<=i:=by omega
     have ej:en<=j:=by omega
     rw [sgm_nil ei,sgm_nil ej,mrg_nil_left,List.append_nil] at h7
     refine wexit ?_
     show AWp _ _ _ _ _
     refine wreg fun K hK=>?_
     simp [C.spec_l2Gather]
     rw [wrapOk (x:=2*(size:Int)) (by omega) (by omega),wrapOk (x:=(at_:Int)+2*size) (by omega) (by omega)]
     refine hK _ ?_;clear hK K
     have hA:(sgm out at_ mid).Pairwise fun a b=>kle a b=true:=sgm_runs (k:=2*k) hruns (by rw [hk];rw [Nat.mul_comm 2 size,Nat.mul_assoc]) (by rw [hmid,hol])
     have hB:(sgm out mid en).Pairwise fun a b=>kle a b=true:=by
      rcases Nat.le_total (at_+size) l.length with hq | hq
      ·have e1:mid=at_+size:=by omega
       exact sgm_runs (k:=2*k+1) hruns (by rw [e1,hk,Nat.mul_succ,Nat.mul_comm 2 size,Nat.mul_assoc]) (by rw [hol,hen,e1];congr 1;omega)
      ·rw [sgm_nil (by omega)]
       exact List.Pairwise.nil
     have hM:=mrg_sorted hA hB
     have hMp:=mrg_perm (sgm out at_ mid) (sgm out mid en)
     rw [<-h7] at hM hMp
     have hMl:M.length=en - at_:=by
      have:=hMp.length_eq
      have e2:=congrArg List.length (sgm_take (out:=out) (a:=at_) (b:=mid) (c:=en) (by omega) (by omega))
      simp only [List.length_append,List.length_take] at this e2
      omega
     simp [C.spec_l2Gather]
     rw [show (at_:Int)+2*size=((at_+2*size:Nat):Int) by omega]
     refine hR2 (at_+2*size,nx,mm) ⟨⟨k+1,by dsimp only;rw [hk,Nat.mul_succ]⟩,h4,?_,?_,?_,by dsimp only;omega⟩ (by dsimp only;omega)
     ·dsimp only
      rw [h6,List.length_append,hMl]
      omega
     ·dsimp only
      rw [h6]
      have e3:out.take (at_+2*size)=out.take en:=by
       rw [hen]
       rcases Nat.le_total (at_+2*size) l.length with hq | hq
       ·rw [Nat.min_eq_left hq]
       ·rw [Nat.min_eq_right hq,List.take_of_length_le (by omega),List.take_of_length_le (by omega)]
      rw [e3,<-sgm_take (out:=out) (a:=at_) (b:=mid) (c:=en) (by omega) (by omega)]
      exact hnp.append hMp
     ·dsimp only
      rw [h6]
      exact runs_snoc hnr (by rw [hnl2,hk]) hM (by omega)
   clear hK
   by_cases ha:i < mid
   ·simp [C.spec_l2Gather,ha]
    refine cast (congrArg K ?_) hJ
    simp [ha]
   ·simp [C.spec_l2Gather,ha]
    refine cast (congrArg K ?_) hJ
    simp [ha]
  ·have hat:l.length<=at_:=by have:=d_f hc2;omega
   have hml:m=l.length:=by omega
   refine wexit ?_
   show AWp _ _ _ _ _
   refine wreg fun K hK=>?_
   simp [C.spec_l2Gather]
   refine hK _ ?_;clear hK K
   show AWp _ _ _ _ _
   refine wreg fun K hK=>?_
   simp [C.spec_l2Gather]
   rw [wrapOk (x:=(size:Int)*2) (by omega) (by omega)]
   refine hK _ ?_;clear hK K
   simp [C.spec_l2Gather]
   rw [show (size:Int)*2=((2*size:Nat):Int) by omega,hml]
   refine hR1 (2*size,next) ⟨?_,hnr,by dsimp only;omega,by dsimp only;omega⟩ (by dsimp only;omega)
   dsimp only
   rw [List.take_of_length_le (by omega)] at hnp
   exact hnp.trans hperm
 ·have hlt:l.length<=size:=by have:=d_f hc1;omega
  have hsort:=runs_all hruns (by omega)
  have hnf:=combR_nf hperm hsort
  have habs:=absL_perm hperm
  refine wexit ?_
  show AWp _ _ _ _ _
  refine wseq ?_
  refine wreg fun K hK=>?_
  simp [C.spec_l2Gather]
  refine hK _ ?_;clear hK K
  show AWp _ _ _ _ _
  refine wseq ?_
  refine wseq ?_
  refine wreg fun K hK=>?_
  simp [C.spec_l2Gather]
  refine hK _ ?_;clear hK K
  show AWp _ _ _ _ _
  refine wblock ?_
  refine wloop (fun x:Nat×List (Int×Int)×Nat×Nat=>⟨ofL [(3,.al (3,0) [] 0 l.length),(11,.al (11,0) [] 0 x.2.2.1),(12,.int x.1)],ofRO [((3,0),some (.ow 2 l.length (rows gM out))),((11,0),some (.ow 2 x.2.2.2 (rows gM x.2.1)))]⟩) (fun x=>x.1<=l.length/\x.2.1.length=x.2.2.2/\x.2.2.1<=x.2.2.2/\x.2.2.1<=x.1/\combR (x.2.1.take x.2.2.1) (out.drop x.1)=nf ilt l/\absL (x.2.1.take x.2.2.1)<=absL (out.take x.1)) (fun x=>l.length - x.1) (0,[],0,0) (by simp [C.spec_l2Gather,rows]) ⟨by simp,by simp,by simp,by simp,by simpa using hnf,by simp⟩ ?_
  intro x4 hx4 R4 hR4
  obtain ⟨k,G,m,N⟩:=x4
  obtain ⟨g1,g2,g3,g4,g5,g6⟩:=hx4
  dsimp only at g1 g2 g3 g4 g5 g6 ⊢
  refine wseq ?_
  refine wseq ?_
  refine wreg fun K hK=>?_
  simp [C.spec_l2Gather]
  refine hK _ ?_;clear hK K
  show AWp _ _ _ _ _
  refine wcond _ rfl (fun hc5=>?_) (fun hc5=>?_)
  ·have hk:k < l.length:=by have:=d_t hc5;omega
   have hko:k < out.length:=by omega
   have hokb:(out.take k) ++ [out[k]]=out.take (k+1):=(List.take_succ_eq_append_getElem hko).symm
   have hab1:absL (out.take (k+1))=absL (out.take k)+out[k].2.natAbs:=by rw [<-hokb,absL_append];simp [absL]
   have hab2:absL (out.take (k+1))<=absL l:=by
    rw [<-habs]
    conv=>rhs;rw [<-List.take_append_drop (k+1) out,absL_append]
    omega
   refine wskip ?_
   show AWp _ _ _ _ _
   refine wseq ?_
   refine wblock ?_
   refine wseq ?_
   refine wseq ?_
   refine wdrawI [(true,0),(true,1),(true,2),(true,3),(true,4),(true,5),(true,6),(true,7),(true,8),(true,9),(true,10),(true,11),(true,12),(true,13),(true,14),(true,15),(true,16),(true,17)] ⟨by kernel_rfl,by kernel_rfl⟩ ([0,1,2,3,4,5,6,7,8,9,10,11,12,13,14,15,16,17]) rfl fun K hK=>?_
   have hJ:K ⟨ofL [(3,.al (3,0) [] 0 l.length),(11,.al (11,0) [] 0 m),(12,.int k),(120,.bool (decide (0 < m/\(G.getD (m - 1) (0,0)).1=(out.getD k (0,0)).1)))],ofRO [((3,0),some (.ow 2 l.length (rows gM out))),((11,0),some (.ow 2 N (rows gM G)))]⟩:=by
    refine hK _ ?_;clear hK K
    show AWp _ _ _ _ _
    refine wcondJ (fun σ'=>∃ G' m' N',(G'.length=N'/\m'<=N'/\0 < m'/\m'<=k+1/\G'.take m'=addLast (G.take m) out[k])/\σ'=⟨ofL [(3,.al (3,0) [] 0 l.length),(11,.al (11,0) [] 0 m'),(12,.int k)],ofRO [((3,0),some (.ow 2 l.length (rows gM out))),((11,0),some (.ow 2 N' (rows gM G')))]⟩) _ rfl ?_ (fun hc6 Qc6 hQc6=>?_) (fun hc6 Qc6 hQc6=>?_)
    ·rintro σc6 ⟨G',m',N',⟨f1,f2,f3,f4,f5⟩,rfl⟩
     have habG:absL (G'.take m')<=absL (out.take (k+1)):=by
      have:=absL_addLast (G.take m) out[k]
      rw [f5,hab1]
      omega
     obtain ⟨q,rfl⟩:∃ q,m'=q+1:=⟨m' - 1,by omega⟩
     have hq:q < G'.length:=by omega
     have hqN:q < N':=by omega
     show AWp _ _ _ _ _
     refine wseq ?_
     refine wdrawI [(true,0),(true,1),(true,2),(true,3),(true,4),(true,5),(true,6),(true,7),(true,8),(true,9),(true,10),(true,11),(true,12),(true,13),(true,14),(true,15),(true,16),(true,17),(true,18)] ⟨by kernel_rfl,by kernel_rfl⟩ ([0,1,2,3,4,5,6,7,8,9,10,11,12,13,14,15,16,17,18]) rfl fun K hK=>?_
     have hJ:K ⟨ofL [(3,.al (3,0) [] 0 l.length),(11,.al (11,0) [] 0 (q+1)),(12,.int k),(165,.bool (decide (k+1=l.length\/(out.getD (k+1) (0,0)).1≠(out.getD k (0,0)).1)))],ofRO [((3,0),some (.ow 2 l.length (rows gM out))),((11,0),some (.ow 2 N' (rows gM G')))]⟩:=by
      refine hK _ ?_;clear hK K
      show AWp _ _ _ _ _
      refine wcondJ (fun σ'=>∃ m' t f,(m'<=q+1/\G'.take m'=if (out.drop (k+1)).head?.map (·.1)=some out[k].1 then G'.take (q+1) else cutLast (G'.take (q+1)))/\σ'=⟨ofL [(3,.al (3,0) [] 0 l.length),(11,.al (11,0) [] 0 m'),(12,.int k),(t,f)],ofRO [((3,0),some (.ow 2 l.length (rows gM out))),((11,0),some (.ow 2 N' (rows gM G')))]⟩) _ rfl ?_ (fun hc7 Qc7 hQc7=>?_) (fun hc7 Qc7 hQc7=>?_)
      ·rintro σc7 ⟨m',tt,ff,⟨e1,e2⟩,rfl⟩
       show AWp _ _ _ _ _
       refine wreg fun K hK=>?_
       simp [C.spec_l2Gather,wrap_succ (show k < 4611686018427387904 by omega)]
       refine hK _ ?_;clear hK K
       simp [C.spec_l2Gather]
       refine hR4 (k+1,G',m',N') ⟨hk,f1,by dsimp only;omega,by dsimp only;omega,?_,?_⟩ (by dsimp only;omega)
       ·dsimp only
        rw [e2,f5,<-g5,List.drop_eq_getElem_cons hko]
        rfl
       ·dsimp only
        rw [e2]
        split
        ·exact habG
        ·exact Nat.le_trans (absL_cutLast _) habG
      ·have hcc:=d_t hc7
       have hnx:¬ ((out.drop (k+1)).head?.map (·.1)=some out[k].1):=by rw [head_next hko];rw [hol];exact fun h=>h hcc
       refine wseq ?_
       refine wreg fun K hK=>?_
       simp [C.spec_l2Gather,show ((q:Int) < q+1) by omega,hqN,f1,gM_1 hq,wrap_nat (show q < 4611686018427387904 by omega)]
       refine hK _ ?_;clear hK K
       show AWp _ _ _ _ _
       refine wcond _ rfl (fun hc8=>?_) (fun hc8=>?_)
       ·have hz:G'[q].2=0:=by simpa using hc8
        refine wreg fun K hK=>?_
        simp [C.spec_l2Gather,show ((q:Int)<=q+1) by omega,hqN,wrap_nat (show q < 4611686018427387904 by omega)]
        refine hK _ ?_;clear hK K
        first
         | (rw [ofL_pad3];exact hQc7 _ ⟨q,0,.dead,⟨by omega,by rw [if_neg hnx,cutLast_at hq,if_pos hz]⟩,rfl⟩)
         | exact hQc7 _ ⟨q+1,_,_,⟨by omega,by rw [if_neg hnx,cutLast_at hq,if_neg hz]⟩,rfl⟩
       ·have hz:¬ G'[q].2=0:=by simpa using hc8
        refine wskip ?_
        first
         | (rw [ofL_pad3];exact hQc7 _ ⟨q,0,.dead,⟨by omega,by rw [if_neg hnx,cutLast_at hq,if_pos hz]⟩,rfl⟩)
         | exact hQc7 _ ⟨q+1,_,_,⟨by omega,by rw [if_neg hnx,cutLast_at hq,if_neg hz]⟩,rfl⟩
      ·have hcc:=d_f hc7
       have hnx:(out.drop (k+1)).head?.map (·.1)=some out[k].1:=by rw [head_next hko];rw [hol];exact hcc
       refine wskip ?_
       exact hQc7 _ ⟨q+1,_,_,⟨Nat.le_refl _,by rw [if_pos hnx]⟩,rfl⟩
     clear hK
     by_cases ha:k+1=l.length
     ·refine oEn fun L hL=>?_
      simp [C.spec_l2Gather,wrap_succ (show k < 4611686018427387904 by omega),wrap_nat (show l.length < 4611686018427387904 by omega),show ((k:Int)+1=l.length) by omega,ha]
      refine hL _ ?_;clear hL L
      simp [C.spec_l2Gather,wrap_succ (show k < 4611686018427387904 by omega),wrap_nat (show l.length < 4611686018427387904 by omega),show ((k:Int)+1=l.length) by omega,ha]
      refine cast (congrArg K ?_) hJ
      simp [ha,ha]
     ·have hk1:k+1 < l.length:=by omega
      have hko1:k+1 < out.length:=by omega
      refine oEn fun L hL=>?_
      simp [C.spec_l2Gather,wrap_succ (show k < 4611686018427387904 by omega),wrap_nat (show l.length < 4611686018427387904 by omega),show ¬ ((k:Int)+1=l.length) by omega,show (0<=(k:Int)+1) by omega,show ((k:Int)+1 < l.length) by omega,show ((k:Int)+1).toNat=k+1 by omega,hk1,hk,gM_0 hko1,gM_0 hko,ha]
      refine hL _ ?_;clear hL L
      simp [C.spec_l2Gather,wrap_succ (show k < 4611686018427387904 by omega),wrap_nat (show l.length < 4611686018427387904 by omega),show ¬ ((k:Int)+1=l.length) by omega,show (0<=(k:Int)+1) by omega,show ((k:Int)+1 < l.length) by omega,show ((k:Int)+1).toNat=k+1 by omega,hk1,hk,gM_0 hko1,gM_0 hko,ha]
      refine cast (congrArg K ?_) hJ
      simp [List.getD_eq_getElem?_getD,hko1,hko,ibne,show ¬ (k+1=l.length) by omega,ha]
    ·have hcc:=d_t hc6
     obtain ⟨q,rfl⟩:∃ q,m=q+1:=⟨m - 1,by omega⟩
     have hq:q < G.length:=by omega
     have hqN:q < N:=by omega
     have hek:G[q].1=out[k].1:=by
      have:=hcc.2
      rw [show q+1 - 1=q by omega,getD_at hq,getD_at hko] at this
      exact this
     have hGq:=absL_mem (l:=G.take (q+1)) (x:=G[q]) (by rw [List.take_succ_eq_append_getElem hq];exact List.mem_append_right _ (List.mem_singleton.2 rfl))
     refine wdrawI [(true,0),(true,1),(true,2),(true,3),(true,4),(true,5),(true,6),(true,7),(true,8),(true,9),(true,10),(true,11),(true,12),(true,13),(true,14),(true,15),(true,16),(true,17),(true,18),(false,19)] ⟨by kernel_rfl,by kernel_rfl⟩ ([0,1,2,3,4,5,6,7,8,9,10,11,12,13,14,15,16,17,18,19]) rfl fun K hK=>?_
     refine oEn fun L hL=>?_
     simp [C.spec_l2Gather,show ((q:Int) < q+1) by omega,hqN,g2,hk,gM_1 hq,gM_1 hko,gM_set1 hq,wrap_nat (show q < 4611686018427387904 by omega),wrapOk (x:=G[q].2+out[k].2) (by omega) (by omega)]
     refine hL _ ?_;clear hL L
     simp [C.spec_l2Gather,show ((q:Int) < q+1) by omega,hqN,g2,hk,gM_1 hq,gM_1 hko,gM_set1 hq,wrap_nat (show q < 4611686018427387904 by omega),wrapOk (x:=G[q].2+out[k].2) (by omega) (by omega)]
     refine hK _ ?_;clear hK K
     refine hQc6 _ ⟨_,q+1,N,⟨?_,g3,by omega,by omega,?_⟩,rfl⟩
     ·simpa using g2
     ·exact (addLast_same hq hek).symm
    ·have hcc:=d_f hc6
     have hnew:=addLast_new (l:=G) (m:=m) (x:=out[k]) (by omega) (by rw [getD_at hko] at hcc;exact hcc)
     refine wreg fun K hK=>?_
     simp [C.spec_l2Gather,hk,gM_0 hko,gM_1 hko,tkM g2 g3,gM_snoc,pair_eta,show (m+1)*16<=140737488355328 by omega]
     refine hK _ ?_;clear hK K
     refine hQc6 _ ⟨_,m+1,m+1,⟨?_,Nat.le_refl _,by omega,by omega,?_⟩,rfl⟩
     ·simp
      omega
     ·rw [hnew,List.take_of_length_le (by simp;omega)]
   clear hK
   by_cases ha:0 < m
   ·obtain ⟨q,rfl⟩:∃ q,m=q+1:=⟨m - 1,by omega⟩
    have hq:q < G.length:=by omega
    have hqN:q < N:=by omega
    refine oEn fun L hL=>?_
    simp [C.spec_l2Gather,show ((q:Int) < q+1) by omega,hk,hqN,g2,gM_0 hq,gM_0 hko,wrap_nat (show q < 4611686018427387904 by omega),ha]
    refine hL _ ?_;clear hL L
    simp [C.spec_l2Gather,show ((q:Int) < q+1) by omega,hk,hqN,g2,gM_0 hq,gM_0 hko,wrap_nat (show q < 4611686018427387904 by omega),ha]
    refine cast (congrArg K ?_) hJ
    simp [List.getD_eq_getElem?_getD,hq,hko,ibeq,ha]
   ·refine oEn fun L hL=>?_
    simp [C.spec_l2Gather,ha]
    refine hL _ ?_;clear hL L
    simp [C.spec_l2Gather,ha]
    refine cast (congrArg K ?_) hJ
    simp [ha]
  ·have hk:k=l.length:=by have:=d_f hc5;omega
   have hfin:G.take m=nf ilt l:=by
    rw [<-g5,hk,<-hol,List.drop_length]
    rfl
   have hml:m=(nf ilt l).length:=by rw [<-hfin,List.length_take];omega
   refine wexit ?_
   show AWp _ _ _ _ _
   refine wseq ?_
   refine wreg fun K hK=>?_
   simp [C.spec_l2Gather]
   refine hK _ ?_;clear hK K
   show AWp _ _ _ _ _
   refine wret ?_
   simp [C.spec_l2Gather,tkM g2 g3,hfin]
   exact hml
end Go.Proofs.Ytfcgcgmleogamaa.Ab
namespace Go.Proofs.Ytfcgcgmleogamaa.Ab
open Go
set_option maxRecDepth 10000
set_option maxHeartbeats 2000000
def pM (base:Int) (x y:Int×Int):Int×Int:=(x.1+y.1 - base,x.2*y.2)
def prodM (base:Int) (a b:List (Int×Int)):List (Int×Int):=a.flatMap fun x=>b.map (pM base x)
theorem prodM_step {base:Int} {a b:List (Int×Int)} {i:Nat} (h:i < a.length):prodM base (a.take (i+1)) b=prodM base (a.take i) b ++ b.map (pM base a[i]):=by
 unfold prodM
 rw [List.take_succ_eq_append_getElem h,List.flatMap_append]
 simp
def MonOk (l:List (Int×Int)):Prop:=∀ x∈l,(0<=x.1/\x.1 < 72057594037927936)/\(-1000000<=x.2/\x.2<=1000000)
theorem mul_bd {x y:Int} (hx:-1000000<=x/\x<=1000000) (hy:-1000000<=y/\y<=1000000):-1000000000000<=x*y/\x*y<=1000000000000:=by
 have h1:(x*y).natAbs<=1000000*1000000:=by
  rw [Int.natAbs_mul]
  exact Nat.mul_le_mul (by omega) (by omega)
 omega
theorem absL_le {l:List (Int×Int)} {B:Nat} (h:∀ x∈l,x.2.natAbs<=B):absL l<=l.length*B:=by
 induction l with
 | nil=>simp [absL]
 | cons x l ih=>
  have h1:=h x (by simp)
  have h2:=ih fun y hy=>h y (by simp [hy])
  simp only [absL,List.map_cons,List.sum_cons,List.length_cons,Nat.add_mul,Nat.one_mul] at h2 ⊢
  omega
theorem prodM_len (base:Int) (a b:List (Int×Int)):(prodM base a b).length=a.length*b.length:=by
 unfold prodM
 induction a with
 | nil=>simp
 | cons x a ih=>simp [List.flatMap_cons,ih,Nat.add_mul];omega
theorem prodM_abs {base:Int} {a b:List (Int×Int)} (ha:MonOk a) (hb:MonOk b) (hla:a.length<=600) (hlb:b.length<=600):absL (prodM base a b) < 4611686018427387904:=by
 have h1:absL (prodM base a b)<=(prodM base a b).length*1000000000000:=absL_le fun x hx=>by
  unfold prodM at hx
  obtain ⟨u,hu,hx⟩:=List.mem_flatMap.1 hx
  obtain ⟨v,hv,rfl⟩:=List.mem_map.1 hx
  have:=mul_bd (ha u hu).2 (hb v hv).2
  simp only [pM]
  omega
 rw [prodM_len] at h1
 have h2:a.length*b.length<=600*600:=Nat.mul_le_mul hla hlb
 omega
theorem spec_l2Times_c (a b:List (Int×Int)) (base:Int) (hbase:0<=base/\base < 72057594037927936) (ha:MonOk a) (hb:MonOk b) (hla:a.length<=600) (hlb:b.length<=600):ACalls Try.prog F.spec_l2Times [.d (.sh 2 a.length (rows gM a)),.d (.sh 2 b.length (rows gM b)),.int base] [] true (fun outs res=>outs=[]/\res=[.one (.ow 2 (nf ilt (prodM base a b)).length (rows gM (nf ilt (prodM base a b))))]):=by
 have hab:a.length*b.length<=600*600:=Nat.mul_le_mul hla hlb
 have habz:IntKind.i64.wrap ((a.length:Int)*b.length)=((a.length*b.length:Nat):Int):=by
  rw [show (a.length:Int)*b.length=((a.length*b.length:Nat):Int) by simp,wrapOk (by omega) (by omega)]
 generalize hq:a.length*b.length=q at hab habz
 refine ACalls.of_body (C:=C.spec_l2Times) (n:=Try.f160.ntmps) tabT folT Try.func160 rfl (by kernel_rfl) rfl (Nat.le_of_ble_eq_true rfl) (by decide) (by kernel_rfl) (by kernel_rfl) rfl (by simp) (by simp) ?_
 simp only [Try.f160]
 refine wseq ?_
 refine wreg fun K hK=>?_
 simp [C.spec_l2Times]
 refine hK _ ?_;clear hK K
 show AWp _ _ _ _ _
 refine wseq ?_
 refine wreg fun K hK=>?_
 simp [C.spec_l2Times,habz,show (16:Int)*q<=281474976710656 by omega,show (q:Int)<=281474976710656 by omega]
 refine hK _ ?_;clear hK K
 show AWp _ _ _ _ _
 refine wseq ?_
 refine wseq ?_
 refine wreg fun K hK=>?_
 simp [C.spec_l2Times]
 refine hK _ ?_;clear hK K
 show AWp _ _ _ _ _
 refine wblock ?_
 refine wloop (fun x:Nat×List (Int×Int)×Nat=>⟨ofL [(0,.d (.sh 2 a.length (rows gM a))),(1,.d (.sh 2 b.length (rows gM b))),(2,.int base),(7,.al (7,0) [] 0 x.2.2),(8,.int x.1)],ofRO [((7,0),some (.ow 2 x.2.2 (rows gM x.2.1)))]⟩) (fun x=>x.1<=a.length/\x.2.1=prodM base (a.take x.1) b/\x.2.2=x.2.1.length/\x.2.2<=x.1*600) (fun x=>a.length - x.1) (0,[],0) (by simp [C.spec_l2Times,rows]) (by simp [prodM]) ?_
 intro x1 hx1 R1 hR1
 obtain ⟨i,out,m⟩:=x1
 obtain ⟨hi,hout,hm,hmb⟩:=hx1
 dsimp only at hi hout hm hmb ⊢
 refine wseq ?_
 refine wseq ?_
 refine wreg fun K hK=>?_
 simp [C.spec_l2Times]
 refine hK _ ?_;clear hK K
 show AWp _ _ _ _ _
 refine wcond _ rfl (fun hc1=>?_) (fun hc1=>?_)
 ·have hia:i < a.length:=by have:=d_t hc1;omega
  refine wskip ?_
  show AWp _ _ _ _ _
  refine wseq ?_
  refine wblock ?_
  refine wseq ?_
  refine wreg fun K hK=>?_
  simp [C.spec_l2Times]
  refine hK _ ?_;clear hK K
  show AWp _ _ _ _ _
  refine wblock ?_
  refine wloop (fun x:Nat×List (Int×Int)×Nat=>⟨ofL [(0,.d (.sh 2 a.length (rows gM a))),(1,.d (.sh 2 b.length (rows gM b))),(2,.int base),(7,.al (7,0) [] 0 x.2.2),(8,.int i),(9,.int x.1)],ofRO [((7,0),some (.ow 2 x.2.2 (rows gM x.2.1)))]⟩) (fun x=>x.1<=b.length/\x.2.1=out ++ (b.take x.1).map (pM base a[i])/\x.2.2=x.2.1.length/\x.2.2<=i*600+x.1) (fun x=>b.length - x.1) (0,out,m) (by simp [C.spec_l2Times]) ⟨by simp,by simp,hm,by dsimp only;omega⟩ ?_
  intro x2 hx2 R2 hR2
  obtain ⟨j,o2,m2⟩:=x2
  obtain ⟨hj,ho2,hm2,hm2b⟩:=hx2
  dsimp only at hj ho2 hm2 hm2b ⊢
  refine wseq ?_
  refine wseq ?_
  refine wreg fun K hK=>?_
  simp [C.spec_l2Times]
  refine hK _ ?_;clear hK K
  show AWp _ _ _ _ _
  refine wcond _ rfl (fun hc2=>?_) (fun hc2=>?_)
  ·have hjb:j < b.length:=by have:=d_t hc2;omega
   have hA:=ha _ (List.getElem_mem hia)
   have hB:=hb _ (List.getElem_mem hjb)
   have hAB:=mul_bd hA.2 hB.2
   refine wskip ?_
   show AWp _ _ _ _ _
   refine wseq ?_
   refine wblock ?_
   refine wdrawI [(true,0),(true,1),(true,2),(true,3),(true,4),(true,5),(true,6),(true,7),(true,8),(true,9),(true,10),(true,11),(true,12),(true,13),(true,14),(true,15),(true,16),(true,17),(true,18),(true,19),(true,20),(true,21),(true,22),(true,23),(true,24),(true,25),(false,26),(false,27),(true,28)] ⟨by kernel_rfl,by kernel_rfl⟩ ([0,1,2,3,4,5,6,7,8,9,10,11,12,13,14,15,16,17,18,19,20,21,22,23,24,25,26,27,28]) rfl fun K hK=>?_
   refine oEn fun L hL=>?_
   simp [C.spec_l2Times,hia,hjb,gM_0 hia,gM_1 hia,gM_0 hjb,gM_1 hjb,gM_snoc,wrapOk (x:=a[i].1+b[j].1) (by omega) (by omega),wrapOk (x:=a[i].1+b[j].1 - base) (by omega) (by omega),wrapOk (x:=a[i].2*b[j].2) (by omega) (by omega),show (m2+1)*16<=140737488355328 by omega]
   refine hL _ ?_;clear hL L
   simp [C.spec_l2Times,hia,hjb,gM_0 hia,gM_1 hia,gM_0 hjb,gM_1 hjb,gM_snoc,wrapOk (x:=a[i].1+b[j].1) (by omega) (by omega),wrapOk (x:=a[i].1+b[j].1 - base) (by omega) (by omega),wrapOk (x:=a[i].2*b[j].2) (by omega) (by omega),show (m2+1)*16<=140737488355328 by omega]
   refine hK _ ?_;clear hK K
   show AWp _ _ _ _ _
   refine wreg fun K hK=>?_
   simp [C.spec_l2Times,wrap_succ (show j < 4611686018427387904 by omega)]
   refine hK _ ?_;clear hK K
   simp [C.spec_l2Times]
   refine hR2 (j+1,_,m2+1) ⟨hjb,?_,by dsimp only;rw [hm2];simp,by dsimp only;omega⟩ (by dsimp only;omega)
   dsimp only
   rw [ho2,List.take_succ_eq_append_getElem hjb,List.map_append,List.append_assoc]
   rfl
  ·have hjb:j=b.length:=by have:=d_f hc2;omega
   refine wexit ?_
   show AWp _ _ _ _ _
   refine wreg fun K hK=>?_
   simp [C.spec_l2Times,wrap_succ (show i < 4611686018427387904 by omega)]
   refine hK _ ?_;clear hK K
   simp [C.spec_l2Times]
   refine hR1 (i+1,o2,m2) ⟨hia,?_,hm2,by dsimp only;omega⟩ (by dsimp only;omega)
   dsimp only
   rw [prodM_step hia,<-hout,ho2,hjb,List.take_length]
 ·have hia:i=a.length:=by have:=d_f hc1;omega
  have hfull:out=prodM base a b:=by rw [hout,hia,List.take_length]
  subst hfull
  subst hm
  refine wexit ?_
  show AWp _ _ _ _ _
  refine wseq ?_
  refine wregI ([0,1] ++ ([2])) rfl fun K hK=>?_
  refine oSg fun L hL=>?_
  simp [C.spec_l2Times]
  refine wcall1 (spec_l2Gather_c (prodM base a b) (by omega) (prodM_abs ha hb hla hlb)) (by simp) (by simp) ?_
  simp [C.spec_l2Times]
  refine hL _ ?_;clear hL L
  refine oEn fun L hL=>?_
  simp [C.spec_l2Times]
  refine hL _ ?_;clear hL L
  simp [C.spec_l2Times]
  refine hK _ ?_;clear hK K
  show AWp _ _ _ _ _
  refine wret ?_
  simp [C.spec_l2Times]
end Go.Proofs.Ytfcgcgmleogamaa.Ab
namespace Go.Proofs.Ytfcgcgmleogamaa.Ab
open Go
set_option maxRecDepth 10000
set_option maxHeartbeats 2000000
theorem right_dig {f:Lau} (h:Right f) {n:Nat} (hn:f.v=n):∀ t∈f.ts,t.e.length=n/\Dig t.e/\(∀ x∈t.e,-20<=x/\x<=20)/\(-1000000<=t.c/\t.c<=1000000):=fun t ht=>by
 obtain ⟨h1,_,h2,h3⟩:=h.2.2.1 t ht
 exact ⟨by omega,fun x hx=>by have:=h3 x hx;omega,h3,h2⟩
theorem flatMap_same {α β:Type} {f g:α->List β}:∀ (l:List α),(∀ x∈l,f x=g x)->l.flatMap f=l.flatMap g
 | [],_=>rfl
 | x :: l,h=>by
  simp only [List.flatMap_cons]
  rw [h x (by simp),flatMap_same l fun y hy=>h y (by simp [hy])]
theorem prodL_len (a b:List (List Int×Int)):(prodL a b).length=a.length*b.length:=by
 unfold prodL
 induction a with
 | nil=>simp
 | cons x a ih=>simp [List.flatMap_cons,ih,Nat.add_mul];omega
def oneF (n:Nat):Lau:=⟨n,[⟨List.replicate n 0,1⟩]⟩
theorem oneF_right {n:Nat} (h:1<=n/\n<=8):Right (oneF n):=by
 refine ⟨by simp only [oneF];omega,by simp [oneF],fun t ht=>?_,List.pairwise_singleton _ _⟩
 simp only [oneF,List.mem_singleton] at ht
 subst ht
 exact ⟨by simp [oneF],by simp,by simp,fun x hx=>by have:=List.eq_of_mem_replicate hx;omega⟩
end Go.Proofs.Ytfcgcgmleogamaa.Ab
namespace Go.Proofs.Ytfcgcgmleogamaa.Ab
open Go
set_option maxRecDepth 10000
set_option maxHeartbeats 2000000
end Go.Proofs.Ytfcgcgmleogamaa.Ab
