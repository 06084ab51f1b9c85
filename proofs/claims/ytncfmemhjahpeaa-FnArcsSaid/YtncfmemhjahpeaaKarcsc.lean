/- Steps for proofs of single functions. Rows of cells: lists of structs as trees. What the simplifier may unfold where a function is evaluated. A promise made weaker: empty slices among results and arguments. Matrices, sums, seeds and sessions as trees; numbers written into them one behind the other. From a call's promise to a row: what was there is as it was. Arguments that are read as data: numbers, texts, slices and structs as trees over old blocks. Arguments of this program's laws, read as trees. Sums as lists of keys with numbers: the descending list without zeros is told by the sum that belongs to each key. Division of sums by their greatest terms, over any keys: what it finds, what it keeps, and that it does not matter which of two tests it makes. Sums as linear maps: what a function on keys makes of a sum. Exponents as one number: the code is one to one, keeps the order, and goes with sums. Sums that are right; their coded terms; what products and sums come to. Sums and their values at great numbers: equal values make equal sums. Triangulations of polygons with at most eight vertices: what the kernel counts through. Vectors of vertices from triangle to triangle: determinants of two vectors are lengths. Division finds the factor of a product again, over any keys. Printed by wip/tools/gen.py: the numbers of functions and types, and what lives where. Small functions on numbers and lists of numbers: what they answer. Sums: their size, copies, what is equal, marks. The reference's sums: which are right; codes and their decoding. The reference's coded terms: opened, multiplied, shut. Merging runs sorts; terms of one key that lie together are added. The reference's gathering: terms in order, those of one key added. The reference's products of coded terms. The reference's products and powers of sums. The reference's powers of sums. The program's sums: what is right, keys, comparisons. Keys of the program's sums, and their building. The program's powers of sums, over its products. A map of padded exponents as a sum. The program's products of sums, over the end of a building. Powers of sums: the program's are the reference's, fresh at each call. Seeds and sessions: what is equal, marks. The first seed and the first session, on both sides. Least exponents, denominators, numerators. Division of sums in variables: two ways to test whether to go on lead to the same. Laurent sums: what was multiplied is found again by division; what is divided is multiplied again. Printed by wip/tools/lay.py: the contracts of slices.SortFunc laid at this seat. slices.SortFunc in the calculus: from a contract over worlds to a contract over trees. No condition. -/
import Derived.Test.YtncfmemhjahpeaaKarcsb
import Derived.WalkKit
import Derived.ProofKit
import Derived.OpenShut
import Derived.Test.YtncfmemhjahpeaaProg
import Derived.Test.YtncfmemhjahpeaaKarcsa
import Derived.Shelf.SlLaysF0
import Derived.Shelf.SlSortCmp.InsertionK
import Derived.Shelf.SlSortFuncK.ComposeK
set_option linter.unusedVariables false
set_option linter.unusedSimpArgs false
set_option linter.unusedSectionVars false
namespace Go.Proofs.Ytncfmemhjahpeaa.Ab
open Go
def ints (xs:List Int):List D:=xs.map D.int
section
variable {C:Ctx} {i:Nat} {Q:AEx->St->Prop} {σ:St}
theorem wseq {a b:Code} (h:AWp C a i (AEx.seq (AWp C b i Q) Q) σ):AWp C (.seq a b) i Q σ:=h
def walkCode:List Nat->Code->Code
 | 0 :: p,.seq a _=>walkCode p a
 | 1 :: p,.seq _ b=>walkCode p b
 | 0 :: p,.cond _ a _=>walkCode p a
 | 1 :: p,.cond _ _ b=>walkCode p b
 | 0 :: p,.block _ c=>walkCode p c
 | 0 :: p,.loop c=>walkCode p c
 | _,c=>c
def codeAt (f:Func) (p:List Nat):Code:=match f.body with | some c=>walkCode p c | none=>.skip
theorem wcode {c c':Code} (h:c=c') (hh:AWp C c' i Q σ):AWp C c i Q σ:=h ▸ hh
theorem wst {c:Code} {σ2:St} (h:σ=σ2) (hh:AWp C c i Q σ2):AWp C c i Q σ:=h ▸ hh
theorem wskip (h:Q .normal σ):AWp C .skip i Q σ:=h
theorem wexit {id:Nat} (h:Q (.exit id) σ):AWp C (.exit id) i Q σ:=h
theorem wret (h:Q .ret σ):AWp C .ret i Q σ:=h
theorem wblock {id:Nat} {c:Code} (h:AWp C c id (AEx.block id Q) σ):AWp C (.block id c) i Q σ:=h
theorem wreg {id:Nat} {ops:Array Oper} (h:∀ K:St->Prop,(∀ σ',Q .normal σ'->K σ')->AOps C ops ops.toList σ (fun σ'=>K (norm C (aget [] C.kp id) σ'))):AWp C (.region id ops false) i Q σ:=h _ (fun _ h=>h)
theorem wdraw {id:Nat} {ops:Array Oper} (p:Plan) (hp:p.ok C ops) (h:∀ K:St->Prop,(∀ σ',Q .normal σ'->K σ')->ARun C ops p σ (fun σ'=>K (norm C (aget [] C.kp id) σ'))):AWp C (.region id ops true) i Q σ:=
 ⟨p,hp,h _ (fun _ h=>h)⟩
theorem wcond {c:Operand} {a b:Code} (t:Bool) (hc:opv σ c = .d (.v (.bool t))) (h1:t=true->AWp C a i Q σ) (h2:t=false->AWp C b i Q σ):AWp C (.cond c a b) i Q σ:=⟨t,hc,h1,h2⟩
theorem wloopWW {c:Code} {α:Type} (S:α->St) (J:α->Prop) (μ:α->Nat) (x0:α) (l0:List Wk) (h0:wkAll l0 (norm C (aget [] C.lp i) σ)=some (S x0)) (hJ:J x0)
  (h:∀ x,J x->∀ K:St->Prop,(∀ y,J y->μ y < μ x->K (S y))->AWp C c i (AEx.seq (fun σ'=>∃ l σ1,wkAll l (norm C (aget [] C.lp i) σ')=some σ1/\K σ1) Q) (S x)):AWp C (.loop c) i Q σ:=by
 have hex:∀ τ:St,(∃ x,J x/\τ=S x)->∃ k,(∃ x,J x/\τ=S x/\μ x=k):=fun τ ⟨x,h1,h2⟩=>⟨_,x,h1,h2,rfl⟩
 classical
 let μ':St->Nat:=fun τ=>if h:∃ k,(∃ x,J x/\τ=S x/\μ x=k) then Classical.choose (least h) else 0
 refine ⟨fun τ=>∃ x,J x/\τ=S x,μ',⟨l0,S x0,h0,x0,hJ,rfl⟩,fun τ hτ=>?_⟩
 have e1:μ' τ=Classical.choose (least (hex τ hτ)):=dif_pos (hex τ hτ)
 obtain ⟨⟨x,h1,h2,h3⟩,_⟩:=Classical.choose_spec (least (hex τ hτ))
 have:=h x h1 (fun ξ=>(∃ x,J x/\ξ=S x)/\μ' ξ < μ' τ) fun y hy hlt=>by
  have hy':∃ x,J x/\S y=S x:=⟨y,hy,rfl⟩
  refine ⟨hy',?_⟩
  have e2:μ' (S y)=Classical.choose (least (hex (S y) hy')):=dif_pos (hex (S y) hy')
  rw [e1,e2]
  have:=(Classical.choose_spec (least (hex (S y) hy'))).2 (μ y) ⟨y,hy,rfl,rfl⟩
  omega
 rw [h2]
 rw [h2] at this
 exact this
theorem wloopB {c:Code} {α:Type} (S:α->St) (J:α->Prop) (μ:α->Nat) (x0:α) (l0:List Wk) (h0:wkAll l0 (norm C (aget [] C.lp i) σ)=some (S x0)) (hJ:J x0)
  (h:∀ x,J x->∀ K:St->Prop,(∀ l τ y,wkAll l τ=some (S y)->J y->μ y < μ x->K τ)->AWp C c i (AEx.seq (fun σ'=>K (norm C (aget [] C.lp i) σ')) Q) (S x)):AWp C (.loop c) i Q σ:=
 wloopWW S J μ x0 l0 h0 hJ fun x hx K hK=>h x hx (fun τ=>∃ l σ1,wkAll l τ=some σ1/\K σ1) fun l τ y hl hy hlt=>⟨l,_,hl,hK y hy hlt⟩
theorem wloopW {c:Code} {α:Type} (S:α->St) (J:α->Prop) (μ:α->Nat) (x0:α) (l0:List Wk) (h0:wkAll l0 (norm C (aget [] C.lp i) σ)=some (S x0)) (hJ:J x0)
  (h:∀ x,J x->∀ K:St->Prop,(∀ y,J y->μ y < μ x->K (S y))->AWp C c i (AEx.seq (fun σ'=>K (norm C (aget [] C.lp i) σ')) Q) (S x)):AWp C (.loop c) i Q σ:=
 wloopB S J μ x0 l0 h0 hJ fun x hx K hK=>h x hx K fun y hy hlt=>hK [] _ y rfl hy hlt
theorem wloop {c:Code} {α:Type} (S:α->St) (J:α->Prop) (μ:α->Nat) (x0:α) (h0:norm C (aget [] C.lp i) σ=S x0) (hJ:J x0)
  (h:∀ x,J x->∀ K:St->Prop,(∀ y,J y->μ y < μ x->K (S y))->AWp C c i (AEx.seq (fun σ'=>K (norm C (aget [] C.lp i) σ')) Q) (S x)):AWp C (.loop c) i Q σ:=
 wloopW S J μ x0 [] (by rw [h0];rfl) hJ h
end
theorem ofL_nil (t:Nat):ofL [] t = .dead:=rfl
theorem ofL_cons (i:Nat) (f:FV) (r:List (Nat×FV)) (t:Nat):ofL ((i,f) :: r) t=if i=t then f else ofL r t:=rfl
theorem ofR_nil (t:Rn):ofR [] t=none:=rfl
theorem ofR_cons (i:Rn) (f:D) (r:List (Rn×D)) (t:Rn):ofR ((i,f) :: r) t=if i=t then some f else ofR r t:=rfl
theorem ofRO_nil (t:Rn):ofRO [] t=none:=rfl
theorem ofRO_cons (i:Rn) (f:Option D) (r:List (Rn×Option D)) (t:Rn):ofRO ((i,f) :: r) t=if i=t then f else ofRO r t:=rfl
theorem upd_at {α:Type} (e:Nat->α) (t:Nat) (f:α) (s:Nat):upd e t f s=if s=t then f else e s:=rfl
theorem root_env (σ:St) (r:Rn) (d:D):(σ.root r d).env=σ.env:=rfl
theorem root_rts (σ:St) (r:Rn) (d:D) (q:Rn):(σ.root r d).rts q=if q=r then some d else σ.rts q:=rfl
theorem wrapOk {x:Int} (h0:-9223372036854775808<=x) (h1:x < 9223372036854775808):IntKind.i64.wrap x=x:=by
 rw [IntKind.wrap_i64]
 omega
theorem get_ints (xs:List Int) (i:Nat) (h:i < xs.length):(ints xs)[i]? = some (D.int xs[i]):=by simp [ints,h]
theorem getElem_ints (xs:List Int) (i:Nat) (h:i < (ints xs).length):(ints xs)[i]=D.int (xs[i]'(by simpa [ints] using h)):=by simp [ints]
theorem length_ints (xs:List Int):(ints xs).length=xs.length:=by simp [ints]
theorem ints_append (xs ys:List Int):ints xs ++ ints ys=ints (xs ++ ys):=by simp [ints]
theorem ints_set (xs:List Int) (i:Nat) (x:Int):(ints xs).set i (D.v (.int .i64 x))=ints (xs.set i x):=by
 unfold ints
 rw [List.map_set]
theorem ints_take (xs:List Int) (i:Nat):(ints xs).take i=ints (xs.take i):=by simp [ints,List.map_take]
theorem ints_drop (xs:List Int) (i:Nat):(ints xs).drop i=ints (xs.drop i):=by simp [ints,List.map_drop]
theorem leafL_ints:∀ (xs:List Int),leafL (ints xs)
 | []=>trivial
 | x :: xs=>⟨rfl,leafL_ints xs⟩
theorem noShL_ints:∀ (xs:List Int),noShL (ints xs)
 | []=>trivial
 | x :: xs=>⟨trivial,noShL_ints xs⟩
theorem shareL_ints:∀ (xs:List Int),shareL (ints xs)=ints xs
 | []=>rfl
 | x :: xs=>by
  have:=shareL_ints xs
  simp only [ints,List.map_cons,shareL,share] at this ⊢
  rw [this]
theorem zeros_ints:∀ n:Nat,zerosD [.int .i64 0] n=ints (List.replicate n 0)
 | 0=>rfl
 | n+1=>by
  simp only [zerosD,zeros_ints n,List.replicate_succ]
  rfl
end Go.Proofs.Ytncfmemhjahpeaa.Ab
namespace Go.Proofs.Ytncfmemhjahpeaa.Ab
open Go
def rows {α:Type} (f:α->List D):List α->List D
 | []=>[]
 | x :: xs=>f x ++ rows f xs
section
variable {α:Type} {f:α->List D} {k:Nat}
theorem rows_append (xs ys:List α):rows f (xs ++ ys)=rows f xs ++ rows f ys:=by
 induction xs with
 | nil=>rfl
 | cons x xs ih=>simp [rows,ih]
theorem rows_length (hk:∀ x,(f x).length=k) (xs:List α):(rows f xs).length=k*xs.length:=by
 induction xs with
 | nil=>rfl
 | cons x xs ih=>simp only [rows,List.length_append,hk,ih,List.length_cons,Nat.mul_add,Nat.mul_one];omega
theorem rows_get (hk:∀ x,(f x).length=k):∀ (xs:List α) (i j:Nat) (h:i < xs.length),j < k->(rows f xs)[k*i+j]? = (f xs[i])[j]?
 | [],i,j,h,_=>by simp at h
 | x :: xs,0,j,h,hj=>by
  simp only [rows,Nat.mul_zero,Nat.zero_add,List.getElem_cons_zero]
  rw [List.getElem?_append_left (by rw [hk];exact hj)]
 | x :: xs,i+1,j,h,hj=>by
  simp only [rows,List.getElem_cons_succ]
  rw [List.getElem?_append_right (by rw [hk,Nat.mul_add];omega),hk,show k*(i+1)+j - k=k*i+j by rw [Nat.mul_add];omega]
  exact rows_get hk xs i j (by simpa using h) hj
theorem rows_take (hk:∀ x,(f x).length=k):∀ (xs:List α) (i:Nat),(rows f xs).take (k*i)=rows f (xs.take i)
 | [],i=>by simp [rows]
 | x :: xs,0=>by simp [rows]
 | x :: xs,i+1=>by
  simp only [rows,List.take_succ_cons]
  rw [List.take_append,List.take_of_length_le (by rw [hk,Nat.mul_add];omega),hk,show k*(i+1) - k=k*i by rw [Nat.mul_add];omega,rows_take hk xs i]
theorem rows_set (hk:∀ x,(f x).length=k):∀ (xs:List α) (i j:Nat) (d:D) (y:α) (h:i < xs.length),j < k->f y=(f xs[i]).set j d->(rows f xs).set (k*i+j) d=rows f (xs.set i y)
 | [],i,j,d,y,h,_,_=>by simp at h
 | x :: xs,0,j,d,y,h,hj,e=>by
  simp only [rows,Nat.mul_zero,Nat.zero_add,List.set_cons_zero,List.getElem_cons_zero] at e ⊢
  rw [List.set_append_left _ _ (by rw [hk];exact hj),e]
 | x :: xs,i+1,j,d,y,h,hj,e=>by
  simp only [rows,List.set_cons_succ,List.getElem_cons_succ] at e ⊢
  rw [List.set_append_right _ _ (by rw [hk,Nat.mul_add];omega),hk,show k*(i+1)+j - k=k*i+j by rw [Nat.mul_add];omega,rows_set hk xs i j d y (by simpa using h) hj e]
theorem shareL_append (a b:List D):shareL (a ++ b)=shareL a ++ shareL b:=by
 induction a with
 | nil=>rfl
 | cons x a ih=>simp [shareL,ih]
theorem rows_share (xs:List α):shareL (rows f xs)=rows (fun x=>shareL (f x)) xs:=by
 induction xs with
 | nil=>rfl
 | cons x xs ih=>simp [rows,shareL_append,ih]
theorem noShL_append {a b:List D} (ha:noShL a) (hb:noShL b):noShL (a ++ b):=by
 induction a with
 | nil=>exact hb
 | cons x a ih=>exact ⟨ha.1,ih ha.2⟩
theorem rows_noSh (hf:∀ x,noShL (f x)) (xs:List α):noShL (rows f xs):=by
 induction xs with
 | nil=>trivial
 | cons x xs ih=>exact noShL_append (hf x) ih
end
end Go.Proofs.Ytncfmemhjahpeaa.Ab
namespace Go.Proofs.Ytncfmemhjahpeaa.Ab
open Go
def Back (σ:St) (ios:List Io) (outs:List D) (dst:Option Nat) (res:List RV) (K:St->Prop):Prop:=
 match putOuts σ ios outs with
 | some σ1=>(match dst with
  | some d=>(match unpackR d σ1 0 res with
   | some (fs,σ2,_)=>K { σ2 with env:=upd σ2.env d (resFV fs) }
   | none=>False)
  | none=>K σ1)
 | none=>False
def CallsTo (P:Program) (f:Nat) (args:List FV) (lent:List Rn) (ios:List Io) (dst:Option Nat) (σ:St) (K:St->Prop):Prop:=
 ∃ pure Q,ACalls P f args (ios.map fun io=>(io.name,io.d)) pure Q/\(pure=true\/lent=[])/\∀ outs res,Q outs res->Back σ ios outs dst res K
theorem callTo_eq (C:Ctx) (f:Nat) (fvs:List FV) (dst:Option Nat) (σ:St) (K:St->Prop):callTo C f fvs dst σ K=(match passL σ 0 (aget [] C.M f) fvs with
 | some (args,lent,ios)=>((ios.map (·.r)).Nodup/\(ios.map (·.name)).Nodup)/\(∀ r∈ios.map (·.r),r ∉ lent)/\CallsTo C.P f args lent ios dst σ K
 | none=>False):=rfl
theorem wcall {P:Program} {f:Nat} {args args':List FV} {lent:List Rn} {ios:List Io} {dst:Option Nat} {σ:St} {K:St->Prop} {ros:List (Rn×D)} {pure:Bool} {Q:List D->List RV->Prop}
  (h:ACalls P f args' ros pure Q) (ha:args=args') (hr:(ios.map fun io=>(io.name,io.d))=ros) (hp:pure=true\/lent=[]) (hk:∀ outs res,Q outs res->Back σ ios outs dst res K):CallsTo P f args lent ios dst σ K:=
 ⟨pure,Q,by rw [hr,ha];exact h,hp,hk⟩
theorem wcall1 {P:Program} {f:Nat} {args args':List FV} {lent:List Rn} {ios:List Io} {dst:Option Nat} {σ:St} {K:St->Prop} {ros:List (Rn×D)} {os:List D} {rs:List RV}
  (h:ACalls P f args' ros true (fun outs res=>outs=os/\res=rs)) (ha:args=args') (hr:(ios.map fun io=>(io.name,io.d))=ros) (hk:Back σ ios os dst rs K):CallsTo P f args lent ios dst σ K:=
 wcall h ha hr (.inl rfl) fun outs res ⟨h1,h2⟩=>by rw [h1,h2];exact hk
theorem AOpG_eq (C:Ctx) (ops:Array Oper) (o:Oper) (σ:St) (K:St->Prop):AOpG C ops o σ K↔(match o.guard with
 | none=>AOp C o σ K
 | some (j,want)=>(match (ops[j]?).bind (·.dst) with
  | some t=>(match σ.env t with
   | .d (.v (.bool b))=>if b=want then AOp C o σ K else K (σ.set o.dst (.tu []))
   | .tu []=>K (σ.set o.dst (.tu []))
   | _=>False)
  | none=>False)):=by
 unfold AOpG
 rcases o.guard with _ | ⟨j,want⟩
 ·exact Iff.rfl
 ·simp only
  rcases (ops[j]?).bind (·.dst) with _ | t
  ·exact Iff.rfl
  ·simp only
   generalize σ.env t=f
   split
   ·rename_i b
    by_cases h:b=want <;> simp [h]
   ·exact Iff.rfl
   ·rename_i h h'
    split
    ·exact absurd rfl (h _)
    ·exact absurd rfl h'
    ·exact Iff.rfl
theorem takeCells_self (k n:Nat) (cs:List D):takeCells k n n cs=cs:=if_pos rfl
attribute [simp] fbB frzB okAtom pickF
attribute [simp ↓] AFb AFz AFrz AFrS ASlice ACut
attribute [simp] leafFs shiftInt fieldV
attribute [simp ↓] AOps AOpG_eq AOp silK ABuiltin ARun ARunL callTo_eq AAlloc ABox ABuildSlice AMake AMapUpd ARange ANext AAppend ACopy ADelete AStore ANil
attribute [simp] u8s sil silCall isNilC opv constFV aget norm normWith names addNames watchers ofL_nil ofL_cons upd_at St.set FV.roots FV.rootsL FV.ren FV.renL ofRO_nil ofRO_cons lenF binF binInt bitsV
attribute [simp] indexF tsize addOff loadF pickL isAggK renR AEx.seq AEx.block cellFV argL watchL wFV ofR_nil ofR_cons endQ endK resVals FV.whole D.leaf exportN exportD pend unpend atomsL FV.atoms groupR noShR noShL noSh Value.oneCell'
attribute [simp] St.kOf St.nOf St.obj look St.storeL St.store1 St.absorb St.put putAt D.cells? D.setCells D.quiet FV.isLeaf root_env root_rts getElem_ints length_ints leafL_ints noShL_ints shareL_ints ints_set ints_append ints_take ints_drop
attribute [simp] wk1 wkAll isNil0
attribute [simp] nilIs fieldOff fieldPl sliceF boundsF isZero buildF fillF setAtoms mapIdx2 keyInts appSrc appNew takeCells_self St.take St.kill St.killBelow FV.under FV.underL FV.deep FV.deepL belowB isPre stripP Mv.place FV.move FV.moveL
attribute [simp] Back passL viewFV viewL ioAtom ioL ioFV putOuts unpackD unpackL unpackR resFV share shareL leafL solidL D.solid FV.rootIs St.dropIt St.setIt FV.notIt FV.hasIt FV.hasItL zerosD goneL
end Go.Proofs.Ytncfmemhjahpeaa.Ab
namespace Go.Proofs.Ytncfmemhjahpeaa.Ab
open Go
def AOpsI (C:Ctx) (ops:Array Oper):List Nat->St->(St->Prop)->Prop
 | [],σ,K=>K σ
 | i :: r,σ,K=>match ops[i]? with
  | some o=>AOpG C ops o σ fun σ'=>AOpsI C ops r σ' K
  | none=>False
attribute [simp ↓] AOpsI
theorem AOpsI_append (C:Ctx) (ops:Array Oper) (K:St->Prop):∀ (is js:List Nat) (σ:St),AOpsI C ops (is ++ js) σ K=AOpsI C ops is σ fun σ'=>AOpsI C ops js σ' K
 | [],js,σ=>rfl
 | i :: is,js,σ=>by
  simp only [List.cons_append,AOpsI]
  have:(fun σ'=>AOpsI C ops (is ++ js) σ' K)=fun σ'=>AOpsI C ops is σ' fun σ''=>AOpsI C ops js σ'' K:=funext fun σ'=>AOpsI_append C ops K is js σ'
  rw [this]
theorem AOpsI_range (C:Ctx) (ops:Array Oper) (K:St->Prop):∀ (m i:Nat) (σ:St),i+m=ops.size->AOpsI C ops (List.range' i m) σ K=AOps C ops (ops.toList.drop i) σ K
 | 0,i,σ,h=>by
  rw [List.drop_of_length_le (by simp;omega)]
  rfl
 | m+1,i,σ,h=>by
  have hi:i < ops.toList.length:=by simp;omega
  rw [List.drop_eq_getElem_cons hi,List.range'_succ]
  have:(fun σ'=>AOpsI C ops (List.range' (i+1) m) σ' K)=fun σ'=>AOps C ops (ops.toList.drop (i+1)) σ' K:=funext fun σ'=>AOpsI_range C ops K m (i+1) σ' (by omega)
  have e:ops[i]? = some ops.toList[i]:=by
   rw [Array.getElem?_eq_getElem (by omega)]
   simp
  show (match ops[i]? with
   | some o=>AOpG C ops o σ fun σ'=>AOpsI C ops (List.range' (i+1) m) σ' K
   | none=>False)=_
  rw [e,this]
  rfl
theorem oSg {C:Ctx} {ops:Array Oper} {is js:List Nat} {σ:St} {K:St->Prop} (h:∀ K1:St->Prop,(∀ σ',AOpsI C ops js σ' K->K1 σ')->AOpsI C ops is σ K1):AOpsI C ops (is ++ js) σ K:=by
 rw [AOpsI_append]
 exact h _ fun _ h=>h
theorem oEn {C:Ctx} {ops:Array Oper} {is:List Nat} {σ:St} {K:St->Prop} (h:∀ K1:St->Prop,(∀ σ',K σ'->K1 σ')->AOpsI C ops is σ K1):AOpsI C ops is σ K:=h _ fun _ h=>h
def chainP:List (Bool×Nat)->Plan->Plan
 | [],p=>p
 | (true,i) :: r,p=>.take i (chainP r p)
 | (false,i) :: r,p=>.all [(i,chainP r p)]
theorem ARun_chain (C:Ctx) (ops:Array Oper) (p:Plan) (K:St->Prop):∀ (l:List (Bool×Nat)) (σ:St),ARun C ops (chainP l p) σ K=AOpsI C ops (l.map (·.2)) σ fun σ'=>ARun C ops p σ' K
 | [],σ=>rfl
 | (true,i) :: l,σ=>by
  simp only [chainP,ARun,List.map_cons,AOpsI]
  have:(fun σ'=>ARun C ops (chainP l p) σ' K)=fun σ'=>AOpsI C ops (l.map (·.2)) σ' fun σ''=>ARun C ops p σ'' K:=funext fun σ'=>ARun_chain C ops p K l σ'
  rw [this]
  rfl
 | (false,i) :: l,σ=>by
  simp only [chainP,ARun,ARunL,List.map_cons,AOpsI]
  have:(fun σ'=>ARun C ops (chainP l p) σ' K)=fun σ'=>AOpsI C ops (l.map (·.2)) σ' fun σ''=>ARun C ops p σ'' K:=funext fun σ'=>ARun_chain C ops p K l σ'
  rw [this,and_true]
  rfl
section
variable {C:Ctx} {i:Nat} {Q:AEx->St->Prop} {σ:St}
theorem wregI {id:Nat} {ops:Array Oper} (is:List Nat) (he:is=List.range' 0 ops.size) (h:∀ K:St->Prop,(∀ σ',Q .normal σ'->K σ')->AOpsI C ops is σ (fun σ'=>K (norm C (aget [] C.kp id) σ'))):AWp C (.region id ops false) i Q σ:=
 wreg fun K hK=>by
  have:=h K hK
  rw [he,AOpsI_range _ _ _ _ _ _ (by omega)] at this
  exact this
theorem wdrawI {id:Nat} {ops:Array Oper} (l:List (Bool×Nat)) (hp:(chainP l .done).ok C ops) (is:List Nat) (he:is=l.map (·.2)) (h:∀ K:St->Prop,(∀ σ',Q .normal σ'->K σ')->AOpsI C ops is σ (fun σ'=>K (norm C (aget [] C.kp id) σ'))):AWp C (.region id ops true) i Q σ:=
 wdraw (chainP l .done) hp fun K hK=>by
  rw [ARun_chain,<-he]
  exact h K hK
end
def WkD (a b:D):Prop:=a=b\/(isNil0 a=true/\∃ k,b = .ow k 0 [])
def WkL:List D->List D->Prop
 | [],[]=>True
 | a :: l,b :: r=>WkD a b/\WkL l r
 | _,_=>False
def WkR:RV->RV->Prop
 | .one a,.one b=>WkD a b
 | .ag a,.ag b=>WkL a b
 | _,_=>False
def WkRs:List RV->List RV->Prop
 | [],[]=>True
 | a :: l,b :: r=>WkR a b/\WkRs l r
 | _,_=>False
section
variable {w:World} {ok:Nat->Prop}
theorem WkD.ow {a b:D} (h:WkD a b) {u:Value} {fp:List Nat} (ha:Ow w ok a u fp):Ow w ok b u fp:=by
 rcases h with rfl | ⟨h1,k,rfl⟩
 ·exact ha
 ·have hv:=isNil0_val h1 ha
  have hf:fp=[]:=by
   unfold isNil0 at h1
   split at h1
   ·simp only [Ow] at ha;exact ha.1
   ·simp only [Ow] at ha;exact ha.1
   ·simp at h1
  subst hf
  exact ow_empty k hv
theorem WkL.ow:∀ {a b:List D},WkL a b->∀ {us:List Value} {fp:List Nat},OwVs w ok a us fp->OwVs w ok b us fp
 | [],[],_,us,fp,h=>h
 | a :: l,b :: r,h,us,fp,ha=>by
  obtain ⟨u,us',f1,f2,e1,e2,h1,h2⟩:=ha
  exact ⟨u,us',f1,f2,e1,e2,h.1.ow h1,WkL.ow h.2 h2⟩
 | [],b :: r,h,_,_,_=>h.elim
 | a :: l,[],h,_,_,_=>h.elim
theorem WkR.ow:∀ {a b:RV},WkR a b->∀ {u:Value} {fp:List Nat},OwRV w ok a u fp->OwRV w ok b u fp
 | .one a,.one b,h,u,fp,ha=>WkD.ow h ha
 | .ag a,.ag b,h,u,fp,ha=>by
  obtain ⟨vs,e,h1⟩:=ha
  exact ⟨vs,e,WkL.ow h h1⟩
 | .one a,.ag b,h,_,_,_=>h.elim
 | .ag a,.one b,h,_,_,_=>h.elim
theorem WkRs.ow:∀ {a b:List RV},WkRs a b->∀ {us:List Value} {fp:List Nat},OwRs w ok a us fp->OwRs w ok b us fp
 | [],[],_,us,fp,h=>h
 | a :: l,b :: r,h,us,fp,ha=>by
  obtain ⟨u,us',f1,f2,e1,e2,h1,h2⟩:=ha
  exact ⟨u,us',f1,f2,e1,e2,WkR.ow h.1 h1,WkRs.ow h.2 h2⟩
 | [],b :: r,h,_,_,_=>h.elim
 | a :: l,[],h,_,_,_=>h.elim
end
theorem ACalls.weak {P:Program} {f:Nat} {args:List FV} {ros:List (Rn×D)} {pure:Bool} {Q Q':List D->List RV->Prop} (h:ACalls P f args ros pure Q) (hq:∀ outs res,Q outs res->∃ res',WkRs res res'/\Q' outs res'):ACalls P f args ros pure Q':=by
 refine ⟨h.1,fun w fp0 ok vs ρ φ hl hr=>(h.2 w fp0 ok vs ρ φ hl hr).mono ?_⟩
 rintro e w' ⟨v,outs,res,ok',φ',fr,he,hQ,hd⟩
 obtain ⟨res',h1,h2⟩:=hq outs res hQ
 obtain ⟨vs',e1,e2⟩:=hd.res
 exact ⟨v,outs,res',ok',φ',fr,he,h2,⟨hd.len,hd.out,hd.dis,⟨vs',e1,h1.ow e2⟩,hd.nod,hd.bl,hd.disr,hd.frm,hd.okm,hd.okn⟩⟩
theorem ACalls.weak1 {P:Program} {f:Nat} {args:List FV} {ros:List (Rn×D)} {pure:Bool} {os:List D} {rs:List RV} (h:ACalls P f args ros pure fun outs res=>outs=os/\WkRs res rs):ACalls P f args ros pure fun outs res=>outs=os/\res=rs:=
 h.weak fun outs res ⟨h1,h2⟩=>⟨rs,h2,h1,rfl⟩
attribute [simp] WkRs WkR WkL WkD isNil0
theorem nd_t {p:Prop} [Decidable p] (h:(!decide p)=true):¬ p:=by simpa using h
theorem nd_f {p:Prop} [Decidable p] (h:(!decide p)=false):p:=by simpa using h
theorem d_t {p:Prop} [Decidable p] (h:decide p=true):p:=by simpa using h
theorem d_f {p:Prop} [Decidable p] (h:decide p=false):¬ p:=by simpa using h
theorem ibeq (a b:Int):(a == b)=decide (a=b):=by
 by_cases h:a=b <;> simp [h]
theorem ibne (a b:Int):(a != b) = !decide (a=b):=by
 by_cases h:a=b <;> simp [h]
theorem wrap_nat {j:Nat} (h:j < 4611686018427387904):IntKind.i64.wrap (j:Int)=(j:Int):=wrapOk (by omega) (by omega)
section
variable {w:World} {ok:Nat->Prop} {σ:St} {ρ:Rn->Value}
end
end Go.Proofs.Ytncfmemhjahpeaa.Ab
namespace Go.Proofs.Ytncfmemhjahpeaa.Ab
open Go
structure Trm where
 e:List Int
 c:Int
deriving DecidableEq
structure Lau where
 v:Int
 ts:List Trm
deriving DecidableEq
structure Mat where
 n:Int
 r:Int
 d:List Int
deriving DecidableEq
structure Sed where
 m:Mat
 f:List Lau
deriving DecidableEq
structure Ses where
 a:Mat
 k:List Int
 s:Sed
deriving DecidableEq
abbrev shI (l:List Int):D:=.sh 1 l.length (ints l)
abbrev owI (l:List Int):D:=.ow 1 l.length (ints l)
def tS (t:Trm):List D:=[shI t.e,D.int t.c]
def tO (t:Trm):List D:=[owI t.e,D.int t.c]
def fS (f:Lau):List D:=[D.int f.v,.sh 2 f.ts.length (rows tS f.ts)]
def fO (f:Lau):List D:=[D.int f.v,.ow 2 f.ts.length (rows tO f.ts)]
def mS (m:Mat):List D:=[D.int m.n,D.int m.r,shI m.d]
def mO (m:Mat):List D:=[D.int m.n,D.int m.r,owI m.d]
def sS (s:Sed):List D:=[D.int s.m.n,D.int s.m.r,shI s.m.d,.sh 2 s.f.length (rows fS s.f)]
def sO (s:Sed):List D:=[D.int s.m.n,D.int s.m.r,owI s.m.d,.ow 2 s.f.length (rows fO s.f)]
theorem tS_two (t:Trm):(tS t).length=2:=rfl
theorem tO_two (t:Trm):(tO t).length=2:=rfl
theorem fS_two (t:Lau):(fS t).length=2:=rfl
theorem fO_two (t:Lau):(fO t).length=2:=rfl
@[simp] theorem tS_length (l:List Trm):(rows tS l).length=2*l.length:=rows_length tS_two l
@[simp] theorem tO_length (l:List Trm):(rows tO l).length=2*l.length:=rows_length tO_two l
@[simp] theorem fS_length (l:List Lau):(rows fS l).length=2*l.length:=rows_length fS_two l
@[simp] theorem fO_length (l:List Lau):(rows fO l).length=2*l.length:=rows_length fO_two l
@[simp] theorem tS_share (l:List Trm):shareL (rows tO l)=rows tS l:=by
 rw [rows_share]
 congr 1
 funext t
 simp [tO,tS,shareL,share,shareL_ints]
@[simp] theorem fS_share (l:List Lau):shareL (rows fO l)=rows fS l:=by
 rw [rows_share]
 congr 1
 funext t
 simp [fO,fS,shareL,share]
@[simp] theorem tO_noSh (l:List Trm):noShL (rows tO l):=rows_noSh (fun t=>by simp [tO,noShL,noSh,noShL_ints]) l
@[simp] theorem fO_noSh (l:List Lau):noShL (rows fO l):=rows_noSh (fun t=>by simp [fO,noShL,noSh]) l
theorem twice {α:Type} {l:List α} {i:Nat} {x:α} (h:l[i]? = some x):l[i]? = some x/\∀ h':i < l.length,l[i]'h'=x:=
 ⟨h,fun h'=>by rw [List.getElem?_eq_getElem h'] at h;injection h⟩
section
variable {l:List Trm} {g:List Lau} {i:Nat}
theorem tS_0 (h:i < l.length):(rows tS l)[2*i]? = some (shI l[i].e)/\∀ h',(rows tS l)[2*i]'h'=shI l[i].e:=twice (rows_get tS_two l i 0 h (by omega))
theorem tS_1 (h:i < l.length):(rows tS l)[2*i+1]? = some (D.int l[i].c)/\∀ h',(rows tS l)[2*i+1]'h'=D.int l[i].c:=twice (rows_get tS_two l i 1 h (by omega))
theorem fS_0 (h:i < g.length):(rows fS g)[2*i]? = some (D.int g[i].v)/\∀ h',(rows fS g)[2*i]'h'=D.int g[i].v:=twice (rows_get fS_two g i 0 h (by omega))
theorem fS_1 (h:i < g.length):(rows fS g)[2*i+1]? = some (.sh 2 g[i].ts.length (rows tS g[i].ts))/\∀ h',(rows fS g)[2*i+1]'h' = .sh 2 g[i].ts.length (rows tS g[i].ts):=twice (rows_get fS_two g i 1 h (by omega))
theorem fO_0 (h:i < g.length):(rows fO g)[2*i]? = some (D.int g[i].v)/\∀ h',(rows fO g)[2*i]'h'=D.int g[i].v:=twice (rows_get fO_two g i 0 h (by omega))
theorem fO_1 (h:i < g.length):(rows fO g)[2*i+1]? = some (.ow 2 g[i].ts.length (rows tO g[i].ts))/\∀ h',(rows fO g)[2*i+1]'h' = .ow 2 g[i].ts.length (rows tO g[i].ts):=twice (rows_get fO_two g i 1 h (by omega))
end
def marks (k:Int) (n:Nat):List Int:=(List.range n).map fun (i:Nat)=>k+(i:Int)
@[simp] theorem marks_length (k:Int) (n:Nat):(marks k n).length=n:=by simp [marks]
section
variable {α:Type} (cnt:α->Nat) (mk:α->Int->α)
def cntL:List α->Nat
 | []=>0
 | x :: xs=>cnt x+cntL xs
def mkL:List α->Int->List α
 | [],_=>[]
 | x :: xs,k=>mk x k :: mkL xs (k+cnt x)
@[simp] theorem mkL_length:∀ (l:List α) (k:Int),(mkL cnt mk l k).length=l.length
 | [],k=>rfl
 | x :: xs,k=>by simp [mkL,mkL_length xs]
end
def cntT (t:Trm):Nat:=t.e.length+1
def tZ:Option Trm->List D
 | none=>[.v (.slice none 0 0),D.int 0]
 | some t=>tO t
theorem tZ_two (t:Option Trm):(tZ t).length=2:=by cases t <;> rfl
@[simp] theorem tZ_length (l:List (Option Trm)):(rows tZ l).length=2*l.length:=rows_length tZ_two l
theorem rows_set2 {α:Type} {f:α->List D} (hk:∀ x,(f x).length=2) (xs:List α) (i:Nat) (d0 d1:D) (y:α) (h:i < xs.length) (e:f y=[d0,d1]):((rows f xs).set (2*i) d0).set (2*i+1) d1=rows f (xs.set i y):=by
 induction xs generalizing i with
 | nil=>simp at h
 | cons x xs ih=>
  cases i with
  | zero=>
   have hx:=hk x
   match hfx:f x,hx with
   | [a,b],_=>simp [rows,hfx,e]
  | succ i=>
   have hx:=hk x
   simp only [rows,List.set_cons_succ]
   rw [List.set_append_right _ _ (by rw [hx];omega),List.set_append_right _ _ (by rw [hx];omega),hx,show 2*(i+1) - 2=2*i by omega,show 2*(i+1)+1 - 2=2*i+1 by omega,ih i (by simpa using h)]
theorem fO_set2 {l:List Lau} {i n:Nat} (h:i < l.length) (v:Int) (t:List Trm) (hn:t.length=n):((rows fO l).set (2*i) (.v (.int .i64 v))).set (2*i+1) (.ow 2 n (rows tO t))=rows fO (l.set i ⟨v,t⟩):=
 rows_set2 fO_two l i _ _ _ h (by subst hn;rfl)
theorem tO_snoc (l:List Trm) (t:Trm):rows tO l ++ [D.ow 1 t.e.length (ints t.e),D.v (.int .i64 t.c)]=rows tO (l ++ [t]):=by
 rw [rows_append]
 rfl
end Go.Proofs.Ytncfmemhjahpeaa.Ab
namespace Go.Proofs.Ytncfmemhjahpeaa.Ab
open Go Go.ChangeShapes Go.WideShapes Go.ChangeAt Go.RowKit
structure Old (w w':World):Prop where
 os:w'.os=w.os
 out:w'.output=w.output
 size:w.heap.size<=w'.heap.size
 blk:∀ b,b < w.heap.size->w'.heap[b]? = w.heap[b]?
theorem Old.kept {w w':World} (h:Old w w') (may:MemPlace->Prop):w.keptBut w' may:=by
 refine ⟨h.os,h.out,fun i hi=>?_⟩
 rw [h.blk i hi]
 cases hh:w.heap[i]? with
 | none=>rfl
 | some o=>
  cases o with
  | cells c t fr=>exact ⟨rfl,rfl,rfl,fun _ _=>rfl⟩
  | map es cl=>exact .inr ⟨rfl,rfl⟩
  | _=>rfl
theorem Old.froz {w w':World} (h:Old w w') (a:Addr) (ha:a.block < w.heap.size):w'.frozen? a=w.frozen? a:=by
 unfold World.frozen?
 rw [h.blk a.block ha]
variable {H:Type} {enc:TypeId×Value->H} {P:Program}
theorem post_of_old {f:Func} {s:ChangeSpec} {apart fresh handsOn again:Bool} {W W':World} {args:Array Value} {v:Value} {ds gs:List (DataW H)} {before pa pv:List MemPlace}
  (hW:DataW.Whole enc P f.params.toList s.vars apart W args.toList ds gs before)
  (hres:∀ (b:Nat) (sp:Nat->Bool) (hd:Bool),DataW.TrodAll enc P W' b sp hd f.resultTypes.toList (v.resultList f.resultTypes.size) (s.fn H (ds ++ gs)).results [])
  (hargs:∀ sp:Nat->Bool,(∀ p∈before,sp p.block=true)->DataW.TrodAll enc P W' 0 sp true f.params.toList args.toList (s.fn H (ds ++ gs)).args pa)
  (hvars:∀ sp:Nat->Bool,(∀ p∈before,sp p.block=true)->DataW.TrodVars enc P W' sp s.vars (s.fn H (ds ++ gs)).vars pv)
  (hps:before=pa ++ pv) (ho:Old W W')
  (hok:∀ (j:Nat) (t:TypeId) (r:Value),f.resultTypes[j]? = some t->(v.resultList f.resultTypes.size)[j]? = some r->Value.okWide P W' .any 0 t r) :
  s.post enc P f apart fresh handsOn again W args v W':=by
 have hlt:∀ p∈before,p.block < W.heap.size:=fun p hp=>hW.lt p hp
 have hsp:∀ p∈before,(fun b=>decide (b < W.heap.size)) p.block=true:=fun p hp=>decide_eq_true (hlt p hp)
 have hall:∀ p∈before,(fun _:Nat=>true) p.block=true:=fun _ _=>rfl
 have happ:[] ++ pa ++ pv=before:=by rw [hps];rfl
 refine ⟨ds,gs,before,[],pa,pv,hW,hres _ _ _,hargs _ hsp,hvars _ hsp,ho.kept _,fun _=>⟨hok,_,_,[] ++ pa ++ pv,⟨[] ++ pa,pv,trodAll_append (hargs _ hall) (hres _ _ _),hvars _ hall,rfl,?_,?_⟩,?_⟩⟩
 ·obtain ⟨_,_,_,_,_,hz,hn⟩:=hW
  intro b off hp
  rw [happ] at hp
  rw [ho.froz _ (hlt _ hp)]
  exact hz b off hp
 ·obtain ⟨_,_,_,_,_,hz,hn⟩:=hW
  intro ha
  rw [happ]
  exact hn ha
 ·intro p hp _
  rw [happ] at hp
  exact hp
end Go.Proofs.Ytncfmemhjahpeaa.Ab
namespace Go.Proofs.Ytncfmemhjahpeaa.Ab
open Go Go.ChangeShapes Go.WideShapes Go.ChangeAt Go.RowKit
def oldOk (W:World):Nat->Prop:=fun b=>b < W.heap.size
theorem old_of_cell {W:World} {a:Addr} {v:Value} (h:W.cell? a=some v):oldOk W a.block:=by
 unfold World.cell? at h
 split at h
 ·rename_i hh
  unfold oldOk
  rcases Nat.lt_or_ge a.block W.heap.size with h1 | h1
  ·exact h1
  ·rw [Array.getElem?_eq_none (by omega)] at hh;simp at hh
 ·simp at h
theorem ShV_ShL {w:World} {ok:Nat->Prop} {b:Nat}:∀ {ds:List D} {us:List Value} {o:Nat},ShV w ok ds us->(∀ (j:Nat) (v:Value),us[j]? = some v->w.cell? ⟨b,o+j,none⟩ = some v)->ShL w ok b ds o
 | [],us,o,h,_=>by simp [ShL]
 | d :: ds,us,o,h,hc=>by
  simp only [ShV] at h
  obtain ⟨u,us',rfl,h1,h2⟩:=h
  simp only [ShL]
  refine ⟨⟨u,by simpa using hc 0 u rfl,h1⟩,ShV_ShL h2 fun j v hj=>?_⟩
  have:=hc (j+1) v (by simpa using hj)
  rwa [show o+1+j=o+(j+1) by omega]
theorem ShL_cat {w:World} {ok:Nat->Prop} {b:Nat}:∀ {ds es:List D} {o:Nat},ShL w ok b ds o->ShL w ok b es (o+ds.length)->ShL w ok b (ds ++ es) o
 | [],es,o,_,k=>by simpa using k
 | d :: ds,es,o,h,k=>by
  simp only [ShL] at h
  simp only [List.cons_append,ShL]
  refine ⟨h.1,ShL_cat h.2 ?_⟩
  simp only [List.length_cons] at k
  rwa [show o+1+ds.length=o+(ds.length+1) by omega]
theorem rows_ShL {w:World} {ok:Nat->Prop} {b k:Nat} {α:Type} {f:α->List D} (hk:∀ x,(f x).length=k):∀ (l:List α) (o:Nat),(∀ i (h:i < l.length),ShL w ok b (f l[i]) (o+i*k))->ShL w ok b (rows f l) o
 | [],o,_=>by simp [rows,ShL]
 | x :: l,o,h=>by
  simp only [rows]
  refine ShL_cat (by have:=h 0 (by simp);simp only [List.getElem_cons_zero,Nat.zero_mul,Nat.add_zero] at this;exact this) ?_
  rw [hk]
  refine rows_ShL hk l (o+k) fun i hi=>?_
  have:=h (i+1) (by simpa using hi)
  simp only [List.getElem_cons_succ] at this
  rwa [show o+k+i*k=o+(i+1)*k by rw [Nat.add_mul,Nat.one_mul];omega]
section
variable {H:Type} {enc:TypeId×Value->H} {P:Program} {W:World}
structure Opens (enc:TypeId×Value->H) (P:Program) (W:World) (t k:Nat) (α:Type) (f:α->List D) (G:α->Prop):Prop where
 cells:P.cellsOf t=k
 len:∀ a,(f a).length=k
 op:∀ (fuel:Nat) (cs:List Value) (x:DataW H×List MemPlace),DataW.trod enc P W 0 (fun _=>true) true fuel t cs=some x->(∀ n∈x.1.weights P t,n<=reachBytes)->∃ a:α,G a/\ShV W (oldOk W) (f a) cs
theorem Opens.to {t k:Nat} {α β:Type} {f:α->List D} {G:α->Prop} (h:Opens enc P W t k α f G) (g:α->β) {f':β->List D} {G':β->Prop} (hf:∀ a,f' (g a)=f a) (hl:∀ b,(f' b).length=k) (hG:∀ a,G a->G' (g a)):Opens enc P W t k β f' G':=
 ⟨h.cells,hl,fun fuel cs x hx hw=>by
  obtain ⟨a,h1,h2⟩:=h.op fuel cs x hx hw
  exact ⟨g a,hG a h1,by rw [hf];exact h2⟩⟩
theorem Opens.byte {t:Nat} (ht:P.underlying t=some (.int .u8)) (hc:P.cellsOf t=1):Opens enc P W t 1 Int (fun n=>[.v (.int .u8 n)]) (fun n=>0<=n/\n<=255):=
 ⟨hc,fun _=>rfl,fun fuel cs x hx _=>by
  obtain ⟨n,rfl,rfl,hw⟩:=DataW.trod_int ht hx
  exact ⟨n,bounds_u8 hw,by simp [ShV,Sh]⟩⟩
theorem mem_weightsAll {e:Nat}:∀ {l:List (DataW H)} {d:DataW H},d∈l->∀ n∈d.weights P e,n∈DataW.weightsAll P e l
 | x :: l,d,hd,n,hn=>by
  simp only [DataW.weightsAll,List.mem_append]
  rcases List.mem_cons.1 hd with rfl | hd
  ·exact .inl hn
  ·exact .inr (mem_weightsAll hd n hn)
theorem cells_get {a:Addr} {k:Nat} {cs:List Value} (h:W.cells? 0 a k=some cs):cs.length=k/\∀ (j:Nat) (v:Value),cs[j]? = some v->W.cell? (a.add j)=some v:=by
 unfold World.cells? at h
 rw [if_pos (Nat.zero_le _)] at h
 have hl:=mapM_some_length h
 simp only [List.length_range] at hl
 refine ⟨hl,fun j v hj=>?_⟩
 have hj2:j < k:=by
  rw [<-hl]
  rcases Nat.lt_or_ge j cs.length with h1 | h1
  ·exact h1
  ·rw [List.getElem?_eq_none h1] at hj;simp at hj
 have:=mapM_some_get h j j (by simp [hj2])
 rw [this,hj]
theorem Opens.slice {t e k bs:Nat} {α:Type} {f:α->List D} {G:α->Prop} (h:Opens enc P W e k α f G) (hk0:0 < k) (ht:P.underlying t=some (.slice e)) (hc:P.cellsOf t=1) (hb:P.bytesOf e=bs) :
  Opens enc P W t 1 (List α) (fun l=>[.sh k l.length (rows f l)]) (fun l=>(∀ x∈l,G x)/\l.length*bs<=140737488351232):=
 ⟨hc,fun _=>rfl,fun fuel cs x hx hw=>by
  rcases DataW.trod_slice ht hx with ⟨rfl,rfl⟩ | ⟨a,len,cap,elems,rest,n,rfl,rfl,rfl,hb0,hlc,hcm,hel,hget,_,_⟩
  ·exact ⟨[],by simp,by simp [ShV,Sh,rows]⟩
  ·have hwt:(elems.length+rest.length)*bs<=140737488351232:=by
    have:=hw ((elems.length+rest.length)*bs) (by simp [DataW.weights,ht,hb])
    simpa [reachBytes] using this
   have hwe:∀ y∈elems,∀ n∈y.1.weights P e,n<=reachBytes:=fun y hy n hn=>by
    refine hw n ?_
    simp only [DataW.weights,ht,List.mem_cons,List.mem_append]
    exact .inr (.inl (mem_weightsAll (List.mem_map.2 ⟨y,hy,rfl⟩) n hn))
   have key:∀ i:Fin len,∃ y:α,G y/\∃ cs,W.cells? 0 (a.add (i.1*k)) k=some cs/\ShV W (oldOk W) (f y) cs:=fun i=>by
    have h1:=hget i.1 i.2
    rw [h.cells] at h1
    have h2:i.1 < elems.length:=by rw [hel];exact i.2
    rw [List.getElem?_eq_getElem h2,Option.bind_eq_some_iff] at h1
    obtain ⟨cs,h3,h4⟩:=h1
    obtain ⟨y,h5,h6⟩:=h.op n cs _ h4 (hwe _ (List.getElem_mem h2))
    exact ⟨y,h5,cs,h3,h6⟩
   let l:List α:=List.ofFn fun i:Fin len=>Classical.choose (key i)
   have hll:l.length=len:=by simp [l]
   have hlg:∀ i (hi:i < l.length),G l[i]/\∃ cs,W.cells? 0 (a.add (i*k)) k=some cs/\ShV W (oldOk W) (f l[i]) cs:=fun i hi=>by
    have:=Classical.choose_spec (key ⟨i,by omega⟩)
    simpa [l] using this
   refine ⟨l,⟨fun x hx=>?_,?_⟩,?_⟩
   ·obtain ⟨i,hi,rfl⟩:=List.getElem_of_mem hx
    exact (hlg i hi).1
   ·rw [hll]
    rw [hel] at hwt
    exact Nat.le_trans (Nat.mul_le_mul_right _ (by omega)) hwt
   ·simp only [ShV,Sh]
    refine ⟨_,[],rfl,⟨some a,cap,by rw [hll],by omega,rows_length h.len l,?_⟩,rfl⟩
    rcases Nat.eq_zero_or_pos l.length with hz | hp
    ·left
     rw [List.eq_nil_of_length_eq_zero hz]
     rfl
    ·right
     obtain ⟨_,cs0,hc0,_⟩:=hlg 0 hp
     obtain ⟨hl0,hg0⟩:=cells_get hc0
     have h00:cs0[0]? = some (cs0[0]'(by omega)):=List.getElem?_eq_getElem _
     have hfirst:=hg0 0 _ h00
     have hspot:a.spot=none:=by
      have:=World.cell?_spot hfirst
      simpa [Addr.add] using this
     have hold:=old_of_cell hfirst
     obtain ⟨b,off,spot⟩:=a
     simp only at hspot
     subst hspot
     refine ⟨b,off,rfl,by simpa [Addr.add] using hold,rows_ShL h.len l off fun i hi=>?_⟩
     obtain ⟨_,csi,hci,hsi⟩:=hlg i hi
     refine ShV_ShL hsi fun j v hj=>?_
     have:=(cells_get hci).2 j v hj
     rwa [Go.WideShapes.add_plain,Go.WideShapes.add_plain] at this⟩
structure Arg (enc:TypeId×Value->H) (P:Program) (W:World) (t:Nat) (α:Type) (F:α->FV) (G:α->Prop):Prop where
 rec_:P.readableRec t=true
 row:t < P.types.size
 op:∀ (base:Nat) (v:Value) (d:DataW H) (p:List MemPlace),Value.okWide P W .any base t v->DataW.Trod enc P W 0 (fun _=>true) true t v d p->(∀ n∈d.weights P t,n<=reachBytes)->∃ a:α,G a/\∀ (σ:St) (ρ:Rn->Value),FR W (oldOk W) σ ρ (F a) v
def plainT (P:Program) (t:TypeId):Bool:=
 match P.underlying t with
 | some (.int _)=>true
 | some .bool=>true
 | some .string=>true
 | some (.slice _)=>true
 | _=>false
theorem plain_cells {t:TypeId} {base:Nat} {v:Value} (h:plainT P t=true) (hv:Value.okWide P W .any base t v):v.cells = #[v]:=by
 unfold plainT at h
 unfold Value.okWide Cell.okWide Cell.ok at hv
 cases v <;> first | rfl | (split at h <;> simp_all)
theorem Arg.one {t:Nat} {α:Type} {f:α->D} {G:α->Prop} (h:Opens enc P W t 1 α (fun a=>[f a]) G) (hr:P.readableRec t=true) (hrow:t < P.types.size) (hp:plainT P t=true):Arg enc P W t α (fun a=>.d (f a)) G:=
 ⟨hr,hrow,fun base' v d p ho hd hw=>by
  obtain ⟨fuel,hx⟩:=hd
  obtain ⟨a,h1,h2⟩:=h.op fuel _ _ hx hw
  refine ⟨a,h1,fun σ ρ=>?_⟩
  rw [plain_cells hp ho] at h2
  simp only [ShV,List.cons.injEq] at h2
  obtain ⟨u,us,⟨rfl,rfl⟩,h3,_⟩:=h2
  simpa only [FR] using h3⟩
theorem lawW {f:Nat} {args:List FV} (h:ACalls P f args [] true (fun outs res=>outs=[]/\res=[.one (D.bool true)])) {vs:List Value} (hv:∀ (σ:St) (ρ:Rn->Value),FRL W (oldOk W) σ ρ args vs) :
  Calls P f vs.toArray W fun e w'=>e = .returned (.bool true)/\Below W.heap.size W w':=by
 have hlen:∀ {σ:St} {ρ:Rn->Value} {aas:List FV} {us:List Value},FRL W (oldOk W) σ ρ aas us->us.length=aas.length/\∀ t,FR W (oldOk W) σ ρ (argEnv aas t) (us.getD t undef):=by
  intro σ ρ aas
  induction aas with
  | nil=>
   intro us h
   simp only [FRL] at h
   subst h
   exact ⟨rfl,fun t=>by simp [argEnv,FR]⟩
  | cons a aas ih=>
   intro us h
   simp only [FRL] at h
   obtain ⟨u,vs,rfl,h1,h2⟩:=h
   obtain ⟨h3,h4⟩:=ih h2
   refine ⟨by simp [h3],fun t=>?_⟩
   cases t with
   | zero=>simpa [argEnv] using h1
   | succ t=>simpa [argEnv] using h4 t
 have:=h.2 W [] (oldOk W) vs (fun _=>undef) (fun _=>[]) (hlen (hv ⟨fun _=>.dead,fun _=>none⟩ (fun _=>undef))).1 ⟨fun r d hd=>by simp [ofR] at hd,fun r r' d d' _ hd=>by simp [ofR] at hd,(hlen (hv _ _)).2,fun b hb=>hb,Keeps.refl W []⟩
 refine Calls.mono this ?_
 rintro e w' ⟨v,outs,res,ok',φ',fr,rfl,⟨rfl,rfl⟩,hd⟩
 obtain ⟨vs,e1,e2⟩:=hd.res
 simp only [OwRs,OwRV,if_true] at e2
 obtain ⟨u,us,f1,f2,rfl,_,h1,h2,_⟩:=e2
 subst h2
 simp only [Ow] at h1
 refine ⟨?_,hd.frm.os,hd.frm.tape,hd.frm.out,hd.frm.size,fun b hb=>hd.frm.old b hb (by simp)⟩
 rw [e1,h1.2]
 rfl
theorem trodAll_stays (hl:laidOutB P=true) {W':World} (hb:Below W.heap.size W W') {sp:Nat->Bool}:∀ {ts:List TypeId} {vs:List Value} {ds:List (DataW H)} {p:List MemPlace},(∀ t∈ts,P.readableRec t=true/\t < P.types.size) ->
  DataW.TrodAll enc P W 0 (fun _=>true) true ts vs ds p->(∀ x∈p,x.block < W.heap.size)->(∀ x∈p,sp x.block=true)->DataW.TrodAll enc P W' 0 sp true ts vs ds p
 | [],[],[],p,_,h,_,_=>h
 | t :: ts,v :: vs,d :: ds,p,ht,h,h1,h2=>by
  obtain ⟨p1,p2,h3,h4,rfl⟩:=h
  have h5:=ht t (by simp)
  refine ⟨p1,p2,WideElems.Trod_stays hl h5.1 h5.2 h3 (fun x hx=>hb.same (h1 x (by simp [hx]))) (fun x hx=>h2 x (by simp [hx])),trodAll_stays hl hb (fun t ht'=>ht t (by simp [ht'])) h4 (fun x hx=>h1 x (by simp [hx])) (fun x hx=>h2 x (by simp [hx])),rfl⟩
 | [],_ :: _,_,_,_,h,_,_=>h.elim
 | [],[],_ :: _,_,_,h,_,_=>h.elim
 | _ :: _,[],_,_,_,h,_,_=>h.elim
 | _ :: _,_ :: _,[],_,_,h,_,_=>h.elim
theorem post_of_below (hl:laidOutB P=true) {f:Func} {s:ChangeSpec} {apart fresh handsOn again:Bool} {W':World} {args:Array Value} {ds gs:List (DataW H)} {before:List MemPlace}
  (hW:DataW.Whole enc P f.params.toList s.vars apart W args.toList ds gs before) (hv0:s.vars=[]) (hts:∀ t∈f.params.toList,P.readableRec t=true/\t < P.types.size)
  (hfn:s.fn H ds = { results:=[.lit (.bool true)],args:=ds }) {tb:TypeId} (hres:f.resultTypes = #[tb]) (htb:P.underlying tb=some .bool) (hb:Below W.heap.size W W') (hok:∀ W':World,Value.okWide P W' .any 0 tb (.bool true)) :
  s.post enc P f apart fresh handsOn again W args (.bool true) W':=by
 have hlt:∀ p∈before,p.block < W.heap.size:=fun p hp=>hW.lt p hp
 have hW0:=hW
 obtain ⟨p,q,hA,hV,rfl,hz,hn⟩:=hW
 rw [hv0] at hV
 obtain ⟨rfl,rfl⟩:=trodVars_none hV
 simp only [List.append_nil] at hlt hz hn
 have hfn2:s.fn H (ds ++ []) = { results:=[.lit (.bool true)],args:=ds }:=by rw [List.append_nil];exact hfn
 have hvar:∀ sp:Nat->Bool,DataW.TrodVars enc P W' sp s.vars [] []:=fun sp=>by rw [hv0];rfl
 have hr:∀ (b:Nat) (sp:Nat->Bool) (hd:Bool),DataW.TrodAll enc P W' b sp hd f.resultTypes.toList ((Value.bool true).resultList f.resultTypes.size) [.lit (.bool true)] []:=fun b sp hd=>by
  rw [hres]
  exact trodAll_cons_mk (p:=[]) (p':=[]) (shut_bool htb _) trodAll_mk0
 have ha:∀ sp:Nat->Bool,(∀ x∈p,sp x.block=true)->DataW.TrodAll enc P W' 0 sp true f.params.toList args.toList ds p:=fun sp hs=>trodAll_stays hl hb hts hA hlt hs
 exact post_of_old (pa:=p) (pv:=[]) hW0 (fun b sp hd=>by rw [hfn2];exact hr b sp hd) (fun sp hs=>by rw [hfn2];exact ha sp fun x hx=>hs x (by simp [hx])) (fun sp _=>by rw [hfn2];exact hvar sp) rfl ⟨hb.os,hb.output,hb.size,hb.block⟩ (ok_one hres rfl (hok W'))
end
end Go.Proofs.Ytncfmemhjahpeaa.Ab
namespace Go.Proofs.Ytncfmemhjahpeaa.Ab
open Go Go.ChangeShapes Go.WideShapes Go.ChangeAt Go.RowKit
set_option maxRecDepth 100000
section
variable {H:Type} {enc:TypeId×Value->H} {W:World}
theorem laidOut:laidOutB Try.prog=true:=by kernel_rfl
theorem okBool (W':World):Value.okWide Try.prog W' .any 0 4 (.bool true):=okWide_bool_mk Try.underlying4 _
end
end Go.Proofs.Ytncfmemhjahpeaa.Ab
namespace Go.Proofs.Ytncfmemhjahpeaa.Ab
open Go
section
variable {K:Type} [DecidableEq K]
def co (k:K):List (K×Int)->Int
 | []=>0
 | x :: l=>(if x.1=k then x.2 else 0)+co k l
theorem co_append (k:K):∀ (l r:List (K×Int)),co k (l ++ r)=co k l+co k r
 | [],r=>by simp [co]
 | x :: l,r=>by simp [co,co_append k l r,Int.add_assoc]
theorem co_none (k:K):∀ (l:List (K×Int)),(∀ x∈l,x.1≠k)->co k l=0
 | [],_=>rfl
 | x :: l,h=>by
  simp only [co]
  rw [if_neg (h x (by simp)),co_none k l fun y hy=>h y (by simp [hy])]
  rfl
theorem co_perm (k:K) {l r:List (K×Int)} (h:l.Perm r):co k l=co k r:=by
 induction h with
 | nil=>rfl
 | cons x _ ih=>simp [co,ih]
 | swap x y l=>simp only [co];omega
 | trans _ _ ih1 ih2=>rw [ih1,ih2]
theorem co_mem {k:K}:∀ {l:List (K×Int)},co k l≠0->∃ x∈l,x.1=k
 | [],h=>absurd rfl h
 | x :: l,h=>by
  simp only [co] at h
  by_cases e:x.1=k
  ·exact ⟨x,by simp,e⟩
  ·rw [if_neg e] at h
   obtain ⟨y,hy,e2⟩:=co_mem (k:=k) (l:=l) (by omega)
   exact ⟨y,by simp [hy],e2⟩
structure Ord (lt:K->K->Bool):Prop where
 irr:∀ a,lt a a=false
 tr:∀ a b c,lt a b=true->lt b c=true->lt a c=true
 tot:∀ a b,lt a b=true\/a=b\/lt b a=true
variable {lt:K->K->Bool}
def Desc (lt:K->K->Bool) (l:List (K×Int)):Prop:=l.Pairwise fun a b=>lt b.1 a.1=true
def Nz (l:List (K×Int)):Prop:=∀ x∈l,x.2≠0
theorem desc_tail_ne (ho:Ord lt) {x:K×Int} {l:List (K×Int)} (h:Desc lt (x :: l)):∀ y∈l,y.1≠x.1:=by
 intro y hy e
 have:=(List.pairwise_cons.1 h).1 y hy
 rw [e,ho.irr] at this
 simp at this
theorem desc_above (ho:Ord lt) {x:K×Int} {l:List (K×Int)} (h:Desc lt (x :: l)) {k:K} (hk:lt x.1 k=true):∀ y∈x :: l,y.1≠k:=by
 intro y hy e
 rcases List.mem_cons.1 hy with rfl | hy
 ·rw [e,ho.irr] at hk
  simp at hk
 ·have:=ho.tr _ _ _ ((List.pairwise_cons.1 h).1 y hy) hk
  rw [e,ho.irr] at this
  simp at this
theorem desc_unique (ho:Ord lt):∀ (l r:List (K×Int)),Desc lt l->Desc lt r->Nz l->Nz r->(∀ k,co k l=co k r)->l=r
 | [],[],_,_,_,_,_=>rfl
 | [],y :: r,_,h2,_,z2,h=>by
  have:=h y.1
  simp only [co,if_true] at this
  rw [co_none y.1 r (desc_tail_ne ho h2)] at this
  exact absurd (by omega) (z2 y (by simp))
 | x :: l,[],h1,_,z1,_,h=>by
  have:=h x.1
  simp only [co,if_true] at this
  rw [co_none x.1 l (desc_tail_ne ho h1)] at this
  exact absurd (by omega) (z1 x (by simp))
 | x :: l,y :: r,h1,h2,z1,z2,h=>by
  rcases ho.tot x.1 y.1 with e | e | e
  ·have:=h y.1
   rw [co_none y.1 _ (desc_above ho h1 e)] at this
   simp only [co,if_true] at this
   rw [co_none y.1 r (desc_tail_ne ho h2)] at this
   exact absurd (by omega) (z2 y (by simp))
  ·have e2:x.2=y.2:=by
    have:=h x.1
    simp only [co,if_true] at this
    rw [if_pos e.symm,co_none x.1 l (desc_tail_ne ho h1),e,co_none y.1 r (desc_tail_ne ho h2)] at this
    omega
   have exy:x=y:=Prod.ext e e2
   subst exy
   congr 1
   refine desc_unique ho l r (List.pairwise_cons.1 h1).2 (List.pairwise_cons.1 h2).2 (fun z hz=>z1 z (by simp [hz])) (fun z hz=>z2 z (by simp [hz])) fun k=>?_
   have:=h k
   simp only [co] at this
   omega
  ·have:=h x.1
   rw [co_none x.1 (y :: r) (desc_above ho h2 e)] at this
   simp only [co,if_true] at this
   rw [co_none x.1 l (desc_tail_ne ho h1)] at this
   exact absurd (by omega) (z1 x (by simp))
def insK (lt:K->K->Bool) (k:K) (c:Int):List (K×Int)->List (K×Int)
 | []=>if c=0 then [] else [(k,c)]
 | x :: l=>if x.1=k then (if x.2+c=0 then l else (k,x.2+c) :: l) else if lt x.1 k then (if c=0 then x :: l else (k,c) :: x :: l) else x :: insK lt k c l
def nf (lt:K->K->Bool):List (K×Int)->List (K×Int)
 | []=>[]
 | x :: l=>insK lt x.1 x.2 (nf lt l)
theorem insK_mem {k:K} {c:Int}:∀ {l:List (K×Int)} {y:K×Int},y∈insK lt k c l->y.1=k\/y∈l
 | [],y,h=>by
  simp only [insK] at h
  split at h
  ·simp at h
  ·simp only [List.mem_singleton] at h
   subst h
   exact .inl rfl
 | x :: l,y,h=>by
  simp only [insK] at h
  split at h
  ·split at h
   ·exact .inr (by simp [h])
   ·rcases List.mem_cons.1 h with rfl | h
    ·exact .inl rfl
    ·exact .inr (by simp [h])
  ·split at h
   ·split at h
    ·exact .inr h
    ·rcases List.mem_cons.1 h with rfl | h
     ·exact .inl rfl
     ·exact .inr h
   ·rcases List.mem_cons.1 h with rfl | h
    ·exact .inr (by simp)
    ·rcases insK_mem h with h | h
     ·exact .inl h
     ·exact .inr (by simp [h])
theorem insK_desc (ho:Ord lt) (k:K) (c:Int):∀ (l:List (K×Int)),Desc lt l->Desc lt (insK lt k c l)
 | [],_=>by
  simp only [insK]
  split
  ·exact List.Pairwise.nil
  ·exact List.pairwise_singleton _ _
 | x :: l,h=>by
  have h1:=List.pairwise_cons.1 h
  simp only [insK]
  split
  ·rename_i e
   split
   ·exact h1.2
   ·exact List.pairwise_cons.2 ⟨fun y hy=>by rw [<-e];exact h1.1 y hy,h1.2⟩
  ·rename_i e
   split
   ·rename_i e2
    split
    ·exact h
    ·refine List.pairwise_cons.2 ⟨fun y hy=>?_,h⟩
     rcases List.mem_cons.1 hy with rfl | hy
     ·exact e2
     ·exact ho.tr _ _ _ (h1.1 y hy) e2
   ·rename_i e2
    refine List.pairwise_cons.2 ⟨fun y hy=>?_,insK_desc ho k c l h1.2⟩
    rcases insK_mem hy with hy | hy
    ·rw [hy]
     rcases ho.tot k x.1 with q | q | q
     ·exact q
     ·exact absurd q.symm e
     ·exact absurd q e2
    ·exact h1.1 y hy
theorem insK_nz (k:K) (c:Int):∀ (l:List (K×Int)),Nz l->Nz (insK lt k c l)
 | [],_=>by
  simp only [insK]
  split
  ·intro y hy;simp at hy
  ·rename_i hc
   intro y hy
   simp only [List.mem_singleton] at hy
   subst hy
   exact hc
 | x :: l,h=>by
  have h1:Nz l:=fun z hz=>h z (by simp [hz])
  simp only [insK]
  split
  ·split
   ·exact h1
   ·rename_i hc
    intro y hy
    rcases List.mem_cons.1 hy with rfl | hy
    ·exact hc
    ·exact h1 y hy
  ·split
   ·split
    ·exact h
    ·rename_i hc
     intro y hy
     rcases List.mem_cons.1 hy with rfl | hy
     ·exact hc
     ·exact h y hy
   ·intro y hy
    rcases List.mem_cons.1 hy with rfl | hy
    ·exact h y (by simp)
    ·exact insK_nz k c l h1 y hy
theorem insK_co (k:K) (c:Int) (q:K):∀ (l:List (K×Int)),co q (insK lt k c l)=(if k=q then c else 0)+co q l
 | []=>by
  simp only [insK]
  split
  ·rename_i e
   subst e
   simp [co]
  ·simp [co]
 | x :: l=>by
  simp only [insK]
  split
  ·rename_i e
   split
   ·rename_i e2
    simp only [co,e]
    split <;> omega
   ·simp only [co,e]
    split <;> omega
  ·split
   ·split
    ·rename_i e
     subst e
     simp
    ·simp only [co]
   ·simp only [co,insK_co k c q l]
    omega
theorem nf_desc (ho:Ord lt):∀ (l:List (K×Int)),Desc lt (nf lt l)
 | []=>List.Pairwise.nil
 | x :: l=>insK_desc ho _ _ _ (nf_desc ho l)
theorem nf_nz:∀ (l:List (K×Int)),Nz (nf lt l)
 | []=>by intro y hy;simp [nf] at hy
 | x :: l=>insK_nz _ _ _ (nf_nz l)
theorem nf_co (q:K):∀ (l:List (K×Int)),co q (nf lt l)=co q l
 | []=>rfl
 | x :: l=>by
  simp only [nf,insK_co,nf_co q l,co]
theorem nf_mem:∀ {l:List (K×Int)} {y:K×Int},y∈nf lt l->∃ x∈l,x.1=y.1
 | [],y,h=>by simp [nf] at h
 | x :: l,y,h=>by
  rcases insK_mem h with h | h
  ·exact ⟨x,by simp,h.symm⟩
  ·obtain ⟨z,hz,e⟩:=nf_mem h
   exact ⟨z,by simp [hz],e⟩
theorem nf_unique (ho:Ord lt) {t l:List (K×Int)} (h1:Desc lt t) (h2:Nz t) (h3:∀ k,co k t=co k l):t=nf lt l:=
 desc_unique ho t (nf lt l) h1 (nf_desc ho l) h2 (nf_nz l) fun k=>by rw [h3 k,nf_co]
end
def lexlt:List Int->List Int->Bool
 | [],[]=>false
 | [],_ :: _=>true
 | _ :: _,[]=>false
 | a :: x,b :: y=>if a=b then lexlt x y else decide (a < b)
theorem lexlt_irr:∀ a,lexlt a a=false
 | []=>rfl
 | a :: x=>by simp [lexlt,lexlt_irr x]
theorem lexlt_tr:∀ a b c,lexlt a b=true->lexlt b c=true->lexlt a c=true
 | [],[],_,h,_=>by simp [lexlt] at h
 | [],_ :: _,[],_,h=>by simp [lexlt] at h
 | [],_ :: _,_ :: _,_,_=>rfl
 | _ :: _,[],_,h,_=>by simp [lexlt] at h
 | _ :: _,_ :: _,[],_,h=>by simp [lexlt] at h
 | a :: x,b :: y,c :: z,h1,h2=>by
  simp only [lexlt] at h1 h2 ⊢
  by_cases e1:a=b
  ·subst e1
   rw [if_pos rfl] at h1
   by_cases e2:a=c
   ·subst e2
    rw [if_pos rfl] at h2 ⊢
    exact lexlt_tr x y z h1 h2
   ·rw [if_neg e2] at h2 ⊢
    exact h2
  ·rw [if_neg e1] at h1
   by_cases e2:b=c
   ·subst e2
    rw [if_neg e1]
    exact h1
   ·rw [if_neg e2] at h2
    simp only [decide_eq_true_eq] at h1 h2
    rw [if_neg (by omega)]
    simp only [decide_eq_true_eq]
    omega
theorem lexlt_tot:∀ a b,lexlt a b=true\/a=b\/lexlt b a=true
 | [],[]=>.inr (.inl rfl)
 | [],_ :: _=>.inl rfl
 | _ :: _,[]=>.inr (.inr rfl)
 | a :: x,b :: y=>by
  simp only [lexlt]
  by_cases e:a=b
  ·subst e
   simp only [if_true]
   rcases lexlt_tot x y with h | h | h
   ·exact .inl h
   ·exact .inr (.inl (by rw [h]))
   ·exact .inr (.inr h)
  ·rw [if_neg e,if_neg (Ne.symm e)]
   simp only [decide_eq_true_eq]
   omega
theorem lexOrd:Ord lexlt:=⟨lexlt_irr,lexlt_tr,lexlt_tot⟩
def qlt (a b:List Int×Int):Bool:=if a.1=b.1 then decide (a.2 < b.2) else lexlt a.1 b.1
end Go.Proofs.Ytncfmemhjahpeaa.Ab
namespace Go.Proofs.Ytncfmemhjahpeaa.Ab
open Go
section
variable {K:Type} [DecidableEq K]
structure Act (lt:K->K->Bool) (mul dv:K->K->K) (D:K->Prop):Prop where
 mul_dv:∀ a b,D a->D b->mul (dv a b) b=a
 dv_lt:∀ x y b,D x->D y->D b->lt x y=true->lt (dv x b) (dv y b)=true
 mul_lt:∀ e x y,D e->D x->D y->lt x y=true->lt (mul e x) (mul e y)=true
 dmul:∀ a b,D a->D b->D (mul a b)
 ddv:∀ a b,D a->D b->D (dv a b)
def mulT (mul:K->K->K) (e:K) (q:Int) (g:List (K×Int)):List (K×Int):=g.map fun y=>(mul e y.1,q*y.2)
def prodK (mul:K->K->K) (a g:List (K×Int)):List (K×Int):=a.flatMap fun x=>mulT mul x.1 x.2 g
def divGo (lt:K->K->Bool) (mul dv:K->K->K) (chk:K->Int->Bool) (g:List (K×Int)) (b:K) (d:Int):Nat->List (K×Int)->Option (List (K×Int))
 | _,[]=>some []
 | 0,_ :: _=>none
 | k+1,x :: R=>if x.2.tmod d=0/\chk (dv x.1 b) (x.2.tdiv d)=true then
   (divGo lt mul dv chk g b d k (nf lt (x :: R ++ mulT mul (dv x.1 b) (-(x.2.tdiv d)) g))).map ((dv x.1 b,x.2.tdiv d) :: ·) else none
variable {lt:K->K->Bool} {mul dv:K->K->K} {D:K->Prop} {chk chk':K->Int->Bool} {g:List (K×Int)} {b:K} {d:Int}
theorem co_mulT_neg (mul:K->K->K) (k e:K) (q:Int):∀ g:List (K×Int),co k (mulT mul e (-q) g)=-co k (mulT mul e q g)
 | []=>rfl
 | y :: g=>by
  simp only [mulT,List.map_cons,co]
  have:=co_mulT_neg mul k e q g
  simp only [mulT] at this
  rw [this]
  split
  ·rw [Int.neg_mul];omega
  ·omega
theorem tmod_tdiv {a d:Int} (h:a.tmod d=0):a.tdiv d*d=a:=by
 have:=Int.mul_tdiv_add_tmod a d
 rw [h,Int.mul_comm] at this
 omega
theorem step_less (ho:Ord lt) (ha:Act lt mul dv D) {x:K×Int} {R:List (K×Int)} {G:List (K×Int)} (hR:Desc lt (x :: R)) (hRD:∀ y∈x :: R,D y.1) (hg:Desc lt ((b,d) :: G)) (hgD:∀ y∈(b,d) :: G,D y.1) (hm:x.2.tmod d=0) :
  (∀ y∈nf lt (x :: R ++ mulT mul (dv x.1 b) (-(x.2.tdiv d)) ((b,d) :: G)),lt y.1 x.1=true/\D y.1):=by
 intro y hy
 have hb:=hgD (b,d) (by simp)
 have hx:=hRD x (by simp)
 have hdv:=ha.ddv x.1 b hx hb
 have key:D y.1/\(y.1=x.1\/lt y.1 x.1=true):=by
  obtain ⟨z,hz,e⟩:=nf_mem hy
  rw [<-e]
  rcases List.mem_append.1 hz with hz | hz
  ·refine ⟨hRD z hz,?_⟩
   rcases List.mem_cons.1 hz with rfl | hz
   ·exact .inl rfl
   ·exact .inr (List.rel_of_pairwise_cons hR hz)
  ·obtain ⟨u,hu,rfl⟩:=List.mem_map.1 hz
   refine ⟨ha.dmul _ _ hdv (hgD u hu),?_⟩
   rcases List.mem_cons.1 hu with rfl | hu2
   ·exact .inl (ha.mul_dv _ _ hx hb)
   ·right
    have:=ha.mul_lt (dv x.1 b) u.1 b hdv (hgD u hu) hb (List.rel_of_pairwise_cons hg hu2)
    rwa [ha.mul_dv _ _ hx hb] at this
 refine ⟨?_,key.1⟩
 rcases key.2 with e | h
 ·exfalso
  have hz:=nf_nz _ y hy
  have h1:co y.1 (nf lt (x :: R ++ mulT mul (dv x.1 b) (-(x.2.tdiv d)) ((b,d) :: G)))=y.2:=by
   have hd:=nf_desc ho (x :: R ++ mulT mul (dv x.1 b) (-(x.2.tdiv d)) ((b,d) :: G))
   generalize nf lt (x :: R ++ mulT mul (dv x.1 b) (-(x.2.tdiv d)) ((b,d) :: G))=N at hy hd
   clear hz e key
   induction N with
   | nil=>simp at hy
   | cons z N ih=>
    simp only [co]
    rcases List.mem_cons.1 hy with rfl | hy2
    ·rw [if_pos rfl,co_none _ _ (desc_tail_ne ho hd)]
     omega
    ·rw [if_neg (fun e=>desc_tail_ne ho hd y hy2 e.symm),ih hy2 (List.Pairwise.of_cons hd)]
     omega
  rw [nf_co,co_append,co_mulT_neg,e] at h1
  simp only [co,if_pos,mulT,List.map_cons,ha.mul_dv _ _ hx hb] at h1
  rw [co_none _ R (desc_tail_ne ho hR),co_none x.1 _ (fun z hz=>?_),tmod_tdiv hm] at h1
  ·exact hz (by omega)
  ·obtain ⟨u,hu,rfl⟩:=List.mem_map.1 hz
   have h2:=ha.mul_lt (dv x.1 b) u.1 b hdv (hgD u (by simp [hu])) hb (List.rel_of_pairwise_cons hg hu)
   rw [ha.mul_dv _ _ hx hb] at h2
   intro e3
   simp only at e3
   rw [e3,ho.irr] at h2
   simp at h2
 ·exact h
theorem co_single (ho:Ord lt):∀ {l:List (K×Int)} {x:K×Int},Desc lt l->x∈l->co x.1 l=x.2
 | [],x,_,h=>by simp at h
 | z :: l,x,hd,h=>by
  simp only [co]
  rcases List.mem_cons.1 h with rfl | h2
  ·rw [if_pos rfl,co_none _ _ (desc_tail_ne ho hd)]
   omega
  ·rw [if_neg (fun e=>desc_tail_ne ho hd x h2 e.symm),co_single ho (List.Pairwise.of_cons hd) h2]
   omega
def absK (l:List (K×Int)):Nat:=(l.map fun x=>x.2.natAbs).sum
theorem absK_append (l r:List (K×Int)):absK (l ++ r)=absK l+absK r:=by simp [absK]
theorem insK_abs (k:K) (c:Int):∀ l:List (K×Int),absK (insK lt k c l)<=c.natAbs+absK l/\(insK lt k c l).length<=l.length+1
 | []=>by
  simp only [insK]
  split <;> simp [absK]
 | x :: l=>by
  have ih:=insK_abs k c l
  simp only [insK]
  split
  ·split
   ·simp [absK];omega
   ·simp [absK];omega
  ·split
   ·split
    ·simp [absK]
    ·simp [absK]
   ·simp only [absK,List.map_cons,List.sum_cons,List.length_cons] at ih ⊢
    omega
theorem nf_abs:∀ l:List (K×Int),absK (nf lt l)<=absK l/\(nf lt l).length<=l.length
 | []=>by simp [nf,absK]
 | x :: l=>by
  have ih:=nf_abs l
  have h:=insK_abs (lt:=lt) x.1 x.2 (nf lt l)
  simp only [nf]
  simp only [absK,List.map_cons,List.sum_cons,List.length_cons] at ih h ⊢
  omega
theorem mulT_abs (e:K) (q:Int):∀ g:List (K×Int),absK (mulT mul e q g)=q.natAbs*absK g
 | []=>rfl
 | y :: g=>by
  have:=mulT_abs e q g
  simp only [absK,mulT,List.map_cons,List.sum_cons,List.map_map] at this ⊢
  rw [Int.natAbs_mul,Nat.mul_add]
  omega
@[simp] theorem mulT_length (e:K) (q:Int) (g:List (K×Int)):(mulT mul e q g).length=g.length:=by simp [mulT]
end
end Go.Proofs.Ytncfmemhjahpeaa.Ab
namespace Go.Proofs.Ytncfmemhjahpeaa.Ab
open Go
section
variable {K:Type} [DecidableEq K] {lt:K->K->Bool} {mul:K->K->K}
def vl (φ:K->Int):List (K×Int)->Int
 | []=>0
 | x :: l=>x.2*φ x.1+vl φ l
omit [DecidableEq K] in
theorem vl_app (φ:K->Int):∀ l r:List (K×Int),vl φ (l ++ r)=vl φ l+vl φ r
 | [],r=>by simp [vl]
 | x :: l,r=>by simp only [List.cons_append,vl,vl_app φ l r];omega
theorem vl_insK (φ:K->Int) (k:K) (c:Int):∀ l:List (K×Int),vl φ (insK lt k c l)=c*φ k+vl φ l
 | []=>by
  simp only [insK]
  split
  ·rename_i h;simp [vl,h]
  ·simp [vl]
 | x :: l=>by
  simp only [insK]
  split
  ·rename_i h
   subst h
   split
   ·rename_i h2
    have:c=-x.2:=by omega
    subst this
    simp only [vl,Int.neg_mul]
    omega
   ·simp only [vl,Int.add_mul]
    omega
  ·split
   ·split
    ·rename_i h;simp [vl,h]
    ·simp only [vl]
   ·simp only [vl,vl_insK φ k c l]
    omega
theorem vl_nf (φ:K->Int):∀ l:List (K×Int),vl φ (nf lt l)=vl φ l
 | []=>rfl
 | x :: l=>by simp only [nf,vl_insK,vl_nf φ l,vl]
theorem co_vl (k:K):∀ l:List (K×Int),co k l=vl (fun e=>if e=k then 1 else 0) l
 | []=>rfl
 | x :: l=>by
  simp only [co,vl,co_vl k l]
  split <;> simp
theorem nf_vl (ho:Ord lt) {l r:List (K×Int)} (h:∀ φ,vl φ l=vl φ r):nf lt l=nf lt r:=
 nf_unique ho (nf_desc ho _) (nf_nz _) fun k=>by rw [nf_co,co_vl,co_vl,h]
omit [DecidableEq K] in
theorem vl_congr {φ ψ:K->Int}:∀ {l:List (K×Int)},(∀ x∈l,φ x.1=ψ x.1)->vl φ l=vl ψ l
 | [],_=>rfl
 | x :: l,h=>by
  simp only [vl,h x (by simp),vl_congr (l:=l) fun y hy=>h y (by simp [hy])]
omit [DecidableEq K] in
theorem vl_add (φ ψ:K->Int):∀ l:List (K×Int),vl (fun e=>φ e+ψ e) l=vl φ l+vl ψ l
 | []=>rfl
 | x :: l=>by
  simp only [vl,vl_add φ ψ l,Int.mul_add]
  omega
omit [DecidableEq K] in
theorem vl_mul (c:Int) (φ:K->Int):∀ l:List (K×Int),vl (fun e=>c*φ e) l=c*vl φ l
 | []=>by simp [vl]
 | x :: l=>by
  simp only [vl,vl_mul c φ l,Int.mul_add]
  rw [Int.mul_left_comm]
omit [DecidableEq K] in
theorem vl_zero:∀ l:List (K×Int),vl (fun _=>0) l=0
 | []=>rfl
 | x :: l=>by simp [vl,vl_zero l]
omit [DecidableEq K] in
theorem vl_fub {J:Type} (φ:K->J->Int) (b:List (J×Int)):∀ a:List (K×Int),vl (fun e=>vl (fun e'=>φ e e') b) a=vl (fun e'=>vl (fun e=>φ e e') a) b
 | []=>by
  simp only [vl]
  rw [vl_zero]
 | x :: a=>by
  simp only [vl]
  rw [vl_add,vl_mul,vl_fub φ b a]
omit [DecidableEq K] in
theorem vl_map (g:K->K) (q:Int) (φ:K->Int):∀ l:List (K×Int),vl φ (l.map fun y=>(g y.1,q*y.2))=q*vl (fun e=>φ (g e)) l
 | []=>by simp [vl]
 | x :: l=>by
  simp only [List.map_cons,vl,vl_map g q φ l,Int.mul_add,Int.mul_assoc]
omit [DecidableEq K] in
theorem vl_prodK (φ:K->Int) (g:List (K×Int)):∀ a:List (K×Int),vl φ (prodK mul a g)=vl (fun e=>vl (fun e'=>φ (mul e e')) g) a
 | []=>rfl
 | x :: a=>by
  have:=vl_prodK φ g a
  unfold prodK at this ⊢
  simp only [List.flatMap_cons,vl_app,vl,this]
  unfold mulT
  rw [vl_map]
omit [DecidableEq K] in
theorem vl_prod_com {D:K->Prop} (hc:∀ a b,D a->D b->mul a b=mul b a) (φ:K->Int) {a b:List (K×Int)} (ha:∀ x∈a,D x.1) (hb:∀ x∈b,D x.1):vl φ (prodK mul a b)=vl φ (prodK mul b a):=by
 rw [vl_prodK,vl_prodK,vl_fub]
 exact vl_congr fun x hx=>vl_congr fun y hy=>by rw [hc _ _ (ha y hy) (hb x hx)]
omit [DecidableEq K] in
omit [DecidableEq K] in
end
end Go.Proofs.Ytncfmemhjahpeaa.Ab
namespace Go.Proofs.Ytncfmemhjahpeaa.Ab
open Go
def keyA (k:Int):List Int->Int
 | []=>k
 | x :: l=>keyA (k*128+x+64) l
def Dig (l:List Int):Prop:=∀ x∈l,-64<=x/\x<=63
theorem Dig.tail {x:Int} {l:List Int} (h:Dig (x :: l)):Dig l:=fun y hy=>h y (by simp [hy])
theorem Dig.head {x:Int} {l:List Int} (h:Dig (x :: l)):-64<=x/\x<=63:=h x (by simp)
theorem keyA_lt:∀ (a b:List Int) (p q:Int),a.length=b.length->Dig a->Dig b->p < q->keyA p a < keyA q b
 | [],[],p,q,_,_,_,h=>h
 | x :: a,y :: b,p,q,hl,ha,hb,h=>by
  have h1:=ha.head
  have h2:=hb.head
  exact keyA_lt a b _ _ (by simpa using hl) ha.tail hb.tail (by omega)
 | [],_ :: _,_,_,h,_,_,_=>by simp at h
 | _ :: _,[],_,_,h,_,_,_=>by simp at h
theorem keyA_lex:∀ (a b:List Int) (p:Int),a.length=b.length->Dig a->Dig b->lexlt a b=true->keyA p a < keyA p b
 | [],[],p,_,_,_,h=>by simp [lexlt] at h
 | x :: a,y :: b,p,hl,ha,hb,h=>by
  simp only [lexlt] at h
  have h1:=ha.head
  have h2:=hb.head
  split at h
  ·rename_i e
   subst e
   exact keyA_lex a b _ (by simpa using hl) ha.tail hb.tail h
  ·simp only [decide_eq_true_eq] at h
   exact keyA_lt a b _ _ (by simpa using hl) ha.tail hb.tail (by omega)
 | [],_ :: _,_,h,_,_,_=>by simp at h
 | _ :: _,[],_,h,_,_,_=>by simp at h
theorem keyA_nonneg:∀ (a:List Int) (p:Int),Dig a->0<=p->0<=keyA p a
 | [],p,_,h=>h
 | x :: a,p,ha,h=>keyA_nonneg a _ ha.tail (by have:=ha.head;omega)
def addE (k:Int):List Int->List Int->List Int
 | x :: a,y :: b=>(x+k*y) :: addE k a b
 | a,[]=>a
 | [],_=>[]
theorem addE_length (k:Int):∀ (a b:List Int),a.length=b.length->(addE k a b).length=a.length
 | [],[],_=>rfl
 | x :: a,y :: b,h=>by simp [addE,addE_length k a b (by simpa using h)]
 | [],_ :: _,h=>by simp at h
 | _ :: _,[],h=>by simp at h
theorem addE_snoc (t x y:Int):∀ (a b:List Int),a.length=b.length->addE t (a ++ [x]) (b ++ [y])=addE t a b ++ [x+t*y]
 | [],[],_=>rfl
 | u :: a,v :: b,h=>by simp [addE,addE_snoc t x y a b (by simpa using h)]
 | [],_ :: _,h=>by simp at h
 | _ :: _,[],h=>by simp at h
theorem addE_get {t:Int} {aas bs:List Int} {i:Nat} (h:i < aas.length) (hl:aas.length=bs.length):(addE t (aas.take i) (bs.take i) ++ aas.drop i)[i]? = some aas[i]:=by
 have h1:(addE t (aas.take i) (bs.take i)).length=i:=by
  rw [addE_length _ _ _ (by simp;omega)]
  simp
  omega
 rw [List.getElem?_append_right (by omega),h1,Nat.sub_self,List.drop_eq_getElem_cons h]
 rfl
theorem addE_step {t:Int} {aas bs:List Int} {i:Nat} (h:i < aas.length) (hl:aas.length=bs.length):(addE t (aas.take i) (bs.take i) ++ aas.drop i).set i (aas[i]+t*bs[i])=addE t (aas.take (i+1)) (bs.take (i+1)) ++ aas.drop (i+1):=by
 have h1:(addE t (aas.take i) (bs.take i)).length=i:=by
  rw [addE_length _ _ _ (by simp;omega)]
  simp
  omega
 rw [List.set_append_right _ _ (by omega),h1,Nat.sub_self,List.drop_eq_getElem_cons h,List.set_cons_zero,List.take_succ_eq_append_getElem h,List.take_succ_eq_append_getElem (show i < bs.length by omega),addE_snoc _ _ _ _ _ (by simp;omega),List.append_assoc]
 rfl
theorem keyA_add:∀ (a b:List Int) (p q s:Int),a.length=b.length->keyA (p+q - s) (addE 1 a b)=keyA p a+keyA q b - keyA s (List.replicate a.length 0)
 | [],[],p,q,s,_=>rfl
 | x :: a,y :: b,p,q,s,h=>by
  simp only [addE,keyA,List.length_cons,List.replicate_succ]
  rw [<-keyA_add a b _ _ _ (by simpa using h)]
  congr 1
  omega
 | [],_ :: _,_,_,_,h=>by simp at h
 | _ :: _,[],_,_,_,h=>by simp at h
end Go.Proofs.Ytncfmemhjahpeaa.Ab
namespace Go.Proofs.Ytncfmemhjahpeaa.Ab
open Go
def Good (v:Int) (t:Trm):Prop:=(t.e.length:Int)=v/\t.c≠0/\(-1000000<=t.c/\t.c<=1000000)/\∀ x∈t.e,-20<=x/\x<=20
def DescT (ts:List Trm):Prop:=ts.Pairwise fun a b=>lexlt b.e a.e=true
def Right (f:Lau):Prop:=(1<=f.v/\f.v<=8)/\f.ts.length<=600/\(∀ t∈f.ts,Good f.v t)/\DescT f.ts
noncomputable instance (f:Lau):Decidable (Right f):=Classical.propDecidable _
def zeroF:Lau:=⟨0,[]⟩
theorem descT_snoc {ts:List Trm} {t:Trm} (h:DescT ts) (hl:∀ x,ts.getLast? = some x->lexlt t.e x.e=true):DescT (ts ++ [t]):=by
 unfold DescT at *
 rw [List.pairwise_append]
 refine ⟨h,List.pairwise_singleton _ _,fun a ha b hb=>?_⟩
 simp only [List.mem_singleton] at hb
 subst hb
 rcases List.eq_nil_or_concat ts with rfl | ⟨l,x,rfl⟩
 ·simp at ha
 ·have hx:=hl x (by simp)
  simp only [List.concat_eq_append,List.mem_append,List.mem_singleton] at ha
  rcases ha with ha | rfl
  ·simp only [List.concat_eq_append] at h
   rw [List.pairwise_append] at h
   exact lexlt_tr _ _ _ hx (h.2.2 a ha x (by simp))
  ·exact hx
theorem descT_step {ts:List Trm} {j:Nat} (h1:j < ts.length) (h:DescT (ts.take j)) (hl:j=0\/lexlt ts[j].e ts[j - 1].e=true):DescT (ts.take (j+1)):=by
 rw [List.take_succ_eq_append_getElem h1]
 refine descT_snoc h fun x hx=>?_
 rcases hl with rfl | hl
 ·simp at hx
 ·rcases Nat.eq_zero_or_pos j with rfl | hj
  ·simp at hx
  ·have:(ts.take j).getLast? = some ts[j - 1]:=by
    rw [List.getLast?_eq_getElem?,List.length_take,Nat.min_eq_left (Nat.le_of_lt h1),List.getElem?_take_of_lt (by omega),List.getElem?_eq_getElem (by omega)]
   rw [this] at hx
   injection hx with hx
   subst hx
   exact hl
theorem descT_next {ts:List Trm} {j:Nat} (h1:j < ts.length) (h:DescT ts):j=0\/lexlt ts[j].e ts[j - 1].e=true:=by
 rcases Nat.eq_zero_or_pos j with rfl | hj
 ·exact .inl rfl
 ·right
  exact List.pairwise_iff_getElem.1 h (j - 1) j (by omega) h1 (by omega)
def gM (x:Int×Int):List D:=[D.int x.1,D.int x.2]
theorem gM_two (x:Int×Int):(gM x).length=2:=rfl
@[simp] theorem gM_length (l:List (Int×Int)):(rows gM l).length=2*l.length:=rows_length gM_two l
theorem gM_leaf:∀ l:List (Int×Int),leafL (rows gM l)
 | []=>trivial
 | x :: l=>⟨rfl,rfl,gM_leaf l⟩
theorem gM_noSh (l:List (Int×Int)):noShL (rows gM l):=rows_noSh (fun t=>by simp [gM,noShL,noSh]) l
theorem gM_share:∀ l:List (Int×Int),shareL (rows gM l)=rows gM l
 | []=>rfl
 | x :: l=>by simp [rows,gM,shareL,share,gM_share l]
attribute [simp] gM_leaf gM_noSh gM_share
theorem gM_snoc (l:List (Int×Int)) (k c:Int):rows gM l ++ [D.v (.int .i64 k),D.v (.int .i64 c)]=rows gM (l ++ [(k,c)]):=by
 rw [rows_append]
 rfl
section
variable {l:List (Int×Int)} {i:Nat}
theorem gM_0 (h:i < l.length):(rows gM l)[2*i]? = some (D.int l[i].1)/\∀ h',(rows gM l)[2*i]'h'=D.int l[i].1:=twice (rows_get gM_two l i 0 h (by omega))
theorem gM_1 (h:i < l.length):(rows gM l)[2*i+1]? = some (D.int l[i].2)/\∀ h',(rows gM l)[2*i+1]'h'=D.int l[i].2:=twice (rows_get gM_two l i 1 h (by omega))
theorem gM_set1 (h:i < l.length) (x:Int):(rows gM l).set (2*i+1) (.v (.int .i64 x))=rows gM (l.set i (l[i].1,x)):=rows_set gM_two l i 1 _ _ h (by omega) rfl
end
def Exps (n:Nat) (l:List (List Int×Int)):Prop:=∀ x∈l,x.1.length=n/\Dig x.1
def tm (x:List Int×Int):Trm:=⟨x.1,x.2⟩
def pr (t:Trm):List Int×Int:=(t.e,t.c)
theorem nf_exps {n:Nat} {l:List (List Int×Int)} (h:Exps n l):Exps n (nf lexlt l):=fun y hy=>by
 obtain ⟨x,hx,e⟩:=nf_mem hy
 rw [<-e]
 exact h x hx
noncomputable def shutF (v:Int) (l:List (List Int×Int)):Lau×Bool:=if Right ⟨v,(nf lexlt l).map tm⟩ then (⟨v,(nf lexlt l).map tm⟩,true) else (zeroF,false)
def prodL (a b:List (List Int×Int)):List (List Int×Int):=a.flatMap fun x=>b.map fun y=>(addE 1 x.1 y.1,x.2*y.2)
noncomputable def mulF (f g:Lau):Lau×Bool:=if Right f/\Right g/\f.v=g.v then shutF f.v (prodL (f.ts.map pr) (g.ts.map pr)) else (zeroF,false)
theorem shutF_right (v:Int) (l:List (List Int×Int)):Right (shutF v l).1\/(shutF v l)=(zeroF,false):=by
 unfold shutF
 split
 ·exact .inl (by assumption)
 ·exact .inr rfl
theorem mulF_right (f g:Lau):Right (mulF f g).1\/mulF f g=(zeroF,false):=by
 unfold mulF
 split
 ·exact shutF_right _ _
 ·exact .inr rfl
end Go.Proofs.Ytncfmemhjahpeaa.Ab
namespace Go.Proofs.Ytncfmemhjahpeaa.Ab
open Go
abbrev LS:=List (List Int×Int)
def phT (T:Nat) (e:List Int):Int:=(T:Int) ^ (keyA 0 e).toNat
def bsN (n:Nat):Nat:=(keyA 0 (List.replicate n 0)).toNat
def eT (T:Nat) (l:LS):Int:=vl (phT T) l
theorem eT_app (T:Nat) (l r:LS):eT T (l ++ r)=eT T l+eT T r:=vl_app _ l r
theorem eT_nf (T:Nat) (l:LS):eT T (nf lexlt l)=eT T l:=vl_nf _ l
theorem phT_pos {T:Nat} (hT:1<=T) (e:List Int):0 < phT T e:=Int.pow_pos (by omega)
theorem dig_rep (n:Nat):Dig (List.replicate n 0):=fun x hx=>by
 have:=List.eq_of_mem_replicate hx
 omega
theorem phT_mul (T:Nat) {n:Nat} {a b:List Int} (ha:a.length=n) (hb:b.length=n) (da:Dig a) (db:Dig b) (dab:Dig (addE 1 a b)):phT T (addE 1 a b)*(T:Int) ^ bsN n=phT T a*phT T b:=by
 unfold phT bsN
 rw [<-Int.pow_add,<-Int.pow_add]
 congr 1
 have h1:=keyA_add a b 0 0 0 (by omega)
 rw [ha,show (0:Int)+0 - 0=0 from rfl] at h1
 have h2:=keyA_nonneg _ 0 da (by omega)
 have h3:=keyA_nonneg _ 0 db (by omega)
 have h4:=keyA_nonneg _ 0 dab (by omega)
 have h5:=keyA_nonneg _ 0 (dig_rep n) (by omega)
 omega
def ExB (n E:Nat) (l:LS):Prop:=∀ x∈l,x.1.length=n/\∀ y∈x.1,-(E:Int)<=y/\y<=E
theorem ExB.dig {n E:Nat} {l:LS} (h:ExB n E l) (hE:E<=63):Exps n l:=fun x hx=>⟨(h x hx).1,fun y hy=>by have:=(h x hx).2 y hy;omega⟩
theorem addE_bnd:∀ {a b:List Int} {E F:Nat},a.length=b.length->(∀ y∈a,-(E:Int)<=y/\y<=E)->(∀ y∈b,-(F:Int)<=y/\y<=F)->∀ y∈addE 1 a b,-((E+F:Nat):Int)<=y/\y<=(E+F:Nat)
 | [],[],E,F,_,_,_,y,hy=>by simp [addE] at hy
 | a :: aa,b :: bs,E,F,hl,ha,hb,y,hy=>by
  simp only [addE,List.mem_cons] at hy
  rcases hy with rfl | hy
  ·have:=ha a (by simp)
   have:=hb b (by simp)
   omega
  ·exact addE_bnd (by simpa using hl) (fun y hy=>ha y (by simp [hy])) (fun y hy=>hb y (by simp [hy])) y hy
theorem ExB.prod {n E F:Nat} {a b:LS} (ha:ExB n E a) (hb:ExB n F b):ExB n (E+F) (prodL a b):=fun x hx=>by
 simp only [prodL,List.mem_flatMap,List.mem_map] at hx
 obtain ⟨p,hp,q,hq,rfl⟩:=hx
 have h1:=ha p hp
 have h2:=hb q hq
 exact ⟨by rw [addE_length _ _ _ (by omega)];exact h1.1,addE_bnd (by omega) h1.2 h2.2⟩
theorem ExB.app {n E:Nat} {a b:LS} (ha:ExB n E a) (hb:ExB n E b):ExB n E (a ++ b):=fun x hx=>(List.mem_append.1 hx).elim (ha x) (hb x)
theorem ExB.nf {n E:Nat} {a:LS} (ha:ExB n E a):ExB n E (nf lexlt a):=fun x hx=>by
 obtain ⟨z,h1,h2⟩:=nf_mem hx
 have:=ha z h1
 rwa [h2] at this
theorem ExB.mono {n E F:Nat} {a:LS} (ha:ExB n E a) (h:E<=F):ExB n F a:=fun x hx=>⟨(ha x hx).1,fun y hy=>by have:=(ha x hx).2 y hy;omega⟩
theorem eT_prod (T:Nat) {n E F:Nat} {a b:LS} (ha:ExB n E a) (hb:ExB n F b) (hEF:E+F<=63):eT T (prodL a b)*(T:Int) ^ bsN n=eT T a*eT T b:=by
 have h1:∀ (a:LS),ExB n E a->eT T (prodL a b)*(T:Int) ^ bsN n=eT T a*eT T b:=fun a=>by
  induction a with
  | nil=>intro _;simp [prodL,eT,vl]
  | cons x a ih=>
   intro hx
   have h2:=ih fun y hy=>hx y (by simp [hy])
   have h3:prodL (x :: a) b=(b.map fun y=>(addE 1 x.1 y.1,x.2*y.2)) ++ prodL a b:=rfl
   have h4:∀ b:LS,ExB n F b->eT T (b.map fun y=>(addE 1 x.1 y.1,x.2*y.2))*(T:Int) ^ bsN n=x.2*phT T x.1*eT T b:=fun b=>by
    induction b with
    | nil=>intro _;simp [eT,vl]
    | cons y b ih2=>
     intro hy
     have h5:=ih2 fun z hz=>hy z (by simp [hz])
     have q1:=hx x (by simp)
     have q2:=hy y (by simp)
     have h6:=phT_mul T q1.1 q2.1 (fun z hz=>by have:=q1.2 z hz;omega) (fun z hz=>by have:=q2.2 z hz;omega) (fun z hz=>by have:=addE_bnd (by omega) q1.2 q2.2 z hz;omega)
     simp only [List.map_cons,eT,vl] at h5 ⊢
     rw [Int.add_mul,h5,Int.mul_add,Int.mul_assoc,h6]
     generalize vl (phT T) b=B
     grind
   rw [h3,eT_app,Int.add_mul,h2,h4 b hb]
   simp only [eT,vl]
   rw [Int.add_mul]
 exact h1 a ha
theorem eT_scale (T:Nat) (k:Int) (l:LS):eT T (l.map fun y=>(y.1,k*y.2))=k*eT T l:=by
 have:=vl_map (fun e:List Int=>e) k (phT T) l
 exact this
theorem eT_bound {T:Nat} (hT:1<=T) {m:Nat}:∀ {l:LS},(∀ x∈l,(keyA 0 x.1).toNat<=m)->(eT T l).natAbs<=absK l*T ^ m
 | [],_=>by simp [eT,vl]
 | x :: l,h=>by
  have h1:=eT_bound hT (l:=l) fun y hy=>h y (by simp [hy])
  have h2:=h x (by simp)
  have h3:(phT T x.1).natAbs<=T ^ m:=by
   unfold phT
   rw [Int.natAbs_pow,Int.natAbs_natCast]
   exact Nat.pow_le_pow_right hT h2
  have h4:eT T (x :: l)=x.2*phT T x.1+eT T l:=rfl
  have h5:absK (x :: l)=x.2.natAbs+absK l:=by simp [absK]
  rw [h4,h5,Nat.add_mul]
  refine Nat.le_trans (Int.natAbs_add_le _ _) (Nat.add_le_add ?_ h1)
  rw [Int.natAbs_mul]
  exact Nat.mul_le_mul_left _ h3
theorem eT_ne {n:Nat} {x:List Int×Int} {l:LS} (hd:Desc lexlt (x :: l)) (hx:x.2≠0) (he:Exps n (x :: l)):∃ T,2<=T/\eT T (x :: l)≠0:=by
 refine ⟨absK l+2,by omega,fun h0=>?_⟩
 have h4:eT (absK l+2) (x :: l)=x.2*phT (absK l+2) x.1+eT (absK l+2) l:=rfl
 have ex:=he x (by simp)
 have kx:=keyA_nonneg _ 0 ex.2 (by omega)
 have hlt:∀ y∈l,(keyA 0 y.1).toNat+1<=(keyA 0 x.1).toNat:=fun y hy=>by
  have ey:=he y (by simp [hy])
  have ky:=keyA_nonneg _ 0 ey.2 (by omega)
  have:=keyA_lex y.1 x.1 0 (ey.1.trans ex.1.symm) ey.2 ex.2 ((List.pairwise_cons.1 hd).1 y hy)
  omega
 cases l with
 | nil=>
  rw [h4] at h0
  have hp:=phT_pos (T:=absK ([]:LS)+2) (by omega) x.1
  simp only [eT,vl,Int.add_zero] at h0
  rcases Int.mul_eq_zero.1 h0 with h | h
  ·exact hx h
  ·omega
 | cons y l=>
  have hy1:=hlt y (by simp)
  obtain ⟨m,hm⟩:∃ m,(keyA 0 x.1).toNat=m+1:=⟨(keyA 0 x.1).toNat - 1,by omega⟩
  obtain ⟨T,hTe⟩:∃ T,T=absK (y :: l)+2:=⟨_,rfl⟩
  rw [<-hTe] at h0 h4
  have hb:=eT_bound (T:=T) (by omega) (m:=m) (l:=y :: l) fun z hz=>by have:=hlt z hz;omega
  have h6:(phT T x.1).natAbs=T ^ m*T:=by
   unfold phT
   rw [Int.natAbs_pow,Int.natAbs_natCast,hm,Nat.pow_succ]
  have h7:(x.2*phT T x.1).natAbs=(eT T (y :: l)).natAbs:=by
   rw [h4] at h0
   omega
  rw [Int.natAbs_mul,h6] at h7
  have h8:1<=x.2.natAbs:=by omega
  have h9:1<=T ^ m:=Nat.pow_pos (by omega)
  have h10:T ^ m*T<=x.2.natAbs*(T ^ m*T):=Nat.le_mul_of_pos_left _ h8
  have h11:T ^ m*T<=absK (y :: l)*T ^ m:=by omega
  rw [Nat.mul_comm] at h11
  have:=Nat.le_of_mul_le_mul_right h11 (by omega)
  omega
theorem eT_sep {n:Nat} {l r:LS} (hl:Exps n l) (hr:Exps n r) (h:∀ T,2<=T->eT T l=eT T r):nf lexlt l=nf lexlt r:=by
 obtain ⟨d,hd⟩:∃ d,d=nf lexlt (l ++ r.map fun y=>(y.1,-1*y.2)):=⟨_,rfl⟩
 have hz:∀ T,2<=T->eT T d=0:=fun T hT=>by
  rw [hd,eT_nf,eT_app,eT_scale,h T hT]
  omega
 have hde:Exps n d:=by
  rw [hd]
  refine nf_exps fun x hx=>?_
  rcases List.mem_append.1 hx with hx | hx
  ·exact hl x hx
  ·obtain ⟨y,hy,rfl⟩:=List.mem_map.1 hx
   exact hr y hy
 have hdd:Desc lexlt d:=by rw [hd];exact nf_desc lexOrd _
 have hdn:Nz d:=by rw [hd];exact nf_nz _
 have hnil:d=[]:=by
  cases d with
  | nil=>rfl
  | cons x t=>
   obtain ⟨T,hT,hne⟩:=eT_ne hdd (hdn x (by simp)) hde
   exact absurd (hz T hT) hne
 refine nf_vl lexOrd fun φ=>?_
 have h1:vl φ d=0:=by rw [hnil];rfl
 rw [hd,vl_nf,vl_app] at h1
 have h2:=vl_map (fun e:List Int=>e) (-1) φ r
 have h3:vl φ (r.map fun y=>(y.1,-1*y.2))=-1*vl φ r:=h2
 rw [h3] at h1
 omega
def vT (T n:Nat) (l:LS):Rat:=(eT T l:Rat) / ((T:Rat) ^ bsN n)
theorem powR_ne {T m:Nat} (hT:2<=T):((T:Rat) ^ m)≠0:=by
 have h:(0:Rat) < (T:Rat):=by
  have:((0:Nat):Rat) < (T:Rat):=by exact_mod_cast (show 0 < T by omega)
  simpa using this
 exact Rat.ne_of_gt (Rat.pow_pos h)
theorem vT_app (T n:Nat) (l r:LS):vT T n (l ++ r)=vT T n l+vT T n r:=by
 unfold vT
 rw [eT_app,Rat.intCast_add]
 grind
theorem vT_nf (T n:Nat) (l:LS):vT T n (nf lexlt l)=vT T n l:=by
 unfold vT
 rw [eT_nf]
theorem vT_prod {T n E F:Nat} (hT:2<=T) {a b:LS} (ha:ExB n E a) (hb:ExB n F b) (hEF:E+F<=63):vT T n (prodL a b)=vT T n a*vT T n b:=by
 have h:=eT_prod T ha hb hEF
 have hp:=powR_ne (m:=bsN n) hT
 have h2:((eT T (prodL a b):Int):Rat)*((T:Rat) ^ bsN n)=(eT T a:Rat)*(eT T b:Rat):=by
  have:=congrArg (fun z:Int=>(z:Rat)) h
  simp only [Rat.intCast_mul,Rat.intCast_pow,Rat.intCast_natCast] at this
  exact this
 unfold vT
 generalize (T:Rat) ^ bsN n=P at *
 generalize ((eT T (prodL a b):Int):Rat)=X at *
 grind
theorem vT_sep {n:Nat} {l r:LS} (hl:Exps n l) (hr:Exps n r) (h:∀ T,2<=T->vT T n l=vT T n r):nf lexlt l=nf lexlt r:=by
 refine eT_sep hl hr fun T hT=>?_
 have h1:=h T hT
 unfold vT at h1
 have hp:=powR_ne (m:=bsN n) hT
 generalize (T:Rat) ^ bsN n=P at *
 have:((eT T l:Int):Rat)=((eT T r:Int):Rat):=by grind
 exact_mod_cast this
end Go.Proofs.Ytncfmemhjahpeaa.Ab
namespace Go.Proofs.Ytncfmemhjahpeaa.Ab
open Go
set_option maxRecDepth 100000
abbrev Dg:=Nat×Nat
def crs (d e:Dg):Bool:=(Nat.blt d.1 e.1 && (Nat.blt e.1 d.2 && Nat.blt d.2 e.2)) || (Nat.blt e.1 d.1 && (Nat.blt d.1 e.2 && Nat.blt e.2 d.2))
def allD (v:Nat):List Dg:=(List.range v).flatMap fun a=>((List.range v).filter fun b=>Nat.ble (a+2) b && (Nat.blt 0 a || Nat.blt b (v - 1))).map fun b=>(a,b)
def enumC (P:List Dg->Bool):List Dg->List Dg->Nat->Bool
 | _,F,0=>P F
 | [],_,_+1=>true
 | d :: ds,F,r+1=>enumC P ds F (r+1) && (if F.all (fun e=>!crs e d) then enumC P ds (d :: F) r else true)
def srt (a b:Nat):Dg:=if Nat.ble a b then (a,b) else (b,a)
def dgq (d e:Dg):Bool:=Nat.beq d.1 e.1 && Nat.beq d.2 e.2
def sd (v:Nat) (d:Dg):Bool:=Nat.beq (d.1+1) d.2 || (Nat.beq d.1 0 && Nat.beq (d.2+1) v)
def knD (v:Nat) (F:List Dg) (d:Dg):Bool:=sd v d || F.any (dgq d)
def kn (v:Nat) (F:List Dg) (a b:Nat):Bool:=knD v F (srt a b)
def cntD (F:List Dg) (a c:Nat):Nat:=F.countP (crs (srt a c))
def bimp (a b:Bool):Bool:=!a || b
def good (v:Nat) (F:List Dg) (a c:Nat) (e:Dg):Bool:=crs (srt a c) e && (kn v F a e.1 && kn v F a e.2)
def chk1 (v:Nat) (F:List Dg):Bool:=
 (List.range v).all fun a=>(List.range v).all fun c=>Nat.beq a c || (kn v F a c || (F.any (good v F a c) && F.all fun e=>bimp (good v F a c e) ((Nat.beq (cntD F a e.1) 0 && Nat.beq (cntD F a e.2) 0) && (Nat.blt (cntD F c e.1) (cntD F a c) && Nat.blt (cntD F c e.2) (cntD F a c)))))
def tris (v:Nat) (F:List Dg):List (Nat×Nat×Nat):=
 (List.range v).flatMap fun a=>(List.range v).flatMap fun b=>((List.range v).filter fun c=>Nat.blt a b && (Nat.blt b c && (knD v F (a,b) && (knD v F (b,c) && knD v F (a,c))))).map fun c=>(a,b,c)
def att (k:List Bool×List (Nat×Nat×Nat)) (s p q:Nat):List Bool×List (Nat×Nat×Nat):=
 match !k.1.getD s false && (k.1.getD p false && k.1.getD q false) with
 | true=>(k.1.set s true,k.2 ++ [(s,p,q)])
 | false=>k
def run1 (k:List Bool×List (Nat×Nat×Nat)):List (Nat×Nat×Nat)->List Bool×List (Nat×Nat×Nat)
 | []=>k
 | t :: ts=>run1 (att (att (att k t.1 t.2.1 t.2.2) t.2.1 t.2.2 t.1) t.2.2 t.1 t.2.1) ts
def runN (T:List (Nat×Nat×Nat)):Nat->List Bool×List (Nat×Nat×Nat)->List Bool×List (Nat×Nat×Nat)
 | 0,k=>k
 | n+1,k=>runN T n (run1 k T)
def made:List (Nat×Nat×Nat)->List Dg->Option (List Dg)
 | [],M=>some M
 | t :: ts,M=>if M.any (dgq (srt t.2.1 t.2.2)) then made ts (srt t.1 t.2.1 :: srt t.1 t.2.2 :: M) else none
def kn0 (v:Nat) (t:Nat×Nat×Nat):List Bool:=((List.replicate v false).set t.1 true).set t.2.1 true
def chk2 (v:Nat) (F:List Dg):Bool:=
 match tris v F with
 | []=>false
 | t :: ts=>
  let r:=runN (t :: ts) v (kn0 v t,[])
  Nat.blt t.1 t.2.1 && ((r.1.all id && Nat.beq r.1.length v) && match made r.2 [(t.1,t.2.1)] with
   | none=>false
   | some M=>F.all (fun e=>M.any (dgq e)) && (List.range v).all fun a=>M.any (dgq (srt a (if Nat.beq (a+1) v then 0 else a+1))))
def chkB (v:Nat) (F:List Dg):Bool:=chk1 v F && chk2 v F
theorem chk_4:enumC (chkB 4) (allD 4) [] 1=true:=by decide +kernel
theorem chk_5:enumC (chkB 5) (allD 5) [] 2=true:=by decide +kernel
theorem chk_6:enumC (chkB 6) (allD 6) [] 3=true:=by decide +kernel
theorem chk_7:enumC (chkB 7) (allD 7) [] 4=true:=by decide +kernel
theorem chk_8:enumC (chkB 8) (allD 8) [] 5=true:=by decide +kernel
theorem chk_all {v:Nat} (h:4<=v/\v<=8):enumC (chkB v) (allD v) [] (v - 3)=true:=by
 obtain rfl | rfl | rfl | rfl | rfl:v=4\/v=5\/v=6\/v=7\/v=8:=by omega
 ·exact chk_4
 ·exact chk_5
 ·exact chk_6
 ·exact chk_7
 ·exact chk_8
theorem crs_sym (d e:Dg):crs d e=crs e d:=by
 unfold crs
 rw [Bool.or_comm]
theorem enumC_ok (P:List Dg->Bool):∀ (ds F S:List Dg) (r:Nat),enumC P ds F r=true->S.Sublist ds->S.length=r->(S.Pairwise fun d e=>crs d e=false)->(∀ d∈S,∀ e∈F,crs e d=false)->P (S.reverse ++ F)=true
 | ds,F,S,0,h,hs,hl,hp,hf=>by
  have:S=[]:=List.length_eq_zero_iff.1 hl
  subst this
  cases ds <;> simpa [enumC] using h
 | [],F,S,r+1,h,hs,hl,hp,hf=>by
  have:=List.eq_nil_of_sublist_nil hs
  subst this
  simp at hl
 | d :: ds,F,S,r+1,h,hs,hl,hp,hf=>by
  simp only [enumC,Bool.and_eq_true] at h
  obtain ⟨h1,h2⟩:=h
  cases hs with
  | cons _ hs=>exact enumC_ok P ds F S (r+1) h1 hs hl hp hf
  | cons_cons _ hs=>
   rename_i S
   have hall:F.all (fun e=>!crs e d)=true:=List.all_eq_true.2 fun e he=>by
    rw [hf d (by simp) e he]
    rfl
   rw [if_pos hall] at h2
   obtain ⟨hp1,hp2⟩:=List.pairwise_cons.1 hp
   have:=enumC_ok P ds (d :: F) S r h2 hs (by simpa using hl) hp2 fun x hx e he=>by
    rcases List.mem_cons.1 he with rfl | he
    ·exact hp1 x hx
    ·exact hf x (by simp [hx]) e he
   simpa using this
structure Tri (v:Nat) (l:List Dg):Prop where
 vb:4<=v/\v<=8
 len:l.length=v - 3
 mem:∀ d∈l,d∈allD v
 apart:l.Pairwise fun d e=>d≠e/\crs d e=false
theorem allD_nodup {v:Nat} (h:v<=8):(allD v).Nodup:=by
 obtain rfl | rfl | rfl | rfl | rfl | rfl | rfl | rfl | rfl:v=0\/v=1\/v=2\/v=3\/v=4\/v=5\/v=6\/v=7\/v=8:=by omega
 all_goals decide +kernel
theorem Tri.nodup {v:Nat} {l:List Dg} (h:Tri v l):l.Nodup:=h.apart.imp fun h=>h.1
theorem Tri.perm {v:Nat} {l l':List Dg} (h:Tri v l) (hp:l'.Perm l):Tri v l':=⟨h.vb,hp.length_eq.trans h.len,fun d hd=>h.mem d (hp.subset hd),(hp.pairwise_iff fun hh=>⟨hh.1.symm,by rw [crs_sym];exact hh.2⟩).2 h.apart⟩
theorem tri_chk {v:Nat} {l:List Dg} (h:Tri v l):∃ F,F.Perm l/\chkB v F=true:=by
 have hn:=allD_nodup h.vb.2
 obtain ⟨S,hS⟩:∃ S,S=(allD v).filter fun d=>l.contains d:=⟨_,rfl⟩
 have hsub:S.Sublist (allD v):=by rw [hS];exact List.filter_sublist
 have hp:S.Perm l:=(List.perm_ext_iff_of_nodup (hsub.nodup hn) h.nodup).2 fun d=>by
  rw [hS,List.mem_filter]
  simp only [List.contains_eq_mem,decide_eq_true_eq]
  exact ⟨fun h=>h.2,fun hd=>⟨h.mem d hd,hd⟩⟩
 have hT:=h.perm hp
 have:=enumC_ok (chkB v) (allD v) [] S (v - 3) (chk_all h.vb) hsub hT.len (hT.apart.imp fun h=>h.2) (by simp)
 rw [List.append_nil] at this
 exact ⟨S.reverse,(List.reverse_perm S).trans hp,this⟩
theorem any_perm {α:Type} {p:α->Bool} {l r:List α} (h:l.Perm r):l.any p=r.any p:=by
 rw [Bool.eq_iff_iff,List.any_eq_true,List.any_eq_true]
 exact ⟨fun ⟨x,hx,hp⟩=>⟨x,h.mem_iff.1 hx,hp⟩,fun ⟨x,hx,hp⟩=>⟨x,h.mem_iff.2 hx,hp⟩⟩
theorem all_perm {α:Type} {p:α->Bool} {l r:List α} (h:l.Perm r):l.all p=r.all p:=by
 rw [Bool.eq_iff_iff,List.all_eq_true,List.all_eq_true]
 exact ⟨fun q x hx=>q x (h.mem_iff.2 hx),fun q x hx=>q x (h.mem_iff.1 hx)⟩
theorem knD_perm {v:Nat} {l r:List Dg} (h:l.Perm r):knD v l=knD v r:=by
 funext d
 unfold knD
 rw [any_perm h]
theorem kn_perm {v:Nat} {l r:List Dg} (h:l.Perm r):kn v l=kn v r:=by
 funext a b
 unfold kn
 rw [knD_perm h]
theorem cntD_perm {l r:List Dg} (h:l.Perm r):cntD l=cntD r:=by
 funext a b
 exact h.countP_eq _
theorem good_perm {v:Nat} {l r:List Dg} (h:l.Perm r):good v l=good v r:=by
 funext a c e
 unfold good
 rw [kn_perm h]
theorem chk1_perm {v:Nat} {l r:List Dg} (h:l.Perm r):chk1 v l=chk1 v r:=by
 unfold chk1
 rw [kn_perm h,cntD_perm h,good_perm h]
 simp only [any_perm h,all_perm h]
theorem tris_perm {v:Nat} {l r:List Dg} (h:l.Perm r):tris v l=tris v r:=by
 unfold tris
 rw [knD_perm h]
theorem chk2_perm {v:Nat} {l r:List Dg} (h:l.Perm r):chk2 v l=chk2 v r:=by
 unfold chk2
 rw [tris_perm h]
 simp only [all_perm h]
theorem tri_1 {v:Nat} {l:List Dg} (h:Tri v l):chk1 v l=true:=by
 obtain ⟨F,h1,h2⟩:=tri_chk h
 rw [<-chk1_perm h1]
 simp only [chkB,Bool.and_eq_true] at h2
 exact h2.1
theorem tri_2 {v:Nat} {l:List Dg} (h:Tri v l):chk2 v l=true:=by
 obtain ⟨F,h1,h2⟩:=tri_chk h
 rw [<-chk2_perm h1]
 simp only [chkB,Bool.and_eq_true] at h2
 exact h2.2
theorem dgq_eq {d e:Dg}:dgq d e=true↔d=e:=by
 obtain ⟨a,b⟩:=d
 obtain ⟨c,g⟩:=e
 simp [dgq]
theorem bimp_eq {a b:Bool}:bimp a b=true↔(a=true->b=true):=by cases a <;> cases b <;> simp [bimp]
theorem tri_good {v:Nat} {l:List Dg} (h:Tri v l) {a c:Nat} (ha:a < v) (hc:c < v) (hac:a≠c) (hk:kn v l a c=false):(∃ e∈l,good v l a c e=true)/\∀ e∈l,good v l a c e=true->(cntD l a e.1=0/\cntD l a e.2=0)/\cntD l c e.1 < cntD l a c/\cntD l c e.2 < cntD l a c:=by
 have:=tri_1 h
 unfold chk1 at this
 rw [List.all_eq_true] at this
 have:=this a (List.mem_range.2 ha)
 rw [List.all_eq_true] at this
 have:=this c (List.mem_range.2 hc)
 rw [hk,show Nat.beq a c=false from Bool.eq_false_iff.2 fun e=>hac (Nat.eq_of_beq_eq_true e)] at this
 simp only [Bool.false_or,Bool.and_eq_true,List.any_eq_true,List.all_eq_true,bimp_eq] at this
 refine ⟨this.1,fun e he hg=>?_⟩
 have:=this.2 e he hg
 simpa using this
theorem tri_made {v:Nat} {l:List Dg} (h:Tri v l):∃ t ts M,tris v l=t :: ts/\t.1 < t.2.1/\(∀ x∈(runN (t :: ts) v (kn0 v t,[])).1,x=true)/\(runN (t :: ts) v (kn0 v t,[])).1.length=v/\made (runN (t :: ts) v (kn0 v t,[])).2 [(t.1,t.2.1)]=some M/\(∀ e∈l,e∈M)/\∀ a,a < v->srt a (if a+1=v then 0 else a+1)∈M:=by
 have:=tri_2 h
 unfold chk2 at this
 split at this
 ·simp at this
 ·rename_i t ts ht
  dsimp only at this
  simp only [Bool.and_eq_true] at this
  obtain ⟨h1,⟨h2,h3⟩,h4⟩:=this
  split at h4
  ·simp at h4
  ·rename_i M hM
   simp only [Bool.and_eq_true,List.all_eq_true,List.any_eq_true,List.mem_range] at h4
   refine ⟨t,ts,M,ht,by simpa using h1,?_,by simpa using h3,hM,fun e he=>?_,fun a ha=>?_⟩
   ·simpa [List.all_eq_true] using h2
   ·obtain ⟨x,hx,hq⟩:=h4.1 e he
    rw [dgq_eq] at hq
    rw [hq]
    exact hx
   ·obtain ⟨x,hx,hq⟩:=h4.2 a ha
    rw [dgq_eq] at hq
    rw [<-hq] at hx
    by_cases hv:a+1=v
    ·rw [if_pos hv]
     rw [show Nat.beq (a+1) v=true from Nat.beq_eq ▸ (by simpa using hv)] at hx
     exact hx
    ·rw [if_neg hv]
     rw [show Nat.beq (a+1) v=false from Bool.eq_false_iff.2 fun e=>hv (Nat.eq_of_beq_eq_true e)] at hx
     exact hx
end Go.Proofs.Ytncfmemhjahpeaa.Ab
namespace Go.Proofs.Ytncfmemhjahpeaa.Ab
open Go
abbrev N3:=Nat×Nat×Nat
def gatt {σ:Type} (upd:σ->N3->σ) (k:List Bool×σ) (s p q:Nat):List Bool×σ:=
 match !k.1.getD s false && (k.1.getD p false && k.1.getD q false) with
 | true=>(k.1.set s true,upd k.2 (s,p,q))
 | false=>k
def grun1 {σ:Type} (upd:σ->N3->σ) (k:List Bool×σ):List N3->List Bool×σ
 | []=>k
 | t :: ts=>grun1 upd (gatt upd (gatt upd (gatt upd k t.1 t.2.1 t.2.2) t.2.1 t.2.2 t.1) t.2.2 t.1 t.2.1) ts
def grunN {σ:Type} (upd:σ->N3->σ) (T:List N3):Nat->List Bool×σ->List Bool×σ
 | 0,k=>k
 | n+1,k=>grunN upd T n (grun1 upd k T)
inductive OkA:List Bool->List N3->List Bool->Prop
 | nil (k:List Bool):OkA k [] k
 | cons {k k':List Bool} {s p q:Nat} {A:List N3} (h1:k.getD s false=false) (h2:k.getD p false=true) (h3:k.getD q false=true) (h:OkA (k.set s true) A k'):OkA k ((s,p,q) :: A) k'
theorem OkA.app {k1 k2 k3:List Bool} {A B:List N3} (h1:OkA k1 A k2) (h2:OkA k2 B k3):OkA k1 (A ++ B) k3:=by
 induction h1 with
 | nil=>exact h2
 | cons a b c d ih=>exact .cons a b c (ih h2)
def Same {σ:Type} (upd:σ->N3->σ) (f:List Bool×σ->List Bool×σ) (g:List Bool×List N3->List Bool×List N3):Prop:=
 ∀ (k:List Bool) (x:σ) (A0:List N3),∃ (k':List Bool) (A:List N3),g (k,A0)=(k',A0 ++ A)/\f (k,x)=(k',A.foldl upd x)/\OkA k A k'
theorem same_id {σ:Type} (upd:σ->N3->σ):Same upd id id:=fun k x A0=>⟨k,[],by simp,rfl,.nil k⟩
theorem same_comp {σ:Type} {upd:σ->N3->σ} {f f':List Bool×σ->List Bool×σ} {g g':List Bool×List N3->List Bool×List N3} (h:Same upd f g) (h':Same upd f' g'):Same upd (fun k=>f' (f k)) (fun k=>g' (g k)):=fun k x A0=>by
 obtain ⟨k1,A1,a1,a2,a3⟩:=h k x A0
 obtain ⟨k2,A2,b1,b2,b3⟩:=h' k1 (A1.foldl upd x) (A0 ++ A1)
 refine ⟨k2,A1 ++ A2,by simp only [a1,b1,List.append_assoc],by simp only [a2,b2,List.foldl_append],a3.app b3⟩
theorem same_att {σ:Type} (upd:σ->N3->σ) (s p q:Nat):Same upd (fun k=>gatt upd k s p q) (fun k=>att k s p q):=fun k x A0=>by
 cases hc:(!k.getD s false && (k.getD p false && k.getD q false)) with
 | false=>exact ⟨k,[],by simp only [att,hc,List.append_nil],by simp only [gatt,hc,List.foldl_nil],.nil k⟩
 | true=>
  refine ⟨k.set s true,[(s,p,q)],by simp only [att,hc],by simp only [gatt,hc,List.foldl_cons,List.foldl_nil],?_⟩
  simp only [Bool.and_eq_true,Bool.not_eq_true'] at hc
  exact .cons hc.1 hc.2.1 hc.2.2 (.nil _)
theorem same_run1 {σ:Type} (upd:σ->N3->σ):∀ T:List N3,Same upd (fun k=>grun1 upd k T) (fun k=>run1 k T)
 | []=>same_id upd
 | t :: ts=>same_comp (same_comp (same_comp (same_att upd t.1 t.2.1 t.2.2) (same_att upd t.2.1 t.2.2 t.1)) (same_att upd t.2.2 t.1 t.2.1)) (same_run1 upd ts)
theorem same_runN {σ:Type} (upd:σ->N3->σ) (T:List N3):∀ n:Nat,Same upd (grunN upd T n) (runN T n)
 | 0=>same_id upd
 | n+1=>by
  show Same upd (fun k=>grunN upd T n (grun1 upd k T)) (fun k=>runN T n (run1 k T))
  exact same_comp (same_run1 upd T) (same_runN upd T n)
abbrev V2:=Rat×Rat
def detV (X:Nat->V2) (i j:Nat):Rat:=(X i).1*(X j).2 - (X i).2*(X j).1
def updV (ln:Dg->Rat) (X:Nat->V2) (t:N3):Nat->V2:=
 let d:=srt t.2.1 t.2.2
 let a:=ln (srt d.2 t.1) / ln d*(if d.2 < t.1 then -1 else 1)
 let b:=ln (srt d.1 t.1) / ln d*(if t.1 < d.1 then -1 else 1)
 fun i=>if i=t.1 then (a*(X d.1).1+b*(X d.2).1,a*(X d.1).2+b*(X d.2).2) else X i
def VInv (ln:Dg->Rat) (k:List Bool) (X:Nat->V2) (M:List Dg):Prop:=∀ d∈M,detV X d.1 d.2=ln d/\k.getD d.1 false=true/\k.getD d.2 false=true/\d.1 < d.2
theorem srt_lt {a b:Nat} (h:a < b):srt a b=(a,b):=by
 unfold srt
 rw [if_pos (by simp;omega)]
theorem srt_gt {a b:Nat} (h:b < a):srt a b=(b,a):=by
 unfold srt
 rw [if_neg (by simp;omega)]
theorem srt_com (a b:Nat):srt a b=srt b a:=by
 rcases Nat.lt_trichotomy a b with h | h | h
 ·rw [srt_lt h,srt_gt h]
 ·rw [h]
 ·rw [srt_lt h,srt_gt h]
theorem getD_setT {k:List Bool} {s i:Nat} (h:k.getD i false=true):(k.set s true).getD i false=true:=by
 simp only [List.getD_eq_getElem?_getD,List.getElem?_set] at h ⊢
 split
 ·split <;> simp_all
 ·exact h
theorem getD_setS {k:List Bool} {s:Nat} (h:s < k.length):(k.set s true).getD s false=true:=by
 simp [List.getD_eq_getElem?_getD,List.getElem?_set,h]
theorem vinv_step {ln:Dg->Rat} (hln:∀ d,ln d≠0) {k:List Bool} {X:Nat->V2} {M:List Dg} (h:VInv ln k X M) {s p q:Nat} (hs:s < k.length) (h1:k.getD s false=false) (hM:srt p q∈M) :
  VInv ln (k.set s true) (updV ln X (s,p,q)) (srt s p :: srt s q :: M):=by
 obtain ⟨d,hd⟩:∃ d,d=srt p q:=⟨_,rfl⟩
 rw [<-hd] at hM
 obtain ⟨m1,m2,m3,m4⟩:=h d hM
 have n1:s≠d.1:=fun e=>by rw [<-e,h1] at m2;exact absurd m2 (by simp)
 have n2:s≠d.2:=fun e=>by rw [<-e,h1] at m3;exact absurd m3 (by simp)
 have hpq:(srt s p=srt d.1 s/\srt s q=srt d.2 s)\/(srt s p=srt d.2 s/\srt s q=srt d.1 s):=by
  rcases Nat.lt_trichotomy p q with h | h | h
  ·rw [srt_lt h] at hd
   rw [hd]
   exact .inl ⟨srt_com _ _,srt_com _ _⟩
  ·exfalso
   rw [h] at hd
   rw [hd] at m4
   unfold srt at m4
   simp at m4
  ·rw [srt_gt h] at hd
   rw [hd]
   exact .inr ⟨srt_com _ _,srt_com _ _⟩
 have old:∀ i,i≠s->updV ln X (s,p,q) i=X i:=fun i hi=>by simp only [updV,if_neg hi]
 have new:updV ln X (s,p,q) s=(ln (srt d.2 s) / ln d*(if d.2 < s then -1 else 1)*(X d.1).1+ln (srt d.1 s) / ln d*(if s < d.1 then -1 else 1)*(X d.2).1,ln (srt d.2 s) / ln d*(if d.2 < s then -1 else 1)*(X d.1).2+ln (srt d.1 s) / ln d*(if s < d.1 then -1 else 1)*(X d.2).2):=by
  simp only [updV,if_pos,<-hd]
 have hl:=hln d
 have hA:∀ e,e=srt d.1 s->detV (updV ln X (s,p,q)) e.1 e.2=ln e/\(k.set s true).getD e.1 false=true/\(k.set s true).getD e.2 false=true/\e.1 < e.2:=fun e he=>by
  rcases Nat.lt_or_gt_of_ne n1 with g | g
  ·rw [srt_gt g] at he
   subst he
   refine ⟨?_,getD_setS hs,getD_setT m2,g⟩
   have e1:detV (updV ln X (s,p,q)) s d.1=-(ln (srt d.1 s) / ln d*(if s < d.1 then -1 else 1)*detV X d.1 d.2):=by
    unfold detV
    rw [new,old _ (Ne.symm n1)]
    dsimp only
    generalize ln (srt d.2 s) / ln d*(if d.2 < s then -1 else 1)=aa
    generalize ln (srt d.1 s) / ln d*(if s < d.1 then -1 else 1)=bb
    grind
   rw [e1,m1,if_pos g,srt_gt g]
   grind
  ·rw [srt_lt g] at he
   subst he
   refine ⟨?_,getD_setT m2,getD_setS hs,g⟩
   have e1:detV (updV ln X (s,p,q)) d.1 s=ln (srt d.1 s) / ln d*(if s < d.1 then -1 else 1)*detV X d.1 d.2:=by
    unfold detV
    rw [new,old _ (Ne.symm n1)]
    dsimp only
    generalize ln (srt d.2 s) / ln d*(if d.2 < s then -1 else 1)=aa
    generalize ln (srt d.1 s) / ln d*(if s < d.1 then -1 else 1)=bb
    grind
   rw [e1,m1,if_neg (by omega),srt_lt g]
   grind
 have hB:∀ e,e=srt d.2 s->detV (updV ln X (s,p,q)) e.1 e.2=ln e/\(k.set s true).getD e.1 false=true/\(k.set s true).getD e.2 false=true/\e.1 < e.2:=fun e he=>by
  rcases Nat.lt_or_gt_of_ne n2 with g | g
  ·rw [srt_gt g] at he
   subst he
   refine ⟨?_,getD_setS hs,getD_setT m3,g⟩
   have e1:detV (updV ln X (s,p,q)) s d.2=ln (srt d.2 s) / ln d*(if d.2 < s then -1 else 1)*detV X d.1 d.2:=by
    unfold detV
    rw [new,old _ (Ne.symm n2)]
    dsimp only
    generalize ln (srt d.2 s) / ln d*(if d.2 < s then -1 else 1)=aa
    generalize ln (srt d.1 s) / ln d*(if s < d.1 then -1 else 1)=bb
    grind
   rw [e1,m1,if_neg (by omega),srt_gt g]
   grind
  ·rw [srt_lt g] at he
   subst he
   refine ⟨?_,getD_setT m3,getD_setS hs,g⟩
   have e1:detV (updV ln X (s,p,q)) d.2 s=-(ln (srt d.2 s) / ln d*(if d.2 < s then -1 else 1)*detV X d.1 d.2):=by
    unfold detV
    rw [new,old _ (Ne.symm n2)]
    dsimp only
    generalize ln (srt d.2 s) / ln d*(if d.2 < s then -1 else 1)=aa
    generalize ln (srt d.1 s) / ln d*(if s < d.1 then -1 else 1)=bb
    grind
   rw [e1,m1,if_pos g,srt_lt g]
   grind
 intro e he
 rcases List.mem_cons.1 he with he | he
 ·rcases hpq with ⟨a,b⟩ | ⟨a,b⟩
  ·exact hA e (he.trans a)
  ·exact hB e (he.trans a)
 ·rcases List.mem_cons.1 he with he | he
  ·rcases hpq with ⟨a,b⟩ | ⟨a,b⟩
   ·exact hB e (he.trans b)
   ·exact hA e (he.trans b)
  ·obtain ⟨q1,q2,q3,q4⟩:=h e he
   refine ⟨?_,getD_setT q2,getD_setT q3,q4⟩
   rw [<-q1]
   unfold detV
   rw [old,old]
   ·exact fun e'=>by rw [e',h1] at q3;exact absurd q3 (by simp)
   ·exact fun e'=>by rw [e',h1] at q2;exact absurd q2 (by simp)
theorem vinv_fold {ln:Dg->Rat} (hln:∀ d,ln d≠0):∀ {A:List N3} {k k':List Bool} {X:Nat->V2} {M M':List Dg},OkA k A k'->(∀ t∈A,t.1 < k.length)->made A M=some M'->VInv ln k X M->VInv ln k' (A.foldl (updV ln) X) M'
 | [],k,k',X,M,M',h,_,hm,hv=>by
  cases h
  simp only [made,Option.some.injEq] at hm
  subst hm
  exact hv
 | (s,p,q) :: A,k,k',X,M,M',h,hl,hm,hv=>by
  cases h with
  | cons h1 h2 h3 h=>
   simp only [made] at hm
   split at hm
   ·rename_i hmm
    rw [List.any_eq_true] at hmm
    obtain ⟨e,he,hee⟩:=hmm
    rw [dgq_eq] at hee
    subst hee
    exact vinv_fold (A:=A) (M:=srt s p :: srt s q :: M) hln h (fun t ht=>by rw [List.length_set];exact hl t (List.mem_cons_of_mem _ ht)) hm (vinv_step hln hv (hl (s,p,q) (by simp)) h1 he)
   ·cases hm
def initV (ln:Dg->Rat) (t:N3):Nat->V2:=fun i=>if i=t.2.1 then (0,ln (t.1,t.2.1)) else if i=t.1 then (1,0) else (0,0)
def vecV (v:Nat) (l:List Dg) (ln:Dg->Rat):Nat->V2:=match tris v l with
 | []=>fun _=>(0,0)
 | t :: ts=>(grunN (updV ln) (t :: ts) v (kn0 v t,initV ln t)).2
theorem tris_bd {v:Nat} {l:List Dg} {t:N3} (h:t∈tris v l):t.1 < t.2.1/\t.2.1 < t.2.2/\t.2.2 < v/\knD v l (t.1,t.2.1)=true/\knD v l (t.2.1,t.2.2)=true/\knD v l (t.1,t.2.2)=true:=by
 simp only [tris,List.mem_flatMap,List.mem_range,List.mem_map,List.mem_filter,Bool.and_eq_true] at h
 obtain ⟨a,ha,b,hb,c,⟨hc,h1,h2,h3,h4,h5⟩,rfl⟩:=h
 exact ⟨by simpa using h1,by simpa using h2,hc,h3,h4,h5⟩
theorem run1_mem:∀ (T:List N3) (k:List Bool) (A:List N3),(∀ x∈A,∃ t∈T,x=(t.1,t.2.1,t.2.2)\/x=(t.2.1,t.2.2,t.1)\/x=(t.2.2,t.1,t.2.1))->∀ T',(∀ t∈T',t∈T)->∀ x∈(run1 (k,A) T').2,∃ t∈T,x=(t.1,t.2.1,t.2.2)\/x=(t.2.1,t.2.2,t.1)\/x=(t.2.2,t.1,t.2.1):=by
 intro T k A hA T'
 induction T' generalizing k A with
 | nil=>exact fun _=>hA
 | cons t ts ih=>
  intro hT
  have one:∀ (k:List Bool×List N3) (s p q:Nat),(∀ x∈k.2,∃ t∈T,x=(t.1,t.2.1,t.2.2)\/x=(t.2.1,t.2.2,t.1)\/x=(t.2.2,t.1,t.2.1))->(∃ t∈T,(s,p,q)=(t.1,t.2.1,t.2.2)\/(s,p,q)=(t.2.1,t.2.2,t.1)\/(s,p,q)=(t.2.2,t.1,t.2.1))->∀ x∈(att k s p q).2,∃ t∈T,x=(t.1,t.2.1,t.2.2)\/x=(t.2.1,t.2.2,t.1)\/x=(t.2.2,t.1,t.2.1):=fun k s p q h1 h2 x hx=>by
   unfold att at hx
   split at hx
   ·rcases List.mem_append.1 hx with hx | hx
    ·exact h1 x hx
    ·rw [List.mem_singleton] at hx
     subst hx
     exact h2
   ·exact h1 x hx
  have ht:=hT t (by simp)
  have h3:=one _ t.2.2 t.1 t.2.1 (one _ t.2.1 t.2.2 t.1 (one (k,A) t.1 t.2.1 t.2.2 hA ⟨t,ht,.inl rfl⟩) ⟨t,ht,.inr (.inl rfl)⟩) ⟨t,ht,.inr (.inr rfl)⟩
  exact ih _ _ h3 fun x hx=>hT x (by simp [hx])
theorem runN_mem (T:List N3):∀ (n:Nat) (k:List Bool) (A:List N3),(∀ x∈A,∃ t∈T,x=(t.1,t.2.1,t.2.2)\/x=(t.2.1,t.2.2,t.1)\/x=(t.2.2,t.1,t.2.1))->∀ x∈(runN T n (k,A)).2,∃ t∈T,x=(t.1,t.2.1,t.2.2)\/x=(t.2.1,t.2.2,t.1)\/x=(t.2.2,t.1,t.2.1)
 | 0,k,A,h=>h
 | n+1,k,A,h=>runN_mem T n _ _ (run1_mem T k A h T fun t ht=>ht)
theorem kn0_at {v:Nat} {t:N3} (h1:t.1 < v) (h2:t.2.1 < v):(kn0 v t).getD t.1 false=true/\(kn0 v t).getD t.2.1 false=true:=by
 unfold kn0
 exact ⟨getD_setT (getD_setS (by simpa using h1)),getD_setS (by simpa using h2)⟩
theorem vec_known {v:Nat} {l:List Dg} (h:Tri v l) {ln:Dg->Rat} (hln:∀ d,ln d≠0) {a c:Nat} (hac:a < c) (hc:c < v) (hk:knD v l (a,c)=true):detV (vecV v l ln) a c=ln (a,c):=by
 obtain ⟨t,ts,M,h1,h2,h3,h4,h5,h6,h7⟩:=tri_made h
 obtain ⟨b1,b2,b3,-⟩:=tris_bd (v:=v) (l:=l) (t:=t) (by rw [h1];simp)
 obtain ⟨k',A,e1,e2,e3⟩:=same_runN (updV ln) (t :: ts) v (kn0 v t) (initV ln t) []
 have hmem:=runN_mem (t :: ts) v (kn0 v t) [] (by simp)
 rw [e1] at h5 hmem
 simp only [List.nil_append] at h5 hmem
 have hlen:(kn0 v t).length=v:=by simp [kn0]
 have hv0:VInv ln (kn0 v t) (initV ln t) [(t.1,t.2.1)]:=by
  intro d hd
  rw [List.mem_singleton] at hd
  subst hd
  refine ⟨?_,(kn0_at (by omega) (by omega)).1,(kn0_at (t:=t) (by omega) (by omega)).2,h2⟩
  simp only [detV,initV,if_pos,if_neg (show ¬ t.1=t.2.1 by omega)]
  grind
 have hfin:=vinv_fold hln e3 (fun x hx=>by
  obtain ⟨u,hu,hx⟩:=hmem x hx
  have:=tris_bd (v:=v) (l:=l) (t:=u) (by rw [h1];exact hu)
  rw [hlen]
  rcases hx with rfl | rfl | rfl <;> dsimp only <;> omega) h5 hv0
 have hvec:vecV v l ln=A.foldl (updV ln) (initV ln t):=by
  unfold vecV
  rw [h1]
  show (grunN (updV ln) (t :: ts) v (kn0 v t,initV ln t)).2=_
  rw [e2]
 have hin:(a,c)∈M:=by
  unfold knD at hk
  rw [Bool.or_eq_true] at hk
  rcases hk with hk | hk
  ·unfold sd at hk
   simp only [Bool.or_eq_true,Bool.and_eq_true] at hk
   rcases hk with hk | ⟨hk1,hk2⟩
   ·have hk:=Nat.eq_of_beq_eq_true hk
    have:=h7 a (by omega)
    rw [if_neg (by omega),srt_lt (by omega),hk] at this
    exact this
   ·have hk1:=Nat.eq_of_beq_eq_true hk1
    have hk2:=Nat.eq_of_beq_eq_true hk2
    have:=h7 c hc
    rw [if_pos hk2,srt_gt (by omega)] at this
    rw [hk1]
    exact this
  ·rw [List.any_eq_true] at hk
   obtain ⟨e,he,hee⟩:=hk
   rw [dgq_eq] at hee
   rw [hee]
   exact h6 e he
 have:=(hfin _ hin).1
 rw [<-hvec] at this
 exact this
theorem ptolemy (X:Nat->V2) (a b c d:Nat):detV X a c*detV X b d=detV X a b*detV X c d+detV X a d*detV X b c:=by
 unfold detV
 grind
def lenV (X:Nat->V2) (a c:Nat):Rat:=detV X (srt a c).1 (srt a c).2
theorem lenV_com (X:Nat->V2) (a c:Nat):lenV X a c=lenV X c a:=by unfold lenV;rw [srt_com]
theorem lenV_lt (X:Nat->V2) {a c:Nat} (h:a < c):lenV X a c=detV X a c:=by unfold lenV;rw [srt_lt h]
theorem lenV_cross (X:Nat->V2) {a c:Nat} {e:Dg} (h:crs (srt a c) e=true):lenV X a c*lenV X e.1 e.2=lenV X a e.1*lenV X c e.2+lenV X a e.2*lenV X c e.1:=by
 obtain ⟨p,q⟩:=e
 have hne:a≠c:=by
  rintro rfl
  rw [show srt a a=(a,a) by unfold srt;split <;> rfl] at h
  simp only [crs,Nat.blt_eq,Bool.or_eq_true,Bool.and_eq_true] at h
  omega
 rcases Nat.lt_or_gt_of_ne hne with g | g
 ·rw [srt_lt g] at h
  simp only [crs,Bool.or_eq_true,Bool.and_eq_true,Nat.blt_eq] at h
  dsimp only
  rcases h with ⟨h1,h2,h3⟩ | ⟨h1,h2,h3⟩
  ·have:=ptolemy X a p c q
   rw [lenV_lt X g,lenV_lt X (show p < q by omega),lenV_lt X h1,lenV_lt X h3,lenV_lt X (show a < q by omega),lenV_com X c p,lenV_lt X h2]
   exact this
  ·have:=ptolemy X p a q c
   rw [lenV_lt X g,lenV_lt X (show p < q by omega),lenV_com X a p,lenV_lt X h1,lenV_com X c q,lenV_lt X h3,lenV_lt X h2,lenV_com X c p,lenV_lt X (show p < c by omega)]
   grind
 ·rw [srt_gt g] at h
  simp only [crs,Bool.or_eq_true,Bool.and_eq_true,Nat.blt_eq] at h
  dsimp only
  rcases h with ⟨h1,h2,h3⟩ | ⟨h1,h2,h3⟩
  ·have:=ptolemy X c p a q
   rw [lenV_com X a c,lenV_lt X g,lenV_lt X (show p < q by omega),lenV_com X a p,lenV_lt X h2,lenV_lt X (show c < q by omega),lenV_lt X h3,lenV_lt X h1]
   grind
  ·have:=ptolemy X p c q a
   rw [lenV_com X a c,lenV_lt X g,lenV_lt X (show p < q by omega),lenV_com X a p,lenV_lt X (show p < a by omega),lenV_lt X h2,lenV_com X a q,lenV_lt X h3,lenV_com X c p,lenV_lt X h1]
   grind
end Go.Proofs.Ytncfmemhjahpeaa.Ab
namespace Go.Proofs.Ytncfmemhjahpeaa.Ab
open Go
section
variable {K:Type} [DecidableEq K] {lt:K->K->Bool} {mul dv:K->K->K} {D:K->Prop} {chk:K->Int->Bool}
theorem insK_top {k:K} {c:Int} (ho:Ord lt) (hc:c≠0):∀ (l:List (K×Int)),(∀ x∈l,lt x.1 k=true)->insK lt k c l=(k,c) :: l
 | [],_=>by simp [insK,hc]
 | x :: l,h=>by
  have hx:=h x (by simp)
  have hne:¬ x.1=k:=fun e=>by rw [e,ho.irr] at hx;simp at hx
  simp only [insK]
  rw [if_neg hne,if_pos hx,if_neg hc]
theorem co_prodK_cons (q:K) (x:K×Int) (a g:List (K×Int)):co q (prodK mul (x :: a) g)=co q (mulT mul x.1 x.2 g)+co q (prodK mul a g):=by
 unfold prodK
 rw [List.flatMap_cons,co_append]
theorem prodK_mem {a g:List (K×Int)} {y:K×Int} (h:y∈prodK mul a g):∃ x∈a,∃ z∈g,y=(mul x.1 z.1,x.2*z.2):=by
 unfold prodK at h
 obtain ⟨x,hx,h⟩:=List.mem_flatMap.1 h
 obtain ⟨z,hz,h⟩:=List.mem_map.1 h
 exact ⟨x,hx,z,hz,h.symm⟩
theorem divGo_prod (ho:Ord lt) (ha:Act lt mul dv D) (hdm:∀ a b,D a->D b->dv (mul a b) b=a) (hml:∀ x y b,D x->D y->D b->lt x y=true->lt (mul x b) (mul y b)=true)
  {b:K} {d:Int} {gt:List (K×Int)} (hgd:Desc lt ((b,d) :: gt)) (hg0:d≠0) (hgD:∀ x∈(b,d) :: gt,D x.1) :
  ∀ (k:Nat) (fs:List (K×Int)),Desc lt fs->Nz fs->(∀ x∈fs,D x.1/\chk x.1 x.2=true)->fs.length<=k->divGo lt mul dv chk ((b,d) :: gt) b d k (nf lt (prodK mul fs ((b,d) :: gt)))=some fs
 | k,[],_,_,_,_=>by cases k <;> rfl
 | 0,x :: fs,_,_,_,h=>by simp at h
 | k+1,x :: fs,hd,hz,hc,hk=>by
  obtain ⟨hd1,hd2⟩:=List.pairwise_cons.1 hd
  have hxz:=hz x (by simp)
  have hxD:=(hc x (by simp)).1
  have hbD:=hgD (b,d) (by simp)
  have hc0:x.2*d≠0:=Int.mul_ne_zero hxz hg0
  have hgt:=(List.pairwise_cons.1 hgd).1
  -- the greatest term
  have hrest:∀ y∈mulT mul x.1 x.2 gt ++ prodK mul fs ((b,d) :: gt),lt y.1 (mul x.1 b)=true:=fun y hy=>by
   rcases List.mem_append.1 hy with hy | hy
   ·obtain ⟨z,hzg,rfl⟩:=List.mem_map.1 hy
    exact ha.mul_lt _ _ _ hxD (hgD z (by simp [hzg])) hbD (hgt z hzg)
   ·obtain ⟨u,hu,z,hzg,rfl⟩:=prodK_mem hy
    have huD:=(hc u (by simp [hu])).1
    have h1:=hml _ _ b huD hxD hbD (hd1 u hu)
    rcases List.mem_cons.1 hzg with rfl | hzg
    ·exact h1
    ·exact ho.tr _ _ _ (ha.mul_lt _ _ _ huD (hgD z (by simp [hzg])) hbD (hgt z hzg)) h1
  have hR:nf lt (prodK mul (x :: fs) ((b,d) :: gt))=(mul x.1 b,x.2*d) :: nf lt (mulT mul x.1 x.2 gt ++ prodK mul fs ((b,d) :: gt)):=by
   have e:prodK mul (x :: fs) ((b,d) :: gt)=(mul x.1 b,x.2*d) :: (mulT mul x.1 x.2 gt ++ prodK mul fs ((b,d) :: gt)):=rfl
   rw [e]
   show insK lt (mul x.1 b) (x.2*d) (nf lt _)=_
   refine insK_top ho hc0 _ fun y hy=>?_
   obtain ⟨z,hzz,e2⟩:=nf_mem hy
   rw [<-e2]
   exact hrest z hzz
  rw [hR]
  simp only [divGo]
  have h1:(x.2*d).tmod d=0:=Int.mul_tmod_left _ _
  have h2:(x.2*d).tdiv d=x.2:=Int.mul_tdiv_cancel _ hg0
  rw [hdm _ _ hxD hbD,h1,h2,if_pos ⟨rfl,(hc x (by simp)).2⟩]
  have hnf:nf lt ((mul x.1 b,x.2*d) :: nf lt (mulT mul x.1 x.2 gt ++ prodK mul fs ((b,d) :: gt)) ++ mulT mul x.1 (-x.2) ((b,d) :: gt))=nf lt (prodK mul fs ((b,d) :: gt)):=by
   refine nf_unique ho (nf_desc ho _) (nf_nz _) fun q=>?_
   rw [nf_co,<-hR,co_append,nf_co,co_prodK_cons,co_mulT_neg]
   omega
  rw [hnf,divGo_prod ho ha hdm hml hgd hg0 hgD k fs hd2 (fun y hy=>hz y (by simp [hy])) (fun y hy=>hc y (by simp [hy])) (by simpa using hk)]
  rfl
end
end Go.Proofs.Ytncfmemhjahpeaa.Ab
namespace Go.Proofs.Ytncfmemhjahpeaa.Ab
open Go
def TTab:TT:=[
 (2,⟨.int .i64,1,8,[.int .i64 0]⟩),
 (3,⟨.int .i64,1,8,[.int .i64 0]⟩),
 (4,⟨.bool,1,1,[.bool false]⟩),
 (5,⟨.int .u8,1,1,[.int .u8 0]⟩),
 (22,⟨.sl 5,1,24,[.slice none 0 0]⟩),
 (24,⟨.sl 27,1,24,[.slice none 0 0]⟩),
 (25,⟨.sl 3,1,24,[.slice none 0 0]⟩),
 (27,⟨.st [(0,3),(1,3)],2,16,[.int .i64 0,.int .i64 0]⟩),
 (31,⟨.sl 78,1,24,[.slice none 0 0]⟩),
 (33,⟨.st [(0,3),(1,31)],2,32,[.int .i64 0,.slice none 0 0]⟩),
 (43,⟨.st [(0,3),(1,3),(2,25)],3,40,[.int .i64 0,.int .i64 0,.slice none 0 0]⟩),
 (46,⟨.sl 33,1,24,[.slice none 0 0]⟩),
 (48,⟨.st [(0,43),(3,46)],4,64,[.int .i64 0,.int .i64 0,.slice none 0 0,.slice none 0 0]⟩),
 (54,⟨.other,1,8,[.pointer none]⟩),
 (61,⟨.sl 25,1,24,[.slice none 0 0]⟩),
 (65,⟨.st [(0,3),(1,24)],2,32,[.int .i64 0,.slice none 0 0]⟩),
 (70,⟨.sl 24,1,24,[.slice none 0 0]⟩),
 (78,⟨.st [(0,25),(1,3)],2,32,[.slice none 0 0,.int .i64 0]⟩),
 (92,⟨.st [(0,22),(1,3),(2,3)],3,40,[.slice none 0 0,.int .i64 0,.int .i64 0]⟩),
 (110,⟨.arr 2 33,4,64,[.int .i64 0,.slice none 0 0,.int .i64 0,.slice none 0 0]⟩),
 (117,⟨.other,1,8,[.pointer none]⟩),
 (121,⟨.arr 8 3,8,64,[.int .i64 0,.int .i64 0,.int .i64 0,.int .i64 0,.int .i64 0,.int .i64 0,.int .i64 0,.int .i64 0]⟩),
 (125,⟨.map 121 3,1,8,[.map none]⟩),
 (127,⟨.st [(0,3),(1,125)],2,16,[.int .i64 0,.map none]⟩),
 (131,⟨.int .u64,1,8,[.int .u64 0]⟩)]
theorem tt2:tget TTab 2=some ⟨.int .i64,1,8,[.int .i64 0]⟩:=rfl
theorem tt3:tget TTab 3=some ⟨.int .i64,1,8,[.int .i64 0]⟩:=rfl
theorem tt4:tget TTab 4=some ⟨.bool,1,1,[.bool false]⟩:=rfl
theorem tt5:tget TTab 5=some ⟨.int .u8,1,1,[.int .u8 0]⟩:=rfl
theorem tt22:tget TTab 22=some ⟨.sl 5,1,24,[.slice none 0 0]⟩:=rfl
theorem tt24:tget TTab 24=some ⟨.sl 27,1,24,[.slice none 0 0]⟩:=rfl
theorem tt25:tget TTab 25=some ⟨.sl 3,1,24,[.slice none 0 0]⟩:=rfl
theorem tt27:tget TTab 27=some ⟨.st [(0,3),(1,3)],2,16,[.int .i64 0,.int .i64 0]⟩:=rfl
theorem tt31:tget TTab 31=some ⟨.sl 78,1,24,[.slice none 0 0]⟩:=rfl
theorem tt33:tget TTab 33=some ⟨.st [(0,3),(1,31)],2,32,[.int .i64 0,.slice none 0 0]⟩:=rfl
theorem tt43:tget TTab 43=some ⟨.st [(0,3),(1,3),(2,25)],3,40,[.int .i64 0,.int .i64 0,.slice none 0 0]⟩:=rfl
theorem tt46:tget TTab 46=some ⟨.sl 33,1,24,[.slice none 0 0]⟩:=rfl
theorem tt48:tget TTab 48=some ⟨.st [(0,43),(3,46)],4,64,[.int .i64 0,.int .i64 0,.slice none 0 0,.slice none 0 0]⟩:=rfl
theorem tt54:tget TTab 54=some ⟨.other,1,8,[.pointer none]⟩:=rfl
theorem tt61:tget TTab 61=some ⟨.sl 25,1,24,[.slice none 0 0]⟩:=rfl
theorem tt65:tget TTab 65=some ⟨.st [(0,3),(1,24)],2,32,[.int .i64 0,.slice none 0 0]⟩:=rfl
theorem tt70:tget TTab 70=some ⟨.sl 24,1,24,[.slice none 0 0]⟩:=rfl
theorem tt78:tget TTab 78=some ⟨.st [(0,25),(1,3)],2,32,[.slice none 0 0,.int .i64 0]⟩:=rfl
theorem tt92:tget TTab 92=some ⟨.st [(0,22),(1,3),(2,3)],3,40,[.slice none 0 0,.int .i64 0,.int .i64 0]⟩:=rfl
theorem tt110:tget TTab 110=some ⟨.arr 2 33,4,64,[.int .i64 0,.slice none 0 0,.int .i64 0,.slice none 0 0]⟩:=rfl
theorem tt117:tget TTab 117=some ⟨.other,1,8,[.pointer none]⟩:=rfl
theorem tt121:tget TTab 121=some ⟨.arr 8 3,8,64,[.int .i64 0,.int .i64 0,.int .i64 0,.int .i64 0,.int .i64 0,.int .i64 0,.int .i64 0,.int .i64 0]⟩:=rfl
theorem tt125:tget TTab 125=some ⟨.map 121 3,1,8,[.map none]⟩:=rfl
theorem tt127:tget TTab 127=some ⟨.st [(0,3),(1,125)],2,16,[.int .i64 0,.map none]⟩:=rfl
theorem tt131:tget TTab 131=some ⟨.int .u64,1,8,[.int .u64 0]⟩:=rfl
attribute [simp] tt2 tt3 tt4 tt5 tt22 tt24 tt25 tt27 tt31 tt33 tt43 tt46 tt48 tt54 tt61 tt65 tt70 tt78 tt92 tt110 tt117 tt121 tt125 tt127 tt131
def MM:List (Nat×List Bool):=[(19,[true,false]),(20,[true,false,false]),(21,[true,false]),(49,[true,false]),(51,[true,false]),(78,[true]),(80,[false,false,false,true,true]),(85,[true,false,false]),(88,[true]),(98,[true,false])]
theorem mm0:aget [] MM 0=[]:=rfl
theorem mm1:aget [] MM 1=[]:=rfl
theorem mm2:aget [] MM 2=[]:=rfl
theorem mm3:aget [] MM 3=[]:=rfl
theorem mm4:aget [] MM 4=[]:=rfl
theorem mm5:aget [] MM 5=[]:=rfl
theorem mm6:aget [] MM 6=[]:=rfl
theorem mm7:aget [] MM 7=[]:=rfl
theorem mm8:aget [] MM 8=[]:=rfl
theorem mm9:aget [] MM 9=[]:=rfl
theorem mm10:aget [] MM 10=[]:=rfl
theorem mm11:aget [] MM 11=[]:=rfl
theorem mm12:aget [] MM 12=[]:=rfl
theorem mm13:aget [] MM 13=[]:=rfl
theorem mm14:aget [] MM 14=[]:=rfl
theorem mm15:aget [] MM 15=[]:=rfl
theorem mm16:aget [] MM 16=[]:=rfl
theorem mm17:aget [] MM 17=[]:=rfl
theorem mm18:aget [] MM 18=[]:=rfl
theorem mm19:aget [] MM 19=[true,false]:=rfl
theorem mm20:aget [] MM 20=[true,false,false]:=rfl
theorem mm21:aget [] MM 21=[true,false]:=rfl
theorem mm22:aget [] MM 22=[]:=rfl
theorem mm23:aget [] MM 23=[]:=rfl
theorem mm24:aget [] MM 24=[]:=rfl
theorem mm25:aget [] MM 25=[]:=rfl
theorem mm26:aget [] MM 26=[]:=rfl
theorem mm27:aget [] MM 27=[]:=rfl
theorem mm28:aget [] MM 28=[]:=rfl
theorem mm29:aget [] MM 29=[]:=rfl
theorem mm30:aget [] MM 30=[]:=rfl
theorem mm31:aget [] MM 31=[]:=rfl
theorem mm32:aget [] MM 32=[]:=rfl
theorem mm33:aget [] MM 33=[]:=rfl
theorem mm34:aget [] MM 34=[]:=rfl
theorem mm35:aget [] MM 35=[]:=rfl
theorem mm36:aget [] MM 36=[]:=rfl
theorem mm37:aget [] MM 37=[]:=rfl
theorem mm38:aget [] MM 38=[]:=rfl
theorem mm39:aget [] MM 39=[]:=rfl
theorem mm40:aget [] MM 40=[]:=rfl
theorem mm41:aget [] MM 41=[]:=rfl
theorem mm42:aget [] MM 42=[]:=rfl
theorem mm43:aget [] MM 43=[]:=rfl
theorem mm44:aget [] MM 44=[]:=rfl
theorem mm45:aget [] MM 45=[]:=rfl
theorem mm46:aget [] MM 46=[]:=rfl
theorem mm47:aget [] MM 47=[]:=rfl
theorem mm48:aget [] MM 48=[]:=rfl
theorem mm49:aget [] MM 49=[true,false]:=rfl
theorem mm50:aget [] MM 50=[]:=rfl
theorem mm51:aget [] MM 51=[true,false]:=rfl
theorem mm52:aget [] MM 52=[]:=rfl
theorem mm53:aget [] MM 53=[]:=rfl
theorem mm54:aget [] MM 54=[]:=rfl
theorem mm55:aget [] MM 55=[]:=rfl
theorem mm56:aget [] MM 56=[]:=rfl
theorem mm57:aget [] MM 57=[]:=rfl
theorem mm58:aget [] MM 58=[]:=rfl
theorem mm59:aget [] MM 59=[]:=rfl
theorem mm60:aget [] MM 60=[]:=rfl
theorem mm61:aget [] MM 61=[]:=rfl
theorem mm62:aget [] MM 62=[]:=rfl
theorem mm63:aget [] MM 63=[]:=rfl
theorem mm64:aget [] MM 64=[]:=rfl
theorem mm65:aget [] MM 65=[]:=rfl
theorem mm66:aget [] MM 66=[]:=rfl
theorem mm67:aget [] MM 67=[]:=rfl
theorem mm68:aget [] MM 68=[]:=rfl
theorem mm69:aget [] MM 69=[]:=rfl
theorem mm70:aget [] MM 70=[]:=rfl
theorem mm71:aget [] MM 71=[]:=rfl
theorem mm72:aget [] MM 72=[]:=rfl
theorem mm73:aget [] MM 73=[]:=rfl
theorem mm74:aget [] MM 74=[]:=rfl
theorem mm75:aget [] MM 75=[]:=rfl
theorem mm76:aget [] MM 76=[]:=rfl
theorem mm77:aget [] MM 77=[]:=rfl
theorem mm78:aget [] MM 78=[true]:=rfl
theorem mm79:aget [] MM 79=[]:=rfl
theorem mm80:aget [] MM 80=[false,false,false,true,true]:=rfl
theorem mm81:aget [] MM 81=[]:=rfl
theorem mm82:aget [] MM 82=[]:=rfl
theorem mm83:aget [] MM 83=[]:=rfl
theorem mm84:aget [] MM 84=[]:=rfl
theorem mm85:aget [] MM 85=[true,false,false]:=rfl
theorem mm86:aget [] MM 86=[]:=rfl
theorem mm87:aget [] MM 87=[]:=rfl
theorem mm88:aget [] MM 88=[true]:=rfl
theorem mm89:aget [] MM 89=[]:=rfl
theorem mm90:aget [] MM 90=[]:=rfl
theorem mm91:aget [] MM 91=[]:=rfl
theorem mm92:aget [] MM 92=[]:=rfl
theorem mm93:aget [] MM 93=[]:=rfl
theorem mm94:aget [] MM 94=[]:=rfl
theorem mm95:aget [] MM 95=[]:=rfl
theorem mm96:aget [] MM 96=[]:=rfl
theorem mm97:aget [] MM 97=[]:=rfl
theorem mm98:aget [] MM 98=[true,false]:=rfl
theorem mm99:aget [] MM 99=[]:=rfl
theorem mm100:aget [] MM 100=[]:=rfl
theorem mm101:aget [] MM 101=[]:=rfl
theorem mm102:aget [] MM 102=[]:=rfl
theorem mm103:aget [] MM 103=[]:=rfl
theorem mm104:aget [] MM 104=[]:=rfl
theorem mm105:aget [] MM 105=[]:=rfl
theorem mm106:aget [] MM 106=[]:=rfl
theorem mm107:aget [] MM 107=[]:=rfl
theorem mm108:aget [] MM 108=[]:=rfl
theorem mm109:aget [] MM 109=[]:=rfl
theorem mm110:aget [] MM 110=[]:=rfl
theorem mm111:aget [] MM 111=[]:=rfl
theorem mm112:aget [] MM 112=[]:=rfl
theorem mm113:aget [] MM 113=[]:=rfl
theorem mm114:aget [] MM 114=[]:=rfl
theorem mm115:aget [] MM 115=[]:=rfl
theorem mm116:aget [] MM 116=[]:=rfl
theorem mm117:aget [] MM 117=[]:=rfl
theorem mm118:aget [] MM 118=[]:=rfl
theorem mm119:aget [] MM 119=[]:=rfl
theorem mm120:aget [] MM 120=[]:=rfl
theorem mm121:aget [] MM 121=[]:=rfl
theorem mm122:aget [] MM 122=[]:=rfl
theorem mm123:aget [] MM 123=[]:=rfl
theorem mm124:aget [] MM 124=[]:=rfl
theorem mm125:aget [] MM 125=[]:=rfl
theorem mm126:aget [] MM 126=[]:=rfl
theorem mm127:aget [] MM 127=[]:=rfl
theorem mm128:aget [] MM 128=[]:=rfl
theorem mm129:aget [] MM 129=[]:=rfl
theorem mm130:aget [] MM 130=[]:=rfl
theorem mm131:aget [] MM 131=[]:=rfl
theorem mm132:aget [] MM 132=[]:=rfl
theorem mm133:aget [] MM 133=[]:=rfl
theorem mm134:aget [] MM 134=[]:=rfl
attribute [simp] mm0 mm1 mm2 mm3 mm4 mm5 mm6 mm7 mm8 mm9 mm10 mm11 mm12 mm13 mm14 mm15 mm16 mm17 mm18 mm19 mm20 mm21 mm22 mm23 mm24 mm25 mm26 mm27 mm28 mm29 mm30 mm31 mm32 mm33 mm34 mm35 mm36 mm37 mm38 mm39 mm40 mm41 mm42 mm43 mm44 mm45 mm46 mm47 mm48 mm49 mm50 mm51 mm52 mm53 mm54 mm55 mm56 mm57 mm58 mm59 mm60 mm61 mm62 mm63 mm64 mm65 mm66 mm67 mm68 mm69 mm70 mm71 mm72 mm73 mm74 mm75 mm76 mm77 mm78 mm79 mm80 mm81 mm82 mm83 mm84 mm85 mm86 mm87 mm88 mm89 mm90 mm91 mm92 mm93 mm94 mm95 mm96 mm97 mm98 mm99 mm100 mm101 mm102 mm103 mm104 mm105 mm106 mm107 mm108 mm109 mm110 mm111 mm112 mm113 mm114 mm115 mm116 mm117 mm118 mm119 mm120 mm121 mm122 mm123 mm124 mm125 mm126 mm127 mm128 mm129 mm130 mm131 mm132 mm133 mm134
namespace F
abbrev laws_FnArcs:Nat:=4
abbrev laws_big:Nat:=5
abbrev spec_DrawFlips:Nat:=6
abbrev impl_ArcLaurent:Nat:=8
abbrev impl_MatrixOfTriangulation:Nat:=13
abbrev impl_InitialSeed:Nat:=14
abbrev impl_FlipDiagonal:Nat:=15
abbrev impl_MutateSeed:Nat:=16
abbrev laws_laurents:Nat:=17
abbrev spec_l1New:Nat:=18
abbrev spec_dTriangulation:Nat:=19
abbrev spec_dSteps:Nat:=20
abbrev spec_dDiagonal:Nat:=21
abbrev impl_IsTriangulation:Nat:=22
abbrev impl_TrianglesOf:Nat:=23
abbrev impl_IsDiagonal:Nat:=24
abbrev impl_lengths_of:Nat:=25
abbrev impl_within:Nat:=27
abbrev impl_LaurentOk:Nat:=31
abbrev slices_ContainsFunc_int_int:Nat:=32
abbrev slices_Index_impl_Diagonal_impl_Diagonal:Nat:=37
abbrev impl_MatrixOk:Nat:=38
abbrev slices_Clone_int_int:Nat:=39
abbrev impl_MonomialLaurent:Nat:=40
abbrev impl_unit:Nat:=41
abbrev impl_diagonalsOf:Nat:=42
abbrev slices_Clone_impl_Diagonal_impl_Diagonal:Nat:=43
abbrev impl_SeedOk:Nat:=44
abbrev impl_exchange:Nat:=45
abbrev impl_MutateMatrix:Nat:=46
abbrev impl_copySeed:Nat:=47
abbrev laws_ints:Nat:=48
abbrev spec_l1Below:Nat:=49
abbrev spec_TriangulationsOf:Nat:=50
abbrev spec_dNames:Nat:=51
abbrev spec_l5All:Nat:=52
abbrev impl_polygonOk:Nat:=53
abbrev impl_apart:Nat:=54
abbrev impl_TrianglesOf_1:Nat:=55
abbrev impl_beside:Nat:=56
abbrev slices_Contains_impl_Diagonal_impl_Diagonal:Nat:=57
abbrev impl_ConstantLaurent:Nat:=58
abbrev impl_DiagonalsCross:Nat:=59
abbrev impl_lengths_known:Nat:=60
abbrev impl_MulLaurents:Nat:=61
abbrev impl_AddLaurents:Nat:=62
abbrev impl_DivideLaurents:Nat:=63
abbrev impl_expOk:Nat:=67
abbrev impl_coefOk:Nat:=68
abbrev slices_Compare_int_int:Nat:=69
abbrev slices_IndexFunc_int_int:Nat:=70
abbrev impl_shaped:Nat:=71
abbrev impl_factors:Nat:=72
abbrev slices_ContainsFunc_impl_Laurent_impl_Laurent:Nat:=73
abbrev impl_SeedOk_1:Nat:=74
abbrev impl_Matrix_at:Nat:=75
abbrev impl_mutated:Nat:=76
abbrev impl_copyLaurent:Nat:=77
abbrev spec_l1Byte:Nat:=78
abbrev spec_l5Polygon:Nat:=79
abbrev spec_l5Choose:Nat:=80
abbrev slices_ContainsFunc_impl_Diagonal_impl_Diagonal:Nat:=81
abbrev impl_apart_1:Nat:=82
abbrev impl_bothOk:Nat:=83
abbrev impl_newBuilding:Nat:=84
abbrev impl_building_add:Nat:=85
abbrev impl_plusExp:Nat:=86
abbrev impl_keyOf:Nat:=87
abbrev impl_building_done:Nat:=88
abbrev impl_expOk_1:Nat:=90
abbrev cmp_Compare_int:Nat:=91
abbrev impl_shaped_1:Nat:=92
abbrev impl_gcd:Nat:=93
abbrev slices_IndexFunc_impl_Laurent_impl_Laurent:Nat:=94
abbrev spec_l1In:Nat:=95
abbrev spec_l5Cross:Nat:=96
abbrev slices_IndexFunc_impl_Diagonal_impl_Diagonal:Nat:=97
abbrev slices_SortFunc_impl_Term_impl_Term:Nat:=98
abbrev impl_building_done_1:Nat:=99
abbrev cmp_isNaN_int:Nat:=100
end F
namespace C
noncomputable def spec_l1In:Ctx:={ P:=Try.prog,T:=TTab,M:=MM,nW:=0,kp:=[(0,[0,1,2]),(1,[6])],lp:=[],pl:=[] }
noncomputable def impl_within:Ctx:={ P:=Try.prog,T:=TTab,M:=MM,nW:=0,kp:=[(0,[0,1,2]),(1,[6])],lp:=[],pl:=[] }
noncomputable def slices_IndexFunc_int_int:Ctx:={ P:=Try.prog,T:=TTab,M:=MM,nW:=0,kp:=[(0,[0,1]),(1,[0,1,7,8]),(2,[0,1,7,8,9]),(3,[0,1,5,7,8]),(4,[0,1,5,7,8,16]),(5,[4]),(6,[0,1,7,8]),(7,[4])],lp:=[(0,[0,1,7,8])],pl:=[] }
noncomputable def slices_ContainsFunc_int_int:Ctx:={ P:=Try.prog,T:=TTab,M:=MM,nW:=0,kp:=[(0,[0,1]),(1,[4])],lp:=[],pl:=[] }
noncomputable def impl_shaped_1:Ctx:={ P:=Try.prog,T:=TTab,M:=MM,nW:=0,kp:=[(0,[0]),(1,[2])],lp:=[],pl:=[] }
noncomputable def impl_shaped:Ctx:={ P:=Try.prog,T:=TTab,M:=MM,nW:=0,kp:=[(0,[1]),(1,[2])],lp:=[],pl:=[] }
noncomputable def impl_Matrix_at:Ctx:={ P:=Try.prog,T:=TTab,M:=MM,nW:=0,kp:=[(0,[1,2,3]),(1,[6])],lp:=[],pl:=[] }
noncomputable def impl_gcd:Ctx:={ P:=Try.prog,T:=TTab,M:=MM,nW:=0,kp:=[(0,[0,1]),(1,[0,1,6]),(2,[0,1]),(3,[4])],lp:=[(0,[0,1])],pl:=[(2,.take 0 (.take 1 (.take 2 (.take 3 (.take 4 (.take 5 (.done)))))))] }
noncomputable def impl_factors:Ctx:={ P:=Try.prog,T:=TTab,M:=MM,nW:=0,kp:=[(0,[1]),(1,[1,3,4]),(2,[1,3,4,5]),(3,[1,3,4,5,34,35]),(4,[1,3,4,5,34,35,36]),(5,[1,3,4,5,6,34,35]),(6,[1,3,4,5,6,34,35,42]),(7,[1,3,4,5,6,34,35]),(8,[1,3,4,5,7,34,35]),(9,[1,3,4,5,7,8,34,35]),(10,[1,3,4,5,7,8,34,35,54]),(11,[1,3,4,5,7,8,34,35]),(12,[1,3,4,5,7,8,9,34,35]),(13,[1,3,4,5,7,8,9,34,35,62,63]),(14,[1,3,4,5,7,8,9,34,35,62,63,64]),(15,[1,3,4,5,7,8,9,10,34,35,62,63]),(16,[1,3,4,5,7,8,9,10,11,12,34,35,62,63]),(17,[1,3,4,5,7,8,9,10,11,12,34,35,62,63,80]),(18,[1,3,4,5,7,8,9,10,11,12,34,35,62,63,98]),(19,[2]),(20,[1,3,4,5,7,8,9,10,13,14,34,35,62,63]),(21,[1,3,4,5,7,8,9,10,13,14,15,34,35,62,63]),(22,[1,3,4,5,7,8,9,10,13,14,34,35,62,63]),(23,[1,3,4,5,7,8,9,10,13,14,34,35,62,63,130]),(24,[1,3,4,5,7,8,9,10,34,35,62,63]),(25,[1,3,4,5,7,8,9,34,35,62,63]),(26,[1,3,4,5,7,8,9,34,35,62,63,156]),(27,[2]),(28,[1,3,4,5,7,8,9,34,35,62,63]),(29,[1,3,4,5,7,16,34,35]),(30,[1,3,4,5,7,16,34,35,158,159,160]),(31,[1,3,4,5,7,16,34,35,158,159,160,161]),(32,[1,3,4,5,7,16,18,34,35,158,159,160]),(33,[1,3,4,5,7,16,34,35,158,159,160]),(34,[1,3,4,5,7,16,34,35,158,159,160]),(35,[1,3,4,5,7,16,19,34,35]),(36,[1,3,4,5,7,16,19,34,35,178,179,180]),(37,[1,3,4,5,7,16,19,34,35,178,179,180,181]),(38,[1,3,4,5,7,16,19,21,34,35,178,179,180]),(39,[1,3,4,5,7,16,19,21,34,35,178,179,180]),(40,[1,3,4,5,7,16,19,34,35,178,179,180]),(41,[1,3,4,5,7,16,19,34,35,178,179,180]),(42,[1,3,4,5,19,34,35,205,206,207]),(43,[1,3,4,5,19,34,35,205,206,207,208]),(44,[1,3,4,5,19,23,34,35,205,206,207]),(45,[1,3,4,5,19,34,35,205,206,207]),(46,[1,3,4,5,19,34,35,205,206,207]),(47,[1,3,4,5,34,35]),(48,[2])],lp:=[(0,[1,3,4,5,34,35]),(2,[1,3,4,5,7,8,34,35]),(4,[1,3,4,5,7,8,9,34,35,62,63]),(6,[1,3,4,5,7,16,34,35,158,159,160]),(8,[1,3,4,5,7,16,19,34,35,178,179,180]),(10,[1,3,4,5,19,34,35,205,206,207])],pl:=[(1,.take 0 (.take 1 (.take 3 (.take 4 (.all [(2,.take 6 (.all [(5,.take 7 (.done))])),(5,.all [(2,.take 6 (.take 7 (.done)))])]))))),(16,.take 0 (.take 1 (.take 2 (.take 4 (.take 5 (.take 6 (.all [(3,.all [(7,.take 8 (.take 9 (.take 10 (.done))))])]))))))),(20,.take 0 (.take 1 (.take 2 (.take 3 (.take 4 (.take 5 (.take 6 (.take 7 (.take 8 (.take 9 (.take 10 (.take 11 (.take 12 (.take 13 (.take 14 (.take 15 (.take 16 (.take 17 (.take 18 (.take 19 (.done))))))))))))))))))))),(22,.take 0 (.take 1 (.take 2 (.take 3 (.take 4 (.take 5 (.take 6 (.take 7 (.done))))))))),(33,.take 0 (.take 1 (.take 2 (.take 3 (.take 4 (.take 5 (.take 8 (.take 9 (.take 10 (.take 11 (.all [(6,.take 7 (.take 12 (.take 13 (.done))))]))))))))))),(39,.take 0 (.take 1 (.take 2 (.take 3 (.take 4 (.take 5 (.take 6 (.take 7 (.take 8 (.take 9 (.take 10 (.take 11 (.take 12 (.take 13 (.all [(14,.done)])))))))))))))))] }
noncomputable def impl_MatrixOk:Ctx:={ P:=Try.prog,T:=TTab,M:=MM,nW:=0,kp:=[(0,[1]),(1,[2])],lp:=[],pl:=[] }
noncomputable def slices_Clone_int_int:Ctx:={ P:=Try.prog,T:=TTab,M:=MM,nW:=0,kp:=[(0,[0]),(1,[0,4]),(2,[2]),(3,[2])],lp:=[],pl:=[] }
noncomputable def impl_unit:Ctx:={ P:=Try.prog,T:=TTab,M:=MM,nW:=0,kp:=[(0,[0,1]),(1,[1,5]),(2,[5]),(3,[4])],lp:=[],pl:=[] }
noncomputable def impl_expOk_1:Ctx:={ P:=Try.prog,T:=TTab,M:=MM,nW:=0,kp:=[(0,[0]),(1,[2])],lp:=[],pl:=[] }
noncomputable def impl_expOk:Ctx:={ P:=Try.prog,T:=TTab,M:=MM,nW:=0,kp:=[(0,[0,1]),(1,[4])],lp:=[],pl:=[] }
noncomputable def impl_MonomialLaurent:Ctx:={ P:=Try.prog,T:=TTab,M:=MM,nW:=0,kp:=[(0,[0,2]),(1,[0,2,13]),(2,[2]),(3,[2])],lp:=[],pl:=[] }
noncomputable def impl_InitialSeed:Ctx:={ P:=Try.prog,T:=TTab,M:=MM,nW:=0,kp:=[(0,[1,2]),(1,[1,2,8]),(2,[2,3]),(3,[1,2,4]),(4,[1,2,4,5]),(5,[1,2,4,5,22]),(6,[1,2,4,5]),(7,[1,2,4,5]),(8,[2,3])],lp:=[(0,[1,2,4,5])],pl:=[(3,.take 0 (.take 1 (.take 2 (.take 3 (.take 4 (.take 5 (.all [(6,.take 7 (.take 8 (.all [(9,.all [(10,.done)])]))),(9,.all [(6,.take 7 (.take 8 (.all [(10,.done)])))])]))))))),(7,.take 0 (.take 1 (.take 2 (.take 3 (.take 4 (.all [(5,.all [(6,.all [(7,.all [(8,.take 9 (.all [(10,.done)]))])])])]))))))] }
noncomputable def impl_copyLaurent:Ctx:={ P:=Try.prog,T:=TTab,M:=MM,nW:=0,kp:=[(0,[1,2]),(1,[1,2,3]),(2,[2,3,10,11,12]),(3,[2,3,10,11,12,13]),(4,[2,3,5,10,11,12]),(5,[2,3,10,11,12]),(6,[2,3,10,11,12]),(7,[2])],lp:=[(0,[2,3,10,11,12])],pl:=[(5,.take 0 (.take 1 (.take 2 (.take 3 (.take 5 (.take 6 (.all [(4,.take 7 (.all [(8,.all [(9,.take 10 (.all [(11,.done)]))])]))])))))))] }
noncomputable def impl_copySeed:Ctx:={ P:=Try.prog,T:=TTab,M:=MM,nW:=0,kp:=[(0,[1,2]),(1,[1,2,3]),(2,[2,3,19,20,21]),(3,[2,3,19,20,21,22]),(4,[2,3,5,19,20,21]),(5,[2,3,19,20,21]),(6,[2,3,19,20,21]),(7,[2])],lp:=[(0,[2,3,19,20,21])],pl:=[(1,.take 0 (.take 1 (.take 2 (.take 3 (.take 4 (.take 5 (.take 6 (.take 7 (.take 8 (.all [(9,.take 10 (.take 11 (.all [(12,.all [(13,.done)])]))),(12,.all [(9,.take 10 (.take 11 (.all [(13,.done)])))])])))))))))),(5,.take 0 (.take 1 (.take 2 (.all [(3,.all [(4,.all [(5,.take 6 (.all [(7,.done)]))])])]))))] }
noncomputable def cmp_isNaN_int:Ctx:={ P:=Try.prog,T:=TTab,M:=MM,nW:=0,kp:=[(0,[0]),(1,[2])],lp:=[],pl:=[] }
noncomputable def cmp_Compare_int:Ctx:={ P:=Try.prog,T:=TTab,M:=MM,nW:=0,kp:=[(0,[0,1]),(1,[0,1,5]),(2,[0,1,5,6]),(3,[0,1,6,11]),(4,[12]),(5,[4]),(6,[4]),(7,[0,1,13]),(8,[4]),(9,[0,1,16]),(10,[4]),(11,[19]),(12,[4]),(13,[4])],lp:=[],pl:=[] }
noncomputable def slices_Compare_int_int:Ctx:={ P:=Try.prog,T:=TTab,M:=MM,nW:=0,kp:=[(0,[0,1]),(1,[0,1,9,10,11]),(2,[0,1,9,10,11,12]),(3,[0,1,5,6,9,10,11]),(4,[0,1,5,6,9,10,11,19]),(5,[4]),(6,[0,1,6,7,9,10,11]),(7,[0,1,8,9,10,11]),(8,[0,1,8,9,10,11,28]),(9,[4]),(10,[0,1,9,10,11]),(11,[35]),(12,[4]),(13,[4])],lp:=[(0,[0,1,9,10,11])],pl:=[] }
noncomputable def impl_coefOk:Ctx:={ P:=Try.prog,T:=TTab,M:=MM,nW:=0,kp:=[(0,[0]),(1,[2])],lp:=[],pl:=[] }
noncomputable def impl_LaurentOk:Ctx:={ P:=Try.prog,T:=TTab,M:=MM,nW:=0,kp:=[(0,[1]),(1,[1,14]),(2,[2]),(3,[1,16,17,18]),(4,[1,16,17,18,19]),(5,[1,3,4,16,17,18]),(6,[1,16,17,18,51]),(7,[2]),(8,[1,16,17,18]),(9,[2])],lp:=[(0,[1,16,17,18])],pl:=[(6,.take 0 (.take 1 (.take 2 (.take 3 (.all [(4,.take 5 (.take 6 (.take 7 (.take 8 (.all [(9,.take 10 (.take 11 (.take 12 (.take 13 (.take 14 (.take 15 (.take 16 (.take 17 (.take 18 (.take 19 (.take 20 (.take 21 (.take 22 (.take 23 (.take 24 (.all [(25,.take 26 (.take 27 (.take 28 (.done))))]))))))))))))))))])))))])))))] }
noncomputable def impl_bothOk:Ctx:={ P:=Try.prog,T:=TTab,M:=MM,nW:=0,kp:=[(0,[2,3]),(1,[4])],lp:=[],pl:=[] }
noncomputable def impl_newBuilding:Ctx:={ P:=Try.prog,T:=TTab,M:=MM,nW:=0,kp:=[(0,[0]),(1,[2])],lp:=[],pl:=[] }
noncomputable def impl_building_add:Ctx:={ P:=Try.prog,T:=TTab,M:=MM,nW:=1,kp:=[(0,[0,2,4]),(1,[0,2,4]),(2,[0,2,4,15]),(3,[]),(4,[])],lp:=[],pl:=[(1,.take 0 (.take 1 (.take 2 (.take 3 (.take 4 (.take 5 (.take 6 (.take 7 (.take 8 (.done)))))))))),(3,.take 0 (.take 1 (.take 2 (.take 3 (.take 4 (.all [(5,.done)])))))),(4,.take 0 (.take 1 (.take 2 (.take 3 (.take 4 (.take 5 (.all [(6,.done)])))))))] }
noncomputable def impl_plusExp:Ctx:={ P:=Try.prog,T:=TTab,M:=MM,nW:=0,kp:=[(0,[1,3,5,6]),(1,[1,3,5,6,8]),(2,[1,3,5,6,8,9]),(3,[1,3,5,6,7,8]),(4,[1,3,5,6,8]),(5,[1,3,5,6,8]),(6,[6])],lp:=[(0,[1,3,5,6,8])],pl:=[(4,.take 0 (.take 1 (.take 2 (.take 3 (.take 4 (.take 5 (.take 6 (.take 7 (.take 8 (.take 9 (.all [(10,.done)])))))))))))] }
noncomputable def impl_keyOf:Ctx:={ P:=Try.prog,T:=TTab,M:=MM,nW:=0,kp:=[(0,[0,2]),(1,[0,2,3]),(2,[2,3]),(3,[2])],lp:=[],pl:=[] }
noncomputable def slices_SortFunc_impl_Term_impl_Term:Ctx:={ P:=Try.prog,T:=TTab,M:=MM,nW:=0,kp:=[(0,[0,1,4]),(1,[])],lp:=[],pl:=[] }
noncomputable def impl_building_done_1:Ctx:={ P:=Try.prog,T:=TTab,M:=MM,nW:=0,kp:=[(0,[2,3]),(1,[4])],lp:=[],pl:=[] }
noncomputable def impl_building_done:Ctx:={ P:=Try.prog,T:=TTab,M:=MM,nW:=1,kp:=[(0,[0,2]),(1,[0,2,4]),(2,[0,2,4,17]),(3,[2,3]),(4,[0,2,4,23]),(5,[0,2,4,23,25]),(6,[0,2,4,5,6,23]),(7,[0,2,4,23]),(8,[2,4]),(9,[2,4,47]),(10,[2,3]),(11,[2,3])],lp:=[(0,[0,2,4,23])],pl:=[(7,.take 0 (.take 1 (.take 2 (.take 3 (.take 4 (.take 5 (.take 6 (.take 8 (.all [(7,.take 9 (.all [(10,.all [(11,.take 12 (.all [(13,.done)]))])]))])))))))))] }
noncomputable def impl_MulLaurents:Ctx:={ P:=Try.prog,T:=TTab,M:=MM,nW:=0,kp:=[(0,[2,3,4]),(1,[2,3,4,14]),(2,[4,5]),(3,[2,3,4,6]),(4,[3,4,6,20,21,22]),(5,[3,4,6,20,21,22,23]),(6,[3,4,6,8,20,21,22]),(7,[3,4,6,8,20,21,22,27,28,29]),(8,[3,4,6,8,20,21,22,27,28,29,30]),(9,[3,4,6,8,10,20,21,22,27,28,29]),(10,[3,4,6,8,20,21,22,27,28,29]),(11,[3,4,6,8,20,21,22,27,28,29]),(12,[3,4,6,20,21,22]),(13,[4,5])],lp:=[(0,[3,4,6,20,21,22]),(2,[3,4,6,8,20,21,22,27,28,29])],pl:=[(10,.take 0 (.take 1 (.take 2 (.take 4 (.take 5 (.take 8 (.take 9 (.take 10 (.take 11 (.take 12 (.all [(3,.all [(6,.all [(7,.all [(13,.done)])])])])))))))))))] }
noncomputable def impl_ConstantLaurent:Ctx:={ P:=Try.prog,T:=TTab,M:=MM,nW:=0,kp:=[(0,[0,1,4]),(1,[0,1,4,12]),(2,[4]),(3,[0,1,4,15]),(4,[4]),(5,[4])],lp:=[],pl:=[] }
noncomputable def impl_DivideLaurents:Ctx:={ P:=Try.prog,T:=TTab,M:=MM,nW:=0,kp:=[(0,[2,3,4]),(1,[2,3,4,28]),(2,[4,5]),(3,[2,3,4,6]),(4,[2,3,4,6,34,35,36]),(5,[2,3,4,6,34,35,36,37]),(6,[2,3,4,6,8,34,35,36]),(7,[2,3,4,6,34,35,36]),(8,[2,3,4,6,34,35,36]),(9,[2,3,4,6,9]),(10,[2,3,4,6,9,10]),(11,[2,3,4,6,9,10,60]),(12,[2,3,4,6,9,10,11]),(13,[2,3,4,6,9,10,11,12]),(14,[2,3,4,6,9,10,11,12,65]),(15,[2,3,4,6,9,10,11,12,65,67]),(16,[2,3,4,6,9,10,11,12,13,65]),(17,[2,3,4,6,9,10,11,12,13,65,76]),(18,[2,3,4,6,9,10,11,12,65]),(19,[2,3,4,6,9,10,11,14]),(20,[2,3,4,6,9,10,14,15]),(21,[2,3,4,6,9,10,14,15,16]),(22,[2,3,4,6,9,10,15,16,119]),(23,[4,5]),(24,[2,3,4,6,9,10,15,16]),(25,[2,3,4,6,9,10,15,16,126,127,128]),(26,[2,3,4,6,9,10,15,16,126,127,128,129]),(27,[2,3,4,6,9,10,15,16,18,126,127,128]),(28,[2,3,4,6,9,10,15,16,126,127,128]),(29,[2,3,4,6,9,10,15,16,126,127,128]),(30,[4,5])],lp:=[(0,[2,3,4,6,34,35,36]),(2,[2,3,4,6,9,10]),(4,[2,3,4,6,9,10,11,12,65]),(6,[2,3,4,6,9,10,15,16,126,127,128])],pl:=[(7,.take 0 (.take 1 (.take 2 (.take 4 (.take 5 (.all [(3,.all [(6,.done)])])))))),(17,.take 0 (.take 1 (.take 2 (.take 3 (.all [(4,.take 5 (.take 6 (.done)))]))))),(19,.take 0 (.take 1 (.take 2 (.take 3 (.take 4 (.take 5 (.take 6 (.done)))))))),(20,.take 0 (.take 1 (.take 2 (.all [(3,.all [(4,.all [(5,.all [(6,.done)])]),(5,.all [(4,.all [(6,.done)])])]),(5,.all [(3,.all [(4,.all [(6,.done)])])])])))),(22,.take 0 (.take 1 (.take 2 (.take 3 (.take 4 (.take 5 (.take 6 (.take 7 (.take 8 (.take 9 (.take 10 (.all [(11,.take 12 (.take 13 (.take 14 (.take 15 (.all [(16,.take 17 (.take 18 (.take 19 (.take 20 (.take 21 (.take 22 (.take 23 (.take 24 (.take 25 (.take 26 (.done)))))))))))])))))])))))))))))),(28,.take 0 (.take 1 (.take 2 (.take 3 (.take 6 (.take 7 (.take 8 (.take 9 (.take 10 (.all [(4,.all [(5,.all [(11,.done)])])]))))))))))] }
noncomputable def impl_AddLaurents:Ctx:={ P:=Try.prog,T:=TTab,M:=MM,nW:=0,kp:=[(0,[1,3,5,6]),(1,[1,3,5,6,21]),(2,[6,7]),(3,[1,3,5,6,8]),(4,[1,5,6,8,27,28,29]),(5,[1,5,6,8,27,28,29,30]),(6,[1,5,6,8,10,27,28,29]),(7,[1,5,6,8,27,28,29]),(8,[1,5,6,8,27,28,29]),(9,[1,6,8,42,43,44]),(10,[1,6,8,42,43,44,45]),(11,[1,6,8,12,42,43,44]),(12,[1,6,8,42,43,44]),(13,[1,6,8,42,43,44]),(14,[6,7])],lp:=[(0,[1,5,6,8,27,28,29]),(2,[1,6,8,42,43,44])],pl:=[(7,.take 0 (.take 1 (.take 2 (.take 4 (.take 5 (.all [(3,.all [(6,.done)])])))))),(12,.take 0 (.take 1 (.take 2 (.take 4 (.take 5 (.take 6 (.take 7 (.all [(3,.all [(8,.done)])]))))))))] }
noncomputable def laws_big:Ctx:={ P:=Try.prog,T:=TTab,M:=MM,nW:=0,kp:=[(0,[0]),(1,[2])],lp:=[],pl:=[] }
noncomputable def spec_l1New:Ctx:={ P:=Try.prog,T:=TTab,M:=MM,nW:=0,kp:=[(0,[0]),(1,[0,3]),(2,[0,3,4]),(3,[0,3,4,15]),(4,[0,3,4]),(5,[0,3,4]),(6,[2])],lp:=[(0,[0,3,4])],pl:=[] }
noncomputable def spec_l1Byte:Ctx:={ P:=Try.prog,T:=TTab,M:=MM,nW:=1,kp:=[(0,[0]),(1,[0]),(2,[0,3]),(3,[0,3,34]),(4,[0,3]),(5,[3]),(6,[2])],lp:=[],pl:=[(2,.take 0 (.take 1 (.take 2 (.take 3 (.take 4 (.take 5 (.take 6 (.take 7 (.take 8 (.take 9 (.take 10 (.take 11 (.take 12 (.done)))))))))))))),(3,.take 0 (.take 1 (.take 2 (.take 3 (.take 4 (.take 5 (.take 6 (.take 7 (.take 8 (.take 9 (.done))))))))))),(4,.take 0 (.take 1 (.take 2 (.take 3 (.take 4 (.take 5 (.take 6 (.take 7 (.take 8 (.take 9 (.take 10 (.take 11 (.take 12 (.take 13 (.take 14 (.done))))))))))))))))] }
noncomputable def spec_l1Below:Ctx:={ P:=Try.prog,T:=TTab,M:=MM,nW:=1,kp:=[(0,[0,1]),(1,[0,1,10]),(2,[4]),(3,[0,1,12]),(4,[4]),(5,[0,1,5]),(6,[0,1,5,6]),(7,[0,1,5,6,7]),(8,[1,5,6,7,8]),(9,[4])],lp:=[],pl:=[] }
noncomputable def laws_ints:Ctx:={ P:=Try.prog,T:=TTab,M:=MM,nW:=0,kp:=[(0,[0,1]),(1,[0,1,10]),(2,[4]),(3,[0,1,5]),(4,[0,1,5,14]),(5,[0,1,5]),(6,[0,1,5,25]),(7,[4]),(8,[4])],lp:=[(0,[0,1,5])],pl:=[(6,.take 0 (.take 1 (.take 2 (.take 3 (.take 4 (.take 5 (.take 6 (.take 7 (.take 8 (.done))))))))))] }
noncomputable def laws_laurents:Ctx:={ P:=Try.prog,T:=TTab,M:=MM,nW:=0,kp:=[(0,[2,3]),(1,[2,3,19]),(2,[4]),(3,[2,3,5]),(4,[2,3,5,24]),(5,[2,3,5]),(6,[2,3,5,55]),(7,[4]),(8,[4])],lp:=[(0,[2,3,5])],pl:=[(6,.take 0 (.take 1 (.take 2 (.take 3 (.take 4 (.take 5 (.take 6 (.take 7 (.take 8 (.take 9 (.take 10 (.take 11 (.take 12 (.take 13 (.take 14 (.take 15 (.take 16 (.take 17 (.take 18 (.take 19 (.take 20 (.take 21 (.take 22 (.take 23 (.take 24 (.take 25 (.all [(26,.take 27 (.take 28 (.done)))])))))))))))))))))))))))))))] }
noncomputable def impl_MutateMatrix:Ctx:={ P:=Try.prog,T:=TTab,M:=MM,nW:=0,kp:=[(0,[1,2,4]),(1,[1,2,4,17]),(2,[4,5]),(3,[4,6]),(4,[4,6,24]),(5,[4,5]),(6,[4,5])],lp:=[],pl:=[] }
noncomputable def impl_MutateSeed:Ctx:={ P:=Try.prog,T:=TTab,M:=MM,nW:=0,kp:=[(0,[1,2,4]),(1,[1,2,4,22]),(2,[4,5]),(3,[1,2,4,6,7]),(4,[1,2,4,6,7,8,9]),(5,[1,2,4,6,8,45]),(6,[4,5]),(7,[1,4,6,8,10]),(8,[1,4,6,10]),(9,[4,10]),(10,[4,5])],lp:=[],pl:=[] }
noncomputable def impl_SeedOk_1:Ctx:={ P:=Try.prog,T:=TTab,M:=MM,nW:=0,kp:=[(0,[1,2]),(1,[3])],lp:=[],pl:=[] }
noncomputable def impl_SeedOk:Ctx:={ P:=Try.prog,T:=TTab,M:=MM,nW:=0,kp:=[(0,[1]),(1,[1,15]),(2,[2]),(3,[2])],lp:=[],pl:=[] }
noncomputable def impl_exchange:Ctx:={ P:=Try.prog,T:=TTab,M:=MM,nW:=0,kp:=[(0,[1,2,3,6]),(1,[1,2,3,6,8]),(2,[1,2,3,6,8,18,19,20]),(3,[1,2,3,6,8,18,19,20,21]),(4,[1,2,3,6,8,9,10,18,19,20]),(5,[1,2,3,6,8,9,10,11,18,19,20]),(6,[1,2,3,6,8,9,10,11,18,19,20]),(7,[1,2,3,6,8,9,10,11,18,19,20,31,32,33]),(8,[1,2,3,6,8,9,10,11,18,19,20,31,32,33,34]),(9,[1,2,3,6,8,9,10,11,13,14,18,19,20,31,32,33]),(10,[1,2,3,6,8,9,10,11,14,15,18,19,20,31,32,33]),(11,[1,2,3,6,8,9,10,11,14,15,18,19,20,31,32,33,45]),(12,[6,7]),(13,[1,2,3,6,8,9,10,11,14,15,18,19,20,31,32,33,48]),(14,[1,2,3,6,8,9,10,11,14,15,18,19,20,31,32,33]),(15,[1,2,3,6,8,9,10,11,12,14,15,18,19,20,31,32,33]),(16,[1,2,3,6,8,9,10,11,14,15,18,19,20,31,32,33,58]),(17,[6,7]),(18,[1,2,3,6,8,9,10,11,18,19,20,31,32,33]),(19,[1,2,3,6,8,18,19,20]),(20,[1,2,3,6,8,18,19,20]),(21,[1,2,6,16,17]),(22,[1,2,6,16,74]),(23,[6,7]),(24,[6,7])],lp:=[(0,[1,2,3,6,8,18,19,20]),(2,[1,2,3,6,8,9,10,11,18,19,20,31,32,33]),(4,[1,2,3,6,8,9,10,11,14,15,18,19,20,31,32,33])],pl:=[(24,.take 0 (.take 1 (.take 2 (.take 3 (.take 4 (.all [(5,.take 6 (.take 7 (.all [(8,.take 9 (.done))])))]))))))] }
noncomputable def impl_mutated:Ctx:={ P:=Try.prog,T:=TTab,M:=MM,nW:=0,kp:=[(0,[1,2,4]),(1,[1,2,4,5]),(2,[1,2,4,5,6]),(3,[1,2,4,5,6,22]),(4,[1,2,4,5,6]),(5,[1,2,4,5,6,7]),(6,[1,2,4,5,6,7,28]),(7,[1,2,4,5,6,7]),(8,[1,2,4,5,6,7,8]),(9,[1,2,4,5,6,7,8,9,10]),(10,[1,2,4,5,6,7,8,9,10,48]),(11,[1,2,4,5,6,7]),(12,[1,2,4,5,6,7,8,9,10,63]),(13,[1,2,4,5,6,7]),(14,[1,2,4,5,6,7,8,9,10,78]),(15,[1,2,4,5,6,7]),(16,[4])],lp:=[(0,[1,2,4,5,6]),(2,[1,2,4,5,6,7])],pl:=[(1,.take 0 (.take 1 (.take 2 (.take 3 (.take 4 (.take 5 (.all [(6,.take 7 (.all [(8,.all [(9,.done)])])),(8,.all [(6,.take 7 (.all [(9,.done)]))])]))))))),(9,.take 0 (.take 1 (.take 2 (.take 4 (.take 5 (.take 6 (.all [(3,.all [(7,.take 8 (.take 9 (.done)))])])))))))] }
noncomputable def slices_IndexFunc_impl_Laurent_impl_Laurent:Ctx:={ P:=Try.prog,T:=TTab,M:=MM,nW:=0,kp:=[(0,[0,1]),(1,[0,1,7,8]),(2,[0,1,7,8,9]),(3,[0,1,5,7,8]),(4,[0,1,5,7,8,16]),(5,[4]),(6,[0,1,7,8]),(7,[4])],lp:=[(0,[0,1,7,8])],pl:=[] }
noncomputable def slices_ContainsFunc_impl_Laurent_impl_Laurent:Ctx:={ P:=Try.prog,T:=TTab,M:=MM,nW:=0,kp:=[(0,[0,1]),(1,[4])],lp:=[],pl:=[] }
noncomputable def spec_dNames:Ctx:={ P:=Try.prog,T:=TTab,M:=MM,nW:=1,kp:=[(0,[0,1]),(1,[0,1,5]),(2,[0,1,5,6]),(3,[0,1,5,6,11]),(4,[0,1,5,6]),(5,[0,1,5,6,7]),(6,[0,1,5,6]),(7,[4])],lp:=[(0,[0,1,5,6])],pl:=[(6,.take 1 (.take 2 (.take 3 (.take 5 (.take 8 (.take 9 (.take 10 (.all [(0,.all [(4,.all [(6,.all [(7,.all [(11,.take 12 (.done))])])]),(6,.all [(4,.all [(7,.all [(11,.take 12 (.done))])])])]),(6,.all [(0,.all [(4,.all [(7,.all [(11,.take 12 (.done))])])])])]))))))))] }
noncomputable def spec_dSteps:Ctx:={ P:=Try.prog,T:=TTab,M:=MM,nW:=1,kp:=[(0,[0,1,2]),(1,[0,1,2,7]),(2,[0,1,7,8]),(3,[0,1,7,8,9]),(4,[0,1,7,8,9,17]),(5,[0,1,7,8,9]),(6,[0,1,7,8,9]),(7,[6])],lp:=[(0,[0,1,7,8,9])],pl:=[] }
noncomputable def impl_polygonOk:Ctx:={ P:=Try.prog,T:=TTab,M:=MM,nW:=0,kp:=[(0,[0]),(1,[2])],lp:=[],pl:=[] }
noncomputable def impl_beside:Ctx:={ P:=Try.prog,T:=TTab,M:=MM,nW:=0,kp:=[(0,[0,1,2]),(1,[6])],lp:=[],pl:=[] }
noncomputable def impl_IsDiagonal:Ctx:={ P:=Try.prog,T:=TTab,M:=MM,nW:=0,kp:=[(0,[0,3]),(1,[4])],lp:=[],pl:=[] }
noncomputable def impl_DiagonalsCross:Ctx:={ P:=Try.prog,T:=TTab,M:=MM,nW:=0,kp:=[(0,[0,4,5]),(1,[4,5,44]),(2,[6]),(3,[6])],lp:=[],pl:=[(3,.take 0 (.take 1 (.take 2 (.take 3 (.take 4 (.take 5 (.take 7 (.take 8 (.take 9 (.take 10 (.take 11 (.take 12 (.all [(6,.all [(13,.take 14 (.take 15 (.done)))])])))))))))))))] }
noncomputable def slices_IndexFunc_impl_Diagonal_impl_Diagonal:Ctx:={ P:=Try.prog,T:=TTab,M:=MM,nW:=0,kp:=[(0,[0,1]),(1,[0,1,7,8]),(2,[0,1,7,8,9]),(3,[0,1,5,7,8]),(4,[0,1,5,7,8,16]),(5,[4]),(6,[0,1,7,8]),(7,[4])],lp:=[(0,[0,1,7,8])],pl:=[] }
noncomputable def slices_ContainsFunc_impl_Diagonal_impl_Diagonal:Ctx:={ P:=Try.prog,T:=TTab,M:=MM,nW:=0,kp:=[(0,[0,1]),(1,[4])],lp:=[],pl:=[] }
noncomputable def slices_Index_impl_Diagonal_impl_Diagonal:Ctx:={ P:=Try.prog,T:=TTab,M:=MM,nW:=0,kp:=[(0,[0,3]),(1,[0,3,7,8]),(2,[0,3,7,8,9]),(3,[0,3,5,7,8]),(4,[0,3,5,7,8,16]),(5,[4]),(6,[0,3,7,8]),(7,[4])],lp:=[(0,[0,3,7,8])],pl:=[(4,.take 0 (.take 1 (.take 2 (.take 3 (.take 4 (.take 5 (.done)))))))] }
noncomputable def slices_Contains_impl_Diagonal_impl_Diagonal:Ctx:={ P:=Try.prog,T:=TTab,M:=MM,nW:=0,kp:=[(0,[0,3]),(1,[4])],lp:=[],pl:=[] }
noncomputable def impl_apart_1:Ctx:={ P:=Try.prog,T:=TTab,M:=MM,nW:=0,kp:=[(0,[1,2,3]),(1,[4])],lp:=[],pl:=[] }
noncomputable def impl_apart:Ctx:={ P:=Try.prog,T:=TTab,M:=MM,nW:=0,kp:=[(0,[1,3,5]),(1,[6])],lp:=[],pl:=[] }
noncomputable def impl_IsTriangulation:Ctx:={ P:=Try.prog,T:=TTab,M:=MM,nW:=0,kp:=[(0,[0,1]),(1,[0,1,16]),(2,[4]),(3,[0,1,17,18,19]),(4,[0,1,17,18,19,20]),(5,[0,1,5,6,17,18,19]),(6,[0,1,17,18,19,36]),(7,[4]),(8,[0,1,17,18,19]),(9,[4])],lp:=[(0,[0,1,17,18,19])],pl:=[(6,.take 0 (.take 1 (.all [(2,.take 3 (.take 4 (.take 5 (.take 6 (.take 7 (.take 8 (.take 9 (.all [(10,.take 11 (.take 12 (.done)))]))))))))])))] }
noncomputable def impl_lengths_of:Ctx:={ P:=Try.prog,T:=TTab,M:=MM,nW:=0,kp:=[(0,[1,2,3,6]),(1,[1,2,3,6,8]),(2,[1,2,3,6,8,37]),(3,[6,7]),(4,[1,2,3,6,8,9]),(5,[1,2,3,6,8,9,47]),(6,[6,7]),(7,[1,2,3,6,8,55,56,57]),(8,[1,2,3,6,8,55,56,57,58]),(9,[1,2,3,6,8,10,11,55,56,57]),(10,[1,2,3,6,8,10,11,55,56,57,83]),(11,[1,2,3,6,10,11,12,13]),(12,[1,2,3,6,10,11,12,13,14,15]),(13,[2,3,6,10,11,12,13,14,15,16,17]),(14,[3,6,10,12,13,14,15,16,17,18,19]),(15,[3,6,10,13,15,16,17,18,19,20,21]),(16,[3,6,10,13,15,17,19,20,21,22,23]),(17,[3,6,10,13,15,17,19,21,23,24,25]),(18,[3,6,10,24,159]),(19,[6,7]),(20,[6,7]),(21,[1,2,3,6,8,55,56,57]),(22,[6,7])],lp:=[(0,[1,2,3,6,8,55,56,57])],pl:=[(20,.take 0 (.take 1 (.take 2 (.take 3 (.take 4 (.all [(5,.all [(6,.all [(7,.take 8 (.take 9 (.all [(10,.take 11 (.done))])))])])]))))))] }
noncomputable def impl_lengths_known:Ctx:={ P:=Try.prog,T:=TTab,M:=MM,nW:=0,kp:=[(0,[1,2,3]),(1,[6])],lp:=[],pl:=[] }
noncomputable def impl_ArcLaurent:Ctx:={ P:=Try.prog,T:=TTab,M:=MM,nW:=0,kp:=[(0,[0,1,5,6]),(1,[0,1,5,6,17]),(2,[6,7]),(3,[6,7])],lp:=[],pl:=[] }
noncomputable def spec_l5Polygon:Ctx:={ P:=Try.prog,T:=TTab,M:=MM,nW:=0,kp:=[(0,[0]),(1,[2])],lp:=[],pl:=[] }
noncomputable def spec_l5Cross:Ctx:={ P:=Try.prog,T:=TTab,M:=MM,nW:=0,kp:=[(0,[2,3]),(1,[4])],lp:=[],pl:=[] }
noncomputable def spec_l5All:Ctx:={ P:=Try.prog,T:=TTab,M:=MM,nW:=0,kp:=[(0,[0]),(1,[0,3]),(2,[0,3,4]),(3,[0,3,4,9]),(4,[0,3,4]),(5,[0,3,4,5]),(6,[0,3,4,5,16]),(7,[0,3,4,5]),(8,[0,3,4,5,26]),(9,[0,3,4,5]),(10,[2])],lp:=[(0,[0,3,4]),(2,[0,3,4,5])],pl:=[] }
noncomputable def spec_l5Choose:Ctx:={ P:=Try.prog,T:=TTab,M:=MM,nW:=2,kp:=[(0,[0,1,2,3,4]),(1,[0,1,2,3,4,18]),(2,[10]),(3,[0,1,3,4,11]),(4,[0,1,3,4,11,27]),(5,[0,1,3,4,11]),(6,[0,1,3,4,11,12]),(7,[0,1,3,4,11,12,13]),(8,[0,1,3,4,11,12,13,33]),(9,[0,1,3,4,11,12,13]),(10,[0,1,3,4,11,12,13]),(11,[0,1,3,4,11,49]),(12,[0,1,3,4,11]),(13,[10])],lp:=[(0,[0,1,3,4,11]),(2,[0,1,3,4,11,12,13])],pl:=[(10,.take 0 (.take 1 (.take 2 (.take 3 (.take 4 (.take 5 (.take 6 (.take 7 (.take 8 (.take 9 (.all [(10,.take 11 (.take 12 (.take 13 (.done))))]))))))))))),(12,.take 0 (.take 1 (.take 2 (.take 3 (.take 5 (.take 7 (.take 8 (.take 9 (.take 13 (.all [(4,.all [(6,.take 10 (.all [(11,.all [(12,.all [(14,.take 15 (.done))])])])),(10,.all [(6,.all [(11,.all [(12,.all [(14,.take 15 (.done))])])]),(11,.all [(6,.all [(12,.all [(14,.take 15 (.done))])])])])]),(10,.all [(4,.all [(6,.all [(11,.all [(12,.all [(14,.take 15 (.done))])])]),(11,.all [(6,.all [(12,.all [(14,.take 15 (.done))])])])]),(11,.all [(4,.all [(6,.all [(12,.all [(14,.take 15 (.done))])])])])])]))))))))))] }
noncomputable def spec_TriangulationsOf:Ctx:={ P:=Try.prog,T:=TTab,M:=MM,nW:=0,kp:=[(0,[0]),(1,[0,5]),(2,[2]),(3,[2])],lp:=[],pl:=[] }
noncomputable def spec_dTriangulation:Ctx:={ P:=Try.prog,T:=TTab,M:=MM,nW:=1,kp:=[(0,[0,1]),(1,[0,6]),(2,[0,6,7]),(3,[0,6,8]),(4,[0,6,8,9]),(5,[6,8,9,10]),(6,[6,8,9,10,11]),(7,[6,8,9,10,11,34]),(8,[6,8,9,10,11]),(9,[6,8,9,10,11]),(10,[4,5])],lp:=[(0,[6,8,9,10,11])],pl:=[] }
noncomputable def spec_dDiagonal:Ctx:={ P:=Try.prog,T:=TTab,M:=MM,nW:=1,kp:=[(0,[0,1,4]),(1,[0,4,5]),(2,[4])],lp:=[],pl:=[] }
noncomputable def spec_DrawFlips:Ctx:={ P:=Try.prog,T:=TTab,M:=MM,nW:=0,kp:=[(0,[0,5]),(1,[5,6]),(2,[5,6,7,8]),(3,[2,3,4,5])],lp:=[],pl:=[] }
noncomputable def impl_diagonalsOf:Ctx:={ P:=Try.prog,T:=TTab,M:=MM,nW:=0,kp:=[(0,[0]),(1,[0,3]),(2,[0,3,4]),(3,[0,3,4,9]),(4,[0,3,4]),(5,[0,3,4,5]),(6,[0,3,4,5,16]),(7,[0,3,4,5]),(8,[0,3,4,5,6]),(9,[0,3,4,5,6,24]),(10,[0,3,4,5]),(11,[2])],lp:=[(0,[0,3,4]),(2,[0,3,4,5])],pl:=[] }
noncomputable def slices_Clone_impl_Diagonal_impl_Diagonal:Ctx:={ P:=Try.prog,T:=TTab,M:=MM,nW:=0,kp:=[(0,[0]),(1,[0,4]),(2,[2]),(3,[2])],lp:=[],pl:=[] }
noncomputable def impl_FlipDiagonal:Ctx:={ P:=Try.prog,T:=TTab,M:=MM,nW:=0,kp:=[(0,[0,1,2]),(1,[0,1,2,22]),(2,[6,7]),(3,[0,1,2,24,25,26]),(4,[0,1,2,24,25,26,27]),(5,[0,1,2,9,24,25,26]),(6,[0,1,2,9,10,24,25,26]),(7,[0,1,2,9,10,24,25,26]),(8,[0,1,2,10,24,25,26,46]),(9,[6,7]),(10,[0,1,2,24,25,26]),(11,[6,7])],lp:=[(0,[0,1,2,24,25,26])],pl:=[(8,.take 0 (.take 1 (.take 2 (.take 3 (.take 4 (.take 5 (.take 6 (.take 7 (.take 8 (.all [(9,.take 10 (.done))]))))))))))] }
noncomputable def impl_TrianglesOf_1:Ctx:={ P:=Try.prog,T:=TTab,M:=MM,nW:=0,kp:=[(0,[0,1,2,3]),(1,[6])],lp:=[],pl:=[] }
noncomputable def impl_TrianglesOf:Ctx:={ P:=Try.prog,T:=TTab,M:=MM,nW:=0,kp:=[(0,[2,3]),(1,[2,3,13]),(2,[4]),(3,[2,5]),(4,[2,5,6]),(5,[2,5,6,7]),(6,[2,5,6,7,17]),(7,[2,5,6,7]),(8,[2,5,6,7,8]),(9,[2,5,6,7,8,24]),(10,[2,5,6,7,8]),(11,[2,5,6,7,8,9]),(12,[2,5,6,7,8,9,31]),(13,[2,5,6,7,8,9]),(14,[2,5,6,7,8,9,49]),(15,[2,5,6,7,8,9]),(16,[4])],lp:=[(0,[2,5,6,7]),(2,[2,5,6,7,8]),(4,[2,5,6,7,8,9])],pl:=[] }
noncomputable def impl_MatrixOfTriangulation:Ctx:={ P:=Try.prog,T:=TTab,M:=MM,nW:=0,kp:=[(0,[0,1,4]),(1,[0,1,4,18]),(2,[4,5]),(3,[0,1,4,6]),(4,[0,1,4,6,7]),(5,[1,4,6,7,31,32,33]),(6,[1,4,6,7,31,32,33,34]),(7,[1,4,6,7,9,31,32,33]),(8,[1,4,6,7,10,31,32,33]),(9,[1,4,6,7,10,31,32,33,59,60,61]),(10,[1,4,6,7,10,31,32,33,59,60,61,62]),(11,[1,4,6,7,10,11,12,31,32,33,59,60,61]),(12,[1,4,6,7,10,13,14,31,32,33,59,60,61]),(13,[1,4,6,7,10,13,14,31,32,33,59,60,61,82]),(14,[1,4,6,7,10,13,14,31,32,33,59,60,61]),(15,[1,4,6,7,10,31,32,33,59,60,61]),(16,[1,4,6,7,10,31,32,33,59,60,61]),(17,[1,4,6,7,31,32,33]),(18,[4,5])],lp:=[(0,[1,4,6,7,31,32,33]),(2,[1,4,6,7,10,31,32,33,59,60,61])],pl:=[(8,.take 0 (.take 1 (.take 2 (.take 3 (.take 4 (.take 5 (.take 6 (.take 7 (.take 8 (.take 9 (.take 10 (.take 11 (.take 12 (.take 13 (.take 14 (.take 15 (.take 16 (.take 17 (.take 18 (.take 19 (.take 20 (.all [(21,.take 22 (.done))])))))))))))))))))))))),(12,.take 0 (.take 1 (.take 3 (.take 4 (.take 5 (.take 6 (.take 7 (.take 8 (.take 9 (.all [(2,.all [(10,.take 11 (.take 12 (.done)))])]))))))))))] }
noncomputable def laws_FnArcs:Ctx:={ P:=Try.prog,T:=TTab,M:=MM,nW:=0,kp:=[(0,[0]),(1,[0,21]),(2,[2]),(3,[3,4,5]),(4,[3,4,5,7,8]),(5,[3,4,5,8,9,10]),(6,[3,4,5,9,45]),(7,[2]),(8,[3,4,5,9,11]),(9,[3,4,5,9,11,12]),(10,[3,4,5,9,11,12,50]),(11,[3,4,5,9,11,12]),(12,[3,4,5,9,12,13,14]),(13,[3,4,5,9,12,13,14,15,16]),(14,[3,4,5,9,12,13,15,77]),(15,[2]),(16,[3,4,5,9,11,12]),(17,[3,4,9,11,17]),(18,[3,4,9,11,17,83]),(19,[3,4,9,11,17]),(20,[3,4,9,11,17,18,19]),(21,[3,4,9,11,17,107]),(22,[2]),(23,[2])],lp:=[(0,[3,4,5,9,11,12]),(2,[3,4,9,11,17])],pl:=[(13,.take 0 (.take 1 (.take 2 (.take 3 (.take 4 (.all [(5,.take 6 (.take 7 (.take 8 (.all [(9,.all [(10,.take 11 (.done))])])))),(9,.all [(5,.take 6 (.take 7 (.take 8 (.all [(10,.take 11 (.done))]))))])])))))),(16,.take 0 (.take 1 (.take 2 (.all [(3,.done)])))),(21,.take 0 (.take 1 (.take 2 (.take 3 (.take 4 (.take 5 (.take 6 (.take 7 (.take 8 (.all [(9,.take 10 (.take 11 (.done)))]))))))))))],fb:=[4,13] }
end C
end Go.Proofs.Ytncfmemhjahpeaa.Ab
namespace Go.Proofs.Ytncfmemhjahpeaa.Ab
open Go
set_option maxRecDepth 10000
theorem tabT:tabB Try.prog TTab=true:=by kernel_rfl
theorem folT:Try.prog.follows .mixedOrders=true:=by kernel_rfl
theorem wrap_succ {j:Nat} (h:j < 4611686018427387904):IntKind.i64.wrap ((j:Int)+1)=((j+1:Nat):Int):=by
 rw [wrapOk (by omega) (by omega)]
 omega
theorem impl_within_c (n low high:Int):ACalls Try.prog F.impl_within [.int n,.int low,.int high] [] true (fun outs res=>outs=[]/\res=[.one (D.bool (decide (low<=n/\n<=high)))]):=by
 refine ACalls.of_body (C:=C.impl_within) (n:=Try.f27.ntmps) tabT folT Try.func27 rfl (by kernel_rfl) rfl (Nat.le_of_ble_eq_true rfl) (by decide) (by kernel_rfl) (by kernel_rfl) rfl (by simp) (by simp) ?_
 simp only [Try.f27]
 refine wseq ?_
 refine wreg fun K hK=>?_
 simp [C.impl_within]
 refine hK _ ?_;clear hK K
 show AWp _ _ _ _ _
 refine wseq ?_
 refine wreg fun K hK=>?_
 have hJ:K ⟨ofL [(6,.bool (decide (low<=n/\n<=high)))],ofRO []⟩:=by
  refine hK _ ?_;clear hK K
  show AWp _ _ _ _ _
  refine wret ?_
  simp [C.impl_within]
 clear hK
 by_cases h:low<=n
 ·simp [C.impl_within,h]
  refine cast (congrArg K ?_) hJ
  simp [h]
 ·simp [C.impl_within,h]
  refine cast (congrArg K ?_) hJ
  simp [h]
theorem spec_l1In_c (n low high:Int):ACalls Try.prog F.spec_l1In [.int n,.int low,.int high] [] true (fun outs res=>outs=[]/\res=[.one (D.bool (decide (low<=n/\n<=high)))]):=by
 refine ACalls.of_body (C:=C.spec_l1In) (n:=Try.f95.ntmps) tabT folT Try.func95 rfl (by kernel_rfl) rfl (Nat.le_of_ble_eq_true rfl) (by decide) (by kernel_rfl) (by kernel_rfl) rfl (by simp) (by simp) ?_
 simp only [Try.f95]
 refine wseq ?_
 refine wreg fun K hK=>?_
 simp [C.spec_l1In]
 refine hK _ ?_;clear hK K
 show AWp _ _ _ _ _
 refine wseq ?_
 refine wreg fun K hK=>?_
 have hJ:K ⟨ofL [(6,.bool (decide (low<=n/\n<=high)))],ofRO []⟩:=by
  refine hK _ ?_;clear hK K
  show AWp _ _ _ _ _
  refine wret ?_
  simp [C.spec_l1In]
 clear hK
 by_cases h:low<=n
 ·simp [C.spec_l1In,h]
  refine cast (congrArg K ?_) hJ
  simp [h]
 ·simp [C.spec_l1In,h]
  refine cast (congrArg K ?_) hJ
  simp [h]
theorem slices_Clone_int_int_c (xs:List Int) (hx:xs.length < 17592186044416):ACalls Try.prog F.slices_Clone_int_int [.d (shI xs)] [] true (fun outs res=>outs=[]/\WkRs res [.one (owI xs)]):=by
 refine ACalls.of_body (C:=C.slices_Clone_int_int) (n:=Try.f39.ntmps) tabT folT Try.func39 rfl (by kernel_rfl) rfl (Nat.le_of_ble_eq_true rfl) (by decide) (by kernel_rfl) (by kernel_rfl) rfl (by simp) (by simp) ?_
 simp only [Try.f39]
 refine wseq ?_
 refine wreg fun K hK=>?_
 simp [C.slices_Clone_int_int]
 refine hK _ ?_;clear hK K
 show AWp _ _ _ _ _
 refine wseq ?_
 refine wseq ?_
 refine wreg fun K hK=>?_
 simp [C.slices_Clone_int_int]
 refine ⟨?_,fun h=>?_⟩
 ·refine hK _ ?_;clear hK K
  show AWp _ _ _ _ _
  refine wcond _ rfl (fun hc1=>?_) (fun hc1=>?_)
  ·simp at hc1
  ·refine wskip ?_
   show AWp _ _ _ _ _
   refine wseq ?_
   refine wreg fun K hK=>?_
   simp [C.slices_Clone_int_int,show xs.length*8<=140737488355328 by omega]
   refine hK _ ?_;clear hK K
   show AWp _ _ _ _ _
   refine wret ?_
   simp [C.slices_Clone_int_int]
 ·refine hK _ ?_;clear hK K
  show AWp _ _ _ _ _
  refine wcond _ rfl (fun hc2=>?_) (fun hc2=>?_)
  ·refine wseq ?_
   refine wreg fun K hK=>?_
   simp [C.slices_Clone_int_int]
   refine hK _ ?_;clear hK K
   show AWp _ _ _ _ _
   refine wret ?_
   simp [C.slices_Clone_int_int,h,ints]
  ·simp at hc2
theorem clone_c (xs:List Int) (hx:xs.length < 17592186044416):ACalls Try.prog F.slices_Clone_int_int [.d (shI xs)] [] true (fun outs res=>outs=[]/\res=[.one (owI xs)]):=(slices_Clone_int_int_c xs hx).weak1
theorem impl_gcd_c (a b:Int) (ha:-4611686018427387904 < a/\a < 4611686018427387904) (hb:-4611686018427387904 < b/\b < 4611686018427387904):ACalls Try.prog F.impl_gcd [.int a,.int b] [] true (fun outs res=>outs=[]/\res=[.one (D.int (Int.gcd a b:Int))]):=by
 refine ACalls.of_body (C:=C.impl_gcd) (n:=Try.f93.ntmps) tabT folT Try.func93 rfl (by kernel_rfl) rfl (Nat.le_of_ble_eq_true rfl) (by decide) (by kernel_rfl) (by kernel_rfl) rfl (by simp) (by simp) ?_
 simp only [Try.f93]
 refine wseq ?_
 refine wreg fun K hK=>?_
 simp [C.impl_gcd]
 refine hK _ ?_;clear hK K
 show AWp _ _ _ _ _
 refine wseq ?_
 refine wblock ?_
 refine wloop (fun x:Int×Int=>⟨ofL [(0,.int x.1),(1,.int x.2)],ofRO []⟩) (fun x=>Int.gcd x.1 x.2=Int.gcd a b/\(-4611686018427387904 < x.1/\x.1 < 4611686018427387904)/\(-4611686018427387904 < x.2/\x.2 < 4611686018427387904)) (fun x=>x.2.natAbs) (a,b) (by simp [C.impl_gcd]) ⟨rfl,ha,hb⟩ ?_
 intro x1 hx1 R1 hR1
 obtain ⟨p,q⟩:=x1
 obtain ⟨hg,hp,hq⟩:=hx1
 dsimp only at hg hp hq ⊢
 refine wseq ?_
 refine wseq ?_
 refine wreg fun K hK=>?_
 simp [C.impl_gcd]
 refine hK _ ?_;clear hK K
 show AWp _ _ _ _ _
 refine wcond _ rfl (fun hc1=>?_) (fun hc1=>?_)
 ·refine wskip ?_
  show AWp _ _ _ _ _
  refine wblock ?_
  have hq0:q≠0:=by simpa using hc1
  refine wdraw (.take 0 (.take 1 (.take 2 (.take 3 (.take 4 (.take 5 (.done))))))) ⟨by kernel_rfl,by kernel_rfl⟩ fun K hK=>?_
  simp [C.impl_gcd,hq0]
  refine hK _ ?_;clear hK K
  simp [C.impl_gcd]
  have hn:(p.tmod q).natAbs < q.natAbs:=by rw [Int.natAbs_tmod];exact Nat.mod_lt _ (by omega)
  refine hR1 (q,p.tmod q) ⟨?_,hq,by dsimp only;omega⟩ hn
  rw [<-hg]
  unfold Int.gcd
  rw [Int.natAbs_tmod,Nat.gcd_comm p.natAbs,Nat.gcd_rec q.natAbs p.natAbs,Nat.gcd_comm]
 ·refine wexit ?_
  show AWp _ _ _ _ _
  refine wseq ?_
  have hq0:q=0:=by simpa using hc1
  subst hq0
  refine wreg fun K hK=>?_
  simp [C.impl_gcd]
  rw [wrapOk (x:=-p) (by omega) (by omega)]
  refine hK _ ?_;clear hK K
  show AWp _ _ _ _ _
  refine wret ?_
  have hpg:max p (-p)=(Int.gcd a b:Int):=by rw [<-hg];simp [Int.gcd];omega
  simp [C.impl_gcd,hpg]
end Go.Proofs.Ytncfmemhjahpeaa.Ab
namespace Go.Proofs.Ytncfmemhjahpeaa.Ab
open Go
set_option maxRecDepth 10000
abbrev aF (f:Lau):FV:=.ag [.int f.v,.d (.sh 2 f.ts.length (rows tS f.ts))]
end Go.Proofs.Ytncfmemhjahpeaa.Ab
namespace Go.Proofs.Ytncfmemhjahpeaa.Ab
open Go
set_option maxRecDepth 10000
set_option maxHeartbeats 2000000
end Go.Proofs.Ytncfmemhjahpeaa.Ab
namespace Go.Proofs.Ytncfmemhjahpeaa.Ab
open Go
set_option maxRecDepth 10000
set_option maxHeartbeats 2000000
end Go.Proofs.Ytncfmemhjahpeaa.Ab
namespace Go.Proofs.Ytncfmemhjahpeaa.Ab
open Go
section
variable {α:Type} {le:α->α->Bool}
end
end Go.Proofs.Ytncfmemhjahpeaa.Ab
namespace Go.Proofs.Ytncfmemhjahpeaa.Ab
open Go
set_option maxRecDepth 10000
set_option maxHeartbeats 2000000
end Go.Proofs.Ytncfmemhjahpeaa.Ab
namespace Go.Proofs.Ytncfmemhjahpeaa.Ab
open Go
set_option maxRecDepth 10000
set_option maxHeartbeats 2000000
theorem mul_bd {x y:Int} (hx:-1000000<=x/\x<=1000000) (hy:-1000000<=y/\y<=1000000):-1000000000000<=x*y/\x*y<=1000000000000:=by
 have h1:(x*y).natAbs<=1000000*1000000:=by
  rw [Int.natAbs_mul]
  exact Nat.mul_le_mul (by omega) (by omega)
 omega
end Go.Proofs.Ytncfmemhjahpeaa.Ab
namespace Go.Proofs.Ytncfmemhjahpeaa.Ab
open Go
set_option maxRecDepth 10000
set_option maxHeartbeats 2000000
theorem right_dig {f:Lau} (h:Right f) {n:Nat} (hn:f.v=n):∀ t∈f.ts,t.e.length=n/\Dig t.e/\(∀ x∈t.e,-20<=x/\x<=20)/\(-1000000<=t.c/\t.c<=1000000):=fun t ht=>by
 obtain ⟨h1,_,h2,h3⟩:=h.2.2.1 t ht
 exact ⟨by omega,fun x hx=>by have:=h3 x hx;omega,h3,h2⟩
def oneF (n:Nat):Lau:=⟨n,[⟨List.replicate n 0,1⟩]⟩
theorem oneF_right {n:Nat} (h:1<=n/\n<=8):Right (oneF n):=by
 refine ⟨by simp only [oneF];omega,by simp [oneF],fun t ht=>?_,List.pairwise_singleton _ _⟩
 simp only [oneF,List.mem_singleton] at ht
 subst ht
 exact ⟨by simp [oneF],by simp,by simp,fun x hx=>by have:=List.eq_of_mem_replicate hx;omega⟩
end Go.Proofs.Ytncfmemhjahpeaa.Ab
namespace Go.Proofs.Ytncfmemhjahpeaa.Ab
open Go
set_option maxRecDepth 10000
set_option maxHeartbeats 2000000
end Go.Proofs.Ytncfmemhjahpeaa.Ab
namespace Go.Proofs.Ytncfmemhjahpeaa.Ab
open Go
set_option maxRecDepth 10000
set_option maxHeartbeats 2000000
def cmpI (a b:Int):Int:=if a < b then -1 else if b < a then 1 else 0
def cmpL:List Int->List Int->Int
 | [],[]=>0
 | [],_ :: _=>-1
 | _ :: _,[]=>1
 | a :: x,b :: y=>if a=b then cmpL x y else if a < b then -1 else 1
theorem cmpL_neg:∀ (a b:List Int),decide (cmpL a b < 0)=lexlt a b
 | [],[]=>rfl
 | [],_ :: _=>rfl
 | _ :: _,[]=>rfl
 | a :: x,b :: y=>by
  have ih:=cmpL_neg x y
  by_cases h:a=b
  ·have e:cmpL (a :: x) (b :: y)=cmpL x y:=by simp [cmpL,h]
   rw [e,ih]
   simp [lexlt,h]
  ·by_cases h2:a < b
   ·have e:cmpL (a :: x) (b :: y)=-1:=by simp [cmpL,h,h2]
    rw [e]
    simp [lexlt,h,h2]
   ·have e:cmpL (a :: x) (b :: y)=1:=by simp [cmpL,h,h2]
    rw [e]
    simp [lexlt,h,h2]
theorem cmpL_pos:∀ (a b:List Int),decide (cmpL a b<=0) = !lexlt b a
 | [],[]=>rfl
 | [],_ :: _=>rfl
 | _ :: _,[]=>rfl
 | a :: x,b :: y=>by
  have ih:=cmpL_pos x y
  by_cases h:a=b
  ·have e:cmpL (a :: x) (b :: y)=cmpL x y:=by simp [cmpL,h]
   rw [e,ih]
   simp [lexlt,h]
  ·by_cases h2:a < b
   ·have e:cmpL (a :: x) (b :: y)=-1:=by simp [cmpL,h,h2]
    rw [e]
    simp [lexlt,Ne.symm h]
    omega
   ·have e:cmpL (a :: x) (b :: y)=1:=by simp [cmpL,h,h2]
    rw [e]
    simp [lexlt,Ne.symm h]
    omega
def okE (e:List Int) (v:Int):Bool:=decide ((e.length:Int)=v) && !e.any (fun x=>!decide (-20<=x/\x<=20))
theorem okE_iff {e:List Int} {v:Int}:okE e v=true↔(e.length:Int)=v/\∀ x∈e,-20<=x/\x<=20:=by
 unfold okE
 simp only [Bool.and_eq_true,decide_eq_true_eq,Bool.not_eq_true',List.any_eq_false,Bool.not_eq_true']
 refine ⟨fun ⟨h1,h2⟩=>⟨h1,fun x hx=>?_⟩,fun ⟨h1,h2⟩=>⟨h1,fun x hx=>?_⟩⟩
 ·have:=h2 x hx
  simpa using this
 ·have:=h2 x hx
  simpa using this
theorem cmp_isNaN_int_c (a:Int):ACalls Try.prog F.cmp_isNaN_int [.int a] [] true (fun outs res=>outs=[]/\res=[.one (D.bool false)]):=by
 refine ACalls.of_body (C:=C.cmp_isNaN_int) (n:=Try.f100.ntmps) tabT folT Try.func100 rfl (by kernel_rfl) rfl (Nat.le_of_ble_eq_true rfl) (by decide) (by kernel_rfl) (by kernel_rfl) rfl (by simp) (by simp) ?_
 simp only [Try.f100]
 refine wseq ?_
 refine wreg fun K hK=>?_
 simp [C.cmp_isNaN_int]
 refine hK _ ?_;clear hK K
 show AWp _ _ _ _ _
 refine wseq ?_
 refine wreg fun K hK=>?_
 simp [C.cmp_isNaN_int]
 refine hK _ ?_;clear hK K
 show AWp _ _ _ _ _
 refine wret ?_
 simp [C.cmp_isNaN_int]
theorem cmp_Compare_int_c (a b:Int):ACalls Try.prog F.cmp_Compare_int [.int a,.int b] [] true (fun outs res=>outs=[]/\res=[.one (D.int (cmpI a b))]):=by
 refine ACalls.of_body (C:=C.cmp_Compare_int) (n:=Try.f91.ntmps) tabT folT Try.func91 rfl (by kernel_rfl) rfl (Nat.le_of_ble_eq_true rfl) (by decide) (by kernel_rfl) (by kernel_rfl) rfl (by simp) (by simp) ?_
 simp only [Try.f91]
 refine wseq ?_
 refine wreg fun K hK=>?_
 simp [C.cmp_Compare_int]
 refine hK _ ?_;clear hK K
 show AWp _ _ _ _ _
 refine wseq ?_
 refine wregI ([0,1] ++ ([2])) rfl fun K hK=>?_
 refine oSg fun L hL=>?_
 simp [C.cmp_Compare_int]
 refine wcall1 (cmp_isNaN_int_c a) (by simp) (by simp) ?_
 simp [C.cmp_Compare_int]
 refine hL _ ?_;clear hL L
 refine oEn fun L hL=>?_
 simp [C.cmp_Compare_int]
 refine hL _ ?_;clear hL L
 simp [C.cmp_Compare_int]
 refine hK _ ?_;clear hK K
 show AWp _ _ _ _ _
 refine wseq ?_
 refine wregI ([0,1] ++ ([2])) rfl fun K hK=>?_
 refine oSg fun L hL=>?_
 simp [C.cmp_Compare_int]
 refine wcall1 (cmp_isNaN_int_c b) (by simp) (by simp) ?_
 simp [C.cmp_Compare_int]
 refine hL _ ?_;clear hL L
 refine oEn fun L hL=>?_
 simp [C.cmp_Compare_int]
 refine hL _ ?_;clear hL L
 simp [C.cmp_Compare_int]
 refine hK _ ?_;clear hK K
 show AWp _ _ _ _ _
 refine wseq ?_
 refine wseq ?_
 refine wreg fun K hK=>?_
 simp [C.cmp_Compare_int]
 refine hK _ ?_;clear hK K
 show AWp _ _ _ _ _
 refine wcond _ rfl (fun hc1=>?_) (fun hc1=>?_)
 ·simp at hc1
 ·refine wskip ?_
  show AWp _ _ _ _ _
  refine wseq ?_
  refine wseq ?_
  refine wreg fun K hK=>?_
  simp [C.cmp_Compare_int]
  refine hK _ ?_;clear hK K
  show AWp _ _ _ _ _
  refine wcond _ rfl (fun hc3=>?_) (fun hc3=>?_)
  ·simp at hc3
  ·refine wskip ?_
   show AWp _ _ _ _ _
   refine wseq ?_
   refine wseq ?_
   refine wreg fun K hK=>?_
   simp [C.cmp_Compare_int]
   refine hK _ ?_;clear hK K
   show AWp _ _ _ _ _
   refine wcond _ rfl (fun hc4=>?_) (fun hc4=>?_)
   ·have h4:=d_t hc4
    refine wseq ?_
    refine wreg fun K hK=>?_
    simp [C.cmp_Compare_int]
    refine hK _ ?_;clear hK K
    show AWp _ _ _ _ _
    refine wret ?_
    simp [C.cmp_Compare_int,cmpI,h4]
   ·have h4:=d_f hc4
    refine wskip ?_
    show AWp _ _ _ _ _
    refine wseq ?_
    refine wseq ?_
    refine wreg fun K hK=>?_
    simp [C.cmp_Compare_int]
    refine hK _ ?_;clear hK K
    show AWp _ _ _ _ _
    refine wcond _ rfl (fun hc5=>?_) (fun hc5=>?_)
    ·have h5:b < a:=by simpa using hc5
     refine wseq ?_
     refine wreg fun K hK=>?_
     simp [C.cmp_Compare_int]
     refine hK _ ?_;clear hK K
     show AWp _ _ _ _ _
     refine wret ?_
     simp [C.cmp_Compare_int,cmpI,h4,h5]
    ·have h5:¬ b < a:=by simpa using hc5
     refine wskip ?_
     show AWp _ _ _ _ _
     refine wseq ?_
     refine wreg fun K hK=>?_
     simp [C.cmp_Compare_int]
     refine hK _ ?_;clear hK K
     show AWp _ _ _ _ _
     refine wret ?_
     simp [C.cmp_Compare_int,cmpI,h4,h5]
theorem slices_Compare_int_int_c (a b:List Int) (ha:a.length < 4611686018427387904):ACalls Try.prog F.slices_Compare_int_int [.d (shI a),.d (shI b)] [] true (fun outs res=>outs=[]/\res=[.one (D.int (cmpL a b))]):=by
 refine ACalls.of_body (C:=C.slices_Compare_int_int) (n:=Try.f69.ntmps) tabT folT Try.func69 rfl (by kernel_rfl) rfl (Nat.le_of_ble_eq_true rfl) (by decide) (by kernel_rfl) (by kernel_rfl) rfl (by simp) (by simp) ?_
 simp only [Try.f69]
 refine wseq ?_
 refine wreg fun K hK=>?_
 simp [C.slices_Compare_int_int]
 refine hK _ ?_;clear hK K
 show AWp _ _ _ _ _
 refine wseq ?_
 refine wseq ?_
 refine wreg fun K hK=>?_
 simp [C.slices_Compare_int_int]
 refine hK _ ?_;clear hK K
 show AWp _ _ _ _ _
 refine wblock ?_
 refine wloop (fun k:Nat=>⟨ofL [(0,.d (shI a)),(1,.d (shI b)),(9,.d (shI a)),(10,.int a.length),(11,FV.int k)],ofRO []⟩) (fun k=>k<=a.length/\k<=b.length/\cmpL a b=cmpL (a.drop k) (b.drop k)) (fun k=>a.length - k) 0 (by simp [C.slices_Compare_int_int]) (by simp) ?_
 intro x1 hx1 R1 hR1
 obtain ⟨hk,hk2,ht⟩:=hx1
 refine wseq ?_
 refine wreg fun K hK=>?_
 simp [C.slices_Compare_int_int]
 refine hK _ ?_;clear hK K
 show AWp _ _ _ _ _
 refine wseq ?_
 refine wcond _ rfl (fun hc1=>?_) (fun hc1=>?_)
 ·have h1:x1 < a.length:=by have:=d_t hc1;omega
  refine wskip ?_
  show AWp _ _ _ _ _
  refine wseq ?_
  refine wblock ?_
  refine wseq ?_
  refine wreg fun K hK=>?_
  simp [C.slices_Compare_int_int,get_ints,h1]
  refine hK _ ?_;clear hK K
  show AWp _ _ _ _ _
  refine wseq ?_
  refine wseq ?_
  refine wreg fun K hK=>?_
  simp [C.slices_Compare_int_int]
  refine hK _ ?_;clear hK K
  show AWp _ _ _ _ _
  refine wcond _ rfl (fun hc2=>?_) (fun hc2=>?_)
  ·have h2:b.length<=x1:=by have:=d_t hc2;omega
   refine wseq ?_
   refine wreg fun K hK=>?_
   simp [C.slices_Compare_int_int]
   refine hK _ ?_;clear hK K
   show AWp _ _ _ _ _
   refine wret ?_
   simp [C.slices_Compare_int_int]
   rw [ht,List.drop_eq_nil_of_le h2,List.drop_eq_getElem_cons h1]
   rfl
  ·have h2:x1 < b.length:=by have:=d_f hc2;omega
   refine wskip ?_
   show AWp _ _ _ _ _
   refine wseq ?_
   refine wreg fun K hK=>?_
   simp [C.slices_Compare_int_int,get_ints,h2]
   refine hK _ ?_;clear hK K
   show AWp _ _ _ _ _
   refine wseq ?_
   refine wregI ([0,1,2] ++ ([3])) rfl fun K hK=>?_
   refine oSg fun L hL=>?_
   simp [C.slices_Compare_int_int]
   refine wcall1 (cmp_Compare_int_c a[x1] b[x1]) (by simp) (by simp) ?_
   simp [C.slices_Compare_int_int]
   refine hL _ ?_;clear hL L
   refine oEn fun L hL=>?_
   simp [C.slices_Compare_int_int]
   refine hL _ ?_;clear hL L
   simp [C.slices_Compare_int_int]
   refine hK _ ?_;clear hK K
   show AWp _ _ _ _ _
   refine wseq ?_
   refine wreg fun K hK=>?_
   simp [C.slices_Compare_int_int]
   refine hK _ ?_;clear hK K
   show AWp _ _ _ _ _
   refine wcond _ rfl (fun hc3=>?_) (fun hc3=>?_)
   ·have hne:¬ cmpI a[x1] b[x1]=0:=by simpa using hc3
    refine wseq ?_
    refine wreg fun K hK=>?_
    simp [C.slices_Compare_int_int]
    refine hK _ ?_;clear hK K
    show AWp _ _ _ _ _
    refine wret ?_
    simp [C.slices_Compare_int_int]
    rw [ht,List.drop_eq_getElem_cons h1,List.drop_eq_getElem_cons h2]
    rcases Int.lt_trichotomy a[x1] b[x1] with q | q | q
    ·simp [cmpL,cmpI,q,Int.ne_of_lt q]
    ·simp [cmpI,q] at hne
    ·simp [cmpL,cmpI,q,Int.ne_of_gt q,Int.not_lt.2 (Int.le_of_lt q)]
   ·have heq:cmpI a[x1] b[x1]=0:=by simpa using hc3
    have hab:a[x1]=b[x1]:=by
     unfold cmpI at heq
     split at heq
     ·simp at heq
     ·split at heq
      ·simp at heq
      ·omega
    refine wskip ?_
    show AWp _ _ _ _ _
    refine wreg fun K hK=>?_
    simp [C.slices_Compare_int_int,wrap_succ (show x1 < 4611686018427387904 by omega)]
    refine hK _ ?_;clear hK K
    simp [C.slices_Compare_int_int]
    refine hR1 (x1+1) ⟨h1,h2,?_⟩ (by omega)
    rw [ht,List.drop_eq_getElem_cons h1,List.drop_eq_getElem_cons h2]
    simp [cmpL,hab]
 ·have h1:x1=a.length:=by have:=d_f hc1;omega
  have hn:a.drop x1=[]:=List.drop_eq_nil_of_le (by omega)
  refine wexit ?_
  show AWp _ _ _ _ _
  refine wseq ?_
  refine wseq ?_
  refine wreg fun K hK=>?_
  simp [C.slices_Compare_int_int]
  refine hK _ ?_;clear hK K
  show AWp _ _ _ _ _
  refine wcond _ rfl (fun hc4=>?_) (fun hc4=>?_)
  ·have h2:a.length < b.length:=by have:=d_t hc4;omega
   refine wseq ?_
   refine wreg fun K hK=>?_
   simp [C.slices_Compare_int_int]
   refine hK _ ?_;clear hK K
   show AWp _ _ _ _ _
   refine wret ?_
   simp [C.slices_Compare_int_int]
   rw [ht,hn,List.drop_eq_getElem_cons (show x1 < b.length by omega)]
   rfl
  ·have h2:¬ a.length < b.length:=by have:=d_f hc4;omega
   refine wskip ?_
   show AWp _ _ _ _ _
   refine wseq ?_
   refine wreg fun K hK=>?_
   simp [C.slices_Compare_int_int]
   refine hK _ ?_;clear hK K
   show AWp _ _ _ _ _
   refine wret ?_
   simp [C.slices_Compare_int_int]
   rw [ht,hn,List.drop_eq_nil_of_le (show b.length<=x1 by omega)]
   rfl
theorem slices_IndexFunc_int_int_c (xs:List Int) (g:Nat) (p:Int->Bool) (hx:xs.length < 4611686018427387904) (hM:aget [] MM g=[]) (hp:∀ x∈xs,ACalls Try.prog g [.int x] [] true (fun outs res=>outs=[]/\res=[.one (D.bool (p x))])):ACalls Try.prog F.slices_IndexFunc_int_int [.d (shI xs),.d (.fn g [])] [] true (fun outs res=>outs=[]/\∃ r:Int,res=[.one (D.int r)]/\decide (0<=r)=xs.any p):=by
 refine ACalls.of_body (C:=C.slices_IndexFunc_int_int) (n:=Try.f70.ntmps) tabT folT Try.func70 rfl (by kernel_rfl) rfl (Nat.le_of_ble_eq_true rfl) (by decide) (by kernel_rfl) (by kernel_rfl) rfl (by simp) (by simp) ?_
 simp only [Try.f70]
 refine wseq ?_
 refine wreg fun K hK=>?_
 simp [C.slices_IndexFunc_int_int]
 refine hK _ ?_;clear hK K
 show AWp _ _ _ _ _
 refine wseq ?_
 refine wseq ?_
 refine wreg fun K hK=>?_
 simp [C.slices_IndexFunc_int_int]
 refine hK _ ?_;clear hK K
 show AWp _ _ _ _ _
 refine wblock ?_
 refine wloop (fun k:Nat=>⟨ofL [(0,.d (shI xs)),(1,.d (.fn g [])),(7,.int xs.length),(8,FV.int k)],ofRO []⟩) (fun k=>k<=xs.length/\(xs.take k).any p=false) (fun k=>xs.length - k) 0 (by simp [C.slices_IndexFunc_int_int]) (by simp) ?_
 intro x1 hx1 R1 hR1
 obtain ⟨hk,ht⟩:=hx1
 refine wseq ?_
 refine wreg fun K hK=>?_
 simp [C.slices_IndexFunc_int_int]
 refine hK _ ?_;clear hK K
 show AWp _ _ _ _ _
 refine wseq ?_
 refine wcond _ rfl (fun hc1=>?_) (fun hc1=>?_)
 ·have h1:x1 < xs.length:=by have:=d_t hc1;omega
  refine wskip ?_
  show AWp _ _ _ _ _
  refine wseq ?_
  refine wblock ?_
  refine wseq ?_
  refine wreg fun K hK=>?_
  simp [C.slices_IndexFunc_int_int]
  refine hK _ ?_;clear hK K
  show AWp _ _ _ _ _
  refine wseq ?_
  refine wregI ([0,1,2,3,4,5] ++ ([])) rfl fun K hK=>?_
  refine oSg fun L hL=>?_
  simp [C.slices_IndexFunc_int_int,get_ints,h1,hM]
  refine wcall1 (hp xs[x1] (List.getElem_mem h1)) (by simp) (by simp) ?_
  simp [C.slices_IndexFunc_int_int,get_ints,h1,hM]
  refine hL _ ?_;clear hL L
  refine oEn fun L hL=>?_
  simp only [AOpsI]
  refine hL _ ?_;clear hL L
  simp [C.slices_IndexFunc_int_int,get_ints,h1,hM]
  refine hK _ ?_;clear hK K
  show AWp _ _ _ _ _
  refine wcond _ rfl (fun hc2=>?_) (fun hc2=>?_)
  ·have hpx:p xs[x1]=true:=by simpa using hc2
   refine wseq ?_
   refine wreg fun K hK=>?_
   simp [C.slices_IndexFunc_int_int]
   refine hK _ ?_;clear hK K
   show AWp _ _ _ _ _
   refine wret ?_
   simp [C.slices_IndexFunc_int_int]
   exact ⟨xs[x1],List.getElem_mem h1,hpx⟩
  ·have hpx:p xs[x1]=false:=by simpa using hc2
   refine wskip ?_
   show AWp _ _ _ _ _
   refine wreg fun K hK=>?_
   simp [C.slices_IndexFunc_int_int,wrap_succ (show x1 < 4611686018427387904 by omega)]
   refine hK _ ?_;clear hK K
   simp [C.slices_IndexFunc_int_int]
   refine hR1 (x1+1) ⟨h1,?_⟩ (by omega)
   rw [List.take_succ_eq_append_getElem h1,List.any_append,ht]
   simp [hpx]
 ·have h1:x1=xs.length:=by have:=d_f hc1;omega
  have ht2:xs.any p=false:=by rw [h1,List.take_length] at ht;exact ht
  refine wexit ?_
  show AWp _ _ _ _ _
  refine wseq ?_
  refine wreg fun K hK=>?_
  simp [C.slices_IndexFunc_int_int]
  refine hK _ ?_;clear hK K
  show AWp _ _ _ _ _
  refine wret ?_
  simp [C.slices_IndexFunc_int_int]
  intro x hx
  have:=List.any_eq_false.1 ht2 x hx
  simpa using this
theorem slices_ContainsFunc_int_int_c (xs:List Int) (g:Nat) (p:Int->Bool) (hx:xs.length < 4611686018427387904) (hM:aget [] MM g=[]) (hp:∀ x∈xs,ACalls Try.prog g [.int x] [] true (fun outs res=>outs=[]/\res=[.one (D.bool (p x))])):ACalls Try.prog F.slices_ContainsFunc_int_int [.d (shI xs),.d (.fn g [])] [] true (fun outs res=>outs=[]/\res=[.one (D.bool (xs.any p))]):=by
 refine ACalls.of_body (C:=C.slices_ContainsFunc_int_int) (n:=Try.f32.ntmps) tabT folT Try.func32 rfl (by kernel_rfl) rfl (Nat.le_of_ble_eq_true rfl) (by decide) (by kernel_rfl) (by kernel_rfl) rfl (by simp) (by simp) ?_
 simp only [Try.f32]
 refine wseq ?_
 refine wreg fun K hK=>?_
 simp [C.slices_ContainsFunc_int_int]
 refine hK _ ?_;clear hK K
 show AWp _ _ _ _ _
 refine wseq ?_
 refine wregI ([0,1,2] ++ ([3,4])) rfl fun K hK=>?_
 refine oSg fun L hL=>?_
 simp [C.slices_ContainsFunc_int_int]
 refine wcall (slices_IndexFunc_int_int_c xs g p hx hM hp) (by simp) (by simp) (by simp) ?_
 rintro outs res ⟨rfl,r,rfl,hr⟩
 simp [C.slices_ContainsFunc_int_int]
 refine hL _ ?_;clear hL L
 refine oEn fun L hL=>?_
 simp [C.slices_ContainsFunc_int_int]
 refine hL _ ?_;clear hL L
 simp [C.slices_ContainsFunc_int_int]
 refine hK _ ?_;clear hK K
 show AWp _ _ _ _ _
 refine wret ?_
 simp [C.slices_ContainsFunc_int_int]
 exact hr
theorem impl_expOk_1_c (x:Int):ACalls Try.prog F.impl_expOk_1 [.int x] [] true (fun outs res=>outs=[]/\res=[.one (D.bool (!decide (-20<=x/\x<=20)))]):=by
 refine ACalls.of_body (C:=C.impl_expOk_1) (n:=Try.f90.ntmps) tabT folT Try.func90 rfl (by kernel_rfl) rfl (Nat.le_of_ble_eq_true rfl) (by decide) (by kernel_rfl) (by kernel_rfl) rfl (by simp) (by simp) ?_
 simp only [Try.f90]
 refine wseq ?_
 refine wreg fun K hK=>?_
 simp [C.impl_expOk_1]
 refine hK _ ?_;clear hK K
 show AWp _ _ _ _ _
 refine wseq ?_
 refine wregI ([0,1] ++ ([2,3])) rfl fun K hK=>?_
 refine oSg fun L hL=>?_
 simp [C.impl_expOk_1]
 refine wcall1 (impl_within_c x (-20) 20) (by simp) (by simp) ?_
 simp [C.impl_expOk_1]
 refine hL _ ?_;clear hL L
 refine oEn fun L hL=>?_
 simp [C.impl_expOk_1]
 refine hL _ ?_;clear hL L
 simp [C.impl_expOk_1]
 refine hK _ ?_;clear hK K
 show AWp _ _ _ _ _
 refine wret ?_
 simp [C.impl_expOk_1]
theorem impl_expOk_c (e:List Int) (v:Int) (hx:e.length < 4611686018427387904):ACalls Try.prog F.impl_expOk [.d (shI e),.int v] [] true (fun outs res=>outs=[]/\res=[.one (D.bool (okE e v))]):=by
 refine ACalls.of_body (C:=C.impl_expOk) (n:=Try.f67.ntmps) tabT folT Try.func67 rfl (by kernel_rfl) rfl (Nat.le_of_ble_eq_true rfl) (by decide) (by kernel_rfl) (by kernel_rfl) rfl (by simp) (by simp) ?_
 simp only [Try.f67]
 refine wseq ?_
 refine wreg fun K hK=>?_
 simp [C.impl_expOk]
 refine hK _ ?_;clear hK K
 show AWp _ _ _ _ _
 refine wseq ?_
 refine wregI ([0,1,2,3,4,5,6] ++ ([7,8,9])) rfl fun K hK=>?_
 have hJ:K ⟨ofL [(4,.bool (okE e v))],ofRO []⟩:=by
  refine hK _ ?_;clear hK K
  show AWp _ _ _ _ _
  refine wret ?_
  simp [C.impl_expOk]
 clear hK
 by_cases ha:(e.length:Int)=v
 ·refine oSg fun L hL=>?_
  simp [C.impl_expOk,ha]
  refine wcall1 (slices_ContainsFunc_int_int_c e _ (fun x=>!decide (-20<=x/\x<=20)) hx rfl (fun x _=>impl_expOk_1_c x)) (by simp) (by simp) ?_
  simp [C.impl_expOk,ha]
  refine hL _ ?_;clear hL L
  refine oEn fun L hL=>?_
  simp [C.impl_expOk,ha]
  refine hL _ ?_;clear hL L
  simp [C.impl_expOk,ha]
  refine cast (congrArg K ?_) hJ
  simp [okE,ha]
 ·refine oSg fun L hL=>?_
  simp [C.impl_expOk,ha]
  refine hL _ ?_;clear hL L
  refine oEn fun L hL=>?_
  simp [C.impl_expOk,ha]
  refine hL _ ?_;clear hL L
  simp [C.impl_expOk,ha]
  refine cast (congrArg K ?_) hJ
  simp [okE,ha]
theorem impl_coefOk_c (c:Int):ACalls Try.prog F.impl_coefOk [.int c] [] true (fun outs res=>outs=[]/\res=[.one (D.bool (decide (c≠0/\-1000000<=c/\c<=1000000)))]):=by
 refine ACalls.of_body (C:=C.impl_coefOk) (n:=Try.f68.ntmps) tabT folT Try.func68 rfl (by kernel_rfl) rfl (Nat.le_of_ble_eq_true rfl) (by decide) (by kernel_rfl) (by kernel_rfl) rfl (by simp) (by simp) ?_
 simp only [Try.f68]
 refine wseq ?_
 refine wreg fun K hK=>?_
 simp [C.impl_coefOk]
 refine hK _ ?_;clear hK K
 show AWp _ _ _ _ _
 refine wseq ?_
 refine wregI ([0,1,2,3,4] ++ ([5,6])) rfl fun K hK=>?_
 have hJ:K ⟨ofL [(2,.bool (decide (c≠0/\-1000000<=c/\c<=1000000)))],ofRO []⟩:=by
  refine hK _ ?_;clear hK K
  show AWp _ _ _ _ _
  refine wret ?_
  simp [C.impl_coefOk]
 clear hK
 by_cases ha:c=0
 ·refine oSg fun L hL=>?_
  simp [C.impl_coefOk,ha]
  refine hL _ ?_;clear hL L
  refine oEn fun L hL=>?_
  simp [C.impl_coefOk,ha]
  refine hL _ ?_;clear hL L
  simp [C.impl_coefOk,ha]
  refine cast (congrArg K ?_) hJ
  simp [ha]
 ·refine oSg fun L hL=>?_
  simp [C.impl_coefOk,ha]
  refine wcall1 (impl_within_c c (-1000000) 1000000) (by simp) (by simp) ?_
  simp [C.impl_coefOk,ha]
  refine hL _ ?_;clear hL L
  refine oEn fun L hL=>?_
  simp [C.impl_coefOk,ha]
  refine hL _ ?_;clear hL L
  simp [C.impl_coefOk,ha]
  refine cast (congrArg K ?_) hJ
  simp [ha]
theorem impl_LaurentOk_c (f:Lau) (hx:f.ts.length < 4611686018427387904) (hxe:∀ t∈f.ts,t.e.length < 4611686018427387904):ACalls Try.prog F.impl_LaurentOk [aF f] [] true (fun outs res=>outs=[]/\res=[.one (D.bool (decide (Right f)))]):=by
 refine ACalls.of_body (C:=C.impl_LaurentOk) (n:=Try.f31.ntmps) tabT folT Try.func31 rfl (by kernel_rfl) rfl (Nat.le_of_ble_eq_true rfl) (by decide) (by kernel_rfl) (by kernel_rfl) rfl (by simp) (by simp) ?_
 simp only [Try.f31]
 refine wseq ?_
 refine wreg fun K hK=>?_
 simp [C.impl_LaurentOk,fS,tS]
 refine hK _ ?_;clear hK K
 show AWp _ _ _ _ _
 refine wseq ?_
 refine wseq ?_
 refine wregI ([0,1,2] ++ ([3,4,5,6,7,8,9])) rfl fun K hK=>?_
 have hJ:K ⟨ofL [(1,.pt (1,0) [] 0),(14,.bool (decide (¬ (1<=f.v/\f.v<=8)\/600 < (f.ts.length:Int))))],ofRO [((1,0),some (.bx (fS f)))]⟩:=by
  refine hK _ ?_;clear hK K
  show AWp _ _ _ _ _
  refine wcond _ rfl (fun hc1=>?_) (fun hc1=>?_)
  ·have hh:=d_t hc1
   refine wseq ?_
   refine wreg fun K hK=>?_
   simp [C.impl_LaurentOk,fS,tS]
   refine hK _ ?_;clear hK K
   show AWp _ _ _ _ _
   refine wret ?_
   simp [C.impl_LaurentOk,fS,tS]
   intro hr;have:=hr.1;have:=hr.2.1;omega
  ·have hh0:=d_f hc1
   have hh:(1<=f.v/\f.v<=8)/\f.ts.length<=600:=by omega
   refine wskip ?_
   show AWp _ _ _ _ _
   refine wseq ?_
   refine wseq ?_
   refine wreg fun K hK=>?_
   simp [C.impl_LaurentOk,fS,tS]
   refine hK _ ?_;clear hK K
   show AWp _ _ _ _ _
   refine wblock ?_
   refine wloop (fun k:Nat=>⟨ofL [(1,.pt (1,0) [] 0),(16,.d (.sh 2 f.ts.length (rows tS f.ts))),(17,.int f.ts.length),(18,.int k)],ofRO [((1,0),some (.bx (fS f)))]⟩) (fun k=>k<=f.ts.length/\(∀ t∈f.ts.take k,Good f.v t)/\DescT (f.ts.take k)) (fun k=>f.ts.length - k) 0 (by simp [C.impl_LaurentOk,fS]) (by simp [DescT]) ?_
   intro x1 hx1 R1 hR1
   obtain ⟨hk,hgood,hdesc⟩:=hx1
   refine wseq ?_
   refine wreg fun K hK=>?_
   simp [C.impl_LaurentOk,fS,tS]
   refine hK _ ?_;clear hK K
   show AWp _ _ _ _ _
   refine wseq ?_
   refine wcond _ rfl (fun hc2=>?_) (fun hc2=>?_)
   ·have h1:x1 < f.ts.length:=by have:=d_t hc2;omega
    refine wskip ?_
    show AWp _ _ _ _ _
    refine wseq ?_
    refine wblock ?_
    refine wseq ?_
    refine wreg fun K hK=>?_
    simp [C.impl_LaurentOk,fS,tS,h1,tS_0 h1,tS_1 h1]
    refine hK _ ?_;clear hK K
    show AWp _ _ _ _ _
    refine wseq ?_
    refine wdrawI [(true,0),(true,1),(true,2),(true,3),(false,4),(true,5),(true,6),(true,7),(true,8),(false,9),(true,10),(true,11),(true,12),(true,13),(true,14),(true,15),(true,16),(true,17),(true,18),(true,19),(true,20),(true,21),(true,22),(true,23),(true,24),(false,25),(true,26),(true,27),(true,28)] ⟨by kernel_rfl,by kernel_rfl⟩ ([0,1,2,3,4] ++ ([5,6,7,8,9] ++ ([10,11,12,13,14,15,16,17,18,19,20,21,22,23,24,25] ++ ([26,27,28])))) rfl fun K hK=>?_
    have hJ:K ⟨ofL [(1,.pt (1,0) [] 0),(16,.d (.sh 2 f.ts.length (rows tS f.ts))),(17,.int f.ts.length),(18,.int x1),(51,.bool (!decide (okE f.ts[x1].e f.v=true/\(f.ts[x1].c≠0/\-1000000<=f.ts[x1].c/\f.ts[x1].c<=1000000)/\(x1=0\/lexlt f.ts[x1].e f.ts[x1 - 1].e=true))))],ofRO [((1,0),some (.bx (fS f)))]⟩:=by
     refine hK _ ?_;clear hK K
     show AWp _ _ _ _ _
     refine wcond _ rfl (fun hc3=>?_) (fun hc3=>?_)
     ·have hb:=nd_t hc3
      refine wseq ?_
      refine wreg fun K hK=>?_
      simp [C.impl_LaurentOk,fS,tS]
      refine hK _ ?_;clear hK K
      show AWp _ _ _ _ _
      refine wret ?_
      simp [C.impl_LaurentOk,fS,tS]
      intro hr
      have hg:=hr.2.2.1 _ (List.getElem_mem h1)
      exact hb ⟨okE_iff.2 ⟨hg.1,hg.2.2.2⟩,⟨hg.2.1,hg.2.2.1⟩,descT_next h1 hr.2.2.2⟩
     ·have hb:=nd_f hc3
      refine wskip ?_
      show AWp _ _ _ _ _
      refine wreg fun K hK=>?_
      simp [C.impl_LaurentOk,fS,tS,wrap_succ (show x1 < 4611686018427387904 by omega)]
      refine hK _ ?_;clear hK K
      simp [C.impl_LaurentOk,fS,tS]
      refine hR1 (x1+1) ⟨h1,?_,descT_step h1 hdesc hb.2.2⟩ (by omega)
      rw [List.take_succ_eq_append_getElem h1]
      intro t ht
      rcases List.mem_append.1 ht with ht | ht
      ·exact hgood t ht
      ·simp only [List.mem_singleton] at ht
       rw [ht]
       have ho:=okE_iff.1 hb.1
       exact ⟨ho.1,hb.2.1.1,hb.2.1.2,ho.2⟩
    clear hK
    by_cases ha:okE f.ts[x1].e f.v=true
    ·by_cases hb:f.ts[x1].c≠0/\-1000000<=f.ts[x1].c/\f.ts[x1].c<=1000000
     ·by_cases hd:0 < x1
      ·obtain ⟨m,rfl⟩:∃ m,x1=m+1:=⟨x1 - 1,by omega⟩
       have hm:m < f.ts.length:=by omega
       refine oSg fun L hL=>?_
       simp [C.impl_LaurentOk,fS,tS,hm,tS_0 hm,wrap_nat (show m < 4611686018427387904 by omega),ha,hb,hd]
       refine wcall1 (impl_expOk_c f.ts[m+1].e f.v (hxe _ (List.getElem_mem h1))) (by simp) (by simp) ?_
       simp [C.impl_LaurentOk,fS,tS,hm,tS_0 hm,wrap_nat (show m < 4611686018427387904 by omega),ha,hb,hd]
       refine hL _ ?_;clear hL L
       refine oSg fun L hL=>?_
       simp [C.impl_LaurentOk,fS,tS,hm,tS_0 hm,wrap_nat (show m < 4611686018427387904 by omega),ha,hb,hd]
       refine wcall1 (impl_coefOk_c f.ts[m+1].c) (by simp) (by simp) ?_
       simp [C.impl_LaurentOk,fS,tS,hm,tS_0 hm,wrap_nat (show m < 4611686018427387904 by omega),ha,hb,hd]
       refine hL _ ?_;clear hL L
       refine oSg fun L hL=>?_
       simp [C.impl_LaurentOk,fS,tS,hm,tS_0 hm,wrap_nat (show m < 4611686018427387904 by omega),ha,hb,hd]
       refine wcall1 (slices_Compare_int_int_c f.ts[m].e f.ts[m+1].e (hxe _ (List.getElem_mem hm))) (by simp) (by simp) ?_
       simp [C.impl_LaurentOk,fS,tS,hm,tS_0 hm,wrap_nat (show m < 4611686018427387904 by omega),ha,hb,hd]
       refine hL _ ?_;clear hL L
       refine oEn fun L hL=>?_
       simp [C.impl_LaurentOk,fS,tS,hm,tS_0 hm,wrap_nat (show m < 4611686018427387904 by omega),ha,hb,hd]
       refine hL _ ?_;clear hL L
       simp [C.impl_LaurentOk,fS,tS,hm,tS_0 hm,wrap_nat (show m < 4611686018427387904 by omega),ha,hb,hd]
       refine cast (congrArg K ?_) hJ
       simp [cmpL_pos,fS,tS,ha,hb,hd]
      ·obtain rfl:x1=0:=by omega
       refine oSg fun L hL=>?_
       simp [C.impl_LaurentOk,fS,tS,ha,hb,hd]
       refine wcall1 (impl_expOk_c f.ts[0].e f.v (hxe _ (List.getElem_mem h1))) (by simp) (by simp) ?_
       simp [C.impl_LaurentOk,fS,tS,ha,hb,hd]
       refine hL _ ?_;clear hL L
       refine oSg fun L hL=>?_
       simp [C.impl_LaurentOk,fS,tS,ha,hb,hd]
       refine wcall1 (impl_coefOk_c f.ts[0].c) (by simp) (by simp) ?_
       simp [C.impl_LaurentOk,fS,tS,ha,hb,hd]
       refine hL _ ?_;clear hL L
       refine oSg fun L hL=>?_
       simp [C.impl_LaurentOk,fS,tS,ha,hb,hd]
       refine hL _ ?_;clear hL L
       refine oEn fun L hL=>?_
       simp [C.impl_LaurentOk,fS,tS,ha,hb,hd]
       refine hL _ ?_;clear hL L
       simp [C.impl_LaurentOk,fS,tS,ha,hb,hd]
       refine cast (congrArg K ?_) hJ
       simp [fS,tS,ha,hb,hd]
     ·refine oSg fun L hL=>?_
      simp [C.impl_LaurentOk,fS,tS,ha,hb]
      refine wcall1 (impl_expOk_c f.ts[x1].e f.v (hxe _ (List.getElem_mem h1))) (by simp) (by simp) ?_
      simp [C.impl_LaurentOk,fS,tS,ha,hb]
      refine hL _ ?_;clear hL L
      refine oSg fun L hL=>?_
      simp [C.impl_LaurentOk,fS,tS,ha,hb]
      refine wcall1 (impl_coefOk_c f.ts[x1].c) (by simp) (by simp) ?_
      simp [C.impl_LaurentOk,fS,tS,ha,hb]
      refine hL _ ?_;clear hL L
      refine oSg fun L hL=>?_
      simp [C.impl_LaurentOk,fS,tS,ha,hb]
      refine hL _ ?_;clear hL L
      refine oEn fun L hL=>?_
      simp [C.impl_LaurentOk,fS,tS,ha,hb]
      refine hL _ ?_;clear hL L
      simp [C.impl_LaurentOk,fS,tS,ha,hb]
      refine cast (congrArg K ?_) hJ
      simp [fS,tS,ha,hb]
    ·refine oSg fun L hL=>?_
     simp [C.impl_LaurentOk,fS,tS,ha]
     refine wcall1 (impl_expOk_c f.ts[x1].e f.v (hxe _ (List.getElem_mem h1))) (by simp) (by simp) ?_
     simp [C.impl_LaurentOk,fS,tS,ha]
     refine hL _ ?_;clear hL L
     refine oSg fun L hL=>?_
     simp [C.impl_LaurentOk,fS,tS,ha]
     refine hL _ ?_;clear hL L
     refine oSg fun L hL=>?_
     simp [C.impl_LaurentOk,fS,tS,ha]
     refine hL _ ?_;clear hL L
     refine oEn fun L hL=>?_
     simp [C.impl_LaurentOk,fS,tS,ha]
     refine hL _ ?_;clear hL L
     simp [C.impl_LaurentOk,fS,tS,ha]
     refine cast (congrArg K ?_) hJ
     simp [fS,tS,ha]
   ·have h2:x1=f.ts.length:=by have:=d_f hc2;omega
    refine wexit ?_
    show AWp _ _ _ _ _
    refine wseq ?_
    refine wreg fun K hK=>?_
    simp [C.impl_LaurentOk,fS,tS]
    refine hK _ ?_;clear hK K
    show AWp _ _ _ _ _
    refine wret ?_
    simp [C.impl_LaurentOk,fS,tS]
    rw [h2,List.take_length] at hgood hdesc
    exact ⟨hh.1,hh.2,hgood,hdesc⟩
 clear hK
 by_cases ha:1<=f.v/\f.v<=8
 ·refine oSg fun L hL=>?_
  simp [C.impl_LaurentOk,fS,tS,ha]
  refine wcall1 (impl_within_c f.v 1 8) (by simp) (by simp) ?_
  simp [C.impl_LaurentOk,fS,tS,ha]
  refine hL _ ?_;clear hL L
  refine oEn fun L hL=>?_
  simp [C.impl_LaurentOk,fS,tS,ha]
  refine hL _ ?_;clear hL L
  simp [C.impl_LaurentOk,fS,tS,ha]
  refine cast (congrArg K ?_) hJ
  simp [fS,tS,ha]
 ·refine oSg fun L hL=>?_
  simp [C.impl_LaurentOk,fS,tS,ha]
  refine wcall1 (impl_within_c f.v 1 8) (by simp) (by simp) ?_
  simp [C.impl_LaurentOk,fS,tS,ha]
  refine hL _ ?_;clear hL L
  refine oEn fun L hL=>?_
  simp [C.impl_LaurentOk,fS,tS,ha]
  refine hL _ ?_;clear hL L
  simp [C.impl_LaurentOk,fS,tS,ha]
  refine cast (congrArg K ?_) hJ
  simp [fS,tS,ha]
theorem impl_bothOk_c (f g:Lau) (hx:f.ts.length < 4611686018427387904) (hxe:∀ t∈f.ts,t.e.length < 4611686018427387904) (hy:g.ts.length < 4611686018427387904) (hye:∀ t∈g.ts,t.e.length < 4611686018427387904):ACalls Try.prog F.impl_bothOk [aF f,aF g] [] true (fun outs res=>outs=[]/\res=[.one (D.bool (decide (Right f/\Right g/\f.v=g.v)))]):=by
 refine ACalls.of_body (C:=C.impl_bothOk) (n:=Try.f83.ntmps) tabT folT Try.func83 rfl (by kernel_rfl) rfl (Nat.le_of_ble_eq_true rfl) (by decide) (by kernel_rfl) (by kernel_rfl) rfl (by simp) (by simp) ?_
 simp only [Try.f83]
 refine wseq ?_
 refine wreg fun K hK=>?_
 simp [C.impl_bothOk,fS]
 refine hK _ ?_;clear hK K
 show AWp _ _ _ _ _
 refine wseq ?_
 refine wregI ([0,1] ++ ([2,3,4] ++ ([5,6,7,8,9,10,11,12,13]))) rfl fun K hK=>?_
 have hJ:K ⟨ofL [(4,.bool (decide (Right f/\Right g/\f.v=g.v)))],ofRO []⟩:=by
  refine hK _ ?_;clear hK K
  show AWp _ _ _ _ _
  refine wret ?_
  simp [C.impl_bothOk,fS]
 clear hK
 by_cases ha:Right f
 ·by_cases hb:Right g
  ·refine oSg fun L hL=>?_
   simp [C.impl_bothOk,fS,ha,hb]
   refine wcall1 (impl_LaurentOk_c f hx hxe) (by simp) (by simp) ?_
   simp [C.impl_bothOk,fS,ha,hb]
   refine hL _ ?_;clear hL L
   refine oSg fun L hL=>?_
   simp [C.impl_bothOk,fS,ha,hb]
   refine wcall1 (impl_LaurentOk_c g hy hye) (by simp) (by simp) ?_
   simp [C.impl_bothOk,fS,ha,hb]
   refine hL _ ?_;clear hL L
   refine oEn fun L hL=>?_
   simp [C.impl_bothOk,fS,ha,hb]
   refine hL _ ?_;clear hL L
   simp [C.impl_bothOk,fS,ha,hb]
   refine cast (congrArg K ?_) hJ
   simp [ibeq,fS,ha,hb]
  ·refine oSg fun L hL=>?_
   simp [C.impl_bothOk,fS,ha,hb]
   refine wcall1 (impl_LaurentOk_c f hx hxe) (by simp) (by simp) ?_
   simp [C.impl_bothOk,fS,ha,hb]
   refine hL _ ?_;clear hL L
   refine oSg fun L hL=>?_
   simp [C.impl_bothOk,fS,ha,hb]
   refine wcall1 (impl_LaurentOk_c g hy hye) (by simp) (by simp) ?_
   simp [C.impl_bothOk,fS,ha,hb]
   refine hL _ ?_;clear hL L
   refine oEn fun L hL=>?_
   simp [C.impl_bothOk,fS,ha,hb]
   refine hL _ ?_;clear hL L
   simp [C.impl_bothOk,fS,ha,hb]
   refine cast (congrArg K ?_) hJ
   simp [ibeq,fS,ha,hb]
 ·refine oSg fun L hL=>?_
  simp [C.impl_bothOk,fS,ha]
  refine wcall1 (impl_LaurentOk_c f hx hxe) (by simp) (by simp) ?_
  simp [C.impl_bothOk,fS,ha]
  refine hL _ ?_;clear hL L
  refine oSg fun L hL=>?_
  simp [C.impl_bothOk,fS,ha]
  refine hL _ ?_;clear hL L
  refine oEn fun L hL=>?_
  simp [C.impl_bothOk,fS,ha]
  refine hL _ ?_;clear hL L
  simp [C.impl_bothOk,fS,ha]
  refine cast (congrArg K ?_) hJ
  simp [ibeq,fS,ha]
end Go.Proofs.Ytncfmemhjahpeaa.Ab
namespace Go.Proofs.Ytncfmemhjahpeaa.Ab
open Go
set_option maxRecDepth 10000
set_option maxHeartbeats 2000000
attribute [local simp] mapKV flatInt tileB
def pad (e:List Int):List Int:=e ++ List.replicate (8 - e.length) 0
theorem pad_length {e:List Int} (h:e.length<=8):(pad e).length=8:=by
 unfold pad
 simp
 omega
theorem eight {l:List Int} (h:l.length=8):∃ a b c d e f g k,l=[a,b,c,d,e,f,g,k]:=by
 match l,h with
 | [a,b,c,d,e,f,g,k],_=>exact ⟨a,b,c,d,e,f,g,k,rfl⟩
def madd (es:List (List Int×Int)) (k:List Int) (c:Int):List (List Int×Int):=
 if c+(mget k es).getD 0=0 then mdel k es else mset k (c+(mget k es).getD 0) es
theorem impl_keyOf_c (e:List Int) (he:e.length<=8) (k0 k1 k2 k3 k4 k5 k6 k7:Int) (hk:pad e=[k0,k1,k2,k3,k4,k5,k6,k7]):ACalls Try.prog F.impl_keyOf [.d (shI e)] [] true (fun outs res=>outs=[]/\res=[.ag [D.int k0,D.int k1,D.int k2,D.int k3,D.int k4,D.int k5,D.int k6,D.int k7]]):=by
 refine ACalls.of_body (C:=C.impl_keyOf) (n:=Try.f87.ntmps) tabT folT Try.func87 rfl (by kernel_rfl) rfl (Nat.le_of_ble_eq_true rfl) (by decide) (by kernel_rfl) (by kernel_rfl) rfl (by simp) (by simp) ?_
 simp only [Try.f87]
 refine wseq ?_
 refine wreg fun K hK=>?_
 simp [C.impl_keyOf]
 refine hK _ ?_;clear hK K
 show AWp _ _ _ _ _
 refine wseq ?_
 refine wreg fun K hK=>?_
 simp [C.impl_keyOf]
 refine hK _ ?_;clear hK K
 show AWp _ _ _ _ _
 refine wseq ?_
 have hcp:ints (e.take (min e.length 8)) ++ List.drop (min e.length 8) [D.int 0,D.int 0,D.int 0,D.int 0,D.int 0,D.int 0,D.int 0,D.int 0]=[D.int k0,D.int k1,D.int k2,D.int k3,D.int k4,D.int k5,D.int k6,D.int k7]:=by
  have hz:([D.int 0,D.int 0,D.int 0,D.int 0,D.int 0,D.int 0,D.int 0,D.int 0]:List D)=ints (List.replicate 8 0):=rfl
  rw [hz,Nat.min_eq_left he,List.take_length,ints_drop,ints_append,List.drop_replicate]
  show ints (pad e)=_
  rw [hk]
  rfl
 refine wreg fun K hK=>?_
 simp [C.impl_keyOf]
 rw [hcp]
 refine hK _ ?_;clear hK K
 show AWp _ _ _ _ _
 refine wseq ?_
 refine wreg fun K hK=>?_
 simp [C.impl_keyOf]
 refine hK _ ?_;clear hK K
 show AWp _ _ _ _ _
 refine wret ?_
 simp [C.impl_keyOf]
theorem impl_newBuilding_c (v:Int):ACalls Try.prog F.impl_newBuilding [.int v] [] true (fun outs res=>outs=[]/\res=[.one (.bx [D.int v,.mp []])]):=by
 refine ACalls.of_body (C:=C.impl_newBuilding) (n:=Try.f84.ntmps) tabT folT Try.func84 rfl (by kernel_rfl) rfl (Nat.le_of_ble_eq_true rfl) (by decide) (by kernel_rfl) (by kernel_rfl) rfl (by simp) (by simp) ?_
 simp only [Try.f84]
 refine wseq ?_
 refine wreg fun K hK=>?_
 simp [C.impl_newBuilding]
 refine hK _ ?_;clear hK K
 show AWp _ _ _ _ _
 refine wseq ?_
 refine wreg fun K hK=>?_
 simp [C.impl_newBuilding]
 refine hK _ ?_;clear hK K
 show AWp _ _ _ _ _
 refine wret ?_
 simp [C.impl_newBuilding]
theorem impl_building_add_c (v c:Int) (es:List (List Int×Int)) (k0 k1 k2 k3 k4 k5 k6 k7:Int) (hes:mapLen 8 es) (hw:-9223372036854775808<=c+(mget [k0,k1,k2,k3,k4,k5,k6,k7] es).getD 0/\c+(mget [k0,k1,k2,k3,k4,k5,k6,k7] es).getD 0 < 9223372036854775808):ACalls Try.prog F.impl_building_add [.pt (0,0) [] 0,.ag [.int k0,.int k1,.int k2,.int k3,.int k4,.int k5,.int k6,.int k7],.int c] [((0,0),.bx [D.int v,.mp es])] true (fun outs res=>outs=[.bx [D.int v,.mp (madd es [k0,k1,k2,k3,k4,k5,k6,k7] c)]]/\res=[]):=by
 refine ACalls.of_body (C:=C.impl_building_add) (n:=Try.f85.ntmps) tabT folT Try.func85 rfl (by kernel_rfl) rfl (Nat.le_of_ble_eq_true rfl) (by decide) (by kernel_rfl) (by kernel_rfl) rfl (by simp) (by simp) ?_
 simp only [Try.f85]
 refine wseq ?_
 refine wreg fun K hK=>?_
 simp [C.impl_building_add]
 refine hK _ ?_;clear hK K
 show AWp _ _ _ _ _
 refine wseq ?_
 refine wdraw (.take 0 (.take 1 (.take 2 (.take 3 (.take 4 (.take 5 (.take 6 (.take 7 (.take 8 (.done)))))))))) ⟨by kernel_rfl,by kernel_rfl⟩ fun K hK=>?_
 simp [C.impl_building_add,hes]
 rw [wrapOk (x:=c+(mget [k0,k1,k2,k3,k4,k5,k6,k7] es).getD 0) hw.1 hw.2]
 refine hK _ ?_;clear hK K
 show AWp _ _ _ _ _
 refine wseq ?_
 refine wreg fun K hK=>?_
 simp [C.impl_building_add]
 refine hK _ ?_;clear hK K
 show AWp _ _ _ _ _
 refine wcond _ rfl (fun hc1=>?_) (fun hc1=>?_)
 ·have hz:c+(mget [k0,k1,k2,k3,k4,k5,k6,k7] es).getD 0=0:=by simpa using hc1
  refine wdraw (.take 0 (.take 1 (.take 2 (.take 3 (.take 4 (.all [(5,.done)])))))) ⟨by kernel_rfl,by kernel_rfl⟩ fun K hK=>?_
  simp [C.impl_building_add,hes]
  refine hK _ ?_;clear hK K
  simp [C.impl_building_add,madd,hz]
 ·have hz:¬ c+(mget [k0,k1,k2,k3,k4,k5,k6,k7] es).getD 0=0:=by simpa using hc1
  refine wdraw (.take 0 (.take 1 (.take 2 (.take 3 (.take 4 (.take 5 (.all [(6,.done)]))))))) ⟨by kernel_rfl,by kernel_rfl⟩ fun K hK=>?_
  simp [C.impl_building_add,hes]
  refine hK _ ?_;clear hK K
  simp [C.impl_building_add,madd,hz]
theorem impl_plusExp_c (t:Int) (a0 a1 a2 a3 a4 a5 a6 a7 b0 b1 b2 b3 b4 b5 b6 b7:Int) (ht:-1<=t/\t<=1) (ha:∀ x∈[a0,a1,a2,a3,a4,a5,a6,a7],-1000000<=x/\x<=1000000) (hb:∀ x∈[b0,b1,b2,b3,b4,b5,b6,b7],-1000000<=x/\x<=1000000):ACalls Try.prog F.impl_plusExp [.ag [.int a0,.int a1,.int a2,.int a3,.int a4,.int a5,.int a6,.int a7],.int t,.ag [.int b0,.int b1,.int b2,.int b3,.int b4,.int b5,.int b6,.int b7]] [] true (fun outs res=>outs=[]/\res=[.ag [D.int (a0+t*b0),D.int (a1+t*b1),D.int (a2+t*b2),D.int (a3+t*b3),D.int (a4+t*b4),D.int (a5+t*b5),D.int (a6+t*b6),D.int (a7+t*b7)]]):=by
 refine ACalls.of_body (C:=C.impl_plusExp) (n:=Try.f86.ntmps) tabT folT Try.func86 rfl (by kernel_rfl) rfl (Nat.le_of_ble_eq_true rfl) (by decide) (by kernel_rfl) (by kernel_rfl) rfl (by simp) (by simp) ?_
 simp only [Try.f86]
 refine wseq ?_
 refine wreg fun K hK=>?_
 simp [C.impl_plusExp]
 refine hK _ ?_;clear hK K
 show AWp _ _ _ _ _
 refine wseq ?_
 refine wseq ?_
 refine wreg fun K hK=>?_
 simp [C.impl_plusExp]
 refine hK _ ?_;clear hK K
 show AWp _ _ _ _ _
 refine wblock ?_
 refine wloop (fun x:Nat×List Int=>⟨ofL [(1,.int t),(3,.pt (3,0) [] 0),(5,.pt (5,0) [] 0),(6,.pt (6,0) [] 0),(8,.int x.1)],ofRO [((3,0),some (.bx (ints x.2))),((5,0),some (.bx (ints [b0,b1,b2,b3,b4,b5,b6,b7]))),((6,0),some (.bx (ints [0,0,0,0,0,0,0,0])))]⟩) (fun x=>x.1<=8/\x.2=addE t ([a0,a1,a2,a3,a4,a5,a6,a7].take x.1) ([b0,b1,b2,b3,b4,b5,b6,b7].take x.1) ++ [a0,a1,a2,a3,a4,a5,a6,a7].drop x.1) (fun x=>8 - x.1) (0,[a0,a1,a2,a3,a4,a5,a6,a7]) (by simp [C.impl_plusExp,ints]) (by simp [addE]) ?_
 intro x1 hx1 R1 hR1
 obtain ⟨i,gs⟩:=x1
 obtain ⟨hi,hg⟩:=hx1
 dsimp only at hi hg ⊢
 refine wseq ?_
 refine wreg fun K hK=>?_
 simp [C.impl_plusExp]
 refine hK _ ?_;clear hK K
 show AWp _ _ _ _ _
 refine wseq ?_
 refine wcond _ rfl (fun hc1=>?_) (fun hc1=>?_)
 ·have h1:i < 8:=by have:=d_t hc1;omega
  have hgl:gs.length=8:=by
   rw [hg]
   simp [addE_length]
   omega
  have h2:i < gs.length:=by omega
  have h3:i < [b0,b1,b2,b3,b4,b5,b6,b7].length:=by simpa using h1
  have h4:i < [a0,a1,a2,a3,a4,a5,a6,a7].length:=by simpa using h1
  have hge:gs[i]=[a0,a1,a2,a3,a4,a5,a6,a7][i]:=by
   have:=addE_get (t:=t) h4 (show [a0,a1,a2,a3,a4,a5,a6,a7].length=[b0,b1,b2,b3,b4,b5,b6,b7].length from rfl)
   rw [<-hg,List.getElem?_eq_getElem h2] at this
   injection this
  have hA:=ha _ (List.getElem_mem h4)
  have hB:=hb _ (List.getElem_mem h3)
  generalize hbi:[b0,b1,b2,b3,b4,b5,b6,b7][i]=B at hB
  generalize hai:[a0,a1,a2,a3,a4,a5,a6,a7][i]=A at hA hge
  have htb:-1000000<=t*B/\t*B<=1000000:=by
   rcases (show t=-1\/t=0\/t=1 by omega) with rfl | rfl | rfl <;> omega
  refine wskip ?_
  show AWp _ _ _ _ _
  refine wseq ?_
  refine wblock ?_
  refine wseq ?_
  refine wreg fun K hK=>?_
  simp [C.impl_plusExp]
  refine hK _ ?_;clear hK K
  show AWp _ _ _ _ _
  refine wdraw (.take 0 (.take 1 (.take 2 (.take 3 (.take 4 (.take 5 (.take 6 (.take 7 (.take 8 (.take 9 (.all [(10,.done)]))))))))))) ⟨by kernel_rfl,by kernel_rfl⟩ fun K hK=>?_
  simp [C.impl_plusExp,show ((i:Int) < 8) by omega,h1,hgl,get_ints]
  rw [hbi,hge,wrapOk (x:=t*B) (by omega) (by omega),wrapOk (x:=A+t*B) (by omega) (by omega)]
  refine hK _ ?_;clear hK K
  show AWp _ _ _ _ _
  refine wreg fun K hK=>?_
  simp [C.impl_plusExp,wrap_succ (show i < 4611686018427387904 by omega)]
  refine hK _ ?_;clear hK K
  simp [C.impl_plusExp]
  refine hR1 (i+1,_) ⟨h1,?_⟩ (by dsimp only;omega)
  dsimp only
  rw [hg,<-hai,<-hbi]
  exact addE_step (bs:=[b0,b1,b2,b3,b4,b5,b6,b7]) h4 rfl
 ·have h1:i=8:=by have:=d_f hc1;omega
  subst h1
  have hg2:gs=[a0+t*b0,a1+t*b1,a2+t*b2,a3+t*b3,a4+t*b4,a5+t*b5,a6+t*b6,a7+t*b7]:=by rw [hg];rfl
  subst hg2
  refine wexit ?_
  show AWp _ _ _ _ _
  refine wseq ?_
  refine wreg fun K hK=>?_
  simp [C.impl_plusExp,ints]
  refine hK _ ?_;clear hK K
  show AWp _ _ _ _ _
  refine wret ?_
  simp [C.impl_plusExp]
end Go.Proofs.Ytncfmemhjahpeaa.Ab
namespace Go.Proofs.Ytncfmemhjahpeaa.Ab
open Go
set_option maxRecDepth 10000
set_option maxHeartbeats 2000000
def MulOk:Prop:=∀ f g:Lau,f.ts.length < 4611686018427387904->(∀ t∈f.ts,t.e.length < 4611686018427387904)->g.ts.length < 4611686018427387904->(∀ t∈g.ts,t.e.length < 4611686018427387904) ->
 ACalls Try.prog F.impl_MulLaurents [aF f,aF g] [] true (fun outs res=>outs=[]/\res=[.ag (fO (mulF f g).1),.one (D.bool (mulF f g).2)])
theorem impl_ConstantLaurent_c (n:Nat) (hn:1<=n/\n<=8):ACalls Try.prog F.impl_ConstantLaurent [.int n,.int 1] [] true (fun outs res=>outs=[]/\res=[.ag (fO (oneF n))]):=by
 refine ACalls.of_body (C:=C.impl_ConstantLaurent) (n:=Try.f58.ntmps) tabT folT Try.func58 rfl (by kernel_rfl) rfl (Nat.le_of_ble_eq_true rfl) (by decide) (by kernel_rfl) (by kernel_rfl) rfl (by simp) (by simp) ?_
 simp only [Try.f58]
 refine wseq ?_
 refine wreg fun K hK=>?_
 simp [C.impl_ConstantLaurent]
 refine hK _ ?_;clear hK K
 show AWp _ _ _ _ _
 refine wseq ?_
 refine wseq ?_
 refine wregI ([0,1] ++ ([2,3,4,5] ++ ([6,7]))) rfl fun K hK=>?_
 refine oSg fun L hL=>?_
 simp [C.impl_ConstantLaurent,show (1<=(n:Int)) by omega,show ((n:Int)<=8) by omega]
 refine wcall1 (impl_within_c n 1 8) (by simp) (by simp) ?_
 simp [C.impl_ConstantLaurent,show (1<=(n:Int)) by omega,show ((n:Int)<=8) by omega]
 refine hL _ ?_;clear hL L
 refine oSg fun L hL=>?_
 simp [C.impl_ConstantLaurent,show (1<=(n:Int)) by omega,show ((n:Int)<=8) by omega]
 refine wcall1 (impl_within_c 1 (-1000000) 1000000) (by simp) (by simp) ?_
 simp [C.impl_ConstantLaurent,show (1<=(n:Int)) by omega,show ((n:Int)<=8) by omega]
 refine hL _ ?_;clear hL L
 refine oEn fun L hL=>?_
 simp [C.impl_ConstantLaurent,show (1<=(n:Int)) by omega,show ((n:Int)<=8) by omega]
 refine hL _ ?_;clear hL L
 simp [C.impl_ConstantLaurent,show (1<=(n:Int)) by omega,show ((n:Int)<=8) by omega]
 refine hK _ ?_;clear hK K
 show AWp _ _ _ _ _
 refine wcond _ rfl (fun hc1=>?_) (fun hc1=>?_)
 ·simp at hc1
 ·refine wskip ?_
  show AWp _ _ _ _ _
  refine wseq ?_
  refine wseq ?_
  refine wreg fun K hK=>?_
  simp [C.impl_ConstantLaurent]
  refine hK _ ?_;clear hK K
  show AWp _ _ _ _ _
  refine wcond _ rfl (fun hc2=>?_) (fun hc2=>?_)
  ·simp at hc2
  ·refine wskip ?_
   show AWp _ _ _ _ _
   refine wseq ?_
   refine wreg fun K hK=>?_
   simp [C.impl_ConstantLaurent,zeros_ints,show (8:Int)*n<=281474976710656 by omega,show (n:Int)<=281474976710656 by omega]
   refine hK _ ?_;clear hK K
   show AWp _ _ _ _ _
   refine wret ?_
   simp [C.impl_ConstantLaurent,fO,oneF,rows,tO]
end Go.Proofs.Ytncfmemhjahpeaa.Ab
namespace Go.Proofs.Ytncfmemhjahpeaa.Ab
open Go
theorem pad_inj {a b:List Int} (h:a.length=b.length) (e:pad a=pad b):a=b:=by
 unfold pad at e
 rw [h] at e
 exact List.append_cancel_right e
theorem pad_take {e:List Int}:(pad e).take e.length=e:=by
 unfold pad
 exact List.take_left
theorem mget_none {k:List Int}:∀ {es:List (List Int×Int)},(∀ x∈es,x.1≠k)->mget k es=none
 | [],_=>rfl
 | x :: es,h=>by
  simp only [mget]
  rw [if_neg (h x (by simp))]
  exact mget_none fun y hy=>h y (by simp [hy])
theorem mget_mset {k q:List Int} {v:Int}:∀ (es:List (List Int×Int)),mget q (mset k v es)=if k=q then some v else mget q es
 | []=>by simp [mset,mget]
 | x :: es=>by
  simp only [mset]
  split
  ·rename_i e
   subst e
   simp only [mget]
   split <;> rfl
  ·rename_i e
   simp only [mget,mget_mset es]
   by_cases h1:x.1=q
   ·rw [if_pos h1,if_neg (fun h2=>e (h1.trans h2.symm)),if_pos h1]
   ·rw [if_neg h1,if_neg h1]
theorem mget_mdel {k q:List Int}:∀ (es:List (List Int×Int)),(es.map (·.1)).Nodup->mget q (mdel k es)=if k=q then none else mget q es
 | [],_=>by simp [mdel,mget]
 | x :: es,h=>by
  simp only [List.map_cons,List.nodup_cons] at h
  simp only [mdel]
  split
  ·rename_i e
   subst e
   by_cases h1:x.1=q
   ·rw [if_pos h1]
    exact mget_none fun y hy e2=>h.1 (by rw [h1,<-e2];exact List.mem_map.2 ⟨y,hy,rfl⟩)
   ·rw [if_neg h1]
    simp only [mget]
    rw [if_neg h1]
  ·rename_i e
   simp only [mget,mget_mdel es h.2]
   by_cases h1:x.1=q
   ·rw [if_pos h1,if_neg (fun h2=>e (h1.trans h2.symm)),if_pos h1]
   ·rw [if_neg h1,if_neg h1]
theorem mset_mem {k:List Int} {v:Int}:∀ {es:List (List Int×Int)} {x:List Int×Int},x∈mset k v es->x=(k,v)\/x∈es
 | [],x,h=>by
  simp only [mset,List.mem_singleton] at h
  exact .inl h
 | y :: es,x,h=>by
  simp only [mset] at h
  split at h
  ·rcases List.mem_cons.1 h with h | h
   ·exact .inl h
   ·exact .inr (by simp [h])
  ·rcases List.mem_cons.1 h with h | h
   ·exact .inr (by simp [h])
   ·rcases mset_mem h with h | h
    ·exact .inl h
    ·exact .inr (by simp [h])
theorem mdel_mem {k:List Int}:∀ {es:List (List Int×Int)} {x:List Int×Int},x∈mdel k es->x∈es
 | [],x,h=>by simp [mdel] at h
 | y :: es,x,h=>by
  simp only [mdel] at h
  split at h
  ·simp [h]
  ·rcases List.mem_cons.1 h with h | h
   ·simp [h]
   ·simp [mdel_mem h]
theorem mset_nodup {k:List Int} {v:Int}:∀ {es:List (List Int×Int)},(es.map (·.1)).Nodup->((mset k v es).map (·.1)).Nodup
 | [],_=>by simp [mset]
 | y :: es,h=>by
  simp only [List.map_cons,List.nodup_cons] at h
  simp only [mset]
  split
  ·rename_i e
   simp only [List.map_cons,List.nodup_cons]
   rw [<-e]
   exact h
  ·rename_i e
   simp only [List.map_cons,List.nodup_cons]
   refine ⟨fun hm=>?_,mset_nodup h.2⟩
   obtain ⟨z,hz,e2⟩:=List.mem_map.1 hm
   rcases mset_mem hz with rfl | hz
   ·exact e e2.symm
   ·exact h.1 (List.mem_map.2 ⟨z,hz,e2⟩)
theorem mdel_nodup {k:List Int}:∀ {es:List (List Int×Int)},(es.map (·.1)).Nodup->((mdel k es).map (·.1)).Nodup
 | [],_=>by simp [mdel]
 | y :: es,h=>by
  simp only [List.map_cons,List.nodup_cons] at h
  simp only [mdel]
  split
  ·exact h.2
  ·simp only [List.map_cons,List.nodup_cons]
   refine ⟨fun hm=>?_,mdel_nodup h.2⟩
   obtain ⟨z,hz,e2⟩:=List.mem_map.1 hm
   exact h.1 (List.mem_map.2 ⟨z,mdel_mem hz,e2⟩)
structure MapR (n:Nat) (es l:List (List Int×Int)):Prop where
 nod:(es.map (·.1)).Nodup
 nz:∀ x∈es,x.2≠0/\∃ e,e.length=n/\x.1=pad e
 val:∀ e,e.length=n->(mget (pad e) es).getD 0=co e l
theorem MapR.nil (n:Nat):MapR n [] []:=⟨by simp,by simp,fun e _=>rfl⟩
theorem MapR.add {n:Nat} {es l:List (List Int×Int)} (h:MapR n es l) {e:List Int} (he:e.length=n) (c:Int):MapR n (madd es (pad e) c) ((e,c) :: l):=by
 have hv:=h.val e he
 unfold madd
 split
 ·rename_i hz
  refine ⟨mdel_nodup h.nod,fun x hx=>h.nz x (mdel_mem hx),fun q hq=>?_⟩
  rw [mget_mdel _ h.nod]
  by_cases e1:e=q
  ·subst e1
   rw [if_pos rfl]
   simp only [co,if_true,Option.getD_none]
   omega
  ·rw [if_neg (fun e2=>e1 (pad_inj (he.trans hq.symm) e2)),h.val q hq]
   simp [co,e1]
 ·rename_i hz
  refine ⟨mset_nodup h.nod,fun x hx=>?_,fun q hq=>?_⟩
  ·rcases mset_mem hx with rfl | hx
   ·exact ⟨hz,e,he,rfl⟩
   ·exact h.nz x hx
  ·rw [mget_mset]
   by_cases e1:e=q
   ·subst e1
    rw [if_pos rfl]
    simp only [co,if_true,Option.getD_some]
    omega
   ·rw [if_neg (fun e2=>e1 (pad_inj (he.trans hq.symm) e2)),h.val q hq]
    simp [co,e1]
theorem MapR.len8 {n:Nat} {es l:List (List Int×Int)} (h:MapR n es l) (hn:n<=8):mapLen 8 es:=fun x hx=>by
 obtain ⟨_,e,he,e2⟩:=h.nz x hx
 rw [e2]
 exact pad_length (by omega)
def unpadT (n:Nat) (x:List Int×Int):List Int×Int:=(x.1.take n,x.2)
theorem unpad_co {n:Nat} {es l:List (List Int×Int)} (h:MapR n es l) (hl:∀ x∈l,x.1.length=n):∀ q,co q (es.map (unpadT n))=co q l:=by
 intro q
 by_cases hq:q.length=n
 ·rw [<-h.val q hq]
  have:∀ (es:List (List Int×Int)),(es.map (·.1)).Nodup->(∀ x∈es,∃ e,e.length=n/\x.1=pad e)->co q (es.map (unpadT n))=(mget (pad q) es).getD 0:=by
   intro es
   induction es with
   | nil=>intro _ _;rfl
   | cons x es ih=>
    intro hn hp
    simp only [List.map_cons,List.nodup_cons] at hn
    obtain ⟨e,he,e2⟩:=hp x (by simp)
    have ht:(unpadT n x).1=e:=by
     simp only [unpadT]
     rw [e2,<-he]
     exact pad_take
    simp only [List.map_cons,co,mget]
    rw [ih hn.2 fun y hy=>hp y (by simp [hy]),ht]
    by_cases e3:e=q
    ·subst e3
     rw [if_pos rfl,if_pos e2,mget_none fun y hy e4=>hn.1 (by rw [e2,<-e4];exact List.mem_map.2 ⟨y,hy,rfl⟩)]
     simp [unpadT]
    ·rw [if_neg e3,if_neg (fun e4=>e3 (pad_inj (he.trans hq.symm) (e2.symm.trans e4)))]
     simp
  exact this es h.nod fun x hx=>(h.nz x hx).2
 ·rw [co_none q l fun x hx e=>hq (e ▸ hl x hx),co_none q _ fun x hx e=>hq ?_]
  obtain ⟨y,hy,rfl⟩:=List.mem_map.1 hx
  obtain ⟨_,e',he',e2⟩:=h.nz y hy
  rw [<-e]
  simp only [unpadT]
  rw [e2,<-he',pad_take]
theorem unpad_nf {n:Nat} {es l t:List (List Int×Int)} (h:MapR n es l) (hl:∀ x∈l,x.1.length=n) (hp:t.Perm (es.map (unpadT n))) (hd:Desc lexlt t):t=nf lexlt l:=by
 refine nf_unique lexOrd hd (fun x hx=>?_) fun k=>by rw [co_perm k hp,unpad_co h hl]
 obtain ⟨y,hy,rfl⟩:=List.mem_map.1 (hp.mem_iff.1 hx)
 exact (h.nz y hy).1
end Go.Proofs.Ytncfmemhjahpeaa.Ab
namespace Go.Proofs.Ytncfmemhjahpeaa.Ab
open Go
set_option maxRecDepth 10000
set_option maxHeartbeats 2000000
def DoneOk:Prop:=∀ (n:Nat) (es l:List (List Int×Int)),MapR n es l->(∀ x∈l,x.1.length=n)->1<=n->n<=8->l.length<=1000000 ->
 ACalls Try.prog F.impl_building_done [.pt (0,0) [] 0] [((0,0),.bx [D.int n,.mp es])] true (fun outs res=>outs=[.bx [D.int n,.mp es]]/\res=[.ag (fO (shutF n l).1),.one (D.bool (shutF n l).2)])
theorem pad_add {a b:List Int} (h:a.length=b.length) (k:Int):addE k (pad a) (pad b)=pad (addE k a b):=by
 unfold pad
 rw [addE_length _ _ _ h,<-h]
 generalize 8 - a.length=m
 induction a generalizing b with
 | nil=>cases b with
  | nil=>
   simp only [addE,List.nil_append]
   induction m with
   | zero=>rfl
   | succ m ih=>simp [List.replicate_succ,addE,ih]
  | cons y b=>simp at h
 | cons x a ih=>cases b with
  | nil=>simp at h
  | cons y b=>simp [addE,ih (by simpa using h)]
def absE (l:List (List Int×Int)):Nat:=(l.map fun x=>x.2.natAbs).sum
theorem co_abs (k:List Int):∀ l:List (List Int×Int),(co k l).natAbs<=absE l
 | []=>by simp [co]
 | x :: l=>by
  have:=co_abs k l
  simp only [co,absE,List.map_cons,List.sum_cons] at this ⊢
  split <;> omega
theorem nf_perm {l r:List (List Int×Int)} (h:l.Perm r):nf lexlt l=nf lexlt r:=
 nf_unique lexOrd (nf_desc lexOrd l) (nf_nz l) fun k=>by rw [nf_co,co_perm k h]
theorem shutF_perm {l r:List (List Int×Int)} (h:l.Perm r) (v:Int):shutF v l=shutF v r:=by
 unfold shutF
 rw [nf_perm h]
theorem prodL_step {a b:List (List Int×Int)} {i:Nat} (h:i < a.length):prodL (a.take (i+1)) b=prodL (a.take i) b ++ b.map fun y=>(addE 1 a[i].1 y.1,a[i].2*y.2):=by
 unfold prodL
 rw [List.take_succ_eq_append_getElem h,List.flatMap_append]
 simp
theorem absB {a i j:Nat} (h:a<=(i*600+j)*1000000000000) (hj:j<=600):a<=((i+1)*600)*1000000000000:=
 Nat.le_trans h (Nat.mul_le_mul_right _ (by omega))
theorem natAbs_bd {c:Int} (h:-1000000000000<=c/\c<=1000000000000):c.natAbs<=1000000000000:=by omega
theorem pad_bd {e:List Int} (h:∀ x∈e,-20<=x/\x<=20):∀ x∈pad e,-1000000<=x/\x<=1000000:=fun x hx=>by
 unfold pad at hx
 rcases List.mem_append.1 hx with hx | hx
 ·have:=h x hx;omega
 ·have:=List.eq_of_mem_replicate hx;omega
theorem impl_MulLaurents_c (hDone:DoneOk) (f g:Lau) (hx:f.ts.length < 4611686018427387904) (hxe:∀ t∈f.ts,t.e.length < 4611686018427387904) (hy:g.ts.length < 4611686018427387904) (hye:∀ t∈g.ts,t.e.length < 4611686018427387904):ACalls Try.prog F.impl_MulLaurents [aF f,aF g] [] true (fun outs res=>outs=[]/\WkRs res [.ag (fO (mulF f g).1),.one (D.bool (mulF f g).2)]):=by
 refine ACalls.of_body (C:=C.impl_MulLaurents) (n:=Try.f61.ntmps) tabT folT Try.func61 rfl (by kernel_rfl) rfl (Nat.le_of_ble_eq_true rfl) (by decide) (by kernel_rfl) (by kernel_rfl) rfl (by simp) (by simp) ?_
 simp only [Try.f61]
 refine wseq ?_
 refine wreg fun K hK=>?_
 simp [C.impl_MulLaurents,fS]
 refine hK _ ?_;clear hK K
 show AWp _ _ _ _ _
 refine wseq ?_
 refine wseq ?_
 refine wregI ([0,1,2] ++ ([3])) rfl fun K hK=>?_
 refine oSg fun L hL=>?_
 simp [C.impl_MulLaurents,fS]
 refine wcall1 (impl_bothOk_c f g hx hxe hy hye) (by simp) (by simp) ?_
 simp [C.impl_MulLaurents,fS]
 refine hL _ ?_;clear hL L
 refine oEn fun L hL=>?_
 simp [C.impl_MulLaurents,fS]
 refine hL _ ?_;clear hL L
 simp [C.impl_MulLaurents,fS]
 refine hK _ ?_;clear hK K
 show AWp _ _ _ _ _
 refine wcond _ rfl (fun hc1=>?_) (fun hc1=>?_)
 ·have hr:¬ (Right f/\Right g/\f.v=g.v):=by
   intro ⟨q1,q2,q3⟩
   simp [q1,q2,q3] at hc1
  have hm:mulF f g=(zeroF,false):=if_neg hr
  refine wseq ?_
  refine wreg fun K hK=>?_
  simp [C.impl_MulLaurents,fS]
  refine hK _ ?_;clear hK K
  show AWp _ _ _ _ _
  refine wret ?_
  simp [C.impl_MulLaurents,fS,hm,fO,zeroF,rows]
 ·have hr:Right f/\Right g/\f.v=g.v:=by simpa using hc1
  obtain ⟨hf,hg,hfg⟩:=hr
  have hv:=hf.1
  obtain ⟨n,hn⟩:∃ n:Nat,f.v=n:=⟨f.v.toNat,by omega⟩
  have hn2:g.v=n:=by omega
  have hn8:n<=8:=by omega
  have hfl:=hf.2.1
  have hgl:=hg.2.1
  have hm:mulF f g=shutF n (prodL (f.ts.map pr) (g.ts.map pr)):=by
   unfold mulF
   rw [if_pos ⟨hf,hg,hfg⟩,hn]
  refine wskip ?_
  show AWp _ _ _ _ _
  refine wseq ?_
  refine wregI ([0,1,2] ++ ([3])) rfl fun K hK=>?_
  refine oSg fun L hL=>?_
  simp [C.impl_MulLaurents,fS,hn]
  refine wcall1 (impl_newBuilding_c n) (by simp) (by simp) ?_
  simp [C.impl_MulLaurents,fS,hn]
  refine hL _ ?_;clear hL L
  refine oEn fun L hL=>?_
  simp [C.impl_MulLaurents,fS,hn]
  refine hL _ ?_;clear hL L
  simp [C.impl_MulLaurents,fS,hn]
  refine hK _ ?_;clear hK K
  show AWp _ _ _ _ _
  refine wseq ?_
  refine wseq ?_
  refine wreg fun K hK=>?_
  simp [C.impl_MulLaurents,fS]
  refine hK _ ?_;clear hK K
  show AWp _ _ _ _ _
  refine wblock ?_
  refine wloop (fun x:Nat×List (List Int×Int)×List (List Int×Int)=>⟨ofL [(3,.pt (3,0) [] 0),(4,.pt (4,0) [] 0),(6,.pt (6,0) [] 0),(20,.d (.sh 2 f.ts.length (rows tS f.ts))),(21,.int f.ts.length),(22,.int x.1)],ofRO [((3,0),some (.bx (fS g))),((4,0),some (.bx [D.int 0,.v (.slice none 0 0)])),((6,0),some (.bx [D.int n,.mp x.2.1]))]⟩) (fun x=>x.1<=f.ts.length/\MapR n x.2.1 x.2.2/\x.2.2.Perm (prodL ((f.ts.map pr).take x.1) (g.ts.map pr))/\x.2.2.length<=x.1*600/\absE x.2.2<=(x.1*600)*1000000000000) (fun x=>f.ts.length - x.1) (0,[],[]) (by simp [C.impl_MulLaurents,fS]) ⟨by simp,MapR.nil n,by simp [prodL],by simp,by simp [absE]⟩ ?_
  intro x1 hx1 R1 hR1
  obtain ⟨i,es,l⟩:=x1
  obtain ⟨hi,hM,hP,hL,hA⟩:=hx1
  dsimp only at hi hM hP hL hA ⊢
  refine wseq ?_
  refine wreg fun K hK=>?_
  simp [C.impl_MulLaurents,fS]
  refine hK _ ?_;clear hK K
  show AWp _ _ _ _ _
  refine wseq ?_
  refine wcond _ rfl (fun hc2=>?_) (fun hc2=>?_)
  ·have hif:i < f.ts.length:=by have:=d_t hc2;omega
   have hT:=right_dig hf hn _ (List.getElem_mem hif)
   refine wskip ?_
   show AWp _ _ _ _ _
   refine wseq ?_
   refine wblock ?_
   refine wseq ?_
   refine wreg fun K hK=>?_
   simp [C.impl_MulLaurents,fS,hif,tS_0 hif,tS_1 hif]
   refine hK _ ?_;clear hK K
   show AWp _ _ _ _ _
   refine wseq ?_
   refine wreg fun K hK=>?_
   simp [C.impl_MulLaurents,fS]
   refine hK _ ?_;clear hK K
   show AWp _ _ _ _ _
   refine wblock ?_
   refine wloop (fun x:Nat×List (List Int×Int)×List (List Int×Int)=>⟨ofL [(3,.pt (3,0) [] 0),(4,.pt (4,0) [] 0),(6,.pt (6,0) [] 0),(8,.pt (8,0) [] 0),(20,.d (.sh 2 f.ts.length (rows tS f.ts))),(21,.int f.ts.length),(22,.int i),(27,.d (.sh 2 g.ts.length (rows tS g.ts))),(28,.int g.ts.length),(29,.int x.1)],ofRO [((3,0),some (.bx (fS g))),((4,0),some (.bx [D.int 0,.v (.slice none 0 0)])),((6,0),some (.bx [D.int n,.mp x.2.1])),((8,0),some (.bx (tS f.ts[i])))]⟩) (fun x=>x.1<=g.ts.length/\MapR n x.2.1 x.2.2/\x.2.2.Perm (prodL ((f.ts.map pr).take i) (g.ts.map pr) ++ ((g.ts.map pr).take x.1).map fun y=>(addE 1 f.ts[i].e y.1,f.ts[i].c*y.2))/\x.2.2.length<=i*600+x.1/\absE x.2.2<=(i*600+x.1)*1000000000000) (fun x=>g.ts.length - x.1) (0,es,l) (by simp [C.impl_MulLaurents,fS,tS]) ⟨by simp,hM,by simpa using hP,by dsimp only;omega,by dsimp only;omega⟩ ?_
   intro x2 hx2 R2 hR2
   obtain ⟨j,es2,l2⟩:=x2
   obtain ⟨hj,hM2,hP2,hL2,hA2⟩:=hx2
   dsimp only at hj hM2 hP2 hL2 hA2 ⊢
   refine wseq ?_
   refine wreg fun K hK=>?_
   simp [C.impl_MulLaurents,fS]
   refine hK _ ?_;clear hK K
   show AWp _ _ _ _ _
   refine wseq ?_
   refine wcond _ rfl (fun hc3=>?_) (fun hc3=>?_)
   ·have hjg:j < g.ts.length:=by have:=d_t hc3;omega
    have hU:=right_dig hg hn2 _ (List.getElem_mem hjg)
    refine wskip ?_
    show AWp _ _ _ _ _
    refine wseq ?_
    refine wblock ?_
    refine wseq ?_
    refine wreg fun K hK=>?_
    simp [C.impl_MulLaurents,fS,hjg,tS_0 hjg,tS_1 hjg]
    refine hK _ ?_;clear hK K
    show AWp _ _ _ _ _
    obtain ⟨a0,a1,a2,a3,a4,a5,a6,a7,hpa⟩:=eight (pad_length (e:=f.ts[i].e) (by omega))
    obtain ⟨b0,b1,b2,b3,b4,b5,b6,b7,hpb⟩:=eight (pad_length (e:=g.ts[j].e) (by omega))
    have hba:=pad_bd hT.2.2.1
    have hbb:=pad_bd hU.2.2.1
    rw [hpa] at hba
    rw [hpb] at hbb
    have hadd:[a0+b0,a1+b1,a2+b2,a3+b3,a4+b4,a5+b5,a6+b6,a7+b7]=pad (addE 1 f.ts[i].e g.ts[j].e):=by
     rw [<-pad_add (by omega),hpa,hpb]
     simp [addE]
    have hel:(addE 1 f.ts[i].e g.ts[j].e).length=n:=by rw [addE_length _ _ _ (by omega)];omega
    have hcc:=mul_bd hT.2.2.2 hU.2.2.2
    have hval:=hM2.val _ hel
    have hco:=co_abs (addE 1 f.ts[i].e g.ts[j].e) l2
    refine wdrawI [(true,0),(true,1),(true,2),(true,4),(true,5),(true,8),(true,9),(true,10),(true,11),(true,12),(false,3),(false,6),(false,7),(false,13)] ⟨by kernel_rfl,by kernel_rfl⟩ ([0,1,2,4,5,8,9,10,11,12,3] ++ ([6] ++ ([7] ++ ([13] ++ ([]))))) rfl fun K hK=>?_
    refine oSg fun L hL=>?_
    simp [C.impl_MulLaurents,fS,tS,wrapOk (x:=f.ts[i].c*g.ts[j].c) (by omega) (by omega)]
    refine wcall1 (impl_keyOf_c f.ts[i].e (by omega) a0 a1 a2 a3 a4 a5 a6 a7 hpa) (by simp) (by simp) ?_
    simp [C.impl_MulLaurents,fS,tS,wrapOk (x:=f.ts[i].c*g.ts[j].c) (by omega) (by omega)]
    refine hL _ ?_;clear hL L
    refine oSg fun L hL=>?_
    simp [C.impl_MulLaurents,fS,tS,wrapOk (x:=f.ts[i].c*g.ts[j].c) (by omega) (by omega)]
    refine wcall1 (impl_keyOf_c g.ts[j].e (by omega) b0 b1 b2 b3 b4 b5 b6 b7 hpb) (by simp) (by simp) ?_
    simp [C.impl_MulLaurents,fS,tS,wrapOk (x:=f.ts[i].c*g.ts[j].c) (by omega) (by omega)]
    refine hL _ ?_;clear hL L
    refine oSg fun L hL=>?_
    simp [C.impl_MulLaurents,fS,tS,wrapOk (x:=f.ts[i].c*g.ts[j].c) (by omega) (by omega)]
    refine wcall1 (impl_plusExp_c 1 a0 a1 a2 a3 a4 a5 a6 a7 b0 b1 b2 b3 b4 b5 b6 b7 (by omega) hba hbb) (by simp) (by simp) ?_
    simp [C.impl_MulLaurents,fS,tS,wrapOk (x:=f.ts[i].c*g.ts[j].c) (by omega) (by omega)]
    refine hL _ ?_;clear hL L
    refine oSg fun L hL=>?_
    simp [C.impl_MulLaurents,fS,tS,wrapOk (x:=f.ts[i].c*g.ts[j].c) (by omega) (by omega)]
    refine wcall1 (impl_building_add_c n (f.ts[i].c*g.ts[j].c) es2 (a0+1*b0) (a1+1*b1) (a2+1*b2) (a3+1*b3) (a4+1*b4) (a5+1*b5) (a6+1*b6) (a7+1*b7) (hM2.len8 hn8) (by simp only [Int.one_mul];rw [hadd,hval];omega)) (by simp) (by simp) ?_
    simp [C.impl_MulLaurents,fS,tS,wrapOk (x:=f.ts[i].c*g.ts[j].c) (by omega) (by omega)]
    refine hL _ ?_;clear hL L
    refine oEn fun L hL=>?_
    simp only [AOpsI]
    refine hL _ ?_;clear hL L
    simp [C.impl_MulLaurents,fS,tS,wrapOk (x:=f.ts[i].c*g.ts[j].c) (by omega) (by omega)]
    rw [hadd]
    refine hK _ ?_;clear hK K
    show AWp _ _ _ _ _
    refine wreg fun K hK=>?_
    simp [C.impl_MulLaurents,fS,wrap_succ (show j < 4611686018427387904 by omega)]
    refine hK _ ?_;clear hK K
    simp [C.impl_MulLaurents,fS]
    refine hR2 (j+1,_,(addE 1 f.ts[i].e g.ts[j].e,f.ts[i].c*g.ts[j].c) :: l2) ⟨hjg,hM2.add hel _,?_,by dsimp only [List.length_cons];omega,?_⟩ (by dsimp only;omega)
    ·dsimp only
     rw [List.take_succ_eq_append_getElem (by simpa using hjg),List.map_append,<-List.append_assoc]
     refine (List.Perm.cons _ hP2).trans ?_
     simp only [List.getElem_map,List.map_cons,List.map_nil,pr]
     exact (List.perm_append_singleton _ _).symm
    ·have:=natAbs_bd hcc
     simp only [absE,List.map_cons,List.sum_cons] at hA2 ⊢
     omega
   ·have hjg:j=g.ts.length:=by have:=d_f hc3;omega
    refine wexit ?_
    show AWp _ _ _ _ _
    refine wreg fun K hK=>?_
    simp [C.impl_MulLaurents,fS,wrap_succ (show i < 4611686018427387904 by omega)]
    refine hK _ ?_;clear hK K
    simp [C.impl_MulLaurents,fS]
    refine hR1 (i+1,es2,l2) ⟨hif,hM2,?_,by dsimp only;omega,absB hA2 (by omega)⟩ (by dsimp only;omega)
    dsimp only
    rw [prodL_step (by simpa using hif)]
    refine hP2.trans (List.Perm.of_eq ?_)
    rw [List.take_of_length_le (l:=g.ts.map pr) (by simp;omega)]
    simp [pr]
  ·have hif:i=f.ts.length:=by have:=d_f hc2;omega
   have hall:l.Perm (prodL (f.ts.map pr) (g.ts.map pr)):=by
    rw [List.take_of_length_le (l:=f.ts.map pr) (by simp;omega)] at hP
    exact hP
   have hlen:∀ x∈l,x.1.length=n:=fun x hx=>by
    have:=hall.subset hx
    simp only [prodL,List.mem_flatMap,List.mem_map] at this
    obtain ⟨a,⟨t,ht,rfl⟩,b,⟨u,hu,rfl⟩,rfl⟩:=this
    have h1:=right_dig hf hn t ht
    have h2:=right_dig hg hn2 u hu
    simp only [pr]
    rw [addE_length _ _ _ (by omega)]
    omega
   have hs:=shutF_perm hall n
   refine wexit ?_
   show AWp _ _ _ _ _
   refine wseq ?_
   refine wregI ([0,1] ++ ([2,3,4,5])) rfl fun K hK=>?_
   refine oSg fun L hL=>?_
   simp [C.impl_MulLaurents,fS,fO]
   refine wcall1 (hDone n es l hM hlen (by omega) hn8 (by omega)) (by simp) (by simp) ?_
   simp [C.impl_MulLaurents,fS,fO]
   refine hL _ ?_;clear hL L
   refine oEn fun L hL=>?_
   simp [C.impl_MulLaurents,fS,fO]
   refine hL _ ?_;clear hL L
   simp [C.impl_MulLaurents,fS,fO]
   refine hK _ ?_;clear hK K
   show AWp _ _ _ _ _
   refine wret ?_
   simp [C.impl_MulLaurents,fS,hm,<-hs,fO]
theorem iMul_c (hDone:DoneOk):MulOk:=fun f g hx hxe hy hye=>(impl_MulLaurents_c hDone f g hx hxe hy hye).weak1
end Go.Proofs.Ytncfmemhjahpeaa.Ab
namespace Go.Proofs.Ytncfmemhjahpeaa.Ab
open Go
set_option maxRecDepth 10000
set_option maxHeartbeats 2000000
def SmallF (g:Lau):Prop:=g.ts.length<=600/\(∀ t∈g.ts,t.e.length<=8)/\cntL cntT g.ts<=5400
theorem small_right {g:Lau} (h:Right g):SmallF g:=by
 have he:∀ t∈g.ts,t.e.length<=8:=fun t ht=>by have:=(h.2.2.1 t ht).1;have:=h.1;omega
 refine ⟨h.2.1,he,?_⟩
 have:∀ ts:List Trm,(∀ t∈ts,t.e.length<=8)->cntL cntT ts<=ts.length*9:=fun ts=>by
  induction ts with
  | nil=>intro _;simp [cntL]
  | cons x ts ih=>
   intro h
   have h1:=h x (by simp)
   have h2:=ih fun y hy=>h y (by simp [hy])
   simp only [cntL,cntT,List.length_cons]
   omega
 have h2:=this g.ts he
 have:=h.2.1
 omega
theorem small_zero:SmallF zeroF:=by simp [SmallF,zeroF,cntL]
end Go.Proofs.Ytncfmemhjahpeaa.Ab
namespace Go.Proofs.Ytncfmemhjahpeaa.Ab
open Go
set_option maxRecDepth 10000
set_option maxHeartbeats 1000000
abbrev aM (m:Mat):FV:=.ag [.int m.n,.int m.r,.d (shI m.d)]
abbrev aS (s:Sed):FV:=.ag [.int s.m.n,.int s.m.r,.d (shI s.m.d),.d (.sh 2 s.f.length (rows fS s.f))]
def SmF (f:Lau):Prop:=f.ts.length < 4611686018427387904/\∀ t∈f.ts,t.e.length < 4611686018427387904
end Go.Proofs.Ytncfmemhjahpeaa.Ab
namespace Go.Proofs.Ytncfmemhjahpeaa.Ab
open Go
set_option maxRecDepth 10000
set_option maxHeartbeats 2000000
def unitL (n i:Nat):List Int:=(List.replicate n 0).set i 1
theorem unitL_length (n i:Nat):(unitL n i).length=n:=by simp [unitL]
noncomputable def monoF (e:List Int):Lau:=if Right ⟨e.length,[⟨e,1⟩]⟩ then ⟨e.length,[⟨e,1⟩]⟩ else zeroF
noncomputable def varsL (r:Nat):List Lau:=(List.range r).map fun i=>monoF (unitL r i)
theorem fO_snoc (l:List Lau) (f:Lau):rows fO l ++ [D.v (.int .i64 f.v),D.ow 2 f.ts.length (rows tO f.ts)]=rows fO (l ++ [f]):=by
 rw [rows_append]
 rfl
theorem mono_right {e:List Int}:Right ⟨e.length,[⟨e,1⟩]⟩↔(1<=(e.length:Int)/\(e.length:Int)<=8)/\okE e e.length=true:=by
 rw [okE_iff]
 unfold Right Good DescT
 simp
theorem impl_unit_c (n i:Nat) (hn:n<=8) (hi:i < n):ACalls Try.prog F.impl_unit [.int n,.int i] [] true (fun outs res=>outs=[]/\res=[.one (owI (unitL n i))]):=by
 refine ACalls.of_body (C:=C.impl_unit) (n:=Try.f41.ntmps) tabT folT Try.func41 rfl (by kernel_rfl) rfl (Nat.le_of_ble_eq_true rfl) (by decide) (by kernel_rfl) (by kernel_rfl) rfl (by simp) (by simp) ?_
 simp only [Try.f41]
 refine wseq ?_
 refine wreg fun K hK=>?_
 simp [C.impl_unit]
 refine hK _ ?_;clear hK K
 show AWp _ _ _ _ _
 refine wseq ?_
 refine wreg fun K hK=>?_
 simp [C.impl_unit,zeros_ints,show (8:Int)*n<=281474976710656 by omega,show (n:Int)<=281474976710656 by omega]
 refine hK _ ?_;clear hK K
 show AWp _ _ _ _ _
 refine wseq ?_
 refine wreg fun K hK=>?_
 simp [C.impl_unit,hi]
 refine hK _ ?_;clear hK K
 show AWp _ _ _ _ _
 refine wseq ?_
 refine wreg fun K hK=>?_
 simp [C.impl_unit]
 refine hK _ ?_;clear hK K
 show AWp _ _ _ _ _
 refine wret ?_
 simp [C.impl_unit,unitL]
theorem impl_MonomialLaurent_c (e:List Int) (hx:e.length < 17592186044416):ACalls Try.prog F.impl_MonomialLaurent [.d (shI e)] [] true (fun outs res=>outs=[]/\WkRs res [.ag (fO (monoF e))]):=by
 refine ACalls.of_body (C:=C.impl_MonomialLaurent) (n:=Try.f40.ntmps) tabT folT Try.func40 rfl (by kernel_rfl) rfl (Nat.le_of_ble_eq_true rfl) (by decide) (by kernel_rfl) (by kernel_rfl) rfl (by simp) (by simp) ?_
 simp only [Try.f40]
 refine wseq ?_
 refine wreg fun K hK=>?_
 simp [C.impl_MonomialLaurent]
 refine hK _ ?_;clear hK K
 show AWp _ _ _ _ _
 refine wseq ?_
 refine wseq ?_
 refine wregI ([0,1,2] ++ ([3,4,5,6,7,8] ++ ([9,10]))) rfl fun K hK=>?_
 have hJ:K ⟨ofL [(0,.d (shI e)),(2,.pt (2,0) [] 0),(13,.bool (!decide ((1<=(e.length:Int)/\(e.length:Int)<=8)/\okE e e.length=true)))],ofRO [((2,0),some (.bx [D.int 0,.v (.slice none 0 0)]))]⟩:=by
  refine hK _ ?_;clear hK K
  show AWp _ _ _ _ _
  refine wcond _ rfl (fun hc1=>?_) (fun hc1=>?_)
  ·have hr:¬ Right ⟨e.length,[⟨e,1⟩]⟩:=fun h=>nd_t hc1 (mono_right.1 h)
   refine wseq ?_
   refine wreg fun K hK=>?_
   simp [C.impl_MonomialLaurent]
   refine hK _ ?_;clear hK K
   show AWp _ _ _ _ _
   refine wret ?_
   simp [C.impl_MonomialLaurent,monoF,hr,fO,zeroF,rows]
  ·have hr:Right ⟨e.length,[⟨e,1⟩]⟩:=mono_right.2 (nd_f hc1)
   refine wskip ?_
   show AWp _ _ _ _ _
   refine wseq ?_
   refine wregI ([0,1,2,3] ++ ([4,5,6,7])) rfl fun K hK=>?_
   refine oSg fun L hL=>?_
   simp [C.impl_MonomialLaurent]
   refine wcall1 (clone_c e hx) (by simp) (by simp) ?_
   simp [C.impl_MonomialLaurent]
   refine hL _ ?_;clear hL L
   refine oEn fun L hL=>?_
   simp [C.impl_MonomialLaurent]
   refine hL _ ?_;clear hL L
   simp [C.impl_MonomialLaurent]
   refine hK _ ?_;clear hK K
   show AWp _ _ _ _ _
   refine wret ?_
   simp [C.impl_MonomialLaurent,monoF,hr,fO,rows,tO]
 clear hK
 by_cases ha:1<=(e.length:Int)/\(e.length:Int)<=8
 ·refine oSg fun L hL=>?_
  simp [C.impl_MonomialLaurent,ha]
  refine wcall1 (impl_within_c e.length 1 8) (by simp) (by simp) ?_
  simp [C.impl_MonomialLaurent,ha]
  refine hL _ ?_;clear hL L
  refine oSg fun L hL=>?_
  simp [C.impl_MonomialLaurent,ha]
  refine wcall1 (impl_expOk_c e e.length (by omega)) (by simp) (by simp) ?_
  simp [C.impl_MonomialLaurent,ha]
  refine hL _ ?_;clear hL L
  refine oEn fun L hL=>?_
  simp [C.impl_MonomialLaurent,ha]
  refine hL _ ?_;clear hL L
  simp [C.impl_MonomialLaurent,ha]
  refine cast (congrArg K ?_) hJ
  simp [Bool.not_and,ha]
 ·refine oSg fun L hL=>?_
  simp [C.impl_MonomialLaurent,ha]
  refine wcall1 (impl_within_c e.length 1 8) (by simp) (by simp) ?_
  simp [C.impl_MonomialLaurent,ha]
  refine hL _ ?_;clear hL L
  refine oSg fun L hL=>?_
  simp [C.impl_MonomialLaurent,ha]
  refine hL _ ?_;clear hL L
  refine oEn fun L hL=>?_
  simp [C.impl_MonomialLaurent,ha]
  refine hL _ ?_;clear hL L
  simp [C.impl_MonomialLaurent,ha]
  refine cast (congrArg K ?_) hJ
  simp [Bool.not_and,ha]
theorem iMono_c (e:List Int) (hx:e.length < 17592186044416):ACalls Try.prog F.impl_MonomialLaurent [.d (shI e)] [] true (fun outs res=>outs=[]/\res=[.ag (fO (monoF e))]):=(impl_MonomialLaurent_c e hx).weak1
abbrev m0:Mat:=⟨2,2,[0,1,-1,0]⟩
noncomputable abbrev z0:Ses:=⟨m0,[],⟨m0,varsL 2⟩⟩
theorem impl_InitialSeed_c (n:Int) (r:Nat) (d:List Int) (hr:r<=8) (hx:d.length < 17592186044416) (hok:ACalls Try.prog F.impl_MatrixOk [.ag [.int n,.int r,.d (shI d)]] [] true (fun outs res=>outs=[]/\res=[.one (D.bool true)])):ACalls Try.prog F.impl_InitialSeed [.ag [.int n,.int r,.d (shI d)]] [] true (fun outs res=>outs=[]/\res=[.ag (sO ⟨⟨n,r,d⟩,varsL r⟩),.one (D.bool true)]):=by
 refine ACalls.of_body (C:=C.impl_InitialSeed) (n:=Try.f14.ntmps) tabT folT Try.func14 rfl (by kernel_rfl) rfl (Nat.le_of_ble_eq_true rfl) (by decide) (by kernel_rfl) (by kernel_rfl) rfl (by simp) (by simp) ?_
 simp only [Try.f14]
 refine wseq ?_
 refine wreg fun K hK=>?_
 simp [C.impl_InitialSeed]
 refine hK _ ?_;clear hK K
 show AWp _ _ _ _ _
 refine wseq ?_
 refine wseq ?_
 refine wregI ([0,1] ++ ([2])) rfl fun K hK=>?_
 refine oSg fun L hL=>?_
 simp [C.impl_InitialSeed]
 refine wcall1 (hok) (by simp) (by simp) ?_
 simp [C.impl_InitialSeed]
 refine hL _ ?_;clear hL L
 refine oEn fun L hL=>?_
 simp [C.impl_InitialSeed]
 refine hL _ ?_;clear hL L
 simp [C.impl_InitialSeed]
 refine hK _ ?_;clear hK K
 show AWp _ _ _ _ _
 refine wcond _ rfl (fun hc1=>?_) (fun hc1=>?_)
 ·simp at hc1
 ·refine wskip ?_
  show AWp _ _ _ _ _
  refine wseq ?_
  refine wdraw (.take 0 (.take 1 (.take 2 (.take 3 (.take 4 (.take 5 (.all [(6,.take 7 (.take 8 (.all [(9,.all [(10,.done)])]))),(9,.all [(6,.take 7 (.take 8 (.all [(10,.done)])))])]))))))) ⟨by kernel_rfl,by kernel_rfl⟩ fun K hK=>?_
  have hJ:K ⟨ofL [(1,.pt (1,0) [] 0),(2,.pt (2,0) [] 0),(4,.pt (4,0) [] 0)],ofRO [((1,0),some (.bx [D.int n,D.int r,shI d])),((2,0),some (.bx [D.int 0,D.int 0,.v (.slice none 0 0),.v (.slice none 0 0)])),((4,0),some (.bx [D.int n,D.int r,owI d,.v (.slice none 0 0)]))]⟩:=by
   refine hK _ ?_;clear hK K
   show AWp _ _ _ _ _
   refine wseq ?_
   refine wseq ?_
   refine wreg fun K hK=>?_
   simp [C.impl_InitialSeed]
   refine hK _ ?_;clear hK K
   show AWp _ _ _ _ _
   refine wblock ?_
   refine wloopW (fun x:Nat×List Lau=>⟨ofL [(1,.pt (1,0) [] 0),(2,.pt (2,0) [] 0),(4,.pt (4,0) [] 0),(5,.int x.1)],ofRO [((1,0),some (.bx [D.int n,D.int r,shI d])),((2,0),some (.bx [D.int 0,D.int 0,.v (.slice none 0 0),.v (.slice none 0 0)])),((4,0),some (.bx [D.int n,D.int r,owI d,.ow 2 x.1 (rows fO x.2)]))]⟩) (fun x=>x.1<=r/\x.2=(List.range x.1).map fun i=>monoF (unitL r i)) (fun x=>r - x.1) (0,[]) [.cell (4,0) [] 3 2] (by simp [C.impl_InitialSeed,rows];(first | (constructor <;> funext t) | funext t) <;> simp only [ofL,ofRO] <;> (repeat' (first | rfl | split)) <;> simp_all) (by simp) ?_
   intro x1 hx1 R1 hR1
   obtain ⟨j,gs⟩:=x1
   obtain ⟨hj,hg⟩:=hx1
   dsimp only at hj hg ⊢
   refine wseq ?_
   refine wseq ?_
   refine wreg fun K hK=>?_
   simp [C.impl_InitialSeed]
   refine hK _ ?_;clear hK K
   show AWp _ _ _ _ _
   refine wcond _ rfl (fun hc2=>?_) (fun hc2=>?_)
   ·have h1:j < r:=by have:=d_t hc2;omega
    have hgl:gs.length=j:=by rw [hg];simp
    refine wskip ?_
    show AWp _ _ _ _ _
    refine wseq ?_
    refine wblock ?_
    refine wdrawI [(true,0),(true,1),(true,2),(true,3),(true,4),(false,5),(false,6),(false,7),(false,8),(true,9),(false,10)] ⟨by kernel_rfl,by kernel_rfl⟩ ([0,1,2,3,4,5] ++ ([6] ++ ([7,8,9,10]))) rfl fun K hK=>?_
    refine oSg fun L hL=>?_
    simp [C.impl_InitialSeed,fO,fO_snoc,show (j+1)*32<=140737488355328 by omega]
    refine wcall1 (impl_unit_c r j hr h1) (by simp) (by simp) ?_
    simp [C.impl_InitialSeed,fO,fO_snoc,show (j+1)*32<=140737488355328 by omega]
    refine hL _ ?_;clear hL L
    refine oSg fun L hL=>?_
    simp [C.impl_InitialSeed,fO,fO_snoc,show (j+1)*32<=140737488355328 by omega]
    refine wcall1 (iMono_c (unitL r j) (by rw [unitL_length];omega)) (by simp) (by simp) ?_
    simp [C.impl_InitialSeed,fO,fO_snoc,show (j+1)*32<=140737488355328 by omega]
    refine hL _ ?_;clear hL L
    refine oEn fun L hL=>?_
    simp [C.impl_InitialSeed,fO,fO_snoc,show (j+1)*32<=140737488355328 by omega]
    refine hL _ ?_;clear hL L
    simp [C.impl_InitialSeed,fO,fO_snoc,show (j+1)*32<=140737488355328 by omega]
    refine hK _ ?_;clear hK K
    show AWp _ _ _ _ _
    refine wreg fun K hK=>?_
    simp [C.impl_InitialSeed,wrap_succ (show j < 4611686018427387904 by omega)]
    refine hK _ ?_;clear hK K
    simp [C.impl_InitialSeed]
    refine hR1 (j+1,_) ⟨h1,?_⟩ (by dsimp only;omega)
    dsimp only
    rw [hg,List.range_succ,List.map_append]
    rfl
   ·have h1:j=r:=by have:=d_f hc2;omega
    subst h1
    refine wexit ?_
    show AWp _ _ _ _ _
    refine wseq ?_
    refine wreg fun K hK=>?_
    simp [C.impl_InitialSeed]
    refine hK _ ?_;clear hK K
    show AWp _ _ _ _ _
    refine wret ?_
    simp [C.impl_InitialSeed,hg,sO,varsL]
  clear hK
  simp [C.impl_InitialSeed]
  refine ⟨?_,?_⟩
  ·refine wcall1 (clone_c d hx) (by simp) (by simp) ?_
   simp [C.impl_InitialSeed]
   exact hJ
  ·refine wcall1 (clone_c d hx) (by simp) (by simp) ?_
   simp [C.impl_InitialSeed]
   exact hJ
theorem impl_copyLaurent_c (f:Lau) (hl:f.ts.length<=1000000) (he:∀ t∈f.ts,t.e.length < 17592186044416):ACalls Try.prog F.impl_copyLaurent [aF f] [] true (fun outs res=>outs=[]/\res=[.ag (fO f)]):=by
 refine ACalls.of_body (C:=C.impl_copyLaurent) (n:=Try.f77.ntmps) tabT folT Try.func77 rfl (by kernel_rfl) rfl (Nat.le_of_ble_eq_true rfl) (by decide) (by kernel_rfl) (by kernel_rfl) rfl (by simp) (by simp) ?_
 simp only [Try.f77]
 refine wseq ?_
 refine wreg fun K hK=>?_
 simp [C.impl_copyLaurent]
 refine hK _ ?_;clear hK K
 show AWp _ _ _ _ _
 refine wseq ?_
 refine wreg fun K hK=>?_
 simp [C.impl_copyLaurent]
 refine hK _ ?_;clear hK K
 show AWp _ _ _ _ _
 refine wseq ?_
 refine wseq ?_
 refine wreg fun K hK=>?_
 simp [C.impl_copyLaurent]
 refine hK _ ?_;clear hK K
 show AWp _ _ _ _ _
 refine wblock ?_
 refine wloopW (fun x:Nat×List Trm=>⟨ofL [(2,.pt (2,0) [] 0),(3,.pt (3,0) [] 0),(10,.d (.sh 2 f.ts.length (rows tS f.ts))),(11,.int f.ts.length),(12,.int x.1)],ofRO [((2,0),some (.bx [D.int 0,.v (.slice none 0 0)])),((3,0),some (.bx [D.int f.v,.ow 2 x.1 (rows tO x.2)]))]⟩) (fun x=>x.1<=f.ts.length/\x.2=f.ts.take x.1) (fun x=>f.ts.length - x.1) (0,[]) [.cell (3,0) [] 1 2] (by simp [C.impl_copyLaurent,rows];(first | (constructor <;> funext t) | funext t) <;> simp only [ofL,ofRO] <;> (repeat' (first | rfl | split)) <;> simp_all) (by simp) ?_
 intro x1 hx1 R1 hR1
 obtain ⟨j,gs⟩:=x1
 obtain ⟨hj,hg⟩:=hx1
 dsimp only at hj hg ⊢
 refine wseq ?_
 refine wreg fun K hK=>?_
 simp [C.impl_copyLaurent]
 refine hK _ ?_;clear hK K
 show AWp _ _ _ _ _
 refine wseq ?_
 refine wcond _ rfl (fun hc1=>?_) (fun hc1=>?_)
 ·have h1:j < f.ts.length:=by have:=d_t hc1;omega
  have hgl:gs.length=j:=by rw [hg];simp;omega
  refine wskip ?_
  show AWp _ _ _ _ _
  refine wseq ?_
  refine wblock ?_
  refine wseq ?_
  refine wreg fun K hK=>?_
  simp [C.impl_copyLaurent,h1,tS_0 h1,tS_1 h1]
  refine hK _ ?_;clear hK K
  show AWp _ _ _ _ _
  refine wdrawI [(true,0),(true,1),(true,2),(true,3),(true,5),(true,6),(false,4),(true,7),(false,8),(false,9),(true,10),(false,11)] ⟨by kernel_rfl,by kernel_rfl⟩ ([0,1,2,3,5,6,4] ++ ([7,8,9,10,11])) rfl fun K hK=>?_
  refine oSg fun L hL=>?_
  simp [C.impl_copyLaurent,h1,tO_snoc,show (j+1)*32<=140737488355328 by omega]
  refine wcall1 (clone_c f.ts[j].e (he _ (List.getElem_mem h1))) (by simp) (by simp) ?_
  simp [C.impl_copyLaurent,h1,tO_snoc,show (j+1)*32<=140737488355328 by omega]
  refine hL _ ?_;clear hL L
  refine oEn fun L hL=>?_
  simp [C.impl_copyLaurent,h1,tO_snoc,show (j+1)*32<=140737488355328 by omega]
  refine hL _ ?_;clear hL L
  simp [C.impl_copyLaurent,h1,tO_snoc,show (j+1)*32<=140737488355328 by omega]
  refine hK _ ?_;clear hK K
  show AWp _ _ _ _ _
  refine wreg fun K hK=>?_
  simp [C.impl_copyLaurent,wrap_succ (show j < 4611686018427387904 by omega)]
  refine hK _ ?_;clear hK K
  simp [C.impl_copyLaurent]
  refine hR1 (j+1,_) ⟨h1,?_⟩ (by dsimp only;omega)
  dsimp only
  rw [hg,List.take_succ_eq_append_getElem h1]
 ·have h1:j=f.ts.length:=by have:=d_f hc1;omega
  refine wexit ?_
  show AWp _ _ _ _ _
  refine wseq ?_
  refine wreg fun K hK=>?_
  simp [C.impl_copyLaurent]
  refine hK _ ?_;clear hK K
  show AWp _ _ _ _ _
  refine wret ?_
  simp [C.impl_copyLaurent,hg,h1,fO]
theorem impl_copySeed_c (s:Sed) (hx:s.m.d.length < 17592186044416) (hl:s.f.length<=1000000) (hf:∀ f∈s.f,f.ts.length<=1000000/\∀ t∈f.ts,t.e.length < 17592186044416):ACalls Try.prog F.impl_copySeed [aS s] [] true (fun outs res=>outs=[]/\res=[.ag (sO s)]):=by
 refine ACalls.of_body (C:=C.impl_copySeed) (n:=Try.f47.ntmps) tabT folT Try.func47 rfl (by kernel_rfl) rfl (Nat.le_of_ble_eq_true rfl) (by decide) (by kernel_rfl) (by kernel_rfl) rfl (by simp) (by simp) ?_
 simp only [Try.f47]
 refine wseq ?_
 refine wreg fun K hK=>?_
 simp [C.impl_copySeed,sS]
 refine hK _ ?_;clear hK K
 show AWp _ _ _ _ _
 refine wseq ?_
 refine wdraw (.take 0 (.take 1 (.take 2 (.take 3 (.take 4 (.take 5 (.take 6 (.take 7 (.take 8 (.all [(9,.take 10 (.take 11 (.all [(12,.all [(13,.done)])]))),(12,.all [(9,.take 10 (.take 11 (.all [(13,.done)])))])])))))))))) ⟨by kernel_rfl,by kernel_rfl⟩ fun K hK=>?_
 have hJ:K ⟨ofL [(1,.pt (1,0) [] 0),(2,.pt (2,0) [] 0),(3,.pt (3,0) [] 0)],ofRO [((1,0),some (.bx (sS s))),((2,0),some (.bx [D.int 0,D.int 0,.v (.slice none 0 0),.v (.slice none 0 0)])),((3,0),some (.bx [D.int s.m.n,D.int s.m.r,owI s.m.d,.v (.slice none 0 0)]))]⟩:=by
  refine hK _ ?_;clear hK K
  show AWp _ _ _ _ _
  refine wseq ?_
  refine wseq ?_
  refine wreg fun K hK=>?_
  simp [C.impl_copySeed,sS]
  refine hK _ ?_;clear hK K
  show AWp _ _ _ _ _
  refine wblock ?_
  refine wloopW (fun x:Nat×List Lau=>⟨ofL [(2,.pt (2,0) [] 0),(3,.pt (3,0) [] 0),(19,.d (.sh 2 s.f.length (rows fS s.f))),(20,.int s.f.length),(21,.int x.1)],ofRO [((2,0),some (.bx [D.int 0,D.int 0,.v (.slice none 0 0),.v (.slice none 0 0)])),((3,0),some (.bx [D.int s.m.n,D.int s.m.r,owI s.m.d,.ow 2 x.1 (rows fO x.2)]))]⟩) (fun x=>x.1<=s.f.length/\x.2=s.f.take x.1) (fun x=>s.f.length - x.1) (0,[]) [.cell (3,0) [] 3 2] (by simp [C.impl_copySeed,rows];(first | (constructor <;> funext t) | funext t) <;> simp only [ofL,ofRO] <;> (repeat' (first | rfl | split)) <;> simp_all) (by simp) ?_
  intro x1 hx1 R1 hR1
  obtain ⟨j,gs⟩:=x1
  obtain ⟨hj,hg⟩:=hx1
  dsimp only at hj hg ⊢
  refine wseq ?_
  refine wreg fun K hK=>?_
  simp [C.impl_copySeed,sS]
  refine hK _ ?_;clear hK K
  show AWp _ _ _ _ _
  refine wseq ?_
  refine wcond _ rfl (fun hc1=>?_) (fun hc1=>?_)
  ·have h1:j < s.f.length:=by have:=d_t hc1;omega
   have hgl:gs.length=j:=by rw [hg];simp;omega
   refine wskip ?_
   show AWp _ _ _ _ _
   refine wseq ?_
   refine wblock ?_
   refine wseq ?_
   refine wreg fun K hK=>?_
   simp [C.impl_copySeed,sS,h1,fS_0 h1,fS_1 h1]
   refine hK _ ?_;clear hK K
   show AWp _ _ _ _ _
   refine wdrawI [(true,0),(true,1),(true,2),(false,3),(false,4),(false,5),(true,6),(false,7)] ⟨by kernel_rfl,by kernel_rfl⟩ ([0,1,2,3] ++ ([4,5,6,7])) rfl fun K hK=>?_
   refine oSg fun L hL=>?_
   simp [C.impl_copySeed,sS,h1,fO,fO_snoc,show (j+1)*32<=140737488355328 by omega]
   refine wcall1 (impl_copyLaurent_c s.f[j] (hf _ (List.getElem_mem h1)).1 (hf _ (List.getElem_mem h1)).2) (by simp) (by simp) ?_
   simp [C.impl_copySeed,sS,h1,fO,fO_snoc,show (j+1)*32<=140737488355328 by omega]
   refine hL _ ?_;clear hL L
   refine oEn fun L hL=>?_
   simp [C.impl_copySeed,sS,h1,fO,fO_snoc,show (j+1)*32<=140737488355328 by omega]
   refine hL _ ?_;clear hL L
   simp [C.impl_copySeed,sS,h1,fO,fO_snoc,show (j+1)*32<=140737488355328 by omega]
   refine hK _ ?_;clear hK K
   show AWp _ _ _ _ _
   refine wreg fun K hK=>?_
   simp [C.impl_copySeed,sS,wrap_succ (show j < 4611686018427387904 by omega)]
   refine hK _ ?_;clear hK K
   simp [C.impl_copySeed,sS]
   refine hR1 (j+1,_) ⟨h1,?_⟩ (by dsimp only;omega)
   dsimp only
   rw [hg,List.take_succ_eq_append_getElem h1]
  ·have h1:j=s.f.length:=by have:=d_f hc1;omega
   refine wexit ?_
   show AWp _ _ _ _ _
   refine wseq ?_
   refine wreg fun K hK=>?_
   simp [C.impl_copySeed,sS]
   refine hK _ ?_;clear hK K
   show AWp _ _ _ _ _
   refine wret ?_
   simp [C.impl_copySeed,sS,hg,h1,sO]
 clear hK
 simp [C.impl_copySeed]
 refine ⟨?_,?_⟩
 ·refine wcall1 (clone_c s.m.d hx) (by simp) (by simp) ?_
  simp [C.impl_copySeed]
  exact hJ
 ·refine wcall1 (clone_c s.m.d hx) (by simp) (by simp) ?_
  simp [C.impl_copySeed]
  exact hJ
end Go.Proofs.Ytncfmemhjahpeaa.Ab
namespace Go.Proofs.Ytncfmemhjahpeaa.Ab
open Go
set_option maxRecDepth 10000
set_option maxHeartbeats 2000000
def minF (x:Int) (ts:List Trm) (i:Nat):Int:=ts.foldl (fun m t=>min m (t.e.getD i 0)) x
def lowA (x:Nat->Int) (ts:List Trm) (n:Nat):List Int:=(List.range n).map fun i=>minF (x i) ts i
@[simp] theorem lowA_length (x:Nat->Int) (ts:List Trm) (n:Nat):(lowA x ts n).length=n:=by simp [lowA]
theorem mix_set {α:Type} (xs ys:List α) (i:Nat) (h:i < xs.length) (hl:xs.length=ys.length):(xs.take i ++ ys.drop i).set i xs[i]=xs.take (i+1) ++ ys.drop (i+1):=by
 rw [List.set_append_right _ _ (by simp;omega),List.take_succ_eq_append_getElem h]
 simp only [List.length_take,Nat.min_eq_left (Nat.le_of_lt h),Nat.sub_self]
 rw [List.drop_eq_getElem_cons (by omega),List.set_cons_zero,List.append_assoc]
 rfl
theorem mix_get {α:Type} (xs ys:List α) (i:Nat) (h:i < ys.length) (hl:xs.length=ys.length):(xs.take i ++ ys.drop i)[i]? = some ys[i]:=by
 rw [List.getElem?_append_right (by simp;omega)]
 simp [Nat.min_eq_left (show i<=xs.length by omega),h]
def headE (ts:List Trm) (i:Nat):Int:=match ts with | []=>0 | t :: _=>t.e.getD i 0
def lowL (ts:List Trm) (n:Nat):List Int:=lowA (headE ts) ts n
def denL (f:Lau):List Int:=(lowL f.ts f.v.toNat).map fun x=>-x
@[simp] theorem denL_length (f:Lau):(denL f).length=f.v.toNat:=by simp [denL,lowL]
theorem right_he {f:Lau} {n:Nat} (h:Right f) (hn:f.v=n):∀ t∈f.ts,t.e.length=n/\∀ x∈t.e,-20<=x/\x<=20:=fun t ht=>by
 have:=h.2.2.1 t ht
 exact ⟨by have:=this.1;omega,this.2.2.2⟩
theorem ieq0 (n:Nat):((n:Int) == 0)=decide (n=0):=by
 rw [Bool.eq_iff_iff];simp
end Go.Proofs.Ytncfmemhjahpeaa.Ab
namespace Go.Proofs.Ytncfmemhjahpeaa.Ab
open Go
theorem addE_dv:∀ (a b:List Int),a.length=b.length->addE 1 (addE (-1) a b) b=a
 | [],[],_=>rfl
 | x :: a,y :: b,h=>by
  simp only [addE,addE_dv a b (by simpa using h)]
  congr 1
  omega
 | [],_ :: _,h=>by simp at h
 | _ :: _,[],h=>by simp at h
theorem lexlt_addE (k:Int):∀ (x y b:List Int),x.length=b.length->y.length=b.length->lexlt (addE k x b) (addE k y b)=lexlt x y
 | [],[],[],_,_=>rfl
 | u :: x,v :: y,w :: b,h1,h2=>by
  simp only [addE,lexlt,lexlt_addE k x y b (by simpa using h1) (by simpa using h2)]
  by_cases e:u=v
  ·rw [if_pos e,if_pos (by omega)]
  ·rw [if_neg e,if_neg (by omega)]
   congr 1
   simp only [eq_iff_iff]
   omega
 | [],_ :: _,_,h1,h2=>by simp at h1 h2;omega
 | _ :: _,[],_,h1,h2=>by simp at h1 h2;omega
 | _ :: _,_ :: _,[],h1,_=>by simp at h1
 | [],[],_ :: _,h1,_=>by simp at h1
theorem lexlt_addE2:∀ (e x y:List Int),e.length=x.length->e.length=y.length->lexlt (addE 1 e x) (addE 1 e y)=lexlt x y
 | [],[],[],_,_=>rfl
 | w :: e,u :: x,v :: y,h1,h2=>by
  simp only [addE,lexlt,lexlt_addE2 e x y (by simpa using h1) (by simpa using h2)]
  by_cases e:u=v
  ·rw [if_pos e,if_pos (by omega)]
  ·rw [if_neg e,if_neg (by omega)]
   congr 1
   simp only [eq_iff_iff]
   omega
 | [],_ :: _,_,h1,_=>by simp at h1
 | _ :: _,[],_,h1,_=>by simp at h1
 | [],[],_ :: _,_,h2=>by simp at h2
 | _ :: _,_ :: _,[],_,h2=>by simp at h2
theorem lauAct (n:Nat):Act lexlt (addE 1) (addE (-1)) (fun e=>e.length=n) where
 mul_dv a b h1 h2:=addE_dv a b (h1.trans h2.symm)
 dv_lt x y b h1 h2 h3 h:=by rw [lexlt_addE _ _ _ _ (h1.trans h3.symm) (h2.trans h3.symm)];exact h
 mul_lt e x y h1 h2 h3 h:=by rw [lexlt_addE2 _ _ _ (h1.trans h2.symm) (h1.trans h3.symm)];exact h
 dmul a b h1 h2:=by rw [addE_length _ _ _ (h1.trans h2.symm)];exact h1
 ddv a b h1 h2:=by rw [addE_length _ _ _ (h1.trans h2.symm)];exact h1
def maxF (x:Int) (ts:List Trm) (i:Nat):Int:=ts.foldl (fun m t=>max m (t.e.getD i 0)) x
def highA (x:Nat->Int) (ts:List Trm) (n:Nat):List Int:=(List.range n).map fun i=>maxF (x i) ts i
@[simp] theorem highA_length (x:Nat->Int) (ts:List Trm) (n:Nat):(highA x ts n).length=n:=by simp [highA]
def highL (ts:List Trm) (n:Nat):List Int:=highA (headE ts) ts n
def chkI (e:List Int) (q:Int):Bool:=decide ((∀ x∈e,-20<=x/\x<=20)/\q≠0/\-1000000<=q/\q<=1000000)
def inBox (f g:Lau) (n:Nat) (e:List Int):Prop:=∀ i,i < n->(lowL f.ts n).getD i 0 - (lowL g.ts n).getD i 0<=e.getD i 0/\e.getD i 0<=(highL f.ts n).getD i 0 - (highL g.ts n).getD i 0
instance (f g:Lau) (n:Nat) (e:List Int):Decidable (inBox f g n e):=Nat.decidableBallLT n _
def leadE (g:Lau):List Int:=match g.ts with | []=>[] | t :: _=>t.e
def leadC (g:Lau):Int:=match g.ts with | []=>1 | t :: _=>t.c
def divL (chk:List Int->Int->Bool) (g:Lau) (k:Nat) (R:List (List Int×Int)):Option (List (List Int×Int)):=divGo lexlt (addE 1) (addE (-1)) chk (g.ts.map pr) (leadE g) (leadC g) k R
noncomputable def endF (v:Int):Option (List (List Int×Int))->Lau×Bool
 | some O=>if Right ⟨v,O.map tm⟩ then (⟨v,O.map tm⟩,true) else (zeroF,false)
 | none=>(zeroF,false)
noncomputable def divF (f g:Lau):Lau×Bool:=if (Right f/\Right g/\f.v=g.v)/\g.ts≠[] then endF f.v (divL chkI g 600 (f.ts.map pr)) else (zeroF,false)
theorem pr_desc {f:Lau} (h:Right f):Desc lexlt (f.ts.map pr):=by
 unfold Desc
 rw [List.pairwise_map]
 exact h.2.2.2
theorem pr_nz {f:Lau} (h:Right f):Nz (f.ts.map pr):=fun x hx=>by
 obtain ⟨t,ht,rfl⟩:=List.mem_map.1 hx
 exact (h.2.2.1 t ht).2.1
theorem pr_dig {f:Lau} {n:Nat} (h:Right f) (hn:f.v=n):∀ x∈f.ts.map pr,x.1.length=n/\Dig x.1:=fun x hx=>by
 obtain ⟨t,ht,rfl⟩:=List.mem_map.1 hx
 have:=right_he h hn t ht
 exact ⟨this.1,fun y hy=>by have:=this.2 y hy;omega⟩
end Go.Proofs.Ytncfmemhjahpeaa.Ab
namespace Go.Proofs.Ytncfmemhjahpeaa.Ab
open Go
theorem addE_vd:∀ (a b:List Int),a.length=b.length->addE (-1) (addE 1 a b) b=a
 | [],[],_=>rfl
 | x :: a,y :: b,h=>by
  simp only [addE,addE_vd a b (by simpa using h)]
  congr 1
  omega
 | [],_ :: _,h=>by simp at h
 | _ :: _,[],h=>by simp at h
theorem lau_eta (f:Lau):(⟨f.v,(f.ts.map pr).map tm⟩:Lau)=f:=by
 rw [List.map_map]
 have:tm ∘ pr=id:=rfl
 rw [this,List.map_id]
theorem pr_tm (l:List (List Int×Int)):(l.map tm).map pr=l:=by
 rw [List.map_map]
 exact List.map_id _
theorem div_mul {f g P:Lau} (hf:Right f) (hg:Right g) (hv:f.v=g.v) (hne:g.ts≠[]) (hP:mulF f g=(P,true)):divF P g=(f,true):=by
 have hm:mulF f g=shutF f.v (prodL (f.ts.map pr) (g.ts.map pr)):=if_pos ⟨hf,hg,hv⟩
 rw [hm] at hP
 unfold shutF at hP
 split at hP
 ·rename_i hR
  injection hP with hP _
  subst hP
  obtain ⟨n,hn⟩:∃ n:Nat,f.v=n:=⟨f.v.toNat,by have:=hf.1;omega⟩
  have hn2:g.v=n:=by omega
  unfold divF
  rw [if_pos ⟨⟨hR,hg,hv⟩,hne⟩]
  simp only [pr_tm]
  match hgt:g.ts,hne with
  | t :: ts,_=>
   have hd:=divGo_prod (mul:=addE 1) (dv:=addE (-1)) (chk:=chkI) lexOrd (lauAct n) (fun a b h1 h2=>addE_vd a b (h1.trans h2.symm)) (fun x y b h1 h2 h3 h=>by rw [lexlt_addE _ _ _ _ (h1.trans h3.symm) (h2.trans h3.symm)];exact h)
    (b:=t.e) (d:=t.c) (gt:=ts.map pr) (by have:=pr_desc hg;rw [hgt] at this;exact this) ((hg.2.2.1 t (by rw [hgt];simp)).2.1)
    (fun x hx=>by have:=pr_dig hg hn2;rw [hgt] at this;exact (this x hx).1) 600 (f.ts.map pr) (pr_desc hf) (pr_nz hf)
    (fun x hx=>⟨(pr_dig hf hn x hx).1,by
     obtain ⟨u,hu,rfl⟩:=List.mem_map.1 hx
     have:=hf.2.2.1 u hu
     exact decide_eq_true ⟨this.2.2.2,this.2.1,this.2.2.1⟩⟩) (by simpa using hf.2.1)
   have e:divL chkI g 600 (nf lexlt (prodL (f.ts.map pr) ((t :: ts).map pr)))=some (f.ts.map pr):=by
    unfold divL leadE leadC
    rw [hgt]
    exact hd
   rw [e]
   simp only [endF,lau_eta]
   rw [if_pos hf]
 ·injection hP with _ h
  simp at h
end Go.Proofs.Ytncfmemhjahpeaa.Ab
namespace Go.Proofs.Ytncfmemhjahpeaa.Ab
open Go Go.Proofs
def sortTerm_ren:Go.Shelf.Ren:=⟨fun | 6=>98 | 15=>102 | 14=>101 | 28=>111 | 29=>112 | 20=>103 | 21=>104 | 22=>105 | 23=>106 | 24=>107 | 25=>108 | 26=>109 | 27=>110 | 46=>113 | 47=>114 | 48=>115 | 49=>116 | 50=>117 | 57=>118 | n=>n,fun | 22=>31 | 24=>78 | 25=>135 | 3=>3 | 39=>131 | 0=>0 | 53=>146 | 55=>148 | 4=>4 | 46=>140 | 45=>139 | 50=>36 | 5=>5 | 9=>9 | 66=>149 | 70=>130 | 76=>154 | 77=>155 | n=>n,fun | n=>n⟩
theorem sortTerm:Go.Proofs.SlLaysF0.n6 Try.prog sortTerm_ren:={
 mixed:=by kernel_rfl,
 f6:=⟨Try.f98.name,by decide,Try.func98.trans (congrArg some (by kernel_rfl))⟩,
 f14:=⟨Try.f101.name,by decide,Try.func101.trans (congrArg some (by kernel_rfl))⟩,
 f15:=Try.func102.trans (congrArg some (by kernel_rfl)),
 f20:=⟨Try.f103.name,by decide,Try.func103.trans (congrArg some (by kernel_rfl))⟩,
 f21:=⟨Try.f104.name,by decide,Try.func104.trans (congrArg some (by kernel_rfl))⟩,
 f22:=⟨Try.f105.name,by decide,Try.func105.trans (congrArg some (by kernel_rfl))⟩,
 f23:=⟨Try.f106.name,by decide,Try.func106.trans (congrArg some (by kernel_rfl))⟩,
 f24:=⟨Try.f107.name,by decide,Try.func107.trans (congrArg some (by kernel_rfl))⟩,
 f25:=⟨Try.f108.name,by decide,Try.func108.trans (congrArg some (by kernel_rfl))⟩,
 f26:=⟨Try.f109.name,by decide,Try.func109.trans (congrArg some (by kernel_rfl))⟩,
 f27:=⟨Try.f110.name,by decide,Try.func110.trans (congrArg some (by kernel_rfl))⟩,
 f28:=Try.func111.trans (congrArg some (by kernel_rfl)),
 f29:=Try.func112.trans (congrArg some (by kernel_rfl)),
 f46:=⟨Try.f113.name,by decide,Try.func113.trans (congrArg some (by kernel_rfl))⟩,
 f47:=Try.func114.trans (congrArg some (by kernel_rfl)),
 f48:=Try.func115.trans (congrArg some (by kernel_rfl)),
 f49:=⟨Try.f116.name,by decide,Try.func116.trans (congrArg some (by kernel_rfl))⟩,
 f50:=⟨Try.f117.name,by decide,Try.func117.trans (congrArg some (by kernel_rfl))⟩,
 f57:=⟨Try.f118.name,by decide,Try.func118.trans (congrArg some (by kernel_rfl))⟩,
 t0:=Try.underlying0,
 a0:=Try.isAgg0,
 z0:=Try.sizeOf0,
 v0:=Try.zeroValue0,
 t3:=Try.underlying3,
 a3:=Try.isAgg3,
 z3:=Try.sizeOf3,
 v3:=Try.zeroValue3,
 t4:=Try.underlying4,
 a4:=Try.isAgg4,
 z4:=Try.sizeOf4,
 v4:=Try.zeroValue4,
 t5:=Try.underlying5,
 a5:=Try.isAgg5,
 z5:=Try.sizeOf5,
 v5:=Try.zeroValue5,
 t9:=Try.underlying9,
 a9:=Try.isAgg9,
 z9:=Try.sizeOf9,
 v9:=Try.zeroValue9,
 t22:=Try.underlying31,
 a22:=Try.isAgg31,
 z22:=Try.sizeOf31,
 v22:=Try.zeroValue31,
 t25:=Try.underlying135,
 a25:=Try.isAgg135,
 z25:=Try.sizeOf135,
 v25:=Try.zeroValue135,
 t39:=Try.underlying131,
 a39:=Try.isAgg131,
 z39:=Try.sizeOf131,
 v39:=Try.zeroValue131,
 t45:=Try.underlying139,
 a45:=Try.isAgg139,
 z45:=Try.sizeOf139,
 v45:=Try.zeroValue139,
 t46:=Try.underlying140,
 a46:=Try.isAgg140,
 z46:=Try.sizeOf140,
 v46:=Try.zeroValue140,
 t50:=Try.underlying36,
 a50:=Try.isAgg36,
 z50:=Try.sizeOf36,
 v50:=Try.zeroValue36,
 t53:=Try.underlying146,
 a53:=Try.isAgg146,
 z53:=Try.sizeOf146,
 v53:=Try.zeroValue146,
 t55:=Try.underlying148,
 a55:=Try.isAgg148,
 z55:=Try.sizeOf148,
 v55:=Try.zeroValue148,
 t66:=Try.underlying149,
 a66:=Try.isAgg149,
 z66:=Try.sizeOf149,
 v66:=Try.zeroValue149,
 t70:=Try.underlying130,
 a70:=Try.isAgg130,
 z70:=Try.sizeOf130,
 v70:=Try.zeroValue130,
 t76:=Try.underlying154,
 a76:=Try.isAgg154,
 z76:=Try.sizeOf154,
 v76:=Try.zeroValue154,
 t77:=Try.underlying155,
 a77:=Try.isAgg155,
 z77:=Try.sizeOf155,
 v77:=Try.zeroValue155 }
theorem sortTerm_t24:sortTerm_ren.t 24=78:=by kernel_rfl
theorem sortTerm_f6:sortTerm_ren.f 6=98:=by kernel_rfl
theorem sortTerm_agg:∀ w,(isAgg (sortTerm_ren.t 24)).run Try.prog w = .ok true w:=fun w=>by rw [sortTerm_t24];exact Try.isAgg78 w
theorem sortTerm_size:∀ w,(Go.sizeOf (sortTerm_ren.t 24)).run Try.prog w = .ok 2 w:=fun w=>by rw [sortTerm_t24];exact Try.sizeOf78 w
end Go.Proofs.Ytncfmemhjahpeaa.Ab
namespace Go.Proofs.Ytncfmemhjahpeaa.Ab
open Go
def SfOk (P:Program) (sf k:Nat):Prop:=
 (∀ (p:Option Addr) (cap:Nat) (fv:Value) (w:World),Calls P sf #[.slice p 0 cap,fv] w fun e w'=>e = .returned (.tuple #[])/\w'=w) /\
 ∀ (α:Type) [Inhabited α] (enc:α->List Value) (hk:∀ x,(enc x).length=k) (h1:∀ x,∀ v∈enc x,v.oneCell'=true) (cf:α->α->Int) (hO:Go.Sort.SWO (ltOf cf)) (g:Nat) (blk off cap:Nat) (d:Array α) (w:World)
  (eg:∀ args w,(callFunc g args).run P w = .ok (.enter g args) w) (hcmp:CmpLays P g #[] enc k cf blk off d.size w) (hH:Go.Sort.HoldsK enc k w blk off d) (hblk:blk < w.heap.size) (hsz:d.size < 4611686018427387904),
  Calls P sf #[.slice (some ⟨blk,off,none⟩) d.size cap,.func (.func g) #[] #[]] w fun e w'=>
   e = .returned (.tuple #[])/\∃ d' n os,Go.Sort.PermIn 0 d.size d d'/\Go.Sort.SortedIn (ltOf cf) 0 d.size d'/\w'=sortWorldK enc k w blk off n d' os
structure El (τ:Type) where
 us:List Value
 fp:List Nat
 t:τ
section
variable {τ:Type} {f:τ->List D} {k:Nat} {w:World} {ok:Nat->Prop}
theorem rows_els (hk:∀ t,(f t).length=k):∀ (ts:List τ) (us:List Value) (fp:List Nat),OwVs w ok (rows f ts) us fp ->
  ∃ els:List (El τ),els.map (·.t)=ts/\us=els.flatMap (·.us)/\fp=els.flatMap (·.fp)/\∀ x∈els,OwVs w ok (f x.t) x.us x.fp
 | [],us,fp,h=>by
  simp only [rows,OwVs] at h
  exact ⟨[],rfl,by simp [h.1],by simp [h.2],by simp⟩
 | t :: ts,us,fp,h=>by
  have hl:=OwVs_length h
  obtain ⟨f1,f2,e,h1,h2⟩:=OwVs_split k h
  have e1:(rows f (t :: ts)).take k=f t:=by
   simp only [rows]
   rw [List.take_append_of_le_length (by rw [hk];exact Nat.le_refl _),List.take_of_length_le (by rw [hk];exact Nat.le_refl _)]
  have e2:(rows f (t :: ts)).drop k=rows f ts:=by
   simp only [rows]
   rw [<-hk t,List.drop_left]
  rw [e1] at h1
  rw [e2] at h2
  obtain ⟨els,g1,g2,g3,g4⟩:=rows_els hk ts _ _ h2
  refine ⟨⟨us.take k,f1,t⟩ :: els,by simp [g1],?_,?_,fun x hx=>?_⟩
  ·simp only [List.flatMap_cons]
   rw [<-g2,List.take_append_drop]
  ·simp only [List.flatMap_cons]
   rw [<-g3,e]
  ·rcases List.mem_cons.1 hx with rfl | hx
   ·exact h1
   ·exact g4 x hx
theorem els_rows:∀ (els:List (El τ)),(∀ x∈els,OwVs w ok (f x.t) x.us x.fp)->OwVs w ok (rows f (els.map (·.t))) (els.flatMap (·.us)) (els.flatMap (·.fp))
 | [],_=>by simp [rows,OwVs]
 | x :: els,h=>by
  simp only [List.map_cons,rows,List.flatMap_cons]
  exact OwVs_append (h x (by simp)) (els_rows els fun y hy=>h y (by simp [hy]))
end
theorem flat_get {α β:Type} {g:α->List β} {k:Nat} (hk:∀ x,(g x).length=k):∀ (l:List α) (j:Nat) (h:j / k < l.length) (h0:0 < k),(l.flatMap g)[j]? = (g (l[j / k]'h))[j % k]?
 | [],j,h,_=>by simp at h
 | x :: l,j,h,h0=>by
  simp only [List.flatMap_cons]
  rcases Nat.lt_or_ge j k with hj | hj
  ·rw [List.getElem?_append_left (by rw [hk];exact hj)]
   simp only [Nat.div_eq_of_lt hj,Nat.mod_eq_of_lt hj,List.getElem_cons_zero]
  ·rw [List.getElem?_append_right (by rw [hk];exact hj),hk]
   obtain ⟨m,rfl⟩:∃ m,j=m+k:=⟨j - k,by omega⟩
   simp only [Nat.add_sub_cancel,Nat.add_div_right _ h0,Nat.add_mod_right,Nat.succ_eq_add_one,List.getElem_cons_succ]
   exact flat_get hk l m (by rw [Nat.add_div_right _ h0] at h;simpa using h) h0
theorem flat_len {α β:Type} {g:α->List β} {k:Nat} (hk:∀ x,(g x).length=k):∀ l:List α,(l.flatMap g).length=l.length*k
 | []=>by simp
 | x :: l=>by simp only [List.flatMap_cons,List.length_append,hk,flat_len hk l,List.length_cons,Nat.add_mul,Nat.one_mul];omega
theorem flatK_get {α:Type} [Inhabited α] {enc:α->List Value} {k:Nat} (hk:∀ x,(enc x).length=k) (d:Array α) (j:Nat) (h:j < d.size*k):(d.toList.flatMap enc)[j]? = some ((Go.Sort.flatK enc k d)[j]!):=by
 have h0:0 < k:=by
  rcases Nat.eq_zero_or_pos k with e | e
  ·subst e;simp at h
  ·exact e
 have hd:j / k < d.size:=(Nat.div_lt_iff_lt_mul h0).2 h
 have hm:j % k < k:=Nat.mod_lt _ h0
 rw [flat_get hk d.toList j (by simpa using hd) h0,Go.Sort.get_flatK _ _ _ _ h]
 rw [getElem!_pos d (j / k) hd,List.getElem?_eq_getElem (by rw [hk];exact hm),getElem!_pos _ (j % k) (by rw [hk];exact hm)]
 simp
theorem done1 {w w':World} {ok:Nat->Prop} {ρ:Rn->Value} {fp0:List Nat} {d:D} {fp':List Nat} (hns:noSh d) (ho:Ow w' ok d (ρ (0,0)) fp') (hnd:fp'.Nodup)
  (hb:∀ b∈fp',¬ ok b/\(b∈fp0\/w.heap.size<=b)/\b < w'.heap.size) (hf:Keeps w fp0 w') (hok:∀ b,ok b->b < w.heap.size) :
  Done w ok ρ fp0 [(0,0)] true [d] [] (.tuple #[]) w' ok (fun _=>fp') []:=by
 have key:∀ {r:Rn} {e:D},ofR ([((0,0):Rn)].zip [d]) r=some e->r=(0,0)/\e=d:=fun {r e} h=>by
  simp only [List.zip_cons_cons,List.zip_nil_left,ofR] at h
  split at h
  ·rename_i e2
   simp only [Option.some.injEq] at h
   exact ⟨by first | exact e2 | exact e2.symm,h.symm⟩
  ·simp at h
 refine ⟨rfl,fun r e he=>?_,fun r r' e e' hne he he'=>?_,⟨[],rfl,by simp [OwRs]⟩,List.nodup_nil,by simp,by simp,hf,fun _ h=>h,fun b h=>⟨.inl h,Nat.lt_of_lt_of_le (hok b h) hf.size⟩⟩
 ·obtain ⟨rfl,rfl⟩:=key he
  exact ⟨by simpa using Ow_nosh _ _ _ hns ho,hnd,hb⟩
 ·exact absurd ((key he).1.trans (key he').1.symm) hne
theorem ShV_d {w:World} {ok:Nat->Prop} {σ:St} {ρ:Rn->Value}:∀ {ds:List D} {us:List Value},ShV w ok ds us->FRL w ok σ ρ (ds.map .d) us
 | [],us,h=>by simpa [ShV,FRL] using h
 | d :: ds,us,h=>by
  simp only [ShV] at h
  obtain ⟨u,vs,rfl,h1,h2⟩:=h
  simp only [List.map_cons,FRL]
  exact ⟨u,vs,rfl,by simpa [FR] using h1,ShV_d h2⟩
theorem ShV_share {w:World} {ok ok':Nat->Prop} (hk:∀ b,ok b->ok' b):∀ {ds:List D} {us:List Value} {fp:List Nat},OwVs w ok ds us fp->(∀ b∈fp,ok' b)->ShV w ok' (shareL ds) us
 | [],us,fp,h,_=>by
  simp only [OwVs] at h
  simp [shareL,ShV,h.1]
 | d :: ds,us,fp,h,hf=>by
  simp only [OwVs] at h
  obtain ⟨u,vs,f1,f2,rfl,rfl,h1,h2⟩:=h
  simp only [shareL,ShV]
  exact ⟨u,vs,rfl,Sh_share hk d u f1 (fun b hb=>hf b (by simp [hb])) h1,ShV_share hk h2 fun b hb=>hf b (by simp [hb])⟩
theorem OwVs_world {w w':World} {ok:Nat->Prop} (hk:∀ b,ok b->w'.heap[b]? = w.heap[b]?):∀ {ds:List D} {us:List Value} {fp:List Nat},OwVs w ok ds us fp->(∀ b∈fp,w'.heap[b]? = w.heap[b]?)->OwVs w' ok ds us fp
 | [],us,fp,h,_=>by simpa only [OwVs] using h
 | d :: ds,us,fp,h,hf=>by
  simp only [OwVs] at h ⊢
  obtain ⟨u,vs,f1,f2,rfl,rfl,h1,h2⟩:=h
  exact ⟨u,vs,f1,f2,rfl,rfl,Ow_mono (fun b hb=>⟨hb,hk b hb⟩) _ _ _ (fun b hb=>hf b (by simp [hb])) h1,OwVs_world hk h2 fun b hb=>hf b (by simp [hb])⟩
theorem grow_of_keeps {w w':World} (h:Keeps w [] w'):∃ q os',w'=Go.Sort.grow (w.drewN q) os':=by
 refine ⟨w'.drawn - w.drawn,w'.heap.extract w.heap.size w'.heap.size,?_⟩
 have hh:w'.heap=w.heap ++ w'.heap.extract w.heap.size w'.heap.size:=by
  apply Array.ext_getElem?
  intro i
  rw [Array.getElem?_append]
  split
  ·rename_i hi
   exact h.old i hi (by simp)
  ·rename_i hi
   rw [Array.getElem?_extract]
   have hs:=h.size
   rcases Nat.lt_or_ge i w'.heap.size with h1 | h1
   ·rw [if_pos (by omega),show w.heap.size+(i - w.heap.size)=i by omega]
   ·rw [if_neg (by omega),Array.getElem?_eq_none (by omega)]
 have h1:=h.os
 have h2:=h.out
 have h3:=h.tape
 have h4:=h.drawn
 cases w' with
 | mk heap tape drawn os output=>
  cases w with
  | mk heap2 tape2 drawn2 os2 output2=>
   simp only at h1 h2 h3 h4 hh
   subst h1;subst h2;subst h3
   simp only [Go.Sort.grow,World.drewN]
   congr 1
   omega
theorem cmp_call {P:Program} {g:Nat} {cx cy:List D} {c:Int} (h:ACalls P g [.ag ((shareL cx).map .d),.ag ((shareL cy).map .d)] [] true (fun outs res=>outs=[]/\res=[.one (D.int c)])) {w:World} {ok:Nat->Prop} {ux uy:List Value} {fx fy:List Nat}
  (hx:OwVs w ok cx ux fx) (hy:OwVs w ok cy uy fy) (hfx:∀ b∈fx,b < w.heap.size) (hfy:∀ b∈fy,b < w.heap.size) (hok:∀ b,ok b->b < w.heap.size) :
  Calls P g (#[.agg ux.toArray,.agg uy.toArray] ++ #[]) w fun e w'=>e = .returned (.int .i64 c)/\∃ q os',w'=Go.Sort.grow (w.drewN q) os':=by
 have h1:=ShV_share (ok':=fun b=>ok b\/b∈fx\/b∈fy) (fun b hb=>.inl hb) hx (fun b hb=>.inr (.inl hb))
 have h2:=ShV_share (ok':=fun b=>ok b\/b∈fx\/b∈fy) (fun b hb=>.inl hb) hy (fun b hb=>.inr (.inr hb))
 have:=h.2 w [] (fun b=>ok b\/b∈fx\/b∈fy) [.agg ux.toArray,.agg uy.toArray] (fun _=>undef) (fun _=>[]) rfl ⟨fun r d hd=>by simp [ofR] at hd,fun r r' d d' _ hd=>by simp [ofR] at hd,fun t=>by
  match t with
  | 0=>
   simp only [argEnv,List.getD_cons_zero,FR]
   exact ⟨_,rfl,ShV_d (by simpa using h1)⟩
  | 1=>
   simp only [argEnv,List.getD_cons_succ,List.getD_cons_zero,FR]
   exact ⟨_,rfl,ShV_d (by simpa using h2)⟩
  | t+2=>simp [argEnv,FR],fun b hb=>by rcases hb with hb | hb | hb;exact hok b hb;exact hfx b hb;exact hfy b hb,Keeps.refl w []⟩
 have e0:(#[.agg ux.toArray,.agg uy.toArray] ++ #[]:Array Value)=[Value.agg ux.toArray,Value.agg uy.toArray].toArray:=by simp
 rw [e0]
 refine Calls.mono this ?_
 rintro e w' ⟨v,outs,res,ok',φ',fr,rfl,⟨rfl,rfl⟩,hd⟩
 obtain ⟨vs,e1,e2⟩:=hd.res
 simp only [OwRs,OwRV,if_true] at e2
 obtain ⟨u,us,f1,f2,rfl,_,k1,k2,_⟩:=e2
 subst k2
 simp only [Ow] at k1
 refine ⟨?_,grow_of_keeps hd.frm⟩
 rw [e1,k1.2]
 rfl
section
variable {α:Type} [Inhabited α] {enc:α->List Value} {k:Nat} {w:World} {b o:Nat}
theorem srt_other (m:Nat) (d:Array α) (os:Array Obj) {c:Nat} (hc:c≠b) (hs:c < w.heap.size):(sortWorldK enc k w b o m d os).heap[c]? = w.heap[c]?:=by
 unfold sortWorldK
 rw [Go.Sort.heap_grow_old _ _ (by simpa [Go.Sort.putRowK] using hs)]
 simp [Go.Sort.putRowK,Go.Sort.putRow,Go.Sort.mapBlock,Array.getElem?_modify,Ne.symm hc]
theorem srt_blk (m:Nat) (d:Array α) (os:Array Obj) {arr:Array Value} {T:Nat} {fr:Nat×Nat} (h:w.heap[b]? = some (.cells arr T fr)):∃ arr',(sortWorldK enc k w b o m d os).heap[b]? = some (.cells arr' T fr)/\arr'.size=arr.size:=by
 have hb:b < w.heap.size:=by
  rcases Nat.lt_or_ge b w.heap.size with hh | hh
  ·exact hh
  ·rw [Array.getElem?_eq_none (by omega)] at h;simp at h
 refine ⟨Go.Sort.putCells id o (Go.Sort.flatK enc k d) arr,?_,by simp [Go.Sort.putCells]⟩
 unfold sortWorldK
 rw [Go.Sort.heap_grow_old _ _ (by simpa [Go.Sort.putRowK] using hb)]
 simp [Go.Sort.putRowK,Go.Sort.putRow,Go.Sort.mapBlock,Array.getElem?_modify,h,Go.Sort.onCells]
theorem srt_keeps (m:Nat) (d:Array α) (os:Array Obj) {fp0:List Nat} (hb:b∈fp0):Keeps w fp0 (sortWorldK enc k w b o m d os):=by
 refine ⟨rfl,rfl,rfl,?_,?_,fun c hc hn=>srt_other m d os (fun e=>hn (e ▸ hb)) hc⟩
 ·show w.drawn<=w.drawn+m
  omega
 ·simp [sortWorldK,Go.Sort.putRowK]
end
theorem permIn_all {α:Type} [Inhabited α] {d d':Array α} (h:Go.Sort.PermIn 0 d.size d d'):d'.toList.Perm d.toList:=by
 obtain ⟨h1,_,h3⟩:=h
 have e1:d'.extract 0 d.size=d':=by rw [<-h1];exact Array.extract_size
 rwa [e1,Array.extract_size] at h3
theorem sortedIn_all {α:Type} [Inhabited α] {lt:α->α->Bool} {d d':Array α} (hs:d'.size=d.size) (h:Go.Sort.SortedIn lt 0 d.size d'):d'.toList.Pairwise fun a b=>lt b a=false:=by
 rw [List.pairwise_iff_getElem]
 intro i j hi hj hij
 simp only [Array.length_toList] at hi hj
 have:=h i j (Nat.zero_le _) hij (by omega)
 rwa [getElem!_pos d' i hi,getElem!_pos d' j hj] at this
theorem ACalls.mono {P:Program} {f:Nat} {args:List FV} {ros:List (Rn×D)} {pure:Bool} {Q Q':List D->List RV->Prop} (h:ACalls P f args ros pure Q) (hq:∀ outs res,Q outs res->Q' outs res):ACalls P f args ros pure Q':=
 ⟨h.1,fun w fp0 ok vs ρ φ hl hR=>(h.2 w fp0 ok vs ρ φ hl hR).mono fun e w' ⟨v,outs,res,ok',φ',fr,he,hQ,hD⟩=>⟨v,outs,res,ok',φ',fr,he,hq _ _ hQ,hD⟩⟩
theorem sort_c {P:Program} {sf k g:Nat} (hcl:Callable P sf) (hS:SfOk P sf k) {τ:Type} {f:τ->List D} (hk:∀ t,(f t).length=k) (hk0:0 < k) (hns:∀ t,noShL (f t)) (hso:∀ ts,solidL (rows f ts)) (cf:τ->τ->Int)
  (hO:Go.Sort.SWO (ltOf cf)) (ts:List τ) (hlen:ts.length < 4611686018427387904)
  (hcmp:∀ x∈ts,∀ y∈ts,ACalls P g [.ag ((shareL (f x)).map .d),.ag ((shareL (f y)).map .d)] [] true (fun outs res=>outs=[]/\res=[.one (D.int (cf x y))])) :
  ACalls P sf [.al (0,0) [] 0 ts.length,.d (.fn g [])] [((0,0),.ow k ts.length (rows f ts))] true (fun outs res=>∃ r:List τ,r.Perm ts/\(r.Pairwise fun a b=>¬ cf b a < 0)/\outs=[.ow k ts.length (rows f r)]/\res=[]):=by
 refine ⟨hcl,fun w fp0 ok vs ρ φ hl hR=>?_⟩
 match vs,hl with
 | [u,fv],_=>
 have h0:=hR.env 0
 have h1:=hR.env 1
 simp only [argEnv,List.getD_cons_zero,List.getD_cons_succ,FR,Sh] at h0 h1
 obtain ⟨k1,N,cs,hv,ho,hh,hN,hsub⟩:=h0
 simp only [hdr,Option.some.injEq] at hh
 subst hh
 obtain ⟨lb,rfl,hlb⟩:=h1
 simp only [ShV] at hlb
 have hlb2:lb = #[]:=by
  apply Array.ext'
  simpa using hlb
 subst hlb2
 have hown:=hR.own (0,0) (.ow k ts.length (rows f ts)) (by simp [ofR])
 obtain ⟨how,hnd,hbl⟩:=hown
 have hsub2:∃ a M c,ρ (0,0) = .slice a M c/\u = .slice a ts.length c:=by
  rcases hsub with ⟨_,a,M,c,e1,e2⟩ | ⟨h,_⟩
  ·exact ⟨a,M,c,e1,e2⟩
  ·omega
 obtain ⟨a,M,c,e1,rfl⟩:=hsub2
 simp only [Ow] at how
 have hns2:∀ r:List τ,noSh (.ow k ts.length (rows f r)):=fun r=>by
  simp only [noSh]
  exact rows_noSh hns r
 rcases how with ⟨hn0,hcs,hfp,a',e2⟩ | ⟨b,o,c',arr,T,fp',e2,hfp,hheap,hcap,harr,hlc,hOL⟩
 ·-- nothing to sort
  have hts:ts=[]:=List.eq_nil_of_length_eq_zero hn0
  subst hts
  rw [e1] at e2
  refine Calls.mono (hS.1 a c (.func (.func g) #[] #[]) w) ?_
  rintro e w' ⟨rfl,rfl⟩
  refine ⟨_,[.ow k 0 (rows f [])],[],ok,fun _=>[],[],rfl,⟨[],List.Perm.nil,List.Pairwise.nil,rfl,rfl⟩,?_⟩
  refine done1 (hns2 []) ?_ List.nodup_nil (by simp) (Keeps.refl _ fp0) hR.okb
  simp only [Ow,rows]
  exact .inl ⟨trivial,trivial,trivial,a',by rw [e1];exact e2⟩
 ·obtain ⟨us,hul,hus,hov⟩:=OwL_read hOL
  obtain ⟨els,het,heu,hef,heo⟩:=rows_els hk ts us fp' hov
  have hnl:els.length=ts.length:=by rw [<-het,List.length_map]
  rw [e1] at e2
  have e3:=Value.slice.inj e2
  obtain ⟨rfl,rfl,rfl⟩:=e3
  have hbm:=hbl b (by rw [hfp];simp)
  have hb0:b∈fp0:=by
   rcases hbm.2.1 with h | h
   ·exact h
   ·omega
  rcases Nat.eq_zero_or_pos ts.length with hz | hpos
  ·have hts:ts=[]:=List.eq_nil_of_length_eq_zero hz
   subst hts
   refine Calls.mono (hS.1 (some ⟨b,o,none⟩) c (.func (.func g) #[] #[]) w) ?_
   rintro e w' ⟨rfl,rfl⟩
   refine ⟨_,[.ow k 0 (rows f [])],[],ok,fun _=>φ (0,0),[],rfl,⟨[],List.Perm.nil,List.Pairwise.nil,rfl,rfl⟩,?_⟩
   refine done1 (hns2 []) ?_ hnd hbl (Keeps.refl _ fp0) hR.okb
   simp only [Ow]
   exact .inr ⟨b,o,c,arr,T,fp',by rw [e1];rfl,hfp,hheap,hcap,harr,hlc,hOL⟩
  ·have hinh:Inhabited (Fin els.length):=⟨⟨0,by omega⟩⟩
   let enc:Fin els.length->List Value:=fun i=>els[i].us
   have henc:∀ i,(enc i).length=k:=fun i=>by
    have:=OwVs_length (heo els[i] (List.getElem_mem i.2))
    show els[i].us.length=k
    rw [this,hk]
   let d:Array (Fin els.length):=Array.ofFn id
   have hds:d.size=ts.length:=by simp [d,hnl]
   have hdl:d.toList.flatMap enc=us:=by
    rw [heu]
    show (Array.ofFn id).toList.flatMap enc=_
    rw [Array.toList_ofFn]
    conv=>rhs;rw [<-List.ofFn_getElem (xs:=els)]
    simp only [List.flatMap,List.map_ofFn]
    rfl
   have hco:∀ i:Fin els.length,cf els[i].t els[i].t=cf els[i].t els[i].t:=fun _=>rfl
   have hmem:∀ i:Fin els.length,els[i].t∈ts:=fun i=>by
    have h9:els[i].t∈els.map (·.t):=List.mem_map.2 ⟨_,List.getElem_mem i.2,rfl⟩
    rwa [het] at h9
   have hO2:Go.Sort.SWO (ltOf fun i j:Fin els.length=>cf els[i].t els[j].t):=⟨fun x=>hO.irrefl _,fun x y z=>hO.trans _ _ _,fun x y z=>hO.ntrans _ _ _⟩
   have hkk:us.length=d.size*k:=by rw [hul,hlc,hds,Nat.mul_comm]
   have hH:Go.Sort.HoldsK enc k w b o d:=fun j hj=>by
    rw [Go.Sort.size_flatK] at hj
    refine ⟨?_,not_frozen hheap⟩
    have:=flatK_get henc d j hj
    rw [hdl] at this
    exact hus j _ this
   have hfne:∀ x∈fp',x≠b:=fun x hx e=>by
    subst e
    rw [hfp] at hnd
    exact (List.nodup_cons.1 hnd).1 hx
   have hfb:∀ x∈fp',x < w.heap.size:=fun x hx=>(hbl x (by rw [hfp];simp [hx])).2.2
   have hC:CmpLays P g #[] enc k (fun i j:Fin els.length=>cf els[i].t els[j].t) b o d.size w:=fun m os dk hdk x y=>by
    have hw:∀ i:Fin els.length,OwVs (sortWorldK enc k w b o m dk os) ok (f els[i].t) (enc i) els[i].fp:=fun i=>by
     have hsub:∀ q∈els[i].fp,q∈fp':=fun q hq=>by rw [hef];exact List.mem_flatMap.2 ⟨_,List.getElem_mem i.2,hq⟩
     refine OwVs_world (fun q hq=>srt_other m dk os ?_ (hR.okb q hq)) (heo els[i] (List.getElem_mem i.2)) fun q hq=>srt_other m dk os (hfne q (hsub q hq)) (hfb q (hsub q hq))
     rintro rfl
     exact hbm.1 hq
    have hgs:=size_sortWorldK_c enc k w b o m dk os
    have hfi:∀ i:Fin els.length,∀ q∈els[i].fp,q < (sortWorldK enc k w b o m dk os).heap.size:=fun i q hq=>Nat.lt_of_lt_of_le (hfb q (by rw [hef];exact List.mem_flatMap.2 ⟨_,List.getElem_mem i.2,hq⟩)) hgs
    exact cmp_call (hcmp _ (hmem x) _ (hmem y)) (hw x) (hw y) (hfi x) (hfi y) fun q hq=>Nat.lt_of_lt_of_le (hR.okb q hq) hgs
   obtain ⟨fn,cd,hf1,hf2,hf3⟩:=(hcmp _ (hmem ⟨0,by omega⟩) _ (hmem ⟨0,by omega⟩)).1
   have h1c:∀ x,∀ v∈enc x,v.oneCell'=true:=fun x v hv=>by
    refine OwVs_solid ?_ (heo els[x] (List.getElem_mem x.2)) v hv
    have:=hso [els[x].t]
    simpa [rows] using this
   have hcall:=hS.2 (Fin els.length) enc henc h1c (fun i j=>cf els[i].t els[j].t) hO2 g b o c d w (enters_of hf1 hf3 hf2) hC hH hbm.2.2 (by omega)
   rw [hds] at hcall
   refine Calls.mono hcall ?_
   rintro e w' ⟨rfl,d',m,os,hp,hsd,rfl⟩
   have hpl:=permIn_all (d:=d) (by rw [hds];exact hp)
   have hdd:d.toList=List.finRange els.length:=by
    show (Array.ofFn id).toList=_
    rw [Array.toList_ofFn]
    rfl
   have hsz':d'.size=ts.length:=hp.1.trans hds
   let el2:List (El τ):=d'.toList.map fun i=>els[i]
   have hpe:el2.Perm els:=by
    have h2:=hpl.map fun i:Fin els.length=>els[i]
    refine h2.trans (List.Perm.of_eq ?_)
    show (Array.ofFn id).toList.map _=els
    rw [Array.toList_ofFn,List.map_ofFn]
    exact List.ofFn_getElem
   refine ⟨_,[.ow k ts.length (rows f (el2.map (·.t)))],[],ok,fun _=>b :: el2.flatMap (·.fp),[],rfl,⟨el2.map (·.t),by rw [<-het];exact hpe.map _,?_,rfl,rfl⟩,?_⟩
   ·have:=sortedIn_all hp.1 (by rw [hds];exact hsd)
    rw [List.pairwise_map,List.pairwise_map]
    refine this.imp fun h=>?_
    simpa [ltOf] using h
   ·have hpf:(el2.flatMap (·.fp)).Perm fp':=by rw [hef];exact hpe.flatMap_right _
    obtain ⟨arr',hb',hsa⟩:=srt_blk (enc:=enc) (k:=k) (o:=o) m d' os hheap
    have hgs:=size_sortWorldK_c enc k w b o m d' os
    refine done1 (hns2 _) ?_ ?_ ?_ (srt_keeps m d' os hb0) hR.okb
    ·simp only [Ow]
     refine .inr ⟨b,o,c,arr',T,el2.flatMap (·.fp),e1,rfl,hb',hcap,by rw [hsa];exact harr,?_,?_⟩
     ·rw [rows_length hk,List.length_map,List.length_map,Array.length_toList,hsz']
     ·have hov2:OwVs w ok (rows f (el2.map (·.t))) (el2.flatMap (·.us)) (el2.flatMap (·.fp)):=els_rows el2 fun x hx=>heo x (hpe.subset hx)
      have hflat:el2.flatMap (·.us)=d'.toList.flatMap enc:=by
       show (d'.toList.map _).flatMap _=_
       rw [List.flatMap_map]
      refine OwL_lay (fun q hq=>srt_other m d' os ?_ (hR.okb q hq)) hov2 (fun j v hj=>?_) fun q hq=>srt_other m d' os (hfne q (hpf.subset hq)) (hfb q (hpf.subset hq))
      ·rintro rfl
       exact hbm.1 hq
      ·have hHs:=holdsK_sortWorldK_c enc k w b o d d' m os hH hbm.2.2 hp.1
       have hj2:j < d'.size*k:=by
        rcases Nat.lt_or_ge j (d'.toList.flatMap enc).length with h | h
        ·rwa [flat_len henc,Array.length_toList] at h
        ·rw [hflat,List.getElem?_eq_none h] at hj;simp at hj
       rw [hflat,flatK_get henc d' j hj2] at hj
       simp only [Option.some.injEq] at hj
       rw [<-hj]
       exact (hHs j (by rw [Go.Sort.size_flatK];exact hj2)).1
    ·refine List.nodup_cons.2 ⟨fun h=>hfne b (hpf.subset h) rfl,hpf.nodup_iff.2 ?_⟩
     rw [hfp] at hnd
     exact (List.nodup_cons.1 hnd).2
    ·intro q hq
     rcases List.mem_cons.1 hq with rfl | hq
     ·exact ⟨hbm.1,.inl hb0,Nat.lt_of_lt_of_le hbm.2.2 hgs⟩
     ·have:=hbl q (by rw [hfp];simp [hpf.subset hq])
      exact ⟨this.1,this.2.1,Nat.lt_of_lt_of_le this.2.2 hgs⟩
end Go.Proofs.Ytncfmemhjahpeaa.Ab
