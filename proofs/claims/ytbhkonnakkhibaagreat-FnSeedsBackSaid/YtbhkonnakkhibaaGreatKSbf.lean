/- Matrices that are right, mutation of a matrix, by the reference. Principal matrices and their walks, on both sides. Drawing matrices: names, empty ones, joins. Drawing a matrix that is a tree. Sequences of rank two: both sides make the same. Sums that are computed: what is checked of them; their values at ones. Sequences of two variables are made by mutations in turn. Sequences of Somos in variables: both sides make the same. Sequences of Somos: what is computed of them. Mutation of seeds, by the reference. Mutation of a seed and along a list, by the reference. Seeds as arguments of laws: their sizes, copies. Seeds of laws: how great they are. Mutation of a seed along a list: the program's is the reference's, fresh at each call. The first seed of any matrix; what is the same; whether a session is one. What the law of Somos' sequences calls. A matrix under other names, by the program. Drawing matrices: names, other names, mutations. Drawing a seed and an index. Values of sums: the program's, and the reference's where there is none. Drawing a seed to be mutated; what the law of seeds compares. A seed that is mutated twice is as it was; the old variable times the new one: the law. A code of bytes as an argument, read as a tree. Seeds back: the law, with its argument. No condition. -/
import Derived.Test.YtbhkonnakkhibaaGreatKSbe
import Derived.Test.YtbhkonnakkhibaaGreatKSbd
import Derived.Test.YtbhkonnakkhibaaGreatKSbc
set_option linter.unusedVariables false
set_option linter.unusedSimpArgs false
set_option linter.unusedSectionVars false
namespace Go.Proofs.YtbhkonnakkhibaaGreat.Ab
open Go
set_option maxRecDepth 10000
set_option maxHeartbeats 2000000
theorem sz_of_sol {m:Mat} (hS:ShM m) {d:Nat->Int} (hd:Sol m.n.toNat (bM m) d):SzM m:=by
 refine ⟨hS,fun i j hi hj=>?_⟩
 obtain ⟨h1,h2,h3⟩:=sol_sign hd hi hj
 unfold SgM
 omega
theorem matok_sz {m:Mat} (h:MatOK m):SzM m:=by
 obtain ⟨hS,d,hd⟩:=h
 exact sz_of_sol hS hd
theorem sFactors {m:Mat} (hZ:SzM m):ACalls Tryz.prog F.spec_l1Factors [aM m] [] true (fun outs res=>outs=[]/\((∃ l,MinSol m.n.toNat (bM m) l/\res=[.one (owI l),.one (D.bool true)])\/((∀ d,¬ Sol m.n.toNat (bM m) d)/\res=[.one (.v (.slice none 0 0)),.one (D.bool false)]))):=by
 have hS:=hZ.1
 obtain ⟨n,hn⟩:∃ n:Nat,m.n=n:=⟨m.n.toNat,by have:=hS.1;omega⟩
 obtain ⟨r,hr⟩:∃ r:Nat,m.r=r:=⟨m.r.toNat,by have:=hS.1;have:=hS.2.1;omega⟩
 have h:=spec_l1Factors_c m n r hn hr hZ
 have e:aM m = .ag [.int n,.int r,.d (shI m.d)]:=by rw [<-hn,<-hr]
 rw [e,show m.n.toNat=n by omega]
 exact h
theorem sFactors_some {m:Mat} (hZ:SzM m) {l:List Int} (h:MinSol m.n.toNat (bM m) l):ACalls Tryz.prog F.spec_l1Factors [aM m] [] true (fun outs res=>outs=[]/\res=[.one (owI l),.one (D.bool true)]):=
 (sFactors hZ).mono fun outs res ⟨h1,h2⟩=>by
  refine ⟨h1,?_⟩
  rcases h2 with ⟨k,hk,h2⟩ | ⟨hno,_⟩
  ·rw [h2,hk.uniq h]
  ·exact absurd h.2.1 (hno _)
theorem sFactors_none {m:Mat} (hZ:SzM m) (h:∀ l,¬ MinSol m.n.toNat (bM m) l):ACalls Tryz.prog F.spec_l1Factors [aM m] [] true (fun outs res=>outs=[]/\(∀ d,¬ Sol m.n.toNat (bM m) d)/\res=[.one (.v (.slice none 0 0)),.one (D.bool false)]):=
 (sFactors hZ).mono fun outs res ⟨h1,h2⟩=>by
  rcases h2 with ⟨k,hk,h2⟩ | ⟨hno,h2⟩
  ·exact absurd hk (h k)
  ·exact ⟨h1,hno,h2⟩
theorem spec_MatrixOk_c (m:Mat) (hx:m.d.length < 17592186044416):ACalls Tryz.prog F.spec_MatrixOk [aM m] [] true (fun outs res=>outs=[]/\res=[.one (D.bool (decide (MatOK m)))]):=by
 refine ACalls.of_body (C:=C.spec_MatrixOk) (n:=Tryz.f152.ntmps) tabT folT Tryz.func152 rfl (by kernel_rfl) rfl (Nat.le_of_ble_eq_true rfl) (by decide) (by kernel_rfl) (by kernel_rfl) rfl (by simp) (by simp) ?_
 simp only [Tryz.f152]
 refine wseq ?_
 refine wreg fun K hK=>?_
 simp [C.spec_MatrixOk]
 refine hK _ ?_;clear hK K
 show AWp _ _ _ _ _
 refine wseq ?_
 refine wseq ?_
 refine wregI ([0,1] ++ ([2])) rfl fun K hK=>?_
 refine oSg fun L hL=>?_
 simp [C.spec_MatrixOk]
 refine wcall1 (spec_l1Sizes_c m hx) (by simp) (by simp) ?_
 simp [C.spec_MatrixOk]
 refine hL _ ?_;clear hL L
 refine oEn fun L hL=>?_
 simp [C.spec_MatrixOk]
 refine hL _ ?_;clear hL L
 simp [C.spec_MatrixOk]
 refine hK _ ?_;clear hK K
 show AWp _ _ _ _ _
 refine wcond _ rfl (fun hc1=>?_) (fun hc1=>?_)
 ·have hr:=nd_t hc1
  have hno:¬ MatOK m:=fun h=>hr (matok_sz h)
  refine wseq ?_
  refine wreg fun K hK=>?_
  simp [C.spec_MatrixOk]
  refine hK _ ?_;clear hK K
  show AWp _ _ _ _ _
  refine wret ?_
  simp [C.spec_MatrixOk,hno]
 ·have hZ:=nd_f hc1
  refine wskip ?_
  show AWp _ _ _ _ _
  refine wseq ?_
  refine wregI ([0,1] ++ ([2,3,4,5,6])) rfl fun K hK=>?_
  have hJ:K ⟨ofL [(4,.bool (decide (MatOK m)))],ofRO []⟩:=by
   refine hK _ ?_;clear hK K
   show AWp _ _ _ _ _
   refine wseq ?_
   refine wreg fun K hK=>?_
   simp [C.spec_MatrixOk]
   refine hK _ ?_;clear hK K
   show AWp _ _ _ _ _
   refine wret ?_
   simp [C.spec_MatrixOk]
  clear hK
  by_cases h2:∃ l,MinSol m.n.toNat (bM m) l
  ·obtain ⟨l,hl⟩:=h2
   have h2:MatOK m:=⟨hZ.1,_,hl.2.1⟩
   refine oSg fun L hL=>?_
   simp [C.spec_MatrixOk,h2]
   refine wcall1 (sFactors_some hZ hl) (by simp) (by simp) ?_
   simp [C.spec_MatrixOk,h2]
   refine hL _ ?_;clear hL L
   refine oEn fun L hL=>?_
   simp [C.spec_MatrixOk,h2]
   refine hL _ ?_;clear hL L
   simp [C.spec_MatrixOk,h2]
   refine cast (congrArg K ?_) hJ
   simp [h2]
  ·refine oSg fun L hL=>?_
   simp [C.spec_MatrixOk,h2]
   refine wcall (sFactors_none hZ (fun l hl=>h2 ⟨l,hl⟩)) (by simp) (by simp) (by simp) ?_
   rintro outs res ⟨rfl,hno,rfl⟩
   simp [C.spec_MatrixOk,h2]
   refine hL _ ?_;clear hL L
   refine oEn fun L hL=>?_
   simp [C.spec_MatrixOk,h2]
   refine hL _ ?_;clear hL L
   simp [C.spec_MatrixOk,h2]
   refine cast (congrArg K ?_) hJ
   simp [show ¬ MatOK m from fun h=>by obtain ⟨d,hd⟩:=h.2;exact hno d hd,h2]
theorem spec_l1Mutate_c (m:Mat) (n r k:Nat) (hn:m.n=n) (hr:m.r=r) (hS:ShM m) (hk:k < n):ACalls Tryz.prog F.spec_l1Mutate [.ag [.int n,.int r,.d (shI m.d)],.int k] [] true (fun outs res=>outs=[]/\res=[.ag (mO (muM m k))]):=by
 have hn5:1<=n/\n<=5:=by have:=hS.1;omega
 have hnr:n<=r/\r<=8:=by have:=hS.2.1;omega
 have hnn:m.n.toNat=n:=by omega
 have hL:m.d.length=r*n:=by
  have h1:=hS.2.2.1
  rw [hn,hr,<-Int.natCast_mul,Nat.mul_comm] at h1
  omega
 have hL40:m.d.length<=40:=by
  rw [hL]
  exact Nat.le_trans (Nat.mul_le_mul hnr.2 hn5.2) (by omega)
 have hcopy:=spec_l1CopyMatrix_c m (by omega)
 have eM:aM m = .ag [.int n,.int r,.d (shI m.d)]:=by rw [<-hn,<-hr]
 rw [eM] at hcopy
 refine ACalls.of_body (C:=C.spec_l1Mutate) (n:=Tryz.f204.ntmps) tabT folT Tryz.func204 rfl (by kernel_rfl) rfl (Nat.le_of_ble_eq_true rfl) (by decide) (by kernel_rfl) (by kernel_rfl) rfl (by simp) (by simp) ?_
 simp only [Tryz.f204]
 refine wseq ?_
 refine wreg fun K hK=>?_
 simp [C.spec_l1Mutate]
 refine hK _ ?_;clear hK K
 show AWp _ _ _ _ _
 refine wseq ?_
 refine wregI ([0,1] ++ ([2,3])) rfl fun K hK=>?_
 refine oSg fun L hL=>?_
 simp [C.spec_l1Mutate,mO,hn,hr]
 refine wcall1 (hcopy) (by simp) (by simp) ?_
 simp [C.spec_l1Mutate,mO,hn,hr]
 refine hL _ ?_;clear hL L
 refine oEn fun L hL=>?_
 simp [C.spec_l1Mutate,mO,hn,hr]
 refine hL _ ?_;clear hL L
 simp [C.spec_l1Mutate,mO,hn,hr]
 refine hK _ ?_;clear hK K
 show AWp _ _ _ _ _
 refine wseq ?_
 refine wseq ?_
 refine wreg fun K hK=>?_
 simp [C.spec_l1Mutate]
 refine hK _ ?_;clear hK K
 show AWp _ _ _ _ _
 refine wblock ?_
 refine wloop (fun x:Nat=>⟨ofL [(1,.int k),(2,.pt (2,0) [] 0),(4,.pt (4,0) [] 0),(5,.pt (5,0) [] 0),(6,.int x)],ofRO [((2,0),some (.bx [D.int n,D.int r,shI m.d])),((4,0),some (.bx [D.int 0,D.int 0,.v (.slice none 0 0)])),((5,0),some (.bx [D.int n,D.int r,.ow 1 m.d.length (ints ((muD m k).take (x*n) ++ m.d.drop (x*n)))]))]⟩) (fun x=>x<=r) (fun x=>r - x) 0 (by simp [C.spec_l1Mutate]) (by simp) ?_
 intro x1 hx1 R1 hR1
 refine wseq ?_
 refine wseq ?_
 refine wreg fun K hK=>?_
 simp [C.spec_l1Mutate]
 refine hK _ ?_;clear hK K
 show AWp _ _ _ _ _
 refine wcond _ rfl (fun hc1=>?_) (fun hc1=>?_)
 ·have hi:x1 < r:=by have:=d_t hc1;omega
  refine wskip ?_
  show AWp _ _ _ _ _
  refine wseq ?_
  refine wblock ?_
  refine wseq ?_
  refine wreg fun K hK=>?_
  simp [C.spec_l1Mutate]
  refine hK _ ?_;clear hK K
  show AWp _ _ _ _ _
  refine wblock ?_
  refine wloop (fun x:Nat=>⟨ofL [(1,.int k),(2,.pt (2,0) [] 0),(4,.pt (4,0) [] 0),(5,.pt (5,0) [] 0),(6,.int x1),(7,.int x)],ofRO [((2,0),some (.bx [D.int n,D.int r,shI m.d])),((4,0),some (.bx [D.int 0,D.int 0,.v (.slice none 0 0)])),((5,0),some (.bx [D.int n,D.int r,.ow 1 m.d.length (ints ((muD m k).take (x1*n+x) ++ m.d.drop (x1*n+x)))]))]⟩) (fun x=>x<=n) (fun x=>n - x) 0 (by simp [C.spec_l1Mutate]) (by simp) ?_
  intro x2 hx2 R2 hR2
  refine wseq ?_
  refine wseq ?_
  refine wreg fun K hK=>?_
  simp [C.spec_l1Mutate]
  refine hK _ ?_;clear hK K
  show AWp _ _ _ _ _
  refine wcond _ rfl (fun hc2=>?_) (fun hc2=>?_)
  ·have hj:x2 < n:=by have:=d_t hc2;omega
   obtain ⟨q,hq⟩:∃ q,q=x1*n+x2:=⟨_,rfl⟩
   have hqe:(x1:Int)*n+x2=(q:Int):=by rw [hq];simp
   have hqL:q < m.d.length:=by
    rw [hL,hq]
    have h1:(x1+1)*n<=r*n:=Nat.mul_le_mul_right _ (by omega)
    rw [Nat.add_mul] at h1
    omega
   have hq0:IntKind.i64.wrap ((x1:Int)*n)=(x1:Int)*n:=by
    have:(x1:Int)*n=((x1*n:Nat):Int):=by simp
    rw [this]
    exact wrapOk (by omega) (by omega)
   have hq1:IntKind.i64.wrap ((x1:Int)*n+x2)=(q:Int):=by rw [hqe];exact wrapOk (by omega) (by omega)
   have hg:=mix_get (muD m k) m.d q hqL (by simp)
   have hst:=mix_set (muD m k) m.d q (by simpa using hqL) (by simp)
   have hmu:(muD m k)[q]'(by simpa using hqL)=muE (bM m) k x1 x2:=by
    have:=muD_get m k x1 x2 (by omega) (by rw [hnn,<-hq];exact hqL)
    simp only [hnn,<-hq] at this
    exact this
   have hdq:m.d[q]=bM m x1 x2:=by
    obtain ⟨h1,h2⟩:=bM_get hS (i:=x1) (j:=x2) (by omega) (by omega)
    rw [<-h2]
    congr 1
    rw [hnn,hq]
   rw [hmu] at hst
   rw [<-hq]
   have hml:((muD m k).take q ++ m.d.drop q).length=m.d.length:=by simp;omega
   generalize hM:(muD m k).take q ++ m.d.drop q=M at hg hst hml
   have hMq:M[q]'(by omega)=bM m x1 x2:=by
    rw [List.getElem?_eq_getElem (by omega)] at hg
    injection hg with hg
    rw [hg,hdq]
   have b0:=bM_bd hS x1 x2
   have b1:=bM_bd hS x1 k
   have b2:=bM_bd hS k x2
   have hat1:=spec_l1At_c m n r x1 k hn hr hS hi hk
   have hat2:=spec_l1At_c m n r k x2 hn hr hS (by omega) hj
   have hat3:=spec_l1At_c m n r x1 x2 hn hr hS hi hj
   obtain ⟨A,hA⟩:∃ A,A=bM m x1 k:=⟨_,rfl⟩
   obtain ⟨B,hB⟩:∃ B,B=bM m k x2:=⟨_,rfl⟩
   obtain ⟨X,hX⟩:∃ X,X=bM m x1 x2:=⟨_,rfl⟩
   have hmuv:muE (bM m) k x1 x2=if x1=k\/x2=k then -X else if 0 < A/\0 < B then X+A*B else if A < 0/\B < 0 then X - A*B else X:=by rw [hA,hB,hX];rfl
   rw [hmuv] at hst
   rw [<-hA] at hat1 b1
   rw [<-hB] at hat2 b2
   rw [<-hX] at hMq b0 hat3
   have hab:(A*B).natAbs<=99*99:=by rw [Int.natAbs_mul];exact Nat.mul_le_mul b1 b2
   clear hmuv hA hB hX hmu hdq hM
   have hwab:IntKind.i64.wrap (A*B)=A*B:=wrapOk (by omega) (by omega)
   refine wskip ?_
   show AWp _ _ _ _ _
   refine wseq ?_
   refine wblock ?_
   refine wseq ?_
   refine wregI ([0,1,2,3] ++ ([4])) rfl fun K hK=>?_
   refine oSg fun L hL=>?_
   simp [C.spec_l1Mutate]
   refine wcall1 (hat1) (by simp) (by simp) ?_
   simp [C.spec_l1Mutate]
   refine hL _ ?_;clear hL L
   refine oEn fun L hL=>?_
   simp [C.spec_l1Mutate]
   refine hL _ ?_;clear hL L
   simp [C.spec_l1Mutate]
   refine hK _ ?_;clear hK K
   show AWp _ _ _ _ _
   refine wseq ?_
   refine wregI ([0,1,2,3] ++ ([4])) rfl fun K hK=>?_
   refine oSg fun L hL=>?_
   simp [C.spec_l1Mutate]
   refine wcall1 (hat2) (by simp) (by simp) ?_
   simp [C.spec_l1Mutate]
   refine hL _ ?_;clear hL L
   refine oEn fun L hL=>?_
   simp [C.spec_l1Mutate]
   refine hL _ ?_;clear hL L
   simp [C.spec_l1Mutate]
   refine hK _ ?_;clear hK K
   show AWp _ _ _ _ _
   refine wblock ?_
   refine wseq ?_
   refine wreg fun K hK=>?_
   have hJ:K ⟨ofL [(1,.int k),(2,.pt (2,0) [] 0),(4,.pt (4,0) [] 0),(5,.pt (5,0) [] 0),(6,.int x1),(7,.int x2),(8,.int A),(9,.int B),(32,.bool (decide (x1=k\/x2=k)))],ofRO [((2,0),some (.bx [D.int n,D.int r,shI m.d])),((4,0),some (.bx [D.int 0,D.int 0,.v (.slice none 0 0)])),((5,0),some (.bx [D.int n,D.int r,.ow 1 m.d.length (ints M)]))]⟩:=by
    refine hK _ ?_;clear hK K
    show AWp _ _ _ _ _
    refine wcond _ rfl (fun hc3=>?_) (fun hc3=>?_)
    ·have h3:=d_t hc3
     rw [if_pos h3] at hst
     refine wdrawI [(true,0),(true,1),(true,2),(true,3),(true,4),(true,5),(true,6),(true,7),(true,8),(true,9),(true,10),(false,11),(true,12),(true,13),(false,14)] ⟨by kernel_rfl,by kernel_rfl⟩ ([0,1,2,3,4,5,6,7,8,9,10,11] ++ ([12,13,14])) rfl fun K hK=>?_
     refine oSg fun L hL=>?_
     simp [C.spec_l1Mutate,get_ints,hml,hqL,hMq,hq0,hq1,show (q:Int) < m.d.length by omega,wrapOk (x:=-X) (by omega) (by omega),hst]
     refine wcall1 (hat3) (by simp) (by simp) ?_
     simp [C.spec_l1Mutate,get_ints,hml,hqL,hMq,hq0,hq1,show (q:Int) < m.d.length by omega,wrapOk (x:=-X) (by omega) (by omega),hst]
     refine hL _ ?_;clear hL L
     refine oEn fun L hL=>?_
     simp [C.spec_l1Mutate,get_ints,hml,hqL,hMq,hq0,hq1,show (q:Int) < m.d.length by omega,wrapOk (x:=-X) (by omega) (by omega),hst]
     refine hL _ ?_;clear hL L
     simp [C.spec_l1Mutate,get_ints,hml,hqL,hMq,hq0,hq1,show (q:Int) < m.d.length by omega,wrapOk (x:=-X) (by omega) (by omega),hst]
     refine hK _ ?_;clear hK K
     show AWp _ _ _ _ _
     refine wreg fun K hK=>?_
     simp [C.spec_l1Mutate,wrap_succ (show x2 < 4611686018427387904 by omega)]
     refine hK _ ?_;clear hK K
     simp [C.spec_l1Mutate]
     refine cast (congrArg R2 ?_) (hR2 (x2+1) hj (by omega))
     simp [<-Nat.add_assoc,<-hq]
    ·have h3:=d_f hc3
     rw [if_neg h3] at hst
     refine wseq ?_
     refine wreg fun K hK=>?_
     have hJ:K ⟨ofL [(1,.int k),(2,.pt (2,0) [] 0),(4,.pt (4,0) [] 0),(5,.pt (5,0) [] 0),(6,.int x1),(7,.int x2),(8,.int A),(9,.int B),(55,.bool (decide (0 < A/\0 < B)))],ofRO [((2,0),some (.bx [D.int n,D.int r,shI m.d])),((4,0),some (.bx [D.int 0,D.int 0,.v (.slice none 0 0)])),((5,0),some (.bx [D.int n,D.int r,.ow 1 m.d.length (ints M)]))]⟩:=by
      refine hK _ ?_;clear hK K
      show AWp _ _ _ _ _
      refine wcond _ rfl (fun hc4=>?_) (fun hc4=>?_)
      ·have h4:=d_t hc4
       rw [if_pos h4] at hst
       refine wdrawI [(true,0),(true,1),(true,2),(true,3),(true,4),(true,5),(true,6),(true,7),(true,8),(true,9),(true,10),(true,12),(true,13),(true,14),(false,11),(true,15),(true,16),(false,17)] ⟨by kernel_rfl,by kernel_rfl⟩ ([0,1,2,3,4,5,6,7,8,9,10,12,13,14,11] ++ ([15,16,17])) rfl fun K hK=>?_
       refine oSg fun L hL=>?_
       simp [C.spec_l1Mutate,get_ints,hml,hqL,hMq,hq0,hq1,show (q:Int) < m.d.length by omega,hwab,wrapOk (x:=X+A*B) (by omega) (by omega),hst]
       refine wcall1 (hat3) (by simp) (by simp) ?_
       simp [C.spec_l1Mutate,get_ints,hml,hqL,hMq,hq0,hq1,show (q:Int) < m.d.length by omega,hwab,wrapOk (x:=X+A*B) (by omega) (by omega),hst]
       refine hL _ ?_;clear hL L
       refine oEn fun L hL=>?_
       simp [C.spec_l1Mutate,get_ints,hml,hqL,hMq,hq0,hq1,show (q:Int) < m.d.length by omega,hwab,wrapOk (x:=X+A*B) (by omega) (by omega),hst]
       refine hL _ ?_;clear hL L
       simp [C.spec_l1Mutate,get_ints,hml,hqL,hMq,hq0,hq1,show (q:Int) < m.d.length by omega,hwab,wrapOk (x:=X+A*B) (by omega) (by omega),hst]
       refine hK _ ?_;clear hK K
       show AWp _ _ _ _ _
       refine wreg fun K hK=>?_
       simp [C.spec_l1Mutate,wrap_succ (show x2 < 4611686018427387904 by omega)]
       refine hK _ ?_;clear hK K
       simp [C.spec_l1Mutate]
       refine cast (congrArg R2 ?_) (hR2 (x2+1) hj (by omega))
       simp [<-Nat.add_assoc,<-hq]
      ·have h4:=d_f hc4
       rw [if_neg h4] at hst
       refine wseq ?_
       refine wreg fun K hK=>?_
       have hJ:K ⟨ofL [(1,.int k),(2,.pt (2,0) [] 0),(4,.pt (4,0) [] 0),(5,.pt (5,0) [] 0),(6,.int x1),(7,.int x2),(8,.int A),(9,.int B),(79,.bool (decide (A < 0/\B < 0)))],ofRO [((2,0),some (.bx [D.int n,D.int r,shI m.d])),((4,0),some (.bx [D.int 0,D.int 0,.v (.slice none 0 0)])),((5,0),some (.bx [D.int n,D.int r,.ow 1 m.d.length (ints M)]))]⟩:=by
        refine hK _ ?_;clear hK K
        show AWp _ _ _ _ _
        refine wcond _ rfl (fun hc5=>?_) (fun hc5=>?_)
        ·have h5:=d_t hc5
         rw [if_pos h5] at hst
         refine wdrawI [(true,0),(true,1),(true,2),(true,3),(true,4),(true,5),(true,6),(true,7),(true,8),(true,9),(true,10),(true,12),(true,13),(true,14),(false,11),(true,15),(true,16),(false,17)] ⟨by kernel_rfl,by kernel_rfl⟩ ([0,1,2,3,4,5,6,7,8,9,10,12,13,14,11] ++ ([15,16,17])) rfl fun K hK=>?_
         refine oSg fun L hL=>?_
         simp [C.spec_l1Mutate,get_ints,hml,hqL,hMq,hq0,hq1,show (q:Int) < m.d.length by omega,hwab,wrapOk (x:=X - A*B) (by omega) (by omega),hst]
         refine wcall1 (hat3) (by simp) (by simp) ?_
         simp [C.spec_l1Mutate,get_ints,hml,hqL,hMq,hq0,hq1,show (q:Int) < m.d.length by omega,hwab,wrapOk (x:=X - A*B) (by omega) (by omega),hst]
         refine hL _ ?_;clear hL L
         refine oEn fun L hL=>?_
         simp [C.spec_l1Mutate,get_ints,hml,hqL,hMq,hq0,hq1,show (q:Int) < m.d.length by omega,hwab,wrapOk (x:=X - A*B) (by omega) (by omega),hst]
         refine hL _ ?_;clear hL L
         simp [C.spec_l1Mutate,get_ints,hml,hqL,hMq,hq0,hq1,show (q:Int) < m.d.length by omega,hwab,wrapOk (x:=X - A*B) (by omega) (by omega),hst]
         refine hK _ ?_;clear hK K
         show AWp _ _ _ _ _
         refine wreg fun K hK=>?_
         simp [C.spec_l1Mutate,wrap_succ (show x2 < 4611686018427387904 by omega)]
         refine hK _ ?_;clear hK K
         simp [C.spec_l1Mutate]
         refine cast (congrArg R2 ?_) (hR2 (x2+1) hj (by omega))
         simp [<-Nat.add_assoc,<-hq]
        ·have h5:=d_f hc5
         rw [if_neg h5] at hst
         have hMM:M=(muD m k).take (q+1) ++ m.d.drop (q+1):=by
          rw [<-hst]
          refine (List.ext_getElem? fun z=>?_)
          rw [List.getElem?_set]
          split
          ·rename_i e
           subst e
           rw [if_pos (by omega),List.getElem?_eq_getElem (by omega),hMq]
          ·rfl
         refine wskip ?_
         show AWp _ _ _ _ _
         refine wreg fun K hK=>?_
         simp [C.spec_l1Mutate,wrap_succ (show x2 < 4611686018427387904 by omega)]
         refine hK _ ?_;clear hK K
         simp [C.spec_l1Mutate]
         refine cast (congrArg R2 ?_) (hR2 (x2+1) hj (by omega))
         simp [<-Nat.add_assoc,<-hq,<-hMM]
       clear hK
       by_cases h1:A < 0
       ·simp [C.spec_l1Mutate,h1]
        refine cast (congrArg K ?_) hJ
        simp [h1]
       ·simp [C.spec_l1Mutate,h1]
        refine cast (congrArg K ?_) hJ
        simp [h1]
     clear hK
     by_cases h1:0 < A
     ·simp [C.spec_l1Mutate,h1]
      refine cast (congrArg K ?_) hJ
      simp [h1]
     ·simp [C.spec_l1Mutate,h1]
      refine cast (congrArg K ?_) hJ
      simp [h1]
   clear hK
   by_cases h1:x1=k
   ·simp [C.spec_l1Mutate,natbeq,h1]
    refine cast (congrArg K ?_) hJ
    simp [natbeq,h1]
   ·simp [C.spec_l1Mutate,natbeq,h1]
    refine cast (congrArg K ?_) hJ
    simp [natbeq,h1]
  ·have hj:x2=n:=by have:=d_f hc2;omega
   refine wexit ?_
   show AWp _ _ _ _ _
   refine wreg fun K hK=>?_
   simp [C.spec_l1Mutate,wrap_succ (show x1 < 4611686018427387904 by omega)]
   refine hK _ ?_;clear hK K
   simp [C.spec_l1Mutate]
   refine cast (congrArg R1 ?_) (hR1 (x1+1) hi (by omega))
   simp [Nat.add_mul,hj]
 ·have hi:x1=r:=by have:=d_f hc1;omega
  have htk:List.take (x1*n) (muD m k) ++ List.drop (x1*n) m.d=muD m k:=by
   rw [hi,<-hL,List.take_of_length_le (by simp),List.drop_length,List.append_nil]
  refine wexit ?_
  show AWp _ _ _ _ _
  refine wseq ?_
  refine wreg fun K hK=>?_
  simp [C.spec_l1Mutate]
  refine hK _ ?_;clear hK K
  show AWp _ _ _ _ _
  refine wret ?_
  simp [C.spec_l1Mutate,mO,muM,htk,hn,hr]
theorem spec_MutateMatrix_c (m:Mat) (k:Int) (hx:m.d.length < 17592186044416):ACalls Tryz.prog F.spec_MutateMatrix [aM m,.int k] [] true (fun outs res=>outs=[]/\WkRs res [.ag (mO (muF m k).1),.one (D.bool (muF m k).2)]):=by
 refine ACalls.of_body (C:=C.spec_MutateMatrix) (n:=Tryz.f134.ntmps) tabT folT Tryz.func134 rfl (by kernel_rfl) rfl (Nat.le_of_ble_eq_true rfl) (by decide) (by kernel_rfl) (by kernel_rfl) rfl (by simp) (by simp) ?_
 simp only [Tryz.f134]
 refine wseq ?_
 refine wreg fun K hK=>?_
 simp [C.spec_MutateMatrix,mO]
 refine hK _ ?_;clear hK K
 show AWp _ _ _ _ _
 refine wseq ?_
 refine wseq ?_
 refine wregI ([0,1] ++ ([2,3,4,5,6,7,8] ++ ([9,10]))) rfl fun K hK=>?_
 have hJ:K ⟨ofL [(1,.int k),(2,.pt (2,0) [] 0),(4,.pt (4,0) [] 0),(17,.bool (!decide (MatOK m/\(0<=k/\k < m.n))))],ofRO [((2,0),some (.bx [D.int m.n,D.int m.r,shI m.d])),((4,0),some (.bx [D.int 0,D.int 0,.v (.slice none 0 0)]))]⟩:=by
  refine hK _ ?_;clear hK K
  show AWp _ _ _ _ _
  refine wcond _ rfl (fun hc1=>?_) (fun hc1=>?_)
  ·have hr:=nd_t hc1
   have hm:muF m k=(⟨0,0,[]⟩,false):=if_neg (fun h=>hr ⟨h.1,h.2.1⟩)
   refine wseq ?_
   refine wreg fun K hK=>?_
   simp [C.spec_MutateMatrix,mO]
   refine hK _ ?_;clear hK K
   show AWp _ _ _ _ _
   refine wret ?_
   simp [C.spec_MutateMatrix,mO,hm,ints]
  ·have hr:=nd_f hc1
   obtain ⟨hok,hk⟩:=hr
   have hS:=hok.1
   obtain ⟨n,hn⟩:∃ n:Nat,m.n=n:=⟨m.n.toNat,by have:=hS.1;omega⟩
   obtain ⟨r,hr⟩:∃ r:Nat,m.r=r:=⟨m.r.toNat,by have:=hS.1;have:=hS.2.1;omega⟩
   obtain ⟨k,rfl⟩:∃ j:Nat,k=j:=⟨k.toNat,by omega⟩
   have hcall:=spec_l1Mutate_c m n r k hn hr hS (by omega)
   have hm:muF m k=if MatOK (muM m k) then (muM m k,true) else (⟨0,0,[]⟩,false):=by
    unfold muF
    rw [Int.toNat_natCast]
    by_cases q:MatOK (muM m k)
    ·rw [if_pos ⟨hok,hk,q⟩,if_pos q]
    ·rw [if_neg (fun h=>q h.2.2),if_neg q]
   have hml:(muM m k).d.length < 17592186044416:=by
    show (muD m k).length < _
    simpa using hx
   have hszok:SzM (muM m k)↔MatOK (muM m k):=⟨fun q=>⟨q.1,muM_sol hok hk.2⟩,matok_sz⟩
   refine wskip ?_
   show AWp _ _ _ _ _
   refine wseq ?_
   refine wregI ([0,1,2] ++ ([3,4])) rfl fun K hK=>?_
   refine oSg fun L hL=>?_
   simp [C.spec_MutateMatrix,mO,hn,hr]
   refine wcall1 (hcall) (by simp) (by simp) ?_
   simp [C.spec_MutateMatrix,mO,hn,hr]
   refine hL _ ?_;clear hL L
   refine oEn fun L hL=>?_
   simp [C.spec_MutateMatrix,mO,hn,hr]
   refine hL _ ?_;clear hL L
   simp [C.spec_MutateMatrix,mO,hn,hr]
   refine hK _ ?_;clear hK K
   show AWp _ _ _ _ _
   refine wseq ?_
   refine wseq ?_
   refine wregI ([0,1] ++ ([2])) rfl fun K hK=>?_
   refine oSg fun L hL=>?_
   simp [C.spec_MutateMatrix,mO]
   refine wcall1 (spec_l1Sizes_c (muM m k) hml) (by simp) (by simp) ?_
   simp [C.spec_MutateMatrix,mO]
   refine hL _ ?_;clear hL L
   refine oEn fun L hL=>?_
   simp [C.spec_MutateMatrix,mO]
   refine hL _ ?_;clear hL L
   simp [C.spec_MutateMatrix,mO]
   refine hK _ ?_;clear hK K
   show AWp _ _ _ _ _
   refine wcond _ rfl (fun hc2=>?_) (fun hc2=>?_)
   ·have hno:¬ MatOK (muM m k):=fun h=>nd_t hc2 (hszok.2 h)
    refine wseq ?_
    refine wreg fun K hK=>?_
    simp [C.spec_MutateMatrix,mO]
    refine hK _ ?_;clear hK K
    show AWp _ _ _ _ _
    refine wret ?_
    simp [C.spec_MutateMatrix,mO,hm,hno,ints]
   ·have hyes:=hszok.1 (nd_f hc2)
    refine wskip ?_
    show AWp _ _ _ _ _
    refine wseq ?_
    refine wreg fun K hK=>?_
    simp [C.spec_MutateMatrix,mO]
    refine hK _ ?_;clear hK K
    show AWp _ _ _ _ _
    refine wret ?_
    simp [C.spec_MutateMatrix,mO,hm,hyes]
 clear hK
 by_cases h1:MatOK m
 ·have hwn:IntKind.i64.wrap (m.n - 1)=m.n - 1:=by have:=h1.1.1;exact wrapOk (by omega) (by omega)
  have hle:∀ x:Int,(x<=m.n - 1)=(x < m.n):=fun x=>by rw [eq_iff_iff];omega
  refine oSg fun L hL=>?_
  simp [C.spec_MutateMatrix,mO,hwn,hle,h1]
  refine wcall1 (spec_MatrixOk_c m hx) (by simp) (by simp) ?_
  simp [C.spec_MutateMatrix,mO,hwn,hle,h1]
  refine hL _ ?_;clear hL L
  refine oSg fun L hL=>?_
  simp [C.spec_MutateMatrix,mO,hwn,hle,h1]
  refine wcall1 (spec_l1In_c k 0 (m.n - 1)) (by simp) (by simp) ?_
  simp [C.spec_MutateMatrix,mO,hwn,hle,h1]
  refine hL _ ?_;clear hL L
  refine oEn fun L hL=>?_
  simp [C.spec_MutateMatrix,mO,hwn,hle,h1]
  refine hL _ ?_;clear hL L
  simp [C.spec_MutateMatrix,mO,hwn,hle,h1]
  refine cast (congrArg K ?_) hJ
  simp [Bool.not_and,mO,h1]
 ·refine oSg fun L hL=>?_
  simp [C.spec_MutateMatrix,mO,h1]
  refine wcall1 (spec_MatrixOk_c m hx) (by simp) (by simp) ?_
  simp [C.spec_MutateMatrix,mO,h1]
  refine hL _ ?_;clear hL L
  refine oSg fun L hL=>?_
  simp [C.spec_MutateMatrix,mO,h1]
  refine hL _ ?_;clear hL L
  refine oEn fun L hL=>?_
  simp [C.spec_MutateMatrix,mO,h1]
  refine hL _ ?_;clear hL L
  simp [C.spec_MutateMatrix,mO,h1]
  refine cast (congrArg K ?_) hJ
  simp [Bool.not_and,mO,h1]
theorem sMu_c (m:Mat) (k:Int) (hx:m.d.length < 17592186044416):ACalls Tryz.prog F.spec_MutateMatrix [aM m,.int k] [] true (fun outs res=>outs=[]/\res=[.ag (mO (muF m k).1),.one (D.bool (muF m k).2)]):=(spec_MutateMatrix_c m k hx).weak1
end Go.Proofs.YtbhkonnakkhibaaGreat.Ab
namespace Go.Proofs.YtbhkonnakkhibaaGreat.Ab
open Go
set_option maxRecDepth 10000
set_option maxHeartbeats 2000000
theorem mS_three (t:Mat):(mS t).length=3:=rfl
theorem mO_three (t:Mat):(mO t).length=3:=rfl
@[simp] theorem mS_length (l:List Mat):(rows mS l).length=3*l.length:=rows_length mS_three l
@[simp] theorem mO_length (l:List Mat):(rows mO l).length=3*l.length:=rows_length mO_three l
@[simp] theorem mO_noSh (l:List Mat):noShL (rows mO l):=rows_noSh (fun t=>by simp [mO,noShL,noSh]) l
@[simp] theorem mS_share (l:List Mat):shareL (rows mO l)=rows mS l:=by
 induction l with
 | nil=>rfl
 | cons x l ih=>simp [rows,mO,mS,shareL,share,ih]
@[simp] theorem mS_share2 (l:List Mat):shareL (rows mS l)=rows mS l:=by
 induction l with
 | nil=>rfl
 | cons x l ih=>simp [rows,mS,shareL,share,ih]
end Go.Proofs.YtbhkonnakkhibaaGreat.Ab
namespace Go.Proofs.YtbhkonnakkhibaaGreat.Ab
open Go
set_option maxRecDepth 10000
set_option maxHeartbeats 2000000
attribute [local simp] cur
theorem ofL_padE:∀ l:List (Nat×FV),ofL l=ofL (l ++ [(0,.dead)])
 | []=>by funext t;simp [ofL]
 | x :: l=>by
  funext t
  have:=congrFun (ofL_padE l) t
  simp only [List.cons_append,ofL] at this ⊢
  split
  ·rfl
  ·exact this
theorem ofL_swap {x y:Nat×FV} (h:x.1≠y.1):∀ l:List (Nat×FV),ofL (l ++ [x,y])=ofL (l ++ [y,x])
 | []=>by
  funext t
  simp only [List.nil_append,ofL]
  by_cases h1:x.1=t
  ·rw [if_pos h1,if_pos h1,if_neg (fun e=>h (h1.trans e.symm))]
  ·rw [if_neg h1,if_neg h1]
 | z :: l=>by
  funext t
  have:=congrFun (ofL_swap h l) t
  simp only [List.cons_append,ofL] at this ⊢
  rw [this]
theorem u8s_byts (xs:List Int):u8s (byts xs)=some xs:=by
 induction xs with
 | nil=>rfl
 | cons x xs ih=>
  simp only [byts,List.map_cons,u8s] at ih ⊢
  rw [ih]
theorem spec_FormatInt_c (n:Nat) (hn:1<=n/\n<=9):ACalls Tryz.prog F.spec_FormatInt [.int n] [] true (fun outs res=>outs=[]/\res=[.one (.v (.string (strOfNums [48+(n:Int)])))]):=by
 have hw:IntKind.u8.wrap (48+(n:Int))=48+n:=by
  obtain ⟨h1,h2⟩:=hn
  have:n=1\/n=2\/n=3\/n=4\/n=5\/n=6\/n=7\/n=8\/n=9:=by omega
  rcases this with rfl | rfl | rfl | rfl | rfl | rfl | rfl | rfl | rfl <;> decide
 have hmod:Int.tmod (n:Int) 10=n:=by rw [Int.tmod_eq_emod_of_nonneg (by omega)];omega
 have hdiv:Int.tdiv (n:Int) 10=0:=by rw [Int.tdiv_eq_ediv_of_nonneg (by omega)];omega
 refine ACalls.of_body (C:=C.spec_FormatInt) (n:=Tryz.f238.ntmps) tabT folT Tryz.func238 rfl (by kernel_rfl) rfl (Nat.le_of_ble_eq_true rfl) (by decide) (by kernel_rfl) (by kernel_rfl) rfl (by simp) (by simp) ?_
 simp only [Tryz.f238]
 refine wseq ?_
 refine wreg fun K hK=>?_
 simp [C.spec_FormatInt]
 refine hK _ ?_;clear hK K
 show AWp _ _ _ _ _
 refine wseq ?_
 refine wreg fun K hK=>?_
 simp [C.spec_FormatInt]
 refine hK _ ?_;clear hK K
 show AWp _ _ _ _ _
 refine wseq ?_
 refine wreg fun K hK=>?_
 simp [C.spec_FormatInt]
 refine hK _ ?_;clear hK K
 show AWp _ _ _ _ _
 refine wseq ?_
 refine wblock ?_
 refine wloop (fun x:Nat×List Int×Int=>⟨ofL [(0,.int n),(3,.al (3,0) [] 0 x.2.1.length),(4,.int x.2.2)],ofRO [((3,0),some (.ow 1 x.2.1.length (byts x.2.1)))]⟩) (fun x=>(x.1=0/\x.2.1=[]/\x.2.2=n)\/(x.1=1/\x.2.1=[48+(n:Int)]/\x.2.2=0)) (fun x=>1 - x.1) (0,[],n) (by simp [C.spec_FormatInt,byts]) (by simp) ?_
 intro x1 hx1 R1 hR1
 obtain ⟨p,ds,k⟩:=x1
 dsimp only at hx1 ⊢
 refine wseq ?_
 refine wseq ?_
 refine wreg fun K hK=>?_
 have hJ:K ⟨ofL [(0,.int n),(3,.al (3,0) [] 0 ds.length),(4,.int k),(16,.bool (decide (p=0)))],ofRO [((3,0),some (.ow 1 ds.length (byts ds)))]⟩:=by
  refine hK _ ?_;clear hK K
  show AWp _ _ _ _ _
  refine wcond _ rfl (fun hc1=>?_) (fun hc1=>?_)
  ·have hp:p=0:=d_t hc1
   obtain ⟨rfl,rfl⟩:ds=[]/\k=n:=by
    rcases hx1 with ⟨_,q1,q2⟩ | ⟨q,_⟩
    ·exact ⟨q1,q2⟩
    ·omega
   refine wskip ?_
   show AWp _ _ _ _ _
   refine wblock ?_
   refine wseq ?_
   refine wreg fun K hK=>?_
   simp [C.spec_FormatInt,hmod]
   refine hK _ ?_;clear hK K
   show AWp _ _ _ _ _
   refine wseq ?_
   refine wseq ?_
   refine wreg fun K hK=>?_
   simp [C.spec_FormatInt]
   refine hK _ ?_;clear hK K
   show AWp _ _ _ _ _
   refine wcond _ rfl (fun hc2=>?_) (fun hc2=>?_)
   ·have:=d_t hc2;omega
   ·refine wskip ?_
    show AWp _ _ _ _ _
    refine wseq ?_
    refine wreg fun K hK=>?_
    simp [C.spec_FormatInt,hw,wrapOk (x:=48+(n:Int)) (by omega) (by omega),byts]
    refine hK _ ?_;clear hK K
    show AWp _ _ _ _ _
    refine wreg fun K hK=>?_
    simp [C.spec_FormatInt,hdiv,wrapOk (x:=0) (by omega) (by omega)]
    refine hK _ ?_;clear hK K
    simp [C.spec_FormatInt]
    refine cast (congrArg R1 ?_) (hR1 (1,[48+(n:Int)],0) (.inr ⟨rfl,rfl,rfl⟩) (by dsimp only;omega))
    simp [byts]
  ·have hp:¬ p=0:=d_f hc1
   obtain ⟨rfl,rfl⟩:ds=[48+(n:Int)]/\k=0:=by
    rcases hx1 with ⟨q,_⟩ | ⟨_,q1,q2⟩
    ·omega
    ·exact ⟨q1,q2⟩
   refine wexit ?_
   show AWp _ _ _ _ _
   refine wseq ?_
   refine wreg fun K hK=>?_
   simp [C.spec_FormatInt]
   refine hK _ ?_;clear hK K
   show AWp _ _ _ _ _
   refine wseq ?_
   refine wseq ?_
   refine wreg fun K hK=>?_
   simp [C.spec_FormatInt]
   refine hK _ ?_;clear hK K
   show AWp _ _ _ _ _
   refine wcond _ rfl (fun hc3=>?_) (fun hc3=>?_)
   ·have:=d_t hc3;omega
   ·refine wskip ?_
    show AWp _ _ _ _ _
    refine wseq ?_
    refine wseq ?_
    refine wreg fun K hK=>?_
    simp [C.spec_FormatInt,wrapOk (x:=0) (by omega) (by omega)]
    refine hK _ ?_;clear hK K
    show AWp _ _ _ _ _
    refine wblock ?_
    refine wloop (fun x:Nat×List Int×Int=>⟨ofL [(3,.al (3,0) [] 0 1),(6,.al (6,0) [] 0 x.2.1.length),(7,.int x.2.2)],ofRO [((3,0),some (.ow 1 1 (byts [48+(n:Int)]))),((6,0),some (.ow 1 x.2.1.length (byts x.2.1)))]⟩) (fun x=>(x.1=0/\x.2.1=[]/\x.2.2=0)\/(x.1=1/\x.2.1=[48+(n:Int)]/\x.2.2=-1)) (fun x=>1 - x.1) (0,[],0) (by simp [C.spec_FormatInt,byts]) (by simp) ?_
    intro x3 hx3 R3 hR3
    obtain ⟨q,os,k2⟩:=x3
    dsimp only at hx3 ⊢
    refine wseq ?_
    refine wseq ?_
    refine wreg fun K hK=>?_
    have hJ:K ⟨ofL [(3,.al (3,0) [] 0 1),(6,.al (6,0) [] 0 os.length),(7,.int k2),(41,.bool (decide (q=0)))],ofRO [((3,0),some (.ow 1 1 (byts [48+(n:Int)]))),((6,0),some (.ow 1 os.length (byts os)))]⟩:=by
     refine hK _ ?_;clear hK K
     show AWp _ _ _ _ _
     refine wcond _ rfl (fun hc5=>?_) (fun hc5=>?_)
     ·have hq:q=0:=d_t hc5
      obtain ⟨rfl,rfl⟩:os=[]/\k2=0:=by
       rcases hx3 with ⟨_,q1,q2⟩ | ⟨q,_⟩
       ·exact ⟨q1,q2⟩
       ·omega
      refine wskip ?_
      show AWp _ _ _ _ _
      refine wseq ?_
      refine wblock ?_
      refine wreg fun K hK=>?_
      simp [C.spec_FormatInt,byts]
      refine hK _ ?_;clear hK K
      show AWp _ _ _ _ _
      refine wreg fun K hK=>?_
      simp [C.spec_FormatInt,byts,wrapOk (x:=-1) (by omega) (by omega)]
      refine hK _ ?_;clear hK K
      simp [C.spec_FormatInt]
      refine cast (congrArg R3 ?_) (hR3 (1,[48+(n:Int)],-1) (.inr ⟨rfl,rfl,rfl⟩) (by dsimp only;omega))
      simp [byts]
     ·have hq:¬ q=0:=d_f hc5
      obtain ⟨rfl,rfl⟩:os=[48+(n:Int)]/\k2=-1:=by
       rcases hx3 with ⟨q,_⟩ | ⟨_,q1,q2⟩
       ·omega
       ·exact ⟨q1,q2⟩
      refine wexit ?_
      show AWp _ _ _ _ _
      refine wseq ?_
      refine wreg fun K hK=>?_
      simp [C.spec_FormatInt,u8s_byts]
      refine hK _ ?_;clear hK K
      show AWp _ _ _ _ _
      refine wret ?_
      simp [C.spec_FormatInt]
    clear hK
    rcases hx3 with ⟨rfl,rfl,rfl⟩ | ⟨rfl,rfl,rfl⟩
    ·simp [C.spec_FormatInt]
     refine cast (congrArg K ?_) hJ
     simp
    ·simp [C.spec_FormatInt]
     refine cast (congrArg K ?_) hJ
     simp
 clear hK
 rcases hx1 with ⟨rfl,rfl,rfl⟩ | ⟨rfl,rfl,rfl⟩
 ·simp [C.spec_FormatInt,show ¬ (n:Int)=0 by omega,show ¬ n=0 by omega]
  refine cast (congrArg K ?_) hJ
  simp
 ·simp [C.spec_FormatInt]
  refine cast (congrArg K ?_) hJ
  simp
theorem spec_dZero_c (n:Nat) (hn:n<=5):ACalls Tryz.prog F.spec_dZero [.int n] [] true (fun outs res=>outs=[]/\res=[.ag (mO ⟨n,n,List.replicate (n*n) 0⟩)]):=by
 have h25:n*n<=25:=Nat.mul_le_mul hn hn
 have hw:IntKind.i64.wrap ((n:Int)*n)=((n*n:Nat):Int):=by
  have e:(n:Int)*n=((n*n:Nat):Int):=by simp
  rw [e]
  exact wrapOk (by omega) (by omega)
 obtain ⟨q,hq⟩:∃ q,q=n*n:=⟨_,rfl⟩
 rw [<-hq] at hw h25
 rw [<-hq]
 refine ACalls.of_body (C:=C.spec_dZero) (n:=Tryz.f236.ntmps) tabT folT Tryz.func236 rfl (by kernel_rfl) rfl (Nat.le_of_ble_eq_true rfl) (by decide) (by kernel_rfl) (by kernel_rfl) rfl (by simp) (by simp) ?_
 simp only [Tryz.f236]
 refine wseq ?_
 refine wreg fun K hK=>?_
 simp [C.spec_dZero]
 refine hK _ ?_;clear hK K
 show AWp _ _ _ _ _
 refine wseq ?_
 refine wreg fun K hK=>?_
 simp [C.spec_dZero,hw,zeros_ints,show (8:Int)*q<=281474976710656 by omega,show (q:Int)<=281474976710656 by omega]
 refine hK _ ?_;clear hK K
 show AWp _ _ _ _ _
 refine wret ?_
 simp [C.spec_dZero,mO]
def DrawJ (xs:List Int) (d:List Int) (p q:Nat) (a b:Int) (outs:List D) (res:List RV):Prop:=∃ (i':Nat) (h':Int) (d':List Int),i'<=xs.length/\(∃ s:Int,(s=1\/s=-1)/\d'=(d.set p (s*a)).set q (-(s*b)))/\outs=[cur xs i' h',.ow 1 d.length (ints d')]/\res=[]
theorem spec_dJoin_c (xs:List Int) (k:Nat) (h:Int) (n:Nat) (d:List Int) (i j:Nat) (a b:Int) (hk:k<=xs.length) (hx:xs.length<=1048576) (hn:n<=5) (hd:d.length=n*n) (hi:i < n) (hj:j < n) (ha:-3<=a/\a<=3) (hb:-3<=b/\b<=3):ACalls Tryz.prog F.spec_dJoin [.pt (0,0) [] 0,.ag [.int n,.int n,.al (1,2) [] 0 d.length],.int i,.int j,.int a,.int b] [((0,0),cur xs k h),((1,2),owI d)] false (DrawJ xs d (i*n+j) (j*n+i) a b):=by
 have idx:∀ u v:Nat,u < n->v < n->u*n+v < d.length/\IntKind.i64.wrap ((u:Int)*n)=((u*n:Nat):Int)/\IntKind.i64.wrap (((u*n:Nat):Int)+v)=((u*n+v:Nat):Int):=fun u v hu hv=>by
  have h1:(u+1)*n<=n*n:=Nat.mul_le_mul_right _ (by omega)
  rw [Nat.add_mul] at h1
  have h2:n*n<=5*5:=Nat.mul_le_mul hn hn
  have e:(u:Int)*n=((u*n:Nat):Int):=by simp
  refine ⟨by omega,?_,?_⟩
  ·rw [e];exact wrapOk (by omega) (by omega)
  ·rw [wrapOk (by omega) (by omega)];omega
 obtain ⟨p1,p2,p3⟩:=idx i j hi hj
 obtain ⟨q1',q2,q3⟩:=idx j i hj hi
 obtain ⟨P,hP⟩:∃ P,P=i*n+j:=⟨_,rfl⟩
 obtain ⟨Q,hQ⟩:∃ Q,Q=j*n+i:=⟨_,rfl⟩
 obtain ⟨P0,hP0⟩:∃ P,P=i*n:=⟨_,rfl⟩
 obtain ⟨Q0,hQ0⟩:∃ Q,Q=j*n:=⟨_,rfl⟩
 rw [<-hP] at p1 p3
 rw [<-hQ] at q1' q3
 rw [<-hP0] at p2 p3
 rw [<-hQ0] at q2 q3
 rw [<-hP,<-hQ]
 have hwa:IntKind.i64.wrap (-a)=-a:=wrapOk (by omega) (by omega)
 have hwb:IntKind.i64.wrap (-b)=-b:=wrapOk (by omega) (by omega)
 have hwb2:IntKind.i64.wrap b=b:=wrapOk (by omega) (by omega)
 refine ACalls.of_body (C:=C.spec_dJoin) (n:=Tryz.f237.ntmps) tabT folT Tryz.func237 rfl (by kernel_rfl) rfl (Nat.le_of_ble_eq_true rfl) (by decide) (by kernel_rfl) (by kernel_rfl) rfl (by simp) (by simp) ?_
 simp only [Tryz.f237]
 refine wseq ?_
 refine wreg fun K hK=>?_
 simp [C.spec_dJoin]
 refine hK _ ?_;clear hK K
 show AWp _ _ _ _ _
 refine wseq ?_
 refine wseq ?_
 refine wregI ([0,1] ++ ([])) rfl fun K hK=>?_
 refine oSg fun L hL=>?_
 simp [C.spec_dJoin]
 refine wcall (spec_l1Once_c xs k h 2 hk hx (by omega)) (by simp) (by simp) (by simp) ?_
 rintro outs res ⟨i1,h1,c,q1,rfl,rfl⟩
 simp [C.spec_dJoin]
 refine hL _ ?_;clear hL L
 refine oEn fun L hL=>?_
 simp only [AOpsI]
 refine hL _ ?_;clear hL L
 simp [C.spec_dJoin]
 refine hK _ ?_;clear hK K
 show AWp _ _ _ _ _
 refine wcond _ rfl (fun hc1=>?_) (fun hc1=>?_)
 ·refine wreg fun K hK=>?_
  simp [C.spec_dJoin,hwa,hwb]
  refine hK _ ?_;clear hK K
  show AWp _ _ _ _ _
  refine wseq ?_
  refine wreg fun K hK=>?_
  simp [C.spec_dJoin,p1,p2,p3,show (P:Int) < d.length by omega]
  refine hK _ ?_;clear hK K
  show AWp _ _ _ _ _
  refine wreg fun K hK=>?_
  simp [C.spec_dJoin,q1',q2,q3,hwb2,show (Q:Int) < d.length by omega]
  refine hK _ ?_;clear hK K
  simp [C.spec_dJoin]
  exact ⟨i1,h1,_,q1,⟨-1,.inr rfl,rfl⟩,by simp [owI],rfl⟩
 ·refine wskip ?_
  show AWp _ _ _ _ _
  refine wseq ?_
  refine wreg fun K hK=>?_
  simp [C.spec_dJoin,p1,p2,p3,show (P:Int) < d.length by omega]
  refine hK _ ?_;clear hK K
  show AWp _ _ _ _ _
  refine wreg fun K hK=>?_
  simp [C.spec_dJoin,q1',q2,q3,hwb,show (Q:Int) < d.length by omega]
  refine hK _ ?_;clear hK K
  simp [C.spec_dJoin]
  exact ⟨i1,h1,_,q1,⟨1,.inl rfl,rfl⟩,by simp [owI],rfl⟩
end Go.Proofs.YtbhkonnakkhibaaGreat.Ab
namespace Go.Proofs.YtbhkonnakkhibaaGreat.Ab
open Go
set_option maxRecDepth 10000
set_option maxHeartbeats 4000000
attribute [local simp] cur
def TrI (n k:Nat) (d:List Int):Prop:=d.length=n*n/\∀ x∈d,-3<=x/\x<=3
theorem TrI.zero (n:Nat):TrI n 1 (List.replicate (n*n) 0):=⟨by simp,fun x hx=>by rw [List.eq_of_mem_replicate hx];omega⟩
theorem TrI.join {n k i:Nat} {d d':List Int} (h:TrI n k d) (hi:i < k) (hk:k < n) {a b:Int} (ha:1<=a/\a<=3) (hb:1<=b/\b<=3) (hs:∃ s:Int,(s=1\/s=-1)/\d'=(d.set (i*n+k) (s*a)).set (k*n+i) (-(s*b))):TrI n (k+1) d':=by
 obtain ⟨s,hs,rfl⟩:=hs
 refine ⟨by simp [h.1],fun x hx=>?_⟩
 rcases List.mem_or_eq_of_mem_set hx with hx | rfl
 ·rcases List.mem_or_eq_of_mem_set hx with hx | rfl
  ·exact h.2 x hx
  ·rcases hs with rfl | rfl <;> omega
 ·rcases hs with rfl | rfl <;> omega
def TreeM (m:Mat):Prop:=∃ n k:Nat,m.n=n/\m.r=n/\(1<=n/\n<=3)/\TrI n k m.d
def DrawMS (xs:List Int) (outs:List D) (res:List RV):Prop:=∃ (i':Nat) (h':Int) (m:Mat) (s:ByteArray),i'<=xs.length/\TreeM m/\outs=[cur xs i' h']/\res=[.ag (mO m),.one (.v (.string s))]
theorem spec_dTree_c (xs:List Int) (i:Nat) (h:Int) (hi:i<=xs.length) (hx:xs.length<=1048576):ACalls Tryz.prog F.spec_dTree [.pt (0,0) [] 0,.int 3] [((0,0),cur xs i h)] false (DrawMS xs):=by
 refine ACalls.of_body (C:=C.spec_dTree) (n:=Tryz.f209.ntmps) tabT folT Tryz.func209 rfl (by kernel_rfl) rfl (Nat.le_of_ble_eq_true rfl) (by decide) (by kernel_rfl) (by kernel_rfl) rfl (by simp) (by simp) ?_
 simp only [Tryz.f209]
 refine wseq ?_
 refine wreg fun K hK=>?_
 simp [C.spec_dTree]
 refine hK _ ?_;clear hK K
 show AWp _ _ _ _ _
 refine wseq ?_
 refine wregI ([0,1] ++ ([2])) rfl fun K hK=>?_
 refine oSg fun L hL=>?_
 simp [C.spec_dTree]
 refine wcall (spec_l1Below_c xs i h 11 hi hx (by omega)) (by simp) (by simp) (by simp) ?_
 rintro outs res ⟨i1,h1,c1,p1,q1,rfl,rfl⟩
 simp [C.spec_dTree]
 refine hL _ ?_;clear hL L
 refine oEn fun L hL=>?_
 simp [C.spec_dTree]
 refine hL _ ?_;clear hL L
 simp [C.spec_dTree]
 refine hK _ ?_;clear hK K
 show AWp _ _ _ _ _
 refine wseq ?_
 refine wregI ([0,1,2] ++ ([3,4])) rfl fun K hK=>?_
 refine oSg fun L hL=>?_
 simp [C.spec_dTree]
 refine wcall (spec_l1Below_c xs i1 h1 3 p1 hx (by omega)) (by simp) (by simp) (by simp) ?_
 rintro outs res ⟨i2,h2,c2,p2,q2,rfl,rfl⟩
 simp [C.spec_dTree]
 refine hL _ ?_;clear hL L
 refine oEn fun L hL=>?_
 simp [C.spec_dTree]
 refine hL _ ?_;clear hL L
 simp [C.spec_dTree]
 refine hK _ ?_;clear hK K
 show AWp _ _ _ _ _
 refine wseq ?_
 refine wseq ?_
 obtain ⟨kd,hkd⟩:∃ kd:Nat,c1=kd:=⟨c1.toNat,by omega⟩
 obtain ⟨n,hnq,hn⟩:∃ n:Nat,IntKind.i64.wrap (1+c2)=n/\1<=n/\n<=3:=⟨(1+c2).toNat,by rw [wrapOk (by omega) (by omega)];omega,by omega,by omega⟩
 rw [hnq,hkd]
 refine wregI ([0,1,2,3,4,5,6,7,8,9,10,11,12,13,14,15,16,17]) rfl fun K hK=>?_
 have hJ:K ⟨ofL [(0,.pt (0,0) [] 0),(1,.int 3),(4,.pt (4,0) [] 0),(6,.int kd),(7,.int n),(41,.bool (decide (4<=kd/\kd<=6/\n < 2))),(1000,.pt (0,0) [] 0)],ofRO [((0,0),some (cur xs i2 h2)),((4,0),some (.bx [D.int 0,D.int 0,.v (.slice none 0 0)]))]⟩:=by
  refine hK _ ?_;clear hK K
  show AWp _ _ _ _ _
  refine wcondJ (fun σ'=>∃ (kd':Nat) (t:Nat) (f:FV),(kd'<=10/\(4<=kd'/\kd'<=6->2<=n))/\σ'=⟨ofL [(0,.pt (0,0) [] 0),(1,.int 3),(4,.pt (4,0) [] 0),(6,.int kd'),(7,.int n),(1000,.pt (0,0) [] 0),(t,f)],ofRO [((0,0),some (cur xs i2 h2)),((4,0),some (.bx [D.int 0,D.int 0,.v (.slice none 0 0)]))]⟩) _ rfl ?_ (fun hc1 Qc1 hQc1=>?_) (fun hc1 Qc1 hQc1=>?_)
  ·rintro σc1 ⟨ka,tt,ff,hka,rfl⟩
   show AWp _ _ _ _ _
   refine wseq ?_
   refine wseq ?_
   refine wregI ([0,1,2,3,4,5,6,7,8,9,10,11,12,13,14,15,16,17,18,19,20,21]) rfl fun K hK=>?_
   have hJ:K ⟨ofL [(0,.pt (0,0) [] 0),(4,.pt (4,0) [] 0),(6,.int ka),(7,.int n),(63,.bool (decide (ka=8\/ka=9))),(1000,.pt (0,0) [] 0)],ofRO [((0,0),some (cur xs i2 h2)),((4,0),some (.bx [D.int 0,D.int 0,.v (.slice none 0 0)]))]⟩:=by
    refine hK _ ?_;clear hK K
    show AWp _ _ _ _ _
    refine wcondJ (fun σ'=>∃ (kd':Nat) (t:Nat) (f:FV),(kd'<=10/\kd'≠8/\kd'≠9/\(4<=kd'/\kd'<=6->2<=n))/\σ'=⟨ofL [(0,.pt (0,0) [] 0),(4,.pt (4,0) [] 0),(6,.int kd'),(7,.int n),(1000,.pt (0,0) [] 0),(t,f)],ofRO [((0,0),some (cur xs i2 h2)),((4,0),some (.bx [D.int 0,D.int 0,.v (.slice none 0 0)]))]⟩) _ rfl ?_ (fun hc2 Qc2 hQc2=>?_) (fun hc2 Qc2 hQc2=>?_)
    ·rintro σc2 ⟨kb,tt2,ff2,hkb,rfl⟩
     show AWp _ _ _ _ _
     refine wseq ?_
     refine wseq ?_
     refine wreg fun K hK=>?_
     simp [C.spec_dTree]
     refine hK _ ?_;clear hK K
     show AWp _ _ _ _ _
     refine wblock ?_
     refine wseq ?_
     refine wseq ?_
     refine wreg fun K hK=>?_
     simp [C.spec_dTree,show ((kb:Int) == 4)=decide (kb=4) by rw [Bool.eq_iff_iff];simp <;> omega]
     refine hK _ ?_;clear hK K
     show AWp _ _ _ _ _
     refine wcondJ (fun σ'=>σ'=⟨ofL [(0,.pt (0,0) [] 0),(4,.pt (4,0) [] 0),(6,.int kb),(7,.int n),(64,.int kb),(65,.bool (decide (kb=4\/kb=5))),(1000,.pt (0,0) [] 0)],ofRO [((0,0),some (cur xs i2 h2)),((4,0),some (.bx [D.int 0,D.int 0,.v (.slice none 0 0)]))]⟩) _ rfl ?_ (fun hc3 Qc3 hQc3=>?_) (fun hc3 Qc3 hQc3=>?_)
     ·rintro σc3 rfl
      show AWp _ _ _ _ _
      refine wcond _ rfl (fun hc4=>?_) (fun hc4=>?_)
      ·have h45:=d_t hc4
       have hn2:2<=n:=by omega
       have hfmt:=spec_FormatInt_c n (by omega)
       have hsz:(strOfNums [48+(n:Int)]).size=1:=rfl
       refine wseq ?_
       refine wregI ([0,1] ++ ([2,3])) rfl fun K hK=>?_
       refine oSg fun L hL=>?_
       simp [C.spec_dTree,mO]
       refine wcall1 (spec_dZero_c n (by omega)) (by simp) (by simp) ?_
       simp [C.spec_dTree,mO]
       refine hL _ ?_;clear hL L
       refine oEn fun L hL=>?_
       simp [C.spec_dTree,mO]
       refine hL _ ?_;clear hL L
       simp [C.spec_dTree,mO]
       refine hK _ ?_;clear hK K
       show AWp _ _ _ _ _
       refine wseq ?_
       refine wseq ?_
       refine wreg fun K hK=>?_
       simp [C.spec_dTree]
       refine hK _ ?_;clear hK K
       show AWp _ _ _ _ _
       refine wblock ?_
       refine wloop (fun x:Nat×List Int×Nat×Int=>⟨ofL [(0,.pt (0,0) [] 0),(4,.pt (4,0) [] 0),(6,.int kb),(7,.int n),(8,.pt (8,0) [] 0),(9,.int x.1),(1000,.pt (0,0) [] 0)],ofRO [((0,0),some (cur xs x.2.2.1 x.2.2.2)),((4,0),some (.bx [D.int 0,D.int 0,.v (.slice none 0 0)])),((8,0),some (.bx [D.int n,D.int n,owI x.2.1]))]⟩) (fun x=>x.1+2<=n/\TrI n (x.1+1) x.2.1/\x.2.2.1<=xs.length) (fun x=>n - x.1) (0,List.replicate (n*n) 0,i2,h2) (by simp [C.spec_dTree,owI]) ⟨by omega,TrI.zero n,p2⟩ ?_
       intro x1 hx1 R1 hR1
       obtain ⟨j,d,i3,h3⟩:=x1
       obtain ⟨g1,g2,g3⟩:=hx1
       dsimp only at g1 g2 g3 ⊢
       have hw2:IntKind.i64.wrap ((j:Int)+2)=(j:Int)+2:=wrapOk (by omega) (by omega)
       have hw1:IntKind.i64.wrap ((j:Int)+1)=(j:Int)+1:=wrapOk (by omega) (by omega)
       refine wseq ?_
       refine wseq ?_
       refine wreg fun K hK=>?_
       simp [C.spec_dTree,hw2]
       refine hK _ ?_;clear hK K
       show AWp _ _ _ _ _
       refine wcond _ rfl (fun hc5=>?_) (fun hc5=>?_)
       ·have hj:j+2 < n:=by have:=hc5;simp at this;omega
        refine wskip ?_
        show AWp _ _ _ _ _
        refine wseq ?_
        refine wblock ?_
        refine wregI ([0,1,2,3,4,5] ++ ([])) rfl fun K hK=>?_
        refine oSg fun L hL=>?_
        simp [C.spec_dTree,hw1]
        refine wcall (spec_dJoin_c xs i3 h3 n d j (j+1) 1 1 g3 hx (by omega) g2.1 (by omega) (by omega) (by omega) (by omega)) (by simp) (by simp) (by simp) ?_
        rintro outs res ⟨i4,h4',d',qq,q2',rfl,rfl⟩
        simp [C.spec_dTree,hw1]
        refine hL _ ?_;clear hL L
        refine oEn fun L hL=>?_
        simp only [AOpsI]
        refine hL _ ?_;clear hL L
        simp [C.spec_dTree,hw1]
        refine hK _ ?_;clear hK K
        show AWp _ _ _ _ _
        refine wreg fun K hK=>?_
        simp [C.spec_dTree,hw1]
        refine hK _ ?_;clear hK K
        simp [C.spec_dTree]
        have hT:=g2.join (show j < j+1 by omega) (by omega) (by omega) (by omega) q2'
        refine cast (congrArg R1 ?_) (hR1 (j+1,d',i4,h4') ⟨by dsimp only;omega,hT,qq⟩ (by dsimp only;omega))
        simp [owI,hT.1,g2.1]
       ·have hj:j+2=n:=by have:=hc5;simp at this;omega
        have hm2:IntKind.i64.wrap ((n:Int) - 2)=(j:Int):=by rw [wrapOk (by omega) (by omega)];omega
        have hm1:IntKind.i64.wrap ((n:Int) - 1)=(j:Int)+1:=by rw [wrapOk (by omega) (by omega)];omega
        refine wexit ?_
        show AWp _ _ _ _ _
        refine wseq ?_
        refine wseq ?_
        refine wreg fun K hK=>?_
        have hJ:K ⟨ofL [(0,.pt (0,0) [] 0),(4,.pt (4,0) [] 0),(7,.int n),(8,.pt (8,0) [] 0),(87,.bool (decide (kb=4\/n=2))),(1000,.pt (0,0) [] 0)],ofRO [((0,0),some (cur xs i3 h3)),((4,0),some (.bx [D.int 0,D.int 0,.v (.slice none 0 0)])),((8,0),some (.bx [D.int n,D.int n,owI d]))]⟩:=by
         refine hK _ ?_;clear hK K
         show AWp _ _ _ _ _
         refine wcond _ rfl (fun hc6=>?_) (fun hc6=>?_)
         ·refine wseq ?_
          refine wregI ([0,1,2,3,4,5,6] ++ ([])) rfl fun K hK=>?_
          refine oSg fun L hL=>?_
          simp [C.spec_dTree,hm1,hm2]
          refine wcall (spec_dJoin_c xs i3 h3 n d j (j+1) 2 1 g3 hx (by omega) g2.1 (by omega) (by omega) (by omega) (by omega)) (by simp) (by simp) (by simp) ?_
          rintro outs res ⟨i4,h4',d',qq,q2',rfl,rfl⟩
          simp [C.spec_dTree,hm1,hm2]
          refine hL _ ?_;clear hL L
          refine oEn fun L hL=>?_
          simp only [AOpsI]
          refine hL _ ?_;clear hL L
          simp [C.spec_dTree,hm1,hm2]
          refine hK _ ?_;clear hK K
          show AWp _ _ _ _ _
          refine wseq ?_
          have hT:=g2.join (show j < j+1 by omega) (by omega) (by omega) (by omega) q2'
          refine wdrawI [(true,0),(true,1),(false,2),(true,3),(false,4),(true,5)] ⟨by kernel_rfl,by kernel_rfl⟩ ([0,1,2] ++ ([3,4,5])) rfl fun K hK=>?_
          have hJ:K ⟨ofL [(4,.pt (4,0) [] 0),(5,.d (.v (.string (⟨#[66]⟩ ++ strOfNums [48+(n:Int)])))),(1000,.pt (1000,0) [] 0)],ofRO [((4,0),some (.bx [D.int n,D.int n,owI d'])),((1000,0),some (cur xs i4 h4'))]⟩:=by
           refine hK _ ?_;clear hK K
           show AWp _ _ _ _ _
           refine wret ?_
           simp [C.spec_dTree]
           exact ⟨i4,h4',⟨n,n,d'⟩,⟨#[66]⟩ ++ strOfNums [48+(n:Int)],qq,⟨n,_,rfl,rfl,hn,hT⟩,rfl,by simp [mO]⟩
          clear hK
          simp [C.spec_dTree]
          repeat' first
           | (refine wcall1 (hfmt) ?_ (by simp) ?_;(focus (simp;done));simp [C.spec_dTree,hsz,show ByteArray.size ⟨#[66]⟩ = 1 from rfl])
           | (refine cast (congrArg K ?_) hJ;simp [owI,hT.1,g2.1];done)
           | refine And.intro ?_ ?_
         ·refine wskip ?_
          show AWp _ _ _ _ _
          refine wseq ?_
          refine wregI ([0,1,2,3,4,5,6] ++ ([])) rfl fun K hK=>?_
          refine oSg fun L hL=>?_
          simp [C.spec_dTree,hm1,hm2]
          refine wcall (spec_dJoin_c xs i3 h3 n d j (j+1) 1 2 g3 hx (by omega) g2.1 (by omega) (by omega) (by omega) (by omega)) (by simp) (by simp) (by simp) ?_
          rintro outs res ⟨i4,h4',d',qq,q2',rfl,rfl⟩
          simp [C.spec_dTree,hm1,hm2]
          refine hL _ ?_;clear hL L
          refine oEn fun L hL=>?_
          simp only [AOpsI]
          refine hL _ ?_;clear hL L
          simp [C.spec_dTree,hm1,hm2]
          refine hK _ ?_;clear hK K
          show AWp _ _ _ _ _
          refine wseq ?_
          have hT:=g2.join (show j < j+1 by omega) (by omega) (by omega) (by omega) q2'
          refine wdrawI [(true,0),(true,1),(false,2),(true,3),(false,4),(true,5)] ⟨by kernel_rfl,by kernel_rfl⟩ ([0,1,2] ++ ([3,4,5])) rfl fun K hK=>?_
          have hJ:K ⟨ofL [(4,.pt (4,0) [] 0),(5,.d (.v (.string (⟨#[67]⟩ ++ strOfNums [48+(n:Int)])))),(1000,.pt (1000,0) [] 0)],ofRO [((4,0),some (.bx [D.int n,D.int n,owI d'])),((1000,0),some (cur xs i4 h4'))]⟩:=by
           refine hK _ ?_;clear hK K
           show AWp _ _ _ _ _
           refine wret ?_
           simp [C.spec_dTree]
           exact ⟨i4,h4',⟨n,n,d'⟩,⟨#[67]⟩ ++ strOfNums [48+(n:Int)],qq,⟨n,_,rfl,rfl,hn,hT⟩,rfl,by simp [mO]⟩
          clear hK
          simp [C.spec_dTree]
          repeat' first
           | (refine wcall1 (hfmt) ?_ (by simp) ?_;(focus (simp;done));simp [C.spec_dTree,hsz,show ByteArray.size ⟨#[67]⟩ = 1 from rfl])
           | (refine cast (congrArg K ?_) hJ;simp [owI,hT.1,g2.1];done)
           | refine And.intro ?_ ?_
        clear hK
        have e4:((kb:Int) == 4)=decide (kb=4):=by rw [Bool.eq_iff_iff];simp <;> omega
        have e2:((n:Int) == 2)=decide (n=2):=by rw [Bool.eq_iff_iff];simp <;> omega
        by_cases z1:kb=4 <;> by_cases z2:n=2 <;> (simp [C.spec_dTree,z1,z2,e4,e2];refine cast (congrArg K ?_) hJ;simp [z1,z2];done)
      ·have h45:=d_f hc4
       refine wseq ?_
       refine wreg fun K hK=>?_
       simp [C.spec_dTree,show ((kb:Int) == 6)=decide (kb=6) by rw [Bool.eq_iff_iff];simp <;> omega]
       refine hK _ ?_;clear hK K
       show AWp _ _ _ _ _
       refine wcond _ rfl (fun hc7=>?_) (fun hc7=>?_)
       ·have h6:kb=6:=d_t hc7
        refine wseq ?_
        refine wregI ([0,1] ++ ([2,3])) rfl fun K hK=>?_
        refine oSg fun L hL=>?_
        simp [C.spec_dTree,mO]
        refine wcall1 (spec_dZero_c n (by omega)) (by simp) (by simp) ?_
        simp [C.spec_dTree,mO]
        refine hL _ ?_;clear hL L
        refine oEn fun L hL=>?_
        simp [C.spec_dTree,mO]
        refine hL _ ?_;clear hL L
        simp [C.spec_dTree,mO]
        refine hK _ ?_;clear hK K
        show AWp _ _ _ _ _
        refine wseq ?_
        refine wdraw (.take 0 (.take 2 (.all [(1,.take 3 (.all [(4,.all [(5,.take 6 (.done))]),(5,.take 4 (.take 6 (.done)))])),(5,.all [(1,.take 3 (.take 4 (.take 6 (.done))))])]))) ⟨by kernel_rfl,by kernel_rfl⟩ fun K hK=>?_
        have hJ:∀ (s0:ByteArray),K ⟨ofL [(4,.pt (4,0) [] 0),(5,.d (.v (.string s0))),(1000,.pt (1000,0) [] 0)],ofRO [((4,0),some (.bx [D.int n,D.int n,owI (List.replicate (n*n) 0)])),((1000,0),some (cur xs i2 h2))]⟩:=by
         intro s0
         refine hK _ ?_;clear hK K
         show AWp _ _ _ _ _
         refine wret ?_
         simp [C.spec_dTree]
         exact ⟨i2,h2,⟨n,n,List.replicate (n*n) 0⟩,s0,p2,⟨n,_,rfl,rfl,hn,TrI.zero n⟩,rfl,by simp [mO]⟩
        clear hK
        rcases (show n=1\/n=2\/n=3 by omega) with rfl | rfl | rfl <;> (simp [C.spec_dTree];repeat' first
         | exact hJ _
         | refine And.intro ?_ ?_)
       ·have h6:¬ kb=6:=d_f hc7
        refine wseq ?_
        refine wreg fun K hK=>?_
        simp [C.spec_dTree,show ((kb:Int) == 7)=decide (kb=7) by rw [Bool.eq_iff_iff];simp <;> omega]
        refine hK _ ?_;clear hK K
        show AWp _ _ _ _ _
        refine wcond _ rfl (fun hc8=>?_) (fun hc8=>?_)
        ·have h7:kb=7:=d_t hc8
         refine wseq ?_
         have hz:=TrI.zero 2
         have hdz:=spec_dZero_c 2 (by omega)
         obtain ⟨zz,hzz⟩:∃ z:List Int,z=List.replicate (2*2) 0:=⟨_,rfl⟩
         rw [<-hzz] at hz hdz
         have hzl:zz.length=4:=hz.1
         refine wregI ([0] ++ ([1,2])) rfl fun K hK=>?_
         refine oSg fun L hL=>?_
         simp [C.spec_dTree,mO]
         refine wcall1 (hdz) (by simp) (by simp) ?_
         simp [C.spec_dTree,mO]
         refine hL _ ?_;clear hL L
         refine oEn fun L hL=>?_
         simp [C.spec_dTree,mO]
         refine hL _ ?_;clear hL L
         simp [C.spec_dTree,mO]
         refine hK _ ?_;clear hK K
         show AWp _ _ _ _ _
         refine wseq ?_
         refine wregI ([0,1,2] ++ ([])) rfl fun K hK=>?_
         refine oSg fun L hL=>?_
         simp [C.spec_dTree]
         refine wcall (spec_dJoin_c xs i2 h2 2 zz 0 1 3 1 p2 hx (by omega) hz.1 (by omega) (by omega) (by omega) (by omega)) (by simp) (by simp) (by simp) ?_
         rintro outs res ⟨i4,h4',d',qq,q2',rfl,rfl⟩
         simp [C.spec_dTree]
         refine hL _ ?_;clear hL L
         refine oEn fun L hL=>?_
         simp only [AOpsI]
         refine hL _ ?_;clear hL L
         simp [C.spec_dTree]
         refine hK _ ?_;clear hK K
         show AWp _ _ _ _ _
         refine wseq ?_
         refine wreg fun K hK=>?_
         simp [C.spec_dTree]
         refine hK _ ?_;clear hK K
         show AWp _ _ _ _ _
         refine wret ?_
         simp [C.spec_dTree]
         exact ⟨i4,h4',⟨2,2,d'⟩,⟨#[71,50]⟩,qq,⟨2,_,rfl,rfl,by omega,hz.join (by omega) (by omega) (by omega) (by omega) q2'⟩,rfl,by
          have hT:=hz.join (i:=0) (by omega) (by omega) (by omega) (by omega) q2'
          simp [mO,owI,hT.1,hzl]⟩
        ·have h7:¬ kb=7:=d_f hc8
         refine wseq ?_
         refine wreg fun K hK=>?_
         simp [C.spec_dTree,show ((kb:Int) == 8)=decide (kb=8) by rw [Bool.eq_iff_iff];simp <;> omega]
         refine hK _ ?_;clear hK K
         show AWp _ _ _ _ _
         refine wcond _ rfl (fun hc9=>?_) (fun hc9=>?_)
         ·have:=d_t hc9
          omega
         ·refine wseq ?_
          refine wreg fun K hK=>?_
          simp [C.spec_dTree,show ((kb:Int) == 9)=decide (kb=9) by rw [Bool.eq_iff_iff];simp <;> omega]
          refine hK _ ?_;clear hK K
          show AWp _ _ _ _ _
          refine wcond _ rfl (fun hc11=>?_) (fun hc11=>?_)
          ·have:=d_t hc11
           omega
          ·refine wseq ?_
           refine wreg fun K hK=>?_
           simp [C.spec_dTree,show ((kb:Int) == 10)=decide (kb=10) by rw [Bool.eq_iff_iff];simp <;> omega]
           refine hK _ ?_;clear hK K
           show AWp _ _ _ _ _
           refine wcond _ rfl (fun hc12=>?_) (fun hc12=>?_)
           ·refine wseq ?_
            have hz:=TrI.zero 3
            have hdz:=spec_dZero_c 3 (by omega)
            obtain ⟨zz,hzz⟩:∃ z:List Int,z=List.replicate (3*3) 0:=⟨_,rfl⟩
            rw [<-hzz] at hz hdz
            have hzl:zz.length=9:=hz.1
            refine wregI ([0] ++ ([1,2])) rfl fun K hK=>?_
            refine oSg fun L hL=>?_
            simp [C.spec_dTree,mO]
            refine wcall1 (hdz) (by simp) (by simp) ?_
            simp [C.spec_dTree,mO]
            refine hL _ ?_;clear hL L
            refine oEn fun L hL=>?_
            simp [C.spec_dTree,mO]
            refine hL _ ?_;clear hL L
            simp [C.spec_dTree,mO]
            refine hK _ ?_;clear hK K
            show AWp _ _ _ _ _
            refine wseq ?_
            refine wregI ([0,1,2] ++ ([])) rfl fun K hK=>?_
            refine oSg fun L hL=>?_
            simp [C.spec_dTree]
            refine wcall (spec_dJoin_c xs i2 h2 3 zz 0 1 1 1 p2 hx (by omega) hz.1 (by omega) (by omega) (by omega) (by omega)) (by simp) (by simp) (by simp) ?_
            rintro outs res ⟨i4,h4',d',qq,q2',rfl,rfl⟩
            simp [C.spec_dTree]
            refine hL _ ?_;clear hL L
            refine oEn fun L hL=>?_
            simp only [AOpsI]
            refine hL _ ?_;clear hL L
            simp [C.spec_dTree]
            refine hK _ ?_;clear hK K
            show AWp _ _ _ _ _
            refine wseq ?_
            refine wreg fun K hK=>?_
            simp [C.spec_dTree]
            refine hK _ ?_;clear hK K
            show AWp _ _ _ _ _
            refine wret ?_
            simp [C.spec_dTree]
            exact ⟨i4,h4',⟨3,3,d'⟩,⟨#[65,49,32,65,50]⟩,qq,⟨3,_,rfl,rfl,by omega,hz.join (by omega) (by omega) (by omega) (by omega) q2'⟩,rfl,by
             have hT:=hz.join (i:=0) (by omega) (by omega) (by omega) (by omega) q2'
             simp [mO,owI,hT.1,hzl]⟩
           ·have hfmt:=spec_FormatInt_c n (by omega)
            have hsz:(strOfNums [48+(n:Int)]).size=1:=rfl
            refine wskip ?_
            show AWp _ _ _ _ _
            refine wseq ?_
            refine wregI ([0,1] ++ ([2,3])) rfl fun K hK=>?_
            refine oSg fun L hL=>?_
            simp [C.spec_dTree,mO]
            refine wcall1 (spec_dZero_c n (by omega)) (by simp) (by simp) ?_
            simp [C.spec_dTree,mO]
            refine hL _ ?_;clear hL L
            refine oEn fun L hL=>?_
            simp [C.spec_dTree,mO]
            refine hL _ ?_;clear hL L
            simp [C.spec_dTree,mO]
            refine hK _ ?_;clear hK K
            show AWp _ _ _ _ _
            refine wseq ?_
            refine wseq ?_
            refine wreg fun K hK=>?_
            simp [C.spec_dTree]
            refine hK _ ?_;clear hK K
            show AWp _ _ _ _ _
            refine wblock ?_
            refine wloop (fun x:Nat×List Int×Nat×Int=>⟨ofL [(0,.pt (0,0) [] 0),(4,.pt (4,0) [] 0),(7,.int n),(16,.pt (16,0) [] 0),(17,.int x.1),(1000,.pt (0,0) [] 0)],ofRO [((0,0),some (cur xs x.2.2.1 x.2.2.2)),((4,0),some (.bx [D.int 0,D.int 0,.v (.slice none 0 0)])),((16,0),some (.bx [D.int n,D.int n,owI x.2.1]))]⟩) (fun x=>x.1+1<=n/\TrI n (x.1+1) x.2.1/\x.2.2.1<=xs.length) (fun x=>n - x.1) (0,List.replicate (n*n) 0,i2,h2) (by simp [C.spec_dTree,owI]) ⟨by omega,TrI.zero n,p2⟩ ?_
            intro x3 hx3 R3 hR3
            obtain ⟨j,d,i3,h3⟩:=x3
            obtain ⟨g1,g2,g3⟩:=hx3
            dsimp only at g1 g2 g3 ⊢
            have hw1:IntKind.i64.wrap ((j:Int)+1)=(j:Int)+1:=wrapOk (by omega) (by omega)
            refine wseq ?_
            refine wseq ?_
            refine wreg fun K hK=>?_
            simp [C.spec_dTree,hw1]
            refine hK _ ?_;clear hK K
            show AWp _ _ _ _ _
            refine wcond _ rfl (fun hc13=>?_) (fun hc13=>?_)
            ·have hj:j+1 < n:=by have:=hc13;simp at this;omega
             refine wskip ?_
             show AWp _ _ _ _ _
             refine wseq ?_
             refine wblock ?_
             refine wregI ([0,1,2,3,4,5] ++ ([])) rfl fun K hK=>?_
             refine oSg fun L hL=>?_
             simp [C.spec_dTree,hw1]
             refine wcall (spec_dJoin_c xs i3 h3 n d j (j+1) 1 1 g3 hx (by omega) g2.1 (by omega) (by omega) (by omega) (by omega)) (by simp) (by simp) (by simp) ?_
             rintro outs res ⟨i4,h4',d',qq,q2',rfl,rfl⟩
             simp [C.spec_dTree,hw1]
             refine hL _ ?_;clear hL L
             refine oEn fun L hL=>?_
             simp only [AOpsI]
             refine hL _ ?_;clear hL L
             simp [C.spec_dTree,hw1]
             refine hK _ ?_;clear hK K
             show AWp _ _ _ _ _
             refine wreg fun K hK=>?_
             simp [C.spec_dTree,hw1]
             refine hK _ ?_;clear hK K
             simp [C.spec_dTree]
             have hT:=g2.join (show j < j+1 by omega) (by omega) (by omega) (by omega) q2'
             refine cast (congrArg R3 ?_) (hR3 (j+1,d',i4,h4') ⟨by dsimp only;omega,hT,qq⟩ (by dsimp only;omega))
             simp [owI,hT.1,g2.1]
            ·have qq:=g3
             have hT:=g2
             refine wexit ?_
             show AWp _ _ _ _ _
             refine wseq ?_
             refine wdrawI [(true,0),(true,1),(false,2),(true,3),(false,4),(true,5)] ⟨by kernel_rfl,by kernel_rfl⟩ ([0,1,2] ++ ([3,4,5])) rfl fun K hK=>?_
             have hJ:K ⟨ofL [(4,.pt (4,0) [] 0),(5,.d (.v (.string (⟨#[65]⟩ ++ strOfNums [48+(n:Int)])))),(1000,.pt (1000,0) [] 0)],ofRO [((4,0),some (.bx [D.int n,D.int n,owI d])),((1000,0),some (cur xs i3 h3))]⟩:=by
              refine hK _ ?_;clear hK K
              show AWp _ _ _ _ _
              refine wret ?_
              simp [C.spec_dTree]
              exact ⟨i3,h3,⟨n,n,d⟩,⟨#[65]⟩ ++ strOfNums [48+(n:Int)],qq,⟨n,_,rfl,rfl,hn,hT⟩,rfl,by simp [mO]⟩
             clear hK
             simp [C.spec_dTree]
             repeat' first
              | (refine wcall1 (hfmt) ?_ (by simp) ?_;(focus (simp;done));simp [C.spec_dTree,hsz,show ByteArray.size ⟨#[65]⟩ = 1 from rfl])
              | (refine cast (congrArg K ?_) hJ;simp [owI,hT.1,g2.1];done)
              | refine And.intro ?_ ?_
     ·have h4:kb=4:=by have:=hc3;simp at this;omega
      refine wskip ?_
      exact hQc3 _ (by simp [h4])
     ·have h4:¬ kb=4:=by have:=hc3;simp at this;omega
      refine wreg fun K hK=>?_
      simp [C.spec_dTree,show ((kb:Int) == 5)=decide (kb=5) by rw [Bool.eq_iff_iff];simp <;> omega]
      refine hK _ ?_;clear hK K
      exact hQc3 _ (by simp [h4])
    ·refine wreg fun K hK=>?_
     simp [C.spec_dTree]
     refine hK _ ?_;clear hK K
     rw [ofL_padE]
     exact hQc2 _ ⟨1,0,.dead,by omega,rfl⟩
    ·refine wskip ?_
     have hno:=d_f hc2
     exact hQc2 _ ⟨ka,63,_,by omega,congrArg (fun e=>St.mk e _) (ofL_swap (x:=(63,_)) (y:=(1000,_)) (by simp) [(0,.pt (0,0) [] 0),(4,.pt (4,0) [] 0),(6,.int ka),(7,.int n)])⟩
   clear hK
   have e8:((ka:Int) == 8)=decide (ka=8):=by rw [Bool.eq_iff_iff];simp <;> omega
   have e9:((ka:Int) == 9)=decide (ka=9):=by rw [Bool.eq_iff_iff];simp <;> omega
   have e10:((ka:Int) == 10)=decide (ka=10):=by rw [Bool.eq_iff_iff];simp <;> omega
   by_cases g1:ka=8 <;> by_cases g2:ka=9 <;> by_cases g3:ka=10 <;> first
    | (exfalso;omega)
    | (simp [C.spec_dTree,g1,g2,g3,e8,e9,e10];refine cast (congrArg K ?_) hJ;simp [g1,g2,g3];done)
  ·refine wreg fun K hK=>?_
   simp [C.spec_dTree]
   refine hK _ ?_;clear hK K
   rw [ofL_padE]
   exact hQc1 _ ⟨0,0,.dead,by omega,rfl⟩
  ·refine wskip ?_
   have hno:=d_f hc1
   exact hQc1 _ ⟨kd,41,_,by omega,congrArg (fun e=>St.mk e _) (ofL_swap (x:=(41,_)) (y:=(1000,_)) (by simp) [(0,.pt (0,0) [] 0),(1,.int 3),(4,.pt (4,0) [] 0),(6,.int kd),(7,.int n)])⟩
 clear hK
 have hij:((kd:Int) == 7)=decide (kd=7):=by rw [Bool.eq_iff_iff];simp <;> omega
 by_cases g1:4<=kd <;> by_cases g2:kd<=6 <;> by_cases g3:n < 2 <;> by_cases g4:kd=7 <;> first
  | (exfalso;omega)
  | (simp [C.spec_dTree,g1,g2,g3,g4,hij,show ((4:Int)<=kd)=(4<=kd) by rw [eq_iff_iff];omega,show ((kd:Int)<=6)=(kd<=6) by rw [eq_iff_iff];omega,show ((n:Int) < 2)=(n < 2) by rw [eq_iff_iff];omega];refine cast (congrArg K ?_) hJ;simp [g1,g2,g3,g4];done)
end Go.Proofs.YtbhkonnakkhibaaGreat.Ab
namespace Go.Proofs.YtbhkonnakkhibaaGreat.Ab
open Go
set_option maxRecDepth 10000
set_option maxHeartbeats 2000000
end Go.Proofs.YtbhkonnakkhibaaGreat.Ab
namespace Go.Proofs.YtbhkonnakkhibaaGreat.Ab
open Go
def goodB (v:Int) (t:Trm):Bool:=decide ((t.e.length:Int)=v/\t.c≠0/\(-1000000<=t.c/\t.c<=1000000)/\∀ x∈t.e,-20<=x/\x<=20)
def descB:List Trm->Bool
 | a :: b :: l=>lexlt b.e a.e && descB (b :: l)
 | _=>true
def rightB (f:Lau):Bool:=decide (1<=f.v/\f.v<=8) && decide (f.ts.length<=600) && f.ts.all (goodB f.v) && descB f.ts
def mulC (f g:Lau):Lau:=⟨f.v,(nf lexlt (prodL (f.ts.map pr) (g.ts.map pr))).map tm⟩
def addC (f g:Lau):Lau:=⟨f.v,(nf lexlt (f.ts.map pr ++ g.ts.map (prk 1))).map tm⟩
def mulB (f g:Lau):Bool:=rightB f && rightB g && decide (f.v=g.v) && rightB (mulC f g)
def addB (f g:Lau):Bool:=rightB f && rightB g && decide (f.v=g.v) && rightB (addC f g)
end Go.Proofs.YtbhkonnakkhibaaGreat.Ab
namespace Go.Proofs.YtbhkonnakkhibaaGreat.Ab
open Go
end Go.Proofs.YtbhkonnakkhibaaGreat.Ab
namespace Go.Proofs.YtbhkonnakkhibaaGreat.Ab
open Go
set_option maxRecDepth 10000
set_option maxHeartbeats 2000000
end Go.Proofs.YtbhkonnakkhibaaGreat.Ab
namespace Go.Proofs.YtbhkonnakkhibaaGreat.Ab
open Go
def smSC (k:Nat) (l:List Lau):Nat->Option Lau
 | 0=>some ⟨k,[]⟩
 | m+1=>match smSC k l m with
  | some s=>if mulB (l.getD (l.length - (m+1)) zeroF) (l.getD (l.length - k+(m+1)) zeroF) && addB s (mulC (l.getD (l.length - (m+1)) zeroF) (l.getD (l.length - k+(m+1)) zeroF)) then
    some (addC s (mulC (l.getD (l.length - (m+1)) zeroF) (l.getD (l.length - k+(m+1)) zeroF))) else none
  | none=>none
def rowN (n:Nat) (nm:List Int) (i:Nat):Int:=if i < n then nm.getD i 0 else i
def renL (base:List Int) (m:Mat) (nm:List Int):Nat->List Int
 | 0=>base
 | q+1=>(renL base m nm q).set ((rowN m.n.toNat nm (q / m.n.toNat)).toNat*m.n.toNat+(nm.getD (q % m.n.toNat) 0).toNat) (m.d.getD q 0)
@[simp] theorem renL_length (base:List Int) (m:Mat) (nm:List Int):∀ q,(renL base m nm q).length=base.length
 | 0=>rfl
 | q+1=>by simp [renL,renL_length base m nm q]
end Go.Proofs.YtbhkonnakkhibaaGreat.Ab
namespace Go.Proofs.YtbhkonnakkhibaaGreat.Ab
open Go
set_option maxRecDepth 10000
set_option maxHeartbeats 2000000
theorem spec_SeedOk_c (s:Sed) (hx:s.m.d.length < 17592186044416) (hl:s.f.length < 4611686018427387904) (hf:∀ f∈s.f,SmF f):ACalls Tryz.prog F.spec_SeedOk [aS s] [] true (fun outs res=>outs=[]/\res=[.one (D.bool (decide (SeedOK s)))]):=by
 refine ACalls.of_body (C:=C.spec_SeedOk) (n:=Tryz.f77.ntmps) tabT folT Tryz.func77 rfl (by kernel_rfl) rfl (Nat.le_of_ble_eq_true rfl) (by decide) (by kernel_rfl) (by kernel_rfl) rfl (by simp) (by simp) ?_
 simp only [Tryz.f77]
 refine wseq ?_
 refine wreg fun K hK=>?_
 simp [C.spec_SeedOk,sS]
 refine hK _ ?_;clear hK K
 show AWp _ _ _ _ _
 refine wseq ?_
 refine wseq ?_
 refine wregI ([0,1,2] ++ ([3,4,5,6,7,8,9,10,11,12])) rfl fun K hK=>?_
 have hJ:K ⟨ofL [(1,.pt (1,0) [] 0),(16,.bool (!decide (MatOK s.m/\(s.f.length:Int)=s.m.r)))],ofRO [((1,0),some (.bx (sS s)))]⟩:=by
  refine hK _ ?_;clear hK K
  show AWp _ _ _ _ _
  refine wcond _ rfl (fun hc1=>?_) (fun hc1=>?_)
  ·have hr:=nd_t hc1
   have hno:¬ SeedOK s:=fun h=>hr ⟨h.1,h.2.1⟩
   refine wseq ?_
   refine wreg fun K hK=>?_
   simp [C.spec_SeedOk,sS]
   refine hK _ ?_;clear hK K
   show AWp _ _ _ _ _
   refine wret ?_
   simp [C.spec_SeedOk,sS,hno]
  ·have hr:=nd_f hc1
   refine wskip ?_
   show AWp _ _ _ _ _
   refine wseq ?_
   refine wseq ?_
   refine wreg fun K hK=>?_
   simp [C.spec_SeedOk,sS]
   refine hK _ ?_;clear hK K
   show AWp _ _ _ _ _
   refine wblock ?_
   refine wloop (fun x:Nat=>⟨ofL [(1,.pt (1,0) [] 0),(3,.int x)],ofRO [((1,0),some (.bx (sS s)))]⟩) (fun x=>x<=s.f.length/\∀ f∈s.f.take x,VarOk s.m.r f) (fun x=>s.f.length - x) 0 (by simp [C.spec_SeedOk,sS]) (by simp) ?_
   intro x1 hx1 R1 hR1
   obtain ⟨hi0,hall⟩:=hx1
   refine wseq ?_
   refine wseq ?_
   refine wreg fun K hK=>?_
   simp [C.spec_SeedOk,sS]
   refine hK _ ?_;clear hK K
   show AWp _ _ _ _ _
   refine wcond _ rfl (fun hc2=>?_) (fun hc2=>?_)
   ·have hi:x1 < s.f.length:=by have:=d_t hc2;omega
    obtain ⟨f,hfi⟩:∃ f,f=s.f[x1]:=⟨_,rfl⟩
    have hfs:=hf _ (List.getElem_mem hi)
    rw [<-hfi] at hfs
    refine wskip ?_
    show AWp _ _ _ _ _
    refine wseq ?_
    refine wblock ?_
    refine wseq ?_
    refine wdrawI [(true,0),(true,1),(true,2),(true,3),(true,4),(false,5),(true,6),(true,7),(true,8),(true,9),(true,10),(true,11),(true,12),(true,13),(true,14),(true,15),(true,16),(true,17),(true,18),(true,19),(true,20),(true,21),(true,22),(true,23),(true,24),(true,25),(true,26),(true,27),(true,28)] ⟨by kernel_rfl,by kernel_rfl⟩ ([0,1,2,3,4,5] ++ ([6,7,8,9,10,11,12,13,14,15,16,17,18,19,20,21,22,23,24,25,26,27,28])) rfl fun K hK=>?_
    have hJ:K ⟨ofL [(1,.pt (1,0) [] 0),(3,.int x1),(52,.bool (!decide (VarOk s.m.r f)))],ofRO [((1,0),some (.bx (sS s)))]⟩:=by
     refine hK _ ?_;clear hK K
     show AWp _ _ _ _ _
     refine wcond _ rfl (fun hc3=>?_) (fun hc3=>?_)
     ·have hbad:=nd_t hc3
      have hno:¬ SeedOK s:=fun h=>hbad (by rw [hfi];exact h.2.2 _ (List.getElem_mem hi))
      refine wseq ?_
      refine wreg fun K hK=>?_
      simp [C.spec_SeedOk,sS]
      refine hK _ ?_;clear hK K
      show AWp _ _ _ _ _
      refine wret ?_
      simp [C.spec_SeedOk,sS,hno]
     ·have hgood:=nd_f hc3
      refine wskip ?_
      show AWp _ _ _ _ _
      refine wreg fun K hK=>?_
      simp [C.spec_SeedOk,sS,wrap_succ (show x1 < 4611686018427387904 by omega)]
      refine hK _ ?_;clear hK K
      simp [C.spec_SeedOk,sS]
      refine cast (congrArg R1 ?_) (hR1 (x1+1) ⟨hi,fun g hg=>?_⟩ (by omega))
      ·simp [sS]
      ·rw [List.take_succ_eq_append_getElem hi] at hg
       rcases List.mem_append.1 hg with hg | hg
       ·exact hall g hg
       ·rw [List.mem_singleton,<-hfi] at hg
        rw [hg]
        exact hgood
    clear hK
    by_cases h1:Right f
    ·by_cases h2:f.v=s.m.r
     ·refine oSg fun L hL=>?_
      simp [C.spec_SeedOk,sS,hi,fS_0 hi,fS_1 hi,<-hfi,h2,h1,h2]
      refine wcall1 (spec_l2Right_c f hfs.1 hfs.2) (by simp [sS,hi,fS_0 hi,fS_1 hi,<-hfi,h2]) (by simp) ?_
      simp [C.spec_SeedOk,sS,hi,fS_0 hi,fS_1 hi,<-hfi,h2,h1,h2]
      refine hL _ ?_;clear hL L
      refine oEn fun L hL=>?_
      simp [C.spec_SeedOk,sS,hi,fS_0 hi,fS_1 hi,<-hfi,h2,h1,h2]
      refine hL _ ?_;clear hL L
      simp [C.spec_SeedOk,sS,hi,fS_0 hi,fS_1 hi,<-hfi,h2,h1,h2]
      refine cast (congrArg K ?_) hJ
      simp [VarOk,ieq0',sS,h1,h2]
     ·refine oSg fun L hL=>?_
      simp [C.spec_SeedOk,sS,hi,fS_0 hi,fS_1 hi,<-hfi,h1,h2]
      refine wcall1 (spec_l2Right_c f hfs.1 hfs.2) (by simp) (by simp) ?_
      simp [C.spec_SeedOk,sS,hi,fS_0 hi,fS_1 hi,<-hfi,h1,h2]
      refine hL _ ?_;clear hL L
      refine oEn fun L hL=>?_
      simp [C.spec_SeedOk,sS,hi,fS_0 hi,fS_1 hi,<-hfi,h1,h2]
      refine hL _ ?_;clear hL L
      simp [C.spec_SeedOk,sS,hi,fS_0 hi,fS_1 hi,<-hfi,h1,h2]
      refine cast (congrArg K ?_) hJ
      simp [VarOk,ieq0',sS,h1,h2]
    ·refine oSg fun L hL=>?_
     simp [C.spec_SeedOk,sS,hi,fS_0 hi,fS_1 hi,<-hfi,h1]
     refine wcall1 (spec_l2Right_c f hfs.1 hfs.2) (by simp) (by simp) ?_
     simp [C.spec_SeedOk,sS,hi,fS_0 hi,fS_1 hi,<-hfi,h1]
     refine hL _ ?_;clear hL L
     refine oEn fun L hL=>?_
     simp [C.spec_SeedOk,sS,hi,fS_0 hi,fS_1 hi,<-hfi,h1]
     refine hL _ ?_;clear hL L
     simp [C.spec_SeedOk,sS,hi,fS_0 hi,fS_1 hi,<-hfi,h1]
     refine cast (congrArg K ?_) hJ
     simp [VarOk,ieq0',sS,h1]
   ·have hi:x1=s.f.length:=by have:=d_f hc2;omega
    rw [hi,List.take_length] at hall
    have hyes:SeedOK s:=⟨hr.1,hr.2,hall⟩
    refine wexit ?_
    show AWp _ _ _ _ _
    refine wseq ?_
    refine wreg fun K hK=>?_
    simp [C.spec_SeedOk,sS]
    refine hK _ ?_;clear hK K
    show AWp _ _ _ _ _
    refine wret ?_
    simp [C.spec_SeedOk,sS,hyes]
 clear hK
 by_cases h1:MatOK s.m
 ·refine oSg fun L hL=>?_
  simp [C.spec_SeedOk,sS,h1]
  refine wcall1 (spec_MatrixOk_c s.m hx) (by simp) (by simp) ?_
  simp [C.spec_SeedOk,sS,h1]
  refine hL _ ?_;clear hL L
  refine oEn fun L hL=>?_
  simp [C.spec_SeedOk,sS,h1]
  refine hL _ ?_;clear hL L
  simp [C.spec_SeedOk,sS,h1]
  refine cast (congrArg K ?_) hJ
  simp [ibne,sS,h1]
 ·refine oSg fun L hL=>?_
  simp [C.spec_SeedOk,sS,h1]
  refine wcall1 (spec_MatrixOk_c s.m hx) (by simp) (by simp) ?_
  simp [C.spec_SeedOk,sS,h1]
  refine hL _ ?_;clear hL L
  refine oEn fun L hL=>?_
  simp [C.spec_SeedOk,sS,h1]
  refine hL _ ?_;clear hL L
  simp [C.spec_SeedOk,sS,h1]
  refine cast (congrArg K ?_) hJ
  simp [ibne,sS,h1]
theorem spec_l3Column_c (m:Mat) (n r k:Nat) (hn:m.n=n) (hr:m.r=r) (hS:ShM m) (hk:k < n):ACalls Tryz.prog F.spec_l3Column [.ag [.int n,.int r,.d (shI m.d)],.int k] [] true (fun outs res=>outs=[]/\res=[.one (.ow 1 r (ints (colM m r k)))]):=by
 have hnr:n<=r/\r<=8:=by have:=hS.2.1;omega
 refine ACalls.of_body (C:=C.spec_l3Column) (n:=Tryz.f61.ntmps) tabT folT Tryz.func61 rfl (by kernel_rfl) rfl (Nat.le_of_ble_eq_true rfl) (by decide) (by kernel_rfl) (by kernel_rfl) rfl (by simp) (by simp) ?_
 simp only [Tryz.f61]
 refine wseq ?_
 refine wreg fun K hK=>?_
 simp [C.spec_l3Column]
 refine hK _ ?_;clear hK K
 show AWp _ _ _ _ _
 refine wseq ?_
 refine wreg fun K hK=>?_
 simp [C.spec_l3Column]
 refine hK _ ?_;clear hK K
 show AWp _ _ _ _ _
 refine wseq ?_
 refine wseq ?_
 refine wreg fun K hK=>?_
 simp [C.spec_l3Column]
 refine hK _ ?_;clear hK K
 show AWp _ _ _ _ _
 refine wblock ?_
 refine wloop (fun x:Nat=>⟨ofL [(1,.int k),(2,.pt (2,0) [] 0),(5,.al (5,0) [] 0 x),(6,.int x)],ofRO [((2,0),some (.bx [D.int n,D.int r,shI m.d])),((5,0),some (.ow 1 x (ints (colM m x k))))]⟩) (fun x=>x<=r) (fun x=>r - x) 0 (by simp [C.spec_l3Column,colM,ints]) (by simp) ?_
 intro x1 hx1 R1 hR1
 refine wseq ?_
 refine wseq ?_
 refine wreg fun K hK=>?_
 simp [C.spec_l3Column]
 refine hK _ ?_;clear hK K
 show AWp _ _ _ _ _
 refine wcond _ rfl (fun hc1=>?_) (fun hc1=>?_)
 ·have hi:x1 < r:=by have:=d_t hc1;omega
  have hat:=spec_l1At_c m n r x1 k hn hr hS hi hk
  have hsn:ints (colM m x1 k) ++ [D.v (.int .i64 (bM m x1 k))]=ints (colM m (x1+1) k):=by simp [colM,ints,List.range_succ]
  refine wskip ?_
  show AWp _ _ _ _ _
  refine wseq ?_
  refine wblock ?_
  refine wregI ([0,1,2,3,4] ++ ([5,6,7])) rfl fun K hK=>?_
  refine oSg fun L hL=>?_
  simp [C.spec_l3Column,hsn,show (x1+1)*8<=140737488355328 by omega]
  refine wcall1 (hat) (by simp) (by simp) ?_
  simp [C.spec_l3Column,hsn,show (x1+1)*8<=140737488355328 by omega]
  refine hL _ ?_;clear hL L
  refine oEn fun L hL=>?_
  simp [C.spec_l3Column,hsn,show (x1+1)*8<=140737488355328 by omega]
  refine hL _ ?_;clear hL L
  simp [C.spec_l3Column,hsn,show (x1+1)*8<=140737488355328 by omega]
  refine hK _ ?_;clear hK K
  show AWp _ _ _ _ _
  refine wreg fun K hK=>?_
  simp [C.spec_l3Column,wrap_succ (show x1 < 4611686018427387904 by omega)]
  refine hK _ ?_;clear hK K
  simp [C.spec_l3Column]
  exact hR1 (x1+1) hi (by omega)
 ·have hi:x1=r:=by have:=d_f hc1;omega
  refine wexit ?_
  show AWp _ _ _ _ _
  refine wseq ?_
  refine wreg fun K hK=>?_
  simp [C.spec_l3Column]
  refine hK _ ?_;clear hK K
  show AWp _ _ _ _ _
  refine wret ?_
  simp [C.spec_l3Column,hi]
theorem spec_l3CopyLaurent_c (f:Lau) (hl:f.ts.length<=1000000) (he:∀ t∈f.ts,t.e.length < 17592186044416):ACalls Tryz.prog F.spec_l3CopyLaurent [aF f] [] true (fun outs res=>outs=[]/\res=[.ag (fO f)]):=by
 refine ACalls.of_body (C:=C.spec_l3CopyLaurent) (n:=Tryz.f153.ntmps) tabT folT Tryz.func153 rfl (by kernel_rfl) rfl (Nat.le_of_ble_eq_true rfl) (by decide) (by kernel_rfl) (by kernel_rfl) rfl (by simp) (by simp) ?_
 simp only [Tryz.f153]
 refine wseq ?_
 refine wreg fun K hK=>?_
 simp [C.spec_l3CopyLaurent,fS]
 refine hK _ ?_;clear hK K
 show AWp _ _ _ _ _
 refine wseq ?_
 refine wreg fun K hK=>?_
 simp [C.spec_l3CopyLaurent,fS]
 refine hK _ ?_;clear hK K
 show AWp _ _ _ _ _
 refine wseq ?_
 refine wseq ?_
 refine wreg fun K hK=>?_
 simp [C.spec_l3CopyLaurent,fS]
 refine hK _ ?_;clear hK K
 show AWp _ _ _ _ _
 refine wblock ?_
 refine wloop (fun x:Nat×List Trm=>⟨ofL [(1,.pt (1,0) [] 0),(2,.pt (2,0) [] 0),(3,.pt (3,0) [] 0),(4,.int x.1)],ofRO [((1,0),some (.bx (fS f))),((2,0),some (.bx [D.int 0,.v (.slice none 0 0)])),((3,0),some (.bx [D.int f.v,.ow 2 x.1 (rows tO x.2)]))]⟩) (fun x=>x.1<=f.ts.length/\x.2=f.ts.take x.1) (fun x=>f.ts.length - x.1) (0,[]) (by simp [C.spec_l3CopyLaurent,fS,rows]) (by simp) ?_
 intro x1 hx1 R1 hR1
 obtain ⟨j,gs⟩:=x1
 obtain ⟨hj,hg⟩:=hx1
 dsimp only at hj hg ⊢
 refine wseq ?_
 refine wseq ?_
 refine wreg fun K hK=>?_
 simp [C.spec_l3CopyLaurent,fS]
 refine hK _ ?_;clear hK K
 show AWp _ _ _ _ _
 refine wcond _ rfl (fun hc1=>?_) (fun hc1=>?_)
 ·have h1:j < f.ts.length:=by have:=d_t hc1;omega
  have hgl:gs.length=j:=by rw [hg];simp;omega
  refine wskip ?_
  show AWp _ _ _ _ _
  refine wseq ?_
  refine wblock ?_
  refine wdrawI [(true,0),(true,1),(true,2),(true,3),(true,4),(true,5),(true,6),(true,7),(true,9),(true,10),(true,11),(true,12),(true,13),(true,14),(false,8),(true,15),(false,16),(false,17),(true,18),(false,19)] ⟨by kernel_rfl,by kernel_rfl⟩ ([0,1,2,3,4,5,6,7,9,10,11,12,13,14,8] ++ ([15,16,17,18,19])) rfl fun K hK=>?_
  refine oSg fun L hL=>?_
  simp [C.spec_l3CopyLaurent,fS,h1,tS_0 h1,tS_1 h1,tO_snoc,show (j+1)*32<=140737488355328 by omega]
  refine wcall1 (spec_l1Ints_c f.ts[j].e (he _ (List.getElem_mem h1))) (by simp) (by simp) ?_
  simp [C.spec_l3CopyLaurent,fS,h1,tS_0 h1,tS_1 h1,tO_snoc,show (j+1)*32<=140737488355328 by omega]
  refine hL _ ?_;clear hL L
  refine oEn fun L hL=>?_
  simp [C.spec_l3CopyLaurent,fS,h1,tS_0 h1,tS_1 h1,tO_snoc,show (j+1)*32<=140737488355328 by omega]
  refine hL _ ?_;clear hL L
  simp [C.spec_l3CopyLaurent,fS,h1,tS_0 h1,tS_1 h1,tO_snoc,show (j+1)*32<=140737488355328 by omega]
  refine hK _ ?_;clear hK K
  show AWp _ _ _ _ _
  refine wreg fun K hK=>?_
  simp [C.spec_l3CopyLaurent,fS,wrap_succ (show j < 4611686018427387904 by omega)]
  refine hK _ ?_;clear hK K
  simp [C.spec_l3CopyLaurent,fS]
  refine cast (congrArg R1 ?_) (hR1 (j+1,gs ++ [f.ts[j]]) ⟨h1,?_⟩ (by dsimp only;omega))
  ·simp [fS]
  ·dsimp only
   rw [hg,List.take_succ_eq_append_getElem h1]
 ·have h1:j=f.ts.length:=by have:=d_f hc1;omega
  refine wexit ?_
  show AWp _ _ _ _ _
  refine wseq ?_
  refine wreg fun K hK=>?_
  simp [C.spec_l3CopyLaurent,fS]
  refine hK _ ?_;clear hK K
  show AWp _ _ _ _ _
  refine wret ?_
  simp [C.spec_l3CopyLaurent,fS,hg,h1,fO]
def optF:Option Lau->Lau×Bool
 | some p=>(p,true)
 | none=>(zeroF,false)
noncomputable def prodF (sg:Int) (fs:List Lau) (cs:List Int) (r:Nat):Lau×Bool:=optF (prodE sg fs cs (oneF r))
theorem spec_l3Product_c (fs:List Lau) (cs:List Int) (sg:Int) (r:Nat) (hsg:sg=1\/sg=-1) (hr:1<=r/\r<=8) (v:Nat) (hv8:1<=v/\v<=8) (hl:fs.length=r) (hcl:cs.length=r) (hf:∀ f∈fs,SmF f) (hv:∀ f∈fs,f.v=v) (hc8:∀ c∈cs,-8<=c/\c<=8):ACalls Tryz.prog F.spec_l3Product [.d (.sh 2 fs.length (rows fS fs)),.d (.sh 1 r (ints cs)),.int sg] [] true (fun outs res=>outs=[]/\WkRs res [.ag (fO (prodF sg fs cs v).1),.one (D.bool (prodF sg fs cs v).2)]):=by
 have h0:0 < fs.length:=by omega
 have h0v:fs[0].v=v:=hv _ (List.getElem_mem h0)
 have hos:SmallF (oneF v):=small_right (oneF_right (by omega))
 obtain ⟨goal,hgoal⟩:∃ goal,goal=prodE sg fs cs (oneF v):=⟨_,rfl⟩
 have hm:prodF sg fs cs v=optF goal:=by rw [hgoal];rfl
 refine ACalls.of_body (C:=C.spec_l3Product) (n:=Tryz.f137.ntmps) tabT folT Tryz.func137 rfl (by kernel_rfl) rfl (Nat.le_of_ble_eq_true rfl) (by decide) (by kernel_rfl) (by kernel_rfl) rfl (by simp) (by simp) ?_
 simp only [Tryz.f137]
 refine wseq ?_
 refine wreg fun K hK=>?_
 simp [C.spec_l3Product]
 refine hK _ ?_;clear hK K
 show AWp _ _ _ _ _
 refine wseq ?_
 refine wregI ([0,1,2,3,4] ++ ([5,6])) rfl fun K hK=>?_
 refine oSg fun L hL=>?_
 simp [C.spec_l3Product,h0,fS_0 h0,h0v,show (0:Int) < fs.length by omega,fO]
 refine wcall1 (spec_ConstantLaurent_c v hv8) (by simp) (by simp) ?_
 simp [C.spec_l3Product,h0,fS_0 h0,h0v,show (0:Int) < fs.length by omega,fO]
 refine hL _ ?_;clear hL L
 refine oEn fun L hL=>?_
 simp [C.spec_l3Product,h0,fS_0 h0,h0v,show (0:Int) < fs.length by omega,fO]
 refine hL _ ?_;clear hL L
 simp [C.spec_l3Product,h0,fS_0 h0,h0v,show (0:Int) < fs.length by omega,fO]
 refine hK _ ?_;clear hK K
 show AWp _ _ _ _ _
 refine wseq ?_
 refine wseq ?_
 refine wreg fun K hK=>?_
 simp [C.spec_l3Product]
 refine hK _ ?_;clear hK K
 show AWp _ _ _ _ _
 refine wblock ?_
 refine wloop (fun x:Nat×Lau=>⟨ofL [(0,.d (.sh 2 fs.length (rows fS fs))),(1,.d (.sh 1 r (ints cs))),(2,.int sg),(6,.pt (6,0) [] 0),(8,.pt (8,0) [] 0),(9,.int x.1)],ofRO [((6,0),some (.bx [D.int 0,.v (.slice none 0 0)])),((8,0),some (.bx (fO x.2)))]⟩) (fun x=>x.1<=r/\SmallF x.2/\prodE sg (fs.drop x.1) (cs.drop x.1) x.2=goal) (fun x=>r - x.1) (0,oneF v) (by simp [C.spec_l3Product,fO]) ⟨by simp,hos,by rw [hgoal];rfl⟩ ?_
 intro x1 hx1 R1 hR1
 obtain ⟨i,p⟩:=x1
 obtain ⟨hi0,hps,hpg⟩:=hx1
 dsimp only at hi0 hps hpg ⊢
 refine wseq ?_
 refine wseq ?_
 refine wreg fun K hK=>?_
 simp [C.spec_l3Product]
 refine hK _ ?_;clear hK K
 show AWp _ _ _ _ _
 refine wcond _ rfl (fun hc1=>?_) (fun hc1=>?_)
 ·have hi:i < r:=by have:=d_t hc1;omega
  have hif:i < fs.length:=by omega
  have hic:i < cs.length:=by omega
  have hstep:=prodE_step (sg:=sg) hif hic p
  rw [hpg] at hstep
  obtain ⟨f,hfi⟩:∃ f,f=fs[i]:=⟨_,rfl⟩
  obtain ⟨c,hci⟩:∃ c,c=cs[i]:=⟨_,rfl⟩
  have hfs:=hf _ (List.getElem_mem hif)
  have hcb:=hc8 _ (List.getElem_mem hic)
  rw [<-hfi] at hstep hfs
  rw [<-hci] at hstep hcb
  have hscb:-8<=sg*c/\sg*c<=8:=by rcases hsg with rfl | rfl <;> omega
  have hsc:IntKind.i64.wrap (sg*c)=sg*c:=wrapOk (by omega) (by omega)
  refine wskip ?_
  show AWp _ _ _ _ _
  refine wseq ?_
  refine wblock ?_
  refine wseq ?_
  refine wreg fun K hK=>?_
  simp [C.spec_l3Product]
  refine hK _ ?_;clear hK K
  show AWp _ _ _ _ _
  refine wblock ?_
  refine wloop (fun x:Nat×Lau=>⟨ofL [(0,.d (.sh 2 fs.length (rows fS fs))),(1,.d (.sh 1 r (ints cs))),(2,.int sg),(6,.pt (6,0) [] 0),(8,.pt (8,0) [] 0),(9,.int i),(10,.int x.1)],ofRO [((6,0),some (.bx [D.int 0,.v (.slice none 0 0)])),((8,0),some (.bx (fO x.2)))]⟩) (fun x=>x.1<=(sg*c).toNat/\SmallF x.2/\(itM f ((sg*c).toNat - x.1) x.2).bind (prodE sg (fs.drop (i+1)) (cs.drop (i+1)))=goal) (fun x=>8 - x.1) (0,p) (by simp [C.spec_l3Product,fO]) ⟨by simp,hps,hstep.symm⟩ ?_
  intro x2 hx2 R2 hR2
  obtain ⟨j,q⟩:=x2
  obtain ⟨hj0,hqs,hqg⟩:=hx2
  dsimp only at hj0 hqs hqg ⊢
  refine wseq ?_
  refine wseq ?_
  refine wreg fun K hK=>?_
  simp [C.spec_l3Product,hi,hic,hcl,get_ints,<-hci,hsc]
  refine hK _ ?_;clear hK K
  show AWp _ _ _ _ _
  refine wcond _ rfl (fun hc2=>?_) (fun hc2=>?_)
  ·have hj:(j:Int) < sg*c:=d_t hc2
   obtain ⟨t,ht⟩:∃ t,(sg*c).toNat - j=t+1:=⟨(sg*c).toNat - j - 1,by omega⟩
   rw [ht] at hqg
   simp only [itM] at hqg
   have hmul:=sMul_c q f hqs.sm'.1 hqs.sm'.2 hfs.1 hfs.2
   have hmulS:=mulF_small' q f
   obtain ⟨P,hP⟩:∃ P,P=mulF q f:=⟨_,rfl⟩
   rw [<-hP] at hqg hmul hmulS
   refine wskip ?_
   show AWp _ _ _ _ _
   refine wseq ?_
   refine wblock ?_
   refine wseq ?_
   refine wdraw (.take 0 (.take 1 (.take 2 (.take 3 (.take 4 (.all [(5,.take 6 (.take 7 (.take 8 (.all [(9,.all [(10,.take 11 (.done))])])))),(9,.all [(5,.take 6 (.take 7 (.take 8 (.all [(10,.take 11 (.done))]))))])])))))) ⟨by kernel_rfl,by kernel_rfl⟩ fun K hK=>?_
   have hJ:K ⟨ofL [(0,.d (.sh 2 fs.length (rows fS fs))),(1,.d (.sh 1 r (ints cs))),(2,.int sg),(6,.pt (6,0) [] 0),(8,.pt (8,0) [] 0),(9,.int i),(10,.int j),(11,.pt (11,0) [] 0),(12,.bool P.2)],ofRO [((6,0),some (.bx [D.int 0,.v (.slice none 0 0)])),((8,0),some (.bx (fO q))),((11,0),some (.bx (fO P.1)))]⟩:=by
    refine hK _ ?_;clear hK K
    show AWp _ _ _ _ _
    refine wseq ?_
    refine wseq ?_
    refine wreg fun K hK=>?_
    simp [C.spec_l3Product]
    refine hK _ ?_;clear hK K
    show AWp _ _ _ _ _
    refine wcond _ rfl (fun hc3=>?_) (fun hc3=>?_)
    ·have hb:P.2=false:=by simpa using hc3
     rw [hb] at hqg
     rw [<-hqg] at hm
     have hm2:prodF sg fs cs v=(zeroF,false):=hm
     refine wseq ?_
     refine wreg fun K hK=>?_
     simp [C.spec_l3Product]
     refine hK _ ?_;clear hK K
     show AWp _ _ _ _ _
     refine wret ?_
     simp [C.spec_l3Product,hm2,fO,zeroF,rows]
    ·have hb:P.2=true:=by simpa using hc3
     rw [if_pos hb] at hqg
     refine wskip ?_
     show AWp _ _ _ _ _
     refine wreg fun K hK=>?_
     simp [C.spec_l3Product,fO]
     refine hK _ ?_;clear hK K
     show AWp _ _ _ _ _
     refine wreg fun K hK=>?_
     simp [C.spec_l3Product,wrap_succ (show j < 4611686018427387904 by omega)]
     refine hK _ ?_;clear hK K
     simp [C.spec_l3Product]
     refine cast (congrArg R2 ?_) (hR2 (j+1,P.1) ⟨by dsimp only;omega,hmulS,by dsimp only;rw [show (sg*c).toNat - (j+1)=t by omega];exact hqg⟩ (by dsimp only;omega))
     simp [fO]
   clear hK
   simp [C.spec_l3Product,fO,hif,fS_0 hif,fS_1 hif,<-hfi,show (i:Int) < fs.length by omega]
   repeat' first
    | (refine wcall1 (hmul) ?_ (by simp) ?_;(focus (simp;done));simp [C.spec_l3Product,fO])
    | (refine cast (congrArg K ?_) hJ;simp [fO];done)
    | refine And.intro ?_ ?_
  ·have hj:¬ (j:Int) < sg*c:=d_f hc2
   rw [show (sg*c).toNat - j=0 by omega] at hqg
   have hqg2:prodE sg (fs.drop (i+1)) (cs.drop (i+1)) q=goal:=hqg
   refine wexit ?_
   show AWp _ _ _ _ _
   refine wreg fun K hK=>?_
   simp [C.spec_l3Product,wrap_succ (show i < 4611686018427387904 by omega)]
   refine hK _ ?_;clear hK K
   simp [C.spec_l3Product]
   exact hR1 (i+1,q) ⟨hi,hqs,hqg2⟩ (by dsimp only;omega)
 ·have hi:i=r:=by have:=d_f hc1;omega
  rw [hi,List.drop_of_length_le (by omega),List.drop_of_length_le (by omega)] at hpg
  have hm2:prodF sg fs cs v=(p,true):=by rw [hm,<-hpg];rfl
  refine wexit ?_
  show AWp _ _ _ _ _
  refine wseq ?_
  refine wreg fun K hK=>?_
  simp [C.spec_l3Product,fO]
  refine hK _ ?_;clear hK K
  show AWp _ _ _ _ _
  refine wret ?_
  simp [C.spec_l3Product,hm2,fO]
theorem sProd_c (fs:List Lau) (cs:List Int) (sg:Int) (r:Nat) (hsg:sg=1\/sg=-1) (hr:1<=r/\r<=8) (v:Nat) (hv8:1<=v/\v<=8) (hl:fs.length=r) (hcl:cs.length=r) (hf:∀ f∈fs,SmF f) (hv:∀ f∈fs,f.v=v) (hc8:∀ c∈cs,-8<=c/\c<=8):ACalls Tryz.prog F.spec_l3Product [.d (.sh 2 fs.length (rows fS fs)),.d (.sh 1 r (ints cs)),.int sg] [] true (fun outs res=>outs=[]/\res=[.ag (fO (prodF sg fs cs v).1),.one (D.bool (prodF sg fs cs v).2)]):=(spec_l3Product_c fs cs sg r hsg hr v hv8 hl hcl hf hv hc8).weak1
theorem prodE_small {sg:Int}:∀ {fs:List Lau} {cs:List Int} {p q:Lau},SmallF p->prodE sg fs cs p=some q->SmallF q
 | [],_,p,q,h,e=>by simp only [prodE,Option.some.injEq] at e;exact e ▸ h
 | _ :: _,[],p,q,h,e=>by simp only [prodE,Option.some.injEq] at e;exact e ▸ h
 | f :: fs,c :: cs,p,q,h,e=>by
  simp only [prodE] at e
  obtain ⟨z,hz,e2⟩:=Option.bind_eq_some_iff.1 e
  refine prodE_small ?_ e2
  clear e e2
  generalize (sg*c).toNat=n at hz
  induction n generalizing p with
  | zero=>simp only [itM,Option.some.injEq] at hz;exact hz ▸ h
  | succ n ih=>
   simp only [itM] at hz
   split at hz
   ·exact ih _ (mulF_small' p f) hz
   ·simp at hz
theorem prodF_small (sg:Int) (fs:List Lau) (cs:List Int) {r:Nat} (hr:1<=r/\r<=8):SmallF (prodF sg fs cs r).1:=by
 unfold prodF
 cases hp:prodE sg fs cs (oneF r) with
 | some p=>exact prodE_small (small_right (oneF_right hr)) hp
 | none=>exact small_zero
theorem spec_l3Exchange_c (fs:List Lau) (cs:List Int) (old:Lau) (r:Nat) (hr:1<=r/\r<=8) (v:Nat) (hv8:1<=v/\v<=8) (hl:fs.length=r) (hcl:cs.length=r) (hf:∀ f∈fs,SmF f) (hv:∀ f∈fs,f.v=v) (ho:SmF old):ACalls Tryz.prog F.spec_l3Exchange [.d (.sh 2 fs.length (rows fS fs)),.d (.sh 1 r (ints cs)),aF old] [] true (fun outs res=>outs=[]/\WkRs res [.ag (fO (exF fs cs v old).1),.one (D.bool (exF fs cs v old).2)]):=by
 refine ACalls.of_body (C:=C.spec_l3Exchange) (n:=Tryz.f60.ntmps) tabT folT Tryz.func60 rfl (by kernel_rfl) rfl (Nat.le_of_ble_eq_true rfl) (by decide) (by kernel_rfl) (by kernel_rfl) rfl (by simp) (by simp) ?_
 simp only [Tryz.f60]
 refine wseq ?_
 refine wreg fun K hK=>?_
 simp [C.spec_l3Exchange,fO,fS]
 refine hK _ ?_;clear hK K
 show AWp _ _ _ _ _
 refine wseq ?_
 refine wseq ?_
 refine wreg fun K hK=>?_
 simp [C.spec_l3Exchange,fO,fS]
 refine hK _ ?_;clear hK K
 show AWp _ _ _ _ _
 refine wblock ?_
 refine wloop (fun x:Nat=>⟨ofL [(0,.d (.sh 2 fs.length (rows fS fs))),(1,.d (.sh 1 r (ints cs))),(5,.pt (5,0) [] 0),(6,.pt (6,0) [] 0),(8,.int x)],ofRO [((5,0),some (.bx (fS old))),((6,0),some (.bx [D.int 0,.v (.slice none 0 0)]))]⟩) (fun x=>x<=r/\∀ c∈cs.take x,-8<=c/\c<=8) (fun x=>r - x) 0 (by simp [C.spec_l3Exchange,fS]) (by simp) ?_
 intro x1 hx1 R1 hR1
 obtain ⟨hi0,hall⟩:=hx1
 refine wseq ?_
 refine wseq ?_
 refine wreg fun K hK=>?_
 simp [C.spec_l3Exchange,fO,fS]
 refine hK _ ?_;clear hK K
 show AWp _ _ _ _ _
 refine wcond _ rfl (fun hc1=>?_) (fun hc1=>?_)
 ·have hi:x1 < r:=by have:=d_t hc1;omega
  have hic:x1 < cs.length:=by omega
  refine wskip ?_
  show AWp _ _ _ _ _
  refine wseq ?_
  refine wblock ?_
  refine wseq ?_
  refine wregI ([0,1,2,3,4] ++ ([5])) rfl fun K hK=>?_
  refine oSg fun L hL=>?_
  simp [C.spec_l3Exchange,fO,fS,hi,hic,hcl,get_ints]
  refine wcall1 (spec_l1In_c cs[x1] (-8) 8) (by simp) (by simp) ?_
  simp [C.spec_l3Exchange,fO,fS,hi,hic,hcl,get_ints]
  refine hL _ ?_;clear hL L
  refine oEn fun L hL=>?_
  simp [C.spec_l3Exchange,fO,fS,hi,hic,hcl,get_ints]
  refine hL _ ?_;clear hL L
  simp [C.spec_l3Exchange,fO,fS,hi,hic,hcl,get_ints]
  refine hK _ ?_;clear hK K
  show AWp _ _ _ _ _
  refine wcond _ rfl (fun hc2=>?_) (fun hc2=>?_)
  ·have hbad:¬ (-8<=cs[x1]/\cs[x1]<=8):=by simp at hc2;omega
   have hm:exF fs cs v old=(zeroF,false):=exF_big (List.getElem_mem hic) hbad
   refine wseq ?_
   refine wreg fun K hK=>?_
   simp [C.spec_l3Exchange,fO,fS]
   refine hK _ ?_;clear hK K
   show AWp _ _ _ _ _
   refine wret ?_
   simp [C.spec_l3Exchange,fO,fS,hm,zeroF,rows]
  ·have hgood:-8<=cs[x1]/\cs[x1]<=8:=by simp at hc2;omega
   refine wskip ?_
   show AWp _ _ _ _ _
   refine wreg fun K hK=>?_
   simp [C.spec_l3Exchange,fO,fS,wrap_succ (show x1 < 4611686018427387904 by omega)]
   refine hK _ ?_;clear hK K
   simp [C.spec_l3Exchange,fO,fS]
   refine cast (congrArg R1 ?_) (hR1 (x1+1) ⟨hi,fun c hc=>?_⟩ (by omega))
   ·simp [fS]
   ·rw [List.take_succ_eq_append_getElem hic] at hc
    rcases List.mem_append.1 hc with hc | hc
    ·exact hall c hc
    ·rw [List.mem_singleton] at hc
     rw [hc]
     exact hgood
 ·have hi:x1=r:=by have:=d_f hc1;omega
  rw [hi,List.take_of_length_le (by omega)] at hall
  have hp1:=sProd_c fs cs 1 r (.inl rfl) hr v hv8 hl hcl hf hv hall
  have hp2:=sProd_c fs cs (-1) r (.inr rfl) hr v hv8 hl hcl hf hv hall
  have hs1:=prodF_small 1 fs cs hv8
  have hs2:=prodF_small (-1) fs cs hv8
  have hm:exF fs cs v old=if (prodF 1 fs cs v).2=true/\(prodF (-1) fs cs v).2=true then (if (addF (prodF 1 fs cs v).1 1 (prodF (-1) fs cs v).1).2=true then divF (addF (prodF 1 fs cs v).1 1 (prodF (-1) fs cs v).1).1 old else (zeroF,false)) else (zeroF,false):=by
   unfold exF prodF
   rw [if_pos hall]
   cases prodE 1 fs cs (oneF v) with
   | none=>simp [optF]
   | some a=>
    cases prodE (-1) fs cs (oneF v) with
    | none=>simp [optF]
    | some b=>
     rw [if_pos (show (optF (some a)).2=true/\(optF (some b)).2=true from ⟨rfl,rfl⟩)]
     by_cases q:(addF a 1 b).2=true
     ·exact (if_pos q).trans (if_pos q).symm
     ·exact (if_neg q).trans (if_neg q).symm
  obtain ⟨P1,hP1⟩:∃ P,P=prodF 1 fs cs v:=⟨_,rfl⟩
  obtain ⟨P2,hP2⟩:∃ P,P=prodF (-1) fs cs v:=⟨_,rfl⟩
  rw [<-hP1] at hp1 hs1 hm
  rw [<-hP2] at hp2 hs2 hm
  have hadd:=sAdd_c P1.1 1 P2.1 hs1.sm'.1 hs1.sm'.2 hs2.sm'.1 hs2.sm'.2
  have hadds:=addF_small' P1.1 1 P2.1
  obtain ⟨A,hA⟩:∃ A,A=addF P1.1 1 P2.1:=⟨_,rfl⟩
  rw [<-hA] at hm hadd hadds
  have hdiv:=sDiv_c A.1 old hadds.sm'.1 hadds.sm'.2 ho.1 ho.2
  refine wexit ?_
  show AWp _ _ _ _ _
  refine wseq ?_
  refine wregI ([0,1,2] ++ ([3,4,5,6,7,8])) rfl fun K hK=>?_
  refine oSg fun L hL=>?_
  simp [C.spec_l3Exchange,fO,fS]
  refine wcall1 (hp1) (by simp) (by simp) ?_
  simp [C.spec_l3Exchange,fO,fS]
  refine hL _ ?_;clear hL L
  refine oEn fun L hL=>?_
  simp [C.spec_l3Exchange,fO,fS]
  refine hL _ ?_;clear hL L
  simp [C.spec_l3Exchange,fO,fS]
  refine hK _ ?_;clear hK K
  show AWp _ _ _ _ _
  refine wseq ?_
  refine wregI ([0,1,2] ++ ([3,4,5,6,7,8])) rfl fun K hK=>?_
  refine oSg fun L hL=>?_
  simp [C.spec_l3Exchange,fO,fS]
  refine wcall1 (hp2) (by simp) (by simp) ?_
  simp [C.spec_l3Exchange,fO,fS]
  refine hL _ ?_;clear hL L
  refine oEn fun L hL=>?_
  simp [C.spec_l3Exchange,fO,fS]
  refine hL _ ?_;clear hL L
  simp [C.spec_l3Exchange,fO,fS]
  refine hK _ ?_;clear hK K
  show AWp _ _ _ _ _
  refine wseq ?_
  refine wseq ?_
  refine wreg fun K hK=>?_
  have hJ:K ⟨ofL [(5,.pt (5,0) [] 0),(6,.pt (6,0) [] 0),(9,.pt (9,0) [] 0),(11,.pt (11,0) [] 0),(45,.bool (!(P1.2 && P2.2)))],ofRO [((5,0),some (.bx (fS old))),((6,0),some (.bx [D.int 0,.v (.slice none 0 0)])),((9,0),some (.bx (fO P1.1))),((11,0),some (.bx (fO P2.1)))]⟩:=by
   refine hK _ ?_;clear hK K
   show AWp _ _ _ _ _
   refine wcond _ rfl (fun hc3=>?_) (fun hc3=>?_)
   ·have hno:¬ (P1.2=true/\P2.2=true):=by
     rintro ⟨q1,q2⟩
     rw [q1,q2] at hc3
     simp at hc3
    rw [if_neg hno] at hm
    refine wseq ?_
    refine wreg fun K hK=>?_
    simp [C.spec_l3Exchange,fO,fS]
    refine hK _ ?_;clear hK K
    show AWp _ _ _ _ _
    refine wret ?_
    simp [C.spec_l3Exchange,fO,fS,hm,zeroF,rows]
   ·have hyes:P1.2=true/\P2.2=true:=by simpa using hc3
    rw [if_pos hyes] at hm
    refine wskip ?_
    show AWp _ _ _ _ _
    refine wseq ?_
    refine wregI ([0,1,2] ++ ([3,4,5,6,7,8])) rfl fun K hK=>?_
    refine oSg fun L hL=>?_
    simp [C.spec_l3Exchange,fO,fS]
    refine wcall1 (hadd) (by simp) (by simp) ?_
    simp [C.spec_l3Exchange,fO,fS]
    refine hL _ ?_;clear hL L
    refine oEn fun L hL=>?_
    simp [C.spec_l3Exchange,fO,fS]
    refine hL _ ?_;clear hL L
    simp [C.spec_l3Exchange,fO,fS]
    refine hK _ ?_;clear hK K
    show AWp _ _ _ _ _
    refine wseq ?_
    refine wseq ?_
    refine wreg fun K hK=>?_
    simp [C.spec_l3Exchange,fO,fS]
    refine hK _ ?_;clear hK K
    show AWp _ _ _ _ _
    refine wcond _ rfl (fun hc4=>?_) (fun hc4=>?_)
    ·have hno:¬ A.2=true:=by simpa using hc4
     rw [if_neg hno] at hm
     refine wseq ?_
     refine wreg fun K hK=>?_
     simp [C.spec_l3Exchange,fO,fS]
     refine hK _ ?_;clear hK K
     show AWp _ _ _ _ _
     refine wret ?_
     simp [C.spec_l3Exchange,fO,fS,hm,zeroF,rows]
    ·have hyesA:A.2=true:=by simpa using hc4
     rw [if_pos hyesA] at hm
     refine wskip ?_
     show AWp _ _ _ _ _
     refine wseq ?_
     refine wregI ([0,1,2] ++ ([3,4,5,6])) rfl fun K hK=>?_
     refine oSg fun L hL=>?_
     simp [C.spec_l3Exchange,fO,fS]
     refine wcall1 (hdiv) (by simp) (by simp) ?_
     simp [C.spec_l3Exchange,fO,fS]
     refine hL _ ?_;clear hL L
     refine oEn fun L hL=>?_
     simp [C.spec_l3Exchange,fO,fS]
     refine hL _ ?_;clear hL L
     simp [C.spec_l3Exchange,fO,fS]
     refine hK _ ?_;clear hK K
     show AWp _ _ _ _ _
     refine wret ?_
     simp [C.spec_l3Exchange,fO,fS,hm]
  clear hK
  by_cases h1:P1.2=true
  ·simp [C.spec_l3Exchange,fO,fS,h1]
   refine cast (congrArg K ?_) hJ
   simp [fO,fS,fO,fS,h1]
  ·simp [C.spec_l3Exchange,fO,fS,h1]
   refine cast (congrArg K ?_) hJ
   simp [fO,fS,fO,fS,h1]
theorem sEx_c (fs:List Lau) (cs:List Int) (old:Lau) (r:Nat) (hr:1<=r/\r<=8) (v:Nat) (hv8:1<=v/\v<=8) (hl:fs.length=r) (hcl:cs.length=r) (hf:∀ f∈fs,SmF f) (hv:∀ f∈fs,f.v=v) (ho:SmF old):ACalls Tryz.prog F.spec_l3Exchange [.d (.sh 2 fs.length (rows fS fs)),.d (.sh 1 r (ints cs)),aF old] [] true (fun outs res=>outs=[]/\res=[.ag (fO (exF fs cs v old).1),.one (D.bool (exF fs cs v old).2)]):=(spec_l3Exchange_c fs cs old r hr v hv8 hl hcl hf hv ho).weak1
end Go.Proofs.YtbhkonnakkhibaaGreat.Ab
namespace Go.Proofs.YtbhkonnakkhibaaGreat.Ab
open Go
set_option maxRecDepth 10000
set_option maxHeartbeats 2000000
theorem sh_dim0 {m:Mat} (h:ShM m):(m.n.toNat:Int)=m.n/\(m.r.toNat:Int)=m.r:=by
 have h1:=h.1
 have h2:=h.2.1
 omega
theorem seedF_eq {s:Sed} {k n r:Nat} (hok:SeedOK s) (hn:s.m.n=n) (hr:s.m.r=r) (hk:k < n):seedF s k=if (exF s.f (colM s.m r k) r (s.f.getD k zeroF)).2=true/\(muF s.m k).2=true then
  (⟨(muF s.m k).1,s.f.set k (exF s.f (colM s.m r k) r (s.f.getD k zeroF)).1⟩,true) else (zeroS,false):=by
 unfold seedF
 rw [show s.m.r.toNat=r by omega,Int.toNat_natCast]
 by_cases q:(exF s.f (colM s.m r k) r (s.f.getD k zeroF)).2=true/\(muF s.m k).2=true
 ·rw [if_pos ⟨hok,by omega,q⟩,if_pos q]
 ·rw [if_neg (fun h=>q h.2.2),if_neg q]
  rfl
noncomputable def seedG (s:Sed) (r k:Nat):Sed×Bool:=if (exF s.f (colM s.m r k) r (s.f.getD k zeroF)).2=true/\(muF s.m k).2=true then
  (⟨(muF s.m k).1,s.f.set k (exF s.f (colM s.m r k) r (s.f.getD k zeroF)).1⟩,true) else (zeroS,false)
theorem spec_l3Mutate_c (s:Sed) (k n r:Nat) (hn:s.m.n=n) (hr:s.m.r=r) (hS:ShM s.m) (hfl:s.f.length=r) (hfs:∀ f∈s.f,SmallF f) (hfv:∀ f∈s.f,f.v=r) (hkn:k < n):ACalls Tryz.prog F.spec_l3Mutate [aS s,.int k] [] true (fun outs res=>outs=[]/\WkRs res [.ag (sO (seedG s r k).1),.one (D.bool (seedG s r k).2)]):=by
 have hn5:1<=n/\n<=5:=by have:=hS.1;omega
 have hnr:n<=r/\r<=8:=by have:=hS.2.1;omega
 have hx:s.m.d.length < 17592186044416:=by
  have h1:=hS.2.2.1
  rw [hn,hr] at h1
  have:n*r<=5*8:=Nat.mul_le_mul hn5.2 hnr.2
  have e:(n:Int)*r=((n*r:Nat):Int):=by simp
  omega
 have hkl:k < s.f.length:=by omega
 have hkg:s.f[k]=s.f.getD k zeroF:=by simp [List.getD_eq_getElem?_getD,hkl]
 have hold:=(hfs _ (List.getElem_mem hkl)).sm'
 rw [hkg] at hold
 have hcol:=spec_l3Column_c s.m n r k hn hr hS hkn
 have hex:=sEx_c s.f (colM s.m r k) (s.f.getD k zeroF) r (by omega) r (by omega) hfl (by simp) (fun f hm=>(hfs f hm).sm') hfv hold
 have hmu:=sMu_c s.m k hx
 have hm:seedG s r k=if (exF s.f (colM s.m r k) r (s.f.getD k zeroF)).2=true/\(muF s.m k).2=true then
   (⟨(muF s.m k).1,s.f.set k (exF s.f (colM s.m r k) r (s.f.getD k zeroF)).1⟩,true) else (zeroS,false):=rfl
 obtain ⟨E,hE⟩:∃ E,E=exF s.f (colM s.m r k) r (s.f.getD k zeroF):=⟨_,rfl⟩
 obtain ⟨M,hM⟩:∃ M,M=muF s.m k:=⟨_,rfl⟩
 rw [<-hE] at hex hm
 rw [<-hM] at hmu hm
 clear hE hM
 obtain ⟨old,holde⟩:∃ old,old=s.f.getD k zeroF:=⟨_,rfl⟩
 rw [<-holde] at hex hkg
 have haM:aM s.m = .ag [.int n,.int r,.d (shI s.m.d)]:=by rw [<-hn,<-hr]
 rw [haM] at hmu
 refine ACalls.of_body (C:=C.spec_l3Mutate) (n:=Tryz.f79.ntmps) tabT folT Tryz.func79 rfl (by kernel_rfl) rfl (Nat.le_of_ble_eq_true rfl) (by decide) (by kernel_rfl) (by kernel_rfl) rfl (by simp) (by simp) ?_
 simp only [Tryz.f79]
 refine wseq ?_
 refine wreg fun K hK=>?_
 simp [C.spec_l3Mutate,sS]
 refine hK _ ?_;clear hK K
 show AWp _ _ _ _ _
 refine wseq ?_
 refine wregI ([0,1,2,3] ++ ([4,5,6,7,8,9])) rfl fun K hK=>?_
 refine oSg fun L hL=>?_
 simp [C.spec_l3Mutate,sS,hn,hr,mO]
 refine wcall1 (hmu) (by simp) (by simp) ?_
 simp [C.spec_l3Mutate,sS,hn,hr,mO]
 refine hL _ ?_;clear hL L
 refine oEn fun L hL=>?_
 simp [C.spec_l3Mutate,sS,hn,hr,mO]
 refine hL _ ?_;clear hL L
 simp [C.spec_l3Mutate,sS,hn,hr,mO]
 refine hK _ ?_;clear hK K
 show AWp _ _ _ _ _
 refine wseq ?_
 refine wdraw (.take 0 (.take 1 (.take 2 (.take 3 (.take 4 (.take 6 (.take 7 (.take 8 (.take 9 (.take 10 (.all [(5,.all [(11,.take 12 (.take 13 (.take 14 (.all [(15,.all [(16,.take 17 (.done))])])))),(15,.all [(11,.take 12 (.take 13 (.take 14 (.all [(16,.take 17 (.done))]))))])]),(15,.all [(5,.all [(11,.take 12 (.take 13 (.take 14 (.all [(16,.take 17 (.done))]))))])])]))))))))))) ⟨by kernel_rfl,by kernel_rfl⟩ fun K hK=>?_
 have hJ:K ⟨ofL [(1,.int k),(2,.pt (2,0) [] 0),(4,.pt (4,0) [] 0),(6,.pt (6,0) [] 0),(7,.bool M.2),(8,.pt (8,0) [] 0),(9,.bool E.2)],ofRO [((2,0),some (.bx (sS s))),((4,0),some (.bx [D.int 0,D.int 0,.v (.slice none 0 0),.v (.slice none 0 0)])),((6,0),some (.bx (mO M.1))),((8,0),some (.bx (fO E.1)))]⟩:=by
  refine hK _ ?_;clear hK K
  show AWp _ _ _ _ _
  refine wseq ?_
  refine wseq ?_
  refine wreg fun K hK=>?_
  have hJ:K ⟨ofL [(1,.int k),(2,.pt (2,0) [] 0),(4,.pt (4,0) [] 0),(6,.pt (6,0) [] 0),(8,.pt (8,0) [] 0),(39,.bool (!(M.2 && E.2)))],ofRO [((2,0),some (.bx (sS s))),((4,0),some (.bx [D.int 0,D.int 0,.v (.slice none 0 0),.v (.slice none 0 0)])),((6,0),some (.bx (mO M.1))),((8,0),some (.bx (fO E.1)))]⟩:=by
   refine hK _ ?_;clear hK K
   show AWp _ _ _ _ _
   refine wcond _ rfl (fun hc1=>?_) (fun hc1=>?_)
   ·have hno:¬ (E.2=true/\M.2=true):=by
     rintro ⟨q1,q2⟩
     rw [q1,q2] at hc1
     simp at hc1
    rw [if_neg hno] at hm
    refine wseq ?_
    refine wreg fun K hK=>?_
    simp [C.spec_l3Mutate,sS]
    refine hK _ ?_;clear hK K
    show AWp _ _ _ _ _
    refine wret ?_
    simp [C.spec_l3Mutate,sS,hm,sO,zeroS,ints,rows]
   ·have hyes:E.2=true/\M.2=true:=by have:=hc1;simp at this;exact ⟨this.2,this.1⟩
    rw [if_pos hyes] at hm
    refine wskip ?_
    show AWp _ _ _ _ _
    refine wseq ?_
    refine wreg fun K hK=>?_
    simp [C.spec_l3Mutate,sS,mO]
    refine hK _ ?_;clear hK K
    show AWp _ _ _ _ _
    refine wseq ?_
    refine wseq ?_
    refine wreg fun K hK=>?_
    simp [C.spec_l3Mutate,sS]
    refine hK _ ?_;clear hK K
    show AWp _ _ _ _ _
    refine wblock ?_
    refine wloopW (fun x:Nat×List Lau=>⟨ofL [(1,.int k),(2,.pt (2,0) [] 0),(4,.pt (4,0) [] 0),(8,.pt (8,0) [] 0),(10,.pt (10,0) [] 0),(11,.int x.1)],ofRO [((2,0),some (.bx (sS s))),((4,0),some (.bx [D.int 0,D.int 0,.v (.slice none 0 0),.v (.slice none 0 0)])),((8,0),some (.bx (fO E.1))),((10,0),some (.bx [D.int M.1.n,D.int M.1.r,owI M.1.d,.ow 2 x.1 (rows fO x.2)]))]⟩) (fun x=>x.1<=s.f.length/\x.2=s.f.take x.1) (fun x=>s.f.length - x.1) (0,[]) [.cell (10,0) [] 3 2] (by simp [C.spec_l3Mutate,rows,sS,fO];(first | (constructor <;> funext t) | funext t) <;> simp only [ofL,ofRO] <;> (repeat' (first | rfl | split)) <;> simp_all) (by simp) ?_
    intro x1 hx1 R1 hR1
    obtain ⟨j,gs⟩:=x1
    obtain ⟨hj,hg⟩:=hx1
    dsimp only at hj hg ⊢
    refine wseq ?_
    refine wseq ?_
    refine wreg fun K hK=>?_
    simp [C.spec_l3Mutate,sS]
    refine hK _ ?_;clear hK K
    show AWp _ _ _ _ _
    refine wcond _ rfl (fun hc2=>?_) (fun hc2=>?_)
    ·have h1:j < s.f.length:=by have:=d_t hc2;omega
     have hgl:gs.length=j:=by rw [hg];simp;omega
     have hcj:=hfs _ (List.getElem_mem h1)
     refine wskip ?_
     show AWp _ _ _ _ _
     refine wseq ?_
     refine wblock ?_
     refine wdrawI [(true,0),(true,1),(true,2),(true,3),(true,4),(true,5),(true,6),(false,7),(false,8),(false,9),(true,10),(false,11)] ⟨by kernel_rfl,by kernel_rfl⟩ ([0,1,2,3,4,5,6,7] ++ ([8,9,10,11])) rfl fun K hK=>?_
     refine oSg fun L hL=>?_
     simp [C.spec_l3Mutate,sS,h1,fS_0 h1,fS_1 h1,fO,fO_snoc,show (j:Int) < s.f.length by omega,show (j+1)*32<=140737488355328 by omega]
     refine wcall1 (spec_l3CopyLaurent_c s.f[j] (by have:=hcj.1;omega) (fun t ht=>by have:=hcj.2.1 t ht;omega)) (by simp) (by simp) ?_
     simp [C.spec_l3Mutate,sS,h1,fS_0 h1,fS_1 h1,fO,fO_snoc,show (j:Int) < s.f.length by omega,show (j+1)*32<=140737488355328 by omega]
     refine hL _ ?_;clear hL L
     refine oEn fun L hL=>?_
     simp [C.spec_l3Mutate,sS,h1,fS_0 h1,fS_1 h1,fO,fO_snoc,show (j:Int) < s.f.length by omega,show (j+1)*32<=140737488355328 by omega]
     refine hL _ ?_;clear hL L
     simp [C.spec_l3Mutate,sS,h1,fS_0 h1,fS_1 h1,fO,fO_snoc,show (j:Int) < s.f.length by omega,show (j+1)*32<=140737488355328 by omega]
     refine hK _ ?_;clear hK K
     show AWp _ _ _ _ _
     refine wreg fun K hK=>?_
     simp [C.spec_l3Mutate,sS,wrap_succ (show j < 4611686018427387904 by omega)]
     refine hK _ ?_;clear hK K
     simp [C.spec_l3Mutate,sS]
     refine cast (congrArg R1 ?_) (hR1 (j+1,gs ++ [s.f[j]]) ⟨h1,?_⟩ (by dsimp only;omega))
     ·simp [sS,fO]
     ·dsimp only
      rw [hg,List.take_succ_eq_append_getElem h1]
    ·have h1:j=s.f.length:=by have:=d_f hc2;omega
     rw [h1,List.take_length] at hg
     refine wexit ?_
     show AWp _ _ _ _ _
     refine wseq ?_
     refine wreg fun K hK=>?_
     simp [C.spec_l3Mutate,sS,fO,hg,h1,hkl,show (k:Int) < s.f.length by omega,fO_0 hkl,fO_1 hkl,fO_set2]
     refine hK _ ?_;clear hK K
     show AWp _ _ _ _ _
     refine wseq ?_
     refine wreg fun K hK=>?_
     simp [C.spec_l3Mutate,sS,h1,hg]
     refine hK _ ?_;clear hK K
     show AWp _ _ _ _ _
     refine wret ?_
     simp [C.spec_l3Mutate,sS,hm,sO]
  clear hK
  by_cases h1:M.2=true
  ·simp [C.spec_l3Mutate,sS,h1]
   refine cast (congrArg K ?_) hJ
   simp [fO,mO,sS,sS,h1]
  ·simp [C.spec_l3Mutate,sS,h1]
   refine cast (congrArg K ?_) hJ
   simp [fO,mO,sS,sS,h1]
 clear hK
 simp [C.spec_l3Mutate,hn,hr,sS,fS_0 hkl,fS_1 hkl,hkl,hkg,show (k:Int) < s.f.length by omega]
 repeat' first
  | (refine wcall1 (hcol) ?_ (by simp) ?_;(focus (simp;done));simp [C.spec_l3Mutate,fO])
  | (refine wcall1 (hex) ?_ (by simp) ?_;(focus (simp;done));simp [C.spec_l3Mutate,fO])
  | (refine cast (congrArg K ?_) hJ;simp [fO,mO,sS,hn,hr];done)
  | refine And.intro ?_ ?_
theorem sMt_c (s:Sed) (k:Nat) (hx:s.m.d.length < 17592186044416) (hok:SeedOK s) (hk:(k:Int) < s.m.n):ACalls Tryz.prog F.spec_l3Mutate [aS s,.int k] [] true (fun outs res=>outs=[]/\res=[.ag (sO (seedF s k).1),.one (D.bool (seedF s k).2)]):=by
 have hS:=hok.1.1
 obtain ⟨hd1,hd2⟩:=sh_dim0 hS
 have hgd:=GdS.ok hok
 have h:=(spec_l3Mutate_c s k s.m.n.toNat s.m.r.toNat hd1.symm hd2.symm hS (by have:=hok.2.1;omega) hgd.2.2 (fun f hm=>(hok.2.2 f hm).2.2.trans hd2.symm) (by omega)).weak1
 have e:seedG s s.m.r.toNat k=seedF s k:=(seedF_eq hok hd1.symm hd2.symm (by omega)).symm
 rw [e] at h
 exact h
theorem spec_MutateSeed_c (s:Sed) (k:Int) (hx:s.m.d.length < 17592186044416) (hl:s.f.length < 4611686018427387904) (hf:∀ f∈s.f,SmF f):ACalls Tryz.prog F.spec_MutateSeed [aS s,.int k] [] true (fun outs res=>outs=[]/\WkRs res [.ag (sO (seedF s k).1),.one (D.bool (seedF s k).2)]):=by
 refine ACalls.of_body (C:=C.spec_MutateSeed) (n:=Tryz.f24.ntmps) tabT folT Tryz.func24 rfl (by kernel_rfl) rfl (Nat.le_of_ble_eq_true rfl) (by decide) (by kernel_rfl) (by kernel_rfl) rfl (by simp) (by simp) ?_
 simp only [Tryz.f24]
 refine wseq ?_
 refine wreg fun K hK=>?_
 simp [C.spec_MutateSeed,sS]
 refine hK _ ?_;clear hK K
 show AWp _ _ _ _ _
 refine wseq ?_
 refine wseq ?_
 refine wregI ([0,1] ++ ([2,3,4,5,6,7,8,9] ++ ([10,11]))) rfl fun K hK=>?_
 have hJ:K ⟨ofL [(1,.int k),(2,.pt (2,0) [] 0),(4,.pt (4,0) [] 0),(17,.bool (!decide (SeedOK s/\(0<=k/\k < s.m.n))))],ofRO [((2,0),some (.bx (sS s))),((4,0),some (.bx [D.int 0,D.int 0,.v (.slice none 0 0),.v (.slice none 0 0)]))]⟩:=by
  refine hK _ ?_;clear hK K
  show AWp _ _ _ _ _
  refine wcond _ rfl (fun hc1=>?_) (fun hc1=>?_)
  ·have hr:=nd_t hc1
   have hm:seedF s k=(⟨⟨0,0,[]⟩,[]⟩,false):=if_neg (fun h=>hr ⟨h.1,h.2.1⟩)
   refine wseq ?_
   refine wreg fun K hK=>?_
   simp [C.spec_MutateSeed,sS]
   refine hK _ ?_;clear hK K
   show AWp _ _ _ _ _
   refine wret ?_
   simp [C.spec_MutateSeed,sS,hm,sO,ints,rows]
  ·have hr:=nd_f hc1
   obtain ⟨hok,hk⟩:=hr
   obtain ⟨k,rfl⟩:∃ j:Nat,k=j:=⟨k.toNat,by omega⟩
   refine wskip ?_
   show AWp _ _ _ _ _
   refine wseq ?_
   refine wregI ([0,1,2] ++ ([3,4,5,6])) rfl fun K hK=>?_
   refine oSg fun L hL=>?_
   simp [C.spec_MutateSeed,sS,sO]
   refine wcall1 (sMt_c s k hx hok hk.2) (by simp) (by simp) ?_
   simp [C.spec_MutateSeed,sS,sO]
   refine hL _ ?_;clear hL L
   refine oEn fun L hL=>?_
   simp [C.spec_MutateSeed,sS,sO]
   refine hL _ ?_;clear hL L
   simp [C.spec_MutateSeed,sS,sO]
   refine hK _ ?_;clear hK K
   show AWp _ _ _ _ _
   refine wret ?_
   simp [C.spec_MutateSeed,sS,sO]
 clear hK
 by_cases h1:SeedOK s
 ·have hwn:IntKind.i64.wrap (s.m.n - 1)=s.m.n - 1:=by have:=h1.1.1.1;exact wrapOk (by omega) (by omega)
  have hle:∀ x:Int,(x<=s.m.n - 1)=(x < s.m.n):=fun x=>by rw [eq_iff_iff];omega
  refine oSg fun L hL=>?_
  simp [C.spec_MutateSeed,sS,hwn,hle,h1]
  refine wcall1 (spec_SeedOk_c s hx hl hf) (by simp) (by simp) ?_
  simp [C.spec_MutateSeed,sS,hwn,hle,h1]
  refine hL _ ?_;clear hL L
  refine oSg fun L hL=>?_
  simp [C.spec_MutateSeed,sS,hwn,hle,h1]
  refine wcall1 (spec_l1In_c k 0 (s.m.n - 1)) (by simp) (by simp) ?_
  simp [C.spec_MutateSeed,sS,hwn,hle,h1]
  refine hL _ ?_;clear hL L
  refine oEn fun L hL=>?_
  simp [C.spec_MutateSeed,sS,hwn,hle,h1]
  refine hL _ ?_;clear hL L
  simp [C.spec_MutateSeed,sS,hwn,hle,h1]
  refine cast (congrArg K ?_) hJ
  simp [Bool.not_and,sS,h1]
 ·refine oSg fun L hL=>?_
  simp [C.spec_MutateSeed,sS,h1]
  refine wcall1 (spec_SeedOk_c s hx hl hf) (by simp) (by simp) ?_
  simp [C.spec_MutateSeed,sS,h1]
  refine hL _ ?_;clear hL L
  refine oSg fun L hL=>?_
  simp [C.spec_MutateSeed,sS,h1]
  refine hL _ ?_;clear hL L
  refine oEn fun L hL=>?_
  simp [C.spec_MutateSeed,sS,h1]
  refine hL _ ?_;clear hL L
  simp [C.spec_MutateSeed,sS,h1]
  refine cast (congrArg K ?_) hJ
  simp [Bool.not_and,sS,h1]
theorem sMs_c (s:Sed) (k:Int) (hx:s.m.d.length < 17592186044416) (hl:s.f.length < 4611686018427387904) (hf:∀ f∈s.f,SmF f):ACalls Tryz.prog F.spec_MutateSeed [aS s,.int k] [] true (fun outs res=>outs=[]/\res=[.ag (sO (seedF s k).1),.one (D.bool (seedF s k).2)]):=(spec_MutateSeed_c s k hx hl hf).weak1
end Go.Proofs.YtbhkonnakkhibaaGreat.Ab
namespace Go.Proofs.YtbhkonnakkhibaaGreat.Ab
open Go
set_option maxRecDepth 10000
set_option maxHeartbeats 2000000
def fZ:Option Lau->List D
 | none=>[D.int 0,.v (.slice none 0 0)]
 | some f=>fO f
theorem fZ_two (t:Option Lau):(fZ t).length=2:=by cases t <;> rfl
@[simp] theorem fZ_length (l:List (Option Lau)):(rows fZ l).length=2*l.length:=rows_length fZ_two l
end Go.Proofs.YtbhkonnakkhibaaGreat.Ab
namespace Go.Proofs.YtbhkonnakkhibaaGreat.Ab
open Go
theorem gds_sms {s:Sed} (h:GdS s):SmS s:=⟨by have:=h.1;omega,by have:=h.2.1;omega,fun f hf=>(h.2.2 f hf).sm'⟩
end Go.Proofs.YtbhkonnakkhibaaGreat.Ab
namespace Go.Proofs.YtbhkonnakkhibaaGreat.Ab
open Go
set_option maxRecDepth 10000
set_option maxHeartbeats 2000000
end Go.Proofs.YtbhkonnakkhibaaGreat.Ab
namespace Go.Proofs.YtbhkonnakkhibaaGreat.Ab
open Go
set_option maxRecDepth 10000
set_option maxHeartbeats 2000000
theorem vars_fpv {n:Nat} (hn:1<=n/\n<=8):∀ f∈varsL n,VarOk n f:=by
 intro f hf
 simp only [varsL,List.mem_map,List.mem_range] at hf
 obtain ⟨i,hi,rfl⟩:=hf
 have hl:=unitL_length n i
 have hr:Right ⟨(unitL n i).length,[⟨unitL n i,1⟩]⟩:=mono_right.2 ⟨by rw [hl];omega,by
  rw [okE_iff]
  exact ⟨rfl,fun x hx=>by rcases unitL_mem hx with rfl | rfl <;> omega⟩⟩
 unfold monoF
 rw [if_pos hr]
 exact ⟨hr,by simp,by simp [hl]⟩
end Go.Proofs.YtbhkonnakkhibaaGreat.Ab
namespace Go.Proofs.YtbhkonnakkhibaaGreat.Ab
open Go
set_option maxRecDepth 10000
set_option maxHeartbeats 2000000
theorem laws_matrices_c (a b:Mat) (hx:a.d.length < 4611686018427387904):ACalls Tryz.prog F.laws_matrices [aM a,aM b] [] true (fun outs res=>outs=[]/\res=[.one (D.bool (decide (a=b)))]):=by
 refine ACalls.of_body (C:=C.laws_matrices) (n:=Tryz.f55.ntmps) tabT folT Tryz.func55 rfl (by kernel_rfl) rfl (Nat.le_of_ble_eq_true rfl) (by decide) (by kernel_rfl) (by kernel_rfl) rfl (by simp) (by simp) ?_
 simp only [Tryz.f55]
 refine wseq ?_
 refine wreg fun K hK=>?_
 simp [C.laws_matrices]
 refine hK _ ?_;clear hK K
 show AWp _ _ _ _ _
 refine wseq ?_
 refine wregI ([0,1,2,3,4,5,6,7,8,9,10,11,12,13,14,15,16,17] ++ ([18,19])) rfl fun K hK=>?_
 have hJ:K ⟨ofL [(4,.bool (decide (a=b)))],ofRO []⟩:=by
  refine hK _ ?_;clear hK K
  show AWp _ _ _ _ _
  refine wret ?_
  simp [C.laws_matrices]
 clear hK
 by_cases h1:a.n=b.n
 ·by_cases h2:a.r=b.r
  ·refine oSg fun L hL=>?_
   simp [C.laws_matrices,h1,h2]
   refine wcall1 (laws_ints_c a.d b.d hx) (by simp) (by simp) ?_
   simp [C.laws_matrices,h1,h2]
   refine hL _ ?_;clear hL L
   refine oEn fun L hL=>?_
   simp [C.laws_matrices,h1,h2]
   refine hL _ ?_;clear hL L
   simp [C.laws_matrices,h1,h2]
   refine cast (congrArg K ?_) hJ
   simp [mat_eq,h1,h2]
  ·refine oSg fun L hL=>?_
   simp [C.laws_matrices,h1,h2]
   refine hL _ ?_;clear hL L
   refine oEn fun L hL=>?_
   simp [C.laws_matrices,h1,h2]
   refine hL _ ?_;clear hL L
   simp [C.laws_matrices,h1,h2]
   refine cast (congrArg K ?_) hJ
   simp [mat_eq,h1,h2]
 ·refine oSg fun L hL=>?_
  simp [C.laws_matrices,h1]
  refine hL _ ?_;clear hL L
  refine oEn fun L hL=>?_
  simp [C.laws_matrices,h1]
  refine hL _ ?_;clear hL L
  simp [C.laws_matrices,h1]
  refine cast (congrArg K ?_) hJ
  simp [mat_eq,h1]
end Go.Proofs.YtbhkonnakkhibaaGreat.Ab
namespace Go.Proofs.YtbhkonnakkhibaaGreat.Ab
open Go
set_option maxRecDepth 10000
set_option maxHeartbeats 2000000
theorem renL_step {base:List Int} {m:Mat} {nm:List Int} {n i j rw y:Nat} (hn:m.n=n) (hj:j < n) (h1:(rowN n nm i).toNat=rw) (h2:nm.getD j 0=(y:Int)):renL base m nm (i*n+j+1)=(renL base m nm (i*n+j)).set (rw*n+y) (bM m i j):=by
 have en:m.n.toNat=n:=by omega
 have e1:(i*n+j) / n=i:=by rw [Nat.mul_comm,Nat.mul_add_div (by omega),Nat.div_eq_of_lt hj,Nat.add_zero]
 have e2:(i*n+j) % n=j:=by rw [Nat.mul_comm,Nat.mul_add_mod,Nat.mod_eq_of_lt hj]
 simp only [renL,en,e1,e2,h1,h2,Int.toNat_natCast]
 rw [show m.d.getD (i*n+j) 0=bM m i j by simp [bM,g0,en]]
theorem rowN_bd {n r:Nat} {nm:List Int} {i:Nat} (hl:nm.length=n) (hb:∀ x∈nm,0<=x/\x < n) (hnr:n<=r) (hi:i < r):rowN n nm i=(((rowN n nm i).toNat:Nat):Int)/\(rowN n nm i).toNat < r:=by
 unfold rowN
 split
 ·rename_i h
  have e:nm.getD i 0=nm[i]'(by omega):=by simp [List.getD_eq_getElem?_getD,show i < nm.length by omega]
  have:=hb _ (List.getElem_mem (show i < nm.length by omega))
  rw [e]
  omega
 ·omega
end Go.Proofs.YtbhkonnakkhibaaGreat.Ab
namespace Go.Proofs.YtbhkonnakkhibaaGreat.Ab
open Go
set_option maxRecDepth 10000
set_option maxHeartbeats 4000000
attribute [local simp] cur
theorem renL_bd {base:List Int} {m:Mat} {nm:List Int} (hb:∀ x∈base,-99<=x/\x<=99) (hm:∀ x∈m.d,-99<=x/\x<=99):∀ (q:Nat),∀ x∈renL base m nm q,-99<=x/\x<=99
 | 0,x,h=>hb x h
 | q+1,x,h=>by
  simp only [renL] at h
  rcases List.mem_or_eq_of_mem_set h with h | rfl
  ·exact renL_bd hb hm q x h
  ·rw [List.getD_eq_getElem?_getD]
   by_cases g:q < m.d.length
   ·rw [List.getElem?_eq_getElem g]
    exact hm _ (List.getElem_mem g)
   ·rw [List.getElem?_eq_none (by omega)]
    simp
theorem TreeM.sh {m:Mat} (h:TreeM m):∃ n:Nat,m.n=n/\m.r=n/\(1<=n/\n<=3)/\ShM m:=by
 obtain ⟨n,k,h1,h2,h3,h4⟩:=h
 refine ⟨n,h1,h2,h3,by omega,by omega,?_,fun x hx=>by have:=h4.2 x hx;omega⟩
 rw [h4.1,h1,h2]
 simp
def wX (b:Bool) (n:Nat):FV:=if b=true then .al (3,0) [2] 0 n else .dead
def SqM (m:Mat):Prop:=∃ n:Nat,m.n=n/\m.r=n/\(1<=n/\n<=3)/\ShM m
def DrawMX (xs:List Int) (L:Nat) (outs:List D) (res:List RV):Prop:=∃ (i':Nat) (h':Int) (m:Mat) (o:D),i'<=xs.length/\SqM m/\(o = .gone\/∃ l:List Int,l.length=L/\o = .ow 1 L (ints l))/\outs=[cur xs i' h',o]/\res=[.ag (mO m)]
def DrawMT (xs:List Int) (outs:List D) (res:List RV):Prop:=∃ (i':Nat) (h':Int) (m:Mat) (s:ByteArray),i'<=xs.length/\SqM m/\outs=[cur xs i' h']/\res=[.ag (mO m),.one (.v (.string s))]
theorem spec_dNames_c (xs:List Int) (i:Nat) (h:Int) (n:Nat) (hi:i<=xs.length) (hx:xs.length<=1048576) (hn:n<=8):ACalls Tryz.prog F.spec_dNames [.pt (0,0) [] 0,.int n] [((0,0),cur xs i h)] false (DrawE xs (fun e=>e.length=n/\∀ x∈e,0<=x/\x < n)):=by
 refine ACalls.of_body (C:=C.spec_dNames) (n:=Tryz.f240.ntmps) tabT folT Tryz.func240 rfl (by kernel_rfl) rfl (Nat.le_of_ble_eq_true rfl) (by decide) (by kernel_rfl) (by kernel_rfl) rfl (by simp) (by simp) ?_
 simp only [Tryz.f240]
 refine wseq ?_
 refine wreg fun K hK=>?_
 simp [C.spec_dNames]
 refine hK _ ?_;clear hK K
 show AWp _ _ _ _ _
 refine wseq ?_
 refine wreg fun K hK=>?_
 simp [C.spec_dNames]
 refine hK _ ?_;clear hK K
 show AWp _ _ _ _ _
 refine wseq ?_
 refine wseq ?_
 refine wreg fun K hK=>?_
 simp [C.spec_dNames]
 refine hK _ ?_;clear hK K
 show AWp _ _ _ _ _
 refine wblock ?_
 refine wloop (fun x:Nat×List Int×Nat×Int=>⟨ofL [(0,.pt (0,0) [] 0),(1,.int n),(5,.al (5,0) [] 0 x.1),(6,.int x.1),(1000,.pt (0,0) [] 0)],ofRO [((0,0),some (cur xs x.2.2.1 x.2.2.2)),((5,0),some (.ow 1 x.1 (ints x.2.1)))]⟩) (fun x=>x.1<=n/\x.2.1.length=x.1/\(∀ y∈x.2.1,0<=y/\y < n)/\x.2.2.1<=xs.length) (fun x=>n - x.1) (0,[],i,h) (by simp [C.spec_dNames,ints]) ⟨by simp,rfl,by simp,hi⟩ ?_
 intro x1 hx1 R1 hR1
 obtain ⟨j,e,i1,h1⟩:=x1
 obtain ⟨g1,g2,g3,g4⟩:=hx1
 dsimp only at g1 g2 g3 g4 ⊢
 refine wseq ?_
 refine wseq ?_
 refine wreg fun K hK=>?_
 simp [C.spec_dNames]
 refine hK _ ?_;clear hK K
 show AWp _ _ _ _ _
 refine wcond _ rfl (fun hc1=>?_) (fun hc1=>?_)
 ·have hj:j < n:=by have:=d_t hc1;omega
  refine wskip ?_
  show AWp _ _ _ _ _
  refine wseq ?_
  refine wblock ?_
  refine wseq ?_
  refine wregI ([0,1,2,3,4] ++ ([5])) rfl fun K hK=>?_
  refine oSg fun L hL=>?_
  simp [C.spec_dNames,wrapOk (x:=(j:Int)+1) (by omega) (by omega)]
  refine wcall (spec_l1Below_c xs i1 h1 ((j:Int)+1) g4 hx (by omega)) (by simp) (by simp) (by simp) ?_
  rintro outs res ⟨i2,h2,c,q1,q2,rfl,rfl⟩
  simp [C.spec_dNames,wrapOk (x:=(j:Int)+1) (by omega) (by omega)]
  refine hL _ ?_;clear hL L
  refine oEn fun L hL=>?_
  simp [C.spec_dNames,wrapOk (x:=(j:Int)+1) (by omega) (by omega)]
  refine hL _ ?_;clear hL L
  simp [C.spec_dNames,wrapOk (x:=(j:Int)+1) (by omega) (by omega)]
  refine hK _ ?_;clear hK K
  show AWp _ _ _ _ _
  obtain ⟨p,hp⟩:∃ p:Nat,c=p:=⟨c.toNat,by omega⟩
  rw [hp]
  have hpj:p<=j:=by omega
  have hlen:p+1+(j - p)=j+1:=by omega
  refine wdraw (.take 1 (.take 2 (.take 3 (.take 5 (.take 8 (.take 9 (.take 10 (.all [(0,.all [(4,.all [(6,.all [(7,.all [(11,.take 12 (.done))])])]),(6,.all [(4,.all [(7,.all [(11,.take 12 (.done))])])])]),(6,.all [(0,.all [(4,.all [(7,.all [(11,.take 12 (.done))])])])])])))))))) ⟨by kernel_rfl,by kernel_rfl⟩ fun K hK=>?_
  have hJ:K ⟨ofL [(0,.pt (0,0) [] 0),(1,.int n),(5,.al (5,0) [] 0 (j+1)),(6,.int j),(1000,.pt (0,0) [] 0)],ofRO [((0,0),some (cur xs i2 h2)),((5,0),some (.ow 1 (j+1) (ints (e.take p ++ (j:Int) :: e.drop p))))]⟩:=by
   refine hK _ ?_;clear hK K
   show AWp _ _ _ _ _
   refine wreg fun K hK=>?_
   simp [C.spec_dNames,wrap_succ (show j < 4611686018427387904 by omega)]
   refine hK _ ?_;clear hK K
   simp [C.spec_dNames]
   refine hR1 (j+1,e.take p ++ (j:Int) :: e.drop p,i2,h2) ⟨hj,?_,?_,q1⟩ (by dsimp only;omega)
   ·dsimp only
    simp [g2]
    omega
   ·dsimp only
    intro y hy
    rcases List.mem_append.1 hy with hy | hy
    ·exact g3 y (List.mem_of_mem_take hy)
    ·rcases List.mem_cons.1 hy with rfl | hy
     ·omega
     ·exact g3 y (List.mem_of_mem_drop hy)
  clear hK
  have hbig:(j+1)*8<=140737488355328:=by omega
  by_cases z1:p=j
  ·have t1:e.take p=e:=List.take_of_length_le (by omega)
   have t2:e.drop p=[]:=List.drop_of_length_le (by omega)
   rw [t1,t2] at hJ
   subst z1
   by_cases z2:p=0
   ·subst z2
    obtain rfl:e=[]:=List.eq_nil_of_length_eq_zero g2
    simp [C.spec_dNames,ints]
    refine cast (congrArg K ?_) hJ
    simp [ints]
   ·simp [C.spec_dNames,g2,t1,t2,z2,hbig,show p*8<=140737488355328 by omega]
    repeat' first
     | (refine cast (congrArg K ?_) hJ;simp [ints];done)
     | refine And.intro ?_ ?_
     | omega
  ·by_cases z2:p=0
   ·subst z2
    simp [C.spec_dNames,g2,z1,hbig,show ¬ 0=j by omega,show (0+1+j)*8<=140737488355328 by omega,show (1+j)*8<=140737488355328 by omega]
    repeat' first
     | (refine cast (congrArg K ?_) hJ;simp [ints,Nat.add_comm];done)
     | refine And.intro ?_ ?_
     | omega
   ·have e1:p+1+(j - p)=j+1:=by omega
    have t3:(e.drop p).take (j - p)=e.drop p:=List.take_of_length_le (by simp;omega)
    simp [C.spec_dNames,t3,g2,z1,z2,hpj,hbig,e1,show (p:Int)<=j by omega,show p*8<=140737488355328 by omega,show (p+1)*8<=140737488355328 by omega]
    repeat' first
     | (refine cast (congrArg K ?_) hJ;simp [ints,e1,t3];done)
     | refine And.intro ?_ ?_
     | omega
 ·have hj:j=n:=by have:=d_f hc1;omega
  refine wexit ?_
  show AWp _ _ _ _ _
  refine wseq ?_
  refine wreg fun K hK=>?_
  simp [C.spec_dNames]
  refine hK _ ?_;clear hK K
  show AWp _ _ _ _ _
  refine wret ?_
  simp [C.spec_dNames]
  exact ⟨i1,h1,e,g4,⟨by omega,g3⟩,by simp [hj,g2,owI]⟩
theorem spec_l1Rename_c (m:Mat) (nm:List Int) (n r:Nat) (hn:m.n=n) (hr:m.r=r) (hS:ShM m) (hl:nm.length=n) (hb:∀ x∈nm,0<=x/\x < n):ACalls Tryz.prog F.spec_l1Rename [.ag [.int n,.int r,.d (shI m.d)],.d (shI nm)] [] true (fun outs res=>outs=[]/\res=[.ag (mO ⟨n,r,renL m.d m nm m.d.length⟩)]):=by
 have hd:=sh_dim hS
 have hn5:1<=n/\n<=5:=by omega
 have hnr:n<=r/\r<=8:=by omega
 have hL:m.d.length=r*n:=by rw [hd.2.2.2.2.1,show m.r.toNat=r by omega,show m.n.toNat=n by omega]
 have hL40:m.d.length<=40:=by rw [hL];exact Nat.mul_le_mul hnr.2 hn5.2
 have hcopy:=spec_l1CopyMatrix_c m (by omega)
 have haM:aM m = .ag [.int n,.int r,.d (shI m.d)]:=by rw [<-hn,<-hr]
 rw [haM] at hcopy
 refine ACalls.of_body (C:=C.spec_l1Rename) (n:=Tryz.f239.ntmps) tabT folT Tryz.func239 rfl (by kernel_rfl) rfl (Nat.le_of_ble_eq_true rfl) (by decide) (by kernel_rfl) (by kernel_rfl) rfl (by simp) (by simp) ?_
 simp only [Tryz.f239]
 refine wseq ?_
 refine wreg fun K hK=>?_
 simp [C.spec_l1Rename]
 refine hK _ ?_;clear hK K
 show AWp _ _ _ _ _
 refine wseq ?_
 refine wregI ([0,1] ++ ([2,3])) rfl fun K hK=>?_
 refine oSg fun L hL=>?_
 simp [C.spec_l1Rename,mO,hn,hr]
 refine wcall1 (hcopy) (by simp) (by simp) ?_
 simp [C.spec_l1Rename,mO,hn,hr]
 refine hL _ ?_;clear hL L
 refine oEn fun L hL=>?_
 simp [C.spec_l1Rename,mO,hn,hr]
 refine hL _ ?_;clear hL L
 simp [C.spec_l1Rename,mO,hn,hr]
 refine hK _ ?_;clear hK K
 show AWp _ _ _ _ _
 refine wseq ?_
 refine wseq ?_
 refine wreg fun K hK=>?_
 simp [C.spec_l1Rename]
 refine hK _ ?_;clear hK K
 show AWp _ _ _ _ _
 refine wblock ?_
 refine wloop (fun i:Nat=>⟨ofL [(1,.d (shI nm)),(2,.pt (2,0) [] 0),(4,.pt (4,0) [] 0),(5,.pt (5,0) [] 0),(6,.int i)],ofRO [((2,0),some (.bx [D.int n,D.int r,shI m.d])),((4,0),some (.bx [D.int 0,D.int 0,.v (.slice none 0 0)])),((5,0),some (.bx [D.int n,D.int r,owI (renL m.d m nm (i*n))]))]⟩) (fun i=>i<=r) (fun i=>r - i) 0 (by simp [C.spec_l1Rename,renL]) (by simp) ?_
 intro x1 hx1 R1 hR1
 refine wseq ?_
 refine wseq ?_
 refine wreg fun K hK=>?_
 simp [C.spec_l1Rename]
 refine hK _ ?_;clear hK K
 show AWp _ _ _ _ _
 refine wcond _ rfl (fun hc1=>?_) (fun hc1=>?_)
 ·have hi:x1 < r:=by have:=d_t hc1;omega
  obtain ⟨e1,e2⟩:=rowN_bd hl hb hnr.1 hi
  obtain ⟨rw',hrw⟩:∃ rw',rw'=(rowN n nm x1).toNat:=⟨_,rfl⟩
  rw [<-hrw] at e1 e2
  refine wskip ?_
  show AWp _ _ _ _ _
  refine wseq ?_
  refine wblock ?_
  refine wseq ?_
  refine wreg fun K hK=>?_
  simp [C.spec_l1Rename]
  refine hK _ ?_;clear hK K
  show AWp _ _ _ _ _
  refine wseq ?_
  refine wseq ?_
  refine wreg fun K hK=>?_
  simp [C.spec_l1Rename]
  refine hK _ ?_;clear hK K
  show AWp _ _ _ _ _
  refine wcondJ (fun σ'=>∃ t f,σ'=⟨ofL [(1,.d (shI nm)),(2,.pt (2,0) [] 0),(4,.pt (4,0) [] 0),(5,.pt (5,0) [] 0),(6,.int x1),(7,.int rw'),(t,f)],ofRO [((2,0),some (.bx [D.int n,D.int r,shI m.d])),((4,0),some (.bx [D.int 0,D.int 0,.v (.slice none 0 0)])),((5,0),some (.bx [D.int n,D.int r,owI (renL m.d m nm (x1*n))]))]⟩) _ rfl ?_ (fun hc2 Qc2 hQc2=>?_) (fun hc2 Qc2 hQc2=>?_)
  ·rintro σc2 ⟨tt,ff,rfl⟩
   show AWp _ _ _ _ _
   refine wseq ?_
   refine wreg fun K hK=>?_
   simp [C.spec_l1Rename]
   refine hK _ ?_;clear hK K
   show AWp _ _ _ _ _
   refine wblock ?_
   refine wloop (fun j:Nat=>⟨ofL [(1,.d (shI nm)),(2,.pt (2,0) [] 0),(4,.pt (4,0) [] 0),(5,.pt (5,0) [] 0),(6,.int x1),(7,.int rw'),(8,.int j)],ofRO [((2,0),some (.bx [D.int n,D.int r,shI m.d])),((4,0),some (.bx [D.int 0,D.int 0,.v (.slice none 0 0)])),((5,0),some (.bx [D.int n,D.int r,owI (renL m.d m nm (x1*n+j))]))]⟩) (fun j=>j<=n) (fun j=>n - j) 0 (by simp [C.spec_l1Rename]) (by simp) ?_
   intro x2 hx2 R2 hR2
   refine wseq ?_
   refine wseq ?_
   refine wreg fun K hK=>?_
   simp [C.spec_l1Rename]
   refine hK _ ?_;clear hK K
   show AWp _ _ _ _ _
   refine wcond _ rfl (fun hc3=>?_) (fun hc3=>?_)
   ·have hj:x2 < n:=by have:=d_t hc3;omega
    have hjn:x2 < nm.length:=by omega
    have hyb:=hb _ (List.getElem_mem hjn)
    obtain ⟨y,hy⟩:∃ y:Nat,nm[x2]=y:=⟨nm[x2].toNat,by omega⟩
    rw [hy] at hyb
    have hyd:nm.getD x2 0=(y:Int):=by rw [<-hy];simp [List.getD_eq_getElem?_getD,hjn]
    have hst:=renL_step (base:=m.d) hn hj hrw.symm hyd
    obtain ⟨q,hq⟩:∃ q,q=rw' * n+y:=⟨_,rfl⟩
    have hqL:q < m.d.length:=by
     rw [hL,hq]
     have h1:(rw' + 1)*n<=r*n:=Nat.mul_le_mul_right _ (by omega)
     rw [Nat.add_mul] at h1
     omega
    have hw1:IntKind.i64.wrap ((rw':Int)*n)=((rw' * n:Nat):Int):=by
     rw [wrapOk]
     ·simp
     ·have:(rw':Int)*n=((rw' * n:Nat):Int):=by simp
      omega
     ·have:(rw':Int)*n=((rw' * n:Nat):Int):=by simp
      omega
    have hw2:IntKind.i64.wrap (((rw' * n:Nat):Int)+y)=(q:Int):=by rw [wrapOk (by omega) (by omega)];omega
    have hat:=spec_l1At_c m n r x1 x2 hn hr hS hi hj
    have hAl:(renL m.d m nm (x1*n+x2)).length=m.d.length:=by rw [renL_length]
    rw [<-hq] at hst
    obtain ⟨A,hA⟩:∃ A,A=renL m.d m nm (x1*n+x2):=⟨_,rfl⟩
    rw [<-hA] at hst hAl
    rw [<-hA]
    obtain ⟨P,hP⟩:∃ P,P=rw' * n:=⟨_,rfl⟩
    rw [<-hP] at hw1 hw2
    refine wskip ?_
    show AWp _ _ _ _ _
    refine wseq ?_
    refine wblock ?_
    refine wdrawI [(true,0),(true,1),(true,2),(true,3),(true,4),(true,5),(true,6),(true,7),(true,8),(true,9),(true,10),(true,11),(true,12),(true,13),(false,14),(true,15),(false,16)] ⟨by kernel_rfl,by kernel_rfl⟩ ([0,1,2,3,4,5,6,7,8,9,10,11,12,13,14] ++ ([15,16])) rfl fun K hK=>?_
    have hJ:K ⟨ofL [(1,.d (shI nm)),(2,.pt (2,0) [] 0),(4,.pt (4,0) [] 0),(5,.pt (5,0) [] 0),(6,.int x1),(7,.int rw'),(8,.int x2)],ofRO [((2,0),some (.bx [D.int n,D.int r,shI m.d])),((4,0),some (.bx [D.int 0,D.int 0,.v (.slice none 0 0)])),((5,0),some (.bx [D.int n,D.int r,owI (renL m.d m nm (x1*n+x2+1))]))]⟩:=by
     refine hK _ ?_;clear hK K
     show AWp _ _ _ _ _
     refine wreg fun K hK=>?_
     simp [C.spec_l1Rename,wrap_succ (show x2 < 4611686018427387904 by omega)]
     refine hK _ ?_;clear hK K
     simp [C.spec_l1Rename]
     refine cast (congrArg R2 ?_) (hR2 (x2+1) hj (by omega))
     simp [<-Nat.add_assoc]
    clear hK
    simp [C.spec_l1Rename,hw1,hw2,get_ints,hjn,hy,hAl,hqL,show (x2:Int) < nm.length by omega,show (q:Int) < m.d.length by omega]
    repeat' first
     | (refine wcall1 (hat) ?_ (by simp) ?_;(focus (simp;done));simp [C.spec_l1Rename,hw1,hw2,get_ints,hjn,hy,hAl,hqL,show (x2:Int) < nm.length by omega,show (q:Int) < m.d.length by omega])
     | (refine cast (congrArg K ?_) hJ;simp [hst,hAl,owI];done)
     | refine And.intro ?_ ?_
   ·have hj:x2=n:=by have:=d_f hc3;omega
    refine wexit ?_
    show AWp _ _ _ _ _
    refine wreg fun K hK=>?_
    simp [C.spec_l1Rename,wrap_succ (show x1 < 4611686018427387904 by omega)]
    refine hK _ ?_;clear hK K
    simp [C.spec_l1Rename]
    refine cast (congrArg R1 ?_) (hR1 (x1+1) hi (by omega))
    simp [Nat.add_mul,hj]
  ·have hin:x1 < n:=by have:=d_t hc2;omega
   have hnx:nm[x1]'(by omega)=(rw':Int):=by
    rw [<-e1]
    unfold rowN
    rw [if_pos hin]
    simp [List.getD_eq_getElem?_getD,show x1 < nm.length by omega]
   refine wreg fun K hK=>?_
   simp [C.spec_l1Rename,get_ints,hnx,show x1 < nm.length by omega,show (x1:Int) < nm.length by omega]
   refine hK _ ?_;clear hK K
   rw [ofL_padE]
   exact hQc2 _ ⟨0,.dead,rfl⟩
  ·have hin:¬ x1 < n:=by have:=d_f hc2;omega
   have hnx:(x1:Int)=rw':=by
    rw [<-e1]
    unfold rowN
    rw [if_neg hin]
   refine wskip ?_
   rw [<-hnx] at hQc2
   exact hQc2 _ ⟨_,_,rfl⟩
 ·have hi:x1=r:=by have:=d_f hc1;omega
  refine wexit ?_
  show AWp _ _ _ _ _
  refine wseq ?_
  refine wreg fun K hK=>?_
  simp [C.spec_l1Rename]
  refine hK _ ?_;clear hK K
  show AWp _ _ _ _ _
  refine wret ?_
  simp [C.spec_l1Rename,mO,hi,<-hL]
theorem spec_dMoved_c (xs:List Int) (i:Nat) (h:Int) (m:Mat) (n:Nat) (hi:i<=xs.length) (hx:xs.length<=1048576) (hn:m.n=n) (hr:m.r=n) (hn3:1<=n/\n<=3) (hS:ShM m):ACalls Tryz.prog F.spec_dMoved [.pt (0,0) [] 0,.ag [.int n,.int n,.al (1,2) [] 0 m.d.length]] [((0,0),cur xs i h),((1,2),owI m.d)] false (DrawMX xs m.d.length):=by
 refine ACalls.of_body (C:=C.spec_dMoved) (n:=Tryz.f210.ntmps) tabT folT Tryz.func210 rfl (by kernel_rfl) rfl (Nat.le_of_ble_eq_true rfl) (by decide) (by kernel_rfl) (by kernel_rfl) rfl (by simp) (by simp) ?_
 simp only [Tryz.f210]
 refine wseq ?_
 refine wreg fun K hK=>?_
 simp [C.spec_dMoved]
 refine hK _ ?_;clear hK K
 show AWp _ _ _ _ _
 refine wseq ?_
 refine wregI ([0,1] ++ ([2])) rfl fun K hK=>?_
 refine oSg fun L hL=>?_
 simp [C.spec_dMoved]
 refine wcall (spec_l1Below_c xs i h 4 hi hx (by omega)) (by simp) (by simp) (by simp) ?_
 rintro outs res ⟨i1,h1,c1,p1,q1,rfl,rfl⟩
 simp [C.spec_dMoved]
 refine hL _ ?_;clear hL L
 refine oEn fun L hL=>?_
 simp [C.spec_dMoved]
 refine hL _ ?_;clear hL L
 simp [C.spec_dMoved]
 refine hK _ ?_;clear hK K
 show AWp _ _ _ _ _
 refine wseq ?_
 refine wseq ?_
 obtain ⟨cc,hcc⟩:∃ cc:Nat,c1=cc:=⟨c1.toNat,by omega⟩
 rw [hcc]
 refine wreg fun K hK=>?_
 simp [C.spec_dMoved]
 refine hK _ ?_;clear hK K
 show AWp _ _ _ _ _
 refine wblock ?_
 refine wloop (fun x:Nat×Mat×Nat×Int×Bool=>⟨ofL [(0,.pt (0,0) [] 0),(3,.pt (3,0) [] 0),(4,.pt (4,0) [] 0),(5,.int cc),(6,.int x.1),(1000,.pt (0,0) [] 0),(1001,wX x.2.2.2.2 m.d.length)],ofRO [((0,0),some (cur xs x.2.2.1 x.2.2.2.1)),((3,0),some (.bx [D.int n,D.int n,owI x.2.1.d])),((4,0),some (.bx [D.int 0,D.int 0,.v (.slice none 0 0)]))]⟩) (fun x=>x.1<=cc/\(x.2.1.n=n/\x.2.1.r=n/\ShM x.2.1)/\x.2.2.1<=xs.length/\(x.2.2.2.2=true->x.2.1.d.length=m.d.length)) (fun x=>cc - x.1) (0,m,i1,h1,true) (by simp [C.spec_dMoved,wX]) ⟨by simp,⟨hn,hr,hS⟩,p1,fun _=>rfl⟩ ?_
 intro x1 hx1 R1 hR1
 obtain ⟨j,m2,i2,h2,b⟩:=x1
 obtain ⟨g1,⟨g2,g3,g4⟩,g5,g6⟩:=hx1
 dsimp only at g1 g2 g3 g4 g5 g6 ⊢
 have haM:aM m2 = .ag [.int n,.int n,.d (shI m2.d)]:=by rw [<-g2];simp only [aM,g2,g3]
 have hml:m2.d.length<=40:=by
  have hd:=sh_dim g4
  rw [hd.2.2.2.2.1]
  exact Nat.le_trans (Nat.mul_le_mul hd.2.2.2.1 hd.2.1) (by omega)
 refine wseq ?_
 refine wseq ?_
 refine wreg fun K hK=>?_
 simp [C.spec_dMoved]
 refine hK _ ?_;clear hK K
 show AWp _ _ _ _ _
 refine wcond _ rfl (fun hc1=>?_) (fun hc1=>?_)
 ·have hj:j < cc:=by have:=d_t hc1;omega
  refine wskip ?_
  show AWp _ _ _ _ _
  refine wseq ?_
  refine wblock ?_
  refine wseq ?_
  refine wdraw (.take 1 (.take 2 (.take 3 (.all [(0,.all [(4,.all [(5,.take 6 (.take 7 (.take 8 (.all [(9,.all [(10,.take 11 (.done))])])))),(9,.all [(5,.take 6 (.take 7 (.take 8 (.all [(10,.take 11 (.done))]))))])]),(9,.all [(4,.all [(5,.take 6 (.take 7 (.take 8 (.all [(10,.take 11 (.done))]))))])])]),(4,.take 0 (.all [(5,.take 6 (.take 7 (.take 8 (.all [(9,.all [(10,.take 11 (.done))])])))),(9,.all [(5,.take 6 (.take 7 (.take 8 (.all [(10,.take 11 (.done))]))))])])),(9,.all [(0,.all [(4,.all [(5,.take 6 (.take 7 (.take 8 (.all [(10,.take 11 (.done))]))))])]),(4,.take 0 (.all [(5,.take 6 (.take 7 (.take 8 (.all [(10,.take 11 (.done))]))))]))])])))) ⟨by kernel_rfl,by kernel_rfl⟩ fun K hK=>?_
  have hJ:∀ (i3:Nat) (h3:Int) (M:Mat×Bool) (hi3:i3<=xs.length) (hM:∃ k:Int,M=muF m2 k),K ⟨ofL [(0,.pt (0,0) [] 0),(3,.pt (3,0) [] 0),(4,.pt (4,0) [] 0),(5,.int cc),(6,.int j),(7,.pt (7,0) [] 0),(8,.bool M.2),(1000,.pt (0,0) [] 0),(1001,wX b m.d.length)],ofRO [((0,0),some (cur xs i3 h3)),((3,0),some (.bx [D.int n,D.int n,owI m2.d])),((4,0),some (.bx [D.int 0,D.int 0,.v (.slice none 0 0)])),((7,0),some (.bx [D.int M.1.n,D.int M.1.r,owI M.1.d]))]⟩:=by
   intro i3 h3 M hi3 hM
   refine hK _ ?_;clear hK K
   show AWp _ _ _ _ _
   refine wseq ?_
   refine wreg fun K hK=>?_
   have hJ:K ⟨ofL [(0,.pt (0,0) [] 0),(3,.pt (3,0) [] 0),(4,.pt (4,0) [] 0),(5,.int cc),(6,.int j),(7,.pt (7,0) [] 0),(25,.bool M.2),(1000,.pt (0,0) [] 0),(1001,wX b m.d.length)],ofRO [((0,0),some (cur xs i3 h3)),((3,0),some (.bx [D.int n,D.int n,owI m2.d])),((4,0),some (.bx [D.int 0,D.int 0,.v (.slice none 0 0)])),((7,0),some (.bx [D.int M.1.n,D.int M.1.r,owI M.1.d]))]⟩:=by
    refine hK _ ?_;clear hK K
    show AWp _ _ _ _ _
    refine wcond _ rfl (fun hc2=>?_) (fun hc2=>?_)
    ·obtain ⟨kk,hM⟩:=hM
     have hb:M.2=true:=by simpa using hc2
     obtain ⟨o1,o2,o3,o4⟩:=muF_ok (m:=m2) (m':=M.1) (k:=kk) (by rw [<-hM,<-hb])
     have hMn:M.1.n=n:=by rw [o4];exact g2
     have hMr:M.1.r=n:=by rw [o4];exact g3
     refine wreg fun K hK=>?_
     have hJ:K ⟨ofL [(0,.pt (0,0) [] 0),(3,.pt (3,0) [] 0),(4,.pt (4,0) [] 0),(5,.int cc),(6,.int j),(1000,.pt (0,0) [] 0),(1001,wX false m.d.length)],ofRO [((0,0),some (cur xs i3 h3)),((3,0),some (.bx [D.int n,D.int n,owI M.1.d])),((4,0),some (.bx [D.int 0,D.int 0,.v (.slice none 0 0)]))]⟩:=by
      refine hK _ ?_;clear hK K
      show AWp _ _ _ _ _
      refine wreg fun K hK=>?_
      simp [C.spec_dMoved,wrap_succ (show j < 4611686018427387904 by omega),wX,wX]
      refine hK _ ?_;clear hK K
      simp [C.spec_dMoved]
      refine cast (congrArg R1 ?_) (hR1 (j+1,M.1,i3,h3,false) ⟨hj,⟨hMn,hMr,o3.1⟩,hi3,fun h=>by simp at h⟩ (by dsimp only;omega))
      simp [wX]
     clear hK
     cases b <;> (simp [C.spec_dMoved,wX];refine cast (congrArg K ?_) hJ;simp [wX,hMn,hMr])
    ·refine wskip ?_
     show AWp _ _ _ _ _
     refine wreg fun K hK=>?_
     have hJ:K ⟨ofL [(0,.pt (0,0) [] 0),(3,.pt (3,0) [] 0),(4,.pt (4,0) [] 0),(5,.int cc),(6,.int ((j:Int)+1)),(1000,.pt (0,0) [] 0),(1001,wX b m.d.length)],ofRO [((0,0),some (cur xs i3 h3)),((3,0),some (.bx [D.int n,D.int n,owI m2.d])),((4,0),some (.bx [D.int 0,D.int 0,.v (.slice none 0 0)]))]⟩:=by
      refine hK _ ?_;clear hK K
      simp [C.spec_dMoved]
      refine cast (congrArg R1 ?_) (hR1 (j+1,m2,i3,h3,b) ⟨hj,⟨g2,g3,g4⟩,hi3,g6⟩ (by dsimp only;omega))
      cases b <;> simp [wX]
     clear hK
     cases b <;> (simp [C.spec_dMoved,wX,wrap_succ (show j < 4611686018427387904 by omega)];refine cast (congrArg K ?_) hJ;simp [wX])
   clear hK
   cases b <;> (simp [C.spec_dMoved,wX];refine cast (congrArg K ?_) hJ;simp [wX])
  clear hK
  have hmu:=fun k=>sMu_c m2 k (by omega)
  rw [haM] at hmu
  cases b <;> simp [C.spec_dMoved,wX]
  all_goals repeat' first
   | (refine wcall (spec_l1Below_c xs i2 h2 n g5 hx (by omega)) (by simp) (by simp) (by simp) ?_;rintro outs res ⟨i3,h3,kk,q1,q2,rfl,rfl⟩;simp [C.spec_dMoved])
   | (refine wcall1 (hmu kk) ?_ (by simp) ?_;(focus (simp;done));simp [C.spec_dMoved,mO])
   | (refine cast (congrArg K ?_) (hJ i3 h3 (muF m2 kk) q1 ⟨kk,rfl⟩);simp [mO,wX];done)
   | refine And.intro ?_ ?_
 ·refine wexit ?_
  show AWp _ _ _ _ _
  refine wseq ?_
  refine wdraw (.take 1 (.take 2 (.take 3 (.all [(0,.all [(4,.all [(5,.all [(6,.done)])])]),(4,.take 0 (.all [(5,.all [(6,.done)])]))])))) ⟨by kernel_rfl,by kernel_rfl⟩ fun K hK=>?_
  have hsq:∀ e:List Int,SqM ⟨n,n,renL m2.d m2 e m2.d.length⟩:=fun e=>⟨n,rfl,rfl,hn3,⟨by show 1<=(n:Int)/\(n:Int)<=5;omega,by show (n:Int)<=n/\(n:Int)<=8;omega,by rw [renL_length];have:=g4.2.2.1;rw [g2,g3] at this;exact this,renL_bd g4.2.2.2 g4.2.2.2 _⟩⟩
  cases b
  ·simp [C.spec_dMoved,wX]
   repeat' first
    | (refine wcall (spec_dNames_c xs i2 h2 n g5 hx (by omega)) (by simp) (by simp) (by simp) ?_;rintro outs res ⟨i3,h3,e,q1,⟨q2,q3⟩,rfl,rfl⟩;simp [C.spec_dMoved])
    | (refine wcall1 (spec_l1Rename_c m2 e n n g2 g3 g4 q2 q3) ?_ (by simp) ?_;(focus (simp [q2];done));simp [C.spec_dMoved,mO])
    | (refine hK _ ?_;show AWp _ _ _ _ _;refine wret ?_;simp [C.spec_dMoved];exact ⟨i3,h3,⟨n,n,renL m2.d m2 e m2.d.length⟩,.gone,q1,hsq e,.inl rfl,by simp,by simp [mO,owI]⟩)
    | refine And.intro ?_ ?_
  ·have g7:=g6 rfl
   simp [C.spec_dMoved,wX,<-g7]
   repeat' first
    | (refine wcall (spec_dNames_c xs i2 h2 n g5 hx (by omega)) (by simp) (by simp) (by simp) ?_;rintro outs res ⟨i3,h3,e,q1,⟨q2,q3⟩,rfl,rfl⟩;simp [C.spec_dMoved])
    | (refine wcall1 (spec_l1Rename_c m2 e n n g2 g3 g4 q2 q3) ?_ (by simp) ?_;(focus (simp [q2];done));simp [C.spec_dMoved,mO])
    | (refine hK _ ?_;show AWp _ _ _ _ _;refine wret ?_;simp [C.spec_dMoved];exact ⟨i3,h3,⟨n,n,renL m2.d m2 e m2.d.length⟩,owI m2.d,q1,hsq e,.inr ⟨m2.d,g7,by simp [owI,g7]⟩,by simp [owI],by simp [mO,owI]⟩)
    | refine And.intro ?_ ?_
theorem spec_dFinite_c (xs:List Int) (i:Nat) (h:Int) (hi:i<=xs.length) (hx:xs.length<=1048576):ACalls Tryz.prog F.spec_dFinite [.pt (0,0) [] 0,.int 3] [((0,0),cur xs i h)] false (DrawMT xs):=by
 refine ACalls.of_body (C:=C.spec_dFinite) (n:=Tryz.f143.ntmps) tabT folT Tryz.func143 rfl (by kernel_rfl) rfl (Nat.le_of_ble_eq_true rfl) (by decide) (by kernel_rfl) (by kernel_rfl) rfl (by simp) (by simp) ?_
 simp only [Tryz.f143]
 refine wseq ?_
 refine wreg fun K hK=>?_
 simp [C.spec_dFinite]
 refine hK _ ?_;clear hK K
 show AWp _ _ _ _ _
 refine wseq ?_
 refine wregI ([0,1,2] ++ ([3,4,5,6,7,8])) rfl fun K hK=>?_
 refine oSg fun L hL=>?_
 simp [C.spec_dFinite,mO]
 refine wcall (spec_dTree_c xs i h hi hx) (by simp) (by simp) (by simp) ?_
 rintro outs res ⟨i1,h1,m,s,q1,q2,rfl,rfl⟩
 simp [C.spec_dFinite,mO]
 refine hL _ ?_;clear hL L
 refine oEn fun L hL=>?_
 simp [C.spec_dFinite,mO]
 refine hL _ ?_;clear hL L
 simp [C.spec_dFinite,mO]
 refine hK _ ?_;clear hK K
 show AWp _ _ _ _ _
 refine wseq ?_
 obtain ⟨n,m1,m2,m3,m4⟩:=q2.sh
 refine wregI ([0,1,2] ++ ([3,4,5])) rfl fun K hK=>?_
 simp [C.spec_dFinite,m1,m2,mO]
 refine wcall (spec_dMoved_c xs i1 h1 m n q1 hx m1 m2 m3 m4) (by simp) (by simp) (by simp) ?_
 rintro outs res ⟨i2,h2,mm,o,p1,p2,rfl | ⟨l,hl,rfl⟩,rfl,rfl⟩
 all_goals
  simp [C.spec_dFinite,mO]
  refine hK _ ?_
  show AWp _ _ _ _ _
  refine wret ?_
  simp [C.spec_dFinite]
  exact ⟨i2,h2,mm,s,p1,p2,rfl,by simp [mO]⟩
end Go.Proofs.YtbhkonnakkhibaaGreat.Ab
namespace Go.Proofs.YtbhkonnakkhibaaGreat.Ab
open Go
set_option maxRecDepth 10000
set_option maxHeartbeats 4000000
attribute [local simp] cur
def FzM (m:Mat):Prop:=∃ n r:Nat,m.n=n/\m.r=r/\(1<=n/\n<=3)/\(n<=r/\r<=5)/\ShM m
theorem SqM.fz {m:Mat} (h:SqM m):FzM m:=by
 obtain ⟨n,h1,h2,h3,h4⟩:=h
 exact ⟨n,n,h1,h2,h3,by omega,h4⟩
def DrawMZ (xs:List Int) (d:List Int) (outs:List D) (res:List RV):Prop:=∃ (i':Nat) (h':Int) (m:Mat),i'<=xs.length/\FzM m/\outs=[cur xs i' h',.ow 1 d.length (ints d)]/\res=[.ag (mO m)]
def SdI (s:Sed):Prop:=∃ n r:Nat,s.m.n=n/\s.m.r=r/\(1<=n/\n<=3)/\(n<=r/\r<=5)/\ShM s.m/\s.f.length=r/\∀ f∈s.f,SmallF f/\f.v=r
def SdS (n r:Nat) (s:Sed):Prop:=s.m.n=n/\s.m.r=r/\ShM s.m/\s.f.length=r/\∀ f∈s.f,SmallF f/\f.v=r
theorem SdS.mut {n r k:Nat} {s:Sed} (h:SdS n r s) (hr:1<=r/\r<=8) (hb:(seedG s r k).2=true):SdS n r (seedG s r k).1:=by
 obtain ⟨h1,h2,h3,h4,h5⟩:=h
 unfold seedG at hb ⊢
 split
 ·rename_i q
  obtain ⟨m',hm'⟩:∃ m',muF s.m k=(m',true):=⟨_,by rw [<-q.2]⟩
  obtain ⟨o1,o2,o3,o4⟩:=muF_ok hm'
  obtain ⟨x,hx⟩:∃ x,exF s.f (colM s.m r k) r (s.f.getD k zeroF)=(x,true):=⟨_,by rw [<-q.1]⟩
  have hv:=exF_v hr hx
  rw [hm',hx]
  refine ⟨by rw [o4];exact h1,by rw [o4];exact h2,o3.1,by simpa using h4,fun f hf=>?_⟩
  rcases List.mem_or_eq_of_mem_set hf with hf | rfl
  ·exact h5 f hf
  ·exact ⟨small_right hv.1,hv.2⟩
 ·rename_i q
  rw [if_neg q] at hb
  simp at hb
def DrawSd (xs:List Int) (outs:List D) (res:List RV):Prop:=∃ (i':Nat) (h':Int) (s:Sed),i'<=xs.length/\SdI s/\outs=[cur xs i' h']/\res=[.ag (sO s)]
theorem spec_dFrozen_c (xs:List Int) (i:Nat) (h:Int) (m:Mat) (n:Nat) (hi:i<=xs.length) (hx:xs.length<=1048576) (hn:m.n=n) (hr:m.r=n) (hn3:1<=n/\n<=3) (hS:ShM m):ACalls Tryz.prog F.spec_dFrozen [.pt (0,0) [] 0,.ag [.int n,.int n,.al (1,2) [] 0 m.d.length]] [((0,0),cur xs i h),((1,2),owI m.d)] false (DrawMZ xs m.d):=by
 have hL:m.d.length=n*n:=by
  have:=hS.2.2.1
  rw [hn,hr] at this
  have e:(n:Int)*n=((n*n:Nat):Int):=by simp
  omega
 have hL9:m.d.length<=9:=by rw [hL];exact Nat.mul_le_mul hn3.2 hn3.2
 have hcopy:=spec_l1CopyMatrix_c m (by omega)
 have haM:aM m = .ag [.int n,.int n,.d (shI m.d)]:=by rw [<-hn];simp only [aM,hn,hr]
 rw [haM] at hcopy
 refine ACalls.of_body (C:=C.spec_dFrozen) (n:=Tryz.f144.ntmps) tabT folT Tryz.func144 rfl (by kernel_rfl) rfl (Nat.le_of_ble_eq_true rfl) (by decide) (by kernel_rfl) (by kernel_rfl) rfl (by simp) (by simp) ?_
 simp only [Tryz.f144]
 refine wseq ?_
 refine wreg fun K hK=>?_
 simp [C.spec_dFrozen]
 refine hK _ ?_;clear hK K
 show AWp _ _ _ _ _
 refine wseq ?_
 refine wregI ([0,1] ++ ([2,3])) rfl fun K hK=>?_
 refine oSg fun L hL=>?_
 simp [C.spec_dFrozen,mO,hn,hr]
 refine wcall1 (hcopy) (by simp) (by simp) ?_
 simp [C.spec_dFrozen,mO,hn,hr]
 refine hL _ ?_;clear hL L
 refine oEn fun L hL=>?_
 simp [C.spec_dFrozen,mO,hn,hr]
 refine hL _ ?_;clear hL L
 simp [C.spec_dFrozen,mO,hn,hr]
 refine hK _ ?_;clear hK K
 show AWp _ _ _ _ _
 refine wseq ?_
 refine wregI ([0,1] ++ ([2])) rfl fun K hK=>?_
 refine oSg fun L hL=>?_
 simp [C.spec_dFrozen]
 refine wcall (spec_l1Below_c xs i h 3 hi hx (by omega)) (by simp) (by simp) (by simp) ?_
 rintro outs res ⟨i1,h1,c1,p1,q1,rfl,rfl⟩
 simp [C.spec_dFrozen]
 refine hL _ ?_;clear hL L
 refine oEn fun L hL=>?_
 simp [C.spec_dFrozen]
 refine hL _ ?_;clear hL L
 simp [C.spec_dFrozen]
 refine hK _ ?_;clear hK K
 show AWp _ _ _ _ _
 refine wseq ?_
 refine wseq ?_
 obtain ⟨cc,hcc⟩:∃ cc:Nat,c1=cc:=⟨c1.toNat,by omega⟩
 rw [hcc]
 refine wreg fun K hK=>?_
 simp [C.spec_dFrozen]
 refine hK _ ?_;clear hK K
 show AWp _ _ _ _ _
 refine wblock ?_
 refine wloop (fun x:Nat×List Int×Nat×Int=>⟨ofL [(0,.pt (0,0) [] 0),(3,.pt (3,0) [] 0),(4,.pt (4,0) [] 0),(5,.pt (5,0) [] 0),(6,.int cc),(7,.int x.1),(1000,.pt (0,0) [] 0),(1001,.al (3,0) [2] 0 m.d.length)],ofRO [((0,0),some (cur xs x.2.2.1 x.2.2.2)),((3,0),some (.bx [D.int n,D.int n,owI m.d])),((4,0),some (.bx [D.int 0,D.int 0,.v (.slice none 0 0)])),((5,0),some (.bx [D.int n,D.int ((n+x.1:Nat):Int),owI x.2.1]))]⟩) (fun x=>x.1<=cc/\(x.2.1.length=(n+x.1)*n/\∀ y∈x.2.1,-99<=y/\y<=99)/\x.2.2.1<=xs.length) (fun x=>cc - x.1) (0,m.d,i1,h1) (by simp [C.spec_dFrozen]) ⟨by simp,⟨by simpa using hL,hS.2.2.2⟩,p1⟩ ?_
 intro x1 hx1 R1 hR1
 obtain ⟨j,A,i2,h2⟩:=x1
 obtain ⟨g1,⟨g2,g3⟩,g4⟩:=hx1
 dsimp only at g1 g2 g3 g4 ⊢
 refine wseq ?_
 refine wseq ?_
 refine wreg fun K hK=>?_
 simp [C.spec_dFrozen]
 refine hK _ ?_;clear hK K
 show AWp _ _ _ _ _
 refine wcond _ rfl (fun hc1=>?_) (fun hc1=>?_)
 ·have hj:j < cc:=by have:=d_t hc1;omega
  have hjn:(n+j)*n<=5*3:=Nat.mul_le_mul (by omega) (by omega)
  refine wskip ?_
  show AWp _ _ _ _ _
  refine wseq ?_
  refine wblock ?_
  refine wseq ?_
  refine wseq ?_
  refine wreg fun K hK=>?_
  simp [C.spec_dFrozen]
  refine hK _ ?_;clear hK K
  show AWp _ _ _ _ _
  refine wblock ?_
  refine wloop (fun x:Nat×List Int×Nat×Int=>⟨ofL [(0,.pt (0,0) [] 0),(3,.pt (3,0) [] 0),(4,.pt (4,0) [] 0),(5,.pt (5,0) [] 0),(6,.int cc),(7,.int j),(8,.int x.1),(1000,.pt (0,0) [] 0),(1001,.al (3,0) [2] 0 m.d.length)],ofRO [((0,0),some (cur xs x.2.2.1 x.2.2.2)),((3,0),some (.bx [D.int n,D.int n,owI m.d])),((4,0),some (.bx [D.int 0,D.int 0,.v (.slice none 0 0)])),((5,0),some (.bx [D.int n,D.int ((n+j:Nat):Int),owI x.2.1]))]⟩) (fun x=>x.1<=n/\(x.2.1.length=(n+j)*n+x.1/\∀ y∈x.2.1,-99<=y/\y<=99)/\x.2.2.1<=xs.length) (fun x=>n - x.1) (0,A,i2,h2) (by simp [C.spec_dFrozen]) ⟨by simp,⟨by simpa using g2,g3⟩,g4⟩ ?_
  intro x2 hx2 R2 hR2
  obtain ⟨k,B,i3,h3⟩:=x2
  obtain ⟨f1,⟨f2,f3⟩,f4⟩:=hx2
  dsimp only at f1 f2 f3 f4 ⊢
  refine wseq ?_
  refine wseq ?_
  refine wreg fun K hK=>?_
  simp [C.spec_dFrozen]
  refine hK _ ?_;clear hK K
  show AWp _ _ _ _ _
  refine wcond _ rfl (fun hc2=>?_) (fun hc2=>?_)
  ·have hk:k < n:=by have:=d_t hc2;omega
   refine wskip ?_
   show AWp _ _ _ _ _
   refine wseq ?_
   refine wblock ?_
   refine wdraw (.take 0 (.take 2 (.all [(1,.all [(3,.take 4 (.all [(5,.all [(6,.take 7 (.all [(8,.done)]))])]))]),(3,.take 1 (.take 4 (.all [(5,.all [(6,.take 7 (.all [(8,.done)]))])])))]))) ⟨by kernel_rfl,by kernel_rfl⟩ fun K hK=>?_
   have hJ:∀ (i4:Nat) (h4:Int) (c4:Int) (hi4:i4<=xs.length) (hc4:0<=c4/\c4 < 5),K ⟨ofL [(0,.pt (0,0) [] 0),(3,.pt (3,0) [] 0),(4,.pt (4,0) [] 0),(5,.pt (5,0) [] 0),(6,.int cc),(7,.int j),(8,.int k),(1000,.pt (0,0) [] 0),(1001,.al (3,0) [2] 0 m.d.length)],ofRO [((0,0),some (cur xs i4 h4)),((3,0),some (.bx [D.int n,D.int n,owI m.d])),((4,0),some (.bx [D.int 0,D.int 0,.v (.slice none 0 0)])),((5,0),some (.bx [D.int n,D.int ((n+j:Nat):Int),owI (B ++ [c4 - 2])]))]⟩:=by
    intro i4 h4 c4 hi4 hc4
    refine hK _ ?_;clear hK K
    show AWp _ _ _ _ _
    refine wreg fun K hK=>?_
    simp [C.spec_dFrozen,wrap_succ (show k < 4611686018427387904 by omega)]
    refine hK _ ?_;clear hK K
    simp [C.spec_dFrozen]
    refine hR2 (k+1,B ++ [c4 - 2],i4,h4) ⟨hk,⟨by dsimp only;simp;omega,?_⟩,hi4⟩ (by dsimp only;omega)
    dsimp only
    intro y hy
    rcases List.mem_append.1 hy with hy | hy
    ·exact f3 y hy
    ·rw [List.mem_singleton] at hy
     omega
   clear hK
   simp [C.spec_dFrozen]
   repeat' first
    | (refine wcall (spec_l1Below_c xs i3 h3 5 f4 hx (by omega)) (by simp) (by simp) (by simp) ?_;rintro outs res ⟨i4,h4,c4,q1,q2,rfl,rfl⟩;simp [C.spec_dFrozen,ints_snocA,wrapOk (x:=c4 - 2) (by omega) (by omega),show (B.length+1)*8<=140737488355328 by omega])
    | (refine cast (congrArg K ?_) (hJ i4 h4 c4 q1 q2);simp [owI];done)
    | refine And.intro ?_ ?_
  ·have hk:k=n:=by have:=d_f hc2;omega
   refine wexit ?_
   show AWp _ _ _ _ _
   refine wreg fun K hK=>?_
   simp [C.spec_dFrozen,wrapOk (x:=(n:Int)+j+1) (by omega) (by omega)]
   refine hK _ ?_;clear hK K
   show AWp _ _ _ _ _
   refine wreg fun K hK=>?_
   simp [C.spec_dFrozen,wrap_succ (show j < 4611686018427387904 by omega)]
   refine hK _ ?_;clear hK K
   simp [C.spec_dFrozen]
   refine cast (congrArg R1 ?_) (hR1 (j+1,B,i3,h3) ⟨hj,⟨?_,f3⟩,f4⟩ (by dsimp only;omega))
   ·simp [Int.add_assoc]
   ·dsimp only
    rw [f2,hk,show n+(j+1)=(n+j)+1 by omega,Nat.add_mul (n+j) 1 n]
    omega
 ·have hj:j=cc:=by have:=d_f hc1;omega
  refine wexit ?_
  show AWp _ _ _ _ _
  refine wseq ?_
  refine wreg fun K hK=>?_
  simp [C.spec_dFrozen]
  refine hK _ ?_;clear hK K
  show AWp _ _ _ _ _
  refine wret ?_
  simp [C.spec_dFrozen]
  exact ⟨i2,h2,⟨n,((n+j:Nat):Int),A⟩,g4,⟨n,n+j,rfl,rfl,hn3,by omega,⟨by show 1<=(n:Int)/\(n:Int)<=5;omega,by show (n:Int)<=((n+j:Nat):Int)/\((n+j:Nat):Int)<=8;omega,by rw [g2,Nat.mul_comm,Int.natCast_mul],g3⟩⟩,by simp [owI],by simp [mO]⟩
theorem spec_l1PickInt_c (xs:List Int) (i:Nat) (h:Int) (l:List Int) (hi:i<=xs.length) (hx:xs.length<=1048576) (hl:0 < l.length/\l.length<=256):ACalls Tryz.prog F.spec_l1PickInt [.pt (0,0) [] 0,.d (shI l)] [((0,0),cur xs i h)] false (DrawI xs (fun r=>r∈l)):=by
 refine ACalls.of_body (C:=C.spec_l1PickInt) (n:=Tryz.f150.ntmps) tabT folT Tryz.func150 rfl (by kernel_rfl) rfl (Nat.le_of_ble_eq_true rfl) (by decide) (by kernel_rfl) (by kernel_rfl) rfl (by simp) (by simp) ?_
 simp only [Tryz.f150]
 refine wseq ?_
 refine wreg fun K hK=>?_
 simp [C.spec_l1PickInt]
 refine hK _ ?_;clear hK K
 show AWp _ _ _ _ _
 refine wseq ?_
 refine wregI ([0,1,2,3,4] ++ ([5,6,7])) rfl fun K hK=>?_
 have hJ:∀ (i4:Nat) (h4:Int) (c4:Int) (hi4:i4<=xs.length) (hc4:c4∈l),K ⟨ofL [(4,.int c4),(1000,.pt (1000,0) [] 0)],ofRO [((1000,0),some (cur xs i4 h4))]⟩:=by
  intro i4 h4 c4 hi4 hc4
  refine hK _ ?_;clear hK K
  show AWp _ _ _ _ _
  refine wret ?_
  simp [C.spec_l1PickInt]
  exact ⟨i4,h4,c4,hi4,hc4,rfl,rfl⟩
 clear hK
 have hget:∀ z:Int,0<=z->z < l.length->∃ q:Nat,z=q/\∃ hq:q < l.length,l[q]∈l:=fun z h1 h2=>⟨z.toNat,by omega,by omega,List.getElem_mem _⟩
 simp [C.spec_l1PickInt]
 repeat' first
  | (refine wcall (spec_l1Below_c xs i h l.length hi hx (by omega)) (by simp) (by simp) (by simp) ?_;rintro outs res ⟨i4,h4,c4,q1,q2,rfl,rfl⟩;obtain ⟨q,rfl,hq,hm⟩:=hget c4 q2.1 q2.2;simp [C.spec_l1PickInt,get_ints,hq])
  | (refine cast (congrArg K ?_) (hJ i4 h4 l[q] q1 hm);simp;done)
  | refine And.intro ?_ ?_
theorem spec_dIndex_c (xs:List Int) (i:Nat) (h:Int) (n:Nat) (hi:i<=xs.length) (hx:xs.length<=1048576) (hn:1<=n/\n<=5):ACalls Tryz.prog F.spec_dIndex [.pt (0,0) [] 0,.int n] [((0,0),cur xs i h)] false (DrawI xs (fun r=>-1<=r/\r<=6)):=by
 refine ACalls.of_body (C:=C.spec_dIndex) (n:=Tryz.f74.ntmps) tabT folT Tryz.func74 rfl (by kernel_rfl) rfl (Nat.le_of_ble_eq_true rfl) (by decide) (by kernel_rfl) (by kernel_rfl) rfl (by simp) (by simp) ?_
 simp only [Tryz.f74]
 refine wseq ?_
 refine wreg fun K hK=>?_
 simp [C.spec_dIndex]
 refine hK _ ?_;clear hK K
 show AWp _ _ _ _ _
 refine wseq ?_
 refine wseq ?_
 refine wregI ([0,1] ++ ([])) rfl fun K hK=>?_
 refine oSg fun L hL=>?_
 simp [C.spec_dIndex]
 refine wcall (spec_l1Once_c xs i h 12 hi hx (by omega)) (by simp) (by simp) (by simp) ?_
 rintro outs res ⟨i1,h1,c1,q1,rfl,rfl⟩
 simp [C.spec_dIndex]
 refine hL _ ?_;clear hL L
 refine oEn fun L hL=>?_
 simp only [AOpsI]
 refine hL _ ?_;clear hL L
 simp [C.spec_dIndex]
 refine hK _ ?_;clear hK K
 show AWp _ _ _ _ _
 refine wcond _ rfl (fun hc1=>?_) (fun hc1=>?_)
 ·refine wseq ?_
  have hl3:[D.v (.int .i64 (-1)),D.v (.int .i64 (n:Int)),D.v (.int .i64 ((n:Int)+1))]=ints [-1,(n:Int),(n:Int)+1]:=rfl
  refine wregI ([0,1,2,3,4,5] ++ ([6])) rfl fun K hK=>?_
  refine oSg fun L hL=>?_
  simp [C.spec_dIndex,wrapOk (x:=(n:Int)+1) (by omega) (by omega),hl3]
  refine wcall (spec_l1PickInt_c xs i1 h1 [-1,(n:Int),(n:Int)+1] q1 hx (by simp)) (by simp) (by simp) (by simp) ?_
  rintro outs res ⟨i2,h2,c2,p1,p2,rfl,rfl⟩
  simp [C.spec_dIndex,wrapOk (x:=(n:Int)+1) (by omega) (by omega),hl3]
  refine hL _ ?_;clear hL L
  refine oEn fun L hL=>?_
  simp [C.spec_dIndex,wrapOk (x:=(n:Int)+1) (by omega) (by omega),hl3]
  refine hL _ ?_;clear hL L
  simp [C.spec_dIndex,wrapOk (x:=(n:Int)+1) (by omega) (by omega),hl3]
  refine hK _ ?_;clear hK K
  show AWp _ _ _ _ _
  refine wret ?_
  simp [C.spec_dIndex]
  refine ⟨i2,h2,c2,p1,?_,rfl,rfl⟩
  simp only [List.mem_cons,List.not_mem_nil,or_false] at p2
  omega
 ·refine wskip ?_
  show AWp _ _ _ _ _
  refine wseq ?_
  refine wregI ([0,1,2] ++ ([3])) rfl fun K hK=>?_
  refine oSg fun L hL=>?_
  simp [C.spec_dIndex]
  refine wcall (spec_l1Below_c xs i1 h1 n q1 hx (by omega)) (by simp) (by simp) (by simp) ?_
  rintro outs res ⟨i2,h2,c2,p1,p2,rfl,rfl⟩
  simp [C.spec_dIndex]
  refine hL _ ?_;clear hL L
  refine oEn fun L hL=>?_
  simp [C.spec_dIndex]
  refine hL _ ?_;clear hL L
  simp [C.spec_dIndex]
  refine hK _ ?_;clear hK K
  show AWp _ _ _ _ _
  refine wret ?_
  simp [C.spec_dIndex]
  exact ⟨i2,h2,c2,p1,by omega,rfl,rfl⟩
theorem spec_dSeed_c (xs:List Int) (i:Nat) (h:Int) (hi:i<=xs.length) (hx:xs.length<=1048576):ACalls Tryz.prog F.spec_dSeed [.pt (0,0) [] 0] [((0,0),cur xs i h)] false (DrawSd xs):=by
 refine ACalls.of_body (C:=C.spec_dSeed) (n:=Tryz.f71.ntmps) tabT folT Tryz.func71 rfl (by kernel_rfl) rfl (Nat.le_of_ble_eq_true rfl) (by decide) (by kernel_rfl) (by kernel_rfl) rfl (by simp) (by simp) ?_
 simp only [Tryz.f71]
 refine wseq ?_
 refine wreg fun K hK=>?_
 simp [C.spec_dSeed]
 refine hK _ ?_;clear hK K
 show AWp _ _ _ _ _
 refine wseq ?_
 refine wregI ([0,1] ++ ([2,3,4,5,6,7])) rfl fun K hK=>?_
 refine oSg fun L hL=>?_
 simp [C.spec_dSeed,mO]
 refine wcall (spec_dFinite_c xs i h hi hx) (by simp) (by simp) (by simp) ?_
 rintro outs res ⟨i1,h1,m,st,p1,p2,rfl,rfl⟩
 simp [C.spec_dSeed,mO]
 refine hL _ ?_;clear hL L
 refine oEn fun L hL=>?_
 simp [C.spec_dSeed,mO]
 refine hL _ ?_;clear hL L
 simp [C.spec_dSeed,mO]
 refine hK _ ?_;clear hK K
 show AWp _ _ _ _ _
 refine wseq ?_
 refine wseq ?_
 refine wregI ([0,1] ++ ([])) rfl fun K hK=>?_
 refine oSg fun L hL=>?_
 simp [C.spec_dSeed]
 refine wcall (spec_l1Once_c xs i1 h1 3 p1 hx (by omega)) (by simp) (by simp) (by simp) ?_
 rintro outs res ⟨i2,h2,c2,q1,rfl,rfl⟩
 simp [C.spec_dSeed]
 refine hL _ ?_;clear hL L
 refine oEn fun L hL=>?_
 simp only [AOpsI]
 refine hL _ ?_;clear hL L
 simp [C.spec_dSeed]
 refine hK _ ?_;clear hK K
 show AWp _ _ _ _ _
 refine wcondJ (fun σ'=>∃ (m':Mat) (i':Nat) (h':Int) (t:Nat) (f:FV),(FzM m'/\i'<=xs.length)/\σ'=⟨ofL [(0,.pt (0,0) [] 0),(2,.pt (2,0) [] 0),(3,.pt (3,0) [] 0),(1000,.pt (0,0) [] 0),(t,f)],ofRO [((0,0),some (cur xs i' h')),((2,0),some (.bx [D.int 0,D.int 0,.v (.slice none 0 0),.v (.slice none 0 0)])),((3,0),some (.bx [D.int m'.n,D.int m'.r,owI m'.d]))]⟩) _ rfl ?_ (fun hc1 Qc1 hQc1=>?_) (fun hc1 Qc1 hQc1=>?_)
 ·rintro σc1 ⟨mm,i3,h3,tt,ff,⟨hfz,p3⟩,rfl⟩
  show AWp _ _ _ _ _
  refine wseq ?_
  obtain ⟨n,r,f1,f2,f3,f4,f5⟩:=hfz
  have hmd:mm.d.length < 17592186044416:=by
   have hd:=sh_dim f5
   have:mm.r.toNat*mm.n.toNat<=8*5:=Nat.mul_le_mul hd.2.2.2.1 hd.2.1
   omega
  have hini:=spec_l3Initial_c n r mm.d (by omega) hmd
  have hv0:=vars_fpv (n:=r) (by omega)
  have hS0:SdS n r ⟨⟨n,r,mm.d⟩,varsL r⟩:=by
   have em:(⟨n,r,mm.d⟩:Mat)=mm:=by cases mm;simp_all
   refine ⟨rfl,rfl,by rw [em];exact f5,by simp [varsL],fun f hf=>⟨small_right (hv0 f hf).1,(hv0 f hf).2.2⟩⟩
  obtain ⟨s0,hs0⟩:∃ s:Sed,s=⟨⟨n,r,mm.d⟩,varsL r⟩:=⟨_,rfl⟩
  rw [<-hs0] at hini hS0
  refine wregI ([0,1] ++ ([2,3])) rfl fun K hK=>?_
  refine oSg fun L hL=>?_
  simp [C.spec_dSeed,f1,f2,sO]
  refine wcall1 (hini) (by simp) (by simp) ?_
  simp [C.spec_dSeed,f1,f2,sO]
  refine hL _ ?_;clear hL L
  refine oEn fun L hL=>?_
  simp [C.spec_dSeed,f1,f2,sO]
  refine hL _ ?_;clear hL L
  simp [C.spec_dSeed,f1,f2,sO]
  refine hK _ ?_;clear hK K
  show AWp _ _ _ _ _
  refine wseq ?_
  refine wregI ([0,1] ++ ([2])) rfl fun K hK=>?_
  refine oSg fun L hL=>?_
  simp [C.spec_dSeed]
  refine wcall (spec_l1Below_c xs i3 h3 4 p3 hx (by omega)) (by simp) (by simp) (by simp) ?_
  rintro outs res ⟨i4,h4,c4,p4,q4,rfl,rfl⟩
  simp [C.spec_dSeed]
  refine hL _ ?_;clear hL L
  refine oEn fun L hL=>?_
  simp [C.spec_dSeed]
  refine hL _ ?_;clear hL L
  simp [C.spec_dSeed]
  refine hK _ ?_;clear hK K
  show AWp _ _ _ _ _
  refine wseq ?_
  refine wseq ?_
  obtain ⟨cc,hcc⟩:∃ cc:Nat,c4=cc:=⟨c4.toNat,by omega⟩
  rw [hcc]
  refine wreg fun K hK=>?_
  simp [C.spec_dSeed]
  refine hK _ ?_;clear hK K
  show AWp _ _ _ _ _
  refine wblock ?_
  refine wloop (fun x:Nat×Sed×Nat×Int=>⟨ofL [(0,.pt (0,0) [] 0),(2,.pt (2,0) [] 0),(3,.pt (3,0) [] 0),(5,.pt (5,0) [] 0),(6,.int cc),(7,.int x.1),(1000,.pt (0,0) [] 0)],ofRO [((0,0),some (cur xs x.2.2.1 x.2.2.2)),((2,0),some (.bx [D.int 0,D.int 0,.v (.slice none 0 0),.v (.slice none 0 0)])),((3,0),some (.bx [D.int n,D.int r,owI mm.d])),((5,0),some (.bx (sO x.2.1)))]⟩) (fun x=>x.1<=cc/\SdS n r x.2.1/\x.2.2.1<=xs.length) (fun x=>cc - x.1) (0,s0,i4,h4) (by simp [C.spec_dSeed,sO,f1,f2]) ⟨by simp,hS0,p4⟩ ?_
  intro x1 hx1 R1 hR1
  obtain ⟨j,s,i5,h5⟩:=x1
  obtain ⟨g1,g2,g3⟩:=hx1
  dsimp only at g1 g2 g3 ⊢
  obtain ⟨b1,b2,b3,b4,b5⟩:=g2
  refine wseq ?_
  refine wseq ?_
  refine wreg fun K hK=>?_
  simp [C.spec_dSeed]
  refine hK _ ?_;clear hK K
  show AWp _ _ _ _ _
  refine wcond _ rfl (fun hc2=>?_) (fun hc2=>?_)
  ·have hj:j < cc:=by have:=d_t hc2;omega
   refine wskip ?_
   show AWp _ _ _ _ _
   refine wseq ?_
   refine wblock ?_
   refine wseq ?_
   refine wdraw (.take 1 (.take 2 (.take 3 (.all [(0,.all [(4,.all [(5,.take 6 (.take 7 (.take 8 (.all [(9,.all [(10,.take 11 (.done))])])))),(9,.all [(5,.take 6 (.take 7 (.take 8 (.all [(10,.take 11 (.done))]))))])]),(9,.all [(4,.all [(5,.take 6 (.take 7 (.take 8 (.all [(10,.take 11 (.done))]))))])])]),(4,.take 0 (.all [(5,.take 6 (.take 7 (.take 8 (.all [(9,.all [(10,.take 11 (.done))])])))),(9,.all [(5,.take 6 (.take 7 (.take 8 (.all [(10,.take 11 (.done))]))))])])),(9,.all [(0,.all [(4,.all [(5,.take 6 (.take 7 (.take 8 (.all [(10,.take 11 (.done))]))))])]),(4,.take 0 (.all [(5,.take 6 (.take 7 (.take 8 (.all [(10,.take 11 (.done))]))))]))])])))) ⟨by kernel_rfl,by kernel_rfl⟩ fun K hK=>?_
   have hJ:∀ (i6:Nat) (h6:Int) (k:Nat) (hi6:i6<=xs.length) (hk:k < n),K ⟨ofL [(0,.pt (0,0) [] 0),(2,.pt (2,0) [] 0),(3,.pt (3,0) [] 0),(5,.pt (5,0) [] 0),(6,.int cc),(7,.int j),(8,.pt (8,0) [] 0),(9,.bool (seedG s r k).2),(1000,.pt (0,0) [] 0)],ofRO [((0,0),some (cur xs i6 h6)),((2,0),some (.bx [D.int 0,D.int 0,.v (.slice none 0 0),.v (.slice none 0 0)])),((3,0),some (.bx [D.int n,D.int r,owI mm.d])),((5,0),some (.bx (sO s))),((8,0),some (.bx (sO (seedG s r k).1)))]⟩:=by
    intro i6 h6 k hi6 hk
    refine hK _ ?_;clear hK K
    show AWp _ _ _ _ _
    refine wseq ?_
    refine wreg fun K hK=>?_
    simp [C.spec_dSeed]
    refine hK _ ?_;clear hK K
    show AWp _ _ _ _ _
    refine wcond _ rfl (fun hc3=>?_) (fun hc3=>?_)
    ·have hb:(seedG s r k).2=true:=by simpa using hc3
     have hT:=SdS.mut (k:=k) ⟨b1,b2,b3,b4,b5⟩ (by omega) hb
     obtain ⟨T,hTe⟩:∃ T,T=(seedG s r k).1:=⟨_,rfl⟩
     rw [<-hTe] at hT
     rw [<-hTe]
     refine wreg fun K hK=>?_
     simp [C.spec_dSeed,sO]
     refine hK _ ?_;clear hK K
     show AWp _ _ _ _ _
     refine wreg fun K hK=>?_
     simp [C.spec_dSeed,wrap_succ (show j < 4611686018427387904 by omega)]
     refine hK _ ?_;clear hK K
     simp [C.spec_dSeed]
     refine cast (congrArg R1 ?_) (hR1 (j+1,T,i6,h6) ⟨hj,hT,hi6⟩ (by dsimp only;omega))
     simp [sO]
    ·refine wskip ?_
     show AWp _ _ _ _ _
     refine wreg fun K hK=>?_
     simp [C.spec_dSeed,wrap_succ (show j < 4611686018427387904 by omega)]
     refine hK _ ?_;clear hK K
     simp [C.spec_dSeed]
     exact hR1 (j+1,s,i6,h6) ⟨hj,⟨b1,b2,b3,b4,b5⟩,hi6⟩ (by dsimp only;omega)
   clear hK
   have hmt:=fun (k:Nat) (hk:k < n)=>(spec_l3Mutate_c s k n r b1 b2 b3 b4 (fun f hf=>(b5 f hf).1) (fun f hf=>(b5 f hf).2) hk).weak1
   have haS:aS s = .ag [.int n,.int r,.d (shI s.m.d),.d (.sh 2 s.f.length (rows fS s.f))]:=by simp only [aS,b1,b2]
   rw [haS] at hmt
   have hnat:∀ z:Int,0<=z->z < n->∃ q:Nat,z=q/\q < n:=fun z h1 h2=>⟨z.toNat,by omega,by omega⟩
   simp [C.spec_dSeed,sO,b1,b2]
   repeat' first
    | (refine wcall (spec_l1Below_c xs i5 h5 n g3 hx (by omega)) (by simp) (by simp) (by simp) ?_;rintro outs res ⟨i6,h6,kk,q1,q2,rfl,rfl⟩;obtain ⟨k,rfl,hk⟩:=hnat kk q2.1 q2.2;simp [C.spec_dSeed,sO,b1,b2])
    | (refine wcall1 (hmt k hk) ?_ (by simp) ?_;(focus (simp;done));simp [C.spec_dSeed,sO,b1,b2])
    | (refine cast (congrArg K ?_) (hJ i6 h6 k q1 hk);simp [sO,b1,b2];done)
    | refine And.intro ?_ ?_
  ·refine wexit ?_
   show AWp _ _ _ _ _
   refine wseq ?_
   refine wreg fun K hK=>?_
   simp [C.spec_dSeed,sO]
   refine hK _ ?_;clear hK K
   show AWp _ _ _ _ _
   refine wret ?_
   simp [C.spec_dSeed]
   exact ⟨i5,h5,s,g3,⟨n,r,b1,b2,f3,f4,b3,b4,b5⟩,rfl,by simp [sO]⟩
 ·obtain ⟨n,m1,m2,m3,m4⟩:=p2
  refine wregI ([0,1,2] ++ ([3])) rfl fun K hK=>?_
  refine oSg fun L hL=>?_
  simp [C.spec_dSeed,m1,m2,mO]
  refine wcall (spec_dFrozen_c xs i2 h2 m n q1 hx m1 m2 m3 m4) (by simp) (by simp) (by simp) ?_
  rintro outs res ⟨i3,h3,mz,z1,z2,rfl,rfl⟩
  simp [C.spec_dSeed,m1,m2,mO]
  refine hL _ ?_;clear hL L
  refine oEn fun L hL=>?_
  simp [C.spec_dSeed,m1,m2,mO]
  refine hL _ ?_;clear hL L
  simp [C.spec_dSeed,m1,m2,mO]
  refine hK _ ?_;clear hK K
  rw [ofL_padE]
  exact hQc1 _ ⟨mz,i3,h3,0,.dead,⟨z2,z1⟩,rfl⟩
 ·refine wskip ?_
  exact hQc1 _ ⟨m,i2,h2,16,_,⟨p2.fz,q1⟩,congrArg (fun e=>St.mk e _) (ofL_swap (x:=(16,_)) (y:=(1000,_)) (by simp) [(0,.pt (0,0) [] 0),(2,.pt (2,0) [] 0),(3,.pt (3,0) [] 0)])⟩
end Go.Proofs.YtbhkonnakkhibaaGreat.Ab
namespace Go.Proofs.YtbhkonnakkhibaaGreat.Ab
open Go
set_option maxRecDepth 10000
set_option maxHeartbeats 2000000
theorem laws_plus_c (f:Lau) (k:Int) (g:Lau) (hx:f.ts.length < 4611686018427387904) (hxe:∀ t∈f.ts,t.e.length < 4611686018427387904) (hy:g.ts.length < 4611686018427387904) (hye:∀ t∈g.ts,t.e.length < 4611686018427387904):ACalls Tryz.prog F.laws_plus [aF f,.int k,aF g] [] true (fun outs res=>outs=[]/\res=[.ag (fO (addF f k g).1)]):=by
 refine ACalls.of_body (C:=C.laws_plus) (n:=Tryz.f31.ntmps) tabT folT Tryz.func31 rfl (by kernel_rfl) rfl (Nat.le_of_ble_eq_true rfl) (by decide) (by kernel_rfl) (by kernel_rfl) rfl (by simp) (by simp) ?_
 simp only [Tryz.f31]
 refine wseq ?_
 refine wreg fun K hK=>?_
 simp [C.laws_plus,fS,fO]
 refine hK _ ?_;clear hK K
 show AWp _ _ _ _ _
 refine wseq ?_
 refine wregI ([0,1,2,3] ++ ([4,5,6,7,8,9])) rfl fun K hK=>?_
 refine oSg fun L hL=>?_
 simp [C.laws_plus,fS,fO]
 refine wcall1 (iAdd_c f k g hx hxe hy hye) (by simp) (by simp) ?_
 simp [C.laws_plus,fS,fO]
 refine hL _ ?_;clear hL L
 refine oEn fun L hL=>?_
 simp [C.laws_plus,fS,fO]
 refine hL _ ?_;clear hL L
 simp [C.laws_plus,fS,fO]
 refine hK _ ?_;clear hK K
 show AWp _ _ _ _ _
 refine wseq ?_
 refine wreg fun K hK=>?_
 simp [C.laws_plus,fS,fO]
 refine hK _ ?_;clear hK K
 show AWp _ _ _ _ _
 refine wret ?_
 simp [C.laws_plus,fS,fO]
end Go.Proofs.YtbhkonnakkhibaaGreat.Ab
namespace Go.Proofs.YtbhkonnakkhibaaGreat.Ab
open Go
set_option maxRecDepth 10000
set_option maxHeartbeats 4000000
attribute [local simp] cur
def SdV (s:Sed):Prop:=s.m.d.length<=1000/\s.f.length<=8/\∀ f∈s.f,SmallF f
theorem SdI.v {s:Sed} (h:SdI s):SdV s:=by
 obtain ⟨n,r,h1,h2,h3,h4,h5,h6,h7⟩:=h
 have hd:=sh_dim h5
 have:s.m.r.toNat*s.m.n.toNat<=8*5:=Nat.mul_le_mul hd.2.2.2.1 hd.2.1
 exact ⟨by omega,by omega,fun f hf=>(h7 f hf).1⟩
def DrawSK (outs:List D) (res:List RV):Prop:=∃ (s:Sed) (k:Int),SdV s/\(-1<=k/\k<=6)/\outs=[]/\res=[.ag (sO s),.one (D.int k)]
theorem spec_DrawMutateSeed_c (xs:List Int) (hx:xs.length<=1048576):ACalls Tryz.prog F.spec_DrawMutateSeed [.d (.sh 1 xs.length (byts xs))] [] false DrawSK:=by
 refine ACalls.of_body (C:=C.spec_DrawMutateSeed) (n:=Tryz.f22.ntmps) tabT folT Tryz.func22 rfl (by kernel_rfl) rfl (Nat.le_of_ble_eq_true rfl) (by decide) (by kernel_rfl) (by kernel_rfl) rfl (by simp) (by simp) ?_
 simp only [Tryz.f22]
 refine wseq ?_
 refine wreg fun K hK=>?_
 simp [C.spec_DrawMutateSeed]
 refine hK _ ?_;clear hK K
 show AWp _ _ _ _ _
 refine wseq ?_
 refine wregI ([0,1] ++ ([2])) rfl fun K hK=>?_
 refine oSg fun L hL=>?_
 simp [C.spec_DrawMutateSeed]
 refine wcall (spec_l1New_c xs hx) (by simp) (by simp) (by simp) ?_
 rintro outs res ⟨rfl,h0,rfl⟩
 simp [C.spec_DrawMutateSeed]
 refine hL _ ?_;clear hL L
 refine oEn fun L hL=>?_
 simp [C.spec_DrawMutateSeed]
 refine hL _ ?_;clear hL L
 simp [C.spec_DrawMutateSeed]
 refine hK _ ?_;clear hK K
 show AWp _ _ _ _ _
 refine wseq ?_
 refine wregI ([0,1] ++ ([2,3])) rfl fun K hK=>?_
 refine oSg fun L hL=>?_
 simp [C.spec_DrawMutateSeed]
 refine wcall (spec_dSeed_c xs 0 h0 (by omega) hx) (by simp) (by simp) (by simp) ?_
 rintro outs res ⟨i1,h1,s,p1,p2,rfl,rfl⟩
 simp [C.spec_DrawMutateSeed]
 refine hL _ ?_;clear hL L
 refine oEn fun L hL=>?_
 simp [C.spec_DrawMutateSeed]
 refine hL _ ?_;clear hL L
 simp [C.spec_DrawMutateSeed]
 refine hK _ ?_;clear hK K
 show AWp _ _ _ _ _
 refine wseq ?_
 refine wseq ?_
 have hsv:=p2.v
 obtain ⟨n,r,s1,s2,s3,s4,s5,s6,s7⟩:=p2
 refine wregI ([0,1] ++ ([])) rfl fun K hK=>?_
 refine oSg fun L hL=>?_
 simp [C.spec_DrawMutateSeed,sO,s1,s2]
 refine wcall (spec_l1Once_c xs i1 h1 10 p1 hx (by omega)) (by simp) (by simp) (by simp) ?_
 rintro outs res ⟨i2,h2,c2,q1,rfl,rfl⟩
 simp [C.spec_DrawMutateSeed,sO,s1,s2]
 refine hL _ ?_;clear hL L
 refine oEn fun L hL=>?_
 simp only [AOpsI]
 refine hL _ ?_;clear hL L
 simp [C.spec_DrawMutateSeed,sO,s1,s2]
 refine hK _ ?_;clear hK K
 show AWp _ _ _ _ _
 refine wcond _ rfl (fun hc1=>?_) (fun hc1=>?_)
 ·have hl0:0 < s.f.length:=by omega
  refine wdraw (.take 0 (.take 2 (.take 3 (.take 4 (.take 5 (.all [(1,.all [(6,.take 7 (.all [(8,.done)]))]),(6,.take 1 (.take 7 (.all [(8,.done)])))])))))) ⟨by kernel_rfl,by kernel_rfl⟩ fun K hK=>?_
  have hJ:∀ (i3:Nat) (h3:Int) (f:Lau) (hi3:i3<=xs.length) (hf:Right f),K ⟨ofL [(2,.pt (2,0) [] 0),(4,.pt (4,0) [] 0),(5,.pt (5,0) [] 0)],ofRO [((2,0),some (.bx [D.int 0,D.int 0,.v (.slice none 0 0),.v (.slice none 0 0)])),((4,0),some (cur xs i3 h3)),((5,0),some (.bx [D.int n,D.int r,owI s.m.d,.ow 2 s.f.length (rows fO (s.f.set 0 f))]))]⟩:=by
   intro i3 h3 f hi3 hf
   refine hK _ ?_;clear hK K
   show AWp _ _ _ _ _
   refine wseq ?_
   refine wdraw (.take 1 (.take 2 (.take 3 (.take 4 (.all [(0,.all [(5,.all [(6,.take 7 (.done))])]),(5,.take 0 (.all [(6,.take 7 (.done))]))]))))) ⟨by kernel_rfl,by kernel_rfl⟩ fun K hK=>?_
   have hJ:∀ (i4:Nat) (h4:Int) (kk:Int) (hi4:i4<=xs.length) (hk:-1<=kk/\kk<=6),K ⟨ofL [(2,.pt (2,0) [] 0),(3,.int kk)],ofRO [((2,0),some (.bx [D.int n,D.int r,owI s.m.d,.ow 2 s.f.length (rows fO (s.f.set 0 f))]))]⟩:=by
    intro i4 h4 kk hi4 hk
    refine hK _ ?_;clear hK K
    show AWp _ _ _ _ _
    refine wret ?_
    simp [C.spec_DrawMutateSeed]
    exact ⟨⟨s.m,s.f.set 0 f⟩,kk,⟨hsv.1,by simpa using hsv.2.1,fun g hg=>by
      rcases List.mem_or_eq_of_mem_set hg with hg | rfl
      ·exact hsv.2.2 g hg
      ·exact small_right hf⟩,hk,by simp [sO,s1,s2]⟩
   clear hK
   simp [C.spec_DrawMutateSeed]
   repeat' first
    | (refine wcall (spec_dIndex_c xs i3 h3 n hi3 hx (by omega)) (by simp) (by simp) (by simp) ?_;rintro outs res ⟨i4,h4,kk,z1,z2,rfl,rfl⟩;simp [C.spec_DrawMutateSeed])
    | (refine cast (congrArg K ?_) (hJ i4 h4 kk z1 z2);simp;done)
    | refine And.intro ?_ ?_
  clear hK
  have y0:(rows fO s.f)[0]? = some (D.int s.f[0].v)/\∀ h',(rows fO s.f)[0]'h'=D.int s.f[0].v:=fO_0 hl0
  have y1:(rows fO s.f)[1]? = some (.ow 2 s.f[0].ts.length (rows tO s.f[0].ts))/\∀ h',(rows fO s.f)[1]'h' = .ow 2 s.f[0].ts.length (rows tO s.f[0].ts):=fO_1 hl0
  have yset:∀ f:Lau,((rows fO s.f).set 0 (.v (.int .i64 f.v))).set 1 (.ow 2 f.ts.length (rows tO f.ts))=rows fO (s.f.set 0 f):=fun f=>fO_set2 hl0 f.v f.ts rfl
  have hlr:0 < (rows fO s.f).length:=by rw [fO_length];omega
  have hlr1:1 < 2*s.f.length:=by omega
  simp [C.spec_DrawMutateSeed,sO,s1,s2,hl0]
  repeat' first
   | (refine wcall (spec_dLaurent_c xs i2 h2 r q1 hx (by omega)) (by simp) (by simp) (by simp) ?_;rintro outs res ⟨i3,h3,f,z1,z2,rfl,rfl⟩;simp [C.spec_DrawMutateSeed,sO,fO,hl0,y0,y1,yset,hlr1,show 0 < 2*s.f.length by omega])
   | (refine cast (congrArg K ?_) (hJ i3 h3 f z1 z2.1);simp [sO,owI,yset];done)
   | refine And.intro ?_ ?_
   | omega
 ·refine wskip ?_
  show AWp _ _ _ _ _
  refine wseq ?_
  refine wdraw (.take 1 (.take 2 (.take 3 (.take 4 (.all [(0,.all [(5,.all [(6,.take 7 (.done))])]),(5,.take 0 (.all [(6,.take 7 (.done))]))]))))) ⟨by kernel_rfl,by kernel_rfl⟩ fun K hK=>?_
  have hJ:∀ (i4:Nat) (h4:Int) (kk:Int) (hi4:i4<=xs.length) (hk:-1<=kk/\kk<=6),K ⟨ofL [(2,.pt (2,0) [] 0),(3,.int kk)],ofRO [((2,0),some (.bx [D.int n,D.int r,owI s.m.d,.ow 2 s.f.length (rows fO s.f)]))]⟩:=by
   intro i4 h4 kk hi4 hk
   refine hK _ ?_;clear hK K
   show AWp _ _ _ _ _
   refine wret ?_
   simp [C.spec_DrawMutateSeed]
   exact ⟨s,kk,hsv,hk,by simp [sO,s1,s2]⟩
  clear hK
  simp [C.spec_DrawMutateSeed]
  repeat' first
   | (refine wcall (spec_dIndex_c xs i2 h2 n q1 hx (by omega)) (by simp) (by simp) (by simp) ?_;rintro outs res ⟨i4,h4,kk,z1,z2,rfl,rfl⟩;simp [C.spec_DrawMutateSeed])
   | (refine cast (congrArg K ?_) (hJ i4 h4 kk z1 z2);simp;done)
   | refine And.intro ?_ ?_
theorem laws_lists_c (xs ys:List Lau) (hx:xs.length < 4611686018427387904) (hx2:∀ t∈xs,SmF t):ACalls Tryz.prog F.laws_lists [.d (.sh 2 xs.length (rows fS xs)),.d (.sh 2 ys.length (rows fS ys))] [] true (fun outs res=>outs=[]/\res=[.one (D.bool (decide (xs=ys)))]):=by
 refine ACalls.of_body (C:=C.laws_lists) (n:=Tryz.f80.ntmps) tabT folT Tryz.func80 rfl (by kernel_rfl) rfl (Nat.le_of_ble_eq_true rfl) (by decide) (by kernel_rfl) (by kernel_rfl) rfl (by simp) (by simp) ?_
 simp only [Tryz.f80]
 refine wseq ?_
 refine wreg fun K hK=>?_
 simp [C.laws_lists]
 refine hK _ ?_;clear hK K
 show AWp _ _ _ _ _
 refine wseq ?_
 refine wseq ?_
 refine wreg fun K hK=>?_
 simp [C.laws_lists]
 refine hK _ ?_;clear hK K
 show AWp _ _ _ _ _
 refine wcond _ rfl (fun hc1=>?_) (fun hc1=>?_)
 ·refine wseq ?_
  refine wreg fun K hK=>?_
  simp [C.laws_lists]
  refine hK _ ?_;clear hK K
  show AWp _ _ _ _ _
  refine wret ?_
  simp at hc1
  simp [C.laws_lists]
  intro e;simp [e] at hc1
 ·refine wskip ?_
  show AWp _ _ _ _ _
  refine wseq ?_
  refine wseq ?_
  refine wreg fun K hK=>?_
  simp [C.laws_lists]
  refine hK _ ?_;clear hK K
  show AWp _ _ _ _ _
  refine wblock ?_
  have e:xs.length=ys.length:=by simp at hc1;omega
  refine wloop (fun k:Nat=>⟨ofL [(0,.d (.sh 2 xs.length (rows fS xs))),(1,.d (.sh 2 ys.length (rows fS ys))),(5,FV.int k)],ofRO []⟩) (fun k=>k<=xs.length/\xs.take k=ys.take k) (fun k=>xs.length - k) 0 (by simp [C.laws_lists]) (by simp) ?_
  intro x1 hx1 R1 hR1
  obtain ⟨hk,ht⟩:=hx1
  refine wseq ?_
  refine wseq ?_
  refine wreg fun K hK=>?_
  simp [C.laws_lists]
  refine hK _ ?_;clear hK K
  show AWp _ _ _ _ _
  refine wcond _ rfl (fun hc2=>?_) (fun hc2=>?_)
  ·refine wskip ?_
   show AWp _ _ _ _ _
   refine wseq ?_
   refine wblock ?_
   refine wseq ?_
   have h1:x1 < xs.length:=by simpa using hc2
   have h2:x1 < ys.length:=by omega
   refine wdrawI [(true,0),(true,1),(true,2),(true,3),(true,4),(true,5),(true,6),(true,7),(false,8),(true,9)] ⟨by kernel_rfl,by kernel_rfl⟩ ([0,1,2,3,4,5,6,7,8] ++ ([9])) rfl fun K hK=>?_
   refine oSg fun L hL=>?_
   simp [C.laws_lists,h1,h2,fS_0 h1,fS_1 h1,fS_0 h2,fS_1 h2]
   refine wcall1 (laws_laurents_c xs[x1] ys[x1] (hx2 _ (List.getElem_mem h1)).1 (hx2 _ (List.getElem_mem h1)).2) (by simp) (by simp) ?_
   simp [C.laws_lists,h1,h2,fS_0 h1,fS_1 h1,fS_0 h2,fS_1 h2]
   refine hL _ ?_;clear hL L
   refine oEn fun L hL=>?_
   simp [C.laws_lists,h1,h2,fS_0 h1,fS_1 h1,fS_0 h2,fS_1 h2]
   refine hL _ ?_;clear hL L
   simp [C.laws_lists,h1,h2,fS_0 h1,fS_1 h1,fS_0 h2,fS_1 h2]
   refine hK _ ?_;clear hK K
   show AWp _ _ _ _ _
   refine wcond _ rfl (fun hc3=>?_) (fun hc3=>?_)
   ·refine wseq ?_
    refine wreg fun K hK=>?_
    simp [C.laws_lists]
    refine hK _ ?_;clear hK K
    show AWp _ _ _ _ _
    refine wret ?_
    simp at hc3
    simp [C.laws_lists]
    intro e;simp [e] at hc3
   ·refine wskip ?_
    show AWp _ _ _ _ _
    refine wreg fun K hK=>?_
    simp [C.laws_lists,wrap_succ (show x1 < 4611686018427387904 by omega)]
    refine hK _ ?_;clear hK K
    simp [C.laws_lists]
    simp at hc3
    refine hR1 (x1+1) ⟨h1,?_⟩ (by omega)
    rw [List.take_succ_eq_append_getElem h1,List.take_succ_eq_append_getElem h2,ht,hc3]
  ·refine wexit ?_
   show AWp _ _ _ _ _
   refine wseq ?_
   refine wreg fun K hK=>?_
   simp [C.laws_lists]
   refine hK _ ?_;clear hK K
   show AWp _ _ _ _ _
   refine wret ?_
   have hk2:x1=xs.length:=by simp at hc2;omega
   simp [C.laws_lists]
   rw [hk2,List.take_length,e,List.take_length] at ht
   exact ht
theorem laws_seeds_c (a b:Sed) (hx:SmS a):ACalls Tryz.prog F.laws_seeds [aS a,aS b] [] true (fun outs res=>outs=[]/\res=[.one (D.bool (decide (a=b)))]):=by
 have he:decide (a=b)=(decide (a.m=b.m) && decide (a.f=b.f)):=by
  rw [Bool.eq_iff_iff]
  simp [sed_eq]
 refine ACalls.of_body (C:=C.laws_seeds) (n:=Tryz.f25.ntmps) tabT folT Tryz.func25 rfl (by kernel_rfl) rfl (Nat.le_of_ble_eq_true rfl) (by decide) (by kernel_rfl) (by kernel_rfl) rfl (by simp) (by simp) ?_
 simp only [Tryz.f25]
 refine wseq ?_
 refine wreg fun K hK=>?_
 simp [C.laws_seeds,sS]
 refine hK _ ?_;clear hK K
 show AWp _ _ _ _ _
 refine wseq ?_
 refine wregI ([0,1,2,3,4] ++ ([5,6,7,8,9,10] ++ ([11,12]))) rfl fun K hK=>?_
 have hJ:K ⟨ofL [(4,.bool (decide (a=b)))],ofRO []⟩:=by
  refine hK _ ?_;clear hK K
  show AWp _ _ _ _ _
  refine wret ?_
  simp [C.laws_seeds,sS]
 clear hK
 by_cases h1:a.m=b.m
 ·refine oSg fun L hL=>?_
  simp [C.laws_seeds,sS,h1,h1]
  refine wcall1 (laws_matrices_c a.m b.m hx.1) (by simp [sS,h1]) (by simp) ?_
  simp [C.laws_seeds,sS,h1,h1]
  refine hL _ ?_;clear hL L
  refine oSg fun L hL=>?_
  simp [C.laws_seeds,sS,h1,h1]
  refine wcall1 (laws_lists_c a.f b.f hx.2.1 hx.2.2) (by simp) (by simp) ?_
  simp [C.laws_seeds,sS,h1,h1]
  refine hL _ ?_;clear hL L
  refine oEn fun L hL=>?_
  simp [C.laws_seeds,sS,h1,h1]
  refine hL _ ?_;clear hL L
  simp [C.laws_seeds,sS,h1,h1]
  refine cast (congrArg K ?_) hJ
  simp [he,sS,h1]
 ·refine oSg fun L hL=>?_
  simp [C.laws_seeds,sS,h1]
  refine wcall1 (laws_matrices_c a.m b.m hx.1) (by simp) (by simp) ?_
  simp [C.laws_seeds,sS,h1]
  refine hL _ ?_;clear hL L
  refine oSg fun L hL=>?_
  simp [C.laws_seeds,sS,h1]
  refine hL _ ?_;clear hL L
  refine oEn fun L hL=>?_
  simp [C.laws_seeds,sS,h1]
  refine hL _ ?_;clear hL L
  simp [C.laws_seeds,sS,h1]
  refine cast (congrArg K ?_) hJ
  simp [he,sS,h1]
theorem laws_entry_c (m:Mat) (n r i k:Nat) (hn:m.n=n) (hr:m.r=r) (hS:ShM m) (hi:i < r) (hk:k < n):ACalls Tryz.prog F.laws_entry [.ag [.int n,.int r,.d (shI m.d)],.int i,.int k] [] true (fun outs res=>outs=[]/\res=[.one (D.int (bM m i k))]):=by
 obtain ⟨hq,hv⟩:=bM_get hS (i:=i) (j:=k) (by omega) (by omega)
 have en:m.n.toNat=n:=by omega
 simp only [en] at hq hv
 have hd:=sh_dim hS
 have h1:i*n<=8*5:=Nat.mul_le_mul (by omega) (by omega)
 have e:(i:Int)*n=((i*n:Nat):Int):=by simp
 have hw1:IntKind.i64.wrap ((i:Int)*n)=((i*n:Nat):Int):=by rw [e];exact wrapOk (by omega) (by omega)
 have hw2:IntKind.i64.wrap (((i*n:Nat):Int)+k)=((i*n+k:Nat):Int):=by rw [wrapOk (by omega) (by omega)];omega
 obtain ⟨P,hP⟩:∃ P,P=i*n:=⟨_,rfl⟩
 rw [<-hP] at hw1 hw2 hq
 simp only [<-hP] at hv
 obtain ⟨Q,hQ⟩:∃ Q,Q=P+k:=⟨_,rfl⟩
 rw [<-hQ] at hw2 hq
 simp only [<-hQ] at hv
 refine ACalls.of_body (C:=C.laws_entry) (n:=Tryz.f28.ntmps) tabT folT Tryz.func28 rfl (by kernel_rfl) rfl (Nat.le_of_ble_eq_true rfl) (by decide) (by kernel_rfl) (by kernel_rfl) rfl (by simp) (by simp) ?_
 simp only [Tryz.f28]
 refine wseq ?_
 refine wreg fun K hK=>?_
 simp [C.laws_entry]
 refine hK _ ?_;clear hK K
 show AWp _ _ _ _ _
 refine wseq ?_
 refine wseq ?_
 refine wreg fun K hK=>?_
 simp [C.laws_entry,hw1,hw2]
 refine hK _ ?_;clear hK K
 show AWp _ _ _ _ _
 refine wcond _ rfl (fun hc1=>?_) (fun hc1=>?_)
 ·have:=d_t hc1
  omega
 ·refine wskip ?_
  show AWp _ _ _ _ _
  refine wseq ?_
  refine wreg fun K hK=>?_
  simp [C.laws_entry,hw1,hw2,get_ints,hq,hv,show (Q:Int) < m.d.length by omega]
  refine hK _ ?_;clear hK K
  show AWp _ _ _ _ _
  refine wret ?_
  simp [C.laws_entry]
end Go.Proofs.YtbhkonnakkhibaaGreat.Ab
namespace Go.Proofs.YtbhkonnakkhibaaGreat.Ab
open Go
set_option maxRecDepth 10000
set_option maxHeartbeats 4000000
theorem seedF_no {s:Sed} {k:Int} (h:(seedF s k).2=false):(seedF s k).1.f=[]:=by
 unfold seedF at h ⊢
 split
 ·rename_i q
  rw [if_pos q] at h
  simp at h
 ·rfl
theorem seedF_okS {s t:Sed} {k:Int} (h:seedF s k=(t,true)):SeedOK s:=by
 obtain ⟨x,a,b,S,_,hE,_⟩:=seedF_ok h
 exact hE.ok
structure UpJ (f:Lau) (c:Nat) (rest:Lau->Option Lau) (a:Lau) (j:Nat) (p:Lau):Prop where
 sm:SmallF p
 eq:(itM f (c - j) p).bind rest=some a
theorem UpJ.step {f:Lau} {c:Nat} {rest:Lau->Option Lau} {a p:Lau} {j:Nat} (h:UpJ f c rest a j p) (hj:j < c):UpJ f c rest a (j+1) (mulF p f).1:=by
 obtain ⟨h1,h2⟩:=h
 obtain ⟨t,ht⟩:∃ t,c - j=t+1:=⟨c - j - 1,by omega⟩
 rw [ht] at h2
 simp only [itM] at h2
 by_cases q:(mulF p f).2=true
 ·rw [if_pos q] at h2
  exact ⟨mulF_small' p f,by rw [show c - (j+1)=t by omega];exact h2⟩
 ·rw [if_neg q] at h2
  simp at h2
theorem UpJ.done {f:Lau} {c:Nat} {rest:Lau->Option Lau} {a p:Lau} (h:UpJ f c rest a c p):rest p=some a:=by
 have:=h.eq
 rw [Nat.sub_self] at this
 exact this
theorem laws_FnSeedsBack_c (xs:List Int):ACalls Tryz.prog F.laws_FnSeedsBack [.d (.sh 1 xs.length (byts xs))] [] true (fun outs res=>outs=[]/\res=[.one (D.bool true)]):=by
 refine ACalls.of_body (C:=C.laws_FnSeedsBack) (n:=Tryz.f4.ntmps) tabT folT Tryz.func4 rfl (by kernel_rfl) rfl (Nat.le_of_ble_eq_true rfl) (by decide) (by kernel_rfl) (by kernel_rfl) rfl (by simp) (by simp) ?_
 simp only [Tryz.f4]
 refine wseq ?_
 refine wreg fun K hK=>?_
 simp [C.laws_FnSeedsBack]
 refine hK _ ?_;clear hK K
 show AWp _ _ _ _ _
 refine wseq ?_
 refine wseq ?_
 refine wregI ([0,1] ++ ([])) rfl fun K hK=>?_
 refine oSg fun L hL=>?_
 simp [C.laws_FnSeedsBack]
 refine wcall1 (laws_big_c xs) (by simp) (by simp) ?_
 simp [C.laws_FnSeedsBack]
 refine hL _ ?_;clear hL L
 refine oEn fun L hL=>?_
 simp only [AOpsI]
 refine hL _ ?_;clear hL L
 simp [C.laws_FnSeedsBack]
 refine hK _ ?_;clear hK K
 show AWp _ _ _ _ _
 refine wcond _ rfl (fun hc1=>?_) (fun hc1=>?_)
 ·refine wseq ?_
  refine wreg fun K hK=>?_
  simp [C.laws_FnSeedsBack]
  refine hK _ ?_;clear hK K
  show AWp _ _ _ _ _
  refine wret ?_
  simp [C.laws_FnSeedsBack]
 ·have hx:xs.length<=1048576:=by have:=d_f hc1;omega
  refine wskip ?_
  show AWp _ _ _ _ _
  refine wseq ?_
  refine wregI ([0,1] ++ ([2,3,4,5,6,7])) rfl fun K hK=>?_
  refine oSg fun L hL=>?_
  simp [C.laws_FnSeedsBack,sO]
  refine wcall (spec_DrawMutateSeed_c xs hx) (by simp) (by simp) (by simp) ?_
  rintro outs res ⟨s,k,hs,hk,rfl,rfl⟩
  simp [C.laws_FnSeedsBack,sO]
  refine hL _ ?_;clear hL L
  refine oEn fun L hL=>?_
  simp [C.laws_FnSeedsBack,sO]
  refine hL _ ?_;clear hL L
  simp [C.laws_FnSeedsBack,sO]
  refine hK _ ?_;clear hK K
  show AWp _ _ _ _ _
  refine wseq ?_
  have hsm:s.m.d.length < 17592186044416/\s.f.length < 4611686018427387904/\∀ f∈s.f,SmF f:=⟨by have:=hs.1;omega,by have:=hs.2.1;omega,fun f hf=>(hs.2.2 f hf).sm'⟩
  have hi1:=iMs_c s k hsm.1 hsm.2.1 hsm.2.2
  have hs1:=sMs_c s k hsm.1 hsm.2.1 hsm.2.2
  have hgT:=GdS.seedF s k
  have hno:=@seedF_no s k
  have hTe:∀ t,seedF s k=(t,true)->seedF s k=(t,true):=fun t h=>h
  obtain ⟨T,hT⟩:∃ T,T=seedF s k:=⟨_,rfl⟩
  rw [<-hT] at hi1 hs1 hgT hno
  refine wregI ([0,1,2] ++ ([3,4,5,6,7,8])) rfl fun K hK=>?_
  refine oSg fun L hL=>?_
  simp [C.laws_FnSeedsBack,sO]
  refine wcall1 (hi1) (by simp) (by simp) ?_
  simp [C.laws_FnSeedsBack,sO]
  refine hL _ ?_;clear hL L
  refine oEn fun L hL=>?_
  simp [C.laws_FnSeedsBack,sO]
  refine hL _ ?_;clear hL L
  simp [C.laws_FnSeedsBack,sO]
  refine hK _ ?_;clear hK K
  show AWp _ _ _ _ _
  refine wseq ?_
  refine wregI ([0,1,2] ++ ([3,4,5,6,7,8])) rfl fun K hK=>?_
  refine oSg fun L hL=>?_
  simp [C.laws_FnSeedsBack,sO]
  refine wcall1 (hs1) (by simp) (by simp) ?_
  simp [C.laws_FnSeedsBack,sO]
  refine hL _ ?_;clear hL L
  refine oEn fun L hL=>?_
  simp [C.laws_FnSeedsBack,sO]
  refine hL _ ?_;clear hL L
  simp [C.laws_FnSeedsBack,sO]
  refine hK _ ?_;clear hK K
  show AWp _ _ _ _ _
  refine wseq ?_
  refine wseq ?_
  refine wreg fun K hK=>?_
  simp [C.laws_FnSeedsBack]
  refine hK _ ?_;clear hK K
  show AWp _ _ _ _ _
  refine wcond _ rfl (fun hc2=>?_) (fun hc2=>?_)
  ·simp at hc2
  ·refine wskip ?_
   show AWp _ _ _ _ _
   refine wseq ?_
   refine wseq ?_
   refine wreg fun K hK=>?_
   simp [C.laws_FnSeedsBack]
   refine hK _ ?_;clear hK K
   show AWp _ _ _ _ _
   refine wcond _ rfl (fun hc3=>?_) (fun hc3=>?_)
   ·have hb:T.2=false:=by simpa using hc3
    have hz:=hno hb
    refine wseq ?_
    refine wreg fun K hK=>?_
    simp [C.laws_FnSeedsBack]
    refine hK _ ?_;clear hK K
    show AWp _ _ _ _ _
    refine wret ?_
    simp [C.laws_FnSeedsBack,hz]
   ·have hb:T.2=true:=by simpa using hc3
    obtain ⟨t,ht⟩:∃ t,T=(t,true):=⟨T.1,by rw [<-hb]⟩
    rw [ht] at hgT
    rw [ht]
    dsimp only at hgT ⊢
    have hst:seedF s k=(t,true):=by rw [<-hT,ht]
    have hi2:=iMs_c t k hgT.sm.1 hgT.sm.2.1 hgT.sm.2.2
    have hs2:=sMs_c t k hgT.sm.1 hgT.sm.2.1 hgT.sm.2.2
    obtain ⟨U,hU⟩:∃ U,U=seedF t k:=⟨_,rfl⟩
    rw [<-hU] at hi2 hs2
    refine wskip ?_
    show AWp _ _ _ _ _
    refine wseq ?_
    refine wregI ([0,1,2] ++ ([3,4,5,6,7,8])) rfl fun K hK=>?_
    refine oSg fun L hL=>?_
    simp [C.laws_FnSeedsBack,sO]
    refine wcall1 (hi2) (by simp) (by simp) ?_
    simp [C.laws_FnSeedsBack,sO]
    refine hL _ ?_;clear hL L
    refine oEn fun L hL=>?_
    simp [C.laws_FnSeedsBack,sO]
    refine hL _ ?_;clear hL L
    simp [C.laws_FnSeedsBack,sO]
    refine hK _ ?_;clear hK K
    show AWp _ _ _ _ _
    refine wseq ?_
    refine wseq ?_
    refine wreg fun K hK=>?_
    simp [C.laws_FnSeedsBack]
    refine hK _ ?_;clear hK K
    show AWp _ _ _ _ _
    refine wcond _ rfl (fun hc4=>?_) (fun hc4=>?_)
    ·have hb2:U.2=false:=by simpa using hc4
     refine wseq ?_
     refine wregI ([0,1,2] ++ ([3,4,5,6,7,8])) rfl fun K hK=>?_
     refine oSg fun L hL=>?_
     simp [C.laws_FnSeedsBack,sO]
     refine wcall1 (hs2) (by simp) (by simp) ?_
     simp [C.laws_FnSeedsBack,sO]
     refine hL _ ?_;clear hL L
     refine oEn fun L hL=>?_
     simp [C.laws_FnSeedsBack,sO]
     refine hL _ ?_;clear hL L
     simp [C.laws_FnSeedsBack,sO]
     refine hK _ ?_;clear hK K
     show AWp _ _ _ _ _
     refine wseq ?_
     refine wreg fun K hK=>?_
     simp [C.laws_FnSeedsBack]
     refine hK _ ?_;clear hK K
     show AWp _ _ _ _ _
     refine wret ?_
     simp [C.laws_FnSeedsBack,hb2]
    ·have hb2:U.2=true:=by simpa using hc4
     obtain ⟨u,hu⟩:∃ u,U=(u,true):=⟨U.1,by rw [<-hb2]⟩
     have htu:seedF t k=(u,true):=by rw [<-hU,hu]
     have hus:u=s:=seedF_twice hst htu
     subst hus
     rw [hu]
     dsimp only
     have hok:=seedF_okS hst
     have hokt:=seedF_okS htu
     obtain ⟨x,a,b,S,hk0,hE,hte⟩:=seedF_ok hst
     obtain ⟨kn,hkn⟩:∃ kn:Nat,k=kn:=⟨k.toNat,by omega⟩
     rw [hkn] at hE hte
     rw [Int.toNat_natCast] at hE hte
     have hS:=hok.1.1
     have hd:=sh_dim hS
     obtain ⟨n,hn⟩:∃ n:Nat,u.m.n=n:=⟨u.m.n.toNat,by omega⟩
     obtain ⟨r,hr⟩:∃ r:Nat,u.m.r=r:=⟨u.m.r.toNat,by omega⟩
     have hr8:1<=r/\r<=8:=by omega
     have hrr:u.m.r.toNat=r:=by omega
     have hk1:kn < n:=by have:=hE.hk;omega
     have hfl:u.f.length=r:=by have:=hok.2.1;omega
     have htl:t.f.length=r:=by rw [hte];simpa using hfl
     have hgs:=GdS.ok hok
     have hseeds:=laws_seeds_c u u (gds_sms hgs)
     have hsok:=impl_SeedOk_c t hgT.sm.1 hgT.sm.2.1 hgT.sm.2.2
     rw [decide_eq_true hokt] at hsok
     have hone:=spec_ConstantLaurent_c r hr8
     have hos:SmallF (oneF r):=small_right (oneF_right hr8)
     have hEa:=hE.ha
     have hEb:=hE.hb
     rw [hrr] at hEa hEb
     obtain ⟨cs,hcs⟩:∃ cs,cs=colM u.m r kn:=⟨_,rfl⟩
     rw [<-hcs] at hEa hEb
     have hcl:cs.length=r:=by rw [hcs];simp
     have hcg:∀ (i:Nat) (h:i < r),cs[i]'(by omega)=bM u.m i kn:=fun i h=>by simp only [hcs];exact colM_get u.m r kn i h
     rw [hkn]
     refine wskip ?_
     show AWp _ _ _ _ _
     refine wseq ?_
     refine wseq ?_
     refine wregI ([0,1,2] ++ ([3,4,5,6] ++ ([7,8,9,10,11,12,13,14,15,16,17]))) rfl fun K hK=>?_
     have hJ:K ⟨ofL [(3,.pt (3,0) [] 0),(4,.int kn),(5,.pt (5,0) [] 0),(81,.bool false)],ofRO [((3,0),some (.bx (sO u))),((5,0),some (.bx (sO t)))]⟩:=by
      refine hK _ ?_;clear hK K
      show AWp _ _ _ _ _
      refine wcond _ rfl (fun hc5=>?_) (fun hc5=>?_)
      ·simp at hc5
      ·refine wskip ?_
       show AWp _ _ _ _ _
       refine wseq ?_
       refine wreg fun K hK=>?_
       simp [C.laws_FnSeedsBack,sO,hr]
       refine hK _ ?_;clear hK K
       show AWp _ _ _ _ _
       refine wseq ?_
       refine wregI ([0,1] ++ ([2,3])) rfl fun K hK=>?_
       refine oSg fun L hL=>?_
       simp [C.laws_FnSeedsBack,fO]
       refine wcall1 (hone) (by simp) (by simp) ?_
       simp [C.laws_FnSeedsBack,fO]
       refine hL _ ?_;clear hL L
       refine oEn fun L hL=>?_
       simp [C.laws_FnSeedsBack,fO]
       refine hL _ ?_;clear hL L
       simp [C.laws_FnSeedsBack,fO]
       refine hK _ ?_;clear hK K
       show AWp _ _ _ _ _
       refine wseq ?_
       refine wregI ([0,1] ++ ([2,3])) rfl fun K hK=>?_
       refine oSg fun L hL=>?_
       simp [C.laws_FnSeedsBack,fO]
       refine wcall1 (hone) (by simp) (by simp) ?_
       simp [C.laws_FnSeedsBack,fO]
       refine hL _ ?_;clear hL L
       refine oEn fun L hL=>?_
       simp [C.laws_FnSeedsBack,fO]
       refine hL _ ?_;clear hL L
       simp [C.laws_FnSeedsBack,fO]
       refine hK _ ?_;clear hK K
       show AWp _ _ _ _ _
       refine wseq ?_
       refine wseq ?_
       refine wreg fun K hK=>?_
       simp [C.laws_FnSeedsBack]
       refine hK _ ?_;clear hK K
       show AWp _ _ _ _ _
       refine wblock ?_
       refine wloop (fun x:Nat×Lau×Lau=>⟨ofL [(3,.pt (3,0) [] 0),(4,.int kn),(5,.pt (5,0) [] 0),(13,.int r),(14,.pt (14,0) [] 0),(15,.pt (15,0) [] 0),(16,.int x.1)],ofRO [((3,0),some (.bx [D.int n,D.int r,owI u.m.d,.ow 2 u.f.length (rows fO u.f)])),((5,0),some (.bx (sO t))),((14,0),some (.bx (fO x.2.1))),((15,0),some (.bx (fO x.2.2)))]⟩) (fun x=>x.1<=r/\(SmallF x.2.1/\prodE 1 (u.f.drop x.1) (cs.drop x.1) x.2.1=some a)/\(SmallF x.2.2/\prodE (-1) (u.f.drop x.1) (cs.drop x.1) x.2.2=some b)) (fun x=>r - x.1) (0,oneF r,oneF r) (by simp [C.laws_FnSeedsBack,fO,sO,hn,hr]) ⟨by simp,⟨hos,by simpa using hEa⟩,⟨hos,by simpa using hEb⟩⟩ ?_
       intro x1 hx1 R1 hR1
       obtain ⟨i,up,dn⟩:=x1
       obtain ⟨g1,⟨g2,g3⟩,⟨g4,g5⟩⟩:=hx1
       dsimp only at g1 g2 g3 g4 g5 ⊢
       refine wseq ?_
       refine wseq ?_
       refine wreg fun K hK=>?_
       simp [C.laws_FnSeedsBack]
       refine hK _ ?_;clear hK K
       show AWp _ _ _ _ _
       refine wcond _ rfl (fun hc6=>?_) (fun hc6=>?_)
       ·have hi:i < r:=by have:=d_t hc6;omega
        have hif:i < u.f.length:=by omega
        have hit:i < t.f.length:=by omega
        have hent:=laws_entry_c u.m n r i kn hn hr hS hi hk1
        have e1:=prodE_step (sg:=1) hif (show i < cs.length by omega) up
        have e2:=prodE_step (sg:=-1) hif (show i < cs.length by omega) dn
        rw [g3] at e1
        rw [g5] at e2
        rw [hcg i hi] at e1 e2
        obtain ⟨c,hcc⟩:∃ c,c=bM u.m i kn:=⟨_,rfl⟩
        have hcb:=bM_bd hS i kn
        rw [<-hcc] at e1 e2 hent hcb
        obtain ⟨F,hF⟩:∃ F,u.f[i]=F:=⟨_,rfl⟩
        have hFs:=hgs.2.2 _ (List.getElem_mem hif)
        rw [hF] at e1 e2 hFs
        rw [Int.one_mul] at e1
        refine wskip ?_
        show AWp _ _ _ _ _
        refine wseq ?_
        refine wblock ?_
        refine wseq ?_
        refine wregI ([0,1,2,3,4] ++ ([5])) rfl fun K hK=>?_
        refine oSg fun L hL=>?_
        simp [C.laws_FnSeedsBack]
        refine wcall1 (hent) (by simp) (by simp) ?_
        simp [C.laws_FnSeedsBack]
        refine hL _ ?_;clear hL L
        refine oEn fun L hL=>?_
        simp [C.laws_FnSeedsBack]
        refine hL _ ?_;clear hL L
        simp [C.laws_FnSeedsBack]
        refine hK _ ?_;clear hK K
        show AWp _ _ _ _ _
        refine wseq ?_
        refine wseq ?_
        refine wreg fun K hK=>?_
        simp [C.laws_FnSeedsBack]
        refine hK _ ?_;clear hK K
        show AWp _ _ _ _ _
        refine wblock ?_
        refine wloop (fun x:Nat×Lau=>⟨ofL [(3,.pt (3,0) [] 0),(4,.int kn),(5,.pt (5,0) [] 0),(13,.int r),(14,.pt (14,0) [] 0),(15,.pt (15,0) [] 0),(16,.int i),(17,.int c),(18,.int x.1)],ofRO [((3,0),some (.bx [D.int n,D.int r,owI u.m.d,.ow 2 u.f.length (rows fO u.f)])),((5,0),some (.bx (sO t))),((14,0),some (.bx (fO x.2))),((15,0),some (.bx (fO dn)))]⟩) (fun x=>x.1<=c.toNat/\UpJ F c.toNat (prodE 1 (u.f.drop (i+1)) (cs.drop (i+1))) a x.1 x.2) (fun x=>c.toNat - x.1) (0,up) (by simp [C.laws_FnSeedsBack]) ⟨by simp,⟨g2,e1.symm⟩⟩ ?_
        intro x2 hx2 R2 hR2
        obtain ⟨j,p⟩:=x2
        obtain ⟨f1,f2⟩:=hx2
        dsimp only at f1 f2 ⊢
        refine wseq ?_
        refine wseq ?_
        refine wreg fun K hK=>?_
        simp [C.laws_FnSeedsBack]
        refine hK _ ?_;clear hK K
        show AWp _ _ _ _ _
        refine wcond _ rfl (fun hc7=>?_) (fun hc7=>?_)
        ·have hj:j < c.toNat:=by have:=d_t hc7;omega
         have htm:=laws_times_c p F f2.sm.sm'.1 f2.sm.sm'.2 hFs.sm'.1 hFs.sm'.2
         have hnx:=f2.step hj
         obtain ⟨P,hP⟩:∃ P,P=(mulF p F).1:=⟨_,rfl⟩
         rw [<-hP] at htm hnx
         refine wskip ?_
         show AWp _ _ _ _ _
         refine wseq ?_
         refine wblock ?_
         refine wdrawI [(true,0),(true,1),(true,2),(true,3),(true,4),(true,5),(false,6),(false,7)] ⟨by kernel_rfl,by kernel_rfl⟩ ([0,1,2,3,4,5,6] ++ ([7])) rfl fun K hK=>?_
         have hJ:K ⟨ofL [(3,.pt (3,0) [] 0),(4,.int kn),(5,.pt (5,0) [] 0),(13,.int r),(14,.pt (14,0) [] 0),(15,.pt (15,0) [] 0),(16,.int i),(17,.int c),(18,.int j)],ofRO [((3,0),some (.bx [D.int n,D.int r,owI u.m.d,.ow 2 u.f.length (rows fO u.f)])),((5,0),some (.bx (sO t))),((14,0),some (.bx (fO P))),((15,0),some (.bx (fO dn)))]⟩:=by
          refine hK _ ?_;clear hK K
          show AWp _ _ _ _ _
          refine wreg fun K hK=>?_
          simp [C.laws_FnSeedsBack,wrap_succ (show j < 4611686018427387904 by omega)]
          refine hK _ ?_;clear hK K
          simp [C.laws_FnSeedsBack]
          exact hR2 (j+1,P) ⟨hj,hnx⟩ (by dsimp only;omega)
         clear hK
         simp [C.laws_FnSeedsBack,fO,hif,fO_0 hif,fO_1 hif,hF,show (i:Int) < u.f.length by omega]
         repeat' first
          | (refine wcall1 (htm) ?_ (by simp) ?_;(focus (simp [fO_0 hif,fO_1 hif,hF];done));simp [C.laws_FnSeedsBack,fO,fO_0 hif,fO_1 hif,hF])
          | (refine cast (congrArg K ?_) hJ;simp [fO];done)
          | refine And.intro ?_ ?_
        ·have hj:j=c.toNat:=by have:=d_f hc7;omega
         have hup:=(hj ▸ f2).done
         have hups:=f2.sm
         have hwc:IntKind.i64.wrap (-c)=-c:=wrapOk (by omega) (by omega)
         refine wexit ?_
         show AWp _ _ _ _ _
         refine wseq ?_
         refine wseq ?_
         refine wreg fun K hK=>?_
         simp [C.laws_FnSeedsBack]
         refine hK _ ?_;clear hK K
         show AWp _ _ _ _ _
         refine wblock ?_
         refine wloop (fun x:Nat×Lau=>⟨ofL [(3,.pt (3,0) [] 0),(4,.int kn),(5,.pt (5,0) [] 0),(13,.int r),(14,.pt (14,0) [] 0),(15,.pt (15,0) [] 0),(16,.int i),(17,.int c),(19,.int x.1)],ofRO [((3,0),some (.bx [D.int n,D.int r,owI u.m.d,.ow 2 u.f.length (rows fO u.f)])),((5,0),some (.bx (sO t))),((14,0),some (.bx (fO p))),((15,0),some (.bx (fO x.2)))]⟩) (fun x=>x.1<=(-1*c).toNat/\UpJ F (-1*c).toNat (prodE (-1) (u.f.drop (i+1)) (cs.drop (i+1))) b x.1 x.2) (fun x=>(-1*c).toNat - x.1) (0,dn) (by simp [C.laws_FnSeedsBack]) ⟨by simp,⟨g4,e2.symm⟩⟩ ?_
         intro x3 hx3 R3 hR3
         obtain ⟨j3,q⟩:=x3
         obtain ⟨f3,f4⟩:=hx3
         dsimp only at f3 f4 ⊢
         refine wseq ?_
         refine wseq ?_
         refine wreg fun K hK=>?_
         simp [C.laws_FnSeedsBack,hwc]
         refine hK _ ?_;clear hK K
         show AWp _ _ _ _ _
         refine wcond _ rfl (fun hc8=>?_) (fun hc8=>?_)
         ·have hj3:j3 < (-1*c).toNat:=by have:=d_t hc8;omega
          have htm:=laws_times_c q F f4.sm.sm'.1 f4.sm.sm'.2 hFs.sm'.1 hFs.sm'.2
          have hnx:=f4.step hj3
          obtain ⟨P,hP⟩:∃ P,P=(mulF q F).1:=⟨_,rfl⟩
          rw [<-hP] at htm hnx
          refine wskip ?_
          show AWp _ _ _ _ _
          refine wseq ?_
          refine wblock ?_
          refine wdrawI [(true,0),(true,1),(true,2),(true,3),(true,4),(true,5),(false,6),(false,7)] ⟨by kernel_rfl,by kernel_rfl⟩ ([0,1,2,3,4,5,6] ++ ([7])) rfl fun K hK=>?_
          have hJ:K ⟨ofL [(3,.pt (3,0) [] 0),(4,.int kn),(5,.pt (5,0) [] 0),(13,.int r),(14,.pt (14,0) [] 0),(15,.pt (15,0) [] 0),(16,.int i),(17,.int c),(19,.int j3)],ofRO [((3,0),some (.bx [D.int n,D.int r,owI u.m.d,.ow 2 u.f.length (rows fO u.f)])),((5,0),some (.bx (sO t))),((14,0),some (.bx (fO p))),((15,0),some (.bx (fO P)))]⟩:=by
           refine hK _ ?_;clear hK K
           show AWp _ _ _ _ _
           refine wreg fun K hK=>?_
           simp [C.laws_FnSeedsBack,wrap_succ (show j3 < 4611686018427387904 by omega)]
           refine hK _ ?_;clear hK K
           simp [C.laws_FnSeedsBack]
           exact hR3 (j3+1,P) ⟨hj3,hnx⟩ (by dsimp only;omega)
          clear hK
          simp [C.laws_FnSeedsBack,fO,hif,fO_0 hif,fO_1 hif,hF,show (i:Int) < u.f.length by omega]
          repeat' first
           | (refine wcall1 (htm) ?_ (by simp) ?_;(focus (simp [fO_0 hif,fO_1 hif,hF];done));simp [C.laws_FnSeedsBack,fO,fO_0 hif,fO_1 hif,hF])
           | (refine cast (congrArg K ?_) hJ;simp [fO];done)
           | refine And.intro ?_ ?_
         ·have hj3:j3=(-1*c).toNat:=by have:=d_f hc8;omega
          have hdn:=(hj3 ▸ f4).done
          have hdns:=f4.sm
          have hother:i≠kn->t.f[i]=F:=fun hne=>by
           have e:t.f[i]? = u.f[i]?:=by
            rw [hte]
            simp [List.getElem?_set_ne (Ne.symm hne)]
           rw [List.getElem?_eq_getElem hit,List.getElem?_eq_getElem hif] at e
           injection e with e
           rw [e,hF]
          have hlc:=laws_laurents_c F F hFs.sm'.1 hFs.sm'.2
          refine wexit ?_
          show AWp _ _ _ _ _
          refine wseq ?_
          refine wdrawI [(true,0),(true,1),(true,2),(true,3),(true,4),(true,5),(true,6),(true,7),(true,8),(true,9),(true,10),(true,11),(true,12),(true,13),(false,14),(true,15),(true,16)] ⟨by kernel_rfl,by kernel_rfl⟩ ([0,1,2,3,4,5,6,7,8,9,10,11,12,13,14] ++ ([15,16])) rfl fun K hK=>?_
          have hJ:K ⟨ofL [(3,.pt (3,0) [] 0),(4,.int kn),(5,.pt (5,0) [] 0),(13,.int r),(14,.pt (14,0) [] 0),(15,.pt (15,0) [] 0),(16,.int i),(140,.bool false)],ofRO [((3,0),some (.bx [D.int n,D.int r,owI u.m.d,.ow 2 u.f.length (rows fO u.f)])),((5,0),some (.bx (sO t))),((14,0),some (.bx (fO p))),((15,0),some (.bx (fO q)))]⟩:=by
           refine hK _ ?_;clear hK K
           show AWp _ _ _ _ _
           refine wcond _ rfl (fun hc9=>?_) (fun hc9=>?_)
           ·simp at hc9
           ·refine wskip ?_
            show AWp _ _ _ _ _
            refine wreg fun K hK=>?_
            simp [C.laws_FnSeedsBack,wrap_succ (show i < 4611686018427387904 by omega)]
            refine hK _ ?_;clear hK K
            simp [C.laws_FnSeedsBack]
            exact hR1 (i+1,p,q) ⟨hi,⟨hups,hup⟩,⟨hdns,hdn⟩⟩ (by dsimp only;omega)
          clear hK
          by_cases z1:i=kn
          ·simp [C.laws_FnSeedsBack,z1,sO]
           refine cast (congrArg K ?_) hJ
           simp [z1,sO]
          ·have hTi:=hother z1
           have z2:((i:Int) != (kn:Int))=true:=by simp;omega
           simp [C.laws_FnSeedsBack,z1,z2,sO,hit,hif,fO_0 hit,fO_1 hit,fO_0 hif,fO_1 hif,hF,hTi,show (i:Int) < u.f.length by omega,show (i:Int) < t.f.length by omega]
           repeat' first
            | (refine wcall1 (hlc) ?_ (by simp) ?_;(focus (simp [fO_0 hit,fO_1 hit,fO_0 hif,fO_1 hif,hF,hTi];done));simp [C.laws_FnSeedsBack])
            | (refine cast (congrArg K ?_) hJ;simp [z1,z2,sO];done)
            | refine And.intro ?_ ?_
       ·have hi:i=r:=by have:=d_f hc6;omega
        rw [hi,List.drop_of_length_le (by omega),List.drop_of_length_le (by omega)] at g3 g5
        have hua:up=a:=by
         have h:some up=some a:=g3
         injection h
        have hdb:dn=b:=by
         have h:some dn=some b:=g5
         injection h
        have hkt:kn < t.f.length:=by omega
        have hku:kn < u.f.length:=by omega
        have hTk:t.f[kn]=x:=by
         have e:t.f[kn]? = some x:=by
          rw [hte]
          simp [hku]
         rw [List.getElem?_eq_getElem hkt] at e
         injection e
        obtain ⟨hol,ho1,ho2⟩:=hE.old
        obtain ⟨hm1,hm2,hm3⟩:=hE.mul
        rw [ho1] at hm3
        obtain ⟨G,hG⟩:∃ G,u.f[kn]=G:=⟨_,rfl⟩
        have hGs:=hgs.2.2 _ (List.getElem_mem hku)
        rw [hG] at hm3 hGs
        have hxs:=(small_right hm2).sm'
        have htm:=laws_times_c x G hxs.1 hxs.2 hGs.sm'.1 hGs.sm'.2
        rw [hm3] at htm
        have hpl:=laws_plus_c up 1 dn g2.sm'.1 g2.sm'.2 g4.sm'.1 g4.sm'.2
        rw [hua,hdb,hE.hs] at hpl
        rw [hua,hdb]
        have hSs:=(small_right hm1).sm'
        have hll:=laws_laurents_c S S hSs.1 hSs.2
        refine wexit ?_
        show AWp _ _ _ _ _
        refine wseq ?_
        refine wdrawI [(true,0),(true,1),(true,2),(true,3),(true,4),(true,5),(true,6),(true,7),(true,8),(true,9),(true,11),(true,12),(false,10),(false,13),(false,14),(true,15)] ⟨by kernel_rfl,by kernel_rfl⟩ ([0,1,2,3,4,5,6,7,8,9,11,12,10] ++ ([13] ++ ([14] ++ ([15])))) rfl fun K hK=>?_
        have hJ:K ⟨ofL [(2,.bool true)],ofRO []⟩:=by
         refine hK _ ?_;clear hK K
         show AWp _ _ _ _ _
         refine wret ?_
         simp [C.laws_FnSeedsBack]
        clear hK
        simp [C.laws_FnSeedsBack,sO,hkt,hku,fO,fO_0 hkt,fO_1 hkt,fO_0 hku,fO_1 hku,hG,hTk,show (kn:Int) < u.f.length by omega,show (kn:Int) < t.f.length by omega]
        repeat' first
         | (refine wcall1 (htm) ?_ (by simp) ?_;(focus (simp [fO_0 hkt,fO_1 hkt,fO_0 hku,fO_1 hku,hG,hTk];done));simp [C.laws_FnSeedsBack,fO])
         | (refine wcall1 (hpl) ?_ (by simp) ?_;(focus (simp;done));simp [C.laws_FnSeedsBack,fO])
         | (refine wcall1 (hll) ?_ (by simp) ?_;(focus (simp;done));simp [C.laws_FnSeedsBack])
         | (refine cast (congrArg K ?_) hJ;simp;done)
         | refine And.intro ?_ ?_
     clear hK
     simp [C.laws_FnSeedsBack,sO,hfl,htl]
     repeat' first
      | (refine wcall1 (hseeds) ?_ (by simp) ?_;(focus (simp [hfl,htl];done));simp [C.laws_FnSeedsBack,sO,hfl,htl])
      | (refine wcall1 (hsok) ?_ (by simp) ?_;(focus (simp [hfl,htl];done));simp [C.laws_FnSeedsBack,sO,hfl,htl])
      | (refine cast (congrArg K ?_) hJ;simp [sO,hfl,htl];done)
      | refine And.intro ?_ ?_
end Go.Proofs.YtbhkonnakkhibaaGreat.Ab
namespace Go.Proofs.YtbhkonnakkhibaaGreat.Ab
open Go Go.ChangeShapes Go.WideShapes Go.ChangeAt Go.RowKit
set_option maxRecDepth 100000
section
variable {H:Type} {enc:TypeId×Value->H} {W:World}
theorem rows_byts (l:List Int):rows (fun n=>[D.v (.int .u8 n)]) l=byts l:=by
 induction l with
 | nil=>rfl
 | cons x l ih=>simp [rows,ih,byts]
def CodeB (l:List Int):Prop:=(∀ x∈l,0<=x/\x<=255)/\l.length*1<=140737488351232
theorem opCode:Opens enc Tryz.prog W 39 1 (List Int) (fun l=>[.sh 1 l.length (byts l)]) CodeB:=
 (Opens.slice (Opens.byte Tryz.underlying5 (by kernel_rfl)) (by omega) Tryz.underlying39 (by kernel_rfl) (by kernel_rfl)).to id (fun l=>by simp [rows_byts]) (fun _=>rfl) (fun _ h=>h)
theorem argCode:Arg enc Tryz.prog W 39 (List Int) (fun l=>.d (.sh 1 l.length (byts l))) CodeB:=Arg.one opCode (by kernel_rfl) (of_decide_eq_true (by kernel_rfl)) (by kernel_rfl)
end
end Go.Proofs.YtbhkonnakkhibaaGreat.Ab
namespace Go.Proofs.YtbhkonnakkhibaaGreat.Ab
open Go
theorem lawSb (xs:List Int) (h:CodeB xs):ACalls Tryz.prog F.laws_FnSeedsBack [.d (.sh 1 xs.length (byts xs))] [] true (fun outs res=>outs=[]/\res=[.one (D.bool true)]):=laws_FnSeedsBack_c xs
end Go.Proofs.YtbhkonnakkhibaaGreat.Ab
