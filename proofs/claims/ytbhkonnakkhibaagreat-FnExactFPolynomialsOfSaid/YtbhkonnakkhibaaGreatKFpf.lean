/- Principal matrices and their walks, on both sides. Mutation of seeds, by the reference. Polynomials of steps, on both sides. Mutation of a seed and along a list, by the reference. Seeds as arguments of laws: their sizes, copies. Seeds of laws: how great they are. Polynomials of steps: the reference's side, the law. Matrices and seeds as arguments of laws, read as trees. Polynomials of steps: the law, with its arguments. No condition. -/
import Derived.Test.YtbhkonnakkhibaaGreatKFpe
import Derived.Test.YtbhkonnakkhibaaGreatKFpd
import Derived.Test.YtbhkonnakkhibaaGreatKFpc
set_option linter.unusedVariables false
set_option linter.unusedSimpArgs false
namespace Go.Proofs.YtbhkonnakkhibaaGreat.Ab
open Go
set_option maxRecDepth 10000
set_option maxHeartbeats 2000000
noncomputable def prF (m:Mat):Mat×Bool:=if SqOK m then (prinM m,true) else (zM,false)
def prD (m:Mat) (n i j:Nat):List Int:=m.d ++ (idP n i ++ (unitL n i).take j)
theorem prD_succ (m:Mat) {n i j:Nat} (hj:j < n):prD m n i j ++ [if i=j then 1 else 0]=prD m n i (j+1):=by
 unfold prD
 rw [unitL_take hj]
 simp [List.append_assoc]
theorem prD_row (m:Mat) (n i:Nat):prD m n i n=prD m n (i+1) 0:=by
 unfold prD
 rw [idP_succ,List.take_of_length_le (by rw [unitL_length];omega)]
 simp
theorem prD_row0 (m:Mat) (n i:Nat):prD m n i 0 ++ unitL n i=prD m n (i+1) 0:=by
 have e:(unitL n i).take n=unitL n i:=List.take_of_length_le (by rw [unitL_length];omega)
 rw [← prD_row]
 unfold prD
 rw [e]
 simp
theorem prD_len (m:Mat) {n i j:Nat} (hj:j<=n):(prD m n i j).length=m.d.length+i*n+j:=by
 unfold prD
 simp only [List.length_append,idP_length,List.length_take,unitL_length]
 omega
theorem prD_last {m:Mat} {n:Nat} (hn:m.n=n):(⟨n,2*n,prD m n n 0⟩:Mat)=prinM m:=by
 have:m.n.toNat=n:=by omega
 simp [prinM,prD,this,hn]
theorem mS_three (t:Mat):(mS t).length=3:=rfl
theorem mO_three (t:Mat):(mO t).length=3:=rfl
@[simp] theorem mS_length (l:List Mat):(rows mS l).length=3*l.length:=rows_length mS_three l
@[simp] theorem mO_length (l:List Mat):(rows mO l).length=3*l.length:=rows_length mO_three l
theorem mS_0 {g:List Mat} {i:Nat} (h:i < g.length):(rows mS g)[3*i]? = some (D.int g[i].n)/\∀ h',(rows mS g)[3*i]'h'=D.int g[i].n:=twice (rows_get mS_three g i 0 h (by omega))
theorem mS_1 {g:List Mat} {i:Nat} (h:i < g.length):(rows mS g)[3*i+1]? = some (D.int g[i].r)/\∀ h',(rows mS g)[3*i+1]'h'=D.int g[i].r:=twice (rows_get mS_three g i 1 h (by omega))
theorem mS_2 {g:List Mat} {i:Nat} (h:i < g.length):(rows mS g)[3*i+2]? = some (shI g[i].d)/\∀ h',(rows mS g)[3*i+2]'h'=shI g[i].d:=twice (rows_get mS_three g i 2 h (by omega))
theorem mO_0 {g:List Mat} {i:Nat} (h:i < g.length):(rows mO g)[3*i]? = some (D.int g[i].n)/\∀ h',(rows mO g)[3*i]'h'=D.int g[i].n:=twice (rows_get mO_three g i 0 h (by omega))
theorem mO_1 {g:List Mat} {i:Nat} (h:i < g.length):(rows mO g)[3*i+1]? = some (D.int g[i].r)/\∀ h',(rows mO g)[3*i+1]'h'=D.int g[i].r:=twice (rows_get mO_three g i 1 h (by omega))
theorem mO_2 {g:List Mat} {i:Nat} (h:i < g.length):(rows mO g)[3*i+2]? = some (owI g[i].d)/\∀ h',(rows mO g)[3*i+2]'h'=owI g[i].d:=twice (rows_get mO_three g i 2 h (by omega))
@[simp] theorem mO_noSh (l:List Mat):noShL (rows mO l):=rows_noSh (fun t=>by simp [mO,noShL,noSh]) l
theorem lenle (l:List Int):decide (40 < (l.length:Int)) = !decide (l.length<=40):=by
 rw [Bool.eq_iff_iff]
 simp
 omega
theorem mS_snoc (l:List Mat) (m:Mat):rows mS l ++ [D.v (.int .i64 m.n),D.v (.int .i64 m.r),.sh 1 m.d.length (ints m.d)]=rows mS (l ++ [m]):=by
 rw [rows_append]
 rfl
theorem mO_snoc (l:List Mat) (m:Mat):rows mO l ++ [D.v (.int .i64 m.n),D.v (.int .i64 m.r),.ow 1 m.d.length (ints m.d)]=rows mO (l ++ [m]):=by
 rw [rows_append]
 rfl
@[simp] theorem mS_share (l:List Mat):shareL (rows mO l)=rows mS l:=by
 induction l with
 | nil=>rfl
 | cons x l ih=>simp [rows,mO,mS,shareL,share,ih]
@[simp] theorem mS_share2 (l:List Mat):shareL (rows mS l)=rows mS l:=by
 induction l with
 | nil=>rfl
 | cons x l ih=>simp [rows,mS,shareL,share,ih]
theorem impl_PrincipalMatrix_calls (m:Mat) (hx:m.d.length < 17592186044416):ACalls Tryz.prog F.impl_PrincipalMatrix [aM m] [] true (fun outs res=>outs=[]/\WkRs res [.ag (mO (prF m).1),.one (D.bool (prF m).2)]):=by
 refine ACalls.of_body (C:=C.impl_PrincipalMatrix) (n:=Tryz.f139.ntmps) tabT folT Tryz.func139 rfl (by kernel_rfl) rfl (Nat.le_of_ble_eq_true rfl) (by decide) (by kernel_rfl) (by kernel_rfl) rfl (by simp) (by simp) ?_
 simp only [Tryz.f139]
 refine wseq ?_
 refine wreg fun K hK=>?_
 simp [C.impl_PrincipalMatrix]
 refine hK _ ?_;clear hK K
 show AWp _ _ _ _ _
 refine wseq ?_
 refine wseq ?_
 refine wregI ([0,1] ++ ([2,3,4,5,6,7,8,9,10,11,12,13,14,15])) rfl fun K hK=>?_
 have hJ:K ⟨ofL [(1,.pt (1,0) [] 0),(2,.pt (2,0) [] 0),(22,.bool (!decide (SqOK m)))],ofRO [((1,0),some (.bx (mS m))),((2,0),some (.bx [D.int 0,D.int 0,.v (.slice none 0 0)]))]⟩:=by
  refine hK _ ?_;clear hK K
  show AWp _ _ _ _ _
  refine wcond _ rfl (fun hc1=>?_) (fun hc1=>?_)
  ·have hr:=nd_t hc1
   have hm:prF m=(zM,false):=if_neg hr
   refine wseq ?_
   refine wreg fun K hK=>?_
   simp [C.impl_PrincipalMatrix]
   refine hK _ ?_;clear hK K
   show AWp _ _ _ _ _
   refine wret ?_
   simp [C.impl_PrincipalMatrix,hm,zM,mO,ints]
  ·have hr:=nd_f hc1
   have hm:prF m=(prinM m,true):=if_pos hr
   obtain ⟨n,hn,hrr,hn4,hL⟩:=hr.dim
   have hL16:m.d.length<=16:=by rw [hL];exact Nat.mul_le_mul hn4.2 hn4.2
   have hwn:IntKind.i64.wrap (2*(n:Int))=2*n:=wrapOk (by omega) (by omega)
   refine wskip ?_
   show AWp _ _ _ _ _
   refine wseq ?_
   refine wdraw (.take 0 (.take 1 (.take 2 (.take 3 (.take 4 (.take 5 (.take 6 (.all [(7,.take 8 (.all [(9,.all [(10,.done)])])),(9,.all [(7,.take 8 (.all [(10,.done)]))])])))))))) ⟨by kernel_rfl,by kernel_rfl⟩ fun K hK=>?_
   have hJ:K ⟨ofL [(1,.pt (1,0) [] 0),(2,.pt (2,0) [] 0),(4,.pt (4,0) [] 0)],ofRO [((1,0),some (.bx [D.int n,D.int m.r,shI m.d])),((2,0),some (.bx [D.int 0,D.int 0,.v (.slice none 0 0)])),((4,0),some (.bx [D.int n,D.int (2*n),owI m.d]))]⟩:=by
    refine hK _ ?_;clear hK K
    show AWp _ _ _ _ _
    refine wseq ?_
    refine wseq ?_
    refine wreg fun K hK=>?_
    simp [C.impl_PrincipalMatrix]
    refine hK _ ?_;clear hK K
    show AWp _ _ _ _ _
    refine wblock ?_
    refine wloop (fun i:Nat=>⟨ofL [(1,.pt (1,0) [] 0),(2,.pt (2,0) [] 0),(4,.pt (4,0) [] 0),(5,.int i)],ofRO [((1,0),some (.bx [D.int n,D.int m.r,shI m.d])),((2,0),some (.bx [D.int 0,D.int 0,.v (.slice none 0 0)])),((4,0),some (.bx [D.int n,D.int (2*n),owI (prD m n i 0)]))]⟩) (fun i=>i<=n) (fun i=>n - i) 0 (by simp [C.impl_PrincipalMatrix,prD,idP]) (by simp) ?_
    intro x1 hx1 R1 hR1
    refine wseq ?_
    refine wseq ?_
    refine wreg fun K hK=>?_
    simp [C.impl_PrincipalMatrix,mS,hn]
    refine hK _ ?_;clear hK K
    show AWp _ _ _ _ _
    refine wcond _ rfl (fun hc2=>?_) (fun hc2=>?_)
    ·have hi:x1 < n:=by have:=d_t hc2;omega
     refine wskip ?_
     show AWp _ _ _ _ _
     refine wseq ?_
     refine wblock ?_
     refine wseq ?_
     refine wreg fun K hK=>?_
     simp [C.impl_PrincipalMatrix]
     refine hK _ ?_;clear hK K
     show AWp _ _ _ _ _
     refine wblock ?_
     refine wloop (fun j:Nat=>⟨ofL [(1,.pt (1,0) [] 0),(2,.pt (2,0) [] 0),(4,.pt (4,0) [] 0),(5,.int x1),(6,.int j)],ofRO [((1,0),some (.bx [D.int n,D.int m.r,shI m.d])),((2,0),some (.bx [D.int 0,D.int 0,.v (.slice none 0 0)])),((4,0),some (.bx [D.int n,D.int (2*n),owI (prD m n x1 j)]))]⟩) (fun j=>j<=n) (fun j=>n - j) 0 (by simp [C.impl_PrincipalMatrix]) (by simp) ?_
     intro x2 hx2 R2 hR2
     refine wseq ?_
     refine wseq ?_
     refine wreg fun K hK=>?_
     simp [C.impl_PrincipalMatrix,mS,hn]
     refine hK _ ?_;clear hK K
     show AWp _ _ _ _ _
     refine wcond _ rfl (fun hc3=>?_) (fun hc3=>?_)
     ·have hj:x2 < n:=by have:=d_t hc3;omega
      have hln:=prD_len m (i:=x1) (show x2<=n by omega)
      have hl1:x1*n<=16:=Nat.mul_le_mul (show x1<=4 by omega) hn4.2
      have hst:=prD_succ m (i:=x1) hj
      obtain ⟨A,hA⟩:∃ A,A=prD m n x1 x2:=⟨_,rfl⟩
      rw [← hA] at hst hln
      rw [← hA]
      refine wskip ?_
      show AWp _ _ _ _ _
      refine wseq ?_
      refine wblock ?_
      refine wseq ?_
      refine wreg fun K hK=>?_
      simp [C.impl_PrincipalMatrix]
      refine hK _ ?_;clear hK K
      show AWp _ _ _ _ _
      refine wcond _ rfl (fun hc4=>?_) (fun hc4=>?_)
      ·have he:x1=x2:=by have:=hc4;simp at this;omega
       rw [if_pos he] at hst
       refine wreg fun K hK=>?_
       simp [C.impl_PrincipalMatrix,ints_snocA,show (A.length+1)*8<=140737488355328 by omega]
       refine hK _ ?_;clear hK K
       show AWp _ _ _ _ _
       refine wreg fun K hK=>?_
       simp [C.impl_PrincipalMatrix,wrap_succ (show x2 < 4611686018427387904 by omega)]
       refine hK _ ?_;clear hK K
       simp [C.impl_PrincipalMatrix]
       refine cast (congrArg R2 ?_) (hR2 (x2+1) hj (by omega))
       simp [← hst,owI]
      ·have he:¬ x1=x2:=by have:=hc4;simp at this;omega
       rw [if_neg he] at hst
       refine wreg fun K hK=>?_
       simp [C.impl_PrincipalMatrix,ints_snocA,show (A.length+1)*8<=140737488355328 by omega]
       refine hK _ ?_;clear hK K
       show AWp _ _ _ _ _
       refine wreg fun K hK=>?_
       simp [C.impl_PrincipalMatrix,wrap_succ (show x2 < 4611686018427387904 by omega)]
       refine hK _ ?_;clear hK K
       simp [C.impl_PrincipalMatrix]
       refine cast (congrArg R2 ?_) (hR2 (x2+1) hj (by omega))
       simp [← hst,owI]
     ·have hj:x2=n:=by have:=d_f hc3;omega
      rw [hj,prD_row]
      refine wexit ?_
      show AWp _ _ _ _ _
      refine wreg fun K hK=>?_
      simp [C.impl_PrincipalMatrix,wrap_succ (show x1 < 4611686018427387904 by omega)]
      refine hK _ ?_;clear hK K
      simp [C.impl_PrincipalMatrix]
      exact hR1 (x1+1) hi (by omega)
    ·have hi:x1=n:=by have:=d_f hc2;omega
     rw [hi]
     have hlast:=prD_last hn
     refine wexit ?_
     show AWp _ _ _ _ _
     refine wseq ?_
     refine wreg fun K hK=>?_
     simp [C.impl_PrincipalMatrix]
     refine hK _ ?_;clear hK K
     show AWp _ _ _ _ _
     refine wret ?_
     simp [C.impl_PrincipalMatrix]
     rw [hm,← hlast]
     simp [mO]
   clear hK
   simp [C.impl_PrincipalMatrix,mS,hn,hwn]
   repeat' first
    | (refine wcall1 (clone_calls m.d hx) ?_ (by simp) ?_;(focus (simp;done));simp [C.impl_PrincipalMatrix,hn,hwn])
    | (refine cast (congrArg K ?_) hJ;simp [mS,hn,hwn];done)
    | refine And.intro ?_ ?_
 clear hK
 by_cases h1:MatOK m
 ·by_cases h2:m.r=m.n
  ·have hwn:IntKind.i64.wrap (2*m.n)=2*m.n:=by have:=h1.1.1;exact wrapOk (by omega) (by omega)
   have hle:decide (8 < 2*m.n) = !decide (2*m.n<=8):=by
    rw [Bool.eq_iff_iff]
    simp
   refine opsI_seg fun L hL=>?_
   simp [C.impl_PrincipalMatrix,hwn,hle,h2,h1,h2]
   refine wcall1 (impl_MatrixOkG_calls m hx) (by simp [hwn,hle,h2]) (by simp) ?_
   simp [C.impl_PrincipalMatrix,hwn,hle,h2,h1,h2]
   refine hL _ ?_;clear hL L
   refine opsI_end fun L hL=>?_
   simp [C.impl_PrincipalMatrix,hwn,hle,h2,h1,h2]
   refine hL _ ?_;clear hL L
   simp [C.impl_PrincipalMatrix,hwn,hle,h2,h1,h2]
   refine cast (congrArg K ?_) hJ
   simp [SqOK,mS,h1,h2]
  ·refine opsI_seg fun L hL=>?_
   simp [C.impl_PrincipalMatrix,h1,h2]
   refine wcall1 (impl_MatrixOkG_calls m hx) (by simp) (by simp) ?_
   simp [C.impl_PrincipalMatrix,h1,h2]
   refine hL _ ?_;clear hL L
   refine opsI_end fun L hL=>?_
   simp [C.impl_PrincipalMatrix,h1,h2]
   refine hL _ ?_;clear hL L
   simp [C.impl_PrincipalMatrix,h1,h2]
   refine cast (congrArg K ?_) hJ
   simp [SqOK,mS,h1,h2]
 ·refine opsI_seg fun L hL=>?_
  simp [C.impl_PrincipalMatrix,h1]
  refine wcall1 (impl_MatrixOkG_calls m hx) (by simp) (by simp) ?_
  simp [C.impl_PrincipalMatrix,h1]
  refine hL _ ?_;clear hL L
  refine opsI_end fun L hL=>?_
  simp [C.impl_PrincipalMatrix,h1]
  refine hL _ ?_;clear hL L
  simp [C.impl_PrincipalMatrix,h1]
  refine cast (congrArg K ?_) hJ
  simp [SqOK,mS,h1]
theorem iPr_calls (m:Mat) (hx:m.d.length < 17592186044416):ACalls Tryz.prog F.impl_PrincipalMatrix [aM m] [] true (fun outs res=>outs=[]/\res=[.ag (mO (prF m).1),.one (D.bool (prF m).2)]):=(impl_PrincipalMatrix_calls m hx).weak1
noncomputable def wkR (m:Mat) (ks:List Int):List Mat×Bool:=match wkF m ks with | some l=>(l,true) | none=>([],false)
theorem wkM_len {m p:Mat} (h:WkM m p):p.d.length<=40:=by
 have hd:=sh_dim h.1.1
 rw [hd.2.2.2.2.1]
 exact Nat.le_trans (Nat.mul_le_mul hd.2.2.2.1 hd.2.1) (by omega)
theorem impl_walk_calls (m:Mat) (ks:List Int) (hx:m.d.length < 17592186044416) (hks:ks.length < 4611686018427387904):ACalls Tryz.prog F.impl_walk [aM m,.d (shI ks)] [] false (fun outs res=>outs=[]/\WkRs res [.one (.ow 3 (wkR m ks).1.length (rows mS (wkR m ks).1)),.one (D.bool (wkR m ks).2)]):=by
 have hpr:=iPr_calls m hx
 have hpe:prF m=if SqOK m then (prinM m,true) else (zM,false):=rfl
 generalize prF m=I at hpr hpe
 have hib:I.2=decide (SqOK m):=by rw [hpe];split <;> simp [*]
 refine ACalls.of_body (C:=C.impl_walk) (n:=Tryz.f62.ntmps) tabT folT Tryz.func62 rfl (by kernel_rfl) rfl (Nat.le_of_ble_eq_true rfl) (by decide) (by kernel_rfl) (by kernel_rfl) rfl (by simp) (by simp) ?_
 simp only [Tryz.f62]
 refine wseq ?_
 refine wreg fun K hK=>?_
 simp [C.impl_walk]
 refine hK _ ?_;clear hK K
 show AWp _ _ _ _ _
 refine wseq ?_
 refine wregI ([0,1] ++ ([2,3,4,5,6,7])) rfl fun K hK=>?_
 refine opsI_seg fun L hL=>?_
 simp [C.impl_walk,mO]
 refine wcall1 (hpr) (by simp) (by simp) ?_
 simp [C.impl_walk,mO]
 refine hL _ ?_;clear hL L
 refine opsI_end fun L hL=>?_
 simp [C.impl_walk,mO]
 refine hL _ ?_;clear hL L
 simp [C.impl_walk,mO]
 refine hK _ ?_;clear hK K
 show AWp _ _ _ _ _
 refine wseq ?_
 refine wseq ?_
 refine wreg fun K hK=>?_
 have hJ:K ⟨ofL [(1,.d (shI ks)),(6,.pt (6,0) [] 0),(22,.bool (!decide (SqOK m/\ks.length<=40)))],ofRO [((6,0),some (.bx (mS I.1)))]⟩:=by
  refine hK _ ?_;clear hK K
  show AWp _ _ _ _ _
  refine wcond _ rfl (fun hc1=>?_) (fun hc1=>?_)
  ·have hr:=nd_t hc1
   have hm0:wkF m ks=none:=if_neg hr
   have hm:wkR m ks=([],false):=by unfold wkR;rw [hm0]
   refine wseq ?_
   refine wreg fun K hK=>?_
   simp [C.impl_walk]
   refine hK _ ?_;clear hK K
   show AWp _ _ _ _ _
   refine wret ?_
   simp [C.impl_walk,hm,rows]
  ·have hr:=nd_f hc1
   have hm0:wkF m ks=wkL m ks ks.length:=if_pos hr
   have hi1:I.1=prinM m:=by rw [hpe,if_pos hr.1]
   refine wskip ?_
   show AWp _ _ _ _ _
   refine wseq ?_
   refine wreg fun K hK=>?_
   simp [C.impl_walk,mS]
   refine hK _ ?_;clear hK K
   show AWp _ _ _ _ _
   refine wseq ?_
   refine wseq ?_
   refine wreg fun K hK=>?_
   simp [C.impl_walk]
   refine hK _ ?_;clear hK K
   show AWp _ _ _ _ _
   refine wblock ?_
   refine wloop (fun x:Nat×Mat×List Mat=>⟨ofL [(6,.pt (6,0) [] 0),(8,.al (8,0) [] 0 x.2.2.length),(25,.d (shI ks)),(26,.int ks.length),(27,.int x.1)],ofRO [((6,0),some (.bx (mS x.2.1))),((8,0),some (.ow 3 x.2.2.length (rows mS x.2.2)))]⟩) (fun x=>x.1<=ks.length/\wkL m ks x.1=some x.2.2/\x.2.1=x.2.2.getD x.1 zM) (fun x=>ks.length - x.1) (0,I.1,[I.1]) (by simp [C.impl_walk,rows,mS]) ⟨by simp,by rw [hi1];rfl,rfl⟩ ?_
   intro x1 hx1 R1 hR1
   obtain ⟨i,p,l⟩:=x1
   obtain ⟨hi0,hw,hp⟩:=hx1
   dsimp only at hi0 hw hp ⊢
   obtain ⟨w1,w2,w3⟩:=wkL_ok hr.1 hw
   have hpg:p=l[i]'(by omega):=by rw [hp];simp [List.getD_eq_getElem?_getD,show i < l.length by omega]
   have hpm:WkM m p:=by rw [hpg];exact w2 _ (List.getElem_mem _)
   have hpl:=wkM_len hpm
   refine wseq ?_
   refine wreg fun K hK=>?_
   simp [C.impl_walk]
   refine hK _ ?_;clear hK K
   show AWp _ _ _ _ _
   refine wseq ?_
   refine wcond _ rfl (fun hc2=>?_) (fun hc2=>?_)
   ·have hi:i < ks.length:=by have:=d_t hc2;omega
    have hmu:=iMu_calls p ks[i] (by omega)
    have hws:wkL m ks (i+1)=if (muF p ks[i]).2=true then some (l ++ [(muF p ks[i]).1]) else none:=by
     simp only [wkL,hw]
     rw [← hp,show ks.getD i 0=ks[i] by simp [List.getD_eq_getElem?_getD,hi]]
    obtain ⟨M,hM⟩:∃ M,M=muF p ks[i]:=⟨_,rfl⟩
    rw [← hM] at hmu hws
    refine wskip ?_
    show AWp _ _ _ _ _
    refine wseq ?_
    refine wblock ?_
    refine wseq ?_
    refine wreg fun K hK=>?_
    simp [C.impl_walk,get_ints,hi,show (i:Int) < ks.length by omega]
    refine hK _ ?_;clear hK K
    show AWp _ _ _ _ _
    refine wseq ?_
    refine wregI ([0,1,2] ++ ([3,4,5,6,7])) rfl fun K hK=>?_
    refine opsI_seg fun L hL=>?_
    simp [C.impl_walk,mO,mS]
    refine wcall1 (hmu) (by simp) (by simp) ?_
    simp [C.impl_walk,mO,mS]
    refine hL _ ?_;clear hL L
    refine opsI_end fun L hL=>?_
    simp [C.impl_walk,mO,mS]
    refine hL _ ?_;clear hL L
    simp [C.impl_walk,mO,mS]
    refine hK _ ?_;clear hK K
    show AWp _ _ _ _ _
    refine wseq ?_
    refine wseq ?_
    refine wreg fun K hK=>?_
    simp [C.impl_walk]
    refine hK _ ?_;clear hK K
    show AWp _ _ _ _ _
    refine wcond _ rfl (fun hc3=>?_) (fun hc3=>?_)
    ·have hb:M.2=false:=by simpa using hc3
     have hn0:wkL m ks (i+1)=none:=by rw [hws,hb];rfl
     have hm1:wkF m ks=none:=by rw [hm0];exact wkL_none hn0 (by omega)
     have hm:wkR m ks=([],false):=by unfold wkR;rw [hm1]
     refine wseq ?_
     refine wreg fun K hK=>?_
     simp [C.impl_walk]
     refine hK _ ?_;clear hK K
     show AWp _ _ _ _ _
     refine wret ?_
     simp [C.impl_walk,hm,rows]
    ·have hb:M.2=true:=by simpa using hc3
     rw [if_pos hb] at hws
     refine wskip ?_
     show AWp _ _ _ _ _
     refine wreg fun K hK=>?_
     simp [C.impl_walk,mS_snoc,mS,show (l.length+1)*40<=140737488355328 by omega]
     refine hK _ ?_;clear hK K
     show AWp _ _ _ _ _
     refine wreg fun K hK=>?_
     simp [C.impl_walk,wrap_succ (show i < 4611686018427387904 by omega)]
     refine hK _ ?_;clear hK K
     simp [C.impl_walk]
     refine cast (congrArg R1 ?_) (hR1 (i+1,M.1,l ++ [M.1]) ⟨hi,hws,?_⟩ (by dsimp only;omega))
     ·simp [mS]
     ·dsimp only
      rw [← w1]
      simp [List.getD_eq_getElem?_getD]
   ·have hi:i=ks.length:=by have:=d_f hc2;omega
    have hm:wkR m ks=(l,true):=by
     unfold wkR
     rw [hm0,← hi,hw]
    refine wexit ?_
    show AWp _ _ _ _ _
    refine wseq ?_
    refine wreg fun K hK=>?_
    simp [C.impl_walk]
    refine hK _ ?_;clear hK K
    show AWp _ _ _ _ _
    refine wret ?_
    simp [C.impl_walk,hm]
 clear hK
 by_cases h1:SqOK m
 ·simp [C.impl_walk,hib,lenle,h1]
  refine cast (congrArg K ?_) hJ
  simp [mS,h1]
 ·simp [C.impl_walk,hib,lenle,h1]
  refine cast (congrArg K ?_) hJ
  simp [mS,h1]
theorem iWk_calls (m:Mat) (ks:List Int) (hx:m.d.length < 17592186044416) (hks:ks.length < 4611686018427387904):ACalls Tryz.prog F.impl_walk [aM m,.d (shI ks)] [] false (fun outs res=>outs=[]/\res=[.one (.ow 3 (wkR m ks).1.length (rows mS (wkR m ks).1)),.one (D.bool (wkR m ks).2)]):=(impl_walk_calls m ks hx hks).weak1
theorem spec_l4Square_calls (m:Mat) (hx:m.d.length < 17592186044416):ACalls Tryz.prog F.spec_l4Square [aM m] [] true (fun outs res=>outs=[]/\res=[.one (D.bool (decide (SqOK m)))]):=by
 refine ACalls.of_body (C:=C.spec_l4Square) (n:=Tryz.f132.ntmps) tabT folT Tryz.func132 rfl (by kernel_rfl) rfl (Nat.le_of_ble_eq_true rfl) (by decide) (by kernel_rfl) (by kernel_rfl) rfl (by simp) (by simp) ?_
 simp only [Tryz.f132]
 refine wseq ?_
 refine wreg fun K hK=>?_
 simp [C.spec_l4Square]
 refine hK _ ?_;clear hK K
 show AWp _ _ _ _ _
 refine wseq ?_
 refine wregI ([0,1] ++ ([2,3,4,5,6,7,8,9,10,11,12,13,14,15])) rfl fun K hK=>?_
 have hJ:K ⟨ofL [(2,.bool (decide (SqOK m)))],ofRO []⟩:=by
  refine hK _ ?_;clear hK K
  show AWp _ _ _ _ _
  refine wret ?_
  simp [C.spec_l4Square]
 clear hK
 by_cases h1:MatOK m
 ·by_cases h2:m.r=m.n
  ·have hwn:IntKind.i64.wrap (2*m.n)=2*m.n:=by have:=h1.1.1;exact wrapOk (by omega) (by omega)
   refine opsI_seg fun L hL=>?_
   simp [C.spec_l4Square,hwn,h2,h1,h2]
   refine wcall1 (spec_MatrixOk_calls m hx) (by simp [hwn,h2]) (by simp) ?_
   simp [C.spec_l4Square,hwn,h2,h1,h2]
   refine hL _ ?_;clear hL L
   refine opsI_end fun L hL=>?_
   simp [C.spec_l4Square,hwn,h2,h1,h2]
   refine hL _ ?_;clear hL L
   simp [C.spec_l4Square,hwn,h2,h1,h2]
   refine cast (congrArg K ?_) hJ
   simp [SqOK,h1,h2]
  ·refine opsI_seg fun L hL=>?_
   simp [C.spec_l4Square,h1,h2]
   refine wcall1 (spec_MatrixOk_calls m hx) (by simp) (by simp) ?_
   simp [C.spec_l4Square,h1,h2]
   refine hL _ ?_;clear hL L
   refine opsI_end fun L hL=>?_
   simp [C.spec_l4Square,h1,h2]
   refine hL _ ?_;clear hL L
   simp [C.spec_l4Square,h1,h2]
   refine cast (congrArg K ?_) hJ
   simp [SqOK,h1,h2]
 ·refine opsI_seg fun L hL=>?_
  simp [C.spec_l4Square,h1]
  refine wcall1 (spec_MatrixOk_calls m hx) (by simp) (by simp) ?_
  simp [C.spec_l4Square,h1]
  refine hL _ ?_;clear hL L
  refine opsI_end fun L hL=>?_
  simp [C.spec_l4Square,h1]
  refine hL _ ?_;clear hL L
  simp [C.spec_l4Square,h1]
  refine cast (congrArg K ?_) hJ
  simp [SqOK,h1]
theorem spec_l1Principal_calls (m:Mat) (n:Nat) (hn:m.n=n) (hn4:1<=n/\n<=4) (hL:m.d.length<=16):ACalls Tryz.prog F.spec_l1Principal [aM m] [] true (fun outs res=>outs=[]/\res=[.ag (mO (prinM m))]):=by
 have hwn:IntKind.i64.wrap (2*(n:Int))=2*n:=wrapOk (by omega) (by omega)
 refine ACalls.of_body (C:=C.spec_l1Principal) (n:=Tryz.f133.ntmps) tabT folT Tryz.func133 rfl (by kernel_rfl) rfl (Nat.le_of_ble_eq_true rfl) (by decide) (by kernel_rfl) (by kernel_rfl) rfl (by simp) (by simp) ?_
 simp only [Tryz.f133]
 refine wseq ?_
 refine wreg fun K hK=>?_
 simp [C.spec_l1Principal]
 refine hK _ ?_;clear hK K
 show AWp _ _ _ _ _
 refine wseq ?_
 refine wregI ([0,1] ++ ([2,3])) rfl fun K hK=>?_
 refine opsI_seg fun L hL=>?_
 simp [C.spec_l1Principal,mO]
 refine wcall1 (spec_l1CopyMatrix_calls m (by omega)) (by simp) (by simp) ?_
 simp [C.spec_l1Principal,mO]
 refine hL _ ?_;clear hL L
 refine opsI_end fun L hL=>?_
 simp [C.spec_l1Principal,mO]
 refine hL _ ?_;clear hL L
 simp [C.spec_l1Principal,mO]
 refine hK _ ?_;clear hK K
 show AWp _ _ _ _ _
 refine wseq ?_
 refine wreg fun K hK=>?_
 simp [C.spec_l1Principal,hn,hwn]
 refine hK _ ?_;clear hK K
 show AWp _ _ _ _ _
 refine wseq ?_
 refine wseq ?_
 refine wreg fun K hK=>?_
 simp [C.spec_l1Principal]
 refine hK _ ?_;clear hK K
 show AWp _ _ _ _ _
 refine wblock ?_
 refine wloop (fun i:Nat=>⟨ofL [(1,.pt (1,0) [] 0),(2,.pt (2,0) [] 0),(3,.pt (3,0) [] 0),(4,.int i)],ofRO [((1,0),some (.bx [D.int n,D.int m.r,shI m.d])),((2,0),some (.bx [D.int 0,D.int 0,.v (.slice none 0 0)])),((3,0),some (.bx [D.int n,D.int (2*n),owI (prD m n i 0)]))]⟩) (fun i=>i<=n) (fun i=>n - i) 0 (by simp [C.spec_l1Principal,prD,idP,hn]) (by simp) ?_
 intro x1 hx1 R1 hR1
 refine wseq ?_
 refine wseq ?_
 refine wreg fun K hK=>?_
 simp [C.spec_l1Principal]
 refine hK _ ?_;clear hK K
 show AWp _ _ _ _ _
 refine wcond _ rfl (fun hc1=>?_) (fun hc1=>?_)
 ·have hi:x1 < n:=by have:=d_t hc1;omega
  have hln:=prD_len m (i:=x1) (show 0<=n by omega)
  have hl1:x1*n<=16:=Nat.mul_le_mul (show x1<=4 by omega) hn4.2
  have hst:=prD_row0 m n x1
  obtain ⟨A,hA⟩:∃ A,A=prD m n x1 0:=⟨_,rfl⟩
  rw [← hA] at hst hln
  rw [← hA]
  have hu:(List.replicate n (0:Int)).set x1 1=unitL n x1:=rfl
  have hul:=unitL_length n x1
  refine wskip ?_
  show AWp _ _ _ _ _
  refine wseq ?_
  refine wblock ?_
  refine wseq ?_
  refine wreg fun K hK=>?_
  simp [C.spec_l1Principal,zeros_ints,show (8:Int)*n<=281474976710656 by omega,show (n:Int)<=281474976710656 by omega]
  refine hK _ ?_;clear hK K
  show AWp _ _ _ _ _
  refine wseq ?_
  refine wreg fun K hK=>?_
  simp [C.spec_l1Principal,hi,show (x1:Int) < n by omega,hu]
  refine hK _ ?_;clear hK K
  show AWp _ _ _ _ _
  refine wreg fun K hK=>?_
  simp [C.spec_l1Principal,hul,show (A.length+n)*8<=140737488355328 by omega]
  refine hK _ ?_;clear hK K
  show AWp _ _ _ _ _
  refine wreg fun K hK=>?_
  simp [C.spec_l1Principal,wrap_succ (show x1 < 4611686018427387904 by omega)]
  refine hK _ ?_;clear hK K
  simp [C.spec_l1Principal]
  refine cast (congrArg R1 ?_) (hR1 (x1+1) hi (by omega))
  simp [← hst,hul,owI]
 ·have hi:x1=n:=by have:=d_f hc1;omega
  rw [hi]
  have hlast:=prD_last hn
  refine wexit ?_
  show AWp _ _ _ _ _
  refine wseq ?_
  refine wreg fun K hK=>?_
  simp [C.spec_l1Principal]
  refine hK _ ?_;clear hK K
  show AWp _ _ _ _ _
  refine wret ?_
  simp [C.spec_l1Principal]
  rw [← hlast]
  simp [mO]
theorem spec_l4Along_calls (m:Mat) (ks:List Int) (hx:m.d.length < 17592186044416) (hks:ks.length < 4611686018427387904):ACalls Tryz.prog F.spec_l4Along [aM m,.d (shI ks)] [] true (fun outs res=>outs=[]/\WkRs res [.one (.ow 3 (wkR m ks).1.length (rows mO (wkR m ks).1)),.one (D.bool (wkR m ks).2)]):=by
 refine ACalls.of_body (C:=C.spec_l4Along) (n:=Tryz.f57.ntmps) tabT folT Tryz.func57 rfl (by kernel_rfl) rfl (Nat.le_of_ble_eq_true rfl) (by decide) (by kernel_rfl) (by kernel_rfl) rfl (by simp) (by simp) ?_
 simp only [Tryz.f57]
 refine wseq ?_
 refine wreg fun K hK=>?_
 simp [C.spec_l4Along]
 refine hK _ ?_;clear hK K
 show AWp _ _ _ _ _
 refine wseq ?_
 refine wseq ?_
 refine wregI ([0,1] ++ ([2,3,4,5,6,7])) rfl fun K hK=>?_
 have hJ:K ⟨ofL [(1,.d (shI ks)),(2,.pt (2,0) [] 0),(17,.bool (!decide (SqOK m/\ks.length<=40)))],ofRO [((2,0),some (.bx (mS m)))]⟩:=by
  refine hK _ ?_;clear hK K
  show AWp _ _ _ _ _
  refine wcond _ rfl (fun hc1=>?_) (fun hc1=>?_)
  ·have hr:=nd_t hc1
   have hm0:wkF m ks=none:=if_neg hr
   have hm:wkR m ks=([],false):=by unfold wkR;rw [hm0]
   refine wseq ?_
   refine wreg fun K hK=>?_
   simp [C.spec_l4Along]
   refine hK _ ?_;clear hK K
   show AWp _ _ _ _ _
   refine wret ?_
   simp [C.spec_l4Along,hm,rows]
  ·have hr:=nd_f hc1
   have hm0:wkF m ks=wkL m ks ks.length:=if_pos hr
   obtain ⟨n,hn,hrr,hn4,hL⟩:=hr.1.dim
   have hL16:m.d.length<=16:=by rw [hL];exact Nat.mul_le_mul hn4.2 hn4.2
   refine wskip ?_
   show AWp _ _ _ _ _
   refine wseq ?_
   refine wregI ([0,1] ++ ([2,3])) rfl fun K hK=>?_
   refine opsI_seg fun L hL=>?_
   simp [C.spec_l4Along,mS,mO]
   refine wcall1 (spec_l1Principal_calls m n hn hn4 hL16) (by simp) (by simp) ?_
   simp [C.spec_l4Along,mS,mO]
   refine hL _ ?_;clear hL L
   refine opsI_end fun L hL=>?_
   simp [C.spec_l4Along,mS,mO]
   refine hL _ ?_;clear hL L
   simp [C.spec_l4Along,mS,mO]
   refine hK _ ?_;clear hK K
   show AWp _ _ _ _ _
   refine wseq ?_
   refine wseq ?_
   refine wreg fun K hK=>?_
   simp [C.spec_l4Along]
   refine hK _ ?_;clear hK K
   show AWp _ _ _ _ _
   refine wblock ?_
   refine wloop (fun x:Nat×List Mat=>⟨ofL [(1,.d (shI ks)),(6,.al (6,0) [] 0 x.2.length),(7,.int x.1)],ofRO [((6,0),some (.ow 3 x.2.length (rows mO x.2)))]⟩) (fun x=>x.1<=ks.length/\wkL m ks x.1=some x.2) (fun x=>ks.length - x.1) (0,[prinM m]) (by simp [C.spec_l4Along,rows,mO]) ⟨by simp,rfl⟩ ?_
   intro x1 hx1 R1 hR1
   obtain ⟨i,l⟩:=x1
   obtain ⟨hi0,hw⟩:=hx1
   dsimp only at hi0 hw ⊢
   obtain ⟨w1,w2,w3⟩:=wkL_ok hr.1 hw
   refine wseq ?_
   refine wseq ?_
   refine wreg fun K hK=>?_
   simp [C.spec_l4Along]
   refine hK _ ?_;clear hK K
   show AWp _ _ _ _ _
   refine wcond _ rfl (fun hc2=>?_) (fun hc2=>?_)
   ·have hi:i < ks.length:=by have:=d_t hc2;omega
    have hil:i < l.length:=by omega
    have hpm:WkM m l[i]:=w2 _ (List.getElem_mem _)
    have hpl:=wkM_len hpm
    have hmu:=sMu_calls l[i] ks[i] (by omega)
    have hws:wkL m ks (i+1)=if (muF l[i] ks[i]).2=true then some (l ++ [(muF l[i] ks[i]).1]) else none:=by
     simp only [wkL,hw]
     rw [show ks.getD i 0=ks[i] by simp [List.getD_eq_getElem?_getD,hi],show l.getD i zM=l[i] by simp [List.getD_eq_getElem?_getD,hil]]
    obtain ⟨M,hM⟩:∃ M,M=muF l[i] ks[i]:=⟨_,rfl⟩
    rw [← hM] at hmu hws
    refine wskip ?_
    show AWp _ _ _ _ _
    refine wseq ?_
    refine wblock ?_
    refine wseq ?_
    refine wdraw (.take 0 (.take 1 (.take 2 (.take 3 (.take 4 (.take 5 (.take 6 (.take 7 (.all [(8,.take 9 (.take 10 (.take 11 (.all [(12,.all [(13,.take 14 (.done))])])))),(12,.all [(8,.take 9 (.take 10 (.take 11 (.all [(13,.take 14 (.done))]))))])]))))))))) ⟨by kernel_rfl,by kernel_rfl⟩ fun K hK=>?_
    have hJ:K ⟨ofL [(1,.d (shI ks)),(6,.al (6,0) [] 0 l.length),(7,.int i),(8,.pt (8,0) [] 0),(9,.bool M.2)],ofRO [((6,0),some (.ow 3 l.length (rows mO l))),((8,0),some (.bx (mO M.1)))]⟩:=by
     refine hK _ ?_;clear hK K
     show AWp _ _ _ _ _
     refine wseq ?_
     refine wseq ?_
     refine wreg fun K hK=>?_
     simp [C.spec_l4Along]
     refine hK _ ?_;clear hK K
     show AWp _ _ _ _ _
     refine wcond _ rfl (fun hc3=>?_) (fun hc3=>?_)
     ·have hb:M.2=false:=by simpa using hc3
      have hn0:wkL m ks (i+1)=none:=by rw [hws,hb];rfl
      have hm1:wkF m ks=none:=by rw [hm0];exact wkL_none hn0 (by omega)
      have hm:wkR m ks=([],false):=by unfold wkR;rw [hm1]
      refine wseq ?_
      refine wreg fun K hK=>?_
      simp [C.spec_l4Along]
      refine hK _ ?_;clear hK K
      show AWp _ _ _ _ _
      refine wret ?_
      simp [C.spec_l4Along,hm,rows]
     ·have hb:M.2=true:=by simpa using hc3
      rw [if_pos hb] at hws
      refine wskip ?_
      show AWp _ _ _ _ _
      refine wreg fun K hK=>?_
      simp [C.spec_l4Along,mO_snoc,mO,show (l.length+1)*40<=140737488355328 by omega]
      refine hK _ ?_;clear hK K
      show AWp _ _ _ _ _
      refine wreg fun K hK=>?_
      simp [C.spec_l4Along,wrap_succ (show i < 4611686018427387904 by omega)]
      refine hK _ ?_;clear hK K
      simp [C.spec_l4Along]
      refine cast (congrArg R1 ?_) (hR1 (i+1,l ++ [M.1]) ⟨hi,hws⟩ (by dsimp only;omega))
      simp
    clear hK
    simp [C.spec_l4Along,get_ints,hi,hil,mO_0 hil,mO_1 hil,mO_2 hil,show (i:Int) < ks.length by omega,show (i:Int) < l.length by omega]
    repeat' first
     | (refine wcall1 (hmu) ?_ (by simp) ?_;(focus (simp [mO_0 hil,mO_1 hil,mO_2 hil];done));simp [C.spec_l4Along,mO])
     | (refine cast (congrArg K ?_) hJ;simp [mO];done)
     | refine And.intro ?_ ?_
   ·have hi:i=ks.length:=by have:=d_f hc2;omega
    have hm:wkR m ks=(l,true):=by
     unfold wkR
     rw [hm0,← hi,hw]
    refine wexit ?_
    show AWp _ _ _ _ _
    refine wseq ?_
    refine wreg fun K hK=>?_
    simp [C.spec_l4Along]
    refine hK _ ?_;clear hK K
    show AWp _ _ _ _ _
    refine wret ?_
    simp [C.spec_l4Along,hm]
 clear hK
 by_cases h1:SqOK m
 ·refine opsI_seg fun L hL=>?_
  simp [C.spec_l4Along,lenle,h1]
  refine wcall1 (spec_l4Square_calls m hx) (by simp) (by simp) ?_
  simp [C.spec_l4Along,lenle,h1]
  refine hL _ ?_;clear hL L
  refine opsI_end fun L hL=>?_
  simp [C.spec_l4Along,lenle,h1]
  refine hL _ ?_;clear hL L
  simp [C.spec_l4Along,lenle,h1]
  refine cast (congrArg K ?_) hJ
  simp [mS,h1]
 ·refine opsI_seg fun L hL=>?_
  simp [C.spec_l4Along,h1]
  refine wcall1 (spec_l4Square_calls m hx) (by simp) (by simp) ?_
  simp [C.spec_l4Along,h1]
  refine hL _ ?_;clear hL L
  refine opsI_end fun L hL=>?_
  simp [C.spec_l4Along,h1]
  refine hL _ ?_;clear hL L
  simp [C.spec_l4Along,h1]
  refine cast (congrArg K ?_) hJ
  simp [mS,h1]
theorem sWk_calls (m:Mat) (ks:List Int) (hx:m.d.length < 17592186044416) (hks:ks.length < 4611686018427387904):ACalls Tryz.prog F.spec_l4Along [aM m,.d (shI ks)] [] true (fun outs res=>outs=[]/\res=[.one (.ow 3 (wkR m ks).1.length (rows mO (wkR m ks).1)),.one (D.bool (wkR m ks).2)]):=(spec_l4Along_calls m ks hx hks).weak1
end Go.Proofs.YtbhkonnakkhibaaGreat.Ab
namespace Go.Proofs.YtbhkonnakkhibaaGreat.Ab
open Go
set_option maxRecDepth 10000
set_option maxHeartbeats 2000000
theorem spec_l3Column_calls (m:Mat) (n r k:Nat) (hn:m.n=n) (hr:m.r=r) (hS:ShM m) (hk:k < n):ACalls Tryz.prog F.spec_l3Column [.ag [.int n,.int r,.d (shI m.d)],.int k] [] true (fun outs res=>outs=[]/\res=[.one (.ow 1 r (ints (colM m r k)))]):=by
 have hnr:n<=r/\r<=8:=by have:=hS.2.1;omega
 refine ACalls.of_body (C:=C.spec_l3Column) (n:=Tryz.f61.ntmps) tabT folT Tryz.func61 rfl (by kernel_rfl) rfl (Nat.le_of_ble_eq_true rfl) (by decide) (by kernel_rfl) (by kernel_rfl) rfl (by simp) (by simp) ?_
 simp only [Tryz.f61]
 refine wseq ?_
 refine wreg fun K hK=>?_
 simp [C.spec_l3Column]
 refine hK _ ?_;clear hK K
 show AWp _ _ _ _ _
 refine wseq ?_
 refine wreg fun K hK=>?_
 simp [C.spec_l3Column]
 refine hK _ ?_;clear hK K
 show AWp _ _ _ _ _
 refine wseq ?_
 refine wseq ?_
 refine wreg fun K hK=>?_
 simp [C.spec_l3Column]
 refine hK _ ?_;clear hK K
 show AWp _ _ _ _ _
 refine wblock ?_
 refine wloop (fun x:Nat=>⟨ofL [(1,.int k),(2,.pt (2,0) [] 0),(5,.al (5,0) [] 0 x),(6,.int x)],ofRO [((2,0),some (.bx [D.int n,D.int r,shI m.d])),((5,0),some (.ow 1 x (ints (colM m x k))))]⟩) (fun x=>x<=r) (fun x=>r - x) 0 (by simp [C.spec_l3Column,colM,ints]) (by simp) ?_
 intro x1 hx1 R1 hR1
 refine wseq ?_
 refine wseq ?_
 refine wreg fun K hK=>?_
 simp [C.spec_l3Column]
 refine hK _ ?_;clear hK K
 show AWp _ _ _ _ _
 refine wcond _ rfl (fun hc1=>?_) (fun hc1=>?_)
 ·have hi:x1 < r:=by have:=d_t hc1;omega
  have hat:=spec_l1At_calls m n r x1 k hn hr hS hi hk
  have hsn:ints (colM m x1 k) ++ [D.v (.int .i64 (bM m x1 k))]=ints (colM m (x1+1) k):=by simp [colM,ints,List.range_succ]
  refine wskip ?_
  show AWp _ _ _ _ _
  refine wseq ?_
  refine wblock ?_
  refine wregI ([0,1,2,3,4] ++ ([5,6,7])) rfl fun K hK=>?_
  refine opsI_seg fun L hL=>?_
  simp [C.spec_l3Column,hsn,show (x1+1)*8<=140737488355328 by omega]
  refine wcall1 (hat) (by simp) (by simp) ?_
  simp [C.spec_l3Column,hsn,show (x1+1)*8<=140737488355328 by omega]
  refine hL _ ?_;clear hL L
  refine opsI_end fun L hL=>?_
  simp [C.spec_l3Column,hsn,show (x1+1)*8<=140737488355328 by omega]
  refine hL _ ?_;clear hL L
  simp [C.spec_l3Column,hsn,show (x1+1)*8<=140737488355328 by omega]
  refine hK _ ?_;clear hK K
  show AWp _ _ _ _ _
  refine wreg fun K hK=>?_
  simp [C.spec_l3Column,wrap_succ (show x1 < 4611686018427387904 by omega)]
  refine hK _ ?_;clear hK K
  simp [C.spec_l3Column]
  exact hR1 (x1+1) hi (by omega)
 ·have hi:x1=r:=by have:=d_f hc1;omega
  refine wexit ?_
  show AWp _ _ _ _ _
  refine wseq ?_
  refine wreg fun K hK=>?_
  simp [C.spec_l3Column]
  refine hK _ ?_;clear hK K
  show AWp _ _ _ _ _
  refine wret ?_
  simp [C.spec_l3Column,hi]
def optF:Option Lau->Lau×Bool
 | some p=>(p,true)
 | none=>(zeroF,false)
noncomputable def prodF (sg:Int) (fs:List Lau) (cs:List Int) (r:Nat):Lau×Bool:=optF (prodE sg fs cs (oneF r))
theorem spec_l3Product_calls (fs:List Lau) (cs:List Int) (sg:Int) (r:Nat) (hsg:sg=1\/sg=-1) (hr:1<=r/\r<=8) (v:Nat) (hv8:1<=v/\v<=8) (hl:fs.length=r) (hcl:cs.length=r) (hf:∀ f∈fs,SmF f) (hv:∀ f∈fs,f.v=v) (hc8:∀ c∈cs,-8<=c/\c<=8):ACalls Tryz.prog F.spec_l3Product [.d (.sh 2 fs.length (rows fS fs)),.d (.sh 1 r (ints cs)),.int sg] [] true (fun outs res=>outs=[]/\WkRs res [.ag (fO (prodF sg fs cs v).1),.one (D.bool (prodF sg fs cs v).2)]):=by
 have h0:0 < fs.length:=by omega
 have h0v:fs[0].v=v:=hv _ (List.getElem_mem h0)
 have hos:SmallF (oneF v):=small_right (oneF_right (by omega))
 obtain ⟨goal,hgoal⟩:∃ goal,goal=prodE sg fs cs (oneF v):=⟨_,rfl⟩
 have hm:prodF sg fs cs v=optF goal:=by rw [hgoal];rfl
 refine ACalls.of_body (C:=C.spec_l3Product) (n:=Tryz.f137.ntmps) tabT folT Tryz.func137 rfl (by kernel_rfl) rfl (Nat.le_of_ble_eq_true rfl) (by decide) (by kernel_rfl) (by kernel_rfl) rfl (by simp) (by simp) ?_
 simp only [Tryz.f137]
 refine wseq ?_
 refine wreg fun K hK=>?_
 simp [C.spec_l3Product]
 refine hK _ ?_;clear hK K
 show AWp _ _ _ _ _
 refine wseq ?_
 refine wregI ([0,1,2,3,4] ++ ([5,6])) rfl fun K hK=>?_
 refine opsI_seg fun L hL=>?_
 simp [C.spec_l3Product,h0,fS_0 h0,h0v,show (0:Int) < fs.length by omega,fO]
 refine wcall1 (spec_ConstantLaurent_calls v hv8) (by simp) (by simp) ?_
 simp [C.spec_l3Product,h0,fS_0 h0,h0v,show (0:Int) < fs.length by omega,fO]
 refine hL _ ?_;clear hL L
 refine opsI_end fun L hL=>?_
 simp [C.spec_l3Product,h0,fS_0 h0,h0v,show (0:Int) < fs.length by omega,fO]
 refine hL _ ?_;clear hL L
 simp [C.spec_l3Product,h0,fS_0 h0,h0v,show (0:Int) < fs.length by omega,fO]
 refine hK _ ?_;clear hK K
 show AWp _ _ _ _ _
 refine wseq ?_
 refine wseq ?_
 refine wreg fun K hK=>?_
 simp [C.spec_l3Product]
 refine hK _ ?_;clear hK K
 show AWp _ _ _ _ _
 refine wblock ?_
 refine wloop (fun x:Nat×Lau=>⟨ofL [(0,.d (.sh 2 fs.length (rows fS fs))),(1,.d (.sh 1 r (ints cs))),(2,.int sg),(6,.pt (6,0) [] 0),(8,.pt (8,0) [] 0),(9,.int x.1)],ofRO [((6,0),some (.bx [D.int 0,.v (.slice none 0 0)])),((8,0),some (.bx (fO x.2)))]⟩) (fun x=>x.1<=r/\SmallF x.2/\prodE sg (fs.drop x.1) (cs.drop x.1) x.2=goal) (fun x=>r - x.1) (0,oneF v) (by simp [C.spec_l3Product,fO]) ⟨by simp,hos,by rw [hgoal];rfl⟩ ?_
 intro x1 hx1 R1 hR1
 obtain ⟨i,p⟩:=x1
 obtain ⟨hi0,hps,hpg⟩:=hx1
 dsimp only at hi0 hps hpg ⊢
 refine wseq ?_
 refine wseq ?_
 refine wreg fun K hK=>?_
 simp [C.spec_l3Product]
 refine hK _ ?_;clear hK K
 show AWp _ _ _ _ _
 refine wcond _ rfl (fun hc1=>?_) (fun hc1=>?_)
 ·have hi:i < r:=by have:=d_t hc1;omega
  have hif:i < fs.length:=by omega
  have hic:i < cs.length:=by omega
  have hstep:=prodE_step (sg:=sg) hif hic p
  rw [hpg] at hstep
  obtain ⟨f,hfi⟩:∃ f,f=fs[i]:=⟨_,rfl⟩
  obtain ⟨c,hci⟩:∃ c,c=cs[i]:=⟨_,rfl⟩
  have hfs:=hf _ (List.getElem_mem hif)
  have hcb:=hc8 _ (List.getElem_mem hic)
  rw [← hfi] at hstep hfs
  rw [← hci] at hstep hcb
  have hscb:-8<=sg*c/\sg*c<=8:=by rcases hsg with rfl | rfl <;> omega
  have hsc:IntKind.i64.wrap (sg*c)=sg*c:=wrapOk (by omega) (by omega)
  refine wskip ?_
  show AWp _ _ _ _ _
  refine wseq ?_
  refine wblock ?_
  refine wseq ?_
  refine wreg fun K hK=>?_
  simp [C.spec_l3Product]
  refine hK _ ?_;clear hK K
  show AWp _ _ _ _ _
  refine wblock ?_
  refine wloop (fun x:Nat×Lau=>⟨ofL [(0,.d (.sh 2 fs.length (rows fS fs))),(1,.d (.sh 1 r (ints cs))),(2,.int sg),(6,.pt (6,0) [] 0),(8,.pt (8,0) [] 0),(9,.int i),(10,.int x.1)],ofRO [((6,0),some (.bx [D.int 0,.v (.slice none 0 0)])),((8,0),some (.bx (fO x.2)))]⟩) (fun x=>x.1<=(sg*c).toNat/\SmallF x.2/\(itM f ((sg*c).toNat - x.1) x.2).bind (prodE sg (fs.drop (i+1)) (cs.drop (i+1)))=goal) (fun x=>8 - x.1) (0,p) (by simp [C.spec_l3Product,fO]) ⟨by simp,hps,hstep.symm⟩ ?_
  intro x2 hx2 R2 hR2
  obtain ⟨j,q⟩:=x2
  obtain ⟨hj0,hqs,hqg⟩:=hx2
  dsimp only at hj0 hqs hqg ⊢
  refine wseq ?_
  refine wseq ?_
  refine wreg fun K hK=>?_
  simp [C.spec_l3Product,hi,hic,hcl,get_ints,← hci,hsc]
  refine hK _ ?_;clear hK K
  show AWp _ _ _ _ _
  refine wcond _ rfl (fun hc2=>?_) (fun hc2=>?_)
  ·have hj:(j:Int) < sg*c:=d_t hc2
   obtain ⟨t,ht⟩:∃ t,(sg*c).toNat - j=t+1:=⟨(sg*c).toNat - j - 1,by omega⟩
   rw [ht] at hqg
   simp only [itM] at hqg
   have hmul:=sMul_calls q f hqs.sm'.1 hqs.sm'.2 hfs.1 hfs.2
   have hmulS:=mulF_small' q f
   obtain ⟨P,hP⟩:∃ P,P=mulF q f:=⟨_,rfl⟩
   rw [← hP] at hqg hmul hmulS
   refine wskip ?_
   show AWp _ _ _ _ _
   refine wseq ?_
   refine wblock ?_
   refine wseq ?_
   refine wdraw (.take 0 (.take 1 (.take 2 (.take 3 (.take 4 (.all [(5,.take 6 (.take 7 (.take 8 (.all [(9,.all [(10,.take 11 (.done))])])))),(9,.all [(5,.take 6 (.take 7 (.take 8 (.all [(10,.take 11 (.done))]))))])])))))) ⟨by kernel_rfl,by kernel_rfl⟩ fun K hK=>?_
   have hJ:K ⟨ofL [(0,.d (.sh 2 fs.length (rows fS fs))),(1,.d (.sh 1 r (ints cs))),(2,.int sg),(6,.pt (6,0) [] 0),(8,.pt (8,0) [] 0),(9,.int i),(10,.int j),(11,.pt (11,0) [] 0),(12,.bool P.2)],ofRO [((6,0),some (.bx [D.int 0,.v (.slice none 0 0)])),((8,0),some (.bx (fO q))),((11,0),some (.bx (fO P.1)))]⟩:=by
    refine hK _ ?_;clear hK K
    show AWp _ _ _ _ _
    refine wseq ?_
    refine wseq ?_
    refine wreg fun K hK=>?_
    simp [C.spec_l3Product]
    refine hK _ ?_;clear hK K
    show AWp _ _ _ _ _
    refine wcond _ rfl (fun hc3=>?_) (fun hc3=>?_)
    ·have hb:P.2=false:=by simpa using hc3
     rw [hb] at hqg
     rw [← hqg] at hm
     have hm2:prodF sg fs cs v=(zeroF,false):=hm
     refine wseq ?_
     refine wreg fun K hK=>?_
     simp [C.spec_l3Product]
     refine hK _ ?_;clear hK K
     show AWp _ _ _ _ _
     refine wret ?_
     simp [C.spec_l3Product,hm2,fO,zeroF,rows]
    ·have hb:P.2=true:=by simpa using hc3
     rw [if_pos hb] at hqg
     refine wskip ?_
     show AWp _ _ _ _ _
     refine wreg fun K hK=>?_
     simp [C.spec_l3Product,fO]
     refine hK _ ?_;clear hK K
     show AWp _ _ _ _ _
     refine wreg fun K hK=>?_
     simp [C.spec_l3Product,wrap_succ (show j < 4611686018427387904 by omega)]
     refine hK _ ?_;clear hK K
     simp [C.spec_l3Product]
     refine cast (congrArg R2 ?_) (hR2 (j+1,P.1) ⟨by dsimp only;omega,hmulS,by dsimp only;rw [show (sg*c).toNat - (j+1)=t by omega];exact hqg⟩ (by dsimp only;omega))
     simp [fO]
   clear hK
   simp [C.spec_l3Product,fO,hif,fS_0 hif,fS_1 hif,← hfi,show (i:Int) < fs.length by omega]
   repeat' first
    | (refine wcall1 (hmul) ?_ (by simp) ?_;(focus (simp;done));simp [C.spec_l3Product,fO])
    | (refine cast (congrArg K ?_) hJ;simp [fO];done)
    | refine And.intro ?_ ?_
  ·have hj:¬ (j:Int) < sg*c:=d_f hc2
   rw [show (sg*c).toNat - j=0 by omega] at hqg
   have hqg2:prodE sg (fs.drop (i+1)) (cs.drop (i+1)) q=goal:=hqg
   refine wexit ?_
   show AWp _ _ _ _ _
   refine wreg fun K hK=>?_
   simp [C.spec_l3Product,wrap_succ (show i < 4611686018427387904 by omega)]
   refine hK _ ?_;clear hK K
   simp [C.spec_l3Product]
   exact hR1 (i+1,q) ⟨hi,hqs,hqg2⟩ (by dsimp only;omega)
 ·have hi:i=r:=by have:=d_f hc1;omega
  rw [hi,List.drop_of_length_le (by omega),List.drop_of_length_le (by omega)] at hpg
  have hm2:prodF sg fs cs v=(p,true):=by rw [hm,← hpg];rfl
  refine wexit ?_
  show AWp _ _ _ _ _
  refine wseq ?_
  refine wreg fun K hK=>?_
  simp [C.spec_l3Product,fO]
  refine hK _ ?_;clear hK K
  show AWp _ _ _ _ _
  refine wret ?_
  simp [C.spec_l3Product,hm2,fO]
theorem sProd_calls (fs:List Lau) (cs:List Int) (sg:Int) (r:Nat) (hsg:sg=1\/sg=-1) (hr:1<=r/\r<=8) (v:Nat) (hv8:1<=v/\v<=8) (hl:fs.length=r) (hcl:cs.length=r) (hf:∀ f∈fs,SmF f) (hv:∀ f∈fs,f.v=v) (hc8:∀ c∈cs,-8<=c/\c<=8):ACalls Tryz.prog F.spec_l3Product [.d (.sh 2 fs.length (rows fS fs)),.d (.sh 1 r (ints cs)),.int sg] [] true (fun outs res=>outs=[]/\res=[.ag (fO (prodF sg fs cs v).1),.one (D.bool (prodF sg fs cs v).2)]):=(spec_l3Product_calls fs cs sg r hsg hr v hv8 hl hcl hf hv hc8).weak1
theorem prodE_small {sg:Int}:∀ {fs:List Lau} {cs:List Int} {p q:Lau},SmallF p->prodE sg fs cs p=some q->SmallF q
 | [],_,p,q,h,e=>by simp only [prodE,Option.some.injEq] at e;exact e ▸ h
 | _ :: _,[],p,q,h,e=>by simp only [prodE,Option.some.injEq] at e;exact e ▸ h
 | f :: fs,c :: cs,p,q,h,e=>by
  simp only [prodE] at e
  obtain ⟨z,hz,e2⟩:=Option.bind_eq_some_iff.1 e
  refine prodE_small ?_ e2
  clear e e2
  generalize (sg*c).toNat=n at hz
  induction n generalizing p with
  | zero=>simp only [itM,Option.some.injEq] at hz;exact hz ▸ h
  | succ n ih=>
   simp only [itM] at hz
   split at hz
   ·exact ih _ (mulF_small' p f) hz
   ·simp at hz
theorem prodF_small (sg:Int) (fs:List Lau) (cs:List Int) {r:Nat} (hr:1<=r/\r<=8):SmallF (prodF sg fs cs r).1:=by
 unfold prodF
 cases hp:prodE sg fs cs (oneF r) with
 | some p=>exact prodE_small (small_right (oneF_right hr)) hp
 | none=>exact small_zero
theorem spec_l3Exchange_calls (fs:List Lau) (cs:List Int) (old:Lau) (r:Nat) (hr:1<=r/\r<=8) (v:Nat) (hv8:1<=v/\v<=8) (hl:fs.length=r) (hcl:cs.length=r) (hf:∀ f∈fs,SmF f) (hv:∀ f∈fs,f.v=v) (ho:SmF old):ACalls Tryz.prog F.spec_l3Exchange [.d (.sh 2 fs.length (rows fS fs)),.d (.sh 1 r (ints cs)),aF old] [] true (fun outs res=>outs=[]/\WkRs res [.ag (fO (exF fs cs v old).1),.one (D.bool (exF fs cs v old).2)]):=by
 refine ACalls.of_body (C:=C.spec_l3Exchange) (n:=Tryz.f60.ntmps) tabT folT Tryz.func60 rfl (by kernel_rfl) rfl (Nat.le_of_ble_eq_true rfl) (by decide) (by kernel_rfl) (by kernel_rfl) rfl (by simp) (by simp) ?_
 simp only [Tryz.f60]
 refine wseq ?_
 refine wreg fun K hK=>?_
 simp [C.spec_l3Exchange,fO,fS]
 refine hK _ ?_;clear hK K
 show AWp _ _ _ _ _
 refine wseq ?_
 refine wseq ?_
 refine wreg fun K hK=>?_
 simp [C.spec_l3Exchange,fO,fS]
 refine hK _ ?_;clear hK K
 show AWp _ _ _ _ _
 refine wblock ?_
 refine wloop (fun x:Nat=>⟨ofL [(0,.d (.sh 2 fs.length (rows fS fs))),(1,.d (.sh 1 r (ints cs))),(5,.pt (5,0) [] 0),(6,.pt (6,0) [] 0),(8,.int x)],ofRO [((5,0),some (.bx (fS old))),((6,0),some (.bx [D.int 0,.v (.slice none 0 0)]))]⟩) (fun x=>x<=r/\∀ c∈cs.take x,-8<=c/\c<=8) (fun x=>r - x) 0 (by simp [C.spec_l3Exchange,fS]) (by simp) ?_
 intro x1 hx1 R1 hR1
 obtain ⟨hi0,hall⟩:=hx1
 refine wseq ?_
 refine wseq ?_
 refine wreg fun K hK=>?_
 simp [C.spec_l3Exchange,fO,fS]
 refine hK _ ?_;clear hK K
 show AWp _ _ _ _ _
 refine wcond _ rfl (fun hc1=>?_) (fun hc1=>?_)
 ·have hi:x1 < r:=by have:=d_t hc1;omega
  have hic:x1 < cs.length:=by omega
  refine wskip ?_
  show AWp _ _ _ _ _
  refine wseq ?_
  refine wblock ?_
  refine wseq ?_
  refine wregI ([0,1,2,3,4] ++ ([5])) rfl fun K hK=>?_
  refine opsI_seg fun L hL=>?_
  simp [C.spec_l3Exchange,fO,fS,hi,hic,hcl,get_ints]
  refine wcall1 (spec_l1In_calls cs[x1] (-8) 8) (by simp) (by simp) ?_
  simp [C.spec_l3Exchange,fO,fS,hi,hic,hcl,get_ints]
  refine hL _ ?_;clear hL L
  refine opsI_end fun L hL=>?_
  simp [C.spec_l3Exchange,fO,fS,hi,hic,hcl,get_ints]
  refine hL _ ?_;clear hL L
  simp [C.spec_l3Exchange,fO,fS,hi,hic,hcl,get_ints]
  refine hK _ ?_;clear hK K
  show AWp _ _ _ _ _
  refine wcond _ rfl (fun hc2=>?_) (fun hc2=>?_)
  ·have hbad:¬ (-8<=cs[x1]/\cs[x1]<=8):=by simp at hc2;omega
   have hm:exF fs cs v old=(zeroF,false):=exF_big (List.getElem_mem hic) hbad
   refine wseq ?_
   refine wreg fun K hK=>?_
   simp [C.spec_l3Exchange,fO,fS]
   refine hK _ ?_;clear hK K
   show AWp _ _ _ _ _
   refine wret ?_
   simp [C.spec_l3Exchange,fO,fS,hm,zeroF,rows]
  ·have hgood:-8<=cs[x1]/\cs[x1]<=8:=by simp at hc2;omega
   refine wskip ?_
   show AWp _ _ _ _ _
   refine wreg fun K hK=>?_
   simp [C.spec_l3Exchange,fO,fS,wrap_succ (show x1 < 4611686018427387904 by omega)]
   refine hK _ ?_;clear hK K
   simp [C.spec_l3Exchange,fO,fS]
   refine cast (congrArg R1 ?_) (hR1 (x1+1) ⟨hi,fun c hc=>?_⟩ (by omega))
   ·simp [fS]
   ·rw [List.take_succ_eq_append_getElem hic] at hc
    rcases List.mem_append.1 hc with hc | hc
    ·exact hall c hc
    ·rw [List.mem_singleton] at hc
     rw [hc]
     exact hgood
 ·have hi:x1=r:=by have:=d_f hc1;omega
  rw [hi,List.take_of_length_le (by omega)] at hall
  have hp1:=sProd_calls fs cs 1 r (.inl rfl) hr v hv8 hl hcl hf hv hall
  have hp2:=sProd_calls fs cs (-1) r (.inr rfl) hr v hv8 hl hcl hf hv hall
  have hs1:=prodF_small 1 fs cs hv8
  have hs2:=prodF_small (-1) fs cs hv8
  have hm:exF fs cs v old=if (prodF 1 fs cs v).2=true/\(prodF (-1) fs cs v).2=true then (if (addF (prodF 1 fs cs v).1 1 (prodF (-1) fs cs v).1).2=true then divF (addF (prodF 1 fs cs v).1 1 (prodF (-1) fs cs v).1).1 old else (zeroF,false)) else (zeroF,false):=by
   unfold exF prodF
   rw [if_pos hall]
   cases prodE 1 fs cs (oneF v) with
   | none=>simp [optF]
   | some a=>
    cases prodE (-1) fs cs (oneF v) with
    | none=>simp [optF]
    | some b=>
     rw [if_pos (show (optF (some a)).2=true/\(optF (some b)).2=true from ⟨rfl,rfl⟩)]
     by_cases q:(addF a 1 b).2=true
     ·exact (if_pos q).trans (if_pos q).symm
     ·exact (if_neg q).trans (if_neg q).symm
  obtain ⟨P1,hP1⟩:∃ P,P=prodF 1 fs cs v:=⟨_,rfl⟩
  obtain ⟨P2,hP2⟩:∃ P,P=prodF (-1) fs cs v:=⟨_,rfl⟩
  rw [← hP1] at hp1 hs1 hm
  rw [← hP2] at hp2 hs2 hm
  have hadd:=sAdd_calls P1.1 1 P2.1 hs1.sm'.1 hs1.sm'.2 hs2.sm'.1 hs2.sm'.2
  have hadds:=addF_small' P1.1 1 P2.1
  obtain ⟨A,hA⟩:∃ A,A=addF P1.1 1 P2.1:=⟨_,rfl⟩
  rw [← hA] at hm hadd hadds
  have hdiv:=sDiv_calls A.1 old hadds.sm'.1 hadds.sm'.2 ho.1 ho.2
  refine wexit ?_
  show AWp _ _ _ _ _
  refine wseq ?_
  refine wregI ([0,1,2] ++ ([3,4,5,6,7,8])) rfl fun K hK=>?_
  refine opsI_seg fun L hL=>?_
  simp [C.spec_l3Exchange,fO,fS]
  refine wcall1 (hp1) (by simp) (by simp) ?_
  simp [C.spec_l3Exchange,fO,fS]
  refine hL _ ?_;clear hL L
  refine opsI_end fun L hL=>?_
  simp [C.spec_l3Exchange,fO,fS]
  refine hL _ ?_;clear hL L
  simp [C.spec_l3Exchange,fO,fS]
  refine hK _ ?_;clear hK K
  show AWp _ _ _ _ _
  refine wseq ?_
  refine wregI ([0,1,2] ++ ([3,4,5,6,7,8])) rfl fun K hK=>?_
  refine opsI_seg fun L hL=>?_
  simp [C.spec_l3Exchange,fO,fS]
  refine wcall1 (hp2) (by simp) (by simp) ?_
  simp [C.spec_l3Exchange,fO,fS]
  refine hL _ ?_;clear hL L
  refine opsI_end fun L hL=>?_
  simp [C.spec_l3Exchange,fO,fS]
  refine hL _ ?_;clear hL L
  simp [C.spec_l3Exchange,fO,fS]
  refine hK _ ?_;clear hK K
  show AWp _ _ _ _ _
  refine wseq ?_
  refine wseq ?_
  refine wreg fun K hK=>?_
  have hJ:K ⟨ofL [(5,.pt (5,0) [] 0),(6,.pt (6,0) [] 0),(9,.pt (9,0) [] 0),(11,.pt (11,0) [] 0),(45,.bool (!(P1.2 && P2.2)))],ofRO [((5,0),some (.bx (fS old))),((6,0),some (.bx [D.int 0,.v (.slice none 0 0)])),((9,0),some (.bx (fO P1.1))),((11,0),some (.bx (fO P2.1)))]⟩:=by
   refine hK _ ?_;clear hK K
   show AWp _ _ _ _ _
   refine wcond _ rfl (fun hc3=>?_) (fun hc3=>?_)
   ·have hno:¬ (P1.2=true/\P2.2=true):=by
     rintro ⟨q1,q2⟩
     rw [q1,q2] at hc3
     simp at hc3
    rw [if_neg hno] at hm
    refine wseq ?_
    refine wreg fun K hK=>?_
    simp [C.spec_l3Exchange,fO,fS]
    refine hK _ ?_;clear hK K
    show AWp _ _ _ _ _
    refine wret ?_
    simp [C.spec_l3Exchange,fO,fS,hm,zeroF,rows]
   ·have hyes:P1.2=true/\P2.2=true:=by simpa using hc3
    rw [if_pos hyes] at hm
    refine wskip ?_
    show AWp _ _ _ _ _
    refine wseq ?_
    refine wregI ([0,1,2] ++ ([3,4,5,6,7,8])) rfl fun K hK=>?_
    refine opsI_seg fun L hL=>?_
    simp [C.spec_l3Exchange,fO,fS]
    refine wcall1 (hadd) (by simp) (by simp) ?_
    simp [C.spec_l3Exchange,fO,fS]
    refine hL _ ?_;clear hL L
    refine opsI_end fun L hL=>?_
    simp [C.spec_l3Exchange,fO,fS]
    refine hL _ ?_;clear hL L
    simp [C.spec_l3Exchange,fO,fS]
    refine hK _ ?_;clear hK K
    show AWp _ _ _ _ _
    refine wseq ?_
    refine wseq ?_
    refine wreg fun K hK=>?_
    simp [C.spec_l3Exchange,fO,fS]
    refine hK _ ?_;clear hK K
    show AWp _ _ _ _ _
    refine wcond _ rfl (fun hc4=>?_) (fun hc4=>?_)
    ·have hno:¬ A.2=true:=by simpa using hc4
     rw [if_neg hno] at hm
     refine wseq ?_
     refine wreg fun K hK=>?_
     simp [C.spec_l3Exchange,fO,fS]
     refine hK _ ?_;clear hK K
     show AWp _ _ _ _ _
     refine wret ?_
     simp [C.spec_l3Exchange,fO,fS,hm,zeroF,rows]
    ·have hyesA:A.2=true:=by simpa using hc4
     rw [if_pos hyesA] at hm
     refine wskip ?_
     show AWp _ _ _ _ _
     refine wseq ?_
     refine wregI ([0,1,2] ++ ([3,4,5,6])) rfl fun K hK=>?_
     refine opsI_seg fun L hL=>?_
     simp [C.spec_l3Exchange,fO,fS]
     refine wcall1 (hdiv) (by simp) (by simp) ?_
     simp [C.spec_l3Exchange,fO,fS]
     refine hL _ ?_;clear hL L
     refine opsI_end fun L hL=>?_
     simp [C.spec_l3Exchange,fO,fS]
     refine hL _ ?_;clear hL L
     simp [C.spec_l3Exchange,fO,fS]
     refine hK _ ?_;clear hK K
     show AWp _ _ _ _ _
     refine wret ?_
     simp [C.spec_l3Exchange,fO,fS,hm]
  clear hK
  by_cases h1:P1.2=true
  ·simp [C.spec_l3Exchange,fO,fS,h1]
   refine cast (congrArg K ?_) hJ
   simp [fO,fS,fO,fS,h1]
  ·simp [C.spec_l3Exchange,fO,fS,h1]
   refine cast (congrArg K ?_) hJ
   simp [fO,fS,fO,fS,h1]
theorem sEx_calls (fs:List Lau) (cs:List Int) (old:Lau) (r:Nat) (hr:1<=r/\r<=8) (v:Nat) (hv8:1<=v/\v<=8) (hl:fs.length=r) (hcl:cs.length=r) (hf:∀ f∈fs,SmF f) (hv:∀ f∈fs,f.v=v) (ho:SmF old):ACalls Tryz.prog F.spec_l3Exchange [.d (.sh 2 fs.length (rows fS fs)),.d (.sh 1 r (ints cs)),aF old] [] true (fun outs res=>outs=[]/\res=[.ag (fO (exF fs cs v old).1),.one (D.bool (exF fs cs v old).2)]):=(spec_l3Exchange_calls fs cs old r hr v hv8 hl hcl hf hv ho).weak1
end Go.Proofs.YtbhkonnakkhibaaGreat.Ab
namespace Go.Proofs.YtbhkonnakkhibaaGreat.Ab
open Go
set_option maxRecDepth 10000
set_option maxHeartbeats 2000000
theorem wkR_some {m:Mat} {ks:List Int} (h:(wkR m ks).2=true):∃ ws,wkF m ks=some ws/\wkR m ks=(ws,true):=by
 unfold wkR at h ⊢
 split at h
 ·rename_i l hl
  exact ⟨l,hl,rfl⟩
 ·simp at h
theorem wkR_none {m:Mat} {ks:List Int} (h:(wkR m ks).2=false):wkF m ks=none:=by
 unfold wkR at h
 split at h
 ·simp at h
 ·assumption
theorem fpv_sm {n:Nat} {f:Lau} (h:FpV n f):SmF f:=(small_right h.1).sm'
theorem rows_take2 (l:List Lau) (n:Nat):(rows fO l).take (2*n)=rows fO (l.take n):=by
 induction l generalizing n with
 | nil=>simp [rows]
 | cons x l ih=>
  cases n with
  | zero=>simp [rows]
  | succ n=>
   rw [show 2*(n+1)=2*n+2 by omega]
   simp only [rows,List.take_succ_cons,fO,List.cons_append,List.nil_append]
   rw [ih]
def fpI (n i:Nat):List Lau:=List.replicate i (oneF n)
noncomputable def fpJ (n i:Nat):List Lau:=List.replicate n (oneF n) ++ (List.range i).map fun j=>monoF (unitL n j)
theorem fpI_succ (n i:Nat):fpI n i ++ [oneF n]=fpI n (i+1):=by simp [fpI,List.replicate_succ']
theorem fpJ_succ (n i:Nat):fpJ n i ++ [monoF (unitL n i)]=fpJ n (i+1):=by simp [fpJ,List.range_succ]
theorem fpJ_zero (n:Nat):fpJ n 0=fpI n n:=by simp [fpJ,fpI]
@[simp] theorem fpI_length (n i:Nat):(fpI n i).length=i:=by simp [fpI]
@[simp] theorem fpJ_length (n i:Nat):(fpJ n i).length=n+i:=by simp [fpJ]
theorem fpL_step {m:Mat} {n:Nat} (hn:m.n=n) {ws:List Mat} {ks:List Int} {t:Nat} {fs:List Lau} (h:fpL m ws ks t=some fs) (ht:t < ks.length) (hw:t < ws.length) {k:Nat} (hk:ks[t]=k) (hkf:k < fs.length) :
  fpL m ws ks (t+1)=if (exF fs (colM ws[t] (2*n) k) n (fs.getD k zeroF)).2=true then some (fs.set k (exF fs (colM ws[t] (2*n) k) n (fs.getD k zeroF)).1) else none:=by
 have en:m.n.toNat=n:=by omega
 simp only [fpL,h,en]
 rw [show ws.getD t zM=ws[t] by simp [List.getD_eq_getElem?_getD,hw],show ks.getD t 0=ks[t] by simp [List.getD_eq_getElem?_getD,ht],hk,Int.toNat_natCast]
theorem impl_FPolynomialsOf_calls (m:Mat) (ks:List Int) (hx:m.d.length < 17592186044416) (hks:ks.length < 4611686018427387904):ACalls Tryz.prog F.impl_FPolynomialsOf [aM m,.d (shI ks)] [] true (fun outs res=>outs=[]/\WkRs res [.one (.ow 2 (fpF m ks).1.length (rows fO (fpF m ks).1)),.one (D.bool (fpF m ks).2)]):=by
 have hwk:=iWk_calls m ks hx hks
 have hsome:=@wkR_some m ks
 have hnone:=@wkR_none m ks
 generalize wkR m ks=W at hwk hsome hnone
 refine ACalls.of_body (C:=C.impl_FPolynomialsOf) (n:=Tryz.f13.ntmps) tabT folT Tryz.func13 rfl (by kernel_rfl) rfl (Nat.le_of_ble_eq_true rfl) (by decide) (by kernel_rfl) (by kernel_rfl) rfl (by simp) (by simp) ?_
 simp only [Tryz.f13]
 refine wseq ?_
 refine wreg fun K hK=>?_
 simp [C.impl_FPolynomialsOf]
 refine hK _ ?_;clear hK K
 show AWp _ _ _ _ _
 refine wseq ?_
 refine wregI ([0,1,2] ++ ([3,4,5,6,7])) rfl fun K hK=>?_
 refine opsI_seg fun L hL=>?_
 simp [C.impl_FPolynomialsOf]
 refine wcall (hwk) (by simp) (by simp) (by simp) ?_
 rintro outs res ⟨rfl,rfl⟩
 simp [C.impl_FPolynomialsOf]
 refine hL _ ?_;clear hL L
 refine opsI_end fun L hL=>?_
 simp [C.impl_FPolynomialsOf]
 refine hL _ ?_;clear hL L
 simp [C.impl_FPolynomialsOf]
 refine hK _ ?_;clear hK K
 show AWp _ _ _ _ _
 refine wseq ?_
 refine wseq ?_
 refine wreg fun K hK=>?_
 simp [C.impl_FPolynomialsOf]
 refine hK _ ?_;clear hK K
 show AWp _ _ _ _ _
 refine wcond _ rfl (fun hc1=>?_) (fun hc1=>?_)
 ·have hb:W.2=false:=by simpa using hc1
  have hm:fpF m ks=([],false):=by unfold fpF;rw [hnone hb]
  refine wseq ?_
  refine wreg fun K hK=>?_
  simp [C.impl_FPolynomialsOf]
  refine hK _ ?_;clear hK K
  show AWp _ _ _ _ _
  refine wret ?_
  simp [C.impl_FPolynomialsOf,hm,rows]
 ·have hb:W.2=true:=by simpa using hc1
  obtain ⟨ws,hws,hW⟩:=hsome hb
  rw [hW]
  dsimp only
  obtain ⟨hsq,hk40,hwl,hwm,hkb⟩:=wkF_ok hws
  obtain ⟨n,hn,hrr,hn4,hL⟩:=hsq.dim
  have en:m.n.toNat=n:=by omega
  have hm0:fpF m ks=match fpL m ws ks ks.length with | some fs=>(fs.take n,true) | none=>([],false):=by
   unfold fpF
   rw [hws]
   dsimp only
   rw [en]
   cases fpL m ws ks ks.length <;> rfl
  refine wskip ?_
  show AWp _ _ _ _ _
  refine wseq ?_
  refine wreg fun K hK=>?_
  simp [C.impl_FPolynomialsOf,hn]
  refine hK _ ?_;clear hK K
  show AWp _ _ _ _ _
  refine wseq ?_
  refine wreg fun K hK=>?_
  simp [C.impl_FPolynomialsOf]
  refine hK _ ?_;clear hK K
  show AWp _ _ _ _ _
  refine wseq ?_
  refine wseq ?_
  refine wreg fun K hK=>?_
  simp [C.impl_FPolynomialsOf]
  refine hK _ ?_;clear hK K
  show AWp _ _ _ _ _
  refine wblock ?_
  refine wloopW (fun i:Nat=>⟨ofL [(1,.d (shI ks)),(6,.al (6,0) [] 0 ws.length),(8,.int n),(9,.al (9,0) [] 0 i),(10,.int i)],ofRO [((6,0),some (.ow 3 ws.length (rows mS ws))),((9,0),some (.ow 2 i (rows fO (fpI n i))))]⟩) (fun i=>i<=n) (fun i=>n - i) 0 [.tmp 9 2] (by simp [C.impl_FPolynomialsOf,rows,fpI];(first | (constructor <;> funext t) | funext t) <;> simp only [ofL,ofRO] <;> (repeat' (first | rfl | split)) <;> (first | (simp_all;done) | (simp_all <;> (first | omega | (intro e;exact absurd e.symm (by assumption)) | (subst_vars;simp))))) (by simp) ?_
  intro x1 hx1 R1 hR1
  refine wseq ?_
  refine wseq ?_
  refine wreg fun K hK=>?_
  simp [C.impl_FPolynomialsOf]
  refine hK _ ?_;clear hK K
  show AWp _ _ _ _ _
  refine wcond _ rfl (fun hc2=>?_) (fun hc2=>?_)
  ·have hi:x1 < n:=by have:=d_t hc2;omega
   refine wskip ?_
   show AWp _ _ _ _ _
   refine wseq ?_
   refine wblock ?_
   refine wregI ([0,1,2] ++ ([3,4,5])) rfl fun K hK=>?_
   refine opsI_seg fun L hL=>?_
   simp [C.impl_FPolynomialsOf,fO,fO_snoc,fpI_succ,show (x1+1)*32<=140737488355328 by omega]
   refine wcall1 (impl_ConstantLaurent_calls n (by omega)) (by simp) (by simp) ?_
   simp [C.impl_FPolynomialsOf,fO,fO_snoc,fpI_succ,show (x1+1)*32<=140737488355328 by omega]
   refine hL _ ?_;clear hL L
   refine opsI_end fun L hL=>?_
   simp [C.impl_FPolynomialsOf,fO,fO_snoc,fpI_succ,show (x1+1)*32<=140737488355328 by omega]
   refine hL _ ?_;clear hL L
   simp [C.impl_FPolynomialsOf,fO,fO_snoc,fpI_succ,show (x1+1)*32<=140737488355328 by omega]
   refine hK _ ?_;clear hK K
   show AWp _ _ _ _ _
   refine wreg fun K hK=>?_
   simp [C.impl_FPolynomialsOf,wrap_succ (show x1 < 4611686018427387904 by omega)]
   refine hK _ ?_;clear hK K
   simp [C.impl_FPolynomialsOf]
   exact hR1 (x1+1) hi (by omega)
  ·have hi:x1=n:=by have:=d_f hc2;omega
   rw [hi]
   refine wexit ?_
   show AWp _ _ _ _ _
   refine wseq ?_
   refine wseq ?_
   refine wreg fun K hK=>?_
   simp [C.impl_FPolynomialsOf]
   refine hK _ ?_;clear hK K
   show AWp _ _ _ _ _
   refine wblock ?_
   refine wloop (fun i:Nat=>⟨ofL [(1,.d (shI ks)),(6,.al (6,0) [] 0 ws.length),(8,.int n),(9,.al (9,0) [] 0 (n+i)),(11,.int i)],ofRO [((6,0),some (.ow 3 ws.length (rows mS ws))),((9,0),some (.ow 2 (n+i) (rows fO (fpJ n i))))]⟩) (fun i=>i<=n) (fun i=>n - i) 0 (by simp [C.impl_FPolynomialsOf,fpJ_zero]) (by simp) ?_
   intro x2 hx2 R2 hR2
   refine wseq ?_
   refine wseq ?_
   refine wreg fun K hK=>?_
   simp [C.impl_FPolynomialsOf]
   refine hK _ ?_;clear hK K
   show AWp _ _ _ _ _
   refine wcond _ rfl (fun hc3=>?_) (fun hc3=>?_)
   ·have hj:x2 < n:=by have:=d_t hc3;omega
    refine wskip ?_
    show AWp _ _ _ _ _
    refine wseq ?_
    refine wblock ?_
    refine wregI ([0,1,2,3] ++ ([4] ++ ([5,6,7]))) rfl fun K hK=>?_
    refine opsI_seg fun L hL=>?_
    simp [C.impl_FPolynomialsOf,fO,fO_snoc,fpJ_succ,show (n+x2+1)*32<=140737488355328 by omega]
    refine wcall1 (impl_unit_calls n x2 (by omega) hj) (by simp) (by simp) ?_
    simp [C.impl_FPolynomialsOf,fO,fO_snoc,fpJ_succ,show (n+x2+1)*32<=140737488355328 by omega]
    refine hL _ ?_;clear hL L
    refine opsI_seg fun L hL=>?_
    simp [C.impl_FPolynomialsOf,fO,fO_snoc,fpJ_succ,show (n+x2+1)*32<=140737488355328 by omega]
    refine wcall1 (iMono_calls (unitL n x2) (by rw [unitL_length];omega)) (by simp) (by simp) ?_
    simp [C.impl_FPolynomialsOf,fO,fO_snoc,fpJ_succ,show (n+x2+1)*32<=140737488355328 by omega]
    refine hL _ ?_;clear hL L
    refine opsI_end fun L hL=>?_
    simp [C.impl_FPolynomialsOf,fO,fO_snoc,fpJ_succ,show (n+x2+1)*32<=140737488355328 by omega]
    refine hL _ ?_;clear hL L
    simp [C.impl_FPolynomialsOf,fO,fO_snoc,fpJ_succ,show (n+x2+1)*32<=140737488355328 by omega]
    refine hK _ ?_;clear hK K
    show AWp _ _ _ _ _
    refine wreg fun K hK=>?_
    simp [C.impl_FPolynomialsOf,wrap_succ (show x2 < 4611686018427387904 by omega)]
    refine hK _ ?_;clear hK K
    simp [C.impl_FPolynomialsOf]
    refine cast (congrArg R2 ?_) (hR2 (x2+1) hj (by omega))
    simp [Nat.add_assoc]
   ·have hj:x2=n:=by have:=d_f hc3;omega
    rw [hj]
    refine wexit ?_
    show AWp _ _ _ _ _
    refine wseq ?_
    refine wseq ?_
    refine wreg fun K hK=>?_
    simp [C.impl_FPolynomialsOf]
    refine hK _ ?_;clear hK K
    show AWp _ _ _ _ _
    refine wblock ?_
    refine wloop (fun x:Nat×List Lau=>⟨ofL [(6,.al (6,0) [] 0 ws.length),(8,.int n),(9,.al (9,0) [] 0 (n+n)),(48,.d (shI ks)),(49,.int ks.length),(50,.int x.1)],ofRO [((6,0),some (.ow 3 ws.length (rows mS ws))),((9,0),some (.ow 2 (n+n) (rows fO x.2)))]⟩) (fun x=>x.1<=ks.length/\fpL m ws ks x.1=some x.2) (fun x=>ks.length - x.1) (0,fpJ n n) (by simp [C.impl_FPolynomialsOf]) ⟨by simp,by simp [fpL,en,fpJ,varsL]⟩ ?_
    intro x3 hx3 R3 hR3
    obtain ⟨t,fs⟩:=x3
    obtain ⟨ht0,hfp⟩:=hx3
    dsimp only at ht0 hfp ⊢
    obtain ⟨f1,f2⟩:=fpL_ok hn (show 1<=n/\n<=8 by omega) hfp
    refine wseq ?_
    refine wreg fun K hK=>?_
    simp [C.impl_FPolynomialsOf]
    refine hK _ ?_;clear hK K
    show AWp _ _ _ _ _
    refine wseq ?_
    refine wcond _ rfl (fun hc4=>?_) (fun hc4=>?_)
    ·have ht:t < ks.length:=by have:=d_t hc4;omega
     have htw:t < ws.length:=by omega
     have hkt:=hkb t ht
     rw [show ks.getD t 0=ks[t] by simp [List.getD_eq_getElem?_getD,ht]] at hkt
     obtain ⟨k,hk⟩:∃ k:Nat,ks[t]=k:=⟨ks[t].toNat,by omega⟩
     have hkn:k < n:=by omega
     have hwt:=hwm _ (List.getElem_mem htw)
     have hstep:=fpL_step hn hfp ht htw hk (by omega)
     have hex:=iEx_calls ws[t] n (2*n) k fs n (by omega) (by rw [hwt.2.1,hn]) (by rw [hwt.2.2,hn];simp) hwt.1.1 hkn f1 (fun f hf=>fpv_sm (f2 f hf)) (fun f hf=>(f2 f hf).2)
     obtain ⟨E,hE⟩:∃ E,E=exF fs (colM ws[t] (2*n) k) n (fs.getD k zeroF):=⟨_,rfl⟩
     rw [← hE] at hex hstep
     rw [f1] at hex
     have e2n:n+n=2*n:=by omega
     have hwn:ws[t].n=n:=by rw [hwt.2.1,hn]
     have hwr:ws[t].r=((2*n:Nat):Int):=by rw [hwt.2.2,hn];simp
     rw [e2n]
     refine wskip ?_
     show AWp _ _ _ _ _
     refine wseq ?_
     refine wblock ?_
     refine wseq ?_
     refine wreg fun K hK=>?_
     simp [C.impl_FPolynomialsOf,get_ints,ht,hk,show (t:Int) < ks.length by omega]
     refine hK _ ?_;clear hK K
     show AWp _ _ _ _ _
     refine wseq ?_
     refine wregI ([0,1,2,3,4,5,6] ++ ([7,8,9,10,11,12])) rfl fun K hK=>?_
     refine opsI_seg fun L hL=>?_
     simp [C.impl_FPolynomialsOf,mS_0 htw,mS_1 htw,mS_2 htw,htw,hwn,hwr,show (t:Int) < ws.length by omega,fO]
     refine wcall1 (hex) (by simp) (by simp) ?_
     simp [C.impl_FPolynomialsOf,mS_0 htw,mS_1 htw,mS_2 htw,htw,hwn,hwr,show (t:Int) < ws.length by omega,fO]
     refine hL _ ?_;clear hL L
     refine opsI_end fun L hL=>?_
     simp [C.impl_FPolynomialsOf,mS_0 htw,mS_1 htw,mS_2 htw,htw,hwn,hwr,show (t:Int) < ws.length by omega,fO]
     refine hL _ ?_;clear hL L
     simp [C.impl_FPolynomialsOf,mS_0 htw,mS_1 htw,mS_2 htw,htw,hwn,hwr,show (t:Int) < ws.length by omega,fO]
     refine hK _ ?_;clear hK K
     show AWp _ _ _ _ _
     refine wseq ?_
     refine wseq ?_
     refine wreg fun K hK=>?_
     simp [C.impl_FPolynomialsOf]
     refine hK _ ?_;clear hK K
     show AWp _ _ _ _ _
     refine wcond _ rfl (fun hc5=>?_) (fun hc5=>?_)
     ·have hb:E.2=false:=by simpa using hc5
      have hn0:fpL m ws ks (t+1)=none:=by rw [hstep,hb];rfl
      have hm:fpF m ks=([],false):=by rw [hm0,fpL_none hn0 (by omega)]
      refine wseq ?_
      refine wreg fun K hK=>?_
      simp [C.impl_FPolynomialsOf]
      refine hK _ ?_;clear hK K
      show AWp _ _ _ _ _
      refine wret ?_
      simp [C.impl_FPolynomialsOf,hm,rows]
     ·have hb:E.2=true:=by simpa using hc5
      rw [if_pos hb] at hstep
      refine wskip ?_
      show AWp _ _ _ _ _
      refine wreg fun K hK=>?_
      simp [C.impl_FPolynomialsOf,f1,show (k:Int) < 2*n by omega,show k < 2*n by omega,fO_0 (show k < fs.length by omega),fO_1 (show k < fs.length by omega),fO_set2,show k < fs.length by omega,fO]
      refine hK _ ?_;clear hK K
      show AWp _ _ _ _ _
      refine wreg fun K hK=>?_
      simp [C.impl_FPolynomialsOf,wrap_succ (show t < 4611686018427387904 by omega)]
      refine hK _ ?_;clear hK K
      simp [C.impl_FPolynomialsOf]
      refine cast (congrArg R3 ?_) (hR3 (t+1,fs.set k E.1) ⟨ht,hstep⟩ (by dsimp only;omega))
      simp [e2n]
    ·have ht:t=ks.length:=by have:=d_f hc4;omega
     have hm:fpF m ks=(fs.take n,true):=by rw [hm0,← ht,hfp]
     have htl:(fs.take n).length=n:=by simp;omega
     refine wexit ?_
     show AWp _ _ _ _ _
     refine wseq ?_
     refine wreg fun K hK=>?_
     simp [C.impl_FPolynomialsOf,show (n:Int)<=n+n by omega,rows_take2]
     refine hK _ ?_;clear hK K
     show AWp _ _ _ _ _
     refine wret ?_
     simp [C.impl_FPolynomialsOf,hm,htl,rows_take2]
theorem iFp_calls (m:Mat) (ks:List Int) (hx:m.d.length < 17592186044416) (hks:ks.length < 4611686018427387904):ACalls Tryz.prog F.impl_FPolynomialsOf [aM m,.d (shI ks)] [] true (fun outs res=>outs=[]/\res=[.one (.ow 2 (fpF m ks).1.length (rows fO (fpF m ks).1)),.one (D.bool (fpF m ks).2)]):=(impl_FPolynomialsOf_calls m ks hx hks).weak1
end Go.Proofs.YtbhkonnakkhibaaGreat.Ab
namespace Go.Proofs.YtbhkonnakkhibaaGreat.Ab
open Go
set_option maxRecDepth 10000
set_option maxHeartbeats 2000000
end Go.Proofs.YtbhkonnakkhibaaGreat.Ab
namespace Go.Proofs.YtbhkonnakkhibaaGreat.Ab
open Go
set_option maxRecDepth 10000
set_option maxHeartbeats 2000000
def fZ:Option Lau->List D
 | none=>[D.int 0,.v (.slice none 0 0)]
 | some f=>fO f
theorem fZ_two (t:Option Lau):(fZ t).length=2:=by cases t <;> rfl
@[simp] theorem fZ_length (l:List (Option Lau)):(rows fZ l).length=2*l.length:=rows_length fZ_two l
theorem laws_szMatrix_calls (m:Mat) (left:Int) (h0:0<=left) (h1:left<=1048576) (hx:m.d.length < 4611686018427387904):ACalls Tryz.prog F.laws_szMatrix [aM m,.int left] [] true (fun outs res=>outs=[]/\∃ r:Int,res=[.one (D.int r)]/\(r=-1\/(0<=r/\r+m.d.length=left))):=by
 refine ACalls.of_body (C:=C.laws_szMatrix) (n:=Tryz.f9.ntmps) tabT folT Tryz.func9 rfl (by kernel_rfl) rfl (Nat.le_of_ble_eq_true rfl) (by decide) (by kernel_rfl) (by kernel_rfl) rfl (by simp) (by simp) ?_
 simp only [Tryz.f9]
 refine wseq ?_
 refine wreg fun K hK=>?_
 simp [C.laws_szMatrix]
 refine hK _ ?_;clear hK K
 show AWp _ _ _ _ _
 refine wseq ?_
 refine wregI ([0,1,2,3] ++ ([4])) rfl fun K hK=>?_
 refine opsI_seg fun L hL=>?_
 simp [C.laws_szMatrix]
 refine wcall (laws_szIntS_calls m.d left h0 h1 hx) (by simp) (by simp) (by simp) ?_
 rintro outs res ⟨rfl,r,rfl,hr⟩
 simp [C.laws_szMatrix]
 refine hL _ ?_;clear hL L
 refine opsI_end fun L hL=>?_
 simp [C.laws_szMatrix]
 refine hL _ ?_;clear hL L
 simp [C.laws_szMatrix]
 refine hK _ ?_;clear hK K
 show AWp _ _ _ _ _
 refine wseq ?_
 refine wseq ?_
 refine wreg fun K hK=>?_
 simp [C.laws_szMatrix]
 refine hK _ ?_;clear hK K
 show AWp _ _ _ _ _
 refine wcond _ rfl (fun hc1=>?_) (fun hc1=>?_)
 ·refine wseq ?_
  refine wreg fun K hK=>?_
  simp [C.laws_szMatrix]
  refine hK _ ?_;clear hK K
  show AWp _ _ _ _ _
  refine wret ?_
  simp [C.laws_szMatrix]
 ·refine wskip ?_
  show AWp _ _ _ _ _
  refine wseq ?_
  refine wreg fun K hK=>?_
  simp [C.laws_szMatrix]
  refine hK _ ?_;clear hK K
  show AWp _ _ _ _ _
  refine wret ?_
  simp at hc1
  simp [C.laws_szMatrix]
  omega
theorem laws_toMatrix_calls (m:Mat) (hx:m.d.length<=1048576):ACalls Tryz.prog F.laws_toMatrix [aM m] [] true (fun outs res=>outs=[]/\res=[.ag (mO m)]):=by
 refine ACalls.of_body (C:=C.laws_toMatrix) (n:=Tryz.f11.ntmps) tabT folT Tryz.func11 rfl (by kernel_rfl) rfl (Nat.le_of_ble_eq_true rfl) (by decide) (by kernel_rfl) (by kernel_rfl) rfl (by simp) (by simp) ?_
 simp only [Tryz.f11]
 refine wseq ?_
 refine wreg fun K hK=>?_
 simp [C.laws_toMatrix]
 refine hK _ ?_;clear hK K
 show AWp _ _ _ _ _
 refine wseq ?_
 refine wreg fun K hK=>?_
 simp [C.laws_toMatrix]
 refine hK _ ?_;clear hK K
 show AWp _ _ _ _ _
 refine wseq ?_
 refine wreg fun K hK=>?_
 simp [C.laws_toMatrix]
 refine hK _ ?_;clear hK K
 show AWp _ _ _ _ _
 refine wseq ?_
 refine wreg fun K hK=>?_
 simp [C.laws_toMatrix]
 refine hK _ ?_;clear hK K
 show AWp _ _ _ _ _
 refine wseq ?_
 refine wregI ([0,1,2] ++ ([3,4])) rfl fun K hK=>?_
 refine opsI_seg fun L hL=>?_
 simp [C.laws_toMatrix]
 refine wcall1 (laws_toIntS_calls m.d hx) (by simp) (by simp) ?_
 simp [C.laws_toMatrix]
 refine hL _ ?_;clear hL L
 refine opsI_end fun L hL=>?_
 simp [C.laws_toMatrix]
 refine hL _ ?_;clear hL L
 simp [C.laws_toMatrix]
 refine hK _ ?_;clear hK K
 show AWp _ _ _ _ _
 refine wseq ?_
 refine wreg fun K hK=>?_
 simp [C.laws_toMatrix]
 refine hK _ ?_;clear hK K
 show AWp _ _ _ _ _
 refine wret ?_
 simp [C.laws_toMatrix,mO]
end Go.Proofs.YtbhkonnakkhibaaGreat.Ab
namespace Go.Proofs.YtbhkonnakkhibaaGreat.Ab
open Go
theorem listF_cnt':∀ {l:List Lau},(∀ f∈l,SmallF f)->cntL cntF l<=l.length*5401
 | [],_=>by simp [cntL]
 | f :: l,h=>by
  have h1:=h f (by simp)
  have h2:=listF_cnt' (l:=l) fun x hx=>h x (by simp [hx])
  have h3:=h1.2.2
  simp only [cntL,List.length_cons,cntF]
  omega
end Go.Proofs.YtbhkonnakkhibaaGreat.Ab
namespace Go.Proofs.YtbhkonnakkhibaaGreat.Ab
open Go
set_option maxRecDepth 10000
set_option maxHeartbeats 2000000
theorem fO_solid2:∀ l:List Lau,solidL (rows fO l)
 | []=>by simp [rows,solidL]
 | x :: l=>by
  have h:=fO_solid2 l
  simp only [rows,fO,List.cons_append,List.nil_append,solidL]
  exact ⟨rfl,rfl,h⟩
theorem spec_FPolynomialsOf_calls (m:Mat) (ks:List Int) (hx:m.d.length < 17592186044416) (hks:ks.length < 4611686018427387904):ACalls Tryz.prog F.spec_FPolynomialsOf [aM m,.d (shI ks)] [] true (fun outs res=>outs=[]/\WkRs res [.one (.ow 2 (fpF m ks).1.length (rows fO (fpF m ks).1)),.one (D.bool (fpF m ks).2)]):=by
 have hwk:=sWk_calls m ks hx hks
 have hsome:=@wkR_some m ks
 have hnone:=@wkR_none m ks
 generalize wkR m ks=W at hwk hsome hnone
 refine ACalls.of_body (C:=C.spec_FPolynomialsOf) (n:=Tryz.f10.ntmps) tabT folT Tryz.func10 rfl (by kernel_rfl) rfl (Nat.le_of_ble_eq_true rfl) (by decide) (by kernel_rfl) (by kernel_rfl) rfl (by simp) (by simp) ?_
 simp only [Tryz.f10]
 refine wseq ?_
 refine wreg fun K hK=>?_
 simp [C.spec_FPolynomialsOf]
 refine hK _ ?_;clear hK K
 show AWp _ _ _ _ _
 refine wseq ?_
 refine wregI ([0,1,2] ++ ([3,4,5,6,7])) rfl fun K hK=>?_
 refine opsI_seg fun L hL=>?_
 simp [C.spec_FPolynomialsOf]
 refine wcall1 (hwk) (by simp) (by simp) ?_
 simp [C.spec_FPolynomialsOf]
 refine hL _ ?_;clear hL L
 refine opsI_end fun L hL=>?_
 simp [C.spec_FPolynomialsOf]
 refine hL _ ?_;clear hL L
 simp [C.spec_FPolynomialsOf]
 refine hK _ ?_;clear hK K
 show AWp _ _ _ _ _
 refine wseq ?_
 refine wseq ?_
 refine wreg fun K hK=>?_
 simp [C.spec_FPolynomialsOf]
 refine hK _ ?_;clear hK K
 show AWp _ _ _ _ _
 refine wcond _ rfl (fun hc1=>?_) (fun hc1=>?_)
 ·have hb:W.2=false:=by simpa using hc1
  have hm:fpF m ks=([],false):=by unfold fpF;rw [hnone hb]
  refine wseq ?_
  refine wreg fun K hK=>?_
  simp [C.spec_FPolynomialsOf]
  refine hK _ ?_;clear hK K
  show AWp _ _ _ _ _
  refine wret ?_
  simp [C.spec_FPolynomialsOf,hm,rows]
 ·have hb:W.2=true:=by simpa using hc1
  obtain ⟨ws,hws,hW⟩:=hsome hb
  rw [hW]
  dsimp only
  obtain ⟨hsq,hk40,hwl,hwm,hkb⟩:=wkF_ok hws
  obtain ⟨n,hn,hrr,hn4,hL⟩:=hsq.dim
  have en:m.n.toNat=n:=by omega
  have hm0:fpF m ks=match fpL m ws ks ks.length with | some fs=>(fs.take n,true) | none=>([],false):=by
   unfold fpF
   rw [hws]
   dsimp only
   rw [en]
   cases fpL m ws ks ks.length <;> rfl
  refine wskip ?_
  show AWp _ _ _ _ _
  refine wseq ?_
  refine wreg fun K hK=>?_
  simp [C.spec_FPolynomialsOf]
  refine hK _ ?_;clear hK K
  show AWp _ _ _ _ _
  refine wseq ?_
  refine wseq ?_
  refine wreg fun K hK=>?_
  simp [C.spec_FPolynomialsOf]
  refine hK _ ?_;clear hK K
  show AWp _ _ _ _ _
  refine wblock ?_
  refine wloop (fun i:Nat=>⟨ofL [(1,.d (shI ks)),(2,.pt (2,0) [] 0),(6,.al (6,0) [] 0 ws.length),(8,.al (8,0) [] 0 i),(9,.int i)],ofRO [((2,0),some (.bx [D.int n,D.int m.r,shI m.d])),((6,0),some (.ow 3 ws.length (rows mO ws))),((8,0),some (.ow 2 i (rows fO (fpI n i))))]⟩) (fun i=>i<=n) (fun i=>n - i) 0 (by simp [C.spec_FPolynomialsOf,rows,fpI,hn]) (by simp) ?_
  intro x1 hx1 R1 hR1
  refine wseq ?_
  refine wseq ?_
  refine wreg fun K hK=>?_
  simp [C.spec_FPolynomialsOf]
  refine hK _ ?_;clear hK K
  show AWp _ _ _ _ _
  refine wcond _ rfl (fun hc2=>?_) (fun hc2=>?_)
  ·have hi:x1 < n:=by have:=d_t hc2;omega
   refine wskip ?_
   show AWp _ _ _ _ _
   refine wseq ?_
   refine wblock ?_
   refine wregI ([0,1,2,3] ++ ([4,5,6])) rfl fun K hK=>?_
   refine opsI_seg fun L hL=>?_
   simp [C.spec_FPolynomialsOf,fO,fO_snoc,fpI_succ,show (x1+1)*32<=140737488355328 by omega]
   refine wcall1 (spec_ConstantLaurent_calls n (by omega)) (by simp) (by simp) ?_
   simp [C.spec_FPolynomialsOf,fO,fO_snoc,fpI_succ,show (x1+1)*32<=140737488355328 by omega]
   refine hL _ ?_;clear hL L
   refine opsI_end fun L hL=>?_
   simp [C.spec_FPolynomialsOf,fO,fO_snoc,fpI_succ,show (x1+1)*32<=140737488355328 by omega]
   refine hL _ ?_;clear hL L
   simp [C.spec_FPolynomialsOf,fO,fO_snoc,fpI_succ,show (x1+1)*32<=140737488355328 by omega]
   refine hK _ ?_;clear hK K
   show AWp _ _ _ _ _
   refine wreg fun K hK=>?_
   simp [C.spec_FPolynomialsOf,wrap_succ (show x1 < 4611686018427387904 by omega)]
   refine hK _ ?_;clear hK K
   simp [C.spec_FPolynomialsOf]
   exact hR1 (x1+1) hi (by omega)
  ·have hi:x1=n:=by have:=d_f hc2;omega
   rw [hi]
   refine wexit ?_
   show AWp _ _ _ _ _
   refine wseq ?_
   refine wseq ?_
   refine wreg fun K hK=>?_
   simp [C.spec_FPolynomialsOf]
   refine hK _ ?_;clear hK K
   show AWp _ _ _ _ _
   refine wblock ?_
   refine wloop (fun i:Nat=>⟨ofL [(1,.d (shI ks)),(2,.pt (2,0) [] 0),(6,.al (6,0) [] 0 ws.length),(8,.al (8,0) [] 0 (n+i)),(10,.int i)],ofRO [((2,0),some (.bx [D.int n,D.int m.r,shI m.d])),((6,0),some (.ow 3 ws.length (rows mO ws))),((8,0),some (.ow 2 (n+i) (rows fO (fpJ n i))))]⟩) (fun i=>i<=n) (fun i=>n - i) 0 (by simp [C.spec_FPolynomialsOf,fpJ_zero]) (by simp) ?_
   intro x2 hx2 R2 hR2
   refine wseq ?_
   refine wseq ?_
   refine wreg fun K hK=>?_
   simp [C.spec_FPolynomialsOf]
   refine hK _ ?_;clear hK K
   show AWp _ _ _ _ _
   refine wcond _ rfl (fun hc3=>?_) (fun hc3=>?_)
   ·have hj:x2 < n:=by have:=d_t hc3;omega
    refine wskip ?_
    show AWp _ _ _ _ _
    refine wseq ?_
    refine wblock ?_
    refine wregI ([0,1,2,3,4] ++ ([5] ++ ([6,7,8]))) rfl fun K hK=>?_
    refine opsI_seg fun L hL=>?_
    simp [C.spec_FPolynomialsOf,fO,fO_snoc,fpJ_succ,show (n+x2+1)*32<=140737488355328 by omega]
    refine wcall1 (spec_l3Unit_calls n x2 (by omega) hj) (by simp) (by simp) ?_
    simp [C.spec_FPolynomialsOf,fO,fO_snoc,fpJ_succ,show (n+x2+1)*32<=140737488355328 by omega]
    refine hL _ ?_;clear hL L
    refine opsI_seg fun L hL=>?_
    simp [C.spec_FPolynomialsOf,fO,fO_snoc,fpJ_succ,show (n+x2+1)*32<=140737488355328 by omega]
    refine wcall1 (sMono_calls (unitL n x2) (by rw [unitL_length];omega)) (by simp) (by simp) ?_
    simp [C.spec_FPolynomialsOf,fO,fO_snoc,fpJ_succ,show (n+x2+1)*32<=140737488355328 by omega]
    refine hL _ ?_;clear hL L
    refine opsI_end fun L hL=>?_
    simp [C.spec_FPolynomialsOf,fO,fO_snoc,fpJ_succ,show (n+x2+1)*32<=140737488355328 by omega]
    refine hL _ ?_;clear hL L
    simp [C.spec_FPolynomialsOf,fO,fO_snoc,fpJ_succ,show (n+x2+1)*32<=140737488355328 by omega]
    refine hK _ ?_;clear hK K
    show AWp _ _ _ _ _
    refine wreg fun K hK=>?_
    simp [C.spec_FPolynomialsOf,wrap_succ (show x2 < 4611686018427387904 by omega)]
    refine hK _ ?_;clear hK K
    simp [C.spec_FPolynomialsOf]
    refine cast (congrArg R2 ?_) (hR2 (x2+1) hj (by omega))
    simp [Nat.add_assoc]
   ·have hj:x2=n:=by have:=d_f hc3;omega
    rw [hj]
    refine wexit ?_
    show AWp _ _ _ _ _
    refine wseq ?_
    refine wseq ?_
    refine wreg fun K hK=>?_
    simp [C.spec_FPolynomialsOf]
    refine hK _ ?_;clear hK K
    show AWp _ _ _ _ _
    refine wblock ?_
    refine wloop (fun x:Nat×List Lau=>⟨ofL [(1,.d (shI ks)),(2,.pt (2,0) [] 0),(6,.al (6,0) [] 0 ws.length),(8,.al (8,0) [] 0 (n+n)),(11,.int x.1)],ofRO [((2,0),some (.bx [D.int n,D.int m.r,shI m.d])),((6,0),some (.ow 3 ws.length (rows mO ws))),((8,0),some (.ow 2 (n+n) (rows fO x.2)))]⟩) (fun x=>x.1<=ks.length/\fpL m ws ks x.1=some x.2) (fun x=>ks.length - x.1) (0,fpJ n n) (by simp [C.spec_FPolynomialsOf]) ⟨by simp,by simp [fpL,en,fpJ,varsL]⟩ ?_
    intro x3 hx3 R3 hR3
    obtain ⟨t,fs⟩:=x3
    obtain ⟨ht0,hfp⟩:=hx3
    dsimp only at ht0 hfp ⊢
    obtain ⟨f1,f2⟩:=fpL_ok hn (show 1<=n/\n<=8 by omega) hfp
    refine wseq ?_
    refine wseq ?_
    refine wreg fun K hK=>?_
    simp [C.spec_FPolynomialsOf]
    refine hK _ ?_;clear hK K
    show AWp _ _ _ _ _
    refine wcond _ rfl (fun hc4=>?_) (fun hc4=>?_)
    ·have ht:t < ks.length:=by have:=d_t hc4;omega
     have htw:t < ws.length:=by omega
     have hkt:=hkb t ht
     rw [show ks.getD t 0=ks[t] by simp [List.getD_eq_getElem?_getD,ht]] at hkt
     obtain ⟨k,hk⟩:∃ k:Nat,ks[t]=k:=⟨ks[t].toNat,by omega⟩
     have hkn:k < n:=by omega
     have hkf:k < fs.length:=by omega
     have hwt:=hwm _ (List.getElem_mem htw)
     have hwn:ws[t].n=n:=by rw [hwt.2.1,hn]
     have hwr:ws[t].r=((2*n:Nat):Int):=by rw [hwt.2.2,hn];simp
     have hstep:=fpL_step hn hfp ht htw hk (by omega)
     have hgk:fs.getD k zeroF=fs[k]:=by simp [List.getD_eq_getElem?_getD,hkf]
     have hcol:=spec_l3Column_calls ws[t] n (2*n) k hwn hwr hwt.1.1 hkn
     have hex:=sEx_calls fs (colM ws[t] (2*n) k) fs[k] (2*n) (by omega) n (by omega) f1 (by simp) (fun f hf=>fpv_sm (f2 f hf)) (fun f hf=>(f2 f hf).2) (fpv_sm (f2 _ (List.getElem_mem hkf)))
     rw [hgk] at hstep
     obtain ⟨E,hE⟩:∃ E,E=exF fs (colM ws[t] (2*n) k) n fs[k]:=⟨_,rfl⟩
     rw [← hE] at hex hstep
     rw [f1] at hex
     have e2n:n+n=2*n:=by omega
     rw [e2n]
     refine wskip ?_
     show AWp _ _ _ _ _
     refine wseq ?_
     refine wblock ?_
     refine wseq ?_
     refine wdraw (.take 0 (.take 1 (.take 2 (.take 3 (.take 4 (.take 5 (.take 6 (.take 7 (.take 8 (.take 10 (.take 11 (.take 12 (.take 13 (.take 14 (.take 15 (.take 16 (.all [(9,.all [(17,.take 18 (.take 19 (.take 20 (.all [(21,.all [(22,.take 23 (.done))])])))),(21,.all [(17,.take 18 (.take 19 (.take 20 (.all [(22,.take 23 (.done))]))))])]),(21,.all [(9,.all [(17,.take 18 (.take 19 (.take 20 (.all [(22,.take 23 (.done))]))))])])]))))))))))))))))) ⟨by kernel_rfl,by kernel_rfl⟩ fun K hK=>?_
     have hJ:K ⟨ofL [(1,.d (shI ks)),(2,.pt (2,0) [] 0),(6,.al (6,0) [] 0 ws.length),(8,.al (8,0) [] 0 (2*n)),(11,.int t),(12,.pt (12,0) [] 0),(13,.bool E.2)],ofRO [((2,0),some (.bx [D.int n,D.int m.r,shI m.d])),((6,0),some (.ow 3 ws.length (rows mO ws))),((8,0),some (.ow 2 (2*n) (rows fO fs))),((12,0),some (.bx (fO E.1)))]⟩:=by
      refine hK _ ?_;clear hK K
      show AWp _ _ _ _ _
      refine wseq ?_
      refine wseq ?_
      refine wreg fun K hK=>?_
      simp [C.spec_FPolynomialsOf]
      refine hK _ ?_;clear hK K
      show AWp _ _ _ _ _
      refine wcond _ rfl (fun hc5=>?_) (fun hc5=>?_)
      ·have hb:E.2=false:=by simpa using hc5
       have hn0:fpL m ws ks (t+1)=none:=by rw [hstep,hb];rfl
       have hm:fpF m ks=([],false):=by rw [hm0,fpL_none hn0 (by omega)]
       refine wseq ?_
       refine wreg fun K hK=>?_
       simp [C.spec_FPolynomialsOf]
       refine hK _ ?_;clear hK K
       show AWp _ _ _ _ _
       refine wret ?_
       simp [C.spec_FPolynomialsOf,hm,rows]
      ·have hb:E.2=true:=by simpa using hc5
       rw [if_pos hb] at hstep
       refine wskip ?_
       show AWp _ _ _ _ _
       refine wdraw (.take 0 (.take 1 (.take 2 (.take 3 (.take 4 (.take 5 (.take 6 (.all [(7,.done)])))))))) ⟨by kernel_rfl,by kernel_rfl⟩ fun K hK=>?_
       simp [C.spec_FPolynomialsOf,f1,get_ints,ht,hk,show (t:Int) < ks.length by omega,show (k:Int) < 2*n by omega,show k < 2*n by omega,fO_0 hkf,fO_1 hkf,fO_set2,hkf,fO]
       refine hK _ ?_;clear hK K
       show AWp _ _ _ _ _
       refine wreg fun K hK=>?_
       simp [C.spec_FPolynomialsOf,wrap_succ (show t < 4611686018427387904 by omega)]
       refine hK _ ?_;clear hK K
       simp [C.spec_FPolynomialsOf]
       refine cast (congrArg R3 ?_) (hR3 (t+1,fs.set k E.1) ⟨ht,hstep⟩ (by dsimp only;omega))
       simp [e2n]
     clear hK
     simp [C.spec_FPolynomialsOf,get_ints,ht,hk,hkf,htw,hwn,hwr,hkn,mO_0 htw,mO_1 htw,mO_2 htw,fO_0 hkf,fO_1 hkf,show (t:Int) < ks.length by omega,show (t:Int) < ws.length by omega,show (k:Int) < 2*n by omega,show k < 2*n by omega]
     repeat' first
      | (refine wcall1 (hcol) ?_ (by simp) ?_;(focus (simp [mO_0 htw,mO_1 htw,mO_2 htw,hwn,hwr];done));simp [C.spec_FPolynomialsOf,fO,fO_0 hkf,fO_1 hkf])
      | (refine wcall1 (hex) ?_ (by simp) ?_;(focus (simp [fO_0 hkf,fO_1 hkf];done));simp [C.spec_FPolynomialsOf,fO])
      | (refine cast (congrArg K ?_) hJ;simp [fO];done)
      | refine And.intro ?_ ?_
    ·have ht:t=ks.length:=by have:=d_f hc4;omega
     have hm:fpF m ks=(fs.take n,true):=by rw [hm0,← ht,hfp]
     have htl:(fs.take n).length=n:=by simp;omega
     refine wexit ?_
     show AWp _ _ _ _ _
     refine wseq ?_
     refine wreg fun K hK=>?_
     simp [C.spec_FPolynomialsOf,show (n:Int)<=n+n by omega,rows_take2,show n*32<=140737488355328 by omega]
     have hboth:∀ {A B:Prop},B->solidL (rows fO (List.take n fs))->(A->B)/\(¬ A->solidL (rows fO (List.take n fs))/\B):=fun h1 h2=>⟨fun _=>h1,fun _=>⟨h2,h1⟩⟩
     refine hboth ?_ (fO_solid2 _)
     refine hK _ ?_;clear hK K
     show AWp _ _ _ _ _
     refine wret ?_
     simp [C.spec_FPolynomialsOf,hm,htl,rows_take2]
theorem sFp_calls (m:Mat) (ks:List Int) (hx:m.d.length < 17592186044416) (hks:ks.length < 4611686018427387904):ACalls Tryz.prog F.spec_FPolynomialsOf [aM m,.d (shI ks)] [] true (fun outs res=>outs=[]/\res=[.one (.ow 2 (fpF m ks).1.length (rows fO (fpF m ks).1)),.one (D.bool (fpF m ks).2)]):=(spec_FPolynomialsOf_calls m ks hx hks).weak1
theorem fpF_ok (m:Mat) (ks:List Int):(fpF m ks).1.length<=4/\∀ f∈(fpF m ks).1,SmallF f:=by
 unfold fpF
 split
 ·rename_i ws hws
  obtain ⟨n,hn,hrr,hn4,hL⟩:=(wkF_ok hws).1.dim
  split
  ·rename_i fs hfs
   obtain ⟨f1,f2⟩:=fpL_ok hn (show 1<=n/\n<=8 by omega) hfs
   refine ⟨by dsimp only;rw [List.length_take];omega,fun f hf=>small_right (f2 f (List.mem_of_mem_take hf)).1⟩
  ·simp
 ·simp
theorem laws_FnExactFPolynomialsOf_calls (m:Mat) (s2:m.d.length < 17592186044416) (ks:List Int) (k1:ks.length < 4611686018427387904):ACalls Tryz.prog F.laws_FnExactFPolynomialsOf [aM m,.d (shI ks)] [] true (fun outs res=>outs=[]/\res=[.one (D.bool true)]):=by
 have hgs:=fpF_ok m ks
 have hw:=sFp_calls m ks s2 k1
 have hg:=iFp_calls m ks s2 k1
 generalize fpF m ks=g at hgs hw hg
 obtain ⟨g,b⟩:=g
 have hg0:g.length < 4611686018427387904:=by have:=hgs.1;dsimp only at this;omega
 have hg1:∀ f∈g,SmF f:=fun f hf=>(hgs.2 f hf).sm'
 have hg2:cntL cntF g<=100000:=by
  have h1:=listF_cnt' hgs.2
  have h2:=hgs.1
  dsimp only at h1 h2
  omega
 dsimp only at hw hg
 refine ACalls.of_body (C:=C.laws_FnExactFPolynomialsOf) (n:=Tryz.f3.ntmps) tabT folT Tryz.func3 rfl (by kernel_rfl) rfl (Nat.le_of_ble_eq_true rfl) (by decide) (by kernel_rfl) (by kernel_rfl) rfl (by simp) (by simp) ?_
 simp only [Tryz.f3]
 refine wseq ?_
 refine wreg fun K hK=>?_
 simp [C.laws_FnExactFPolynomialsOf,mO,mS]
 refine hK _ ?_;clear hK K
 show AWp _ _ _ _ _
 refine wseq ?_
 refine wseq ?_
 refine wreg fun K hK=>?_
 simp [C.laws_FnExactFPolynomialsOf,mO,mS]
 refine hK _ ?_;clear hK K
 show AWp _ _ _ _ _
 refine wcond _ rfl (fun hc1=>?_) (fun hc1=>?_)
 ·refine wseq ?_
  refine wreg fun K hK=>?_
  simp [C.laws_FnExactFPolynomialsOf,mO,mS]
  refine hK _ ?_;clear hK K
  show AWp _ _ _ _ _
  refine wret ?_
  simp [C.laws_FnExactFPolynomialsOf,mO,mS]
 ·have kl:ks.length<=1048576:=by have:=d_f hc1;omega
  refine wskip ?_
  show AWp _ _ _ _ _
  refine wseq ?_
  refine wreg fun K hK=>?_
  simp [C.laws_FnExactFPolynomialsOf,mO,mS]
  refine hK _ ?_;clear hK K
  show AWp _ _ _ _ _
  refine wseq ?_
  refine wregI ([0,1,2] ++ ([3])) rfl fun K hK=>?_
  refine opsI_seg fun L hL=>?_
  simp [C.laws_FnExactFPolynomialsOf,mO,mS]
  refine wcall (laws_szMatrix_calls m 1048576 (by omega) (by omega) (by omega)) (by simp) (by simp) (by simp) ?_
  rintro outs res ⟨rfl,r1,rfl,hr1⟩
  simp [C.laws_FnExactFPolynomialsOf,mO,mS]
  refine hL _ ?_;clear hL L
  refine opsI_end fun L hL=>?_
  simp [C.laws_FnExactFPolynomialsOf,mO,mS]
  refine hL _ ?_;clear hL L
  simp [C.laws_FnExactFPolynomialsOf,mO,mS]
  refine hK _ ?_;clear hK K
  show AWp _ _ _ _ _
  refine wseq ?_
  refine wseq ?_
  refine wreg fun K hK=>?_
  simp [C.laws_FnExactFPolynomialsOf,mO,mS]
  refine hK _ ?_;clear hK K
  show AWp _ _ _ _ _
  refine wcond _ rfl (fun hc2=>?_) (fun hc2=>?_)
  ·refine wseq ?_
   refine wreg fun K hK=>?_
   simp [C.laws_FnExactFPolynomialsOf,mO,mS]
   refine hK _ ?_;clear hK K
   show AWp _ _ _ _ _
   refine wret ?_
   simp [C.laws_FnExactFPolynomialsOf,mO,mS]
  ·have q1:0<=r1:=by have:=d_f hc2;omega
   have ml:m.d.length<=1048576:=by omega
   have htm:=laws_toMatrix_calls m ml
   have hti:=laws_toIntS_calls ks kl
   refine wskip ?_
   show AWp _ _ _ _ _
   refine wseq ?_
   refine wregI ([0,1] ++ ([2,3] ++ ([4] ++ ([5,6,7,8,9])))) rfl fun K hK=>?_
   refine opsI_seg fun L hL=>?_
   simp [C.laws_FnExactFPolynomialsOf,mO,mS]
   refine wcall1 (htm) (by simp) (by simp) ?_
   simp [C.laws_FnExactFPolynomialsOf,mO,mS]
   refine hL _ ?_;clear hL L
   refine opsI_seg fun L hL=>?_
   simp [C.laws_FnExactFPolynomialsOf,mO,mS]
   refine wcall1 (hti) (by simp) (by simp) ?_
   simp [C.laws_FnExactFPolynomialsOf,mO,mS]
   refine hL _ ?_;clear hL L
   refine opsI_seg fun L hL=>?_
   simp [C.laws_FnExactFPolynomialsOf,mO,mS]
   refine wcall1 (hw) (by simp) (by simp) ?_
   simp [C.laws_FnExactFPolynomialsOf,mO,mS]
   refine hL _ ?_;clear hL L
   refine opsI_end fun L hL=>?_
   simp [C.laws_FnExactFPolynomialsOf,mO,mS]
   refine hL _ ?_;clear hL L
   simp [C.laws_FnExactFPolynomialsOf,mO,mS]
   refine hK _ ?_;clear hK K
   show AWp _ _ _ _ _
   refine wseq ?_
   refine wregI ([0,1] ++ ([2,3])) rfl fun K hK=>?_
   refine opsI_seg fun L hL=>?_
   simp [C.laws_FnExactFPolynomialsOf,mO,mS]
   refine wcall1 (htm) (by simp) (by simp) ?_
   simp [C.laws_FnExactFPolynomialsOf,mO,mS]
   refine hL _ ?_;clear hL L
   refine opsI_end fun L hL=>?_
   simp [C.laws_FnExactFPolynomialsOf,mO,mS]
   refine hL _ ?_;clear hL L
   simp [C.laws_FnExactFPolynomialsOf,mO,mS]
   refine hK _ ?_;clear hK K
   show AWp _ _ _ _ _
   refine wseq ?_
   refine wregI ([0,1] ++ ([2])) rfl fun K hK=>?_
   refine opsI_seg fun L hL=>?_
   simp [C.laws_FnExactFPolynomialsOf,mO,mS]
   refine wcall1 (hti) (by simp) (by simp) ?_
   simp [C.laws_FnExactFPolynomialsOf,mO,mS]
   refine hL _ ?_;clear hL L
   refine opsI_end fun L hL=>?_
   simp [C.laws_FnExactFPolynomialsOf,mO,mS]
   refine hL _ ?_;clear hL L
   simp [C.laws_FnExactFPolynomialsOf,mO,mS]
   refine hK _ ?_;clear hK K
   show AWp _ _ _ _ _
   refine wseq ?_
   refine wregI ([0,1,2] ++ ([3,4,5,6,7])) rfl fun K hK=>?_
   refine opsI_seg fun L hL=>?_
   simp [C.laws_FnExactFPolynomialsOf,mO,mS]
   refine wcall1 (hg) (by simp) (by simp) ?_
   simp [C.laws_FnExactFPolynomialsOf,mO,mS]
   refine hL _ ?_;clear hL L
   refine opsI_end fun L hL=>?_
   simp [C.laws_FnExactFPolynomialsOf,mO,mS]
   refine hL _ ?_;clear hL L
   simp [C.laws_FnExactFPolynomialsOf,mO,mS]
   refine hK _ ?_;clear hK K
   show AWp _ _ _ _ _
   refine wseq ?_
   refine wseq ?_
   refine wregI ([0,1,2] ++ ([3,4,5,6,7,8])) rfl fun K hK=>?_
   refine opsI_seg fun L hL=>?_
   simp [C.laws_FnExactFPolynomialsOf,mO,mS]
   refine wcall1 (laws_eqLaurentS_calls g g hg0 hg1) (by simp) (by simp) ?_
   simp [C.laws_FnExactFPolynomialsOf,mO,mS]
   refine hL _ ?_;clear hL L
   refine opsI_end fun L hL=>?_
   simp [C.laws_FnExactFPolynomialsOf,mO,mS]
   refine hL _ ?_;clear hL L
   simp [C.laws_FnExactFPolynomialsOf,mO,mS]
   refine hK _ ?_;clear hK K
   show AWp _ _ _ _ _
   refine wcond _ rfl (fun hc3=>?_) (fun hc3=>?_)
   ·simp at hc3
   ·refine wskip ?_
    show AWp _ _ _ _ _
    refine wseq ?_
    refine wseq ?_
    refine wdrawI [(true,0),(true,1),(false,2),(false,3),(true,4)] ⟨by kernel_rfl,by kernel_rfl⟩ ([0,1,2] ++ ([3] ++ ([4]))) rfl fun K hK=>?_
    refine opsI_seg fun L hL=>?_
    simp [C.laws_FnExactFPolynomialsOf,mO,mS]
    refine wcall1 (htm) (by simp) (by simp) ?_
    simp [C.laws_FnExactFPolynomialsOf,mO,mS]
    refine hL _ ?_;clear hL L
    refine opsI_seg fun L hL=>?_
    simp [C.laws_FnExactFPolynomialsOf,mO,mS]
    refine wcall1 (laws_eqMatrix_calls m m (by omega)) (by simp) (by simp) ?_
    simp [C.laws_FnExactFPolynomialsOf,mO,mS]
    refine hL _ ?_;clear hL L
    refine opsI_end fun L hL=>?_
    simp [C.laws_FnExactFPolynomialsOf,mO,mS]
    refine hL _ ?_;clear hL L
    simp [C.laws_FnExactFPolynomialsOf,mO,mS]
    refine hK _ ?_;clear hK K
    show AWp _ _ _ _ _
    refine wcond _ rfl (fun hc4=>?_) (fun hc4=>?_)
    ·simp at hc4
    ·refine wskip ?_
     show AWp _ _ _ _ _
     refine wseq ?_
     refine wseq ?_
     refine wregI ([0,1,2] ++ ([3] ++ ([4]))) rfl fun K hK=>?_
     refine opsI_seg fun L hL=>?_
     simp [C.laws_FnExactFPolynomialsOf,mO,mS]
     refine wcall1 (hti) (by simp) (by simp) ?_
     simp [C.laws_FnExactFPolynomialsOf,mO,mS]
     refine hL _ ?_;clear hL L
     refine opsI_seg fun L hL=>?_
     simp [C.laws_FnExactFPolynomialsOf,mO,mS]
     refine wcall1 (laws_eqIntS_calls ks ks k1) (by simp) (by simp) ?_
     simp [C.laws_FnExactFPolynomialsOf,mO,mS]
     refine hL _ ?_;clear hL L
     refine opsI_end fun L hL=>?_
     simp [C.laws_FnExactFPolynomialsOf,mO,mS]
     refine hL _ ?_;clear hL L
     simp [C.laws_FnExactFPolynomialsOf,mO,mS]
     refine hK _ ?_;clear hK K
     show AWp _ _ _ _ _
     refine wcond _ rfl (fun hc5=>?_) (fun hc5=>?_)
     ·simp at hc5
     ·refine wskip ?_
      show AWp _ _ _ _ _
      refine wseq ?_
      refine wreg fun K hK=>?_
      simp [C.laws_FnExactFPolynomialsOf,mO,mS]
      refine hK _ ?_;clear hK K
      show AWp _ _ _ _ _
      refine wseq ?_
      refine wregI ([0,1,2] ++ ([3])) rfl fun K hK=>?_
      refine opsI_seg fun L hL=>?_
      simp [C.laws_FnExactFPolynomialsOf,mO,mS]
      refine wcall1 (laws_markMatrix_calls m 1 (by omega) (by omega)) (by simp) (by simp) ?_
      simp [C.laws_FnExactFPolynomialsOf,mO,mS]
      refine hL _ ?_;clear hL L
      refine opsI_end fun L hL=>?_
      simp [C.laws_FnExactFPolynomialsOf,mO,mS]
      refine hL _ ?_;clear hL L
      simp [C.laws_FnExactFPolynomialsOf,mO,mS]
      refine hK _ ?_;clear hK K
      show AWp _ _ _ _ _
      refine wseq ?_
      refine wregI ([0,1,2] ++ ([3])) rfl fun K hK=>?_
      refine opsI_seg fun L hL=>?_
      simp [C.laws_FnExactFPolynomialsOf,mO,mS]
      refine wcall1 (laws_markIntS_calls ks ((1:Int)+(m.d.length:Nat)) (by omega) (by omega)) (by simp) (by simp) ?_
      simp [C.laws_FnExactFPolynomialsOf,mO,mS]
      refine hL _ ?_;clear hL L
      refine opsI_end fun L hL=>?_
      simp [C.laws_FnExactFPolynomialsOf,mO,mS]
      refine hL _ ?_;clear hL L
      simp [C.laws_FnExactFPolynomialsOf,mO,mS]
      refine hK _ ?_;clear hK K
      show AWp _ _ _ _ _
      refine wseq ?_
      refine wseq ?_
      refine wregI ([0,1,2,3,4,5] ++ ([6,7,8,9,10,11,12])) rfl fun K hK=>?_
      refine opsI_seg fun L hL=>?_
      simp [C.laws_FnExactFPolynomialsOf,mO,mS,show (0:Int)<=(1:Int)+(m.d.length:Nat)+(ks.length:Nat) by omega,show ¬ ((1:Int)+(m.d.length:Nat)+(ks.length:Nat) < 0) by omega]
      refine wcall1 (laws_eqLaurentS_calls g g hg0 hg1) (by simp) (by simp) ?_
      simp [C.laws_FnExactFPolynomialsOf,mO,mS,show (0:Int)<=(1:Int)+(m.d.length:Nat)+(ks.length:Nat) by omega,show ¬ ((1:Int)+(m.d.length:Nat)+(ks.length:Nat) < 0) by omega]
      refine hL _ ?_;clear hL L
      refine opsI_end fun L hL=>?_
      simp [C.laws_FnExactFPolynomialsOf,mO,mS,show (0:Int)<=(1:Int)+(m.d.length:Nat)+(ks.length:Nat) by omega,show ¬ ((1:Int)+(m.d.length:Nat)+(ks.length:Nat) < 0) by omega]
      refine hL _ ?_;clear hL L
      simp [C.laws_FnExactFPolynomialsOf,mO,mS,show (0:Int)<=(1:Int)+(m.d.length:Nat)+(ks.length:Nat) by omega,show ¬ ((1:Int)+(m.d.length:Nat)+(ks.length:Nat) < 0) by omega]
      refine hK _ ?_;clear hK K
      show AWp _ _ _ _ _
      refine wcond _ rfl (fun hc6=>?_) (fun hc6=>?_)
      ·simp at hc6
      ·refine wskip ?_
       show AWp _ _ _ _ _
       refine wseq ?_
       refine wreg fun K hK=>?_
       simp [C.laws_FnExactFPolynomialsOf,mO,mS]
       refine hK _ ?_;clear hK K
       show AWp _ _ _ _ _
       refine wseq ?_
       refine wregI ([0,1,2] ++ ([3])) rfl fun K hK=>?_
       refine opsI_seg fun L hL=>?_
       simp [C.laws_FnExactFPolynomialsOf,mO,mS]
       refine wcall1 (laws_markLaurentS_calls g 1 (by omega) (by omega) hg0 hg1) (by simp) (by simp) ?_
       simp [C.laws_FnExactFPolynomialsOf,mO,mS]
       refine hL _ ?_;clear hL L
       refine opsI_end fun L hL=>?_
       simp [C.laws_FnExactFPolynomialsOf,mO,mS]
       refine hL _ ?_;clear hL L
       simp [C.laws_FnExactFPolynomialsOf,mO,mS]
       refine hK _ ?_;clear hK K
       show AWp _ _ _ _ _
       refine wseq ?_
       refine wreg fun K hK=>?_
       simp [C.laws_FnExactFPolynomialsOf,mO,mS]
       refine hK _ ?_;clear hK K
       show AWp _ _ _ _ _
       refine wseq ?_
       refine wregI ([0,1,2] ++ ([3])) rfl fun K hK=>?_
       refine opsI_seg fun L hL=>?_
       simp [C.laws_FnExactFPolynomialsOf,mO,mS]
       refine wcall1 (laws_heldLaurentS_calls g 1 (by omega) (by omega) hg0 hg1) (by simp) (by simp) ?_
       simp [C.laws_FnExactFPolynomialsOf,mO,mS]
       refine hL _ ?_;clear hL L
       refine opsI_end fun L hL=>?_
       simp [C.laws_FnExactFPolynomialsOf,mO,mS]
       refine hL _ ?_;clear hL L
       simp [C.laws_FnExactFPolynomialsOf,mO,mS]
       refine hK _ ?_;clear hK K
       show AWp _ _ _ _ _
       refine wseq ?_
       refine wseq ?_
       refine wreg fun K hK=>?_
       simp [C.laws_FnExactFPolynomialsOf,mO,mS]
       refine hK _ ?_;clear hK K
       show AWp _ _ _ _ _
       refine wcond _ rfl (fun hc7=>?_) (fun hc7=>?_)
       ·have:=d_t hc7;omega
       ·refine wskip ?_
        show AWp _ _ _ _ _
        refine wseq ?_
        refine wseq ?_
        refine wreg fun K hK=>?_
        simp [C.laws_FnExactFPolynomialsOf,mO,mS]
        refine hK _ ?_;clear hK K
        show AWp _ _ _ _ _
        refine wcond _ rfl (fun hc8=>?_) (fun hc8=>?_)
        ·simp at hc8
        ·refine wskip ?_
         show AWp _ _ _ _ _
         refine wseq ?_
         refine wregI ([0,1] ++ ([2,3] ++ ([4] ++ ([5,6,7,8,9])))) rfl fun K hK=>?_
         refine opsI_seg fun L hL=>?_
         simp [C.laws_FnExactFPolynomialsOf,mO,mS]
         refine wcall1 (htm) (by simp) (by simp) ?_
         simp [C.laws_FnExactFPolynomialsOf,mO,mS]
         refine hL _ ?_;clear hL L
         refine opsI_seg fun L hL=>?_
         simp [C.laws_FnExactFPolynomialsOf,mO,mS]
         refine wcall1 (hti) (by simp) (by simp) ?_
         simp [C.laws_FnExactFPolynomialsOf,mO,mS]
         refine hL _ ?_;clear hL L
         refine opsI_seg fun L hL=>?_
         simp [C.laws_FnExactFPolynomialsOf,mO,mS]
         refine wcall1 (hg) (by simp) (by simp) ?_
         simp [C.laws_FnExactFPolynomialsOf,mO,mS]
         refine hL _ ?_;clear hL L
         refine opsI_end fun L hL=>?_
         simp [C.laws_FnExactFPolynomialsOf,mO,mS]
         refine hL _ ?_;clear hL L
         simp [C.laws_FnExactFPolynomialsOf,mO,mS]
         refine hK _ ?_;clear hK K
         show AWp _ _ _ _ _
         refine wseq ?_
         refine wseq ?_
         refine wregI ([0,1,2] ++ ([3,4,5,6,7,8])) rfl fun K hK=>?_
         refine opsI_seg fun L hL=>?_
         simp [C.laws_FnExactFPolynomialsOf,mO,mS]
         refine wcall1 (laws_eqLaurentS_calls g g hg0 hg1) (by simp) (by simp) ?_
         simp [C.laws_FnExactFPolynomialsOf,mO,mS]
         refine hL _ ?_;clear hL L
         refine opsI_end fun L hL=>?_
         simp [C.laws_FnExactFPolynomialsOf,mO,mS]
         refine hL _ ?_;clear hL L
         simp [C.laws_FnExactFPolynomialsOf,mO,mS]
         refine hK _ ?_;clear hK K
         show AWp _ _ _ _ _
         refine wcond _ rfl (fun hc9=>?_) (fun hc9=>?_)
         ·simp at hc9
         ·refine wskip ?_
          show AWp _ _ _ _ _
          refine wseq ?_
          refine wreg fun K hK=>?_
          simp [C.laws_FnExactFPolynomialsOf,mO,mS]
          refine hK _ ?_;clear hK K
          show AWp _ _ _ _ _
          refine wseq ?_
          refine wregI ([0,1,2] ++ ([3])) rfl fun K hK=>?_
          refine opsI_seg fun L hL=>?_
          simp [C.laws_FnExactFPolynomialsOf,mO,mS]
          refine wcall1 (laws_heldLaurentS_calls g 1 (by omega) (by omega) hg0 hg1) (by simp) (by simp) ?_
          simp [C.laws_FnExactFPolynomialsOf,mO,mS]
          refine hL _ ?_;clear hL L
          refine opsI_end fun L hL=>?_
          simp [C.laws_FnExactFPolynomialsOf,mO,mS]
          refine hL _ ?_;clear hL L
          simp [C.laws_FnExactFPolynomialsOf,mO,mS]
          refine hK _ ?_;clear hK K
          show AWp _ _ _ _ _
          refine wseq ?_
          refine wseq ?_
          refine wreg fun K hK=>?_
          simp [C.laws_FnExactFPolynomialsOf,mO,mS]
          refine hK _ ?_;clear hK K
          show AWp _ _ _ _ _
          refine wcond _ rfl (fun hc10=>?_) (fun hc10=>?_)
          ·have:=d_t hc10;omega
          ·refine wskip ?_
           show AWp _ _ _ _ _
           refine wseq ?_
           refine wseq ?_
           refine wreg fun K hK=>?_
           simp [C.laws_FnExactFPolynomialsOf,mO,mS]
           refine hK _ ?_;clear hK K
           show AWp _ _ _ _ _
           refine wcond _ rfl (fun hc11=>?_) (fun hc11=>?_)
           ·simp at hc11
           ·refine wskip ?_
            show AWp _ _ _ _ _
            refine wseq ?_
            refine wreg fun K hK=>?_
            simp [C.laws_FnExactFPolynomialsOf,mO,mS]
            refine hK _ ?_;clear hK K
            show AWp _ _ _ _ _
            refine wret ?_
            simp [C.laws_FnExactFPolynomialsOf,mO,mS]
end Go.Proofs.YtbhkonnakkhibaaGreat.Ab
namespace Go.Proofs.YtbhkonnakkhibaaGreat.Ab
open Go Go.ChangeShapes Go.WideShapes Go.ChangeAt Go.RowKit
set_option maxRecDepth 100000
section
variable {H:Type} {enc:TypeId×Value->H} {W:World}
def MatB (m:Mat):Prop:=i64b m.n/\i64b m.r/\IntsB m.d
theorem opMat:Opens enc Tryz.prog W 24 3 Mat mS MatB:=
 (Opens.struct3 opInt opInt opInts Tryz.underlying24 ⟨rfl,rfl⟩ ⟨rfl,rfl⟩ ⟨rfl,rfl⟩ (by kernel_rfl)).to (fun a=>⟨a.1,a.2.1,a.2.2⟩) (fun a=>rfl) (fun _=>rfl) (fun _ h=>⟨h.1,h.2.1,h.2.2⟩)
theorem argMat:Arg enc Tryz.prog W 24 Mat (fun m=>.ag ((mS m).map .d)) MatB:=Arg.agg opMat (by kernel_rfl) (of_decide_eq_true (by kernel_rfl)) Tryz.underlying24
theorem MatB.small {m:Mat} (h:MatB m):m.d.length < 17592186044416:=by
 have:=h.2.2.2
 omega
end
end Go.Proofs.YtbhkonnakkhibaaGreat.Ab
namespace Go.Proofs.YtbhkonnakkhibaaGreat.Ab
open Go
theorem lawFp (m:Mat) (h:MatB m) (ks:List Int) (hk:IntsB ks):ACalls Tryz.prog F.laws_FnExactFPolynomialsOf [aM m,.d (shI ks)] [] true (fun outs res=>outs=[]/\res=[.one (D.bool true)]):=laws_FnExactFPolynomialsOf_calls m h.small ks (by have:=hk.2;omega)
end Go.Proofs.YtbhkonnakkhibaaGreat.Ab
