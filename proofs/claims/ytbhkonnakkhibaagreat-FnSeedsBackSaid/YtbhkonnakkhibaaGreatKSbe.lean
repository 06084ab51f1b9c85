/- The factors of a matrix, by the program. Matrices that are right, mutation of a matrix, by the program. The program's sums of sums. The reference's sums of sums. Division by maps: the greatest key, and what a step does. Division: both sides. Division of the program's sums. Division: the law over both sides. Seeds that are right; what mutation of a seed is; the program's side. The exchange at a seed and mutation of a seed, by the program. Mutation of a seed along a list, by the program. Division finds the factor of a product again, over any keys. Laurent sums: what was multiplied is found again by division; what is divided is multiplied again. Sums as linear maps: what a function on keys makes of a sum. Values of Laurent sums modulo a prime: they go with sums and products. What was multiplied is found again by division: the law. Drawn sums are a ring; values go with sums and products. A seed that is mutated twice at one place. Principal matrices along steps; what the polynomials are. Sizes, pieces and factors of a matrix, by the reference. The reference's factors of a matrix. No condition. -/
import Derived.Test.YtbhkonnakkhibaaGreatKSbd
import Derived.Test.YtbhkonnakkhibaaGreatKSbc
set_option linter.unusedVariables false
set_option linter.unusedSimpArgs false
set_option linter.unusedSectionVars false
namespace Go.Proofs.YtbhkonnakkhibaaGreat.Ab
open Go
set_option maxRecDepth 10000
set_option maxHeartbeats 2000000
def cN (P:List Nat):List Int:=P.map fun i=>((i:Nat):Int)
@[simp] theorem cN_length (P:List Nat):(cN P).length=P.length:=by simp [cN]
theorem cN_get {P:List Nat} {t:Nat} (h:t < P.length):(cN P)[t]'(by simpa using h)=(P[t]:Int):=by simp [cN]
theorem cN_snoc (P:List Nat) (j:Nat):ints (cN P) ++ [D.v (.int .i64 j)]=ints (cN (P ++ [j])):=by simp [cN,ints]
theorem g0_get {l:List Int} {i:Nat} (h:i < l.length):l[i]=g0 l i:=by simp [g0,List.getD_eq_getElem?_getD,h]
theorem BJ.mul {n:Nat} {b:Nat->Nat->Int} {old:List Nat} {s:Nat} {num den:List Int} {P:List Nat} {a j:Nat} (h:BJ n b old s num den P a j) (hn:n<=5) (ha:a < P.length) {u:Int} (hu:0 < u) (hu9:u<=99) :
  (0 < g0 num P[a]*u/\g0 num P[a]*u<=9509900499)/\(0 < g0 den P[a]*u/\g0 den P[a]*u<=9509900499):=by
 have hp:=h.pos _ (List.getElem_mem ha)
 have hb:=h.bd a ha
 have h4:=pow4 ha hn (nodup_len h.pn h.pl)
 have e1:=Int.mul_pos hp.1 hu
 have e2:=Int.mul_pos hp.2.1 hu
 have f1:=Nat.mul_le_mul (show (g0 num P[a]).natAbs<=99 ^ 4 by omega) (show u.natAbs<=99 by omega)
 have f2:=Nat.mul_le_mul (show (g0 den P[a]).natAbs<=99 ^ 4 by omega) (show u.natAbs<=99 by omega)
 rw [<-Int.natAbs_mul] at f1 f2
 generalize g0 num P[a]*u=z1 at *
 generalize g0 den P[a]*u=z2 at *
 omega
theorem at_c {m:Mat} {n:Nat} (hn:m.n=n) (hS:ShM m) {i j:Nat} (hi:(i:Int) < m.r) (hj:j < n):ACalls Tryz.prog F.impl_Matrix_at [.ag [.int n,.int m.r,.d (shI m.d)],.int i,.int j] [] true (fun outs res=>outs=[]/\res=[.one (D.int (bM m i j))]):=by
 obtain ⟨hq,he⟩:=bM_get hS hi (show (j:Int) < m.n by omega)
 have hnn:m.n.toNat=n:=by omega
 have hl:m.d.length < 1000000:=by
  have h1:=hS.2.2.1
  have h2:=hS.1
  have h3:=hS.2.1
  have:m.n*m.r<=5*8:=Int.mul_le_mul (by omega) (by omega) (by omega) (by omega)
  omega
 have:=impl_Matrix_at_c m i j (i*m.n.toNat+j) n hn (by rw [hnn]) hq hl
 have e:aM m = .ag [.int n,.int m.r,.d (shI m.d)]:=by rw [<-hn]
 rw [e,he] at this
 exact this
theorem impl_factors_c (m:Mat) (n:Nat) (hn:m.n=n) (hS:ShM m):ACalls Tryz.prog F.impl_factors [.ag [.int n,.int m.r,.d (shI m.d)]] [] true (fun outs res=>outs=[]/\((∃ l,MinSol n (bM m) l/\res=[.one (owI l)])\/((∀ d,¬ Sol n (bM m) d)/\res=[.one (.v (.slice none 0 0))]))):=by
 have hn5:1<=n/\n<=5:=by have:=hS.1;omega
 have hnr:(n:Int)<=m.r:=by have:=hS.2.1;omega
 have hB:∀ i j,i < n->j < n->(bM m i j).natAbs<=99:=fun i j _ _=>bM_bd hS i j
 refine ACalls.of_body (C:=C.impl_factors) (n:=Tryz.f155.ntmps) tabT folT Tryz.func155 rfl (by kernel_rfl) rfl (Nat.le_of_ble_eq_true rfl) (by decide) (by kernel_rfl) (by kernel_rfl) rfl (by simp) (by simp) ?_
 simp only [Tryz.f155]
 refine wseq ?_
 refine wreg fun K hK=>?_
 simp [C.impl_factors]
 refine hK _ ?_;clear hK K
 show AWp _ _ _ _ _
 refine wseq ?_
 refine wdraw (.take 0 (.take 1 (.take 3 (.take 4 (.all [(2,.take 6 (.all [(5,.take 7 (.done))])),(5,.all [(2,.take 6 (.take 7 (.done)))])]))))) ⟨by kernel_rfl,by kernel_rfl⟩ fun K hK=>?_
 have hJ:K ⟨ofL [(1,.pt (1,0) [] 0),(3,.al (3,0) [] 0 n),(4,.al (4,0) [] 0 n)],ofRO [((1,0),some (.bx [D.int n,D.int m.r,shI m.d])),((3,0),some (.ow 1 n (ints (List.replicate n 0)))),((4,0),some (.ow 1 n (ints (List.replicate n 0))))]⟩:=by
  refine hK _ ?_;clear hK K
  show AWp _ _ _ _ _
  refine wseq ?_
  refine wreg fun K hK=>?_
  simp [C.impl_factors,zeros_ints,show (8:Int)*n<=281474976710656 by omega,show (n:Int)<=281474976710656 by omega]
  refine hK _ ?_;clear hK K
  show AWp _ _ _ _ _
  refine wseq ?_
  refine wseq ?_
  refine wreg fun K hK=>?_
  simp [C.impl_factors]
  refine hK _ ?_;clear hK K
  show AWp _ _ _ _ _
  refine wblock ?_
  refine wloop (fun x:Nat×List Int×List Int×List Int×List Nat=>⟨ofL [(1,.pt (1,0) [] 0),(3,.al (3,0) [] 0 n),(4,.al (4,0) [] 0 n),(5,.al (5,0) [] 0 n),(34,.int n),(35,.int (x.1:Nat))],ofRO [((1,0),some (.bx [D.int n,D.int m.r,shI m.d])),((3,0),some (.ow 1 n (ints x.2.1))),((4,0),some (.ow 1 n (ints x.2.2.1))),((5,0),some (.ow 1 n (ints x.2.2.2.1)))]⟩) (fun x=>x.1<=n/\(x.2.1.length=n/\x.2.2.1.length=n)/\(∀ i,i < n->(g0 x.2.1 i≠0↔i∈x.2.2.2.2))/\OJ n (bM m) x.2.2.2.2 x.2.2.2.1/\∀ i,i < x.1->i∈x.2.2.2.2) (fun x=>n - x.1) (0,List.replicate n 0,List.replicate n 0,List.replicate n 0,[]) (by simp [C.impl_factors]) ⟨by simp,by simp,fun i hi=>by simp [g0,List.getD_eq_getElem?_getD,hi],⟨by simp,by simp,by simp⟩,by simp⟩ ?_
  intro x1 hx1 R1 hR1
  obtain ⟨s,num,den,out,old⟩:=x1
  obtain ⟨hs,⟨hln,hld⟩,hmem,hO,hall⟩:=hx1
  dsimp only at hs hln hld hmem hO hall ⊢
  have hoc:∀ i∈old,∀ j,j < n->(bM m i j=0/\bM m j i=0)\/j∈old:=fun i hi j hj=>((hO.cl i hi).2.2 j hj).imp id fun q=>q.1
  refine wseq ?_
  refine wreg fun K hK=>?_
  simp [C.impl_factors]
  refine hK _ ?_;clear hK K
  show AWp _ _ _ _ _
  refine wseq ?_
  refine wcond _ rfl (fun hc1=>?_) (fun hc1=>?_)
  ·have h1:s < n:=by have:=d_t hc1;omega
   refine wskip ?_
   show AWp _ _ _ _ _
   refine wseq ?_
   refine wblock ?_
   refine wseq ?_
   refine wreg fun K hK=>?_
   simp [C.impl_factors]
   refine hK _ ?_;clear hK K
   show AWp _ _ _ _ _
   refine wseq ?_
   refine wseq ?_
   refine wreg fun K hK=>?_
   simp [C.impl_factors,show ((s:Int) < n) by omega,h1,hln,get_ints,g0_get]
   refine hK _ ?_;clear hK K
   show AWp _ _ _ _ _
   refine wcond _ rfl (fun hc2=>?_) (fun hc2=>?_)
   ·have hs1:g0 num s≠0:=by simpa using hc2
    refine wexit ?_
    show AWp _ _ _ _ _
    refine wreg fun K hK=>?_
    simp [C.impl_factors,wrap_succ (show s < 4611686018427387904 by omega)]
    refine hK _ ?_;clear hK K
    simp [C.impl_factors]
    refine hR1 (s+1,num,den,out,old) ⟨h1,⟨hln,hld⟩,hmem,hO,fun i hi=>?_⟩ (by dsimp only;omega)
    by_cases e:i=s
    ·exact (hmem i (by omega)).1 (e ▸ hs1)
    ·exact hall i (by dsimp only at hi;omega)
   ·have hs0:g0 num s=0:=by simpa using hc2
    have hBs:=BJ.start (b:=bM m) hln hld h1 hmem hs0
    refine wskip ?_
    show AWp _ _ _ _ _
    refine wseq ?_
    refine wreg fun K hK=>?_
    simp [C.impl_factors,show ((s:Int) < n) by omega,h1,hln,hld]
    refine hK _ ?_;clear hK K
    show AWp _ _ _ _ _
    refine wseq ?_
    refine wreg fun K hK=>?_
    simp [C.impl_factors]
    refine hK _ ?_;clear hK K
    show AWp _ _ _ _ _
    refine wseq ?_
    refine wseq ?_
    refine wreg fun K hK=>?_
    simp [C.impl_factors]
    refine hK _ ?_;clear hK K
    show AWp _ _ _ _ _
    refine wblock ?_
    refine wloop (fun x:Nat×List Int×List Int×List Nat=>⟨ofL [(1,.pt (1,0) [] 0),(3,.al (3,0) [] 0 n),(4,.al (4,0) [] 0 n),(5,.al (5,0) [] 0 n),(7,.al (7,0) [] 0 (x.2.2.2).length),(8,.int x.1),(34,.int n),(35,.int (s:Nat))],ofRO [((1,0),some (.bx [D.int n,D.int m.r,shI m.d])),((3,0),some (.ow 1 n (ints x.2.1))),((4,0),some (.ow 1 n (ints x.2.2.1))),((5,0),some (.ow 1 n (ints out))),((7,0),some (.ow 1 (x.2.2.2).length (ints (cN x.2.2.2))))]⟩) (fun x=>x.1<=x.2.2.2.length/\BJ n (bM m) old s x.2.1 x.2.2.1 x.2.2.2 x.1 0) (fun x=>n - x.1) (0,num.set s 1,den.set s 1,[s]) (by simp [C.impl_factors,cN,ints]) ⟨by simp,hBs⟩ ?_
    intro x2 hx2 R2 hR2
    clear hBs hs0 hc2 hln hld hmem
    obtain ⟨a,num,den,P⟩:=x2
    obtain ⟨haP,hBJ⟩:=hx2
    dsimp only at haP hBJ ⊢
    have hPn:=nodup_len hBJ.pn hBJ.pl
    refine wseq ?_
    refine wseq ?_
    refine wreg fun K hK=>?_
    simp [C.impl_factors]
    refine hK _ ?_;clear hK K
    show AWp _ _ _ _ _
    refine wcond _ rfl (fun hc3=>?_) (fun hc3=>?_)
    ·have ha:a < P.length:=by have:=d_t hc3;omega
     obtain ⟨i,hi⟩:∃ i,i=P[a]:=⟨_,rfl⟩
     have hiP:P[a]? = some i:=by rw [hi];exact List.getElem?_eq_getElem ha
     have hin:i < n:=by rw [hi];exact hBJ.pl _ (List.getElem_mem ha)
     refine wskip ?_
     show AWp _ _ _ _ _
     refine wseq ?_
     refine wblock ?_
     refine wseq ?_
     refine wreg fun K hK=>?_
     simp [C.impl_factors,show ((a:Int) < P.length) by omega,ha,get_ints,cN_get ha,<-hi]
     refine hK _ ?_;clear hK K
     show AWp _ _ _ _ _
     refine wseq ?_
     refine wreg fun K hK=>?_
     simp [C.impl_factors]
     refine hK _ ?_;clear hK K
     show AWp _ _ _ _ _
     refine wblock ?_
     refine wloop (fun x:Nat×List Int×List Int×List Nat=>⟨ofL [(1,.pt (1,0) [] 0),(3,.al (3,0) [] 0 n),(4,.al (4,0) [] 0 n),(5,.al (5,0) [] 0 n),(7,.al (7,0) [] 0 (x.2.2.2).length),(8,.int a),(9,.int i),(34,.int n),(35,.int (s:Nat)),(62,.int n),(63,.int x.1)],ofRO [((1,0),some (.bx [D.int n,D.int m.r,shI m.d])),((3,0),some (.ow 1 n (ints x.2.1))),((4,0),some (.ow 1 n (ints x.2.2.1))),((5,0),some (.ow 1 n (ints out))),((7,0),some (.ow 1 (x.2.2.2).length (ints (cN x.2.2.2))))]⟩) (fun x=>x.1<=n/\x.2.2.2[a]? = some i/\BJ n (bM m) old s x.2.1 x.2.2.1 x.2.2.2 a x.1) (fun x=>n - x.1) (0,num,den,P) (by simp [C.impl_factors,hBJ.ln]) ⟨by simp,hiP,hBJ⟩ ?_
     intro x3 hx3 R3 hR3
     clear hiP hi ha hBJ haP hPn hc3
     obtain ⟨j,num,den,P⟩:=x3
     obtain ⟨hj2,hiP,hBJ⟩:=hx3
     dsimp only at hj2 hiP hBJ ⊢
     have hPn:=nodup_len hBJ.pn hBJ.pl
     obtain ⟨ha,hi⟩:=List.getElem?_eq_some_iff.1 hiP
     have hln:=hBJ.ln
     have hld:=hBJ.ld
     refine wseq ?_
     refine wreg fun K hK=>?_
     simp [C.impl_factors]
     refine hK _ ?_;clear hK K
     show AWp _ _ _ _ _
     refine wseq ?_
     refine wcond _ rfl (fun hc4=>?_) (fun hc4=>?_)
     ·have hj:j < n:=by have:=d_t hc4;omega
      obtain ⟨p,hp⟩:∃ p,p=bM m i j:=⟨_,rfl⟩
      obtain ⟨q,hq⟩:∃ q,q=-bM m j i:=⟨_,rfl⟩
      have hpb:-99<=p/\p<=99:=by have:=hB i j hin hj;omega
      have hqb:-99<=q/\q<=99:=by have:=hB j i hj hin;omega
      have hwq:IntKind.i64.wrap (-bM m j i)=q:=by rw [<-hq];exact wrapOk (by omega) (by omega)
      refine wskip ?_
      show AWp _ _ _ _ _
      refine wseq ?_
      refine wblock ?_
      refine wseq ?_
      refine wreg fun K hK=>?_
      simp [C.impl_factors]
      refine hK _ ?_;clear hK K
      show AWp _ _ _ _ _
      refine wseq ?_
      refine wdrawI [(true,0),(true,1),(true,2),(true,4),(true,5),(true,6),(false,3),(false,7),(true,8),(true,9),(true,10)] ⟨by kernel_rfl,by kernel_rfl⟩ ([0,1,2,4,5,6,3] ++ ([7] ++ ([8,9,10]))) rfl fun K hK=>?_
      refine oSg fun L hL=>?_
      simp [C.impl_factors,hwq,<-hp]
      refine wcall1 (at_c hn hS (show (i:Int) < m.r by omega) hj) (by simp) (by simp) ?_
      simp [C.impl_factors,hwq,<-hp]
      refine hL _ ?_;clear hL L
      refine oSg fun L hL=>?_
      simp [C.impl_factors,hwq,<-hp]
      refine wcall1 (at_c hn hS (show (j:Int) < m.r by omega) hin) (by simp) (by simp) ?_
      simp [C.impl_factors,hwq,<-hp]
      refine hL _ ?_;clear hL L
      refine oEn fun L hL=>?_
      simp [C.impl_factors,hwq,<-hp]
      refine hL _ ?_;clear hL L
      simp [C.impl_factors,hwq,<-hp]
      refine hK _ ?_;clear hK K
      show AWp _ _ _ _ _
      refine wseq ?_
      refine wseq ?_
      refine wreg fun K hK=>?_
      have hJ:K ⟨ofL [(1,.pt (1,0) [] 0),(3,.al (3,0) [] 0 n),(4,.al (4,0) [] 0 n),(5,.al (5,0) [] 0 n),(7,.al (7,0) [] 0 (P).length),(8,.int a),(9,.int i),(10,.int j),(11,.int p),(12,.int q),(34,.int n),(35,.int (s:Nat)),(62,.int n),(63,.int j),(80,.bool (decide (p=0/\q=0)))],ofRO [((1,0),some (.bx [D.int n,D.int m.r,shI m.d])),((3,0),some (.ow 1 n (ints num))),((4,0),some (.ow 1 n (ints den))),((5,0),some (.ow 1 n (ints out))),((7,0),some (.ow 1 (P).length (ints (cN P))))]⟩:=by
       refine hK _ ?_;clear hK K
       show AWp _ _ _ _ _
       refine wcond _ rfl (fun hc5=>?_) (fun hc5=>?_)
       ·have hpq0:=d_t hc5
        refine wexit ?_
        show AWp _ _ _ _ _
        refine wreg fun K hK=>?_
        simp [C.impl_factors,wrap_succ (show j < 4611686018427387904 by omega)]
        refine hK _ ?_;clear hK K
        simp [C.impl_factors]
        refine hR3 (j+1,num,den,P) ⟨hj,hiP,?_⟩ (by dsimp only;omega)
        exact hBJ.skip ha (by rw [hi,<-hp];exact hpq0.1) (by rw [hi];omega)
       ·have hpq0:=d_f hc5
        refine wskip ?_
        show AWp _ _ _ _ _
        refine wseq ?_
        refine wseq ?_
        refine wregI ([0,1,2,3,4,5,6,7,8,9,10,11,12,13,14,15,16,17]) rfl fun K hK=>?_
        have hJ:K ⟨ofL [(1,.pt (1,0) [] 0),(3,.al (3,0) [] 0 n),(4,.al (4,0) [] 0 n),(5,.al (5,0) [] 0 n),(7,.al (7,0) [] 0 (P).length),(8,.int a),(9,.int i),(10,.int j),(11,.int p),(12,.int q),(34,.int n),(35,.int (s:Nat)),(62,.int n),(63,.int j),(98,.bool (decide (p=0\/q=0\/¬ (0 < p↔0 < q)\/i=j)))],ofRO [((1,0),some (.bx [D.int n,D.int m.r,shI m.d])),((3,0),some (.ow 1 n (ints num))),((4,0),some (.ow 1 n (ints den))),((5,0),some (.ow 1 n (ints out))),((7,0),some (.ow 1 (P).length (ints (cN P))))]⟩:=by
         refine hK _ ?_;clear hK K
         show AWp _ _ _ _ _
         refine wcond _ rfl (fun hc6=>?_) (fun hc6=>?_)
         ·have hfl:=d_t hc6
          have hno:=fun d=>sign_fail (b:=bM m) hin hj (by omega) (by omega) d
          refine wseq ?_
          refine wreg fun K hK=>?_
          simp [C.impl_factors]
          refine hK _ ?_;clear hK K
          show AWp _ _ _ _ _
          refine wret ?_
          simp [C.impl_factors]
          exact hno
         ·have hsg:=d_f hc6
          have hpq:0 < p/\0 < q\/p < 0/\q < 0:=by omega
          obtain ⟨u,hu⟩:∃ u,u=max p (-p):=⟨_,rfl⟩
          obtain ⟨v,hv⟩:∃ v,v=max q (-q):=⟨_,rfl⟩
          have hw1:IntKind.i64.wrap (-p)=-p:=wrapOk (by omega) (by omega)
          have hw2:IntKind.i64.wrap (-q)=-q:=wrapOk (by omega) (by omega)
          have hm1:=(hBJ.mul hn5.2 ha (u:=u) (by omega) (by omega)).1
          have hm2:=(hBJ.mul hn5.2 ha (u:=v) (by omega) (by omega)).2
          rw [hi] at hm1 hm2
          have hwA:IntKind.i64.wrap (g0 num i*u)=g0 num i*u:=wrapOk (by omega) (by omega)
          have hwB:IntKind.i64.wrap (g0 den i*v)=g0 den i*v:=wrapOk (by omega) (by omega)
          obtain ⟨x,y,g,hx0,hy0,hgp,hgg,hxA,hyB,hco⟩:=frac (g0 num i*u) (g0 den i*v) hm1.1 hm2.1
          have hqA:(g0 num i*u).tdiv g=x:=by rw [hxA,Int.mul_tdiv_cancel _ (by omega)]
          have hqB:(g0 den i*v).tdiv g=y:=by rw [hyB,Int.mul_tdiv_cancel _ (by omega)]
          have hxl:x<=9509900499:=by
           have h1:x*1<=x*g:=Int.mul_le_mul_of_nonneg_left (by omega) (by omega)
           rw [<-hxA] at h1
           omega
          have hyl:y<=9509900499:=by
           have h1:y*1<=y*g:=Int.mul_le_mul_of_nonneg_left (by omega) (by omega)
           rw [<-hyB] at h1
           omega
          have hcall:=impl_gcd_c (g0 num i*u) (g0 den i*v) (by omega) (by omega)
          rw [hgg] at hcall
          generalize hAA:g0 num i*u=A at *
          generalize hBB:g0 den i*v=Bb at *
          refine wskip ?_
          show AWp _ _ _ _ _
          refine wseq ?_
          refine wdrawI [(true,0),(true,1),(true,2),(true,3),(true,4),(true,5),(true,6),(true,7),(true,8),(true,9),(true,10),(true,11),(true,12),(true,13),(true,14),(true,15),(true,16),(true,17),(true,18),(true,19)] ⟨by kernel_rfl,by kernel_rfl⟩ ([0,1,2,3,4,5,6,7,8,9,10,11,12,13,14,15,16,17,18,19]) rfl fun K hK=>?_
          refine oEn fun L hL=>?_
          simp [C.impl_factors,show ((i:Int) < n) by omega,hin,hln,hld,get_ints,g0_get,hw1,hw2,<-hu,<-hv,hAA,hBB,hwA,hwB]
          refine hL _ ?_;clear hL L
          simp [C.impl_factors,show ((i:Int) < n) by omega,hin,hln,hld,get_ints,g0_get,hw1,hw2,<-hu,<-hv,hAA,hBB,hwA,hwB]
          refine hK _ ?_;clear hK K
          show AWp _ _ _ _ _
          refine wseq ?_
          refine wregI ([0,1,2] ++ ([3])) rfl fun K hK=>?_
          refine oSg fun L hL=>?_
          simp [C.impl_factors]
          refine wcall1 (hcall) (by simp) (by simp) ?_
          simp [C.impl_factors]
          refine hL _ ?_;clear hL L
          refine oEn fun L hL=>?_
          simp [C.impl_factors]
          refine hL _ ?_;clear hL L
          simp [C.impl_factors]
          refine hK _ ?_;clear hK K
          show AWp _ _ _ _ _
          refine wseq ?_
          refine wdraw (.take 0 (.take 1 (.take 2 (.take 3 (.take 4 (.take 5 (.take 6 (.take 7 (.done))))))))) ⟨by kernel_rfl,by kernel_rfl⟩ fun K hK=>?_
          simp [C.impl_factors,show g≠0 by omega,hqA,hqB,wrapOk (x:=x) (by omega) (by omega),wrapOk (x:=y) (by omega) (by omega)]
          refine hK _ ?_;clear hK K
          show AWp _ _ _ _ _
          refine wseq ?_
          refine wreg fun K hK=>?_
          simp [C.impl_factors,show ((j:Int) < n) by omega,hj,hln,get_ints,g0_get]
          refine hK _ ?_;clear hK K
          show AWp _ _ _ _ _
          refine wcond _ rfl (fun hc7=>?_) (fun hc7=>?_)
          ·have hz:g0 num j=0:=by simpa using hc7
           have hnew:=hBJ.new (x:=x) (y:=y) (g:=g) (u:=u) (v:=v) hoc ha hj hB (by rw [hi,<-hp,<-hq];exact hpq) hz (by rw [hi,<-hp];exact hu.symm) (by rw [hi,<-hq];exact hv.symm) hgp hx0 hy0 (by rw [hi,hAA];exact hxA) (by rw [hi,hBB];exact hyB) hco
           refine wseq ?_
           refine wreg fun K hK=>?_
           simp [C.impl_factors,show ((j:Int) < n) by omega,hj,hln,hld]
           refine hK _ ?_;clear hK K
           show AWp _ _ _ _ _
           refine wreg fun K hK=>?_
           simp [C.impl_factors,cN_snoc,show (P.length+1)*8<=140737488355328 by omega]
           refine hK _ ?_;clear hK K
           show AWp _ _ _ _ _
           refine wreg fun K hK=>?_
           simp [C.impl_factors,wrap_succ (show j < 4611686018427387904 by omega)]
           refine hK _ ?_;clear hK K
           simp [C.impl_factors]
           refine cast (congrArg R3 ?_) (hR3 (j+1,num.set j x,den.set j y,P ++ [j]) ⟨hj,by dsimp only;rw [List.getElem?_append_left ha];exact hiP,hnew⟩ (by dsimp only;omega))
           simp
          ·have hz:g0 num j≠0:=by simpa using hc7
           have hcmp:=hBJ.cmp (x:=x) (y:=y) (g:=g) (u:=u) (v:=v) hoc ha hj (by rw [hi,<-hp,<-hq];exact hpq) hz (by rw [hi,<-hp];exact hu.symm) (by rw [hi,<-hq];exact hv.symm) hgp hx0 hy0 (by rw [hi,hAA];exact hxA) (by rw [hi,hBB];exact hyB) hco
           refine wseq ?_
           refine wregI ([0,1,2,3,4,5,6,7,8,9,10,11,12,13]) rfl fun K hK=>?_
           have hJ:K ⟨ofL [(1,.pt (1,0) [] 0),(3,.al (3,0) [] 0 n),(4,.al (4,0) [] 0 n),(5,.al (5,0) [] 0 n),(7,.al (7,0) [] 0 (P).length),(8,.int a),(9,.int i),(34,.int n),(35,.int (s:Nat)),(62,.int n),(63,.int j),(156,.bool (!decide (g0 num j=x/\g0 den j=y)))],ofRO [((1,0),some (.bx [D.int n,D.int m.r,shI m.d])),((3,0),some (.ow 1 n (ints num))),((4,0),some (.ow 1 n (ints den))),((5,0),some (.ow 1 n (ints out))),((7,0),some (.ow 1 (P).length (ints (cN P))))]⟩:=by
            refine hK _ ?_;clear hK K
            show AWp _ _ _ _ _
            refine wcond _ rfl (fun hc8=>?_) (fun hc8=>?_)
            ·have hne:=nd_t hc8
             refine wseq ?_
             refine wreg fun K hK=>?_
             simp [C.impl_factors]
             refine hK _ ?_;clear hK K
             show AWp _ _ _ _ _
             refine wret ?_
             simp [C.impl_factors]
             exact hcmp.2 hne
            ·have heq:=nd_f hc8
             refine wskip ?_
             show AWp _ _ _ _ _
             refine wreg fun K hK=>?_
             simp [C.impl_factors,wrap_succ (show j < 4611686018427387904 by omega)]
             refine hK _ ?_;clear hK K
             simp [C.impl_factors]
             exact hR3 (j+1,num,den,P) ⟨hj,hiP,hcmp.1 heq⟩ (by dsimp only;omega)
           clear hK
           by_cases h1:g0 num j=x
           ·refine oEn fun L hL=>?_
            simp [C.impl_factors,show ((j:Int) < n) by omega,hj,hln,hld,get_ints,g0_get,h1]
            refine hL _ ?_;clear hL L
            simp [C.impl_factors,show ((j:Int) < n) by omega,hj,hln,hld,get_ints,g0_get,h1]
            refine cast (congrArg K ?_) hJ
            simp [ibne,h1]
           ·refine oEn fun L hL=>?_
            simp [C.impl_factors,show ((j:Int) < n) by omega,hj,hln,hld,get_ints,g0_get,h1]
            refine hL _ ?_;clear hL L
            simp [C.impl_factors,show ((j:Int) < n) by omega,hj,hln,hld,get_ints,g0_get,h1]
            refine cast (congrArg K ?_) hJ
            simp [ibne,h1]
        clear hK
        have hij:((i:Int) == (j:Int))=decide (i=j):=by rw [Bool.eq_iff_iff];simp <;> omega
        by_cases h1:p=0 <;> by_cases h2:q=0 <;> by_cases h3:0 < p <;> by_cases h4:0 < q <;> by_cases h5:i=j <;> first
         | (exfalso;omega)
         | (simp [C.impl_factors,h1,h2,h3,h4,h5];refine cast (congrArg K ?_) hJ;simp [hij,h1,h2,h3,h4,h5];done)
      clear hK
      by_cases hz:p=0
      ·simp [C.impl_factors,hz]
       refine cast (congrArg K ?_) hJ
       simp [ibeq,hz]
      ·simp [C.impl_factors,hz]
       refine cast (congrArg K ?_) hJ
       simp [ibeq,hz]
     ·have hjn:j=n:=by have:=d_f hc4;omega
      refine wexit ?_
      show AWp _ _ _ _ _
      refine wreg fun K hK=>?_
      simp [C.impl_factors,wrap_succ (show a < 4611686018427387904 by omega)]
      refine hK _ ?_;clear hK K
      simp [C.impl_factors]
      refine hR2 (a+1,num,den,P) ⟨ha,?_⟩ (by dsimp only;omega)
      rw [hjn] at hBJ
      exact hBJ.next
    ·have hap:a=P.length:=by have:=d_f hc3;omega
     rw [hap] at hBJ
     clear hap hc3 haP
     have hln:=hBJ.ln
     have hld:=hBJ.ld
     have hP9:P.length < 4611686018427387904:=by omega
     refine wexit ?_
     show AWp _ _ _ _ _
     refine wseq ?_
     refine wreg fun K hK=>?_
     simp [C.impl_factors]
     refine hK _ ?_;clear hK K
     show AWp _ _ _ _ _
     refine wseq ?_
     refine wseq ?_
     refine wreg fun K hK=>?_
     simp [C.impl_factors]
     refine hK _ ?_;clear hK K
     show AWp _ _ _ _ _
     refine wblock ?_
     refine wloop (fun x:Nat×Int=>⟨ofL [(1,.pt (1,0) [] 0),(3,.al (3,0) [] 0 n),(4,.al (4,0) [] 0 n),(5,.al (5,0) [] 0 n),(7,.al (7,0) [] 0 (P).length),(16,.int x.2),(34,.int n),(35,.int (s:Nat)),(158,.al (7,0) [] 0 P.length),(159,.int P.length),(160,.int x.1)],ofRO [((1,0),some (.bx [D.int n,D.int m.r,shI m.d])),((3,0),some (.ow 1 n (ints num))),((4,0),some (.ow 1 n (ints den))),((5,0),some (.ow 1 n (ints out))),((7,0),some (.ow 1 (P).length (ints (cN P))))]⟩) (fun x=>x.1<=P.length/\CJ n (bM m) s den P x.1 x.2) (fun x=>P.length - x.1) (0,1) (by simp [C.impl_factors]) ⟨by simp,CJ.start hBJ hn5.2 hPn⟩ ?_
     intro x4 hx4 R4 hR4
     obtain ⟨t,c⟩:=x4
     obtain ⟨ht0,hC⟩:=hx4
     dsimp only at ht0 hC ⊢
     refine wseq ?_
     refine wreg fun K hK=>?_
     simp [C.impl_factors]
     refine hK _ ?_;clear hK K
     show AWp _ _ _ _ _
     refine wseq ?_
     refine wcond _ rfl (fun hc9=>?_) (fun hc9=>?_)
     ·have ht:t < P.length:=by have:=d_t hc9;omega
      have hin:=hBJ.pl _ (List.getElem_mem ht)
      have hdp:=hBJ.pos _ (List.getElem_mem ht)
      have hdb:=(hBJ.bd t ht).2
      have hp4:=pow4 ht hn5.2 hPn
      have hcq:=hC.qd
      have hcp:=hC.pos
      obtain ⟨w,w1,w2,w3⟩:=lcm_step hC.pos hdp.2.1
      have hstep:=hC.step hBJ ht
      have hcall:=impl_gcd_c c (g0 den P[t]) (by omega) (by omega)
      have hgn:0 < Int.gcd c (g0 den P[t]):=Int.gcd_pos_of_ne_zero_left _ (by omega)
      have hdz:(Int.gcd c (g0 den P[t]):Int)≠0:=by omega
      have hsq:=hstep.qd
      have hsp:=hstep.pos
      rw [w1] at hstep hsq hsp
      generalize hG:(Int.gcd c (g0 den P[t]):Int)=G at *
      refine wskip ?_
      show AWp _ _ _ _ _
      refine wseq ?_
      refine wblock ?_
      refine wseq ?_
      refine wreg fun K hK=>?_
      simp [C.impl_factors,show ((t:Int) < P.length) by omega,ht,get_ints,cN_get ht]
      refine hK _ ?_;clear hK K
      show AWp _ _ _ _ _
      refine wdrawI [(true,0),(true,1),(true,2),(true,3),(true,4),(true,5),(true,8),(true,9),(true,10),(true,11),(false,6),(true,7),(true,12),(true,13)] ⟨by kernel_rfl,by kernel_rfl⟩ ([0,1,2,3,4,5,8,9,10,11,6] ++ ([7,12,13])) rfl fun K hK=>?_
      refine oSg fun L hL=>?_
      simp [C.impl_factors,show ((P[t]:Int) < n) by omega,hin,hld,get_ints,g0_get,hdz,w1,wrapOk (x:=(w:Int)) (by omega) (by omega),wrapOk (x:=(w:Int)*g0 den P[t]) (by omega) (by omega)]
      refine wcall1 (hcall) (by simp) (by simp) ?_
      simp [C.impl_factors,show ((P[t]:Int) < n) by omega,hin,hld,get_ints,g0_get,hdz,w1,wrapOk (x:=(w:Int)) (by omega) (by omega),wrapOk (x:=(w:Int)*g0 den P[t]) (by omega) (by omega)]
      refine hL _ ?_;clear hL L
      refine oEn fun L hL=>?_
      simp [C.impl_factors,show ((P[t]:Int) < n) by omega,hin,hld,get_ints,g0_get,hdz,w1,wrapOk (x:=(w:Int)) (by omega) (by omega),wrapOk (x:=(w:Int)*g0 den P[t]) (by omega) (by omega)]
      refine hL _ ?_;clear hL L
      simp [C.impl_factors,show ((P[t]:Int) < n) by omega,hin,hld,get_ints,g0_get,hdz,w1,wrapOk (x:=(w:Int)) (by omega) (by omega),wrapOk (x:=(w:Int)*g0 den P[t]) (by omega) (by omega)]
      refine hK _ ?_;clear hK K
      show AWp _ _ _ _ _
      refine wreg fun K hK=>?_
      simp [C.impl_factors,wrap_succ (show t < 4611686018427387904 by omega)]
      refine hK _ ?_;clear hK K
      simp [C.impl_factors]
      exact hR4 (t+1,(w:Int)*g0 den P[t]) ⟨ht,hstep⟩ (by dsimp only;omega)
     ·have htP:t=P.length:=by have:=d_f hc9;omega
      rw [htP] at hC
      refine wexit ?_
      show AWp _ _ _ _ _
      refine wseq ?_
      refine wreg fun K hK=>?_
      simp [C.impl_factors]
      refine hK _ ?_;clear hK K
      show AWp _ _ _ _ _
      refine wseq ?_
      refine wseq ?_
      refine wreg fun K hK=>?_
      simp [C.impl_factors]
      refine hK _ ?_;clear hK K
      show AWp _ _ _ _ _
      refine wblock ?_
      refine wloop (fun x:Nat×List Int×Int=>⟨ofL [(1,.pt (1,0) [] 0),(3,.al (3,0) [] 0 n),(4,.al (4,0) [] 0 n),(5,.al (5,0) [] 0 n),(7,.al (7,0) [] 0 (P).length),(16,.int c),(19,.int x.2.2),(34,.int n),(35,.int (s:Nat)),(178,.al (7,0) [] 0 P.length),(179,.int P.length),(180,.int x.1)],ofRO [((1,0),some (.bx [D.int n,D.int m.r,shI m.d])),((3,0),some (.ow 1 n (ints num))),((4,0),some (.ow 1 n (ints den))),((5,0),some (.ow 1 n (ints x.2.1))),((7,0),some (.ow 1 (P).length (ints (cN P))))]⟩) (fun x=>x.1<=P.length/\WJ c num den P out x.1 x.2.1 x.2.2/\x.2.2 < 4611686018427387904) (fun x=>P.length - x.1) (0,out,0) (by simp [C.impl_factors]) ⟨by simp,WJ.start c num den P out,by simp⟩ ?_
      intro x5 hx5 R5 hR5
      obtain ⟨t5,o,g⟩:=x5
      obtain ⟨ht0',hW,hgb⟩:=hx5
      dsimp only at ht0' hW hgb ⊢
      refine wseq ?_
      refine wreg fun K hK=>?_
      simp [C.impl_factors]
      refine hK _ ?_;clear hK K
      show AWp _ _ _ _ _
      refine wseq ?_
      refine wcond _ rfl (fun hc10=>?_) (fun hc10=>?_)
      ·have ht:t5 < P.length:=by have:=d_t hc10;omega
       have hin:=hBJ.pl _ (List.getElem_mem ht)
       have hws:=wM_spec hC hBJ hn5.2 hPn (List.getElem_mem ht)
       have hdp:=hBJ.pos _ (List.getElem_mem ht)
       have hol:o.length=n:=by rw [hW.len,hO.lo]
       have hwd:wM c num den P[t5]=c.tdiv (g0 den P[t5])*g0 num P[t5]:=rfl
       have hstep:=hW.step ht (by rw [hO.lo];exact hin) hws.2.2.1
       have hg0:=hW.g0'.1
       have hcall:=impl_gcd_c g (wM c num den P[t5]) (by omega) (by have:=hws.2.2.2.1;omega)
       have hgw:(Int.gcd g (wM c num den P[t5]):Int) < 4611686018427387904:=by
        have h1:Int.gcd g (wM c num den P[t5]) ∣ (wM c num den P[t5]).natAbs:=Nat.gcd_dvd_right _ _
        have h2:=Nat.le_of_dvd (by have:=hws.2.2.1;omega) h1
        have:=hws.2.2.2.1
        omega
       have hwA:IntKind.i64.wrap (c.tdiv (g0 den P[t5]))=c.tdiv (g0 den P[t5]):=by have:=hws.1;have:=hws.2.1;exact wrapOk (by omega) (by omega)
       have hwB:IntKind.i64.wrap (wM c num den P[t5])=wM c num den P[t5]:=by have:=hws.2.2.1;have:=hws.2.2.2.1;exact wrapOk (by omega) (by omega)
       have hog:g0 (o.set P[t5] (wM c num den P[t5])) P[t5]=wM c num den P[t5]:=by rw [g0_set _ _ _ _ (by omega),if_pos rfl]
       have hdz:g0 den P[t5]≠0:=by omega
       refine wskip ?_
       show AWp _ _ _ _ _
       refine wseq ?_
       refine wblock ?_
       refine wseq ?_
       refine wreg fun K hK=>?_
       simp [C.impl_factors,show ((t5:Int) < P.length) by omega,ht,get_ints,cN_get ht]
       refine hK _ ?_;clear hK K
       show AWp _ _ _ _ _
       refine wseq ?_
       refine wdrawI [(true,0),(true,1),(true,2),(true,3),(true,4),(true,5),(true,6),(true,7),(true,8),(true,9),(true,10),(true,11),(true,12),(true,13),(false,14)] ⟨by kernel_rfl,by kernel_rfl⟩ ([0,1,2,3,4,5,6,7,8,9,10,11,12,13,14]) rfl fun K hK=>?_
       refine oEn fun L hL=>?_
       simp [C.impl_factors,show ((P[t5]:Int) < n) by omega,hin,hln,hld,hol,get_ints,g0_get,hdz,hwA,<-hwd,hwB]
       refine hL _ ?_;clear hL L
       simp [C.impl_factors,show ((P[t5]:Int) < n) by omega,hin,hln,hld,hol,get_ints,g0_get,hdz,hwA,<-hwd,hwB]
       refine hK _ ?_;clear hK K
       show AWp _ _ _ _ _
       refine wregI ([0,1,2,3,4,5] ++ ([6])) rfl fun K hK=>?_
       refine oSg fun L hL=>?_
       simp [C.impl_factors,show ((P[t5]:Int) < n) by omega,hin,hol,get_ints,g0_get,hog]
       refine wcall1 (hcall) (by simp) (by simp) ?_
       simp [C.impl_factors,show ((P[t5]:Int) < n) by omega,hin,hol,get_ints,g0_get,hog]
       refine hL _ ?_;clear hL L
       refine oEn fun L hL=>?_
       simp [C.impl_factors,show ((P[t5]:Int) < n) by omega,hin,hol,get_ints,g0_get,hog]
       refine hL _ ?_;clear hL L
       simp [C.impl_factors,show ((P[t5]:Int) < n) by omega,hin,hol,get_ints,g0_get,hog]
       refine hK _ ?_;clear hK K
       show AWp _ _ _ _ _
       refine wreg fun K hK=>?_
       simp [C.impl_factors,wrap_succ (show t5 < 4611686018427387904 by omega)]
       refine hK _ ?_;clear hK K
       simp [C.impl_factors]
       exact hR5 (t5+1,o.set P[t5] (wM c num den P[t5]),_) ⟨ht,hstep,hgw⟩ (by dsimp only;omega)
      ·have ht5:t5=P.length:=by have:=d_f hc10;omega
       rw [ht5] at hW
       have hgp:0 < g:=hW.g0'.2 (List.length_pos_of_mem (List.mem_of_getElem? hBJ.hd))
       refine wexit ?_
       show AWp _ _ _ _ _
       refine wseq ?_
       refine wreg fun K hK=>?_
       simp [C.impl_factors]
       refine hK _ ?_;clear hK K
       show AWp _ _ _ _ _
       refine wblock ?_
       refine wloop (fun x:Nat×List Int=>⟨ofL [(1,.pt (1,0) [] 0),(3,.al (3,0) [] 0 n),(4,.al (4,0) [] 0 n),(5,.al (5,0) [] 0 n),(19,.int g),(34,.int n),(35,.int (s:Nat)),(205,.al (205,0) [] 0 P.length),(206,.int P.length),(207,.int x.1)],ofRO [((1,0),some (.bx [D.int n,D.int m.r,shI m.d])),((3,0),some (.ow 1 n (ints num))),((4,0),some (.ow 1 n (ints den))),((5,0),some (.ow 1 n (ints x.2))),((205,0),some (.ow 1 (P).length (ints (cN P))))]⟩) (fun x=>x.1<=P.length/\VJ (wM c num den) g P out x.1 x.2) (fun x=>P.length - x.1) (0,o) (by simp [C.impl_factors]) ⟨by simp,VJ.start hW⟩ ?_
       intro x6 hx6 R6 hR6
       obtain ⟨t6,o6⟩:=x6
       obtain ⟨ht0'',hV⟩:=hx6
       dsimp only at ht0'' hV ⊢
       refine wseq ?_
       refine wreg fun K hK=>?_
       simp [C.impl_factors]
       refine hK _ ?_;clear hK K
       show AWp _ _ _ _ _
       refine wseq ?_
       refine wcond _ rfl (fun hc11=>?_) (fun hc11=>?_)
       ·have ht:t6 < P.length:=by have:=d_t hc11;omega
        have hin:=hBJ.pl _ (List.getElem_mem ht)
        have hws:=wM_spec hC hBJ hn5.2 hPn (List.getElem_mem ht)
        obtain ⟨hv1,hv2⟩:=hV.step hBJ.pn ht (by rw [hO.lo];exact hin)
        have hol:o6.length=n:=by rw [hV.len,hO.lo]
        have hwd:IntKind.i64.wrap ((wM c num den P[t6]).tdiv g)=(wM c num den P[t6]).tdiv g:=by
         have h1:((wM c num den P[t6]).tdiv g).natAbs<=(wM c num den P[t6]).natAbs:=by
          rw [Int.natAbs_tdiv]
          exact Nat.div_le_self _ _
         have:=hws.2.2.1
         have:=hws.2.2.2.1
         exact wrapOk (by omega) (by omega)
        refine wskip ?_
        show AWp _ _ _ _ _
        refine wseq ?_
        refine wblock ?_
        refine wseq ?_
        refine wreg fun K hK=>?_
        simp [C.impl_factors,show ((t6:Int) < P.length) by omega,ht,get_ints,cN_get ht]
        refine hK _ ?_;clear hK K
        show AWp _ _ _ _ _
        refine wreg fun K hK=>?_
        simp [C.impl_factors,show ((P[t6]:Int) < n) by omega,hin,hol,get_ints,g0_get,hv1,show g≠0 by omega,hwd]
        refine hK _ ?_;clear hK K
        show AWp _ _ _ _ _
        refine wreg fun K hK=>?_
        simp [C.impl_factors,wrap_succ (show t6 < 4611686018427387904 by omega)]
        refine hK _ ?_;clear hK K
        simp [C.impl_factors]
        exact hR6 (t6+1,_) ⟨ht,hv2⟩ (by dsimp only;omega)
       ·have ht6:t6=P.length:=by have:=d_f hc11;omega
        rw [ht6] at hV
        have hgrow:=hO.grow hBJ hn5.2 hPn hC hW hV
        refine wexit ?_
        show AWp _ _ _ _ _
        refine wreg fun K hK=>?_
        simp [C.impl_factors,wrap_succ (show s < 4611686018427387904 by omega)]
        refine hK _ ?_;clear hK K
        simp [C.impl_factors]
        refine hR1 (s+1,num,den,o6,old ++ P) ⟨h1,⟨hln,hld⟩,fun i hi=>?_,hgrow,fun i hi=>?_⟩ (by dsimp only;omega)
        ·dsimp only
         rw [hBJ.mem i hi,List.mem_append]
        ·dsimp only at hi ⊢
         rw [List.mem_append]
         by_cases e:i=s
         ·right
          rw [e]
          exact List.mem_of_getElem? hBJ.hd
         ·exact .inl (hall i (by omega))
  ·have hsn:s=n:=by have:=d_f hc1;omega
   subst hsn
   have hmin:=hO.min hall
   have hol:=hO.lo
   refine wexit ?_
   show AWp _ _ _ _ _
   refine wseq ?_
   refine wreg fun K hK=>?_
   simp [C.impl_factors]
   refine hK _ ?_;clear hK K
   show AWp _ _ _ _ _
   refine wret ?_
   simp [C.impl_factors]
   exact ⟨out,hmin,hol.symm,rfl⟩
 clear hK
 simp [C.impl_factors,zeros_ints,show (8:Int)*n<=281474976710656 by omega,show (n:Int)<=281474976710656 by omega]
 exact hJ
theorem factors_c (m:Mat) (hS:ShM m):ACalls Tryz.prog F.impl_factors [aM m] [] true (fun outs res=>outs=[]/\((∃ l,MinSol m.n.toNat (bM m) l/\res=[.one (owI l)])\/((∀ d,¬ Sol m.n.toNat (bM m) d)/\res=[.one (.v (.slice none 0 0))]))):=by
 obtain ⟨n,hn⟩:∃ n:Nat,m.n=n:=⟨m.n.toNat,by have:=hS.1;omega⟩
 have h:=impl_factors_c m n hn hS
 have e:aM m = .ag [.int n,.int m.r,.d (shI m.d)]:=by rw [<-hn]
 rw [e,show m.n.toNat=n by omega]
 exact h
end Go.Proofs.YtbhkonnakkhibaaGreat.Ab
namespace Go.Proofs.YtbhkonnakkhibaaGreat.Ab
open Go
set_option maxRecDepth 10000
set_option maxHeartbeats 2000000
theorem natbeq (a b:Nat):((a:Int) == (b:Int))=decide (a=b):=by rw [Bool.eq_iff_iff];simp <;> omega
theorem notAny (l:List Int):(!(l.any fun x=>!decide (-99<=x) || !decide (x<=99)))=decide (∀ x∈l,-99<=x/\x<=99):=by
 rw [Bool.eq_iff_iff];simp [List.any_eq_true]
theorem factors_some {m:Mat} (hS:ShM m) {l:List Int} (h:MinSol m.n.toNat (bM m) l):ACalls Tryz.prog F.impl_factors [aM m] [] true (fun outs res=>outs=[]/\res=[.one (owI l)]):=
 (factors_c m hS).mono fun outs res ⟨h1,h2⟩=>by
  refine ⟨h1,?_⟩
  rcases h2 with ⟨k,hk,h2⟩ | ⟨hno,_⟩
  ·rw [h2,hk.uniq h]
  ·exact absurd h.2.1 (hno _)
theorem factors_none {m:Mat} (hS:ShM m) (h:∀ l,¬ MinSol m.n.toNat (bM m) l):ACalls Tryz.prog F.impl_factors [aM m] [] true (fun outs res=>outs=[]/\(∀ d,¬ Sol m.n.toNat (bM m) d)/\res=[.one (.v (.slice none 0 0))]):=
 (factors_c m hS).mono fun outs res ⟨h1,h2⟩=>by
  rcases h2 with ⟨k,hk,h2⟩ | ⟨hno,h2⟩
  ·exact absurd hk (h k)
  ·exact ⟨h1,hno,h2⟩
theorem impl_shapedG_c (m:Mat) (hx:m.d.length < 17592186044416):ACalls Tryz.prog F.impl_shaped [aM m] [] true (fun outs res=>outs=[]/\res=[.one (D.bool (decide (ShM m)))]):=by
 refine ACalls.of_body (C:=C.impl_shaped) (n:=Tryz.f154.ntmps) tabT folT Tryz.func154 rfl (by kernel_rfl) rfl (Nat.le_of_ble_eq_true rfl) (by decide) (by kernel_rfl) (by kernel_rfl) rfl (by simp) (by simp) ?_
 simp only [Tryz.f154]
 refine wseq ?_
 refine wreg fun K hK=>?_
 simp [C.impl_shaped]
 refine hK _ ?_;clear hK K
 show AWp _ _ _ _ _
 refine wseq ?_
 refine wregI ([0,1,2] ++ ([3,4,5,6,7,8] ++ ([9,10,11,12,13,14,15,16,17,18,19,20,21,22,23,24] ++ ([25,26,27])))) rfl fun K hK=>?_
 have hJ:K ⟨ofL [(2,.bool (decide (ShM m)))],ofRO []⟩:=by
  refine hK _ ?_;clear hK K
  show AWp _ _ _ _ _
  refine wret ?_
  simp [C.impl_shaped]
 clear hK
 by_cases h1:1<=m.n/\m.n<=5
 ·by_cases h2:m.n<=m.r/\m.r<=8
  ·by_cases h3:(m.d.length:Int)=m.n*m.r
   ·have hnr:IntKind.i64.wrap (m.n*m.r)=m.n*m.r:=by
     have h4:m.n*m.r<=5*8:=Int.mul_le_mul (by omega) (by omega) (by omega) (by omega)
     have h5:0<=m.n*m.r:=Int.mul_nonneg (by omega) (by omega)
     exact wrapOk (by omega) (by omega)
    refine oSg fun L hL=>?_
    simp [C.impl_shaped,hnr,h1,h2,h3]
    refine wcall1 (impl_within_c m.n 1 5) (by simp) (by simp) ?_
    simp [C.impl_shaped,hnr,h1,h2,h3]
    refine hL _ ?_;clear hL L
    refine oSg fun L hL=>?_
    simp [C.impl_shaped,hnr,h1,h2,h3]
    refine wcall1 (impl_within_c m.r m.n 8) (by simp) (by simp) ?_
    simp [C.impl_shaped,hnr,h1,h2,h3]
    refine hL _ ?_;clear hL L
    refine oSg fun L hL=>?_
    simp [C.impl_shaped,hnr,h1,h2,h3]
    refine wcall1 (slices_ContainsFunc_int_int_c m.d _ (fun x=>!decide (-99<=x/\x<=99)) (by omega) rfl (fun x _=>impl_shaped_1_c x)) (by simp) (by simp) ?_
    simp [C.impl_shaped,hnr,h1,h2,h3]
    refine hL _ ?_;clear hL L
    refine oEn fun L hL=>?_
    simp [C.impl_shaped,hnr,h1,h2,h3]
    refine hL _ ?_;clear hL L
    simp [C.impl_shaped,hnr,h1,h2,h3]
    refine cast (congrArg K ?_) hJ
    simp [ShM,notAny,h1,h2,h3]
   ·have hnr:IntKind.i64.wrap (m.n*m.r)=m.n*m.r:=by
     have h4:m.n*m.r<=5*8:=Int.mul_le_mul (by omega) (by omega) (by omega) (by omega)
     have h5:0<=m.n*m.r:=Int.mul_nonneg (by omega) (by omega)
     exact wrapOk (by omega) (by omega)
    refine oSg fun L hL=>?_
    simp [C.impl_shaped,hnr,h1,h2,h3]
    refine wcall1 (impl_within_c m.n 1 5) (by simp) (by simp) ?_
    simp [C.impl_shaped,hnr,h1,h2,h3]
    refine hL _ ?_;clear hL L
    refine oSg fun L hL=>?_
    simp [C.impl_shaped,hnr,h1,h2,h3]
    refine wcall1 (impl_within_c m.r m.n 8) (by simp) (by simp) ?_
    simp [C.impl_shaped,hnr,h1,h2,h3]
    refine hL _ ?_;clear hL L
    refine oSg fun L hL=>?_
    simp [C.impl_shaped,hnr,h1,h2,h3]
    refine hL _ ?_;clear hL L
    refine oEn fun L hL=>?_
    simp [C.impl_shaped,hnr,h1,h2,h3]
    refine hL _ ?_;clear hL L
    simp [C.impl_shaped,hnr,h1,h2,h3]
    refine cast (congrArg K ?_) hJ
    simp [ShM,h1,h2,h3]
  ·refine oSg fun L hL=>?_
   simp [C.impl_shaped,h1,h2]
   refine wcall1 (impl_within_c m.n 1 5) (by simp) (by simp) ?_
   simp [C.impl_shaped,h1,h2]
   refine hL _ ?_;clear hL L
   refine oSg fun L hL=>?_
   simp [C.impl_shaped,h1,h2]
   refine wcall1 (impl_within_c m.r m.n 8) (by simp) (by simp) ?_
   simp [C.impl_shaped,h1,h2]
   refine hL _ ?_;clear hL L
   refine oSg fun L hL=>?_
   simp [C.impl_shaped,h1,h2]
   refine hL _ ?_;clear hL L
   refine oEn fun L hL=>?_
   simp [C.impl_shaped,h1,h2]
   refine hL _ ?_;clear hL L
   simp [C.impl_shaped,h1,h2]
   refine cast (congrArg K ?_) hJ
   simp [ShM,h1,h2]
 ·refine oSg fun L hL=>?_
  simp [C.impl_shaped,h1]
  refine wcall1 (impl_within_c m.n 1 5) (by simp) (by simp) ?_
  simp [C.impl_shaped,h1]
  refine hL _ ?_;clear hL L
  refine oSg fun L hL=>?_
  simp [C.impl_shaped,h1]
  refine hL _ ?_;clear hL L
  refine oSg fun L hL=>?_
  simp [C.impl_shaped,h1]
  refine hL _ ?_;clear hL L
  refine oEn fun L hL=>?_
  simp [C.impl_shaped,h1]
  refine hL _ ?_;clear hL L
  simp [C.impl_shaped,h1]
  refine cast (congrArg K ?_) hJ
  simp [ShM,h1]
theorem impl_MatrixOkG_c (m:Mat) (hx:m.d.length < 17592186044416):ACalls Tryz.prog F.impl_MatrixOk [aM m] [] true (fun outs res=>outs=[]/\res=[.one (D.bool (decide (MatOK m)))]):=by
 refine ACalls.of_body (C:=C.impl_MatrixOk) (n:=Tryz.f81.ntmps) tabT folT Tryz.func81 rfl (by kernel_rfl) rfl (Nat.le_of_ble_eq_true rfl) (by decide) (by kernel_rfl) (by kernel_rfl) rfl (by simp) (by simp) ?_
 simp only [Tryz.f81]
 refine wseq ?_
 refine wreg fun K hK=>?_
 simp [C.impl_MatrixOk]
 refine hK _ ?_;clear hK K
 show AWp _ _ _ _ _
 refine wseq ?_
 refine wregI ([0,1] ++ ([2,3,4] ++ ([5,6,7]))) rfl fun K hK=>?_
 have hJ:K ⟨ofL [(2,.bool (decide (MatOK m)))],ofRO []⟩:=by
  refine hK _ ?_;clear hK K
  show AWp _ _ _ _ _
  refine wret ?_
  simp [C.impl_MatrixOk]
 clear hK
 by_cases h1:ShM m
 ·by_cases h2:∃ l,MinSol m.n.toNat (bM m) l
  ·obtain ⟨l,hl⟩:=h2
   have h2:∃ d,Sol m.n.toNat (bM m) d:=⟨_,hl.2.1⟩
   have hlne:l≠[]:=fun e=>by
    have h3:=hl.1
    rw [e] at h3
    have:=h1.1
    simp at h3
    omega
   refine oSg fun L hL=>?_
   simp [C.impl_MatrixOk,hlne,h1,h2]
   refine wcall1 (impl_shapedG_c m hx) (by simp) (by simp) ?_
   simp [C.impl_MatrixOk,hlne,h1,h2]
   refine hL _ ?_;clear hL L
   refine oSg fun L hL=>?_
   simp [C.impl_MatrixOk,hlne,h1,h2]
   refine wcall1 (factors_some h1 hl) (by simp) (by simp) ?_
   simp [C.impl_MatrixOk,hlne,h1,h2]
   refine hL _ ?_;clear hL L
   refine oEn fun L hL=>?_
   simp [C.impl_MatrixOk,hlne,h1,h2]
   refine hL _ ?_;clear hL L
   simp [C.impl_MatrixOk,hlne,h1,h2]
   refine cast (congrArg K ?_) hJ
   simp [MatOK,h1,h2]
  ·refine oSg fun L hL=>?_
   simp [C.impl_MatrixOk,h1,h2]
   refine wcall1 (impl_shapedG_c m hx) (by simp) (by simp) ?_
   simp [C.impl_MatrixOk,h1,h2]
   refine hL _ ?_;clear hL L
   refine oSg fun L hL=>?_
   simp [C.impl_MatrixOk,h1,h2]
   refine wcall (factors_none h1 (fun l hl=>h2 ⟨l,hl⟩)) (by simp) (by simp) (by simp) ?_
   rintro outs res ⟨rfl,hno,rfl⟩
   simp [C.impl_MatrixOk,h1,h2]
   refine hL _ ?_;clear hL L
   refine oEn fun L hL=>?_
   simp [C.impl_MatrixOk,h1,h2]
   refine hL _ ?_;clear hL L
   simp [C.impl_MatrixOk,h1,h2]
   refine cast (congrArg K ?_) hJ
   simp [MatOK,hno,h1,h2]
 ·refine oSg fun L hL=>?_
  simp [C.impl_MatrixOk,h1]
  refine wcall1 (impl_shapedG_c m hx) (by simp) (by simp) ?_
  simp [C.impl_MatrixOk,h1]
  refine hL _ ?_;clear hL L
  refine oSg fun L hL=>?_
  simp [C.impl_MatrixOk,h1]
  refine hL _ ?_;clear hL L
  refine oEn fun L hL=>?_
  simp [C.impl_MatrixOk,h1]
  refine hL _ ?_;clear hL L
  simp [C.impl_MatrixOk,h1]
  refine cast (congrArg K ?_) hJ
  simp [MatOK,h1]
theorem impl_mutated_c (m:Mat) (n r k:Nat) (hn:m.n=n) (hr:m.r=r) (hS:ShM m) (hk:k < n):ACalls Tryz.prog F.impl_mutated [.ag [.int n,.int r,.d (shI m.d)],.int k] [] true (fun outs res=>outs=[]/\res=[.ag (mO (muM m k))]):=by
 have hn5:1<=n/\n<=5:=by have:=hS.1;omega
 have hnr:n<=r/\r<=8:=by have:=hS.2.1;omega
 have hnn:m.n.toNat=n:=by omega
 have hL:m.d.length=r*n:=by
  have h1:=hS.2.2.1
  rw [hn,hr,<-Int.natCast_mul,Nat.mul_comm] at h1
  omega
 have hL40:m.d.length<=40:=by
  rw [hL]
  exact Nat.le_trans (Nat.mul_le_mul hnr.2 hn5.2) (by omega)
 refine ACalls.of_body (C:=C.impl_mutated) (n:=Tryz.f129.ntmps) tabT folT Tryz.func129 rfl (by kernel_rfl) rfl (Nat.le_of_ble_eq_true rfl) (by decide) (by kernel_rfl) (by kernel_rfl) rfl (by simp) (by simp) ?_
 simp only [Tryz.f129]
 refine wseq ?_
 refine wreg fun K hK=>?_
 simp [C.impl_mutated]
 refine hK _ ?_;clear hK K
 show AWp _ _ _ _ _
 refine wseq ?_
 refine wdraw (.take 0 (.take 1 (.take 2 (.take 3 (.take 4 (.take 5 (.all [(6,.take 7 (.all [(8,.all [(9,.done)])])),(8,.all [(6,.take 7 (.all [(9,.done)]))])]))))))) ⟨by kernel_rfl,by kernel_rfl⟩ fun K hK=>?_
 have hJ:K ⟨ofL [(1,.int k),(2,.pt (2,0) [] 0),(4,.pt (4,0) [] 0),(5,.pt (5,0) [] 0)],ofRO [((2,0),some (.bx [D.int n,D.int r,shI m.d])),((4,0),some (.bx [D.int 0,D.int 0,.v (.slice none 0 0)])),((5,0),some (.bx [D.int n,D.int r,owI m.d]))]⟩:=by
  refine hK _ ?_;clear hK K
  show AWp _ _ _ _ _
  refine wseq ?_
  refine wseq ?_
  refine wreg fun K hK=>?_
  simp [C.impl_mutated]
  refine hK _ ?_;clear hK K
  show AWp _ _ _ _ _
  refine wblock ?_
  refine wloop (fun x:Nat=>⟨ofL [(1,.int k),(2,.pt (2,0) [] 0),(4,.pt (4,0) [] 0),(5,.pt (5,0) [] 0),(6,.int x)],ofRO [((2,0),some (.bx [D.int n,D.int r,shI m.d])),((4,0),some (.bx [D.int 0,D.int 0,.v (.slice none 0 0)])),((5,0),some (.bx [D.int n,D.int r,.ow 1 m.d.length (ints ((muD m k).take (x*n) ++ m.d.drop (x*n)))]))]⟩) (fun x=>x<=r) (fun x=>r - x) 0 (by simp [C.impl_mutated]) (by simp) ?_
  intro x1 hx1 R1 hR1
  refine wseq ?_
  refine wseq ?_
  refine wreg fun K hK=>?_
  simp [C.impl_mutated]
  refine hK _ ?_;clear hK K
  show AWp _ _ _ _ _
  refine wcond _ rfl (fun hc1=>?_) (fun hc1=>?_)
  ·have hi:x1 < r:=by have:=d_t hc1;omega
   refine wskip ?_
   show AWp _ _ _ _ _
   refine wseq ?_
   refine wblock ?_
   refine wseq ?_
   refine wreg fun K hK=>?_
   simp [C.impl_mutated]
   refine hK _ ?_;clear hK K
   show AWp _ _ _ _ _
   refine wblock ?_
   refine wloop (fun x:Nat=>⟨ofL [(1,.int k),(2,.pt (2,0) [] 0),(4,.pt (4,0) [] 0),(5,.pt (5,0) [] 0),(6,.int x1),(7,.int x)],ofRO [((2,0),some (.bx [D.int n,D.int r,shI m.d])),((4,0),some (.bx [D.int 0,D.int 0,.v (.slice none 0 0)])),((5,0),some (.bx [D.int n,D.int r,.ow 1 m.d.length (ints ((muD m k).take (x1*n+x) ++ m.d.drop (x1*n+x)))]))]⟩) (fun x=>x<=n) (fun x=>n - x) 0 (by simp [C.impl_mutated]) (by simp) ?_
   intro x2 hx2 R2 hR2
   refine wseq ?_
   refine wseq ?_
   refine wreg fun K hK=>?_
   simp [C.impl_mutated]
   refine hK _ ?_;clear hK K
   show AWp _ _ _ _ _
   refine wcond _ rfl (fun hc2=>?_) (fun hc2=>?_)
   ·have hj:x2 < n:=by have:=d_t hc2;omega
    obtain ⟨q,hq⟩:∃ q,q=x1*n+x2:=⟨_,rfl⟩
    have hqe:(x1:Int)*n+x2=(q:Int):=by rw [hq];simp
    have hqL:q < m.d.length:=by
     rw [hL,hq]
     have h1:(x1+1)*n<=r*n:=Nat.mul_le_mul_right _ (by omega)
     rw [Nat.add_mul] at h1
     omega
    have hq0:IntKind.i64.wrap ((x1:Int)*n)=(x1:Int)*n:=by
     have:(x1:Int)*n=((x1*n:Nat):Int):=by simp
     rw [this]
     exact wrapOk (by omega) (by omega)
    have hq1:IntKind.i64.wrap ((x1:Int)*n+x2)=(q:Int):=by rw [hqe];exact wrapOk (by omega) (by omega)
    have hg:=mix_get (muD m k) m.d q hqL (by simp)
    have hst:=mix_set (muD m k) m.d q (by simpa using hqL) (by simp)
    have hmu:(muD m k)[q]'(by simpa using hqL)=muE (bM m) k x1 x2:=by
     have:=muD_get m k x1 x2 (by omega) (by rw [hnn,<-hq];exact hqL)
     simp only [hnn,<-hq] at this
     exact this
    have hdq:m.d[q]=bM m x1 x2:=by
     obtain ⟨h1,h2⟩:=bM_get hS (i:=x1) (j:=x2) (by omega) (by omega)
     rw [<-h2]
     congr 1
     rw [hnn,hq]
    rw [hmu] at hst
    rw [<-hq]
    have hml:((muD m k).take q ++ m.d.drop q).length=m.d.length:=by simp;omega
    generalize hM:(muD m k).take q ++ m.d.drop q=M at hg hst hml
    have hMq:M[q]'(by omega)=bM m x1 x2:=by
     rw [List.getElem?_eq_getElem (by omega)] at hg
     injection hg with hg
     rw [hg,hdq]
    have b0:=bM_bd hS x1 x2
    have b1:=bM_bd hS x1 k
    have b2:=bM_bd hS k x2
    have hat1:=at_c hn hS (i:=x1) (j:=k) (by omega) hk
    have hat2:=at_c hn hS (i:=k) (j:=x2) (by omega) hj
    rw [hr] at hat1 hat2
    obtain ⟨A,hA⟩:∃ A,A=bM m x1 k:=⟨_,rfl⟩
    obtain ⟨B,hB⟩:∃ B,B=bM m k x2:=⟨_,rfl⟩
    obtain ⟨X,hX⟩:∃ X,X=bM m x1 x2:=⟨_,rfl⟩
    have hmuv:muE (bM m) k x1 x2=if x1=k\/x2=k then -X else if 0 < A/\0 < B then X+A*B else if A < 0/\B < 0 then X - A*B else X:=by rw [hA,hB,hX];rfl
    rw [hmuv] at hst
    rw [<-hA] at hat1 b1
    rw [<-hB] at hat2 b2
    rw [<-hX] at hMq b0
    have hab:(A*B).natAbs<=99*99:=by rw [Int.natAbs_mul];exact Nat.mul_le_mul b1 b2
    clear hmuv hA hB hX hmu hdq hM
    have hwab:IntKind.i64.wrap (A*B)=A*B:=wrapOk (by omega) (by omega)
    refine wskip ?_
    show AWp _ _ _ _ _
    refine wseq ?_
    refine wblock ?_
    refine wseq ?_
    refine wreg fun K hK=>?_
    simp [C.impl_mutated,hq0,hq1,show (q:Int) < m.d.length by omega,hqL]
    refine hK _ ?_;clear hK K
    show AWp _ _ _ _ _
    refine wseq ?_
    refine wdrawI [(true,0),(true,1),(true,2),(true,4),(true,5),(true,6),(false,3),(false,7),(true,8),(true,9)] ⟨by kernel_rfl,by kernel_rfl⟩ ([0,1,2,4,5,6,3] ++ ([7] ++ ([8,9]))) rfl fun K hK=>?_
    refine oSg fun L hL=>?_
    simp [C.impl_mutated]
    refine wcall1 (hat1) (by simp) (by simp) ?_
    simp [C.impl_mutated]
    refine hL _ ?_;clear hL L
    refine oSg fun L hL=>?_
    simp [C.impl_mutated]
    refine wcall1 (hat2) (by simp) (by simp) ?_
    simp [C.impl_mutated]
    refine hL _ ?_;clear hL L
    refine oEn fun L hL=>?_
    simp [C.impl_mutated]
    refine hL _ ?_;clear hL L
    simp [C.impl_mutated]
    refine hK _ ?_;clear hK K
    show AWp _ _ _ _ _
    refine wblock ?_
    refine wseq ?_
    refine wreg fun K hK=>?_
    have hJ:K ⟨ofL [(1,.int k),(2,.pt (2,0) [] 0),(4,.pt (4,0) [] 0),(5,.pt (5,0) [] 0),(6,.int x1),(7,.int x2),(8,.pt (5,0) [2] q),(9,.int A),(10,.int B),(48,.bool (decide (x1=k\/x2=k)))],ofRO [((2,0),some (.bx [D.int n,D.int r,shI m.d])),((4,0),some (.bx [D.int 0,D.int 0,.v (.slice none 0 0)])),((5,0),some (.bx [D.int n,D.int r,.ow 1 m.d.length (ints M)]))]⟩:=by
     refine hK _ ?_;clear hK K
     show AWp _ _ _ _ _
     refine wcond _ rfl (fun hc3=>?_) (fun hc3=>?_)
     ·have h3:=d_t hc3
      rw [if_pos h3] at hst
      refine wreg fun K hK=>?_
      simp [C.impl_mutated,get_ints,hml,hqL,hMq,wrapOk (x:=-X) (by omega) (by omega),hst]
      refine hK _ ?_;clear hK K
      show AWp _ _ _ _ _
      refine wreg fun K hK=>?_
      simp [C.impl_mutated,wrap_succ (show x2 < 4611686018427387904 by omega)]
      refine hK _ ?_;clear hK K
      simp [C.impl_mutated]
      refine cast (congrArg R2 ?_) (hR2 (x2+1) hj (by omega))
      simp [<-Nat.add_assoc,<-hq]
     ·have h3:=d_f hc3
      rw [if_neg h3] at hst
      refine wseq ?_
      refine wreg fun K hK=>?_
      have hJ:K ⟨ofL [(1,.int k),(2,.pt (2,0) [] 0),(4,.pt (4,0) [] 0),(5,.pt (5,0) [] 0),(6,.int x1),(7,.int x2),(8,.pt (5,0) [2] q),(9,.int A),(10,.int B),(63,.bool (decide (0 < A/\0 < B)))],ofRO [((2,0),some (.bx [D.int n,D.int r,shI m.d])),((4,0),some (.bx [D.int 0,D.int 0,.v (.slice none 0 0)])),((5,0),some (.bx [D.int n,D.int r,.ow 1 m.d.length (ints M)]))]⟩:=by
       refine hK _ ?_;clear hK K
       show AWp _ _ _ _ _
       refine wcond _ rfl (fun hc4=>?_) (fun hc4=>?_)
       ·have h4:=d_t hc4
        rw [if_pos h4] at hst
        refine wreg fun K hK=>?_
        simp [C.impl_mutated,get_ints,hml,hqL,hMq,hwab,wrapOk (x:=X+A*B) (by omega) (by omega),hst]
        refine hK _ ?_;clear hK K
        show AWp _ _ _ _ _
        refine wreg fun K hK=>?_
        simp [C.impl_mutated,wrap_succ (show x2 < 4611686018427387904 by omega)]
        refine hK _ ?_;clear hK K
        simp [C.impl_mutated]
        refine cast (congrArg R2 ?_) (hR2 (x2+1) hj (by omega))
        simp [<-Nat.add_assoc,<-hq]
       ·have h4:=d_f hc4
        rw [if_neg h4] at hst
        refine wseq ?_
        refine wreg fun K hK=>?_
        have hJ:K ⟨ofL [(1,.int k),(2,.pt (2,0) [] 0),(4,.pt (4,0) [] 0),(5,.pt (5,0) [] 0),(6,.int x1),(7,.int x2),(8,.pt (5,0) [2] q),(9,.int A),(10,.int B),(78,.bool (decide (A < 0/\B < 0)))],ofRO [((2,0),some (.bx [D.int n,D.int r,shI m.d])),((4,0),some (.bx [D.int 0,D.int 0,.v (.slice none 0 0)])),((5,0),some (.bx [D.int n,D.int r,.ow 1 m.d.length (ints M)]))]⟩:=by
         refine hK _ ?_;clear hK K
         show AWp _ _ _ _ _
         refine wcond _ rfl (fun hc5=>?_) (fun hc5=>?_)
         ·have h5:=d_t hc5
          rw [if_pos h5] at hst
          refine wreg fun K hK=>?_
          simp [C.impl_mutated,get_ints,hml,hqL,hMq,hwab,wrapOk (x:=X - A*B) (by omega) (by omega),hst]
          refine hK _ ?_;clear hK K
          show AWp _ _ _ _ _
          refine wreg fun K hK=>?_
          simp [C.impl_mutated,wrap_succ (show x2 < 4611686018427387904 by omega)]
          refine hK _ ?_;clear hK K
          simp [C.impl_mutated]
          refine cast (congrArg R2 ?_) (hR2 (x2+1) hj (by omega))
          simp [<-Nat.add_assoc,<-hq]
         ·have h5:=d_f hc5
          rw [if_neg h5] at hst
          have hMM:M=(muD m k).take (q+1) ++ m.d.drop (q+1):=by
           rw [<-hst]
           refine (List.ext_getElem? fun z=>?_)
           rw [List.getElem?_set]
           split
           ·rename_i e
            subst e
            rw [if_pos (by omega),List.getElem?_eq_getElem (by omega),hMq]
           ·rfl
          refine wskip ?_
          show AWp _ _ _ _ _
          refine wreg fun K hK=>?_
          simp [C.impl_mutated,wrap_succ (show x2 < 4611686018427387904 by omega)]
          refine hK _ ?_;clear hK K
          simp [C.impl_mutated]
          refine cast (congrArg R2 ?_) (hR2 (x2+1) hj (by omega))
          simp [<-Nat.add_assoc,<-hq,<-hMM]
        clear hK
        by_cases h1:A < 0
        ·simp [C.impl_mutated,h1]
         refine cast (congrArg K ?_) hJ
         simp [h1]
        ·simp [C.impl_mutated,h1]
         refine cast (congrArg K ?_) hJ
         simp [h1]
      clear hK
      by_cases h1:0 < A
      ·simp [C.impl_mutated,h1]
       refine cast (congrArg K ?_) hJ
       simp [h1]
      ·simp [C.impl_mutated,h1]
       refine cast (congrArg K ?_) hJ
       simp [h1]
    clear hK
    by_cases h1:x1=k
    ·simp [C.impl_mutated,natbeq,h1]
     refine cast (congrArg K ?_) hJ
     simp [natbeq,h1]
    ·simp [C.impl_mutated,natbeq,h1]
     refine cast (congrArg K ?_) hJ
     simp [natbeq,h1]
   ·have hj:x2=n:=by have:=d_f hc2;omega
    refine wexit ?_
    show AWp _ _ _ _ _
    refine wreg fun K hK=>?_
    simp [C.impl_mutated,wrap_succ (show x1 < 4611686018427387904 by omega)]
    refine hK _ ?_;clear hK K
    simp [C.impl_mutated]
    refine cast (congrArg R1 ?_) (hR1 (x1+1) hi (by omega))
    simp [Nat.add_mul,hj]
  ·have hi:x1=r:=by have:=d_f hc1;omega
   have htk:List.take (x1*n) (muD m k) ++ List.drop (x1*n) m.d=muD m k:=by
    rw [hi,<-hL,List.take_of_length_le (by simp),List.drop_length,List.append_nil]
   refine wexit ?_
   show AWp _ _ _ _ _
   refine wseq ?_
   refine wreg fun K hK=>?_
   simp [C.impl_mutated]
   refine hK _ ?_;clear hK K
   show AWp _ _ _ _ _
   refine wret ?_
   simp [C.impl_mutated,mO,muM,htk,hn,hr]
 clear hK
 simp [C.impl_mutated]
 repeat' first
  | (refine wcall1 (clone_c m.d (by omega)) ?_ (by simp) ?_;(focus (simp;done));simp [C.impl_mutated])
  | (refine cast (congrArg K ?_) hJ;simp;done)
  | refine And.intro ?_ ?_
theorem impl_MutateMatrix_c (m:Mat) (k:Int) (hx:m.d.length < 17592186044416):ACalls Tryz.prog F.impl_MutateMatrix [aM m,.int k] [] true (fun outs res=>outs=[]/\WkRs res [.ag (mO (muF m k).1),.one (D.bool (muF m k).2)]):=by
 refine ACalls.of_body (C:=C.impl_MutateMatrix) (n:=Tryz.f52.ntmps) tabT folT Tryz.func52 rfl (by kernel_rfl) rfl (Nat.le_of_ble_eq_true rfl) (by decide) (by kernel_rfl) (by kernel_rfl) rfl (by simp) (by simp) ?_
 simp only [Tryz.f52]
 refine wseq ?_
 refine wreg fun K hK=>?_
 simp [C.impl_MutateMatrix,mO]
 refine hK _ ?_;clear hK K
 show AWp _ _ _ _ _
 refine wseq ?_
 refine wseq ?_
 refine wregI ([0,1] ++ ([2,3,4,5,6,7,8] ++ ([9,10]))) rfl fun K hK=>?_
 have hJ:K ⟨ofL [(1,.int k),(2,.pt (2,0) [] 0),(4,.pt (4,0) [] 0),(17,.bool (!decide (MatOK m/\(0<=k/\k < m.n))))],ofRO [((2,0),some (.bx [D.int m.n,D.int m.r,shI m.d])),((4,0),some (.bx [D.int 0,D.int 0,.v (.slice none 0 0)]))]⟩:=by
  refine hK _ ?_;clear hK K
  show AWp _ _ _ _ _
  refine wcond _ rfl (fun hc1=>?_) (fun hc1=>?_)
  ·have hr:=nd_t hc1
   have hm:muF m k=(⟨0,0,[]⟩,false):=if_neg (fun h=>hr ⟨h.1,h.2.1⟩)
   refine wseq ?_
   refine wreg fun K hK=>?_
   simp [C.impl_MutateMatrix,mO]
   refine hK _ ?_;clear hK K
   show AWp _ _ _ _ _
   refine wret ?_
   simp [C.impl_MutateMatrix,mO,hm,ints]
  ·have hr:=nd_f hc1
   obtain ⟨hok,hk⟩:=hr
   have hS:=hok.1
   obtain ⟨n,hn⟩:∃ n:Nat,m.n=n:=⟨m.n.toNat,by have:=hS.1;omega⟩
   obtain ⟨r,hr⟩:∃ r:Nat,m.r=r:=⟨m.r.toNat,by have:=hS.1;have:=hS.2.1;omega⟩
   obtain ⟨k,rfl⟩:∃ j:Nat,k=j:=⟨k.toNat,by omega⟩
   have hcall:=impl_mutated_c m n r k hn hr hS (by omega)
   have hm:muF m k=if MatOK (muM m k) then (muM m k,true) else (⟨0,0,[]⟩,false):=by
    unfold muF
    rw [Int.toNat_natCast]
    by_cases q:MatOK (muM m k)
    ·rw [if_pos ⟨hok,hk,q⟩,if_pos q]
    ·rw [if_neg (fun h=>q h.2.2),if_neg q]
   have hml:(muM m k).d.length < 17592186044416:=by
    show (muD m k).length < _
    simpa using hx
   refine wskip ?_
   show AWp _ _ _ _ _
   refine wseq ?_
   refine wregI ([0,1,2] ++ ([3,4])) rfl fun K hK=>?_
   refine oSg fun L hL=>?_
   simp [C.impl_MutateMatrix,mO,hn,hr]
   refine wcall1 (hcall) (by simp) (by simp) ?_
   simp [C.impl_MutateMatrix,mO,hn,hr]
   refine hL _ ?_;clear hL L
   refine oEn fun L hL=>?_
   simp [C.impl_MutateMatrix,mO,hn,hr]
   refine hL _ ?_;clear hL L
   simp [C.impl_MutateMatrix,mO,hn,hr]
   refine hK _ ?_;clear hK K
   show AWp _ _ _ _ _
   refine wseq ?_
   refine wseq ?_
   refine wregI ([0,1] ++ ([2])) rfl fun K hK=>?_
   refine oSg fun L hL=>?_
   simp [C.impl_MutateMatrix,mO]
   refine wcall1 (impl_MatrixOkG_c (muM m k) hml) (by simp) (by simp) ?_
   simp [C.impl_MutateMatrix,mO]
   refine hL _ ?_;clear hL L
   refine oEn fun L hL=>?_
   simp [C.impl_MutateMatrix,mO]
   refine hL _ ?_;clear hL L
   simp [C.impl_MutateMatrix,mO]
   refine hK _ ?_;clear hK K
   show AWp _ _ _ _ _
   refine wcond _ rfl (fun hc2=>?_) (fun hc2=>?_)
   ·have hno:=nd_t hc2
    refine wseq ?_
    refine wreg fun K hK=>?_
    simp [C.impl_MutateMatrix,mO]
    refine hK _ ?_;clear hK K
    show AWp _ _ _ _ _
    refine wret ?_
    simp [C.impl_MutateMatrix,mO,hm,hno,ints]
   ·have hyes:=nd_f hc2
    refine wskip ?_
    show AWp _ _ _ _ _
    refine wseq ?_
    refine wreg fun K hK=>?_
    simp [C.impl_MutateMatrix,mO]
    refine hK _ ?_;clear hK K
    show AWp _ _ _ _ _
    refine wret ?_
    simp [C.impl_MutateMatrix,mO,hm,hyes]
 clear hK
 by_cases h1:MatOK m
 ·have hwn:IntKind.i64.wrap (m.n - 1)=m.n - 1:=by have:=h1.1.1;exact wrapOk (by omega) (by omega)
  have hle:∀ x:Int,(x<=m.n - 1)=(x < m.n):=fun x=>by rw [eq_iff_iff];omega
  refine oSg fun L hL=>?_
  simp [C.impl_MutateMatrix,mO,hwn,hle,h1]
  refine wcall1 (impl_MatrixOkG_c m hx) (by simp) (by simp) ?_
  simp [C.impl_MutateMatrix,mO,hwn,hle,h1]
  refine hL _ ?_;clear hL L
  refine oSg fun L hL=>?_
  simp [C.impl_MutateMatrix,mO,hwn,hle,h1]
  refine wcall1 (impl_within_c k 0 (m.n - 1)) (by simp) (by simp) ?_
  simp [C.impl_MutateMatrix,mO,hwn,hle,h1]
  refine hL _ ?_;clear hL L
  refine oEn fun L hL=>?_
  simp [C.impl_MutateMatrix,mO,hwn,hle,h1]
  refine hL _ ?_;clear hL L
  simp [C.impl_MutateMatrix,mO,hwn,hle,h1]
  refine cast (congrArg K ?_) hJ
  simp [Bool.not_and,mO,h1]
 ·refine oSg fun L hL=>?_
  simp [C.impl_MutateMatrix,mO,h1]
  refine wcall1 (impl_MatrixOkG_c m hx) (by simp) (by simp) ?_
  simp [C.impl_MutateMatrix,mO,h1]
  refine hL _ ?_;clear hL L
  refine oSg fun L hL=>?_
  simp [C.impl_MutateMatrix,mO,h1]
  refine hL _ ?_;clear hL L
  refine oEn fun L hL=>?_
  simp [C.impl_MutateMatrix,mO,h1]
  refine hL _ ?_;clear hL L
  simp [C.impl_MutateMatrix,mO,h1]
  refine cast (congrArg K ?_) hJ
  simp [Bool.not_and,mO,h1]
theorem iMu_c (m:Mat) (k:Int) (hx:m.d.length < 17592186044416):ACalls Tryz.prog F.impl_MutateMatrix [aM m,.int k] [] true (fun outs res=>outs=[]/\res=[.ag (mO (muF m k).1),.one (D.bool (muF m k).2)]):=(impl_MutateMatrix_c m k hx).weak1
end Go.Proofs.YtbhkonnakkhibaaGreat.Ab
namespace Go.Proofs.YtbhkonnakkhibaaGreat.Ab
open Go
set_option maxRecDepth 10000
set_option maxHeartbeats 2000000
def prk (k:Int) (t:Trm):List Int×Int:=(t.e,k*t.c)
noncomputable def addF (f:Lau) (k:Int) (g:Lau):Lau×Bool:=if (Right f/\Right g/\f.v=g.v)/\(-1000<=k/\k<=1000) then shutF f.v (f.ts.map pr ++ g.ts.map (prk k)) else (zeroF,false)
theorem impl_AddLaurents_c (f:Lau) (k:Int) (g:Lau) (hx:f.ts.length < 4611686018427387904) (hxe:∀ t∈f.ts,t.e.length < 4611686018427387904) (hy:g.ts.length < 4611686018427387904) (hye:∀ t∈g.ts,t.e.length < 4611686018427387904):ACalls Tryz.prog F.impl_AddLaurents [aF f,.int k,aF g] [] true (fun outs res=>outs=[]/\WkRs res [.ag (fO (addF f k g).1),.one (D.bool (addF f k g).2)]):=by
 refine ACalls.of_body (C:=C.impl_AddLaurents) (n:=Tryz.f87.ntmps) tabT folT Tryz.func87 rfl (by kernel_rfl) rfl (Nat.le_of_ble_eq_true rfl) (by decide) (by kernel_rfl) (by kernel_rfl) rfl (by simp) (by simp) ?_
 simp only [Tryz.f87]
 refine wseq ?_
 refine wreg fun K hK=>?_
 simp [C.impl_AddLaurents,fS]
 refine hK _ ?_;clear hK K
 show AWp _ _ _ _ _
 refine wseq ?_
 refine wseq ?_
 refine wregI ([0,1,2] ++ ([3,4,5,6] ++ ([7,8]))) rfl fun K hK=>?_
 have hJ:K ⟨ofL [(1,.int k),(3,.pt (3,0) [] 0),(5,.pt (5,0) [] 0),(6,.pt (6,0) [] 0),(21,.bool (!decide ((Right f/\Right g/\f.v=g.v)/\(-1000<=k/\k<=1000))))],ofRO [((3,0),some (.bx (fS f))),((5,0),some (.bx (fS g))),((6,0),some (.bx [D.int 0,.v (.slice none 0 0)]))]⟩:=by
  refine hK _ ?_;clear hK K
  show AWp _ _ _ _ _
  refine wcond _ rfl (fun hc1=>?_) (fun hc1=>?_)
  ·have hr:=nd_t hc1
   have hm:addF f k g=(zeroF,false):=if_neg hr
   refine wseq ?_
   refine wreg fun K hK=>?_
   simp [C.impl_AddLaurents,fS]
   refine hK _ ?_;clear hK K
   show AWp _ _ _ _ _
   refine wret ?_
   simp [C.impl_AddLaurents,fS,hm,fO,zeroF,rows]
  ·have hr:=nd_f hc1
   obtain ⟨⟨hf,hg,hfg⟩,hk⟩:=hr
   have hv:=hf.1
   obtain ⟨n,hn⟩:∃ n:Nat,f.v=n:=⟨f.v.toNat,by omega⟩
   have hn2:g.v=n:=by omega
   have hn8:n<=8:=by omega
   have hfl:=hf.2.1
   have hgl:=hg.2.1
   have hm:addF f k g=shutF n (f.ts.map pr ++ g.ts.map (prk k)):=by
    unfold addF
    rw [if_pos ⟨⟨hf,hg,hfg⟩,hk⟩,hn]
   refine wskip ?_
   show AWp _ _ _ _ _
   refine wseq ?_
   refine wregI ([0,1,2] ++ ([3])) rfl fun K hK=>?_
   refine oSg fun L hL=>?_
   simp [C.impl_AddLaurents,fS,hn]
   refine wcall1 (impl_newBuilding_c n) (by simp) (by simp) ?_
   simp [C.impl_AddLaurents,fS,hn]
   refine hL _ ?_;clear hL L
   refine oEn fun L hL=>?_
   simp [C.impl_AddLaurents,fS,hn]
   refine hL _ ?_;clear hL L
   simp [C.impl_AddLaurents,fS,hn]
   refine hK _ ?_;clear hK K
   show AWp _ _ _ _ _
   refine wseq ?_
   refine wseq ?_
   refine wreg fun K hK=>?_
   simp [C.impl_AddLaurents,fS]
   refine hK _ ?_;clear hK K
   show AWp _ _ _ _ _
   refine wblock ?_
   refine wloop (fun x:Nat×List (List Int×Int)×List (List Int×Int)=>⟨ofL [(1,.int k),(5,.pt (5,0) [] 0),(6,.pt (6,0) [] 0),(8,.pt (8,0) [] 0),(27,.d (.sh 2 f.ts.length (rows tS f.ts))),(28,.int f.ts.length),(29,.int x.1)],ofRO [((5,0),some (.bx (fS g))),((6,0),some (.bx [D.int 0,.v (.slice none 0 0)])),((8,0),some (.bx [D.int n,.mp x.2.1]))]⟩) (fun x=>x.1<=f.ts.length/\MapR n x.2.1 x.2.2/\x.2.2.Perm ((f.ts.take x.1).map pr)/\absE x.2.2<=x.1*1000000) (fun x=>f.ts.length - x.1) (0,[],[]) (by simp [C.impl_AddLaurents,fS]) ⟨by simp,MapR.nil n,by simp,by simp [absE]⟩ ?_
   intro x1 hx1 R1 hR1
   obtain ⟨j,es,l⟩:=x1
   obtain ⟨hj,hM,hP,hA⟩:=hx1
   dsimp only at hj hM hP hA ⊢
   refine wseq ?_
   refine wreg fun K hK=>?_
   simp [C.impl_AddLaurents,fS]
   refine hK _ ?_;clear hK K
   show AWp _ _ _ _ _
   refine wseq ?_
   refine wcond _ rfl (fun hc2=>?_) (fun hc2=>?_)
   ·have h1:j < f.ts.length:=by have:=d_t hc2;omega
    have hT:=right_dig hf hn _ (List.getElem_mem h1)
    refine wskip ?_
    show AWp _ _ _ _ _
    refine wseq ?_
    refine wblock ?_
    refine wseq ?_
    refine wreg fun K hK=>?_
    simp [C.impl_AddLaurents,fS,h1,tS_0 h1,tS_1 h1]
    refine hK _ ?_;clear hK K
    show AWp _ _ _ _ _
    obtain ⟨a0,a1,a2,a3,a4,a5,a6,a7,hpa⟩:=eight (pad_length (e:=f.ts[j].e) (by omega))
    have hval:=hM.val _ hT.1
    have hco:=co_abs f.ts[j].e l
    refine wdrawI [(true,0),(true,1),(true,2),(true,4),(true,5),(false,3),(false,6)] ⟨by kernel_rfl,by kernel_rfl⟩ ([0,1,2,4,5,3] ++ ([6] ++ ([]))) rfl fun K hK=>?_
    refine oSg fun L hL=>?_
    simp [C.impl_AddLaurents,fS,tS]
    refine wcall1 (impl_keyOf_c f.ts[j].e (by omega) a0 a1 a2 a3 a4 a5 a6 a7 hpa) (by simp) (by simp) ?_
    simp [C.impl_AddLaurents,fS,tS]
    refine hL _ ?_;clear hL L
    refine oSg fun L hL=>?_
    simp [C.impl_AddLaurents,fS,tS]
    refine wcall1 (impl_building_add_c n f.ts[j].c es a0 a1 a2 a3 a4 a5 a6 a7 (hM.len8 hn8) (by rw [<-hpa,hval];have:=hT.2.2.2;omega)) (by simp) (by simp) ?_
    simp [C.impl_AddLaurents,fS,tS]
    refine hL _ ?_;clear hL L
    refine oEn fun L hL=>?_
    simp only [AOpsI]
    refine hL _ ?_;clear hL L
    simp [C.impl_AddLaurents,fS,tS]
    rw [<-hpa]
    refine hK _ ?_;clear hK K
    show AWp _ _ _ _ _
    refine wreg fun K hK=>?_
    simp [C.impl_AddLaurents,fS,wrap_succ (show j < 4611686018427387904 by omega)]
    refine hK _ ?_;clear hK K
    simp [C.impl_AddLaurents,fS]
    refine hR1 (j+1,_,(f.ts[j].e,f.ts[j].c) :: l) ⟨h1,hM.add hT.1 _,?_,?_⟩ (by dsimp only;omega)
    ·dsimp only
     rw [List.take_succ_eq_append_getElem h1,List.map_append]
     refine (List.Perm.cons _ hP).trans ?_
     exact (List.perm_append_singleton _ _).symm
    ·have:=hT.2.2.2
     have h3:f.ts[j].c.natAbs<=1000000:=by omega
     simp only [absE,List.map_cons,List.sum_cons] at hA ⊢
     omega
   ·have h1:j=f.ts.length:=by have:=d_f hc2;omega
    rw [h1,List.take_length] at hP
    refine wexit ?_
    show AWp _ _ _ _ _
    refine wseq ?_
    refine wseq ?_
    refine wreg fun K hK=>?_
    simp [C.impl_AddLaurents,fS]
    refine hK _ ?_;clear hK K
    show AWp _ _ _ _ _
    refine wblock ?_
    refine wloop (fun x:Nat×List (List Int×Int)×List (List Int×Int)=>⟨ofL [(1,.int k),(6,.pt (6,0) [] 0),(8,.pt (8,0) [] 0),(42,.d (.sh 2 g.ts.length (rows tS g.ts))),(43,.int g.ts.length),(44,.int x.1)],ofRO [((6,0),some (.bx [D.int 0,.v (.slice none 0 0)])),((8,0),some (.bx [D.int n,.mp x.2.1]))]⟩) (fun x=>x.1<=g.ts.length/\MapR n x.2.1 x.2.2/\x.2.2.Perm (f.ts.map pr ++ (g.ts.take x.1).map (prk k))/\absE x.2.2<=600000000+x.1*1000000000) (fun x=>g.ts.length - x.1) (0,es,l) (by simp [C.impl_AddLaurents,fS]) ⟨by simp,hM,by simpa using hP,by dsimp only;omega⟩ ?_
    intro x2 hx2 R2 hR2
    obtain ⟨i,es2,l2⟩:=x2
    obtain ⟨hi,hM2,hP2,hA2⟩:=hx2
    dsimp only at hi hM2 hP2 hA2 ⊢
    refine wseq ?_
    refine wreg fun K hK=>?_
    simp [C.impl_AddLaurents,fS]
    refine hK _ ?_;clear hK K
    show AWp _ _ _ _ _
    refine wseq ?_
    refine wcond _ rfl (fun hc3=>?_) (fun hc3=>?_)
    ·have h2:i < g.ts.length:=by have:=d_t hc3;omega
     have hU:=right_dig hg hn2 _ (List.getElem_mem h2)
     have hkc:(k*g.ts[i].c).natAbs<=1000*1000000:=by
      rw [Int.natAbs_mul]
      exact Nat.mul_le_mul (by omega) (by have:=hU.2.2.2;omega)
     refine wskip ?_
     show AWp _ _ _ _ _
     refine wseq ?_
     refine wblock ?_
     refine wseq ?_
     refine wreg fun K hK=>?_
     simp [C.impl_AddLaurents,fS,h2,tS_0 h2,tS_1 h2]
     refine hK _ ?_;clear hK K
     show AWp _ _ _ _ _
     obtain ⟨a0,a1,a2,a3,a4,a5,a6,a7,hpa⟩:=eight (pad_length (e:=g.ts[i].e) (by omega))
     have hval:=hM2.val _ hU.1
     have hco:=co_abs g.ts[i].e l2
     refine wdrawI [(true,0),(true,1),(true,2),(true,4),(true,5),(true,6),(true,7),(false,3),(false,8)] ⟨by kernel_rfl,by kernel_rfl⟩ ([0,1,2,4,5,6,7,3] ++ ([8] ++ ([]))) rfl fun K hK=>?_
     refine oSg fun L hL=>?_
     simp [C.impl_AddLaurents,fS,tS,wrapOk (x:=k*g.ts[i].c) (by omega) (by omega)]
     refine wcall1 (impl_keyOf_c g.ts[i].e (by omega) a0 a1 a2 a3 a4 a5 a6 a7 hpa) (by simp) (by simp) ?_
     simp [C.impl_AddLaurents,fS,tS,wrapOk (x:=k*g.ts[i].c) (by omega) (by omega)]
     refine hL _ ?_;clear hL L
     refine oSg fun L hL=>?_
     simp [C.impl_AddLaurents,fS,tS,wrapOk (x:=k*g.ts[i].c) (by omega) (by omega)]
     refine wcall1 (impl_building_add_c n (k*g.ts[i].c) es2 a0 a1 a2 a3 a4 a5 a6 a7 (hM2.len8 hn8) (by rw [<-hpa,hval];omega)) (by simp) (by simp) ?_
     simp [C.impl_AddLaurents,fS,tS,wrapOk (x:=k*g.ts[i].c) (by omega) (by omega)]
     refine hL _ ?_;clear hL L
     refine oEn fun L hL=>?_
     simp only [AOpsI]
     refine hL _ ?_;clear hL L
     simp [C.impl_AddLaurents,fS,tS,wrapOk (x:=k*g.ts[i].c) (by omega) (by omega)]
     rw [<-hpa]
     refine hK _ ?_;clear hK K
     show AWp _ _ _ _ _
     refine wreg fun K hK=>?_
     simp [C.impl_AddLaurents,fS,wrap_succ (show i < 4611686018427387904 by omega)]
     refine hK _ ?_;clear hK K
     simp [C.impl_AddLaurents,fS]
     refine hR2 (i+1,_,(g.ts[i].e,k*g.ts[i].c) :: l2) ⟨h2,hM2.add hU.1 _,?_,?_⟩ (by dsimp only;omega)
     ·dsimp only
      rw [List.take_succ_eq_append_getElem h2,List.map_append,<-List.append_assoc]
      refine (List.Perm.cons _ hP2).trans ?_
      exact (List.perm_append_singleton _ _).symm
     ·simp only [absE,List.map_cons,List.sum_cons] at hA2 ⊢
      omega
    ·have h2:i=g.ts.length:=by have:=d_f hc3;omega
     have hall:l2.Perm (f.ts.map pr ++ g.ts.map (prk k)):=by
      rw [h2,List.take_length] at hP2
      exact hP2
     have hlen:∀ x∈l2,x.1.length=n:=fun x hx=>by
      rcases List.mem_append.1 (hall.subset hx) with h | h
      ·obtain ⟨t,ht,rfl⟩:=List.mem_map.1 h
       exact (right_dig hf hn t ht).1
      ·obtain ⟨t,ht,rfl⟩:=List.mem_map.1 h
       exact (right_dig hg hn2 t ht).1
     have hll:l2.length<=1000000:=by rw [hall.length_eq,List.length_append,List.length_map,List.length_map];omega
     have hs:=shutF_perm hall n
     refine wexit ?_
     show AWp _ _ _ _ _
     refine wseq ?_
     refine wregI ([0,1] ++ ([2,3,4,5])) rfl fun K hK=>?_
     refine oSg fun L hL=>?_
     simp [C.impl_AddLaurents,fS,fO]
     refine wcall1 (doneOk n es2 l2 hM2 hlen (by omega) hn8 hll) (by simp) (by simp) ?_
     simp [C.impl_AddLaurents,fS,fO]
     refine hL _ ?_;clear hL L
     refine oEn fun L hL=>?_
     simp [C.impl_AddLaurents,fS,fO]
     refine hL _ ?_;clear hL L
     simp [C.impl_AddLaurents,fS,fO]
     refine hK _ ?_;clear hK K
     show AWp _ _ _ _ _
     refine wret ?_
     simp [C.impl_AddLaurents,fS,hm,<-hs,fO]
 clear hK
 by_cases ha:Right f/\Right g/\f.v=g.v
 ·have hvv:=ha.2.2
  refine oSg fun L hL=>?_
  simp [C.impl_AddLaurents,fS,ha]
  refine wcall1 (impl_bothOk_c f g hx hxe hy hye) (by simp;omega) (by simp) ?_
  simp [C.impl_AddLaurents,fS,ha]
  refine hL _ ?_;clear hL L
  refine oSg fun L hL=>?_
  simp [C.impl_AddLaurents,fS,ha]
  refine wcall1 (impl_within_c k (-1000) 1000) (by simp) (by simp) ?_
  simp [C.impl_AddLaurents,fS,ha]
  refine hL _ ?_;clear hL L
  refine oEn fun L hL=>?_
  simp [C.impl_AddLaurents,fS,ha]
  refine hL _ ?_;clear hL L
  simp [C.impl_AddLaurents,fS,ha]
  refine cast (congrArg K ?_) hJ
  simp [fS,ha]
 ·refine oSg fun L hL=>?_
  simp [C.impl_AddLaurents,fS,ha]
  refine wcall1 (impl_bothOk_c f g hx hxe hy hye) (by simp) (by simp) ?_
  simp [C.impl_AddLaurents,fS,ha]
  refine hL _ ?_;clear hL L
  refine oSg fun L hL=>?_
  simp [C.impl_AddLaurents,fS,ha]
  refine hL _ ?_;clear hL L
  refine oEn fun L hL=>?_
  simp [C.impl_AddLaurents,fS,ha]
  refine hL _ ?_;clear hL L
  simp [C.impl_AddLaurents,fS,ha]
  refine cast (congrArg K ?_) hJ
  simp [fS,ha]
theorem iAdd_c (f:Lau) (k:Int) (g:Lau) (hx:f.ts.length < 4611686018427387904) (hxe:∀ t∈f.ts,t.e.length < 4611686018427387904) (hy:g.ts.length < 4611686018427387904) (hye:∀ t∈g.ts,t.e.length < 4611686018427387904):ACalls Tryz.prog F.impl_AddLaurents [aF f,.int k,aF g] [] true (fun outs res=>outs=[]/\res=[.ag (fO (addF f k g).1),.one (D.bool (addF f k g).2)]):=(impl_AddLaurents_c f k g hx hxe hy hye).weak1
end Go.Proofs.YtbhkonnakkhibaaGreat.Ab
namespace Go.Proofs.YtbhkonnakkhibaaGreat.Ab
open Go
set_option maxRecDepth 10000
set_option maxHeartbeats 2000000
theorem sum_coded (f g:Lau) (k:Int):f.ts.map kt ++ (g.ts.map kt).map (scM k)=(f.ts.map pr ++ g.ts.map (prk k)).map kc:=by
 rw [List.map_append,List.map_map,List.map_map,List.map_map]
 rfl
theorem sum_exps {f g:Lau} (k:Int) (hf:Right f) (hg:Right g) {n:Nat} (h1:f.v=n) (h2:g.v=n):Exps n (f.ts.map pr ++ g.ts.map (prk k)):=fun z hz=>by
 rcases List.mem_append.1 hz with hz | hz
 ·obtain ⟨t,ht,rfl⟩:=List.mem_map.1 hz
  have:=right_dig hf h1 t ht
  exact ⟨this.1,this.2.1⟩
 ·obtain ⟨t,ht,rfl⟩:=List.mem_map.1 hz
  have:=right_dig hg h2 t ht
  exact ⟨this.1,this.2.1⟩
theorem mon_abs {l:List (Int×Int)} (h:MonOk l) (hl:l.length<=600):absL l<=600000000:=by
 have:=absL_le (l:=l) (B:=1000000) fun x hx=>by have:=(h x hx).2;omega
 omega
theorem spec_AddLaurents_c (f:Lau) (k:Int) (g:Lau) (hx:f.ts.length < 4611686018427387904) (hxe:∀ t∈f.ts,t.e.length < 4611686018427387904) (hy:g.ts.length < 4611686018427387904) (hye:∀ t∈g.ts,t.e.length < 4611686018427387904):ACalls Tryz.prog F.spec_AddLaurents [aF f,.int k,aF g] [] true (fun outs res=>outs=[]/\WkRs res [.ag (fO (addF f k g).1),.one (D.bool (addF f k g).2)]):=by
 have hcall:=spec_l2Two_c f g hx hxe hy hye
 generalize hB:decide (Right f/\Right g/\f.v=g.v)=B at hcall
 refine ACalls.of_body (C:=C.spec_AddLaurents) (n:=Tryz.f120.ntmps) tabT folT Tryz.func120 rfl (by kernel_rfl) rfl (Nat.le_of_ble_eq_true rfl) (by decide) (by kernel_rfl) (by kernel_rfl) rfl (by simp) (by simp) ?_
 simp only [Tryz.f120]
 refine wseq ?_
 refine wreg fun K hK=>?_
 simp [C.spec_AddLaurents,fS]
 refine hK _ ?_;clear hK K
 show AWp _ _ _ _ _
 refine wseq ?_
 refine wseq ?_
 refine wregI ([0,1,2] ++ ([3,4,5,6] ++ ([7,8]))) rfl fun K hK=>?_
 have hJ:K ⟨ofL [(1,.int k),(3,.pt (3,0) [] 0),(5,.pt (5,0) [] 0),(6,.pt (6,0) [] 0),(16,.bool (!(B && decide (-1000<=k/\k<=1000))))],ofRO [((3,0),some (.bx (fS f))),((5,0),some (.bx (fS g))),((6,0),some (.bx [D.int 0,.v (.slice none 0 0)]))]⟩:=by
  refine hK _ ?_;clear hK K
  show AWp _ _ _ _ _
  refine wcond _ rfl (fun hc1=>?_) (fun hc1=>?_)
  ·have hr:¬ ((Right f/\Right g/\f.v=g.v)/\(-1000<=k/\k<=1000)):=by
    rintro ⟨h1,h2⟩
    rw [<-hB,decide_eq_true h1,decide_eq_true h2] at hc1
    simp at hc1
   have hm:addF f k g=(zeroF,false):=if_neg hr
   refine wseq ?_
   refine wreg fun K hK=>?_
   simp [C.spec_AddLaurents,fS]
   refine hK _ ?_;clear hK K
   show AWp _ _ _ _ _
   refine wret ?_
   simp [C.spec_AddLaurents,fS,hm,fO,zeroF,rows]
  ·have hr:(Right f/\Right g/\f.v=g.v)/\(-1000<=k/\k<=1000):=by
    rw [<-hB] at hc1
    simpa using hc1
   obtain ⟨⟨hf,hg,hfg⟩,hk⟩:=hr
   have hv:=hf.1
   obtain ⟨n,hn⟩:∃ n:Nat,f.v=n:=⟨f.v.toNat,by omega⟩
   have hn2:g.v=n:=by omega
   have hn8:n<=8:=by omega
   have hfl:=hf.2.1
   have hgl:=hg.2.1
   have hE:=sum_exps k hf hg hn hn2
   have hnf:nf ilt (f.ts.map kt ++ (g.ts.map kt).map (scM k))=((nf lexlt (f.ts.map pr ++ g.ts.map (prk k))).map tm).map kt:=by
    rw [sum_coded,nf_key _ hE,List.map_map,kt_tm]
   obtain ⟨T,hT⟩:∃ T,T=(nf lexlt (f.ts.map pr ++ g.ts.map (prk k))).map tm:=⟨_,rfl⟩
   rw [<-hT] at hnf
   have hTl:T.length<=1000000:=by
    rw [hT,List.length_map]
    have h1:=nf_len (lt:=lexlt) (f.ts.map pr ++ g.ts.map (prk k))
    rw [List.length_append,List.length_map,List.length_map] at h1
    omega
   have hTe:∀ t∈T,Dig t.e/\t.e.length=n:=fun t ht=>by
    rw [hT] at ht
    obtain ⟨z,hz,rfl⟩:=List.mem_map.1 ht
    have:=nf_exps hE z hz
    exact ⟨this.2,this.1⟩
   have hm:addF f k g=if Right ⟨f.v,T⟩ then (⟨f.v,T⟩,true) else (zeroF,false):=by
    unfold addF
    rw [if_pos ⟨⟨hf,hg,hfg⟩,hk⟩]
    unfold shutF
    rw [<-hT]
   have hdf:∀ t∈f.ts,Dig t.e/\t.e.length<=8:=fun t ht=>by have:=right_dig hf hn t ht;exact ⟨this.2.1,by omega⟩
   have hdg:∀ t∈g.ts,Dig t.e/\t.e.length<=8:=fun t ht=>by have:=right_dig hg hn2 t ht;exact ⟨this.2.1,by omega⟩
   have hab1:=mon_abs (right_mon hf hn) (by simpa using hfl)
   have hab2:=mon_abs (right_mon hg hn2) (by simpa using hgl)
   have hab3:k.natAbs*absL (g.ts.map kt)<=1000*600000000:=Nat.mul_le_mul (by omega) hab2
   have hPlus:=spec_l2Plus_c (f.ts.map kt) (g.ts.map kt) k (by simp only [List.length_map];omega) (by omega)
   rw [hnf] at hPlus
   simp only [List.length_map] at hPlus
   refine wskip ?_
   show AWp _ _ _ _ _
   refine wseq ?_
   refine wdrawI [(true,0),(true,2),(true,3),(true,6),(true,7),(false,1),(false,4),(false,5),(false,8),(true,9),(true,10),(false,11),(true,12)] ⟨by kernel_rfl,by kernel_rfl⟩ ([0,2,3,6,7,1] ++ ([4] ++ ([5] ++ ([8] ++ ([9,10,11,12]))))) rfl fun K hK=>?_
   refine oSg fun L hL=>?_
   simp [C.spec_AddLaurents,fS]
   refine wcall1 (spec_l2Open_c f (by omega) hdf) (by simp) (by simp) ?_
   simp [C.spec_AddLaurents,fS]
   refine hL _ ?_;clear hL L
   refine oSg fun L hL=>?_
   simp [C.spec_AddLaurents,fS]
   refine wcall1 (spec_l2Open_c g (by omega) hdg) (by simp) (by simp) ?_
   simp [C.spec_AddLaurents,fS]
   refine hL _ ?_;clear hL L
   refine oSg fun L hL=>?_
   simp [C.spec_AddLaurents,fS]
   refine wcall1 (hPlus) (by simp) (by simp) ?_
   simp [C.spec_AddLaurents,fS]
   refine hL _ ?_;clear hL L
   refine oSg fun L hL=>?_
   simp [C.spec_AddLaurents,fS]
   refine wcall1 (l2Shut_c T n hTl hTe hn8) (by simp;omega) (by simp) ?_
   simp [C.spec_AddLaurents,fS]
   refine hL _ ?_;clear hL L
   refine oEn fun L hL=>?_
   simp [C.spec_AddLaurents,fS]
   refine hL _ ?_;clear hL L
   simp [C.spec_AddLaurents,fS]
   refine hK _ ?_;clear hK K
   show AWp _ _ _ _ _
   refine wret ?_
   simp [C.spec_AddLaurents,fS]
   rw [hm,hn]
   by_cases hR:Right ⟨(n:Int),T⟩
   ·simp [hR,fO]
   ·simp [hR,fO]
 clear hK
 by_cases ha:B=true
 ·refine oSg fun L hL=>?_
  simp [C.spec_AddLaurents,fS,ha]
  refine wcall1 (hcall) (by simp) (by simp) ?_
  simp [C.spec_AddLaurents,fS,ha]
  refine hL _ ?_;clear hL L
  refine oSg fun L hL=>?_
  simp [C.spec_AddLaurents,fS,ha]
  refine wcall1 (spec_l1In_c k (-1000) 1000) (by simp) (by simp) ?_
  simp [C.spec_AddLaurents,fS,ha]
  refine hL _ ?_;clear hL L
  refine oEn fun L hL=>?_
  simp [C.spec_AddLaurents,fS,ha]
  refine hL _ ?_;clear hL L
  simp [C.spec_AddLaurents,fS,ha]
  refine cast (congrArg K ?_) hJ
  simp [fS,ha]
 ·refine oSg fun L hL=>?_
  simp [C.spec_AddLaurents,fS,ha]
  refine wcall1 (hcall) (by simp) (by simp) ?_
  simp [C.spec_AddLaurents,fS,ha]
  refine hL _ ?_;clear hL L
  refine oSg fun L hL=>?_
  simp [C.spec_AddLaurents,fS,ha]
  refine hL _ ?_;clear hL L
  refine oEn fun L hL=>?_
  simp [C.spec_AddLaurents,fS,ha]
  refine hL _ ?_;clear hL L
  simp [C.spec_AddLaurents,fS,ha]
  refine cast (congrArg K ?_) hJ
  simp [fS,ha]
theorem sAdd_c (f:Lau) (k:Int) (g:Lau) (hx:f.ts.length < 4611686018427387904) (hxe:∀ t∈f.ts,t.e.length < 4611686018427387904) (hy:g.ts.length < 4611686018427387904) (hye:∀ t∈g.ts,t.e.length < 4611686018427387904):ACalls Tryz.prog F.spec_AddLaurents [aF f,.int k,aF g] [] true (fun outs res=>outs=[]/\res=[.ag (fO (addF f k g).1),.one (D.bool (addF f k g).2)]):=(spec_AddLaurents_c f k g hx hxe hy hye).weak1
end Go.Proofs.YtbhkonnakkhibaaGreat.Ab
namespace Go.Proofs.YtbhkonnakkhibaaGreat.Ab
open Go
theorem lexlt_app:∀ (a b z:List Int),a.length=b.length->lexlt (a ++ z) (b ++ z)=lexlt a b
 | [],[],z,_=>by simp [lexlt_irr,lexlt]
 | x :: a,y :: b,z,h=>by simp [lexlt,lexlt_app a b z (by simpa using h)]
 | [],_ :: _,_,h=>by simp at h
 | _ :: _,[],_,h=>by simp at h
theorem lexlt_pad {a b:List Int} (h:a.length=b.length):lexlt (pad a) (pad b)=lexlt a b:=by
 unfold pad
 rw [<-h]
 exact lexlt_app a b _ h
theorem mget_some {k:List Int} {v:Int}:∀ {es:List (List Int×Int)},mget k es=some v->(k,v)∈es
 | [],h=>by simp [mget] at h
 | x :: es,h=>by
  simp only [mget] at h
  split at h
  ·rename_i e
   simp only [Option.some.injEq] at h
   subst h
   have:x=(k,x.2):=Prod.ext e rfl
   rw [<-this];simp
  ·exact List.mem_cons_of_mem _ (mget_some h)
theorem mget_mem {k:List Int} {v:Int}:∀ {es:List (List Int×Int)},(es.map (·.1)).Nodup->(k,v)∈es->mget k es=some v
 | [],_,h=>by simp at h
 | x :: es,hn,h=>by
  simp only [List.map_cons,List.nodup_cons] at hn
  simp only [mget]
  rcases List.mem_cons.1 h with e | h
  ·rw [<-e];simp
  ·rw [if_neg]
   ·exact mget_mem hn.2 h
   ·rintro e
    exact hn.1 (List.mem_map.2 ⟨(k,v),h,e.symm⟩)
structure TopJ (P:List (List Int×Int)) (top:List Int):Prop where
 len:top.length=8
 mem:P≠[]->∃ c,(top,c)∈P
 max:∀ y∈P,lexlt top y.1=false
theorem TopJ.keep {P:List (List Int×Int)} {top:List Int} (h:TopJ P top) {y:List Int×Int} (hne:P≠[]) (hy:lexlt top y.1=false):TopJ (P ++ [y]) top:=by
 obtain ⟨c,hc⟩:=h.mem hne
 refine ⟨h.len,fun _=>⟨c,by simp [hc]⟩,fun z hz=>?_⟩
 rcases List.mem_append.1 hz with hz | hz
 ·exact h.max z hz
 ·simp only [List.mem_singleton] at hz
  subst hz;exact hy
theorem TopJ.next {P:List (List Int×Int)} {top:List Int} (h:TopJ P top) {y:List Int×Int} (hl:y.1.length=8) (hy:P=[]\/lexlt top y.1=true):TopJ (P ++ [y]) y.1:=by
 refine ⟨hl,fun _=>⟨y.2,by simp⟩,fun z hz=>?_⟩
 rcases List.mem_append.1 hz with hz | hz
 ·rcases hy with rfl | hy
  ·simp at hz
  ·cases hq:lexlt y.1 z.1 with
   | false=>rfl
   | true=>
    have h1:=h.max z hz
    have h2:=lexlt_tr _ _ _ hy hq
    rw [h1] at h2;simp at h2
 ·simp only [List.mem_singleton] at hz
  subst hz;exact lexlt_irr _
theorem top_head {n:Nat} {es l P:List (List Int×Int)} {top:List Int} {a:List Int} {c:Int} {R:List (List Int×Int)} (h:MapR n es l) (hl:∀ x∈l,x.1.length=n) (hP:P.Perm es) (hT:TopJ P top) (hR:nf lexlt l=(a,c) :: R) :
  top=pad a/\mget top es=some c:=by
 have hal:a.length=n:=by
  obtain ⟨x,hx,e⟩:=nf_mem (y:=(a,c)) (by rw [hR];simp)
  have h9:=hl x hx
  rw [e] at h9
  exact h9
 have hd:=nf_desc lexOrd l
 have hc:=co_single lexOrd hd (x:=(a,c)) (by rw [hR];simp)
 rw [nf_co] at hc
 have hcz:c≠0:=nf_nz l (a,c) (by rw [hR];simp)
 have hva:=h.val a hal
 have hga:mget (pad a) es=some c:=by
  rw [hc] at hva
  cases hg:mget (pad a) es with
  | none=>rw [hg] at hva;simp at hva;exact absurd hva.symm hcz
  | some v=>rw [hg] at hva;simp at hva;rw [hva]
 have hmem:=mget_some hga
 have hmP:=hP.mem_iff.2 hmem
 obtain ⟨v,hv⟩:=hT.mem (by intro e;rw [e] at hmP;simp at hmP)
 have hvE:=hP.mem_iff.1 hv
 obtain ⟨hvz,e,hel,he⟩:=h.nz _ hvE
 simp only at he hvz
 have hlt:=hT.max _ hmP
 simp only at hlt
 rw [he,lexlt_pad (hel.trans hal.symm)] at hlt
 have hget:=mget_mem h.nod hvE
 have hve:=h.val e hel
 rw [<-he,hget] at hve
 simp only [Option.getD_some] at hve
 have hco:co e (nf lexlt l)≠0:=by rw [nf_co,<-hve];exact hvz
 obtain ⟨z,hz,ez⟩:=co_mem hco
 have hea:e=a:=by
  rw [hR] at hz hd
  rcases List.mem_cons.1 hz with rfl | hz
  ·exact ez.symm
  ·have h1:=List.rel_of_pairwise_cons hd hz
   simp only at h1
   rw [ez,hlt] at h1
   simp at h1
 subst hea
 exact ⟨he,by rw [he];exact hga⟩
theorem pad_bd60 {e:List Int} {B:Int} (hB:0<=B) (hB2:B<=1000000) (h:∀ x∈e,-B<=x/\x<=B):∀ x∈pad e,-1000000<=x/\x<=1000000:=fun x hx=>by
 unfold pad at hx
 rcases List.mem_append.1 hx with hx | hx
 ·have:=h x hx;omega
 ·have:=List.eq_of_mem_replicate hx;omega
def negT (e:List Int) (q:Int) (g:List Trm):List (List Int×Int):=g.map fun t=>(addE 1 e t.e,-q*t.c)
theorem negT_step {e:List Int} {q:Int} {g:List Trm} {i:Nat} (h:i < g.length):negT e q (g.take (i+1))=negT e q (g.take i) ++ [(addE 1 e g[i].e,-q*g[i].c)]:=by
 unfold negT
 rw [List.take_succ_eq_append_getElem h,List.map_append]
 rfl
theorem step_nf {g:Lau} {x:List Int×Int} {R l l2:List (List Int×Int)} (hR:nf lexlt l=x :: R) (hl2:l2.Perm (l ++ negT (addE (-1) x.1 (leadE g)) (x.2.tdiv (leadC g)) g.ts)):nf lexlt l2=nf lexlt (stepL g x R):=by
 refine nf_unique lexOrd (nf_desc lexOrd _) (nf_nz _) fun k=>?_
 rw [nf_co,co_perm k hl2,stepL,co_append,co_append,<-hR,nf_co]
 congr 1
 unfold negT mulT
 rw [List.map_map]
 rfl
end Go.Proofs.YtbhkonnakkhibaaGreat.Ab
namespace Go.Proofs.YtbhkonnakkhibaaGreat.Ab
open Go
theorem addE_dv2:∀ (a b:List Int),a.length=b.length->addE (-1) (addE 1 a b) b=a
 | [],[],_=>rfl
 | x :: a,y :: b,h=>by
  simp only [addE,addE_dv2 a b (by simpa using h)]
  congr 1
  omega
 | [],_ :: _,h=>by simp at h
 | _ :: _,[],h=>by simp at h
structure DivO (g:Lau) (n:Nat) (R O:List (List Int×Int)):Prop where
 od:Desc lexlt O
 oz:Nz O
 ol:∀ x∈O,x.1.length=n
 sep:∀ x∈O,∀ y∈R,lexlt y.1 (addE 1 x.1 (leadE g))=true
theorem DivO.step {g:Lau} {n:Nat} {x:List Int×Int} {R O:List (List Int×Int)} (h:DivO g n (x :: R) O) (hR:Desc lexlt (x :: R)) (hRl:∀ y∈x :: R,y.1.length=n) (hg:Right g) (hgn:g.v=n) (hne:g.ts≠[]) (hm:x.2.tmod (leadC g)=0) (hq:x.2.tdiv (leadC g)≠0) :
  DivO g n (nf lexlt (stepL g x R)) (O ++ [(addE (-1) x.1 (leadE g),x.2.tdiv (leadC g))]):=by
 have hgm:g.ts.map pr=(leadE g,leadC g) :: (g.ts.tail.map pr):=by
  unfold leadE leadC
  match hh:g.ts,hne with
  | t :: ts,_=>rfl
 have hgd:=pr_desc hg
 have hgD:=pr_dig hg hgn
 rw [hgm] at hgd hgD
 have hbl:(leadE g).length=n:=(hgD (leadE g,leadC g) (by simp)).1
 have hxl:=hRl x (by simp)
 have hless:=step_less lexOrd (lauAct n) hR hRl hgd (fun y hy=>(hgD y hy).1) hm
 rw [<-hgm] at hless
 have hel:(addE (-1) x.1 (leadE g)).length=n:=by rw [addE_length _ _ _ (hxl.trans hbl.symm)];exact hxl
 have hback:addE 1 (addE (-1) x.1 (leadE g)) (leadE g)=x.1:=addE_dv _ _ (hxl.trans hbl.symm)
 refine ⟨?_,fun y hy=>?_,fun y hy=>?_,fun y hy z hz=>?_⟩
 ·refine List.pairwise_append.2 ⟨h.od,List.pairwise_singleton ..,fun y hy z hz=>?_⟩
  simp only [List.mem_singleton] at hz
  subst hz
  have h1:=h.sep y hy x (by simp)
  have hyl:=h.ol y hy
  have h2:=lexlt_addE (-1) x.1 (addE 1 y.1 (leadE g)) (leadE g) (hxl.trans hbl.symm) (by rw [addE_length _ _ _ (hyl.trans hbl.symm)];exact hyl.trans hbl.symm)
  rw [addE_dv2 _ _ (hyl.trans hbl.symm)] at h2
  show lexlt (addE (-1) x.1 (leadE g)) y.1=true
  rw [h2]
  exact h1
 ·rcases List.mem_append.1 hy with hy | hy
  ·exact h.oz y hy
  ·simp only [List.mem_singleton] at hy
   subst hy;exact hq
 ·rcases List.mem_append.1 hy with hy | hy
  ·exact h.ol y hy
  ·simp only [List.mem_singleton] at hy
   subst hy;exact hel
 ·have h1:=(hless z hz).1
  rcases List.mem_append.1 hy with hy | hy
  ·exact lexlt_tr _ _ _ h1 (h.sep y hy x (by simp))
  ·simp only [List.mem_singleton] at hy
   subst hy
   show lexlt z.1 (addE 1 (addE (-1) x.1 (leadE g)) (leadE g))=true
   rw [hback]
   exact h1
theorem DivO.nf {g:Lau} {n:Nat} {R O:List (List Int×Int)} (h:DivO g n R O):Ab.nf lexlt O=O:=(nf_unique lexOrd h.od h.oz fun k=>rfl).symm
theorem DivO.shut {g:Lau} {n:Nat} {R O:List (List Int×Int)} (h:DivO g n R O) (v:Int):shutF v O=endF v (some O):=by
 unfold shutF endF
 rw [h.nf]
theorem cmpL_gt (a b:List Int):decide (0 < cmpL a b)=lexlt b a:=by
 have:=cmpL_pos a b
 by_cases h:cmpL a b<=0
 ·rw [decide_eq_true h] at this
  rw [decide_eq_false (by omega)]
  cases hh:lexlt b a with
  | false=>rfl
  | true=>rw [hh] at this;simp at this
 ·rw [decide_eq_false h] at this
  rw [decide_eq_true (by omega)]
  cases hh:lexlt b a with
  | true=>rfl
  | false=>rw [hh] at this;simp at this
end Go.Proofs.YtbhkonnakkhibaaGreat.Ab
namespace Go.Proofs.YtbhkonnakkhibaaGreat.Ab
open Go
set_option maxRecDepth 10000
set_option maxHeartbeats 2000000
theorem spec_DivideLaurents_c (f g:Lau) (hx:f.ts.length < 4611686018427387904) (hxe:∀ t∈f.ts,t.e.length < 4611686018427387904) (hy:g.ts.length < 4611686018427387904) (hye:∀ t∈g.ts,t.e.length < 4611686018427387904):ACalls Tryz.prog F.spec_DivideLaurents [aF f,aF g] [] true (fun outs res=>outs=[]/\WkRs res [.ag (fO (divF f g).1),.one (D.bool (divF f g).2)]):=by
 have hcall:=spec_l2Two_c f g hx hxe hy hye
 generalize hB:decide (Right f/\Right g/\f.v=g.v)=B at hcall
 refine ACalls.of_body (C:=C.spec_DivideLaurents) (n:=Tryz.f121.ntmps) tabT folT Tryz.func121 rfl (by kernel_rfl) rfl (Nat.le_of_ble_eq_true rfl) (by decide) (by kernel_rfl) (by kernel_rfl) rfl (by simp) (by simp) ?_
 simp only [Tryz.f121]
 refine wseq ?_
 refine wreg fun K hK=>?_
 simp [C.spec_DivideLaurents,fS]
 refine hK _ ?_;clear hK K
 show AWp _ _ _ _ _
 refine wseq ?_
 refine wseq ?_
 refine wregI ([0,1,2] ++ ([3,4,5,6,7,8,9])) rfl fun K hK=>?_
 have hJ:K ⟨ofL [(2,.pt (2,0) [] 0),(3,.pt (3,0) [] 0),(4,.pt (4,0) [] 0),(15,.bool (!(B && !decide (g.ts=[]))))],ofRO [((2,0),some (.bx (fS f))),((3,0),some (.bx (fS g))),((4,0),some (.bx [D.int 0,.v (.slice none 0 0)]))]⟩:=by
  refine hK _ ?_;clear hK K
  show AWp _ _ _ _ _
  refine wcond _ rfl (fun hc1=>?_) (fun hc1=>?_)
  ·have hr:¬ ((Right f/\Right g/\f.v=g.v)/\g.ts≠[]):=by
    rintro ⟨h1,h2⟩
    rw [<-hB,decide_eq_true h1] at hc1
    simp [h2] at hc1
   have hm:divF f g=(zeroF,false):=if_neg hr
   refine wseq ?_
   refine wreg fun K hK=>?_
   simp [C.spec_DivideLaurents,fS]
   refine hK _ ?_;clear hK K
   show AWp _ _ _ _ _
   refine wret ?_
   simp [C.spec_DivideLaurents,fS,hm,fO,zeroF,rows]
  ·have hr:(Right f/\Right g/\f.v=g.v)/\g.ts≠[]:=by
    rw [<-hB] at hc1
    simpa using hc1
   obtain ⟨⟨hf,hg,hfg⟩,hne⟩:=hr
   obtain ⟨n,hn⟩:∃ n:Nat,f.v=n:=⟨f.v.toNat,by have:=hf.1;omega⟩
   have hgn:g.v=n:=by omega
   have hm:divF f g=endF f.v (divL (chkS f g n) g 600 (f.ts.map pr)):=by
    rw [<-divS_eq]
    unfold divS
    rw [if_pos ⟨⟨hf,hg,hfg⟩,hne⟩,hn]
    rfl
   refine wskip ?_
   show AWp _ _ _ _ _
   refine wseq ?_
   refine wregI ([0,1,2] ++ ([3,4,5,6])) rfl fun K hK=>?_
   refine oSg fun L hL=>?_
   simp [C.spec_DivideLaurents,fS]
   refine wcall1 ((spec_l2Divide_c f g n hf hg hn hgn hne).weak1) (by simp) (by simp) ?_
   simp [C.spec_DivideLaurents,fS]
   refine hL _ ?_;clear hL L
   refine oEn fun L hL=>?_
   simp [C.spec_DivideLaurents,fS]
   refine hL _ ?_;clear hL L
   simp [C.spec_DivideLaurents,fS]
   refine hK _ ?_;clear hK K
   show AWp _ _ _ _ _
   refine wret ?_
   simp [C.spec_DivideLaurents,fS,hm,fO]
 clear hK
 by_cases hb:B=true
 ·refine oSg fun L hL=>?_
  simp [C.spec_DivideLaurents,fS,hb]
  refine wcall1 (hcall) (by simp) (by simp) ?_
  simp [C.spec_DivideLaurents,fS,hb]
  refine hL _ ?_;clear hL L
  refine oEn fun L hL=>?_
  simp [C.spec_DivideLaurents,fS,hb]
  refine hL _ ?_;clear hL L
  simp [C.spec_DivideLaurents,fS,hb]
  refine cast (congrArg K ?_) hJ
  simp [ieq0,fS,hb]
 ·refine oSg fun L hL=>?_
  simp [C.spec_DivideLaurents,fS,hb]
  refine wcall1 (hcall) (by simp) (by simp) ?_
  simp [C.spec_DivideLaurents,fS,hb]
  refine hL _ ?_;clear hL L
  refine oEn fun L hL=>?_
  simp [C.spec_DivideLaurents,fS,hb]
  refine hL _ ?_;clear hL L
  simp [C.spec_DivideLaurents,fS,hb]
  refine cast (congrArg K ?_) hJ
  simp [ieq0,fS,hb]
theorem sDiv_c (f g:Lau) (hx:f.ts.length < 4611686018427387904) (hxe:∀ t∈f.ts,t.e.length < 4611686018427387904) (hy:g.ts.length < 4611686018427387904) (hye:∀ t∈g.ts,t.e.length < 4611686018427387904):ACalls Tryz.prog F.spec_DivideLaurents [aF f,aF g] [] true (fun outs res=>outs=[]/\res=[.ag (fO (divF f g).1),.one (D.bool (divF f g).2)]):=(spec_DivideLaurents_c f g hx hxe hy hye).weak1
end Go.Proofs.YtbhkonnakkhibaaGreat.Ab
namespace Go.Proofs.YtbhkonnakkhibaaGreat.Ab
open Go
set_option maxRecDepth 10000
set_option maxHeartbeats 2000000
attribute [local simp] mapKV flatInt tileB
structure LJ (n:Nat) (es l:List (List Int×Int)) (B:Nat):Prop where
 map:MapR n es l
 len:∀ x∈l,x.1.length=n
 abs:absE l<=B
theorem LJ.add {n:Nat} {es l:List (List Int×Int)} {B:Nat} (h:LJ n es l B) {e:List Int} (he:e.length=n) {c:Int} {X:Nat} (hc:c.natAbs<=X):LJ n (madd es (pad e) c) ((e,c) :: l) (B+X):=by
 refine ⟨h.map.add he c,fun x hx=>?_,?_⟩
 ·rcases List.mem_cons.1 hx with rfl | hx
  ·exact he
  ·exact h.len x hx
 ·have:=h.abs
  simp only [absE,List.map_cons,List.sum_cons] at *
  omega
theorem LJ.val {n:Nat} {es l:List (List Int×Int)} {B:Nat} (h:LJ n es l B) {e:List Int} (he:e.length=n) {c:Int} {X:Nat} (hc:c.natAbs<=X) (hB:B+X<=4000000000000000000):-9223372036854775808<=c+(mget (pad e) es).getD 0/\c+(mget (pad e) es).getD 0 < 9223372036854775808:=by
 have h1:=h.map.val e he
 have h2:=co_abs e l
 have h3:=h.abs
 rw [h1]
 omega
theorem LJ.mono {n:Nat} {es l:List (List Int×Int)} {B C:Nat} (h:LJ n es l B) (hB:B<=C):LJ n es l C:=⟨h.map,h.len,Nat.le_trans h.abs hB⟩
theorem divF_some {f g:Lau} {n:Nat} (hf:Right f) (hg:Right g) (hn:f.v=n) (hgn:g.v=n) (hne:g.ts≠[]):divF f g=endF n (divL chkI g 600 (f.ts.map pr)):=by
 unfold divF
 rw [if_pos ⟨⟨hf,hg,by omega⟩,hne⟩,hn]
theorem impl_DivideLaurents_l1 (f g:Lau) (n:Nat) (hn:f.v=n) (hv:n<=8) (hf:Right f) (hfl:f.ts.length<=600) (Q0:AEx->St->Prop) (hX0:∀ es l,LJ n es l 600000000->l.Perm (f.ts.map pr)->Q0 (.exit 0) ⟨ofL [(2,.pt (2,0) [] 0),(3,.pt (3,0) [] 0),(4,.pt (4,0) [] 0),(6,.pt (6,0) [] 0),(34,.d (.sh 2 f.ts.length (rows tS f.ts))),(35,.int f.ts.length),(36,.int f.ts.length),(37,.bool false)],ofRO [((2,0),some (.bx (fS f))),((3,0),some (.bx (fS g))),((4,0),some (.bx [D.int 0,.v (.slice none 0 0)])),((6,0),some (.bx [D.int n,.mp es]))]⟩):AWp C.impl_DivideLaurents (codeAt Tryz.f118 [1,1,1,0,1,0]) 0 Q0 ⟨ofL [(2,.pt (2,0) [] 0),(3,.pt (3,0) [] 0),(4,.pt (4,0) [] 0),(6,.pt (6,0) [] 0),(34,.d (.sh 2 f.ts.length (rows tS f.ts))),(35,.int f.ts.length),(36,.int 0)],ofRO [((2,0),some (.bx (fS f))),((3,0),some (.bx (fS g))),((4,0),some (.bx [D.int 0,.v (.slice none 0 0)])),((6,0),some (.bx [D.int n,.mp []]))]⟩:=by
 simp only [codeAt,Tryz.f118,walkCode]
 refine wloop (fun x:Nat×List (List Int×Int)×List (List Int×Int)=>⟨ofL [(2,.pt (2,0) [] 0),(3,.pt (3,0) [] 0),(4,.pt (4,0) [] 0),(6,.pt (6,0) [] 0),(34,.d (.sh 2 f.ts.length (rows tS f.ts))),(35,.int f.ts.length),(36,.int x.1)],ofRO [((2,0),some (.bx (fS f))),((3,0),some (.bx (fS g))),((4,0),some (.bx [D.int 0,.v (.slice none 0 0)])),((6,0),some (.bx [D.int n,.mp x.2.1]))]⟩) (fun x=>x.1<=f.ts.length/\LJ n x.2.1 x.2.2 (x.1*1000000)/\x.2.2.Perm ((f.ts.map pr).take x.1)) (fun x=>f.ts.length - x.1) (0,[],[]) (by simp [C.impl_DivideLaurents,fS,hn]) ⟨by simp,⟨MapR.nil n,by simp,by simp [absE]⟩,by simp⟩ ?_
 intro x1 hx1 R1 hR1
 obtain ⟨i,es,l⟩:=x1
 obtain ⟨hi,hLJ,hP⟩:=hx1
 dsimp only at hi hLJ hP ⊢
 refine wseq ?_
 refine wreg fun K hK=>?_
 simp [C.impl_DivideLaurents,fS]
 refine hK _ ?_;clear hK K
 show AWp _ _ _ _ _
 refine wseq ?_
 refine wcond _ rfl (fun hc2=>?_) (fun hc2=>?_)
 ·have hif:i < f.ts.length:=by have:=d_t hc2;omega
  have hT:=right_dig hf hn _ (List.getElem_mem hif)
  refine wskip ?_
  show AWp _ _ _ _ _
  refine wseq ?_
  refine wblock ?_
  refine wseq ?_
  refine wreg fun K hK=>?_
  simp [C.impl_DivideLaurents,fS,hif,tS_0 hif,tS_1 hif]
  refine hK _ ?_;clear hK K
  show AWp _ _ _ _ _
  obtain ⟨a0,a1,a2,a3,a4,a5,a6,a7,hpa⟩:=eight (pad_length (e:=f.ts[i].e) (by omega))
  have hval:=hLJ.val hT.1 (c:=f.ts[i].c) (X:=1000000) (by omega) (by omega)
  rw [hpa] at hval
  refine wdrawI [(true,0),(true,1),(true,2),(true,4),(true,5),(false,3),(false,6)] ⟨by kernel_rfl,by kernel_rfl⟩ ([0,1,2,4,5,3] ++ ([6] ++ ([]))) rfl fun K hK=>?_
  refine oSg fun L hL=>?_
  simp [C.impl_DivideLaurents,fS,tS]
  refine wcall1 (impl_keyOf_c f.ts[i].e (by omega) a0 a1 a2 a3 a4 a5 a6 a7 hpa) (by simp) (by simp) ?_
  simp [C.impl_DivideLaurents,fS,tS]
  refine hL _ ?_;clear hL L
  refine oSg fun L hL=>?_
  simp [C.impl_DivideLaurents,fS,tS]
  refine wcall1 (impl_building_add_c n f.ts[i].c es a0 a1 a2 a3 a4 a5 a6 a7 (hLJ.map.len8 hv) hval) (by simp) (by simp) ?_
  simp [C.impl_DivideLaurents,fS,tS]
  refine hL _ ?_;clear hL L
  refine oEn fun L hL=>?_
  simp only [AOpsI]
  refine hL _ ?_;clear hL L
  simp [C.impl_DivideLaurents,fS,tS]
  rw [<-hpa]
  refine hK _ ?_;clear hK K
  show AWp _ _ _ _ _
  refine wreg fun K hK=>?_
  simp [C.impl_DivideLaurents,fS,wrap_succ (show i < 4611686018427387904 by omega)]
  refine hK _ ?_;clear hK K
  simp [C.impl_DivideLaurents,fS]
  refine cast (congrArg R1 ?_) (hR1 (i+1,madd es (pad f.ts[i].e) f.ts[i].c,(f.ts[i].e,f.ts[i].c) :: l) ⟨hif,?_,?_⟩ (by dsimp only;omega))
  ·simp [fS,hn]
  ·have:=hLJ.add hT.1 (c:=f.ts[i].c) (X:=1000000) (by omega)
   dsimp only
   rwa [Nat.add_mul,Nat.one_mul]
  ·dsimp only
   rw [List.take_succ_eq_append_getElem (by simpa using hif)]
   refine (List.Perm.cons _ hP).trans ?_
   simp only [List.getElem_map,pr]
   exact (List.perm_append_singleton _ _).symm
 ·have hif:i=f.ts.length:=by have:=d_f hc2;omega
  have hall:l.Perm (f.ts.map pr):=by
   rw [List.take_of_length_le (by simp;omega)] at hP
   exact hP
  refine wexit ?_
  refine cast (congrArg (Q0 (.exit 0)) ?_) (hX0 es l (hLJ.mono (by rw [hif];omega)) hall)
  simp [fS,hn,hif]
theorem impl_DivideLaurents_r21 (f g:Lau) (n:Nat) (hn:f.v=n) (es eo P rest:List (List Int×Int)) (k0 k1 k2 k3 k4 k5 k6 k7 t0 t1 t2 t3 t4 t5 t6 t7 xc:Int) (i:Nat) (i0:Nat) (Q0:AEx->St->Prop) (hJ0:Q0 .normal ⟨ofL [(2,.pt (2,0) [] 0),(3,.pt (3,0) [] 0),(4,.pt (4,0) [] 0),(6,.pt (6,0) [] 0),(9,.pt (9,0) [] 0),(10,.pt (10,0) [] 0),(11,.pt (11,0) [] 0),(12,.bool (decide (P=[]))),(13,.pt (13,0) [] 0),(65,.it (65,0) (6,0) [1] (rest.eraseIdx i) (some ([k0,k1,k2,k3,k4,k5,k6,k7],xc))),(76,.bool (decide (P=[]\/lexlt [t0,t1,t2,t3,t4,t5,t6,t7] [k0,k1,k2,k3,k4,k5,k6,k7]=true)))],ofRO [((2,0),some (.bx (fS f))),((3,0),some (.bx (fS g))),((4,0),some (.bx [D.int 0,.v (.slice none 0 0)])),((6,0),some (.bx [D.int n,.mp es])),((9,0),some (.bx [D.int n,.mp eo])),((10,0),some (.bx [shI (leadE g),D.int (leadC g)])),((11,0),some (.bx [D.int t0,D.int t1,D.int t2,D.int t3,D.int t4,D.int t5,D.int t6,D.int t7])),((13,0),some (.bx [D.int k0,D.int k1,D.int k2,D.int k3,D.int k4,D.int k5,D.int k6,D.int k7])),((65,0),some .itr)]⟩):AWp C.impl_DivideLaurents (codeAt Tryz.f118 [1,1,1,1,1,1,0,0,0,1,0,1,1,0,1,0,0,1,1,0,1,0]) i0 Q0 ⟨ofL [(2,.pt (2,0) [] 0),(3,.pt (3,0) [] 0),(4,.pt (4,0) [] 0),(6,.pt (6,0) [] 0),(9,.pt (9,0) [] 0),(10,.pt (10,0) [] 0),(11,.pt (11,0) [] 0),(12,.bool (decide (P=[]))),(13,.pt (13,0) [] 0),(65,.it (65,0) (6,0) [1] (rest.eraseIdx i) (some ([k0,k1,k2,k3,k4,k5,k6,k7],xc)))],ofRO [((2,0),some (.bx (fS f))),((3,0),some (.bx (fS g))),((4,0),some (.bx [D.int 0,.v (.slice none 0 0)])),((6,0),some (.bx [D.int n,.mp es])),((9,0),some (.bx [D.int n,.mp eo])),((10,0),some (.bx [shI (leadE g),D.int (leadC g)])),((11,0),some (.bx [D.int t0,D.int t1,D.int t2,D.int t3,D.int t4,D.int t5,D.int t6,D.int t7])),((13,0),some (.bx [D.int k0,D.int k1,D.int k2,D.int k3,D.int k4,D.int k5,D.int k6,D.int k7])),((65,0),some .itr)]⟩:=by
 simp only [codeAt,Tryz.f118,walkCode]
 refine wdrawI [(true,0),(true,1),(true,2),(true,3),(false,4),(true,5),(true,6)] ⟨by kernel_rfl,by kernel_rfl⟩ ([0,1,2,3,4] ++ ([5,6])) rfl fun K hK=>?_
 have hJ:K ⟨ofL [(2,.pt (2,0) [] 0),(3,.pt (3,0) [] 0),(4,.pt (4,0) [] 0),(6,.pt (6,0) [] 0),(9,.pt (9,0) [] 0),(10,.pt (10,0) [] 0),(11,.pt (11,0) [] 0),(12,.bool (decide (P=[]))),(13,.pt (13,0) [] 0),(65,.it (65,0) (6,0) [1] (rest.eraseIdx i) (some ([k0,k1,k2,k3,k4,k5,k6,k7],xc))),(76,.bool (decide (P=[]\/lexlt [t0,t1,t2,t3,t4,t5,t6,t7] [k0,k1,k2,k3,k4,k5,k6,k7]=true)))],ofRO [((2,0),some (.bx (fS f))),((3,0),some (.bx (fS g))),((4,0),some (.bx [D.int 0,.v (.slice none 0 0)])),((6,0),some (.bx [D.int n,.mp es])),((9,0),some (.bx [D.int n,.mp eo])),((10,0),some (.bx [shI (leadE g),D.int (leadC g)])),((11,0),some (.bx [D.int t0,D.int t1,D.int t2,D.int t3,D.int t4,D.int t5,D.int t6,D.int t7])),((13,0),some (.bx [D.int k0,D.int k1,D.int k2,D.int k3,D.int k4,D.int k5,D.int k6,D.int k7])),((65,0),some .itr)]⟩:=by
  refine hK _ ?_;clear hK K
  exact hJ0
 clear hK
 by_cases hp:P=[]
 ·refine oSg fun L hL=>?_
  simp [C.impl_DivideLaurents,fS,ints,sh8,hp]
  refine hL _ ?_;clear hL L
  refine oEn fun L hL=>?_
  simp [C.impl_DivideLaurents,fS,ints,sh8,hp]
  refine hL _ ?_;clear hL L
  simp [C.impl_DivideLaurents,fS,ints,sh8,hp]
  refine cast (congrArg K ?_) hJ
  simp [cmpL_gt,hn,fS,hp]
 ·refine oSg fun L hL=>?_
  simp [C.impl_DivideLaurents,fS,ints,sh8,hp]
  refine wcall1 (slices_Compare_int_int_c [k0,k1,k2,k3,k4,k5,k6,k7] [t0,t1,t2,t3,t4,t5,t6,t7] (by simp)) (by simp [fS,ints,sh8]) (by simp) ?_
  simp [C.impl_DivideLaurents,fS,ints,sh8,hp]
  refine hL _ ?_;clear hL L
  refine oEn fun L hL=>?_
  simp [C.impl_DivideLaurents,fS,ints,sh8,hp]
  refine hL _ ?_;clear hL L
  simp [C.impl_DivideLaurents,fS,ints,sh8,hp]
  refine cast (congrArg K ?_) hJ
  simp [cmpL_gt,hn,fS,hp]
theorem impl_DivideLaurents_l3 (f g:Lau) (n:Nat) (hn:f.v=n) (es eo:List (List Int×Int)) (hm8:mapLen 8 es) (Q0:AEx->St->Prop) (hX0:∀ P top cur,P.Perm es->TopJ P top->Q0 (.exit 4) ⟨ofL [(2,.pt (2,0) [] 0),(3,.pt (3,0) [] 0),(4,.pt (4,0) [] 0),(6,.pt (6,0) [] 0),(9,.pt (9,0) [] 0),(10,.pt (10,0) [] 0),(11,.pt (11,0) [] 0),(12,.bool (decide (P=[]))),(65,.it (65,0) (6,0) [1] [] cur),(67,.bool false)],ofRO [((2,0),some (.bx (fS f))),((3,0),some (.bx (fS g))),((4,0),some (.bx [D.int 0,.v (.slice none 0 0)])),((6,0),some (.bx [D.int n,.mp es])),((9,0),some (.bx [D.int n,.mp eo])),((10,0),some (.bx [shI (leadE g),D.int (leadC g)])),((11,0),some (.bx (ints top))),((65,0),some .itr)]⟩):AWp C.impl_DivideLaurents (codeAt Tryz.f118 [1,1,1,1,1,1,0,0,0,1,0,1,1,0,1,0]) 4 Q0 ⟨ofL [(2,.pt (2,0) [] 0),(3,.pt (3,0) [] 0),(4,.pt (4,0) [] 0),(6,.pt (6,0) [] 0),(9,.pt (9,0) [] 0),(10,.pt (10,0) [] 0),(11,.pt (11,0) [] 0),(12,.bool (decide (([]:List (List Int×Int))=[]))),(65,.it (65,0) (6,0) [1] es none)],ofRO [((2,0),some (.bx (fS f))),((3,0),some (.bx (fS g))),((4,0),some (.bx [D.int 0,.v (.slice none 0 0)])),((6,0),some (.bx [D.int n,.mp es])),((9,0),some (.bx [D.int n,.mp eo])),((10,0),some (.bx [shI (leadE g),D.int (leadC g)])),((11,0),some (.bx (ints [0,0,0,0,0,0,0,0]))),((65,0),some .itr)]⟩:=by
 simp only [codeAt,Tryz.f118,walkCode]
 refine wloop (fun x:List (List Int×Int)×List Int×List (List Int×Int)×Option (List Int×Int)=>⟨ofL [(2,.pt (2,0) [] 0),(3,.pt (3,0) [] 0),(4,.pt (4,0) [] 0),(6,.pt (6,0) [] 0),(9,.pt (9,0) [] 0),(10,.pt (10,0) [] 0),(11,.pt (11,0) [] 0),(12,.bool (decide (x.1=[]))),(65,.it (65,0) (6,0) [1] x.2.2.1 x.2.2.2)],ofRO [((2,0),some (.bx (fS f))),((3,0),some (.bx (fS g))),((4,0),some (.bx [D.int 0,.v (.slice none 0 0)])),((6,0),some (.bx [D.int n,.mp es])),((9,0),some (.bx [D.int n,.mp eo])),((10,0),some (.bx [shI (leadE g),D.int (leadC g)])),((11,0),some (.bx (ints x.2.1))),((65,0),some .itr)]⟩) (fun x=>(x.1 ++ x.2.2.1).Perm es/\TopJ x.1 x.2.1) (fun x=>x.2.2.1.length) ([],[0,0,0,0,0,0,0,0],es,none) (by simp [C.impl_DivideLaurents,fS,hn,ints]) ⟨by simp,⟨rfl,by simp,by simp⟩⟩ ?_
 intro x3 hx3 R3 hR3
 obtain ⟨P,top,rest,cur⟩:=x3
 obtain ⟨hq,hT⟩:=hx3
 dsimp only at hq hT ⊢
 refine wseq ?_
 refine wreg fun K hK=>?_
 simp [C.impl_DivideLaurents,fS]
 refine ⟨fun hrest=>?_,fun i xk xc hxi=>?_⟩
 ·refine hK _ ?_;clear hK K
  show AWp _ _ _ _ _
  refine wseq ?_
  refine wcond _ rfl (fun hc4=>?_) (fun hc4=>?_)
  ·simp at hc4
  ·subst hrest
   have hqe:P.Perm es:=by simpa using hq
   refine wexit ?_
   refine cast (congrArg (Q0 (.exit 4)) ?_) (hX0 P top cur hqe hT)
   simp [fS,hn]
 ·refine hK _ ?_;clear hK K
  show AWp _ _ _ _ _
  refine wseq ?_
  refine wcond _ rfl (fun hc6=>?_) (fun hc6=>?_)
  ·have hxm:(xk,xc)∈rest:=List.mem_of_getElem? hxi
   have hxl:=hm8 _ (hq.subset (List.mem_append_right P hxm))
   dsimp only at hxl
   obtain ⟨k0,k1,k2,k3,k4,k5,k6,k7,rfl⟩:=eight hxl
   obtain ⟨t0,t1,t2,t3,t4,t5,t6,t7,rfl⟩:=eight hT.len
   have hil:i < rest.length:=by
    rcases Nat.lt_or_ge i rest.length with h | h
    ·exact h
    ·rw [List.getElem?_eq_none h] at hxi;simp at hxi
   have hper:(P ++ [([k0,k1,k2,k3,k4,k5,k6,k7],xc)] ++ rest.eraseIdx i).Perm es:=by
    have hget:rest[i]=([k0,k1,k2,k3,k4,k5,k6,k7],xc):=by
     rw [List.getElem?_eq_getElem hil] at hxi
     injection hxi
    have h9:=erase_perm rest i hil
    rw [hget] at h9
    refine List.Perm.trans ?_ hq
    rw [List.append_assoc]
    exact List.Perm.append_left _ h9
   refine wskip ?_
   show AWp _ _ _ _ _
   refine wblock ?_
   refine wseq ?_
   refine wreg fun K hK=>?_
   simp [C.impl_DivideLaurents,fS,ints]
   refine hK _ ?_;clear hK K
   show AWp _ _ _ _ _
   refine wseq ?_
   refine wcode (c':=codeAt Tryz.f118 [1,1,1,1,1,1,0,0,0,1,0,1,1,0,1,0,0,1,1,0,1,0]) (by kernel_rfl) ?_
   refine impl_DivideLaurents_r21 f g n hn es eo P rest k0 k1 k2 k3 k4 k5 k6 k7 t0 t1 t2 t3 t4 t5 t6 t7 xc i _ _ ?_
   show AWp _ _ _ _ _
   refine wcond _ rfl (fun hc7=>?_) (fun hc7=>?_)
   ·have hcm:=d_t hc7
    refine wreg fun K hK=>?_
    simp [C.impl_DivideLaurents,fS]
    refine hK _ ?_;clear hK K
    simp [C.impl_DivideLaurents,fS]
    refine cast (congrArg R3 ?_) (hR3 (P ++ [([k0,k1,k2,k3,k4,k5,k6,k7],xc)],[k0,k1,k2,k3,k4,k5,k6,k7],rest.eraseIdx i,some ([k0,k1,k2,k3,k4,k5,k6,k7],xc)) ⟨hper,hT.next rfl hcm⟩ (by dsimp only;rw [List.length_eraseIdx_of_lt hil];omega))
    simp [fS,hn,ints]
   ·have hcm:=d_f hc7
    have hPn:P≠[]:=fun e=>hcm (.inl e)
    have hlt:lexlt [t0,t1,t2,t3,t4,t5,t6,t7] [k0,k1,k2,k3,k4,k5,k6,k7]=false:=by
     cases hh:lexlt [t0,t1,t2,t3,t4,t5,t6,t7] [k0,k1,k2,k3,k4,k5,k6,k7] with
     | false=>rfl
     | true=>exact absurd (.inr hh) hcm
    refine wskip ?_
    simp [C.impl_DivideLaurents,fS]
    refine cast (congrArg R3 ?_) (hR3 (P ++ [([k0,k1,k2,k3,k4,k5,k6,k7],xc)],[t0,t1,t2,t3,t4,t5,t6,t7],rest.eraseIdx i,some ([k0,k1,k2,k3,k4,k5,k6,k7],xc)) ⟨hper,hT.keep hPn hlt⟩ (by dsimp only;rw [List.length_eraseIdx_of_lt hil];omega))
    simp [fS,hn,ints,hPn]
  ·simp at hc6
theorem impl_DivideLaurents_r24 (f g:Lau) (n:Nat) (es eo:List (List Int×Int)) (a0 a1 a2 a3 a4 a5 a6 a7 b0 b1 b2 b3 b4 b5 b6 b7 c:Int) (hgl8:(leadE g).length<=8) (hpb:pad (leadE g)=[b0,b1,b2,b3,b4,b5,b6,b7]) (hba:∀ x∈[a0,a1,a2,a3,a4,a5,a6,a7],-1000000<=x/\x<=1000000) (hbb:∀ x∈[b0,b1,b2,b3,b4,b5,b6,b7],-1000000<=x/\x<=1000000) (i0:Nat) (Q0:AEx->St->Prop) (hJ0:Q0 .normal ⟨ofL [(2,.pt (2,0) [] 0),(3,.pt (3,0) [] 0),(4,.pt (4,0) [] 0),(6,.pt (6,0) [] 0),(9,.pt (9,0) [] 0),(10,.pt (10,0) [] 0),(14,.int c),(15,.pt (15,0) [] 0)],ofRO [((2,0),some (.bx (fS f))),((3,0),some (.bx (fS g))),((4,0),some (.bx [D.int 0,.v (.slice none 0 0)])),((6,0),some (.bx [D.int n,.mp es])),((9,0),some (.bx [D.int n,.mp eo])),((10,0),some (.bx [shI (leadE g),D.int (leadC g)])),((15,0),some (.bx [D.int (a0 + -1*b0),D.int (a1 + -1*b1),D.int (a2 + -1*b2),D.int (a3 + -1*b3),D.int (a4 + -1*b4),D.int (a5 + -1*b5),D.int (a6 + -1*b6),D.int (a7 + -1*b7)]))]⟩):AWp C.impl_DivideLaurents (codeAt Tryz.f118 [1,1,1,1,1,1,0,0,0,1,0,1,1,1,1,0]) i0 Q0 ⟨ofL [(2,.pt (2,0) [] 0),(3,.pt (3,0) [] 0),(4,.pt (4,0) [] 0),(6,.pt (6,0) [] 0),(9,.pt (9,0) [] 0),(10,.pt (10,0) [] 0),(11,.pt (11,0) [] 0),(14,.int c)],ofRO [((2,0),some (.bx (fS f))),((3,0),some (.bx (fS g))),((4,0),some (.bx [D.int 0,.v (.slice none 0 0)])),((6,0),some (.bx [D.int n,.mp es])),((9,0),some (.bx [D.int n,.mp eo])),((10,0),some (.bx [shI (leadE g),D.int (leadC g)])),((11,0),some (.bx (ints [a0,a1,a2,a3,a4,a5,a6,a7])))]⟩:=by
 simp only [codeAt,Tryz.f118,walkCode]
 refine wdraw (.take 0 (.take 1 (.take 2 (.all [(3,.all [(4,.all [(5,.all [(6,.done)])]),(5,.all [(4,.all [(6,.done)])])]),(5,.all [(3,.all [(4,.all [(6,.done)])])])])))) ⟨by kernel_rfl,by kernel_rfl⟩ fun K hK=>?_
 have hJ:K ⟨ofL [(2,.pt (2,0) [] 0),(3,.pt (3,0) [] 0),(4,.pt (4,0) [] 0),(6,.pt (6,0) [] 0),(9,.pt (9,0) [] 0),(10,.pt (10,0) [] 0),(14,.int c),(15,.pt (15,0) [] 0)],ofRO [((2,0),some (.bx (fS f))),((3,0),some (.bx (fS g))),((4,0),some (.bx [D.int 0,.v (.slice none 0 0)])),((6,0),some (.bx [D.int n,.mp es])),((9,0),some (.bx [D.int n,.mp eo])),((10,0),some (.bx [shI (leadE g),D.int (leadC g)])),((15,0),some (.bx [D.int (a0 + -1*b0),D.int (a1 + -1*b1),D.int (a2 + -1*b2),D.int (a3 + -1*b3),D.int (a4 + -1*b4),D.int (a5 + -1*b5),D.int (a6 + -1*b6),D.int (a7 + -1*b7)]))]⟩:=by
  refine hK _ ?_;clear hK K
  exact hJ0
 clear hK
 have hk1:=impl_keyOf_c (leadE g) (by omega) b0 b1 b2 b3 b4 b5 b6 b7 hpb
 have hk2:=impl_plusExp_c (-1) a0 a1 a2 a3 a4 a5 a6 a7 b0 b1 b2 b3 b4 b5 b6 b7 (by omega) hba hbb
 simp [C.impl_DivideLaurents,fS,ints]
 repeat' first
  | (refine wcall1 hk1 (by simp) (by simp) ?_;simp [C.impl_DivideLaurents,fS])
  | (refine wcall1 hk2 (by simp) (by simp) ?_;simp [C.impl_DivideLaurents,fS])
  | (refine cast (congrArg K ?_) hJ;simp [fS];done)
  | refine ⟨?_,?_⟩
theorem impl_DivideLaurents_r26 (f g:Lau) (n:Nat) (hn:f.v=n) (hv:n<=8) (es eo O:List (List Int×Int)) (E:List Int) (e0 e1 e2 e3 e4 e5 e6 e7 c q:Int) (hgc0:leadC g≠0) (hsh:shareL (List.take n [D.v (.int .i64 e0),D.v (.int .i64 e1),D.v (.int .i64 e2),D.v (.int .i64 e3),D.v (.int .i64 e4),D.v (.int .i64 e5),D.v (.int .i64 e6),D.v (.int .i64 e7)])=ints E) (hEl:E.length=n) (heol:eo.length=O.length) (i0:Nat) (Q0:AEx->St->Prop) (hJ0:Q0 .normal ⟨ofL [(2,.pt (2,0) [] 0),(3,.pt (3,0) [] 0),(4,.pt (4,0) [] 0),(6,.pt (6,0) [] 0),(9,.pt (9,0) [] 0),(10,.pt (10,0) [] 0),(15,.pt (15,0) [] 0),(16,.int q),(119,.bool (!decide (((c.tmod (leadC g)=0/\okE E n=true)/\(q≠0/\-1000000<=q/\q<=1000000))/\¬ O.length=600)))],ofRO [((2,0),some (.bx (fS f))),((3,0),some (.bx (fS g))),((4,0),some (.bx [D.int 0,.v (.slice none 0 0)])),((6,0),some (.bx [D.int n,.mp es])),((9,0),some (.bx [D.int n,.mp eo])),((10,0),some (.bx [shI (leadE g),D.int (leadC g)])),((15,0),some (.bx [D.int e0,D.int e1,D.int e2,D.int e3,D.int e4,D.int e5,D.int e6,D.int e7]))]⟩):AWp C.impl_DivideLaurents (codeAt Tryz.f118 [1,1,1,1,1,1,0,0,0,1,0,1,1,1,1,1,1,0,0]) i0 Q0 ⟨ofL [(2,.pt (2,0) [] 0),(3,.pt (3,0) [] 0),(4,.pt (4,0) [] 0),(6,.pt (6,0) [] 0),(9,.pt (9,0) [] 0),(10,.pt (10,0) [] 0),(14,.int c),(15,.pt (15,0) [] 0),(16,.int q)],ofRO [((2,0),some (.bx (fS f))),((3,0),some (.bx (fS g))),((4,0),some (.bx [D.int 0,.v (.slice none 0 0)])),((6,0),some (.bx [D.int n,.mp es])),((9,0),some (.bx [D.int n,.mp eo])),((10,0),some (.bx [shI (leadE g),D.int (leadC g)])),((15,0),some (.bx [D.int e0,D.int e1,D.int e2,D.int e3,D.int e4,D.int e5,D.int e6,D.int e7]))]⟩:=by
 simp only [codeAt,Tryz.f118,walkCode]
 refine wdrawI [(true,0),(true,1),(true,2),(true,3),(true,4),(true,5),(true,6),(true,7),(true,8),(true,9),(true,10),(false,11),(true,12),(true,13),(true,14),(true,15),(false,16),(true,17),(true,18),(true,19),(true,20),(true,21),(true,22),(true,23),(true,24),(true,25),(true,26)] ⟨by kernel_rfl,by kernel_rfl⟩ ([0,1,2,3,4,5,6,7,8,9,10,11] ++ ([12,13,14,15,16] ++ ([17,18,19,20,21,22,23,24,25,26]))) rfl fun K hK=>?_
 have hJ:K ⟨ofL [(2,.pt (2,0) [] 0),(3,.pt (3,0) [] 0),(4,.pt (4,0) [] 0),(6,.pt (6,0) [] 0),(9,.pt (9,0) [] 0),(10,.pt (10,0) [] 0),(15,.pt (15,0) [] 0),(16,.int q),(119,.bool (!decide (((c.tmod (leadC g)=0/\okE E n=true)/\(q≠0/\-1000000<=q/\q<=1000000))/\¬ O.length=600)))],ofRO [((2,0),some (.bx (fS f))),((3,0),some (.bx (fS g))),((4,0),some (.bx [D.int 0,.v (.slice none 0 0)])),((6,0),some (.bx [D.int n,.mp es])),((9,0),some (.bx [D.int n,.mp eo])),((10,0),some (.bx [shI (leadE g),D.int (leadC g)])),((15,0),some (.bx [D.int e0,D.int e1,D.int e2,D.int e3,D.int e4,D.int e5,D.int e6,D.int e7]))]⟩:=by
  refine hK _ ?_;clear hK K
  exact hJ0
 clear hK
 by_cases g1:c.tmod (leadC g)=0
 ·by_cases g2:okE E n=true
  ·by_cases g3:(q≠0/\-1000000<=q/\q<=1000000)
   ·refine oSg fun L hL=>?_
    simp [C.impl_DivideLaurents,fS,hgc0,hn,show ((n:Int)<=8) by omega,hv,Nat.min_eq_left hv,hsh,hEl,heol,g1,g2,g3]
    refine wcall1 (impl_expOk_c E n (by omega)) (by simp [fS,hgc0,hn,show ((n:Int)<=8) by omega,hv,Nat.min_eq_left hv,hsh,hEl,heol]) (by simp) ?_
    simp [C.impl_DivideLaurents,fS,hgc0,hn,show ((n:Int)<=8) by omega,hv,Nat.min_eq_left hv,hsh,hEl,heol,g1,g2,g3]
    refine hL _ ?_;clear hL L
    refine oSg fun L hL=>?_
    simp [C.impl_DivideLaurents,fS,hgc0,hn,show ((n:Int)<=8) by omega,hv,Nat.min_eq_left hv,hsh,hEl,heol,g1,g2,g3]
    refine wcall1 (impl_coefOk_c q) (by simp) (by simp) ?_
    simp [C.impl_DivideLaurents,fS,hgc0,hn,show ((n:Int)<=8) by omega,hv,Nat.min_eq_left hv,hsh,hEl,heol,g1,g2,g3]
    refine hL _ ?_;clear hL L
    refine oEn fun L hL=>?_
    simp [C.impl_DivideLaurents,fS,hgc0,hn,show ((n:Int)<=8) by omega,hv,Nat.min_eq_left hv,hsh,hEl,heol,g1,g2,g3]
    refine hL _ ?_;clear hL L
    simp [C.impl_DivideLaurents,fS,hgc0,hn,show ((n:Int)<=8) by omega,hv,Nat.min_eq_left hv,hsh,hEl,heol,g1,g2,g3]
    refine cast (congrArg K ?_) hJ
    simp [ieq600,hn,fS,g1,g2,g3]
   ·refine oSg fun L hL=>?_
    simp [C.impl_DivideLaurents,fS,hgc0,hn,show ((n:Int)<=8) by omega,hv,Nat.min_eq_left hv,hsh,hEl,heol,g1,g2,g3]
    refine wcall1 (impl_expOk_c E n (by omega)) (by simp [fS,hgc0,hn,show ((n:Int)<=8) by omega,hv,Nat.min_eq_left hv,hsh,hEl,heol]) (by simp) ?_
    simp [C.impl_DivideLaurents,fS,hgc0,hn,show ((n:Int)<=8) by omega,hv,Nat.min_eq_left hv,hsh,hEl,heol,g1,g2,g3]
    refine hL _ ?_;clear hL L
    refine oSg fun L hL=>?_
    simp [C.impl_DivideLaurents,fS,hgc0,hn,show ((n:Int)<=8) by omega,hv,Nat.min_eq_left hv,hsh,hEl,heol,g1,g2,g3]
    refine wcall1 (impl_coefOk_c q) (by simp) (by simp) ?_
    simp [C.impl_DivideLaurents,fS,hgc0,hn,show ((n:Int)<=8) by omega,hv,Nat.min_eq_left hv,hsh,hEl,heol,g1,g2,g3]
    refine hL _ ?_;clear hL L
    refine oEn fun L hL=>?_
    simp [C.impl_DivideLaurents,fS,hgc0,hn,show ((n:Int)<=8) by omega,hv,Nat.min_eq_left hv,hsh,hEl,heol,g1,g2,g3]
    refine hL _ ?_;clear hL L
    simp [C.impl_DivideLaurents,fS,hgc0,hn,show ((n:Int)<=8) by omega,hv,Nat.min_eq_left hv,hsh,hEl,heol,g1,g2,g3]
    refine cast (congrArg K ?_) hJ
    simp [ieq600,hn,fS,g1,g2,g3]
  ·refine oSg fun L hL=>?_
   simp [C.impl_DivideLaurents,fS,hgc0,hn,show ((n:Int)<=8) by omega,hv,Nat.min_eq_left hv,hsh,hEl,heol,g1,g2]
   refine wcall1 (impl_expOk_c E n (by omega)) (by simp [fS,hgc0,hn,show ((n:Int)<=8) by omega,hv,Nat.min_eq_left hv,hsh,hEl,heol]) (by simp) ?_
   simp [C.impl_DivideLaurents,fS,hgc0,hn,show ((n:Int)<=8) by omega,hv,Nat.min_eq_left hv,hsh,hEl,heol,g1,g2]
   refine hL _ ?_;clear hL L
   refine oSg fun L hL=>?_
   simp [C.impl_DivideLaurents,fS,hgc0,hn,show ((n:Int)<=8) by omega,hv,Nat.min_eq_left hv,hsh,hEl,heol,g1,g2]
   refine hL _ ?_;clear hL L
   refine oEn fun L hL=>?_
   simp [C.impl_DivideLaurents,fS,hgc0,hn,show ((n:Int)<=8) by omega,hv,Nat.min_eq_left hv,hsh,hEl,heol,g1,g2]
   refine hL _ ?_;clear hL L
   simp [C.impl_DivideLaurents,fS,hgc0,hn,show ((n:Int)<=8) by omega,hv,Nat.min_eq_left hv,hsh,hEl,heol,g1,g2]
   refine cast (congrArg K ?_) hJ
   simp [ieq600,hn,fS,g1,g2]
 ·refine oSg fun L hL=>?_
  simp [C.impl_DivideLaurents,fS,hgc0,hn,show ((n:Int)<=8) by omega,hv,Nat.min_eq_left hv,hsh,hEl,heol,g1]
  refine hL _ ?_;clear hL L
  refine oSg fun L hL=>?_
  simp [C.impl_DivideLaurents,fS,hgc0,hn,show ((n:Int)<=8) by omega,hv,Nat.min_eq_left hv,hsh,hEl,heol,g1]
  refine hL _ ?_;clear hL L
  refine oEn fun L hL=>?_
  simp [C.impl_DivideLaurents,fS,hgc0,hn,show ((n:Int)<=8) by omega,hv,Nat.min_eq_left hv,hsh,hEl,heol,g1]
  refine hL _ ?_;clear hL L
  simp [C.impl_DivideLaurents,fS,hgc0,hn,show ((n:Int)<=8) by omega,hv,Nat.min_eq_left hv,hsh,hEl,heol,g1]
  refine cast (congrArg K ?_) hJ
  simp [ieq600,hn,fS,g1]
theorem impl_DivideLaurents_l4 (f g:Lau) (n:Nat) (hn:f.v=n) (hgn:g.v=n) (hv:n<=8) (hg:Right g) (hgl:g.ts.length<=600) (es l eo2 O:List (List Int×Int)) (hOl:O.length<=600) (hLr:LJ n es l (600000000+O.length*600000000000000)) (E:List Int) (hEl:E.length=n) (e0 e1 e2 e3 e4 e5 e6 e7 q:Int) (hpe:pad E=[e0,e1,e2,e3,e4,e5,e6,e7]) (hbe:∀ x∈[e0,e1,e2,e3,e4,e5,e6,e7],-1000000<=x/\x<=1000000) (g3:q≠0/\-1000000<=q/\q<=1000000) (Q0:AEx->St->Prop) (hX0:∀ es2 l2,LJ n es2 l2 (600000000+O.length*600000000000000+600000000000000)->l2.Perm (l ++ negT E q g.ts)->Q0 (.exit 6) ⟨ofL [(2,.pt (2,0) [] 0),(3,.pt (3,0) [] 0),(4,.pt (4,0) [] 0),(6,.pt (6,0) [] 0),(9,.pt (9,0) [] 0),(10,.pt (10,0) [] 0),(15,.pt (15,0) [] 0),(16,.int q),(126,.d (.sh 2 g.ts.length (rows tS g.ts))),(127,.int g.ts.length),(128,.int g.ts.length),(129,.bool false)],ofRO [((2,0),some (.bx (fS f))),((3,0),some (.bx (fS g))),((4,0),some (.bx [D.int 0,.v (.slice none 0 0)])),((6,0),some (.bx [D.int n,.mp es2])),((9,0),some (.bx [D.int n,.mp eo2])),((10,0),some (.bx [shI (leadE g),D.int (leadC g)])),((15,0),some (.bx [D.int e0,D.int e1,D.int e2,D.int e3,D.int e4,D.int e5,D.int e6,D.int e7]))]⟩):AWp C.impl_DivideLaurents (codeAt Tryz.f118 [1,1,1,1,1,1,0,0,0,1,0,1,1,1,1,1,1,1,1,1,0]) 6 Q0 ⟨ofL [(2,.pt (2,0) [] 0),(3,.pt (3,0) [] 0),(4,.pt (4,0) [] 0),(6,.pt (6,0) [] 0),(9,.pt (9,0) [] 0),(10,.pt (10,0) [] 0),(15,.pt (15,0) [] 0),(16,.int q),(126,.d (.sh 2 g.ts.length (rows tS g.ts))),(127,.int g.ts.length),(128,.int 0)],ofRO [((2,0),some (.bx (fS f))),((3,0),some (.bx (fS g))),((4,0),some (.bx [D.int 0,.v (.slice none 0 0)])),((6,0),some (.bx [D.int n,.mp es])),((9,0),some (.bx [D.int n,.mp eo2])),((10,0),some (.bx [shI (leadE g),D.int (leadC g)])),((15,0),some (.bx [D.int e0,D.int e1,D.int e2,D.int e3,D.int e4,D.int e5,D.int e6,D.int e7]))]⟩:=by
 simp only [codeAt,Tryz.f118,walkCode]
 refine wloop (fun x:Nat×List (List Int×Int)×List (List Int×Int)=>⟨ofL [(2,.pt (2,0) [] 0),(3,.pt (3,0) [] 0),(4,.pt (4,0) [] 0),(6,.pt (6,0) [] 0),(9,.pt (9,0) [] 0),(10,.pt (10,0) [] 0),(15,.pt (15,0) [] 0),(16,.int q),(126,.d (.sh 2 g.ts.length (rows tS g.ts))),(127,.int g.ts.length),(128,.int x.1)],ofRO [((2,0),some (.bx (fS f))),((3,0),some (.bx (fS g))),((4,0),some (.bx [D.int 0,.v (.slice none 0 0)])),((6,0),some (.bx [D.int n,.mp x.2.1])),((9,0),some (.bx [D.int n,.mp eo2])),((10,0),some (.bx [shI (leadE g),D.int (leadC g)])),((15,0),some (.bx [D.int e0,D.int e1,D.int e2,D.int e3,D.int e4,D.int e5,D.int e6,D.int e7]))]⟩) (fun x=>x.1<=g.ts.length/\LJ n x.2.1 x.2.2 (600000000+O.length*600000000000000+x.1*1000000000000)/\x.2.2.Perm (l ++ negT E q (g.ts.take x.1))) (fun x=>g.ts.length - x.1) (0,es,l) (by simp [C.impl_DivideLaurents,fS,hn,hgn,hpe]) ⟨by simp,hLr.mono (by dsimp only;omega),by simp [negT]⟩ ?_
 intro x4 hx4 R4 hR4
 obtain ⟨j,es2,l2⟩:=x4
 obtain ⟨hj,hL2,hP2⟩:=hx4
 dsimp only at hj hL2 hP2 ⊢
 refine wseq ?_
 refine wreg fun K hK=>?_
 simp [C.impl_DivideLaurents,fS]
 refine hK _ ?_;clear hK K
 show AWp _ _ _ _ _
 refine wseq ?_
 refine wcond _ rfl (fun hc9=>?_) (fun hc9=>?_)
 ·have hjg:j < g.ts.length:=by have:=d_t hc9;omega
  have hU:=right_dig hg hgn _ (List.getElem_mem hjg)
  refine wskip ?_
  show AWp _ _ _ _ _
  refine wseq ?_
  refine wblock ?_
  refine wseq ?_
  refine wreg fun K hK=>?_
  simp [C.impl_DivideLaurents,fS,hjg,tS_0 hjg,tS_1 hjg]
  refine hK _ ?_;clear hK K
  show AWp _ _ _ _ _
  obtain ⟨u0,u1,u2,u3,u4,u5,u6,u7,hpu⟩:=eight (pad_length (e:=g.ts[j].e) (by omega))
  have hbu:=pad_bd hU.2.2.1
  rw [hpu] at hbu
  have hadd:[e0+1*u0,e1+1*u1,e2+1*u2,e3+1*u3,e4+1*u4,e5+1*u5,e6+1*u6,e7+1*u7]=pad (addE 1 E g.ts[j].e):=by
   rw [<-pad_add (by omega),hpe,hpu]
   simp [addE]
  have hnl:(addE 1 E g.ts[j].e).length=n:=by rw [addE_length _ _ _ (by omega)];exact hEl
  have hcc:=mul_bd (x:=-q) (y:=g.ts[j].c) (by omega) hU.2.2.2
  have hvj:=hL2.val hnl (c:=-q*g.ts[j].c) (X:=1000000000000) (by omega) (by omega)
  rw [<-hadd] at hvj
  refine wdrawI [(true,0),(true,1),(true,2),(true,3),(true,6),(true,7),(true,8),(true,9),(true,10),(false,4),(false,5),(false,11)] ⟨by kernel_rfl,by kernel_rfl⟩ ([0,1,2,3,6,7,8,9,10,4] ++ ([5] ++ ([11] ++ ([])))) rfl fun K hK=>?_
  refine oSg fun L hL=>?_
  simp [C.impl_DivideLaurents,fS,tS,wrapOk (x:=-q) (by omega) (by omega),wrapOk (x:=-q*g.ts[j].c) (by omega) (by omega)]
  refine wcall1 (impl_keyOf_c g.ts[j].e (by omega) u0 u1 u2 u3 u4 u5 u6 u7 hpu) (by simp) (by simp) ?_
  simp [C.impl_DivideLaurents,fS,tS,wrapOk (x:=-q) (by omega) (by omega),wrapOk (x:=-q*g.ts[j].c) (by omega) (by omega)]
  refine hL _ ?_;clear hL L
  refine oSg fun L hL=>?_
  simp [C.impl_DivideLaurents,fS,tS,wrapOk (x:=-q) (by omega) (by omega),wrapOk (x:=-q*g.ts[j].c) (by omega) (by omega)]
  refine wcall1 (impl_plusExp_c 1 e0 e1 e2 e3 e4 e5 e6 e7 u0 u1 u2 u3 u4 u5 u6 u7 (by omega) hbe hbu) (by simp) (by simp) ?_
  simp [C.impl_DivideLaurents,fS,tS,wrapOk (x:=-q) (by omega) (by omega),wrapOk (x:=-q*g.ts[j].c) (by omega) (by omega)]
  refine hL _ ?_;clear hL L
  refine oSg fun L hL=>?_
  simp [C.impl_DivideLaurents,fS,tS,wrapOk (x:=-q) (by omega) (by omega),wrapOk (x:=-q*g.ts[j].c) (by omega) (by omega)]
  refine wcall1 (impl_building_add_c n (-q*g.ts[j].c) es2 (e0+1*u0) (e1+1*u1) (e2+1*u2) (e3+1*u3) (e4+1*u4) (e5+1*u5) (e6+1*u6) (e7+1*u7) (hL2.map.len8 hv) hvj) (by simp) (by simp) ?_
  simp [C.impl_DivideLaurents,fS,tS,wrapOk (x:=-q) (by omega) (by omega),wrapOk (x:=-q*g.ts[j].c) (by omega) (by omega)]
  refine hL _ ?_;clear hL L
  refine oEn fun L hL=>?_
  simp only [AOpsI]
  refine hL _ ?_;clear hL L
  simp [C.impl_DivideLaurents,fS,tS,wrapOk (x:=-q) (by omega) (by omega),wrapOk (x:=-q*g.ts[j].c) (by omega) (by omega)]
  simp only [Int.one_mul] at hadd
  rw [hadd]
  refine hK _ ?_;clear hK K
  show AWp _ _ _ _ _
  refine wreg fun K hK=>?_
  simp [C.impl_DivideLaurents,fS,wrap_succ (show j < 4611686018427387904 by omega)]
  refine hK _ ?_;clear hK K
  simp [C.impl_DivideLaurents,fS]
  refine cast (congrArg R4 ?_) (hR4 (j+1,madd es2 (pad (addE 1 E g.ts[j].e)) (-q*g.ts[j].c),(addE 1 E g.ts[j].e,-q*g.ts[j].c) :: l2) ⟨hjg,?_,?_⟩ (by dsimp only;omega))
  ·simp [fS,hn,hgn]
  ·have:=hL2.add hnl (c:=-q*g.ts[j].c) (X:=1000000000000) (by omega)
   exact this.mono (by dsimp only;omega)
  ·dsimp only
   rw [negT_step hjg,<-List.append_assoc]
   exact (List.Perm.cons _ hP2).trans (List.perm_append_singleton _ _).symm
 ·have hjg:j=g.ts.length:=by have:=d_f hc9;omega
  rw [hjg,List.take_length] at hP2
  refine wexit ?_
  refine cast (congrArg (Q0 (.exit 6)) ?_) (hX0 es2 l2 (hL2.mono (by omega)) hP2)
  simp [fS,hn,hgn,hjg]
theorem impl_DivideLaurents_c (hDone:DoneOk) (f g:Lau) (hx:f.ts.length < 4611686018427387904) (hxe:∀ t∈f.ts,t.e.length < 4611686018427387904) (hy:g.ts.length < 4611686018427387904) (hye:∀ t∈g.ts,t.e.length < 4611686018427387904):ACalls Tryz.prog F.impl_DivideLaurents [aF f,aF g] [] true (fun outs res=>outs=[]/\WkRs res [.ag (fO (divF f g).1),.one (D.bool (divF f g).2)]):=by
 have hcall:=impl_bothOk_c f g hx hxe hy hye
 generalize hB:decide (Right f/\Right g/\f.v=g.v)=B at hcall
 refine ACalls.of_body (C:=C.impl_DivideLaurents) (n:=Tryz.f118.ntmps) tabT folT Tryz.func118 rfl (by kernel_rfl) rfl (Nat.le_of_ble_eq_true rfl) (by decide) (by kernel_rfl) (by kernel_rfl) rfl (by simp) (by simp) ?_
 simp only [Tryz.f118]
 refine wseq ?_
 refine wreg fun K hK=>?_
 simp [C.impl_DivideLaurents,fS]
 refine hK _ ?_;clear hK K
 show AWp _ _ _ _ _
 refine wseq ?_
 refine wseq ?_
 refine wregI ([0,1,2] ++ ([3,4,5,6,7,8,9])) rfl fun K hK=>?_
 have hJ:K ⟨ofL [(2,.pt (2,0) [] 0),(3,.pt (3,0) [] 0),(4,.pt (4,0) [] 0),(28,.bool (!(B && !decide (g.ts=[]))))],ofRO [((2,0),some (.bx (fS f))),((3,0),some (.bx (fS g))),((4,0),some (.bx [D.int 0,.v (.slice none 0 0)]))]⟩:=by
  refine hK _ ?_;clear hK K
  show AWp _ _ _ _ _
  refine wcond _ rfl (fun hc1=>?_) (fun hc1=>?_)
  ·have hr:¬ ((Right f/\Right g/\f.v=g.v)/\g.ts≠[]):=by
    rintro ⟨h1,h2⟩
    rw [<-hB,decide_eq_true h1] at hc1
    simp [h2] at hc1
   have hm:divF f g=(zeroF,false):=if_neg hr
   refine wseq ?_
   refine wreg fun K hK=>?_
   simp [C.impl_DivideLaurents,fS]
   refine hK _ ?_;clear hK K
   show AWp _ _ _ _ _
   refine wret ?_
   simp [C.impl_DivideLaurents,fS,hm,fO,zeroF,rows]
  ·have hr:(Right f/\Right g/\f.v=g.v)/\g.ts≠[]:=by
    rw [<-hB] at hc1
    simpa using hc1
   obtain ⟨⟨hf,hg,hfg⟩,hgne⟩:=hr
   have hv0:=hf.1
   obtain ⟨n,hn⟩:∃ n:Nat,f.v=n:=⟨f.v.toNat,by omega⟩
   have hgn:g.v=n:=by omega
   have hv:n<=8:=by omega
   have hm:=divF_some hf hg hn hgn hgne
   have hfl:=hf.2.1
   have hgl:=hg.2.1
   have he:=right_he hf hn
   have heg:=right_he hg hgn
   have hG0:0 < g.ts.length:=List.length_pos_iff.2 hgne
   obtain ⟨hl1,hl2⟩:=lead_get hG0
   have hgood:=hg.2.2.1 _ (List.getElem_mem hG0)
   have hgle:=heg _ (List.getElem_mem hG0)
   rw [hl1] at hgle
   obtain ⟨hgle1,hgle2⟩:=hgle
   have hgc:leadC g≠0/\-1000000<=leadC g/\leadC g<=1000000:=by rw [<-hl2];exact ⟨hgood.2.1,hgood.2.2.1⟩
   obtain ⟨b0,b1,b2,b3,b4,b5,b6,b7,hpb⟩:=eight (pad_length (e:=leadE g) (by omega))
   have hbb:=pad_bd hgle2
   rw [hpb] at hbb
   refine wskip ?_
   show AWp _ _ _ _ _
   refine wseq ?_
   refine wregI ([0,1,2] ++ ([3])) rfl fun K hK=>?_
   refine oSg fun L hL=>?_
   simp [C.impl_DivideLaurents,fS,hn]
   refine wcall1 (impl_newBuilding_c n) (by simp) (by simp) ?_
   simp [C.impl_DivideLaurents,fS,hn]
   refine hL _ ?_;clear hL L
   refine oEn fun L hL=>?_
   simp [C.impl_DivideLaurents,fS,hn]
   refine hL _ ?_;clear hL L
   simp [C.impl_DivideLaurents,fS,hn]
   refine hK _ ?_;clear hK K
   show AWp _ _ _ _ _
   refine wseq ?_
   refine wseq ?_
   refine wreg fun K hK=>?_
   simp [C.impl_DivideLaurents,fS]
   refine hK _ ?_;clear hK K
   show AWp _ _ _ _ _
   refine wblock ?_
   refine wcode (c':=codeAt Tryz.f118 [1,1,1,0,1,0]) (by kernel_rfl) ?_
   refine wst (σ2:=⟨ofL [(2,.pt (2,0) [] 0),(3,.pt (3,0) [] 0),(4,.pt (4,0) [] 0),(6,.pt (6,0) [] 0),(34,.d (.sh 2 f.ts.length (rows tS f.ts))),(35,.int f.ts.length),(36,.int 0)],ofRO [((2,0),some (.bx (fS f))),((3,0),some (.bx (fS g))),((4,0),some (.bx [D.int 0,.v (.slice none 0 0)])),((6,0),some (.bx [D.int n,.mp []]))]⟩) (by simp [fS,hn]) ?_
   refine impl_DivideLaurents_l1 f g n hn hv hf hfl _ ?_
   intro es l hLJ hall
   have hnf0:nf lexlt l=f.ts.map pr:=by
    rw [nf_perm hall]
    exact (nf_unique lexOrd (pr_desc hf) (pr_nz hf) fun k=>rfl).symm
   show AWp _ _ _ _ _
   refine wseq ?_
   refine wregI ([0,1,2] ++ ([3])) rfl fun K hK=>?_
   refine oSg fun L hL=>?_
   simp [C.impl_DivideLaurents,fS,hn]
   refine wcall1 (impl_newBuilding_c n) (by simp) (by simp) ?_
   simp [C.impl_DivideLaurents,fS,hn]
   refine hL _ ?_;clear hL L
   refine oEn fun L hL=>?_
   simp [C.impl_DivideLaurents,fS,hn]
   refine hL _ ?_;clear hL L
   simp [C.impl_DivideLaurents,fS,hn]
   refine hK _ ?_;clear hK K
   show AWp _ _ _ _ _
   refine wseq ?_
   refine wreg fun K hK=>?_
   simp [C.impl_DivideLaurents,fS,hG0,tS_0 hG0,tS_1 hG0,hl1,hl2]
   refine hK _ ?_;clear hK K
   show AWp _ _ _ _ _
   refine wseq ?_
   refine wblock ?_
   refine wloop (fun x:(List (List Int×Int)×List (List Int×Int))×(List (List Int×Int)×List (List Int×Int))×List (List Int×Int)=>⟨ofL [(2,.pt (2,0) [] 0),(3,.pt (3,0) [] 0),(4,.pt (4,0) [] 0),(6,.pt (6,0) [] 0),(9,.pt (9,0) [] 0),(10,.pt (10,0) [] 0)],ofRO [((2,0),some (.bx (fS f))),((3,0),some (.bx (fS g))),((4,0),some (.bx [D.int 0,.v (.slice none 0 0)])),((6,0),some (.bx [D.int n,.mp x.1.1])),((9,0),some (.bx [D.int n,.mp x.2.1.1])),((10,0),some (.bx [shI (leadE g),D.int (leadC g)]))]⟩) (fun x=>LJ n x.1.1 x.1.2 (600000000+x.2.2.length*600000000000000)/\LJ n x.2.1.1 x.2.1.2 (x.2.2.length*1000000)/\x.2.1.2.Perm x.2.2/\DivJ chkI f g n (nf lexlt x.1.2) x.2.2/\DivO g n (nf lexlt x.1.2) x.2.2) (fun x=>600 - x.2.2.length) ((es,l),([],[]),[]) (by simp [C.impl_DivideLaurents,fS,hn]) ⟨hLJ.mono (by dsimp only [List.length_nil];omega),⟨MapR.nil n,by simp,by simp [absE]⟩,by simp,by dsimp only;rw [hnf0];exact DivJ.start _ hf hn,⟨List.Pairwise.nil,by simp [Nz],by simp,by simp⟩⟩ ?_
   intro x2 hx2 R2 hR2
   obtain ⟨⟨es,l⟩,⟨eo,lo⟩,O⟩:=x2
   obtain ⟨hLr,hLo,hPo,hJ1,hJ2⟩:=hx2
   dsimp only at hLr hLo hPo hJ1 hJ2 ⊢
   have hOl:=hJ1.ol
   have helen:=unpad_len hLr.map hLr.len
   have heol:eo.length=O.length:=by
    have h1:=unpad_len hLo.map hLo.len
    rw [nf_perm hPo,hJ2.nf] at h1
    exact h1.symm
   refine wseq ?_
   refine wseq ?_
   refine wreg fun K hK=>?_
   simp [C.impl_DivideLaurents,fS]
   refine hK _ ?_;clear hK K
   show AWp _ _ _ _ _
   refine wcond _ rfl (fun hc3=>?_) (fun hc3=>?_)
   ·have hes:0 < es.length:=by have:=d_t hc3;omega
    obtain ⟨⟨a,c⟩,R',hR⟩:∃ y R',nf lexlt l=y :: R':=by
     cases hh:nf lexlt l with
     | nil=>rw [hh] at helen;simp at helen;omega
     | cons y R'=>exact ⟨y,R',rfl⟩
    rw [hR] at hJ1 hJ2
    refine wskip ?_
    show AWp _ _ _ _ _
    refine wblock ?_
    refine wseq ?_
    refine wreg fun K hK=>?_
    simp [C.impl_DivideLaurents,fS]
    refine hK _ ?_;clear hK K
    show AWp _ _ _ _ _
    refine wseq ?_
    refine wreg fun K hK=>?_
    simp [C.impl_DivideLaurents,fS]
    refine hK _ ?_;clear hK K
    show AWp _ _ _ _ _
    refine wseq ?_
    refine wseq ?_
    refine wreg fun K hK=>?_
    simp [C.impl_DivideLaurents,fS]
    refine hK _ ?_;clear hK K
    show AWp _ _ _ _ _
    refine wblock ?_
    refine wcode (c':=codeAt Tryz.f118 [1,1,1,1,1,1,0,0,0,1,0,1,1,0,1,0]) (by kernel_rfl) ?_
    refine impl_DivideLaurents_l3 f g n hn es eo (hLr.map.len8 hv) _ ?_
    intro P top cur hqe hT
    have hPne:P≠[]:=by intro e;rw [e] at hqe;have:=hqe.length_eq;simp at this;omega
    obtain ⟨htop,hget⟩:=top_head hLr.map hLr.len hqe hT hR
    have ha:=hJ1.rl (a,c) (by simp)
    obtain ⟨hal,ha60⟩:=ha
    dsimp only at hal ha60
    obtain ⟨a0,a1,a2,a3,a4,a5,a6,a7,hpa⟩:=eight (pad_length (e:=a) (by omega))
    have hba:=pad_bd60 (B:=60) (by omega) (by omega) ha60
    rw [hpa] at hba htop
    subst htop
    have hcb:-1000000000000000000<=c/\c<=1000000000000000000:=by
     have h1:=hJ1.ra
     simp only [absK,List.map_cons,List.sum_cons] at h1
     omega
    have hEl:(addE (-1) a (leadE g)).length=n:=by rw [addE_length _ _ _ (by omega)];exact hal
    have hE80:=addE_bd (B:=60) (C:=20) (k:=-1) (.inr rfl) (hal.trans hgle1.symm) ha60 hgle2
    have hpe0:[a0 + -1*b0,a1 + -1*b1,a2 + -1*b2,a3 + -1*b3,a4 + -1*b4,a5 + -1*b5,a6 + -1*b6,a7 + -1*b7]=pad (addE (-1) a (leadE g)):=by
     rw [<-pad_add (by omega),hpa,hpb]
     simp [addE]
    show AWp _ _ _ _ _
    refine wseq ?_
    refine wdraw (.take 0 (.take 1 (.take 2 (.take 3 (.take 4 (.take 5 (.take 6 (.done)))))))) ⟨by kernel_rfl,by kernel_rfl⟩ fun K hK=>?_
    simp [C.impl_DivideLaurents,fS,hget,hLr.map.len8 hv]
    refine hK _ ?_;clear hK K
    show AWp _ _ _ _ _
    refine wseq ?_
    refine wcode (c':=codeAt Tryz.f118 [1,1,1,1,1,1,0,0,0,1,0,1,1,1,1,0]) (by kernel_rfl) ?_
    refine impl_DivideLaurents_r24 f g n es eo a0 a1 a2 a3 a4 a5 a6 a7 b0 b1 b2 b3 b4 b5 b6 b7 c (by omega) hpb hba hbb _ _ ?_
    show AWp _ _ _ _ _
    refine wseq ?_
    obtain ⟨e0,e1,e2,e3,e4,e5,e6,e7,hpe⟩:=eight (pad_length (e:=addE (-1) a (leadE g)) (by omega))
    rw [hpe] at hpe0
    simp only [List.cons.injEq,and_true] at hpe0
    obtain ⟨k0,k1,k2,k3,k4,k5,k6,k7⟩:=hpe0
    simp only [k0,k1,k2,k3,k4,k5,k6,k7]
    have hqb:-1000000000000000000<=c.tdiv (leadC g)/\c.tdiv (leadC g)<=1000000000000000000:=by
     have h1:(c.tdiv (leadC g)).natAbs<=c.natAbs:=by
      rw [Int.natAbs_tdiv]
      exact Nat.div_le_self _ _
     omega
    generalize hQ:c.tdiv (leadC g)=q at hqb
    have htkE:List.take n [e0,e1,e2,e3,e4,e5,e6,e7]=addE (-1) a (leadE g):=by
     rw [<-hpe]
     have:=pad_take (e:=addE (-1) a (leadE g))
     rwa [hEl] at this
    have hsh:=sh8 n e0 e1 e2 e3 e4 e5 e6 e7
    rw [htkE] at hsh
    refine wreg fun K hK=>?_
    simp [C.impl_DivideLaurents,fS,hgc.1,hQ,wrapOk (x:=q) (by omega) (by omega)]
    refine hK _ ?_;clear hK K
    show AWp _ _ _ _ _
    refine wseq ?_
    refine wseq ?_
    refine wcode (c':=codeAt Tryz.f118 [1,1,1,1,1,1,0,0,0,1,0,1,1,1,1,1,1,0,0]) (by kernel_rfl) ?_
    refine impl_DivideLaurents_r26 f g n hn hv es eo O (addE (-1) a (leadE g)) e0 e1 e2 e3 e4 e5 e6 e7 c q hgc.1 hsh hEl heol _ _ ?_
    show AWp _ _ _ _ _
    refine wcond _ rfl (fun hc8=>?_) (fun hc8=>?_)
    ·have hr:=nd_t hc8
     have hfail:=hJ1.fail (by
      rcases Classical.em (O.length=600) with h | h
      ·exact .inr h
      ·refine .inl fun h2=>hr ⟨?_,h⟩
       dsimp only at h2
       rw [hQ] at h2
       simp only [chkI,decide_eq_true_eq] at h2
       exact ⟨⟨h2.1,okE_iff.2 ⟨by omega,h2.2.1⟩⟩,h2.2.2⟩)
     refine wseq ?_
     refine wreg fun K hK=>?_
     simp [C.impl_DivideLaurents,fS]
     refine hK _ ?_;clear hK K
     show AWp _ _ _ _ _
     refine wret ?_
     simp [C.impl_DivideLaurents,fS,hm,hfail,endF,zeroF,fO,rows]
    ·obtain ⟨⟨⟨g1,g2⟩,g3⟩,g4⟩:=nd_f hc8
     have hE20:=(okE_iff.1 g2).2
     have hchk:chkI (addE (-1) a (leadE g)) q=true:=by simp only [chkI,decide_eq_true_eq];exact ⟨hE20,g3⟩
     have hJ1s:=hJ1.step hg hgn g1 (by dsimp only;rw [hQ];exact hchk) (by omega) hEl (fun z hz=>by have:=hE20 z hz;omega) (by dsimp only;rw [hQ];exact g3.2)
     have hJ2s:=hJ2.step hJ1.rd (fun y hy=>(hJ1.rl y hy).1) hg hgn hgne g1 (by dsimp only;rw [hQ];exact g3.1)
     dsimp only at hJ1s hJ2s
     rw [hQ] at hJ1s hJ2s
     have hvo:=hLo.val hEl (c:=q) (X:=1000000) (by omega) (by omega)
     rw [hpe] at hvo
     have hbe:=pad_bd hE20
     rw [hpe] at hbe
     refine wskip ?_
     show AWp _ _ _ _ _
     refine wseq ?_
     refine wregI ([0,1,2,3] ++ ([])) rfl fun K hK=>?_
     refine oSg fun L hL=>?_
     simp [C.impl_DivideLaurents,fS]
     refine wcall1 (impl_building_add_c n q eo e0 e1 e2 e3 e4 e5 e6 e7 (hLo.map.len8 hv) hvo) (by simp) (by simp) ?_
     simp [C.impl_DivideLaurents,fS]
     refine hL _ ?_;clear hL L
     refine oEn fun L hL=>?_
     simp only [AOpsI]
     refine hL _ ?_;clear hL L
     simp [C.impl_DivideLaurents,fS]
     rw [<-hpe]
     refine hK _ ?_;clear hK K
     show AWp _ _ _ _ _
     refine wseq ?_
     refine wreg fun K hK=>?_
     simp [C.impl_DivideLaurents,fS]
     refine hK _ ?_;clear hK K
     show AWp _ _ _ _ _
     refine wblock ?_
     refine wcode (c':=codeAt Tryz.f118 [1,1,1,1,1,1,0,0,0,1,0,1,1,1,1,1,1,1,1,1,0]) (by kernel_rfl) ?_
     refine impl_DivideLaurents_l4 f g n hn hgn hv hg hgl es l (madd eo (pad (addE (-1) a (leadE g))) q) O hOl hLr (addE (-1) a (leadE g)) hEl e0 e1 e2 e3 e4 e5 e6 e7 q hpe hbe g3 _ ?_
     intro es2 l2 hL2 hP2
     have hnf2:nf lexlt l2=nf lexlt (stepL g (a,c) R'):=step_nf hR (by dsimp only;rw [hQ];exact hP2)
     simp [C.impl_DivideLaurents,fS]
     refine cast (congrArg R2 ?_) (hR2 ((es2,l2),(madd eo (pad (addE (-1) a (leadE g))) q,(addE (-1) a (leadE g),q) :: lo),O ++ [(addE (-1) a (leadE g),q)]) ⟨?_,?_,?_,?_,?_⟩ (by simp;omega))
     ·simp [fS,hn,hgn]
     ·exact hL2.mono (by simp;omega)
     ·exact (hLo.add hEl (c:=q) (X:=1000000) (by omega)).mono (by simp;omega)
     ·exact (List.Perm.cons _ hPo).trans (List.perm_append_singleton _ _).symm
     ·dsimp only
      rw [hnf2]
      exact hJ1s
     ·dsimp only
      rw [hnf2]
      exact hJ2s
   ·have hes:es.length=0:=by have:=d_f hc3;omega
    have hR0:nf lexlt l=[]:=List.eq_nil_of_length_eq_zero (by omega)
    rw [hR0] at hJ1 hJ2
    have hdone:=hJ1.done
    have hsh0:=hJ2.shut n
    rw [<-shutF_perm hPo] at hsh0
    refine wexit ?_
    show AWp _ _ _ _ _
    refine wseq ?_
    refine wregI ([0,1] ++ ([2,3,4,5])) rfl fun K hK=>?_
    refine oSg fun L hL=>?_
    simp [C.impl_DivideLaurents,fS,hn]
    refine wcall1 (hDone n eo lo hLo.map hLo.len (by omega) hv (by have:=hPo.length_eq;omega)) (by simp) (by simp) ?_
    simp [C.impl_DivideLaurents,fS,hn]
    refine hL _ ?_;clear hL L
    refine oEn fun L hL=>?_
    simp [C.impl_DivideLaurents,fS,hn]
    refine hL _ ?_;clear hL L
    simp [C.impl_DivideLaurents,fS,hn]
    refine hK _ ?_;clear hK K
    show AWp _ _ _ _ _
    refine wret ?_
    simp [C.impl_DivideLaurents,fS,hm,hdone,hsh0,fO]
 clear hK
 by_cases hb:B=true
 ·refine oSg fun L hL=>?_
  simp [C.impl_DivideLaurents,fS,hb]
  refine wcall1 (hcall) (by simp) (by simp) ?_
  simp [C.impl_DivideLaurents,fS,hb]
  refine hL _ ?_;clear hL L
  refine oEn fun L hL=>?_
  simp [C.impl_DivideLaurents,fS,hb]
  refine hL _ ?_;clear hL L
  simp [C.impl_DivideLaurents,fS,hb]
  refine cast (congrArg K ?_) hJ
  simp [ieq0,fS,hb]
 ·refine oSg fun L hL=>?_
  simp [C.impl_DivideLaurents,fS,hb]
  refine wcall1 (hcall) (by simp) (by simp) ?_
  simp [C.impl_DivideLaurents,fS,hb]
  refine hL _ ?_;clear hL L
  refine oEn fun L hL=>?_
  simp [C.impl_DivideLaurents,fS,hb]
  refine hL _ ?_;clear hL L
  simp [C.impl_DivideLaurents,fS,hb]
  refine cast (congrArg K ?_) hJ
  simp [ieq0,fS,hb]
theorem iDiv_c (hDone:DoneOk) (f g:Lau) (hx:f.ts.length < 4611686018427387904) (hxe:∀ t∈f.ts,t.e.length < 4611686018427387904) (hy:g.ts.length < 4611686018427387904) (hye:∀ t∈g.ts,t.e.length < 4611686018427387904):ACalls Tryz.prog F.impl_DivideLaurents [aF f,aF g] [] true (fun outs res=>outs=[]/\res=[.ag (fO (divF f g).1),.one (D.bool (divF f g).2)]):=(impl_DivideLaurents_c hDone f g hx hxe hy hye).weak1
theorem endF_right (v:Int) (O:Option (List (List Int×Int))):Right (endF v O).1\/endF v O=(zeroF,false):=by
 cases O with
 | none=>exact .inr rfl
 | some O=>
  simp only [endF]
  split
  ·rename_i h;exact .inl h
  ·exact .inr rfl
theorem divF_small (f g:Lau):SmallF (divF f g).1:=by
 unfold divF
 split
 ·rcases endF_right f.v (divL chkI g 600 (f.ts.map pr)) with h | h
  ·exact small_right h
  ·rw [h];exact small_zero
 ·exact small_zero
end Go.Proofs.YtbhkonnakkhibaaGreat.Ab
namespace Go.Proofs.YtbhkonnakkhibaaGreat.Ab
open Go
set_option maxRecDepth 10000
set_option maxHeartbeats 2000000
end Go.Proofs.YtbhkonnakkhibaaGreat.Ab
namespace Go.Proofs.YtbhkonnakkhibaaGreat.Ab
open Go
set_option maxRecDepth 10000
set_option maxHeartbeats 2000000
def VarOk (r:Int) (f:Lau):Prop:=Right f/\f.ts≠[]/\f.v=r
def SeedOK (s:Sed):Prop:=MatOK s.m/\(s.f.length:Int)=s.m.r/\∀ f∈s.f,VarOk s.m.r f
noncomputable instance (r:Int) (f:Lau):Decidable (VarOk r f):=Classical.propDecidable _
noncomputable instance (s:Sed):Decidable (SeedOK s):=Classical.propDecidable _
theorem ieq0' {α:Type} (l:List α):((l.length:Int) == 0)=decide (l=[]):=by
 rw [Bool.eq_iff_iff];cases l <;> simp;omega
theorem impl_SeedOk_1_c (s:Sed) (f:Lau) (hx:f.ts.length < 4611686018427387904) (hxe:∀ t∈f.ts,t.e.length < 4611686018427387904):ACalls Tryz.prog F.impl_SeedOk_1 [aF f,.d (.vp (sS s))] [] true (fun outs res=>outs=[]/\res=[.one (D.bool (!decide (VarOk s.m.r f)))]):=by
 refine ACalls.of_body (C:=C.impl_SeedOk_1) (n:=Tryz.f83.ntmps) tabT folT Tryz.func83 rfl (by kernel_rfl) rfl (Nat.le_of_ble_eq_true rfl) (by decide) (by kernel_rfl) (by kernel_rfl) rfl (by simp) (by simp) ?_
 simp only [Tryz.f83]
 refine wseq ?_
 refine wreg fun K hK=>?_
 simp [C.impl_SeedOk_1,fS,sS]
 refine hK _ ?_;clear hK K
 show AWp _ _ _ _ _
 refine wseq ?_
 refine wregI ([0,1] ++ ([2,3,4,5,6,7,8,9,10,11,12,13,14,15,16,17])) rfl fun K hK=>?_
 have hJ:K ⟨ofL [(3,.bool (!decide (VarOk s.m.r f)))],ofRO []⟩:=by
  refine hK _ ?_;clear hK K
  show AWp _ _ _ _ _
  refine wret ?_
  simp [C.impl_SeedOk_1,fS,sS]
 clear hK
 by_cases h1:Right f
 ·by_cases h2:f.ts=[]
  ·refine oSg fun L hL=>?_
   simp [C.impl_SeedOk_1,fS,sS,h2,h1,h2]
   refine wcall1 (impl_LaurentOk_c f hx hxe) (by simp [fS,sS,h2]) (by simp) ?_
   simp [C.impl_SeedOk_1,fS,sS,h2,h1,h2]
   refine hL _ ?_;clear hL L
   refine oEn fun L hL=>?_
   simp [C.impl_SeedOk_1,fS,sS,h2,h1,h2]
   refine hL _ ?_;clear hL L
   simp [C.impl_SeedOk_1,fS,sS,h2,h1,h2]
   refine cast (congrArg K ?_) hJ
   simp [VarOk,ibne,fS,sS,h1,h2]
  ·refine oSg fun L hL=>?_
   simp [C.impl_SeedOk_1,fS,sS,h1,h2]
   refine wcall1 (impl_LaurentOk_c f hx hxe) (by simp) (by simp) ?_
   simp [C.impl_SeedOk_1,fS,sS,h1,h2]
   refine hL _ ?_;clear hL L
   refine oEn fun L hL=>?_
   simp [C.impl_SeedOk_1,fS,sS,h1,h2]
   refine hL _ ?_;clear hL L
   simp [C.impl_SeedOk_1,fS,sS,h1,h2]
   refine cast (congrArg K ?_) hJ
   simp [VarOk,ibne,fS,sS,h1,h2]
 ·refine oSg fun L hL=>?_
  simp [C.impl_SeedOk_1,fS,sS,h1]
  refine wcall1 (impl_LaurentOk_c f hx hxe) (by simp) (by simp) ?_
  simp [C.impl_SeedOk_1,fS,sS,h1]
  refine hL _ ?_;clear hL L
  refine oEn fun L hL=>?_
  simp [C.impl_SeedOk_1,fS,sS,h1]
  refine hL _ ?_;clear hL L
  simp [C.impl_SeedOk_1,fS,sS,h1]
  refine cast (congrArg K ?_) hJ
  simp [VarOk,ibne,fS,sS,h1]
theorem slices_IndexFunc_impl_Laurent_impl_Laurent_c (xs:List Lau) (g:Nat) (cs:List D) (p:Lau->Bool) (hx:xs.length < 4611686018427387904) (hM:aget [] MM g=[]) (hp:∀ x∈xs,ACalls Tryz.prog g [aF x,.d (.vp cs)] [] true (fun outs res=>outs=[]/\res=[.one (D.bool (p x))])):ACalls Tryz.prog F.slices_IndexFunc_impl_Laurent_impl_Laurent [.d (.sh 2 xs.length (rows fS xs)),.cl g [.d (.vp cs)]] [] true (fun outs res=>outs=[]/\∃ r:Int,res=[.one (D.int r)]/\decide (0<=r)=xs.any p):=by
 refine ACalls.of_body (C:=C.slices_IndexFunc_impl_Laurent_impl_Laurent) (n:=Tryz.f156.ntmps) tabT folT Tryz.func156 rfl (by kernel_rfl) rfl (Nat.le_of_ble_eq_true rfl) (by decide) (by kernel_rfl) (by kernel_rfl) rfl (by simp) (by simp) ?_
 simp only [Tryz.f156]
 refine wseq ?_
 refine wreg fun K hK=>?_
 simp [C.slices_IndexFunc_impl_Laurent_impl_Laurent]
 refine hK _ ?_;clear hK K
 show AWp _ _ _ _ _
 refine wseq ?_
 refine wseq ?_
 refine wreg fun K hK=>?_
 simp [C.slices_IndexFunc_impl_Laurent_impl_Laurent]
 refine hK _ ?_;clear hK K
 show AWp _ _ _ _ _
 refine wblock ?_
 refine wloop (fun k:Nat=>⟨ofL [(0,.d (.sh 2 xs.length (rows fS xs))),(1,.cl g [.d (.vp cs)]),(7,.int xs.length),(8,FV.int k)],ofRO []⟩) (fun k=>k<=xs.length/\(xs.take k).any p=false) (fun k=>xs.length - k) 0 (by simp [C.slices_IndexFunc_impl_Laurent_impl_Laurent]) (by simp) ?_
 intro x1 hx1 R1 hR1
 obtain ⟨hk,ht⟩:=hx1
 refine wseq ?_
 refine wreg fun K hK=>?_
 simp [C.slices_IndexFunc_impl_Laurent_impl_Laurent]
 refine hK _ ?_;clear hK K
 show AWp _ _ _ _ _
 refine wseq ?_
 refine wcond _ rfl (fun hc1=>?_) (fun hc1=>?_)
 ·have h1:x1 < xs.length:=by have:=d_t hc1;omega
  refine wskip ?_
  show AWp _ _ _ _ _
  refine wseq ?_
  refine wblock ?_
  refine wseq ?_
  refine wreg fun K hK=>?_
  simp [C.slices_IndexFunc_impl_Laurent_impl_Laurent]
  refine hK _ ?_;clear hK K
  show AWp _ _ _ _ _
  refine wseq ?_
  refine wregI ([0,1,2,3,4,5] ++ ([])) rfl fun K hK=>?_
  refine oSg fun L hL=>?_
  simp [C.slices_IndexFunc_impl_Laurent_impl_Laurent,fS_0 h1,fS_1 h1,h1,hM]
  refine wcall1 (hp xs[x1] (List.getElem_mem h1)) (by simp) (by simp) ?_
  simp [C.slices_IndexFunc_impl_Laurent_impl_Laurent,fS_0 h1,fS_1 h1,h1,hM]
  refine hL _ ?_;clear hL L
  refine oEn fun L hL=>?_
  simp only [AOpsI]
  refine hL _ ?_;clear hL L
  simp [C.slices_IndexFunc_impl_Laurent_impl_Laurent,fS_0 h1,fS_1 h1,h1,hM]
  refine hK _ ?_;clear hK K
  show AWp _ _ _ _ _
  refine wcond _ rfl (fun hc2=>?_) (fun hc2=>?_)
  ·have hpx:p xs[x1]=true:=by simpa using hc2
   refine wseq ?_
   refine wreg fun K hK=>?_
   simp [C.slices_IndexFunc_impl_Laurent_impl_Laurent]
   refine hK _ ?_;clear hK K
   show AWp _ _ _ _ _
   refine wret ?_
   simp [C.slices_IndexFunc_impl_Laurent_impl_Laurent]
   exact ⟨xs[x1],List.getElem_mem h1,hpx⟩
  ·have hpx:p xs[x1]=false:=by simpa using hc2
   refine wskip ?_
   show AWp _ _ _ _ _
   refine wreg fun K hK=>?_
   simp [C.slices_IndexFunc_impl_Laurent_impl_Laurent,wrap_succ (show x1 < 4611686018427387904 by omega)]
   refine hK _ ?_;clear hK K
   simp [C.slices_IndexFunc_impl_Laurent_impl_Laurent]
   refine hR1 (x1+1) ⟨h1,?_⟩ (by omega)
   rw [List.take_succ_eq_append_getElem h1,List.any_append,ht]
   simp [hpx]
 ·have h1:x1=xs.length:=by have:=d_f hc1;omega
  refine wexit ?_
  show AWp _ _ _ _ _
  refine wseq ?_
  refine wreg fun K hK=>?_
  simp [C.slices_IndexFunc_impl_Laurent_impl_Laurent]
  refine hK _ ?_;clear hK K
  show AWp _ _ _ _ _
  refine wret ?_
  simp [C.slices_IndexFunc_impl_Laurent_impl_Laurent]
  rw [h1,List.take_length] at ht
  simpa using ht
theorem slices_ContainsFunc_impl_Laurent_impl_Laurent_c (xs:List Lau) (g:Nat) (cs:List D) (p:Lau->Bool) (hx:xs.length < 4611686018427387904) (hM:aget [] MM g=[]) (hp:∀ x∈xs,ACalls Tryz.prog g [aF x,.d (.vp cs)] [] true (fun outs res=>outs=[]/\res=[.one (D.bool (p x))])):ACalls Tryz.prog F.slices_ContainsFunc_impl_Laurent_impl_Laurent [.d (.sh 2 xs.length (rows fS xs)),.cl g [.d (.vp cs)]] [] true (fun outs res=>outs=[]/\res=[.one (D.bool (xs.any p))]):=by
 refine ACalls.of_body (C:=C.slices_ContainsFunc_impl_Laurent_impl_Laurent) (n:=Tryz.f82.ntmps) tabT folT Tryz.func82 rfl (by kernel_rfl) rfl (Nat.le_of_ble_eq_true rfl) (by decide) (by kernel_rfl) (by kernel_rfl) rfl (by simp) (by simp) ?_
 simp only [Tryz.f82]
 refine wseq ?_
 refine wreg fun K hK=>?_
 simp [C.slices_ContainsFunc_impl_Laurent_impl_Laurent]
 refine hK _ ?_;clear hK K
 show AWp _ _ _ _ _
 refine wseq ?_
 refine wregI ([0,1,2] ++ ([3,4])) rfl fun K hK=>?_
 refine oSg fun L hL=>?_
 simp [C.slices_ContainsFunc_impl_Laurent_impl_Laurent]
 refine wcall (slices_IndexFunc_impl_Laurent_impl_Laurent_c xs g cs p hx hM hp) (by simp) (by simp) (by simp) ?_
 rintro outs res ⟨rfl,r,rfl,hr⟩
 simp [C.slices_ContainsFunc_impl_Laurent_impl_Laurent]
 refine hL _ ?_;clear hL L
 refine oEn fun L hL=>?_
 simp [C.slices_ContainsFunc_impl_Laurent_impl_Laurent]
 refine hL _ ?_;clear hL L
 simp [C.slices_ContainsFunc_impl_Laurent_impl_Laurent]
 refine hK _ ?_;clear hK K
 show AWp _ _ _ _ _
 refine wret ?_
 simp [C.slices_ContainsFunc_impl_Laurent_impl_Laurent]
 exact hr
theorem impl_SeedOk_c (s:Sed) (hx:s.m.d.length < 17592186044416) (hl:s.f.length < 4611686018427387904) (hf:∀ f∈s.f,SmF f):ACalls Tryz.prog F.impl_SeedOk [aS s] [] true (fun outs res=>outs=[]/\res=[.one (D.bool (decide (SeedOK s)))]):=by
 refine ACalls.of_body (C:=C.impl_SeedOk) (n:=Tryz.f26.ntmps) tabT folT Tryz.func26 rfl (by kernel_rfl) rfl (Nat.le_of_ble_eq_true rfl) (by decide) (by kernel_rfl) (by kernel_rfl) rfl (by simp) (by simp) ?_
 simp only [Tryz.f26]
 refine wseq ?_
 refine wreg fun K hK=>?_
 simp [C.impl_SeedOk,sS]
 refine hK _ ?_;clear hK K
 show AWp _ _ _ _ _
 refine wseq ?_
 refine wseq ?_
 refine wregI ([0,1,2] ++ ([3,4,5,6,7,8,9,10,11,12])) rfl fun K hK=>?_
 have hJ:K ⟨ofL [(1,.pt (1,0) [] 0),(15,.bool (!decide (MatOK s.m/\(s.f.length:Int)=s.m.r)))],ofRO [((1,0),some (.bx (sS s)))]⟩:=by
  refine hK _ ?_;clear hK K
  show AWp _ _ _ _ _
  refine wcond _ rfl (fun hc1=>?_) (fun hc1=>?_)
  ·have hr:=nd_t hc1
   have hno:¬ SeedOK s:=fun h=>hr ⟨h.1,h.2.1⟩
   refine wseq ?_
   refine wreg fun K hK=>?_
   simp [C.impl_SeedOk,sS]
   refine hK _ ?_;clear hK K
   show AWp _ _ _ _ _
   refine wret ?_
   simp [C.impl_SeedOk,sS,hno]
  ·have hr:=nd_f hc1
   have hany:(!(s.f.any fun f=>!decide (VarOk s.m.r f)))=decide (SeedOK s):=by
    rw [Bool.eq_iff_iff]
    simp only [Bool.not_eq_true',List.any_eq_false,decide_eq_true_eq]
    refine ⟨fun h=>⟨hr.1,hr.2,fun f hm=>?_⟩,fun h f hm=>?_⟩
    ·simpa using h f hm
    ·simpa using h.2.2 f hm
   have hcall:=slices_ContainsFunc_impl_Laurent_impl_Laurent_c s.f F.impl_SeedOk_1 (sS s) (fun f=>!decide (VarOk s.m.r f)) hl (by simp) (fun f hm=>impl_SeedOk_1_c s f (hf f hm).1 (hf f hm).2)
   simp only [sS] at hcall
   refine wskip ?_
   show AWp _ _ _ _ _
   refine wseq ?_
   refine wregI ([0,1,2,3] ++ ([4,5])) rfl fun K hK=>?_
   refine oSg fun L hL=>?_
   simp [C.impl_SeedOk,sS]
   refine wcall1 (hcall) (by simp) (by simp) ?_
   simp [C.impl_SeedOk,sS]
   refine hL _ ?_;clear hL L
   refine oEn fun L hL=>?_
   simp [C.impl_SeedOk,sS]
   refine hL _ ?_;clear hL L
   simp [C.impl_SeedOk,sS]
   refine hK _ ?_;clear hK K
   show AWp _ _ _ _ _
   refine wret ?_
   simp [C.impl_SeedOk,sS]
   rw [<-hany];simp
 clear hK
 by_cases h1:MatOK s.m
 ·refine oSg fun L hL=>?_
  simp [C.impl_SeedOk,sS,h1]
  refine wcall1 (impl_MatrixOkG_c s.m hx) (by simp) (by simp) ?_
  simp [C.impl_SeedOk,sS,h1]
  refine hL _ ?_;clear hL L
  refine oEn fun L hL=>?_
  simp [C.impl_SeedOk,sS,h1]
  refine hL _ ?_;clear hL L
  simp [C.impl_SeedOk,sS,h1]
  refine cast (congrArg K ?_) hJ
  simp [ibne,sS,h1]
 ·refine oSg fun L hL=>?_
  simp [C.impl_SeedOk,sS,h1]
  refine wcall1 (impl_MatrixOkG_c s.m hx) (by simp) (by simp) ?_
  simp [C.impl_SeedOk,sS,h1]
  refine hL _ ?_;clear hL L
  refine oEn fun L hL=>?_
  simp [C.impl_SeedOk,sS,h1]
  refine hL _ ?_;clear hL L
  simp [C.impl_SeedOk,sS,h1]
  refine cast (congrArg K ?_) hJ
  simp [ibne,sS,h1]
end Go.Proofs.YtbhkonnakkhibaaGreat.Ab
namespace Go.Proofs.YtbhkonnakkhibaaGreat.Ab
open Go
set_option maxRecDepth 10000
set_option maxHeartbeats 2000000
noncomputable def itM (f:Lau):Nat->Lau->Option Lau
 | 0,p=>some p
 | n+1,p=>if (mulF p f).2=true then itM f n (mulF p f).1 else none
noncomputable def prodE (sg:Int):List Lau->List Int->Lau->Option Lau
 | f :: fs,c :: cs,p=>(itM f (sg*c).toNat p).bind (prodE sg fs cs)
 | [],_,p=>some p
 | _ :: _,[],p=>some p
def colM (m:Mat) (r k:Nat):List Int:=(List.range r).map fun i=>bM m i k
@[simp] theorem colM_length (m:Mat) (r k:Nat):(colM m r k).length=r:=by simp [colM]
theorem colM_get (m:Mat) (r k i:Nat) (h:i < r):(colM m r k)[i]'(by simpa using h)=bM m i k:=by simp [colM]
noncomputable def exF (fs:List Lau) (cs:List Int) (r:Nat) (old:Lau):Lau×Bool:=
 if ∀ c∈cs,-8<=c/\c<=8 then (match prodE 1 fs cs (oneF r),prodE (-1) fs cs (oneF r) with
  | some a,some b=>if (addF a 1 b).2=true then divF (addF a 1 b).1 old else (zeroF,false)
  | _,_=>(zeroF,false)) else (zeroF,false)
theorem prodE_step {sg:Int} {fs:List Lau} {cs:List Int} {i:Nat} (h1:i < fs.length) (h2:i < cs.length) (p:Lau):prodE sg (fs.drop i) (cs.drop i) p=(itM fs[i] (sg*cs[i]).toNat p).bind (prodE sg (fs.drop (i+1)) (cs.drop (i+1))):=by
 rw [List.drop_eq_getElem_cons h1,List.drop_eq_getElem_cons h2,prodE]
theorem exF_none {fs:List Lau} {cs:List Int} {r:Nat} {old:Lau} {sg:Int} (hs:sg=1\/sg=-1) (h:prodE sg fs cs (oneF r)=none):exF fs cs r old=(zeroF,false):=by
 unfold exF
 split
 ·rcases hs with rfl | rfl
  ·rw [h]
  ·rw [h]
   split <;> simp_all
 ·rfl
theorem exF_big {fs:List Lau} {cs:List Int} {r:Nat} {old:Lau} {c:Int} (hc:c∈cs) (h:¬ (-8<=c/\c<=8)):exF fs cs r old=(zeroF,false):=if_neg fun q=>h (q c hc)
theorem exF_some {fs:List Lau} {cs:List Int} {r:Nat} {old a b:Lau} (hc:∀ c∈cs,-8<=c/\c<=8) (ha:prodE 1 fs cs (oneF r)=some a) (hb:prodE (-1) fs cs (oneF r)=some b):exF fs cs r old=if (addF a 1 b).2=true then divF (addF a 1 b).1 old else (zeroF,false):=by
 unfold exF
 rw [if_pos hc,ha,hb]
theorem exF_small (fs:List Lau) (cs:List Int) (r:Nat) (old:Lau):SmallF (exF fs cs r old).1:=by
 unfold exF
 split
 ·split
  ·split
   ·exact divF_small _ _
   ·exact small_zero
  ·exact small_zero
 ·exact small_zero
theorem SmallF.sm' {f:Lau} (h:SmallF f):f.ts.length < 4611686018427387904/\∀ t∈f.ts,t.e.length < 4611686018427387904:=⟨by have:=h.1;omega,fun t ht=>by have:=h.2.1 t ht;omega⟩
theorem mulF_small' (f g:Lau):SmallF (mulF f g).1:=by
 rcases mulF_right f g with h | h
 ·exact small_right h
 ·rw [h];exact small_zero
theorem addF_small' (f:Lau) (k:Int) (g:Lau):SmallF (addF f k g).1:=by
 unfold addF
 split
 ·rcases shutF_right f.v (f.ts.map pr ++ g.ts.map (prk k)) with h | h
  ·exact small_right h
  ·rw [h];exact small_zero
 ·exact small_zero
def exC0:List D:=[D.int 0,.v (.slice none 0 0),D.int 0,.v (.slice none 0 0)]
def exC1 (a:Lau):List D:=[D.int a.v,.ow 2 a.ts.length (rows tO a.ts),D.int 0,.v (.slice none 0 0)]
def exC2 (a b:Lau):List D:=[D.int a.v,.ow 2 a.ts.length (rows tO a.ts),D.int b.v,.ow 2 b.ts.length (rows tO b.ts)]
structure ExJ (fs:List Lau) (cs:List Int) (r:Nat) (side:Nat) (cells:List D):Prop where
 all:(side=0/\cells=exC0)\/(side=1/\(∀ c∈cs,c<=8)/\∃ a,SmallF a/\prodE 1 fs cs (oneF r)=some a/\cells=exC1 a) \/
  (side=2/\(∀ c∈cs,-8<=c/\c<=8)/\∃ a b,SmallF a/\SmallF b/\prodE 1 fs cs (oneF r)=some a/\prodE (-1) fs cs (oneF r)=some b/\cells=exC2 a b)
theorem impl_exchange_c (m:Mat) (n r k:Nat) (fs:List Lau) (v:Nat) (hv8:1<=v/\v<=8) (hn:m.n=n) (hr:m.r=r) (hS:ShM m) (hk:k < n) (hl:fs.length=r) (hf:∀ f∈fs,SmF f) (hv:∀ f∈fs,f.v=v):ACalls Tryz.prog F.impl_exchange [.ag [.int n,.int r,.d (shI m.d)],.d (.sh 2 fs.length (rows fS fs)),.int k] [] true (fun outs res=>outs=[]/\WkRs res [.ag (fO (exF fs (colM m r k) v (fs.getD k zeroF)).1),.one (D.bool (exF fs (colM m r k) v (fs.getD k zeroF)).2)]):=by
 have hn5:1<=n/\n<=5:=by have:=hS.1;omega
 have hnr:n<=r/\r<=8:=by have:=hS.2.1;omega
 have hkl:k < fs.length:=by omega
 have hkv:fs[k].v=v:=hv _ (List.getElem_mem hkl)
 have hone:=impl_ConstantLaurent_c v hv8
 have hos:SmallF (oneF v):=small_right (oneF_right (by omega))
 obtain ⟨cs,hcs⟩:∃ cs,cs=colM m r k:=⟨_,rfl⟩
 have hcl:cs.length=r:=by rw [hcs];simp
 have hcg:∀ (i:Nat) (h:i < r),cs[i]'(by omega)=bM m i k:=fun i h=>by simp only [hcs];exact colM_get m r k i h
 rw [<-hcs]
 obtain ⟨old,hold⟩:∃ old,old=fs.getD k zeroF:=⟨_,rfl⟩
 have hkg:fs[k]=old:=by rw [hold];simp [List.getD_eq_getElem?_getD,hkl]
 rw [<-hold]
 have hov:old.v=v:=by rw [<-hkg];exact hkv
 have holds:=hf _ (List.getElem_mem hkl)
 rw [hkg] at holds
 refine ACalls.of_body (C:=C.impl_exchange) (n:=Tryz.f66.ntmps) tabT folT Tryz.func66 rfl (by kernel_rfl) rfl (Nat.le_of_ble_eq_true rfl) (by decide) (by kernel_rfl) (by kernel_rfl) rfl (by simp) (by simp) ?_
 simp only [Tryz.f66]
 refine wseq ?_
 refine wreg fun K hK=>?_
 simp [C.impl_exchange]
 refine hK _ ?_;clear hK K
 show AWp _ _ _ _ _
 refine wseq ?_
 refine wreg fun K hK=>?_
 simp [C.impl_exchange]
 refine hK _ ?_;clear hK K
 show AWp _ _ _ _ _
 refine wseq ?_
 refine wseq ?_
 refine wreg fun K hK=>?_
 simp [C.impl_exchange]
 refine hK _ ?_;clear hK K
 show AWp _ _ _ _ _
 refine wblock ?_
 refine wloop (fun x:Nat×List D=>⟨ofL [(1,.d (.sh 2 fs.length (rows fS fs))),(2,.int k),(3,.pt (3,0) [] 0),(6,.pt (6,0) [] 0),(8,.pt (8,0) [] 0),(18,.al (18,0) [] 0 2),(19,.int 2),(20,.int x.1)],ofRO [((3,0),some (.bx [D.int n,D.int r,shI m.d])),((6,0),some (.bx [D.int 0,.v (.slice none 0 0)])),((8,0),some (.bx x.2)),((18,0),some (.ow 1 2 (ints [1,-1])))]⟩) (fun x=>ExJ fs cs v x.1 x.2) (fun x=>2 - x.1) (0,exC0) (by simp [C.impl_exchange,exC0,ints]) ⟨.inl ⟨rfl,rfl⟩⟩ ?_
 intro x1 hx1 R1 hR1
 obtain ⟨side,cells⟩:=x1
 have hx1':=hx1
 dsimp only at hx1' ⊢
 refine wseq ?_
 refine wreg fun K hK=>?_
 simp [C.impl_exchange]
 refine hK _ ?_;clear hK K
 show AWp _ _ _ _ _
 refine wseq ?_
 refine wcond _ rfl (fun hc1=>?_) (fun hc1=>?_)
 ·have hside:side < 2:=by have:=d_t hc1;omega
  obtain ⟨sg,hsg⟩:∃ sg:Int,sg=if side=0 then 1 else -1:=⟨_,rfl⟩
  have hsg2:sg=1\/sg=-1:=by rw [hsg];split <;> simp
  have hsgn:([1,-1]:List Int)[side]'(by simpa using hside)=sg:=by
   rcases (show side=0\/side=1 by omega) with rfl | rfl <;> (rw [hsg];rfl)
  obtain ⟨goal,hgoal⟩:∃ goal,goal=prodE sg fs cs (oneF v):=⟨_,rfl⟩
  refine wskip ?_
  show AWp _ _ _ _ _
  refine wseq ?_
  refine wblock ?_
  refine wseq ?_
  refine wreg fun K hK=>?_
  simp [C.impl_exchange,hside,get_ints,hsgn,show (side:Int) < 2 by omega]
  refine hK _ ?_;clear hK K
  show AWp _ _ _ _ _
  refine wseq ?_
  refine wregI ([0,1,2,3,4,5] ++ ([6,7])) rfl fun K hK=>?_
  refine oSg fun L hL=>?_
  simp [C.impl_exchange,hkl,fS_0 hkl,hkg,hov,show (k:Int) < fs.length by omega,fO]
  refine wcall1 (hone) (by simp) (by simp) ?_
  simp [C.impl_exchange,hkl,fS_0 hkl,hkg,hov,show (k:Int) < fs.length by omega,fO]
  refine hL _ ?_;clear hL L
  refine oEn fun L hL=>?_
  simp [C.impl_exchange,hkl,fS_0 hkl,hkg,hov,show (k:Int) < fs.length by omega,fO]
  refine hL _ ?_;clear hL L
  simp [C.impl_exchange,hkl,fS_0 hkl,hkg,hov,show (k:Int) < fs.length by omega,fO]
  refine hK _ ?_;clear hK K
  show AWp _ _ _ _ _
  refine wseq ?_
  refine wreg fun K hK=>?_
  simp [C.impl_exchange]
  refine hK _ ?_;clear hK K
  show AWp _ _ _ _ _
  refine wseq ?_
  refine wseq ?_
  refine wreg fun K hK=>?_
  simp [C.impl_exchange]
  refine hK _ ?_;clear hK K
  show AWp _ _ _ _ _
  refine wblock ?_
  refine wloop (fun x:Nat×Lau=>⟨ofL [(1,.d (.sh 2 fs.length (rows fS fs))),(2,.int k),(3,.pt (3,0) [] 0),(6,.pt (6,0) [] 0),(8,.pt (8,0) [] 0),(9,.int side),(10,.int sg),(11,.pt (11,0) [] 0),(18,.al (18,0) [] 0 2),(19,.int 2),(20,.int side),(31,.d (.sh 2 fs.length (rows fS fs))),(32,.int fs.length),(33,.int x.1)],ofRO [((3,0),some (.bx [D.int n,D.int r,shI m.d])),((6,0),some (.bx [D.int 0,.v (.slice none 0 0)])),((8,0),some (.bx cells)),((11,0),some (.bx (fO x.2))),((18,0),some (.ow 1 2 (ints [1,-1])))]⟩) (fun x=>x.1<=r/\SmallF x.2/\(∀ c∈cs.take x.1,sg*c<=8)/\prodE sg (fs.drop x.1) (cs.drop x.1) x.2=goal) (fun x=>r - x.1) (0,oneF v) (by simp [C.impl_exchange,fO]) ⟨by simp,hos,by simp,by rw [hgoal];rfl⟩ ?_
  intro x2 hx2 R2 hR2
  obtain ⟨i,p⟩:=x2
  obtain ⟨hi0,hps,hcb,hpg⟩:=hx2
  dsimp only at hi0 hps hcb hpg ⊢
  refine wseq ?_
  refine wreg fun K hK=>?_
  simp [C.impl_exchange]
  refine hK _ ?_;clear hK K
  show AWp _ _ _ _ _
  refine wseq ?_
  refine wcond _ rfl (fun hc2=>?_) (fun hc2=>?_)
  ·have hi:i < r:=by have:=d_t hc2;omega
   have hif:i < fs.length:=by omega
   obtain ⟨c,hc⟩:∃ c,c=cs[i]'(by omega):=⟨_,rfl⟩
   have hcm:bM m i k=c:=by rw [hc,hcg i hi]
   have hat:=at_c hn hS (i:=i) (j:=k) (by omega) hk
   rw [hr,hcm] at hat
   have hcb99:=bM_bd hS i k
   rw [hcm] at hcb99
   have hsc:IntKind.i64.wrap (sg*c)=sg*c:=by rcases hsg2 with rfl | rfl <;> exact wrapOk (by omega) (by omega)
   have hstep:=prodE_step (sg:=sg) hif (show i < cs.length by omega) p
   rw [hpg,<-hc] at hstep
   obtain ⟨f,hfi⟩:∃ f,f=fs[i]:=⟨_,rfl⟩
   have hfs:=hf _ (List.getElem_mem hif)
   rw [<-hfi] at hstep hfs
   refine wskip ?_
   show AWp _ _ _ _ _
   refine wseq ?_
   refine wblock ?_
   refine wseq ?_
   refine wreg fun K hK=>?_
   simp [C.impl_exchange,hif,fS_0 hif,fS_1 hif,<-hfi]
   refine hK _ ?_;clear hK K
   show AWp _ _ _ _ _
   refine wseq ?_
   refine wregI ([0,1,2,3,4] ++ ([5,6])) rfl fun K hK=>?_
   refine oSg fun L hL=>?_
   simp [C.impl_exchange,hsc]
   refine wcall1 (hat) (by simp) (by simp) ?_
   simp [C.impl_exchange,hsc]
   refine hL _ ?_;clear hL L
   refine oEn fun L hL=>?_
   simp [C.impl_exchange,hsc]
   refine hL _ ?_;clear hL L
   simp [C.impl_exchange,hsc]
   refine hK _ ?_;clear hK K
   show AWp _ _ _ _ _
   refine wseq ?_
   refine wseq ?_
   refine wreg fun K hK=>?_
   simp [C.impl_exchange]
   refine hK _ ?_;clear hK K
   show AWp _ _ _ _ _
   refine wcond _ rfl (fun hc3=>?_) (fun hc3=>?_)
   ·have hbig:8 < sg*c:=by simpa using hc3
    have hm:exF fs cs v old=(zeroF,false):=exF_big (c:=c) (by rw [hc];exact List.getElem_mem _) (by rcases hsg2 with rfl | rfl <;> omega)
    refine wseq ?_
    refine wreg fun K hK=>?_
    simp [C.impl_exchange]
    refine hK _ ?_;clear hK K
    show AWp _ _ _ _ _
    refine wret ?_
    simp [C.impl_exchange,hm,fO,zeroF,rows]
   ·have hle:¬ 8 < sg*c:=by simpa using hc3
    refine wskip ?_
    show AWp _ _ _ _ _
    refine wblock ?_
    refine wloop (fun x:Int×Lau=>⟨ofL [(1,.d (.sh 2 fs.length (rows fS fs))),(2,.int k),(3,.pt (3,0) [] 0),(6,.pt (6,0) [] 0),(8,.pt (8,0) [] 0),(9,.int side),(10,.int sg),(11,.pt (11,0) [] 0),(14,.pt (14,0) [] 0),(15,.int x.1),(18,.al (18,0) [] 0 2),(19,.int 2),(20,.int side),(31,.d (.sh 2 fs.length (rows fS fs))),(32,.int fs.length),(33,.int i)],ofRO [((3,0),some (.bx [D.int n,D.int r,shI m.d])),((6,0),some (.bx [D.int 0,.v (.slice none 0 0)])),((8,0),some (.bx cells)),((11,0),some (.bx (fO x.2))),((14,0),some (.bx (fS f))),((18,0),some (.ow 1 2 (ints [1,-1])))]⟩) (fun x=>x.1<=8/\-99<=x.1/\SmallF x.2/\(itM f x.1.toNat x.2).bind (prodE sg (fs.drop (i+1)) (cs.drop (i+1)))=goal) (fun x=>x.1.toNat) (sg*c,p) (by simp [C.impl_exchange,fO,fS]) ⟨by dsimp only;omega,by dsimp only;rcases hsg2 with rfl | rfl <;> omega,hps,hstep.symm⟩ ?_
    intro x3 hx3 R3 hR3
    obtain ⟨nn,q⟩:=x3
    obtain ⟨hn8,hn99,hqs,hqg⟩:=hx3
    dsimp only at hn8 hn99 hqs hqg ⊢
    refine wseq ?_
    refine wseq ?_
    refine wreg fun K hK=>?_
    simp [C.impl_exchange]
    refine hK _ ?_;clear hK K
    show AWp _ _ _ _ _
    refine wcond _ rfl (fun hc4=>?_) (fun hc4=>?_)
    ·have hpos:0 < nn:=by simpa using hc4
     obtain ⟨t,ht⟩:∃ t,nn.toNat=t+1:=⟨nn.toNat - 1,by omega⟩
     rw [ht] at hqg
     simp only [itM] at hqg
     have hmul:=mulOk q f hqs.sm'.1 hqs.sm'.2 hfs.1 hfs.2
     have hmulS:=mulF_small' q f
     obtain ⟨P,hP⟩:∃ P,P=mulF q f:=⟨_,rfl⟩
     rw [<-hP] at hqg hmul hmulS
     refine wskip ?_
     show AWp _ _ _ _ _
     refine wseq ?_
     refine wblock ?_
     refine wseq ?_
     refine wregI ([0,1,2] ++ ([3,4,5,6,7])) rfl fun K hK=>?_
     refine oSg fun L hL=>?_
     simp [C.impl_exchange,fO,fS]
     refine wcall1 (hmul) (by simp) (by simp) ?_
     simp [C.impl_exchange,fO,fS]
     refine hL _ ?_;clear hL L
     refine oEn fun L hL=>?_
     simp [C.impl_exchange,fO,fS]
     refine hL _ ?_;clear hL L
     simp [C.impl_exchange,fO,fS]
     refine hK _ ?_;clear hK K
     show AWp _ _ _ _ _
     refine wseq ?_
     refine wreg fun K hK=>?_
     simp [C.impl_exchange]
     refine hK _ ?_;clear hK K
     show AWp _ _ _ _ _
     refine wcond _ rfl (fun hc5=>?_) (fun hc5=>?_)
     ·have hb:P.2=false:=by simpa using hc5
      rw [hb] at hqg
      have hm:exF fs cs v old=(zeroF,false):=exF_none hsg2 (by rw [<-hgoal,<-hqg];rfl)
      refine wseq ?_
      refine wreg fun K hK=>?_
      simp [C.impl_exchange]
      refine hK _ ?_;clear hK K
      show AWp _ _ _ _ _
      refine wret ?_
      simp [C.impl_exchange,hm,fO,zeroF,rows]
     ·have hb:P.2=true:=by simpa using hc5
      rw [if_pos hb] at hqg
      refine wskip ?_
      show AWp _ _ _ _ _
      refine wreg fun K hK=>?_
      simp [C.impl_exchange,wrapOk (x:=nn - 1) (by omega) (by omega)]
      refine hK _ ?_;clear hK K
      simp [C.impl_exchange]
      refine cast (congrArg R3 ?_) (hR3 (nn - 1,P.1) ⟨by dsimp only;omega,by dsimp only;omega,hmulS,by dsimp only;rw [show (nn - 1).toNat=t by omega];exact hqg⟩ (by dsimp only;omega))
      simp [fO,fS]
    ·have hpos:¬ 0 < nn:=by simpa using hc4
     rw [show nn.toNat=0 by omega] at hqg
     have hqg2:prodE sg (fs.drop (i+1)) (cs.drop (i+1)) q=goal:=hqg
     refine wexit ?_
     show AWp _ _ _ _ _
     refine wreg fun K hK=>?_
     simp [C.impl_exchange,wrap_succ (show i < 4611686018427387904 by omega)]
     refine hK _ ?_;clear hK K
     simp [C.impl_exchange]
     refine hR2 (i+1,q) ⟨hi,hqs,fun z hz=>?_,hqg2⟩ (by dsimp only;omega)
     dsimp only at hz
     rw [List.take_succ_eq_append_getElem (by omega)] at hz
     rcases List.mem_append.1 hz with hz | hz
     ·exact hcb z hz
     ·rw [List.mem_singleton] at hz
      rw [hz,<-hc]
      omega
  ·have hi:i=r:=by have:=d_f hc2;omega
   rw [hi,List.drop_of_length_le (by omega),List.drop_of_length_le (by omega)] at hpg
   rw [hi,List.take_of_length_le (by omega)] at hcb
   have hpg2:prodE sg fs cs (oneF v)=some p:=by rw [<-hgoal,<-hpg];rfl
   refine wexit ?_
   show AWp _ _ _ _ _
   refine wreg fun K hK=>?_
   have hJ:K ⟨ofL [(1,.d (.sh 2 fs.length (rows fS fs))),(2,.int k),(3,.pt (3,0) [] 0),(6,.pt (6,0) [] 0),(8,.pt (8,0) [] 0),(18,.al (18,0) [] 0 2),(19,.int 2),(20,.int side)],ofRO [((3,0),some (.bx [D.int n,D.int r,shI m.d])),((6,0),some (.bx [D.int 0,.v (.slice none 0 0)])),((8,0),some (.bx (((cells.set (2*side) (D.int p.v)).set (2*side+1) (.ow 2 p.ts.length (rows tO p.ts)))))),((18,0),some (.ow 1 2 (ints [1,-1])))]⟩:=by
    refine hK _ ?_;clear hK K
    show AWp _ _ _ _ _
    refine wreg fun K hK=>?_
    simp [C.impl_exchange,wrap_succ (show side < 4611686018427387904 by omega)]
    refine hK _ ?_;clear hK K
    simp [C.impl_exchange]
    refine hR1 (side+1,_) ⟨?_⟩ (by dsimp only;omega)
    rcases hx1'.all with ⟨h1,h2⟩ | ⟨h1,h3,a,ha,hae,h2⟩ | ⟨h1,_⟩
    ·right
     left
     subst h1
     subst h2
     obtain rfl:sg=1:=hsg
     exact ⟨rfl,fun c hc=>by have:=hcb c hc;omega,p,hps,hpg2,rfl⟩
    ·right
     right
     subst h1
     subst h2
     obtain rfl:sg=-1:=hsg
     exact ⟨rfl,fun c hc=>by have:=hcb c hc;have:=h3 c hc;omega,a,p,ha,hps,hae,hpg2,rfl⟩
    ·omega
   clear hK
   rcases hx1'.all with ⟨h1,h2⟩ | ⟨h1,_,a,_,_,h2⟩ | ⟨h1,_⟩
   ·subst h1
    subst h2
    simp [C.impl_exchange,fO,exC0]
    refine cast (congrArg K ?_) hJ
    simp [fO,exC0]
   ·subst h1
    subst h2
    simp [C.impl_exchange,fO,exC1]
    refine cast (congrArg K ?_) hJ
    simp [fO,exC1]
   ·omega
 ·have hside:¬ side < 2:=by have:=d_f hc1;omega
  obtain ⟨hcb,a,b,has,hbs,hae,hbe,hcell⟩:(∀ c∈cs,-8<=c/\c<=8)/\∃ a b,SmallF a/\SmallF b/\prodE 1 fs cs (oneF v)=some a/\prodE (-1) fs cs (oneF v)=some b/\cells=exC2 a b:=by
   rcases hx1'.all with ⟨h1,h2⟩ | ⟨h1,h3,a,ha,hae,h2⟩ | ⟨h1,h2⟩
   ·omega
   ·omega
   ·exact h2
  subst hcell
  have hm:=exF_some (old:=old) hcb hae hbe
  have hadd:=iAdd_c a 1 b has.sm'.1 has.sm'.2 hbs.sm'.1 hbs.sm'.2
  have hadds:=addF_small' a 1 b
  obtain ⟨A,hA⟩:∃ A,A=addF a 1 b:=⟨_,rfl⟩
  rw [<-hA] at hm hadd hadds
  refine wexit ?_
  show AWp _ _ _ _ _
  refine wseq ?_
  refine wregI ([0,1,2,3,4] ++ ([5,6,7,8,9,10])) rfl fun K hK=>?_
  refine oSg fun L hL=>?_
  simp [C.impl_exchange,exC2,fO]
  refine wcall1 (hadd) (by simp) (by simp) ?_
  simp [C.impl_exchange,exC2,fO]
  refine hL _ ?_;clear hL L
  refine oEn fun L hL=>?_
  simp [C.impl_exchange,exC2,fO]
  refine hL _ ?_;clear hL L
  simp [C.impl_exchange,exC2,fO]
  refine hK _ ?_;clear hK K
  show AWp _ _ _ _ _
  refine wseq ?_
  refine wseq ?_
  refine wreg fun K hK=>?_
  simp [C.impl_exchange]
  refine hK _ ?_;clear hK K
  show AWp _ _ _ _ _
  refine wcond _ rfl (fun hc6=>?_) (fun hc6=>?_)
  ·have hno:¬ A.2=true:=by simpa using hc6
   refine wseq ?_
   refine wreg fun K hK=>?_
   simp [C.impl_exchange]
   refine hK _ ?_;clear hK K
   show AWp _ _ _ _ _
   refine wret ?_
   simp [C.impl_exchange,hm,hno,fO,zeroF,rows]
  ·have hyes:A.2=true:=by simpa using hc6
   have hdiv:=iDiv_c doneOk A.1 old hadds.sm'.1 hadds.sm'.2 holds.1 holds.2
   rw [if_pos hyes] at hm
   refine wskip ?_
   show AWp _ _ _ _ _
   refine wseq ?_
   refine wdrawI [(true,0),(true,1),(true,2),(true,3),(true,4),(false,5),(true,6),(true,7),(false,8),(true,9)] ⟨by kernel_rfl,by kernel_rfl⟩ ([0,1,2,3,4,5] ++ ([6,7,8,9])) rfl fun K hK=>?_
   refine oSg fun L hL=>?_
   simp [C.impl_exchange,hkl,fS_0 hkl,fS_1 hkl,hkg,show (k:Int) < fs.length by omega,fO]
   refine wcall1 (hdiv) (by simp) (by simp) ?_
   simp [C.impl_exchange,hkl,fS_0 hkl,fS_1 hkl,hkg,show (k:Int) < fs.length by omega,fO]
   refine hL _ ?_;clear hL L
   refine oEn fun L hL=>?_
   simp [C.impl_exchange,hkl,fS_0 hkl,fS_1 hkl,hkg,show (k:Int) < fs.length by omega,fO]
   refine hL _ ?_;clear hL L
   simp [C.impl_exchange,hkl,fS_0 hkl,fS_1 hkl,hkg,show (k:Int) < fs.length by omega,fO]
   refine hK _ ?_;clear hK K
   show AWp _ _ _ _ _
   refine wret ?_
   simp [C.impl_exchange,hm,fO]
theorem iEx_c (m:Mat) (n r k:Nat) (fs:List Lau) (v:Nat) (hv8:1<=v/\v<=8) (hn:m.n=n) (hr:m.r=r) (hS:ShM m) (hk:k < n) (hl:fs.length=r) (hf:∀ f∈fs,SmF f) (hv:∀ f∈fs,f.v=v):ACalls Tryz.prog F.impl_exchange [.ag [.int n,.int r,.d (shI m.d)],.d (.sh 2 fs.length (rows fS fs)),.int k] [] true (fun outs res=>outs=[]/\res=[.ag (fO (exF fs (colM m r k) v (fs.getD k zeroF)).1),.one (D.bool (exF fs (colM m r k) v (fs.getD k zeroF)).2)]):=(impl_exchange_c m n r k fs v hv8 hn hr hS hk hl hf hv).weak1
noncomputable def seedF (s:Sed) (k:Int):Sed×Bool:=
 if SeedOK s/\(0<=k/\k < s.m.n)/\(exF s.f (colM s.m s.m.r.toNat k.toNat) s.m.r.toNat (s.f.getD k.toNat zeroF)).2=true/\(muF s.m k).2=true then
  (⟨(muF s.m k).1,s.f.set k.toNat (exF s.f (colM s.m s.m.r.toNat k.toNat) s.m.r.toNat (s.f.getD k.toNat zeroF)).1⟩,true) else (⟨⟨0,0,[]⟩,[]⟩,false)
theorem impl_MutateSeed_c (s:Sed) (k:Int) (hx:s.m.d.length < 17592186044416) (hl:s.f.length < 4611686018427387904) (hf:∀ f∈s.f,SmF f):ACalls Tryz.prog F.impl_MutateSeed [aS s,.int k] [] true (fun outs res=>outs=[]/\WkRs res [.ag (sO (seedF s k).1),.one (D.bool (seedF s k).2)]):=by
 refine ACalls.of_body (C:=C.impl_MutateSeed) (n:=Tryz.f23.ntmps) tabT folT Tryz.func23 rfl (by kernel_rfl) rfl (Nat.le_of_ble_eq_true rfl) (by decide) (by kernel_rfl) (by kernel_rfl) rfl (by simp) (by simp) ?_
 simp only [Tryz.f23]
 refine wseq ?_
 refine wreg fun K hK=>?_
 simp [C.impl_MutateSeed,sS]
 refine hK _ ?_;clear hK K
 show AWp _ _ _ _ _
 refine wseq ?_
 refine wseq ?_
 refine wregI ([0,1] ++ ([2,3,4,5,6,7,8,9] ++ ([10,11]))) rfl fun K hK=>?_
 have hJ:K ⟨ofL [(1,.int k),(2,.pt (2,0) [] 0),(4,.pt (4,0) [] 0),(22,.bool (!decide (SeedOK s/\(0<=k/\k < s.m.n))))],ofRO [((2,0),some (.bx (sS s))),((4,0),some (.bx [D.int 0,D.int 0,.v (.slice none 0 0),.v (.slice none 0 0)]))]⟩:=by
  refine hK _ ?_;clear hK K
  show AWp _ _ _ _ _
  refine wcond _ rfl (fun hc1=>?_) (fun hc1=>?_)
  ·have hr:=nd_t hc1
   have hm:seedF s k=(⟨⟨0,0,[]⟩,[]⟩,false):=if_neg (fun h=>hr ⟨h.1,h.2.1⟩)
   refine wseq ?_
   refine wreg fun K hK=>?_
   simp [C.impl_MutateSeed,sS]
   refine hK _ ?_;clear hK K
   show AWp _ _ _ _ _
   refine wret ?_
   simp [C.impl_MutateSeed,sS,hm,sO,ints,rows]
  ·have hr:=nd_f hc1
   obtain ⟨hok,hk⟩:=hr
   have hS:=hok.1.1
   obtain ⟨n,hn⟩:∃ n:Nat,s.m.n=n:=⟨s.m.n.toNat,by have:=hS.1;omega⟩
   obtain ⟨r,hr⟩:∃ r:Nat,s.m.r=r:=⟨s.m.r.toNat,by have:=hS.1;have:=hS.2.1;omega⟩
   obtain ⟨k,rfl⟩:∃ j:Nat,k=j:=⟨k.toNat,by omega⟩
   have hnr:n<=r/\r<=8:=by have:=hS.2.1;omega
   have hfl:s.f.length=r:=by have:=hok.2.1;omega
   have hkn:k < n:=by omega
   have hex:=iEx_c s.m n r k s.f r (by omega) hn hr hS hkn hfl hf (fun f hm=>by rw [(hok.2.2 f hm).2.2,hr])
   have hmu:=iMu_c s.m k hx
   have hm:seedF s k=if (exF s.f (colM s.m r k) r (s.f.getD k zeroF)).2=true/\(muF s.m k).2=true then
     (⟨(muF s.m k).1,s.f.set k (exF s.f (colM s.m r k) r (s.f.getD k zeroF)).1⟩,true) else (⟨⟨0,0,[]⟩,[]⟩,false):=by
    unfold seedF
    rw [show s.m.r.toNat=r by omega,Int.toNat_natCast]
    by_cases q:(exF s.f (colM s.m r k) r (s.f.getD k zeroF)).2=true/\(muF s.m k).2=true
    ·rw [if_pos ⟨hok,hk,q⟩,if_pos q]
    ·rw [if_neg (fun h=>q h.2.2),if_neg q]
   obtain ⟨E,hE⟩:∃ E,E=exF s.f (colM s.m r k) r (s.f.getD k zeroF):=⟨_,rfl⟩
   obtain ⟨M,hM⟩:∃ M,M=muF s.m k:=⟨_,rfl⟩
   rw [<-hE] at hex hm
   rw [<-hM] at hmu hm
   clear hE hM
   have haM:aM s.m = .ag [.int n,.int r,.d (shI s.m.d)]:=by rw [<-hn,<-hr]
   rw [haM] at hmu
   have hcopy:=impl_copySeed_c s hx (by omega) (fun f hm=>by
    have h1:=(hok.2.2 f hm).1
    exact ⟨by have:=h1.2.1;omega,fun t ht=>by have:=(h1.2.2.1 t ht).1;have:=h1.1;omega⟩)
   refine wskip ?_
   show AWp _ _ _ _ _
   refine wseq ?_
   refine wregI ([0,1,2,3,4,5] ++ ([6,7,8,9,10,11])) rfl fun K hK=>?_
   refine oSg fun L hL=>?_
   simp [C.impl_MutateSeed,sS,hn,hr,fO]
   refine wcall1 (hex) (by simp) (by simp) ?_
   simp [C.impl_MutateSeed,sS,hn,hr,fO]
   refine hL _ ?_;clear hL L
   refine oEn fun L hL=>?_
   simp [C.impl_MutateSeed,sS,hn,hr,fO]
   refine hL _ ?_;clear hL L
   simp [C.impl_MutateSeed,sS,hn,hr,fO]
   refine hK _ ?_;clear hK K
   show AWp _ _ _ _ _
   refine wseq ?_
   refine wregI ([0,1,2,3] ++ ([4,5,6,7,8,9])) rfl fun K hK=>?_
   refine oSg fun L hL=>?_
   simp [C.impl_MutateSeed,sS,hn,hr,mO]
   refine wcall1 (hmu) (by simp) (by simp) ?_
   simp [C.impl_MutateSeed,sS,hn,hr,mO]
   refine hL _ ?_;clear hL L
   refine oEn fun L hL=>?_
   simp [C.impl_MutateSeed,sS,hn,hr,mO]
   refine hL _ ?_;clear hL L
   simp [C.impl_MutateSeed,sS,hn,hr,mO]
   refine hK _ ?_;clear hK K
   show AWp _ _ _ _ _
   refine wseq ?_
   refine wseq ?_
   refine wreg fun K hK=>?_
   have hJ:K ⟨ofL [(1,.int k),(2,.pt (2,0) [] 0),(4,.pt (4,0) [] 0),(6,.pt (6,0) [] 0),(8,.pt (8,0) [] 0),(45,.bool (!(E.2 && M.2)))],ofRO [((2,0),some (.bx (sS s))),((4,0),some (.bx [D.int 0,D.int 0,.v (.slice none 0 0),.v (.slice none 0 0)])),((6,0),some (.bx (fO E.1))),((8,0),some (.bx (mO M.1)))]⟩:=by
    refine hK _ ?_;clear hK K
    show AWp _ _ _ _ _
    refine wcond _ rfl (fun hc2=>?_) (fun hc2=>?_)
    ·have hno:¬ (E.2=true/\M.2=true):=by
      rintro ⟨q1,q2⟩
      rw [q1,q2] at hc2
      simp at hc2
     refine wseq ?_
     refine wreg fun K hK=>?_
     simp [C.impl_MutateSeed,sS]
     refine hK _ ?_;clear hK K
     show AWp _ _ _ _ _
     refine wret ?_
     simp [C.impl_MutateSeed,sS,hm,hno,sO,ints,rows]
    ·have hyes:E.2=true/\M.2=true:=by simpa using hc2
     refine wskip ?_
     show AWp _ _ _ _ _
     refine wseq ?_
     refine wregI ([0,1] ++ ([2,3])) rfl fun K hK=>?_
     refine oSg fun L hL=>?_
     simp [C.impl_MutateSeed,sS,sO]
     refine wcall1 (hcopy) (by simp) (by simp) ?_
     simp [C.impl_MutateSeed,sS,sO]
     refine hL _ ?_;clear hL L
     refine oEn fun L hL=>?_
     simp [C.impl_MutateSeed,sS,sO]
     refine hL _ ?_;clear hL L
     simp [C.impl_MutateSeed,sS,sO]
     refine hK _ ?_;clear hK K
     show AWp _ _ _ _ _
     refine wseq ?_
     refine wreg fun K hK=>?_
     simp [C.impl_MutateSeed,sS,mO]
     refine hK _ ?_;clear hK K
     show AWp _ _ _ _ _
     refine wseq ?_
     refine wreg fun K hK=>?_
     simp [C.impl_MutateSeed,sS,fO,show k < s.f.length by omega,show (k:Int) < s.f.length by omega,fO_0 (show k < s.f.length by omega),fO_1 (show k < s.f.length by omega),fO_set2]
     refine hK _ ?_;clear hK K
     show AWp _ _ _ _ _
     refine wseq ?_
     refine wreg fun K hK=>?_
     simp [C.impl_MutateSeed,sS]
     refine hK _ ?_;clear hK K
     show AWp _ _ _ _ _
     refine wret ?_
     simp [C.impl_MutateSeed,sS,hm,hyes,sO]
   clear hK
   by_cases h1:E.2=true
   ·simp [C.impl_MutateSeed,sS,h1]
    refine cast (congrArg K ?_) hJ
    simp [hn,hr,fO,mO,sS,sS,h1]
   ·simp [C.impl_MutateSeed,sS,h1]
    refine cast (congrArg K ?_) hJ
    simp [hn,hr,fO,mO,sS,sS,h1]
 clear hK
 by_cases h1:SeedOK s
 ·have hwn:IntKind.i64.wrap (s.m.n - 1)=s.m.n - 1:=by have:=h1.1.1.1;exact wrapOk (by omega) (by omega)
  have hle:∀ x:Int,(x<=s.m.n - 1)=(x < s.m.n):=fun x=>by rw [eq_iff_iff];omega
  refine oSg fun L hL=>?_
  simp [C.impl_MutateSeed,sS,hwn,hle,h1]
  refine wcall1 (impl_SeedOk_c s hx hl hf) (by simp) (by simp) ?_
  simp [C.impl_MutateSeed,sS,hwn,hle,h1]
  refine hL _ ?_;clear hL L
  refine oSg fun L hL=>?_
  simp [C.impl_MutateSeed,sS,hwn,hle,h1]
  refine wcall1 (impl_within_c k 0 (s.m.n - 1)) (by simp) (by simp) ?_
  simp [C.impl_MutateSeed,sS,hwn,hle,h1]
  refine hL _ ?_;clear hL L
  refine oEn fun L hL=>?_
  simp [C.impl_MutateSeed,sS,hwn,hle,h1]
  refine hL _ ?_;clear hL L
  simp [C.impl_MutateSeed,sS,hwn,hle,h1]
  refine cast (congrArg K ?_) hJ
  simp [Bool.not_and,sS,h1]
 ·refine oSg fun L hL=>?_
  simp [C.impl_MutateSeed,sS,h1]
  refine wcall1 (impl_SeedOk_c s hx hl hf) (by simp) (by simp) ?_
  simp [C.impl_MutateSeed,sS,h1]
  refine hL _ ?_;clear hL L
  refine oSg fun L hL=>?_
  simp [C.impl_MutateSeed,sS,h1]
  refine hL _ ?_;clear hL L
  refine oEn fun L hL=>?_
  simp [C.impl_MutateSeed,sS,h1]
  refine hL _ ?_;clear hL L
  simp [C.impl_MutateSeed,sS,h1]
  refine cast (congrArg K ?_) hJ
  simp [Bool.not_and,sS,h1]
end Go.Proofs.YtbhkonnakkhibaaGreat.Ab
namespace Go.Proofs.YtbhkonnakkhibaaGreat.Ab
open Go
set_option maxRecDepth 10000
set_option maxHeartbeats 2000000
def zeroS:Sed:=⟨⟨0,0,[]⟩,[]⟩
def GdS (s:Sed):Prop:=s.m.d.length<=40/\s.f.length<=8/\∀ f∈s.f,SmallF f
theorem GdS.ok {s:Sed} (h:SeedOK s):GdS s:=by
 refine ⟨?_,by have:=h.2.1;have:=h.1.1.2.1;omega,fun f hf=>small_right (h.2.2 f hf).1⟩
 have hS:=h.1.1
 have h1:=hS.2.2.1
 have h2:=hS.1
 have h3:=hS.2.1
 have:s.m.n*s.m.r<=5*8:=Int.mul_le_mul (by omega) (by omega) (by omega) (by omega)
 omega
theorem GdS.zero:GdS zeroS:=⟨by simp [zeroS],by simp [zeroS],by simp [zeroS]⟩
theorem muF_len (m:Mat) (k:Int):(muF m k).1.d.length<=m.d.length:=by
 unfold muF
 split
 ·simp [muM]
 ·simp
theorem GdS.seedF (s:Sed) (k:Int):GdS (seedF s k).1:=by
 unfold Ab.seedF
 split
 ·rename_i h
  have hg:=GdS.ok h.1
  refine ⟨?_,by simpa using hg.2.1,fun f hf=>?_⟩
  ·have:=muF_len s.m k
   have:=hg.1
   dsimp only
   omega
  ·rcases List.mem_or_eq_of_mem_set hf with hf | rfl
   ·exact hg.2.2 f hf
   ·exact exF_small _ _ _ _
 ·exact GdS.zero
theorem GdS.sm {s:Sed} (h:GdS s):s.m.d.length < 17592186044416/\s.f.length < 4611686018427387904/\∀ f∈s.f,SmF f:=
 ⟨by have:=h.1;omega,by have:=h.2.1;omega,fun f hf=>(h.2.2 f hf).sm'⟩
theorem iMs_c (s:Sed) (k:Int) (hx:s.m.d.length < 17592186044416) (hl:s.f.length < 4611686018427387904) (hf:∀ f∈s.f,SmF f):ACalls Tryz.prog F.impl_MutateSeed [aS s,.int k] [] true (fun outs res=>outs=[]/\res=[.ag (sO (seedF s k).1),.one (D.bool (seedF s k).2)]):=(impl_MutateSeed_c s k hx hl hf).weak1
end Go.Proofs.YtbhkonnakkhibaaGreat.Ab
namespace Go.Proofs.YtbhkonnakkhibaaGreat.Ab
open Go
section
variable {K:Type} [DecidableEq K] {lt:K->K->Bool} {mul dv:K->K->K} {D:K->Prop} {chk:K->Int->Bool}
theorem insK_top {k:K} {c:Int} (ho:Ord lt) (hc:c≠0):∀ (l:List (K×Int)),(∀ x∈l,lt x.1 k=true)->insK lt k c l=(k,c) :: l
 | [],_=>by simp [insK,hc]
 | x :: l,h=>by
  have hx:=h x (by simp)
  have hne:¬ x.1=k:=fun e=>by rw [e,ho.irr] at hx;simp at hx
  simp only [insK]
  rw [if_neg hne,if_pos hx,if_neg hc]
theorem co_prodK_cons (q:K) (x:K×Int) (a g:List (K×Int)):co q (prodK mul (x :: a) g)=co q (mulT mul x.1 x.2 g)+co q (prodK mul a g):=by
 unfold prodK
 rw [List.flatMap_cons,co_append]
theorem prodK_mem {a g:List (K×Int)} {y:K×Int} (h:y∈prodK mul a g):∃ x∈a,∃ z∈g,y=(mul x.1 z.1,x.2*z.2):=by
 unfold prodK at h
 obtain ⟨x,hx,h⟩:=List.mem_flatMap.1 h
 obtain ⟨z,hz,h⟩:=List.mem_map.1 h
 exact ⟨x,hx,z,hz,h.symm⟩
theorem divGo_prod (ho:Ord lt) (ha:Act lt mul dv D) (hdm:∀ a b,D a->D b->dv (mul a b) b=a) (hml:∀ x y b,D x->D y->D b->lt x y=true->lt (mul x b) (mul y b)=true)
  {b:K} {d:Int} {gt:List (K×Int)} (hgd:Desc lt ((b,d) :: gt)) (hg0:d≠0) (hgD:∀ x∈(b,d) :: gt,D x.1) :
  ∀ (k:Nat) (fs:List (K×Int)),Desc lt fs->Nz fs->(∀ x∈fs,D x.1/\chk x.1 x.2=true)->fs.length<=k->divGo lt mul dv chk ((b,d) :: gt) b d k (nf lt (prodK mul fs ((b,d) :: gt)))=some fs
 | k,[],_,_,_,_=>by cases k <;> rfl
 | 0,x :: fs,_,_,_,h=>by simp at h
 | k+1,x :: fs,hd,hz,hc,hk=>by
  obtain ⟨hd1,hd2⟩:=List.pairwise_cons.1 hd
  have hxz:=hz x (by simp)
  have hxD:=(hc x (by simp)).1
  have hbD:=hgD (b,d) (by simp)
  have hc0:x.2*d≠0:=Int.mul_ne_zero hxz hg0
  have hgt:=(List.pairwise_cons.1 hgd).1
  -- the greatest term
  have hrest:∀ y∈mulT mul x.1 x.2 gt ++ prodK mul fs ((b,d) :: gt),lt y.1 (mul x.1 b)=true:=fun y hy=>by
   rcases List.mem_append.1 hy with hy | hy
   ·obtain ⟨z,hzg,rfl⟩:=List.mem_map.1 hy
    exact ha.mul_lt _ _ _ hxD (hgD z (by simp [hzg])) hbD (hgt z hzg)
   ·obtain ⟨u,hu,z,hzg,rfl⟩:=prodK_mem hy
    have huD:=(hc u (by simp [hu])).1
    have h1:=hml _ _ b huD hxD hbD (hd1 u hu)
    rcases List.mem_cons.1 hzg with rfl | hzg
    ·exact h1
    ·exact ho.tr _ _ _ (ha.mul_lt _ _ _ huD (hgD z (by simp [hzg])) hbD (hgt z hzg)) h1
  have hR:nf lt (prodK mul (x :: fs) ((b,d) :: gt))=(mul x.1 b,x.2*d) :: nf lt (mulT mul x.1 x.2 gt ++ prodK mul fs ((b,d) :: gt)):=by
   have e:prodK mul (x :: fs) ((b,d) :: gt)=(mul x.1 b,x.2*d) :: (mulT mul x.1 x.2 gt ++ prodK mul fs ((b,d) :: gt)):=rfl
   rw [e]
   show insK lt (mul x.1 b) (x.2*d) (nf lt _)=_
   refine insK_top ho hc0 _ fun y hy=>?_
   obtain ⟨z,hzz,e2⟩:=nf_mem hy
   rw [<-e2]
   exact hrest z hzz
  rw [hR]
  simp only [divGo]
  have h1:(x.2*d).tmod d=0:=Int.mul_tmod_left _ _
  have h2:(x.2*d).tdiv d=x.2:=Int.mul_tdiv_cancel _ hg0
  rw [hdm _ _ hxD hbD,h1,h2,if_pos ⟨rfl,(hc x (by simp)).2⟩]
  have hnf:nf lt ((mul x.1 b,x.2*d) :: nf lt (mulT mul x.1 x.2 gt ++ prodK mul fs ((b,d) :: gt)) ++ mulT mul x.1 (-x.2) ((b,d) :: gt))=nf lt (prodK mul fs ((b,d) :: gt)):=by
   refine nf_unique ho (nf_desc ho _) (nf_nz _) fun q=>?_
   rw [nf_co,<-hR,co_append,nf_co,co_prodK_cons,co_mulT_neg]
   omega
  rw [hnf,divGo_prod ho ha hdm hml hgd hg0 hgD k fs hd2 (fun y hy=>hz y (by simp [hy])) (fun y hy=>hc y (by simp [hy])) (by simpa using hk)]
  rfl
end
end Go.Proofs.YtbhkonnakkhibaaGreat.Ab
namespace Go.Proofs.YtbhkonnakkhibaaGreat.Ab
open Go
theorem addE_vd:∀ (a b:List Int),a.length=b.length->addE (-1) (addE 1 a b) b=a
 | [],[],_=>rfl
 | x :: a,y :: b,h=>by
  simp only [addE,addE_vd a b (by simpa using h)]
  congr 1
  omega
 | [],_ :: _,h=>by simp at h
 | _ :: _,[],h=>by simp at h
theorem lau_eta (f:Lau):(⟨f.v,(f.ts.map pr).map tm⟩:Lau)=f:=by
 rw [List.map_map]
 have:tm ∘ pr=id:=rfl
 rw [this,List.map_id]
theorem pr_tm (l:List (List Int×Int)):(l.map tm).map pr=l:=by
 rw [List.map_map]
 exact List.map_id _
theorem div_mul {f g P:Lau} (hf:Right f) (hg:Right g) (hv:f.v=g.v) (hne:g.ts≠[]) (hP:mulF f g=(P,true)):divF P g=(f,true):=by
 have hm:mulF f g=shutF f.v (prodL (f.ts.map pr) (g.ts.map pr)):=if_pos ⟨hf,hg,hv⟩
 rw [hm] at hP
 unfold shutF at hP
 split at hP
 ·rename_i hR
  injection hP with hP _
  subst hP
  obtain ⟨n,hn⟩:∃ n:Nat,f.v=n:=⟨f.v.toNat,by have:=hf.1;omega⟩
  have hn2:g.v=n:=by omega
  unfold divF
  rw [if_pos ⟨⟨hR,hg,hv⟩,hne⟩]
  simp only [pr_tm]
  match hgt:g.ts,hne with
  | t :: ts,_=>
   have hd:=divGo_prod (mul:=addE 1) (dv:=addE (-1)) (chk:=chkI) lexOrd (lauAct n) (fun a b h1 h2=>addE_vd a b (h1.trans h2.symm)) (fun x y b h1 h2 h3 h=>by rw [lexlt_addE _ _ _ _ (h1.trans h3.symm) (h2.trans h3.symm)];exact h)
    (b:=t.e) (d:=t.c) (gt:=ts.map pr) (by have:=pr_desc hg;rw [hgt] at this;exact this) ((hg.2.2.1 t (by rw [hgt];simp)).2.1)
    (fun x hx=>by have:=pr_dig hg hn2;rw [hgt] at this;exact (this x hx).1) 600 (f.ts.map pr) (pr_desc hf) (pr_nz hf)
    (fun x hx=>⟨(pr_dig hf hn x hx).1,by
     obtain ⟨u,hu,rfl⟩:=List.mem_map.1 hx
     have:=hf.2.2.1 u hu
     exact decide_eq_true ⟨this.2.2.2,this.2.1,this.2.2.1⟩⟩) (by simpa using hf.2.1)
   have e:divL chkI g 600 (nf lexlt (prodL (f.ts.map pr) ((t :: ts).map pr)))=some (f.ts.map pr):=by
    unfold divL leadE leadC
    rw [hgt]
    exact hd
   rw [e]
   simp only [endF,lau_eta]
   rw [if_pos hf]
 ·injection hP with _ h
  simp at h
theorem mul_div {h g r:Lau} (hd:divF h g=(r,true)):Right h/\Right r/\mulF r g=(h,true):=by
 unfold divF at hd
 split at hd
 ·rename_i hc
  obtain ⟨⟨hh,hg,hv⟩,hne⟩:=hc
  cases hO:divL chkI g 600 (h.ts.map pr) with
  | none=>
   rw [hO] at hd
   simp [endF] at hd
  | some O=>
   rw [hO] at hd
   simp only [endF] at hd
   split at hd
   ·rename_i hR
    injection hd with hd _
    subst hd
    refine ⟨hh,hR,?_⟩
    have hx:=divGo_exact _ _ _ hO
    have hm:mulF ⟨h.v,O.map tm⟩ g=shutF h.v (prodL ((O.map tm).map pr) (g.ts.map pr)):=if_pos ⟨hR,hg,hv⟩
    rw [hm,pr_tm]
    have hnf:nf lexlt (prodL O (g.ts.map pr))=h.ts.map pr:=(nf_unique lexOrd (pr_desc hh) (pr_nz hh) fun q=>hx q).symm
    unfold shutF
    rw [hnf,lau_eta,if_pos hh]
   ·injection hd with _ h1
    simp at h1
 ·injection hd with _ h1
  simp at h1
end Go.Proofs.YtbhkonnakkhibaaGreat.Ab
namespace Go.Proofs.YtbhkonnakkhibaaGreat.Ab
open Go
section
variable {K:Type} [DecidableEq K] {lt:K->K->Bool} {mul:K->K->K}
def vl (φ:K->Int):List (K×Int)->Int
 | []=>0
 | x :: l=>x.2*φ x.1+vl φ l
omit [DecidableEq K] in
theorem vl_app (φ:K->Int):∀ l r:List (K×Int),vl φ (l ++ r)=vl φ l+vl φ r
 | [],r=>by simp [vl]
 | x :: l,r=>by simp only [List.cons_append,vl,vl_app φ l r];omega
theorem co_vl (k:K):∀ l:List (K×Int),co k l=vl (fun e=>if e=k then 1 else 0) l
 | []=>rfl
 | x :: l=>by
  simp only [co,vl,co_vl k l]
  split <;> simp
theorem nf_vl (ho:Ord lt) {l r:List (K×Int)} (h:∀ φ,vl φ l=vl φ r):nf lt l=nf lt r:=
 nf_unique ho (nf_desc ho _) (nf_nz _) fun k=>by rw [nf_co,co_vl,co_vl,h]
omit [DecidableEq K] in
theorem vl_congr {φ ψ:K->Int}:∀ {l:List (K×Int)},(∀ x∈l,φ x.1=ψ x.1)->vl φ l=vl ψ l
 | [],_=>rfl
 | x :: l,h=>by
  simp only [vl,h x (by simp),vl_congr (l:=l) fun y hy=>h y (by simp [hy])]
omit [DecidableEq K] in
theorem vl_add (φ ψ:K->Int):∀ l:List (K×Int),vl (fun e=>φ e+ψ e) l=vl φ l+vl ψ l
 | []=>rfl
 | x :: l=>by
  simp only [vl,vl_add φ ψ l,Int.mul_add]
  omega
omit [DecidableEq K] in
theorem vl_mul (c:Int) (φ:K->Int):∀ l:List (K×Int),vl (fun e=>c*φ e) l=c*vl φ l
 | []=>by simp [vl]
 | x :: l=>by
  simp only [vl,vl_mul c φ l,Int.mul_add]
  rw [Int.mul_left_comm]
omit [DecidableEq K] in
theorem vl_zero:∀ l:List (K×Int),vl (fun _=>0) l=0
 | []=>rfl
 | x :: l=>by simp [vl,vl_zero l]
omit [DecidableEq K] in
theorem vl_fub {J:Type} (φ:K->J->Int) (b:List (J×Int)):∀ a:List (K×Int),vl (fun e=>vl (fun e'=>φ e e') b) a=vl (fun e'=>vl (fun e=>φ e e') a) b
 | []=>by
  simp only [vl]
  rw [vl_zero]
 | x :: a=>by
  simp only [vl]
  rw [vl_add,vl_mul,vl_fub φ b a]
omit [DecidableEq K] in
theorem vl_map (g:K->K) (q:Int) (φ:K->Int):∀ l:List (K×Int),vl φ (l.map fun y=>(g y.1,q*y.2))=q*vl (fun e=>φ (g e)) l
 | []=>by simp [vl]
 | x :: l=>by
  simp only [List.map_cons,vl,vl_map g q φ l,Int.mul_add,Int.mul_assoc]
omit [DecidableEq K] in
theorem vl_prodK (φ:K->Int) (g:List (K×Int)):∀ a:List (K×Int),vl φ (prodK mul a g)=vl (fun e=>vl (fun e'=>φ (mul e e')) g) a
 | []=>rfl
 | x :: a=>by
  have:=vl_prodK φ g a
  unfold prodK at this ⊢
  simp only [List.flatMap_cons,vl_app,vl,this]
  unfold mulT
  rw [vl_map]
omit [DecidableEq K] in
theorem vl_prod_com {D:K->Prop} (hc:∀ a b,D a->D b->mul a b=mul b a) (φ:K->Int) {a b:List (K×Int)} (ha:∀ x∈a,D x.1) (hb:∀ x∈b,D x.1):vl φ (prodK mul a b)=vl φ (prodK mul b a):=by
 rw [vl_prodK,vl_prodK,vl_fub]
 exact vl_congr fun x hx=>vl_congr fun y hy=>by rw [hc _ _ (ha y hy) (hb x hx)]
omit [DecidableEq K] in
omit [DecidableEq K] in
end
end Go.Proofs.YtbhkonnakkhibaaGreat.Ab
namespace Go.Proofs.YtbhkonnakkhibaaGreat.Ab
open Go
def ValOk (f:Lau) (ys:List Int):Prop:=Right f/\(ys.length:Int)=f.v/\∀ y∈ys,y % 32003≠0
noncomputable instance (f:Lau) (ys:List Int):Decidable (ValOk f ys):=Classical.propDecidable _
end Go.Proofs.YtbhkonnakkhibaaGreat.Ab
namespace Go.Proofs.YtbhkonnakkhibaaGreat.Ab
open Go
set_option maxRecDepth 10000
set_option maxHeartbeats 2000000
theorem laws_times_c (f g:Lau) (hx:f.ts.length < 4611686018427387904) (hxe:∀ t∈f.ts,t.e.length < 4611686018427387904) (hy:g.ts.length < 4611686018427387904) (hye:∀ t∈g.ts,t.e.length < 4611686018427387904):ACalls Tryz.prog F.laws_times [aF f,aF g] [] true (fun outs res=>outs=[]/\res=[.ag (fO (mulF f g).1)]):=by
 refine ACalls.of_body (C:=C.laws_times) (n:=Tryz.f29.ntmps) tabT folT Tryz.func29 rfl (by kernel_rfl) rfl (Nat.le_of_ble_eq_true rfl) (by decide) (by kernel_rfl) (by kernel_rfl) rfl (by simp) (by simp) ?_
 simp only [Tryz.f29]
 refine wseq ?_
 refine wreg fun K hK=>?_
 simp [C.laws_times,fS,fO]
 refine hK _ ?_;clear hK K
 show AWp _ _ _ _ _
 refine wseq ?_
 refine wregI ([0,1,2] ++ ([3,4,5,6,7,8])) rfl fun K hK=>?_
 refine oSg fun L hL=>?_
 simp [C.laws_times,fS,fO]
 refine wcall1 (mulOk f g hx hxe hy hye) (by simp) (by simp) ?_
 simp [C.laws_times,fS,fO]
 refine hL _ ?_;clear hL L
 refine oEn fun L hL=>?_
 simp [C.laws_times,fS,fO]
 refine hL _ ?_;clear hL L
 simp [C.laws_times,fS,fO]
 refine hK _ ?_;clear hK K
 show AWp _ _ _ _ _
 refine wseq ?_
 refine wreg fun K hK=>?_
 simp [C.laws_times,fS,fO]
 refine hK _ ?_;clear hK K
 show AWp _ _ _ _ _
 refine wret ?_
 simp [C.laws_times,fS,fO]
end Go.Proofs.YtbhkonnakkhibaaGreat.Ab
namespace Go.Proofs.YtbhkonnakkhibaaGreat.Ab
open Go
theorem addE_comm1:∀ (a b:List Int),a.length=b.length->addE 1 a b=addE 1 b a
 | [],[],_=>rfl
 | x :: a,y :: b,h=>by
  simp only [addE,addE_comm1 a b (by simpa using h),Int.one_mul]
  rw [Int.add_comm]
theorem prodL_eq (a b:List (List Int×Int)):prodL a b=prodK (addE 1) a b:=rfl
theorem ring_com {n:Nat} {f g:Lau} (hf:∀ x∈f.ts.map pr,x.1.length=n) (hg:∀ x∈g.ts.map pr,x.1.length=n):nf lexlt (prodL (f.ts.map pr) (g.ts.map pr))=nf lexlt (prodL (g.ts.map pr) (f.ts.map pr)):=
 nf_vl lexOrd fun φ=>by
  rw [prodL_eq,prodL_eq]
  exact vl_prod_com (D:=fun e=>e.length=n) (fun a b h1 h2=>addE_comm1 a b (h1.trans h2.symm)) φ hf hg
theorem addE_zero1:∀ (n:Nat) (a:List Int),a.length=n->addE 1 (List.replicate n 0) a=a
 | 0,[],_=>rfl
 | n+1,x :: a,h=>by
  simp only [List.replicate_succ,addE,addE_zero1 n a (by simpa using h)]
  simp
theorem one_mul {n:Nat} {f:Lau} (hf:Right f) (hn:f.v=n):mulF (oneF n) f=(f,true)/\mulF f (oneF n)=(f,true):=by
 have hn8:1<=n/\n<=8:=by have:=hf.1;omega
 have h1:=oneF_right hn8
 have hl:∀ x∈f.ts.map pr,x.1.length=n:=fun x hx=>by
  obtain ⟨t,ht,rfl⟩:=List.mem_map.1 hx
  exact (right_dig hf hn t ht).1
 have h1l:∀ x∈(oneF n).ts.map pr,x.1.length=n:=fun x hx=>by
  simp only [oneF,List.map_cons,List.map_nil,List.mem_singleton] at hx
  subst hx
  simp [pr]
 have e:prodL ((oneF n).ts.map pr) (f.ts.map pr)=f.ts.map pr:=by
  simp only [oneF,List.map_cons,List.map_nil,prodL,List.flatMap_cons,List.flatMap_nil,List.append_nil]
  have:∀ l:List (List Int×Int),(∀ x∈l,x.1.length=n)->l.map (fun y=>(addE 1 (pr ⟨List.replicate n 0,1⟩).1 y.1,(pr ⟨List.replicate n 0,1⟩).2*y.2))=l:=fun l hl=>by
   refine (List.map_congr_left fun x hx=>?_).trans (List.map_id l)
   simp only [pr,addE_zero1 n x.1 (hl x hx),Int.one_mul,id]
  exact this _ hl
 have enf:nf lexlt (f.ts.map pr)=f.ts.map pr:=(nf_unique lexOrd (pr_desc hf) (pr_nz hf) fun k=>rfl).symm
 constructor
 ·unfold mulF
  rw [if_pos ⟨h1,hf,hn.symm⟩,e]
  unfold shutF
  rw [enf]
  have:(⟨(oneF n).v,(f.ts.map pr).map tm⟩:Lau)=f:=by
   rw [show (oneF n).v=f.v from hn.symm]
   exact lau_eta f
  rw [this,if_pos hf]
 ·unfold mulF
  rw [if_pos ⟨hf,h1,hn⟩]
  unfold shutF
  rw [ring_com hl h1l,e,enf,lau_eta,if_pos hf]
end Go.Proofs.YtbhkonnakkhibaaGreat.Ab
namespace Go.Proofs.YtbhkonnakkhibaaGreat.Ab
open Go
theorem sol_diag {n k:Nat} {b:Nat->Nat->Int} {d:Nat->Int} (h:Sol n b d) (hk:k < n):b k k=0:=by
 have h1:=(sol_sign h hk hk).1
 have h2:=(sol_sign h hk hk).2.2
 omega
theorem muE_twice (b:Nat->Nat->Int) (k i j:Nat):muE (muE b k) k i j=b i j:=by
 by_cases hi:i=k
 ·subst hi;simp [muE]
 ·by_cases hj:j=k
  ·subst hj;simp [muE]
  ·have e1:muE b k i k=-b i k:=by simp [muE]
   have e2:muE b k k j=-b k j:=by simp [muE]
   have e3:muE (muE b k) k i j=if 0 < -b i k/\0 < -b k j then muE b k i j + -b i k * -b k j else if -b i k < 0/\-b k j < 0 then muE b k i j - -b i k * -b k j else muE b k i j:=by
    conv=>lhs;unfold muE
    rw [if_neg (by omega),show (if k=k\/j=k then -b k j else if 0 < b k k/\0 < b k j then b k j+b k k*b k j else if b k k < 0/\b k j < 0 then b k j - b k k*b k j else b k j)=-b k j from if_pos (.inl rfl),show (if i=k\/k=k then -b i k else if 0 < b i k/\0 < b k k then b i k+b i k*b k k else if b i k < 0/\b k k < 0 then b i k - b i k*b k k else b i k)=-b i k from if_pos (.inr rfl)]
    rfl
   have e4:muE b k i j=if 0 < b i k/\0 < b k j then b i j+b i k*b k j else if b i k < 0/\b k j < 0 then b i j - b i k*b k j else b i j:=by
    conv=>lhs;unfold muE
    rw [if_neg (by omega)]
   rw [e3,e4]
   generalize b i k=A
   generalize b k j=B
   generalize b i j=X
   by_cases h1:0 < A/\0 < B
   ·rw [if_neg (by omega),if_pos (by omega),if_pos h1];grind
   ·by_cases h2:A < 0/\B < 0
    ·rw [if_pos (by omega),if_neg h1,if_pos h2];grind
    ·rw [if_neg (by omega),if_neg (by omega),if_neg h1,if_neg h2]
theorem muE_congr {b c:Nat->Nat->Int} {k i j:Nat} (h1:c i j=b i j) (h2:c i k=b i k) (h3:c k j=b k j):muE c k i j=muE b k i j:=by
 unfold muE
 rw [h1,h2,h3]
theorem sh_dim {m:Mat} (h:ShM m):1<=m.n.toNat/\m.n.toNat<=5/\m.n.toNat<=m.r.toNat/\m.r.toNat<=8/\m.d.length=m.r.toNat*m.n.toNat/\(m.n.toNat:Int)=m.n/\(m.r.toNat:Int)=m.r:=by
 have h1:=h.1
 have h2:=h.2.1
 have h3:=h.2.2.1
 have e1:(m.n.toNat:Int)=m.n:=by omega
 have e2:(m.r.toNat:Int)=m.r:=by omega
 refine ⟨by omega,by omega,by omega,by omega,?_,e1,e2⟩
 rw [<-e1,<-e2,<-Int.natCast_mul,Nat.mul_comm] at h3
 omega
theorem bM_d {m:Mat} (h:ShM m) {q:Nat} (hq:q < m.d.length):q / m.n.toNat < m.r.toNat/\q % m.n.toNat < m.n.toNat/\m.d[q]=bM m (q / m.n.toNat) (q % m.n.toNat):=by
 have hd:=sh_dim h
 have h1:q / m.n.toNat < m.r.toNat:=(Nat.div_lt_iff_lt_mul (by omega)).2 (by omega)
 have h2:q % m.n.toNat < m.n.toNat:=Nat.mod_lt _ (by omega)
 refine ⟨h1,h2,?_⟩
 obtain ⟨g1,g2⟩:=bM_get h (i:=q / m.n.toNat) (j:=q % m.n.toNat) (by omega) (by omega)
 rw [<-g2]
 congr 1
 have:=Nat.div_add_mod q m.n.toNat
 rw [Nat.mul_comm] at this
 exact this.symm
theorem muM_twice {m:Mat} (h:ShM m) {k:Nat} (hk:(k:Int) < m.n):muM (muM m k) k=m:=by
 have hd:=sh_dim h
 have e:muD (muM m k) k=m.d:=by
  refine List.ext_getElem (by simp [muM]) fun q h1 h2=>?_
  obtain ⟨a1,a2,a3⟩:=bM_d h h2
  simp only [muD,List.getElem_map,List.getElem_range]
  show muE (bM (muM m k)) k (q / m.n.toNat) (q % m.n.toNat)=_
  rw [muE_congr (b:=muE (bM m) k) (muM_b h (by omega) (by omega)) (muM_b h (by omega) (by omega)) (muM_b h (by omega) (by omega)),muE_twice,a3]
 unfold muM at e ⊢
 rw [e]
theorem muF_ok {m m':Mat} {k:Int} (h:muF m k=(m',true)):MatOK m/\(0<=k/\k < m.n)/\MatOK m'/\m'=muM m k.toNat:=by
 unfold muF at h
 split at h
 ·rename_i q
  injection h with h1 h2
  exact ⟨q.1,q.2.1,h1 ▸ q.2.2,h1.symm⟩
 ·simp at h
theorem muF_twice {m m':Mat} {k:Int} (h:muF m k=(m',true)):muF m' k=(m,true):=by
 obtain ⟨h1,h2,h3,rfl⟩:=muF_ok h
 have e:=muM_twice h1.1 (k:=k.toNat) (by omega)
 unfold muF
 rw [if_pos ⟨h3,h2,by rw [e];exact h1⟩,e]
theorem colM_mu {m:Mat} (h:ShM m) {k:Nat} (hk:(k:Int) < m.n):colM (muM m k) m.r.toNat k=(colM m m.r.toNat k).map fun c=>-c:=by
 have hd:=sh_dim h
 unfold colM
 rw [List.map_map]
 refine List.map_congr_left fun i hi=>?_
 have hi:=List.mem_range.1 hi
 rw [muM_b h (by omega) hk]
 simp [muE]
theorem prodE_neg (sg:Int):∀ (fs:List Lau) (cs:List Int) (p:Lau),prodE sg fs (cs.map fun c=>-c) p=prodE (-sg) fs cs p
 | [],_,p=>by simp [prodE]
 | f :: fs,[],p=>by simp [prodE]
 | f :: fs,c :: cs,p=>by
  simp only [List.map_cons,prodE]
  rw [show sg * -c=-sg*c by grind]
  congr 1
  funext q
  exact prodE_neg sg fs cs q
theorem prodE_set (sg:Int) (x:Lau):∀ (fs:List Lau) (cs:List Int) (k:Nat) (p:Lau),cs[k]? = some 0->prodE sg (fs.set k x) cs p=prodE sg fs cs p
 | [],_,_,_,_=>rfl
 | f :: fs,[],_,_,h=>by simp at h
 | f :: fs,c :: cs,0,p,h=>by
  obtain rfl:c=0:=by simpa using h
  simp [prodE,itM]
 | f :: fs,c :: cs,k+1,p,h=>by
  simp only [List.set_cons_succ,prodE]
  congr 1
  funext q
  exact prodE_set sg x fs cs k q (by simpa using h)
theorem mulF_v {f g P:Lau} (h:mulF f g=(P,true)):Right f/\Right g/\Right P/\P.v=f.v:=by
 unfold mulF at h
 split at h
 ·rename_i q
  unfold shutF at h
  split at h
  ·rename_i q2
   injection h with h1 h2
   exact ⟨q.1,q.2.1,h1 ▸ q2,h1 ▸ rfl⟩
  ·simp at h
 ·simp at h
theorem itM_v {f:Lau}:∀ {n:Nat} {p a:Lau},itM f n p=some a->Right p->Right a/\a.v=p.v
 | 0,p,a,h,hp=>by
  simp only [itM,Option.some.injEq] at h
  subst h
  exact ⟨hp,rfl⟩
 | n+1,p,a,h,hp=>by
  simp only [itM] at h
  split at h
  ·rename_i q
   obtain ⟨P,hP⟩:∃ P,mulF p f=(P,true):=⟨(mulF p f).1,by rw [<-q]⟩
   rw [hP] at h
   have h1:=mulF_v hP
   have h2:=itM_v h h1.2.2.1
   exact ⟨h2.1,h2.2.trans h1.2.2.2⟩
  ·simp at h
theorem prodE_v (sg:Int):∀ {fs:List Lau} {cs:List Int} {p a:Lau},prodE sg fs cs p=some a->Right p->Right a/\a.v=p.v
 | [],_,p,a,h,hp=>by
  simp only [prodE,Option.some.injEq] at h
  subst h
  exact ⟨hp,rfl⟩
 | f :: fs,[],p,a,h,hp=>by
  simp only [prodE,Option.some.injEq] at h
  subst h
  exact ⟨hp,rfl⟩
 | f :: fs,c :: cs,p,a,h,hp=>by
  simp only [prodE] at h
  obtain ⟨q,h1,h2⟩:=Option.bind_eq_some_iff.1 h
  have h3:=itM_v h1 hp
  have h4:=prodE_v sg h2 h3.1
  exact ⟨h4.1,h4.2.trans h3.2⟩
theorem prk_one (l:List Trm):l.map (prk 1)=l.map pr:=List.map_congr_left fun t _=>by simp [prk,pr]
theorem addF_com (a b:Lau) (hv:a.v=b.v):addF a 1 b=addF b 1 a:=by
 unfold addF
 by_cases h:Right a/\Right b/\a.v=b.v
 ·rw [if_pos ⟨h,by omega⟩,if_pos ⟨⟨h.2.1,h.1,hv.symm⟩,by omega⟩,prk_one,prk_one]
  unfold shutF
  rw [show nf lexlt (a.ts.map pr ++ b.ts.map pr)=nf lexlt (b.ts.map pr ++ a.ts.map pr) from nf_vl lexOrd fun φ=>by rw [vl_app,vl_app,Int.add_comm],hv]
 ·rw [if_neg (fun q=>h q.1),if_neg (fun q=>h ⟨q.1.2.1,q.1.1,q.1.2.2.symm⟩)]
theorem mulF_com {f g:Lau} (hv:f.v=g.v):mulF f g=mulF g f:=by
 unfold mulF
 by_cases h:Right f/\Right g/\f.v=g.v
 ·rw [if_pos h,if_pos ⟨h.2.1,h.1,hv.symm⟩]
  obtain ⟨n,hn⟩:∃ n:Nat,f.v=n:=⟨f.v.toNat,by have:=h.1.1;omega⟩
  unfold shutF
  rw [ring_com (n:=n) (fun x hx=>?_) (fun x hx=>?_),hv]
  ·obtain ⟨t,ht,rfl⟩:=List.mem_map.1 hx
   have:=(h.1.2.2.1 t ht).1
   simp only [pr]
   omega
  ·obtain ⟨t,ht,rfl⟩:=List.mem_map.1 hx
   have:=(h.2.1.2.2.1 t ht).1
   simp only [pr]
   omega
 ·rw [if_neg h,if_neg (fun q=>h ⟨q.2.1,q.1,q.2.2.symm⟩)]
theorem exF_ok {fs:List Lau} {cs:List Int} {r:Nat} {old x:Lau} (h:exF fs cs r old=(x,true)):(∀ c∈cs,-8<=c/\c<=8)/\∃ a b S,prodE 1 fs cs (oneF r)=some a/\prodE (-1) fs cs (oneF r)=some b/\addF a 1 b=(S,true)/\divF S old=(x,true):=by
 unfold exF at h
 split at h
 ·rename_i hc
  refine ⟨hc,?_⟩
  split at h
  ·rename_i a b ha hb
   split at h
   ·rename_i hs
    exact ⟨a,b,(addF a 1 b).1,ha,hb,by rw [<-hs],h⟩
   ·simp at h
  ·simp at h
 ·simp at h
structure Exch (s:Sed) (k:Nat) (x a b S:Lau):Prop where
 ok:SeedOK s
 hk:(k:Int) < s.m.n
 mok:(muF s.m k).2=true
 ha:prodE 1 s.f (colM s.m s.m.r.toNat k) (oneF s.m.r.toNat)=some a
 hb:prodE (-1) s.f (colM s.m s.m.r.toNat k) (oneF s.m.r.toNat)=some b
 hs:addF a 1 b=(S,true)
 hd:divF S (s.f.getD k zeroF)=(x,true)
theorem seedF_ok {s t:Sed} {k:Int} (h:seedF s k=(t,true)):∃ x a b S,0<=k/\Exch s k.toNat x a b S/\t=⟨(muF s.m k).1,s.f.set k.toNat x⟩:=by
 unfold seedF at h
 split at h
 ·rename_i q
  injection h with h1 h2
  obtain ⟨h3,h4⟩:=q.2.1
  obtain ⟨x,hx⟩:∃ x,exF s.f (colM s.m s.m.r.toNat k.toNat) s.m.r.toNat (s.f.getD k.toNat zeroF)=(x,true):=⟨_,by rw [<-q.2.2.1]⟩
  obtain ⟨_,a,b,S,ha,hb,hs,hd⟩:=exF_ok hx
  rw [hx] at h1
  have e:((k.toNat:Nat):Int)=k:=by omega
  exact ⟨x,a,b,S,h3,⟨q.1,by omega,by rw [e];exact q.2.2.2,ha,hb,hs,hd⟩,h1.symm⟩
 ·simp at h
theorem Exch.col0 {s:Sed} {k:Nat} {x a b S:Lau} (h:Exch s k x a b S):(colM s.m s.m.r.toNat k)[k]? = some 0:=by
 have hd:=sh_dim h.ok.1.1
 have hk:=h.hk
 rw [List.getElem?_eq_getElem (by simp;omega),colM_get _ _ _ _ (by omega)]
 obtain ⟨d,hsol⟩:=h.ok.1.2
 rw [sol_diag hsol (by omega)]
theorem Exch.old {s:Sed} {k:Nat} {x a b S:Lau} (h:Exch s k x a b S):∃ hl:k < s.f.length,s.f.getD k zeroF=s.f[k]/\VarOk s.m.r s.f[k]:=by
 have hd:=sh_dim h.ok.1.1
 have hk:=h.hk
 have hl:k < s.f.length:=by have:=h.ok.2.1;omega
 exact ⟨hl,by simp [List.getD_eq_getElem?_getD,hl],h.ok.2.2 _ (List.getElem_mem hl)⟩
theorem Exch.mul {s:Sed} {k:Nat} {x a b S:Lau} (h:Exch s k x a b S):Right S/\Right x/\mulF x (s.f.getD k zeroF)=(S,true):=mul_div h.hd
theorem Exch.v {s:Sed} {k:Nat} {x a b S:Lau} (h:Exch s k x a b S):x.v=s.m.r:=by
 obtain ⟨hl,e1,e2⟩:=h.old
 obtain ⟨_,_,h3⟩:=h.mul
 unfold mulF at h3
 split at h3
 ·rename_i q
  rw [q.2.2,e1]
  exact e2.2.2
 ·simp at h3
theorem seedF_twice {s t u:Sed} {k:Int} (h:seedF s k=(t,true)) (h2:seedF t k=(u,true)):u=s:=by
 obtain ⟨x,a,b,S,hk,hE,ht⟩:=seedF_ok h
 obtain ⟨y,a2,b2,S2,_,hE2,hu⟩:=seedF_ok h2
 have hd:=sh_dim hE.ok.1.1
 have hkn:=hE.hk
 have ek:((k.toNat:Nat):Int)=k:=by omega
 obtain ⟨m',hm'⟩:∃ m',muF s.m k=(m',true):=⟨_,by rw [<-hE.mok,ek]⟩
 obtain ⟨o1,o2,o3,o4⟩:=muF_ok hm'
 rw [hm'] at ht
 have htm:t.m=m':=by rw [ht]
 have htf:t.f=s.f.set k.toNat x:=by rw [ht]
 have htr:t.m.r=s.m.r:=by rw [htm,o4];rfl
 have hcol:colM t.m t.m.r.toNat k.toNat=(colM s.m s.m.r.toNat k.toNat).map fun c=>-c:=by
  rw [htr,htm,o4]
  exact colM_mu hE.ok.1.1 hkn
 have hone:Right (oneF s.m.r.toNat):=oneF_right (by omega)
 have ha2:=hE2.ha
 have hb2:=hE2.hb
 rw [hcol,htr,prodE_neg,htf,prodE_set _ _ _ _ _ _ hE.col0,hE.hb] at ha2
 rw [hcol,htr,prodE_neg,htf,prodE_set _ _ _ _ _ _ hE.col0,Int.neg_neg,hE.ha] at hb2
 injection ha2 with ha2
 injection hb2 with hb2
 subst ha2
 subst hb2
 have hva:=(prodE_v _ hE.ha hone).2
 have hvb:=(prodE_v _ hE.hb hone).2
 have hS2:=hE2.hs
 rw [addF_com _ _ (hvb.trans hva.symm),hE.hs] at hS2
 obtain rfl:S=S2:=by injection hS2
 obtain ⟨hl,e1,e2⟩:=hE.old
 have hxk:t.f.getD k.toNat zeroF=x:=by rw [htf];simp [List.getD_eq_getElem?_getD,hl]
 have hd2:=hE2.hd
 rw [hxk] at hd2
 obtain ⟨g1,g2,g3⟩:=hE.mul
 have hxv:=hE.v
 have hxne:x.ts≠[]:=by
  have:=hE2.old
  obtain ⟨hl2,f1,f2⟩:=this
  rw [<-f1,hxk] at f2
  exact f2.2.1
 rw [e1] at g3
 rw [mulF_com (hxv.trans e2.2.2.symm)] at g3
 rw [div_mul e2.1 g2 (e2.2.2.trans hxv.symm) hxne g3] at hd2
 obtain rfl:s.f[k.toNat]=y:=by injection hd2
 rw [hu,htm,muF_twice hm',htf]
 have:s.f.set k.toNat s.f[k.toNat]=s.f:=List.set_getElem_self hl
 rw [List.set_set,this]
end Go.Proofs.YtbhkonnakkhibaaGreat.Ab
namespace Go.Proofs.YtbhkonnakkhibaaGreat.Ab
open Go
def zM:Mat:=⟨0,0,[]⟩
def idP (n i:Nat):List Int:=(List.range i).flatMap fun j=>unitL n j
theorem idP_succ (n i:Nat):idP n (i+1)=idP n i ++ unitL n i:=by simp [idP,List.range_succ]
@[simp] theorem idP_length (n:Nat):∀ i,(idP n i).length=i*n
 | 0=>by simp [idP]
 | i+1=>by rw [idP_succ,List.length_append,idP_length n i,unitL_length,Nat.add_mul,Nat.one_mul]
theorem unitL_mem {n i:Nat} {x:Int} (h:x∈unitL n i):x=0\/x=1:=by
 rcases List.mem_or_eq_of_mem_set h with h | h
 ·exact .inl (List.eq_of_mem_replicate h)
 ·exact .inr h
def SqOK (m:Mat):Prop:=MatOK m/\m.r=m.n/\2*m.n<=8
noncomputable instance (m:Mat):Decidable (SqOK m):=Classical.propDecidable _
noncomputable def fpL (m:Mat) (ws:List Mat) (ks:List Int):Nat->Option (List Lau)
 | 0=>some (List.replicate m.n.toNat (oneF m.n.toNat) ++ varsL m.n.toNat)
 | t+1=>match fpL m ws ks t with
  | some fs=>if (exF fs (colM (ws.getD t zM) (2*m.n.toNat) (ks.getD t 0).toNat) m.n.toNat (fs.getD (ks.getD t 0).toNat zeroF)).2=true then
    some (fs.set (ks.getD t 0).toNat (exF fs (colM (ws.getD t zM) (2*m.n.toNat) (ks.getD t 0).toNat) m.n.toNat (fs.getD (ks.getD t 0).toNat zeroF)).1) else none
  | none=>none
theorem exF_v {fs:List Lau} {cs:List Int} {r:Nat} {old x:Lau} (hr:1<=r/\r<=8) (h:exF fs cs r old=(x,true)):Right x/\x.v=r:=by
 obtain ⟨_,a,b,S,ha,hb,hs,hd⟩:=exF_ok h
 obtain ⟨h1,h2,h3⟩:=mul_div hd
 have h4:=(prodE_v 1 ha (oneF_right hr)).2
 refine ⟨h2,?_⟩
 have h5:=mulF_v h3
 have h6:S.v=a.v:=by
  unfold addF at hs
  split at hs
  ·unfold shutF at hs
   split at hs
   ·injection hs with hs
    rw [<-hs]
   ·simp at hs
  ·simp at hs
 rw [<-h5.2.2.2,h6,h4]
 rfl
end Go.Proofs.YtbhkonnakkhibaaGreat.Ab
namespace Go.Proofs.YtbhkonnakkhibaaGreat.Ab
open Go
set_option maxRecDepth 10000
set_option maxHeartbeats 2000000
def SgM (m:Mat) (i j:Nat):Prop:=(0 < bM m i j↔bM m j i < 0)/\(bM m i j=0↔bM m j i=0)
def SzM (m:Mat):Prop:=ShM m/\∀ i j,i < m.n.toNat->j < m.n.toNat->SgM m i j
noncomputable instance (m:Mat):Decidable (SzM m):=Classical.propDecidable _
theorem sh_L {m:Mat} (hS:ShM m):m.d.length<=40:=by
 have h1:=hS.2.2.1
 have h2:=hS.1
 have h3:=hS.2.1
 have:m.n*m.r<=5*8:=Int.mul_le_mul (by omega) (by omega) (by omega) (by omega)
 omega
theorem spec_l1At_c (m:Mat) (n r i j:Nat) (hn:m.n=n) (hr:m.r=r) (hS:ShM m) (hi:i < r) (hj:j < n):ACalls Tryz.prog F.spec_l1At [.ag [.int n,.int r,.d (shI m.d)],.int i,.int j] [] true (fun outs res=>outs=[]/\res=[.one (D.int (bM m i j))]):=by
 obtain ⟨hqL,he⟩:=bM_get hS (i:=i) (j:=j) (by omega) (by omega)
 have hnn:m.n.toNat=n:=by omega
 have hL:=sh_L hS
 rw [hnn] at hqL
 have he2:m.d[i*n+j]=bM m i j:=by rw [<-he];congr 1;rw [hnn]
 refine ACalls.of_body (C:=C.spec_l1At) (n:=Tryz.f138.ntmps) tabT folT Tryz.func138 rfl (by kernel_rfl) rfl (Nat.le_of_ble_eq_true rfl) (by decide) (by kernel_rfl) (by kernel_rfl) rfl (by simp) (by simp) ?_
 simp only [Tryz.f138]
 refine wseq ?_
 refine wreg fun K hK=>?_
 simp [C.spec_l1At]
 refine hK _ ?_;clear hK K
 show AWp _ _ _ _ _
 refine wseq ?_
 have h0:((i:Int)*n)=((i*n:Nat):Int):=by simp
 have h1:IntKind.i64.wrap ((i:Int)*n)=(i:Int)*n:=by
  rw [h0,wrapOk (by omega) (by omega)]
 obtain ⟨q,hq⟩:∃ q,q=i*n+j:=⟨_,rfl⟩
 have h2:IntKind.i64.wrap ((i:Int)*n+j)=(q:Int):=by
  rw [h0,wrapOk (by omega) (by omega)]
  omega
 simp only [<-hq] at he2 hqL
 refine wreg fun K hK=>?_
 simp [C.spec_l1At,h1,h2,hqL,get_ints,he2]
 refine hK _ ?_;clear hK K
 show AWp _ _ _ _ _
 refine wret ?_
 simp [C.spec_l1At]
theorem spec_l1Abs_c (x:Int) (hx:-4611686018427387904 < x/\x < 4611686018427387904):ACalls Tryz.prog F.spec_l1Abs [.int x] [] true (fun outs res=>outs=[]/\res=[.one (D.int (x.natAbs:Int))]):=by
 refine ACalls.of_body (C:=C.spec_l1Abs) (n:=Tryz.f242.ntmps) tabT folT Tryz.func242 rfl (by kernel_rfl) rfl (Nat.le_of_ble_eq_true rfl) (by decide) (by kernel_rfl) (by kernel_rfl) rfl (by simp) (by simp) ?_
 simp only [Tryz.f242]
 refine wseq ?_
 refine wreg fun K hK=>?_
 simp [C.spec_l1Abs]
 refine hK _ ?_;clear hK K
 show AWp _ _ _ _ _
 refine wseq ?_
 refine wreg fun K hK=>?_
 simp [C.spec_l1Abs,wrapOk (x:=-x) (by omega) (by omega)]
 refine hK _ ?_;clear hK K
 show AWp _ _ _ _ _
 refine wret ?_
 have hm:max x (-x)=(x.natAbs:Int):=by omega
 simp [C.spec_l1Abs,hm]
theorem spec_l1Gcd_c (a b:Int) (ha:0<=a/\a < 4611686018427387904) (hb:0<=b/\b < 4611686018427387904):ACalls Tryz.prog F.spec_l1Gcd [.int a,.int b] [] true (fun outs res=>outs=[]/\res=[.one (D.int (Int.gcd a b:Int))]):=by
 refine ACalls.of_body (C:=C.spec_l1Gcd) (n:=Tryz.f243.ntmps) tabT folT Tryz.func243 rfl (by kernel_rfl) rfl (Nat.le_of_ble_eq_true rfl) (by decide) (by kernel_rfl) (by kernel_rfl) rfl (by simp) (by simp) ?_
 simp only [Tryz.f243]
 refine wseq ?_
 refine wreg fun K hK=>?_
 simp [C.spec_l1Gcd]
 refine hK _ ?_;clear hK K
 show AWp _ _ _ _ _
 refine wseq ?_
 refine wblock ?_
 refine wloop (fun x:Int×Int=>⟨ofL [(0,.int x.1),(1,.int x.2)],ofRO []⟩) (fun x=>Int.gcd x.1 x.2=Int.gcd a b/\(0<=x.1/\x.1 < 4611686018427387904)/\(0<=x.2/\x.2 < 4611686018427387904)) (fun x=>x.2.natAbs) (a,b) (by simp [C.spec_l1Gcd]) ⟨rfl,ha,hb⟩ ?_
 intro x1 hx1 R1 hR1
 obtain ⟨p,q⟩:=x1
 obtain ⟨hg,hp,hq⟩:=hx1
 dsimp only at hg hp hq ⊢
 refine wseq ?_
 refine wseq ?_
 refine wreg fun K hK=>?_
 simp [C.spec_l1Gcd]
 refine hK _ ?_;clear hK K
 show AWp _ _ _ _ _
 refine wcond _ rfl (fun hc1=>?_) (fun hc1=>?_)
 ·refine wskip ?_
  show AWp _ _ _ _ _
  refine wblock ?_
  have hq0:q≠0:=by simpa using hc1
  refine wdraw (.take 0 (.take 1 (.take 2 (.take 3 (.take 4 (.take 5 (.done))))))) ⟨by kernel_rfl,by kernel_rfl⟩ fun K hK=>?_
  simp [C.spec_l1Gcd,hq0]
  refine hK _ ?_;clear hK K
  simp [C.spec_l1Gcd]
  have hn:(p.tmod q).natAbs < q.natAbs:=by rw [Int.natAbs_tmod];exact Nat.mod_lt _ (by omega)
  refine hR1 (q,p.tmod q) ⟨?_,hq,by dsimp only;have:=Int.tmod_nonneg q hp.1;omega⟩ hn
  rw [<-hg]
  unfold Int.gcd
  rw [Int.natAbs_tmod,Nat.gcd_comm p.natAbs,Nat.gcd_rec q.natAbs p.natAbs,Nat.gcd_comm]
 ·refine wexit ?_
  show AWp _ _ _ _ _
  refine wseq ?_
  have hq0:q=0:=by simpa using hc1
  subst hq0
  refine wreg fun K hK=>?_
  simp [C.spec_l1Gcd]
  refine hK _ ?_;clear hK K
  show AWp _ _ _ _ _
  refine wret ?_
  have hpg:p=(Int.gcd a b:Int):=by rw [<-hg];simp [Int.gcd];omega
  simp [C.spec_l1Gcd,hpg]
theorem spec_l1Has_c (P:List Nat) (j:Nat) (hP:P.length < 4611686018427387904):ACalls Tryz.prog F.spec_l1Has [.d (.sh 1 P.length (ints (cN P))),.int j] [] true (fun outs res=>outs=[]/\res=[.one (D.bool (decide (j∈P)))]):=by
 refine ACalls.of_body (C:=C.spec_l1Has) (n:=Tryz.f260.ntmps) tabT folT Tryz.func260 rfl (by kernel_rfl) rfl (Nat.le_of_ble_eq_true rfl) (by decide) (by kernel_rfl) (by kernel_rfl) rfl (by simp) (by simp) ?_
 simp only [Tryz.f260]
 refine wseq ?_
 refine wreg fun K hK=>?_
 simp [C.spec_l1Has]
 refine hK _ ?_;clear hK K
 show AWp _ _ _ _ _
 refine wseq ?_
 refine wseq ?_
 refine wreg fun K hK=>?_
 simp [C.spec_l1Has]
 refine hK _ ?_;clear hK K
 show AWp _ _ _ _ _
 refine wblock ?_
 refine wloop (fun x:Nat=>⟨ofL [(0,.d (.sh 1 P.length (ints (cN P)))),(1,.int j),(5,.int x)],ofRO []⟩) (fun x=>x<=P.length/\j ∉ P.take x) (fun x=>P.length - x) 0 (by simp [C.spec_l1Has]) (by simp) ?_
 intro x1 hx1 R1 hR1
 obtain ⟨ht,hno⟩:=hx1
 refine wseq ?_
 refine wseq ?_
 refine wreg fun K hK=>?_
 simp [C.spec_l1Has]
 refine hK _ ?_;clear hK K
 show AWp _ _ _ _ _
 refine wcond _ rfl (fun hc1=>?_) (fun hc1=>?_)
 ·have h1:x1 < P.length:=by have:=d_t hc1;omega
  refine wskip ?_
  show AWp _ _ _ _ _
  refine wseq ?_
  refine wblock ?_
  refine wseq ?_
  refine wreg fun K hK=>?_
  simp [C.spec_l1Has,h1,get_ints,cN_get h1,natbeq]
  refine hK _ ?_;clear hK K
  show AWp _ _ _ _ _
  refine wcond _ rfl (fun hc2=>?_) (fun hc2=>?_)
  ·have e:P[x1]=j:=by simpa using hc2
   refine wseq ?_
   refine wreg fun K hK=>?_
   simp [C.spec_l1Has]
   refine hK _ ?_;clear hK K
   show AWp _ _ _ _ _
   refine wret ?_
   simp [C.spec_l1Has]
   rw [<-e];exact List.getElem_mem h1
  ·have e:¬ P[x1]=j:=by simpa using hc2
   refine wskip ?_
   show AWp _ _ _ _ _
   refine wreg fun K hK=>?_
   simp [C.spec_l1Has,wrap_succ (show x1 < 4611686018427387904 by omega)]
   refine hK _ ?_;clear hK K
   simp [C.spec_l1Has]
   refine hR1 (x1+1) ⟨h1,fun h=>?_⟩ (by omega)
   rcases (take_mem_snoc h1 j).1 h with h | h
   ·exact hno h
   ·exact e h.symm
 ·have h1:x1=P.length:=by have:=d_f hc1;omega
  rw [h1,List.take_length] at hno
  refine wexit ?_
  show AWp _ _ _ _ _
  refine wseq ?_
  refine wreg fun K hK=>?_
  simp [C.spec_l1Has]
  refine hK _ ?_;clear hK K
  show AWp _ _ _ _ _
  refine wret ?_
  simp [C.spec_l1Has,hno]
theorem spec_l1Sizes_c (m:Mat) (hx:m.d.length < 17592186044416):ACalls Tryz.prog F.spec_l1Sizes [aM m] [] true (fun outs res=>outs=[]/\res=[.one (D.bool (decide (SzM m)))]):=by
 refine ACalls.of_body (C:=C.spec_l1Sizes) (n:=Tryz.f205.ntmps) tabT folT Tryz.func205 rfl (by kernel_rfl) rfl (Nat.le_of_ble_eq_true rfl) (by decide) (by kernel_rfl) (by kernel_rfl) rfl (by simp) (by simp) ?_
 simp only [Tryz.f205]
 refine wseq ?_
 refine wreg fun K hK=>?_
 simp [C.spec_l1Sizes]
 refine hK _ ?_;clear hK K
 show AWp _ _ _ _ _
 refine wseq ?_
 refine wseq ?_
 refine wregI ([0,1,2] ++ ([3,4,5,6,7,8,9] ++ ([10,11,12,13,14,15,16,17,18,19,20,21,22]))) rfl fun K hK=>?_
 have hJ:K ⟨ofL [(1,.pt (1,0) [] 0),(30,.bool (!decide ((1<=m.n/\m.n<=5)/\(m.n<=m.r/\m.r<=8)/\(m.d.length:Int)=m.n*m.r)))],ofRO [((1,0),some (.bx [D.int m.n,D.int m.r,shI m.d]))]⟩:=by
  refine hK _ ?_;clear hK K
  show AWp _ _ _ _ _
  refine wcond _ rfl (fun hc1=>?_) (fun hc1=>?_)
  ·have hr:=nd_t hc1
   have hno:¬ SzM m:=fun h=>hr ⟨h.1.1,h.1.2.1,h.1.2.2.1⟩
   refine wseq ?_
   refine wreg fun K hK=>?_
   simp [C.spec_l1Sizes]
   refine hK _ ?_;clear hK K
   show AWp _ _ _ _ _
   refine wret ?_
   simp [C.spec_l1Sizes,hno]
  ·have hr:=nd_f hc1
   obtain ⟨h1,h2,h3⟩:=hr
   obtain ⟨n,hn⟩:∃ n:Nat,m.n=n:=⟨m.n.toNat,by omega⟩
   obtain ⟨r,hr⟩:∃ r:Nat,m.r=r:=⟨m.r.toNat,by omega⟩
   have hnn:m.n.toNat=n:=by omega
   refine wskip ?_
   show AWp _ _ _ _ _
   refine wseq ?_
   refine wseq ?_
   refine wreg fun K hK=>?_
   simp [C.spec_l1Sizes]
   refine hK _ ?_;clear hK K
   show AWp _ _ _ _ _
   refine wblock ?_
   refine wloop (fun x:Nat=>⟨ofL [(1,.pt (1,0) [] 0),(3,.int x)],ofRO [((1,0),some (.bx [D.int n,D.int r,shI m.d]))]⟩) (fun x=>x<=m.d.length/\∀ y∈m.d.take x,-99<=y/\y<=99) (fun x=>m.d.length - x) 0 (by simp [C.spec_l1Sizes,hn,hr]) (by simp) ?_
   intro x1 hx1 R1 hR1
   obtain ⟨ht,hall⟩:=hx1
   refine wseq ?_
   refine wseq ?_
   refine wreg fun K hK=>?_
   simp [C.spec_l1Sizes]
   refine hK _ ?_;clear hK K
   show AWp _ _ _ _ _
   refine wcond _ rfl (fun hc2=>?_) (fun hc2=>?_)
   ·have hi:x1 < m.d.length:=by have:=d_t hc2;omega
    refine wskip ?_
    show AWp _ _ _ _ _
    refine wseq ?_
    refine wblock ?_
    refine wseq ?_
    refine wregI ([0,1,2,3,4,5] ++ ([6])) rfl fun K hK=>?_
    refine oSg fun L hL=>?_
    simp [C.spec_l1Sizes,hi,get_ints]
    refine wcall1 (spec_l1In_c m.d[x1] (-99) 99) (by simp) (by simp) ?_
    simp [C.spec_l1Sizes,hi,get_ints]
    refine hL _ ?_;clear hL L
    refine oEn fun L hL=>?_
    simp [C.spec_l1Sizes,hi,get_ints]
    refine hL _ ?_;clear hL L
    simp [C.spec_l1Sizes,hi,get_ints]
    refine hK _ ?_;clear hK K
    show AWp _ _ _ _ _
    refine wcond _ rfl (fun hc3=>?_) (fun hc3=>?_)
    ·have hbad:¬ (-99<=m.d[x1]/\m.d[x1]<=99):=by simp at hc3;omega
     have hno:¬ SzM m:=fun h=>hbad (h.1.2.2.2 _ (List.getElem_mem hi))
     refine wseq ?_
     refine wreg fun K hK=>?_
     simp [C.spec_l1Sizes]
     refine hK _ ?_;clear hK K
     show AWp _ _ _ _ _
     refine wret ?_
     simp [C.spec_l1Sizes,hno]
    ·have hgood:-99<=m.d[x1]/\m.d[x1]<=99:=by simp at hc3;omega
     refine wskip ?_
     show AWp _ _ _ _ _
     refine wreg fun K hK=>?_
     simp [C.spec_l1Sizes,wrap_succ (show x1 < 4611686018427387904 by omega)]
     refine hK _ ?_;clear hK K
     simp [C.spec_l1Sizes]
     refine hR1 (x1+1) ⟨hi,fun y hy=>?_⟩ (by omega)
     rw [List.take_succ_eq_append_getElem hi] at hy
     rcases List.mem_append.1 hy with hy | hy
     ·exact hall y hy
     ·rw [List.mem_singleton] at hy
      rw [hy]
      exact hgood
   ·have hi:x1=m.d.length:=by have:=d_f hc2;omega
    rw [hi,List.take_length] at hall
    have hS:ShM m:=⟨h1,h2,h3,hall⟩
    clear ht hi hc2
    refine wexit ?_
    show AWp _ _ _ _ _
    refine wseq ?_
    refine wseq ?_
    refine wreg fun K hK=>?_
    simp [C.spec_l1Sizes]
    refine hK _ ?_;clear hK K
    show AWp _ _ _ _ _
    refine wblock ?_
    refine wloop (fun x:Nat=>⟨ofL [(1,.pt (1,0) [] 0),(4,.int x)],ofRO [((1,0),some (.bx [D.int n,D.int r,shI m.d]))]⟩) (fun x=>x<=n/\∀ i j,i < x->j < n->SgM m i j) (fun x=>n - x) 0 (by simp [C.spec_l1Sizes]) (by simp) ?_
    intro x2 hx2 R2 hR2
    obtain ⟨hi0,hA⟩:=hx2
    refine wseq ?_
    refine wseq ?_
    refine wreg fun K hK=>?_
    simp [C.spec_l1Sizes]
    refine hK _ ?_;clear hK K
    show AWp _ _ _ _ _
    refine wcond _ rfl (fun hc4=>?_) (fun hc4=>?_)
    ·have hi:x2 < n:=by have:=d_t hc4;omega
     refine wskip ?_
     show AWp _ _ _ _ _
     refine wseq ?_
     refine wblock ?_
     refine wseq ?_
     refine wreg fun K hK=>?_
     simp [C.spec_l1Sizes]
     refine hK _ ?_;clear hK K
     show AWp _ _ _ _ _
     refine wblock ?_
     refine wloop (fun x:Nat=>⟨ofL [(1,.pt (1,0) [] 0),(4,.int x2),(5,.int x)],ofRO [((1,0),some (.bx [D.int n,D.int r,shI m.d]))]⟩) (fun x=>x<=n/\∀ j,j < x->SgM m x2 j) (fun x=>n - x) 0 (by simp [C.spec_l1Sizes]) (by simp) ?_
     intro x3 hx3 R3 hR3
     obtain ⟨hj0,hB⟩:=hx3
     refine wseq ?_
     refine wseq ?_
     refine wreg fun K hK=>?_
     simp [C.spec_l1Sizes]
     refine hK _ ?_;clear hK K
     show AWp _ _ _ _ _
     refine wcond _ rfl (fun hc5=>?_) (fun hc5=>?_)
     ·have hj:x3 < n:=by have:=d_t hc5;omega
      obtain ⟨a,ha⟩:∃ a,a=bM m x2 x3:=⟨_,rfl⟩
      obtain ⟨b,hb⟩:∃ b,b=bM m x3 x2:=⟨_,rfl⟩
      have hat1:=spec_l1At_c m n r x2 x3 hn hr hS (by omega) hj
      have hat2:=spec_l1At_c m n r x3 x2 hn hr hS (by omega) hi
      rw [<-ha] at hat1
      rw [<-hb] at hat2
      have hsg:SgM m x2 x3=((0 < a↔b < 0)/\(a=0↔b=0)):=by rw [ha,hb];rfl
      refine wskip ?_
      show AWp _ _ _ _ _
      refine wseq ?_
      refine wblock ?_
      refine wseq ?_
      refine wregI ([0,1,2,3] ++ ([4])) rfl fun K hK=>?_
      refine oSg fun L hL=>?_
      simp [C.spec_l1Sizes]
      refine wcall1 (hat1) (by simp) (by simp) ?_
      simp [C.spec_l1Sizes]
      refine hL _ ?_;clear hL L
      refine oEn fun L hL=>?_
      simp [C.spec_l1Sizes]
      refine hL _ ?_;clear hL L
      simp [C.spec_l1Sizes]
      refine hK _ ?_;clear hK K
      show AWp _ _ _ _ _
      refine wseq ?_
      refine wregI ([0,1,2,3] ++ ([4])) rfl fun K hK=>?_
      refine oSg fun L hL=>?_
      simp [C.spec_l1Sizes]
      refine wcall1 (hat2) (by simp) (by simp) ?_
      simp [C.spec_l1Sizes]
      refine hL _ ?_;clear hL L
      refine oEn fun L hL=>?_
      simp [C.spec_l1Sizes]
      refine hL _ ?_;clear hL L
      simp [C.spec_l1Sizes]
      refine hK _ ?_;clear hK K
      show AWp _ _ _ _ _
      refine wseq ?_
      refine wreg fun K hK=>?_
      have hJ:K ⟨ofL [(1,.pt (1,0) [] 0),(4,.int x2),(5,.int x3),(76,.bool (!decide ((0 < a↔b < 0)/\(a=0↔b=0))))],ofRO [((1,0),some (.bx [D.int n,D.int r,shI m.d]))]⟩:=by
       refine hK _ ?_;clear hK K
       show AWp _ _ _ _ _
       refine wcond _ rfl (fun hc6=>?_) (fun hc6=>?_)
       ·have hbad:=nd_t hc6
        have hno:¬ SzM m:=fun h=>hbad (hsg ▸ h.2 x2 x3 (by omega) (by omega))
        refine wseq ?_
        refine wreg fun K hK=>?_
        simp [C.spec_l1Sizes]
        refine hK _ ?_;clear hK K
        show AWp _ _ _ _ _
        refine wret ?_
        simp [C.spec_l1Sizes,hno]
       ·have hgood:=nd_f hc6
        refine wskip ?_
        show AWp _ _ _ _ _
        refine wreg fun K hK=>?_
        simp [C.spec_l1Sizes,wrap_succ (show x3 < 4611686018427387904 by omega)]
        refine hK _ ?_;clear hK K
        simp [C.spec_l1Sizes]
        refine hR3 (x3+1) ⟨hj,fun j hjx=>?_⟩ (by omega)
        by_cases e:j=x3
        ·rw [e,hsg];exact hgood
        ·exact hB j (by omega)
      clear hK
      by_cases h1:0 < a <;> by_cases h2:b < 0 <;> by_cases h3:a=0 <;> by_cases h4:b=0 <;> first
       | (exfalso;omega)
       | (simp [C.spec_l1Sizes,ibeq,h1,h2,h3,h4];refine cast (congrArg K ?_) hJ;simp [ibeq,h1,h2,h3,h4];done)
     ·have hj:x3=n:=by have:=d_f hc5;omega
      refine wexit ?_
      show AWp _ _ _ _ _
      refine wreg fun K hK=>?_
      simp [C.spec_l1Sizes,wrap_succ (show x2 < 4611686018427387904 by omega)]
      refine hK _ ?_;clear hK K
      simp [C.spec_l1Sizes]
      refine hR2 (x2+1) ⟨hi,fun i j hix hjn=>?_⟩ (by omega)
      by_cases e:i=x2
      ·rw [e];exact hB j (by omega)
      ·exact hA i j (by omega) hjn
    ·have hi:x2=n:=by have:=d_f hc4;omega
     have hyes:SzM m:=⟨hS,fun i j h1 h2=>hA i j (by omega) (by omega)⟩
     refine wexit ?_
     show AWp _ _ _ _ _
     refine wseq ?_
     refine wreg fun K hK=>?_
     simp [C.spec_l1Sizes]
     refine hK _ ?_;clear hK K
     show AWp _ _ _ _ _
     refine wret ?_
     simp [C.spec_l1Sizes,hyes]
 clear hK
 by_cases h1:1<=m.n/\m.n<=5
 ·by_cases h2:m.n<=m.r/\m.r<=8
  ·have hnr:IntKind.i64.wrap (m.n*m.r)=m.n*m.r:=by
    have h4:m.n*m.r<=5*8:=Int.mul_le_mul (by omega) (by omega) (by omega) (by omega)
    have h5:0<=m.n*m.r:=Int.mul_nonneg (by omega) (by omega)
    exact wrapOk (by omega) (by omega)
   refine oSg fun L hL=>?_
   simp [C.spec_l1Sizes,hnr,h1,h2]
   refine wcall1 (spec_l1In_c m.n 1 5) (by simp) (by simp) ?_
   simp [C.spec_l1Sizes,hnr,h1,h2]
   refine hL _ ?_;clear hL L
   refine oSg fun L hL=>?_
   simp [C.spec_l1Sizes,hnr,h1,h2]
   refine wcall1 (spec_l1In_c m.r m.n 8) (by simp) (by simp) ?_
   simp [C.spec_l1Sizes,hnr,h1,h2]
   refine hL _ ?_;clear hL L
   refine oEn fun L hL=>?_
   simp [C.spec_l1Sizes,hnr,h1,h2]
   refine hL _ ?_;clear hL L
   simp [C.spec_l1Sizes,hnr,h1,h2]
   refine cast (congrArg K ?_) hJ
   simp [ibne,h1,h2]
  ·refine oSg fun L hL=>?_
   simp [C.spec_l1Sizes,h1,h2]
   refine wcall1 (spec_l1In_c m.n 1 5) (by simp) (by simp) ?_
   simp [C.spec_l1Sizes,h1,h2]
   refine hL _ ?_;clear hL L
   refine oSg fun L hL=>?_
   simp [C.spec_l1Sizes,h1,h2]
   refine wcall1 (spec_l1In_c m.r m.n 8) (by simp) (by simp) ?_
   simp [C.spec_l1Sizes,h1,h2]
   refine hL _ ?_;clear hL L
   refine oEn fun L hL=>?_
   simp [C.spec_l1Sizes,h1,h2]
   refine hL _ ?_;clear hL L
   simp [C.spec_l1Sizes,h1,h2]
   refine cast (congrArg K ?_) hJ
   simp [ibne,h1,h2]
 ·refine oSg fun L hL=>?_
  simp [C.spec_l1Sizes,h1]
  refine wcall1 (spec_l1In_c m.n 1 5) (by simp) (by simp) ?_
  simp [C.spec_l1Sizes,h1]
  refine hL _ ?_;clear hL L
  refine oSg fun L hL=>?_
  simp [C.spec_l1Sizes,h1]
  refine hL _ ?_;clear hL L
  refine oEn fun L hL=>?_
  simp [C.spec_l1Sizes,h1]
  refine hL _ ?_;clear hL L
  simp [C.spec_l1Sizes,h1]
  refine cast (congrArg K ?_) hJ
  simp [ibne,h1]
theorem spec_l1Piece_c (m:Mat) (n r s:Nat) (hn:m.n=n) (hr:m.r=r) (hS:ShM m) (hs:s < n):ACalls Tryz.prog F.spec_l1Piece [.ag [.int n,.int r,.d (shI m.d)],.int s] [] true (fun outs res=>outs=[]/\∃ L F,Piece n (bM m) s L F/\res=[.one (.ow 1 L.length (ints (cN L))),.one (.ow 1 F.length (ints (cN F)))]):=by
 have hnr:n<=r:=by have:=hS.2.1;omega
 have hn5:n<=5:=by have:=hS.1;omega
 refine ACalls.of_body (C:=C.spec_l1Piece) (n:=Tryz.f241.ntmps) tabT folT Tryz.func241 rfl (by kernel_rfl) rfl (Nat.le_of_ble_eq_true rfl) (by decide) (by kernel_rfl) (by kernel_rfl) rfl (by simp) (by simp) ?_
 simp only [Tryz.f241]
 refine wseq ?_
 refine wreg fun K hK=>?_
 simp [C.spec_l1Piece]
 refine hK _ ?_;clear hK K
 show AWp _ _ _ _ _
 refine wseq ?_
 refine wreg fun K hK=>?_
 simp [C.spec_l1Piece]
 refine hK _ ?_;clear hK K
 show AWp _ _ _ _ _
 refine wseq ?_
 refine wreg fun K hK=>?_
 simp [C.spec_l1Piece]
 refine hK _ ?_;clear hK K
 show AWp _ _ _ _ _
 refine wseq ?_
 refine wseq ?_
 refine wreg fun K hK=>?_
 simp [C.spec_l1Piece]
 refine hK _ ?_;clear hK K
 show AWp _ _ _ _ _
 refine wblock ?_
 refine wloop (fun x:Nat×List Nat×List Nat=>⟨ofL [(2,.pt (2,0) [] 0),(6,.al (6,0) [] 0 x.2.1.length),(7,.al (7,0) [] 0 x.2.2.length),(8,.int x.1)],ofRO [((2,0),some (.bx [D.int n,D.int r,shI m.d])),((6,0),some (.ow 1 x.2.1.length (ints (cN x.2.1)))),((7,0),some (.ow 1 x.2.2.length (ints (cN x.2.2))))]⟩) (fun x=>x.1<=x.2.1.length/\PJ n (bM m) s x.2.1 x.2.2 x.1 0) (fun x=>n - x.1) (0,[s],[s]) (by simp [C.spec_l1Piece,cN,ints]) ⟨by simp,PJ.start hs⟩ ?_
 intro x1 hx1 R1 hR1
 obtain ⟨a,L,F⟩:=x1
 obtain ⟨ha0,hJ1⟩:=hx1
 dsimp only at ha0 hJ1 ⊢
 have hLn:=nodup_len hJ1.nd hJ1.lt
 refine wseq ?_
 refine wseq ?_
 refine wreg fun K hK=>?_
 simp [C.spec_l1Piece]
 refine hK _ ?_;clear hK K
 show AWp _ _ _ _ _
 refine wcond _ rfl (fun hc1=>?_) (fun hc1=>?_)
 ·have ha:a < L.length:=by have:=d_t hc1;omega
  obtain ⟨i,hi⟩:∃ i,i=L[a]:=⟨_,rfl⟩
  have hia:L[a]? = some i:=by rw [hi];exact List.getElem?_eq_getElem ha
  have hin:i < n:=by rw [hi];exact hJ1.lt _ (List.getElem_mem ha)
  refine wskip ?_
  show AWp _ _ _ _ _
  refine wseq ?_
  refine wblock ?_
  refine wseq ?_
  refine wreg fun K hK=>?_
  simp [C.spec_l1Piece]
  refine hK _ ?_;clear hK K
  show AWp _ _ _ _ _
  refine wblock ?_
  refine wloop (fun x:Nat×List Nat×List Nat=>⟨ofL [(2,.pt (2,0) [] 0),(6,.al (6,0) [] 0 x.2.1.length),(7,.al (7,0) [] 0 x.2.2.length),(8,.int a),(9,.int x.1)],ofRO [((2,0),some (.bx [D.int n,D.int r,shI m.d])),((6,0),some (.ow 1 x.2.1.length (ints (cN x.2.1)))),((7,0),some (.ow 1 x.2.2.length (ints (cN x.2.2))))]⟩) (fun x=>x.1<=n/\x.2.1[a]? = some i/\PJ n (bM m) s x.2.1 x.2.2 a x.1) (fun x=>n - x.1) (0,L,F) (by simp [C.spec_l1Piece]) ⟨by simp,hia,hJ1⟩ ?_
  intro x2 hx2 R2 hR2
  clear hia hi ha hJ1 ha0 hLn hc1
  obtain ⟨j,L,F⟩:=x2
  obtain ⟨hj0,hia,hJ2⟩:=hx2
  dsimp only at hj0 hia hJ2 ⊢
  have hLn:=nodup_len hJ2.nd hJ2.lt
  have hFl:=hJ2.lf
  obtain ⟨ha,hi⟩:=List.getElem?_eq_some_iff.1 hia
  refine wseq ?_
  refine wseq ?_
  refine wreg fun K hK=>?_
  simp [C.spec_l1Piece]
  refine hK _ ?_;clear hK K
  show AWp _ _ _ _ _
  refine wcond _ rfl (fun hc2=>?_) (fun hc2=>?_)
  ·have hj:j < n:=by have:=d_t hc2;omega
   have hat:=spec_l1At_c m n r i j hn hr hS (by omega) hj
   have hhas:=spec_l1Has_c L j (by omega)
   refine wskip ?_
   show AWp _ _ _ _ _
   refine wseq ?_
   refine wblock ?_
   refine wseq ?_
   refine wdrawI [(true,0),(true,1),(true,2),(true,3),(true,4),(true,5),(false,6),(true,7),(true,8),(true,9),(true,10),(false,11),(true,12),(true,13)] ⟨by kernel_rfl,by kernel_rfl⟩ ([0,1,2,3,4,5,6] ++ ([7,8,9,10,11] ++ ([12,13]))) rfl fun K hK=>?_
   have hJ:K ⟨ofL [(2,.pt (2,0) [] 0),(6,.al (6,0) [] 0 L.length),(7,.al (7,0) [] 0 F.length),(8,.int a),(9,.int j),(39,.bool (decide (¬ bM m i j=0/\j ∉ L)))],ofRO [((2,0),some (.bx [D.int n,D.int r,shI m.d])),((6,0),some (.ow 1 L.length (ints (cN L)))),((7,0),some (.ow 1 F.length (ints (cN F))))]⟩:=by
    refine hK _ ?_;clear hK K
    show AWp _ _ _ _ _
    refine wcond _ rfl (fun hc3=>?_) (fun hc3=>?_)
    ·have h3:=d_t hc3
     have hnew:=hJ2.new ha hj (by rw [hi];exact h3.1) h3.2
     rw [hi] at hnew
     have hg6:(cN (L ++ [j]))[a]'(by simp;omega)=(i:Int):=by rw [cN_get (by simp;omega),List.getElem_append_left ha,hi]
     refine wseq ?_
     refine wreg fun K hK=>?_
     simp [C.spec_l1Piece,cN_snoc,show (L.length+1)*8<=140737488355328 by omega]
     refine hK _ ?_;clear hK K
     show AWp _ _ _ _ _
     refine wreg fun K hK=>?_
     simp [C.spec_l1Piece,cN_snoc,get_ints,hg6,show ((a:Int) < (L.length:Int)+1) by omega,show a < L.length+1 by omega,show (F.length+1)*8<=140737488355328 by omega]
     refine hK _ ?_;clear hK K
     show AWp _ _ _ _ _
     refine wreg fun K hK=>?_
     simp [C.spec_l1Piece,wrap_succ (show j < 4611686018427387904 by omega)]
     refine hK _ ?_;clear hK K
     simp [C.spec_l1Piece]
     refine cast (congrArg R2 ?_) (hR2 (j+1,L ++ [j],F ++ [i]) ⟨hj,by dsimp only;rw [List.getElem?_append_left ha];exact hia,hnew⟩ (by dsimp only;omega))
     simp
    ·have h3:=d_f hc3
     have hskip:=hJ2.skip ha (by rw [hi];by_cases q:bM m i j=0;exact .inl q;by_cases q2:j∈L;exact .inr q2;exact absurd ⟨q,q2⟩ h3)
     refine wskip ?_
     show AWp _ _ _ _ _
     refine wreg fun K hK=>?_
     simp [C.spec_l1Piece,wrap_succ (show j < 4611686018427387904 by omega)]
     refine hK _ ?_;clear hK K
     simp [C.spec_l1Piece]
     exact hR2 (j+1,L,F) ⟨hj,hia,hskip⟩ (by dsimp only;omega)
   clear hK
   by_cases h1:bM m i j=0
   ·refine oSg fun L hL=>?_
    simp [C.spec_l1Piece,ha,get_ints,cN_get ha,hi,h1]
    refine wcall1 (hat) (by simp) (by simp) ?_
    simp [C.spec_l1Piece,ha,get_ints,cN_get ha,hi,h1]
    refine hL _ ?_;clear hL L
    refine oSg fun L hL=>?_
    simp [C.spec_l1Piece,ha,get_ints,cN_get ha,hi,h1]
    refine hL _ ?_;clear hL L
    refine oEn fun L hL=>?_
    simp [C.spec_l1Piece,ha,get_ints,cN_get ha,hi,h1]
    refine hL _ ?_;clear hL L
    simp [C.spec_l1Piece,ha,get_ints,cN_get ha,hi,h1]
    refine cast (congrArg K ?_) hJ
    simp [h1]
   ·refine oSg fun L hL=>?_
    simp [C.spec_l1Piece,ha,get_ints,cN_get ha,hi,h1]
    refine wcall1 (hat) (by simp) (by simp) ?_
    simp [C.spec_l1Piece,ha,get_ints,cN_get ha,hi,h1]
    refine hL _ ?_;clear hL L
    refine oSg fun L hL=>?_
    simp [C.spec_l1Piece,ha,get_ints,cN_get ha,hi,h1]
    refine wcall1 (hhas) (by simp) (by simp) ?_
    simp [C.spec_l1Piece,ha,get_ints,cN_get ha,hi,h1]
    refine hL _ ?_;clear hL L
    refine oEn fun L hL=>?_
    simp [C.spec_l1Piece,ha,get_ints,cN_get ha,hi,h1]
    refine hL _ ?_;clear hL L
    simp [C.spec_l1Piece,ha,get_ints,cN_get ha,hi,h1]
    refine cast (congrArg K ?_) hJ
    simp [h1]
  ·have hj:j=n:=by have:=d_f hc2;omega
   refine wexit ?_
   show AWp _ _ _ _ _
   refine wreg fun K hK=>?_
   simp [C.spec_l1Piece,wrap_succ (show a < 4611686018427387904 by omega)]
   refine hK _ ?_;clear hK K
   simp [C.spec_l1Piece]
   refine hR1 (a+1,L,F) ⟨ha,?_⟩ (by dsimp only;omega)
   rw [hj] at hJ2
   exact hJ2.next
 ·have ha:a=L.length:=by have:=d_f hc1;omega
  rw [ha] at hJ1
  refine wexit ?_
  show AWp _ _ _ _ _
  refine wseq ?_
  refine wreg fun K hK=>?_
  simp [C.spec_l1Piece]
  refine hK _ ?_;clear hK K
  show AWp _ _ _ _ _
  refine wret ?_
  simp [C.spec_l1Piece]
  exact ⟨L,F,hJ1.done,⟨rfl,rfl⟩,rfl,rfl⟩
end Go.Proofs.YtbhkonnakkhibaaGreat.Ab
namespace Go.Proofs.YtbhkonnakkhibaaGreat.Ab
open Go
set_option maxRecDepth 10000
set_option maxHeartbeats 2000000
theorem OS.start (n:Nat) (b:Nat->Nat->Int):OS n b [] (List.replicate n 0):=
 ⟨by simp,fun i hi=>by simp [g0,List.getD_eq_getElem?_getD,hi],by simp,by simp,by simp⟩
theorem Piece.dis {n:Nat} {b:Nat->Nat->Int} {s:Nat} {L F old:List Nat} {d:List Int} (h:Piece n b s L F) (hs:∀ i j,i < n->j < n->(b i j=0↔b j i=0)) (hO:OS n b old d) (hso:s ∉ old):∀ k (hk:k < L.length),L[k] ∉ old:=by
 intro k
 induction k using Nat.strongRecOn with
 | _ k ih=>
  intro hk hm
  rcases Nat.eq_zero_or_pos k with rfl | h0
  ·obtain ⟨h1,h2⟩:=h.first
   exact hso (h2 ▸ hm)
  ·obtain ⟨k',h',e1,e2,e3⟩:=h.par k hk h0
   have hj:=h.lt _ (List.getElem_mem h')
   have e4:b L[k] L[k']≠0:=fun q=>e3 ((hs _ _ hj (h.lt _ (List.getElem_mem hk))).2 q)
   exact ih k' e1 h' ((hO.cl _ hm).2 _ hj e4)
theorem pow99 {a:Nat} (h:a<=8):99 ^ a<=99 ^ 8:=Nat.pow_le_pow_right (by omega) h
theorem spec_l1Factors_c (m:Mat) (n r:Nat) (hn:m.n=n) (hr:m.r=r) (hZ:SzM m):ACalls Tryz.prog F.spec_l1Factors [.ag [.int n,.int r,.d (shI m.d)]] [] true (fun outs res=>outs=[]/\((∃ l,MinSol n (bM m) l/\res=[.one (owI l),.one (D.bool true)])\/((∀ d,¬ Sol n (bM m) d)/\res=[.one (.v (.slice none 0 0)),.one (D.bool false)]))):=by
 have hS:=hZ.1
 have hnr:n<=r:=by have:=hS.2.1;omega
 have hn5:1<=n/\n<=5:=by have:=hS.1;omega
 have hnn:m.n.toNat=n:=by omega
 have hs0:∀ i j,i < n->j < n->(bM m i j=0↔bM m j i=0):=fun i j hi hj=>(hZ.2 i j (by omega) (by omega)).2
 have hB:∀ i j,i < n->j < n->(bM m i j).natAbs<=99:=fun i j _ _=>bM_bd hS i j
 refine ACalls.of_body (C:=C.spec_l1Factors) (n:=Tryz.f212.ntmps) tabT folT Tryz.func212 rfl (by kernel_rfl) rfl (Nat.le_of_ble_eq_true rfl) (by decide) (by kernel_rfl) (by kernel_rfl) rfl (by simp) (by simp) ?_
 simp only [Tryz.f212]
 refine wseq ?_
 refine wreg fun K hK=>?_
 simp [C.spec_l1Factors]
 refine hK _ ?_;clear hK K
 show AWp _ _ _ _ _
 refine wseq ?_
 refine wreg fun K hK=>?_
 simp [C.spec_l1Factors,zeros_ints,show (8:Int)*n<=281474976710656 by omega,show (n:Int)<=281474976710656 by omega]
 refine hK _ ?_;clear hK K
 show AWp _ _ _ _ _
 refine wseq ?_
 refine wseq ?_
 refine wreg fun K hK=>?_
 simp [C.spec_l1Factors]
 refine hK _ ?_;clear hK K
 show AWp _ _ _ _ _
 refine wblock ?_
 refine wloop (fun x:Nat×List Int×List Nat=>⟨ofL [(1,.pt (1,0) [] 0),(4,.al (4,0) [] 0 n),(5,.int x.1)],ofRO [((1,0),some (.bx [D.int n,D.int r,shI m.d])),((4,0),some (.ow 1 n (ints x.2.1)))]⟩) (fun x=>x.1<=n/\OS n (bM m) x.2.2 x.2.1/\∀ k,k < x.1->k∈x.2.2) (fun x=>n - x.1) (0,List.replicate n 0,[]) (by simp [C.spec_l1Factors]) ⟨by simp,OS.start n _,by simp⟩ ?_
 intro x1 hx1 R1 hR1
 obtain ⟨i,d,old⟩:=x1
 obtain ⟨hi0,hO,hall⟩:=hx1
 dsimp only at hi0 hO hall ⊢
 have hdl:=hO.lo
 refine wseq ?_
 refine wseq ?_
 refine wreg fun K hK=>?_
 simp [C.spec_l1Factors]
 refine hK _ ?_;clear hK K
 show AWp _ _ _ _ _
 refine wcond _ rfl (fun hc1=>?_) (fun hc1=>?_)
 ·have hi:i < n:=by have:=d_t hc1;omega
  refine wskip ?_
  show AWp _ _ _ _ _
  refine wseq ?_
  refine wblock ?_
  refine wseq ?_
  refine wseq ?_
  refine wreg fun K hK=>?_
  simp [C.spec_l1Factors,hi,hdl,get_ints,g0_get]
  refine hK _ ?_;clear hK K
  show AWp _ _ _ _ _
  refine wcond _ rfl (fun hc2=>?_) (fun hc2=>?_)
  ·have hp:0 < g0 d i:=by simpa using hc2
   refine wexit ?_
   show AWp _ _ _ _ _
   refine wreg fun K hK=>?_
   simp [C.spec_l1Factors,wrap_succ (show i < 4611686018427387904 by omega)]
   refine hK _ ?_;clear hK K
   simp [C.spec_l1Factors]
   refine hR1 (i+1,d,old) ⟨hi,hO,fun k hk=>?_⟩ (by dsimp only;omega)
   by_cases e:k=i
   ·rw [e];exact (hO.zr i hi).1 hp
   ·exact hall k (by dsimp only at hk;omega)
  ·have hp:¬ 0 < g0 d i:=by simpa using hc2
   have hio:i ∉ old:=fun h=>hp ((hO.zr i hi).2 h)
   refine wskip ?_
   show AWp _ _ _ _ _
   refine wseq ?_
   refine wregI ([0,1,2] ++ ([3,4,5,6,7])) rfl fun K hK=>?_
   refine oSg fun L hL=>?_
   simp [C.spec_l1Factors]
   refine wcall (spec_l1Piece_c m n r i hn hr hS hi) (by simp) (by simp) (by simp) ?_
   rintro outs res ⟨rfl,LL,FF,hP,rfl⟩
   simp [C.spec_l1Factors]
   refine hL _ ?_;clear hL L
   refine oEn fun L hL=>?_
   simp [C.spec_l1Factors]
   refine hL _ ?_;clear hL L
   simp [C.spec_l1Factors]
   refine hK _ ?_;clear hK K
   show AWp _ _ _ _ _
   refine wseq ?_
   have hLn:=nodup_len hP.nd hP.lt
   have hFl:=hP.lf
   have hdis:=hP.dis hs0 hO hio
   refine wreg fun K hK=>?_
   simp [C.spec_l1Factors,hi,hdl]
   refine hK _ ?_;clear hK K
   show AWp _ _ _ _ _
   refine wseq ?_
   refine wseq ?_
   refine wreg fun K hK=>?_
   simp [C.spec_l1Factors]
   refine hK _ ?_;clear hK K
   show AWp _ _ _ _ _
   refine wblock ?_
   refine wloop (fun x:Nat=>⟨ofL [(1,.pt (1,0) [] 0),(4,.al (4,0) [] 0 n),(5,.int i),(6,.al (6,0) [] 0 LL.length),(7,.al (7,0) [] 0 FF.length),(8,.int ((x:Int)+1))],ofRO [((1,0),some (.bx [D.int n,D.int r,shI m.d])),((4,0),some (.ow 1 n (ints (d.set i (pM1 (bM m) LL FF x:Nat))))),((6,0),some (.ow 1 LL.length (ints (cN LL)))),((7,0),some (.ow 1 FF.length (ints (cN FF))))]⟩) (fun x=>x < LL.length) (fun x=>n - x) 0 (by simp [C.spec_l1Factors,pM1]) (List.length_pos_of_mem (List.mem_of_getElem? hP.hd)) ?_
   intro x2 hx2 R2 hR2
   refine wseq ?_
   refine wseq ?_
   refine wreg fun K hK=>?_
   simp [C.spec_l1Factors,show ((x2:Int)+1 < LL.length)=(x2+1 < LL.length) by rw [eq_iff_iff];omega]
   refine hK _ ?_;clear hK K
   show AWp _ _ _ _ _
   refine wcond _ rfl (fun hc3=>?_) (fun hc3=>?_)
   ·have hk:x2+1 < LL.length:=by have:=d_t hc3;omega
    obtain ⟨k',h',e1,e2,e3,e4,e5,e6⟩:=hP.q hs0 hk (by omega)
    have hF:FF[x2+1]'(by omega)=LL[k']:=by
     rw [List.getElem?_eq_getElem (by omega)] at e2
     injection e2
    obtain ⟨p1,p2⟩:=hP.pM_bd hs0 hB x2 (by omega)
    obtain ⟨p3,p4⟩:=hP.pM_bd hs0 hB (x2+1) (by omega)
    have hp8:=pow99 (a:=x2) (by omega)
    have hp9:=pow99 (a:=x2+1) (by omega)
    have hki:=hP.lt _ (List.getElem_mem hk)
    have hkj:=hP.lt _ (List.getElem_mem h')
    have hat:=spec_l1At_c m n r LL[x2+1] LL[k'] hn hr hS (by omega) hkj
    have hbb:=hB _ _ hki hkj
    have habs:=spec_l1Abs_c (bM m LL[x2+1] LL[k']) (by omega)
    rw [<-e5] at habs
    have hpm:((pM1 (bM m) LL FF x2:Nat):Int)*((qM (bM m) LL FF (x2+1):Nat):Int)=((pM1 (bM m) LL FF (x2+1):Nat):Int):=by rw [pM1,Int.natCast_mul]
    have hgd:g0 (d.set i (pM1 (bM m) LL FF x2:Nat)) i=(pM1 (bM m) LL FF x2:Nat):=by rw [g0_set _ _ _ _ (by omega),if_pos rfl]
    have hse:(d.set i ((pM1 (bM m) LL FF x2:Nat):Int)).set i ((pM1 (bM m) LL FF (x2+1):Nat):Int)=d.set i ((pM1 (bM m) LL FF (x2+1):Nat):Int):=by rw [List.set_set]
    have ht1:((x2:Int)+1).toNat=x2+1:=by omega
    have hlg:((x2:Int)+1 < LL.length):=by omega
    refine wskip ?_
    show AWp _ _ _ _ _
    refine wseq ?_
    refine wblock ?_
    refine wdrawI [(true,0),(true,1),(true,2),(true,3),(true,4),(true,5),(true,6),(true,7),(true,8),(true,9),(true,10),(true,11),(true,12),(true,13),(true,14),(false,15),(false,16),(true,17),(true,18),(false,19)] ⟨by kernel_rfl,by kernel_rfl⟩ ([0,1,2,3,4,5,6,7,8,9,10,11,12,13,14,15] ++ ([16] ++ ([17,18,19]))) rfl fun K hK=>?_
    refine oSg fun L hL=>?_
    simp [C.spec_l1Factors,hi,hdl,get_ints,g0_get,hgd,hk,hF,ht1,hlg,hFl,cN_get hk,cN_get (show x2+1 < FF.length by omega),show (0<=(x2:Int)+1) by omega,hpm,wrapOk (x:=((pM1 (bM m) LL FF (x2+1):Nat):Int)) (by omega) (by omega),hse]
    refine wcall1 (hat) (by simp) (by simp) ?_
    simp [C.spec_l1Factors,hi,hdl,get_ints,g0_get,hgd,hk,hF,ht1,hlg,hFl,cN_get hk,cN_get (show x2+1 < FF.length by omega),show (0<=(x2:Int)+1) by omega,hpm,wrapOk (x:=((pM1 (bM m) LL FF (x2+1):Nat):Int)) (by omega) (by omega),hse]
    refine hL _ ?_;clear hL L
    refine oSg fun L hL=>?_
    simp [C.spec_l1Factors,hi,hdl,get_ints,g0_get,hgd,hk,hF,ht1,hlg,hFl,cN_get hk,cN_get (show x2+1 < FF.length by omega),show (0<=(x2:Int)+1) by omega,hpm,wrapOk (x:=((pM1 (bM m) LL FF (x2+1):Nat):Int)) (by omega) (by omega),hse]
    refine wcall1 (habs) (by simp) (by simp) ?_
    simp [C.spec_l1Factors,hi,hdl,get_ints,g0_get,hgd,hk,hF,ht1,hlg,hFl,cN_get hk,cN_get (show x2+1 < FF.length by omega),show (0<=(x2:Int)+1) by omega,hpm,wrapOk (x:=((pM1 (bM m) LL FF (x2+1):Nat):Int)) (by omega) (by omega),hse]
    refine hL _ ?_;clear hL L
    refine oEn fun L hL=>?_
    simp [C.spec_l1Factors,hi,hdl,get_ints,g0_get,hgd,hk,hF,ht1,hlg,hFl,cN_get hk,cN_get (show x2+1 < FF.length by omega),show (0<=(x2:Int)+1) by omega,hpm,wrapOk (x:=((pM1 (bM m) LL FF (x2+1):Nat):Int)) (by omega) (by omega),hse]
    refine hL _ ?_;clear hL L
    simp [C.spec_l1Factors,hi,hdl,get_ints,g0_get,hgd,hk,hF,ht1,hlg,hFl,cN_get hk,cN_get (show x2+1 < FF.length by omega),show (0<=(x2:Int)+1) by omega,hpm,wrapOk (x:=((pM1 (bM m) LL FF (x2+1):Nat):Int)) (by omega) (by omega),hse]
    refine hK _ ?_;clear hK K
    show AWp _ _ _ _ _
    refine wreg fun K hK=>?_
    simp [C.spec_l1Factors,wrapOk (x:=(x2:Int)+1+1) (by omega) (by omega)]
    refine hK _ ?_;clear hK K
    simp [C.spec_l1Factors]
    refine cast (congrArg R2 ?_) (hR2 (x2+1) hk (by omega))
    simp [hFl]
   ·have hk:x2+1=LL.length:=by have:=d_f hc3;omega
    have hDJ:=DJ.start (d0:=d) hP hs0 hB hdl
    rw [show LL.length - 1=x2 by omega] at hDJ
    have hgd:g0 (d.set i (pM1 (bM m) LL FF x2:Nat)) i=(pM1 (bM m) LL FF x2:Nat):=by rw [g0_set _ _ _ _ (by omega),if_pos rfl]
    refine wexit ?_
    show AWp _ _ _ _ _
    refine wseq ?_
    refine wreg fun K hK=>?_
    simp [C.spec_l1Factors,hi,hdl,get_ints,g0_get,hgd]
    refine hK _ ?_;clear hK K
    show AWp _ _ _ _ _
    refine wseq ?_
    refine wseq ?_
    refine wreg fun K hK=>?_
    simp [C.spec_l1Factors]
    refine hK _ ?_;clear hK K
    show AWp _ _ _ _ _
    refine wblock ?_
    refine wloop (fun x:Nat×List Int×Int=>⟨ofL [(1,.pt (1,0) [] 0),(4,.al (4,0) [] 0 n),(5,.int i),(6,.al (6,0) [] 0 LL.length),(7,.al (7,0) [] 0 FF.length),(9,.int x.2.2),(10,.int x.1)],ofRO [((1,0),some (.bx [D.int n,D.int r,shI m.d])),((4,0),some (.ow 1 n (ints x.2.1))),((6,0),some (.ow 1 LL.length (ints (cN LL)))),((7,0),some (.ow 1 FF.length (ints (cN FF))))]⟩) (fun x=>(1<=x.1/\x.1<=LL.length)/\DJ n (bM m) i LL FF d x.1 x.2.1 x.2.2) (fun x=>LL.length - x.1) (1,_,_) (by simp [C.spec_l1Factors]) ⟨by dsimp only;omega,hDJ⟩ ?_
    intro x3 hx3 R3 hR3
    clear hDJ hgd hk hc3
    obtain ⟨t,d3,g⟩:=x3
    obtain ⟨ht0,hJ3⟩:=hx3
    dsimp only at ht0 hJ3 ⊢
    have hd3:=hJ3.len
    refine wseq ?_
    refine wseq ?_
    refine wreg fun K hK=>?_
    simp [C.spec_l1Factors]
    refine hK _ ?_;clear hK K
    show AWp _ _ _ _ _
    refine wcond _ rfl (fun hc4=>?_) (fun hc4=>?_)
    ·have ht:t < LL.length:=by have:=d_t hc4;omega
     obtain ⟨t',h',e1,e2,w,w0,w1,w2,w3,w4,w5,w6⟩:=hJ3.step hP hs0 hB ht (by omega)
     have hF:FF[t]'(by omega)=LL[t']:=by
      rw [List.getElem?_eq_getElem (by omega)] at e2
      injection e2
     have hki:=hP.lt _ (List.getElem_mem ht)
     have hkj:=hP.lt _ (List.getElem_mem h')
     have hat1:=spec_l1At_c m n r LL[t'] LL[t] hn hr hS (by omega) hki
     have hat2:=spec_l1At_c m n r LL[t] LL[t'] hn hr hS (by omega) hkj
     have hb1:=hB _ _ hkj hki
     have hb2:=hB _ _ hki hkj
     have habs1:=spec_l1Abs_c (bM m LL[t'] LL[t]) (by omega)
     have habs2:=spec_l1Abs_c (bM m LL[t] LL[t']) (by omega)
     have hp7:99 ^ (LL.length - 1+t')<=99 ^ 7:=Nat.pow_le_pow_right (by omega) (by omega)
     have hmb:(g0 d3 LL[t']*((bM m LL[t'] LL[t]).natAbs:Int)).natAbs<=99 ^ 7*99:=by
      rw [Int.natAbs_mul]
      exact Nat.mul_le_mul (Nat.le_trans w1 hp7) (by omega)
     have hwb:w.natAbs<=(g0 d3 LL[t']*((bM m LL[t'] LL[t]).natAbs:Int)).natAbs:=by
      rw [<-w5,Int.natAbs_tdiv]
      exact Nat.div_le_self _ _
     obtain ⟨hl0,hl1⟩:=hP.first
     have hgb:=hJ3.gp
     have hgs:=(hJ3.pos 0 hl0 (by omega)).2.1
     rw [hl1] at hgs
     have hp8:=pow99 (a:=LL.length - 1+0) (by omega)
     have hcall:=spec_l1Gcd_c g w (by omega) (by omega)
     have hww:IntKind.i64.wrap (g0 d3 LL[t']*((bM m LL[t'] LL[t]).natAbs:Int))=g0 d3 LL[t']*((bM m LL[t'] LL[t]).natAbs:Int):=wrapOk (by omega) (by omega)
     have hwz:((bM m LL[t] LL[t']).natAbs:Int)≠0:=by omega
     have hgw:g0 (d3.set LL[t] w) LL[t]=w:=by rw [g0_set _ _ _ _ (by omega),if_pos rfl]
     generalize hA1:((bM m LL[t'] LL[t]).natAbs:Int)=A1 at *
     generalize hA2:((bM m LL[t] LL[t']).natAbs:Int)=A2 at *
     refine wskip ?_
     show AWp _ _ _ _ _
     refine wseq ?_
     refine wblock ?_
     refine wseq ?_
     refine wdrawI [(true,0),(true,1),(true,2),(true,3),(true,4),(true,5),(true,6),(true,7),(true,8),(true,9),(true,10),(true,11),(true,12),(true,13),(true,14),(true,15),(true,16),(true,17),(true,18),(true,19),(true,20),(true,24),(true,25),(true,26),(true,27),(true,28),(true,29),(true,30),(true,31),(true,32),(false,21),(false,22),(true,23),(false,33),(false,34),(true,35),(true,36),(false,37)] ⟨by kernel_rfl,by kernel_rfl⟩ ([0,1,2,3,4,5,6,7,8,9,10,11,12,13,14,15,16,17,18,19,20,24,25,26,27,28,29,30,31,32,21] ++ ([22] ++ ([23,33] ++ ([34] ++ ([35,36,37]))))) rfl fun K hK=>?_
     refine oSg fun L hL=>?_
     simp [C.spec_l1Factors,ht,get_ints,g0_get,cN_get ht,hd3,cN_get (show t < FF.length by omega),hF,hFl,hkj,hki,hww,hwz,w5,wrapOk (x:=w) (by omega) (by omega)]
     refine wcall1 (hat1) (by simp) (by simp) ?_
     simp [C.spec_l1Factors,ht,get_ints,g0_get,cN_get ht,hd3,cN_get (show t < FF.length by omega),hF,hFl,hkj,hki,hww,hwz,w5,wrapOk (x:=w) (by omega) (by omega)]
     refine hL _ ?_;clear hL L
     refine oSg fun L hL=>?_
     simp [C.spec_l1Factors,ht,get_ints,g0_get,cN_get ht,hd3,cN_get (show t < FF.length by omega),hF,hFl,hkj,hki,hww,hwz,w5,wrapOk (x:=w) (by omega) (by omega)]
     refine wcall1 (habs1) (by simp) (by simp) ?_
     simp [C.spec_l1Factors,ht,get_ints,g0_get,cN_get ht,hd3,cN_get (show t < FF.length by omega),hF,hFl,hkj,hki,hww,hwz,w5,wrapOk (x:=w) (by omega) (by omega)]
     refine hL _ ?_;clear hL L
     refine oSg fun L hL=>?_
     simp [C.spec_l1Factors,ht,get_ints,g0_get,cN_get ht,hd3,cN_get (show t < FF.length by omega),hF,hFl,hkj,hki,hww,hwz,w5,wrapOk (x:=w) (by omega) (by omega)]
     refine wcall1 (hat2) (by simp) (by simp) ?_
     simp [C.spec_l1Factors,ht,get_ints,g0_get,cN_get ht,hd3,cN_get (show t < FF.length by omega),hF,hFl,hkj,hki,hww,hwz,w5,wrapOk (x:=w) (by omega) (by omega)]
     refine hL _ ?_;clear hL L
     refine oSg fun L hL=>?_
     simp [C.spec_l1Factors,ht,get_ints,g0_get,cN_get ht,hd3,cN_get (show t < FF.length by omega),hF,hFl,hkj,hki,hww,hwz,w5,wrapOk (x:=w) (by omega) (by omega)]
     refine wcall1 (habs2) (by simp) (by simp) ?_
     simp [C.spec_l1Factors,ht,get_ints,g0_get,cN_get ht,hd3,cN_get (show t < FF.length by omega),hF,hFl,hkj,hki,hww,hwz,w5,wrapOk (x:=w) (by omega) (by omega)]
     refine hL _ ?_;clear hL L
     refine oEn fun L hL=>?_
     simp [C.spec_l1Factors,ht,get_ints,g0_get,cN_get ht,hd3,cN_get (show t < FF.length by omega),hF,hFl,hkj,hki,hww,hwz,w5,wrapOk (x:=w) (by omega) (by omega)]
     refine hL _ ?_;clear hL L
     simp [C.spec_l1Factors,ht,get_ints,g0_get,cN_get ht,hd3,cN_get (show t < FF.length by omega),hF,hFl,hkj,hki,hww,hwz,w5,wrapOk (x:=w) (by omega) (by omega)]
     refine hK _ ?_;clear hK K
     show AWp _ _ _ _ _
     refine wregI ([0,1,2,3,4,5,6,7,8] ++ ([9])) rfl fun K hK=>?_
     refine oSg fun L hL=>?_
     simp [C.spec_l1Factors,ht,get_ints,g0_get,cN_get ht,hd3,hki,hgw]
     refine wcall1 (hcall) (by simp) (by simp) ?_
     simp [C.spec_l1Factors,ht,get_ints,g0_get,cN_get ht,hd3,hki,hgw]
     refine hL _ ?_;clear hL L
     refine oEn fun L hL=>?_
     simp [C.spec_l1Factors,ht,get_ints,g0_get,cN_get ht,hd3,hki,hgw]
     refine hL _ ?_;clear hL L
     simp [C.spec_l1Factors,ht,get_ints,g0_get,cN_get ht,hd3,hki,hgw]
     refine hK _ ?_;clear hK K
     show AWp _ _ _ _ _
     refine wreg fun K hK=>?_
     simp [C.spec_l1Factors,wrap_succ (show t < 4611686018427387904 by omega)]
     refine hK _ ?_;clear hK K
     simp [C.spec_l1Factors]
     refine cast (congrArg R3 ?_) (hR3 (t+1,d3.set LL[t] w,_) ⟨by dsimp only;omega,w6⟩ (by dsimp only;omega))
     simp [hFl]
    ·have ht:t=LL.length:=by have:=d_f hc4;omega
     rw [ht] at hJ3
     have hgp:=hJ3.gp.1
     refine wexit ?_
     show AWp _ _ _ _ _
     refine wseq ?_
     refine wreg fun K hK=>?_
     simp [C.spec_l1Factors]
     refine hK _ ?_;clear hK K
     show AWp _ _ _ _ _
     refine wblock ?_
     refine wloop (fun x:Nat×List Int=>⟨ofL [(1,.pt (1,0) [] 0),(4,.al (4,0) [] 0 n),(5,.int i),(6,.al (6,0) [] 0 LL.length),(9,.int g),(11,.int x.1)],ofRO [((1,0),some (.bx [D.int n,D.int r,shI m.d])),((4,0),some (.ow 1 n (ints x.2))),((6,0),some (.ow 1 LL.length (ints (cN LL))))]⟩) (fun x=>x.1<=LL.length/\EJ g LL d3 x.1 x.2) (fun x=>LL.length - x.1) (0,d3) (by simp [C.spec_l1Factors]) ⟨by simp,EJ.start g LL d3⟩ ?_
     intro x4 hx4 R4 hR4
     obtain ⟨t,d4⟩:=x4
     obtain ⟨ht0',hE⟩:=hx4
     dsimp only at ht0' hE ⊢
     have hd4:=hE.len
     refine wseq ?_
     refine wseq ?_
     refine wreg fun K hK=>?_
     simp [C.spec_l1Factors]
     refine hK _ ?_;clear hK K
     show AWp _ _ _ _ _
     refine wcond _ rfl (fun hc5=>?_) (fun hc5=>?_)
     ·have ht:t < LL.length:=by have:=d_t hc5;omega
      have hki:=hP.lt _ (List.getElem_mem ht)
      obtain ⟨hv1,hv2⟩:=hE.step hP.nd ht (by omega)
      have hp8:=pow99 (a:=LL.length - 1+t) (by omega)
      have hpb:=(hJ3.pos t ht ht).2.1
      have hwd:IntKind.i64.wrap ((g0 d3 LL[t]).tdiv g)=(g0 d3 LL[t]).tdiv g:=by
       have h1:((g0 d3 LL[t]).tdiv g).natAbs<=(g0 d3 LL[t]).natAbs:=by
        rw [Int.natAbs_tdiv]
        exact Nat.div_le_self _ _
       exact wrapOk (by omega) (by omega)
      refine wskip ?_
      show AWp _ _ _ _ _
      refine wseq ?_
      refine wblock ?_
      refine wdrawI [(true,0),(true,1),(true,2),(true,3),(true,4),(true,5),(true,6),(true,7),(true,8),(true,9),(true,10),(true,11),(true,12),(true,13),(true,14),(false,15)] ⟨by kernel_rfl,by kernel_rfl⟩ ([0,1,2,3,4,5,6,7,8,9,10,11,12,13,14,15]) rfl fun K hK=>?_
      refine oEn fun L hL=>?_
      simp [C.spec_l1Factors,ht,get_ints,g0_get,cN_get ht,hd4,hd3,hki,hv1,show g≠0 by omega,hwd]
      refine hL _ ?_;clear hL L
      simp [C.spec_l1Factors,ht,get_ints,g0_get,cN_get ht,hd4,hd3,hki,hv1,show g≠0 by omega,hwd]
      refine hK _ ?_;clear hK K
      show AWp _ _ _ _ _
      refine wreg fun K hK=>?_
      simp [C.spec_l1Factors,wrap_succ (show t < 4611686018427387904 by omega)]
      refine hK _ ?_;clear hK K
      simp [C.spec_l1Factors]
      exact hR4 (t+1,_) ⟨ht,hv2⟩ (by dsimp only;omega)
     ·have ht:t=LL.length:=by have:=d_f hc5;omega
      rw [ht] at hE
      have hgrow:=hO.grow hP hn5.2 (fun k hk=>by
       obtain ⟨z,hz,rfl⟩:=List.getElem_of_mem hk
       exact hdis z hz) hJ3 hE
      refine wexit ?_
      show AWp _ _ _ _ _
      refine wreg fun K hK=>?_
      simp [C.spec_l1Factors,wrap_succ (show i < 4611686018427387904 by omega)]
      refine hK _ ?_;clear hK K
      simp [C.spec_l1Factors]
      refine hR1 (i+1,d4,old ++ LL) ⟨hi,hgrow,fun k hk=>?_⟩ (by dsimp only;omega)
      dsimp only at hk ⊢
      rw [List.mem_append]
      by_cases e:k=i
      ·right
       rw [e]
       exact List.mem_of_getElem? hP.hd
      ·exact .inl (hall k (by omega))
 ·have hin:i=n:=by have:=d_f hc1;omega
  subst hin
  refine wexit ?_
  show AWp _ _ _ _ _
  refine wseq ?_
  refine wseq ?_
  refine wreg fun K hK=>?_
  simp [C.spec_l1Factors]
  refine hK _ ?_;clear hK K
  show AWp _ _ _ _ _
  refine wblock ?_
  refine wloop (fun x:Nat=>⟨ofL [(1,.pt (1,0) [] 0),(4,.al (4,0) [] 0 i),(12,.int x)],ofRO [((1,0),some (.bx [D.int i,D.int r,shI m.d])),((4,0),some (.ow 1 i (ints d)))]⟩) (fun x=>x<=i/\∀ a b,a < x->b < i->g0 d a*bM m a b=-(g0 d b*bM m b a)) (fun x=>i - x) 0 (by simp [C.spec_l1Factors]) (by simp) ?_
  intro x5 hx5 R5 hR5
  obtain ⟨ha0,hA⟩:=hx5
  refine wseq ?_
  refine wseq ?_
  refine wreg fun K hK=>?_
  simp [C.spec_l1Factors]
  refine hK _ ?_;clear hK K
  show AWp _ _ _ _ _
  refine wcond _ rfl (fun hc6=>?_) (fun hc6=>?_)
  ·have ha:x5 < i:=by have:=d_t hc6;omega
   refine wskip ?_
   show AWp _ _ _ _ _
   refine wseq ?_
   refine wblock ?_
   refine wseq ?_
   refine wreg fun K hK=>?_
   simp [C.spec_l1Factors]
   refine hK _ ?_;clear hK K
   show AWp _ _ _ _ _
   refine wblock ?_
   refine wloop (fun x:Nat=>⟨ofL [(1,.pt (1,0) [] 0),(4,.al (4,0) [] 0 i),(12,.int x5),(13,.int x)],ofRO [((1,0),some (.bx [D.int i,D.int r,shI m.d])),((4,0),some (.ow 1 i (ints d)))]⟩) (fun x=>x<=i/\∀ b,b < x->g0 d x5*bM m x5 b=-(g0 d b*bM m b x5)) (fun x=>i - x) 0 (by simp [C.spec_l1Factors]) (by simp) ?_
   intro x6 hx6 R6 hR6
   obtain ⟨hb0,hBb⟩:=hx6
   refine wseq ?_
   refine wseq ?_
   refine wreg fun K hK=>?_
   simp [C.spec_l1Factors]
   refine hK _ ?_;clear hK K
   show AWp _ _ _ _ _
   refine wcond _ rfl (fun hc7=>?_) (fun hc7=>?_)
   ·have hb:x6 < i:=by have:=d_t hc7;omega
    have hat1:=spec_l1At_c m i r x5 x6 hn hr hS (by omega) hb
    have hat2:=spec_l1At_c m i r x6 x5 hn hr hS (by omega) ha
    have q1:=hO.bd x5 (hall x5 ha)
    have q2:=hO.bd x6 (hall x6 hb)
    have b1:=hB x5 x6 ha hb
    have b2:=hB x6 x5 hb ha
    have m1:(g0 d x5*bM m x5 x6).natAbs<=99 ^ 8*99:=by rw [Int.natAbs_mul];exact Nat.mul_le_mul q1 b1
    have m2:(g0 d x6*bM m x6 x5).natAbs<=99 ^ 8*99:=by rw [Int.natAbs_mul];exact Nat.mul_le_mul q2 b2
    refine wskip ?_
    show AWp _ _ _ _ _
    refine wseq ?_
    refine wblock ?_
    refine wseq ?_
    refine wdrawI [(true,0),(true,1),(true,2),(true,3),(true,4),(true,5),(true,6),(true,9),(true,10),(true,11),(true,12),(true,13),(true,14),(true,15),(false,7),(true,8),(false,16),(true,17),(true,18),(true,19)] ⟨by kernel_rfl,by kernel_rfl⟩ ([0,1,2,3,4,5,6,9,10,11,12,13,14,15,7] ++ ([8,16] ++ ([17,18,19]))) rfl fun K hK=>?_
    refine oSg fun L hL=>?_
    simp [C.spec_l1Factors,ha,hb,hdl,get_ints,g0_get,wrapOk (x:=g0 d x5*bM m x5 x6) (by omega) (by omega),wrapOk (x:=g0 d x6*bM m x6 x5) (by omega) (by omega),wrapOk (x:=-(g0 d x6*bM m x6 x5)) (by omega) (by omega)]
    refine wcall1 (hat1) (by simp) (by simp) ?_
    simp [C.spec_l1Factors,ha,hb,hdl,get_ints,g0_get,wrapOk (x:=g0 d x5*bM m x5 x6) (by omega) (by omega),wrapOk (x:=g0 d x6*bM m x6 x5) (by omega) (by omega),wrapOk (x:=-(g0 d x6*bM m x6 x5)) (by omega) (by omega)]
    refine hL _ ?_;clear hL L
    refine oSg fun L hL=>?_
    simp [C.spec_l1Factors,ha,hb,hdl,get_ints,g0_get,wrapOk (x:=g0 d x5*bM m x5 x6) (by omega) (by omega),wrapOk (x:=g0 d x6*bM m x6 x5) (by omega) (by omega),wrapOk (x:=-(g0 d x6*bM m x6 x5)) (by omega) (by omega)]
    refine wcall1 (hat2) (by simp) (by simp) ?_
    simp [C.spec_l1Factors,ha,hb,hdl,get_ints,g0_get,wrapOk (x:=g0 d x5*bM m x5 x6) (by omega) (by omega),wrapOk (x:=g0 d x6*bM m x6 x5) (by omega) (by omega),wrapOk (x:=-(g0 d x6*bM m x6 x5)) (by omega) (by omega)]
    refine hL _ ?_;clear hL L
    refine oEn fun L hL=>?_
    simp [C.spec_l1Factors,ha,hb,hdl,get_ints,g0_get,wrapOk (x:=g0 d x5*bM m x5 x6) (by omega) (by omega),wrapOk (x:=g0 d x6*bM m x6 x5) (by omega) (by omega),wrapOk (x:=-(g0 d x6*bM m x6 x5)) (by omega) (by omega)]
    refine hL _ ?_;clear hL L
    simp [C.spec_l1Factors,ha,hb,hdl,get_ints,g0_get,wrapOk (x:=g0 d x5*bM m x5 x6) (by omega) (by omega),wrapOk (x:=g0 d x6*bM m x6 x5) (by omega) (by omega),wrapOk (x:=-(g0 d x6*bM m x6 x5)) (by omega) (by omega)]
    refine hK _ ?_;clear hK K
    show AWp _ _ _ _ _
    refine wcond _ rfl (fun hc8=>?_) (fun hc8=>?_)
    ·have hne:¬ g0 d x5*bM m x5 x6=-(g0 d x6*bM m x6 x5):=by simpa using hc8
     refine wseq ?_
     refine wreg fun K hK=>?_
     simp [C.spec_l1Factors]
     refine hK _ ?_;clear hK K
     show AWp _ _ _ _ _
     refine wret ?_
     simp [C.spec_l1Factors]
     exact fun e he=>hne (hO.rel he (hall x5 ha) hb hs0)
    ·have heq:g0 d x5*bM m x5 x6=-(g0 d x6*bM m x6 x5):=by simpa using hc8
     refine wskip ?_
     show AWp _ _ _ _ _
     refine wreg fun K hK=>?_
     simp [C.spec_l1Factors,wrap_succ (show x6 < 4611686018427387904 by omega)]
     refine hK _ ?_;clear hK K
     simp [C.spec_l1Factors]
     refine hR6 (x6+1) ⟨hb,fun b hbx=>?_⟩ (by omega)
     by_cases e:b=x6
     ·rw [e];exact heq
     ·exact hBb b (by omega)
   ·have hb:x6=i:=by have:=d_f hc7;omega
    refine wexit ?_
    show AWp _ _ _ _ _
    refine wreg fun K hK=>?_
    simp [C.spec_l1Factors,wrap_succ (show x5 < 4611686018427387904 by omega)]
    refine hK _ ?_;clear hK K
    simp [C.spec_l1Factors]
    refine hR5 (x5+1) ⟨ha,fun a b hax hbi=>?_⟩ (by omega)
    by_cases e:a=x5
    ·rw [e];exact hBb b (by omega)
    ·exact hA a b (by omega) hbi
  ·have ha:x5=i:=by have:=d_f hc6;omega
   have hmin:=hO.min hall (fun a b h1 h2=>hA a b (by omega) h2)
   refine wexit ?_
   show AWp _ _ _ _ _
   refine wseq ?_
   refine wreg fun K hK=>?_
   simp [C.spec_l1Factors]
   refine hK _ ?_;clear hK K
   show AWp _ _ _ _ _
   refine wret ?_
   simp [C.spec_l1Factors]
   exact ⟨d,hmin,hdl.symm,rfl⟩
end Go.Proofs.YtbhkonnakkhibaaGreat.Ab
