/- The reference's factors of a matrix. Matrices that are right, mutation of a matrix, by the reference. Division of sums by their greatest terms, over any keys: what it finds, what it keeps, and that it does not matter which of two tests it makes. Division of sums in variables: two ways to test whether to go on lead to the same. What a division keeps from step to step. Greatest exponents, sums of coded terms, division: the reference's side. Printed by wip/tools/lay.py: the contracts of slices.SortFunc laid at this seat. The end of a building, over a sort. The sort of terms by their exponents, greatest first, at this program. The program's sums: all contracts without a premise left. The program's sums of sums. The reference's sums of sums. Division by maps: the greatest key, and what a step does. Division: both sides. Division of the program's sums. Division: the law over both sides. Seeds that are right; what mutation of a seed is; the program's side. The exchange at a seed and mutation of a seed, by the program. Mutation of a seed along a list, by the program. Division finds the factor of a product again, over any keys. Laurent sums: what was multiplied is found again by division; what is divided is multiplied again. Sums as linear maps: what a function on keys makes of a sum. Values of Laurent sums modulo a prime: they go with sums and products. Drawing: the cursor, numbers, exponents, sums. Drawing sums: what is drawn is right and small. Three drawn sums; what the laws compare. What was multiplied is found again by division: the law. Drawn sums are a ring; values go with sums and products. A seed that is mutated twice at one place. Principal matrices along steps; what the polynomials are. Principal matrices and their walks, on both sides. Lists of lists of numbers as trees. Lists of lists of numbers: their size, copies, what is equal, marks. Quantum sums as trees. Quantum sums: their size, copies, what is equal, marks. Quantum sums: the order of terms, which sums are right. Quantum sums: which are right, for the reference and for the program. Skew forms: which are right; what a form makes of two lists of exponents. What a form makes of two lists of exponents; what fits a form. Sums of numbers. Forms that belong to matrices: how both mutate. Forms as lists; forms along steps. The first form of a matrix. Mutation of seeds, by the reference. Mutation of a seed and along a list, by the reference. The first form of a matrix, spec; the next form. The next form. No condition. -/
import Derived.Test.YtfcgcgmleogamaaKFmc
import Derived.Shelf.SlLaysF0
import Derived.Test.YtfcgcgmleogamaaProg
import Derived.Shelf.SlSortCmp.NoneTotal
set_option linter.unusedVariables false
set_option linter.unusedSimpArgs false
set_option linter.unusedSectionVars false
namespace Go.Proofs.Ytfcgcgmleogamaa.Ab
open Go
set_option maxRecDepth 10000
set_option maxHeartbeats 2000000
theorem OS.start (n:Nat) (b:Nat->Nat->Int):OS n b [] (List.replicate n 0):=
 ⟨by simp,fun i hi=>by simp [g0,List.getD_eq_getElem?_getD,hi],by simp,by simp,by simp⟩
theorem Piece.dis {n:Nat} {b:Nat->Nat->Int} {s:Nat} {L F old:List Nat} {d:List Int} (h:Piece n b s L F) (hs:∀ i j,i < n->j < n->(b i j=0↔b j i=0)) (hO:OS n b old d) (hso:s ∉ old):∀ k (hk:k < L.length),L[k] ∉ old:=by
 intro k
 induction k using Nat.strongRecOn with
 | _ k ih=>
  intro hk hm
  rcases Nat.eq_zero_or_pos k with rfl | h0
  ·obtain ⟨h1,h2⟩:=h.first
   exact hso (h2 ▸ hm)
  ·obtain ⟨k',h',e1,e2,e3⟩:=h.par k hk h0
   have hj:=h.lt _ (List.getElem_mem h')
   have e4:b L[k] L[k']≠0:=fun q=>e3 ((hs _ _ hj (h.lt _ (List.getElem_mem hk))).2 q)
   exact ih k' e1 h' ((hO.cl _ hm).2 _ hj e4)
theorem pow99 {a:Nat} (h:a<=8):99 ^ a<=99 ^ 8:=Nat.pow_le_pow_right (by omega) h
theorem spec_l1Factors_c (m:Mat) (n r:Nat) (hn:m.n=n) (hr:m.r=r) (hZ:SzM m):ACalls Try.prog F.spec_l1Factors [.ag [.int n,.int r,.d (shI m.d)]] [] true (fun outs res=>outs=[]/\((∃ l,MinSol n (bM m) l/\res=[.one (owI l),.one (D.bool true)])\/((∀ d,¬ Sol n (bM m) d)/\res=[.one (.v (.slice none 0 0)),.one (D.bool false)]))):=by
 have hS:=hZ.1
 have hnr:n<=r:=by have:=hS.2.1;omega
 have hn5:1<=n/\n<=5:=by have:=hS.1;omega
 have hnn:m.n.toNat=n:=by omega
 have hs0:∀ i j,i < n->j < n->(bM m i j=0↔bM m j i=0):=fun i j hi hj=>(hZ.2 i j (by omega) (by omega)).2
 have hB:∀ i j,i < n->j < n->(bM m i j).natAbs<=99:=fun i j _ _=>bM_bd hS i j
 refine ACalls.of_body (C:=C.spec_l1Factors) (n:=Try.f120.ntmps) tabT folT Try.func120 rfl (by kernel_rfl) rfl (Nat.le_of_ble_eq_true rfl) (by decide) (by kernel_rfl) (by kernel_rfl) rfl (by simp) (by simp) ?_
 simp only [Try.f120]
 refine wseq ?_
 refine wreg fun K hK=>?_
 simp [C.spec_l1Factors]
 refine hK _ ?_;clear hK K
 show AWp _ _ _ _ _
 refine wseq ?_
 refine wreg fun K hK=>?_
 simp [C.spec_l1Factors,zeros_ints,show (8:Int)*n<=281474976710656 by omega,show (n:Int)<=281474976710656 by omega]
 refine hK _ ?_;clear hK K
 show AWp _ _ _ _ _
 refine wseq ?_
 refine wseq ?_
 refine wreg fun K hK=>?_
 simp [C.spec_l1Factors]
 refine hK _ ?_;clear hK K
 show AWp _ _ _ _ _
 refine wblock ?_
 refine wloop (fun x:Nat×List Int×List Nat=>⟨ofL [(1,.pt (1,0) [] 0),(4,.al (4,0) [] 0 n),(5,.int x.1)],ofRO [((1,0),some (.bx [D.int n,D.int r,shI m.d])),((4,0),some (.ow 1 n (ints x.2.1)))]⟩) (fun x=>x.1<=n/\OS n (bM m) x.2.2 x.2.1/\∀ k,k < x.1->k∈x.2.2) (fun x=>n - x.1) (0,List.replicate n 0,[]) (by simp [C.spec_l1Factors]) ⟨by simp,OS.start n _,by simp⟩ ?_
 intro x1 hx1 R1 hR1
 obtain ⟨i,d,old⟩:=x1
 obtain ⟨hi0,hO,hall⟩:=hx1
 dsimp only at hi0 hO hall ⊢
 have hdl:=hO.lo
 refine wseq ?_
 refine wseq ?_
 refine wreg fun K hK=>?_
 simp [C.spec_l1Factors]
 refine hK _ ?_;clear hK K
 show AWp _ _ _ _ _
 refine wcond _ rfl (fun hc1=>?_) (fun hc1=>?_)
 ·have hi:i < n:=by have:=d_t hc1;omega
  refine wskip ?_
  show AWp _ _ _ _ _
  refine wseq ?_
  refine wblock ?_
  refine wseq ?_
  refine wseq ?_
  refine wreg fun K hK=>?_
  simp [C.spec_l1Factors,hi,hdl,get_ints,g0_get]
  refine hK _ ?_;clear hK K
  show AWp _ _ _ _ _
  refine wcond _ rfl (fun hc2=>?_) (fun hc2=>?_)
  ·have hp:0 < g0 d i:=by simpa using hc2
   refine wexit ?_
   show AWp _ _ _ _ _
   refine wreg fun K hK=>?_
   simp [C.spec_l1Factors,wrap_succ (show i < 4611686018427387904 by omega)]
   refine hK _ ?_;clear hK K
   simp [C.spec_l1Factors]
   refine hR1 (i+1,d,old) ⟨hi,hO,fun k hk=>?_⟩ (by dsimp only;omega)
   by_cases e:k=i
   ·rw [e];exact (hO.zr i hi).1 hp
   ·exact hall k (by dsimp only at hk;omega)
  ·have hp:¬ 0 < g0 d i:=by simpa using hc2
   have hio:i ∉ old:=fun h=>hp ((hO.zr i hi).2 h)
   refine wskip ?_
   show AWp _ _ _ _ _
   refine wseq ?_
   refine wregI ([0,1,2] ++ ([3,4,5,6,7])) rfl fun K hK=>?_
   refine oSg fun L hL=>?_
   simp [C.spec_l1Factors]
   refine wcall (spec_l1Piece_c m n r i hn hr hS hi) (by simp) (by simp) (by simp) ?_
   rintro outs res ⟨rfl,LL,FF,hP,rfl⟩
   simp [C.spec_l1Factors]
   refine hL _ ?_;clear hL L
   refine oEn fun L hL=>?_
   simp [C.spec_l1Factors]
   refine hL _ ?_;clear hL L
   simp [C.spec_l1Factors]
   refine hK _ ?_;clear hK K
   show AWp _ _ _ _ _
   refine wseq ?_
   have hLn:=nodup_len hP.nd hP.lt
   have hFl:=hP.lf
   have hdis:=hP.dis hs0 hO hio
   refine wreg fun K hK=>?_
   simp [C.spec_l1Factors,hi,hdl]
   refine hK _ ?_;clear hK K
   show AWp _ _ _ _ _
   refine wseq ?_
   refine wseq ?_
   refine wreg fun K hK=>?_
   simp [C.spec_l1Factors]
   refine hK _ ?_;clear hK K
   show AWp _ _ _ _ _
   refine wblock ?_
   refine wloop (fun x:Nat=>⟨ofL [(1,.pt (1,0) [] 0),(4,.al (4,0) [] 0 n),(5,.int i),(6,.al (6,0) [] 0 LL.length),(7,.al (7,0) [] 0 FF.length),(8,.int ((x:Int)+1))],ofRO [((1,0),some (.bx [D.int n,D.int r,shI m.d])),((4,0),some (.ow 1 n (ints (d.set i (pM1 (bM m) LL FF x:Nat))))),((6,0),some (.ow 1 LL.length (ints (cN LL)))),((7,0),some (.ow 1 FF.length (ints (cN FF))))]⟩) (fun x=>x < LL.length) (fun x=>n - x) 0 (by simp [C.spec_l1Factors,pM1]) (List.length_pos_of_mem (List.mem_of_getElem? hP.hd)) ?_
   intro x2 hx2 R2 hR2
   refine wseq ?_
   refine wseq ?_
   refine wreg fun K hK=>?_
   simp [C.spec_l1Factors,show ((x2:Int)+1 < LL.length)=(x2+1 < LL.length) by rw [eq_iff_iff];omega]
   refine hK _ ?_;clear hK K
   show AWp _ _ _ _ _
   refine wcond _ rfl (fun hc3=>?_) (fun hc3=>?_)
   ·have hk:x2+1 < LL.length:=by have:=d_t hc3;omega
    obtain ⟨k',h',e1,e2,e3,e4,e5,e6⟩:=hP.q hs0 hk (by omega)
    have hF:FF[x2+1]'(by omega)=LL[k']:=by
     rw [List.getElem?_eq_getElem (by omega)] at e2
     injection e2
    obtain ⟨p1,p2⟩:=hP.pM_bd hs0 hB x2 (by omega)
    obtain ⟨p3,p4⟩:=hP.pM_bd hs0 hB (x2+1) (by omega)
    have hp8:=pow99 (a:=x2) (by omega)
    have hp9:=pow99 (a:=x2+1) (by omega)
    have hki:=hP.lt _ (List.getElem_mem hk)
    have hkj:=hP.lt _ (List.getElem_mem h')
    have hat:=spec_l1At_c m n r LL[x2+1] LL[k'] hn hr hS (by omega) hkj
    have hbb:=hB _ _ hki hkj
    have habs:=spec_l1Abs_c (bM m LL[x2+1] LL[k']) (by omega)
    rw [<-e5] at habs
    have hpm:((pM1 (bM m) LL FF x2:Nat):Int)*((qM (bM m) LL FF (x2+1):Nat):Int)=((pM1 (bM m) LL FF (x2+1):Nat):Int):=by rw [pM1,Int.natCast_mul]
    have hgd:g0 (d.set i (pM1 (bM m) LL FF x2:Nat)) i=(pM1 (bM m) LL FF x2:Nat):=by rw [g0_set _ _ _ _ (by omega),if_pos rfl]
    have hse:(d.set i ((pM1 (bM m) LL FF x2:Nat):Int)).set i ((pM1 (bM m) LL FF (x2+1):Nat):Int)=d.set i ((pM1 (bM m) LL FF (x2+1):Nat):Int):=by rw [List.set_set]
    have ht1:((x2:Int)+1).toNat=x2+1:=by omega
    have hlg:((x2:Int)+1 < LL.length):=by omega
    refine wskip ?_
    show AWp _ _ _ _ _
    refine wseq ?_
    refine wblock ?_
    refine wdrawI [(true,0),(true,1),(true,2),(true,3),(true,4),(true,5),(true,6),(true,7),(true,8),(true,9),(true,10),(true,11),(true,12),(true,13),(true,14),(false,15),(false,16),(true,17),(true,18),(false,19)] ⟨by kernel_rfl,by kernel_rfl⟩ ([0,1,2,3,4,5,6,7,8,9,10,11,12,13,14,15] ++ ([16] ++ ([17,18,19]))) rfl fun K hK=>?_
    refine oSg fun L hL=>?_
    simp [C.spec_l1Factors,hi,hdl,get_ints,g0_get,hgd,hk,hF,ht1,hlg,hFl,cN_get hk,cN_get (show x2+1 < FF.length by omega),show (0<=(x2:Int)+1) by omega,hpm,wrapOk (x:=((pM1 (bM m) LL FF (x2+1):Nat):Int)) (by omega) (by omega),hse]
    refine wcall1 (hat) (by simp) (by simp) ?_
    simp [C.spec_l1Factors,hi,hdl,get_ints,g0_get,hgd,hk,hF,ht1,hlg,hFl,cN_get hk,cN_get (show x2+1 < FF.length by omega),show (0<=(x2:Int)+1) by omega,hpm,wrapOk (x:=((pM1 (bM m) LL FF (x2+1):Nat):Int)) (by omega) (by omega),hse]
    refine hL _ ?_;clear hL L
    refine oSg fun L hL=>?_
    simp [C.spec_l1Factors,hi,hdl,get_ints,g0_get,hgd,hk,hF,ht1,hlg,hFl,cN_get hk,cN_get (show x2+1 < FF.length by omega),show (0<=(x2:Int)+1) by omega,hpm,wrapOk (x:=((pM1 (bM m) LL FF (x2+1):Nat):Int)) (by omega) (by omega),hse]
    refine wcall1 (habs) (by simp) (by simp) ?_
    simp [C.spec_l1Factors,hi,hdl,get_ints,g0_get,hgd,hk,hF,ht1,hlg,hFl,cN_get hk,cN_get (show x2+1 < FF.length by omega),show (0<=(x2:Int)+1) by omega,hpm,wrapOk (x:=((pM1 (bM m) LL FF (x2+1):Nat):Int)) (by omega) (by omega),hse]
    refine hL _ ?_;clear hL L
    refine oEn fun L hL=>?_
    simp [C.spec_l1Factors,hi,hdl,get_ints,g0_get,hgd,hk,hF,ht1,hlg,hFl,cN_get hk,cN_get (show x2+1 < FF.length by omega),show (0<=(x2:Int)+1) by omega,hpm,wrapOk (x:=((pM1 (bM m) LL FF (x2+1):Nat):Int)) (by omega) (by omega),hse]
    refine hL _ ?_;clear hL L
    simp [C.spec_l1Factors,hi,hdl,get_ints,g0_get,hgd,hk,hF,ht1,hlg,hFl,cN_get hk,cN_get (show x2+1 < FF.length by omega),show (0<=(x2:Int)+1) by omega,hpm,wrapOk (x:=((pM1 (bM m) LL FF (x2+1):Nat):Int)) (by omega) (by omega),hse]
    refine hK _ ?_;clear hK K
    show AWp _ _ _ _ _
    refine wreg fun K hK=>?_
    simp [C.spec_l1Factors,wrapOk (x:=(x2:Int)+1+1) (by omega) (by omega)]
    refine hK _ ?_;clear hK K
    simp [C.spec_l1Factors]
    refine cast (congrArg R2 ?_) (hR2 (x2+1) hk (by omega))
    simp [hFl]
   ·have hk:x2+1=LL.length:=by have:=d_f hc3;omega
    have hDJ:=DJ.start (d0:=d) hP hs0 hB hdl
    rw [show LL.length - 1=x2 by omega] at hDJ
    have hgd:g0 (d.set i (pM1 (bM m) LL FF x2:Nat)) i=(pM1 (bM m) LL FF x2:Nat):=by rw [g0_set _ _ _ _ (by omega),if_pos rfl]
    refine wexit ?_
    show AWp _ _ _ _ _
    refine wseq ?_
    refine wreg fun K hK=>?_
    simp [C.spec_l1Factors,hi,hdl,get_ints,g0_get,hgd]
    refine hK _ ?_;clear hK K
    show AWp _ _ _ _ _
    refine wseq ?_
    refine wseq ?_
    refine wreg fun K hK=>?_
    simp [C.spec_l1Factors]
    refine hK _ ?_;clear hK K
    show AWp _ _ _ _ _
    refine wblock ?_
    refine wloop (fun x:Nat×List Int×Int=>⟨ofL [(1,.pt (1,0) [] 0),(4,.al (4,0) [] 0 n),(5,.int i),(6,.al (6,0) [] 0 LL.length),(7,.al (7,0) [] 0 FF.length),(9,.int x.2.2),(10,.int x.1)],ofRO [((1,0),some (.bx [D.int n,D.int r,shI m.d])),((4,0),some (.ow 1 n (ints x.2.1))),((6,0),some (.ow 1 LL.length (ints (cN LL)))),((7,0),some (.ow 1 FF.length (ints (cN FF))))]⟩) (fun x=>(1<=x.1/\x.1<=LL.length)/\DJ n (bM m) i LL FF d x.1 x.2.1 x.2.2) (fun x=>LL.length - x.1) (1,_,_) (by simp [C.spec_l1Factors]) ⟨by dsimp only;omega,hDJ⟩ ?_
    intro x3 hx3 R3 hR3
    clear hDJ hgd hk hc3
    obtain ⟨t,d3,g⟩:=x3
    obtain ⟨ht0,hJ3⟩:=hx3
    dsimp only at ht0 hJ3 ⊢
    have hd3:=hJ3.len
    refine wseq ?_
    refine wseq ?_
    refine wreg fun K hK=>?_
    simp [C.spec_l1Factors]
    refine hK _ ?_;clear hK K
    show AWp _ _ _ _ _
    refine wcond _ rfl (fun hc4=>?_) (fun hc4=>?_)
    ·have ht:t < LL.length:=by have:=d_t hc4;omega
     obtain ⟨t',h',e1,e2,w,w0,w1,w2,w3,w4,w5,w6⟩:=hJ3.step hP hs0 hB ht (by omega)
     have hF:FF[t]'(by omega)=LL[t']:=by
      rw [List.getElem?_eq_getElem (by omega)] at e2
      injection e2
     have hki:=hP.lt _ (List.getElem_mem ht)
     have hkj:=hP.lt _ (List.getElem_mem h')
     have hat1:=spec_l1At_c m n r LL[t'] LL[t] hn hr hS (by omega) hki
     have hat2:=spec_l1At_c m n r LL[t] LL[t'] hn hr hS (by omega) hkj
     have hb1:=hB _ _ hkj hki
     have hb2:=hB _ _ hki hkj
     have habs1:=spec_l1Abs_c (bM m LL[t'] LL[t]) (by omega)
     have habs2:=spec_l1Abs_c (bM m LL[t] LL[t']) (by omega)
     have hp7:99 ^ (LL.length - 1+t')<=99 ^ 7:=Nat.pow_le_pow_right (by omega) (by omega)
     have hmb:(g0 d3 LL[t']*((bM m LL[t'] LL[t]).natAbs:Int)).natAbs<=99 ^ 7*99:=by
      rw [Int.natAbs_mul]
      exact Nat.mul_le_mul (Nat.le_trans w1 hp7) (by omega)
     have hwb:w.natAbs<=(g0 d3 LL[t']*((bM m LL[t'] LL[t]).natAbs:Int)).natAbs:=by
      rw [<-w5,Int.natAbs_tdiv]
      exact Nat.div_le_self _ _
     obtain ⟨hl0,hl1⟩:=hP.first
     have hgb:=hJ3.gp
     have hgs:=(hJ3.pos 0 hl0 (by omega)).2.1
     rw [hl1] at hgs
     have hp8:=pow99 (a:=LL.length - 1+0) (by omega)
     have hcall:=spec_l1Gcd_c g w (by omega) (by omega)
     have hww:IntKind.i64.wrap (g0 d3 LL[t']*((bM m LL[t'] LL[t]).natAbs:Int))=g0 d3 LL[t']*((bM m LL[t'] LL[t]).natAbs:Int):=wrapOk (by omega) (by omega)
     have hwz:((bM m LL[t] LL[t']).natAbs:Int)≠0:=by omega
     have hgw:g0 (d3.set LL[t] w) LL[t]=w:=by rw [g0_set _ _ _ _ (by omega),if_pos rfl]
     generalize hA1:((bM m LL[t'] LL[t]).natAbs:Int)=A1 at *
     generalize hA2:((bM m LL[t] LL[t']).natAbs:Int)=A2 at *
     refine wskip ?_
     show AWp _ _ _ _ _
     refine wseq ?_
     refine wblock ?_
     refine wseq ?_
     refine wdrawI [(true,0),(true,1),(true,2),(true,3),(true,4),(true,5),(true,6),(true,7),(true,8),(true,9),(true,10),(true,11),(true,12),(true,13),(true,14),(true,15),(true,16),(true,17),(true,18),(true,19),(true,20),(true,24),(true,25),(true,26),(true,27),(true,28),(true,29),(true,30),(true,31),(true,32),(false,21),(false,22),(true,23),(false,33),(false,34),(true,35),(true,36),(false,37)] ⟨by kernel_rfl,by kernel_rfl⟩ ([0,1,2,3,4,5,6,7,8,9,10,11,12,13,14,15,16,17,18,19,20,24,25,26,27,28,29,30,31,32,21] ++ ([22] ++ ([23,33] ++ ([34] ++ ([35,36,37]))))) rfl fun K hK=>?_
     refine oSg fun L hL=>?_
     simp [C.spec_l1Factors,ht,get_ints,g0_get,cN_get ht,hd3,cN_get (show t < FF.length by omega),hF,hFl,hkj,hki,hww,hwz,w5,wrapOk (x:=w) (by omega) (by omega)]
     refine wcall1 (hat1) (by simp) (by simp) ?_
     simp [C.spec_l1Factors,ht,get_ints,g0_get,cN_get ht,hd3,cN_get (show t < FF.length by omega),hF,hFl,hkj,hki,hww,hwz,w5,wrapOk (x:=w) (by omega) (by omega)]
     refine hL _ ?_;clear hL L
     refine oSg fun L hL=>?_
     simp [C.spec_l1Factors,ht,get_ints,g0_get,cN_get ht,hd3,cN_get (show t < FF.length by omega),hF,hFl,hkj,hki,hww,hwz,w5,wrapOk (x:=w) (by omega) (by omega)]
     refine wcall1 (habs1) (by simp) (by simp) ?_
     simp [C.spec_l1Factors,ht,get_ints,g0_get,cN_get ht,hd3,cN_get (show t < FF.length by omega),hF,hFl,hkj,hki,hww,hwz,w5,wrapOk (x:=w) (by omega) (by omega)]
     refine hL _ ?_;clear hL L
     refine oSg fun L hL=>?_
     simp [C.spec_l1Factors,ht,get_ints,g0_get,cN_get ht,hd3,cN_get (show t < FF.length by omega),hF,hFl,hkj,hki,hww,hwz,w5,wrapOk (x:=w) (by omega) (by omega)]
     refine wcall1 (hat2) (by simp) (by simp) ?_
     simp [C.spec_l1Factors,ht,get_ints,g0_get,cN_get ht,hd3,cN_get (show t < FF.length by omega),hF,hFl,hkj,hki,hww,hwz,w5,wrapOk (x:=w) (by omega) (by omega)]
     refine hL _ ?_;clear hL L
     refine oSg fun L hL=>?_
     simp [C.spec_l1Factors,ht,get_ints,g0_get,cN_get ht,hd3,cN_get (show t < FF.length by omega),hF,hFl,hkj,hki,hww,hwz,w5,wrapOk (x:=w) (by omega) (by omega)]
     refine wcall1 (habs2) (by simp) (by simp) ?_
     simp [C.spec_l1Factors,ht,get_ints,g0_get,cN_get ht,hd3,cN_get (show t < FF.length by omega),hF,hFl,hkj,hki,hww,hwz,w5,wrapOk (x:=w) (by omega) (by omega)]
     refine hL _ ?_;clear hL L
     refine oEn fun L hL=>?_
     simp [C.spec_l1Factors,ht,get_ints,g0_get,cN_get ht,hd3,cN_get (show t < FF.length by omega),hF,hFl,hkj,hki,hww,hwz,w5,wrapOk (x:=w) (by omega) (by omega)]
     refine hL _ ?_;clear hL L
     simp [C.spec_l1Factors,ht,get_ints,g0_get,cN_get ht,hd3,cN_get (show t < FF.length by omega),hF,hFl,hkj,hki,hww,hwz,w5,wrapOk (x:=w) (by omega) (by omega)]
     refine hK _ ?_;clear hK K
     show AWp _ _ _ _ _
     refine wregI ([0,1,2,3,4,5,6,7,8] ++ ([9])) rfl fun K hK=>?_
     refine oSg fun L hL=>?_
     simp [C.spec_l1Factors,ht,get_ints,g0_get,cN_get ht,hd3,hki,hgw]
     refine wcall1 (hcall) (by simp) (by simp) ?_
     simp [C.spec_l1Factors,ht,get_ints,g0_get,cN_get ht,hd3,hki,hgw]
     refine hL _ ?_;clear hL L
     refine oEn fun L hL=>?_
     simp [C.spec_l1Factors,ht,get_ints,g0_get,cN_get ht,hd3,hki,hgw]
     refine hL _ ?_;clear hL L
     simp [C.spec_l1Factors,ht,get_ints,g0_get,cN_get ht,hd3,hki,hgw]
     refine hK _ ?_;clear hK K
     show AWp _ _ _ _ _
     refine wreg fun K hK=>?_
     simp [C.spec_l1Factors,wrap_succ (show t < 4611686018427387904 by omega)]
     refine hK _ ?_;clear hK K
     simp [C.spec_l1Factors]
     refine cast (congrArg R3 ?_) (hR3 (t+1,d3.set LL[t] w,_) ⟨by dsimp only;omega,w6⟩ (by dsimp only;omega))
     simp [hFl]
    ·have ht:t=LL.length:=by have:=d_f hc4;omega
     rw [ht] at hJ3
     have hgp:=hJ3.gp.1
     refine wexit ?_
     show AWp _ _ _ _ _
     refine wseq ?_
     refine wreg fun K hK=>?_
     simp [C.spec_l1Factors]
     refine hK _ ?_;clear hK K
     show AWp _ _ _ _ _
     refine wblock ?_
     refine wloop (fun x:Nat×List Int=>⟨ofL [(1,.pt (1,0) [] 0),(4,.al (4,0) [] 0 n),(5,.int i),(6,.al (6,0) [] 0 LL.length),(9,.int g),(11,.int x.1)],ofRO [((1,0),some (.bx [D.int n,D.int r,shI m.d])),((4,0),some (.ow 1 n (ints x.2))),((6,0),some (.ow 1 LL.length (ints (cN LL))))]⟩) (fun x=>x.1<=LL.length/\EJ g LL d3 x.1 x.2) (fun x=>LL.length - x.1) (0,d3) (by simp [C.spec_l1Factors]) ⟨by simp,EJ.start g LL d3⟩ ?_
     intro x4 hx4 R4 hR4
     obtain ⟨t,d4⟩:=x4
     obtain ⟨ht0',hE⟩:=hx4
     dsimp only at ht0' hE ⊢
     have hd4:=hE.len
     refine wseq ?_
     refine wseq ?_
     refine wreg fun K hK=>?_
     simp [C.spec_l1Factors]
     refine hK _ ?_;clear hK K
     show AWp _ _ _ _ _
     refine wcond _ rfl (fun hc5=>?_) (fun hc5=>?_)
     ·have ht:t < LL.length:=by have:=d_t hc5;omega
      have hki:=hP.lt _ (List.getElem_mem ht)
      obtain ⟨hv1,hv2⟩:=hE.step hP.nd ht (by omega)
      have hp8:=pow99 (a:=LL.length - 1+t) (by omega)
      have hpb:=(hJ3.pos t ht ht).2.1
      have hwd:IntKind.i64.wrap ((g0 d3 LL[t]).tdiv g)=(g0 d3 LL[t]).tdiv g:=by
       have h1:((g0 d3 LL[t]).tdiv g).natAbs<=(g0 d3 LL[t]).natAbs:=by
        rw [Int.natAbs_tdiv]
        exact Nat.div_le_self _ _
       exact wrapOk (by omega) (by omega)
      refine wskip ?_
      show AWp _ _ _ _ _
      refine wseq ?_
      refine wblock ?_
      refine wdrawI [(true,0),(true,1),(true,2),(true,3),(true,4),(true,5),(true,6),(true,7),(true,8),(true,9),(true,10),(true,11),(true,12),(true,13),(true,14),(false,15)] ⟨by kernel_rfl,by kernel_rfl⟩ ([0,1,2,3,4,5,6,7,8,9,10,11,12,13,14,15]) rfl fun K hK=>?_
      refine oEn fun L hL=>?_
      simp [C.spec_l1Factors,ht,get_ints,g0_get,cN_get ht,hd4,hd3,hki,hv1,show g≠0 by omega,hwd]
      refine hL _ ?_;clear hL L
      simp [C.spec_l1Factors,ht,get_ints,g0_get,cN_get ht,hd4,hd3,hki,hv1,show g≠0 by omega,hwd]
      refine hK _ ?_;clear hK K
      show AWp _ _ _ _ _
      refine wreg fun K hK=>?_
      simp [C.spec_l1Factors,wrap_succ (show t < 4611686018427387904 by omega)]
      refine hK _ ?_;clear hK K
      simp [C.spec_l1Factors]
      exact hR4 (t+1,_) ⟨ht,hv2⟩ (by dsimp only;omega)
     ·have ht:t=LL.length:=by have:=d_f hc5;omega
      rw [ht] at hE
      have hgrow:=hO.grow hP hn5.2 (fun k hk=>by
       obtain ⟨z,hz,rfl⟩:=List.getElem_of_mem hk
       exact hdis z hz) hJ3 hE
      refine wexit ?_
      show AWp _ _ _ _ _
      refine wreg fun K hK=>?_
      simp [C.spec_l1Factors,wrap_succ (show i < 4611686018427387904 by omega)]
      refine hK _ ?_;clear hK K
      simp [C.spec_l1Factors]
      refine hR1 (i+1,d4,old ++ LL) ⟨hi,hgrow,fun k hk=>?_⟩ (by dsimp only;omega)
      dsimp only at hk ⊢
      rw [List.mem_append]
      by_cases e:k=i
      ·right
       rw [e]
       exact List.mem_of_getElem? hP.hd
      ·exact .inl (hall k (by omega))
 ·have hin:i=n:=by have:=d_f hc1;omega
  subst hin
  refine wexit ?_
  show AWp _ _ _ _ _
  refine wseq ?_
  refine wseq ?_
  refine wreg fun K hK=>?_
  simp [C.spec_l1Factors]
  refine hK _ ?_;clear hK K
  show AWp _ _ _ _ _
  refine wblock ?_
  refine wloop (fun x:Nat=>⟨ofL [(1,.pt (1,0) [] 0),(4,.al (4,0) [] 0 i),(12,.int x)],ofRO [((1,0),some (.bx [D.int i,D.int r,shI m.d])),((4,0),some (.ow 1 i (ints d)))]⟩) (fun x=>x<=i/\∀ a b,a < x->b < i->g0 d a*bM m a b=-(g0 d b*bM m b a)) (fun x=>i - x) 0 (by simp [C.spec_l1Factors]) (by simp) ?_
  intro x5 hx5 R5 hR5
  obtain ⟨ha0,hA⟩:=hx5
  refine wseq ?_
  refine wseq ?_
  refine wreg fun K hK=>?_
  simp [C.spec_l1Factors]
  refine hK _ ?_;clear hK K
  show AWp _ _ _ _ _
  refine wcond _ rfl (fun hc6=>?_) (fun hc6=>?_)
  ·have ha:x5 < i:=by have:=d_t hc6;omega
   refine wskip ?_
   show AWp _ _ _ _ _
   refine wseq ?_
   refine wblock ?_
   refine wseq ?_
   refine wreg fun K hK=>?_
   simp [C.spec_l1Factors]
   refine hK _ ?_;clear hK K
   show AWp _ _ _ _ _
   refine wblock ?_
   refine wloop (fun x:Nat=>⟨ofL [(1,.pt (1,0) [] 0),(4,.al (4,0) [] 0 i),(12,.int x5),(13,.int x)],ofRO [((1,0),some (.bx [D.int i,D.int r,shI m.d])),((4,0),some (.ow 1 i (ints d)))]⟩) (fun x=>x<=i/\∀ b,b < x->g0 d x5*bM m x5 b=-(g0 d b*bM m b x5)) (fun x=>i - x) 0 (by simp [C.spec_l1Factors]) (by simp) ?_
   intro x6 hx6 R6 hR6
   obtain ⟨hb0,hBb⟩:=hx6
   refine wseq ?_
   refine wseq ?_
   refine wreg fun K hK=>?_
   simp [C.spec_l1Factors]
   refine hK _ ?_;clear hK K
   show AWp _ _ _ _ _
   refine wcond _ rfl (fun hc7=>?_) (fun hc7=>?_)
   ·have hb:x6 < i:=by have:=d_t hc7;omega
    have hat1:=spec_l1At_c m i r x5 x6 hn hr hS (by omega) hb
    have hat2:=spec_l1At_c m i r x6 x5 hn hr hS (by omega) ha
    have q1:=hO.bd x5 (hall x5 ha)
    have q2:=hO.bd x6 (hall x6 hb)
    have b1:=hB x5 x6 ha hb
    have b2:=hB x6 x5 hb ha
    have m1:(g0 d x5*bM m x5 x6).natAbs<=99 ^ 8*99:=by rw [Int.natAbs_mul];exact Nat.mul_le_mul q1 b1
    have m2:(g0 d x6*bM m x6 x5).natAbs<=99 ^ 8*99:=by rw [Int.natAbs_mul];exact Nat.mul_le_mul q2 b2
    refine wskip ?_
    show AWp _ _ _ _ _
    refine wseq ?_
    refine wblock ?_
    refine wseq ?_
    refine wdrawI [(true,0),(true,1),(true,2),(true,3),(true,4),(true,5),(true,6),(true,9),(true,10),(true,11),(true,12),(true,13),(true,14),(true,15),(false,7),(true,8),(false,16),(true,17),(true,18),(true,19)] ⟨by kernel_rfl,by kernel_rfl⟩ ([0,1,2,3,4,5,6,9,10,11,12,13,14,15,7] ++ ([8,16] ++ ([17,18,19]))) rfl fun K hK=>?_
    refine oSg fun L hL=>?_
    simp [C.spec_l1Factors,ha,hb,hdl,get_ints,g0_get,wrapOk (x:=g0 d x5*bM m x5 x6) (by omega) (by omega),wrapOk (x:=g0 d x6*bM m x6 x5) (by omega) (by omega),wrapOk (x:=-(g0 d x6*bM m x6 x5)) (by omega) (by omega)]
    refine wcall1 (hat1) (by simp) (by simp) ?_
    simp [C.spec_l1Factors,ha,hb,hdl,get_ints,g0_get,wrapOk (x:=g0 d x5*bM m x5 x6) (by omega) (by omega),wrapOk (x:=g0 d x6*bM m x6 x5) (by omega) (by omega),wrapOk (x:=-(g0 d x6*bM m x6 x5)) (by omega) (by omega)]
    refine hL _ ?_;clear hL L
    refine oSg fun L hL=>?_
    simp [C.spec_l1Factors,ha,hb,hdl,get_ints,g0_get,wrapOk (x:=g0 d x5*bM m x5 x6) (by omega) (by omega),wrapOk (x:=g0 d x6*bM m x6 x5) (by omega) (by omega),wrapOk (x:=-(g0 d x6*bM m x6 x5)) (by omega) (by omega)]
    refine wcall1 (hat2) (by simp) (by simp) ?_
    simp [C.spec_l1Factors,ha,hb,hdl,get_ints,g0_get,wrapOk (x:=g0 d x5*bM m x5 x6) (by omega) (by omega),wrapOk (x:=g0 d x6*bM m x6 x5) (by omega) (by omega),wrapOk (x:=-(g0 d x6*bM m x6 x5)) (by omega) (by omega)]
    refine hL _ ?_;clear hL L
    refine oEn fun L hL=>?_
    simp [C.spec_l1Factors,ha,hb,hdl,get_ints,g0_get,wrapOk (x:=g0 d x5*bM m x5 x6) (by omega) (by omega),wrapOk (x:=g0 d x6*bM m x6 x5) (by omega) (by omega),wrapOk (x:=-(g0 d x6*bM m x6 x5)) (by omega) (by omega)]
    refine hL _ ?_;clear hL L
    simp [C.spec_l1Factors,ha,hb,hdl,get_ints,g0_get,wrapOk (x:=g0 d x5*bM m x5 x6) (by omega) (by omega),wrapOk (x:=g0 d x6*bM m x6 x5) (by omega) (by omega),wrapOk (x:=-(g0 d x6*bM m x6 x5)) (by omega) (by omega)]
    refine hK _ ?_;clear hK K
    show AWp _ _ _ _ _
    refine wcond _ rfl (fun hc8=>?_) (fun hc8=>?_)
    ·have hne:¬ g0 d x5*bM m x5 x6=-(g0 d x6*bM m x6 x5):=by simpa using hc8
     refine wseq ?_
     refine wreg fun K hK=>?_
     simp [C.spec_l1Factors]
     refine hK _ ?_;clear hK K
     show AWp _ _ _ _ _
     refine wret ?_
     simp [C.spec_l1Factors]
     exact fun e he=>hne (hO.rel he (hall x5 ha) hb hs0)
    ·have heq:g0 d x5*bM m x5 x6=-(g0 d x6*bM m x6 x5):=by simpa using hc8
     refine wskip ?_
     show AWp _ _ _ _ _
     refine wreg fun K hK=>?_
     simp [C.spec_l1Factors,wrap_succ (show x6 < 4611686018427387904 by omega)]
     refine hK _ ?_;clear hK K
     simp [C.spec_l1Factors]
     refine hR6 (x6+1) ⟨hb,fun b hbx=>?_⟩ (by omega)
     by_cases e:b=x6
     ·rw [e];exact heq
     ·exact hBb b (by omega)
   ·have hb:x6=i:=by have:=d_f hc7;omega
    refine wexit ?_
    show AWp _ _ _ _ _
    refine wreg fun K hK=>?_
    simp [C.spec_l1Factors,wrap_succ (show x5 < 4611686018427387904 by omega)]
    refine hK _ ?_;clear hK K
    simp [C.spec_l1Factors]
    refine hR5 (x5+1) ⟨ha,fun a b hax hbi=>?_⟩ (by omega)
    by_cases e:a=x5
    ·rw [e];exact hBb b (by omega)
    ·exact hA a b (by omega) hbi
  ·have ha:x5=i:=by have:=d_f hc6;omega
   have hmin:=hO.min hall (fun a b h1 h2=>hA a b (by omega) h2)
   refine wexit ?_
   show AWp _ _ _ _ _
   refine wseq ?_
   refine wreg fun K hK=>?_
   simp [C.spec_l1Factors]
   refine hK _ ?_;clear hK K
   show AWp _ _ _ _ _
   refine wret ?_
   simp [C.spec_l1Factors]
   exact ⟨d,hmin,hdl.symm,rfl⟩
end Go.Proofs.Ytfcgcgmleogamaa.Ab
namespace Go.Proofs.Ytfcgcgmleogamaa.Ab
open Go
set_option maxRecDepth 10000
set_option maxHeartbeats 2000000
theorem sz_of_sol {m:Mat} (hS:ShM m) {d:Nat->Int} (hd:Sol m.n.toNat (bM m) d):SzM m:=by
 refine ⟨hS,fun i j hi hj=>?_⟩
 obtain ⟨h1,h2,h3⟩:=sol_sign hd hi hj
 unfold SgM
 omega
theorem matok_sz {m:Mat} (h:MatOK m):SzM m:=by
 obtain ⟨hS,d,hd⟩:=h
 exact sz_of_sol hS hd
theorem sFactors {m:Mat} (hZ:SzM m):ACalls Try.prog F.spec_l1Factors [aM m] [] true (fun outs res=>outs=[]/\((∃ l,MinSol m.n.toNat (bM m) l/\res=[.one (owI l),.one (D.bool true)])\/((∀ d,¬ Sol m.n.toNat (bM m) d)/\res=[.one (.v (.slice none 0 0)),.one (D.bool false)]))):=by
 have hS:=hZ.1
 obtain ⟨n,hn⟩:∃ n:Nat,m.n=n:=⟨m.n.toNat,by have:=hS.1;omega⟩
 obtain ⟨r,hr⟩:∃ r:Nat,m.r=r:=⟨m.r.toNat,by have:=hS.1;have:=hS.2.1;omega⟩
 have h:=spec_l1Factors_c m n r hn hr hZ
 have e:aM m = .ag [.int n,.int r,.d (shI m.d)]:=by rw [<-hn,<-hr]
 rw [e,show m.n.toNat=n by omega]
 exact h
theorem sFactors_some {m:Mat} (hZ:SzM m) {l:List Int} (h:MinSol m.n.toNat (bM m) l):ACalls Try.prog F.spec_l1Factors [aM m] [] true (fun outs res=>outs=[]/\res=[.one (owI l),.one (D.bool true)]):=
 (sFactors hZ).mono fun outs res ⟨h1,h2⟩=>by
  refine ⟨h1,?_⟩
  rcases h2 with ⟨k,hk,h2⟩ | ⟨hno,_⟩
  ·rw [h2,hk.uniq h]
  ·exact absurd h.2.1 (hno _)
theorem sFactors_none {m:Mat} (hZ:SzM m) (h:∀ l,¬ MinSol m.n.toNat (bM m) l):ACalls Try.prog F.spec_l1Factors [aM m] [] true (fun outs res=>outs=[]/\(∀ d,¬ Sol m.n.toNat (bM m) d)/\res=[.one (.v (.slice none 0 0)),.one (D.bool false)]):=
 (sFactors hZ).mono fun outs res ⟨h1,h2⟩=>by
  rcases h2 with ⟨k,hk,h2⟩ | ⟨hno,h2⟩
  ·exact absurd hk (h k)
  ·exact ⟨h1,hno,h2⟩
theorem spec_MatrixOk_c (m:Mat) (hx:m.d.length < 17592186044416):ACalls Try.prog F.spec_MatrixOk [aM m] [] true (fun outs res=>outs=[]/\res=[.one (D.bool (decide (MatOK m)))]):=by
 refine ACalls.of_body (C:=C.spec_MatrixOk) (n:=Try.f68.ntmps) tabT folT Try.func68 rfl (by kernel_rfl) rfl (Nat.le_of_ble_eq_true rfl) (by decide) (by kernel_rfl) (by kernel_rfl) rfl (by simp) (by simp) ?_
 simp only [Try.f68]
 refine wseq ?_
 refine wreg fun K hK=>?_
 simp [C.spec_MatrixOk]
 refine hK _ ?_;clear hK K
 show AWp _ _ _ _ _
 refine wseq ?_
 refine wseq ?_
 refine wregI ([0,1] ++ ([2])) rfl fun K hK=>?_
 refine oSg fun L hL=>?_
 simp [C.spec_MatrixOk]
 refine wcall1 (spec_l1Sizes_c m hx) (by simp) (by simp) ?_
 simp [C.spec_MatrixOk]
 refine hL _ ?_;clear hL L
 refine oEn fun L hL=>?_
 simp [C.spec_MatrixOk]
 refine hL _ ?_;clear hL L
 simp [C.spec_MatrixOk]
 refine hK _ ?_;clear hK K
 show AWp _ _ _ _ _
 refine wcond _ rfl (fun hc1=>?_) (fun hc1=>?_)
 ·have hr:=nd_t hc1
  have hno:¬ MatOK m:=fun h=>hr (matok_sz h)
  refine wseq ?_
  refine wreg fun K hK=>?_
  simp [C.spec_MatrixOk]
  refine hK _ ?_;clear hK K
  show AWp _ _ _ _ _
  refine wret ?_
  simp [C.spec_MatrixOk,hno]
 ·have hZ:=nd_f hc1
  refine wskip ?_
  show AWp _ _ _ _ _
  refine wseq ?_
  refine wregI ([0,1] ++ ([2,3,4,5,6])) rfl fun K hK=>?_
  have hJ:K ⟨ofL [(4,.bool (decide (MatOK m)))],ofRO []⟩:=by
   refine hK _ ?_;clear hK K
   show AWp _ _ _ _ _
   refine wseq ?_
   refine wreg fun K hK=>?_
   simp [C.spec_MatrixOk]
   refine hK _ ?_;clear hK K
   show AWp _ _ _ _ _
   refine wret ?_
   simp [C.spec_MatrixOk]
  clear hK
  by_cases h2:∃ l,MinSol m.n.toNat (bM m) l
  ·obtain ⟨l,hl⟩:=h2
   have h2:MatOK m:=⟨hZ.1,_,hl.2.1⟩
   refine oSg fun L hL=>?_
   simp [C.spec_MatrixOk,h2]
   refine wcall1 (sFactors_some hZ hl) (by simp) (by simp) ?_
   simp [C.spec_MatrixOk,h2]
   refine hL _ ?_;clear hL L
   refine oEn fun L hL=>?_
   simp [C.spec_MatrixOk,h2]
   refine hL _ ?_;clear hL L
   simp [C.spec_MatrixOk,h2]
   refine cast (congrArg K ?_) hJ
   simp [h2]
  ·refine oSg fun L hL=>?_
   simp [C.spec_MatrixOk,h2]
   refine wcall (sFactors_none hZ (fun l hl=>h2 ⟨l,hl⟩)) (by simp) (by simp) (by simp) ?_
   rintro outs res ⟨rfl,hno,rfl⟩
   simp [C.spec_MatrixOk,h2]
   refine hL _ ?_;clear hL L
   refine oEn fun L hL=>?_
   simp [C.spec_MatrixOk,h2]
   refine hL _ ?_;clear hL L
   simp [C.spec_MatrixOk,h2]
   refine cast (congrArg K ?_) hJ
   simp [show ¬ MatOK m from fun h=>by obtain ⟨d,hd⟩:=h.2;exact hno d hd,h2]
theorem spec_l1Mutate_c (m:Mat) (n r k:Nat) (hn:m.n=n) (hr:m.r=r) (hS:ShM m) (hk:k < n):ACalls Try.prog F.spec_l1Mutate [.ag [.int n,.int r,.d (shI m.d)],.int k] [] true (fun outs res=>outs=[]/\res=[.ag (mO (muM m k))]):=by
 have hn5:1<=n/\n<=5:=by have:=hS.1;omega
 have hnr:n<=r/\r<=8:=by have:=hS.2.1;omega
 have hnn:m.n.toNat=n:=by omega
 have hL:m.d.length=r*n:=by
  have h1:=hS.2.2.1
  rw [hn,hr,<-Int.natCast_mul,Nat.mul_comm] at h1
  omega
 have hL40:m.d.length<=40:=by
  rw [hL]
  exact Nat.le_trans (Nat.mul_le_mul hnr.2 hn5.2) (by omega)
 have hcopy:=spec_l1CopyMatrix_c m (by omega)
 have eM:aM m = .ag [.int n,.int r,.d (shI m.d)]:=by rw [<-hn,<-hr]
 rw [eM] at hcopy
 refine ACalls.of_body (C:=C.spec_l1Mutate) (n:=Try.f168.ntmps) tabT folT Try.func168 rfl (by kernel_rfl) rfl (Nat.le_of_ble_eq_true rfl) (by decide) (by kernel_rfl) (by kernel_rfl) rfl (by simp) (by simp) ?_
 simp only [Try.f168]
 refine wseq ?_
 refine wreg fun K hK=>?_
 simp [C.spec_l1Mutate]
 refine hK _ ?_;clear hK K
 show AWp _ _ _ _ _
 refine wseq ?_
 refine wregI ([0,1] ++ ([2,3])) rfl fun K hK=>?_
 refine oSg fun L hL=>?_
 simp [C.spec_l1Mutate,mO,hn,hr]
 refine wcall1 (hcopy) (by simp) (by simp) ?_
 simp [C.spec_l1Mutate,mO,hn,hr]
 refine hL _ ?_;clear hL L
 refine oEn fun L hL=>?_
 simp [C.spec_l1Mutate,mO,hn,hr]
 refine hL _ ?_;clear hL L
 simp [C.spec_l1Mutate,mO,hn,hr]
 refine hK _ ?_;clear hK K
 show AWp _ _ _ _ _
 refine wseq ?_
 refine wseq ?_
 refine wreg fun K hK=>?_
 simp [C.spec_l1Mutate]
 refine hK _ ?_;clear hK K
 show AWp _ _ _ _ _
 refine wblock ?_
 refine wloop (fun x:Nat=>⟨ofL [(1,.int k),(2,.pt (2,0) [] 0),(4,.pt (4,0) [] 0),(5,.pt (5,0) [] 0),(6,.int x)],ofRO [((2,0),some (.bx [D.int n,D.int r,shI m.d])),((4,0),some (.bx [D.int 0,D.int 0,.v (.slice none 0 0)])),((5,0),some (.bx [D.int n,D.int r,.ow 1 m.d.length (ints ((muD m k).take (x*n) ++ m.d.drop (x*n)))]))]⟩) (fun x=>x<=r) (fun x=>r - x) 0 (by simp [C.spec_l1Mutate]) (by simp) ?_
 intro x1 hx1 R1 hR1
 refine wseq ?_
 refine wseq ?_
 refine wreg fun K hK=>?_
 simp [C.spec_l1Mutate]
 refine hK _ ?_;clear hK K
 show AWp _ _ _ _ _
 refine wcond _ rfl (fun hc1=>?_) (fun hc1=>?_)
 ·have hi:x1 < r:=by have:=d_t hc1;omega
  refine wskip ?_
  show AWp _ _ _ _ _
  refine wseq ?_
  refine wblock ?_
  refine wseq ?_
  refine wreg fun K hK=>?_
  simp [C.spec_l1Mutate]
  refine hK _ ?_;clear hK K
  show AWp _ _ _ _ _
  refine wblock ?_
  refine wloop (fun x:Nat=>⟨ofL [(1,.int k),(2,.pt (2,0) [] 0),(4,.pt (4,0) [] 0),(5,.pt (5,0) [] 0),(6,.int x1),(7,.int x)],ofRO [((2,0),some (.bx [D.int n,D.int r,shI m.d])),((4,0),some (.bx [D.int 0,D.int 0,.v (.slice none 0 0)])),((5,0),some (.bx [D.int n,D.int r,.ow 1 m.d.length (ints ((muD m k).take (x1*n+x) ++ m.d.drop (x1*n+x)))]))]⟩) (fun x=>x<=n) (fun x=>n - x) 0 (by simp [C.spec_l1Mutate]) (by simp) ?_
  intro x2 hx2 R2 hR2
  refine wseq ?_
  refine wseq ?_
  refine wreg fun K hK=>?_
  simp [C.spec_l1Mutate]
  refine hK _ ?_;clear hK K
  show AWp _ _ _ _ _
  refine wcond _ rfl (fun hc2=>?_) (fun hc2=>?_)
  ·have hj:x2 < n:=by have:=d_t hc2;omega
   obtain ⟨q,hq⟩:∃ q,q=x1*n+x2:=⟨_,rfl⟩
   have hqe:(x1:Int)*n+x2=(q:Int):=by rw [hq];simp
   have hqL:q < m.d.length:=by
    rw [hL,hq]
    have h1:(x1+1)*n<=r*n:=Nat.mul_le_mul_right _ (by omega)
    rw [Nat.add_mul] at h1
    omega
   have hq0:IntKind.i64.wrap ((x1:Int)*n)=(x1:Int)*n:=by
    have:(x1:Int)*n=((x1*n:Nat):Int):=by simp
    rw [this]
    exact wrapOk (by omega) (by omega)
   have hq1:IntKind.i64.wrap ((x1:Int)*n+x2)=(q:Int):=by rw [hqe];exact wrapOk (by omega) (by omega)
   have hg:=mix_get (muD m k) m.d q hqL (by simp)
   have hst:=mix_set (muD m k) m.d q (by simpa using hqL) (by simp)
   have hmu:(muD m k)[q]'(by simpa using hqL)=muE (bM m) k x1 x2:=by
    have:=muD_get m k x1 x2 (by omega) (by rw [hnn,<-hq];exact hqL)
    simp only [hnn,<-hq] at this
    exact this
   have hdq:m.d[q]=bM m x1 x2:=by
    obtain ⟨h1,h2⟩:=bM_get hS (i:=x1) (j:=x2) (by omega) (by omega)
    rw [<-h2]
    congr 1
    rw [hnn,hq]
   rw [hmu] at hst
   rw [<-hq]
   have hml:((muD m k).take q ++ m.d.drop q).length=m.d.length:=by simp;omega
   generalize hM:(muD m k).take q ++ m.d.drop q=M at hg hst hml
   have hMq:M[q]'(by omega)=bM m x1 x2:=by
    rw [List.getElem?_eq_getElem (by omega)] at hg
    injection hg with hg
    rw [hg,hdq]
   have b0:=bM_bd hS x1 x2
   have b1:=bM_bd hS x1 k
   have b2:=bM_bd hS k x2
   have hat1:=spec_l1At_c m n r x1 k hn hr hS hi hk
   have hat2:=spec_l1At_c m n r k x2 hn hr hS (by omega) hj
   have hat3:=spec_l1At_c m n r x1 x2 hn hr hS hi hj
   obtain ⟨A,hA⟩:∃ A,A=bM m x1 k:=⟨_,rfl⟩
   obtain ⟨B,hB⟩:∃ B,B=bM m k x2:=⟨_,rfl⟩
   obtain ⟨X,hX⟩:∃ X,X=bM m x1 x2:=⟨_,rfl⟩
   have hmuv:muE (bM m) k x1 x2=if x1=k\/x2=k then -X else if 0 < A/\0 < B then X+A*B else if A < 0/\B < 0 then X - A*B else X:=by rw [hA,hB,hX];rfl
   rw [hmuv] at hst
   rw [<-hA] at hat1 b1
   rw [<-hB] at hat2 b2
   rw [<-hX] at hMq b0 hat3
   have hab:(A*B).natAbs<=99*99:=by rw [Int.natAbs_mul];exact Nat.mul_le_mul b1 b2
   clear hmuv hA hB hX hmu hdq hM
   have hwab:IntKind.i64.wrap (A*B)=A*B:=wrapOk (by omega) (by omega)
   refine wskip ?_
   show AWp _ _ _ _ _
   refine wseq ?_
   refine wblock ?_
   refine wseq ?_
   refine wregI ([0,1,2,3] ++ ([4])) rfl fun K hK=>?_
   refine oSg fun L hL=>?_
   simp [C.spec_l1Mutate]
   refine wcall1 (hat1) (by simp) (by simp) ?_
   simp [C.spec_l1Mutate]
   refine hL _ ?_;clear hL L
   refine oEn fun L hL=>?_
   simp [C.spec_l1Mutate]
   refine hL _ ?_;clear hL L
   simp [C.spec_l1Mutate]
   refine hK _ ?_;clear hK K
   show AWp _ _ _ _ _
   refine wseq ?_
   refine wregI ([0,1,2,3] ++ ([4])) rfl fun K hK=>?_
   refine oSg fun L hL=>?_
   simp [C.spec_l1Mutate]
   refine wcall1 (hat2) (by simp) (by simp) ?_
   simp [C.spec_l1Mutate]
   refine hL _ ?_;clear hL L
   refine oEn fun L hL=>?_
   simp [C.spec_l1Mutate]
   refine hL _ ?_;clear hL L
   simp [C.spec_l1Mutate]
   refine hK _ ?_;clear hK K
   show AWp _ _ _ _ _
   refine wblock ?_
   refine wseq ?_
   refine wreg fun K hK=>?_
   have hJ:K ⟨ofL [(1,.int k),(2,.pt (2,0) [] 0),(4,.pt (4,0) [] 0),(5,.pt (5,0) [] 0),(6,.int x1),(7,.int x2),(8,.int A),(9,.int B),(32,.bool (decide (x1=k\/x2=k)))],ofRO [((2,0),some (.bx [D.int n,D.int r,shI m.d])),((4,0),some (.bx [D.int 0,D.int 0,.v (.slice none 0 0)])),((5,0),some (.bx [D.int n,D.int r,.ow 1 m.d.length (ints M)]))]⟩:=by
    refine hK _ ?_;clear hK K
    show AWp _ _ _ _ _
    refine wcond _ rfl (fun hc3=>?_) (fun hc3=>?_)
    ·have h3:=d_t hc3
     rw [if_pos h3] at hst
     refine wdrawI [(true,0),(true,1),(true,2),(true,3),(true,4),(true,5),(true,6),(true,7),(true,8),(true,9),(true,10),(false,11),(true,12),(true,13),(false,14)] ⟨by kernel_rfl,by kernel_rfl⟩ ([0,1,2,3,4,5,6,7,8,9,10,11] ++ ([12,13,14])) rfl fun K hK=>?_
     refine oSg fun L hL=>?_
     simp [C.spec_l1Mutate,get_ints,hml,hqL,hMq,hq0,hq1,show (q:Int) < m.d.length by omega,wrapOk (x:=-X) (by omega) (by omega),hst]
     refine wcall1 (hat3) (by simp) (by simp) ?_
     simp [C.spec_l1Mutate,get_ints,hml,hqL,hMq,hq0,hq1,show (q:Int) < m.d.length by omega,wrapOk (x:=-X) (by omega) (by omega),hst]
     refine hL _ ?_;clear hL L
     refine oEn fun L hL=>?_
     simp [C.spec_l1Mutate,get_ints,hml,hqL,hMq,hq0,hq1,show (q:Int) < m.d.length by omega,wrapOk (x:=-X) (by omega) (by omega),hst]
     refine hL _ ?_;clear hL L
     simp [C.spec_l1Mutate,get_ints,hml,hqL,hMq,hq0,hq1,show (q:Int) < m.d.length by omega,wrapOk (x:=-X) (by omega) (by omega),hst]
     refine hK _ ?_;clear hK K
     show AWp _ _ _ _ _
     refine wreg fun K hK=>?_
     simp [C.spec_l1Mutate,wrap_succ (show x2 < 4611686018427387904 by omega)]
     refine hK _ ?_;clear hK K
     simp [C.spec_l1Mutate]
     refine cast (congrArg R2 ?_) (hR2 (x2+1) hj (by omega))
     simp [<-Nat.add_assoc,<-hq]
    ·have h3:=d_f hc3
     rw [if_neg h3] at hst
     refine wseq ?_
     refine wreg fun K hK=>?_
     have hJ:K ⟨ofL [(1,.int k),(2,.pt (2,0) [] 0),(4,.pt (4,0) [] 0),(5,.pt (5,0) [] 0),(6,.int x1),(7,.int x2),(8,.int A),(9,.int B),(55,.bool (decide (0 < A/\0 < B)))],ofRO [((2,0),some (.bx [D.int n,D.int r,shI m.d])),((4,0),some (.bx [D.int 0,D.int 0,.v (.slice none 0 0)])),((5,0),some (.bx [D.int n,D.int r,.ow 1 m.d.length (ints M)]))]⟩:=by
      refine hK _ ?_;clear hK K
      show AWp _ _ _ _ _
      refine wcond _ rfl (fun hc4=>?_) (fun hc4=>?_)
      ·have h4:=d_t hc4
       rw [if_pos h4] at hst
       refine wdrawI [(true,0),(true,1),(true,2),(true,3),(true,4),(true,5),(true,6),(true,7),(true,8),(true,9),(true,10),(true,12),(true,13),(true,14),(false,11),(true,15),(true,16),(false,17)] ⟨by kernel_rfl,by kernel_rfl⟩ ([0,1,2,3,4,5,6,7,8,9,10,12,13,14,11] ++ ([15,16,17])) rfl fun K hK=>?_
       refine oSg fun L hL=>?_
       simp [C.spec_l1Mutate,get_ints,hml,hqL,hMq,hq0,hq1,show (q:Int) < m.d.length by omega,hwab,wrapOk (x:=X+A*B) (by omega) (by omega),hst]
       refine wcall1 (hat3) (by simp) (by simp) ?_
       simp [C.spec_l1Mutate,get_ints,hml,hqL,hMq,hq0,hq1,show (q:Int) < m.d.length by omega,hwab,wrapOk (x:=X+A*B) (by omega) (by omega),hst]
       refine hL _ ?_;clear hL L
       refine oEn fun L hL=>?_
       simp [C.spec_l1Mutate,get_ints,hml,hqL,hMq,hq0,hq1,show (q:Int) < m.d.length by omega,hwab,wrapOk (x:=X+A*B) (by omega) (by omega),hst]
       refine hL _ ?_;clear hL L
       simp [C.spec_l1Mutate,get_ints,hml,hqL,hMq,hq0,hq1,show (q:Int) < m.d.length by omega,hwab,wrapOk (x:=X+A*B) (by omega) (by omega),hst]
       refine hK _ ?_;clear hK K
       show AWp _ _ _ _ _
       refine wreg fun K hK=>?_
       simp [C.spec_l1Mutate,wrap_succ (show x2 < 4611686018427387904 by omega)]
       refine hK _ ?_;clear hK K
       simp [C.spec_l1Mutate]
       refine cast (congrArg R2 ?_) (hR2 (x2+1) hj (by omega))
       simp [<-Nat.add_assoc,<-hq]
      ·have h4:=d_f hc4
       rw [if_neg h4] at hst
       refine wseq ?_
       refine wreg fun K hK=>?_
       have hJ:K ⟨ofL [(1,.int k),(2,.pt (2,0) [] 0),(4,.pt (4,0) [] 0),(5,.pt (5,0) [] 0),(6,.int x1),(7,.int x2),(8,.int A),(9,.int B),(79,.bool (decide (A < 0/\B < 0)))],ofRO [((2,0),some (.bx [D.int n,D.int r,shI m.d])),((4,0),some (.bx [D.int 0,D.int 0,.v (.slice none 0 0)])),((5,0),some (.bx [D.int n,D.int r,.ow 1 m.d.length (ints M)]))]⟩:=by
        refine hK _ ?_;clear hK K
        show AWp _ _ _ _ _
        refine wcond _ rfl (fun hc5=>?_) (fun hc5=>?_)
        ·have h5:=d_t hc5
         rw [if_pos h5] at hst
         refine wdrawI [(true,0),(true,1),(true,2),(true,3),(true,4),(true,5),(true,6),(true,7),(true,8),(true,9),(true,10),(true,12),(true,13),(true,14),(false,11),(true,15),(true,16),(false,17)] ⟨by kernel_rfl,by kernel_rfl⟩ ([0,1,2,3,4,5,6,7,8,9,10,12,13,14,11] ++ ([15,16,17])) rfl fun K hK=>?_
         refine oSg fun L hL=>?_
         simp [C.spec_l1Mutate,get_ints,hml,hqL,hMq,hq0,hq1,show (q:Int) < m.d.length by omega,hwab,wrapOk (x:=X - A*B) (by omega) (by omega),hst]
         refine wcall1 (hat3) (by simp) (by simp) ?_
         simp [C.spec_l1Mutate,get_ints,hml,hqL,hMq,hq0,hq1,show (q:Int) < m.d.length by omega,hwab,wrapOk (x:=X - A*B) (by omega) (by omega),hst]
         refine hL _ ?_;clear hL L
         refine oEn fun L hL=>?_
         simp [C.spec_l1Mutate,get_ints,hml,hqL,hMq,hq0,hq1,show (q:Int) < m.d.length by omega,hwab,wrapOk (x:=X - A*B) (by omega) (by omega),hst]
         refine hL _ ?_;clear hL L
         simp [C.spec_l1Mutate,get_ints,hml,hqL,hMq,hq0,hq1,show (q:Int) < m.d.length by omega,hwab,wrapOk (x:=X - A*B) (by omega) (by omega),hst]
         refine hK _ ?_;clear hK K
         show AWp _ _ _ _ _
         refine wreg fun K hK=>?_
         simp [C.spec_l1Mutate,wrap_succ (show x2 < 4611686018427387904 by omega)]
         refine hK _ ?_;clear hK K
         simp [C.spec_l1Mutate]
         refine cast (congrArg R2 ?_) (hR2 (x2+1) hj (by omega))
         simp [<-Nat.add_assoc,<-hq]
        ·have h5:=d_f hc5
         rw [if_neg h5] at hst
         have hMM:M=(muD m k).take (q+1) ++ m.d.drop (q+1):=by
          rw [<-hst]
          refine (List.ext_getElem? fun z=>?_)
          rw [List.getElem?_set]
          split
          ·rename_i e
           subst e
           rw [if_pos (by omega),List.getElem?_eq_getElem (by omega),hMq]
          ·rfl
         refine wskip ?_
         show AWp _ _ _ _ _
         refine wreg fun K hK=>?_
         simp [C.spec_l1Mutate,wrap_succ (show x2 < 4611686018427387904 by omega)]
         refine hK _ ?_;clear hK K
         simp [C.spec_l1Mutate]
         refine cast (congrArg R2 ?_) (hR2 (x2+1) hj (by omega))
         simp [<-Nat.add_assoc,<-hq,<-hMM]
       clear hK
       by_cases h1:A < 0
       ·simp [C.spec_l1Mutate,h1]
        refine cast (congrArg K ?_) hJ
        simp [h1]
       ·simp [C.spec_l1Mutate,h1]
        refine cast (congrArg K ?_) hJ
        simp [h1]
     clear hK
     by_cases h1:0 < A
     ·simp [C.spec_l1Mutate,h1]
      refine cast (congrArg K ?_) hJ
      simp [h1]
     ·simp [C.spec_l1Mutate,h1]
      refine cast (congrArg K ?_) hJ
      simp [h1]
   clear hK
   by_cases h1:x1=k
   ·simp [C.spec_l1Mutate,natbeq,h1]
    refine cast (congrArg K ?_) hJ
    simp [natbeq,h1]
   ·simp [C.spec_l1Mutate,natbeq,h1]
    refine cast (congrArg K ?_) hJ
    simp [natbeq,h1]
  ·have hj:x2=n:=by have:=d_f hc2;omega
   refine wexit ?_
   show AWp _ _ _ _ _
   refine wreg fun K hK=>?_
   simp [C.spec_l1Mutate,wrap_succ (show x1 < 4611686018427387904 by omega)]
   refine hK _ ?_;clear hK K
   simp [C.spec_l1Mutate]
   refine cast (congrArg R1 ?_) (hR1 (x1+1) hi (by omega))
   simp [Nat.add_mul,hj]
 ·have hi:x1=r:=by have:=d_f hc1;omega
  have htk:List.take (x1*n) (muD m k) ++ List.drop (x1*n) m.d=muD m k:=by
   rw [hi,<-hL,List.take_of_length_le (by simp),List.drop_length,List.append_nil]
  refine wexit ?_
  show AWp _ _ _ _ _
  refine wseq ?_
  refine wreg fun K hK=>?_
  simp [C.spec_l1Mutate]
  refine hK _ ?_;clear hK K
  show AWp _ _ _ _ _
  refine wret ?_
  simp [C.spec_l1Mutate,mO,muM,htk,hn,hr]
theorem spec_MutateMatrix_c (m:Mat) (k:Int) (hx:m.d.length < 17592186044416):ACalls Try.prog F.spec_MutateMatrix [aM m,.int k] [] true (fun outs res=>outs=[]/\WkRs res [.ag (mO (muF m k).1),.one (D.bool (muF m k).2)]):=by
 refine ACalls.of_body (C:=C.spec_MutateMatrix) (n:=Try.f118.ntmps) tabT folT Try.func118 rfl (by kernel_rfl) rfl (Nat.le_of_ble_eq_true rfl) (by decide) (by kernel_rfl) (by kernel_rfl) rfl (by simp) (by simp) ?_
 simp only [Try.f118]
 refine wseq ?_
 refine wreg fun K hK=>?_
 simp [C.spec_MutateMatrix,mO]
 refine hK _ ?_;clear hK K
 show AWp _ _ _ _ _
 refine wseq ?_
 refine wseq ?_
 refine wregI ([0,1] ++ ([2,3,4,5,6,7,8] ++ ([9,10]))) rfl fun K hK=>?_
 have hJ:K ⟨ofL [(1,.int k),(2,.pt (2,0) [] 0),(4,.pt (4,0) [] 0),(17,.bool (!decide (MatOK m/\(0<=k/\k < m.n))))],ofRO [((2,0),some (.bx [D.int m.n,D.int m.r,shI m.d])),((4,0),some (.bx [D.int 0,D.int 0,.v (.slice none 0 0)]))]⟩:=by
  refine hK _ ?_;clear hK K
  show AWp _ _ _ _ _
  refine wcond _ rfl (fun hc1=>?_) (fun hc1=>?_)
  ·have hr:=nd_t hc1
   have hm:muF m k=(⟨0,0,[]⟩,false):=if_neg (fun h=>hr ⟨h.1,h.2.1⟩)
   refine wseq ?_
   refine wreg fun K hK=>?_
   simp [C.spec_MutateMatrix,mO]
   refine hK _ ?_;clear hK K
   show AWp _ _ _ _ _
   refine wret ?_
   simp [C.spec_MutateMatrix,mO,hm,ints]
  ·have hr:=nd_f hc1
   obtain ⟨hok,hk⟩:=hr
   have hS:=hok.1
   obtain ⟨n,hn⟩:∃ n:Nat,m.n=n:=⟨m.n.toNat,by have:=hS.1;omega⟩
   obtain ⟨r,hr⟩:∃ r:Nat,m.r=r:=⟨m.r.toNat,by have:=hS.1;have:=hS.2.1;omega⟩
   obtain ⟨k,rfl⟩:∃ j:Nat,k=j:=⟨k.toNat,by omega⟩
   have hcall:=spec_l1Mutate_c m n r k hn hr hS (by omega)
   have hm:muF m k=if MatOK (muM m k) then (muM m k,true) else (⟨0,0,[]⟩,false):=by
    unfold muF
    rw [Int.toNat_natCast]
    by_cases q:MatOK (muM m k)
    ·rw [if_pos ⟨hok,hk,q⟩,if_pos q]
    ·rw [if_neg (fun h=>q h.2.2),if_neg q]
   have hml:(muM m k).d.length < 17592186044416:=by
    show (muD m k).length < _
    simpa using hx
   have hszok:SzM (muM m k)↔MatOK (muM m k):=⟨fun q=>⟨q.1,muM_sol hok hk.2⟩,matok_sz⟩
   refine wskip ?_
   show AWp _ _ _ _ _
   refine wseq ?_
   refine wregI ([0,1,2] ++ ([3,4])) rfl fun K hK=>?_
   refine oSg fun L hL=>?_
   simp [C.spec_MutateMatrix,mO,hn,hr]
   refine wcall1 (hcall) (by simp) (by simp) ?_
   simp [C.spec_MutateMatrix,mO,hn,hr]
   refine hL _ ?_;clear hL L
   refine oEn fun L hL=>?_
   simp [C.spec_MutateMatrix,mO,hn,hr]
   refine hL _ ?_;clear hL L
   simp [C.spec_MutateMatrix,mO,hn,hr]
   refine hK _ ?_;clear hK K
   show AWp _ _ _ _ _
   refine wseq ?_
   refine wseq ?_
   refine wregI ([0,1] ++ ([2])) rfl fun K hK=>?_
   refine oSg fun L hL=>?_
   simp [C.spec_MutateMatrix,mO]
   refine wcall1 (spec_l1Sizes_c (muM m k) hml) (by simp) (by simp) ?_
   simp [C.spec_MutateMatrix,mO]
   refine hL _ ?_;clear hL L
   refine oEn fun L hL=>?_
   simp [C.spec_MutateMatrix,mO]
   refine hL _ ?_;clear hL L
   simp [C.spec_MutateMatrix,mO]
   refine hK _ ?_;clear hK K
   show AWp _ _ _ _ _
   refine wcond _ rfl (fun hc2=>?_) (fun hc2=>?_)
   ·have hno:¬ MatOK (muM m k):=fun h=>nd_t hc2 (hszok.2 h)
    refine wseq ?_
    refine wreg fun K hK=>?_
    simp [C.spec_MutateMatrix,mO]
    refine hK _ ?_;clear hK K
    show AWp _ _ _ _ _
    refine wret ?_
    simp [C.spec_MutateMatrix,mO,hm,hno,ints]
   ·have hyes:=hszok.1 (nd_f hc2)
    refine wskip ?_
    show AWp _ _ _ _ _
    refine wseq ?_
    refine wreg fun K hK=>?_
    simp [C.spec_MutateMatrix,mO]
    refine hK _ ?_;clear hK K
    show AWp _ _ _ _ _
    refine wret ?_
    simp [C.spec_MutateMatrix,mO,hm,hyes]
 clear hK
 by_cases h1:MatOK m
 ·have hwn:IntKind.i64.wrap (m.n - 1)=m.n - 1:=by have:=h1.1.1;exact wrapOk (by omega) (by omega)
  have hle:∀ x:Int,(x<=m.n - 1)=(x < m.n):=fun x=>by rw [eq_iff_iff];omega
  refine oSg fun L hL=>?_
  simp [C.spec_MutateMatrix,mO,hwn,hle,h1]
  refine wcall1 (spec_MatrixOk_c m hx) (by simp) (by simp) ?_
  simp [C.spec_MutateMatrix,mO,hwn,hle,h1]
  refine hL _ ?_;clear hL L
  refine oSg fun L hL=>?_
  simp [C.spec_MutateMatrix,mO,hwn,hle,h1]
  refine wcall1 (spec_l1In_c k 0 (m.n - 1)) (by simp) (by simp) ?_
  simp [C.spec_MutateMatrix,mO,hwn,hle,h1]
  refine hL _ ?_;clear hL L
  refine oEn fun L hL=>?_
  simp [C.spec_MutateMatrix,mO,hwn,hle,h1]
  refine hL _ ?_;clear hL L
  simp [C.spec_MutateMatrix,mO,hwn,hle,h1]
  refine cast (congrArg K ?_) hJ
  simp [Bool.not_and,mO,h1]
 ·refine oSg fun L hL=>?_
  simp [C.spec_MutateMatrix,mO,h1]
  refine wcall1 (spec_MatrixOk_c m hx) (by simp) (by simp) ?_
  simp [C.spec_MutateMatrix,mO,h1]
  refine hL _ ?_;clear hL L
  refine oSg fun L hL=>?_
  simp [C.spec_MutateMatrix,mO,h1]
  refine hL _ ?_;clear hL L
  refine oEn fun L hL=>?_
  simp [C.spec_MutateMatrix,mO,h1]
  refine hL _ ?_;clear hL L
  simp [C.spec_MutateMatrix,mO,h1]
  refine cast (congrArg K ?_) hJ
  simp [Bool.not_and,mO,h1]
theorem sMu_c (m:Mat) (k:Int) (hx:m.d.length < 17592186044416):ACalls Try.prog F.spec_MutateMatrix [aM m,.int k] [] true (fun outs res=>outs=[]/\res=[.ag (mO (muF m k).1),.one (D.bool (muF m k).2)]):=(spec_MutateMatrix_c m k hx).weak1
end Go.Proofs.Ytfcgcgmleogamaa.Ab
namespace Go.Proofs.Ytfcgcgmleogamaa.Ab
open Go
section
variable {K:Type} [DecidableEq K]
structure Act (lt:K->K->Bool) (mul dv:K->K->K) (D:K->Prop):Prop where
 mul_dv:∀ a b,D a->D b->mul (dv a b) b=a
 dv_lt:∀ x y b,D x->D y->D b->lt x y=true->lt (dv x b) (dv y b)=true
 mul_lt:∀ e x y,D e->D x->D y->lt x y=true->lt (mul e x) (mul e y)=true
 dmul:∀ a b,D a->D b->D (mul a b)
 ddv:∀ a b,D a->D b->D (dv a b)
def mulT (mul:K->K->K) (e:K) (q:Int) (g:List (K×Int)):List (K×Int):=g.map fun y=>(mul e y.1,q*y.2)
def prodK (mul:K->K->K) (a g:List (K×Int)):List (K×Int):=a.flatMap fun x=>mulT mul x.1 x.2 g
def divGo (lt:K->K->Bool) (mul dv:K->K->K) (chk:K->Int->Bool) (g:List (K×Int)) (b:K) (d:Int):Nat->List (K×Int)->Option (List (K×Int))
 | _,[]=>some []
 | 0,_ :: _=>none
 | k+1,x :: R=>if x.2.tmod d=0/\chk (dv x.1 b) (x.2.tdiv d)=true then
   (divGo lt mul dv chk g b d k (nf lt (x :: R ++ mulT mul (dv x.1 b) (-(x.2.tdiv d)) g))).map ((dv x.1 b,x.2.tdiv d) :: ·) else none
variable {lt:K->K->Bool} {mul dv:K->K->K} {D:K->Prop} {chk chk':K->Int->Bool} {g:List (K×Int)} {b:K} {d:Int}
@[simp] theorem mulT_length (e:K) (q:Int) (g:List (K×Int)):(mulT mul e q g).length=g.length:=by simp [mulT]
end
end Go.Proofs.Ytfcgcgmleogamaa.Ab
namespace Go.Proofs.Ytfcgcgmleogamaa.Ab
open Go
def maxF (x:Int) (ts:List Trm) (i:Nat):Int:=ts.foldl (fun m t=>max m (t.e.getD i 0)) x
def highA (x:Nat->Int) (ts:List Trm) (n:Nat):List Int:=(List.range n).map fun i=>maxF (x i) ts i
@[simp] theorem highA_length (x:Nat->Int) (ts:List Trm) (n:Nat):(highA x ts n).length=n:=by simp [highA]
def highL (ts:List Trm) (n:Nat):List Int:=highA (headE ts) ts n
def chkI (e:List Int) (q:Int):Bool:=decide ((∀ x∈e,-20<=x/\x<=20)/\q≠0/\-1000000<=q/\q<=1000000)
def inBox (f g:Lau) (n:Nat) (e:List Int):Prop:=∀ i,i < n->(lowL f.ts n).getD i 0 - (lowL g.ts n).getD i 0<=e.getD i 0/\e.getD i 0<=(highL f.ts n).getD i 0 - (highL g.ts n).getD i 0
instance (f g:Lau) (n:Nat) (e:List Int):Decidable (inBox f g n e):=Nat.decidableBallLT n _
def leadE (g:Lau):List Int:=match g.ts with | []=>[] | t :: _=>t.e
def leadC (g:Lau):Int:=match g.ts with | []=>1 | t :: _=>t.c
def divL (chk:List Int->Int->Bool) (g:Lau) (k:Nat) (R:List (List Int×Int)):Option (List (List Int×Int)):=divGo lexlt (addE 1) (addE (-1)) chk (g.ts.map pr) (leadE g) (leadC g) k R
noncomputable def endF (v:Int):Option (List (List Int×Int))->Lau×Bool
 | some O=>if Right ⟨v,O.map tm⟩ then (⟨v,O.map tm⟩,true) else (zeroF,false)
 | none=>(zeroF,false)
noncomputable def divF (f g:Lau):Lau×Bool:=if (Right f/\Right g/\f.v=g.v)/\g.ts≠[] then endF f.v (divL chkI g 600 (f.ts.map pr)) else (zeroF,false)
theorem pr_desc {f:Lau} (h:Right f):Desc lexlt (f.ts.map pr):=by
 unfold Desc
 rw [List.pairwise_map]
 exact h.2.2.2
theorem pr_nz {f:Lau} (h:Right f):Nz (f.ts.map pr):=fun x hx=>by
 obtain ⟨t,ht,rfl⟩:=List.mem_map.1 hx
 exact (h.2.2.1 t ht).2.1
end Go.Proofs.Ytfcgcgmleogamaa.Ab
namespace Go.Proofs.Ytfcgcgmleogamaa.Ab
open Go
end Go.Proofs.Ytfcgcgmleogamaa.Ab
namespace Go.Proofs.Ytfcgcgmleogamaa.Ab
open Go
set_option maxRecDepth 10000
set_option maxHeartbeats 2000000
@[simp] theorem lowL_length (ts:List Trm) (n:Nat):(lowL ts n).length=n:=by simp [lowL]
@[simp] theorem highL_length (ts:List Trm) (n:Nat):(highL ts n).length=n:=by simp [highL]
end Go.Proofs.Ytfcgcgmleogamaa.Ab
namespace Go.Proofs.Ytfcgcgmleogamaa.Ab
open Go Go.Proofs
end Go.Proofs.Ytfcgcgmleogamaa.Ab
namespace Go.Proofs.Ytfcgcgmleogamaa.Ab
open Go
set_option maxRecDepth 10000
set_option maxHeartbeats 2000000
attribute [local simp] mapKV flatInt tileB
end Go.Proofs.Ytfcgcgmleogamaa.Ab
namespace Go.Proofs.Ytfcgcgmleogamaa.Ab
open Go
end Go.Proofs.Ytfcgcgmleogamaa.Ab
namespace Go.Proofs.Ytfcgcgmleogamaa.Ab
open Go
end Go.Proofs.Ytfcgcgmleogamaa.Ab
namespace Go.Proofs.Ytfcgcgmleogamaa.Ab
open Go
set_option maxRecDepth 10000
set_option maxHeartbeats 2000000
def prk (k:Int) (t:Trm):List Int×Int:=(t.e,k*t.c)
noncomputable def addF (f:Lau) (k:Int) (g:Lau):Lau×Bool:=if (Right f/\Right g/\f.v=g.v)/\(-1000<=k/\k<=1000) then shutF f.v (f.ts.map pr ++ g.ts.map (prk k)) else (zeroF,false)
end Go.Proofs.Ytfcgcgmleogamaa.Ab
namespace Go.Proofs.Ytfcgcgmleogamaa.Ab
open Go
set_option maxRecDepth 10000
set_option maxHeartbeats 2000000
end Go.Proofs.Ytfcgcgmleogamaa.Ab
namespace Go.Proofs.Ytfcgcgmleogamaa.Ab
open Go
end Go.Proofs.Ytfcgcgmleogamaa.Ab
namespace Go.Proofs.Ytfcgcgmleogamaa.Ab
open Go
end Go.Proofs.Ytfcgcgmleogamaa.Ab
namespace Go.Proofs.Ytfcgcgmleogamaa.Ab
open Go
set_option maxRecDepth 10000
set_option maxHeartbeats 2000000
end Go.Proofs.Ytfcgcgmleogamaa.Ab
namespace Go.Proofs.Ytfcgcgmleogamaa.Ab
open Go
set_option maxRecDepth 10000
set_option maxHeartbeats 2000000
attribute [local simp] mapKV flatInt tileB
end Go.Proofs.Ytfcgcgmleogamaa.Ab
namespace Go.Proofs.Ytfcgcgmleogamaa.Ab
open Go
set_option maxRecDepth 10000
set_option maxHeartbeats 2000000
end Go.Proofs.Ytfcgcgmleogamaa.Ab
namespace Go.Proofs.Ytfcgcgmleogamaa.Ab
open Go
set_option maxRecDepth 10000
set_option maxHeartbeats 2000000
def VarOk (r:Int) (f:Lau):Prop:=Right f/\f.ts≠[]/\f.v=r
def SeedOK (s:Sed):Prop:=MatOK s.m/\(s.f.length:Int)=s.m.r/\∀ f∈s.f,VarOk s.m.r f
noncomputable instance (r:Int) (f:Lau):Decidable (VarOk r f):=Classical.propDecidable _
noncomputable instance (s:Sed):Decidable (SeedOK s):=Classical.propDecidable _
end Go.Proofs.Ytfcgcgmleogamaa.Ab
namespace Go.Proofs.Ytfcgcgmleogamaa.Ab
open Go
set_option maxRecDepth 10000
set_option maxHeartbeats 2000000
noncomputable def itM (f:Lau):Nat->Lau->Option Lau
 | 0,p=>some p
 | n+1,p=>if (mulF p f).2=true then itM f n (mulF p f).1 else none
noncomputable def prodE (sg:Int):List Lau->List Int->Lau->Option Lau
 | f :: fs,c :: cs,p=>(itM f (sg*c).toNat p).bind (prodE sg fs cs)
 | [],_,p=>some p
 | _ :: _,[],p=>some p
def colM (m:Mat) (r k:Nat):List Int:=(List.range r).map fun i=>bM m i k
@[simp] theorem colM_length (m:Mat) (r k:Nat):(colM m r k).length=r:=by simp [colM]
noncomputable def exF (fs:List Lau) (cs:List Int) (r:Nat) (old:Lau):Lau×Bool:=
 if ∀ c∈cs,-8<=c/\c<=8 then (match prodE 1 fs cs (oneF r),prodE (-1) fs cs (oneF r) with
  | some a,some b=>if (addF a 1 b).2=true then divF (addF a 1 b).1 old else (zeroF,false)
  | _,_=>(zeroF,false)) else (zeroF,false)
end Go.Proofs.Ytfcgcgmleogamaa.Ab
namespace Go.Proofs.Ytfcgcgmleogamaa.Ab
open Go
set_option maxRecDepth 10000
set_option maxHeartbeats 2000000
theorem muF_len (m:Mat) (k:Int):(muF m k).1.d.length<=m.d.length:=by
 unfold muF
 split
 ·simp [muM]
 ·simp
end Go.Proofs.Ytfcgcgmleogamaa.Ab
namespace Go.Proofs.Ytfcgcgmleogamaa.Ab
open Go
section
variable {K:Type} [DecidableEq K] {lt:K->K->Bool} {mul dv:K->K->K} {D:K->Prop} {chk:K->Int->Bool}
end
end Go.Proofs.Ytfcgcgmleogamaa.Ab
namespace Go.Proofs.Ytfcgcgmleogamaa.Ab
open Go
theorem lau_eta (f:Lau):(⟨f.v,(f.ts.map pr).map tm⟩:Lau)=f:=by
 rw [List.map_map]
 have:tm ∘ pr=id:=rfl
 rw [this,List.map_id]
end Go.Proofs.Ytfcgcgmleogamaa.Ab
namespace Go.Proofs.Ytfcgcgmleogamaa.Ab
open Go
section
variable {K:Type} [DecidableEq K] {lt:K->K->Bool} {mul:K->K->K}
def vl (φ:K->Int):List (K×Int)->Int
 | []=>0
 | x :: l=>x.2*φ x.1+vl φ l
omit [DecidableEq K] in
theorem vl_app (φ:K->Int):∀ l r:List (K×Int),vl φ (l ++ r)=vl φ l+vl φ r
 | [],r=>by simp [vl]
 | x :: l,r=>by simp only [List.cons_append,vl,vl_app φ l r];omega
theorem co_vl (k:K):∀ l:List (K×Int),co k l=vl (fun e=>if e=k then 1 else 0) l
 | []=>rfl
 | x :: l=>by
  simp only [co,vl,co_vl k l]
  split <;> simp
theorem nf_vl (ho:Ord lt) {l r:List (K×Int)} (h:∀ φ,vl φ l=vl φ r):nf lt l=nf lt r:=
 nf_unique ho (nf_desc ho _) (nf_nz _) fun k=>by rw [nf_co,co_vl,co_vl,h]
omit [DecidableEq K] in
theorem vl_congr {φ ψ:K->Int}:∀ {l:List (K×Int)},(∀ x∈l,φ x.1=ψ x.1)->vl φ l=vl ψ l
 | [],_=>rfl
 | x :: l,h=>by
  simp only [vl,h x (by simp),vl_congr (l:=l) fun y hy=>h y (by simp [hy])]
omit [DecidableEq K] in
theorem vl_add (φ ψ:K->Int):∀ l:List (K×Int),vl (fun e=>φ e+ψ e) l=vl φ l+vl ψ l
 | []=>rfl
 | x :: l=>by
  simp only [vl,vl_add φ ψ l,Int.mul_add]
  omega
omit [DecidableEq K] in
theorem vl_mul (c:Int) (φ:K->Int):∀ l:List (K×Int),vl (fun e=>c*φ e) l=c*vl φ l
 | []=>by simp [vl]
 | x :: l=>by
  simp only [vl,vl_mul c φ l,Int.mul_add]
  rw [Int.mul_left_comm]
omit [DecidableEq K] in
theorem vl_zero:∀ l:List (K×Int),vl (fun _=>0) l=0
 | []=>rfl
 | x :: l=>by simp [vl,vl_zero l]
omit [DecidableEq K] in
theorem vl_fub {J:Type} (φ:K->J->Int) (b:List (J×Int)):∀ a:List (K×Int),vl (fun e=>vl (fun e'=>φ e e') b) a=vl (fun e'=>vl (fun e=>φ e e') a) b
 | []=>by
  simp only [vl]
  rw [vl_zero]
 | x :: a=>by
  simp only [vl]
  rw [vl_add,vl_mul,vl_fub φ b a]
omit [DecidableEq K] in
theorem vl_map (g:K->K) (q:Int) (φ:K->Int):∀ l:List (K×Int),vl φ (l.map fun y=>(g y.1,q*y.2))=q*vl (fun e=>φ (g e)) l
 | []=>by simp [vl]
 | x :: l=>by
  simp only [List.map_cons,vl,vl_map g q φ l,Int.mul_add,Int.mul_assoc]
omit [DecidableEq K] in
theorem vl_prodK (φ:K->Int) (g:List (K×Int)):∀ a:List (K×Int),vl φ (prodK mul a g)=vl (fun e=>vl (fun e'=>φ (mul e e')) g) a
 | []=>rfl
 | x :: a=>by
  have:=vl_prodK φ g a
  unfold prodK at this ⊢
  simp only [List.flatMap_cons,vl_app,vl,this]
  unfold mulT
  rw [vl_map]
omit [DecidableEq K] in
theorem vl_prod_com {D:K->Prop} (hc:∀ a b,D a->D b->mul a b=mul b a) (φ:K->Int) {a b:List (K×Int)} (ha:∀ x∈a,D x.1) (hb:∀ x∈b,D x.1):vl φ (prodK mul a b)=vl φ (prodK mul b a):=by
 rw [vl_prodK,vl_prodK,vl_fub]
 exact vl_congr fun x hx=>vl_congr fun y hy=>by rw [hc _ _ (ha y hy) (hb x hx)]
omit [DecidableEq K] in
omit [DecidableEq K] in
end
end Go.Proofs.Ytfcgcgmleogamaa.Ab
namespace Go.Proofs.Ytfcgcgmleogamaa.Ab
open Go
def ValOk (f:Lau) (ys:List Int):Prop:=Right f/\(ys.length:Int)=f.v/\∀ y∈ys,y % 32003≠0
noncomputable instance (f:Lau) (ys:List Int):Decidable (ValOk f ys):=Classical.propDecidable _
end Go.Proofs.Ytfcgcgmleogamaa.Ab
namespace Go.Proofs.Ytfcgcgmleogamaa.Ab
open Go
set_option maxRecDepth 10000
set_option maxHeartbeats 2000000
def byts (xs:List Int):List D:=xs.map fun x=>D.v (.int .u8 x)
@[simp] theorem byts_length (xs:List Int):(byts xs).length=xs.length:=by simp [byts]
theorem byts_0 {xs:List Int} {i:Nat} (h:i < xs.length):(byts xs)[i]? = some (D.v (.int .u8 xs[i]))/\∀ h',(byts xs)[i]'h'=D.v (.int .u8 xs[i]):=by
 unfold byts
 exact ⟨by simp [h],fun _=>by simp⟩
theorem and_bd (x:Int) {m:Int} {b:Nat} (hm:(BitVec.ofInt 64 m).toNat=b) (hb:b < 4611686018427387904):0<=IntKind.i64.wrap ((BitVec.ofInt 64 x &&& BitVec.ofInt 64 m).toNat:Int)/\IntKind.i64.wrap ((BitVec.ofInt 64 x &&& BitVec.ofInt 64 m).toNat:Int)<=b:=by
 have h1:(BitVec.ofInt 64 x &&& BitVec.ofInt 64 m).toNat<=b:=by
  rw [BitVec.toNat_and,hm]
  exact Nat.and_le_right
 rw [wrapOk (by omega) (by omega)]
 omega
theorem ints_snocA (xs:List Int) (x:Int):ints xs ++ [D.v (.int .i64 x)]=ints (xs ++ [x]):=by simp [ints]
def cur (xs:List Int) (i:Nat) (h:Int):D:=.bx [.sh 1 xs.length (byts xs),D.int i,D.int h]
attribute [local simp] cur
def DrawI (xs:List Int) (p:Int->Prop) (outs:List D) (res:List RV):Prop:=∃ (i':Nat) (h' r:Int),i'<=xs.length/\p r/\outs=[cur xs i' h']/\res=[.one (D.int r)]
def DrawE (xs:List Int) (p:List Int->Prop) (outs:List D) (res:List RV):Prop:=∃ (i':Nat) (h':Int) (e:List Int),i'<=xs.length/\p e/\outs=[cur xs i' h']/\res=[.one (owI e)]
theorem laws_big_c (xs:List Int):ACalls Try.prog F.laws_big [.d (.sh 1 xs.length (byts xs))] [] true (fun outs res=>outs=[]/\res=[.one (D.bool (decide (1048576 < (xs.length:Int))))]):=by
 refine ACalls.of_body (C:=C.laws_big) (n:=Try.f9.ntmps) tabT folT Try.func9 rfl (by kernel_rfl) rfl (Nat.le_of_ble_eq_true rfl) (by decide) (by kernel_rfl) (by kernel_rfl) rfl (by simp) (by simp) ?_
 simp only [Try.f9]
 refine wseq ?_
 refine wreg fun K hK=>?_
 simp [C.laws_big]
 refine hK _ ?_;clear hK K
 show AWp _ _ _ _ _
 refine wseq ?_
 refine wreg fun K hK=>?_
 simp [C.laws_big]
 refine hK _ ?_;clear hK K
 show AWp _ _ _ _ _
 refine wret ?_
 simp [C.laws_big]
theorem spec_l1New_c (xs:List Int) (hx:xs.length<=1048576):ACalls Try.prog F.spec_l1New [.d (.sh 1 xs.length (byts xs))] [] false (fun outs res=>outs=[]/\∃ h:Int,res=[.one (cur xs 0 h)]):=by
 refine ACalls.of_body (C:=C.spec_l1New) (n:=Try.f53.ntmps) tabT folT Try.func53 rfl (by kernel_rfl) rfl (Nat.le_of_ble_eq_true rfl) (by decide) (by kernel_rfl) (by kernel_rfl) rfl (by simp) (by simp) ?_
 simp only [Try.f53]
 refine wseq ?_
 refine wreg fun K hK=>?_
 simp [C.spec_l1New]
 refine hK _ ?_;clear hK K
 show AWp _ _ _ _ _
 refine wseq ?_
 refine wreg fun K hK=>?_
 simp [C.spec_l1New]
 rw [wrapOk (x:=124929+(xs.length:Int)) (by omega) (by omega)]
 refine hK _ ?_;clear hK K
 show AWp _ _ _ _ _
 refine wseq ?_
 refine wseq ?_
 refine wreg fun K hK=>?_
 simp [C.spec_l1New]
 refine hK _ ?_;clear hK K
 show AWp _ _ _ _ _
 refine wblock ?_
 refine wloop (fun x:Nat×Int=>⟨ofL [(0,.d (.sh 1 xs.length (byts xs))),(3,.int x.2),(4,.int x.1)],ofRO []⟩) (fun x=>x.1<=xs.length) (fun x=>xs.length - x.1) (0,124929+(xs.length:Int)) (by simp [C.spec_l1New]) (by simp) ?_
 intro x1 hx1 R1 hR1
 obtain ⟨j,h⟩:=x1
 dsimp only at hx1 ⊢
 refine wseq ?_
 refine wseq ?_
 refine wreg fun K hK=>?_
 have hJ:K ⟨ofL [(0,.d (.sh 1 xs.length (byts xs))),(3,.int h),(4,.int j),(15,.bool (decide (j < xs.length/\(j:Int) < 4000)))],ofRO []⟩:=by
  refine hK _ ?_;clear hK K
  show AWp _ _ _ _ _
  refine wcond _ rfl (fun hc1=>?_) (fun hc1=>?_)
  ·have hh:=d_t hc1
   have h1:j < xs.length:=hh.1
   refine wskip ?_
   show AWp _ _ _ _ _
   refine wseq ?_
   refine wblock ?_
   refine wreg fun K hK=>?_
   simp [C.spec_l1New,h1,byts_0 h1]
   refine hK _ ?_;clear hK K
   show AWp _ _ _ _ _
   refine wreg fun K hK=>?_
   simp [C.spec_l1New,wrap_succ (show j < 4611686018427387904 by omega)]
   refine hK _ ?_;clear hK K
   simp [C.spec_l1New]
   exact hR1 (j+1,_) h1 (by dsimp only;omega)
  ·refine wexit ?_
   show AWp _ _ _ _ _
   refine wseq ?_
   refine wreg fun K hK=>?_
   simp [C.spec_l1New]
   refine hK _ ?_;clear hK K
   show AWp _ _ _ _ _
   refine wret ?_
   simp [C.spec_l1New,cur]
 clear hK
 by_cases ha:j < xs.length
 ·simp [C.spec_l1New,ha]
  refine cast (congrArg K ?_) hJ
  simp [ha]
 ·simp [C.spec_l1New,ha]
  refine cast (congrArg K ?_) hJ
  simp [ha]
theorem spec_l1Byte_c (xs:List Int) (i:Nat) (h:Int) (hi:i<=xs.length) (hx:xs.length<=1048576):ACalls Try.prog F.spec_l1Byte [.pt (0,0) [] 0] [((0,0),cur xs i h)] false (DrawI xs (fun r=>0<=r/\r<=255)):=by
 refine ACalls.of_body (C:=C.spec_l1Byte) (n:=Try.f172.ntmps) tabT folT Try.func172 rfl (by kernel_rfl) rfl (Nat.le_of_ble_eq_true rfl) (by decide) (by kernel_rfl) (by kernel_rfl) rfl (by simp) (by simp) ?_
 simp only [Try.f172]
 refine wseq ?_
 refine wreg fun K hK=>?_
 simp [C.spec_l1Byte,cur]
 refine hK _ ?_;clear hK K
 show AWp _ _ _ _ _
 refine wseq ?_
 refine wreg fun K hK=>?_
 simp [C.spec_l1Byte,cur]
 refine hK _ ?_;clear hK K
 show AWp _ _ _ _ _
 refine wseq ?_
 refine wdrawI [(true,0),(true,1),(true,2),(true,3),(true,4),(true,5),(true,6),(true,7),(true,8),(true,9),(true,10),(true,11),(true,12)] ⟨by kernel_rfl,by kernel_rfl⟩ ([0,1,2,3,4,5,6,7,8,9,10,11,12]) rfl fun K hK=>?_
 refine oEn fun L hL=>?_
 simp [C.spec_l1Byte,cur]
 refine hL _ ?_;clear hL L
 simp [C.spec_l1Byte,cur]
 refine hK _ ?_;clear hK K
 show AWp _ _ _ _ _
 refine wseq ?_
 refine wseq ?_
 refine wdraw (.take 0 (.take 1 (.take 2 (.take 3 (.take 4 (.take 5 (.take 6 (.take 7 (.take 8 (.take 9 (.done))))))))))) ⟨by kernel_rfl,by kernel_rfl⟩ fun K hK=>?_
 simp [C.spec_l1Byte,cur]
 refine hK _ ?_;clear hK K
 show AWp _ _ _ _ _
 refine wcond _ rfl (fun hc1=>?_) (fun hc1=>?_)
 ·have h1:i < xs.length:=by have:=d_t hc1;omega
  refine wseq ?_
  refine wdrawI [(true,0),(true,1),(true,2),(true,3),(true,4),(true,5),(true,6),(true,7),(true,8),(true,9),(true,10),(true,11),(true,12),(true,13),(true,14)] ⟨by kernel_rfl,by kernel_rfl⟩ ([0,1,2,3,4,5,6,7,8,9,10,11,12,13,14]) rfl fun K hK=>?_
  refine oEn fun L hL=>?_
  simp [C.spec_l1Byte,cur,h1,byts_0 h1]
  refine hL _ ?_;clear hL L
  simp [C.spec_l1Byte,cur,h1,byts_0 h1]
  refine hK _ ?_;clear hK K
  show AWp _ _ _ _ _
  refine wreg fun K hK=>?_
  simp [C.spec_l1Byte,cur,wrap_succ (show i < 4611686018427387904 by omega)]
  refine hK _ ?_;clear hK K
  show AWp _ _ _ _ _
  refine wseq ?_
  refine wreg fun K hK=>?_
  simp [C.spec_l1Byte,cur]
  refine hK _ ?_;clear hK K
  show AWp _ _ _ _ _
  refine wret ?_
  simp [C.spec_l1Byte,cur,cur]
  exact ⟨i+1,_,_,h1,and_bd (m:=255) (b:=255) _ (by decide) (by decide),rfl,rfl⟩
 ·have h1:¬ i < xs.length:=by have:=d_f hc1;omega
  refine wskip ?_
  show AWp _ _ _ _ _
  refine wseq ?_
  refine wreg fun K hK=>?_
  simp [C.spec_l1Byte,cur]
  refine hK _ ?_;clear hK K
  show AWp _ _ _ _ _
  refine wret ?_
  simp [C.spec_l1Byte,cur,cur]
  exact ⟨i,_,_,hi,and_bd (m:=255) (b:=255) _ (by decide) (by decide),rfl,rfl⟩
theorem spec_l1Below_c (xs:List Int) (i:Nat) (h n:Int) (hi:i<=xs.length) (hx:xs.length<=1048576) (hn:0 < n/\n<=256):ACalls Try.prog F.spec_l1Below [.pt (0,0) [] 0,.int n] [((0,0),cur xs i h)] false (DrawI xs (fun r=>0<=r/\r < n)):=by
 refine ACalls.of_body (C:=C.spec_l1Below) (n:=Try.f124.ntmps) tabT folT Try.func124 rfl (by kernel_rfl) rfl (Nat.le_of_ble_eq_true rfl) (by decide) (by kernel_rfl) (by kernel_rfl) rfl (by simp) (by simp) ?_
 simp only [Try.f124]
 refine wseq ?_
 refine wreg fun K hK=>?_
 simp [C.spec_l1Below,cur]
 refine hK _ ?_;clear hK K
 show AWp _ _ _ _ _
 refine wseq ?_
 refine wseq ?_
 refine wreg fun K hK=>?_
 simp [C.spec_l1Below,cur]
 refine hK _ ?_;clear hK K
 show AWp _ _ _ _ _
 refine wcond _ rfl (fun hc1=>?_) (fun hc1=>?_)
 ·have:=d_t hc1;omega
 ·refine wskip ?_
  show AWp _ _ _ _ _
  refine wseq ?_
  refine wseq ?_
  refine wreg fun K hK=>?_
  simp [C.spec_l1Below,cur]
  refine hK _ ?_;clear hK K
  show AWp _ _ _ _ _
  refine wcond _ rfl (fun hc2=>?_) (fun hc2=>?_)
  ·refine wseq ?_
   refine wregI ([0,1] ++ ([2,3,4])) rfl fun K hK=>?_
   refine oSg fun L hL=>?_
   simp [C.spec_l1Below,cur,show ¬ n=0 by omega]
   refine wcall (spec_l1Byte_c xs i h hi hx) (by simp) (by simp) (by simp) ?_
   rintro outs res ⟨i',h',r,q1,q2,rfl,rfl⟩
   simp [C.spec_l1Below,cur,show ¬ n=0 by omega]
   refine hL _ ?_;clear hL L
   refine oEn fun L hL=>?_
   simp [C.spec_l1Below,cur,show ¬ n=0 by omega]
   refine hL _ ?_;clear hL L
   simp [C.spec_l1Below,cur,show ¬ n=0 by omega]
   refine hK _ ?_;clear hK K
   show AWp _ _ _ _ _
   refine wret ?_
   simp [C.spec_l1Below,cur]
   exact ⟨i',h',r.tmod n,q1,⟨Int.tmod_nonneg _ q2.1,Int.tmod_lt_of_pos _ hn.1⟩,rfl,rfl⟩
  ·have:=d_f hc2;omega
end Go.Proofs.Ytfcgcgmleogamaa.Ab
namespace Go.Proofs.Ytfcgcgmleogamaa.Ab
open Go
set_option maxRecDepth 10000
set_option maxHeartbeats 2000000
attribute [local simp] cur
def Drawn (n:Nat) (f:Lau):Prop:=Right f/\f.v=n/\f.ts.length<=4/\∀ t∈f.ts,(-16<=t.c/\t.c<=16)/\∀ x∈t.e,-2<=x/\x<=2
end Go.Proofs.Ytfcgcgmleogamaa.Ab
namespace Go.Proofs.Ytfcgcgmleogamaa.Ab
open Go
set_option maxRecDepth 10000
set_option maxHeartbeats 2000000
attribute [local simp] cur
theorem laws_ints_c (a b:List Int) (hx:a.length < 4611686018427387904):ACalls Try.prog F.laws_ints [.d (shI a),.d (shI b)] [] true (fun outs res=>outs=[]/\res=[.one (D.bool (decide (a=b)))]):=by
 refine ACalls.of_body (C:=C.laws_ints) (n:=Try.f33.ntmps) tabT folT Try.func33 rfl (by kernel_rfl) rfl (Nat.le_of_ble_eq_true rfl) (by decide) (by kernel_rfl) (by kernel_rfl) rfl (by simp) (by simp) ?_
 simp only [Try.f33]
 refine wseq ?_
 refine wreg fun K hK=>?_
 simp [C.laws_ints]
 refine hK _ ?_;clear hK K
 show AWp _ _ _ _ _
 refine wseq ?_
 refine wseq ?_
 refine wreg fun K hK=>?_
 simp [C.laws_ints]
 refine hK _ ?_;clear hK K
 show AWp _ _ _ _ _
 refine wcond _ rfl (fun hc1=>?_) (fun hc1=>?_)
 ·refine wseq ?_
  refine wreg fun K hK=>?_
  simp [C.laws_ints]
  refine hK _ ?_;clear hK K
  show AWp _ _ _ _ _
  refine wret ?_
  have hc:¬ a.length=b.length:=by simp at hc1;omega
  simp [C.laws_ints]
  intro e;simp [e] at hc
 ·refine wskip ?_
  show AWp _ _ _ _ _
  refine wseq ?_
  refine wseq ?_
  refine wreg fun K hK=>?_
  simp [C.laws_ints]
  refine hK _ ?_;clear hK K
  show AWp _ _ _ _ _
  refine wblock ?_
  have e:a.length=b.length:=by simp at hc1;omega
  refine wloop (fun k:Nat=>⟨ofL [(0,.d (shI a)),(1,.d (shI b)),(5,FV.int k)],ofRO []⟩) (fun k=>k<=a.length/\a.take k=b.take k) (fun k=>a.length - k) 0 (by simp [C.laws_ints]) (by simp) ?_
  intro x1 hx1 R1 hR1
  obtain ⟨hk,ht⟩:=hx1
  refine wseq ?_
  refine wseq ?_
  refine wreg fun K hK=>?_
  simp [C.laws_ints]
  refine hK _ ?_;clear hK K
  show AWp _ _ _ _ _
  refine wcond _ rfl (fun hc2=>?_) (fun hc2=>?_)
  ·refine wskip ?_
   show AWp _ _ _ _ _
   refine wseq ?_
   refine wblock ?_
   refine wseq ?_
   have h1:x1 < a.length:=by simpa using hc2
   have h2:x1 < b.length:=by omega
   refine wdraw (.take 0 (.take 1 (.take 2 (.take 3 (.take 4 (.take 5 (.take 6 (.take 7 (.take 8 (.done)))))))))) ⟨by kernel_rfl,by kernel_rfl⟩ fun K hK=>?_
   simp [C.laws_ints,h1,h2,get_ints]
   refine hK _ ?_;clear hK K
   show AWp _ _ _ _ _
   refine wcond _ rfl (fun hc3=>?_) (fun hc3=>?_)
   ·refine wseq ?_
    refine wreg fun K hK=>?_
    simp [C.laws_ints]
    refine hK _ ?_;clear hK K
    show AWp _ _ _ _ _
    refine wret ?_
    have hc:¬ a[x1]=b[x1]:=by simpa using hc3
    simp [C.laws_ints]
    intro e2
    subst e2
    exact hc rfl
   ·refine wskip ?_
    show AWp _ _ _ _ _
    refine wreg fun K hK=>?_
    simp [C.laws_ints,wrap_succ (show x1 < 4611686018427387904 by omega)]
    refine hK _ ?_;clear hK K
    simp [C.laws_ints]
    have hc:a[x1]=b[x1]:=by simpa using hc3
    refine hR1 (x1+1) ⟨h1,?_⟩ (by omega)
    rw [List.take_succ_eq_append_getElem h1,List.take_succ_eq_append_getElem h2,ht,hc]
  ·refine wexit ?_
   show AWp _ _ _ _ _
   refine wseq ?_
   refine wreg fun K hK=>?_
   simp [C.laws_ints]
   refine hK _ ?_;clear hK K
   show AWp _ _ _ _ _
   refine wret ?_
   have hk2:x1=a.length:=by simp at hc2;omega
   simp [C.laws_ints]
   rw [hk2,List.take_length,e,List.take_length] at ht
   exact ht
end Go.Proofs.Ytfcgcgmleogamaa.Ab
namespace Go.Proofs.Ytfcgcgmleogamaa.Ab
open Go
set_option maxRecDepth 10000
set_option maxHeartbeats 2000000
end Go.Proofs.Ytfcgcgmleogamaa.Ab
namespace Go.Proofs.Ytfcgcgmleogamaa.Ab
open Go
theorem addE_comm1:∀ (a b:List Int),a.length=b.length->addE 1 a b=addE 1 b a
 | [],[],_=>rfl
 | x :: a,y :: b,h=>by
  simp only [addE,addE_comm1 a b (by simpa using h),Int.one_mul]
  rw [Int.add_comm]
theorem prodL_eq (a b:List (List Int×Int)):prodL a b=prodK (addE 1) a b:=rfl
theorem ring_com {n:Nat} {f g:Lau} (hf:∀ x∈f.ts.map pr,x.1.length=n) (hg:∀ x∈g.ts.map pr,x.1.length=n):nf lexlt (prodL (f.ts.map pr) (g.ts.map pr))=nf lexlt (prodL (g.ts.map pr) (f.ts.map pr)):=
 nf_vl lexOrd fun φ=>by
  rw [prodL_eq,prodL_eq]
  exact vl_prod_com (D:=fun e=>e.length=n) (fun a b h1 h2=>addE_comm1 a b (h1.trans h2.symm)) φ hf hg
theorem addE_zero1:∀ (n:Nat) (a:List Int),a.length=n->addE 1 (List.replicate n 0) a=a
 | 0,[],_=>rfl
 | n+1,x :: a,h=>by
  simp only [List.replicate_succ,addE,addE_zero1 n a (by simpa using h)]
  simp
theorem one_mul {n:Nat} {f:Lau} (hf:Right f) (hn:f.v=n):mulF (oneF n) f=(f,true)/\mulF f (oneF n)=(f,true):=by
 have hn8:1<=n/\n<=8:=by have:=hf.1;omega
 have h1:=oneF_right hn8
 have hl:∀ x∈f.ts.map pr,x.1.length=n:=fun x hx=>by
  obtain ⟨t,ht,rfl⟩:=List.mem_map.1 hx
  exact (right_dig hf hn t ht).1
 have h1l:∀ x∈(oneF n).ts.map pr,x.1.length=n:=fun x hx=>by
  simp only [oneF,List.map_cons,List.map_nil,List.mem_singleton] at hx
  subst hx
  simp [pr]
 have e:prodL ((oneF n).ts.map pr) (f.ts.map pr)=f.ts.map pr:=by
  simp only [oneF,List.map_cons,List.map_nil,prodL,List.flatMap_cons,List.flatMap_nil,List.append_nil]
  have:∀ l:List (List Int×Int),(∀ x∈l,x.1.length=n)->l.map (fun y=>(addE 1 (pr ⟨List.replicate n 0,1⟩).1 y.1,(pr ⟨List.replicate n 0,1⟩).2*y.2))=l:=fun l hl=>by
   refine (List.map_congr_left fun x hx=>?_).trans (List.map_id l)
   simp only [pr,addE_zero1 n x.1 (hl x hx),Int.one_mul,id]
  exact this _ hl
 have enf:nf lexlt (f.ts.map pr)=f.ts.map pr:=(nf_unique lexOrd (pr_desc hf) (pr_nz hf) fun k=>rfl).symm
 constructor
 ·unfold mulF
  rw [if_pos ⟨h1,hf,hn.symm⟩,e]
  unfold shutF
  rw [enf]
  have:(⟨(oneF n).v,(f.ts.map pr).map tm⟩:Lau)=f:=by
   rw [show (oneF n).v=f.v from hn.symm]
   exact lau_eta f
  rw [this,if_pos hf]
 ·unfold mulF
  rw [if_pos ⟨hf,h1,hn⟩]
  unfold shutF
  rw [ring_com hl h1l,e,enf,lau_eta,if_pos hf]
end Go.Proofs.Ytfcgcgmleogamaa.Ab
namespace Go.Proofs.Ytfcgcgmleogamaa.Ab
open Go
theorem sh_dim {m:Mat} (h:ShM m):1<=m.n.toNat/\m.n.toNat<=5/\m.n.toNat<=m.r.toNat/\m.r.toNat<=8/\m.d.length=m.r.toNat*m.n.toNat/\(m.n.toNat:Int)=m.n/\(m.r.toNat:Int)=m.r:=by
 have h1:=h.1
 have h2:=h.2.1
 have h3:=h.2.2.1
 have e1:(m.n.toNat:Int)=m.n:=by omega
 have e2:(m.r.toNat:Int)=m.r:=by omega
 refine ⟨by omega,by omega,by omega,by omega,?_,e1,e2⟩
 rw [<-e1,<-e2,<-Int.natCast_mul,Nat.mul_comm] at h3
 omega
theorem muF_ok {m m':Mat} {k:Int} (h:muF m k=(m',true)):MatOK m/\(0<=k/\k < m.n)/\MatOK m'/\m'=muM m k.toNat:=by
 unfold muF at h
 split at h
 ·rename_i q
  injection h with h1 h2
  exact ⟨q.1,q.2.1,h1 ▸ q.2.2,h1.symm⟩
 ·simp at h
end Go.Proofs.Ytfcgcgmleogamaa.Ab
namespace Go.Proofs.Ytfcgcgmleogamaa.Ab
open Go
def zM:Mat:=⟨0,0,[]⟩
def idP (n i:Nat):List Int:=(List.range i).flatMap fun j=>unitL n j
theorem idP_succ (n i:Nat):idP n (i+1)=idP n i ++ unitL n i:=by simp [idP,List.range_succ]
@[simp] theorem idP_length (n:Nat):∀ i,(idP n i).length=i*n
 | 0=>by simp [idP]
 | i+1=>by rw [idP_succ,List.length_append,idP_length n i,unitL_length,Nat.add_mul,Nat.one_mul]
theorem unitL_mem {n i:Nat} {x:Int} (h:x∈unitL n i):x=0\/x=1:=by
 rcases List.mem_or_eq_of_mem_set h with h | h
 ·exact .inl (List.eq_of_mem_replicate h)
 ·exact .inr h
theorem idP_mem {n:Nat}:∀ {i:Nat} {x:Int},x∈idP n i->x=0\/x=1
 | 0,x,h=>by simp [idP] at h
 | i+1,x,h=>by
  rw [idP_succ] at h
  rcases List.mem_append.1 h with h | h
  ·exact idP_mem h
  ·exact unitL_mem h
theorem unitL_take {n i j:Nat} (hj:j < n):(unitL n i).take (j+1)=(unitL n i).take j ++ [if i=j then 1 else 0]:=by
 rw [List.take_succ_eq_append_getElem (by rw [unitL_length];exact hj)]
 simp [unitL,List.getElem_set]
def prinM (m:Mat):Mat:=⟨m.n,2*m.n,m.d ++ idP m.n.toNat m.n.toNat⟩
def SqOK (m:Mat):Prop:=MatOK m/\m.r=m.n/\2*m.n<=8
noncomputable instance (m:Mat):Decidable (SqOK m):=Classical.propDecidable _
theorem SqOK.dim {m:Mat} (h:SqOK m):∃ n:Nat,m.n=n/\m.r=n/\(1<=n/\n<=4)/\m.d.length=n*n:=by
 obtain ⟨h1,h2,h3⟩:=h
 have hd:=sh_dim h1.1
 refine ⟨m.n.toNat,by omega,by omega,by omega,?_⟩
 rw [hd.2.2.2.2.1,show m.r.toNat=m.n.toNat by omega]
theorem bM_prin {m:Mat} (h:SqOK m) {i j:Nat} (hi:(i:Int) < m.n) (hj:(j:Int) < m.n):bM (prinM m) i j=bM m i j:=by
 obtain ⟨n,h1,h2,h3,h4⟩:=h.dim
 obtain ⟨hq,_⟩:=bM_get h.1.1 (i:=i) (j:=j) (by omega) hj
 unfold bM g0
 show (m.d ++ idP m.n.toNat m.n.toNat).getD (i*m.n.toNat+j) 0=_
 rw [List.getD_eq_getElem?_getD,List.getD_eq_getElem?_getD,List.getElem?_append_left hq]
theorem prin_ok {m:Mat} (h:SqOK m):MatOK (prinM m):=by
 obtain ⟨n,h1,h2,h3,h4⟩:=h.dim
 have e:m.n.toNat=n:=by omega
 have hS:=h.1.1
 refine ⟨⟨by simp only [prinM];omega,by simp only [prinM];omega,?_,fun x hx=>?_⟩,?_⟩
 ·simp only [prinM,List.length_append,idP_length,e,h4,h1]
  rw [Int.natCast_add,Int.natCast_mul]
  grind
 ·simp only [prinM] at hx
  rcases List.mem_append.1 hx with hx | hx
  ·exact hS.2.2.2 x hx
  ·rcases idP_mem hx with rfl | rfl <;> omega
 ·obtain ⟨d,hd⟩:=h.1.2
  refine ⟨d,?_⟩
  show Sol m.n.toNat _ d
  exact hd.congr fun i j hi hj=>bM_prin h (by omega) (by omega)
noncomputable def wkL (m:Mat) (ks:List Int):Nat->Option (List Mat)
 | 0=>some [prinM m]
 | i+1=>match wkL m ks i with
  | some l=>if (muF (l.getD i zM) (ks.getD i 0)).2=true then some (l ++ [(muF (l.getD i zM) (ks.getD i 0)).1]) else none
  | none=>none
noncomputable def wkF (m:Mat) (ks:List Int):Option (List Mat):=if SqOK m/\ks.length<=40 then wkL m ks ks.length else none
theorem wkL_none {m:Mat} {ks:List Int} {n i:Nat} (h:wkL m ks n=none) (hi:n<=i):wkL m ks i=none:=by
 induction i with
 | zero=>
  obtain rfl:n=0:=by omega
  exact h
 | succ i ih=>
  by_cases q:n=i+1
  ·exact q ▸ h
  ·simp only [wkL,ih (by omega)]
def WkM (m p:Mat):Prop:=MatOK p/\p.n=m.n/\p.r=2*m.n
theorem wkL_ok {m:Mat} (h:SqOK m) {ks:List Int}:∀ {i:Nat} {l:List Mat},wkL m ks i=some l->l.length=i+1/\(∀ p∈l,WkM m p)/\∀ t,t < i->0<=ks.getD t 0/\ks.getD t 0 < m.n
 | 0,l,e=>by
  simp only [wkL,Option.some.injEq] at e
  subst e
  refine ⟨rfl,fun p hp=>?_,fun t ht=>absurd ht (by omega)⟩
  rw [List.mem_singleton] at hp
  subst hp
  exact ⟨prin_ok h,rfl,rfl⟩
 | i+1,l,e=>by
  simp only [wkL] at e
  split at e
  ·rename_i l' hl
   obtain ⟨h1,h2,h3⟩:=wkL_ok h hl
   split at e
   ·rename_i q
    injection e with e
    subst e
    obtain ⟨M,hM⟩:∃ M,muF (l'.getD i zM) (ks.getD i 0)=(M,true):=⟨_,by rw [<-q]⟩
    rw [hM]
    obtain ⟨o1,o2,o3,o4⟩:=muF_ok hM
    have hl':l'.getD i zM=l'[i]'(by omega):=by simp [List.getD_eq_getElem?_getD,show i < l'.length by omega]
    have hw:=h2 _ (List.getElem_mem (show i < l'.length by omega))
    rw [<-hl'] at hw
    refine ⟨by simp [h1],fun p hp=>?_,fun t ht=>?_⟩
    ·rcases List.mem_append.1 hp with hp | hp
     ·exact h2 p hp
     ·rw [List.mem_singleton] at hp
      subst hp
      exact ⟨o3,by rw [o4];exact hw.2.1,by rw [o4];exact hw.2.2⟩
    ·by_cases g:t < i
     ·exact h3 t g
     ·obtain rfl:t=i:=by omega
      have:=hw.2.1
      omega
   ·simp at e
  ·simp at e
theorem wkF_ok {m:Mat} {ks:List Int} {l:List Mat} (h:wkF m ks=some l):SqOK m/\ks.length<=40/\l.length=ks.length+1/\(∀ p∈l,WkM m p)/\∀ t,t < ks.length->0<=ks.getD t 0/\ks.getD t 0 < m.n:=by
 unfold wkF at h
 split at h
 ·rename_i q
  obtain ⟨h1,h2,h3⟩:=wkL_ok q.1 h
  exact ⟨q.1,q.2,h1,h2,h3⟩
 ·simp at h
noncomputable def fpL (m:Mat) (ws:List Mat) (ks:List Int):Nat->Option (List Lau)
 | 0=>some (List.replicate m.n.toNat (oneF m.n.toNat) ++ varsL m.n.toNat)
 | t+1=>match fpL m ws ks t with
  | some fs=>if (exF fs (colM (ws.getD t zM) (2*m.n.toNat) (ks.getD t 0).toNat) m.n.toNat (fs.getD (ks.getD t 0).toNat zeroF)).2=true then
    some (fs.set (ks.getD t 0).toNat (exF fs (colM (ws.getD t zM) (2*m.n.toNat) (ks.getD t 0).toNat) m.n.toNat (fs.getD (ks.getD t 0).toNat zeroF)).1) else none
  | none=>none
end Go.Proofs.Ytfcgcgmleogamaa.Ab
namespace Go.Proofs.Ytfcgcgmleogamaa.Ab
open Go
set_option maxRecDepth 10000
set_option maxHeartbeats 2000000
noncomputable def prF (m:Mat):Mat×Bool:=if SqOK m then (prinM m,true) else (zM,false)
def prD (m:Mat) (n i j:Nat):List Int:=m.d ++ (idP n i ++ (unitL n i).take j)
theorem prD_succ (m:Mat) {n i j:Nat} (hj:j < n):prD m n i j ++ [if i=j then 1 else 0]=prD m n i (j+1):=by
 unfold prD
 rw [unitL_take hj]
 simp [List.append_assoc]
theorem prD_row (m:Mat) (n i:Nat):prD m n i n=prD m n (i+1) 0:=by
 unfold prD
 rw [idP_succ,List.take_of_length_le (by rw [unitL_length];omega)]
 simp
theorem prD_row0 (m:Mat) (n i:Nat):prD m n i 0 ++ unitL n i=prD m n (i+1) 0:=by
 have e:(unitL n i).take n=unitL n i:=List.take_of_length_le (by rw [unitL_length];omega)
 rw [<-prD_row]
 unfold prD
 rw [e]
 simp
theorem prD_len (m:Mat) {n i j:Nat} (hj:j<=n):(prD m n i j).length=m.d.length+i*n+j:=by
 unfold prD
 simp only [List.length_append,idP_length,List.length_take,unitL_length]
 omega
theorem prD_last {m:Mat} {n:Nat} (hn:m.n=n):(⟨n,2*n,prD m n n 0⟩:Mat)=prinM m:=by
 have:m.n.toNat=n:=by omega
 simp [prinM,prD,this,hn]
theorem mS_three (t:Mat):(mS t).length=3:=rfl
theorem mO_three (t:Mat):(mO t).length=3:=rfl
@[simp] theorem mS_length (l:List Mat):(rows mS l).length=3*l.length:=rows_length mS_three l
@[simp] theorem mO_length (l:List Mat):(rows mO l).length=3*l.length:=rows_length mO_three l
theorem mS_0 {g:List Mat} {i:Nat} (h:i < g.length):(rows mS g)[3*i]? = some (D.int g[i].n)/\∀ h',(rows mS g)[3*i]'h'=D.int g[i].n:=twice (rows_get mS_three g i 0 h (by omega))
theorem mS_1 {g:List Mat} {i:Nat} (h:i < g.length):(rows mS g)[3*i+1]? = some (D.int g[i].r)/\∀ h',(rows mS g)[3*i+1]'h'=D.int g[i].r:=twice (rows_get mS_three g i 1 h (by omega))
theorem mS_2 {g:List Mat} {i:Nat} (h:i < g.length):(rows mS g)[3*i+2]? = some (shI g[i].d)/\∀ h',(rows mS g)[3*i+2]'h'=shI g[i].d:=twice (rows_get mS_three g i 2 h (by omega))
theorem mO_0 {g:List Mat} {i:Nat} (h:i < g.length):(rows mO g)[3*i]? = some (D.int g[i].n)/\∀ h',(rows mO g)[3*i]'h'=D.int g[i].n:=twice (rows_get mO_three g i 0 h (by omega))
theorem mO_1 {g:List Mat} {i:Nat} (h:i < g.length):(rows mO g)[3*i+1]? = some (D.int g[i].r)/\∀ h',(rows mO g)[3*i+1]'h'=D.int g[i].r:=twice (rows_get mO_three g i 1 h (by omega))
theorem mO_2 {g:List Mat} {i:Nat} (h:i < g.length):(rows mO g)[3*i+2]? = some (owI g[i].d)/\∀ h',(rows mO g)[3*i+2]'h'=owI g[i].d:=twice (rows_get mO_three g i 2 h (by omega))
@[simp] theorem mO_noSh (l:List Mat):noShL (rows mO l):=rows_noSh (fun t=>by simp [mO,noShL,noSh]) l
theorem lenle (l:List Int):decide (40 < (l.length:Int)) = !decide (l.length<=40):=by
 rw [Bool.eq_iff_iff]
 simp
 omega
theorem mS_snoc (l:List Mat) (m:Mat):rows mS l ++ [D.v (.int .i64 m.n),D.v (.int .i64 m.r),.sh 1 m.d.length (ints m.d)]=rows mS (l ++ [m]):=by
 rw [rows_append]
 rfl
theorem mO_snoc (l:List Mat) (m:Mat):rows mO l ++ [D.v (.int .i64 m.n),D.v (.int .i64 m.r),.ow 1 m.d.length (ints m.d)]=rows mO (l ++ [m]):=by
 rw [rows_append]
 rfl
@[simp] theorem mS_share (l:List Mat):shareL (rows mO l)=rows mS l:=by
 induction l with
 | nil=>rfl
 | cons x l ih=>simp [rows,mO,mS,shareL,share,ih]
@[simp] theorem mS_share2 (l:List Mat):shareL (rows mS l)=rows mS l:=by
 induction l with
 | nil=>rfl
 | cons x l ih=>simp [rows,mS,shareL,share,ih]
theorem impl_PrincipalMatrix_c (m:Mat) (hx:m.d.length < 17592186044416):ACalls Try.prog F.impl_PrincipalMatrix [aM m] [] true (fun outs res=>outs=[]/\WkRs res [.ag (mO (prF m).1),.one (D.bool (prF m).2)]):=by
 refine ACalls.of_body (C:=C.impl_PrincipalMatrix) (n:=Try.f12.ntmps) tabT folT Try.func12 rfl (by kernel_rfl) rfl (Nat.le_of_ble_eq_true rfl) (by decide) (by kernel_rfl) (by kernel_rfl) rfl (by simp) (by simp) ?_
 simp only [Try.f12]
 refine wseq ?_
 refine wreg fun K hK=>?_
 simp [C.impl_PrincipalMatrix]
 refine hK _ ?_;clear hK K
 show AWp _ _ _ _ _
 refine wseq ?_
 refine wseq ?_
 refine wregI ([0,1] ++ ([2,3,4,5,6,7,8,9,10,11,12,13,14,15])) rfl fun K hK=>?_
 have hJ:K ⟨ofL [(1,.pt (1,0) [] 0),(2,.pt (2,0) [] 0),(22,.bool (!decide (SqOK m)))],ofRO [((1,0),some (.bx (mS m))),((2,0),some (.bx [D.int 0,D.int 0,.v (.slice none 0 0)]))]⟩:=by
  refine hK _ ?_;clear hK K
  show AWp _ _ _ _ _
  refine wcond _ rfl (fun hc1=>?_) (fun hc1=>?_)
  ·have hr:=nd_t hc1
   have hm:prF m=(zM,false):=if_neg hr
   refine wseq ?_
   refine wreg fun K hK=>?_
   simp [C.impl_PrincipalMatrix]
   refine hK _ ?_;clear hK K
   show AWp _ _ _ _ _
   refine wret ?_
   simp [C.impl_PrincipalMatrix,hm,zM,mO,ints]
  ·have hr:=nd_f hc1
   have hm:prF m=(prinM m,true):=if_pos hr
   obtain ⟨n,hn,hrr,hn4,hL⟩:=hr.dim
   have hL16:m.d.length<=16:=by rw [hL];exact Nat.mul_le_mul hn4.2 hn4.2
   have hwn:IntKind.i64.wrap (2*(n:Int))=2*n:=wrapOk (by omega) (by omega)
   refine wskip ?_
   show AWp _ _ _ _ _
   refine wseq ?_
   refine wdraw (.take 0 (.take 1 (.take 2 (.take 3 (.take 4 (.take 5 (.take 6 (.all [(7,.take 8 (.all [(9,.all [(10,.done)])])),(9,.all [(7,.take 8 (.all [(10,.done)]))])])))))))) ⟨by kernel_rfl,by kernel_rfl⟩ fun K hK=>?_
   have hJ:K ⟨ofL [(1,.pt (1,0) [] 0),(2,.pt (2,0) [] 0),(4,.pt (4,0) [] 0)],ofRO [((1,0),some (.bx [D.int n,D.int m.r,shI m.d])),((2,0),some (.bx [D.int 0,D.int 0,.v (.slice none 0 0)])),((4,0),some (.bx [D.int n,D.int (2*n),owI m.d]))]⟩:=by
    refine hK _ ?_;clear hK K
    show AWp _ _ _ _ _
    refine wseq ?_
    refine wseq ?_
    refine wreg fun K hK=>?_
    simp [C.impl_PrincipalMatrix]
    refine hK _ ?_;clear hK K
    show AWp _ _ _ _ _
    refine wblock ?_
    refine wloop (fun i:Nat=>⟨ofL [(1,.pt (1,0) [] 0),(2,.pt (2,0) [] 0),(4,.pt (4,0) [] 0),(5,.int i)],ofRO [((1,0),some (.bx [D.int n,D.int m.r,shI m.d])),((2,0),some (.bx [D.int 0,D.int 0,.v (.slice none 0 0)])),((4,0),some (.bx [D.int n,D.int (2*n),owI (prD m n i 0)]))]⟩) (fun i=>i<=n) (fun i=>n - i) 0 (by simp [C.impl_PrincipalMatrix,prD,idP]) (by simp) ?_
    intro x1 hx1 R1 hR1
    refine wseq ?_
    refine wseq ?_
    refine wreg fun K hK=>?_
    simp [C.impl_PrincipalMatrix,mS,hn]
    refine hK _ ?_;clear hK K
    show AWp _ _ _ _ _
    refine wcond _ rfl (fun hc2=>?_) (fun hc2=>?_)
    ·have hi:x1 < n:=by have:=d_t hc2;omega
     refine wskip ?_
     show AWp _ _ _ _ _
     refine wseq ?_
     refine wblock ?_
     refine wseq ?_
     refine wreg fun K hK=>?_
     simp [C.impl_PrincipalMatrix]
     refine hK _ ?_;clear hK K
     show AWp _ _ _ _ _
     refine wblock ?_
     refine wloop (fun j:Nat=>⟨ofL [(1,.pt (1,0) [] 0),(2,.pt (2,0) [] 0),(4,.pt (4,0) [] 0),(5,.int x1),(6,.int j)],ofRO [((1,0),some (.bx [D.int n,D.int m.r,shI m.d])),((2,0),some (.bx [D.int 0,D.int 0,.v (.slice none 0 0)])),((4,0),some (.bx [D.int n,D.int (2*n),owI (prD m n x1 j)]))]⟩) (fun j=>j<=n) (fun j=>n - j) 0 (by simp [C.impl_PrincipalMatrix]) (by simp) ?_
     intro x2 hx2 R2 hR2
     refine wseq ?_
     refine wseq ?_
     refine wreg fun K hK=>?_
     simp [C.impl_PrincipalMatrix,mS,hn]
     refine hK _ ?_;clear hK K
     show AWp _ _ _ _ _
     refine wcond _ rfl (fun hc3=>?_) (fun hc3=>?_)
     ·have hj:x2 < n:=by have:=d_t hc3;omega
      have hln:=prD_len m (i:=x1) (show x2<=n by omega)
      have hl1:x1*n<=16:=Nat.mul_le_mul (show x1<=4 by omega) hn4.2
      have hst:=prD_succ m (i:=x1) hj
      obtain ⟨A,hA⟩:∃ A,A=prD m n x1 x2:=⟨_,rfl⟩
      rw [<-hA] at hst hln
      rw [<-hA]
      refine wskip ?_
      show AWp _ _ _ _ _
      refine wseq ?_
      refine wblock ?_
      refine wseq ?_
      refine wreg fun K hK=>?_
      simp [C.impl_PrincipalMatrix]
      refine hK _ ?_;clear hK K
      show AWp _ _ _ _ _
      refine wcond _ rfl (fun hc4=>?_) (fun hc4=>?_)
      ·have he:x1=x2:=by have:=hc4;simp at this;omega
       rw [if_pos he] at hst
       refine wreg fun K hK=>?_
       simp [C.impl_PrincipalMatrix,ints_snocA,show (A.length+1)*8<=140737488355328 by omega]
       refine hK _ ?_;clear hK K
       show AWp _ _ _ _ _
       refine wreg fun K hK=>?_
       simp [C.impl_PrincipalMatrix,wrap_succ (show x2 < 4611686018427387904 by omega)]
       refine hK _ ?_;clear hK K
       simp [C.impl_PrincipalMatrix]
       refine cast (congrArg R2 ?_) (hR2 (x2+1) hj (by omega))
       simp [<-hst,owI]
      ·have he:¬ x1=x2:=by have:=hc4;simp at this;omega
       rw [if_neg he] at hst
       refine wreg fun K hK=>?_
       simp [C.impl_PrincipalMatrix,ints_snocA,show (A.length+1)*8<=140737488355328 by omega]
       refine hK _ ?_;clear hK K
       show AWp _ _ _ _ _
       refine wreg fun K hK=>?_
       simp [C.impl_PrincipalMatrix,wrap_succ (show x2 < 4611686018427387904 by omega)]
       refine hK _ ?_;clear hK K
       simp [C.impl_PrincipalMatrix]
       refine cast (congrArg R2 ?_) (hR2 (x2+1) hj (by omega))
       simp [<-hst,owI]
     ·have hj:x2=n:=by have:=d_f hc3;omega
      rw [hj,prD_row]
      refine wexit ?_
      show AWp _ _ _ _ _
      refine wreg fun K hK=>?_
      simp [C.impl_PrincipalMatrix,wrap_succ (show x1 < 4611686018427387904 by omega)]
      refine hK _ ?_;clear hK K
      simp [C.impl_PrincipalMatrix]
      exact hR1 (x1+1) hi (by omega)
    ·have hi:x1=n:=by have:=d_f hc2;omega
     rw [hi]
     have hlast:=prD_last hn
     refine wexit ?_
     show AWp _ _ _ _ _
     refine wseq ?_
     refine wreg fun K hK=>?_
     simp [C.impl_PrincipalMatrix]
     refine hK _ ?_;clear hK K
     show AWp _ _ _ _ _
     refine wret ?_
     simp [C.impl_PrincipalMatrix]
     rw [hm,<-hlast]
     simp [mO]
   clear hK
   simp [C.impl_PrincipalMatrix,mS,hn,hwn]
   repeat' first
    | (refine wcall1 (clone_c m.d hx) ?_ (by simp) ?_;(focus (simp;done));simp [C.impl_PrincipalMatrix,hn,hwn])
    | (refine cast (congrArg K ?_) hJ;simp [mS,hn,hwn];done)
    | refine And.intro ?_ ?_
 clear hK
 by_cases h1:MatOK m
 ·by_cases h2:m.r=m.n
  ·have hwn:IntKind.i64.wrap (2*m.n)=2*m.n:=by have:=h1.1.1;exact wrapOk (by omega) (by omega)
   have hle:decide (8 < 2*m.n) = !decide (2*m.n<=8):=by
    rw [Bool.eq_iff_iff]
    simp
   refine oSg fun L hL=>?_
   simp [C.impl_PrincipalMatrix,hwn,hle,h2,h1,h2]
   refine wcall1 (impl_MatrixOkG_c m hx) (by simp [hwn,hle,h2]) (by simp) ?_
   simp [C.impl_PrincipalMatrix,hwn,hle,h2,h1,h2]
   refine hL _ ?_;clear hL L
   refine oEn fun L hL=>?_
   simp [C.impl_PrincipalMatrix,hwn,hle,h2,h1,h2]
   refine hL _ ?_;clear hL L
   simp [C.impl_PrincipalMatrix,hwn,hle,h2,h1,h2]
   refine cast (congrArg K ?_) hJ
   simp [SqOK,mS,h1,h2]
  ·refine oSg fun L hL=>?_
   simp [C.impl_PrincipalMatrix,h1,h2]
   refine wcall1 (impl_MatrixOkG_c m hx) (by simp) (by simp) ?_
   simp [C.impl_PrincipalMatrix,h1,h2]
   refine hL _ ?_;clear hL L
   refine oEn fun L hL=>?_
   simp [C.impl_PrincipalMatrix,h1,h2]
   refine hL _ ?_;clear hL L
   simp [C.impl_PrincipalMatrix,h1,h2]
   refine cast (congrArg K ?_) hJ
   simp [SqOK,mS,h1,h2]
 ·refine oSg fun L hL=>?_
  simp [C.impl_PrincipalMatrix,h1]
  refine wcall1 (impl_MatrixOkG_c m hx) (by simp) (by simp) ?_
  simp [C.impl_PrincipalMatrix,h1]
  refine hL _ ?_;clear hL L
  refine oEn fun L hL=>?_
  simp [C.impl_PrincipalMatrix,h1]
  refine hL _ ?_;clear hL L
  simp [C.impl_PrincipalMatrix,h1]
  refine cast (congrArg K ?_) hJ
  simp [SqOK,mS,h1]
theorem iPr_c (m:Mat) (hx:m.d.length < 17592186044416):ACalls Try.prog F.impl_PrincipalMatrix [aM m] [] true (fun outs res=>outs=[]/\res=[.ag (mO (prF m).1),.one (D.bool (prF m).2)]):=(impl_PrincipalMatrix_c m hx).weak1
noncomputable def wkR (m:Mat) (ks:List Int):List Mat×Bool:=match wkF m ks with | some l=>(l,true) | none=>([],false)
theorem wkM_len {m p:Mat} (h:WkM m p):p.d.length<=40:=by
 have hd:=sh_dim h.1.1
 rw [hd.2.2.2.2.1]
 exact Nat.le_trans (Nat.mul_le_mul hd.2.2.2.1 hd.2.1) (by omega)
theorem impl_walk_c (m:Mat) (ks:List Int) (hx:m.d.length < 17592186044416) (hks:ks.length < 4611686018427387904):ACalls Try.prog F.impl_walk [aM m,.d (shI ks)] [] false (fun outs res=>outs=[]/\WkRs res [.one (.ow 3 (wkR m ks).1.length (rows mS (wkR m ks).1)),.one (D.bool (wkR m ks).2)]):=by
 have hpr:=iPr_c m hx
 have hpe:prF m=if SqOK m then (prinM m,true) else (zM,false):=rfl
 generalize prF m=I at hpr hpe
 have hib:I.2=decide (SqOK m):=by rw [hpe];split <;> simp [*]
 refine ACalls.of_body (C:=C.impl_walk) (n:=Try.f111.ntmps) tabT folT Try.func111 rfl (by kernel_rfl) rfl (Nat.le_of_ble_eq_true rfl) (by decide) (by kernel_rfl) (by kernel_rfl) rfl (by simp) (by simp) ?_
 simp only [Try.f111]
 refine wseq ?_
 refine wreg fun K hK=>?_
 simp [C.impl_walk]
 refine hK _ ?_;clear hK K
 show AWp _ _ _ _ _
 refine wseq ?_
 refine wregI ([0,1] ++ ([2,3,4,5,6,7])) rfl fun K hK=>?_
 refine oSg fun L hL=>?_
 simp [C.impl_walk,mO]
 refine wcall1 (hpr) (by simp) (by simp) ?_
 simp [C.impl_walk,mO]
 refine hL _ ?_;clear hL L
 refine oEn fun L hL=>?_
 simp [C.impl_walk,mO]
 refine hL _ ?_;clear hL L
 simp [C.impl_walk,mO]
 refine hK _ ?_;clear hK K
 show AWp _ _ _ _ _
 refine wseq ?_
 refine wseq ?_
 refine wreg fun K hK=>?_
 have hJ:K ⟨ofL [(1,.d (shI ks)),(6,.pt (6,0) [] 0),(22,.bool (!decide (SqOK m/\ks.length<=40)))],ofRO [((6,0),some (.bx (mS I.1)))]⟩:=by
  refine hK _ ?_;clear hK K
  show AWp _ _ _ _ _
  refine wcond _ rfl (fun hc1=>?_) (fun hc1=>?_)
  ·have hr:=nd_t hc1
   have hm0:wkF m ks=none:=if_neg hr
   have hm:wkR m ks=([],false):=by unfold wkR;rw [hm0]
   refine wseq ?_
   refine wreg fun K hK=>?_
   simp [C.impl_walk]
   refine hK _ ?_;clear hK K
   show AWp _ _ _ _ _
   refine wret ?_
   simp [C.impl_walk,hm,rows]
  ·have hr:=nd_f hc1
   have hm0:wkF m ks=wkL m ks ks.length:=if_pos hr
   have hi1:I.1=prinM m:=by rw [hpe,if_pos hr.1]
   refine wskip ?_
   show AWp _ _ _ _ _
   refine wseq ?_
   refine wreg fun K hK=>?_
   simp [C.impl_walk,mS]
   refine hK _ ?_;clear hK K
   show AWp _ _ _ _ _
   refine wseq ?_
   refine wseq ?_
   refine wreg fun K hK=>?_
   simp [C.impl_walk]
   refine hK _ ?_;clear hK K
   show AWp _ _ _ _ _
   refine wblock ?_
   refine wloop (fun x:Nat×Mat×List Mat=>⟨ofL [(6,.pt (6,0) [] 0),(8,.al (8,0) [] 0 x.2.2.length),(25,.d (shI ks)),(26,.int ks.length),(27,.int x.1)],ofRO [((6,0),some (.bx (mS x.2.1))),((8,0),some (.ow 3 x.2.2.length (rows mS x.2.2)))]⟩) (fun x=>x.1<=ks.length/\wkL m ks x.1=some x.2.2/\x.2.1=x.2.2.getD x.1 zM) (fun x=>ks.length - x.1) (0,I.1,[I.1]) (by simp [C.impl_walk,rows,mS]) ⟨by simp,by rw [hi1];rfl,rfl⟩ ?_
   intro x1 hx1 R1 hR1
   obtain ⟨i,p,l⟩:=x1
   obtain ⟨hi0,hw,hp⟩:=hx1
   dsimp only at hi0 hw hp ⊢
   obtain ⟨w1,w2,w3⟩:=wkL_ok hr.1 hw
   have hpg:p=l[i]'(by omega):=by rw [hp];simp [List.getD_eq_getElem?_getD,show i < l.length by omega]
   have hpm:WkM m p:=by rw [hpg];exact w2 _ (List.getElem_mem _)
   have hpl:=wkM_len hpm
   refine wseq ?_
   refine wreg fun K hK=>?_
   simp [C.impl_walk]
   refine hK _ ?_;clear hK K
   show AWp _ _ _ _ _
   refine wseq ?_
   refine wcond _ rfl (fun hc2=>?_) (fun hc2=>?_)
   ·have hi:i < ks.length:=by have:=d_t hc2;omega
    have hmu:=iMu_c p ks[i] (by omega)
    have hws:wkL m ks (i+1)=if (muF p ks[i]).2=true then some (l ++ [(muF p ks[i]).1]) else none:=by
     simp only [wkL,hw]
     rw [<-hp,show ks.getD i 0=ks[i] by simp [List.getD_eq_getElem?_getD,hi]]
    obtain ⟨M,hM⟩:∃ M,M=muF p ks[i]:=⟨_,rfl⟩
    rw [<-hM] at hmu hws
    refine wskip ?_
    show AWp _ _ _ _ _
    refine wseq ?_
    refine wblock ?_
    refine wseq ?_
    refine wreg fun K hK=>?_
    simp [C.impl_walk,get_ints,hi,show (i:Int) < ks.length by omega]
    refine hK _ ?_;clear hK K
    show AWp _ _ _ _ _
    refine wseq ?_
    refine wregI ([0,1,2] ++ ([3,4,5,6,7])) rfl fun K hK=>?_
    refine oSg fun L hL=>?_
    simp [C.impl_walk,mO,mS]
    refine wcall1 (hmu) (by simp) (by simp) ?_
    simp [C.impl_walk,mO,mS]
    refine hL _ ?_;clear hL L
    refine oEn fun L hL=>?_
    simp [C.impl_walk,mO,mS]
    refine hL _ ?_;clear hL L
    simp [C.impl_walk,mO,mS]
    refine hK _ ?_;clear hK K
    show AWp _ _ _ _ _
    refine wseq ?_
    refine wseq ?_
    refine wreg fun K hK=>?_
    simp [C.impl_walk]
    refine hK _ ?_;clear hK K
    show AWp _ _ _ _ _
    refine wcond _ rfl (fun hc3=>?_) (fun hc3=>?_)
    ·have hb:M.2=false:=by simpa using hc3
     have hn0:wkL m ks (i+1)=none:=by rw [hws,hb];rfl
     have hm1:wkF m ks=none:=by rw [hm0];exact wkL_none hn0 (by omega)
     have hm:wkR m ks=([],false):=by unfold wkR;rw [hm1]
     refine wseq ?_
     refine wreg fun K hK=>?_
     simp [C.impl_walk]
     refine hK _ ?_;clear hK K
     show AWp _ _ _ _ _
     refine wret ?_
     simp [C.impl_walk,hm,rows]
    ·have hb:M.2=true:=by simpa using hc3
     rw [if_pos hb] at hws
     refine wskip ?_
     show AWp _ _ _ _ _
     refine wreg fun K hK=>?_
     simp [C.impl_walk,mS_snoc,mS,show (l.length+1)*40<=140737488355328 by omega]
     refine hK _ ?_;clear hK K
     show AWp _ _ _ _ _
     refine wreg fun K hK=>?_
     simp [C.impl_walk,wrap_succ (show i < 4611686018427387904 by omega)]
     refine hK _ ?_;clear hK K
     simp [C.impl_walk]
     refine cast (congrArg R1 ?_) (hR1 (i+1,M.1,l ++ [M.1]) ⟨hi,hws,?_⟩ (by dsimp only;omega))
     ·simp [mS]
     ·dsimp only
      rw [<-w1]
      simp [List.getD_eq_getElem?_getD]
   ·have hi:i=ks.length:=by have:=d_f hc2;omega
    have hm:wkR m ks=(l,true):=by
     unfold wkR
     rw [hm0,<-hi,hw]
    refine wexit ?_
    show AWp _ _ _ _ _
    refine wseq ?_
    refine wreg fun K hK=>?_
    simp [C.impl_walk]
    refine hK _ ?_;clear hK K
    show AWp _ _ _ _ _
    refine wret ?_
    simp [C.impl_walk,hm]
 clear hK
 by_cases h1:SqOK m
 ·simp [C.impl_walk,hib,lenle,h1]
  refine cast (congrArg K ?_) hJ
  simp [mS,h1]
 ·simp [C.impl_walk,hib,lenle,h1]
  refine cast (congrArg K ?_) hJ
  simp [mS,h1]
theorem iWk_c (m:Mat) (ks:List Int) (hx:m.d.length < 17592186044416) (hks:ks.length < 4611686018427387904):ACalls Try.prog F.impl_walk [aM m,.d (shI ks)] [] false (fun outs res=>outs=[]/\res=[.one (.ow 3 (wkR m ks).1.length (rows mS (wkR m ks).1)),.one (D.bool (wkR m ks).2)]):=(impl_walk_c m ks hx hks).weak1
theorem spec_l4Square_c (m:Mat) (hx:m.d.length < 17592186044416):ACalls Try.prog F.spec_l4Square [aM m] [] true (fun outs res=>outs=[]/\res=[.one (D.bool (decide (SqOK m)))]):=by
 refine ACalls.of_body (C:=C.spec_l4Square) (n:=Try.f115.ntmps) tabT folT Try.func115 rfl (by kernel_rfl) rfl (Nat.le_of_ble_eq_true rfl) (by decide) (by kernel_rfl) (by kernel_rfl) rfl (by simp) (by simp) ?_
 simp only [Try.f115]
 refine wseq ?_
 refine wreg fun K hK=>?_
 simp [C.spec_l4Square]
 refine hK _ ?_;clear hK K
 show AWp _ _ _ _ _
 refine wseq ?_
 refine wregI ([0,1] ++ ([2,3,4,5,6,7,8,9,10,11,12,13,14,15])) rfl fun K hK=>?_
 have hJ:K ⟨ofL [(2,.bool (decide (SqOK m)))],ofRO []⟩:=by
  refine hK _ ?_;clear hK K
  show AWp _ _ _ _ _
  refine wret ?_
  simp [C.spec_l4Square]
 clear hK
 by_cases h1:MatOK m
 ·by_cases h2:m.r=m.n
  ·have hwn:IntKind.i64.wrap (2*m.n)=2*m.n:=by have:=h1.1.1;exact wrapOk (by omega) (by omega)
   refine oSg fun L hL=>?_
   simp [C.spec_l4Square,hwn,h2,h1,h2]
   refine wcall1 (spec_MatrixOk_c m hx) (by simp [hwn,h2]) (by simp) ?_
   simp [C.spec_l4Square,hwn,h2,h1,h2]
   refine hL _ ?_;clear hL L
   refine oEn fun L hL=>?_
   simp [C.spec_l4Square,hwn,h2,h1,h2]
   refine hL _ ?_;clear hL L
   simp [C.spec_l4Square,hwn,h2,h1,h2]
   refine cast (congrArg K ?_) hJ
   simp [SqOK,h1,h2]
  ·refine oSg fun L hL=>?_
   simp [C.spec_l4Square,h1,h2]
   refine wcall1 (spec_MatrixOk_c m hx) (by simp) (by simp) ?_
   simp [C.spec_l4Square,h1,h2]
   refine hL _ ?_;clear hL L
   refine oEn fun L hL=>?_
   simp [C.spec_l4Square,h1,h2]
   refine hL _ ?_;clear hL L
   simp [C.spec_l4Square,h1,h2]
   refine cast (congrArg K ?_) hJ
   simp [SqOK,h1,h2]
 ·refine oSg fun L hL=>?_
  simp [C.spec_l4Square,h1]
  refine wcall1 (spec_MatrixOk_c m hx) (by simp) (by simp) ?_
  simp [C.spec_l4Square,h1]
  refine hL _ ?_;clear hL L
  refine oEn fun L hL=>?_
  simp [C.spec_l4Square,h1]
  refine hL _ ?_;clear hL L
  simp [C.spec_l4Square,h1]
  refine cast (congrArg K ?_) hJ
  simp [SqOK,h1]
theorem spec_l1Principal_c (m:Mat) (n:Nat) (hn:m.n=n) (hn4:1<=n/\n<=4) (hL:m.d.length<=16):ACalls Try.prog F.spec_l1Principal [aM m] [] true (fun outs res=>outs=[]/\res=[.ag (mO (prinM m))]):=by
 have hwn:IntKind.i64.wrap (2*(n:Int))=2*n:=wrapOk (by omega) (by omega)
 refine ACalls.of_body (C:=C.spec_l1Principal) (n:=Try.f117.ntmps) tabT folT Try.func117 rfl (by kernel_rfl) rfl (Nat.le_of_ble_eq_true rfl) (by decide) (by kernel_rfl) (by kernel_rfl) rfl (by simp) (by simp) ?_
 simp only [Try.f117]
 refine wseq ?_
 refine wreg fun K hK=>?_
 simp [C.spec_l1Principal]
 refine hK _ ?_;clear hK K
 show AWp _ _ _ _ _
 refine wseq ?_
 refine wregI ([0,1] ++ ([2,3])) rfl fun K hK=>?_
 refine oSg fun L hL=>?_
 simp [C.spec_l1Principal,mO]
 refine wcall1 (spec_l1CopyMatrix_c m (by omega)) (by simp) (by simp) ?_
 simp [C.spec_l1Principal,mO]
 refine hL _ ?_;clear hL L
 refine oEn fun L hL=>?_
 simp [C.spec_l1Principal,mO]
 refine hL _ ?_;clear hL L
 simp [C.spec_l1Principal,mO]
 refine hK _ ?_;clear hK K
 show AWp _ _ _ _ _
 refine wseq ?_
 refine wreg fun K hK=>?_
 simp [C.spec_l1Principal,hn,hwn]
 refine hK _ ?_;clear hK K
 show AWp _ _ _ _ _
 refine wseq ?_
 refine wseq ?_
 refine wreg fun K hK=>?_
 simp [C.spec_l1Principal]
 refine hK _ ?_;clear hK K
 show AWp _ _ _ _ _
 refine wblock ?_
 refine wloop (fun i:Nat=>⟨ofL [(1,.pt (1,0) [] 0),(2,.pt (2,0) [] 0),(3,.pt (3,0) [] 0),(4,.int i)],ofRO [((1,0),some (.bx [D.int n,D.int m.r,shI m.d])),((2,0),some (.bx [D.int 0,D.int 0,.v (.slice none 0 0)])),((3,0),some (.bx [D.int n,D.int (2*n),owI (prD m n i 0)]))]⟩) (fun i=>i<=n) (fun i=>n - i) 0 (by simp [C.spec_l1Principal,prD,idP,hn]) (by simp) ?_
 intro x1 hx1 R1 hR1
 refine wseq ?_
 refine wseq ?_
 refine wreg fun K hK=>?_
 simp [C.spec_l1Principal]
 refine hK _ ?_;clear hK K
 show AWp _ _ _ _ _
 refine wcond _ rfl (fun hc1=>?_) (fun hc1=>?_)
 ·have hi:x1 < n:=by have:=d_t hc1;omega
  have hln:=prD_len m (i:=x1) (show 0<=n by omega)
  have hl1:x1*n<=16:=Nat.mul_le_mul (show x1<=4 by omega) hn4.2
  have hst:=prD_row0 m n x1
  obtain ⟨A,hA⟩:∃ A,A=prD m n x1 0:=⟨_,rfl⟩
  rw [<-hA] at hst hln
  rw [<-hA]
  have hu:(List.replicate n (0:Int)).set x1 1=unitL n x1:=rfl
  have hul:=unitL_length n x1
  refine wskip ?_
  show AWp _ _ _ _ _
  refine wseq ?_
  refine wblock ?_
  refine wseq ?_
  refine wreg fun K hK=>?_
  simp [C.spec_l1Principal,zeros_ints,show (8:Int)*n<=281474976710656 by omega,show (n:Int)<=281474976710656 by omega]
  refine hK _ ?_;clear hK K
  show AWp _ _ _ _ _
  refine wseq ?_
  refine wreg fun K hK=>?_
  simp [C.spec_l1Principal,hi,show (x1:Int) < n by omega,hu]
  refine hK _ ?_;clear hK K
  show AWp _ _ _ _ _
  refine wreg fun K hK=>?_
  simp [C.spec_l1Principal,hul,show (A.length+n)*8<=140737488355328 by omega]
  refine hK _ ?_;clear hK K
  show AWp _ _ _ _ _
  refine wreg fun K hK=>?_
  simp [C.spec_l1Principal,wrap_succ (show x1 < 4611686018427387904 by omega)]
  refine hK _ ?_;clear hK K
  simp [C.spec_l1Principal]
  refine cast (congrArg R1 ?_) (hR1 (x1+1) hi (by omega))
  simp [<-hst,hul,owI]
 ·have hi:x1=n:=by have:=d_f hc1;omega
  rw [hi]
  have hlast:=prD_last hn
  refine wexit ?_
  show AWp _ _ _ _ _
  refine wseq ?_
  refine wreg fun K hK=>?_
  simp [C.spec_l1Principal]
  refine hK _ ?_;clear hK K
  show AWp _ _ _ _ _
  refine wret ?_
  simp [C.spec_l1Principal]
  rw [<-hlast]
  simp [mO]
theorem spec_l4Along_c (m:Mat) (ks:List Int) (hx:m.d.length < 17592186044416) (hks:ks.length < 4611686018427387904):ACalls Try.prog F.spec_l4Along [aM m,.d (shI ks)] [] true (fun outs res=>outs=[]/\WkRs res [.one (.ow 3 (wkR m ks).1.length (rows mO (wkR m ks).1)),.one (D.bool (wkR m ks).2)]):=by
 refine ACalls.of_body (C:=C.spec_l4Along) (n:=Try.f62.ntmps) tabT folT Try.func62 rfl (by kernel_rfl) rfl (Nat.le_of_ble_eq_true rfl) (by decide) (by kernel_rfl) (by kernel_rfl) rfl (by simp) (by simp) ?_
 simp only [Try.f62]
 refine wseq ?_
 refine wreg fun K hK=>?_
 simp [C.spec_l4Along]
 refine hK _ ?_;clear hK K
 show AWp _ _ _ _ _
 refine wseq ?_
 refine wseq ?_
 refine wregI ([0,1] ++ ([2,3,4,5,6,7])) rfl fun K hK=>?_
 have hJ:K ⟨ofL [(1,.d (shI ks)),(2,.pt (2,0) [] 0),(17,.bool (!decide (SqOK m/\ks.length<=40)))],ofRO [((2,0),some (.bx (mS m)))]⟩:=by
  refine hK _ ?_;clear hK K
  show AWp _ _ _ _ _
  refine wcond _ rfl (fun hc1=>?_) (fun hc1=>?_)
  ·have hr:=nd_t hc1
   have hm0:wkF m ks=none:=if_neg hr
   have hm:wkR m ks=([],false):=by unfold wkR;rw [hm0]
   refine wseq ?_
   refine wreg fun K hK=>?_
   simp [C.spec_l4Along]
   refine hK _ ?_;clear hK K
   show AWp _ _ _ _ _
   refine wret ?_
   simp [C.spec_l4Along,hm,rows]
  ·have hr:=nd_f hc1
   have hm0:wkF m ks=wkL m ks ks.length:=if_pos hr
   obtain ⟨n,hn,hrr,hn4,hL⟩:=hr.1.dim
   have hL16:m.d.length<=16:=by rw [hL];exact Nat.mul_le_mul hn4.2 hn4.2
   refine wskip ?_
   show AWp _ _ _ _ _
   refine wseq ?_
   refine wregI ([0,1] ++ ([2,3])) rfl fun K hK=>?_
   refine oSg fun L hL=>?_
   simp [C.spec_l4Along,mS,mO]
   refine wcall1 (spec_l1Principal_c m n hn hn4 hL16) (by simp) (by simp) ?_
   simp [C.spec_l4Along,mS,mO]
   refine hL _ ?_;clear hL L
   refine oEn fun L hL=>?_
   simp [C.spec_l4Along,mS,mO]
   refine hL _ ?_;clear hL L
   simp [C.spec_l4Along,mS,mO]
   refine hK _ ?_;clear hK K
   show AWp _ _ _ _ _
   refine wseq ?_
   refine wseq ?_
   refine wreg fun K hK=>?_
   simp [C.spec_l4Along]
   refine hK _ ?_;clear hK K
   show AWp _ _ _ _ _
   refine wblock ?_
   refine wloop (fun x:Nat×List Mat=>⟨ofL [(1,.d (shI ks)),(6,.al (6,0) [] 0 x.2.length),(7,.int x.1)],ofRO [((6,0),some (.ow 3 x.2.length (rows mO x.2)))]⟩) (fun x=>x.1<=ks.length/\wkL m ks x.1=some x.2) (fun x=>ks.length - x.1) (0,[prinM m]) (by simp [C.spec_l4Along,rows,mO]) ⟨by simp,rfl⟩ ?_
   intro x1 hx1 R1 hR1
   obtain ⟨i,l⟩:=x1
   obtain ⟨hi0,hw⟩:=hx1
   dsimp only at hi0 hw ⊢
   obtain ⟨w1,w2,w3⟩:=wkL_ok hr.1 hw
   refine wseq ?_
   refine wseq ?_
   refine wreg fun K hK=>?_
   simp [C.spec_l4Along]
   refine hK _ ?_;clear hK K
   show AWp _ _ _ _ _
   refine wcond _ rfl (fun hc2=>?_) (fun hc2=>?_)
   ·have hi:i < ks.length:=by have:=d_t hc2;omega
    have hil:i < l.length:=by omega
    have hpm:WkM m l[i]:=w2 _ (List.getElem_mem _)
    have hpl:=wkM_len hpm
    have hmu:=sMu_c l[i] ks[i] (by omega)
    have hws:wkL m ks (i+1)=if (muF l[i] ks[i]).2=true then some (l ++ [(muF l[i] ks[i]).1]) else none:=by
     simp only [wkL,hw]
     rw [show ks.getD i 0=ks[i] by simp [List.getD_eq_getElem?_getD,hi],show l.getD i zM=l[i] by simp [List.getD_eq_getElem?_getD,hil]]
    obtain ⟨M,hM⟩:∃ M,M=muF l[i] ks[i]:=⟨_,rfl⟩
    rw [<-hM] at hmu hws
    refine wskip ?_
    show AWp _ _ _ _ _
    refine wseq ?_
    refine wblock ?_
    refine wseq ?_
    refine wdraw (.take 0 (.take 1 (.take 2 (.take 3 (.take 4 (.take 5 (.take 6 (.take 7 (.all [(8,.take 9 (.take 10 (.take 11 (.all [(12,.all [(13,.take 14 (.done))])])))),(12,.all [(8,.take 9 (.take 10 (.take 11 (.all [(13,.take 14 (.done))]))))])]))))))))) ⟨by kernel_rfl,by kernel_rfl⟩ fun K hK=>?_
    have hJ:K ⟨ofL [(1,.d (shI ks)),(6,.al (6,0) [] 0 l.length),(7,.int i),(8,.pt (8,0) [] 0),(9,.bool M.2)],ofRO [((6,0),some (.ow 3 l.length (rows mO l))),((8,0),some (.bx (mO M.1)))]⟩:=by
     refine hK _ ?_;clear hK K
     show AWp _ _ _ _ _
     refine wseq ?_
     refine wseq ?_
     refine wreg fun K hK=>?_
     simp [C.spec_l4Along]
     refine hK _ ?_;clear hK K
     show AWp _ _ _ _ _
     refine wcond _ rfl (fun hc3=>?_) (fun hc3=>?_)
     ·have hb:M.2=false:=by simpa using hc3
      have hn0:wkL m ks (i+1)=none:=by rw [hws,hb];rfl
      have hm1:wkF m ks=none:=by rw [hm0];exact wkL_none hn0 (by omega)
      have hm:wkR m ks=([],false):=by unfold wkR;rw [hm1]
      refine wseq ?_
      refine wreg fun K hK=>?_
      simp [C.spec_l4Along]
      refine hK _ ?_;clear hK K
      show AWp _ _ _ _ _
      refine wret ?_
      simp [C.spec_l4Along,hm,rows]
     ·have hb:M.2=true:=by simpa using hc3
      rw [if_pos hb] at hws
      refine wskip ?_
      show AWp _ _ _ _ _
      refine wreg fun K hK=>?_
      simp [C.spec_l4Along,mO_snoc,mO,show (l.length+1)*40<=140737488355328 by omega]
      refine hK _ ?_;clear hK K
      show AWp _ _ _ _ _
      refine wreg fun K hK=>?_
      simp [C.spec_l4Along,wrap_succ (show i < 4611686018427387904 by omega)]
      refine hK _ ?_;clear hK K
      simp [C.spec_l4Along]
      refine cast (congrArg R1 ?_) (hR1 (i+1,l ++ [M.1]) ⟨hi,hws⟩ (by dsimp only;omega))
      simp
    clear hK
    simp [C.spec_l4Along,get_ints,hi,hil,mO_0 hil,mO_1 hil,mO_2 hil,show (i:Int) < ks.length by omega,show (i:Int) < l.length by omega]
    repeat' first
     | (refine wcall1 (hmu) ?_ (by simp) ?_;(focus (simp [mO_0 hil,mO_1 hil,mO_2 hil];done));simp [C.spec_l4Along,mO])
     | (refine cast (congrArg K ?_) hJ;simp [mO];done)
     | refine And.intro ?_ ?_
   ·have hi:i=ks.length:=by have:=d_f hc2;omega
    have hm:wkR m ks=(l,true):=by
     unfold wkR
     rw [hm0,<-hi,hw]
    refine wexit ?_
    show AWp _ _ _ _ _
    refine wseq ?_
    refine wreg fun K hK=>?_
    simp [C.spec_l4Along]
    refine hK _ ?_;clear hK K
    show AWp _ _ _ _ _
    refine wret ?_
    simp [C.spec_l4Along,hm]
 clear hK
 by_cases h1:SqOK m
 ·refine oSg fun L hL=>?_
  simp [C.spec_l4Along,lenle,h1]
  refine wcall1 (spec_l4Square_c m hx) (by simp) (by simp) ?_
  simp [C.spec_l4Along,lenle,h1]
  refine hL _ ?_;clear hL L
  refine oEn fun L hL=>?_
  simp [C.spec_l4Along,lenle,h1]
  refine hL _ ?_;clear hL L
  simp [C.spec_l4Along,lenle,h1]
  refine cast (congrArg K ?_) hJ
  simp [mS,h1]
 ·refine oSg fun L hL=>?_
  simp [C.spec_l4Along,h1]
  refine wcall1 (spec_l4Square_c m hx) (by simp) (by simp) ?_
  simp [C.spec_l4Along,h1]
  refine hL _ ?_;clear hL L
  refine oEn fun L hL=>?_
  simp [C.spec_l4Along,h1]
  refine hL _ ?_;clear hL L
  simp [C.spec_l4Along,h1]
  refine cast (congrArg K ?_) hJ
  simp [mS,h1]
end Go.Proofs.Ytfcgcgmleogamaa.Ab
namespace Go.Proofs.Ytfcgcgmleogamaa.Ab
open Go
def lS (l:List Int):List D:=[shI l]
def lO (l:List Int):List D:=[owI l]
theorem lS_one (l:List Int):(lS l).length=1:=rfl
theorem lO_one (l:List Int):(lO l).length=1:=rfl
@[simp] theorem lS_length (l:List (List Int)):(rows lS l).length=l.length:=by rw [rows_length lS_one l,Nat.one_mul]
@[simp] theorem lO_length (l:List (List Int)):(rows lO l).length=l.length:=by rw [rows_length lO_one l,Nat.one_mul]
@[simp] theorem lS_share (l:List (List Int)):shareL (rows lO l)=rows lS l:=by
 rw [rows_share]
 congr 1
 funext t
 simp [lO,lS,shareL,share,shareL_ints]
section
variable {l:List (List Int)} {i:Nat}
theorem lS_0 (h:i < l.length):(rows lS l)[i]? = some (shI l[i])/\∀ h',(rows lS l)[i]'h'=shI l[i]:=twice (by
 have:=rows_get lS_one l i 0 h (by omega)
 simpa [lS] using this)
theorem lO_0 (h:i < l.length):(rows lO l)[i]? = some (owI l[i])/\∀ h',(rows lO l)[i]'h'=owI l[i]:=twice (by
 have:=rows_get lO_one l i 0 h (by omega)
 simpa [lO] using this)
theorem lO_set (h:i < l.length) (x:List Int):(rows lO l).set i (.ow 1 x.length (ints x))=rows lO (l.set i x):=by
 have:=rows_set lO_one l i 0 _ x h (by omega) rfl
 simpa [lO] using this
end
def lZ:Option (List Int)->List D
 | none=>[.v (.slice none 0 0)]
 | some t=>lO t
theorem lZ_one (t:Option (List Int)):(lZ t).length=1:=by cases t <;> rfl
@[simp] theorem lZ_length (l:List (Option (List Int))):(rows lZ l).length=l.length:=by rw [rows_length lZ_one l,Nat.one_mul]
@[simp] theorem lO_noSh (l:List (List Int)):noShL (rows lO l):=rows_noSh (fun t=>by simp [lO,noShL,noSh,noShL_ints]) l
end Go.Proofs.Ytfcgcgmleogamaa.Ab
namespace Go.Proofs.Ytfcgcgmleogamaa.Ab
open Go
set_option maxRecDepth 10000
end Go.Proofs.Ytfcgcgmleogamaa.Ab
namespace Go.Proofs.Ytfcgcgmleogamaa.Ab
open Go
structure Qtm where
 e:List Int
 h:Int
 c:Int
deriving DecidableEq
structure Qsm where
 v:Int
 ts:List Qtm
deriving DecidableEq
def qtS (t:Qtm):List D:=[shI t.e,D.int t.h,D.int t.c]
def qtO (t:Qtm):List D:=[owI t.e,D.int t.h,D.int t.c]
theorem qtS_three (t:Qtm):(qtS t).length=3:=rfl
theorem qtO_three (t:Qtm):(qtO t).length=3:=rfl
@[simp] theorem qtS_length (l:List Qtm):(rows qtS l).length=3*l.length:=rows_length qtS_three l
@[simp] theorem qtO_length (l:List Qtm):(rows qtO l).length=3*l.length:=rows_length qtO_three l
@[simp] theorem qtS_share (l:List Qtm):shareL (rows qtO l)=rows qtS l:=by
 rw [rows_share]
 congr 1
 funext t
 simp [qtO,qtS,shareL,share,shareL_ints]
@[simp] theorem qtO_noSh (l:List Qtm):noShL (rows qtO l):=rows_noSh (fun t=>by simp [qtO,noShL,noSh,noShL_ints]) l
section
variable {l:List Qtm} {i:Nat}
end
def qtZ:Option Qtm->List D
 | none=>[.v (.slice none 0 0),D.int 0,D.int 0]
 | some t=>qtO t
theorem qtZ_three (t:Option Qtm):(qtZ t).length=3:=by cases t <;> rfl
@[simp] theorem qtZ_length (l:List (Option Qtm)):(rows qtZ l).length=3*l.length:=rows_length qtZ_three l
end Go.Proofs.Ytfcgcgmleogamaa.Ab
namespace Go.Proofs.Ytfcgcgmleogamaa.Ab
open Go
set_option maxRecDepth 10000
end Go.Proofs.Ytfcgcgmleogamaa.Ab
namespace Go.Proofs.Ytfcgcgmleogamaa.Ab
open Go
set_option maxRecDepth 10000
set_option maxHeartbeats 2000000
def qk (t:Qtm):List Int×Int:=(t.e,t.h)
def QGood (v:Int) (t:Qtm):Prop:=(t.e.length:Int)=v/\t.c≠0/\(-1000000<=t.c/\t.c<=1000000)/\(-200<=t.h/\t.h<=200)/\∀ x∈t.e,-20<=x/\x<=20
def DescQ (ts:List Qtm):Prop:=ts.Pairwise fun a b=>qlt (qk b) (qk a)=true
def QRight (f:Qsm):Prop:=(1<=f.v/\f.v<=8)/\f.ts.length<=600/\(∀ t∈f.ts,QGood f.v t)/\DescQ f.ts
noncomputable instance (f:Qsm):Decidable (QRight f):=Classical.propDecidable _
end Go.Proofs.Ytfcgcgmleogamaa.Ab
namespace Go.Proofs.Ytfcgcgmleogamaa.Ab
open Go
set_option maxRecDepth 10000
set_option maxHeartbeats 2000000
end Go.Proofs.Ytfcgcgmleogamaa.Ab
namespace Go.Proofs.Ytfcgcgmleogamaa.Ab
open Go
set_option maxRecDepth 10000
set_option maxHeartbeats 2000000
def at2 (fm:List (List Int)) (i j:Nat):Int:=(fm.getD i []).getD j 0
theorem row_eq {fm:List (List Int)} {i:Nat} (h:i < fm.length):fm.getD i []=fm[i]:=by simp [List.getD_eq_getElem?_getD,h]
theorem int_eq {a:List Int} {i:Nat} (h:i < a.length):a.getD i 0=a[i]:=by simp [List.getD_eq_getElem?_getD,h]
theorem at2_eq {fm:List (List Int)} {i j:Nat} (h:i < fm.length) (h2:j < fm[i].length):at2 fm i j=fm[i][j]:=by
 unfold at2
 rw [row_eq h,int_eq h2]
def Skp (fm:List (List Int)) (i j:Nat):Prop:=(-99<=at2 fm i j/\at2 fm i j<=99)/\at2 fm i j+at2 fm j i=0
def FormOk (fm:List (List Int)):Prop:=(1<=(fm.length:Int)/\(fm.length:Int)<=8)/\(∀ i,i < fm.length->(fm.getD i []).length=fm.length)/\∀ i,i < fm.length->∀ j,j < fm.length->Skp fm i j
noncomputable instance (fm:List (List Int)):Decidable (FormOk fm):=Classical.propDecidable _
def I64 (fm:List (List Int)):Prop:=∀ r∈fm,∀ x∈r,-9223372036854775808<=x/\x<=9223372036854775807
theorem wrap_zero {a b:Int} (ha:-99<=a/\a<=99) (hb:-9223372036854775808<=b/\b<=9223372036854775807):IntKind.i64.wrap (a+b)=0↔a+b=0:=by
 rw [IntKind.wrap_i64]
 omega
theorem wrap_neg {a b:Int} (ha:-99<=a/\a<=99) (hb:-9223372036854775808<=b/\b<=9223372036854775807):a=IntKind.i64.wrap (-b)↔a+b=0:=by
 rw [IntKind.wrap_i64]
 omega
theorem spec_l8Form_c (fm:List (List Int)) (hx:fm.length < 4611686018427387904) (hI:I64 fm):ACalls Try.prog F.spec_l8Form [.d (.sh 1 fm.length (rows lS fm))] [] true (fun outs res=>outs=[]/\res=[.one (D.bool (decide (FormOk fm)))]):=by
 refine ACalls.of_body (C:=C.spec_l8Form) (n:=Try.f67.ntmps) tabT folT Try.func67 rfl (by kernel_rfl) rfl (Nat.le_of_ble_eq_true rfl) (by decide) (by kernel_rfl) (by kernel_rfl) rfl (by simp) (by simp) ?_
 simp only [Try.f67]
 refine wseq ?_
 refine wreg fun K hK=>?_
 simp [C.spec_l8Form]
 refine hK _ ?_;clear hK K
 show AWp _ _ _ _ _
 refine wseq ?_
 refine wreg fun K hK=>?_
 simp [C.spec_l8Form]
 refine hK _ ?_;clear hK K
 show AWp _ _ _ _ _
 refine wseq ?_
 refine wseq ?_
 refine wregI ([0,1] ++ ([2])) rfl fun K hK=>?_
 refine oSg fun L hL=>?_
 simp [C.spec_l8Form]
 refine wcall1 (spec_l1In_c fm.length 1 8) (by simp) (by simp) ?_
 simp [C.spec_l8Form]
 refine hL _ ?_;clear hL L
 refine oEn fun L hL=>?_
 simp [C.spec_l8Form]
 refine hL _ ?_;clear hL L
 simp [C.spec_l8Form]
 refine hK _ ?_;clear hK K
 show AWp _ _ _ _ _
 refine wcond _ rfl (fun hc1=>?_) (fun hc1=>?_)
 ·have hc:¬ (1<=(fm.length:Int)/\(fm.length:Int)<=8):=by simp at hc1;omega
  refine wseq ?_
  refine wreg fun K hK=>?_
  simp [C.spec_l8Form]
  refine hK _ ?_;clear hK K
  show AWp _ _ _ _ _
  refine wret ?_
  simp [C.spec_l8Form]
  exact fun h=>hc h.1
 ·have hn:1<=(fm.length:Int)/\(fm.length:Int)<=8:=by simp at hc1;omega
  refine wskip ?_
  show AWp _ _ _ _ _
  refine wseq ?_
  refine wseq ?_
  refine wreg fun K hK=>?_
  simp [C.spec_l8Form]
  refine hK _ ?_;clear hK K
  show AWp _ _ _ _ _
  refine wblock ?_
  refine wloop (fun x:Nat=>⟨ofL [(0,.d (.sh 1 fm.length (rows lS fm))),(3,.int fm.length),(4,.int x)],ofRO []⟩) (fun x=>x<=fm.length/\∀ i,i < x->(fm.getD i []).length=fm.length) (fun x=>fm.length - x) 0 (by simp [C.spec_l8Form]) (by simp) ?_
  intro x1 hx1 R1 hR1
  obtain ⟨g1,g2⟩:=hx1
  refine wseq ?_
  refine wseq ?_
  refine wreg fun K hK=>?_
  simp [C.spec_l8Form]
  refine hK _ ?_;clear hK K
  show AWp _ _ _ _ _
  refine wcond _ rfl (fun hc2=>?_) (fun hc2=>?_)
  ·have h1:x1 < fm.length:=by have:=d_t hc2;omega
   refine wskip ?_
   show AWp _ _ _ _ _
   refine wseq ?_
   refine wblock ?_
   refine wseq ?_
   refine wreg fun K hK=>?_
   simp [C.spec_l8Form,h1,lS_0 h1]
   refine hK _ ?_;clear hK K
   show AWp _ _ _ _ _
   refine wcond _ rfl (fun hc3=>?_) (fun hc3=>?_)
   ·have hb:¬ fm[x1].length=fm.length:=by intro e;simp [e] at hc3
    refine wseq ?_
    refine wreg fun K hK=>?_
    simp [C.spec_l8Form]
    refine hK _ ?_;clear hK K
    show AWp _ _ _ _ _
    refine wret ?_
    simp [C.spec_l8Form]
    exact fun h=>hb (by have:=h.2.1 x1 h1;rwa [row_eq h1] at this)
   ·have hb:fm[x1].length=fm.length:=by simp at hc3;omega
    refine wskip ?_
    show AWp _ _ _ _ _
    refine wreg fun K hK=>?_
    simp [C.spec_l8Form,wrap_succ (show x1 < 4611686018427387904 by omega)]
    refine hK _ ?_;clear hK K
    simp [C.spec_l8Form]
    refine hR1 (x1+1) ⟨h1,fun i hi=>?_⟩ (by omega)
    rcases Nat.lt_or_ge i x1 with q | q
    ·exact g2 i q
    ·obtain rfl:i=x1:=by omega
     rw [row_eq h1]
     exact hb
  ·have h1:x1=fm.length:=by have:=d_f hc2;omega
   rw [h1] at g2
   have hrl:∀ i (h:i < fm.length),fm[i].length=fm.length:=fun i h=>by have:=g2 i h;rwa [row_eq h] at this
   refine wexit ?_
   show AWp _ _ _ _ _
   refine wseq ?_
   refine wseq ?_
   refine wreg fun K hK=>?_
   simp [C.spec_l8Form]
   refine hK _ ?_;clear hK K
   show AWp _ _ _ _ _
   refine wblock ?_
   refine wloop (fun x:Nat=>⟨ofL [(0,.d (.sh 1 fm.length (rows lS fm))),(3,.int fm.length),(5,.int x)],ofRO []⟩) (fun x=>x<=fm.length/\∀ i,i < x->∀ j,j < fm.length->Skp fm i j) (fun x=>fm.length - x) 0 (by simp [C.spec_l8Form]) (by simp) ?_
   intro x2 hx2 R2 hR2
   obtain ⟨g3,g4⟩:=hx2
   refine wseq ?_
   refine wseq ?_
   refine wreg fun K hK=>?_
   simp [C.spec_l8Form]
   refine hK _ ?_;clear hK K
   show AWp _ _ _ _ _
   refine wcond _ rfl (fun hc4=>?_) (fun hc4=>?_)
   ·have h2:x2 < fm.length:=by have:=d_t hc4;omega
    refine wskip ?_
    show AWp _ _ _ _ _
    refine wseq ?_
    refine wblock ?_
    refine wseq ?_
    refine wreg fun K hK=>?_
    simp [C.spec_l8Form]
    refine hK _ ?_;clear hK K
    show AWp _ _ _ _ _
    refine wblock ?_
    refine wloop (fun x:Nat=>⟨ofL [(0,.d (.sh 1 fm.length (rows lS fm))),(3,.int fm.length),(5,.int x2),(6,.int x)],ofRO []⟩) (fun x=>x<=fm.length/\∀ j,j < x->Skp fm x2 j) (fun x=>fm.length - x) 0 (by simp [C.spec_l8Form]) (by simp) ?_
    intro x3 hx3 R3 hR3
    obtain ⟨g5,g6⟩:=hx3
    refine wseq ?_
    refine wseq ?_
    refine wreg fun K hK=>?_
    simp [C.spec_l8Form]
    refine hK _ ?_;clear hK K
    show AWp _ _ _ _ _
    refine wcond _ rfl (fun hc5=>?_) (fun hc5=>?_)
    ·have h3:x3 < fm.length:=by have:=d_t hc5;omega
     have h23:x3 < fm[x2].length:=by rw [hrl x2 h2];exact h3
     have h32:x2 < fm[x3].length:=by rw [hrl x3 h3];exact h2
     have hi2:=hI _ (List.getElem_mem h2) _ (List.getElem_mem h23)
     have hi3:=hI _ (List.getElem_mem h3) _ (List.getElem_mem h32)
     have hsk:Skp fm x2 x3↔(-99<=fm[x2][x3]/\fm[x2][x3]<=99)/\fm[x2][x3]+fm[x3][x2]=0:=by unfold Skp;rw [at2_eq h2 h23,at2_eq h3 h32]
     refine wskip ?_
     show AWp _ _ _ _ _
     refine wseq ?_
     refine wblock ?_
     refine wseq ?_
     refine wdrawI [(true,0),(true,1),(true,2),(true,3),(true,4),(true,5),(true,6),(false,7),(true,8),(true,9),(true,10),(true,11),(true,12),(true,13),(true,14),(true,15),(true,16),(true,17),(true,18),(true,19),(true,20),(true,21),(true,22),(true,23),(true,24),(true,25),(true,26)] ⟨by kernel_rfl,by kernel_rfl⟩ ([0,1,2,3,4,5,6,7] ++ ([8,9,10,11,12,13,14,15,16,17,18,19,20,21,22,23,24,25,26])) rfl fun K hK=>?_
     have hJ:K ⟨ofL [(0,.d (.sh 1 fm.length (rows lS fm))),(3,.int fm.length),(5,.int x2),(6,.int x3),(60,.bool (!decide ((-99<=fm[x2][x3]/\fm[x2][x3]<=99)/\fm[x2][x3]+fm[x3][x2]=0)))],ofRO []⟩:=by
      refine hK _ ?_;clear hK K
      show AWp _ _ _ _ _
      refine wcond _ rfl (fun hc6=>?_) (fun hc6=>?_)
      ·have hb:=nd_t hc6
       refine wseq ?_
       refine wreg fun K hK=>?_
       simp [C.spec_l8Form]
       refine hK _ ?_;clear hK K
       show AWp _ _ _ _ _
       refine wret ?_
       simp [C.spec_l8Form]
       exact fun h=>hb (hsk.1 (h.2.2 x2 h2 x3 h3))
      ·have hb:=nd_f hc6
       refine wskip ?_
       show AWp _ _ _ _ _
       refine wreg fun K hK=>?_
       simp [C.spec_l8Form,wrap_succ (show x3 < 4611686018427387904 by omega)]
       refine hK _ ?_;clear hK K
       simp [C.spec_l8Form]
       refine hR3 (x3+1) ⟨h3,fun j hj=>?_⟩ (by omega)
       rcases Nat.lt_or_ge j x3 with q | q
       ·exact g6 j q
       ·obtain rfl:j=x3:=by omega
        exact hsk.2 hb
     clear hK
     by_cases ha:-99<=fm[x2][x3]/\fm[x2][x3]<=99
     ·refine oSg fun L hL=>?_
      simp [C.spec_l8Form,h2,h3,lS_0 h2,lS_0 h3,get_ints,h23,h32,ha]
      refine wcall1 (spec_l1In_c fm[x2][x3] (-99) 99) (by simp) (by simp) ?_
      simp [C.spec_l8Form,h2,h3,lS_0 h2,lS_0 h3,get_ints,h23,h32,ha]
      refine hL _ ?_;clear hL L
      refine oEn fun L hL=>?_
      simp [C.spec_l8Form,h2,h3,lS_0 h2,lS_0 h3,get_ints,h23,h32,ha]
      refine hL _ ?_;clear hL L
      simp [C.spec_l8Form,h2,h3,lS_0 h2,lS_0 h3,get_ints,h23,h32,ha]
      refine cast (congrArg K ?_) hJ
      simp [wrap_zero ha hi3,ibne,ha]
     ·refine oSg fun L hL=>?_
      simp [C.spec_l8Form,h2,h3,lS_0 h2,lS_0 h3,get_ints,h23,h32,ha]
      refine wcall1 (spec_l1In_c fm[x2][x3] (-99) 99) (by simp) (by simp) ?_
      simp [C.spec_l8Form,h2,h3,lS_0 h2,lS_0 h3,get_ints,h23,h32,ha]
      refine hL _ ?_;clear hL L
      refine oEn fun L hL=>?_
      simp [C.spec_l8Form,h2,h3,lS_0 h2,lS_0 h3,get_ints,h23,h32,ha]
      refine hL _ ?_;clear hL L
      simp [C.spec_l8Form,h2,h3,lS_0 h2,lS_0 h3,get_ints,h23,h32,ha]
      refine cast (congrArg K ?_) hJ
      simp [ha]
    ·have h3:x3=fm.length:=by have:=d_f hc5;omega
     refine wexit ?_
     show AWp _ _ _ _ _
     refine wreg fun K hK=>?_
     simp [C.spec_l8Form,wrap_succ (show x2 < 4611686018427387904 by omega)]
     refine hK _ ?_;clear hK K
     simp [C.spec_l8Form]
     refine hR2 (x2+1) ⟨h2,fun i hi=>?_⟩ (by omega)
     rcases Nat.lt_or_ge i x2 with q | q
     ·exact g4 i q
     ·obtain rfl:i=x2:=by omega
      rw [h3] at g6
      exact g6
   ·have h2:x2=fm.length:=by have:=d_f hc4;omega
    rw [h2] at g4
    refine wexit ?_
    show AWp _ _ _ _ _
    refine wseq ?_
    refine wreg fun K hK=>?_
    simp [C.spec_l8Form]
    refine hK _ ?_;clear hK K
    show AWp _ _ _ _ _
    refine wret ?_
    simp [C.spec_l8Form]
    exact ⟨hn,g2,g4⟩
theorem impl_IsForm_c (fm:List (List Int)) (hx:fm.length < 4611686018427387904) (hI:I64 fm):ACalls Try.prog F.impl_IsForm [.d (.sh 1 fm.length (rows lS fm))] [] true (fun outs res=>outs=[]/\res=[.one (D.bool (decide (FormOk fm)))]):=by
 refine ACalls.of_body (C:=C.impl_IsForm) (n:=Try.f15.ntmps) tabT folT Try.func15 rfl (by kernel_rfl) rfl (Nat.le_of_ble_eq_true rfl) (by decide) (by kernel_rfl) (by kernel_rfl) rfl (by simp) (by simp) ?_
 simp only [Try.f15]
 refine wseq ?_
 refine wreg fun K hK=>?_
 simp [C.impl_IsForm]
 refine hK _ ?_;clear hK K
 show AWp _ _ _ _ _
 refine wseq ?_
 refine wreg fun K hK=>?_
 simp [C.impl_IsForm]
 refine hK _ ?_;clear hK K
 show AWp _ _ _ _ _
 refine wseq ?_
 refine wseq ?_
 refine wregI ([0,1] ++ ([2])) rfl fun K hK=>?_
 refine oSg fun L hL=>?_
 simp [C.impl_IsForm]
 refine wcall1 (impl_within_c fm.length 1 8) (by simp) (by simp) ?_
 simp [C.impl_IsForm]
 refine hL _ ?_;clear hL L
 refine oEn fun L hL=>?_
 simp [C.impl_IsForm]
 refine hL _ ?_;clear hL L
 simp [C.impl_IsForm]
 refine hK _ ?_;clear hK K
 show AWp _ _ _ _ _
 refine wcond _ rfl (fun hc1=>?_) (fun hc1=>?_)
 ·have hc:¬ (1<=(fm.length:Int)/\(fm.length:Int)<=8):=by simp at hc1;omega
  refine wseq ?_
  refine wreg fun K hK=>?_
  simp [C.impl_IsForm]
  refine hK _ ?_;clear hK K
  show AWp _ _ _ _ _
  refine wret ?_
  simp [C.impl_IsForm]
  exact fun h=>hc h.1
 ·have hn:1<=(fm.length:Int)/\(fm.length:Int)<=8:=by simp at hc1;omega
  refine wskip ?_
  show AWp _ _ _ _ _
  refine wseq ?_
  refine wseq ?_
  refine wreg fun K hK=>?_
  simp [C.impl_IsForm]
  refine hK _ ?_;clear hK K
  show AWp _ _ _ _ _
  refine wblock ?_
  refine wloop (fun x:Nat=>⟨ofL [(0,.d (.sh 1 fm.length (rows lS fm))),(3,.int fm.length),(14,.d (.sh 1 fm.length (rows lS fm))),(15,.int fm.length),(16,.int x)],ofRO []⟩) (fun x=>x<=fm.length/\∀ i,i < x->(fm.getD i []).length=fm.length) (fun x=>fm.length - x) 0 (by simp [C.impl_IsForm]) (by simp) ?_
  intro x1 hx1 R1 hR1
  obtain ⟨g1,g2⟩:=hx1
  refine wseq ?_
  refine wreg fun K hK=>?_
  simp [C.impl_IsForm]
  refine hK _ ?_;clear hK K
  show AWp _ _ _ _ _
  refine wseq ?_
  refine wcond _ rfl (fun hc2=>?_) (fun hc2=>?_)
  ·have h1:x1 < fm.length:=by have:=d_t hc2;omega
   refine wskip ?_
   show AWp _ _ _ _ _
   refine wseq ?_
   refine wblock ?_
   refine wseq ?_
   refine wreg fun K hK=>?_
   simp [C.impl_IsForm,h1,lS_0 h1]
   refine hK _ ?_;clear hK K
   show AWp _ _ _ _ _
   refine wseq ?_
   refine wreg fun K hK=>?_
   simp [C.impl_IsForm]
   refine hK _ ?_;clear hK K
   show AWp _ _ _ _ _
   refine wcond _ rfl (fun hc3=>?_) (fun hc3=>?_)
   ·have hb:¬ fm[x1].length=fm.length:=by intro e;simp [e] at hc3
    refine wseq ?_
    refine wreg fun K hK=>?_
    simp [C.impl_IsForm]
    refine hK _ ?_;clear hK K
    show AWp _ _ _ _ _
    refine wret ?_
    simp [C.impl_IsForm]
    exact fun h=>hb (by have:=h.2.1 x1 h1;rwa [row_eq h1] at this)
   ·have hb:fm[x1].length=fm.length:=by simp at hc3;omega
    refine wskip ?_
    show AWp _ _ _ _ _
    refine wreg fun K hK=>?_
    simp [C.impl_IsForm,wrap_succ (show x1 < 4611686018427387904 by omega)]
    refine hK _ ?_;clear hK K
    simp [C.impl_IsForm]
    refine hR1 (x1+1) ⟨h1,fun i hi=>?_⟩ (by omega)
    rcases Nat.lt_or_ge i x1 with q | q
    ·exact g2 i q
    ·obtain rfl:i=x1:=by omega
     rw [row_eq h1]
     exact hb
  ·have h1:x1=fm.length:=by have:=d_f hc2;omega
   rw [h1] at g2
   have hrl:∀ i (h:i < fm.length),fm[i].length=fm.length:=fun i h=>by have:=g2 i h;rwa [row_eq h] at this
   refine wexit ?_
   show AWp _ _ _ _ _
   refine wseq ?_
   refine wseq ?_
   refine wreg fun K hK=>?_
   simp [C.impl_IsForm]
   refine hK _ ?_;clear hK K
   show AWp _ _ _ _ _
   refine wblock ?_
   refine wloop (fun x:Nat=>⟨ofL [(0,.d (.sh 1 fm.length (rows lS fm))),(26,.int fm.length),(27,.int x)],ofRO []⟩) (fun x=>x<=fm.length/\∀ i,i < x->∀ j,j < fm.length->Skp fm i j) (fun x=>fm.length - x) 0 (by simp [C.impl_IsForm]) (by simp) ?_
   intro x2 hx2 R2 hR2
   obtain ⟨g3,g4⟩:=hx2
   refine wseq ?_
   refine wreg fun K hK=>?_
   simp [C.impl_IsForm]
   refine hK _ ?_;clear hK K
   show AWp _ _ _ _ _
   refine wseq ?_
   refine wcond _ rfl (fun hc4=>?_) (fun hc4=>?_)
   ·have h2:x2 < fm.length:=by have:=d_t hc4;omega
    refine wskip ?_
    show AWp _ _ _ _ _
    refine wseq ?_
    refine wblock ?_
    refine wseq ?_
    refine wreg fun K hK=>?_
    simp [C.impl_IsForm]
    refine hK _ ?_;clear hK K
    show AWp _ _ _ _ _
    refine wseq ?_
    refine wreg fun K hK=>?_
    simp [C.impl_IsForm,h2,lS_0 h2]
    refine hK _ ?_;clear hK K
    show AWp _ _ _ _ _
    refine wblock ?_
    refine wloop (fun x:Nat=>⟨ofL [(0,.d (.sh 1 fm.length (rows lS fm))),(6,.int x2),(26,.int fm.length),(27,.int x2),(33,.d (shI fm[x2])),(34,.int fm[x2].length),(35,.int x)],ofRO []⟩) (fun x=>x<=fm.length/\∀ j,j < x->Skp fm x2 j) (fun x=>fm.length - x) 0 (by simp [C.impl_IsForm]) (by simp) ?_
    intro x3 hx3 R3 hR3
    obtain ⟨g5,g6⟩:=hx3
    refine wseq ?_
    refine wreg fun K hK=>?_
    simp [C.impl_IsForm]
    refine hK _ ?_;clear hK K
    show AWp _ _ _ _ _
    refine wseq ?_
    refine wcond _ rfl (fun hc5=>?_) (fun hc5=>?_)
    ·have h3:x3 < fm.length:=by have:=d_t hc5;have:=hrl x2 h2;omega
     have h23:x3 < fm[x2].length:=by rw [hrl x2 h2];exact h3
     have h32:x2 < fm[x3].length:=by rw [hrl x3 h3];exact h2
     have hi2:=hI _ (List.getElem_mem h2) _ (List.getElem_mem h23)
     have hi3:=hI _ (List.getElem_mem h3) _ (List.getElem_mem h32)
     have hsk:Skp fm x2 x3↔(-99<=fm[x2][x3]/\fm[x2][x3]<=99)/\fm[x2][x3]+fm[x3][x2]=0:=by unfold Skp;rw [at2_eq h2 h23,at2_eq h3 h32]
     refine wskip ?_
     show AWp _ _ _ _ _
     refine wseq ?_
     refine wblock ?_
     refine wseq ?_
     refine wreg fun K hK=>?_
     simp [C.impl_IsForm,get_ints,h23]
     refine hK _ ?_;clear hK K
     show AWp _ _ _ _ _
     refine wseq ?_
     refine wregI ([0,1] ++ ([2,3,4,5,6,7,8,9,10,11,12,13,14])) rfl fun K hK=>?_
     have hJ:K ⟨ofL [(0,.d (.sh 1 fm.length (rows lS fm))),(6,.int x2),(26,.int fm.length),(27,.int x2),(33,.d (shI fm[x2])),(34,.int fm[x2].length),(35,.int x3),(54,.bool (!decide ((-99<=fm[x2][x3]/\fm[x2][x3]<=99)/\fm[x2][x3]+fm[x3][x2]=0)))],ofRO []⟩:=by
      refine hK _ ?_;clear hK K
      show AWp _ _ _ _ _
      refine wcond _ rfl (fun hc6=>?_) (fun hc6=>?_)
      ·have hb:=nd_t hc6
       refine wseq ?_
       refine wreg fun K hK=>?_
       simp [C.impl_IsForm]
       refine hK _ ?_;clear hK K
       show AWp _ _ _ _ _
       refine wret ?_
       simp [C.impl_IsForm]
       exact fun h=>hb (hsk.1 (h.2.2 x2 h2 x3 h3))
      ·have hb:=nd_f hc6
       refine wskip ?_
       show AWp _ _ _ _ _
       refine wreg fun K hK=>?_
       simp [C.impl_IsForm,wrap_succ (show x3 < 4611686018427387904 by omega)]
       refine hK _ ?_;clear hK K
       simp [C.impl_IsForm]
       refine hR3 (x3+1) ⟨h3,fun j hj=>?_⟩ (by omega)
       rcases Nat.lt_or_ge j x3 with q | q
       ·exact g6 j q
       ·obtain rfl:j=x3:=by omega
        exact hsk.2 hb
     clear hK
     by_cases ha:-99<=fm[x2][x3]/\fm[x2][x3]<=99
     ·refine oSg fun L hL=>?_
      simp [C.impl_IsForm,h2,h3,lS_0 h2,lS_0 h3,get_ints,h23,h32,ha]
      refine wcall1 (impl_within_c fm[x2][x3] (-99) 99) (by simp) (by simp) ?_
      simp [C.impl_IsForm,h2,h3,lS_0 h2,lS_0 h3,get_ints,h23,h32,ha]
      refine hL _ ?_;clear hL L
      refine oEn fun L hL=>?_
      simp [C.impl_IsForm,h2,h3,lS_0 h2,lS_0 h3,get_ints,h23,h32,ha]
      refine hL _ ?_;clear hL L
      simp [C.impl_IsForm,h2,h3,lS_0 h2,lS_0 h3,get_ints,h23,h32,ha]
      refine cast (congrArg K ?_) hJ
      simp [wrap_neg ha hi3,ibne,ha]
     ·refine oSg fun L hL=>?_
      simp [C.impl_IsForm,h2,h3,lS_0 h2,lS_0 h3,get_ints,h23,h32,ha]
      refine wcall1 (impl_within_c fm[x2][x3] (-99) 99) (by simp) (by simp) ?_
      simp [C.impl_IsForm,h2,h3,lS_0 h2,lS_0 h3,get_ints,h23,h32,ha]
      refine hL _ ?_;clear hL L
      refine oEn fun L hL=>?_
      simp [C.impl_IsForm,h2,h3,lS_0 h2,lS_0 h3,get_ints,h23,h32,ha]
      refine hL _ ?_;clear hL L
      simp [C.impl_IsForm,h2,h3,lS_0 h2,lS_0 h3,get_ints,h23,h32,ha]
      refine cast (congrArg K ?_) hJ
      simp [ha]
    ·have h3:x3=fm.length:=by have:=d_f hc5;have:=hrl x2 h2;omega
     refine wexit ?_
     show AWp _ _ _ _ _
     refine wreg fun K hK=>?_
     simp [C.impl_IsForm,wrap_succ (show x2 < 4611686018427387904 by omega)]
     refine hK _ ?_;clear hK K
     simp [C.impl_IsForm]
     refine hR2 (x2+1) ⟨h2,fun i hi=>?_⟩ (by omega)
     rcases Nat.lt_or_ge i x2 with q | q
     ·exact g4 i q
     ·obtain rfl:i=x2:=by omega
      rw [h3] at g6
      exact g6
   ·have h2:x2=fm.length:=by have:=d_f hc4;omega
    rw [h2] at g4
    refine wexit ?_
    show AWp _ _ _ _ _
    refine wseq ?_
    refine wreg fun K hK=>?_
    simp [C.impl_IsForm]
    refine hK _ ?_;clear hK K
    show AWp _ _ _ _ _
    refine wret ?_
    simp [C.impl_IsForm]
    exact ⟨hn,g2,g4⟩
end Go.Proofs.Ytfcgcgmleogamaa.Ab
namespace Go.Proofs.Ytfcgcgmleogamaa.Ab
open Go
set_option maxRecDepth 10000
set_option maxHeartbeats 2000000
def sm (f:Nat->Int):Nat->Int
 | 0=>0
 | n+1=>sm f n+f n
theorem sm_bd {f:Nat->Int} {M:Nat}:∀ n,(∀ i,i < n->(f i).natAbs<=M)->(sm f n).natAbs<=n*M
 | 0,_=>by simp [sm]
 | n+1,h=>by
  have h1:=sm_bd n fun i hi=>h i (by omega)
  have h2:=h n (by omega)
  simp only [sm,Nat.add_mul,Nat.one_mul]
  omega
theorem sm_congr {f g:Nat->Int}:∀ n,(∀ i,i < n->f i=g i)->sm f n=sm g n
 | 0,_=>rfl
 | n+1,h=>by
  simp only [sm]
  rw [sm_congr n fun i hi=>h i (by omega),h n (by omega)]
def skT (fm:List (List Int)) (a b:List Int) (i j:Nat):Int:=a.getD i 0*at2 fm i j*b.getD j 0
def skR (fm:List (List Int)) (a b:List Int) (i:Nat):Int:=sm (skT fm a b i) fm.length
def skw (fm:List (List Int)) (a b:List Int):Int:=sm (skR fm a b) fm.length
structure SkOk (fm:List (List Int)) (a b:List Int):Prop where
 ok:FormOk fm
 la:a.length=fm.length
 lb:b.length=fm.length
 ba:∀ x∈a,-1000<=x/\x<=1000
 bb:∀ x∈b,-1000<=x/\x<=1000
theorem mulNb {x y:Int} {M N:Nat} (hx:x.natAbs<=M) (hy:y.natAbs<=N):(x*y).natAbs<=M*N:=by
 rw [Int.natAbs_mul]
 exact Nat.mul_le_mul hx hy
section
variable {fm:List (List Int)} {a b:List Int}
theorem SkOk.row (h:SkOk fm a b) {i:Nat} (hi:i < fm.length):fm[i].length=fm.length:=by
 have:=h.ok.2.1 i hi
 rwa [row_eq hi] at this
theorem SkOk.n8 (h:SkOk fm a b):fm.length<=8:=by have:=h.ok.1;omega
theorem SkOk.ent (h:SkOk fm a b) {i j:Nat} (hi:i < fm.length) (hj:j < fm.length):(at2 fm i j).natAbs<=99:=by
 have:=(h.ok.2.2 i hi j hj).1
 omega
theorem SkOk.ai (h:SkOk fm a b) {i:Nat} (hi:i < fm.length):(a.getD i 0).natAbs<=1000:=by
 rw [int_eq (by rw [h.la];exact hi)]
 have:=h.ba _ (List.getElem_mem (by rw [h.la];exact hi))
 omega
theorem SkOk.bj (h:SkOk fm a b) {j:Nat} (hj:j < fm.length):(b.getD j 0).natAbs<=1000:=by
 rw [int_eq (by rw [h.lb];exact hj)]
 have:=h.bb _ (List.getElem_mem (by rw [h.lb];exact hj))
 omega
theorem SkOk.half (h:SkOk fm a b) {i j:Nat} (hi:i < fm.length) (hj:j < fm.length):(a.getD i 0*at2 fm i j).natAbs<=99000:=mulNb (h.ai hi) (h.ent hi hj)
theorem SkOk.t (h:SkOk fm a b) {i j:Nat} (hi:i < fm.length) (hj:j < fm.length):(skT fm a b i j).natAbs<=99000000:=mulNb (h.half hi hj) (h.bj hj)
theorem SkOk.rowB (h:SkOk fm a b) {i j:Nat} (hi:i < fm.length) (hj:j<=fm.length):(sm (skT fm a b i) j).natAbs<=792000000:=by
 have:=sm_bd (f:=skT fm a b i) (M:=99000000) j fun k hk=>h.t hi (by omega)
 have:=h.n8
 omega
theorem SkOk.allB (h:SkOk fm a b) {i:Nat} (hi:i<=fm.length):(sm (skR fm a b) i).natAbs<=6336000000:=by
 have:=sm_bd (f:=skR fm a b) (M:=792000000) i fun k hk=>h.rowB (by omega) (Nat.le_refl _)
 have:=h.n8
 omega
theorem SkOk.bd (h:SkOk fm a b):(skw fm a b).natAbs<=6336000000:=h.allB (Nat.le_refl _)
end
theorem spec_l8Skew_c (fm:List (List Int)) (a b:List Int) (h:SkOk fm a b):ACalls Try.prog F.spec_l8Skew [.d (.sh 1 fm.length (rows lS fm)),.d (shI a),.d (shI b)] [] true (fun outs res=>outs=[]/\res=[.one (D.int (skw fm a b))]):=by
 have hn8:=h.n8
 have hla:=h.la
 have hlb:=h.lb
 refine ACalls.of_body (C:=C.spec_l8Skew) (n:=Try.f123.ntmps) tabT folT Try.func123 rfl (by kernel_rfl) rfl (Nat.le_of_ble_eq_true rfl) (by decide) (by kernel_rfl) (by kernel_rfl) rfl (by simp) (by simp) ?_
 simp only [Try.f123]
 refine wseq ?_
 refine wreg fun K hK=>?_
 simp [C.spec_l8Skew]
 refine hK _ ?_;clear hK K
 show AWp _ _ _ _ _
 refine wseq ?_
 refine wreg fun K hK=>?_
 simp [C.spec_l8Skew]
 refine hK _ ?_;clear hK K
 show AWp _ _ _ _ _
 refine wseq ?_
 refine wseq ?_
 refine wreg fun K hK=>?_
 simp [C.spec_l8Skew]
 refine hK _ ?_;clear hK K
 show AWp _ _ _ _ _
 refine wblock ?_
 refine wloop (fun x:Nat=>⟨ofL [(0,.d (.sh 1 fm.length (rows lS fm))),(1,.d (shI a)),(2,.d (shI b)),(7,.int (sm (skR fm a b) x)),(8,.int x)],ofRO []⟩) (fun x=>x<=fm.length) (fun x=>fm.length - x) 0 (by simp [C.spec_l8Skew,sm]) (by simp) ?_
 intro x1 hx1 R1 hR1
 refine wseq ?_
 refine wseq ?_
 refine wreg fun K hK=>?_
 simp [C.spec_l8Skew]
 refine hK _ ?_;clear hK K
 show AWp _ _ _ _ _
 refine wcond _ rfl (fun hc1=>?_) (fun hc1=>?_)
 ·have h1:x1 < fm.length:=by have:=d_t hc1;omega
  have h1a:x1 < a.length:=by omega
  refine wskip ?_
  show AWp _ _ _ _ _
  refine wseq ?_
  refine wblock ?_
  refine wseq ?_
  refine wreg fun K hK=>?_
  simp [C.spec_l8Skew]
  refine hK _ ?_;clear hK K
  show AWp _ _ _ _ _
  refine wblock ?_
  refine wloop (fun x:Nat=>⟨ofL [(0,.d (.sh 1 fm.length (rows lS fm))),(1,.d (shI a)),(2,.d (shI b)),(7,.int (sm (skR fm a b) x1+sm (skT fm a b x1) x)),(8,.int x1),(9,.int x)],ofRO []⟩) (fun x=>x<=fm.length) (fun x=>fm.length - x) 0 (by simp [C.spec_l8Skew,sm]) (by simp) ?_
  intro x2 hx2 R2 hR2
  refine wseq ?_
  refine wseq ?_
  refine wreg fun K hK=>?_
  simp [C.spec_l8Skew]
  refine hK _ ?_;clear hK K
  show AWp _ _ _ _ _
  refine wcond _ rfl (fun hc2=>?_) (fun hc2=>?_)
  ·have h2:x2 < fm.length:=by have:=d_t hc2;omega
   have h2b:x2 < b.length:=by omega
   have h12:x2 < fm[x1].length:=by rw [h.row h1];exact h2
   have q1:=h.half h1 h2
   have q2:=h.t h1 h2
   have q3:=h.rowB h1 (show x2<=fm.length by omega)
   have q4:=h.allB (show x1<=fm.length by omega)
   have e1:a.getD x1 0=a[x1]:=int_eq h1a
   have e2:b.getD x2 0=b[x2]:=int_eq h2b
   have e3:at2 fm x1 x2=fm[x1][x2]:=at2_eq h1 h12
   have e4:skT fm a b x1 x2=a[x1]*fm[x1][x2]*b[x2]:=by unfold skT;rw [e1,e2,e3]
   rw [e1,e3] at q1
   rw [e4] at q2
   refine wskip ?_
   show AWp _ _ _ _ _
   refine wseq ?_
   refine wblock ?_
   refine wdrawI [(true,0),(true,1),(true,2),(true,3),(true,4),(true,5),(true,6),(true,7),(true,8),(true,9),(true,10),(true,11),(true,12),(true,13),(true,14),(true,15),(true,16),(true,17),(true,18),(true,19)] ⟨by kernel_rfl,by kernel_rfl⟩ ([0,1,2,3,4,5,6,7,8,9,10,11,12,13,14,15,16,17,18,19]) rfl fun K hK=>?_
   refine oEn fun L hL=>?_
   simp [C.spec_l8Skew,h1,h1a,h2b,h12,lS_0 h1,get_ints]
   refine hL _ ?_;clear hL L
   simp [C.spec_l8Skew,h1,h1a,h2b,h12,lS_0 h1,get_ints]
   rw [wrapOk (x:=a[x1]*fm[x1][x2]) (by omega) (by omega),wrapOk (x:=a[x1]*fm[x1][x2]*b[x2]) (by omega) (by omega),wrapOk (x:=sm (skR fm a b) x1+sm (skT fm a b x1) x2+a[x1]*fm[x1][x2]*b[x2]) (by omega) (by omega)]
   refine hK _ ?_;clear hK K
   show AWp _ _ _ _ _
   refine wreg fun K hK=>?_
   simp [C.spec_l8Skew,wrap_succ (show x2 < 4611686018427387904 by omega)]
   refine hK _ ?_;clear hK K
   simp [C.spec_l8Skew]
   refine cast (congrArg R2 ?_) (hR2 (x2+1) h2 (by omega))
   simp [sm,e4,Int.add_assoc]
  ·have h2:x2=fm.length:=by have:=d_f hc2;omega
   refine wexit ?_
   show AWp _ _ _ _ _
   refine wreg fun K hK=>?_
   simp [C.spec_l8Skew,wrap_succ (show x1 < 4611686018427387904 by omega)]
   refine hK _ ?_;clear hK K
   simp [C.spec_l8Skew]
   refine cast (congrArg R1 ?_) (hR1 (x1+1) h1 (by omega))
   simp [sm,h2,skR]
 ·have h1:x1=fm.length:=by have:=d_f hc1;omega
  refine wexit ?_
  show AWp _ _ _ _ _
  refine wseq ?_
  refine wreg fun K hK=>?_
  simp [C.spec_l8Skew]
  refine hK _ ?_;clear hK K
  show AWp _ _ _ _ _
  refine wret ?_
  simp [C.spec_l8Skew,skw,h1]
theorem impl_paired_c (fm:List (List Int)) (a b:List Int) (h:SkOk fm a b):ACalls Try.prog F.impl_paired [.d (.sh 1 fm.length (rows lS fm)),.d (shI a),.d (shI b)] [] true (fun outs res=>outs=[]/\res=[.one (D.int (skw fm a b))]):=by
 have hn8:=h.n8
 have hla:=h.la
 have hlb:=h.lb
 refine ACalls.of_body (C:=C.impl_paired) (n:=Try.f65.ntmps) tabT folT Try.func65 rfl (by kernel_rfl) rfl (Nat.le_of_ble_eq_true rfl) (by decide) (by kernel_rfl) (by kernel_rfl) rfl (by simp) (by simp) ?_
 simp only [Try.f65]
 refine wseq ?_
 refine wreg fun K hK=>?_
 simp [C.impl_paired]
 refine hK _ ?_;clear hK K
 show AWp _ _ _ _ _
 refine wseq ?_
 refine wreg fun K hK=>?_
 simp [C.impl_paired]
 refine hK _ ?_;clear hK K
 show AWp _ _ _ _ _
 refine wseq ?_
 refine wseq ?_
 refine wreg fun K hK=>?_
 simp [C.impl_paired]
 refine hK _ ?_;clear hK K
 show AWp _ _ _ _ _
 refine wblock ?_
 refine wloop (fun x:Nat=>⟨ofL [(1,.d (shI a)),(2,.d (shI b)),(7,.int (sm (skR fm a b) x)),(12,.d (.sh 1 fm.length (rows lS fm))),(13,.int fm.length),(14,.int x)],ofRO []⟩) (fun x=>x<=fm.length) (fun x=>fm.length - x) 0 (by simp [C.impl_paired,sm]) (by simp) ?_
 intro x1 hx1 R1 hR1
 refine wseq ?_
 refine wreg fun K hK=>?_
 simp [C.impl_paired]
 refine hK _ ?_;clear hK K
 show AWp _ _ _ _ _
 refine wseq ?_
 refine wcond _ rfl (fun hc1=>?_) (fun hc1=>?_)
 ·have h1:x1 < fm.length:=by have:=d_t hc1;omega
  have h1a:x1 < a.length:=by omega
  have hrow:=h.row h1
  refine wskip ?_
  show AWp _ _ _ _ _
  refine wseq ?_
  refine wblock ?_
  refine wseq ?_
  refine wreg fun K hK=>?_
  simp [C.impl_paired,h1,lS_0 h1]
  refine hK _ ?_;clear hK K
  show AWp _ _ _ _ _
  refine wseq ?_
  refine wreg fun K hK=>?_
  simp [C.impl_paired]
  refine hK _ ?_;clear hK K
  show AWp _ _ _ _ _
  refine wblock ?_
  refine wloop (fun x:Nat=>⟨ofL [(1,.d (shI a)),(2,.d (shI b)),(7,.int (sm (skR fm a b) x1+sm (skT fm a b x1) x)),(8,.int x1),(12,.d (.sh 1 fm.length (rows lS fm))),(13,.int fm.length),(14,.int x1),(19,.d (shI fm[x1])),(20,.int fm.length),(21,.int x)],ofRO []⟩) (fun x=>x<=fm.length) (fun x=>fm.length - x) 0 (by simp [C.impl_paired,sm,hrow]) (by simp) ?_
  intro x2 hx2 R2 hR2
  refine wseq ?_
  refine wreg fun K hK=>?_
  simp [C.impl_paired]
  refine hK _ ?_;clear hK K
  show AWp _ _ _ _ _
  refine wseq ?_
  refine wcond _ rfl (fun hc2=>?_) (fun hc2=>?_)
  ·have h2:x2 < fm.length:=by have:=d_t hc2;omega
   have h2b:x2 < b.length:=by omega
   have h12:x2 < fm[x1].length:=by rw [h.row h1];exact h2
   have q1:=h.half h1 h2
   have q2:=h.t h1 h2
   have q3:=h.rowB h1 (show x2<=fm.length by omega)
   have q4:=h.allB (show x1<=fm.length by omega)
   have e1:a.getD x1 0=a[x1]:=int_eq h1a
   have e2:b.getD x2 0=b[x2]:=int_eq h2b
   have e3:at2 fm x1 x2=fm[x1][x2]:=at2_eq h1 h12
   have e4:skT fm a b x1 x2=a[x1]*fm[x1][x2]*b[x2]:=by unfold skT;rw [e1,e2,e3]
   rw [e1,e3] at q1
   rw [e4] at q2
   refine wskip ?_
   show AWp _ _ _ _ _
   refine wseq ?_
   refine wblock ?_
   refine wseq ?_
   refine wreg fun K hK=>?_
   simp [C.impl_paired,get_ints,h12]
   refine hK _ ?_;clear hK K
   show AWp _ _ _ _ _
   refine wdrawI [(true,0),(true,1),(true,2),(true,3),(true,4),(true,5),(true,6),(true,7),(true,8),(true,9),(true,10),(true,11),(true,12),(true,13)] ⟨by kernel_rfl,by kernel_rfl⟩ ([0,1,2,3,4,5,6,7,8,9,10,11,12,13]) rfl fun K hK=>?_
   refine oEn fun L hL=>?_
   simp [C.impl_paired,h1,h1a,h2b,get_ints]
   refine hL _ ?_;clear hL L
   simp [C.impl_paired,h1,h1a,h2b,get_ints]
   rw [wrapOk (x:=a[x1]*fm[x1][x2]) (by omega) (by omega),wrapOk (x:=a[x1]*fm[x1][x2]*b[x2]) (by omega) (by omega),wrapOk (x:=sm (skR fm a b) x1+sm (skT fm a b x1) x2+a[x1]*fm[x1][x2]*b[x2]) (by omega) (by omega)]
   refine hK _ ?_;clear hK K
   show AWp _ _ _ _ _
   refine wreg fun K hK=>?_
   simp [C.impl_paired,wrap_succ (show x2 < 4611686018427387904 by omega)]
   refine hK _ ?_;clear hK K
   simp [C.impl_paired]
   refine cast (congrArg R2 ?_) (hR2 (x2+1) h2 (by omega))
   simp [sm,e4,Int.add_assoc]
  ·have h2:x2=fm.length:=by have:=d_f hc2;omega
   refine wexit ?_
   show AWp _ _ _ _ _
   refine wreg fun K hK=>?_
   simp [C.impl_paired,wrap_succ (show x1 < 4611686018427387904 by omega)]
   refine hK _ ?_;clear hK K
   simp [C.impl_paired]
   refine cast (congrArg R1 ?_) (hR1 (x1+1) h1 (by omega))
   simp [sm,h2,skR]
 ·have h1:x1=fm.length:=by have:=d_f hc1;omega
  refine wexit ?_
  show AWp _ _ _ _ _
  refine wseq ?_
  refine wreg fun K hK=>?_
  simp [C.impl_paired]
  refine hK _ ?_;clear hK K
  show AWp _ _ _ _ _
  refine wret ?_
  simp [C.impl_paired,skw,h1]
end Go.Proofs.Ytfcgcgmleogamaa.Ab
namespace Go.Proofs.Ytfcgcgmleogamaa.Ab
open Go
theorem sm_add (f g:Nat->Int):∀ n,sm (fun i=>f i+g i) n=sm f n+sm g n
 | 0=>rfl
 | n+1=>by
  simp only [sm,sm_add f g n]
  omega
theorem sm_neg (f:Nat->Int):∀ n,sm (fun i=>-f i) n=-sm f n
 | 0=>rfl
 | n+1=>by
  simp only [sm,sm_neg f n]
  omega
theorem sm_zero:∀ n,sm (fun _=>0) n=0
 | 0=>rfl
 | n+1=>by simp [sm,sm_zero n]
theorem sm_swap (f:Nat->Nat->Int) (m:Nat):∀ n,sm (fun i=>sm (f i) m) n=sm (fun j=>sm (fun i=>f i j) n) m
 | 0=>by
  simp only [sm]
  rw [sm_zero]
 | n+1=>by
  simp only [sm,sm_swap f m n]
  rw [sm_add]
end Go.Proofs.Ytfcgcgmleogamaa.Ab
namespace Go.Proofs.Ytfcgcgmleogamaa.Ab
open Go
theorem sm_mulL (c:Int) (f:Nat->Int):∀ n,sm (fun i=>c*f i) n=c*sm f n
 | 0=>by simp [sm]
 | n+1=>by
  simp only [sm,sm_mulL c f n]
  rw [Int.mul_add]
theorem sm_mulR (c:Int) (f:Nat->Int):∀ n,sm (fun i=>f i*c) n=sm f n*c
 | 0=>by simp [sm]
 | n+1=>by
  simp only [sm,sm_mulR c f n]
  rw [Int.add_mul]
theorem sm_delta (f:Nat->Int) (k:Nat):∀ n,sm (fun i=>if i=k then f i else 0) n=if k < n then f k else 0
 | 0=>by simp [sm]
 | n+1=>by
  simp only [sm,sm_delta f k n]
  by_cases h:n=k
  ·subst h
   simp
  ·rw [if_neg h]
   by_cases q:k < n
   ·rw [if_pos q,if_pos (by omega)];omega
   ·rw [if_neg q,if_neg (by omega)];omega
def sk2 (N:Nat) (L:Nat->Nat->Int) (a b:Nat->Int):Int:=sm (fun i=>sm (fun j=>a i*L i j*b j) N) N
theorem skw_sk2 (fm:List (List Int)) (a b:List Int):skw fm a b=sk2 fm.length (at2 fm) (fun i=>a.getD i 0) (fun j=>b.getD j 0):=rfl
theorem sk2_congr {N:Nat} {L:Nat->Nat->Int} {a b c d:Nat->Int} (h:∀ i,i < N->a i=c i) (g:∀ i,i < N->b i=d i):sk2 N L a b=sk2 N L c d:=by
 unfold sk2
 refine sm_congr _ fun i hi=>sm_congr _ fun j hj=>?_
 rw [h i hi,g j hj]
theorem sk2_left (N:Nat) (L:Nat->Nat->Int) (a b:Nat->Int):sk2 N L a b=sm (fun j=>sm (fun i=>a i*L i j) N*b j) N:=by
 unfold sk2
 rw [sm_swap]
 refine sm_congr _ fun j _=>?_
 rw [sm_mulR]
theorem sk2_right (N:Nat) (L:Nat->Nat->Int) (a b:Nat->Int):sk2 N L a b=sm (fun i=>a i*sm (fun j=>L i j*b j) N) N:=by
 unfold sk2
 refine sm_congr _ fun i _=>?_
 rw [<-sm_mulL]
 refine sm_congr _ fun j _=>?_
 rw [Int.mul_assoc]
def dl (k:Nat) (i:Nat):Int:=if i=k then 1 else 0
theorem sm_dl (k:Nat) (f:Nat->Int) {n:Nat} (h:k < n):sm (fun i=>dl k i*f i) n=f k:=by
 have e:sm (fun i=>dl k i*f i) n=sm (fun i=>if i=k then f i else 0) n:=sm_congr _ fun i _=>by
  unfold dl
  split <;> simp
 rw [e,sm_delta,if_pos h]
theorem sm_dl' (k:Nat) (f:Nat->Int) {n:Nat} (h:k < n):sm (fun i=>f i*dl k i) n=f k:=by
 rw [<-sm_dl k f h]
 exact sm_congr _ fun i _=>Int.mul_comm _ _
theorem sk2_dlL {N:Nat} (L:Nat->Nat->Int) {k:Nat} (b:Nat->Int) (h:k < N):sk2 N L (dl k) b=sm (fun j=>L k j*b j) N:=by
 rw [sk2_right,sm_dl k _ h]
theorem sk2_dd {N:Nat} (L:Nat->Nat->Int) {i j:Nat} (hi:i < N) (hj:j < N):sk2 N L (dl i) (dl j)=L i j:=by
 rw [sk2_dlL L _ hi,sm_dl' j _ hj]
theorem sk2_addL (N:Nat) (L:Nat->Nat->Int) (a c b:Nat->Int):sk2 N L (fun i=>a i+c i) b=sk2 N L a b+sk2 N L c b:=by
 unfold sk2
 rw [<-sm_add]
 refine sm_congr _ fun i _=>?_
 rw [<-sm_add]
 refine sm_congr _ fun j _=>?_
 rw [Int.add_mul,Int.add_mul]
theorem sk2_mulL (N:Nat) (L:Nat->Nat->Int) (x:Int) (a b:Nat->Int):sk2 N L (fun i=>x*a i) b=x*sk2 N L a b:=by
 unfold sk2
 rw [<-sm_mulL]
 refine sm_congr _ fun i _=>?_
 rw [<-sm_mulL]
 refine sm_congr _ fun j _=>?_
 rw [Int.mul_assoc,Int.mul_assoc,Int.mul_assoc]
def SkT (N:Nat) (L:Nat->Nat->Int):Prop:=∀ i,i < N->∀ j,j < N->L i j=-L j i
theorem sk2_anti {N:Nat} {L:Nat->Nat->Int} (hL:SkT N L) (a b:Nat->Int):sk2 N L a b=-sk2 N L b a:=by
 have e:sk2 N L a b=sm (fun i=>sm (fun j=>-(b j*L j i*a i)) N) N:=by
  unfold sk2
  refine sm_congr _ fun i hi=>sm_congr _ fun j hj=>?_
  rw [hL i hi j hj]
  grind
 rw [e,sm_swap]
 unfold sk2
 rw [<-sm_neg]
 refine sm_congr _ fun j _=>?_
 rw [<-sm_neg]
theorem sk2_self {N:Nat} {L:Nat->Nat->Int} (hL:SkT N L) (a:Nat->Int):sk2 N L a a=0:=by
 have:=sk2_anti hL a a
 omega
def Cmp (N n:Nat) (B:Nat->Nat->Int) (d:Nat->Int) (L:Nat->Nat->Int):Prop:=∀ j,j < n->∀ i,i < N->sm (fun r=>B r j*L r i) N=if i=j then d j else 0
theorem Cmp.col {N n:Nat} {B:Nat->Nat->Int} {d:Nat->Int} {L:Nat->Nat->Int} (h:Cmp N n B d L) {j:Nat} (hj:j < n) (hn:n<=N) (v:Nat->Int):sk2 N L (fun r=>B r j) v=d j*v j:=by
 rw [sk2_left]
 have e:sm (fun i=>sm (fun r=>B r j*L r i) N*v i) N=sm (fun i=>if i=j then d j*v i else 0) N:=sm_congr _ fun i hi=>by
  rw [h j hj i hi]
  split <;> simp
 rw [e,sm_delta,if_pos (by omega)]
def eC (B:Nat->Nat->Int) (k r:Nat):Int:=(if r=k then -1 else 0)+max 0 (B r k)
def eV (B:Nat->Nat->Int) (k i:Nat):Nat->Int:=if i=k then eC B k else dl i
def mtT (N:Nat) (L B:Nat->Nat->Int) (k i j:Nat):Int:=sk2 N L (eV B k i) (eV B k j)
theorem sm_eV {N:Nat} (B:Nat->Nat->Int) {k:Nat} (hk:k < N) (x:Nat->Int) {s:Nat} (hs:s < N):sm (fun r=>x r*eV B k r s) N=(if s=k then 0 else x s)+x k*eC B k s:=by
 have e:sm (fun r=>x r*eV B k r s) N=sm (fun r=>(if r=k then x r*eC B k s else 0)+(if r=s then (if s=k then 0 else x r) else 0)) N:=sm_congr _ fun r _=>by
  unfold eV dl
  by_cases h:r=k
  ·subst h
   by_cases q:r=s
   ·subst q;simp
   ·simp [q]
  ·by_cases q:r=s
   ·subst q;simp [h]
   ·simp [h,q,show ¬ s=r from fun e=>q e.symm]
 rw [e,sm_add,sm_delta,sm_delta,if_pos hk,if_pos hs]
 by_cases q:s=k
 ·simp [q]
 ·simp [q];omega
theorem sk2_mix {N:Nat} (L:Nat->Nat->Int) (x:Nat->Int) (E:Nat->Nat->Int) (b:Nat->Int):∀ n,sm (fun r=>x r*sk2 N L (E r) b) n=sk2 N L (fun s=>sm (fun r=>x r*E r s) n) b
 | 0=>by
  simp only [sm]
  unfold sk2
  have e:sm (fun i=>sm (fun j=>0*L i j*b j) N) N=sm (fun _=>0) N:=sm_congr _ fun i _=>by
   have:sm (fun j=>0*L i j*b j) N=sm (fun _=>0) N:=sm_congr _ fun j _=>by simp
   rw [this,sm_zero]
  rw [e,sm_zero]
 | n+1=>by
  simp only [sm]
  rw [sk2_mix L x E b n,sk2_addL,sk2_mulL]
theorem eC_self {B:Nat->Nat->Int} {k:Nat} (h:B k k=0):eC B k k=-1:=by unfold eC;rw [h];simp
theorem mu_col {N:Nat} {B:Nat->Nat->Int} {k j s:Nat} (hkk:B k k=0) (hj:j≠k):(if s=k then 0 else muE B k s j)+muE B k k j*eC B k s=B s j+max 0 (-(B k j))*B s k:=by
 have hkj:muE B k k j=-B k j:=by unfold muE;rw [if_pos (.inl rfl)]
 rw [hkj]
 by_cases hs:s=k
 ·subst hs
  rw [if_pos rfl,eC_self hkk,hkk]
  omega
 ·rw [if_neg hs]
  unfold eC
  rw [if_neg hs]
  unfold muE
  rw [if_neg (by omega)]
  by_cases h1:0 < B s k <;> by_cases h2:0 < B k j
  ·rw [if_pos ⟨h1,h2⟩,Int.max_eq_right (by omega:(0:Int)<=B s k),Int.max_eq_left (by omega:-(B k j)<=0)];grind
  ·rw [if_neg (by omega),if_neg (by omega),Int.max_eq_right (by omega:(0:Int)<=B s k),Int.max_eq_right (by omega:0<=-(B k j))];grind
  ·rw [if_neg (by omega),if_neg (by omega),Int.max_eq_left (by omega:B s k<=0),Int.max_eq_left (by omega:-(B k j)<=0)];grind
  ·rw [if_neg (by omega),Int.max_eq_left (by omega:B s k<=0),Int.max_eq_right (by omega:0<=-(B k j))]
   by_cases h3:B s k < 0/\B k j < 0
   ·rw [if_pos h3];grind
   ·rw [if_neg h3]
    have:B s k=0\/B k j=0:=by omega
    rcases this with e | e <;> rw [e] <;> grind
theorem Cmp.mut {N n:Nat} {B:Nat->Nat->Int} {d:Nat->Int} {L:Nat->Nat->Int} (h:Cmp N n B d L) (hL:SkT N L) (hn:n<=N) (hS:Sol n B d) {k:Nat} (hk:k < n):Cmp N n (muE B k) d (mtT N L B k):=by
 have hkk:B k k=0:=by
  have h1:=hS.rel k k hk hk
  have h2:=hS.pos k hk
  have:d k*B k k=0:=by omega
  rcases Int.mul_eq_zero.1 this with e | e
  ·omega
  ·exact e
 intro j hj i hi
 have e0:sm (fun r=>muE B k r j*mtT N L B k r i) N=sk2 N L (fun s=>(if s=k then 0 else muE B k s j)+muE B k k j*eC B k s) (eV B k i):=by
  unfold mtT
  rw [sk2_mix]
  refine sk2_congr (fun s hs=>?_) (fun _ _=>rfl)
  exact sm_eV B (by omega) _ hs
 rw [e0]
 by_cases hjk:j=k
 ·subst hjk
  have e1:∀ s,(if s=j then 0 else muE B j s j)+muE B j j j*eC B j s=(-1)*B s j:=fun s=>by
   have hz:muE B j j j=0:=by unfold muE;rw [if_pos (.inl rfl)];omega
   rw [hz]
   by_cases q:s=j
   ·subst q;rw [if_pos rfl,hkk];simp
   ·rw [if_neg q];unfold muE;rw [if_pos (.inr rfl)];omega
  rw [sk2_congr (fun s _=>e1 s) (fun _ _=>rfl),sk2_mulL,h.col hj hn]
  unfold eV
  by_cases q:i=j
  ·rw [if_pos q,if_pos q,eC_self hkk];omega
  ·rw [if_neg q,if_neg q];unfold dl;rw [if_neg (fun e=>q e.symm)];simp
 ·rw [sk2_congr (fun s _=>mu_col (N:=N) hkk hjk) (fun _ _=>rfl),sk2_addL,sk2_mulL,h.col hj hn,h.col hk hn]
  unfold eV
  by_cases q:i=k
  ·subst q
   rw [if_pos rfl,eC_self hkk,if_neg (fun e=>hjk e.symm)]
   unfold eC
   rw [if_neg hjk]
   have hr:=hS.rel j i hj hk
   have p1:=hS.pos j hj
   have p2:=hS.pos i hk
   rcases Int.lt_trichotomy (B i j) 0 with g | g | g
   ·have g2:0 < B j i:=((sol_sign hS hj hk).1).2 (by omega)
    rw [Int.max_eq_right (by omega:(0:Int)<=B j i),Int.max_eq_right (by omega:(0:Int)<=-B i j)]
    grind
   ·have g2:B j i=0:=((sol_sign hS hj hk).2.1).2 g
    rw [g,g2];simp
   ·have g2:B j i < 0:=((sol_sign hS hj hk).2.2).2 (by omega)
    rw [Int.max_eq_left (by omega:B j i<=0),Int.max_eq_left (by omega:-B i j<=0)]
    simp
  ·rw [if_neg q]
   unfold dl
   rw [if_neg (fun e:k=i=>q e.symm)]
   by_cases g:i=j
   ·subst g;simp
   ·rw [if_neg g,if_neg (fun e:j=i=>g e.symm)];simp
theorem eV_twice {N:Nat} {B C:Nat->Nat->Int} {k:Nat} (hk:k < N) (hkk:B k k=0) (hC:∀ r,r < N->C r k=-B r k) {i s:Nat} (hi:i < N) (hs:s < N):(if s=k then 0 else eV C k i s)+eV C k i k*eC B k s=if i=k then dl k s+(-1)*B s k else dl i s:=by
 by_cases q:i=k
 ·subst q
  rw [if_pos rfl]
  have hc:C i i=0:=by rw [hC i hi,hkk];rfl
  have e1:eV C i i=eC C i:=by unfold eV;rw [if_pos rfl]
  rw [e1,eC_self hc]
  by_cases g:s=i
  ·subst g
   rw [if_pos rfl,eC_self hkk,hkk]
   unfold dl
   simp
  ·rw [if_neg g]
   unfold eC dl
   rw [if_neg g,if_neg g,hC s hs]
   omega
 ·rw [if_neg q]
  have e1:eV C k i=dl i:=by unfold eV;rw [if_neg q]
  rw [e1]
  unfold dl
  rw [if_neg (fun e:k=i=>q e.symm)]
  by_cases g:s=k
  ·subst g;rw [if_pos rfl,if_neg (fun e:s=i=>q e.symm)];simp
  ·rw [if_neg g];simp
theorem mtT_twice {N n:Nat} {B C:Nat->Nat->Int} {d:Nat->Int} {L:Nat->Nat->Int} (h:Cmp N n B d L) (hL:SkT N L) (hn:n<=N) (hS:Sol n B d) {k:Nat} (hk:k < n) (hC:∀ r,r < N->C r k=-B r k) {i j:Nat} (hi:i < N) (hj:j < N):mtT N (mtT N L B k) C k i j=L i j:=by
 have hkk:B k k=0:=by
  have h1:=hS.rel k k hk hk
  have h2:=hS.pos k hk
  have:d k*B k k=0:=by omega
  rcases Int.mul_eq_zero.1 this with e | e
  ·omega
  ·exact e
 have hkN:k < N:=by omega
 have half:∀ (x y:Nat->Int),sk2 N (mtT N L B k) x y=sk2 N L (fun s=>(if s=k then 0 else x s)+x k*eC B k s) (fun s=>(if s=k then 0 else y s)+y k*eC B k s):=fun x y=>by
  have e1:sk2 N (mtT N L B k) x y=sm (fun r=>x r*sk2 N L (eV B k r) (fun s=>(if s=k then 0 else y s)+y k*eC B k s)) N:=by
   rw [sk2_right]
   refine sm_congr _ fun r _=>congrArg (x r * ·) ?_
   have e2:sm (fun j=>mtT N L B k r j*y j) N=-sm (fun j=>y j*sk2 N L (eV B k j) (eV B k r)) N:=by
    rw [<-sm_neg]
    refine sm_congr _ fun j _=>?_
    unfold mtT
    rw [sk2_anti hL]
    grind
   rw [e2,sk2_mix,<-sk2_anti hL]
   exact sk2_congr (fun _ _=>rfl) fun s hs=>sm_eV B hkN _ hs
  rw [e1,sk2_mix]
  exact sk2_congr (fun s hs=>sm_eV B hkN _ hs) (fun _ _=>rfl)
 have e0:mtT N (mtT N L B k) C k i j=sk2 N L (fun s=>if i=k then dl k s+(-1)*B s k else dl i s) (fun s=>if j=k then dl k s+(-1)*B s k else dl j s):=by
  have:mtT N (mtT N L B k) C k i j=sk2 N (mtT N L B k) (eV C k i) (eV C k j):=rfl
  rw [this,half]
  exact sk2_congr (fun s hs=>eV_twice hkN hkk hC hi hs) (fun s hs=>eV_twice hkN hkk hC hj hs)
 rw [e0]
 have one:∀ v:Nat->Int,v k=0->sk2 N L (fun s=>dl k s+(-1)*B s k) v=sk2 N L (dl k) v:=fun v hv=>by
  rw [sk2_addL,sk2_mulL,h.col hk hn,hv];omega
 by_cases q:i=k <;> by_cases g:j=k
 ·subst q;subst g
  simp only [if_true]
  rw [sk2_self hL]
  have:=hL _ hi _ hi
  omega
 ·subst q
  simp only [if_true,if_neg g]
  rw [one (fun s=>dl j s) (by unfold dl;rw [if_neg (fun e=>g e.symm)])]
  exact sk2_dd L hi hj
 ·subst g
  simp only [if_true,if_neg q]
  rw [sk2_anti hL,one (fun s=>dl i s) (by unfold dl;rw [if_neg (fun e=>q e.symm)]),<-sk2_anti hL]
  exact sk2_dd L hi hj
 ·simp only [if_neg q,if_neg g]
  exact sk2_dd L hi hj
end Go.Proofs.Ytfcgcgmleogamaa.Ab
namespace Go.Proofs.Ytfcgcgmleogamaa.Ab
open Go
def tbR (N:Nat) (g:Nat->Int):List Int:=(List.range N).map g
def tbL (N:Nat) (f:Nat->Nat->Int):List (List Int):=(List.range N).map fun i=>tbR N (f i)
@[simp] theorem tbR_length (N:Nat) (g:Nat->Int):(tbR N g).length=N:=by simp [tbR]
@[simp] theorem tbL_length (N:Nat) (f:Nat->Nat->Int):(tbL N f).length=N:=by simp [tbL]
theorem tbR_get {N:Nat} (g:Nat->Int) {i:Nat} (h:i < N):(tbR N g)[i]'(by simpa using h)=g i:=by simp [tbR]
theorem tbL_get {N:Nat} (f:Nat->Nat->Int) {i:Nat} (h:i < N):(tbL N f)[i]'(by simpa using h)=tbR N (f i):=by simp [tbL]
theorem tbR_D {N:Nat} (g:Nat->Int) {i:Nat} (h:i < N):(tbR N g).getD i 0=g i:=by
 rw [int_eq (by simpa using h),tbR_get g h]
theorem tbL_D {N:Nat} (f:Nat->Nat->Int) {i:Nat} (h:i < N):(tbL N f).getD i []=tbR N (f i):=by
 rw [row_eq (by simpa using h),tbL_get f h]
theorem at2_tbL {N:Nat} (f:Nat->Nat->Int) {i j:Nat} (hi:i < N) (hj:j < N):at2 (tbL N f) i j=f i j:=by
 unfold at2
 rw [tbL_D f hi,tbR_D _ hj]
theorem tbR_congr {N:Nat} {f g:Nat->Int} (h:∀ i,i < N->f i=g i):tbR N f=tbR N g:=by
 unfold tbR
 exact List.map_congr_left fun i hi=>h i (List.mem_range.1 hi)
theorem tbL_congr {N:Nat} {f g:Nat->Nat->Int} (h:∀ i,i < N->∀ j,j < N->f i j=g i j):tbL N f=tbL N g:=by
 unfold tbL
 exact List.map_congr_left fun i hi=>tbR_congr (h i (List.mem_range.1 hi))
theorem tbR_set {N:Nat} (g:Nat->Int) (q:Nat) (x:Int):(tbR N g).set q x=tbR N fun j=>if j=q then x else g j:=by
 refine List.ext_getElem (by simp) fun i h1 h2=>?_
 have h3:i < N:=by simpa using h2
 rw [List.getElem_set,tbR_get g h3,tbR_get (fun j=>if j=q then x else g j) h3]
 by_cases h:q=i
 ·rw [if_pos h,if_pos h.symm]
 ·rw [if_neg h,if_neg (fun e:i=q=>h e.symm)]
theorem tbL_set {N:Nat} (f:Nat->Nat->Int) {p:Nat} (hp:p < N) (q:Nat) (x:Int):(tbL N f).set p ((tbR N (f p)).set q x)=tbL N fun i j=>if i=p/\j=q then x else f i j:=by
 refine List.ext_getElem (by simp) fun i h1 h2=>?_
 have h3:i < N:=by simpa using h2
 rw [List.getElem_set,tbL_get f h3,tbL_get (fun i j=>if i=p/\j=q then x else f i j) h3]
 by_cases h:p=i
 ·subst h
  rw [if_pos rfl,tbR_set]
  exact tbR_congr fun j _=>by simp
 ·rw [if_neg h]
  exact tbR_congr fun j _=>by rw [if_neg (fun e=>h e.1.symm)]
theorem tbR_zero (N:Nat):tbR N (fun _=>0)=List.replicate N 0:=by
 refine List.ext_getElem (by simp) fun i h1 h2=>?_
 rw [tbR_get (fun _=>0) (by simpa using h1)]
 simp
theorem tbL_zero (N:Nat):tbL N (fun _ _=>0)=List.replicate N (List.replicate N 0):=by
 refine List.ext_getElem (by simp) fun i h1 h2=>?_
 rw [tbL_get _ (by simpa using h1),tbR_zero]
 simp
theorem form_tb {fm:List (List Int)} (h:∀ i,i < fm.length->(fm.getD i []).length=fm.length):fm=tbL fm.length (at2 fm):=by
 refine List.ext_getElem (by simp) fun i h1 h2=>?_
 rw [tbL_get _ (by simpa using h2)]
 have hl:=h i h1
 rw [row_eq h1] at hl
 refine List.ext_getElem (by simpa using hl) fun j h3 h4=>?_
 rw [tbR_get _ (by simpa using h4),at2_eq h1 h3]
noncomputable def dsM (m:Mat):List Int:=by
 classical
 exact if h:∃ l,MinSol m.n.toNat (bM m) l then Classical.choose h else []
theorem dsM_eq {m:Mat} {l:List Int} (h:MinSol m.n.toNat (bM m) l):dsM m=l:=by
 unfold dsM
 rw [dif_pos ⟨l,h⟩]
 exact MinSol.uniq (Classical.choose_spec (⟨l,h⟩:∃ l,MinSol m.n.toNat (bM m) l)) h
def foT (n:Nat) (d:Nat->Int) (b:Nat->Nat->Int) (i j:Nat):Int:=
 if i < n then (if j=n+i then -d i else 0) else if j < n then (if i=n+j then d j else 0) else -d (i - n)*b (i - n) (j - n)
noncomputable def foL (m:Mat):List (List Int):=tbL (2*m.n.toNat) (foT m.n.toNat (g0 (dsM m)) (bM m))
noncomputable instance (fm:List (List Int)):Decidable (FormOk fm):=Classical.propDecidable _
noncomputable def foF (m:Mat):List (List Int)×Bool:=if SqOK m/\FormOk (foL m) then (foL m,true) else ([],false)
theorem foT_cmp {n:Nat} {d:Nat->Int} {b p:Nat->Nat->Int} (hS:Sol n b d) (h1:∀ i j,i < n->j < n->p i j=b i j) (h2:∀ i j,i < n->j < n->p (n+i) j=if i=j then 1 else 0):Cmp (2*n) n p d (foT n d b):=by
 have spl:∀ (f:Nat->Int) (k:Nat),sm f (n+k)=sm f n+sm (fun r=>f (n+r)) k:=fun f k=>by
  induction k with
  | zero=>simp [sm]
  | succ k ih=>rw [<-Nat.add_assoc];simp only [sm,ih];omega
 intro j hj i hi
 rw [Nat.two_mul,spl]
 have e2:sm (fun r=>p (n+r) j*foT n d b (n+r) i) n=foT n d b (n+j) i:=by
  have:sm (fun r=>p (n+r) j*foT n d b (n+r) i) n=sm (fun r=>dl j r*foT n d b (n+r) i) n:=sm_congr _ fun r hr=>by
   rw [h2 r j hr hj]
   rfl
  rw [this]
  exact sm_dl j (fun r=>foT n d b (n+r) i) hj
 rw [e2]
 by_cases hin:i < n
 ·have e1:sm (fun r=>p r j*foT n d b r i) n=0:=by
   have:sm (fun r=>p r j*foT n d b r i) n=sm (fun _=>0) n:=sm_congr _ fun r hr=>by
    unfold foT
    rw [if_pos hr,if_neg (by omega)]
    simp
   rw [this,sm_zero]
  rw [e1]
  unfold foT
  rw [if_neg (by omega),if_pos hin]
  by_cases q:i=j
  ·subst q;simp
  ·rw [if_neg (by omega),if_neg q];rfl
 ·obtain ⟨t,rfl⟩:∃ t,i=n+t:=⟨i - n,by omega⟩
  have ht:t < n:=by omega
  have e1:sm (fun r=>p r j*foT n d b r (n+t)) n=p t j * -d t:=by
   have:sm (fun r=>p r j*foT n d b r (n+t)) n=sm (fun r=>dl t r*(p r j * -d r)) n:=sm_congr _ fun r hr=>by
    unfold foT dl
    rw [if_pos hr]
    by_cases q:r=t
    ·subst q;simp
    ·rw [if_neg (by omega),if_neg q];simp
   rw [this]
   exact sm_dl t (fun r=>p r j * -d r) ht
  rw [e1,h1 t j ht hj]
  unfold foT
  rw [if_neg (by omega),if_neg (by omega),if_neg (by omega),show n+j - n=j by omega,show n+t - n=t by omega]
  have:=hS.rel t j ht hj
  grind
def eL (m:Mat) (k N:Nat):List Int:=tbR N (eC (bM m) k)
def vL (m:Mat) (k N i:Nat):List Int:=if i=k then eL m k N else unitL N i
def mtL (fm:List (List Int)) (m:Mat) (k N:Nat):List (List Int):=tbL N fun i j=>skw fm (vL m k N i) (vL m k N j)
noncomputable def mfF (fm:List (List Int)) (m:Mat) (k:Int):List (List Int)×Bool:=
 if FormOk fm/\MatOK m/\m.r=fm.length/\(0<=k/\k < m.n)/\FormOk (mtL fm m k.toNat fm.length) then (mtL fm m k.toNat fm.length,true) else ([],false)
theorem unitL_D {N i r:Nat} (hi:i < N) (hr:r < N):(unitL N i).getD r 0=dl i r:=by
 rw [int_eq (by rw [unitL_length];exact hr)]
 unfold dl
 simp only [unitL,List.getElem_set,List.getElem_replicate]
 by_cases h:i=r
 ·rw [if_pos h,if_pos h.symm]
 ·rw [if_neg h,if_neg (fun e=>h e.symm)]
theorem vL_D {m:Mat} {k N i r:Nat} (hi:i < N) (hr:r < N):(vL m k N i).getD r 0=eV (bM m) k i r:=by
 unfold vL eV
 by_cases h:i=k
 ·rw [if_pos h,if_pos h]
  exact tbR_D _ hr
 ·rw [if_neg h,if_neg h]
  exact unitL_D hi hr
theorem at2_mtL {fm:List (List Int)} {m:Mat} {k i j:Nat} (hi:i < fm.length) (hj:j < fm.length):at2 (mtL fm m k fm.length) i j=mtT fm.length (at2 fm) (bM m) k i j:=by
 unfold mtL
 rw [at2_tbL _ hi hj,skw_sk2]
 exact sk2_congr (fun r hr=>vL_D hi hr) (fun r hr=>vL_D hj hr)
theorem vL_len (m:Mat) (k N i:Nat):(vL m k N i).length=N:=by
 unfold vL
 split
 ·simp [eL]
 ·exact unitL_length _ _
theorem vL_bd {m:Mat} (h:ShM m) {k N i:Nat}:∀ x∈vL m k N i,-99<=x/\x<=99:=fun x hx=>by
 unfold vL at hx
 split at hx
 ·simp only [eL,tbR,List.mem_map] at hx
  obtain ⟨r,_,rfl⟩:=hx
  have:=bM_bd h r k
  unfold eC
  split <;> omega
 ·rcases unitL_mem hx with rfl | rfl <;> omega
theorem FormOk.skT {fm:List (List Int)} (h:FormOk fm):SkT fm.length (at2 fm):=fun i hi j hj=>by
 have:=(h.2.2 i hi j hj).2
 omega
structure FmJ (m p:Mat) (fm:List (List Int)):Prop where
 ok:FormOk fm
 len:fm.length=2*m.n.toNat
 pn:p.n=m.n
 pr:p.r=2*m.n
 pok:MatOK p
 sol:Sol m.n.toNat (bM p) (g0 (dsM m))
 cmp:Cmp fm.length m.n.toNat (bM p) (g0 (dsM m)) (at2 fm)
theorem prin_b2 {m:Mat} (h:SqOK m) {i j:Nat} (hi:i < m.n.toNat) (hj:j < m.n.toNat):bM (prinM m) (m.n.toNat+i) j=if i=j then 1 else 0:=by
 obtain ⟨n,h1,h2,h3,h4⟩:=h.dim
 have en:m.n.toNat=n:=by omega
 rw [en] at hi hj ⊢
 unfold bM g0
 show (m.d ++ idP m.n.toNat m.n.toNat).getD ((n+i)*m.n.toNat+j) 0=_
 rw [en,List.getD_eq_getElem?_getD,List.getElem?_append_right (by rw [h4,Nat.add_mul];omega),h4,show (n+i)*n+j - n*n=i*n+j by rw [Nat.add_mul];omega]
 have key:∀ k,i < k->(idP n k)[i*n+j]? = some (if i=j then 1 else 0):=fun k=>by
  induction k with
  | zero=>intro h;omega
  | succ k ih=>
   intro h
   rw [idP_succ]
   by_cases q:i < k
   ·have hb:(i+1)*n<=k*n:=Nat.mul_le_mul_right _ q
    rw [Nat.add_mul] at hb
    rw [List.getElem?_append_left (by rw [idP_length];omega)]
    exact ih q
   ·obtain rfl:i=k:=by omega
    rw [List.getElem?_append_right (by rw [idP_length];omega),idP_length,show i*n+j - i*n=j by omega,List.getElem?_eq_getElem (by rw [unitL_length];exact hj)]
    simp [unitL,List.getElem_set]
 rw [key n hi]
 rfl
theorem FmJ.start {m:Mat} (h:SqOK m) (hm:MinSol m.n.toNat (bM m) (dsM m)) (hF:FormOk (foL m)):FmJ m (prinM m) (foL m):=by
 have h1:=hm.2.1
 have hb:∀ i j,i < m.n.toNat->j < m.n.toNat->bM (prinM m) i j=bM m i j:=fun i j hi hj=>bM_prin h (by omega) (by omega)
 refine ⟨hF,by simp [foL],rfl,rfl,prin_ok h,h1.congr hb,?_⟩
 have e:(foL m).length=2*m.n.toNat:=by simp [foL]
 rw [e]
 intro j hj i hi
 have hc:=foT_cmp h1 (p:=bM (prinM m)) hb (fun i j hi hj=>prin_b2 h hi hj) j hj i hi
 rw [<-hc]
 exact sm_congr _ fun r hr=>by
  unfold foL
  rw [at2_tbL _ hr hi]
theorem FmJ.step {m p q:Mat} {fm:List (List Int)} {k:Int} (h:FmJ m p fm) (hk:0<=k/\k < m.n) (hF:FormOk (mtL fm p k.toNat fm.length)) (hq:muF p k=(q,true)):FmJ m q (mtL fm p k.toNat fm.length):=by
 obtain ⟨o1,o2,o3,o4⟩:=muF_ok hq
 have hq2:q=muM p k.toNat:=by rw [o4]
 have hS:=h.pok.1
 have hn:=h.pn
 have hr:=h.pr
 have hb:∀ i j,i < 2*m.n.toNat->j < m.n.toNat->bM q i j=muE (bM p) k.toNat i j:=fun i j hi hj=>by
  rw [hq2]
  exact muM_b hS (by omega) (by omega)
 have hkn:k.toNat < m.n.toNat:=by omega
 have hl:=h.len
 refine ⟨hF,by simp [mtL,hl],by rw [hq2];exact hn,by rw [hq2];exact hr,o3,(muE_sol h.sol hkn).congr fun i j hi hj=>hb i j (by omega) hj,?_⟩
 have e:(mtL fm p k.toNat fm.length).length=fm.length:=by simp [mtL]
 rw [e]
 intro j hj i hi
 have hc:=h.cmp.mut h.ok.skT (by omega) h.sol hkn j hj i hi
 rw [<-hc]
 exact sm_congr _ fun r hr=>by rw [hb r j (by omega) hj,at2_mtL hr hi]
theorem FmJ.twice {m p q:Mat} {fm:List (List Int)} {k:Int} (h:FmJ m p fm) (hk:0<=k/\k < m.n) (hq:muF p k=(q,true)):mtL (mtL fm p k.toNat fm.length) q k.toNat (mtL fm p k.toNat fm.length).length=fm:=by
 obtain ⟨o1,o2,o3,o4⟩:=muF_ok hq
 have hq2:q=muM p k.toNat:=by rw [o4]
 have hS:=h.pok.1
 have hn:=h.pn
 have hr:=h.pr
 have hkn:k.toNat < m.n.toNat:=by omega
 have hl:=h.len
 have e:(mtL fm p k.toNat fm.length).length=fm.length:=by simp [mtL]
 rw [e]
 refine (tbL_congr fun i hi j hj=>?_).trans (form_tb h.ok.2.1).symm
 rw [skw_sk2,e]
 refine Eq.trans ?_ (mtT_twice h.cmp h.ok.skT (by omega) h.sol hkn (C:=bM q) (fun r hr=>?_) hi hj)
 ·unfold mtT
  have h1:sk2 fm.length (at2 (mtL fm p k.toNat fm.length)) (fun r=>(vL q k.toNat fm.length i).getD r 0) (fun r=>(vL q k.toNat fm.length j).getD r 0)=sk2 fm.length (at2 (mtL fm p k.toNat fm.length)) (eV (bM q) k.toNat i) (eV (bM q) k.toNat j):=sk2_congr (fun r hr=>vL_D hi hr) (fun r hr=>vL_D hj hr)
  rw [h1]
  unfold sk2
  exact sm_congr _ fun a ha=>sm_congr _ fun b hb=>by
   rw [at2_mtL ha hb]
   rfl
 ·rw [hq2]
  have:bM (muM p k.toNat) r k.toNat=muE (bM p) k.toNat r k.toNat:=muM_b hS (by omega) (by omega)
  rw [this]
  unfold muE
  rw [if_pos (.inr rfl)]
noncomputable def fcL (m:Mat) (ws:List Mat) (ks:List Int):Nat->Option (List (List Int))
 | 0=>if (foF m).2=true then some (foF m).1 else none
 | t+1=>match fcL m ws ks t with
  | some f=>if (mfF f (ws.getD t zM) (ks.getD t 0)).2=true then some (mfF f (ws.getD t zM) (ks.getD t 0)).1 else none
  | none=>none
noncomputable def faF (m:Mat) (ks:List Int):List (List Int)×Bool:=
 match wkF m ks with
 | some ws=>(match fcL m ws ks ks.length with | some f=>(f,true) | none=>([],false))
 | none=>([],false)
theorem fcL_none {m:Mat} {ws:List Mat} {ks:List Int} {n i:Nat} (h:fcL m ws ks n=none) (hi:n<=i):fcL m ws ks i=none:=by
 induction i with
 | zero=>
  obtain rfl:n=0:=by omega
  exact h
 | succ i ih=>
  by_cases q:n=i+1
  ·exact q ▸ h
  ·simp only [fcL,ih (by omega)]
theorem mfF_ok {fm g:List (List Int)} {m:Mat} {k:Int} (h:mfF fm m k=(g,true)):FormOk fm/\MatOK m/\m.r=fm.length/\(0<=k/\k < m.n)/\FormOk g/\g=mtL fm m k.toNat fm.length:=by
 unfold mfF at h
 split at h
 ·rename_i q
  injection h with h _
  subst h
  exact ⟨q.1,q.2.1,q.2.2.1,q.2.2.2.1,q.2.2.2.2,rfl⟩
 ·simp at h
theorem wkL_step {m:Mat} {ks:List Int} {i:Nat} {l:List Mat} (hm:SqOK m) (h:wkL m ks (i+1)=some l):∃ l',wkL m ks i=some l'/\l'.length=i+1/\(muF (l'.getD i zM) (ks.getD i 0)).2=true/\l=l' ++ [(muF (l'.getD i zM) (ks.getD i 0)).1]:=by
 simp only [wkL] at h
 split at h
 ·rename_i l' hl
  split at h
  ·rename_i q
   injection h with h
   exact ⟨l',hl,(wkL_ok hm hl).1,q,h.symm⟩
  ·simp at h
 ·simp at h
theorem wkL_get {m:Mat} {ks:List Int} (hm:SqOK m):∀ {i:Nat} {l:List Mat},wkL m ks i=some l->l.getD 0 zM=prinM m/\∀ t,t < i->muF (l.getD t zM) (ks.getD t 0)=(l.getD (t+1) zM,true)
 | 0,l,h=>by
  simp only [wkL,Option.some.injEq] at h
  subst h
  exact ⟨rfl,fun t ht=>by omega⟩
 | i+1,l,h=>by
  obtain ⟨l',h1,h2,h3,rfl⟩:=wkL_step hm h
  obtain ⟨g1,g2⟩:=wkL_get hm h1
  have hA:∀ t,t<=i->(l' ++ [(muF (l'.getD i zM) (ks.getD i 0)).1]).getD t zM=l'.getD t zM:=fun t ht=>by
   rw [List.getD_eq_getElem?_getD,List.getElem?_append_left (by omega),List.getD_eq_getElem?_getD]
  refine ⟨by rw [hA 0 (by omega)];exact g1,fun t ht=>?_⟩
  by_cases q:t < i
  ·rw [hA t (by omega),hA (t+1) (by omega)]
   exact g2 t q
  ·obtain rfl:t=i:=by omega
   rw [hA t (by omega)]
   have:(l' ++ [(muF (l'.getD t zM) (ks.getD t 0)).1]).getD (t+1) zM=(muF (l'.getD t zM) (ks.getD t 0)).1:=by
    rw [List.getD_eq_getElem?_getD,List.getElem?_append_right (by omega),h2]
    simp
   rw [this]
   exact Prod.ext rfl h3
theorem fcL_ok {m:Mat} {ks:List Int} {ws:List Mat} (hw:wkF m ks=some ws) (hm:MinSol m.n.toNat (bM m) (dsM m)):∀ {t:Nat} {f:List (List Int)},t<=ks.length->fcL m ws ks t=some f->FmJ m (ws.getD t zM) f
 | 0,f,_,e=>by
  have hq:=(wkF_ok hw).1
  have hl:wkL m ks ks.length=some ws:=by
   unfold wkF at hw
   split at hw
   ·exact hw
   ·simp at hw
  rw [(wkL_get hq hl).1]
  simp only [fcL] at e
  split at e
  ·injection e with e
   unfold foF at e
   split at e
   ·rename_i q
    subst e
    exact FmJ.start hq hm q.2
   ·rename_i q1 q
    unfold foF at q1
    rw [if_neg q] at q1
    simp at q1
  ·simp at e
 | t+1,f,ht,e=>by
  have hq:=(wkF_ok hw).1
  have hl:wkL m ks ks.length=some ws:=by
   unfold wkF at hw
   split at hw
   ·exact hw
   ·simp at hw
  simp only [fcL] at e
  split at e
  ·rename_i g hg
   have hJ:=fcL_ok hw hm (by omega) hg
   split at e
   ·rename_i q
    injection e with e
    obtain ⟨M,hM⟩:∃ M,mfF g (ws.getD t zM) (ks.getD t 0)=(M,true):=⟨_,by rw [<-q]⟩
    rw [hM] at e
    dsimp only at e
    subst e
    obtain ⟨_,_,_,a4,a5,a6⟩:=mfF_ok hM
    rw [a6] at a5 ⊢
    exact hJ.step (by rw [<-hJ.pn];exact a4) a5 ((wkL_get hq hl).2 t (by omega))
   ·simp at e
  ·simp at e
theorem FmJ.mf {m p:Mat} {fm:List (List Int)} (h:FmJ m p fm) (k:Int):mfF fm p k=if (0<=k/\k < m.n)/\FormOk (mtL fm p k.toNat fm.length) then (mtL fm p k.toNat fm.length,true) else ([],false):=by
 have hr:p.r=fm.length:=by
  have h1:=h.len
  have h2:=h.pr
  have h3:=h.pn
  have:=h.pok.1.1
  omega
 unfold mfF
 rw [h.pn]
 by_cases q:(0<=k/\k < m.n)/\FormOk (mtL fm p k.toNat fm.length)
 ·rw [if_pos q,if_pos ⟨h.ok,h.pok,hr,q.1,q.2⟩]
 ·rw [if_neg q,if_neg (fun c=>q ⟨c.2.2.2.1,c.2.2.2.2⟩)]
theorem FmJ.back {m p q:Mat} {fm:List (List Int)} {k:Int} {g:List (List Int)} (h:FmJ m p fm) (hk:0<=k/\k < m.n) (hg:mfF fm p k=(g,true)) (hq:muF p k=(q,true)):mfF g q k=(fm,true):=by
 obtain ⟨_,_,_,_,a5,a6⟩:=mfF_ok hg
 have hJ:=h.step hk (a6 ▸ a5) hq
 have ht:=h.twice hk hq
 rw [a6,hJ.mf k,ht,if_pos ⟨hk,h.ok⟩]
end Go.Proofs.Ytfcgcgmleogamaa.Ab
namespace Go.Proofs.Ytfcgcgmleogamaa.Ab
open Go
set_option maxRecDepth 10000
set_option maxHeartbeats 4000000
theorem updHit (r:List (Nat×FV)) (t:Nat) (f v:FV):upd (ofL ((t,f) :: r)) t v=ofL ((t,v) :: r):=by
 funext s
 unfold upd
 simp only [ofL]
 by_cases h:s=t
 ·rw [if_pos h,if_pos h.symm]
 ·rw [if_neg h,if_neg (fun e=>h e.symm),if_neg (fun e=>h e.symm)]
theorem updCons {i t:Nat} {f v:FV} {r r2:List (Nat×FV)} (h:i≠t) (e:upd (ofL r) t v=ofL r2):upd (ofL ((i,f) :: r)) t v=ofL ((i,f) :: r2):=by
 funext s
 have e2:=congrFun e s
 unfold upd at e2 ⊢
 simp only [ofL]
 by_cases q:i=s
 ·rw [if_neg (by omega),if_pos q,if_pos q]
 ·rw [if_neg q,if_neg q]
  exact e2
theorem rootNil (en:Nat->FV) (r:Rn) (d:D):(St.root ⟨en,ofRO []⟩ r d).rts=ofRO [(r,some d)]:=by
 funext q
 simp only [St.root,ofRO]
 by_cases h:q=r
 ·rw [if_pos h,if_pos h.symm]
 ·rw [if_neg h,if_neg (fun e=>h e.symm)]
theorem rootCons {en:Nat->FV} {i r:Rn} {d:D} {x:Option D} {s s2:List (Rn×Option D)} (h:i≠r) (e:(St.root ⟨en,ofRO s⟩ r d).rts=ofRO s2):(St.root ⟨en,ofRO ((i,x) :: s)⟩ r d).rts=ofRO ((i,x) :: s2):=by
 funext q
 have e2:=congrFun e q
 simp only [St.root,ofRO] at e2 ⊢
 by_cases c:i=q
 ·rw [if_neg (fun z=>h (c.trans z)),if_pos c,if_pos c]
 ·rw [if_neg c,if_neg c]
  exact e2
theorem lO_snocA (l:List (List Int)) (r:List Int):rows lO l ++ [D.ow 1 r.length (ints r)]=rows lO (l ++ [r]):=by
 rw [rows_append]
 simp [rows,lO,owI]
theorem lO_snocN (l:List (List Int)) {r:List Int} {n:Nat} (h:r.length=n):rows lO l ++ [D.ow 1 n (ints r)]=rows lO (l ++ [r]):=by
 subst h
 exact lO_snocA l r
def foG (n:Nat) (f:Nat->Nat->Int) (i p q:Nat):Int:=if p < i\/(n<=p/\p < n+i) then f p q else 0
def foH (n:Nat) (f:Nat->Nat->Int) (i j p q:Nat):Int:=if p < i+1\/(n<=p/\p < n+i)\/(p=n+i/\q < n+j) then f p q else 0
theorem foG_0 (n N:Nat) (f:Nat->Nat->Int):tbL N (foG n f 0)=List.replicate N (List.replicate N 0):=by
 rw [<-tbL_zero]
 exact tbL_congr fun p _ q _=>by unfold foG;rw [if_neg (by omega)]
theorem foH_n (n:Nat) (f:Nat->Nat->Int) (i:Nat):tbL (2*n) (foH n f i n)=tbL (2*n) (foG n f (i+1)):=
 tbL_congr fun p hp q hq=>by
  unfold foH foG
  by_cases h:p < i+1\/(n<=p/\p < n+(i+1))
  ·rw [if_pos h,if_pos (by omega)]
  ·rw [if_neg h,if_neg (by omega)]
theorem foG_n (n:Nat) (f:Nat->Nat->Int):tbL (2*n) (foG n f n)=tbL (2*n) f:=
 tbL_congr fun p hp q hq=>by
  unfold foG
  rw [if_pos (by omega)]
theorem foG_step {n i:Nat} (hi:i < n) (d:Nat->Int) (b:Nat->Nat->Int) {x y:Int} (hx:x=-d i) (hy:y=d i) :
  ((tbL (2*n) (foG n (foT n d b) i)).set i ((tbR (2*n) (foG n (foT n d b) i i)).set (n+i) x)).set (n+i) ((tbR (2*n) (foG n (foT n d b) i (n+i))).set i y)=tbL (2*n) (foH n (foT n d b) i 0):=by
 rw [tbL_set _ (show i < 2*n by omega)]
 have e:tbR (2*n) (foG n (foT n d b) i (n+i))=tbR (2*n) ((fun p q=>if p=i/\q=n+i then x else foG n (foT n d b) i p q) (n+i)):=tbR_congr fun q _=>by
  dsimp only
  rw [if_neg (by omega)]
 rw [e,tbL_set _ (show n+i < 2*n by omega)]
 refine tbL_congr fun p hp q hq=>?_
 unfold foH foG
 by_cases h1:p=n+i/\q=i
 ·rw [if_pos h1,if_pos (by omega),hy,h1.1,h1.2]
  unfold foT
  rw [if_neg (by omega),if_pos (by omega),if_pos rfl]
 ·rw [if_neg h1]
  by_cases h2:p=i/\q=n+i
  ·rw [if_pos h2,if_pos (by omega),hx,h2.1,h2.2]
   unfold foT
   rw [if_pos (by omega),if_pos rfl]
  ·rw [if_neg h2]
   by_cases h3:p < i\/(n<=p/\p < n+i)
   ·rw [if_pos h3,if_pos (by omega)]
   ·rw [if_neg h3]
    by_cases h4:p < i+1\/(n<=p/\p < n+i)\/(p=n+i/\q < n+0)
    ·rw [if_pos h4]
     unfold foT
     by_cases h5:p < n
     ·rw [if_pos h5,if_neg (by omega)]
     ·rw [if_neg h5,if_pos (by omega),if_neg (by omega)]
    ·rw [if_neg h4]
theorem foH_step {n i j:Nat} (hi:i < n) (hj:j < n) (d:Nat->Int) (b:Nat->Nat->Int) {x:Int} (hx:x=-d i*b i j) :
  (tbL (2*n) (foH n (foT n d b) i j)).set (n+i) ((tbR (2*n) (foH n (foT n d b) i j (n+i))).set (n+j) x)=tbL (2*n) (foH n (foT n d b) i (j+1)):=by
 rw [tbL_set _ (show n+i < 2*n by omega)]
 refine tbL_congr fun p hp q hq=>?_
 unfold foH
 by_cases h1:p=n+i/\q=n+j
 ·rw [if_pos h1,if_pos (by omega),hx,h1.1,h1.2]
  unfold foT
  rw [if_neg (by omega),if_neg (by omega),show n+i - n=i by omega,show n+j - n=j by omega]
 ·rw [if_neg h1]
  by_cases h2:p < i+1\/(n<=p/\p < n+i)\/(p=n+i/\q < n+j)
  ·rw [if_pos h2,if_pos (by omega)]
  ·rw [if_neg h2,if_neg (by omega)]
theorem mulD {x y:Int} (hx:0 < x/\x<=99 ^ 8) (hy:y.natAbs<=99):(x*y).natAbs<=99 ^ 9:=by
 rw [Int.natAbs_mul]
 have:x.natAbs*y.natAbs<=99 ^ 8*99:=Nat.mul_le_mul (by omega) hy
 omega
theorem foL_i64 {m:Mat} (hS:ShM m) (hm:MinSol m.n.toNat (bM m) (dsM m)):I64 (foL m):=fun r hr x hx=>by
 simp only [foL,tbL,List.mem_map,List.mem_range] at hr
 obtain ⟨i,hi,rfl⟩:=hr
 simp only [tbR,List.mem_map,List.mem_range] at hx
 obtain ⟨j,hj,rfl⟩:=hx
 have hd:∀ i,i < m.n.toNat->0 < g0 (dsM m) i/\g0 (dsM m) i<=99 ^ 8:=fun i hi=>⟨hm.2.1.pos i hi,hm.2.2.2 i hi⟩
 unfold foT
 split
 ·rename_i h1
  have:=hd i h1
  split <;> omega
 ·split
  ·rename_i h1
   have:=hd j h1
   split <;> omega
  ·have h1:=mulD (hd (i - m.n.toNat) (by omega)) (bM_bd hS (i - m.n.toNat) (j - m.n.toNat))
   have h2:-g0 (dsM m) (i - m.n.toNat)*bM m (i - m.n.toNat) (j - m.n.toNat)=-(g0 (dsM m) (i - m.n.toNat)*bM m (i - m.n.toNat) (j - m.n.toNat)):=Int.neg_mul _ _
   rw [h2]
   generalize g0 (dsM m) (i - m.n.toNat)*bM m (i - m.n.toNat) (j - m.n.toNat)=z at *
   omega
theorem tbR_next {N j:Nat} (f:Nat->Int) {x:Int} (hx:x=f j):(tbR N (fun q=>if q < j then f q else 0)).set j x=tbR N (fun q=>if q < j+1 then f q else 0):=by
 rw [tbR_set]
 refine tbR_congr fun q _=>?_
 by_cases h:q=j
 ·subst h
  rw [if_pos rfl,if_pos (by omega),hx]
 ·rw [if_neg h]
  by_cases g:q < j
  ·rw [if_pos g,if_pos (by omega)]
  ·rw [if_neg g,if_neg (by omega)]
theorem tbR_same {N j:Nat} (f:Nat->Int) (hx:0=f j):tbR N (fun q=>if q < j then f q else 0)=tbR N (fun q=>if q < j+1 then f q else 0):=by
 refine tbR_congr fun q _=>?_
 by_cases g:q < j
 ·rw [if_pos g,if_pos (by omega)]
 ·rw [if_neg g]
  by_cases h:q < j+1
  ·rw [if_pos h,show q=j by omega];exact hx
  ·rw [if_neg h]
theorem tbR_full {N:Nat} (f:Nat->Int):tbR N (fun q=>if q < N then f q else 0)=tbR N f:=tbR_congr fun q hq=>by rw [if_pos hq]
theorem tbR_none (N:Nat) (f:Nat->Int):tbR N (fun q=>if q < 0 then f q else 0)=List.replicate N 0:=by
 rw [<-tbR_zero]
 exact tbR_congr fun q _=>by rw [if_neg (by omega)]
theorem impl_SymmetrizerOf_c (m:Mat) (hx:m.d.length < 17592186044416) (hS:ShM m) (l:List Int) (hl:MinSol m.n.toNat (bM m) l):ACalls Try.prog F.impl_SymmetrizerOf [aM m] [] true (fun outs res=>outs=[]/\res=[.one (owI l)]):=by
 refine ACalls.of_body (C:=C.impl_SymmetrizerOf) (n:=Try.f14.ntmps) tabT folT Try.func14 rfl (by kernel_rfl) rfl (Nat.le_of_ble_eq_true rfl) (by decide) (by kernel_rfl) (by kernel_rfl) rfl (by simp) (by simp) ?_
 simp only [Try.f14]
 refine wseq ?_
 refine wreg fun K hK=>?_
 simp [C.impl_SymmetrizerOf,mS]
 refine hK _ ?_;clear hK K
 show AWp _ _ _ _ _
 refine wseq ?_
 refine wseq ?_
 refine wregI ([0,1] ++ ([2])) rfl fun K hK=>?_
 refine oSg fun L hL=>?_
 simp [C.impl_SymmetrizerOf,mS,hS]
 refine wcall1 (impl_shapedG_c m hx) (by simp [mS,hS]) (by simp) ?_
 simp [C.impl_SymmetrizerOf,mS,hS]
 refine hL _ ?_;clear hL L
 refine oEn fun L hL=>?_
 simp [C.impl_SymmetrizerOf,mS,hS]
 refine hL _ ?_;clear hL L
 simp [C.impl_SymmetrizerOf,mS,hS]
 refine hK _ ?_;clear hK K
 show AWp _ _ _ _ _
 refine wcond _ rfl (fun hc1=>?_) (fun hc1=>?_)
 ·simp at hc1
 ·refine wskip ?_
  show AWp _ _ _ _ _
  refine wseq ?_
  refine wregI ([0,1] ++ ([2])) rfl fun K hK=>?_
  refine oSg fun L hL=>?_
  simp [C.impl_SymmetrizerOf,mS]
  refine wcall1 (factors_some hS hl) (by simp [mS]) (by simp) ?_
  simp [C.impl_SymmetrizerOf,mS]
  refine hL _ ?_;clear hL L
  refine oEn fun L hL=>?_
  simp [C.impl_SymmetrizerOf,mS]
  refine hL _ ?_;clear hL L
  simp [C.impl_SymmetrizerOf,mS]
  refine hK _ ?_;clear hK K
  show AWp _ _ _ _ _
  refine wret ?_
  simp [C.impl_SymmetrizerOf,mS]
theorem impl_SymmetrizerOfN_c (m:Mat) (hx:m.d.length < 17592186044416) (hl:¬ ∃ l,MinSol m.n.toNat (bM m) l):ACalls Try.prog F.impl_SymmetrizerOf [aM m] [] true (fun outs res=>outs=[]/\¬ MatOK m/\res=[.one (.v (.slice none 0 0))]):=by
 refine ACalls.of_body (C:=C.impl_SymmetrizerOf) (n:=Try.f14.ntmps) tabT folT Try.func14 rfl (by kernel_rfl) rfl (Nat.le_of_ble_eq_true rfl) (by decide) (by kernel_rfl) (by kernel_rfl) rfl (by simp) (by simp) ?_
 simp only [Try.f14]
 refine wseq ?_
 refine wreg fun K hK=>?_
 simp [C.impl_SymmetrizerOf,mS]
 refine hK _ ?_;clear hK K
 show AWp _ _ _ _ _
 refine wseq ?_
 refine wseq ?_
 refine wregI ([0,1] ++ ([2])) rfl fun K hK=>?_
 refine oSg fun L hL=>?_
 simp [C.impl_SymmetrizerOf,mS]
 refine wcall1 (impl_shapedG_c m hx) (by simp [mS]) (by simp) ?_
 simp [C.impl_SymmetrizerOf,mS]
 refine hL _ ?_;clear hL L
 refine oEn fun L hL=>?_
 simp [C.impl_SymmetrizerOf,mS]
 refine hL _ ?_;clear hL L
 simp [C.impl_SymmetrizerOf,mS]
 refine hK _ ?_;clear hK K
 show AWp _ _ _ _ _
 refine wcond _ rfl (fun hc1=>?_) (fun hc1=>?_)
 ·have hS:¬ ShM m:=by simpa using hc1
  refine wseq ?_
  refine wreg fun K hK=>?_
  simp [C.impl_SymmetrizerOf,mS]
  refine hK _ ?_;clear hK K
  show AWp _ _ _ _ _
  refine wret ?_
  simp [C.impl_SymmetrizerOf,mS]
  exact fun h=>hS h.1
 ·have hS:ShM m:=by simpa using hc1
  refine wskip ?_
  show AWp _ _ _ _ _
  refine wseq ?_
  refine wregI ([0,1] ++ ([2])) rfl fun K hK=>?_
  refine oSg fun L hL=>?_
  simp [C.impl_SymmetrizerOf,mS]
  refine wcall (factors_none hS (fun l h=>hl ⟨l,h⟩)) (by simp) (by simp) (by simp) ?_
  rintro outs res ⟨rfl,hd,rfl⟩
  simp [C.impl_SymmetrizerOf,mS]
  refine hL _ ?_;clear hL L
  refine oEn fun L hL=>?_
  simp [C.impl_SymmetrizerOf,mS]
  refine hL _ ?_;clear hL L
  simp [C.impl_SymmetrizerOf,mS]
  refine hK _ ?_;clear hK K
  show AWp _ _ _ _ _
  refine wret ?_
  simp [C.impl_SymmetrizerOf,mS]
  exact fun h=>by obtain ⟨d,h⟩:=h.2;exact hd d h
theorem impl_FormOfN_c (m:Mat) (hx:m.d.length < 17592186044416) (hl:¬ ∃ l,MinSol m.n.toNat (bM m) l):ACalls Try.prog F.impl_FormOf [aM m] [] true (fun outs res=>outs=[]/\WkRs res [.one (.ow 1 (foF m).1.length (rows lO (foF m).1)),.one (D.bool (foF m).2)]):=by
 refine ACalls.of_body (C:=C.impl_FormOf) (n:=Try.f112.ntmps) tabT folT Try.func112 rfl (by kernel_rfl) rfl (Nat.le_of_ble_eq_true rfl) (by decide) (by kernel_rfl) (by kernel_rfl) rfl (by simp) (by simp) ?_
 simp only [Try.f112]
 refine wseq ?_
 refine wreg fun K hK=>?_
 simp [C.impl_FormOf,mS]
 refine hK _ ?_;clear hK K
 show AWp _ _ _ _ _
 refine wseq ?_
 refine wregI ([0,1] ++ ([2])) rfl fun K hK=>?_
 refine oSg fun L hL=>?_
 simp [C.impl_FormOf,mS]
 refine wcall (impl_SymmetrizerOfN_c m hx hl) (by simp) (by simp) (by simp) ?_
 rintro outs res ⟨rfl,hno,rfl⟩
 simp [C.impl_FormOf,mS]
 refine hL _ ?_;clear hL L
 refine oEn fun L hL=>?_
 simp [C.impl_FormOf,mS]
 refine hL _ ?_;clear hL L
 simp [C.impl_FormOf,mS]
 refine hK _ ?_;clear hK K
 show AWp _ _ _ _ _
 refine wseq ?_
 refine wreg fun K hK=>?_
 simp [C.impl_FormOf,mS]
 refine hK _ ?_;clear hK K
 show AWp _ _ _ _ _
 refine wseq ?_
 refine wseq ?_
 refine wregI ([0,1,2,3,4,5,6,7,8,9,10,11,12]) rfl fun K hK=>?_
 refine oEn fun L hL=>?_
 simp [C.impl_FormOf,mS]
 refine hL _ ?_;clear hL L
 simp [C.impl_FormOf,mS]
 refine hK _ ?_;clear hK K
 show AWp _ _ _ _ _
 refine wcond _ rfl (fun hc1=>?_) (fun hc1=>?_)
 ·have hf:foF m=([],false):=if_neg (fun h=>hno h.1.1)
  refine wseq ?_
  refine wreg fun K hK=>?_
  simp [C.impl_FormOf,mS]
  refine hK _ ?_;clear hK K
  show AWp _ _ _ _ _
  refine wret ?_
  simp [C.impl_FormOf,mS,hf,rows]
 ·simp at hc1
theorem impl_FormOfS_c (m:Mat) (hx:m.d.length < 17592186044416) (hS:ShM m) (hm:MinSol m.n.toNat (bM m) (dsM m)):ACalls Try.prog F.impl_FormOf [aM m] [] true (fun outs res=>outs=[]/\WkRs res [.one (.ow 1 (foF m).1.length (rows lO (foF m).1)),.one (D.bool (foF m).2)]):=by
 have hok:=MatOK.of_min hS hm
 obtain ⟨n,hn⟩:∃ n:Nat,m.n=n:=⟨m.n.toNat,by have:=hS.1;omega⟩
 obtain ⟨N,hN⟩:∃ N:Nat,N=2*n:=⟨_,rfl⟩
 have hnt:m.n.toNat=n:=by omega
 have hn5:1<=n/\n<=5:=by have:=hS.1;omega
 have hdl:(dsM m).length=n:=by rw [<-hnt];exact hm.1
 have hwn:IntKind.i64.wrap (2*(n:Int))=(N:Int):=by rw [wrapOk (by omega) (by omega)];omega
 have hne:dsM m≠[]:=fun e=>by
  rw [e] at hdl
  simp at hdl
  omega
 have hi64:=foL_i64 hS hm
 have hfol:foL m=tbL N (foT n (g0 (dsM m)) (bM m)):=by unfold foL;rw [hnt,hN]
 have hfll:(foL m).length=N:=by rw [hfol];simp
 obtain ⟨ds,hdse⟩:∃ ds,ds=dsM m:=⟨_,rfl⟩
 rw [<-hdse] at hm hdl hne hfol
 have hds:∀ i (h:i < n),0 < ds[i]'(by omega)/\ds[i]'(by omega)<=99 ^ 8/\ds[i]'(by omega)=g0 ds i:=fun i h=>by
  have e:ds[i]'(by omega)=g0 ds i:=by simp [g0,List.getD_eq_getElem?_getD,show i < ds.length by omega]
  rw [e]
  exact ⟨hm.2.1.pos i (by omega),hm.2.2.2 i (by omega),rfl⟩
 refine ACalls.of_body (C:=C.impl_FormOf) (n:=Try.f112.ntmps) tabT folT Try.func112 rfl (by kernel_rfl) rfl (Nat.le_of_ble_eq_true rfl) (by decide) (by kernel_rfl) (by kernel_rfl) rfl (by simp) (by simp) ?_
 simp only [Try.f112]
 refine wseq ?_
 refine wreg fun K hK=>?_
 simp [C.impl_FormOf,mS]
 refine hK _ ?_;clear hK K
 show AWp _ _ _ _ _
 refine wseq ?_
 refine wregI ([0,1] ++ ([2])) rfl fun K hK=>?_
 refine oSg fun L hL=>?_
 simp [C.impl_FormOf,mS]
 refine wcall1 (impl_SymmetrizerOf_c m hx hS ds hm) (by simp) (by simp) ?_
 simp [C.impl_FormOf,mS]
 refine hL _ ?_;clear hL L
 refine oEn fun L hL=>?_
 simp [C.impl_FormOf,mS]
 refine hL _ ?_;clear hL L
 simp [C.impl_FormOf,mS]
 refine hK _ ?_;clear hK K
 show AWp _ _ _ _ _
 refine wseq ?_
 refine wreg fun K hK=>?_
 simp [C.impl_FormOf,mS,hn]
 refine hK _ ?_;clear hK K
 show AWp _ _ _ _ _
 refine wseq ?_
 refine wseq ?_
 have hn0:¬ n=0:=by omega
 have hle:decide (8 < (N:Int)) = !decide (N<=8):=by rw [Bool.eq_iff_iff];simp;omega
 refine wregI ([0,1,2,3,4,5,6,7,8,9,10,11,12]) rfl fun K hK=>?_
 have hJ:K ⟨ofL [(1,.pt (1,0) [] 0),(4,.al (4,0) [] 0 ds.length),(5,.int n),(25,.bool (!decide (m.r=n/\N<=8)))],ofRO [((1,0),some (.bx (mS m))),((4,0),some (owI ds))]⟩:=by
  refine hK _ ?_;clear hK K
  show AWp _ _ _ _ _
  refine wcond _ rfl (fun hc1=>?_) (fun hc1=>?_)
  ·have hr:=nd_t hc1
   have hf:foF m=([],false):=if_neg (fun h=>hr (by obtain ⟨⟨_,h1,h2⟩,_⟩:=h;exact ⟨by omega,by omega⟩))
   refine wseq ?_
   refine wreg fun K hK=>?_
   simp [C.impl_FormOf,mS]
   refine hK _ ?_;clear hK K
   show AWp _ _ _ _ _
   refine wret ?_
   simp [C.impl_FormOf,mS,hf,rows]
  ·have hr:=nd_f hc1
   have hq:SqOK m:=⟨hok,by omega,by omega⟩
   obtain ⟨hrn,hN8⟩:=hr
   refine wskip ?_
   show AWp _ _ _ _ _
   refine wseq ?_
   refine wreg fun K hK=>?_
   simp [C.impl_FormOf,mS]
   refine hK _ ?_;clear hK K
   show AWp _ _ _ _ _
   refine wseq ?_
   refine wseq ?_
   refine wreg fun K hK=>?_
   simp [C.impl_FormOf,mS]
   refine hK _ ?_;clear hK K
   show AWp _ _ _ _ _
   refine wblock ?_
   refine wloopW (fun k:Nat=>⟨ofL [(1,.pt (1,0) [] 0),(4,.al (4,0) [] 0 ds.length),(5,.int n),(6,.al (6,0) [] 0 k),(27,.int N),(28,.int k)],ofRO [((1,0),some (.bx [D.int n,D.int n,shI m.d])),((4,0),some (owI ds)),((6,0),some (.ow 1 k (rows lO (List.replicate k (List.replicate N 0)))))]⟩) (fun k=>k<=N) (fun k=>N - k) 0 [.tmp 6 1] (by simp [C.impl_FormOf,rows,hwn,hn,hrn,mS];(first | (constructor <;> funext t) | funext t) <;> simp only [ofL,ofRO] <;> (repeat' (first | rfl | split)) <;> (first | (simp_all;done) | (simp_all <;> (first | omega | (intro e;exact absurd e.symm (by assumption)) | (subst_vars;simp))))) (by simp) ?_
   intro x1 hx1 R1 hR1
   refine wseq ?_
   refine wreg fun K hK=>?_
   simp [C.impl_FormOf,mS]
   refine hK _ ?_;clear hK K
   show AWp _ _ _ _ _
   refine wseq ?_
   refine wcond _ rfl (fun hc2=>?_) (fun hc2=>?_)
   ·have hk:x1 < N:=by have:=d_t hc2;omega
    have hrl:(List.replicate N (0:Int)).length=N:=by simp
    refine wskip ?_
    show AWp _ _ _ _ _
    refine wseq ?_
    refine wblock ?_
    refine wreg fun K hK=>?_
    simp [C.impl_FormOf,mS,zeros_ints,hwn,lO_snocN _ hrl,show (x1+1)*24<=140737488355328 by omega,show (8:Int)*N<=281474976710656 by omega,show (N:Int)<=281474976710656 by omega]
    refine hK _ ?_;clear hK K
    show AWp _ _ _ _ _
    refine wreg fun K hK=>?_
    simp [C.impl_FormOf,mS,wrap_succ (show x1 < 4611686018427387904 by omega)]
    refine hK _ ?_;clear hK K
    simp [C.impl_FormOf,mS]
    refine cast (congrArg R1 ?_) (hR1 (x1+1) hk (by omega))
    simp [List.replicate_succ']
   ·have hk:x1=N:=by have:=d_f hc2;omega
    rw [hk,<-foG_0 n N (foT n (g0 ds) (bM m))]
    refine wexit ?_
    show AWp _ _ _ _ _
    refine wseq ?_
    refine wseq ?_
    refine wreg fun K hK=>?_
    simp [C.impl_FormOf,mS]
    refine hK _ ?_;clear hK K
    show AWp _ _ _ _ _
    refine wblock ?_
    refine wloop (fun i:Nat=>⟨ofL [(1,.pt (1,0) [] 0),(4,.al (4,0) [] 0 ds.length),(5,.int n),(6,.al (6,0) [] 0 N),(7,.int i)],ofRO [((1,0),some (.bx [D.int n,D.int n,shI m.d])),((4,0),some (owI ds)),((6,0),some (.ow 1 N (rows lO (tbL N (foG n (foT n (g0 ds) (bM m)) i)))))]⟩) (fun i=>i<=n) (fun i=>n - i) 0 (by simp [C.impl_FormOf]) (by simp) ?_
    intro x2 hx2 R2 hR2
    refine wseq ?_
    refine wseq ?_
    refine wreg fun K hK=>?_
    simp [C.impl_FormOf,mS]
    refine hK _ ?_;clear hK K
    show AWp _ _ _ _ _
    refine wcond _ rfl (fun hc3=>?_) (fun hc3=>?_)
    ·have hi:x2 < n:=by have:=d_t hc3;omega
     have hid:x2 < ds.length:=by omega
     obtain ⟨d1,d2,d3⟩:=hds x2 hi
     obtain ⟨P,hP⟩:∃ P,P=n+x2:=⟨_,rfl⟩
     have hPN:P < N:=by omega
     obtain ⟨A,hA⟩:∃ A,A=tbL N (foG n (foT n (g0 ds) (bM m)) x2):=⟨_,rfl⟩
     have hAl:A.length=N:=by rw [hA];simp
     have g1:x2 < A.length:=by omega
     have g2:P < A.length:=by omega
     have hA1:A[x2]=tbR N (foG n (foT n (g0 ds) (bM m)) x2 x2):=by simp only [hA];exact tbL_get _ (by omega)
     have hA2:A[P]=tbR N (foG n (foT n (g0 ds) (bM m)) x2 P):=by simp only [hA];exact tbL_get _ (by omega)
     have hst:=foG_step hi (g0 ds) (bM m) (x:=-ds[x2]) (y:=ds[x2]) (by rw [d3]) d3
     rw [<-hN,<-hP,<-hA,<-hA1,<-hA2] at hst
     have hl1:A[x2].length=N:=by rw [hA1];simp
     have hl2:A[P].length=N:=by rw [hA2];simp
     rw [<-hA]
     have hs1:(rows lO A).set x2 (.ow 1 N (ints (A[x2].set P (-ds[x2]))))=rows lO (A.set x2 (A[x2].set P (-ds[x2]))):=by
      have:=lO_set g1 (A[x2].set P (-ds[x2]))
      rwa [List.length_set,hl1] at this
     obtain ⟨A2,hA2'⟩:∃ A2,A2=A.set x2 (A[x2].set P (-ds[x2])):=⟨_,rfl⟩
     have g3:P < A2.length:=by rw [hA2'];simpa using g2
     have g4:A2[P]=A[P]:=by simp only [hA2'];exact List.getElem_set_ne (by omega) _
     have hs2:(rows lO A2).set P (.ow 1 N (ints (A[P].set x2 ds[x2])))=rows lO (A2.set P (A[P].set x2 ds[x2])):=by
      have:=lO_set g3 (A[P].set x2 ds[x2])
      rwa [List.length_set,hl2] at this
     have hs3:(rows lO A).set P (.ow 1 N (ints (A[P].set x2 ds[x2])))=rows lO (A.set P (A[P].set x2 ds[x2])):=by
      have:=lO_set g2 (A[P].set x2 ds[x2])
      rwa [List.length_set,hl2] at this
     have hwneg:IntKind.i64.wrap (-ds[x2])=-ds[x2]:=wrapOk (by omega) (by omega)
     have hwa:IntKind.i64.wrap ((n:Int)+x2)=(P:Int):=by rw [wrapOk (by omega) (by omega)];omega
     rw [<-hA2'] at hst hs1
     refine wskip ?_
     show AWp _ _ _ _ _
     refine wseq ?_
     refine wblock ?_
     refine wseq ?_
     refine wdrawI [(true,0),(true,1),(true,2),(true,3),(true,4),(true,5),(true,6),(true,7),(true,8),(true,9),(true,10),(true,11),(true,12),(true,13),(true,14),(true,15),(true,16),(true,17),(true,18),(true,19),(true,20),(true,21),(true,22),(true,23),(false,24),(true,25),(false,26)] ⟨by kernel_rfl,by kernel_rfl⟩ ([0,1,2,3,4,5,6,7,8,9,10,11,12,13,14,15,16,17,18,19,20,21,22,23,24,25,26]) rfl fun K hK=>?_
     have hJ:K ⟨ofL [(1,.pt (1,0) [] 0),(4,.al (4,0) [] 0 ds.length),(5,.int n),(6,.al (6,0) [] 0 N),(7,.int x2)],ofRO [((1,0),some (.bx [D.int n,D.int n,shI m.d])),((4,0),some (owI ds)),((6,0),some (.ow 1 N (rows lO (tbL N (foH n (foT n (g0 ds) (bM m)) x2 0)))))]⟩:=by
      refine hK _ ?_;clear hK K
      show AWp _ _ _ _ _
      refine wseq ?_
      refine wreg fun K hK=>?_
      simp [C.impl_FormOf,mS]
      refine hK _ ?_;clear hK K
      show AWp _ _ _ _ _
      refine wblock ?_
      refine wloop (fun j:Nat=>⟨ofL [(1,.pt (1,0) [] 0),(4,.al (4,0) [] 0 ds.length),(5,.int n),(6,.al (6,0) [] 0 N),(7,.int x2),(8,.int j)],ofRO [((1,0),some (.bx [D.int n,D.int n,shI m.d])),((4,0),some (owI ds)),((6,0),some (.ow 1 N (rows lO (tbL N (foH n (foT n (g0 ds) (bM m)) x2 j)))))]⟩) (fun j=>j<=n) (fun j=>n - j) 0 (by simp [C.impl_FormOf]) (by simp) ?_
      intro x3 hx3 R3 hR3
      refine wseq ?_
      refine wseq ?_
      refine wreg fun K hK=>?_
      simp [C.impl_FormOf,mS]
      refine hK _ ?_;clear hK K
      show AWp _ _ _ _ _
      refine wcond _ rfl (fun hc4=>?_) (fun hc4=>?_)
      ·have hj:x3 < n:=by have:=d_t hc4;omega
       have hat:=at_c hn hS (show (x2:Int) < m.r by omega) hj
       rw [hrn] at hat
       have hbb:=bM_bd hS x2 x3
       have hmb:=mulD ⟨d1,d2⟩ hbb
       obtain ⟨c,hc⟩:∃ c,c=bM m x2 x3:=⟨_,rfl⟩
       have hst3:=foH_step hi hj (g0 ds) (bM m) (x:=-ds[x2]*c) (by rw [d3,hc])
       rw [<-hc] at hat hmb
       obtain ⟨Q,hQ⟩:∃ Q,Q=n+x3:=⟨_,rfl⟩
       have hQN:Q < N:=by omega
       obtain ⟨B,hB⟩:∃ B,B=tbL N (foH n (foT n (g0 ds) (bM m)) x2 x3):=⟨_,rfl⟩
       have hBl:B.length=N:=by rw [hB];simp
       have g5:P < B.length:=by omega
       have hB1:B[P]=tbR N (foH n (foT n (g0 ds) (bM m)) x2 x3 P):=by simp only [hB];exact tbL_get _ (by omega)
       rw [<-hN,<-hP,<-hQ,<-hB,<-hB1] at hst3
       have hl3:B[P].length=N:=by rw [hB1];simp
       rw [<-hB]
       have hnm:-ds[x2]*c=-(ds[x2]*c):=Int.neg_mul _ _
       have hwm:IntKind.i64.wrap (-ds[x2]*c)=-ds[x2]*c:=by
        rw [hnm]
        exact wrapOk (by omega) (by omega)
       obtain ⟨w,hw⟩:∃ w,w=-ds[x2]*c:=⟨_,rfl⟩
       rw [<-hw] at hst3
       have hwm2:IntKind.i64.wrap (-(ds[x2]*c))=w:=by rw [<-hnm,hw];exact hwm
       have hwm1:IntKind.i64.wrap (-ds[x2]*c)=w:=by rw [hw];exact hwm
       have hs4:(rows lO B).set P (.ow 1 N (ints (B[P].set Q w)))=rows lO (B.set P (B[P].set Q w)):=by
        have:=lO_set g5 (B[P].set Q w)
        rwa [List.length_set,hl3] at this
       have hwb:IntKind.i64.wrap ((n:Int)+x3)=(Q:Int):=by rw [wrapOk (by omega) (by omega)];omega
       refine wskip ?_
       show AWp _ _ _ _ _
       refine wseq ?_
       refine wblock ?_
       refine wdrawI [(true,0),(true,1),(true,2),(true,3),(true,4),(true,5),(true,6),(true,7),(true,8),(true,9),(true,10),(true,11),(true,12),(true,13),(true,14),(true,15),(true,16),(false,17),(true,18),(true,19),(false,20)] ⟨by kernel_rfl,by kernel_rfl⟩ ([0,1,2,3,4,5,6,7,8,9,10,11,12,13,14,15,16,17] ++ ([18,19,20])) rfl fun K hK=>?_
       have hJ:K ⟨ofL [(1,.pt (1,0) [] 0),(4,.al (4,0) [] 0 ds.length),(5,.int n),(6,.al (6,0) [] 0 N),(7,.int x2),(8,.int x3)],ofRO [((1,0),some (.bx [D.int n,D.int n,shI m.d])),((4,0),some (owI ds)),((6,0),some (.ow 1 N (rows lO (tbL N (foH n (foT n (g0 ds) (bM m)) x2 (x3+1))))))]⟩:=by
        refine hK _ ?_;clear hK K
        show AWp _ _ _ _ _
        refine wreg fun K hK=>?_
        simp [C.impl_FormOf,mS,wrap_succ (show x3 < 4611686018427387904 by omega)]
        refine hK _ ?_;clear hK K
        simp [C.impl_FormOf,mS]
        exact hR3 (x3+1) hj (by omega)
       clear hK
       simp [C.impl_FormOf,hwa,hwb,hwneg,hwm1,hwm2,get_ints,hid,show (x2:Int) < ds.length by omega,hPN,hQN,show (P:Int) < N by omega,show (Q:Int) < N by omega,lO_0 g5,hl3,hs4,modify_const,ints_set]
       repeat' first
        | (refine wcall1 (hat) ?_ (by simp) ?_;(focus (simp;done));simp [C.impl_FormOf,hwa,hwb,hwneg,hwm1,hwm2,get_ints,hid,show (x2:Int) < ds.length by omega,hPN,hQN,show (P:Int) < N by omega,show (Q:Int) < N by omega,lO_0 g5,hl3,hs4,modify_const,ints_set])
        | (refine cast (congrArg K ?_) hJ;simp [hst3];done)
        | refine And.intro ?_ ?_
      ·have hj:x3=n:=by have:=d_f hc4;omega
       have hfin:=foH_n n (foT n (g0 ds) (bM m)) x2
       rw [<-hN] at hfin
       rw [hj,hfin]
       refine wexit ?_
       show AWp _ _ _ _ _
       refine wreg fun K hK=>?_
       simp [C.impl_FormOf,mS,wrap_succ (show x2 < 4611686018427387904 by omega)]
       refine hK _ ?_;clear hK K
       simp [C.impl_FormOf,mS]
       exact hR2 (x2+1) hi (by omega)
     clear hK
     simp [C.impl_FormOf,hwa,hwneg,get_ints,hid,show (x2:Int) < N by omega,show x2 < N by omega,hPN,show (P:Int) < N by omega,show (x2:Int) < ds.length by omega,lO_0 g1,lO_0 g2,lO_0 g3,g4,hl1,hl2,hs1,hs2,hs3,modify_const,ints_set]
     repeat' first
      | (refine cast (congrArg K ?_) hJ;simp [hst];done)
      | refine And.intro ?_ ?_
    ·have hi:x2=n:=by have:=d_f hc3;omega
     have hfin:=foG_n n (foT n (g0 ds) (bM m))
     rw [<-hN,<-hfol] at hfin
     rw [hi,hfin]
     have hif:=impl_IsForm_c (foL m) (by rw [hfll];omega) hi64
     rw [hfll] at hif
     refine wexit ?_
     show AWp _ _ _ _ _
     refine wseq ?_
     refine wseq ?_
     refine wregI ([0,1] ++ ([2])) rfl fun K hK=>?_
     refine oSg fun L hL=>?_
     simp [C.impl_FormOf,mS]
     refine wcall1 (hif) (by simp [mS]) (by simp) ?_
     simp [C.impl_FormOf,mS]
     refine hL _ ?_;clear hL L
     refine oEn fun L hL=>?_
     simp [C.impl_FormOf,mS]
     refine hL _ ?_;clear hL L
     simp [C.impl_FormOf,mS]
     refine hK _ ?_;clear hK K
     show AWp _ _ _ _ _
     refine wcond _ rfl (fun hc5=>?_) (fun hc5=>?_)
     ·have hb:¬ FormOk (foL m):=by simpa using hc5
      have hf:foF m=([],false):=if_neg (fun h=>hb h.2)
      refine wseq ?_
      refine wreg fun K hK=>?_
      simp [C.impl_FormOf,mS]
      refine hK _ ?_;clear hK K
      show AWp _ _ _ _ _
      refine wret ?_
      simp [C.impl_FormOf,mS,hf,rows]
     ·have hb:FormOk (foL m):=by simpa using hc5
      have hf:foF m=(foL m,true):=if_pos ⟨hq,hb⟩
      refine wskip ?_
      show AWp _ _ _ _ _
      refine wseq ?_
      refine wreg fun K hK=>?_
      simp [C.impl_FormOf,mS]
      refine hK _ ?_;clear hK K
      show AWp _ _ _ _ _
      refine wret ?_
      simp [C.impl_FormOf,mS,hf,hfll]
 clear hK
 by_cases h1:m.r=n
 ·refine oEn fun L hL=>?_
  simp [C.impl_FormOf,mS,hn,hdl,hne,hwn,hn0,hle,h1]
  refine hL _ ?_;clear hL L
  simp [C.impl_FormOf,mS,hn,hdl,hne,hwn,hn0,hle,h1]
  refine cast (congrArg K ?_) hJ
  simp [hdl,hn,owI,mS,h1]
 ·refine oEn fun L hL=>?_
  simp [C.impl_FormOf,mS,hn,hdl,hne,hwn,hn0,hle,h1]
  refine hL _ ?_;clear hL L
  simp [C.impl_FormOf,mS,hn,hdl,hne,hwn,hn0,hle,h1]
  refine cast (congrArg K ?_) hJ
  simp [hdl,hn,owI,mS,h1]
theorem impl_FormOf_c (m:Mat) (hx:m.d.length < 17592186044416) (hS:ShM m):ACalls Try.prog F.impl_FormOf [aM m] [] true (fun outs res=>outs=[]/\WkRs res [.one (.ow 1 (foF m).1.length (rows lO (foF m).1)),.one (D.bool (foF m).2)]):=by
 by_cases h:∃ l,MinSol m.n.toNat (bM m) l
 ·obtain ⟨l,hl⟩:=h
  have:=dsM_eq hl
  exact impl_FormOfS_c m hx hS (by rw [this];exact hl)
 ·exact impl_FormOfN_c m hx h
end Go.Proofs.Ytfcgcgmleogamaa.Ab
namespace Go.Proofs.Ytfcgcgmleogamaa.Ab
open Go
set_option maxRecDepth 10000
set_option maxHeartbeats 2000000
end Go.Proofs.Ytfcgcgmleogamaa.Ab
namespace Go.Proofs.Ytfcgcgmleogamaa.Ab
open Go
set_option maxRecDepth 10000
set_option maxHeartbeats 2000000
end Go.Proofs.Ytfcgcgmleogamaa.Ab
namespace Go.Proofs.Ytfcgcgmleogamaa.Ab
open Go
set_option maxRecDepth 10000
set_option maxHeartbeats 4000000
theorem mat_kk {m:Mat} (h:MatOK m) {k:Nat} (hk:(k:Int) < m.n):bM m k k=0:=by
 obtain ⟨d,hd⟩:=h.2
 have h1:=hd.rel k k (by omega) (by omega)
 have h2:=hd.pos k (by omega)
 have:d k*bM m k k=0:=by omega
 rcases Int.mul_eq_zero.1 this with e | e
 ·omega
 ·exact e
theorem sk_vL {fm:List (List Int)} {m:Mat} (hF:FormOk fm) (hS:ShM m) (k i j:Nat):SkOk fm (vL m k fm.length i) (vL m k fm.length j):=
 ⟨hF,vL_len _ _ _ _,vL_len _ _ _ _,fun x hx=>by have:=vL_bd hS x hx;omega,fun x hx=>by have:=vL_bd hS x hx;omega⟩
theorem mtL_i64 {fm:List (List Int)} {m:Mat} (hF:FormOk fm) (hS:ShM m) (k:Nat):I64 (mtL fm m k fm.length):=fun r hr x hx=>by
 simp only [mtL,tbL,List.mem_map,List.mem_range] at hr
 obtain ⟨i,hi,rfl⟩:=hr
 simp only [tbR,List.mem_map,List.mem_range] at hx
 obtain ⟨j,hj,rfl⟩:=hx
 have:=(sk_vL hF hS k i j).bd
 omega
theorem vL_k (m:Mat) (k N:Nat):vL m k N k=eL m k N:=if_pos rfl
theorem vL_u {m:Mat} {k N i:Nat} (h:¬ i=k):vL m k N i=unitL N i:=if_neg h
theorem eL_len (m:Mat) (k N:Nat):(eL m k N).length=N:=by simp [eL]
theorem eL_set {m:Mat} {k N:Nat} (h:bM m k k=0):(tbR N fun q=>max 0 (bM m q k)).set k (-1)=eL m k N:=by
 rw [tbR_set]
 unfold eL
 refine tbR_congr fun q _=>?_
 unfold eC
 by_cases e:q=k
 ·subst e
  rw [if_pos rfl,if_pos rfl,h]
  rfl
 ·rw [if_neg e,if_neg e]
  omega
def eS (m:Mat) (k N r:Nat):List Int:=tbR N fun q=>if q < r then eC (bM m) k q else if q=k then -1 else 0
theorem eS_0 (m:Mat) {k N:Nat}:(unitL N k).set k (-1)=eS m k N 0:=by
 refine List.ext_getElem (by rw [List.length_set,unitL_length];simp [eS]) fun i h1 h2=>?_
 have hi:i < N:=by simpa [eS] using h2
 simp only [eS]
 rw [tbR_get _ hi,if_neg (by omega),List.getElem_set]
 by_cases e:k=i
 ·rw [if_pos e,if_pos e.symm]
 ·rw [if_neg e,if_neg (fun c=>e c.symm)]
  simp only [unitL,List.getElem_set,List.getElem_replicate]
  rw [if_neg e]
theorem eS_N (m:Mat) (k N:Nat):eS m k N N=eL m k N:=tbR_congr fun q hq=>by rw [if_pos hq]
theorem eS_len (m:Mat) (k N r:Nat):(eS m k N r).length=N:=by simp [eS]
theorem eS_get (m:Mat) {k N r:Nat} (h:r < N):(eS m k N r)[r]'(by rw [eS_len];exact h)=if r=k then -1 else 0:=by
 simp only [eS]
 rw [tbR_get _ h,if_neg (by omega)]
theorem eS_step {m:Mat} {k N r:Nat} {x:Int} (hx:x=(if r=k then -1 else 0)+max 0 (bM m r k)):(eS m k N r).set r x=eS m k N (r+1):=by
 unfold eS
 rw [tbR_set]
 refine tbR_congr fun q _=>?_
 by_cases e:q=r
 ·subst e
  rw [if_pos rfl,if_pos (by omega),hx]
  rfl
 ·rw [if_neg e]
  by_cases c:q < r
  ·rw [if_pos c,if_pos (show q < r+1 by omega)]
  ·rw [if_neg c,if_neg (show ¬ q < r+1 by omega)]
theorem spec_l8FormOf_c (m:Mat) (hq:SqOK m) (hm:MinSol m.n.toNat (bM m) (dsM m)):ACalls Try.prog F.spec_l8FormOf [aM m] [] true (fun outs res=>outs=[]/\res=[.one (.ow 1 (foL m).length (rows lO (foL m)))]):=by
 have hok:=hq.1
 have hS:=hok.1
 obtain ⟨n,hn,hrn,hn4,hL⟩:=hq.dim
 obtain ⟨N,hN⟩:∃ N:Nat,N=2*n:=⟨_,rfl⟩
 have hnt:m.n.toNat=n:=by omega
 have hdl:(dsM m).length=n:=by rw [<-hnt];exact hm.1
 have hwn:IntKind.i64.wrap (2*(n:Int))=(N:Int):=by rw [wrapOk (by omega) (by omega)];omega
 have hfol:foL m=tbL N (foT n (g0 (dsM m)) (bM m)):=by unfold foL;rw [hnt,hN]
 have hfll:(foL m).length=N:=by rw [hfol];simp
 have hfac:=sFactors_some (m:=m) (matok_sz hq.1) hm
 obtain ⟨ds,hdse⟩:∃ ds,ds=dsM m:=⟨_,rfl⟩
 rw [<-hdse] at hm hdl hfol hfac
 have hds:∀ i (h:i < n),0 < ds[i]'(by omega)/\ds[i]'(by omega)<=99 ^ 8/\ds[i]'(by omega)=g0 ds i:=fun i h=>by
  have e:ds[i]'(by omega)=g0 ds i:=by simp [g0,List.getD_eq_getElem?_getD,show i < ds.length by omega]
  rw [e]
  exact ⟨hm.2.1.pos i (by omega),hm.2.2.2 i (by omega),rfl⟩
 rw [hfll]
 refine ACalls.of_body (C:=C.spec_l8FormOf) (n:=Try.f116.ntmps) tabT folT Try.func116 rfl (by kernel_rfl) rfl (Nat.le_of_ble_eq_true rfl) (by decide) (by kernel_rfl) (by kernel_rfl) rfl (by simp) (by simp) ?_
 simp only [Try.f116]
 refine wseq ?_
 refine wreg fun K hK=>?_
 simp [C.spec_l8FormOf,mS]
 refine hK _ ?_;clear hK K
 show AWp _ _ _ _ _
 refine wseq ?_
 refine wregI ([0,1] ++ ([2,3,4,5,6])) rfl fun K hK=>?_
 refine oSg fun L hL=>?_
 simp [C.spec_l8FormOf,mS]
 refine wcall1 (hfac) (by simp) (by simp) ?_
 simp [C.spec_l8FormOf,mS]
 refine hL _ ?_;clear hL L
 refine oEn fun L hL=>?_
 simp [C.spec_l8FormOf,mS]
 refine hL _ ?_;clear hL L
 simp [C.spec_l8FormOf,mS]
 refine hK _ ?_;clear hK K
 show AWp _ _ _ _ _
 refine wseq ?_
 refine wreg fun K hK=>?_
 simp [C.spec_l8FormOf,mS,hn]
 refine hK _ ?_;clear hK K
 show AWp _ _ _ _ _
 refine wseq ?_
 refine wreg fun K hK=>?_
 simp [C.spec_l8FormOf,mS]
 refine hK _ ?_;clear hK K
 show AWp _ _ _ _ _
 refine wseq ?_
 refine wseq ?_
 refine wreg fun K hK=>?_
 simp [C.spec_l8FormOf,mS]
 refine hK _ ?_;clear hK K
 show AWp _ _ _ _ _
 refine wblock ?_
 refine wloop (fun i:Nat=>⟨ofL [(1,.pt (1,0) [] 0),(3,.al (3,0) [] 0 ds.length),(5,.int n),(6,.al (6,0) [] 0 i),(7,.int i)],ofRO [((1,0),some (.bx [D.int n,D.int n,shI m.d])),((3,0),some (owI ds)),((6,0),some (.ow 1 i (rows lO ((List.range i).map fun p=>tbR N (foT n (g0 ds) (bM m) p)))))]⟩) (fun i=>i<=N) (fun i=>N - i) 0 (by simp [C.spec_l8FormOf,rows,hn,hrn,mS]) (by simp) ?_
 intro x1 hx1 R1 hR1
 refine wseq ?_
 refine wseq ?_
 refine wreg fun K hK=>?_
 simp [C.spec_l8FormOf,mS,hwn]
 refine hK _ ?_;clear hK K
 show AWp _ _ _ _ _
 refine wcond _ rfl (fun hc1=>?_) (fun hc1=>?_)
 ·have hi:x1 < N:=by have:=d_t hc1;omega
  refine wskip ?_
  show AWp _ _ _ _ _
  refine wseq ?_
  refine wblock ?_
  refine wseq ?_
  refine wreg fun K hK=>?_
  have hJ:K ⟨ofL [(1,.pt (1,0) [] 0),(3,.al (3,0) [] 0 ds.length),(5,.int n),(6,.al (6,0) [] 0 x1),(7,.int x1),(8,.al (8,0) [] 0 N)],ofRO [((1,0),some (.bx [D.int n,D.int n,shI m.d])),((3,0),some (owI ds)),((6,0),some (.ow 1 x1 (rows lO ((List.range x1).map fun p=>tbR N (foT n (g0 ds) (bM m) p))))),((8,0),some (.ow 1 N (ints (tbR N fun q=>if q < 0 then foT n (g0 ds) (bM m) x1 q else 0))))]⟩:=by
   refine hK _ ?_;clear hK K
   show AWp _ _ _ _ _
   refine wseq ?_
   refine wseq ?_
   refine wreg fun K hK=>?_
   simp [C.spec_l8FormOf,mS]
   refine hK _ ?_;clear hK K
   show AWp _ _ _ _ _
   refine wblock ?_
   refine wloop (fun j:Nat=>⟨ofL [(1,.pt (1,0) [] 0),(3,.al (3,0) [] 0 ds.length),(5,.int n),(6,.al (6,0) [] 0 x1),(7,.int x1),(8,.al (8,0) [] 0 N),(9,.int j)],ofRO [((1,0),some (.bx [D.int n,D.int n,shI m.d])),((3,0),some (owI ds)),((6,0),some (.ow 1 x1 (rows lO ((List.range x1).map fun p=>tbR N (foT n (g0 ds) (bM m) p))))),((8,0),some (.ow 1 N (ints (tbR N fun q=>if q < j then foT n (g0 ds) (bM m) x1 q else 0))))]⟩) (fun j=>j<=N) (fun j=>N - j) 0 (by simp [C.spec_l8FormOf]) (by simp) ?_
   intro x2 hx2 R2 hR2
   refine wseq ?_
   refine wseq ?_
   refine wreg fun K hK=>?_
   simp [C.spec_l8FormOf,mS,hwn]
   refine hK _ ?_;clear hK K
   show AWp _ _ _ _ _
   refine wcond _ rfl (fun hc2=>?_) (fun hc2=>?_)
   ·have hj:x2 < N:=by have:=d_t hc2;omega
    have hA1:(tbR N fun q=>if q < x2 then foT n (g0 ds) (bM m) x1 q else 0).length=N:=by simp
    have hnx:∀ x:Int,x=foT n (g0 ds) (bM m) x1 x2->(tbR N fun q=>if q < x2 then foT n (g0 ds) (bM m) x1 q else 0).set x2 x=tbR N fun q=>if q < x2+1 then foT n (g0 ds) (bM m) x1 q else 0:=fun x hx=>tbR_next (foT n (g0 ds) (bM m) x1) hx
    have hsm:0=foT n (g0 ds) (bM m) x1 x2->(tbR N fun q=>if q < x2 then foT n (g0 ds) (bM m) x1 q else 0)=tbR N fun q=>if q < x2+1 then foT n (g0 ds) (bM m) x1 q else 0:=fun hx=>tbR_same (foT n (g0 ds) (bM m) x1) hx
    obtain ⟨A,hA⟩:∃ A,A=tbR N fun q=>if q < x2 then foT n (g0 ds) (bM m) x1 q else 0:=⟨_,rfl⟩
    rw [<-hA] at hA1 hnx hsm
    rw [<-hA]
    have hw1:IntKind.i64.wrap ((x1:Int)+n)=(x1:Int)+n:=wrapOk (by omega) (by omega)
    have hw2:IntKind.i64.wrap ((x1:Int) - n)=(x1:Int) - n:=wrapOk (by omega) (by omega)
    have hw3:IntKind.i64.wrap ((x2:Int) - n)=(x2:Int) - n:=wrapOk (by omega) (by omega)
    refine wskip ?_
    show AWp _ _ _ _ _
    refine wseq ?_
    refine wblock ?_
    refine wblock ?_
    refine wseq ?_
    refine wreg fun K hK=>?_
    have hJ:K ⟨ofL [(1,.pt (1,0) [] 0),(3,.al (3,0) [] 0 ds.length),(5,.int n),(6,.al (6,0) [] 0 x1),(7,.int x1),(8,.al (8,0) [] 0 N),(9,.int x2),(33,.bool (decide (x1 < n/\x2=x1+n)))],ofRO [((1,0),some (.bx [D.int n,D.int n,shI m.d])),((3,0),some (owI ds)),((6,0),some (.ow 1 x1 (rows lO ((List.range x1).map fun p=>tbR N (foT n (g0 ds) (bM m) p))))),((8,0),some (.ow 1 N (ints A)))]⟩:=by
     refine hK _ ?_;clear hK K
     show AWp _ _ _ _ _
     refine wcond _ rfl (fun hc3=>?_) (fun hc3=>?_)
     ·have hb:x1 < n/\x2=x1+n:=d_t hc3
      obtain ⟨b1,b2⟩:=hb
      obtain ⟨d1,d2,d3⟩:=hds x1 b1
      have hid:x1 < ds.length:=by omega
      have hfv:-ds[x1]=foT n (g0 ds) (bM m) x1 x2:=by unfold foT;rw [if_pos b1,if_pos (by omega),d3]
      have hwneg:IntKind.i64.wrap (-ds[x1])=-ds[x1]:=wrapOk (by omega) (by omega)
      have hst:=hnx _ hfv
      refine wreg fun K hK=>?_
      simp [C.spec_l8FormOf,mS,get_ints,hid,hwneg,hj,hA1,show (x2:Int) < N by omega,show (x1:Int) < ds.length by omega]
      refine hK _ ?_;clear hK K
      show AWp _ _ _ _ _
      refine wreg fun K hK=>?_
      simp [C.spec_l8FormOf,mS,wrap_succ (show x2 < 4611686018427387904 by omega)]
      refine hK _ ?_;clear hK K
      simp [C.spec_l8FormOf,mS]
      refine cast (congrArg R2 ?_) (hR2 (x2+1) hj (by omega))
      simp [<-hst]
     ·have hb:¬ (x1 < n/\x2=x1+n):=d_f hc3
      refine wseq ?_
      refine wreg fun K hK=>?_
      have hJ:K ⟨ofL [(1,.pt (1,0) [] 0),(3,.al (3,0) [] 0 ds.length),(5,.int n),(6,.al (6,0) [] 0 x1),(7,.int x1),(8,.al (8,0) [] 0 N),(9,.int x2),(52,.bool (decide (n<=x1/\x1=x2+n)))],ofRO [((1,0),some (.bx [D.int n,D.int n,shI m.d])),((3,0),some (owI ds)),((6,0),some (.ow 1 x1 (rows lO ((List.range x1).map fun p=>tbR N (foT n (g0 ds) (bM m) p))))),((8,0),some (.ow 1 N (ints A)))]⟩:=by
       refine hK _ ?_;clear hK K
       show AWp _ _ _ _ _
       refine wcond _ rfl (fun hc4=>?_) (fun hc4=>?_)
       ·have hb2:n<=x1/\x1=x2+n:=d_t hc4
        obtain ⟨b1,b2⟩:=hb2
        have hx2n:x2 < n:=by omega
        obtain ⟨d1,d2,d3⟩:=hds x2 hx2n
        have hid:x2 < ds.length:=by omega
        have hfv:ds[x2]=foT n (g0 ds) (bM m) x1 x2:=by unfold foT;rw [if_neg (by omega),if_pos hx2n,if_pos (by omega),d3]
        have hst:=hnx _ hfv
        refine wreg fun K hK=>?_
        simp [C.spec_l8FormOf,mS,get_ints,hid,hj,hA1,show (x2:Int) < N by omega,show (x2:Int) < ds.length by omega]
        refine hK _ ?_;clear hK K
        show AWp _ _ _ _ _
        refine wreg fun K hK=>?_
        simp [C.spec_l8FormOf,mS,wrap_succ (show x2 < 4611686018427387904 by omega)]
        refine hK _ ?_;clear hK K
        simp [C.spec_l8FormOf,mS]
        refine cast (congrArg R2 ?_) (hR2 (x2+1) hj (by omega))
        simp [<-hst]
       ·have hb2:¬ (n<=x1/\x1=x2+n):=d_f hc4
        refine wseq ?_
        refine wreg fun K hK=>?_
        have hJ:K ⟨ofL [(1,.pt (1,0) [] 0),(3,.al (3,0) [] 0 ds.length),(5,.int n),(6,.al (6,0) [] 0 x1),(7,.int x1),(8,.al (8,0) [] 0 N),(9,.int x2),(70,.bool (decide (n<=x1/\n<=x2)))],ofRO [((1,0),some (.bx [D.int n,D.int n,shI m.d])),((3,0),some (owI ds)),((6,0),some (.ow 1 x1 (rows lO ((List.range x1).map fun p=>tbR N (foT n (g0 ds) (bM m) p))))),((8,0),some (.ow 1 N (ints A)))]⟩:=by
         refine hK _ ?_;clear hK K
         show AWp _ _ _ _ _
         refine wcond _ rfl (fun hc5=>?_) (fun hc5=>?_)
         ·have hb3:n<=x1/\n<=x2:=d_t hc5
          obtain ⟨b1,b2⟩:=hb3
          obtain ⟨P,hP⟩:∃ P,x1=n+P:=⟨x1 - n,by omega⟩
          obtain ⟨Q,hQ⟩:∃ Q,x2=n+Q:=⟨x2 - n,by omega⟩
          have hPn:P < n:=by omega
          have hQn:Q < n:=by omega
          obtain ⟨d1,d2,d3⟩:=hds P hPn
          have hid:P < ds.length:=by omega
          have hwP:IntKind.i64.wrap ((x1:Int) - n)=(P:Int):=by rw [hw2];omega
          have hwQ:IntKind.i64.wrap ((x2:Int) - n)=(Q:Int):=by rw [hw3];omega
          have hat:=spec_l1At_c m n n P Q hn (by omega) hS hPn hQn
          have hbb:=bM_bd hS P Q
          have hmb:=mulD ⟨d1,d2⟩ hbb
          have hfv:-(ds[P]*bM m P Q)=foT n (g0 ds) (bM m) x1 x2:=by
           unfold foT
           rw [if_neg (by omega),if_neg (by omega),show x1 - n=P by omega,show x2 - n=Q by omega,d3,Int.neg_mul]
          have hst:=hnx _ hfv
          obtain ⟨c,hc⟩:∃ c,c=bM m P Q:=⟨_,rfl⟩
          rw [<-hc] at hat hmb hst
          have hwm:IntKind.i64.wrap (ds[P]*c)=ds[P]*c:=wrapOk (by omega) (by omega)
          obtain ⟨w,hw⟩:∃ w,w=-(ds[P]*c):=⟨_,rfl⟩
          rw [<-hw] at hst
          have hwm2:IntKind.i64.wrap (-(ds[P]*c))=w:=by rw [hw];exact wrapOk (by omega) (by omega)
          refine wdrawI [(true,0),(true,1),(true,2),(true,3),(true,4),(true,5),(true,6),(true,7),(true,8),(true,9),(true,10),(true,11),(true,12),(true,13),(true,14),(false,15),(true,16),(true,17),(true,18),(false,19)] ⟨by kernel_rfl,by kernel_rfl⟩ ([0,1,2,3,4,5,6,7,8,9,10,11,12,13,14,15] ++ ([16,17,18,19])) rfl fun K hK=>?_
          have hJ:K ⟨ofL [(1,.pt (1,0) [] 0),(3,.al (3,0) [] 0 ds.length),(5,.int n),(6,.al (6,0) [] 0 x1),(7,.int x1),(8,.al (8,0) [] 0 N),(9,.int x2)],ofRO [((1,0),some (.bx [D.int n,D.int n,shI m.d])),((3,0),some (owI ds)),((6,0),some (.ow 1 x1 (rows lO ((List.range x1).map fun p=>tbR N (foT n (g0 ds) (bM m) p))))),((8,0),some (.ow 1 N (ints (tbR N fun q=>if q < x2+1 then foT n (g0 ds) (bM m) x1 q else 0))))]⟩:=by
           refine hK _ ?_;clear hK K
           show AWp _ _ _ _ _
           refine wreg fun K hK=>?_
           simp [C.spec_l8FormOf,mS,wrap_succ (show x2 < 4611686018427387904 by omega)]
           refine hK _ ?_;clear hK K
           simp [C.spec_l8FormOf,mS]
           exact hR2 (x2+1) hj (by omega)
          clear hK
          simp [C.spec_l8FormOf,hwP,hwQ,hwm,hwm2,get_ints,hid,hj,hA1,show (x2:Int) < N by omega,show (P:Int) < ds.length by omega]
          repeat' first
           | (refine wcall1 (hat) ?_ (by simp) ?_;(focus (simp;done));simp [C.spec_l8FormOf,hwP,hwQ,hwm,hwm2,get_ints,hid,hj,hA1,show (x2:Int) < N by omega,show (P:Int) < ds.length by omega])
           | (refine cast (congrArg K ?_) hJ;simp [hst];done)
           | refine And.intro ?_ ?_
         ·have hb3:¬ (n<=x1/\n<=x2):=d_f hc5
          have hfv:0=foT n (g0 ds) (bM m) x1 x2:=by
           unfold foT
           by_cases q1:x1 < n
           ·rw [if_pos q1,if_neg (by omega)]
           ·rw [if_neg q1]
            rw [if_pos (by omega),if_neg (by omega)]
          have hst:=hsm hfv
          refine wskip ?_
          show AWp _ _ _ _ _
          refine wreg fun K hK=>?_
          simp [C.spec_l8FormOf,mS,wrap_succ (show x2 < 4611686018427387904 by omega)]
          refine hK _ ?_;clear hK K
          simp [C.spec_l8FormOf,mS]
          refine cast (congrArg R2 ?_) (hR2 (x2+1) hj (by omega))
          simp [<-hst]
        clear hK
        have e1:(n:Int)<=x2↔n<=x2:=by omega
        by_cases g1:n<=x1
        ·simp [C.spec_l8FormOf,g1,e1,show (n:Int)<=x1 by omega]
         refine cast (congrArg K ?_) hJ
         simp [g1]
        ·simp [C.spec_l8FormOf,g1,e1,show ¬ (n:Int)<=x1 by omega]
         refine cast (congrArg K ?_) hJ
         simp [g1]
      clear hK
      have e1:((x2:Int) == (x1:Int) - n)=decide (x1=x2+n):=by rw [Bool.eq_iff_iff];simp;omega
      by_cases g1:n<=x1
      ·simp [C.spec_l8FormOf,hw2,g1,e1,show (n:Int)<=x1 by omega]
       refine cast (congrArg K ?_) hJ
       simp [g1]
      ·simp [C.spec_l8FormOf,hw2,g1,e1,show ¬ (n:Int)<=x1 by omega]
       refine cast (congrArg K ?_) hJ
       simp [g1]
    clear hK
    have e1:((x2:Int) == (x1:Int)+n)=decide (x2=x1+n):=by rw [Bool.eq_iff_iff];simp;omega
    by_cases g1:x1 < n
    ·simp [C.spec_l8FormOf,hw1,g1,e1,show (x1:Int) < n by omega]
     refine cast (congrArg K ?_) hJ
     simp [g1]
    ·simp [C.spec_l8FormOf,hw1,g1,e1,show ¬ (x1:Int) < n by omega]
     refine cast (congrArg K ?_) hJ
     simp [g1]
   ·have hj:x2=N:=by have:=d_f hc2;omega
    rw [hj,tbR_full]
    have hrl:(tbR N (foT n (g0 ds) (bM m) x1)).length=N:=by simp
    refine wexit ?_
    show AWp _ _ _ _ _
    refine wreg fun K hK=>?_
    simp [C.spec_l8FormOf,mS,lO_snocN _ hrl,show (x1+1)*24<=140737488355328 by omega]
    refine hK _ ?_;clear hK K
    show AWp _ _ _ _ _
    refine wreg fun K hK=>?_
    simp [C.spec_l8FormOf,mS,wrap_succ (show x1 < 4611686018427387904 by omega)]
    refine hK _ ?_;clear hK K
    simp [C.spec_l8FormOf,mS]
    refine cast (congrArg R1 ?_) (hR1 (x1+1) hi (by omega))
    simp [List.range_succ]
  clear hK
  rw [tbR_none] at hJ
  simp [C.spec_l8FormOf,hwn,zeros_ints,show (8:Int)*N<=281474976710656 by omega,show (N:Int)<=281474976710656 by omega]
  exact hJ
 ·have hi:x1=N:=by have:=d_f hc1;omega
  refine wexit ?_
  show AWp _ _ _ _ _
  refine wseq ?_
  refine wreg fun K hK=>?_
  simp [C.spec_l8FormOf,mS]
  refine hK _ ?_;clear hK K
  show AWp _ _ _ _ _
  refine wret ?_
  simp [C.spec_l8FormOf,mS,hi,hfol,tbL]
theorem spec_l8FormOfN_c (m:Mat) (hq:SqOK m) (hl:¬ ∃ l,MinSol m.n.toNat (bM m) l):ACalls Try.prog F.spec_l8FormOf [aM m] [] true (fun outs res=>False):=by
 refine ACalls.of_body (C:=C.spec_l8FormOf) (n:=Try.f116.ntmps) tabT folT Try.func116 rfl (by kernel_rfl) rfl (Nat.le_of_ble_eq_true rfl) (by decide) (by kernel_rfl) (by kernel_rfl) rfl (by simp) (by simp) ?_
 simp only [Try.f116]
 refine wseq ?_
 refine wreg fun K hK=>?_
 simp [C.spec_l8FormOf,mS]
 refine hK _ ?_;clear hK K
 show AWp _ _ _ _ _
 refine wseq ?_
 refine wreg fun K hK=>?_
 have hS:=hq.1.1
 simp [C.spec_l8FormOf,mS]
 refine wcall (sFactors_none (m:=m) (matok_sz hq.1) (fun l h=>hl ⟨l,h⟩)) (by simp) (by simp) (by simp) ?_
 rintro outs res ⟨_,hno,_⟩
 obtain ⟨d,hd⟩:=hq.1.2
 exact absurd hd (hno d)
theorem spec_FormOfN_c (m:Mat) (hx:m.d.length < 17592186044416) (hl:¬ ∃ l,MinSol m.n.toNat (bM m) l):ACalls Try.prog F.spec_FormOf [aM m] [] true (fun outs res=>outs=[]/\WkRs res [.one (.ow 1 (foF m).1.length (rows lO (foF m).1)),.one (D.bool (foF m).2)]):=by
 refine ACalls.of_body (C:=C.spec_FormOf) (n:=Try.f61.ntmps) tabT folT Try.func61 rfl (by kernel_rfl) rfl (Nat.le_of_ble_eq_true rfl) (by decide) (by kernel_rfl) (by kernel_rfl) rfl (by simp) (by simp) ?_
 simp only [Try.f61]
 refine wseq ?_
 refine wreg fun K hK=>?_
 simp [C.spec_FormOf,mS]
 refine hK _ ?_;clear hK K
 show AWp _ _ _ _ _
 refine wseq ?_
 refine wseq ?_
 refine wregI ([0,1] ++ ([2])) rfl fun K hK=>?_
 refine oSg fun L hL=>?_
 simp [C.spec_FormOf,mS]
 refine wcall1 (spec_l4Square_c m hx) (by simp [mS]) (by simp) ?_
 simp [C.spec_FormOf,mS]
 refine hL _ ?_;clear hL L
 refine oEn fun L hL=>?_
 simp [C.spec_FormOf,mS]
 refine hL _ ?_;clear hL L
 simp [C.spec_FormOf,mS]
 refine hK _ ?_;clear hK K
 show AWp _ _ _ _ _
 refine wcond _ rfl (fun hc1=>?_) (fun hc1=>?_)
 ·have hr:¬ SqOK m:=by simpa using hc1
  have hf:foF m=([],false):=if_neg (fun h=>hr h.1)
  refine wseq ?_
  refine wreg fun K hK=>?_
  simp [C.spec_FormOf,mS]
  refine hK _ ?_;clear hK K
  show AWp _ _ _ _ _
  refine wret ?_
  simp [C.spec_FormOf,mS,hf,rows]
 ·have hr:SqOK m:=by simpa using hc1
  refine wskip ?_
  show AWp _ _ _ _ _
  refine wseq ?_
  refine wreg fun K hK=>?_
  simp [C.spec_FormOf,mS]
  refine wcall (spec_l8FormOfN_c m hr hl) (by simp) (by simp) (by simp) ?_
  rintro outs res h
  exact h.elim
theorem spec_FormOfS_c (m:Mat) (hx:m.d.length < 17592186044416) (hm:MinSol m.n.toNat (bM m) (dsM m)):ACalls Try.prog F.spec_FormOf [aM m] [] true (fun outs res=>outs=[]/\WkRs res [.one (.ow 1 (foF m).1.length (rows lO (foF m).1)),.one (D.bool (foF m).2)]):=by
 refine ACalls.of_body (C:=C.spec_FormOf) (n:=Try.f61.ntmps) tabT folT Try.func61 rfl (by kernel_rfl) rfl (Nat.le_of_ble_eq_true rfl) (by decide) (by kernel_rfl) (by kernel_rfl) rfl (by simp) (by simp) ?_
 simp only [Try.f61]
 refine wseq ?_
 refine wreg fun K hK=>?_
 simp [C.spec_FormOf,mS]
 refine hK _ ?_;clear hK K
 show AWp _ _ _ _ _
 refine wseq ?_
 refine wseq ?_
 refine wregI ([0,1] ++ ([2])) rfl fun K hK=>?_
 refine oSg fun L hL=>?_
 simp [C.spec_FormOf,mS]
 refine wcall1 (spec_l4Square_c m hx) (by simp [mS]) (by simp) ?_
 simp [C.spec_FormOf,mS]
 refine hL _ ?_;clear hL L
 refine oEn fun L hL=>?_
 simp [C.spec_FormOf,mS]
 refine hL _ ?_;clear hL L
 simp [C.spec_FormOf,mS]
 refine hK _ ?_;clear hK K
 show AWp _ _ _ _ _
 refine wcond _ rfl (fun hc1=>?_) (fun hc1=>?_)
 ·have hr:¬ SqOK m:=by simpa using hc1
  have hf:foF m=([],false):=if_neg (fun h=>hr h.1)
  refine wseq ?_
  refine wreg fun K hK=>?_
  simp [C.spec_FormOf,mS]
  refine hK _ ?_;clear hK K
  show AWp _ _ _ _ _
  refine wret ?_
  simp [C.spec_FormOf,mS,hf,rows]
 ·have hr:SqOK m:=by simpa using hc1
  have hS:=hr.1.1
  have hi64:=foL_i64 hS hm
  have hfll:(foL m).length<=8:=by
   obtain ⟨n,hn,hrn,hn4,hL⟩:=hr.dim
   simp [foL]
   omega
  refine wskip ?_
  show AWp _ _ _ _ _
  refine wseq ?_
  refine wregI ([0,1] ++ ([2])) rfl fun K hK=>?_
  refine oSg fun L hL=>?_
  simp [C.spec_FormOf,mS]
  refine wcall1 (spec_l8FormOf_c m hr hm) (by simp) (by simp) ?_
  simp [C.spec_FormOf,mS]
  refine hL _ ?_;clear hL L
  refine oEn fun L hL=>?_
  simp [C.spec_FormOf,mS]
  refine hL _ ?_;clear hL L
  simp [C.spec_FormOf,mS]
  refine hK _ ?_;clear hK K
  show AWp _ _ _ _ _
  refine wseq ?_
  refine wseq ?_
  refine wregI ([0,1] ++ ([2])) rfl fun K hK=>?_
  refine oSg fun L hL=>?_
  simp [C.spec_FormOf,mS]
  refine wcall1 (spec_l8Form_c (foL m) (by omega) hi64) (by simp [mS]) (by simp) ?_
  simp [C.spec_FormOf,mS]
  refine hL _ ?_;clear hL L
  refine oEn fun L hL=>?_
  simp [C.spec_FormOf,mS]
  refine hL _ ?_;clear hL L
  simp [C.spec_FormOf,mS]
  refine hK _ ?_;clear hK K
  show AWp _ _ _ _ _
  refine wcond _ rfl (fun hc2=>?_) (fun hc2=>?_)
  ·have hb:¬ FormOk (foL m):=by simpa using hc2
   have hf:foF m=([],false):=if_neg (fun h=>hb h.2)
   refine wseq ?_
   refine wreg fun K hK=>?_
   simp [C.spec_FormOf,mS]
   refine hK _ ?_;clear hK K
   show AWp _ _ _ _ _
   refine wret ?_
   simp [C.spec_FormOf,mS,hf,rows]
  ·have hb:FormOk (foL m):=by simpa using hc2
   have hf:foF m=(foL m,true):=if_pos ⟨hr,hb⟩
   refine wskip ?_
   show AWp _ _ _ _ _
   refine wseq ?_
   refine wreg fun K hK=>?_
   simp [C.spec_FormOf,mS]
   refine hK _ ?_;clear hK K
   show AWp _ _ _ _ _
   refine wret ?_
   simp [C.spec_FormOf,mS,hf]
theorem spec_FormOf_c (m:Mat) (hx:m.d.length < 17592186044416):ACalls Try.prog F.spec_FormOf [aM m] [] true (fun outs res=>outs=[]/\WkRs res [.one (.ow 1 (foF m).1.length (rows lO (foF m).1)),.one (D.bool (foF m).2)]):=by
 by_cases h:∃ l,MinSol m.n.toNat (bM m) l
 ·obtain ⟨l,hl⟩:=h
  have:=dsM_eq hl
  exact spec_FormOfS_c m hx (by rw [this];exact hl)
 ·exact spec_FormOfN_c m hx h
theorem spec_l8Mutate_c (fm:List (List Int)) (m:Mat) (k:Nat) (hF:FormOk fm) (hok:MatOK m) (hr:m.r=fm.length) (hk:(k:Int) < m.n):ACalls Try.prog F.spec_l8Mutate [.d (.sh 1 fm.length (rows lS fm)),aM m,.int k] [] true (fun outs res=>outs=[]/\res=[.one (.ow 1 fm.length (rows lO (mtL fm m k fm.length)))]):=by
 have hS:=hok.1
 obtain ⟨n,hn⟩:∃ n:Nat,m.n=n:=⟨m.n.toNat,by have:=hS.1;omega⟩
 obtain ⟨N,hN⟩:∃ N:Nat,N=fm.length:=⟨_,rfl⟩
 have hN8:N<=8:=by have:=hF.1;omega
 have hkn:k < n:=by omega
 have hnN:n<=N:=by have:=hS.2.1;omega
 have hkN:k < N:=by omega
 have hkk:=mat_kk hok (k:=k) (by omega)
 have hsk:=sk_vL hF hS k
 have hrN:m.r=(N:Int):=by rw [hr,hN]
 rw [<-hN] at hsk ⊢
 refine ACalls.of_body (C:=C.spec_l8Mutate) (n:=Try.f70.ntmps) tabT folT Try.func70 rfl (by kernel_rfl) rfl (Nat.le_of_ble_eq_true rfl) (by decide) (by kernel_rfl) (by kernel_rfl) rfl (by simp) (by simp) ?_
 simp only [Try.f70]
 refine wseq ?_
 refine wreg fun K hK=>?_
 simp [C.spec_l8Mutate,mS]
 refine hK _ ?_;clear hK K
 show AWp _ _ _ _ _
 refine wseq ?_
 refine wreg fun K hK=>?_
 simp [C.spec_l8Mutate,mS]
 refine hK _ ?_;clear hK K
 show AWp _ _ _ _ _
 refine wseq ?_
 refine wreg fun K hK=>?_
 simp [C.spec_l8Mutate,mS,zeros_ints,show (8:Int)*N<=281474976710656 by omega,show (N:Int)<=281474976710656 by omega]
 refine hK _ ?_;clear hK K
 show AWp _ _ _ _ _
 refine wseq ?_
 refine wseq ?_
 refine wreg fun K hK=>?_
 simp [C.spec_l8Mutate,mS]
 refine hK _ ?_;clear hK K
 show AWp _ _ _ _ _
 refine wblock ?_
 refine wloop (fun i:Nat=>⟨ofL [(0,.d (.sh 1 N (rows lS fm))),(2,.int k),(4,.pt (4,0) [] 0),(7,.int N),(8,.al (8,0) [] 0 N),(9,.int i)],ofRO [((4,0),some (.bx [D.int n,D.int N,shI m.d])),((8,0),some (.ow 1 N (ints (tbR N fun q=>if q < i then max 0 (bM m q k) else 0))))]⟩) (fun i=>i<=N) (fun i=>N - i) 0 (by simp [C.spec_l8Mutate,tbR_zero,hn,hrN,mS]) (by simp) ?_
 intro x1 hx1 R1 hR1
 refine wseq ?_
 refine wseq ?_
 refine wreg fun K hK=>?_
 simp [C.spec_l8Mutate,mS]
 refine hK _ ?_;clear hK K
 show AWp _ _ _ _ _
 refine wcond _ rfl (fun hc1=>?_) (fun hc1=>?_)
 ·have hi:x1 < N:=by have:=d_t hc1;omega
  have hat:=spec_l1At_c m n N x1 k hn hrN hS hi hkn
  have hA1:(tbR N fun q=>if q < x1 then max 0 (bM m q k) else 0).length=N:=by simp
  have hst:=tbR_next (N:=N) (j:=x1) (fun q=>max 0 (bM m q k)) (x:=max 0 (bM m x1 k)) rfl
  obtain ⟨A,hA⟩:∃ A,A=tbR N fun q=>if q < x1 then max 0 (bM m q k) else 0:=⟨_,rfl⟩
  rw [<-hA] at hA1 hst
  rw [<-hA]
  refine wskip ?_
  show AWp _ _ _ _ _
  refine wseq ?_
  refine wblock ?_
  refine wregI ([0,1,2,3,4,5] ++ ([6,7,8])) rfl fun K hK=>?_
  refine oSg fun L hL=>?_
  simp [C.spec_l8Mutate,mS,hi,hA1,show (x1:Int) < N by omega]
  refine wcall1 (hat) (by simp) (by simp) ?_
  simp [C.spec_l8Mutate,mS,hi,hA1,show (x1:Int) < N by omega]
  refine hL _ ?_;clear hL L
  refine oEn fun L hL=>?_
  simp [C.spec_l8Mutate,mS,hi,hA1,show (x1:Int) < N by omega]
  refine hL _ ?_;clear hL L
  simp [C.spec_l8Mutate,mS,hi,hA1,show (x1:Int) < N by omega]
  refine hK _ ?_;clear hK K
  show AWp _ _ _ _ _
  refine wreg fun K hK=>?_
  simp [C.spec_l8Mutate,mS,wrap_succ (show x1 < 4611686018427387904 by omega)]
  refine hK _ ?_;clear hK K
  simp [C.spec_l8Mutate,mS]
  refine cast (congrArg R1 ?_) (hR1 (x1+1) hi (by omega))
  simp [<-hst]
 ·have hi:x1=N:=by have:=d_f hc1;omega
  rw [hi,tbR_full (fun q=>max 0 (bM m q k))]
  have hA1:(tbR N fun q=>max 0 (bM m q k)).length=N:=by simp
  have hel:=eL_len m k N
  refine wexit ?_
  show AWp _ _ _ _ _
  refine wseq ?_
  refine wreg fun K hK=>?_
  simp [C.spec_l8Mutate,mS,hkN,hA1,show (k:Int) < N by omega,eL_set hkk]
  refine hK _ ?_;clear hK K
  show AWp _ _ _ _ _
  refine wseq ?_
  refine wreg fun K hK=>?_
  simp [C.spec_l8Mutate,mS]
  refine hK _ ?_;clear hK K
  show AWp _ _ _ _ _
  refine wseq ?_
  refine wseq ?_
  refine wreg fun K hK=>?_
  simp [C.spec_l8Mutate,mS]
  refine hK _ ?_;clear hK K
  show AWp _ _ _ _ _
  refine wblock ?_
  refine wloop (fun i:Nat=>⟨ofL [(0,.d (.sh 1 N (rows lS fm))),(2,.int k),(7,.int N),(8,.al (8,0) [] 0 N),(10,.al (10,0) [] 0 i),(11,.int i)],ofRO [((8,0),some (.ow 1 N (ints (eL m k N)))),((10,0),some (.ow 1 i (rows lO ((List.range i).map fun p=>tbR N fun q=>skw fm (vL m k N p) (vL m k N q)))))]⟩) (fun i=>i<=N) (fun i=>N - i) 0 (by simp [C.spec_l8Mutate,rows]) (by simp) ?_
  intro x2 hx2 R2 hR2
  refine wseq ?_
  refine wseq ?_
  refine wreg fun K hK=>?_
  simp [C.spec_l8Mutate,mS]
  refine hK _ ?_;clear hK K
  show AWp _ _ _ _ _
  refine wcond _ rfl (fun hc2=>?_) (fun hc2=>?_)
  ·have hi2:x2 < N:=by have:=d_t hc2;omega
   refine wskip ?_
   show AWp _ _ _ _ _
   refine wseq ?_
   refine wblock ?_
   refine wseq ?_
   refine wreg fun K hK=>?_
   simp [C.spec_l8Mutate,mS]
   refine hK _ ?_;clear hK K
   show AWp _ _ _ _ _
   refine wseq ?_
   refine wseq ?_
   refine wreg fun K hK=>?_
   simp [C.spec_l8Mutate,mS]
   refine hK _ ?_;clear hK K
   show AWp _ _ _ _ _
   refine wblock ?_
   refine wloop (fun j:Nat=>⟨ofL [(0,.d (.sh 1 N (rows lS fm))),(2,.int k),(7,.int N),(8,.al (8,0) [] 0 N),(10,.al (10,0) [] 0 x2),(11,.int x2),(12,.al (12,0) [] 0 j),(13,.int j)],ofRO [((8,0),some (.ow 1 N (ints (eL m k N)))),((10,0),some (.ow 1 x2 (rows lO ((List.range x2).map fun p=>tbR N fun q=>skw fm (vL m k N p) (vL m k N q))))),((12,0),some (.ow 1 j (ints ((List.range j).map fun q=>skw fm (vL m k N x2) (vL m k N q)))))]⟩) (fun j=>j<=N) (fun j=>N - j) 0 (by simp [C.spec_l8Mutate,ints]) (by simp) ?_
   intro x3 hx3 R3 hR3
   refine wseq ?_
   refine wseq ?_
   refine wreg fun K hK=>?_
   simp [C.spec_l8Mutate,mS]
   refine hK _ ?_;clear hK K
   show AWp _ _ _ _ _
   refine wcond _ rfl (fun hc3=>?_) (fun hc3=>?_)
   ·have hj:x3 < N:=by have:=d_t hc3;omega
    have hsc:=spec_l8Skew_c fm _ _ (hsk x2 x3)
    rw [<-hN] at hsc
    have hu1:=unitL_length N x2
    have hu2:=unitL_length N x3
    obtain ⟨z,hz⟩:∃ z,z=skw fm (vL m k N x2) (vL m k N x3):=⟨_,rfl⟩
    rw [<-hz] at hsc
    refine wskip ?_
    show AWp _ _ _ _ _
    refine wseq ?_
    refine wblock ?_
    refine wseq ?_
    refine wregI ([0,1,2] ++ ([3,4,5] ++ ([6,7]))) rfl fun K hK=>?_
    refine oSg fun L hL=>?_
    simp [C.spec_l8Mutate,mS,hu1,hu2]
    refine wcall1 (spec_l3Unit_c N x2 hN8 hi2) (by simp) (by simp) ?_
    simp [C.spec_l8Mutate,mS,hu1,hu2]
    refine hL _ ?_;clear hL L
    refine oSg fun L hL=>?_
    simp [C.spec_l8Mutate,mS,hu1,hu2]
    refine wcall1 (spec_l3Unit_c N x3 hN8 hj) (by simp) (by simp) ?_
    simp [C.spec_l8Mutate,mS,hu1,hu2]
    refine hL _ ?_;clear hL L
    refine oEn fun L hL=>?_
    simp [C.spec_l8Mutate,mS,hu1,hu2]
    refine hL _ ?_;clear hL L
    simp [C.spec_l8Mutate,mS,hu1,hu2]
    refine hK _ ?_;clear hK K
    show AWp _ _ _ _ _
    refine wseq ?_
    refine wseq ?_
    refine wreg fun K hK=>?_
    simp [C.spec_l8Mutate,mS,hu1,hu2]
    refine hK _ ?_;clear hK K
    show AWp _ _ _ _ _
    refine wcond _ rfl (fun hc4=>?_) (fun hc4=>?_)
    ·have e1:x2=k:=by have:=hc4;simp at this;omega
     refine wreg fun K hK=>?_
     simp [C.spec_l8Mutate,mS,hu1,hu2]
     refine hK _ ?_;clear hK K
     show AWp _ _ _ _ _
     refine wseq ?_
     refine wseq ?_
     refine wreg fun K hK=>?_
     simp [C.spec_l8Mutate,mS,hu1,hu2]
     refine hK _ ?_;clear hK K
     show AWp _ _ _ _ _
     refine wcond _ rfl (fun hc5=>?_) (fun hc5=>?_)
     ·have e2:x3=k:=by have:=hc5;simp at this;omega
      have hsc2:ACalls Try.prog F.spec_l8Skew [.d (.sh 1 N (rows lS fm)),.d (shI (eL m k N)),.d (shI (eL m k N))] [] true (fun outs res=>outs=[]/\res=[.one (D.int z)]):=by rw [e1,e2,vL_k] at hsc;exact hsc
      refine wreg fun K hK=>?_
      simp [C.spec_l8Mutate,mS,hu1,hu2]
      refine hK _ ?_;clear hK K
      show AWp _ _ _ _ _
      refine wregI ([0,1,2,3,4] ++ ([5,6,7])) rfl fun K hK=>?_
      refine oSg fun L hL=>?_
      simp [C.spec_l8Mutate,mS,hel,ints_snocA,show (x3+1)*8<=140737488355328 by omega]
      refine wcall1 (hsc2) (by simp [mS,hel,ints_snocA,show (x3+1)*8<=140737488355328 by omega]) (by simp) ?_
      simp [C.spec_l8Mutate,mS,hel,ints_snocA,show (x3+1)*8<=140737488355328 by omega]
      refine hL _ ?_;clear hL L
      refine oEn fun L hL=>?_
      simp [C.spec_l8Mutate,mS,hel,ints_snocA,show (x3+1)*8<=140737488355328 by omega]
      refine hL _ ?_;clear hL L
      simp [C.spec_l8Mutate,mS,hel,ints_snocA,show (x3+1)*8<=140737488355328 by omega]
      refine hK _ ?_;clear hK K
      show AWp _ _ _ _ _
      refine wreg fun K hK=>?_
      simp [C.spec_l8Mutate,mS,wrap_succ (show x3 < 4611686018427387904 by omega)]
      refine hK _ ?_;clear hK K
      simp [C.spec_l8Mutate,mS]
      refine cast (congrArg R3 ?_) (hR3 (x3+1) hj (by omega))
      simp [List.range_succ,<-hz]
     ·have e2:¬ x3=k:=by have:=hc5;simp at this;omega
      have hsc2:ACalls Try.prog F.spec_l8Skew [.d (.sh 1 N (rows lS fm)),.d (shI (eL m k N)),.d (shI (unitL N x3))] [] true (fun outs res=>outs=[]/\res=[.one (D.int z)]):=by rw [e1,vL_k,vL_u e2] at hsc;exact hsc
      refine wskip ?_
      show AWp _ _ _ _ _
      refine wregI ([0,1,2,3,4] ++ ([5,6,7])) rfl fun K hK=>?_
      refine oSg fun L hL=>?_
      simp [C.spec_l8Mutate,mS,hel,hu2,ints_snocA,show (x3+1)*8<=140737488355328 by omega]
      refine wcall1 (hsc2) (by simp [mS,hel,hu2,ints_snocA,show (x3+1)*8<=140737488355328 by omega]) (by simp) ?_
      simp [C.spec_l8Mutate,mS,hel,hu2,ints_snocA,show (x3+1)*8<=140737488355328 by omega]
      refine hL _ ?_;clear hL L
      refine oEn fun L hL=>?_
      simp [C.spec_l8Mutate,mS,hel,hu2,ints_snocA,show (x3+1)*8<=140737488355328 by omega]
      refine hL _ ?_;clear hL L
      simp [C.spec_l8Mutate,mS,hel,hu2,ints_snocA,show (x3+1)*8<=140737488355328 by omega]
      refine hK _ ?_;clear hK K
      show AWp _ _ _ _ _
      refine wreg fun K hK=>?_
      simp [C.spec_l8Mutate,mS,wrap_succ (show x3 < 4611686018427387904 by omega)]
      refine hK _ ?_;clear hK K
      simp [C.spec_l8Mutate,mS]
      refine cast (congrArg R3 ?_) (hR3 (x3+1) hj (by omega))
      simp [List.range_succ,<-hz]
    ·have e1:¬ x2=k:=by have:=hc4;simp at this;omega
     refine wskip ?_
     show AWp _ _ _ _ _
     refine wseq ?_
     refine wseq ?_
     refine wreg fun K hK=>?_
     simp [C.spec_l8Mutate,mS,hu1,hu2]
     refine hK _ ?_;clear hK K
     show AWp _ _ _ _ _
     refine wcond _ rfl (fun hc6=>?_) (fun hc6=>?_)
     ·have e2:x3=k:=by have:=hc6;simp at this;omega
      have hsc2:ACalls Try.prog F.spec_l8Skew [.d (.sh 1 N (rows lS fm)),.d (shI (unitL N x2)),.d (shI (eL m k N))] [] true (fun outs res=>outs=[]/\res=[.one (D.int z)]):=by rw [e2,vL_k,vL_u e1] at hsc;exact hsc
      refine wreg fun K hK=>?_
      simp [C.spec_l8Mutate,mS,hu1,hu2]
      refine hK _ ?_;clear hK K
      show AWp _ _ _ _ _
      refine wregI ([0,1,2,3,4] ++ ([5,6,7])) rfl fun K hK=>?_
      refine oSg fun L hL=>?_
      simp [C.spec_l8Mutate,mS,hel,hu1,ints_snocA,show (x3+1)*8<=140737488355328 by omega]
      refine wcall1 (hsc2) (by simp [mS,hel,hu1,ints_snocA,show (x3+1)*8<=140737488355328 by omega]) (by simp) ?_
      simp [C.spec_l8Mutate,mS,hel,hu1,ints_snocA,show (x3+1)*8<=140737488355328 by omega]
      refine hL _ ?_;clear hL L
      refine oEn fun L hL=>?_
      simp [C.spec_l8Mutate,mS,hel,hu1,ints_snocA,show (x3+1)*8<=140737488355328 by omega]
      refine hL _ ?_;clear hL L
      simp [C.spec_l8Mutate,mS,hel,hu1,ints_snocA,show (x3+1)*8<=140737488355328 by omega]
      refine hK _ ?_;clear hK K
      show AWp _ _ _ _ _
      refine wreg fun K hK=>?_
      simp [C.spec_l8Mutate,mS,wrap_succ (show x3 < 4611686018427387904 by omega)]
      refine hK _ ?_;clear hK K
      simp [C.spec_l8Mutate,mS]
      refine cast (congrArg R3 ?_) (hR3 (x3+1) hj (by omega))
      simp [List.range_succ,<-hz]
     ·have e2:¬ x3=k:=by have:=hc6;simp at this;omega
      have hsc2:ACalls Try.prog F.spec_l8Skew [.d (.sh 1 N (rows lS fm)),.d (shI (unitL N x2)),.d (shI (unitL N x3))] [] true (fun outs res=>outs=[]/\res=[.one (D.int z)]):=by rw [vL_u e1,vL_u e2] at hsc;exact hsc
      refine wskip ?_
      show AWp _ _ _ _ _
      refine wregI ([0,1,2,3,4] ++ ([5,6,7])) rfl fun K hK=>?_
      refine oSg fun L hL=>?_
      simp [C.spec_l8Mutate,mS,hu1,hu2,ints_snocA,show (x3+1)*8<=140737488355328 by omega]
      refine wcall1 (hsc2) (by simp [mS,hu1,hu2,ints_snocA,show (x3+1)*8<=140737488355328 by omega]) (by simp) ?_
      simp [C.spec_l8Mutate,mS,hu1,hu2,ints_snocA,show (x3+1)*8<=140737488355328 by omega]
      refine hL _ ?_;clear hL L
      refine oEn fun L hL=>?_
      simp [C.spec_l8Mutate,mS,hu1,hu2,ints_snocA,show (x3+1)*8<=140737488355328 by omega]
      refine hL _ ?_;clear hL L
      simp [C.spec_l8Mutate,mS,hu1,hu2,ints_snocA,show (x3+1)*8<=140737488355328 by omega]
      refine hK _ ?_;clear hK K
      show AWp _ _ _ _ _
      refine wreg fun K hK=>?_
      simp [C.spec_l8Mutate,mS,wrap_succ (show x3 < 4611686018427387904 by omega)]
      refine hK _ ?_;clear hK K
      simp [C.spec_l8Mutate,mS]
      refine cast (congrArg R3 ?_) (hR3 (x3+1) hj (by omega))
      simp [List.range_succ,<-hz]
   ·have hj:x3=N:=by have:=d_f hc3;omega
    have hrl:((List.range N).map fun q=>skw fm (vL m k N x2) (vL m k N q)).length=N:=by simp
    rw [hj]
    refine wexit ?_
    show AWp _ _ _ _ _
    refine wreg fun K hK=>?_
    simp [C.spec_l8Mutate,mS,lO_snocN _ hrl,show (x2+1)*24<=140737488355328 by omega]
    refine hK _ ?_;clear hK K
    show AWp _ _ _ _ _
    refine wreg fun K hK=>?_
    simp [C.spec_l8Mutate,mS,wrap_succ (show x2 < 4611686018427387904 by omega)]
    refine hK _ ?_;clear hK K
    simp [C.spec_l8Mutate,mS]
    refine cast (congrArg R2 ?_) (hR2 (x2+1) hi2 (by omega))
    simp [List.range_succ,tbR]
  ·have hi2:x2=N:=by have:=d_f hc2;omega
   refine wexit ?_
   show AWp _ _ _ _ _
   refine wseq ?_
   refine wreg fun K hK=>?_
   simp [C.spec_l8Mutate,mS]
   refine hK _ ?_;clear hK K
   show AWp _ _ _ _ _
   refine wret ?_
   simp [C.spec_l8Mutate,mS,hi2,mtL,tbL]
end Go.Proofs.Ytfcgcgmleogamaa.Ab
namespace Go.Proofs.Ytfcgcgmleogamaa.Ab
open Go
set_option maxRecDepth 10000
set_option maxHeartbeats 4000000
theorem mtL_len (fm:List (List Int)) (m:Mat) (k N:Nat):(mtL fm m k N).length=N:=by simp [mtL]
def MfOk (fm:List (List Int)) (m:Mat) (k:Int):Prop:=FormOk fm/\MatOK m/\m.r=fm.length/\(0<=k/\k < m.n)
noncomputable instance (fm:List (List Int)) (m:Mat) (k:Int):Decidable (MfOk fm m k):=Classical.propDecidable _
theorem mfF_no {fm:List (List Int)} {m:Mat} {k:Int} (h:¬ MfOk fm m k):mfF fm m k=([],false):=if_neg (fun c=>h ⟨c.1,c.2.1,c.2.2.1,c.2.2.2.1⟩)
theorem mfF_yes {fm:List (List Int)} {m:Mat} {k:Nat} (h:MfOk fm m k):mfF fm m k=if FormOk (mtL fm m k fm.length) then (mtL fm m k fm.length,true) else ([],false):=by
 obtain ⟨h1,h2,h3,h4⟩:=h
 unfold mfF
 rw [Int.toNat_natCast]
 by_cases q:FormOk (mtL fm m k fm.length)
 ·rw [if_pos ⟨h1,h2,h3,h4,q⟩,if_pos q]
 ·rw [if_neg (fun c=>q c.2.2.2.2),if_neg q]
theorem spec_MutateForm_c (fm:List (List Int)) (m:Mat) (k:Int) (h0:fm.length < 4611686018427387904) (hI:I64 fm) (hx:m.d.length < 17592186044416):ACalls Try.prog F.spec_MutateForm [.d (.sh 1 fm.length (rows lS fm)),aM m,.int k] [] true (fun outs res=>outs=[]/\WkRs res [.one (.ow 1 (mfF fm m k).1.length (rows lO (mfF fm m k).1)),.one (D.bool (mfF fm m k).2)]):=by
 refine ACalls.of_body (C:=C.spec_MutateForm) (n:=Try.f21.ntmps) tabT folT Try.func21 rfl (by kernel_rfl) rfl (Nat.le_of_ble_eq_true rfl) (by decide) (by kernel_rfl) (by kernel_rfl) rfl (by simp) (by simp) ?_
 simp only [Try.f21]
 refine wseq ?_
 refine wreg fun K hK=>?_
 simp [C.spec_MutateForm,mS]
 refine hK _ ?_;clear hK K
 show AWp _ _ _ _ _
 refine wseq ?_
 refine wseq ?_
 refine wregI ([0,1] ++ ([2,3,4,5] ++ ([6,7,8,9,10,11,12,13,14,15,16,17,18,19,20] ++ ([21,22])))) rfl fun K hK=>?_
 have hJ:K ⟨ofL [(0,.d (.sh 1 fm.length (rows lS fm))),(2,.int k),(4,.pt (4,0) [] 0),(31,.bool (!decide (MfOk fm m k)))],ofRO [((4,0),some (.bx (mS m)))]⟩:=by
  refine hK _ ?_;clear hK K
  show AWp _ _ _ _ _
  refine wcond _ rfl (fun hc1=>?_) (fun hc1=>?_)
  ·have hr:=nd_t hc1
   have hf:=mfF_no hr
   refine wseq ?_
   refine wreg fun K hK=>?_
   simp [C.spec_MutateForm,mS]
   refine hK _ ?_;clear hK K
   show AWp _ _ _ _ _
   refine wret ?_
   simp [C.spec_MutateForm,mS,hf,rows]
  ·have hr:=nd_f hc1
   obtain ⟨k,rfl⟩:∃ j:Nat,k=j:=⟨k.toNat,by have:=hr.2.2.2;omega⟩
   have hf:=mfF_yes hr
   have hi:=mtL_i64 hr.1 hr.2.1.1 k
   have hml:=mtL_len fm m k fm.length
   have hn8:fm.length<=8:=by have:=hr.1.1;omega
   have hif:=spec_l8Form_c (mtL fm m k fm.length) (by omega) hi
   rw [hml] at hif
   refine wskip ?_
   show AWp _ _ _ _ _
   refine wseq ?_
   refine wregI ([0,1,2,3] ++ ([4])) rfl fun K hK=>?_
   refine oSg fun L hL=>?_
   simp [C.spec_MutateForm,mS]
   refine wcall1 (spec_l8Mutate_c fm m k hr.1 hr.2.1 hr.2.2.1 hr.2.2.2.2) (by simp) (by simp) ?_
   simp [C.spec_MutateForm,mS]
   refine hL _ ?_;clear hL L
   refine oEn fun L hL=>?_
   simp [C.spec_MutateForm,mS]
   refine hL _ ?_;clear hL L
   simp [C.spec_MutateForm,mS]
   refine hK _ ?_;clear hK K
   show AWp _ _ _ _ _
   refine wseq ?_
   refine wseq ?_
   refine wregI ([0,1] ++ ([2])) rfl fun K hK=>?_
   refine oSg fun L hL=>?_
   simp [C.spec_MutateForm,mS]
   refine wcall1 (hif) (by simp [mS]) (by simp) ?_
   simp [C.spec_MutateForm,mS]
   refine hL _ ?_;clear hL L
   refine oEn fun L hL=>?_
   simp [C.spec_MutateForm,mS]
   refine hL _ ?_;clear hL L
   simp [C.spec_MutateForm,mS]
   refine hK _ ?_;clear hK K
   show AWp _ _ _ _ _
   refine wcond _ rfl (fun hc2=>?_) (fun hc2=>?_)
   ·have hb:¬ FormOk (mtL fm m k fm.length):=by simpa using hc2
    rw [if_neg hb] at hf
    refine wseq ?_
    refine wreg fun K hK=>?_
    simp [C.spec_MutateForm,mS]
    refine hK _ ?_;clear hK K
    show AWp _ _ _ _ _
    refine wret ?_
    simp [C.spec_MutateForm,mS,hf,rows]
   ·have hb:FormOk (mtL fm m k fm.length):=by simpa using hc2
    rw [if_pos hb] at hf
    refine wskip ?_
    show AWp _ _ _ _ _
    refine wseq ?_
    refine wreg fun K hK=>?_
    simp [C.spec_MutateForm,mS]
    refine hK _ ?_;clear hK K
    show AWp _ _ _ _ _
    refine wret ?_
    simp [C.spec_MutateForm,mS,hf,hml]
 clear hK
 by_cases h1:FormOk fm
 ·by_cases h2:MatOK m
  ·by_cases h3:m.r=fm.length
   ·have hwn:IntKind.i64.wrap (m.n - 1)=m.n - 1:=by have:=h2.1.1;exact wrapOk (by omega) (by omega)
    have hle:∀ x:Int,(x<=m.n - 1)=(x < m.n):=fun x=>by rw [eq_iff_iff];omega
    refine oSg fun L hL=>?_
    simp [C.spec_MutateForm,mS,hwn,hle,h3,h1,h2,h3]
    refine wcall1 (spec_l8Form_c fm h0 hI) (by simp) (by simp) ?_
    simp [C.spec_MutateForm,mS,hwn,hle,h3,h1,h2,h3]
    refine hL _ ?_;clear hL L
    refine oSg fun L hL=>?_
    simp [C.spec_MutateForm,mS,hwn,hle,h3,h1,h2,h3]
    refine wcall1 (spec_MatrixOk_c m hx) (by simp [mS,hwn,hle,h3]) (by simp) ?_
    simp [C.spec_MutateForm,mS,hwn,hle,h3,h1,h2,h3]
    refine hL _ ?_;clear hL L
    refine oSg fun L hL=>?_
    simp [C.spec_MutateForm,mS,hwn,hle,h3,h1,h2,h3]
    refine wcall1 (spec_l1In_c k 0 (m.n - 1)) (by simp) (by simp) ?_
    simp [C.spec_MutateForm,mS,hwn,hle,h3,h1,h2,h3]
    refine hL _ ?_;clear hL L
    refine oEn fun L hL=>?_
    simp [C.spec_MutateForm,mS,hwn,hle,h3,h1,h2,h3]
    refine hL _ ?_;clear hL L
    simp [C.spec_MutateForm,mS,hwn,hle,h3,h1,h2,h3]
    refine cast (congrArg K ?_) hJ
    simp [MfOk,mS,ibne,mS,h1,h2,h3]
   ·refine oSg fun L hL=>?_
    simp [C.spec_MutateForm,mS,h1,h2,h3]
    refine wcall1 (spec_l8Form_c fm h0 hI) (by simp) (by simp) ?_
    simp [C.spec_MutateForm,mS,h1,h2,h3]
    refine hL _ ?_;clear hL L
    refine oSg fun L hL=>?_
    simp [C.spec_MutateForm,mS,h1,h2,h3]
    refine wcall1 (spec_MatrixOk_c m hx) (by simp) (by simp) ?_
    simp [C.spec_MutateForm,mS,h1,h2,h3]
    refine hL _ ?_;clear hL L
    refine oSg fun L hL=>?_
    simp [C.spec_MutateForm,mS,h1,h2,h3]
    refine hL _ ?_;clear hL L
    refine oEn fun L hL=>?_
    simp [C.spec_MutateForm,mS,h1,h2,h3]
    refine hL _ ?_;clear hL L
    simp [C.spec_MutateForm,mS,h1,h2,h3]
    refine cast (congrArg K ?_) hJ
    simp [MfOk,mS,ibne,mS,h1,h2,h3]
  ·refine oSg fun L hL=>?_
   simp [C.spec_MutateForm,mS,h1,h2]
   refine wcall1 (spec_l8Form_c fm h0 hI) (by simp) (by simp) ?_
   simp [C.spec_MutateForm,mS,h1,h2]
   refine hL _ ?_;clear hL L
   refine oSg fun L hL=>?_
   simp [C.spec_MutateForm,mS,h1,h2]
   refine wcall1 (spec_MatrixOk_c m hx) (by simp) (by simp) ?_
   simp [C.spec_MutateForm,mS,h1,h2]
   refine hL _ ?_;clear hL L
   refine oSg fun L hL=>?_
   simp [C.spec_MutateForm,mS,h1,h2]
   refine hL _ ?_;clear hL L
   refine oEn fun L hL=>?_
   simp [C.spec_MutateForm,mS,h1,h2]
   refine hL _ ?_;clear hL L
   simp [C.spec_MutateForm,mS,h1,h2]
   refine cast (congrArg K ?_) hJ
   simp [MfOk,mS,ibne,mS,h1,h2]
 ·refine oSg fun L hL=>?_
  simp [C.spec_MutateForm,mS,h1]
  refine wcall1 (spec_l8Form_c fm h0 hI) (by simp) (by simp) ?_
  simp [C.spec_MutateForm,mS,h1]
  refine hL _ ?_;clear hL L
  refine oSg fun L hL=>?_
  simp [C.spec_MutateForm,mS,h1]
  refine hL _ ?_;clear hL L
  refine oSg fun L hL=>?_
  simp [C.spec_MutateForm,mS,h1]
  refine hL _ ?_;clear hL L
  refine oEn fun L hL=>?_
  simp [C.spec_MutateForm,mS,h1]
  refine hL _ ?_;clear hL L
  simp [C.spec_MutateForm,mS,h1]
  refine cast (congrArg K ?_) hJ
  simp [MfOk,mS,ibne,mS,h1]
theorem impl_MutateForm_c (fm:List (List Int)) (m:Mat) (k:Int) (h0:fm.length < 4611686018427387904) (hI:I64 fm) (hx:m.d.length < 17592186044416):ACalls Try.prog F.impl_MutateForm [.d (.sh 1 fm.length (rows lS fm)),aM m,.int k] [] true (fun outs res=>outs=[]/\WkRs res [.one (.ow 1 (mfF fm m k).1.length (rows lO (mfF fm m k).1)),.one (D.bool (mfF fm m k).2)]):=by
 refine ACalls.of_body (C:=C.impl_MutateForm) (n:=Try.f19.ntmps) tabT folT Try.func19 rfl (by kernel_rfl) rfl (Nat.le_of_ble_eq_true rfl) (by decide) (by kernel_rfl) (by kernel_rfl) rfl (by simp) (by simp) ?_
 simp only [Try.f19]
 refine wseq ?_
 refine wreg fun K hK=>?_
 simp [C.impl_MutateForm,mS]
 refine hK _ ?_;clear hK K
 show AWp _ _ _ _ _
 refine wseq ?_
 refine wseq ?_
 refine wregI ([0,1] ++ ([2,3,4,5] ++ ([6,7,8,9,10,11,12,13,14,15,16,17,18,19,20] ++ ([21,22])))) rfl fun K hK=>?_
 have hJ:K ⟨ofL [(0,.d (.sh 1 fm.length (rows lS fm))),(2,.int k),(4,.pt (4,0) [] 0),(41,.bool (!decide (MfOk fm m k)))],ofRO [((4,0),some (.bx (mS m)))]⟩:=by
  refine hK _ ?_;clear hK K
  show AWp _ _ _ _ _
  refine wcond _ rfl (fun hc1=>?_) (fun hc1=>?_)
  ·have hr:=nd_t hc1
   have hf:=mfF_no hr
   refine wseq ?_
   refine wreg fun K hK=>?_
   simp [C.impl_MutateForm,mS]
   refine hK _ ?_;clear hK K
   show AWp _ _ _ _ _
   refine wret ?_
   simp [C.impl_MutateForm,mS,hf,rows]
  ·have hr:=nd_f hc1
   obtain ⟨k,rfl⟩:∃ j:Nat,k=j:=⟨k.toNat,by have:=hr.2.2.2;omega⟩
   have hf:=mfF_yes hr
   have hi:=mtL_i64 hr.1 hr.2.1.1 k
   have hml:=mtL_len fm m k fm.length
   have hn8:fm.length<=8:=by have:=hr.1.1;omega
   have hS:=hr.2.1.1
   obtain ⟨n,hn⟩:∃ n:Nat,m.n=n:=⟨m.n.toNat,by have:=hS.1;omega⟩
   have hkn:k < n:=by have:=hr.2.2.2;omega
   obtain ⟨N,hN⟩:∃ N:Nat,N=fm.length:=⟨_,rfl⟩
   have hrN:m.r=(N:Int):=by rw [hr.2.2.1,hN]
   have hnN:n<=N:=by have:=hS.2.1;omega
   have hkN:k < N:=by omega
   have hsk:=sk_vL hr.1 hS k
   have hif:=impl_IsForm_c (mtL fm m k fm.length) (by omega) hi
   rw [<-hN] at hsk hml hf hn8 hif ⊢
   rw [hml] at hif
   refine wskip ?_
   show AWp _ _ _ _ _
   refine wseq ?_
   refine wreg fun K hK=>?_
   simp [C.impl_MutateForm,mS]
   refine hK _ ?_;clear hK K
   show AWp _ _ _ _ _
   refine wseq ?_
   refine wreg fun K hK=>?_
   simp [C.impl_MutateForm,mS]
   refine hK _ ?_;clear hK K
   show AWp _ _ _ _ _
   refine wseq ?_
   refine wseq ?_
   refine wreg fun K hK=>?_
   simp [C.impl_MutateForm,mS]
   refine hK _ ?_;clear hK K
   show AWp _ _ _ _ _
   refine wblock ?_
   refine wloopW (fun i:Nat=>⟨ofL [(0,.d (.sh 1 N (rows lS fm))),(2,.int k),(4,.pt (4,0) [] 0),(8,.int N),(9,.al (9,0) [] 0 i),(10,.int i)],ofRO [((4,0),some (.bx [D.int n,D.int N,shI m.d])),((9,0),some (.ow 1 i (rows lO ((List.range i).map (vL m k N)))))]⟩) (fun i=>i<=N) (fun i=>N - i) 0 [.tmp 9 1] (by simp [C.impl_MutateForm,rows,hn,hrN,mS];(first | (constructor <;> funext t) | funext t) <;> simp only [ofL,ofRO] <;> (repeat' (first | rfl | split)) <;> (first | (simp_all;done) | (simp_all <;> (first | omega | (intro e;exact absurd e.symm (by assumption)) | (subst_vars;simp))))) (by simp) ?_
   intro x1 hx1 R1 hR1
   refine wseq ?_
   refine wseq ?_
   refine wreg fun K hK=>?_
   simp [C.impl_MutateForm,mS]
   refine hK _ ?_;clear hK K
   show AWp _ _ _ _ _
   refine wcond _ rfl (fun hc2=>?_) (fun hc2=>?_)
   ·have hi1:x1 < N:=by have:=d_t hc2;omega
    have hu1:=unitL_length N x1
    refine wskip ?_
    show AWp _ _ _ _ _
    refine wseq ?_
    refine wblock ?_
    refine wseq ?_
    refine wregI ([0,1,2] ++ ([3])) rfl fun K hK=>?_
    refine oSg fun L hL=>?_
    simp [C.impl_MutateForm,mS,hu1]
    refine wcall1 (impl_unit_c N x1 hn8 hi1) (by simp) (by simp) ?_
    simp [C.impl_MutateForm,mS,hu1]
    refine hL _ ?_;clear hL L
    refine oEn fun L hL=>?_
    simp [C.impl_MutateForm,mS,hu1]
    refine hL _ ?_;clear hL L
    simp [C.impl_MutateForm,mS,hu1]
    refine hK _ ?_;clear hK K
    show AWp _ _ _ _ _
    refine wseq ?_
    refine wseq ?_
    refine wreg fun K hK=>?_
    simp [C.impl_MutateForm,mS,hu1]
    refine hK _ ?_;clear hK K
    show AWp _ _ _ _ _
    refine wcond _ rfl (fun hc3=>?_) (fun hc3=>?_)
    ·have e1:x1=k:=by have:=hc3;simp at this;omega
     have hes:(unitL N x1).set k (-1)=eS m k N 0:=by rw [e1];exact eS_0 m
     refine wseq ?_
     refine wreg fun K hK=>?_
     simp [C.impl_MutateForm,mS,hu1,hkN,show (k:Int) < N by omega,hes]
     refine hK _ ?_;clear hK K
     show AWp _ _ _ _ _
     refine wseq ?_
     refine wreg fun K hK=>?_
     simp [C.impl_MutateForm,mS]
     refine hK _ ?_;clear hK K
     show AWp _ _ _ _ _
     refine wblock ?_
     refine wloop (fun r:Nat=>⟨ofL [(0,.d (.sh 1 N (rows lS fm))),(2,.int k),(4,.pt (4,0) [] 0),(8,.int N),(9,.al (9,0) [] 0 x1),(10,.int x1),(11,.al (11,0) [] 0 N),(12,.int r)],ofRO [((4,0),some (.bx [D.int n,D.int N,shI m.d])),((9,0),some (.ow 1 x1 (rows lO ((List.range x1).map (vL m k N))))),((11,0),some (.ow 1 N (ints (eS m k N r))))]⟩) (fun r=>r<=N) (fun r=>N - r) 0 (by simp [C.impl_MutateForm,eS_len]) (by simp) ?_
     intro x2 hx2 R2 hR2
     refine wseq ?_
     refine wseq ?_
     refine wreg fun K hK=>?_
     simp [C.impl_MutateForm,mS]
     refine hK _ ?_;clear hK K
     show AWp _ _ _ _ _
     refine wcond _ rfl (fun hc4=>?_) (fun hc4=>?_)
     ·have hj:x2 < N:=by have:=d_t hc4;omega
      have hat:=at_c hn hS (show (x2:Int) < m.r by omega) hkn
      rw [hrN] at hat
      have hbb:=bM_bd hS x2 k
      have hgt:=eS_get m (k:=k) hj
      have hst:=eS_step (m:=m) (k:=k) (N:=N) (r:=x2) rfl
      have hel:=eS_len m k N x2
      obtain ⟨A,hA⟩:∃ A,A=eS m k N x2:=⟨_,rfl⟩
      obtain ⟨c,hc⟩:∃ c,c=bM m x2 k:=⟨_,rfl⟩
      rw [<-hc] at hat hbb hst
      have hj2:x2 < A.length:=by rw [hA,hel];exact hj
      have hgt2:A[x2]=if x2=k then -1 else 0:=by simp only [hA];exact hgt
      rw [<-hA] at hst hel
      rw [<-hA]
      obtain ⟨w,hw⟩:∃ w,w=(if x2=k then -1 else 0)+max 0 c:=⟨_,rfl⟩
      rw [<-hw] at hst
      have hwz:IntKind.i64.wrap (A[x2]+max 0 c)=w:=by
       rw [hgt2,hw]
       exact wrapOk (by split <;> omega) (by split <;> omega)
      refine wskip ?_
      show AWp _ _ _ _ _
      refine wseq ?_
      refine wblock ?_
      refine wdrawI [(true,0),(true,1),(true,2),(true,3),(true,4),(true,5),(true,6),(false,7),(true,8),(true,9),(true,10),(false,11)] ⟨by kernel_rfl,by kernel_rfl⟩ ([0,1,2,3,4,5,6,7] ++ ([8,9,10,11])) rfl fun K hK=>?_
      have hJ:K ⟨ofL [(0,.d (.sh 1 N (rows lS fm))),(2,.int k),(4,.pt (4,0) [] 0),(8,.int N),(9,.al (9,0) [] 0 x1),(10,.int x1),(11,.al (11,0) [] 0 N),(12,.int x2)],ofRO [((4,0),some (.bx [D.int n,D.int N,shI m.d])),((9,0),some (.ow 1 x1 (rows lO ((List.range x1).map (vL m k N))))),((11,0),some (.ow 1 N (ints (eS m k N (x2+1)))))]⟩:=by
       refine hK _ ?_;clear hK K
       show AWp _ _ _ _ _
       refine wreg fun K hK=>?_
       simp [C.impl_MutateForm,mS,wrap_succ (show x2 < 4611686018427387904 by omega)]
       refine hK _ ?_;clear hK K
       simp [C.impl_MutateForm,mS]
       exact hR2 (x2+1) hj (by omega)
      clear hK
      simp [C.impl_MutateForm,get_ints,hel,hj,hj2,hwz,show (x2:Int) < N by omega]
      repeat' first
       | (refine wcall1 (hat) ?_ (by simp) ?_;(focus (simp;done));simp [C.impl_MutateForm,get_ints,hel,hj,hj2,hwz,show (x2:Int) < N by omega])
       | (refine cast (congrArg K ?_) hJ;simp [hst];done)
       | refine And.intro ?_ ?_
     ·have hj:x2=N:=by have:=d_f hc4;omega
      have hvk:eS m k N N=vL m k N x1:=by rw [eS_N,e1,vL_k]
      have hvl:=vL_len m k N x1
      rw [hj,hvk]
      refine wexit ?_
      show AWp _ _ _ _ _
      refine wreg fun K hK=>?_
      simp [C.impl_MutateForm,mS,lO_snocN _ hvl,show (x1+1)*24<=140737488355328 by omega]
      refine hK _ ?_;clear hK K
      show AWp _ _ _ _ _
      refine wreg fun K hK=>?_
      simp [C.impl_MutateForm,mS,wrap_succ (show x1 < 4611686018427387904 by omega)]
      refine hK _ ?_;clear hK K
      simp [C.impl_MutateForm,mS]
      refine cast (congrArg R1 ?_) (hR1 (x1+1) hi1 (by omega))
      simp [List.range_succ]
    ·have e1:¬ x1=k:=by have:=hc3;simp at this;omega
     have hvk:unitL N x1=vL m k N x1:=(vL_u e1).symm
     have hvl:=vL_len m k N x1
     rw [hvk]
     refine wskip ?_
     show AWp _ _ _ _ _
     refine wreg fun K hK=>?_
     simp [C.impl_MutateForm,mS,lO_snocN _ hvl,show (x1+1)*24<=140737488355328 by omega]
     refine hK _ ?_;clear hK K
     show AWp _ _ _ _ _
     refine wreg fun K hK=>?_
     simp [C.impl_MutateForm,mS,wrap_succ (show x1 < 4611686018427387904 by omega)]
     refine hK _ ?_;clear hK K
     simp [C.impl_MutateForm,mS]
     refine cast (congrArg R1 ?_) (hR1 (x1+1) hi1 (by omega))
     simp [List.range_succ]
   ·have hi1:x1=N:=by have:=d_f hc2;omega
    rw [hi1]
    obtain ⟨V,hV⟩:∃ V,V=(List.range N).map (vL m k N):=⟨_,rfl⟩
    have hVl:V.length=N:=by rw [hV];simp
    have hVg:∀ i (h:i < V.length),V[i]=vL m k N i:=fun i h=>by simp [hV]
    have hvl:∀ i,(vL m k N i).length=N:=fun i=>vL_len m k N i
    rw [<-hV]
    refine wexit ?_
    show AWp _ _ _ _ _
    refine wseq ?_
    refine wreg fun K hK=>?_
    simp [C.impl_MutateForm,mS]
    refine hK _ ?_;clear hK K
    show AWp _ _ _ _ _
    refine wseq ?_
    refine wseq ?_
    refine wreg fun K hK=>?_
    simp [C.impl_MutateForm,mS]
    refine hK _ ?_;clear hK K
    show AWp _ _ _ _ _
    refine wblock ?_
    refine wloopW (fun i:Nat=>⟨ofL [(0,.d (.sh 1 N (rows lS fm))),(9,.al (9,0) [] 0 N),(13,.al (13,0) [] 0 i),(78,.al (9,0) [] 0 N),(79,.int N),(80,.int i)],ofRO [((9,0),some (.ow 1 N (rows lO V))),((13,0),some (.ow 1 i (rows lO ((List.range i).map fun p=>tbR N fun q=>skw fm (vL m k N p) (vL m k N q)))))]⟩) (fun i=>i<=N) (fun i=>N - i) 0 [.tmp 13 1] (by simp [C.impl_MutateForm,rows];(first | (constructor <;> funext t) | funext t) <;> simp only [ofL,ofRO] <;> (repeat' (first | rfl | split)) <;> (first | (simp_all;done) | (simp_all <;> (first | omega | (intro e;exact absurd e.symm (by assumption)) | (subst_vars;simp))))) (by simp) ?_
    intro x3 hx3 R3 hR3
    refine wseq ?_
    refine wreg fun K hK=>?_
    simp [C.impl_MutateForm,mS]
    refine hK _ ?_;clear hK K
    show AWp _ _ _ _ _
    refine wseq ?_
    refine wcond _ rfl (fun hc5=>?_) (fun hc5=>?_)
    ·have hi2:x3 < N:=by have:=d_t hc5;omega
     have hi2V:x3 < V.length:=by omega
     have hg2:=hVg x3 hi2V
     refine wskip ?_
     show AWp _ _ _ _ _
     refine wseq ?_
     refine wblock ?_
     refine wseq ?_
     refine wreg fun K hK=>?_
     simp [C.impl_MutateForm,mS,lO_0 hi2V,hi2,hg2,hvl,show (x3:Int) < N by omega]
     refine hK _ ?_;clear hK K
     show AWp _ _ _ _ _
     refine wseq ?_
     refine wreg fun K hK=>?_
     simp [C.impl_MutateForm,mS]
     refine hK _ ?_;clear hK K
     show AWp _ _ _ _ _
     refine wseq ?_
     refine wseq ?_
     refine wreg fun K hK=>?_
     simp [C.impl_MutateForm,mS]
     refine hK _ ?_;clear hK K
     show AWp _ _ _ _ _
     refine wblock ?_
     refine wloopW (fun j:Nat=>⟨ofL [(0,.d (.sh 1 N (rows lS fm))),(9,.al (9,0) [] 0 N),(13,.al (13,0) [] 0 x3),(15,.al (9,0) [x3] 0 N),(16,.al (16,0) [] 0 j),(78,.al (9,0) [] 0 N),(79,.int N),(80,.int x3),(84,.al (9,0) [] 0 N),(85,.int N),(86,.int j)],ofRO [((9,0),some (.ow 1 N (rows lO V))),((13,0),some (.ow 1 x3 (rows lO ((List.range x3).map fun p=>tbR N fun q=>skw fm (vL m k N p) (vL m k N q))))),((16,0),some (.ow 1 j (ints ((List.range j).map fun q=>skw fm (vL m k N x3) (vL m k N q)))))]⟩) (fun j=>j<=N) (fun j=>N - j) 0 [.tmp 16 1] (by simp [C.impl_MutateForm,ints];refine ⟨?_,?_⟩ <;> repeat' (first | exact updHit _ _ _ _ | refine updCons (by decide) ?_ | exact rootNil _ _ _ | refine rootCons (by decide) ?_)) (by simp) ?_
     intro x4 hx4 R4 hR4
     refine wseq ?_
     refine wreg fun K hK=>?_
     simp [C.impl_MutateForm,mS]
     refine hK _ ?_;clear hK K
     show AWp _ _ _ _ _
     refine wseq ?_
     refine wcond _ rfl (fun hc6=>?_) (fun hc6=>?_)
     ·have hj:x4 < N:=by have:=d_t hc6;omega
      have hjV:x4 < V.length:=by omega
      have hg4:=hVg x4 hjV
      have hsc:=impl_paired_c fm _ _ (hsk x3 x4)
      rw [<-hN] at hsc
      obtain ⟨z,hz⟩:∃ z,z=skw fm (vL m k N x3) (vL m k N x4):=⟨_,rfl⟩
      rw [<-hz] at hsc
      refine wskip ?_
      show AWp _ _ _ _ _
      refine wseq ?_
      refine wblock ?_
      refine wseq ?_
      refine wreg fun K hK=>?_
      simp [C.impl_MutateForm,mS,lO_0 hjV,hj,hg4,hvl,show (x4:Int) < N by omega]
      refine hK _ ?_;clear hK K
      show AWp _ _ _ _ _
      refine wregI ([0,1,2,3,4] ++ ([5,6,7])) rfl fun K hK=>?_
      refine oSg fun L hL=>?_
      simp [C.impl_MutateForm,mS,lO_0 hi2V,lO_0 hjV,hg2,hg4,hvl,ints_snocA,show (x4+1)*8<=140737488355328 by omega]
      refine wcall1 (hsc) (by simp [mS,lO_0 hi2V,lO_0 hjV,hg2,hg4,hvl,ints_snocA,show (x4+1)*8<=140737488355328 by omega]) (by simp) ?_
      simp [C.impl_MutateForm,mS,lO_0 hi2V,lO_0 hjV,hg2,hg4,hvl,ints_snocA,show (x4+1)*8<=140737488355328 by omega]
      refine hL _ ?_;clear hL L
      refine oEn fun L hL=>?_
      simp [C.impl_MutateForm,mS,lO_0 hi2V,lO_0 hjV,hg2,hg4,hvl,ints_snocA,show (x4+1)*8<=140737488355328 by omega]
      refine hL _ ?_;clear hL L
      simp [C.impl_MutateForm,mS,lO_0 hi2V,lO_0 hjV,hg2,hg4,hvl,ints_snocA,show (x4+1)*8<=140737488355328 by omega]
      refine hK _ ?_;clear hK K
      show AWp _ _ _ _ _
      refine wreg fun K hK=>?_
      simp [C.impl_MutateForm,mS,wrap_succ (show x4 < 4611686018427387904 by omega)]
      refine hK _ ?_;clear hK K
      simp [C.impl_MutateForm,mS]
      refine cast (congrArg R4 ?_) (hR4 (x4+1) hj (by omega))
      simp [List.range_succ,<-hz]
     ·have hj:x4=N:=by have:=d_f hc6;omega
      have hrl:((List.range N).map fun q=>skw fm (vL m k N x3) (vL m k N q)).length=N:=by simp
      rw [hj]
      refine wexit ?_
      show AWp _ _ _ _ _
      refine wreg fun K hK=>?_
      simp [C.impl_MutateForm,mS,lO_snocN _ hrl,show (x3+1)*24<=140737488355328 by omega]
      refine hK _ ?_;clear hK K
      show AWp _ _ _ _ _
      refine wreg fun K hK=>?_
      simp [C.impl_MutateForm,mS,wrap_succ (show x3 < 4611686018427387904 by omega)]
      refine hK _ ?_;clear hK K
      simp [C.impl_MutateForm,mS]
      refine cast (congrArg R3 ?_) (hR3 (x3+1) hi2 (by omega))
      simp [List.range_succ,tbR]
    ·have hi2:x3=N:=by have:=d_f hc5;omega
     have hfin:(List.range N).map (fun p=>tbR N fun q=>skw fm (vL m k N p) (vL m k N q))=mtL fm m k N:=rfl
     rw [hi2,hfin]
     refine wexit ?_
     show AWp _ _ _ _ _
     refine wseq ?_
     refine wseq ?_
     refine wregI ([0,1] ++ ([2])) rfl fun K hK=>?_
     refine oSg fun L hL=>?_
     simp [C.impl_MutateForm,mS]
     refine wcall1 (hif) (by simp [mS]) (by simp) ?_
     simp [C.impl_MutateForm,mS]
     refine hL _ ?_;clear hL L
     refine oEn fun L hL=>?_
     simp [C.impl_MutateForm,mS]
     refine hL _ ?_;clear hL L
     simp [C.impl_MutateForm,mS]
     refine hK _ ?_;clear hK K
     show AWp _ _ _ _ _
     refine wcond _ rfl (fun hc7=>?_) (fun hc7=>?_)
     ·have hb:¬ FormOk (mtL fm m k N):=by simpa using hc7
      rw [if_neg hb] at hf
      refine wseq ?_
      refine wreg fun K hK=>?_
      simp [C.impl_MutateForm,mS]
      refine hK _ ?_;clear hK K
      show AWp _ _ _ _ _
      refine wret ?_
      simp [C.impl_MutateForm,mS,hf,rows]
     ·have hb:FormOk (mtL fm m k N):=by simpa using hc7
      rw [if_pos hb] at hf
      refine wskip ?_
      show AWp _ _ _ _ _
      refine wseq ?_
      refine wreg fun K hK=>?_
      simp [C.impl_MutateForm,mS]
      refine hK _ ?_;clear hK K
      show AWp _ _ _ _ _
      refine wret ?_
      simp [C.impl_MutateForm,mS,hf,hml]
 clear hK
 by_cases h1:FormOk fm
 ·by_cases h2:MatOK m
  ·by_cases h3:m.r=fm.length
   ·have hwn:IntKind.i64.wrap (m.n - 1)=m.n - 1:=by have:=h2.1.1;exact wrapOk (by omega) (by omega)
    have hle:∀ x:Int,(x<=m.n - 1)=(x < m.n):=fun x=>by rw [eq_iff_iff];omega
    refine oSg fun L hL=>?_
    simp [C.impl_MutateForm,mS,hwn,hle,h3,h1,h2,h3]
    refine wcall1 (impl_IsForm_c fm h0 hI) (by simp) (by simp) ?_
    simp [C.impl_MutateForm,mS,hwn,hle,h3,h1,h2,h3]
    refine hL _ ?_;clear hL L
    refine oSg fun L hL=>?_
    simp [C.impl_MutateForm,mS,hwn,hle,h3,h1,h2,h3]
    refine wcall1 (impl_MatrixOkG_c m hx) (by simp [mS,hwn,hle,h3]) (by simp) ?_
    simp [C.impl_MutateForm,mS,hwn,hle,h3,h1,h2,h3]
    refine hL _ ?_;clear hL L
    refine oSg fun L hL=>?_
    simp [C.impl_MutateForm,mS,hwn,hle,h3,h1,h2,h3]
    refine wcall1 (impl_within_c k 0 (m.n - 1)) (by simp) (by simp) ?_
    simp [C.impl_MutateForm,mS,hwn,hle,h3,h1,h2,h3]
    refine hL _ ?_;clear hL L
    refine oEn fun L hL=>?_
    simp [C.impl_MutateForm,mS,hwn,hle,h3,h1,h2,h3]
    refine hL _ ?_;clear hL L
    simp [C.impl_MutateForm,mS,hwn,hle,h3,h1,h2,h3]
    refine cast (congrArg K ?_) hJ
    simp [MfOk,mS,ibne,mS,h1,h2,h3]
   ·refine oSg fun L hL=>?_
    simp [C.impl_MutateForm,mS,h1,h2,h3]
    refine wcall1 (impl_IsForm_c fm h0 hI) (by simp) (by simp) ?_
    simp [C.impl_MutateForm,mS,h1,h2,h3]
    refine hL _ ?_;clear hL L
    refine oSg fun L hL=>?_
    simp [C.impl_MutateForm,mS,h1,h2,h3]
    refine wcall1 (impl_MatrixOkG_c m hx) (by simp) (by simp) ?_
    simp [C.impl_MutateForm,mS,h1,h2,h3]
    refine hL _ ?_;clear hL L
    refine oSg fun L hL=>?_
    simp [C.impl_MutateForm,mS,h1,h2,h3]
    refine hL _ ?_;clear hL L
    refine oEn fun L hL=>?_
    simp [C.impl_MutateForm,mS,h1,h2,h3]
    refine hL _ ?_;clear hL L
    simp [C.impl_MutateForm,mS,h1,h2,h3]
    refine cast (congrArg K ?_) hJ
    simp [MfOk,mS,ibne,mS,h1,h2,h3]
  ·refine oSg fun L hL=>?_
   simp [C.impl_MutateForm,mS,h1,h2]
   refine wcall1 (impl_IsForm_c fm h0 hI) (by simp) (by simp) ?_
   simp [C.impl_MutateForm,mS,h1,h2]
   refine hL _ ?_;clear hL L
   refine oSg fun L hL=>?_
   simp [C.impl_MutateForm,mS,h1,h2]
   refine wcall1 (impl_MatrixOkG_c m hx) (by simp) (by simp) ?_
   simp [C.impl_MutateForm,mS,h1,h2]
   refine hL _ ?_;clear hL L
   refine oSg fun L hL=>?_
   simp [C.impl_MutateForm,mS,h1,h2]
   refine hL _ ?_;clear hL L
   refine oEn fun L hL=>?_
   simp [C.impl_MutateForm,mS,h1,h2]
   refine hL _ ?_;clear hL L
   simp [C.impl_MutateForm,mS,h1,h2]
   refine cast (congrArg K ?_) hJ
   simp [MfOk,mS,ibne,mS,h1,h2]
 ·refine oSg fun L hL=>?_
  simp [C.impl_MutateForm,mS,h1]
  refine wcall1 (impl_IsForm_c fm h0 hI) (by simp) (by simp) ?_
  simp [C.impl_MutateForm,mS,h1]
  refine hL _ ?_;clear hL L
  refine oSg fun L hL=>?_
  simp [C.impl_MutateForm,mS,h1]
  refine hL _ ?_;clear hL L
  refine oSg fun L hL=>?_
  simp [C.impl_MutateForm,mS,h1]
  refine hL _ ?_;clear hL L
  refine oEn fun L hL=>?_
  simp [C.impl_MutateForm,mS,h1]
  refine hL _ ?_;clear hL L
  simp [C.impl_MutateForm,mS,h1]
  refine cast (congrArg K ?_) hJ
  simp [MfOk,mS,ibne,mS,h1]
end Go.Proofs.Ytfcgcgmleogamaa.Ab
