/- The exchange at a seed and mutation of a seed, by the program. Lengths of a triangulation: the program's recursion. The length of a diagonal, the program's side. All triangulations: what the choice of diagonals makes. Drawing a triangulation: all diagonals, all choices. Drawing a triangulation: the choices. Sizes, pieces and factors of a matrix, by the reference. The reference's factors of a matrix. Matrices that are right, mutation of a matrix, by the reference. Mutation of a seed along a list, by the program. Values of Laurent sums modulo a prime: they go with sums and products. What was multiplied is found again by division: the law. Drawn sums are a ring; values go with sums and products. A seed that is mutated twice at one place. Principal matrices along steps; what the polynomials are. Principal matrices and their walks, on both sides. Lists of lists of numbers as trees. Lists of lists of numbers: their size, copies, what is equal, marks. Quantum sums as trees. Quantum sums: their size, copies, what is equal, marks. Quantum sums: the order of terms, which sums are right. Quantum sums: which are right, for the reference and for the program. Skew forms: which are right; what a form makes of two lists of exponents. What a form makes of two lists of exponents; what fits a form. Sums of numbers. Forms that belong to matrices: how both mutate. Forms as lists; forms along steps. The first form of a matrix. Drawing a triangulation: the choices from none. Mutation of seeds, by the reference. Mutation of a seed and along a list, by the reference. The first form of a matrix, spec; the next form. The next form. Forms along steps. Drawing numbers to be put in place of variables. Drawing matrices: names, empty ones, joins. Sequences of rank two: both sides make the same. Sums that are computed: what is checked of them; their values at ones. Sequences of two variables are made by mutations in turn. Sequences of Somos in variables: both sides make the same. Sequences of Somos: what is computed of them. Factors of trees and of matrices under other names. Drawing a matrix that is a tree. Seeds as arguments of laws: their sizes, copies. Seeds of laws: how great they are. Mutation of a seed along a list: the program's is the reference's, fresh at each call. The first seed of any matrix; what is the same; whether a session is one. What the law of Somos' sequences calls. A matrix under other names, by the program. Drawing matrices: names, other names, mutations. An entry of a matrix. Drawing a matrix and steps. Sequences of two variables are made by mutations in turn, and come back: the law. Values of sums: the program's, and the reference's where there is none. Values of sums: the program's, and the reference's where there is none. Drawing a triangulation, flips and a diagonal. Ptolemy: the law. Flips of diagonals, the program's side. The least exponents of a length tell what it crosses. Each diagonal of a triangulation can be flipped. A flip of a diagonal, the program's side. Triangulations and their sides, the reference's side. Triangulations, triangles and lengths, the reference's side. Triangles of a triangulation, the program's side. The matrix of a triangulation: a flip is its mutation, counted through by the kernel. The seed of a triangulation: a flip is a mutation. The numbers of the matrix of a triangulation, one pair of sides behind the other. The matrix of a triangulation, the program's side. What a diagonal crosses; the law of denominators. Denominators of lengths: the law. Flips and mutations: the law. A code of bytes as an argument, read as a tree. Flips and mutations: the law, with its argument. No condition. -/
import Derived.Test.YtncfmemhjahpeaaKarcsd
import Derived.Test.YtncfmemhjahpeaaKarcsc
set_option linter.unusedVariables false
set_option linter.unusedSimpArgs false
set_option linter.unusedSectionVars false
namespace Go.Proofs.Ytncfmemhjahpeaa.Ab
open Go
set_option maxRecDepth 10000
set_option maxHeartbeats 2000000
noncomputable def itM (f:Lau):Nat->Lau->Option Lau
 | 0,p=>some p
 | n+1,p=>if (mulF p f).2=true then itM f n (mulF p f).1 else none
noncomputable def prodE (sg:Int):List Lau->List Int->Lau->Option Lau
 | f :: fs,c :: cs,p=>(itM f (sg*c).toNat p).bind (prodE sg fs cs)
 | [],_,p=>some p
 | _ :: _,[],p=>some p
def colM (m:Mat) (r k:Nat):List Int:=(List.range r).map fun i=>bM m i k
@[simp] theorem colM_length (m:Mat) (r k:Nat):(colM m r k).length=r:=by simp [colM]
theorem colM_get (m:Mat) (r k i:Nat) (h:i < r):(colM m r k)[i]'(by simpa using h)=bM m i k:=by simp [colM]
noncomputable def exF (fs:List Lau) (cs:List Int) (r:Nat) (old:Lau):Lau×Bool:=
 if ∀ c∈cs,-8<=c/\c<=8 then (match prodE 1 fs cs (oneF r),prodE (-1) fs cs (oneF r) with
  | some a,some b=>if (addF a 1 b).2=true then divF (addF a 1 b).1 old else (zeroF,false)
  | _,_=>(zeroF,false)) else (zeroF,false)
theorem prodE_step {sg:Int} {fs:List Lau} {cs:List Int} {i:Nat} (h1:i < fs.length) (h2:i < cs.length) (p:Lau):prodE sg (fs.drop i) (cs.drop i) p=(itM fs[i] (sg*cs[i]).toNat p).bind (prodE sg (fs.drop (i+1)) (cs.drop (i+1))):=by
 rw [List.drop_eq_getElem_cons h1,List.drop_eq_getElem_cons h2,prodE]
theorem exF_none {fs:List Lau} {cs:List Int} {r:Nat} {old:Lau} {sg:Int} (hs:sg=1\/sg=-1) (h:prodE sg fs cs (oneF r)=none):exF fs cs r old=(zeroF,false):=by
 unfold exF
 split
 ·rcases hs with rfl | rfl
  ·rw [h]
  ·rw [h]
   split <;> simp_all
 ·rfl
theorem exF_big {fs:List Lau} {cs:List Int} {r:Nat} {old:Lau} {c:Int} (hc:c∈cs) (h:¬ (-8<=c/\c<=8)):exF fs cs r old=(zeroF,false):=if_neg fun q=>h (q c hc)
theorem exF_some {fs:List Lau} {cs:List Int} {r:Nat} {old a b:Lau} (hc:∀ c∈cs,-8<=c/\c<=8) (ha:prodE 1 fs cs (oneF r)=some a) (hb:prodE (-1) fs cs (oneF r)=some b):exF fs cs r old=if (addF a 1 b).2=true then divF (addF a 1 b).1 old else (zeroF,false):=by
 unfold exF
 rw [if_pos hc,ha,hb]
theorem SmallF.sm' {f:Lau} (h:SmallF f):f.ts.length < 4611686018427387904/\∀ t∈f.ts,t.e.length < 4611686018427387904:=⟨by have:=h.1;omega,fun t ht=>by have:=h.2.1 t ht;omega⟩
theorem mulF_small' (f g:Lau):SmallF (mulF f g).1:=by
 rcases mulF_right f g with h | h
 ·exact small_right h
 ·rw [h];exact small_zero
theorem addF_small' (f:Lau) (k:Int) (g:Lau):SmallF (addF f k g).1:=by
 unfold addF
 split
 ·rcases shutF_right f.v (f.ts.map pr ++ g.ts.map (prk k)) with h | h
  ·exact small_right h
  ·rw [h];exact small_zero
 ·exact small_zero
def exC0:List D:=[D.int 0,.v (.slice none 0 0),D.int 0,.v (.slice none 0 0)]
def exC1 (a:Lau):List D:=[D.int a.v,.ow 2 a.ts.length (rows tO a.ts),D.int 0,.v (.slice none 0 0)]
def exC2 (a b:Lau):List D:=[D.int a.v,.ow 2 a.ts.length (rows tO a.ts),D.int b.v,.ow 2 b.ts.length (rows tO b.ts)]
structure ExJ (fs:List Lau) (cs:List Int) (r:Nat) (side:Nat) (cells:List D):Prop where
 all:(side=0/\cells=exC0)\/(side=1/\(∀ c∈cs,c<=8)/\∃ a,SmallF a/\prodE 1 fs cs (oneF r)=some a/\cells=exC1 a) \/
  (side=2/\(∀ c∈cs,-8<=c/\c<=8)/\∃ a b,SmallF a/\SmallF b/\prodE 1 fs cs (oneF r)=some a/\prodE (-1) fs cs (oneF r)=some b/\cells=exC2 a b)
theorem impl_exchange_c (m:Mat) (n r k:Nat) (fs:List Lau) (v:Nat) (hv8:1<=v/\v<=8) (hn:m.n=n) (hr:m.r=r) (hS:ShM m) (hk:k < n) (hl:fs.length=r) (hf:∀ f∈fs,SmF f) (hv:∀ f∈fs,f.v=v):ACalls Try.prog F.impl_exchange [.ag [.int n,.int r,.d (shI m.d)],.d (.sh 2 fs.length (rows fS fs)),.int k] [] true (fun outs res=>outs=[]/\WkRs res [.ag (fO (exF fs (colM m r k) v (fs.getD k zeroF)).1),.one (D.bool (exF fs (colM m r k) v (fs.getD k zeroF)).2)]):=by
 have hn5:1<=n/\n<=5:=by have:=hS.1;omega
 have hnr:n<=r/\r<=8:=by have:=hS.2.1;omega
 have hkl:k < fs.length:=by omega
 have hkv:fs[k].v=v:=hv _ (List.getElem_mem hkl)
 have hone:=impl_ConstantLaurent_c v hv8
 have hos:SmallF (oneF v):=small_right (oneF_right (by omega))
 obtain ⟨cs,hcs⟩:∃ cs,cs=colM m r k:=⟨_,rfl⟩
 have hcl:cs.length=r:=by rw [hcs];simp
 have hcg:∀ (i:Nat) (h:i < r),cs[i]'(by omega)=bM m i k:=fun i h=>by simp only [hcs];exact colM_get m r k i h
 rw [<-hcs]
 obtain ⟨old,hold⟩:∃ old,old=fs.getD k zeroF:=⟨_,rfl⟩
 have hkg:fs[k]=old:=by rw [hold];simp [List.getD_eq_getElem?_getD,hkl]
 rw [<-hold]
 have hov:old.v=v:=by rw [<-hkg];exact hkv
 have holds:=hf _ (List.getElem_mem hkl)
 rw [hkg] at holds
 refine ACalls.of_body (C:=C.impl_exchange) (n:=Try.f45.ntmps) tabT folT Try.func45 rfl (by kernel_rfl) rfl (Nat.le_of_ble_eq_true rfl) (by decide) (by kernel_rfl) (by kernel_rfl) rfl (by simp) (by simp) ?_
 simp only [Try.f45]
 refine wseq ?_
 refine wreg fun K hK=>?_
 simp [C.impl_exchange]
 refine hK _ ?_;clear hK K
 show AWp _ _ _ _ _
 refine wseq ?_
 refine wreg fun K hK=>?_
 simp [C.impl_exchange]
 refine hK _ ?_;clear hK K
 show AWp _ _ _ _ _
 refine wseq ?_
 refine wseq ?_
 refine wreg fun K hK=>?_
 simp [C.impl_exchange]
 refine hK _ ?_;clear hK K
 show AWp _ _ _ _ _
 refine wblock ?_
 refine wloop (fun x:Nat×List D=>⟨ofL [(1,.d (.sh 2 fs.length (rows fS fs))),(2,.int k),(3,.pt (3,0) [] 0),(6,.pt (6,0) [] 0),(8,.pt (8,0) [] 0),(18,.al (18,0) [] 0 2),(19,.int 2),(20,.int x.1)],ofRO [((3,0),some (.bx [D.int n,D.int r,shI m.d])),((6,0),some (.bx [D.int 0,.v (.slice none 0 0)])),((8,0),some (.bx x.2)),((18,0),some (.ow 1 2 (ints [1,-1])))]⟩) (fun x=>ExJ fs cs v x.1 x.2) (fun x=>2 - x.1) (0,exC0) (by simp [C.impl_exchange,exC0,ints]) ⟨.inl ⟨rfl,rfl⟩⟩ ?_
 intro x1 hx1 R1 hR1
 obtain ⟨side,cells⟩:=x1
 have hx1':=hx1
 dsimp only at hx1' ⊢
 refine wseq ?_
 refine wreg fun K hK=>?_
 simp [C.impl_exchange]
 refine hK _ ?_;clear hK K
 show AWp _ _ _ _ _
 refine wseq ?_
 refine wcond _ rfl (fun hc1=>?_) (fun hc1=>?_)
 ·have hside:side < 2:=by have:=d_t hc1;omega
  obtain ⟨sg,hsg⟩:∃ sg:Int,sg=if side=0 then 1 else -1:=⟨_,rfl⟩
  have hsg2:sg=1\/sg=-1:=by rw [hsg];split <;> simp
  have hsgn:([1,-1]:List Int)[side]'(by simpa using hside)=sg:=by
   rcases (show side=0\/side=1 by omega) with rfl | rfl <;> (rw [hsg];rfl)
  obtain ⟨goal,hgoal⟩:∃ goal,goal=prodE sg fs cs (oneF v):=⟨_,rfl⟩
  refine wskip ?_
  show AWp _ _ _ _ _
  refine wseq ?_
  refine wblock ?_
  refine wseq ?_
  refine wreg fun K hK=>?_
  simp [C.impl_exchange,hside,get_ints,hsgn,show (side:Int) < 2 by omega]
  refine hK _ ?_;clear hK K
  show AWp _ _ _ _ _
  refine wseq ?_
  refine wregI ([0,1,2,3,4,5] ++ ([6,7])) rfl fun K hK=>?_
  refine oSg fun L hL=>?_
  simp [C.impl_exchange,hkl,fS_0 hkl,hkg,hov,show (k:Int) < fs.length by omega,fO]
  refine wcall1 (hone) (by simp) (by simp) ?_
  simp [C.impl_exchange,hkl,fS_0 hkl,hkg,hov,show (k:Int) < fs.length by omega,fO]
  refine hL _ ?_;clear hL L
  refine oEn fun L hL=>?_
  simp [C.impl_exchange,hkl,fS_0 hkl,hkg,hov,show (k:Int) < fs.length by omega,fO]
  refine hL _ ?_;clear hL L
  simp [C.impl_exchange,hkl,fS_0 hkl,hkg,hov,show (k:Int) < fs.length by omega,fO]
  refine hK _ ?_;clear hK K
  show AWp _ _ _ _ _
  refine wseq ?_
  refine wreg fun K hK=>?_
  simp [C.impl_exchange]
  refine hK _ ?_;clear hK K
  show AWp _ _ _ _ _
  refine wseq ?_
  refine wseq ?_
  refine wreg fun K hK=>?_
  simp [C.impl_exchange]
  refine hK _ ?_;clear hK K
  show AWp _ _ _ _ _
  refine wblock ?_
  refine wloop (fun x:Nat×Lau=>⟨ofL [(1,.d (.sh 2 fs.length (rows fS fs))),(2,.int k),(3,.pt (3,0) [] 0),(6,.pt (6,0) [] 0),(8,.pt (8,0) [] 0),(9,.int side),(10,.int sg),(11,.pt (11,0) [] 0),(18,.al (18,0) [] 0 2),(19,.int 2),(20,.int side),(31,.d (.sh 2 fs.length (rows fS fs))),(32,.int fs.length),(33,.int x.1)],ofRO [((3,0),some (.bx [D.int n,D.int r,shI m.d])),((6,0),some (.bx [D.int 0,.v (.slice none 0 0)])),((8,0),some (.bx cells)),((11,0),some (.bx (fO x.2))),((18,0),some (.ow 1 2 (ints [1,-1])))]⟩) (fun x=>x.1<=r/\SmallF x.2/\(∀ c∈cs.take x.1,sg*c<=8)/\prodE sg (fs.drop x.1) (cs.drop x.1) x.2=goal) (fun x=>r - x.1) (0,oneF v) (by simp [C.impl_exchange,fO]) ⟨by simp,hos,by simp,by rw [hgoal];rfl⟩ ?_
  intro x2 hx2 R2 hR2
  obtain ⟨i,p⟩:=x2
  obtain ⟨hi0,hps,hcb,hpg⟩:=hx2
  dsimp only at hi0 hps hcb hpg ⊢
  refine wseq ?_
  refine wreg fun K hK=>?_
  simp [C.impl_exchange]
  refine hK _ ?_;clear hK K
  show AWp _ _ _ _ _
  refine wseq ?_
  refine wcond _ rfl (fun hc2=>?_) (fun hc2=>?_)
  ·have hi:i < r:=by have:=d_t hc2;omega
   have hif:i < fs.length:=by omega
   obtain ⟨c,hc⟩:∃ c,c=cs[i]'(by omega):=⟨_,rfl⟩
   have hcm:bM m i k=c:=by rw [hc,hcg i hi]
   have hat:=at_c hn hS (i:=i) (j:=k) (by omega) hk
   rw [hr,hcm] at hat
   have hcb99:=bM_bd hS i k
   rw [hcm] at hcb99
   have hsc:IntKind.i64.wrap (sg*c)=sg*c:=by rcases hsg2 with rfl | rfl <;> exact wrapOk (by omega) (by omega)
   have hstep:=prodE_step (sg:=sg) hif (show i < cs.length by omega) p
   rw [hpg,<-hc] at hstep
   obtain ⟨f,hfi⟩:∃ f,f=fs[i]:=⟨_,rfl⟩
   have hfs:=hf _ (List.getElem_mem hif)
   rw [<-hfi] at hstep hfs
   refine wskip ?_
   show AWp _ _ _ _ _
   refine wseq ?_
   refine wblock ?_
   refine wseq ?_
   refine wreg fun K hK=>?_
   simp [C.impl_exchange,hif,fS_0 hif,fS_1 hif,<-hfi]
   refine hK _ ?_;clear hK K
   show AWp _ _ _ _ _
   refine wseq ?_
   refine wregI ([0,1,2,3,4] ++ ([5,6])) rfl fun K hK=>?_
   refine oSg fun L hL=>?_
   simp [C.impl_exchange,hsc]
   refine wcall1 (hat) (by simp) (by simp) ?_
   simp [C.impl_exchange,hsc]
   refine hL _ ?_;clear hL L
   refine oEn fun L hL=>?_
   simp [C.impl_exchange,hsc]
   refine hL _ ?_;clear hL L
   simp [C.impl_exchange,hsc]
   refine hK _ ?_;clear hK K
   show AWp _ _ _ _ _
   refine wseq ?_
   refine wseq ?_
   refine wreg fun K hK=>?_
   simp [C.impl_exchange]
   refine hK _ ?_;clear hK K
   show AWp _ _ _ _ _
   refine wcond _ rfl (fun hc3=>?_) (fun hc3=>?_)
   ·have hbig:8 < sg*c:=by simpa using hc3
    have hm:exF fs cs v old=(zeroF,false):=exF_big (c:=c) (by rw [hc];exact List.getElem_mem _) (by rcases hsg2 with rfl | rfl <;> omega)
    refine wseq ?_
    refine wreg fun K hK=>?_
    simp [C.impl_exchange]
    refine hK _ ?_;clear hK K
    show AWp _ _ _ _ _
    refine wret ?_
    simp [C.impl_exchange,hm,fO,zeroF,rows]
   ·have hle:¬ 8 < sg*c:=by simpa using hc3
    refine wskip ?_
    show AWp _ _ _ _ _
    refine wblock ?_
    refine wloop (fun x:Int×Lau=>⟨ofL [(1,.d (.sh 2 fs.length (rows fS fs))),(2,.int k),(3,.pt (3,0) [] 0),(6,.pt (6,0) [] 0),(8,.pt (8,0) [] 0),(9,.int side),(10,.int sg),(11,.pt (11,0) [] 0),(14,.pt (14,0) [] 0),(15,.int x.1),(18,.al (18,0) [] 0 2),(19,.int 2),(20,.int side),(31,.d (.sh 2 fs.length (rows fS fs))),(32,.int fs.length),(33,.int i)],ofRO [((3,0),some (.bx [D.int n,D.int r,shI m.d])),((6,0),some (.bx [D.int 0,.v (.slice none 0 0)])),((8,0),some (.bx cells)),((11,0),some (.bx (fO x.2))),((14,0),some (.bx (fS f))),((18,0),some (.ow 1 2 (ints [1,-1])))]⟩) (fun x=>x.1<=8/\-99<=x.1/\SmallF x.2/\(itM f x.1.toNat x.2).bind (prodE sg (fs.drop (i+1)) (cs.drop (i+1)))=goal) (fun x=>x.1.toNat) (sg*c,p) (by simp [C.impl_exchange,fO,fS]) ⟨by dsimp only;omega,by dsimp only;rcases hsg2 with rfl | rfl <;> omega,hps,hstep.symm⟩ ?_
    intro x3 hx3 R3 hR3
    obtain ⟨nn,q⟩:=x3
    obtain ⟨hn8,hn99,hqs,hqg⟩:=hx3
    dsimp only at hn8 hn99 hqs hqg ⊢
    refine wseq ?_
    refine wseq ?_
    refine wreg fun K hK=>?_
    simp [C.impl_exchange]
    refine hK _ ?_;clear hK K
    show AWp _ _ _ _ _
    refine wcond _ rfl (fun hc4=>?_) (fun hc4=>?_)
    ·have hpos:0 < nn:=by simpa using hc4
     obtain ⟨t,ht⟩:∃ t,nn.toNat=t+1:=⟨nn.toNat - 1,by omega⟩
     rw [ht] at hqg
     simp only [itM] at hqg
     have hmul:=mulOk q f hqs.sm'.1 hqs.sm'.2 hfs.1 hfs.2
     have hmulS:=mulF_small' q f
     obtain ⟨P,hP⟩:∃ P,P=mulF q f:=⟨_,rfl⟩
     rw [<-hP] at hqg hmul hmulS
     refine wskip ?_
     show AWp _ _ _ _ _
     refine wseq ?_
     refine wblock ?_
     refine wseq ?_
     refine wregI ([0,1,2] ++ ([3,4,5,6,7])) rfl fun K hK=>?_
     refine oSg fun L hL=>?_
     simp [C.impl_exchange,fO,fS]
     refine wcall1 (hmul) (by simp) (by simp) ?_
     simp [C.impl_exchange,fO,fS]
     refine hL _ ?_;clear hL L
     refine oEn fun L hL=>?_
     simp [C.impl_exchange,fO,fS]
     refine hL _ ?_;clear hL L
     simp [C.impl_exchange,fO,fS]
     refine hK _ ?_;clear hK K
     show AWp _ _ _ _ _
     refine wseq ?_
     refine wreg fun K hK=>?_
     simp [C.impl_exchange]
     refine hK _ ?_;clear hK K
     show AWp _ _ _ _ _
     refine wcond _ rfl (fun hc5=>?_) (fun hc5=>?_)
     ·have hb:P.2=false:=by simpa using hc5
      rw [hb] at hqg
      have hm:exF fs cs v old=(zeroF,false):=exF_none hsg2 (by rw [<-hgoal,<-hqg];rfl)
      refine wseq ?_
      refine wreg fun K hK=>?_
      simp [C.impl_exchange]
      refine hK _ ?_;clear hK K
      show AWp _ _ _ _ _
      refine wret ?_
      simp [C.impl_exchange,hm,fO,zeroF,rows]
     ·have hb:P.2=true:=by simpa using hc5
      rw [if_pos hb] at hqg
      refine wskip ?_
      show AWp _ _ _ _ _
      refine wreg fun K hK=>?_
      simp [C.impl_exchange,wrapOk (x:=nn - 1) (by omega) (by omega)]
      refine hK _ ?_;clear hK K
      simp [C.impl_exchange]
      refine cast (congrArg R3 ?_) (hR3 (nn - 1,P.1) ⟨by dsimp only;omega,by dsimp only;omega,hmulS,by dsimp only;rw [show (nn - 1).toNat=t by omega];exact hqg⟩ (by dsimp only;omega))
      simp [fO,fS]
    ·have hpos:¬ 0 < nn:=by simpa using hc4
     rw [show nn.toNat=0 by omega] at hqg
     have hqg2:prodE sg (fs.drop (i+1)) (cs.drop (i+1)) q=goal:=hqg
     refine wexit ?_
     show AWp _ _ _ _ _
     refine wreg fun K hK=>?_
     simp [C.impl_exchange,wrap_succ (show i < 4611686018427387904 by omega)]
     refine hK _ ?_;clear hK K
     simp [C.impl_exchange]
     refine hR2 (i+1,q) ⟨hi,hqs,fun z hz=>?_,hqg2⟩ (by dsimp only;omega)
     dsimp only at hz
     rw [List.take_succ_eq_append_getElem (by omega)] at hz
     rcases List.mem_append.1 hz with hz | hz
     ·exact hcb z hz
     ·rw [List.mem_singleton] at hz
      rw [hz,<-hc]
      omega
  ·have hi:i=r:=by have:=d_f hc2;omega
   rw [hi,List.drop_of_length_le (by omega),List.drop_of_length_le (by omega)] at hpg
   rw [hi,List.take_of_length_le (by omega)] at hcb
   have hpg2:prodE sg fs cs (oneF v)=some p:=by rw [<-hgoal,<-hpg];rfl
   refine wexit ?_
   show AWp _ _ _ _ _
   refine wreg fun K hK=>?_
   have hJ:K ⟨ofL [(1,.d (.sh 2 fs.length (rows fS fs))),(2,.int k),(3,.pt (3,0) [] 0),(6,.pt (6,0) [] 0),(8,.pt (8,0) [] 0),(18,.al (18,0) [] 0 2),(19,.int 2),(20,.int side)],ofRO [((3,0),some (.bx [D.int n,D.int r,shI m.d])),((6,0),some (.bx [D.int 0,.v (.slice none 0 0)])),((8,0),some (.bx (((cells.set (2*side) (D.int p.v)).set (2*side+1) (.ow 2 p.ts.length (rows tO p.ts)))))),((18,0),some (.ow 1 2 (ints [1,-1])))]⟩:=by
    refine hK _ ?_;clear hK K
    show AWp _ _ _ _ _
    refine wreg fun K hK=>?_
    simp [C.impl_exchange,wrap_succ (show side < 4611686018427387904 by omega)]
    refine hK _ ?_;clear hK K
    simp [C.impl_exchange]
    refine hR1 (side+1,_) ⟨?_⟩ (by dsimp only;omega)
    rcases hx1'.all with ⟨h1,h2⟩ | ⟨h1,h3,a,ha,hae,h2⟩ | ⟨h1,_⟩
    ·right
     left
     subst h1
     subst h2
     obtain rfl:sg=1:=hsg
     exact ⟨rfl,fun c hc=>by have:=hcb c hc;omega,p,hps,hpg2,rfl⟩
    ·right
     right
     subst h1
     subst h2
     obtain rfl:sg=-1:=hsg
     exact ⟨rfl,fun c hc=>by have:=hcb c hc;have:=h3 c hc;omega,a,p,ha,hps,hae,hpg2,rfl⟩
    ·omega
   clear hK
   rcases hx1'.all with ⟨h1,h2⟩ | ⟨h1,_,a,_,_,h2⟩ | ⟨h1,_⟩
   ·subst h1
    subst h2
    simp [C.impl_exchange,fO,exC0]
    refine cast (congrArg K ?_) hJ
    simp [fO,exC0]
   ·subst h1
    subst h2
    simp [C.impl_exchange,fO,exC1]
    refine cast (congrArg K ?_) hJ
    simp [fO,exC1]
   ·omega
 ·have hside:¬ side < 2:=by have:=d_f hc1;omega
  obtain ⟨hcb,a,b,has,hbs,hae,hbe,hcell⟩:(∀ c∈cs,-8<=c/\c<=8)/\∃ a b,SmallF a/\SmallF b/\prodE 1 fs cs (oneF v)=some a/\prodE (-1) fs cs (oneF v)=some b/\cells=exC2 a b:=by
   rcases hx1'.all with ⟨h1,h2⟩ | ⟨h1,h3,a,ha,hae,h2⟩ | ⟨h1,h2⟩
   ·omega
   ·omega
   ·exact h2
  subst hcell
  have hm:=exF_some (old:=old) hcb hae hbe
  have hadd:=iAdd_c a 1 b has.sm'.1 has.sm'.2 hbs.sm'.1 hbs.sm'.2
  have hadds:=addF_small' a 1 b
  obtain ⟨A,hA⟩:∃ A,A=addF a 1 b:=⟨_,rfl⟩
  rw [<-hA] at hm hadd hadds
  refine wexit ?_
  show AWp _ _ _ _ _
  refine wseq ?_
  refine wregI ([0,1,2,3,4] ++ ([5,6,7,8,9,10])) rfl fun K hK=>?_
  refine oSg fun L hL=>?_
  simp [C.impl_exchange,exC2,fO]
  refine wcall1 (hadd) (by simp) (by simp) ?_
  simp [C.impl_exchange,exC2,fO]
  refine hL _ ?_;clear hL L
  refine oEn fun L hL=>?_
  simp [C.impl_exchange,exC2,fO]
  refine hL _ ?_;clear hL L
  simp [C.impl_exchange,exC2,fO]
  refine hK _ ?_;clear hK K
  show AWp _ _ _ _ _
  refine wseq ?_
  refine wseq ?_
  refine wreg fun K hK=>?_
  simp [C.impl_exchange]
  refine hK _ ?_;clear hK K
  show AWp _ _ _ _ _
  refine wcond _ rfl (fun hc6=>?_) (fun hc6=>?_)
  ·have hno:¬ A.2=true:=by simpa using hc6
   refine wseq ?_
   refine wreg fun K hK=>?_
   simp [C.impl_exchange]
   refine hK _ ?_;clear hK K
   show AWp _ _ _ _ _
   refine wret ?_
   simp [C.impl_exchange,hm,hno,fO,zeroF,rows]
  ·have hyes:A.2=true:=by simpa using hc6
   have hdiv:=iDiv_c doneOk A.1 old hadds.sm'.1 hadds.sm'.2 holds.1 holds.2
   rw [if_pos hyes] at hm
   refine wskip ?_
   show AWp _ _ _ _ _
   refine wseq ?_
   refine wdrawI [(true,0),(true,1),(true,2),(true,3),(true,4),(false,5),(true,6),(true,7),(false,8),(true,9)] ⟨by kernel_rfl,by kernel_rfl⟩ ([0,1,2,3,4,5] ++ ([6,7,8,9])) rfl fun K hK=>?_
   refine oSg fun L hL=>?_
   simp [C.impl_exchange,hkl,fS_0 hkl,fS_1 hkl,hkg,show (k:Int) < fs.length by omega,fO]
   refine wcall1 (hdiv) (by simp) (by simp) ?_
   simp [C.impl_exchange,hkl,fS_0 hkl,fS_1 hkl,hkg,show (k:Int) < fs.length by omega,fO]
   refine hL _ ?_;clear hL L
   refine oEn fun L hL=>?_
   simp [C.impl_exchange,hkl,fS_0 hkl,fS_1 hkl,hkg,show (k:Int) < fs.length by omega,fO]
   refine hL _ ?_;clear hL L
   simp [C.impl_exchange,hkl,fS_0 hkl,fS_1 hkl,hkg,show (k:Int) < fs.length by omega,fO]
   refine hK _ ?_;clear hK K
   show AWp _ _ _ _ _
   refine wret ?_
   simp [C.impl_exchange,hm,fO]
theorem iEx_c (m:Mat) (n r k:Nat) (fs:List Lau) (v:Nat) (hv8:1<=v/\v<=8) (hn:m.n=n) (hr:m.r=r) (hS:ShM m) (hk:k < n) (hl:fs.length=r) (hf:∀ f∈fs,SmF f) (hv:∀ f∈fs,f.v=v):ACalls Try.prog F.impl_exchange [.ag [.int n,.int r,.d (shI m.d)],.d (.sh 2 fs.length (rows fS fs)),.int k] [] true (fun outs res=>outs=[]/\res=[.ag (fO (exF fs (colM m r k) v (fs.getD k zeroF)).1),.one (D.bool (exF fs (colM m r k) v (fs.getD k zeroF)).2)]):=(impl_exchange_c m n r k fs v hv8 hn hr hS hk hl hf hv).weak1
noncomputable def seedF (s:Sed) (k:Int):Sed×Bool:=
 if SeedOK s/\(0<=k/\k < s.m.n)/\(exF s.f (colM s.m s.m.r.toNat k.toNat) s.m.r.toNat (s.f.getD k.toNat zeroF)).2=true/\(muF s.m k).2=true then
  (⟨(muF s.m k).1,s.f.set k.toNat (exF s.f (colM s.m s.m.r.toNat k.toNat) s.m.r.toNat (s.f.getD k.toNat zeroF)).1⟩,true) else (⟨⟨0,0,[]⟩,[]⟩,false)
theorem impl_MutateSeed_c (s:Sed) (k:Int) (hx:s.m.d.length < 17592186044416) (hl:s.f.length < 4611686018427387904) (hf:∀ f∈s.f,SmF f):ACalls Try.prog F.impl_MutateSeed [aS s,.int k] [] true (fun outs res=>outs=[]/\WkRs res [.ag (sO (seedF s k).1),.one (D.bool (seedF s k).2)]):=by
 refine ACalls.of_body (C:=C.impl_MutateSeed) (n:=Try.f16.ntmps) tabT folT Try.func16 rfl (by kernel_rfl) rfl (Nat.le_of_ble_eq_true rfl) (by decide) (by kernel_rfl) (by kernel_rfl) rfl (by simp) (by simp) ?_
 simp only [Try.f16]
 refine wseq ?_
 refine wreg fun K hK=>?_
 simp [C.impl_MutateSeed,sS]
 refine hK _ ?_;clear hK K
 show AWp _ _ _ _ _
 refine wseq ?_
 refine wseq ?_
 refine wregI ([0,1] ++ ([2,3,4,5,6,7,8,9] ++ ([10,11]))) rfl fun K hK=>?_
 have hJ:K ⟨ofL [(1,.int k),(2,.pt (2,0) [] 0),(4,.pt (4,0) [] 0),(22,.bool (!decide (SeedOK s/\(0<=k/\k < s.m.n))))],ofRO [((2,0),some (.bx (sS s))),((4,0),some (.bx [D.int 0,D.int 0,.v (.slice none 0 0),.v (.slice none 0 0)]))]⟩:=by
  refine hK _ ?_;clear hK K
  show AWp _ _ _ _ _
  refine wcond _ rfl (fun hc1=>?_) (fun hc1=>?_)
  ·have hr:=nd_t hc1
   have hm:seedF s k=(⟨⟨0,0,[]⟩,[]⟩,false):=if_neg (fun h=>hr ⟨h.1,h.2.1⟩)
   refine wseq ?_
   refine wreg fun K hK=>?_
   simp [C.impl_MutateSeed,sS]
   refine hK _ ?_;clear hK K
   show AWp _ _ _ _ _
   refine wret ?_
   simp [C.impl_MutateSeed,sS,hm,sO,ints,rows]
  ·have hr:=nd_f hc1
   obtain ⟨hok,hk⟩:=hr
   have hS:=hok.1.1
   obtain ⟨n,hn⟩:∃ n:Nat,s.m.n=n:=⟨s.m.n.toNat,by have:=hS.1;omega⟩
   obtain ⟨r,hr⟩:∃ r:Nat,s.m.r=r:=⟨s.m.r.toNat,by have:=hS.1;have:=hS.2.1;omega⟩
   obtain ⟨k,rfl⟩:∃ j:Nat,k=j:=⟨k.toNat,by omega⟩
   have hnr:n<=r/\r<=8:=by have:=hS.2.1;omega
   have hfl:s.f.length=r:=by have:=hok.2.1;omega
   have hkn:k < n:=by omega
   have hex:=iEx_c s.m n r k s.f r (by omega) hn hr hS hkn hfl hf (fun f hm=>by rw [(hok.2.2 f hm).2.2,hr])
   have hmu:=iMu_c s.m k hx
   have hm:seedF s k=if (exF s.f (colM s.m r k) r (s.f.getD k zeroF)).2=true/\(muF s.m k).2=true then
     (⟨(muF s.m k).1,s.f.set k (exF s.f (colM s.m r k) r (s.f.getD k zeroF)).1⟩,true) else (⟨⟨0,0,[]⟩,[]⟩,false):=by
    unfold seedF
    rw [show s.m.r.toNat=r by omega,Int.toNat_natCast]
    by_cases q:(exF s.f (colM s.m r k) r (s.f.getD k zeroF)).2=true/\(muF s.m k).2=true
    ·rw [if_pos ⟨hok,hk,q⟩,if_pos q]
    ·rw [if_neg (fun h=>q h.2.2),if_neg q]
   obtain ⟨E,hE⟩:∃ E,E=exF s.f (colM s.m r k) r (s.f.getD k zeroF):=⟨_,rfl⟩
   obtain ⟨M,hM⟩:∃ M,M=muF s.m k:=⟨_,rfl⟩
   rw [<-hE] at hex hm
   rw [<-hM] at hmu hm
   clear hE hM
   have haM:aM s.m = .ag [.int n,.int r,.d (shI s.m.d)]:=by rw [<-hn,<-hr]
   rw [haM] at hmu
   have hcopy:=impl_copySeed_c s hx (by omega) (fun f hm=>by
    have h1:=(hok.2.2 f hm).1
    exact ⟨by have:=h1.2.1;omega,fun t ht=>by have:=(h1.2.2.1 t ht).1;have:=h1.1;omega⟩)
   refine wskip ?_
   show AWp _ _ _ _ _
   refine wseq ?_
   refine wregI ([0,1,2,3,4,5] ++ ([6,7,8,9,10,11])) rfl fun K hK=>?_
   refine oSg fun L hL=>?_
   simp [C.impl_MutateSeed,sS,hn,hr,fO]
   refine wcall1 (hex) (by simp) (by simp) ?_
   simp [C.impl_MutateSeed,sS,hn,hr,fO]
   refine hL _ ?_;clear hL L
   refine oEn fun L hL=>?_
   simp [C.impl_MutateSeed,sS,hn,hr,fO]
   refine hL _ ?_;clear hL L
   simp [C.impl_MutateSeed,sS,hn,hr,fO]
   refine hK _ ?_;clear hK K
   show AWp _ _ _ _ _
   refine wseq ?_
   refine wregI ([0,1,2,3] ++ ([4,5,6,7,8,9])) rfl fun K hK=>?_
   refine oSg fun L hL=>?_
   simp [C.impl_MutateSeed,sS,hn,hr,mO]
   refine wcall1 (hmu) (by simp) (by simp) ?_
   simp [C.impl_MutateSeed,sS,hn,hr,mO]
   refine hL _ ?_;clear hL L
   refine oEn fun L hL=>?_
   simp [C.impl_MutateSeed,sS,hn,hr,mO]
   refine hL _ ?_;clear hL L
   simp [C.impl_MutateSeed,sS,hn,hr,mO]
   refine hK _ ?_;clear hK K
   show AWp _ _ _ _ _
   refine wseq ?_
   refine wseq ?_
   refine wreg fun K hK=>?_
   have hJ:K ⟨ofL [(1,.int k),(2,.pt (2,0) [] 0),(4,.pt (4,0) [] 0),(6,.pt (6,0) [] 0),(8,.pt (8,0) [] 0),(45,.bool (!(E.2 && M.2)))],ofRO [((2,0),some (.bx (sS s))),((4,0),some (.bx [D.int 0,D.int 0,.v (.slice none 0 0),.v (.slice none 0 0)])),((6,0),some (.bx (fO E.1))),((8,0),some (.bx (mO M.1)))]⟩:=by
    refine hK _ ?_;clear hK K
    show AWp _ _ _ _ _
    refine wcond _ rfl (fun hc2=>?_) (fun hc2=>?_)
    ·have hno:¬ (E.2=true/\M.2=true):=by
      rintro ⟨q1,q2⟩
      rw [q1,q2] at hc2
      simp at hc2
     refine wseq ?_
     refine wreg fun K hK=>?_
     simp [C.impl_MutateSeed,sS]
     refine hK _ ?_;clear hK K
     show AWp _ _ _ _ _
     refine wret ?_
     simp [C.impl_MutateSeed,sS,hm,hno,sO,ints,rows]
    ·have hyes:E.2=true/\M.2=true:=by simpa using hc2
     refine wskip ?_
     show AWp _ _ _ _ _
     refine wseq ?_
     refine wregI ([0,1] ++ ([2,3])) rfl fun K hK=>?_
     refine oSg fun L hL=>?_
     simp [C.impl_MutateSeed,sS,sO]
     refine wcall1 (hcopy) (by simp) (by simp) ?_
     simp [C.impl_MutateSeed,sS,sO]
     refine hL _ ?_;clear hL L
     refine oEn fun L hL=>?_
     simp [C.impl_MutateSeed,sS,sO]
     refine hL _ ?_;clear hL L
     simp [C.impl_MutateSeed,sS,sO]
     refine hK _ ?_;clear hK K
     show AWp _ _ _ _ _
     refine wseq ?_
     refine wreg fun K hK=>?_
     simp [C.impl_MutateSeed,sS,mO]
     refine hK _ ?_;clear hK K
     show AWp _ _ _ _ _
     refine wseq ?_
     refine wreg fun K hK=>?_
     simp [C.impl_MutateSeed,sS,fO,show k < s.f.length by omega,show (k:Int) < s.f.length by omega,fO_0 (show k < s.f.length by omega),fO_1 (show k < s.f.length by omega),fO_set2]
     refine hK _ ?_;clear hK K
     show AWp _ _ _ _ _
     refine wseq ?_
     refine wreg fun K hK=>?_
     simp [C.impl_MutateSeed,sS]
     refine hK _ ?_;clear hK K
     show AWp _ _ _ _ _
     refine wret ?_
     simp [C.impl_MutateSeed,sS,hm,hyes,sO]
   clear hK
   by_cases h1:E.2=true
   ·simp [C.impl_MutateSeed,sS,h1]
    refine cast (congrArg K ?_) hJ
    simp [hn,hr,fO,mO,sS,sS,h1]
   ·simp [C.impl_MutateSeed,sS,h1]
    refine cast (congrArg K ?_) hJ
    simp [hn,hr,fO,mO,sS,sS,h1]
 clear hK
 by_cases h1:SeedOK s
 ·have hwn:IntKind.i64.wrap (s.m.n - 1)=s.m.n - 1:=by have:=h1.1.1.1;exact wrapOk (by omega) (by omega)
  have hle:∀ x:Int,(x<=s.m.n - 1)=(x < s.m.n):=fun x=>by rw [eq_iff_iff];omega
  refine oSg fun L hL=>?_
  simp [C.impl_MutateSeed,sS,hwn,hle,h1]
  refine wcall1 (impl_SeedOk_c s hx hl hf) (by simp) (by simp) ?_
  simp [C.impl_MutateSeed,sS,hwn,hle,h1]
  refine hL _ ?_;clear hL L
  refine oSg fun L hL=>?_
  simp [C.impl_MutateSeed,sS,hwn,hle,h1]
  refine wcall1 (impl_within_c k 0 (s.m.n - 1)) (by simp) (by simp) ?_
  simp [C.impl_MutateSeed,sS,hwn,hle,h1]
  refine hL _ ?_;clear hL L
  refine oEn fun L hL=>?_
  simp [C.impl_MutateSeed,sS,hwn,hle,h1]
  refine hL _ ?_;clear hL L
  simp [C.impl_MutateSeed,sS,hwn,hle,h1]
  refine cast (congrArg K ?_) hJ
  simp [Bool.not_and,sS,h1]
 ·refine oSg fun L hL=>?_
  simp [C.impl_MutateSeed,sS,h1]
  refine wcall1 (impl_SeedOk_c s hx hl hf) (by simp) (by simp) ?_
  simp [C.impl_MutateSeed,sS,h1]
  refine hL _ ?_;clear hL L
  refine oSg fun L hL=>?_
  simp [C.impl_MutateSeed,sS,h1]
  refine hL _ ?_;clear hL L
  refine oEn fun L hL=>?_
  simp [C.impl_MutateSeed,sS,h1]
  refine hL _ ?_;clear hL L
  simp [C.impl_MutateSeed,sS,h1]
  refine cast (congrArg K ?_) hJ
  simp [Bool.not_and,sS,h1]
end Go.Proofs.Ytncfmemhjahpeaa.Ab
namespace Go.Proofs.Ytncfmemhjahpeaa.Ab
open Go
set_option maxRecDepth 10000
set_option maxHeartbeats 4000000
def agL (v:Nat) (l:List DI):FV:=.ag [.int v,.d (.sh 2 l.length (rows gM l))]
def dgI (d:Dg):DI:=(d.1,d.2)
theorem toN_dgI (d:Dg):toN (dgI d)=d:=rfl
theorem dgI_toN {v:Int} {d:DI} (h:IsDg v d):dgI (toN d)=d:=by
 have:=h.2
 unfold dgI toN
 exact Prod.ext (by dsimp only;omega) (by dsimp only;omega)
theorem besI_sd {v a b:Nat} (hv:4<=v) (ha:a < v) (hb:b < v) (hab:a≠b):besI v a b=sd v (srt a b):=by
 have key:∀ a b:Nat,a < b->b < v->besI v a b=sd v (a,b):=fun a b h1 h2=>by
  rw [besI_lt (by omega) (by omega) (by omega) (by omega),Bool.eq_iff_iff]
  simp only [sd,decide_eq_true_eq,Bool.or_eq_true,Bool.and_eq_true]
  constructor
  ·rintro (h | ⟨h3,h4⟩)
   ·exact .inl (by rw [show a+1=b by omega];exact Nat.beq_refl b)
   ·exact .inr ⟨by rw [show a=0 by omega];rfl,by rw [show b+1=v by omega];exact Nat.beq_refl v⟩
  ·rintro (h | ⟨h3,h4⟩)
   ·have:=Nat.eq_of_beq_eq_true h
    omega
   ·have:=Nat.eq_of_beq_eq_true h3
    have:=Nat.eq_of_beq_eq_true h4
    omega
 rcases Nat.lt_or_gt_of_ne hab with g | g
 ·rw [srt_lt g]
  exact key a b g hb
 ·rw [srt_gt g,besI_com]
  exact key b a g ha
theorem srt_min (a b:Nat):dgI (srt a b)=(((min a b:Nat):Int),((max a b:Nat):Int)):=by
 unfold dgI
 rcases Nat.lt_trichotomy a b with h | h | h
 ·rw [srt_lt h,Nat.min_eq_left (by omega),Nat.max_eq_right (by omega)]
 ·subst h
  rw [show srt a a=(a,a) by unfold srt;split <;> rfl,Nat.min_self,Nat.max_self]
 ·rw [srt_gt h,Nat.min_eq_right (by omega),Nat.max_eq_left (by omega)]
theorem mem_toN {v:Int} {l:List DI} (h:∀ d∈l,IsDg v d) (d:Dg):dgI d∈l↔d∈l.map toN:=by
 rw [List.mem_map]
 constructor
 ·exact fun hm=>⟨_,hm,toN_dgI d⟩
 ·rintro ⟨x,hx,rfl⟩
  rw [dgI_toN (h x hx)]
  exact hx
theorem kn_eq {v:Nat} {l:List DI} (h:∀ d∈l,IsDg v d) (a b:Nat):kn v (l.map toN) a b=(sd v (srt a b) || decide (dgI (srt a b)∈l)):=by
 unfold kn knD
 congr 1
 rw [Bool.eq_iff_iff,List.any_eq_true,decide_eq_true_eq,mem_toN h]
 constructor
 ·rintro ⟨x,hx,hq⟩
  rw [dgq_eq] at hq
  rw [hq]
  exact hx
 ·exact fun hm=>⟨_,hm,dgq_eq.2 rfl⟩
theorem impl_lengths_known_c (v:Nat) (l:List DI) (hx:l.length < 4611686018427387904) (hv:4<=v/\v<=8) (hl:∀ d∈l,IsDg v d) (a b:Nat) (ha:a < v) (hb:b < v) (hab:a≠b):ACalls Try.prog F.impl_lengths_known [agL v l,.int a,.int b] [] true (fun outs res=>outs=[]/\res=[.one (D.bool (kn v (l.map toN) a b))]):=by
 have hbs:=impl_beside_c v a b (by omega) (by omega) (by omega)
 have hct:=slices_Contains_impl_Diagonal_impl_Diagonal_c l (dgI (srt a b)) hx
 rw [besI_sd hv.1 ha hb hab] at hbs
 rw [srt_min] at hct
 simp only [agD] at hct
 have hmin:min (a:Int) b=((min a b:Nat):Int):=by omega
 have hmax:max (a:Int) b=((max a b:Nat):Int):=by omega
 rw [kn_eq hl,srt_min]
 refine ACalls.of_body (C:=C.impl_lengths_known) (n:=Try.f60.ntmps) tabT folT Try.func60 rfl (by kernel_rfl) rfl (Nat.le_of_ble_eq_true rfl) (by decide) (by kernel_rfl) (by kernel_rfl) rfl (by simp) (by simp) ?_
 simp only [Try.f60]
 refine wseq ?_
 refine wreg fun K hK=>?_
 simp [C.impl_lengths_known,agL]
 refine hK _ ?_;clear hK K
 show AWp _ _ _ _ _
 refine wseq ?_
 refine wregI ([0,1,2,3,4] ++ ([5,6,7,8,9,10,11,12,13,14,15] ++ ([16,17]))) rfl fun K hK=>?_
 have hJ:K ⟨ofL [(6,.bool (sd v (srt a b) || decide ((((min a b:Nat):Int),((max a b:Nat):Int))∈l)))],ofRO []⟩:=by
  refine hK _ ?_;clear hK K
  show AWp _ _ _ _ _
  refine wret ?_
  simp [C.impl_lengths_known,agL]
 clear hK
 by_cases h1:sd v (srt a b)=true
 ·refine oSg fun L hL=>?_
  simp [C.impl_lengths_known,agL,hmin,hmax,h1]
  refine wcall1 (hbs) (by simp) (by simp) ?_
  simp [C.impl_lengths_known,agL,hmin,hmax,h1]
  refine hL _ ?_;clear hL L
  refine oSg fun L hL=>?_
  simp [C.impl_lengths_known,agL,hmin,hmax,h1]
  refine hL _ ?_;clear hL L
  refine oEn fun L hL=>?_
  simp [C.impl_lengths_known,agL,hmin,hmax,h1]
  refine hL _ ?_;clear hL L
  simp [C.impl_lengths_known,agL,hmin,hmax,h1]
  refine cast (congrArg K ?_) hJ
  simp [h1,agL,h1]
 ·refine oSg fun L hL=>?_
  simp [C.impl_lengths_known,agL,hmin,hmax,h1]
  refine wcall1 (hbs) (by simp) (by simp) ?_
  simp [C.impl_lengths_known,agL,hmin,hmax,h1]
  refine hL _ ?_;clear hL L
  refine oSg fun L hL=>?_
  simp [C.impl_lengths_known,agL,hmin,hmax,h1]
  refine wcall1 (hct) (by simp) (by simp) ?_
  simp [C.impl_lengths_known,agL,hmin,hmax,h1]
  refine hL _ ?_;clear hL L
  refine oEn fun L hL=>?_
  simp [C.impl_lengths_known,agL,hmin,hmax,h1]
  refine hL _ ?_;clear hL L
  simp [C.impl_lengths_known,agL,hmin,hmax,h1]
  refine cast (congrArg K ?_) hJ
  simp [h1,agL,h1]
theorem monoF_unit {n k:Nat} (hn:1<=n/\n<=8):monoF (unitL n k)=unitF n k:=by
 have h:=(lb_unit (k:=k) hn).right
 have hl:=(unitL_bd (n:=n) (k:=k)).1
 unfold monoF
 rw [hl]
 exact if_pos h
theorem LenP.sm {v:Nat} {l:List Dg} {a c:Nat} {f:Lau} (h:LenP v l a c f):SmF f:=(small_right h.lb.right).sm'
theorem isDg_srt {v a c:Nat} (hv:4<=v/\v<=8) (hac:a≠c) (ha:a < v) (hc:c < v) (hs:sd v (srt a c)=false):IsDg v (dgI (srt a c)):=by
 rw [<-besI_sd hv.1 ha hc hac] at hs
 have key:∀ a c:Nat,a < c->c < v->besI v a c=false->IsDg v (dgI (srt a c)):=fun a c h1 h2 h3=>by
  rw [besI_lt (by omega) (by omega) (by omega) (by omega)] at h3
  have:=of_decide_eq_false h3
  rw [srt_lt h1]
  unfold IsDg dgI
  dsimp only
  omega
 rcases Nat.lt_or_gt_of_ne hac with g | g
 ·exact key a c g hc hs
 ·rw [srt_com]
  exact key c a g ha (by rw [besI_com];exact hs)
def OfC (v:Nat) (l:List DI) (a c:Nat):Prop:=ACalls Try.prog F.impl_lengths_of [agL v l,.int a,.int c] [] true (fun outs res=>outs=[]/\∃ f,LenP v (l.map toN) a c f/\res=[.ag (fO f),.one (D.bool true)])
theorem impl_lengths_of_c (v:Nat) (l:List DI) (hT:TriI v l) (a c:Nat) (ha:a < v) (hc:c < v) (hac:a≠c) (ih:∀ a' c',a' < v->c' < v->a'≠c'->cntD (l.map toN) a' c' < cntD (l.map toN) a c->OfC v l a' c'):OfC v l a c:=by
 have hv:4<=v/\v<=8:=by have:=hT.1;omega
 have hll:l.length=v - 3:=by have:=hT.2.1;omega
 have hx:l.length < 4611686018427387904:=by omega
 have hTr:=tri_of hT
 rw [Int.toNat_natCast] at hTr
 have hdg:=hT.2.2.1
 have hn8:1<=v - 3/\v - 3<=8:=by omega
 have hw3:IntKind.i64.wrap ((v:Int) - 3)=((v - 3:Nat):Int):=by rw [wrapOk (by omega) (by omega)];omega
 have hmin:min (a:Int) c=((min a c:Nat):Int):=by omega
 have hmax:max (a:Int) c=((max a c:Nat):Int):=by omega
 have hbs:=impl_beside_c v a c (by omega) (by omega) (by omega)
 rw [besI_sd hv.1 ha hc hac] at hbs
 have hIx:=slices_Index_impl_Diagonal_impl_Diagonal_c l (dgI (srt a c)) hx
 have hsm:=srt_min a c
 rw [hsm] at hIx
 simp only [agD] at hIx
 unfold OfC
 refine ACalls.of_body (C:=C.impl_lengths_of) (n:=Try.f25.ntmps) tabT folT Try.func25 rfl (by kernel_rfl) rfl (Nat.le_of_ble_eq_true rfl) (by decide) (by kernel_rfl) (by kernel_rfl) rfl (by simp) (by simp) ?_
 simp only [Try.f25]
 refine wseq ?_
 refine wreg fun K hK=>?_
 simp [C.impl_lengths_of,agL]
 refine hK _ ?_;clear hK K
 show AWp _ _ _ _ _
 refine wseq ?_
 refine wreg fun K hK=>?_
 simp [C.impl_lengths_of,agL,hmin,hmax]
 refine hK _ ?_;clear hK K
 show AWp _ _ _ _ _
 refine wseq ?_
 refine wseq ?_
 refine wregI ([0,1,2,3,4] ++ ([])) rfl fun K hK=>?_
 refine oSg fun L hL=>?_
 simp [C.impl_lengths_of,agL]
 refine wcall1 (hbs) (by simp) (by simp) ?_
 simp [C.impl_lengths_of,agL]
 refine hL _ ?_;clear hL L
 refine oEn fun L hL=>?_
 simp only [AOpsI]
 refine hL _ ?_;clear hL L
 simp [C.impl_lengths_of,agL]
 refine hK _ ?_;clear hK K
 show AWp _ _ _ _ _
 refine wcond _ rfl (fun hc1=>?_) (fun hc1=>?_)
 ·have hsd:sd v (srt a c)=true:=by simpa using hc1
  refine wseq ?_
  refine wregI ([0,1,2,3] ++ ([4,5])) rfl fun K hK=>?_
  refine oSg fun L hL=>?_
  simp [C.impl_lengths_of,agL,hw3]
  refine wcall1 (impl_ConstantLaurent_c (v - 3) hn8) (by simp) (by simp) ?_
  simp [C.impl_lengths_of,agL,hw3]
  refine hL _ ?_;clear hL L
  refine oEn fun L hL=>?_
  simp [C.impl_lengths_of,agL,hw3]
  refine hL _ ?_;clear hL L
  simp [C.impl_lengths_of,agL,hw3]
  refine hK _ ?_;clear hK K
  show AWp _ _ _ _ _
  refine wret ?_
  simp [C.impl_lengths_of,agL]
  exact ⟨oneF (v - 3),len_side hTr hac ha hc hsd,rfl⟩
 ·have hsd:sd v (srt a c)=false:=by simpa using hc1
  have hisd:=isDg_srt hv hac ha hc hsd
  refine wskip ?_
  show AWp _ _ _ _ _
  refine wseq ?_
  refine wseq ?_
  refine wregI ([0,1,2,3] ++ ([4])) rfl fun K hK=>?_
  refine oSg fun L hL=>?_
  simp [C.impl_lengths_of,agL]
  refine wcall (hIx) (by simp) (by simp) (by simp) ?_
  rintro outs res ⟨rfl,r,rfl,hr⟩
  simp [C.impl_lengths_of,agL]
  refine hL _ ?_;clear hL L
  refine oEn fun L hL=>?_
  simp [C.impl_lengths_of,agL]
  refine hL _ ?_;clear hL L
  simp [C.impl_lengths_of,agL]
  refine hK _ ?_;clear hK K
  show AWp _ _ _ _ _
  refine wseq ?_
  refine wreg fun K hK=>?_
  simp [C.impl_lengths_of,agL]
  refine hK _ ?_;clear hK K
  show AWp _ _ _ _ _
  refine wcond _ rfl (fun hc2=>?_) (fun hc2=>?_)
  ·obtain ⟨k,rfl,hk⟩:∃ k:Nat,r=k/\l[k]? = some (((min a c:Nat):Int),((max a c:Nat):Int)):=by
    rcases hr with ⟨h1,h2⟩ | h
    ·subst h1
     simp at hc2
    ·exact h
   have hkl:k < l.length:=(List.getElem?_eq_some_iff.1 hk).1
   have hkN:(l.map toN)[k]? = some (srt a c):=by rw [List.getElem?_map,hk,<-hsm];rfl
   have hmo:=iMono_c (unitL (v - 3) k) (by rw [(unitL_bd (n:=v - 3) (k:=k)).1];omega)
   rw [monoF_unit hn8] at hmo
   refine wseq ?_
   refine wregI ([0,1,2,3,4] ++ ([5] ++ ([6,7]))) rfl fun K hK=>?_
   refine oSg fun L hL=>?_
   simp [C.impl_lengths_of,agL,hw3]
   refine wcall1 (impl_unit_c (v - 3) k (by omega) (by omega)) (by simp) (by simp) ?_
   simp [C.impl_lengths_of,agL,hw3]
   refine hL _ ?_;clear hL L
   refine oSg fun L hL=>?_
   simp [C.impl_lengths_of,agL,hw3]
   refine wcall1 (hmo) (by simp [agL,hw3]) (by simp) ?_
   simp [C.impl_lengths_of,agL,hw3]
   refine hL _ ?_;clear hL L
   refine oEn fun L hL=>?_
   simp [C.impl_lengths_of,agL,hw3]
   refine hL _ ?_;clear hL L
   simp [C.impl_lengths_of,agL,hw3]
   refine hK _ ?_;clear hK K
   show AWp _ _ _ _ _
   refine wret ?_
   simp [C.impl_lengths_of,agL]
   exact ⟨unitF (v - 3) k,len_diag hTr hac ha hc hkN,rfl⟩
  ·have hnm:dgI (srt a c) ∉ l:=by
    rcases hr with ⟨h1,h2⟩ | ⟨k,h1,h2⟩
    ·rw [hsm]
     exact h2
    ·subst h1
     simp at hc2
   have hkn:kn v (l.map toN) a c=false:=by
    rw [kn_eq hdg,hsd]
    simpa using hnm
   obtain ⟨⟨e0,he0,hg0⟩,hall⟩:=tri_good hTr ha hc hac hkn
   refine wskip ?_
   show AWp _ _ _ _ _
   refine wseq ?_
   refine wseq ?_
   refine wreg fun K hK=>?_
   simp [C.impl_lengths_of,agL]
   refine hK _ ?_;clear hK K
   show AWp _ _ _ _ _
   refine wblock ?_
   refine wloop (fun k:Nat=>⟨ofL [(1,.int a),(2,.int c),(3,.pt (3,0) [] 0),(6,.pt (6,0) [] 0),(8,.pt (8,0) [] 0),(55,.d (.sh 2 l.length (rows gM l))),(56,.int l.length),(57,FV.int k)],ofRO [((3,0),some (.bx [D.int v,.sh 2 l.length (rows gM l)])),((6,0),some (.bx [D.int 0,.v (.slice none 0 0)])),((8,0),some (.bx [D.int (min a c:Nat),D.int (max a c:Nat)]))]⟩) (fun k=>k<=l.length/\∀ e∈(l.map toN).take k,good v (l.map toN) a c e=false) (fun k=>l.length - k) 0 (by simp [C.impl_lengths_of,agL]) (by simp) ?_
   intro x1 hx1 R1 hR1
   obtain ⟨hk,hno⟩:=hx1
   refine wseq ?_
   refine wreg fun K hK=>?_
   simp [C.impl_lengths_of,agL]
   refine hK _ ?_;clear hK K
   show AWp _ _ _ _ _
   refine wseq ?_
   refine wcond _ rfl (fun hc3=>?_) (fun hc3=>?_)
   ·have h1:x1 < l.length:=by have:=d_t hc3;omega
    obtain ⟨e,he⟩:∃ e,e=toN l[x1]:=⟨_,rfl⟩
    have hed:l[x1]=dgI e:=by rw [he];exact (dgI_toN (hdg _ (List.getElem_mem h1))).symm
    have he1:l[x1].1=(e.1:Int):=by rw [hed];rfl
    have he2:l[x1].2=(e.2:Int):=by rw [hed];rfl
    have hkN:(l.map toN)[x1]? = some e:=by rw [List.getElem?_map,List.getElem?_eq_getElem h1,he];rfl
    have heM:=List.mem_of_getElem? hkN
    have hem:=tri_mem hTr heM
    have hcx:=cross_c v (dgI (srt a c)) l[x1]
    have hcd:decide (IsDg v (dgI (srt a c))/\IsDg v l[x1]/\CrI (dgI (srt a c)) l[x1])=crs (srt a c) e:=by
     rw [Bool.eq_iff_iff,decide_eq_true_eq]
     have h2:=crI_toN hisd (hdg _ (List.getElem_mem h1))
     rw [toN_dgI,<-he] at h2
     rw [<-h2]
     exact ⟨fun h=>h.2.2,fun h=>⟨hisd,hdg _ (List.getElem_mem h1),h⟩⟩
    rw [hcd,hsm] at hcx
    simp only [agD,he1,he2] at hcx
    refine wskip ?_
    show AWp _ _ _ _ _
    refine wseq ?_
    refine wblock ?_
    refine wseq ?_
    refine wreg fun K hK=>?_
    simp [C.impl_lengths_of,agL,gM_0 h1,gM_1 h1,h1,he1,he2]
    refine hK _ ?_;clear hK K
    show AWp _ _ _ _ _
    refine wseq ?_
    refine wseq ?_
    refine wregI ([0,1,2,3,4] ++ ([5,6,7,8,9,10,11] ++ ([12,13,14,15,16,17,18,19] ++ ([20,21])))) rfl fun K hK=>?_
    have hJ:K ⟨ofL [(1,.int a),(2,.int c),(3,.pt (3,0) [] 0),(6,.pt (6,0) [] 0),(8,.pt (8,0) [] 0),(10,.int x1),(11,.pt (11,0) [] 0),(55,.d (.sh 2 l.length (rows gM l))),(56,.int l.length),(57,FV.int x1),(83,.bool (!good v (l.map toN) a c e))],ofRO [((3,0),some (.bx [D.int v,.sh 2 l.length (rows gM l)])),((6,0),some (.bx [D.int 0,.v (.slice none 0 0)])),((8,0),some (.bx [D.int (min a c:Nat),D.int (max a c:Nat)])),((11,0),some (.bx [D.int e.1,D.int e.2]))]⟩:=by
     refine hK _ ?_;clear hK K
     show AWp _ _ _ _ _
     refine wcond _ rfl (fun hc4=>?_) (fun hc4=>?_)
     ·have hgf:good v (l.map toN) a c e=false:=by simpa using hc4
      refine wexit ?_
      show AWp _ _ _ _ _
      refine wreg fun K hK=>?_
      simp [C.impl_lengths_of,agL,wrap_succ (show x1 < 4611686018427387904 by omega)]
      refine hK _ ?_;clear hK K
      simp [C.impl_lengths_of,agL]
      refine hR1 (x1+1) ⟨h1,fun y hy=>?_⟩ (by omega)
      rw [List.take_succ_eq_append_getElem (by simpa using h1)] at hy
      rcases List.mem_append.1 hy with hy | hy
      ·exact hno y hy
      ·rw [List.mem_singleton,List.getElem_map] at hy
       rw [hy,<-he]
       exact hgf
     ·have hgt:good v (l.map toN) a c e=true:=by simpa using hc4
      obtain ⟨⟨q1,q2⟩,q3,q4⟩:=hall e heM hgt
      have g1:crs (srt a c) e=true:=by
       simp only [good,Bool.and_eq_true] at hgt
       exact hgt.1
      have hne1:a≠e.1/\a≠e.2/\c≠e.1/\c≠e.2:=by rw [crs_iff] at g1;rcases Nat.lt_or_gt_of_ne hac with g | g <;> simp only [srt_lt,srt_gt,g] at g1 <;> omega
      have i1:=ih a e.1 ha (by omega) hne1.1 (by omega)
      have i2:=ih c e.2 hc (by omega) hne1.2.2.2 (by omega)
      have i3:=ih a e.2 ha (by omega) hne1.2.1 (by omega)
      have i4:=ih c e.1 hc (by omega) hne1.2.2.1 (by omega)
      unfold OfC at i1 i2 i3 i4
      simp only [agL] at i1 i2 i3 i4
      refine wskip ?_
      show AWp _ _ _ _ _
      refine wseq ?_
      refine wregI ([0,1,2,3,4] ++ ([5,6,7,8,9,10])) rfl fun K hK=>?_
      refine oSg fun L hL=>?_
      simp [C.impl_lengths_of,agL]
      refine wcall (i1) (by simp) (by simp) (by simp) ?_
      rintro outs res ⟨rfl,f1,p1,rfl⟩
      simp [C.impl_lengths_of,agL]
      refine hL _ ?_;clear hL L
      refine oEn fun L hL=>?_
      simp [C.impl_lengths_of,agL]
      refine hL _ ?_;clear hL L
      simp [C.impl_lengths_of,agL]
      refine hK _ ?_;clear hK K
      show AWp _ _ _ _ _
      refine wseq ?_
      refine wregI ([0,1,2,3,4] ++ ([5,6,7,8,9,10])) rfl fun K hK=>?_
      refine oSg fun L hL=>?_
      simp [C.impl_lengths_of,agL]
      refine wcall (i2) (by simp) (by simp) (by simp) ?_
      rintro outs res ⟨rfl,f2,p2,rfl⟩
      simp [C.impl_lengths_of,agL]
      refine hL _ ?_;clear hL L
      refine oEn fun L hL=>?_
      simp [C.impl_lengths_of,agL]
      refine hL _ ?_;clear hL L
      simp [C.impl_lengths_of,agL]
      refine hK _ ?_;clear hK K
      show AWp _ _ _ _ _
      refine wseq ?_
      refine wregI ([0,1,2,3,4] ++ ([5,6,7,8,9,10])) rfl fun K hK=>?_
      refine oSg fun L hL=>?_
      simp [C.impl_lengths_of,agL]
      refine wcall (i3) (by simp) (by simp) (by simp) ?_
      rintro outs res ⟨rfl,f3,p3,rfl⟩
      simp [C.impl_lengths_of,agL]
      refine hL _ ?_;clear hL L
      refine oEn fun L hL=>?_
      simp [C.impl_lengths_of,agL]
      refine hL _ ?_;clear hL L
      simp [C.impl_lengths_of,agL]
      refine hK _ ?_;clear hK K
      show AWp _ _ _ _ _
      refine wseq ?_
      refine wregI ([0,1,2,3,4] ++ ([5,6,7,8,9,10])) rfl fun K hK=>?_
      refine oSg fun L hL=>?_
      simp [C.impl_lengths_of,agL]
      refine wcall (i4) (by simp) (by simp) (by simp) ?_
      rintro outs res ⟨rfl,f4,p4,rfl⟩
      simp [C.impl_lengths_of,agL]
      refine hL _ ?_;clear hL L
      refine oEn fun L hL=>?_
      simp [C.impl_lengths_of,agL]
      refine hL _ ?_;clear hL L
      simp [C.impl_lengths_of,agL]
      refine hK _ ?_;clear hK K
      show AWp _ _ _ _ _
      refine wseq ?_
      obtain ⟨P,R,S,Q,w1,w2,w3,w4,w5,wP,wR,wS⟩:=len_step hTr hac ha hc hkn hkN hgt p1 p2 p3 p4
      have m1:=mulOk f1 f2 p1.sm.1 p1.sm.2 p2.sm.1 p2.sm.2
      have m2:=mulOk f3 f4 p3.sm.1 p3.sm.2 p4.sm.1 p4.sm.2
      have hsP:=(small_right wP).sm'
      have hsR:=(small_right wR).sm'
      have hsS:=(small_right wS).sm'
      have hun:=(lb_unit (k:=x1) hn8).right
      have hsU:=(small_right hun).sm'
      have m3:=iAdd_c P 1 R hsP.1 hsP.2 hsR.1 hsR.2
      have m4:=iDiv_c doneOk S (unitF (v - 3) x1) hsS.1 hsS.2 hsU.1 hsU.2
      rw [w1] at m1
      rw [w2] at m2
      rw [w3] at m3
      rw [w4] at m4
      have hmo:=iMono_c (unitL (v - 3) x1) (by rw [(unitL_bd (n:=v - 3) (k:=x1)).1];omega)
      rw [monoF_unit hn8] at hmo
      have hut:=impl_unit_c (v - 3) x1 (by omega) (by omega)
      refine wregI ([0,1,2] ++ ([3,4,5,6,7,8])) rfl fun K hK=>?_
      refine oSg fun L hL=>?_
      simp [C.impl_lengths_of,agL,fO]
      refine wcall1 (m1) (by simp [agL,fO]) (by simp) ?_
      simp [C.impl_lengths_of,agL,fO]
      refine hL _ ?_;clear hL L
      refine oEn fun L hL=>?_
      simp [C.impl_lengths_of,agL,fO]
      refine hL _ ?_;clear hL L
      simp [C.impl_lengths_of,agL,fO]
      refine hK _ ?_;clear hK K
      show AWp _ _ _ _ _
      refine wseq ?_
      refine wregI ([0,1,2] ++ ([3,4,5,6,7,8])) rfl fun K hK=>?_
      refine oSg fun L hL=>?_
      simp [C.impl_lengths_of,agL,fO]
      refine wcall1 (m2) (by simp [agL,fO]) (by simp) ?_
      simp [C.impl_lengths_of,agL,fO]
      refine hL _ ?_;clear hL L
      refine oEn fun L hL=>?_
      simp [C.impl_lengths_of,agL,fO]
      refine hL _ ?_;clear hL L
      simp [C.impl_lengths_of,agL,fO]
      refine hK _ ?_;clear hK K
      show AWp _ _ _ _ _
      refine wseq ?_
      refine wregI ([0,1,2] ++ ([3,4,5,6,7,8])) rfl fun K hK=>?_
      refine oSg fun L hL=>?_
      simp [C.impl_lengths_of,agL,fO]
      refine wcall1 (m3) (by simp [agL,fO]) (by simp) ?_
      simp [C.impl_lengths_of,agL,fO]
      refine hL _ ?_;clear hL L
      refine oEn fun L hL=>?_
      simp [C.impl_lengths_of,agL,fO]
      refine hL _ ?_;clear hL L
      simp [C.impl_lengths_of,agL,fO]
      refine hK _ ?_;clear hK K
      show AWp _ _ _ _ _
      refine wseq ?_
      refine wseq ?_
      refine wregI ([0,1,2,3,4,5,6,7,8,9,10,11,12,13,14,15,16,17,18,19,20,21,22,23,24,25]) rfl fun K hK=>?_
      refine oEn fun L hL=>?_
      simp [C.impl_lengths_of,agL]
      refine hL _ ?_;clear hL L
      simp [C.impl_lengths_of,agL]
      refine hK _ ?_;clear hK K
      show AWp _ _ _ _ _
      refine wcond _ rfl (fun hc5=>?_) (fun hc5=>?_)
      ·simp at hc5
      ·refine wskip ?_
       show AWp _ _ _ _ _
       refine wseq ?_
       refine wdrawI [(true,0),(true,1),(true,2),(true,3),(true,4),(false,5),(false,6),(false,7),(true,8),(true,9),(false,10),(true,11)] ⟨by kernel_rfl,by kernel_rfl⟩ ([0,1,2,3,4,5] ++ ([6] ++ ([7] ++ ([8,9,10,11])))) rfl fun K hK=>?_
       have hJ:K ⟨ofL [(6,.pt (6,0) [] 0),(7,.bool true)],ofRO [((6,0),some (.bx [D.int Q.v,.ow 2 Q.ts.length (rows tO Q.ts)]))]⟩:=by
        refine hK _ ?_;clear hK K
        show AWp _ _ _ _ _
        refine wret ?_
        simp [C.impl_lengths_of,agL]
        exact ⟨Q,w5,by simp [fO]⟩
       clear hK
       simp [C.impl_lengths_of,hw3]
       repeat' first
        | (refine wcall1 hut ?_ (by simp) ?_;(focus (simp;done));simp [C.impl_lengths_of,hw3])
        | (refine wcall1 hmo ?_ (by simp) ?_;(focus (simp;done));simp [C.impl_lengths_of,fO])
        | (refine wcall1 m4 ?_ (by simp) ?_;(focus (simp [fO];done));simp [C.impl_lengths_of,fO])
        | (refine cast (congrArg K ?_) hJ;simp [fO];done)
        | refine And.intro ?_ ?_
    clear hK
    by_cases g1:crs (srt a c) e=true
    ·by_cases g2:kn v (l.map toN) a e.1=true
     ·have hne1:a≠e.1:=fun q=>by rw [crs_iff] at g1;rcases Nat.lt_or_gt_of_ne hac with g | g <;> simp only [srt_lt,srt_gt,g] at g1 <;> omega
      have hne2:a≠e.2:=fun q=>by rw [crs_iff] at g1;rcases Nat.lt_or_gt_of_ne hac with g | g <;> simp only [srt_lt,srt_gt,g] at g1 <;> omega
      refine oSg fun L hL=>?_
      simp [C.impl_lengths_of,agL,agL,g1,g2]
      refine wcall1 (hcx) (by simp) (by simp) ?_
      simp [C.impl_lengths_of,agL,agL,g1,g2]
      refine hL _ ?_;clear hL L
      refine oSg fun L hL=>?_
      simp [C.impl_lengths_of,agL,agL,g1,g2]
      refine wcall1 (impl_lengths_known_c v l hx hv hdg a e.1 ha (by omega) hne1) (by simp [agL,agL]) (by simp) ?_
      simp [C.impl_lengths_of,agL,agL,g1,g2]
      refine hL _ ?_;clear hL L
      refine oSg fun L hL=>?_
      simp [C.impl_lengths_of,agL,agL,g1,g2]
      refine wcall1 (impl_lengths_known_c v l hx hv hdg a e.2 ha (by omega) hne2) (by simp [agL,agL]) (by simp) ?_
      simp [C.impl_lengths_of,agL,agL,g1,g2]
      refine hL _ ?_;clear hL L
      refine oEn fun L hL=>?_
      simp [C.impl_lengths_of,agL,agL,g1,g2]
      refine hL _ ?_;clear hL L
      simp [C.impl_lengths_of,agL,agL,g1,g2]
      refine cast (congrArg K ?_) hJ
      simp [g1,g2,good,agL,g1,g2]
     ·have hne1:a≠e.1:=fun q=>by rw [crs_iff] at g1;rcases Nat.lt_or_gt_of_ne hac with g | g <;> simp only [srt_lt,srt_gt,g] at g1 <;> omega
      refine oSg fun L hL=>?_
      simp [C.impl_lengths_of,agL,agL,g1,g2]
      refine wcall1 (hcx) (by simp) (by simp) ?_
      simp [C.impl_lengths_of,agL,agL,g1,g2]
      refine hL _ ?_;clear hL L
      refine oSg fun L hL=>?_
      simp [C.impl_lengths_of,agL,agL,g1,g2]
      refine wcall1 (impl_lengths_known_c v l hx hv hdg a e.1 ha (by omega) hne1) (by simp [agL,agL]) (by simp) ?_
      simp [C.impl_lengths_of,agL,agL,g1,g2]
      refine hL _ ?_;clear hL L
      refine oSg fun L hL=>?_
      simp [C.impl_lengths_of,agL,agL,g1,g2]
      refine hL _ ?_;clear hL L
      refine oEn fun L hL=>?_
      simp [C.impl_lengths_of,agL,agL,g1,g2]
      refine hL _ ?_;clear hL L
      simp [C.impl_lengths_of,agL,agL,g1,g2]
      refine cast (congrArg K ?_) hJ
      simp [g1,g2,good,agL,g1,g2]
    ·refine oSg fun L hL=>?_
     simp [C.impl_lengths_of,agL,agL,g1]
     refine wcall1 (hcx) (by simp) (by simp) ?_
     simp [C.impl_lengths_of,agL,agL,g1]
     refine hL _ ?_;clear hL L
     refine oSg fun L hL=>?_
     simp [C.impl_lengths_of,agL,agL,g1]
     refine hL _ ?_;clear hL L
     refine oSg fun L hL=>?_
     simp [C.impl_lengths_of,agL,agL,g1]
     refine hL _ ?_;clear hL L
     refine oEn fun L hL=>?_
     simp [C.impl_lengths_of,agL,agL,g1]
     refine hL _ ?_;clear hL L
     simp [C.impl_lengths_of,agL,agL,g1]
     refine cast (congrArg K ?_) hJ
     simp [g1,good,agL,g1]
   ·have h1:x1=l.length:=by have:=d_f hc3;omega
    refine wexit ?_
    show AWp _ _ _ _ _
    refine wseq ?_
    refine wreg fun K hK=>?_
    rw [h1,List.take_of_length_le (by simp)] at hno
    rw [hno e0 he0] at hg0
    exact absurd hg0 (by simp)
theorem of_c (v:Nat) (l:List DI) (hT:TriI v l):∀ (n a c:Nat),cntD (l.map toN) a c<=n->a < v->c < v->a≠c->OfC v l a c
 | n,a,c,hn,ha,hc,hac=>by
  refine impl_lengths_of_c v l hT a c ha hc hac fun a' c' h1 h2 h3 h4=>?_
  match n with
  | 0=>omega
  | n+1=>exact of_c v l hT n a' c' (by omega) h1 h2 h3
end Go.Proofs.Ytncfmemhjahpeaa.Ab
namespace Go.Proofs.Ytncfmemhjahpeaa.Ab
open Go
set_option maxRecDepth 10000
set_option maxHeartbeats 4000000
noncomputable def lnL (v:Nat) (l:List Dg) (a c:Nat):Lau:=open Classical in if h:∃ f,LenP v l a c f then Classical.choose h else zeroF
theorem lnL_eq {v:Nat} {l:List Dg} (h:Tri v l) {a c:Nat} {f:Lau} (hf:LenP v l a c f):lnL v l a c=f:=by
 unfold lnL
 rw [dif_pos ⟨f,hf⟩]
 exact LenP.uniq h (Classical.choose_spec (⟨f,hf⟩:∃ f,LenP v l a c f)) hf
noncomputable def arcF (v:Int) (l:List DI) (d:DI):Lau×Bool:=open Classical in if TriI v l/\IsDg v d then (lnL v.toNat (l.map toN) d.1.toNat d.2.toNat,true) else (zeroF,false)
theorem impl_ArcLaurent_c (v:Int) (l:List DI) (d:DI) (hx:l.length < 4611686018427387904):ACalls Try.prog F.impl_ArcLaurent [.int v,.d (.sh 2 l.length (rows gM l)),agD d] [] true (fun outs res=>outs=[]/\WkRs res [.ag (fO (arcF v l d).1),.one (D.bool (arcF v l d).2)]/\(TriI v l->IsDg v d->LenP v.toNat (l.map toN) d.1.toNat d.2.toNat (arcF v l d).1)):=by
 have hit:=impl_IsTriangulation_c v l hx
 have hid:=impl_IsDiagonal_c v d
 simp only [agD] at hid
 refine ACalls.of_body (C:=C.impl_ArcLaurent) (n:=Try.f8.ntmps) tabT folT Try.func8 rfl (by kernel_rfl) rfl (Nat.le_of_ble_eq_true rfl) (by decide) (by kernel_rfl) (by kernel_rfl) rfl (by simp) (by simp) ?_
 simp only [Try.f8]
 refine wseq ?_
 refine wreg fun K hK=>?_
 simp [C.impl_ArcLaurent,agD]
 refine hK _ ?_;clear hK K
 show AWp _ _ _ _ _
 refine wseq ?_
 refine wseq ?_
 refine wregI ([0,1,2] ++ ([3,4,5,6,7] ++ ([8,9]))) rfl fun K hK=>?_
 have hJ:K ⟨ofL [(0,.int v),(1,.d (.sh 2 l.length (rows gM l))),(5,.pt (5,0) [] 0),(6,.pt (6,0) [] 0),(17,.bool (!decide (TriI v l/\IsDg v d)))],ofRO [((5,0),some (.bx [D.int d.1,D.int d.2])),((6,0),some (.bx [D.int 0,.v (.slice none 0 0)]))]⟩:=by
  refine hK _ ?_;clear hK K
  show AWp _ _ _ _ _
  refine wcond _ rfl (fun hc1=>?_) (fun hc1=>?_)
  ·have hno:=nd_t hc1
   have hA:arcF v l d=(zeroF,false):=if_neg hno
   refine wseq ?_
   refine wreg fun K hK=>?_
   simp [C.impl_ArcLaurent,agD]
   refine hK _ ?_;clear hK K
   show AWp _ _ _ _ _
   refine wret ?_
   simp [C.impl_ArcLaurent,agD]
   rw [hA]
   simp [fO,zeroF,rows]
   exact fun h1 h2=>absurd ⟨h1,h2⟩ hno
  ·have hy:=nd_f hc1
   obtain ⟨hT,hD⟩:=hy
   have hDD:=hD.2
   obtain ⟨V,rfl⟩:∃ V:Nat,v=V:=⟨v.toNat,by have:=hT.1;omega⟩
   have hof:=of_c V l hT _ d.1.toNat d.2.toNat (Nat.le_refl _) (by omega) (by omega) (by omega)
   unfold OfC at hof
   simp only [agL] at hof
   rw [Int.toNat_of_nonneg (show 0<=d.1 by omega),Int.toNat_of_nonneg (show 0<=d.2 by omega)] at hof
   have hTr:=tri_of hT
   refine wskip ?_
   show AWp _ _ _ _ _
   refine wseq ?_
   refine wregI ([0,1,2,3,4,5,6,7] ++ ([8,9,10,11])) rfl fun K hK=>?_
   refine oSg fun L hL=>?_
   simp [C.impl_ArcLaurent,agD]
   refine wcall (hof) (by simp) (by simp) (by simp) ?_
   rintro outs res ⟨rfl,f,hf,rfl⟩
   simp [C.impl_ArcLaurent,agD]
   refine hL _ ?_;clear hL L
   refine oEn fun L hL=>?_
   simp [C.impl_ArcLaurent,agD]
   refine hL _ ?_;clear hL L
   simp [C.impl_ArcLaurent,agD]
   refine hK _ ?_;clear hK K
   show AWp _ _ _ _ _
   refine wret ?_
   rw [Int.toNat_natCast] at hTr
   have hA:arcF V l d=(f,true):=by
    unfold arcF
    rw [if_pos ⟨hT,hD⟩,Int.toNat_natCast,lnL_eq hTr hf]
   simp [C.impl_ArcLaurent,agD]
   rw [hA]
   exact ⟨by simp [fO],fun _ _=>hf⟩
 clear hK
 by_cases h1:TriI v l
 ·refine oSg fun L hL=>?_
  simp [C.impl_ArcLaurent,agD,h1]
  refine wcall1 (hit) (by simp) (by simp) ?_
  simp [C.impl_ArcLaurent,agD,h1]
  refine hL _ ?_;clear hL L
  refine oSg fun L hL=>?_
  simp [C.impl_ArcLaurent,agD,h1]
  refine wcall1 (hid) (by simp) (by simp) ?_
  simp [C.impl_ArcLaurent,agD,h1]
  refine hL _ ?_;clear hL L
  refine oEn fun L hL=>?_
  simp [C.impl_ArcLaurent,agD,h1]
  refine hL _ ?_;clear hL L
  simp [C.impl_ArcLaurent,agD,h1]
  refine cast (congrArg K ?_) hJ
  simp [h1,agD,h1]
 ·refine oSg fun L hL=>?_
  simp [C.impl_ArcLaurent,agD,h1]
  refine wcall1 (hit) (by simp) (by simp) ?_
  simp [C.impl_ArcLaurent,agD,h1]
  refine hL _ ?_;clear hL L
  refine oSg fun L hL=>?_
  simp [C.impl_ArcLaurent,agD,h1]
  refine hL _ ?_;clear hL L
  refine oEn fun L hL=>?_
  simp [C.impl_ArcLaurent,agD,h1]
  refine hL _ ?_;clear hL L
  simp [C.impl_ArcLaurent,agD,h1]
  refine cast (congrArg K ?_) hJ
  simp [h1,agD,h1]
end Go.Proofs.Ytncfmemhjahpeaa.Ab
namespace Go.Proofs.Ytncfmemhjahpeaa.Ab
open Go
set_option maxRecDepth 100000
def rowC (v a b:Nat):Bool:=Nat.ble (a+2) b && (Nat.blt 0 a || Nat.blt b (v - 1))
def rowD (v a b:Nat):List Dg:=((List.range b).filter (rowC v a)).map fun b'=>(a,b')
def allP (v a:Nat):List Dg:=(List.range a).flatMap fun a'=>rowD v a' v
theorem allP_all (v:Nat):allP v v=allD v:=rfl
theorem allP_succ (v a:Nat):allP v (a+1)=allP v a ++ rowD v a v:=by
 unfold allP
 rw [List.range_succ,List.flatMap_append]
 simp
theorem rowD_succ (v a b:Nat):rowD v a (b+1)=if rowC v a b=true then rowD v a b ++ [(a,b)] else rowD v a b:=by
 unfold rowD
 rw [List.range_succ,List.filter_append,List.map_append]
 by_cases h:rowC v a b=true
 ·simp [h]
 ·simp [h]
theorem rowD_start {v a b:Nat} (h:b<=a+2):rowD v a b=[]:=by
 unfold rowD
 rw [List.map_eq_nil_iff,List.filter_eq_nil_iff]
 intro x hx
 rw [List.mem_range] at hx
 simp only [rowC,Bool.and_eq_true,Nat.ble_eq,not_and]
 omega
theorem rowC_eq (v a b:Nat):rowC v a b=decide (a+2<=b/\(0 < a\/b < v - 1)):=by
 rw [Bool.eq_iff_iff]
 simp only [rowC,Bool.and_eq_true,Bool.or_eq_true,Nat.ble_eq,Nat.blt_eq,decide_eq_true_eq]
def fitB (F:List Dg) (d:Dg):Bool:=F.all fun e=>!crs e d
def chF (n:Nat):List Dg->List Dg->List (List Dg)
 | [],F=>if F.length=n then [F] else []
 | d :: ds,F=>if F.length=n then [F] else (if fitB F d=true then chF n ds (F ++ [d]) else []) ++ chF n ds F
theorem chF_full {n:Nat} {ds F:List Dg} (h:F.length=n):chF n ds F=[F]:=by cases ds <;> simp only [chF,if_pos h]
theorem chF_end {n:Nat} {F:List Dg} (h:F.length≠n):chF n [] F=[]:=by simp only [chF,if_neg h]
theorem chF_step {n i:Nat} {ds F:List Dg} (h:F.length≠n) (hi:i < ds.length):chF n (ds.drop i) F=(if fitB F ds[i]=true then chF n (ds.drop (i+1)) (F ++ [ds[i]]) else []) ++ chF n (ds.drop (i+1)) F:=by
 rw [List.drop_eq_getElem_cons hi]
 simp only [chF,if_neg h]
def Apart (F:List Dg):Prop:=F.Pairwise fun d e=>crs d e=false
theorem apart_snoc {F:List Dg} {d:Dg} (h:Apart F) (hf:fitB F d=true):Apart (F ++ [d]):=by
 unfold Apart at h ⊢
 rw [List.pairwise_append]
 refine ⟨h,List.pairwise_singleton _ _,fun x hx y hy=>?_⟩
 rw [List.mem_singleton] at hy
 subst hy
 have:=List.all_eq_true.1 hf x hx
 simpa using this
theorem chF_mem {n:Nat}:∀ {ds F t:List Dg},t∈chF n ds F->∃ S,t=F ++ S/\S.Sublist ds/\t.length=n/\(Apart F->Apart t)
 | [],F,t,h=>by
  simp only [chF] at h
  split at h
  ·rename_i hl
   rw [List.mem_singleton] at h
   subst h
   exact ⟨[],by simp,List.Sublist.refl _,hl,id⟩
  ·simp at h
 | d :: ds,F,t,h=>by
  simp only [chF] at h
  split at h
  ·rename_i hl
   rw [List.mem_singleton] at h
   subst h
   exact ⟨[],by simp,List.nil_sublist _,hl,id⟩
  ·rcases List.mem_append.1 h with h | h
   ·split at h
    ·rename_i hf
     obtain ⟨S,h1,h2,h3,h4⟩:=chF_mem h
     exact ⟨d :: S,by rw [h1,List.append_assoc];rfl,h2.cons_cons d,h3,fun ha=>h4 (apart_snoc ha hf)⟩
    ·simp at h
   ·obtain ⟨S,h1,h2,h3,h4⟩:=chF_mem h
    exact ⟨S,h1,h2.cons d,h3,h4⟩
def triL (v:Nat):List (List Dg):=chF (v - 3) (allD v) []
theorem triL_len {v:Nat} (h:4<=v/\v<=7):1<=(triL v).length/\(triL v).length<=42:=by
 obtain rfl | rfl | rfl | rfl:v=4\/v=5\/v=6\/v=7:=by omega
 all_goals decide +kernel
theorem allD_len {v:Nat} (h:4<=v/\v<=7):1<=(allD v).length/\(allD v).length<=42:=by
 obtain rfl | rfl | rfl | rfl:v=4\/v=5\/v=6\/v=7:=by omega
 all_goals decide +kernel
theorem triL_tri {v:Nat} (h:4<=v/\v<=8) {t:List Dg} (ht:t∈triL v):Tri v t:=by
 obtain ⟨S,h1,h2,h3,h4⟩:=chF_mem ht
 rw [List.nil_append] at h1
 subst h1
 have hn:=h2.nodup (allD_nodup h.2)
 refine ⟨h,h3,fun d hd=>h2.subset hd,?_⟩
 exact (List.nodup_iff_pairwise_ne.1 hn).and (h4 List.Pairwise.nil)
theorem perm_full {α:Type} [DecidableEq α]:∀ {l r:List α},l.Nodup->(∀ x∈l,x∈r)->r.length<=l.length->l.Perm r
 | [],r,_,_,h=>by
  have:r=[]:=List.length_eq_zero_iff.1 (by simpa using h)
  rw [this]
 | a :: l,r,hn,hs,h=>by
  have ha:=hs a (by simp)
  obtain ⟨h1,h2⟩:=List.nodup_cons.1 hn
  have hp:=List.perm_cons_erase ha
  have hl:=List.length_erase_of_mem ha
  have hpos:=List.length_pos_of_mem ha
  refine (List.Perm.cons a (perm_full h2 (fun x hx=>?_) ?_)).trans hp.symm
  ·refine (List.mem_erase_of_ne ?_).2 (hs x (by simp [hx]))
   rintro rfl
   exact h1 hx
  ·simp only [List.length_cons] at h
   omega
theorem names_perm {t:List Dg} {e:List Int} (hl:e.length=t.length) (hb:∀ x∈e,0<=x/\x < t.length) (hn:e.Nodup):(e.map fun x=>t.getD x.toNat (0,0)).Perm t:=by
 have h1:(e.map Int.toNat).Perm (List.range t.length):=by
  refine perm_full ?_ ?_ (by simp [hl])
  ·refine List.nodup_iff_pairwise_ne.2 ?_
   rw [List.pairwise_map]
   refine (List.Pairwise.and_mem.1 (List.nodup_iff_pairwise_ne.1 hn)).imp fun {a b} ⟨ha,hb',hab⟩ h=>hab ?_
   have:=hb a ha
   have:=hb b hb'
   omega
  ·intro x hx
   obtain ⟨y,hy,rfl⟩:=List.mem_map.1 hx
   have:=hb y hy
   rw [List.mem_range]
   omega
 have h2:=h1.map fun i=>t.getD i (0,0)
 rw [List.map_map] at h2
 refine h2.trans (List.Perm.of_eq ?_)
 refine List.ext_getElem (by simp) fun i h3 h4=>?_
 simp [List.getD_eq_getElem?_getD,h4]
end Go.Proofs.Ytncfmemhjahpeaa.Ab
namespace Go.Proofs.Ytncfmemhjahpeaa.Ab
open Go
set_option maxRecDepth 10000
set_option maxHeartbeats 4000000
def lDD (t:List Dg):List D:=[.ow 2 t.length (rows gM (t.map dgI))]
theorem lDD_one (t:List Dg):(lDD t).length=1:=rfl
@[simp] theorem lDD_length (l:List (List Dg)):(rows lDD l).length=l.length:=by rw [rows_length lDD_one l,Nat.one_mul]
@[simp] theorem lDD_noSh (l:List (List Dg)):noShL (rows lDD l):=rows_noSh (fun t=>by simp [lDD,noShL,noSh,gM_noSh]) l
theorem lDD_snoc (L:List (List Dg)) (F:List Dg):rows lDD L ++ [D.ow 2 F.length (rows gM (F.map dgI))]=rows lDD (L ++ [F]):=by
 rw [rows_append]
 simp [rows,lDD]
theorem dg_snoc (F:List Dg) (d:Dg):rows gM (F.map dgI) ++ [D.v (.int .i64 (d.1:Int)),D.v (.int .i64 (d.2:Int))]=rows gM ((F ++ [d]).map dgI):=by
 rw [List.map_append,gM_snoc]
 rfl
def lsD (v a b:Nat):List Dg:=allP v a ++ rowD v a b
theorem lsD_succ (v a b:Nat):lsD v a (b+1)=if rowC v a b=true then lsD v a b ++ [(a,b)] else lsD v a b:=by
 unfold lsD
 rw [rowD_succ]
 split
 ·rw [List.append_assoc]
 ·rfl
theorem lsD_start (v a:Nat):lsD v a (a+2)=allP v a:=by
 unfold lsD
 rw [rowD_start (by omega),List.append_nil]
theorem allP_len (v a:Nat):(allP v a).length<=a*v:=by
 induction a with
 | zero=>simp [allP]
 | succ a ih=>
  rw [allP_succ,List.length_append,Nat.succ_mul]
  have:(rowD v a v).length<=v:=by
   unfold rowD
   rw [List.length_map]
   exact Nat.le_trans (List.length_filter_le _ _) (by simp)
  omega
theorem rowD_len (v a b:Nat):(rowD v a b).length<=b:=by
 unfold rowD
 rw [List.length_map]
 exact Nat.le_trans (List.length_filter_le _ _) (by simp)
theorem spec_l5Polygon_c (v:Int):ACalls Try.prog F.spec_l5Polygon [.int v] [] true (fun outs res=>outs=[]/\res=[.one (D.bool (decide (4<=v/\v<=8)))]):=by
 refine ACalls.of_body (C:=C.spec_l5Polygon) (n:=Try.f79.ntmps) tabT folT Try.func79 rfl (by kernel_rfl) rfl (Nat.le_of_ble_eq_true rfl) (by decide) (by kernel_rfl) (by kernel_rfl) rfl (by simp) (by simp) ?_
 simp only [Try.f79]
 refine wseq ?_
 refine wreg fun K hK=>?_
 simp [C.spec_l5Polygon]
 refine hK _ ?_;clear hK K
 show AWp _ _ _ _ _
 refine wseq ?_
 refine wregI ([0,1] ++ ([2])) rfl fun K hK=>?_
 refine oSg fun L hL=>?_
 simp [C.spec_l5Polygon]
 refine wcall1 (spec_l1In_c v 4 8) (by simp) (by simp) ?_
 simp [C.spec_l5Polygon]
 refine hL _ ?_;clear hL L
 refine oEn fun L hL=>?_
 simp [C.spec_l5Polygon]
 refine hL _ ?_;clear hL L
 simp [C.spec_l5Polygon]
 refine hK _ ?_;clear hK K
 show AWp _ _ _ _ _
 refine wret ?_
 simp [C.spec_l5Polygon]
theorem spec_l5Cross_c (x y z w:Int):ACalls Try.prog F.spec_l5Cross [.ag [.int x,.int y],.ag [.int z,.int w]] [] true (fun outs res=>outs=[]/\res=[.one (D.bool (decide (CrI (x,y) (z,w))))]):=by
 refine ACalls.of_body (C:=C.spec_l5Cross) (n:=Try.f96.ntmps) tabT folT Try.func96 rfl (by kernel_rfl) rfl (Nat.le_of_ble_eq_true rfl) (by decide) (by kernel_rfl) (by kernel_rfl) rfl (by simp) (by simp) ?_
 simp only [Try.f96]
 refine wseq ?_
 refine wreg fun K hK=>?_
 simp [C.spec_l5Cross]
 refine hK _ ?_;clear hK K
 show AWp _ _ _ _ _
 refine wseq ?_
 refine wregI ([0,1,2,3,4,5,6,7,8,9,10,11,12,13,14,15,16,17,18,19,20,21,22,23,24,25,26,27,28,29,30,31,32,33,34,35,36,37,38,39,40]) rfl fun K hK=>?_
 have hJ:K ⟨ofL [(4,.bool (decide (CrI (x,y) (z,w))))],ofRO []⟩:=by
  refine hK _ ?_;clear hK K
  show AWp _ _ _ _ _
  refine wret ?_
  simp [C.spec_l5Cross]
 clear hK
 by_cases h1:x < z <;> by_cases h2:z < y <;> by_cases h3:y < w <;> by_cases h4:z < x <;> by_cases h5:x < w <;> by_cases h6:w < y <;> first
  | (exfalso;omega)
  | (simp [C.spec_l5Cross,h1,h2,h3,h4,h5,h6];refine cast (congrArg K ?_) hJ;simp [CrI,h1,h2,h3,h4,h5,h6])
theorem spec_l5All_c (v:Nat) (hv:4<=v/\v<=8):ACalls Try.prog F.spec_l5All [.int v] [] true (fun outs res=>outs=[]/\res=[.one (.ow 2 (allD v).length (rows gM ((allD v).map dgI)))]):=by
 refine ACalls.of_body (C:=C.spec_l5All) (n:=Try.f52.ntmps) tabT folT Try.func52 rfl (by kernel_rfl) rfl (Nat.le_of_ble_eq_true rfl) (by decide) (by kernel_rfl) (by kernel_rfl) rfl (by simp) (by simp) ?_
 simp only [Try.f52]
 refine wseq ?_
 refine wreg fun K hK=>?_
 simp [C.spec_l5All]
 refine hK _ ?_;clear hK K
 show AWp _ _ _ _ _
 refine wseq ?_
 refine wreg fun K hK=>?_
 simp [C.spec_l5All]
 refine hK _ ?_;clear hK K
 show AWp _ _ _ _ _
 refine wseq ?_
 refine wseq ?_
 refine wreg fun K hK=>?_
 simp [C.spec_l5All]
 refine hK _ ?_;clear hK K
 show AWp _ _ _ _ _
 refine wblock ?_
 refine wloop (fun a:Nat=>⟨ofL [(0,.int v),(3,.al (3,0) [] 0 (allP v a).length),(4,.int a)],ofRO [((3,0),some (.ow 2 (allP v a).length (rows gM ((allP v a).map dgI))))]⟩) (fun a=>a<=v) (fun a=>v - a) 0 (by simp [C.spec_l5All,rows,allP]) (by simp) ?_
 intro x1 hx1 R1 hR1
 refine wseq ?_
 refine wseq ?_
 refine wreg fun K hK=>?_
 simp [C.spec_l5All]
 refine hK _ ?_;clear hK K
 show AWp _ _ _ _ _
 refine wcond _ rfl (fun hc1=>?_) (fun hc1=>?_)
 ·have h1:x1 < v:=by have:=d_t hc1;omega
  have hal:=allP_len v x1
  have hal2:x1*v<=8*8:=Nat.mul_le_mul (by omega) hv.2
  refine wskip ?_
  show AWp _ _ _ _ _
  refine wseq ?_
  refine wblock ?_
  refine wseq ?_
  refine wreg fun K hK=>?_
  simp [C.spec_l5All,wrapOk (x:=(x1:Int)+2) (by omega) (by omega)]
  refine hK _ ?_;clear hK K
  show AWp _ _ _ _ _
  refine wblock ?_
  refine wloop (fun b:Nat=>⟨ofL [(0,.int v),(3,.al (3,0) [] 0 (lsD v x1 b).length),(4,.int x1),(5,.int b)],ofRO [((3,0),some (.ow 2 (lsD v x1 b).length (rows gM ((lsD v x1 b).map dgI))))]⟩) (fun b=>x1+2<=b/\b<=max v (x1+2)) (fun b=>v+2 - b) (x1+2) (by simp [C.spec_l5All,lsD_start]) ⟨by omega,by omega⟩ ?_
  intro x2 hx2 R2 hR2
  refine wseq ?_
  refine wseq ?_
  refine wreg fun K hK=>?_
  simp [C.spec_l5All]
  refine hK _ ?_;clear hK K
  show AWp _ _ _ _ _
  refine wcond _ rfl (fun hc2=>?_) (fun hc2=>?_)
  ·have h2:x2 < v:=by have:=d_t hc2;omega
   have hrl:=rowD_len v x1 x2
   have hlen:(lsD v x1 x2).length<=72:=by unfold lsD;rw [List.length_append];omega
   have hsu:=lsD_succ v x1 x2
   have hrc:=rowC_eq v x1 x2
   obtain ⟨Q,hQ⟩:∃ Q,Q=lsD v x1 x2:=⟨_,rfl⟩
   rw [<-hQ] at hlen hsu
   rw [<-hQ]
   refine wskip ?_
   show AWp _ _ _ _ _
   refine wseq ?_
   refine wblock ?_
   refine wseq ?_
   refine wreg fun K hK=>?_
   have hJ:K ⟨ofL [(0,.int v),(3,.al (3,0) [] 0 Q.length),(4,.int x1),(5,.int x2),(26,.bool (decide (0 < x1\/(x2:Int) < (v:Int) - 1)))],ofRO [((3,0),some (.ow 2 Q.length (rows gM (Q.map dgI))))]⟩:=by
    refine hK _ ?_;clear hK K
    show AWp _ _ _ _ _
    refine wcond _ rfl (fun hc3=>?_) (fun hc3=>?_)
    ·have hcc:=d_t hc3
     have hr1:rowC v x1 x2=true:=by rw [hrc,decide_eq_true_eq];omega
     rw [if_pos hr1] at hsu
     refine wreg fun K hK=>?_
     simp [C.spec_l5All,show (Q.length+1)*16<=140737488355328 by omega,dg_snoc Q (x1,x2)]
     refine hK _ ?_;clear hK K
     show AWp _ _ _ _ _
     refine wreg fun K hK=>?_
     simp [C.spec_l5All,wrap_succ (show x2 < 4611686018427387904 by omega)]
     refine hK _ ?_;clear hK K
     simp [C.spec_l5All]
     refine cast (congrArg R2 ?_) (hR2 (x2+1) ⟨by omega,by omega⟩ (by omega))
     rw [hsu]
     simp
    ·have hcc:=d_f hc3
     have hr1:¬ rowC v x1 x2=true:=by rw [hrc,decide_eq_true_eq];omega
     rw [if_neg hr1] at hsu
     refine wskip ?_
     show AWp _ _ _ _ _
     refine wreg fun K hK=>?_
     simp [C.spec_l5All,wrap_succ (show x2 < 4611686018427387904 by omega)]
     refine hK _ ?_;clear hK K
     simp [C.spec_l5All]
     refine cast (congrArg R2 ?_) (hR2 (x2+1) ⟨by omega,by omega⟩ (by omega))
     rw [hsu]
     simp
   clear hK
   by_cases g1:0 < x1
   ·simp [C.spec_l5All,g1]
    refine cast (congrArg K ?_) hJ
    simp [g1]
   ·simp [C.spec_l5All,wrapOk (x:=(v:Int) - 1) (by omega) (by omega),g1]
    refine cast (congrArg K ?_) hJ
    simp [g1]
  ·have h2:v<=x2:=by have:=d_f hc2;omega
   have hend:lsD v x1 x2=allP v (x1+1):=by
    rw [allP_succ]
    unfold lsD
    by_cases e:x2=v
    ·rw [e]
    ·rw [rowD_start (b:=x2) (by omega),rowD_start (b:=v) (by omega)]
   refine wexit ?_
   show AWp _ _ _ _ _
   refine wreg fun K hK=>?_
   simp [C.spec_l5All,wrap_succ (show x1 < 4611686018427387904 by omega)]
   refine hK _ ?_;clear hK K
   simp [C.spec_l5All]
   refine cast (congrArg R1 ?_) (hR1 (x1+1) h1 (by omega))
   rw [hend]
   simp
 ·have h1:x1=v:=by have:=d_f hc1;omega
  refine wexit ?_
  show AWp _ _ _ _ _
  refine wseq ?_
  refine wreg fun K hK=>?_
  simp [C.spec_l5All]
  refine hK _ ?_;clear hK K
  show AWp _ _ _ _ _
  refine wret ?_
  simp [C.spec_l5All]
  rw [h1,allP_all]
  exact ⟨rfl,rfl⟩
end Go.Proofs.Ytncfmemhjahpeaa.Ab
namespace Go.Proofs.Ytncfmemhjahpeaa.Ab
open Go
set_option maxRecDepth 10000
set_option maxHeartbeats 4000000
def replE (t:Nat) (f:FV):List (Nat×FV)->List (Nat×FV)
 | []=>[(t,f)]
 | (i,g) :: r=>if i=t then (i,f) :: r else (i,g) :: replE t f r
theorem upd_ofL (t:Nat) (f:FV):∀ l:List (Nat×FV),upd (ofL l) t f=ofL (replE t f l)
 | []=>by
  funext s
  simp only [upd,replE,ofL]
  by_cases h:s=t
  ·simp [h]
  ·simp [h,Ne.symm h]
 | (i,g) :: r=>by
  have ih:=upd_ofL t f r
  funext s
  have h2:=congrFun ih s
  simp only [upd] at h2 ⊢
  by_cases h:i=t
  ·subst h
   simp only [replE,if_pos,ofL]
   by_cases hs:s=i
   ·simp [hs]
   ·simp [hs,Ne.symm hs]
  ·simp only [replE,if_neg h,ofL]
   rw [<-h2]
   by_cases hs:s=t
   ·subst hs
    simp [h]
   ·simp [hs]
def killL (r:Rn) (p:List Nat):List (Nat×FV)->List (Nat×FV)
 | []=>[]
 | (i,f) :: l=>(i,if f.under r p=true then .dead else f) :: killL r p l
def deepL' (r:Rn) (p:List Nat):List (Nat×FV)->List (Nat×FV)
 | []=>[]
 | (i,f) :: l=>(i,if f.deep r p=true then .dead else f) :: deepL' r p l
def killE (r:Rn) (p:List Nat) (e:Nat->FV):Nat->FV:=fun t=>if (e t).under r p=true then .dead else e t
def deepE (r:Rn) (p:List Nat) (e:Nat->FV):Nat->FV:=fun t=>if (e t).deep r p=true then .dead else e t
theorem kill_env (σ:St) (r:Rn) (p:List Nat):(St.kill σ r p).env=killE r p σ.env:=rfl
theorem kill_rts (σ:St) (r:Rn) (p:List Nat):(St.kill σ r p).rts=σ.rts:=rfl
theorem deep_env (σ:St) (r:Rn) (p:List Nat):(St.killBelow σ r p).env=deepE r p σ.env:=rfl
theorem deep_rts (σ:St) (r:Rn) (p:List Nat):(St.killBelow σ r p).rts=σ.rts:=rfl
theorem take_env (σ:St) (r:Rn):(St.take σ r []).env=σ.env:=rfl
theorem put_env (σ:St) (r:Rn) (p:List Nat) (e:D):(St.put σ r p e).env=σ.env:=by
 unfold St.put
 split <;> rfl
theorem killE_at (r:Rn) (p:List Nat) (e:Nat->FV) (t:Nat):killE r p e t=if (e t).under r p=true then .dead else e t:=rfl
theorem deepE_at (r:Rn) (p:List Nat) (e:Nat->FV) (t:Nat):deepE r p e t=if (e t).deep r p=true then .dead else e t:=rfl
theorem killE_ofL (r:Rn) (p:List Nat) (l:List (Nat×FV)):killE r p (ofL l)=ofL (killL r p l):=by
 funext t
 unfold killE
 induction l with
 | nil=>simp [ofL,killL,FV.under]
 | cons x l ih=>
  obtain ⟨i,f⟩:=x
  simp only [ofL,killL] at ih ⊢
  by_cases h:i=t
  ·simp only [if_pos h]
  ·simp only [if_neg h]
   exact ih
theorem deepE_ofL (r:Rn) (p:List Nat) (l:List (Nat×FV)):deepE r p (ofL l)=ofL (deepL' r p l):=by
 funext t
 unfold deepE
 induction l with
 | nil=>simp [ofL,deepL',FV.deep]
 | cons x l ih=>
  obtain ⟨i,f⟩:=x
  simp only [ofL,deepL'] at ih ⊢
  by_cases h:i=t
  ·simp only [if_pos h]
  ·simp only [if_neg h]
   exact ih
attribute [local simp ↓] kill_env kill_rts deep_env deep_rts take_env put_env
attribute [local simp high] upd_ofL
attribute [local simp] replE killL deepL' killE_ofL deepE_ofL killE_at deepE_at
def ChC (v:Nat) (all:List Dg) (at_:Nat) (front:List Dg) (L:List (List Dg)):Prop:=ACalls Try.prog F.spec_l5Choose [.int v,.d (.sh 2 all.length (rows gM (all.map dgI))),.int at_,.al (3,0) [] 0 front.length,.al (4,0) [] 0 L.length] [((3,0),.ow 2 front.length (rows gM (front.map dgI))),((4,0),.ow 1 L.length (rows lDD L))] true (fun outs res=>outs=[.gone,.gone]/\res=[.one (.ow 1 (L ++ chF (v - 3) (all.drop at_) front).length (rows lDD (L ++ chF (v - 3) (all.drop at_) front)))])
theorem spec_l5Choose_c (v:Nat) (hv:4<=v/\v<=8) (all:List Dg) (at_:Nat) (front:List Dg) (L0:List (List Dg)) (hat:at_<=all.length) (hall:all.length<=64) (hfl:front.length<=v - 3) (hLL:L0.length+(chF (v - 3) (all.drop at_) front).length<=1000) (ih:∀ at' F' L',at_ < at'->at'<=all.length->F'.length<=v - 3->L'.length+(chF (v - 3) (all.drop at') F').length<=1000->ChC v all at' F' L'):ChC v all at_ front L0:=by
 have hwv:IntKind.i64.wrap ((v:Int) - 3)=((v - 3:Nat):Int):=by rw [wrapOk (by omega) (by omega)];omega
 unfold ChC
 obtain ⟨R,hR⟩:∃ R,R=L0 ++ chF (v - 3) (all.drop at_) front:=⟨_,rfl⟩
 have hRl:R.length<=1000:=by rw [hR,List.length_append];omega
 rw [<-hR]
 refine ACalls.of_body (C:=C.spec_l5Choose) (n:=Try.f80.ntmps) tabT folT Try.func80 rfl (by kernel_rfl) rfl (Nat.le_of_ble_eq_true rfl) (by decide) (by kernel_rfl) (by kernel_rfl) rfl (by simp) (by simp) ?_
 simp only [Try.f80]
 refine wseq ?_
 refine wreg fun K hK=>?_
 simp [C.spec_l5Choose]
 refine hK _ ?_;clear hK K
 show AWp _ _ _ _ _
 refine wseq ?_
 refine wseq ?_
 refine wreg fun K hK=>?_
 simp [C.spec_l5Choose,hwv]
 refine hK _ ?_;clear hK K
 show AWp _ _ _ _ _
 refine wcond _ rfl (fun hc1=>?_) (fun hc1=>?_)
 ·have hfu:front.length=v - 3:=by have:=of_decide_eq_true hc1;omega
  have hRe:R=L0 ++ [front]:=by rw [hR,chF_full hfu]
  refine wseq ?_
  refine wreg fun K hK=>?_
  simp [C.spec_l5Choose,show (L0.length+1)*24<=140737488355328 by omega,lDD_snoc]
  refine hK _ ?_;clear hK K
  show AWp _ _ _ _ _
  refine wret ?_
  simp [C.spec_l5Choose]
  rw [hRe]
  simp [lDD_snoc]
 ·have hne:front.length≠v - 3:=by have:=of_decide_eq_false hc1;omega
  refine wskip ?_
  show AWp _ _ _ _ _
  refine wseq ?_
  refine wseq ?_
  refine wreg fun K hK=>?_
  simp [C.spec_l5Choose]
  refine hK _ ?_;clear hK K
  show AWp _ _ _ _ _
  refine wblock ?_
  refine wloopW (fun x:Nat×List (List Dg)=>⟨ofL [(0,.int v),(1,.d (.sh 2 all.length (rows gM (all.map dgI)))),(3,.al (3,0) [] 0 front.length),(4,.al (4,0) [] 0 x.2.length),(11,.int x.1),(1000,.dead),(1001,.dead)],ofRO [((3,0),some (.ow 2 front.length (rows gM (front.map dgI)))),((4,0),some (.ow 1 x.2.length (rows lDD x.2)))]⟩) (fun x=>(at_<=x.1/\x.1<=all.length)/\x.2 ++ chF (v - 3) (all.drop x.1) front=R) (fun x=>all.length - x.1) (at_,L0) [.drop 1000,.drop 1001] (by simp [C.spec_l5Choose,upd_ofL,replE]) ⟨⟨by simp,by simpa using hat⟩,by rw [hR]⟩ ?_
  intro x1 hx1 R1 hR1
  obtain ⟨i,L⟩:=x1
  obtain ⟨⟨g1,g2⟩,g3⟩:=hx1
  dsimp only at g1 g2 g3 ⊢
  refine wseq ?_
  refine wseq ?_
  refine wreg fun K hK=>?_
  simp [C.spec_l5Choose]
  refine hK _ ?_;clear hK K
  show AWp _ _ _ _ _
  refine wcond _ rfl (fun hc2=>?_) (fun hc2=>?_)
  ·have hi:i < all.length:=by have:=d_t hc2;simpa using this
   have hLl:L.length<=1000:=by have:=congrArg List.length g3;rw [List.length_append] at this;omega
   obtain ⟨d,hd⟩:∃ d,d=all[i]:=⟨_,rfl⟩
   have him:i < (all.map dgI).length:=by simpa using hi
   have hd1:(all.map dgI)[i].1=(d.1:Int):=by rw [List.getElem_map,hd];rfl
   have hd2:(all.map dgI)[i].2=(d.2:Int):=by rw [List.getElem_map,hd];rfl
   have hs0:(rows gM (all.map dgI))[2*i]? = some (D.int d.1)/\∀ h',(rows gM (all.map dgI))[2*i]'h'=D.int d.1:=by have:=gM_0 him;rw [hd1] at this;exact this
   have hs1:(rows gM (all.map dgI))[2*i+1]? = some (D.int d.2)/\∀ h',(rows gM (all.map dgI))[2*i+1]'h'=D.int d.2:=by have:=gM_1 him;rw [hd2] at this;exact this
   refine wskip ?_
   show AWp _ _ _ _ _
   refine wseq ?_
   refine wblock ?_
   refine wseq ?_
   refine wreg fun K hK=>?_
   simp [C.spec_l5Choose]
   refine hK _ ?_;clear hK K
   show AWp _ _ _ _ _
   refine wseq ?_
   refine wseq ?_
   refine wreg fun K hK=>?_
   simp [C.spec_l5Choose]
   refine hK _ ?_;clear hK K
   show AWp _ _ _ _ _
   refine wblock ?_
   refine wloop (fun j:Nat=>⟨ofL [(0,.int v),(1,.d (.sh 2 all.length (rows gM (all.map dgI)))),(3,.al (3,0) [] 0 front.length),(4,.al (4,0) [] 0 L.length),(11,.int i),(12,.bool (fitB (front.take j) d)),(13,.int j),(1000,.dead),(1001,.dead)],ofRO [((3,0),some (.ow 2 front.length (rows gM (front.map dgI)))),((4,0),some (.ow 1 L.length (rows lDD L)))]⟩) (fun j=>j<=front.length) (fun j=>front.length - j) 0 (by simp [C.spec_l5Choose,fitB]) (by simp) ?_
   intro x2 hx2 R2 hR2
   refine wseq ?_
   refine wseq ?_
   refine wreg fun K hK=>?_
   simp [C.spec_l5Choose]
   refine hK _ ?_;clear hK K
   show AWp _ _ _ _ _
   refine wcond _ rfl (fun hc3=>?_) (fun hc3=>?_)
   ·have hj:x2 < front.length:=by have:=d_t hc3;simpa using this
    have hjm:x2 < (front.map dgI).length:=by simpa using hj
    have hf1:(front.map dgI)[x2].1=(front[x2].1:Int):=by rw [List.getElem_map];rfl
    have hf2:(front.map dgI)[x2].2=(front[x2].2:Int):=by rw [List.getElem_map];rfl
    have hq0:(rows gM (front.map dgI))[2*x2]? = some (D.int front[x2].1)/\∀ h',(rows gM (front.map dgI))[2*x2]'h'=D.int front[x2].1:=by have:=gM_0 hjm;rw [hf1] at this;exact this
    have hq1:(rows gM (front.map dgI))[2*x2+1]? = some (D.int front[x2].2)/\∀ h',(rows gM (front.map dgI))[2*x2+1]'h'=D.int front[x2].2:=by have:=gM_1 hjm;rw [hf2] at this;exact this
    have hcr:=spec_l5Cross_c front[x2].1 front[x2].2 d.1 d.2
    have hcrb:decide (CrI ((front[x2].1:Int),(front[x2].2:Int)) ((d.1:Int),(d.2:Int)))=crs front[x2] d:=by
     rw [Bool.eq_iff_iff,decide_eq_true_eq,crs_iff]
     simp only [CrI]
     omega
    rw [hcrb] at hcr
    have hft:fitB (front.take (x2+1)) d=(fitB (front.take x2) d && !crs front[x2] d):=by
     unfold fitB
     rw [List.take_succ_eq_append_getElem hj,List.all_append]
     simp
    refine wskip ?_
    show AWp _ _ _ _ _
    refine wseq ?_
    refine wblock ?_
    refine wdrawI [(true,0),(true,1),(true,2),(true,3),(true,4),(true,5),(true,6),(true,7),(true,8),(true,9),(false,10),(true,11),(true,12),(true,13)] ⟨by kernel_rfl,by kernel_rfl⟩ ([0,1,2,3,4,5,6,7,8,9,10] ++ ([11,12,13])) rfl fun K hK=>?_
    have hJ:K ⟨ofL [(0,.int v),(1,.d (.sh 2 all.length (rows gM (all.map dgI)))),(3,.al (3,0) [] 0 front.length),(4,.al (4,0) [] 0 L.length),(11,.int i),(12,.bool (fitB (front.take (x2+1)) d)),(13,.int x2),(1000,.dead),(1001,.dead)],ofRO [((3,0),some (.ow 2 front.length (rows gM (front.map dgI)))),((4,0),some (.ow 1 L.length (rows lDD L)))]⟩:=by
     refine hK _ ?_;clear hK K
     show AWp _ _ _ _ _
     refine wreg fun K hK=>?_
     simp [C.spec_l5Choose,wrap_succ (show x2 < 4611686018427387904 by omega)]
     refine hK _ ?_;clear hK K
     simp [C.spec_l5Choose]
     exact hR2 (x2+1) hj (by omega)
    clear hK
    by_cases hfx:fitB (front.take x2) d=true
    ·simp [C.spec_l5Choose,hfx,hi,hj,hs0,hs1,hq0,hq1]
     repeat' first
      | (refine wcall1 hcr ?_ (by simp) ?_;(focus (simp;done));simp [C.spec_l5Choose,hfx,hi,hj,hs0,hs1,hq0,hq1])
      | (refine cast (congrArg K ?_) hJ;simp [hft,hfx];done)
      | refine And.intro ?_ ?_
    ·simp [C.spec_l5Choose,hfx]
     repeat' first
      | (refine cast (congrArg K ?_) hJ;simp [hft,hfx];done)
      | refine And.intro ?_ ?_
   ·have hj:x2=front.length:=by have:=d_f hc3;simp at this;omega
    rw [hj,List.take_length]
    have hst:=chF_step (n:=v - 3) (ds:=all) hne hi
    rw [<-hd] at hst
    refine wexit ?_
    show AWp _ _ _ _ _
    refine wseq ?_
    refine wreg fun K hK=>?_
    simp [C.spec_l5Choose]
    refine hK _ ?_;clear hK K
    show AWp _ _ _ _ _
    refine wcond _ rfl (fun hc4=>?_) (fun hc4=>?_)
    ·have hfb:fitB front d=true:=by simpa using hc4
     rw [if_pos hfb] at hst
     have hLR:L.length+(chF (v - 3) (all.drop (i+1)) (front ++ [d])).length<=1000:=by
      have:=congrArg List.length g3
      rw [hst] at this
      simp only [List.length_append] at this
      omega
     have hic:=ih (i+1) (front ++ [d]) L (by omega) hi (by simp;omega) hLR
     unfold ChC at hic
     obtain ⟨G,hG⟩:∃ G,G=chF (v - 3) (all.drop (i+1)) (front ++ [d]):=⟨_,rfl⟩
     rw [<-hG] at hic hst
     have hfd:(front ++ [d]).length=front.length+1:=by simp
     rw [hfd] at hic
     refine wdraw (.take 0 (.take 1 (.take 2 (.take 3 (.take 5 (.take 7 (.take 8 (.take 9 (.take 13 (.all [(4,.all [(6,.take 10 (.all [(11,.all [(12,.all [(14,.take 15 (.done))])])])),(10,.all [(6,.all [(11,.all [(12,.all [(14,.take 15 (.done))])])]),(11,.all [(6,.all [(12,.all [(14,.take 15 (.done))])])])])]),(10,.all [(4,.all [(6,.all [(11,.all [(12,.all [(14,.take 15 (.done))])])]),(11,.all [(6,.all [(12,.all [(14,.take 15 (.done))])])])]),(11,.all [(4,.all [(6,.all [(12,.all [(14,.take 15 (.done))])])])])])])))))))))) ⟨by kernel_rfl,by kernel_rfl⟩ fun K hK=>?_
     have hJ:K ⟨ofL [(0,.int v),(1,.d (.sh 2 all.length (rows gM (all.map dgI)))),(3,.al (3,0) [] 0 front.length),(4,.al (4,0) [] 0 (L ++ G).length),(11,.int i),(1000,.dead),(1001,.dead)],ofRO [((3,0),some (.ow 2 front.length (rows gM (front.map dgI)))),((4,0),some (.ow 1 (L ++ G).length (rows lDD (L ++ G))))]⟩:=by
      refine hK _ ?_;clear hK K
      show AWp _ _ _ _ _
      refine wreg fun K hK=>?_
      simp [C.spec_l5Choose,wrap_succ (show i < 4611686018427387904 by omega)]
      refine hK _ ?_;clear hK K
      simp [C.spec_l5Choose]
      refine cast (congrArg R1 ?_) (hR1 (i+1,L ++ G) ⟨⟨by dsimp only;omega,hi⟩,?_⟩ (by dsimp only;omega))
      ·simp
      ·dsimp only
       rw [List.append_assoc,<-hst]
       exact g3
     clear hK
     simp [C.spec_l5Choose,hi,hs0,hs1,dg_snoc front d,wrap_succ (show i < 4611686018427387904 by omega),show front.length*16<=140737488355328 by omega,show (front.length+1)*16<=140737488355328 by omega]
     repeat' first
      | (refine wcall hic (by simp) (by simp) (by simp) ?_;rintro outs res ⟨rfl,rfl⟩;simp [C.spec_l5Choose])
      | (refine cast (congrArg K ?_) hJ;simp;done)
      | refine And.intro ?_ ?_
    ·have hfb:¬ fitB front d=true:=by simpa using hc4
     rw [if_neg hfb,List.nil_append] at hst
     refine wskip ?_
     show AWp _ _ _ _ _
     refine wreg fun K hK=>?_
     simp [C.spec_l5Choose,wrap_succ (show i < 4611686018427387904 by omega)]
     refine hK _ ?_;clear hK K
     simp [C.spec_l5Choose]
     refine hR1 (i+1,L) ⟨⟨by dsimp only;omega,hi⟩,?_⟩ (by dsimp only;omega)
     dsimp only
     rw [<-hst]
     exact g3
  ·have hi:i=all.length:=by have:=d_f hc2;simp at this;omega
   rw [hi,List.drop_length,chF_end hne,List.append_nil] at g3
   refine wexit ?_
   show AWp _ _ _ _ _
   refine wseq ?_
   refine wreg fun K hK=>?_
   simp [C.spec_l5Choose]
   refine hK _ ?_;clear hK K
   show AWp _ _ _ _ _
   refine wret ?_
   simp [C.spec_l5Choose]
   rw [g3]
   exact ⟨rfl,rfl⟩
end Go.Proofs.Ytncfmemhjahpeaa.Ab
namespace Go.Proofs.Ytncfmemhjahpeaa.Ab
open Go
set_option maxRecDepth 10000
set_option maxHeartbeats 2000000
def SgM (m:Mat) (i j:Nat):Prop:=(0 < bM m i j↔bM m j i < 0)/\(bM m i j=0↔bM m j i=0)
def SzM (m:Mat):Prop:=ShM m/\∀ i j,i < m.n.toNat->j < m.n.toNat->SgM m i j
noncomputable instance (m:Mat):Decidable (SzM m):=Classical.propDecidable _
end Go.Proofs.Ytncfmemhjahpeaa.Ab
namespace Go.Proofs.Ytncfmemhjahpeaa.Ab
open Go
set_option maxRecDepth 10000
set_option maxHeartbeats 2000000
end Go.Proofs.Ytncfmemhjahpeaa.Ab
namespace Go.Proofs.Ytncfmemhjahpeaa.Ab
open Go
set_option maxRecDepth 10000
set_option maxHeartbeats 2000000
end Go.Proofs.Ytncfmemhjahpeaa.Ab
namespace Go.Proofs.Ytncfmemhjahpeaa.Ab
open Go
set_option maxRecDepth 10000
set_option maxHeartbeats 2000000
def zeroS:Sed:=⟨⟨0,0,[]⟩,[]⟩
def GdS (s:Sed):Prop:=s.m.d.length<=40/\s.f.length<=8/\∀ f∈s.f,SmallF f
theorem GdS.ok {s:Sed} (h:SeedOK s):GdS s:=by
 refine ⟨?_,by have:=h.2.1;have:=h.1.1.2.1;omega,fun f hf=>small_right (h.2.2 f hf).1⟩
 have hS:=h.1.1
 have h1:=hS.2.2.1
 have h2:=hS.1
 have h3:=hS.2.1
 have:s.m.n*s.m.r<=5*8:=Int.mul_le_mul (by omega) (by omega) (by omega) (by omega)
 omega
theorem GdS.sm {s:Sed} (h:GdS s):s.m.d.length < 17592186044416/\s.f.length < 4611686018427387904/\∀ f∈s.f,SmF f:=
 ⟨by have:=h.1;omega,by have:=h.2.1;omega,fun f hf=>(h.2.2 f hf).sm'⟩
theorem iMs_c (s:Sed) (k:Int) (hx:s.m.d.length < 17592186044416) (hl:s.f.length < 4611686018427387904) (hf:∀ f∈s.f,SmF f):ACalls Try.prog F.impl_MutateSeed [aS s,.int k] [] true (fun outs res=>outs=[]/\res=[.ag (sO (seedF s k).1),.one (D.bool (seedF s k).2)]):=(impl_MutateSeed_c s k hx hl hf).weak1
end Go.Proofs.Ytncfmemhjahpeaa.Ab
namespace Go.Proofs.Ytncfmemhjahpeaa.Ab
open Go
def ValOk (f:Lau) (ys:List Int):Prop:=Right f/\(ys.length:Int)=f.v/\∀ y∈ys,y % 32003≠0
noncomputable instance (f:Lau) (ys:List Int):Decidable (ValOk f ys):=Classical.propDecidable _
end Go.Proofs.Ytncfmemhjahpeaa.Ab
namespace Go.Proofs.Ytncfmemhjahpeaa.Ab
open Go
set_option maxRecDepth 10000
set_option maxHeartbeats 2000000
end Go.Proofs.Ytncfmemhjahpeaa.Ab
namespace Go.Proofs.Ytncfmemhjahpeaa.Ab
open Go
theorem addE_comm1:∀ (a b:List Int),a.length=b.length->addE 1 a b=addE 1 b a
 | [],[],_=>rfl
 | x :: a,y :: b,h=>by
  simp only [addE,addE_comm1 a b (by simpa using h),Int.one_mul]
  rw [Int.add_comm]
theorem prodL_eq (a b:List (List Int×Int)):prodL a b=prodK (addE 1) a b:=rfl
theorem ring_com {n:Nat} {f g:Lau} (hf:∀ x∈f.ts.map pr,x.1.length=n) (hg:∀ x∈g.ts.map pr,x.1.length=n):nf lexlt (prodL (f.ts.map pr) (g.ts.map pr))=nf lexlt (prodL (g.ts.map pr) (f.ts.map pr)):=
 nf_vl lexOrd fun φ=>by
  rw [prodL_eq,prodL_eq]
  exact vl_prod_com (D:=fun e=>e.length=n) (fun a b h1 h2=>addE_comm1 a b (h1.trans h2.symm)) φ hf hg
theorem addE_zero1:∀ (n:Nat) (a:List Int),a.length=n->addE 1 (List.replicate n 0) a=a
 | 0,[],_=>rfl
 | n+1,x :: a,h=>by
  simp only [List.replicate_succ,addE,addE_zero1 n a (by simpa using h)]
  simp
theorem one_mul {n:Nat} {f:Lau} (hf:Right f) (hn:f.v=n):mulF (oneF n) f=(f,true)/\mulF f (oneF n)=(f,true):=by
 have hn8:1<=n/\n<=8:=by have:=hf.1;omega
 have h1:=oneF_right hn8
 have hl:∀ x∈f.ts.map pr,x.1.length=n:=fun x hx=>by
  obtain ⟨t,ht,rfl⟩:=List.mem_map.1 hx
  exact (right_dig hf hn t ht).1
 have h1l:∀ x∈(oneF n).ts.map pr,x.1.length=n:=fun x hx=>by
  simp only [oneF,List.map_cons,List.map_nil,List.mem_singleton] at hx
  subst hx
  simp [pr]
 have e:prodL ((oneF n).ts.map pr) (f.ts.map pr)=f.ts.map pr:=by
  simp only [oneF,List.map_cons,List.map_nil,prodL,List.flatMap_cons,List.flatMap_nil,List.append_nil]
  have:∀ l:List (List Int×Int),(∀ x∈l,x.1.length=n)->l.map (fun y=>(addE 1 (pr ⟨List.replicate n 0,1⟩).1 y.1,(pr ⟨List.replicate n 0,1⟩).2*y.2))=l:=fun l hl=>by
   refine (List.map_congr_left fun x hx=>?_).trans (List.map_id l)
   simp only [pr,addE_zero1 n x.1 (hl x hx),Int.one_mul,id]
  exact this _ hl
 have enf:nf lexlt (f.ts.map pr)=f.ts.map pr:=(nf_unique lexOrd (pr_desc hf) (pr_nz hf) fun k=>rfl).symm
 constructor
 ·unfold mulF
  rw [if_pos ⟨h1,hf,hn.symm⟩,e]
  unfold shutF
  rw [enf]
  have:(⟨(oneF n).v,(f.ts.map pr).map tm⟩:Lau)=f:=by
   rw [show (oneF n).v=f.v from hn.symm]
   exact lau_eta f
  rw [this,if_pos hf]
 ·unfold mulF
  rw [if_pos ⟨hf,h1,hn⟩]
  unfold shutF
  rw [ring_com hl h1l,e,enf,lau_eta,if_pos hf]
end Go.Proofs.Ytncfmemhjahpeaa.Ab
namespace Go.Proofs.Ytncfmemhjahpeaa.Ab
open Go
theorem sh_dim {m:Mat} (h:ShM m):1<=m.n.toNat/\m.n.toNat<=5/\m.n.toNat<=m.r.toNat/\m.r.toNat<=8/\m.d.length=m.r.toNat*m.n.toNat/\(m.n.toNat:Int)=m.n/\(m.r.toNat:Int)=m.r:=by
 have h1:=h.1
 have h2:=h.2.1
 have h3:=h.2.2.1
 have e1:(m.n.toNat:Int)=m.n:=by omega
 have e2:(m.r.toNat:Int)=m.r:=by omega
 refine ⟨by omega,by omega,by omega,by omega,?_,e1,e2⟩
 rw [<-e1,<-e2,<-Int.natCast_mul,Nat.mul_comm] at h3
 omega
end Go.Proofs.Ytncfmemhjahpeaa.Ab
namespace Go.Proofs.Ytncfmemhjahpeaa.Ab
open Go
def zM:Mat:=⟨0,0,[]⟩
def idP (n i:Nat):List Int:=(List.range i).flatMap fun j=>unitL n j
theorem idP_succ (n i:Nat):idP n (i+1)=idP n i ++ unitL n i:=by simp [idP,List.range_succ]
@[simp] theorem idP_length (n:Nat):∀ i,(idP n i).length=i*n
 | 0=>by simp [idP]
 | i+1=>by rw [idP_succ,List.length_append,idP_length n i,unitL_length,Nat.add_mul,Nat.one_mul]
def SqOK (m:Mat):Prop:=MatOK m/\m.r=m.n/\2*m.n<=8
noncomputable instance (m:Mat):Decidable (SqOK m):=Classical.propDecidable _
noncomputable def fpL (m:Mat) (ws:List Mat) (ks:List Int):Nat->Option (List Lau)
 | 0=>some (List.replicate m.n.toNat (oneF m.n.toNat) ++ varsL m.n.toNat)
 | t+1=>match fpL m ws ks t with
  | some fs=>if (exF fs (colM (ws.getD t zM) (2*m.n.toNat) (ks.getD t 0).toNat) m.n.toNat (fs.getD (ks.getD t 0).toNat zeroF)).2=true then
    some (fs.set (ks.getD t 0).toNat (exF fs (colM (ws.getD t zM) (2*m.n.toNat) (ks.getD t 0).toNat) m.n.toNat (fs.getD (ks.getD t 0).toNat zeroF)).1) else none
  | none=>none
end Go.Proofs.Ytncfmemhjahpeaa.Ab
namespace Go.Proofs.Ytncfmemhjahpeaa.Ab
open Go
set_option maxRecDepth 10000
set_option maxHeartbeats 2000000
theorem mS_three (t:Mat):(mS t).length=3:=rfl
theorem mO_three (t:Mat):(mO t).length=3:=rfl
@[simp] theorem mS_length (l:List Mat):(rows mS l).length=3*l.length:=rows_length mS_three l
@[simp] theorem mO_length (l:List Mat):(rows mO l).length=3*l.length:=rows_length mO_three l
@[simp] theorem mO_noSh (l:List Mat):noShL (rows mO l):=rows_noSh (fun t=>by simp [mO,noShL,noSh]) l
@[simp] theorem mS_share (l:List Mat):shareL (rows mO l)=rows mS l:=by
 induction l with
 | nil=>rfl
 | cons x l ih=>simp [rows,mO,mS,shareL,share,ih]
@[simp] theorem mS_share2 (l:List Mat):shareL (rows mS l)=rows mS l:=by
 induction l with
 | nil=>rfl
 | cons x l ih=>simp [rows,mS,shareL,share,ih]
end Go.Proofs.Ytncfmemhjahpeaa.Ab
namespace Go.Proofs.Ytncfmemhjahpeaa.Ab
open Go
def lS (l:List Int):List D:=[shI l]
def lO (l:List Int):List D:=[owI l]
theorem lS_one (l:List Int):(lS l).length=1:=rfl
theorem lO_one (l:List Int):(lO l).length=1:=rfl
@[simp] theorem lS_length (l:List (List Int)):(rows lS l).length=l.length:=by rw [rows_length lS_one l,Nat.one_mul]
@[simp] theorem lO_length (l:List (List Int)):(rows lO l).length=l.length:=by rw [rows_length lO_one l,Nat.one_mul]
@[simp] theorem lS_share (l:List (List Int)):shareL (rows lO l)=rows lS l:=by
 rw [rows_share]
 congr 1
 funext t
 simp [lO,lS,shareL,share,shareL_ints]
section
variable {l:List (List Int)} {i:Nat}
theorem lO_0 (h:i < l.length):(rows lO l)[i]? = some (owI l[i])/\∀ h',(rows lO l)[i]'h'=owI l[i]:=twice (by
 have:=rows_get lO_one l i 0 h (by omega)
 simpa [lO] using this)
end
def lZ:Option (List Int)->List D
 | none=>[.v (.slice none 0 0)]
 | some t=>lO t
theorem lZ_one (t:Option (List Int)):(lZ t).length=1:=by cases t <;> rfl
@[simp] theorem lZ_length (l:List (Option (List Int))):(rows lZ l).length=l.length:=by rw [rows_length lZ_one l,Nat.one_mul]
@[simp] theorem lO_noSh (l:List (List Int)):noShL (rows lO l):=rows_noSh (fun t=>by simp [lO,noShL,noSh,noShL_ints]) l
end Go.Proofs.Ytncfmemhjahpeaa.Ab
namespace Go.Proofs.Ytncfmemhjahpeaa.Ab
open Go
set_option maxRecDepth 10000
end Go.Proofs.Ytncfmemhjahpeaa.Ab
namespace Go.Proofs.Ytncfmemhjahpeaa.Ab
open Go
structure Qtm where
 e:List Int
 h:Int
 c:Int
deriving DecidableEq
structure Qsm where
 v:Int
 ts:List Qtm
deriving DecidableEq
def qtS (t:Qtm):List D:=[shI t.e,D.int t.h,D.int t.c]
def qtO (t:Qtm):List D:=[owI t.e,D.int t.h,D.int t.c]
theorem qtS_three (t:Qtm):(qtS t).length=3:=rfl
theorem qtO_three (t:Qtm):(qtO t).length=3:=rfl
@[simp] theorem qtS_length (l:List Qtm):(rows qtS l).length=3*l.length:=rows_length qtS_three l
@[simp] theorem qtO_length (l:List Qtm):(rows qtO l).length=3*l.length:=rows_length qtO_three l
@[simp] theorem qtS_share (l:List Qtm):shareL (rows qtO l)=rows qtS l:=by
 rw [rows_share]
 congr 1
 funext t
 simp [qtO,qtS,shareL,share,shareL_ints]
@[simp] theorem qtO_noSh (l:List Qtm):noShL (rows qtO l):=rows_noSh (fun t=>by simp [qtO,noShL,noSh,noShL_ints]) l
section
variable {l:List Qtm} {i:Nat}
end
def qtZ:Option Qtm->List D
 | none=>[.v (.slice none 0 0),D.int 0,D.int 0]
 | some t=>qtO t
theorem qtZ_three (t:Option Qtm):(qtZ t).length=3:=by cases t <;> rfl
@[simp] theorem qtZ_length (l:List (Option Qtm)):(rows qtZ l).length=3*l.length:=rows_length qtZ_three l
end Go.Proofs.Ytncfmemhjahpeaa.Ab
namespace Go.Proofs.Ytncfmemhjahpeaa.Ab
open Go
set_option maxRecDepth 10000
end Go.Proofs.Ytncfmemhjahpeaa.Ab
namespace Go.Proofs.Ytncfmemhjahpeaa.Ab
open Go
set_option maxRecDepth 10000
set_option maxHeartbeats 2000000
def qk (t:Qtm):List Int×Int:=(t.e,t.h)
def QGood (v:Int) (t:Qtm):Prop:=(t.e.length:Int)=v/\t.c≠0/\(-1000000<=t.c/\t.c<=1000000)/\(-200<=t.h/\t.h<=200)/\∀ x∈t.e,-20<=x/\x<=20
def DescQ (ts:List Qtm):Prop:=ts.Pairwise fun a b=>qlt (qk b) (qk a)=true
def QRight (f:Qsm):Prop:=(1<=f.v/\f.v<=8)/\f.ts.length<=600/\(∀ t∈f.ts,QGood f.v t)/\DescQ f.ts
noncomputable instance (f:Qsm):Decidable (QRight f):=Classical.propDecidable _
end Go.Proofs.Ytncfmemhjahpeaa.Ab
namespace Go.Proofs.Ytncfmemhjahpeaa.Ab
open Go
set_option maxRecDepth 10000
set_option maxHeartbeats 2000000
end Go.Proofs.Ytncfmemhjahpeaa.Ab
namespace Go.Proofs.Ytncfmemhjahpeaa.Ab
open Go
set_option maxRecDepth 10000
set_option maxHeartbeats 2000000
def at2 (fm:List (List Int)) (i j:Nat):Int:=(fm.getD i []).getD j 0
def Skp (fm:List (List Int)) (i j:Nat):Prop:=(-99<=at2 fm i j/\at2 fm i j<=99)/\at2 fm i j+at2 fm j i=0
def FormOk (fm:List (List Int)):Prop:=(1<=(fm.length:Int)/\(fm.length:Int)<=8)/\(∀ i,i < fm.length->(fm.getD i []).length=fm.length)/\∀ i,i < fm.length->∀ j,j < fm.length->Skp fm i j
noncomputable instance (fm:List (List Int)):Decidable (FormOk fm):=Classical.propDecidable _
end Go.Proofs.Ytncfmemhjahpeaa.Ab
namespace Go.Proofs.Ytncfmemhjahpeaa.Ab
open Go
set_option maxRecDepth 10000
set_option maxHeartbeats 2000000
def sm (f:Nat->Int):Nat->Int
 | 0=>0
 | n+1=>sm f n+f n
section
variable {fm:List (List Int)} {a b:List Int}
end
end Go.Proofs.Ytncfmemhjahpeaa.Ab
namespace Go.Proofs.Ytncfmemhjahpeaa.Ab
open Go
end Go.Proofs.Ytncfmemhjahpeaa.Ab
namespace Go.Proofs.Ytncfmemhjahpeaa.Ab
open Go
end Go.Proofs.Ytncfmemhjahpeaa.Ab
namespace Go.Proofs.Ytncfmemhjahpeaa.Ab
open Go
def tbR (N:Nat) (g:Nat->Int):List Int:=(List.range N).map g
def tbL (N:Nat) (f:Nat->Nat->Int):List (List Int):=(List.range N).map fun i=>tbR N (f i)
@[simp] theorem tbR_length (N:Nat) (g:Nat->Int):(tbR N g).length=N:=by simp [tbR]
@[simp] theorem tbL_length (N:Nat) (f:Nat->Nat->Int):(tbL N f).length=N:=by simp [tbL]
noncomputable instance (fm:List (List Int)):Decidable (FormOk fm):=Classical.propDecidable _
end Go.Proofs.Ytncfmemhjahpeaa.Ab
namespace Go.Proofs.Ytncfmemhjahpeaa.Ab
open Go
set_option maxRecDepth 10000
set_option maxHeartbeats 4000000
theorem updHit (r:List (Nat×FV)) (t:Nat) (f v:FV):upd (ofL ((t,f) :: r)) t v=ofL ((t,v) :: r):=by
 funext s
 unfold upd
 simp only [ofL]
 by_cases h:s=t
 ·rw [if_pos h,if_pos h.symm]
 ·rw [if_neg h,if_neg (fun e=>h e.symm),if_neg (fun e=>h e.symm)]
theorem updCons {i t:Nat} {f v:FV} {r r2:List (Nat×FV)} (h:i≠t) (e:upd (ofL r) t v=ofL r2):upd (ofL ((i,f) :: r)) t v=ofL ((i,f) :: r2):=by
 funext s
 have e2:=congrFun e s
 unfold upd at e2 ⊢
 simp only [ofL]
 by_cases q:i=s
 ·rw [if_neg (by omega),if_pos q,if_pos q]
 ·rw [if_neg q,if_neg q]
  exact e2
theorem rootNil (en:Nat->FV) (r:Rn) (d:D):(St.root ⟨en,ofRO []⟩ r d).rts=ofRO [(r,some d)]:=by
 funext q
 simp only [St.root,ofRO]
 by_cases h:q=r
 ·rw [if_pos h,if_pos h.symm]
 ·rw [if_neg h,if_neg (fun e=>h e.symm)]
theorem rootCons {en:Nat->FV} {i r:Rn} {d:D} {x:Option D} {s s2:List (Rn×Option D)} (h:i≠r) (e:(St.root ⟨en,ofRO s⟩ r d).rts=ofRO s2):(St.root ⟨en,ofRO ((i,x) :: s)⟩ r d).rts=ofRO ((i,x) :: s2):=by
 funext q
 have e2:=congrFun e q
 simp only [St.root,ofRO] at e2 ⊢
 by_cases c:i=q
 ·rw [if_neg (fun z=>h (c.trans z)),if_pos c,if_pos c]
 ·rw [if_neg c,if_neg c]
  exact e2
end Go.Proofs.Ytncfmemhjahpeaa.Ab
namespace Go.Proofs.Ytncfmemhjahpeaa.Ab
open Go
set_option maxRecDepth 10000
set_option maxHeartbeats 4000000
noncomputable def CN:Ctx:={ C.spec_l5Choose with nW:=1 }
attribute [local simp ↓] kill_env kill_rts deep_env deep_rts take_env put_env
attribute [local simp high] upd_ofL
attribute [local simp] replE killL deepL' killE_ofL deepE_ofL killE_at deepE_at
theorem spec_l5ChooseN_c (v:Nat) (hv:4<=v/\v<=8) (all:List Dg) (hall:all.length<=64) (hLL:(chF (v - 3) all []).length<=1000) (ih:∀ at' F' L',0 < at'->at'<=all.length->F'.length<=v - 3->L'.length+(chF (v - 3) (all.drop at') F').length<=1000->ChC v all at' F' L'):ACalls Try.prog F.spec_l5Choose [.int v,.d (.sh 2 all.length (rows gM (all.map dgI))),.int 0,.al (3,0) [] 0 0,.d (.v (.slice none 0 0))] [((3,0),.ow 2 0 [])] true (fun outs res=>outs=[.gone]/\res=[.one (.ow 1 (chF (v - 3) all []).length (rows lDD (chF (v - 3) all [])))]):=by
 have hwv:IntKind.i64.wrap ((v:Int) - 3)=((v - 3:Nat):Int):=by rw [wrapOk (by omega) (by omega)];omega
 obtain ⟨R,hR⟩:∃ R,R=chF (v - 3) all []:=⟨_,rfl⟩
 have hRl:R.length<=1000:=by rw [hR];exact hLL
 rw [<-hR]
 obtain ⟨front,hfr⟩:∃ front:List Dg,front=[]:=⟨_,rfl⟩
 obtain ⟨at_,hat0⟩:∃ n:Nat,n=0:=⟨_,rfl⟩
 have hat:at_<=all.length:=by omega
 have hfl:front.length<=v - 3:=by rw [hfr];simp
 have hne:front.length≠v - 3:=by rw [hfr];simp;omega
 rw [<-hfr] at hR
 have hR:R=chF (v - 3) (all.drop at_) front:=by rw [hR,hat0,List.drop_zero]
 rw [<-hat0] at ih
 refine ACalls.of_body (C:=CN) (n:=Try.f80.ntmps) tabT folT Try.func80 rfl (by kernel_rfl) rfl (Nat.le_of_ble_eq_true rfl) (by decide) (by kernel_rfl) (by kernel_rfl) rfl (by simp) (by simp) ?_
 simp only [Try.f80]
 refine wseq ?_
 refine wreg fun K hK=>?_
 simp [CN,C.spec_l5Choose]
 refine hK _ ?_;clear hK K
 show AWp _ _ _ _ _
 refine wseq ?_
 refine wseq ?_
 refine wreg fun K hK=>?_
 simp [CN,C.spec_l5Choose,hwv]
 refine hK _ ?_;clear hK K
 show AWp _ _ _ _ _
 refine wcond _ rfl (fun hc1=>?_) (fun hc1=>?_)
 ·have:=hc1
  simp at this
  omega
 ·refine wskip ?_
  show AWp _ _ _ _ _
  refine wseq ?_
  refine wseq ?_
  refine wreg fun K hK=>?_
  simp [CN,C.spec_l5Choose]
  refine hK _ ?_;clear hK K
  show AWp _ _ _ _ _
  refine wblock ?_
  refine wloopW (fun x:Nat×List (List Dg)=>⟨ofL [(0,.int v),(1,.d (.sh 2 all.length (rows gM (all.map dgI)))),(3,.al (3,0) [] 0 front.length),(4,.al (4,0) [] 0 x.2.length),(11,.int x.1),(1000,.dead)],ofRO [((3,0),some (.ow 2 front.length (rows gM (front.map dgI)))),((4,0),some (.ow 1 x.2.length (rows lDD x.2)))]⟩) (fun x=>(at_<=x.1/\x.1<=all.length)/\x.2 ++ chF (v - 3) (all.drop x.1) front=R) (fun x=>all.length - x.1) (at_,[]) [.tmp 4 1,.drop 1000] (by simp [CN,C.spec_l5Choose,hfr,hat0,rows];repeat' (first | exact rootNil _ _ _ | refine rootCons (by decide) ?_)) ⟨⟨by simp,by simpa using hat⟩,by rw [hR];rfl⟩ ?_
  intro x1 hx1 R1 hR1
  obtain ⟨i,L⟩:=x1
  obtain ⟨⟨g1,g2⟩,g3⟩:=hx1
  dsimp only at g1 g2 g3 ⊢
  refine wseq ?_
  refine wseq ?_
  refine wreg fun K hK=>?_
  simp [CN,C.spec_l5Choose]
  refine hK _ ?_;clear hK K
  show AWp _ _ _ _ _
  refine wcond _ rfl (fun hc2=>?_) (fun hc2=>?_)
  ·have hi:i < all.length:=by have:=d_t hc2;simpa using this
   have hLl:L.length<=1000:=by have:=congrArg List.length g3;rw [List.length_append] at this;omega
   obtain ⟨d,hd⟩:∃ d,d=all[i]:=⟨_,rfl⟩
   have him:i < (all.map dgI).length:=by simpa using hi
   have hd1:(all.map dgI)[i].1=(d.1:Int):=by rw [List.getElem_map,hd];rfl
   have hd2:(all.map dgI)[i].2=(d.2:Int):=by rw [List.getElem_map,hd];rfl
   have hs0:(rows gM (all.map dgI))[2*i]? = some (D.int d.1)/\∀ h',(rows gM (all.map dgI))[2*i]'h'=D.int d.1:=by have:=gM_0 him;rw [hd1] at this;exact this
   have hs1:(rows gM (all.map dgI))[2*i+1]? = some (D.int d.2)/\∀ h',(rows gM (all.map dgI))[2*i+1]'h'=D.int d.2:=by have:=gM_1 him;rw [hd2] at this;exact this
   refine wskip ?_
   show AWp _ _ _ _ _
   refine wseq ?_
   refine wblock ?_
   refine wseq ?_
   refine wreg fun K hK=>?_
   simp [CN,C.spec_l5Choose]
   refine hK _ ?_;clear hK K
   show AWp _ _ _ _ _
   refine wseq ?_
   refine wseq ?_
   refine wreg fun K hK=>?_
   simp [CN,C.spec_l5Choose]
   refine hK _ ?_;clear hK K
   show AWp _ _ _ _ _
   refine wblock ?_
   refine wloop (fun j:Nat=>⟨ofL [(0,.int v),(1,.d (.sh 2 all.length (rows gM (all.map dgI)))),(3,.al (3,0) [] 0 front.length),(4,.al (4,0) [] 0 L.length),(11,.int i),(12,.bool (fitB (front.take j) d)),(13,.int j),(1000,.dead)],ofRO [((3,0),some (.ow 2 front.length (rows gM (front.map dgI)))),((4,0),some (.ow 1 L.length (rows lDD L)))]⟩) (fun j=>j<=front.length) (fun j=>front.length - j) 0 (by simp [CN,C.spec_l5Choose,fitB]) (by simp) ?_
   intro x2 hx2 R2 hR2
   refine wseq ?_
   refine wseq ?_
   refine wreg fun K hK=>?_
   simp [CN,C.spec_l5Choose]
   refine hK _ ?_;clear hK K
   show AWp _ _ _ _ _
   refine wcond _ rfl (fun hc3=>?_) (fun hc3=>?_)
   ·have hj:x2 < front.length:=by have:=d_t hc3;simpa using this
    have hjm:x2 < (front.map dgI).length:=by simpa using hj
    have hf1:(front.map dgI)[x2].1=(front[x2].1:Int):=by rw [List.getElem_map];rfl
    have hf2:(front.map dgI)[x2].2=(front[x2].2:Int):=by rw [List.getElem_map];rfl
    have hq0:(rows gM (front.map dgI))[2*x2]? = some (D.int front[x2].1)/\∀ h',(rows gM (front.map dgI))[2*x2]'h'=D.int front[x2].1:=by have:=gM_0 hjm;rw [hf1] at this;exact this
    have hq1:(rows gM (front.map dgI))[2*x2+1]? = some (D.int front[x2].2)/\∀ h',(rows gM (front.map dgI))[2*x2+1]'h'=D.int front[x2].2:=by have:=gM_1 hjm;rw [hf2] at this;exact this
    have hcr:=spec_l5Cross_c front[x2].1 front[x2].2 d.1 d.2
    have hcrb:decide (CrI ((front[x2].1:Int),(front[x2].2:Int)) ((d.1:Int),(d.2:Int)))=crs front[x2] d:=by
     rw [Bool.eq_iff_iff,decide_eq_true_eq,crs_iff]
     simp only [CrI]
     omega
    rw [hcrb] at hcr
    have hft:fitB (front.take (x2+1)) d=(fitB (front.take x2) d && !crs front[x2] d):=by
     unfold fitB
     rw [List.take_succ_eq_append_getElem hj,List.all_append]
     simp
    refine wskip ?_
    show AWp _ _ _ _ _
    refine wseq ?_
    refine wblock ?_
    refine wdrawI [(true,0),(true,1),(true,2),(true,3),(true,4),(true,5),(true,6),(true,7),(true,8),(true,9),(false,10),(true,11),(true,12),(true,13)] ⟨by kernel_rfl,by kernel_rfl⟩ ([0,1,2,3,4,5,6,7,8,9,10] ++ ([11,12,13])) rfl fun K hK=>?_
    have hJ:K ⟨ofL [(0,.int v),(1,.d (.sh 2 all.length (rows gM (all.map dgI)))),(3,.al (3,0) [] 0 front.length),(4,.al (4,0) [] 0 L.length),(11,.int i),(12,.bool (fitB (front.take (x2+1)) d)),(13,.int x2),(1000,.dead)],ofRO [((3,0),some (.ow 2 front.length (rows gM (front.map dgI)))),((4,0),some (.ow 1 L.length (rows lDD L)))]⟩:=by
     refine hK _ ?_;clear hK K
     show AWp _ _ _ _ _
     refine wreg fun K hK=>?_
     simp [CN,C.spec_l5Choose,wrap_succ (show x2 < 4611686018427387904 by omega)]
     refine hK _ ?_;clear hK K
     simp [CN,C.spec_l5Choose]
     exact hR2 (x2+1) hj (by omega)
    clear hK
    by_cases hfx:fitB (front.take x2) d=true
    ·simp [CN,C.spec_l5Choose,hfx,hi,hj,hs0,hs1,hq0,hq1]
     repeat' first
      | (refine wcall1 hcr ?_ (by simp) ?_;(focus (simp;done));simp [CN,C.spec_l5Choose,hfx,hi,hj,hs0,hs1,hq0,hq1])
      | (refine cast (congrArg K ?_) hJ;simp [hft,hfx];done)
      | refine And.intro ?_ ?_
    ·simp [CN,C.spec_l5Choose,hfx]
     repeat' first
      | (refine cast (congrArg K ?_) hJ;simp [hft,hfx];done)
      | refine And.intro ?_ ?_
   ·have hj:x2=front.length:=by have:=d_f hc3;simp at this;omega
    rw [hj,List.take_length]
    have hst:=chF_step (n:=v - 3) (ds:=all) hne hi
    rw [<-hd] at hst
    refine wexit ?_
    show AWp _ _ _ _ _
    refine wseq ?_
    refine wreg fun K hK=>?_
    simp [CN,C.spec_l5Choose]
    refine hK _ ?_;clear hK K
    show AWp _ _ _ _ _
    refine wcond _ rfl (fun hc4=>?_) (fun hc4=>?_)
    ·have hfb:fitB front d=true:=by simpa using hc4
     rw [if_pos hfb] at hst
     have hLR:L.length+(chF (v - 3) (all.drop (i+1)) (front ++ [d])).length<=1000:=by
      have:=congrArg List.length g3
      rw [hst] at this
      simp only [List.length_append] at this
      omega
     have hic:=ih (i+1) (front ++ [d]) L (by omega) hi (by simp;omega) hLR
     unfold ChC at hic
     obtain ⟨G,hG⟩:∃ G,G=chF (v - 3) (all.drop (i+1)) (front ++ [d]):=⟨_,rfl⟩
     rw [<-hG] at hic hst
     have hfd:(front ++ [d]).length=front.length+1:=by simp
     rw [hfd] at hic
     refine wdraw (.take 0 (.take 1 (.take 2 (.take 3 (.take 5 (.take 7 (.take 8 (.take 9 (.take 13 (.all [(4,.all [(6,.take 10 (.all [(11,.all [(12,.all [(14,.take 15 (.done))])])])),(10,.all [(6,.all [(11,.all [(12,.all [(14,.take 15 (.done))])])]),(11,.all [(6,.all [(12,.all [(14,.take 15 (.done))])])])])]),(10,.all [(4,.all [(6,.all [(11,.all [(12,.all [(14,.take 15 (.done))])])]),(11,.all [(6,.all [(12,.all [(14,.take 15 (.done))])])])]),(11,.all [(4,.all [(6,.all [(12,.all [(14,.take 15 (.done))])])])])])])))))))))) ⟨by kernel_rfl,by kernel_rfl⟩ fun K hK=>?_
     have hJ:K ⟨ofL [(0,.int v),(1,.d (.sh 2 all.length (rows gM (all.map dgI)))),(3,.al (3,0) [] 0 front.length),(4,.al (4,0) [] 0 (L ++ G).length),(11,.int i),(1000,.dead)],ofRO [((3,0),some (.ow 2 front.length (rows gM (front.map dgI)))),((4,0),some (.ow 1 (L ++ G).length (rows lDD (L ++ G))))]⟩:=by
      refine hK _ ?_;clear hK K
      show AWp _ _ _ _ _
      refine wreg fun K hK=>?_
      simp [CN,C.spec_l5Choose,wrap_succ (show i < 4611686018427387904 by omega)]
      refine hK _ ?_;clear hK K
      simp [CN,C.spec_l5Choose]
      refine cast (congrArg R1 ?_) (hR1 (i+1,L ++ G) ⟨⟨by dsimp only;omega,hi⟩,?_⟩ (by dsimp only;omega))
      ·simp
      ·dsimp only
       rw [List.append_assoc,<-hst]
       exact g3
     clear hK
     simp [CN,C.spec_l5Choose,hi,hs0,hs1,dg_snoc front d,wrap_succ (show i < 4611686018427387904 by omega),show front.length*16<=140737488355328 by omega,show (front.length+1)*16<=140737488355328 by omega]
     repeat' first
      | (refine wcall hic (by simp) (by simp) (by simp) ?_;rintro outs res ⟨rfl,rfl⟩;simp [CN,C.spec_l5Choose])
      | (refine cast (congrArg K ?_) hJ;simp;done)
      | refine And.intro ?_ ?_
    ·have hfb:¬ fitB front d=true:=by simpa using hc4
     rw [if_neg hfb,List.nil_append] at hst
     refine wskip ?_
     show AWp _ _ _ _ _
     refine wreg fun K hK=>?_
     simp [CN,C.spec_l5Choose,wrap_succ (show i < 4611686018427387904 by omega)]
     refine hK _ ?_;clear hK K
     simp [CN,C.spec_l5Choose]
     refine hR1 (i+1,L) ⟨⟨by dsimp only;omega,hi⟩,?_⟩ (by dsimp only;omega)
     dsimp only
     rw [<-hst]
     exact g3
  ·have hi:i=all.length:=by have:=d_f hc2;simp at this;omega
   rw [hi,List.drop_length,chF_end hne,List.append_nil] at g3
   refine wexit ?_
   show AWp _ _ _ _ _
   refine wseq ?_
   refine wreg fun K hK=>?_
   simp [CN,C.spec_l5Choose]
   refine hK _ ?_;clear hK K
   show AWp _ _ _ _ _
   refine wret ?_
   simp [CN,C.spec_l5Choose]
   rw [g3]
   exact ⟨rfl,rfl⟩
end Go.Proofs.Ytncfmemhjahpeaa.Ab
namespace Go.Proofs.Ytncfmemhjahpeaa.Ab
open Go
set_option maxRecDepth 10000
set_option maxHeartbeats 2000000
end Go.Proofs.Ytncfmemhjahpeaa.Ab
namespace Go.Proofs.Ytncfmemhjahpeaa.Ab
open Go
set_option maxRecDepth 10000
set_option maxHeartbeats 2000000
theorem seedF_eq {s:Sed} {k n r:Nat} (hok:SeedOK s) (hn:s.m.n=n) (hr:s.m.r=r) (hk:k < n):seedF s k=if (exF s.f (colM s.m r k) r (s.f.getD k zeroF)).2=true/\(muF s.m k).2=true then
  (⟨(muF s.m k).1,s.f.set k (exF s.f (colM s.m r k) r (s.f.getD k zeroF)).1⟩,true) else (zeroS,false):=by
 unfold seedF
 rw [show s.m.r.toNat=r by omega,Int.toNat_natCast]
 by_cases q:(exF s.f (colM s.m r k) r (s.f.getD k zeroF)).2=true/\(muF s.m k).2=true
 ·rw [if_pos ⟨hok,by omega,q⟩,if_pos q]
 ·rw [if_neg (fun h=>q h.2.2),if_neg q]
  rfl
end Go.Proofs.Ytncfmemhjahpeaa.Ab
namespace Go.Proofs.Ytncfmemhjahpeaa.Ab
open Go
set_option maxRecDepth 10000
set_option maxHeartbeats 4000000
end Go.Proofs.Ytncfmemhjahpeaa.Ab
namespace Go.Proofs.Ytncfmemhjahpeaa.Ab
open Go
set_option maxRecDepth 10000
set_option maxHeartbeats 4000000
def MfOk (fm:List (List Int)) (m:Mat) (k:Int):Prop:=FormOk fm/\MatOK m/\m.r=fm.length/\(0<=k/\k < m.n)
noncomputable instance (fm:List (List Int)) (m:Mat) (k:Int):Decidable (MfOk fm m k):=Classical.propDecidable _
end Go.Proofs.Ytncfmemhjahpeaa.Ab
namespace Go.Proofs.Ytncfmemhjahpeaa.Ab
open Go
set_option maxRecDepth 10000
set_option maxHeartbeats 4000000
section
variable {l:List (List (List Int))} {i:Nat}
end
end Go.Proofs.Ytncfmemhjahpeaa.Ab
namespace Go.Proofs.Ytncfmemhjahpeaa.Ab
open Go
set_option maxRecDepth 10000
set_option maxHeartbeats 2000000
attribute [local simp] cur
end Go.Proofs.Ytncfmemhjahpeaa.Ab
namespace Go.Proofs.Ytncfmemhjahpeaa.Ab
open Go
set_option maxRecDepth 10000
set_option maxHeartbeats 2000000
attribute [local simp] cur
end Go.Proofs.Ytncfmemhjahpeaa.Ab
namespace Go.Proofs.Ytncfmemhjahpeaa.Ab
open Go
set_option maxRecDepth 10000
set_option maxHeartbeats 2000000
end Go.Proofs.Ytncfmemhjahpeaa.Ab
namespace Go.Proofs.Ytncfmemhjahpeaa.Ab
open Go
end Go.Proofs.Ytncfmemhjahpeaa.Ab
namespace Go.Proofs.Ytncfmemhjahpeaa.Ab
open Go
end Go.Proofs.Ytncfmemhjahpeaa.Ab
namespace Go.Proofs.Ytncfmemhjahpeaa.Ab
open Go
set_option maxRecDepth 10000
set_option maxHeartbeats 2000000
end Go.Proofs.Ytncfmemhjahpeaa.Ab
namespace Go.Proofs.Ytncfmemhjahpeaa.Ab
open Go
def rowN (n:Nat) (nm:List Int) (i:Nat):Int:=if i < n then nm.getD i 0 else i
def renL (base:List Int) (m:Mat) (nm:List Int):Nat->List Int
 | 0=>base
 | q+1=>(renL base m nm q).set ((rowN m.n.toNat nm (q / m.n.toNat)).toNat*m.n.toNat+(nm.getD (q % m.n.toNat) 0).toNat) (m.d.getD q 0)
@[simp] theorem renL_length (base:List Int) (m:Mat) (nm:List Int):∀ q,(renL base m nm q).length=base.length
 | 0=>rfl
 | q+1=>by simp [renL,renL_length base m nm q]
end Go.Proofs.Ytncfmemhjahpeaa.Ab
namespace Go.Proofs.Ytncfmemhjahpeaa.Ab
open Go
end Go.Proofs.Ytncfmemhjahpeaa.Ab
namespace Go.Proofs.Ytncfmemhjahpeaa.Ab
open Go
set_option maxRecDepth 10000
set_option maxHeartbeats 4000000
attribute [local simp] cur
end Go.Proofs.Ytncfmemhjahpeaa.Ab
namespace Go.Proofs.Ytncfmemhjahpeaa.Ab
open Go
set_option maxRecDepth 10000
set_option maxHeartbeats 2000000
def fZ:Option Lau->List D
 | none=>[D.int 0,.v (.slice none 0 0)]
 | some f=>fO f
theorem fZ_two (t:Option Lau):(fZ t).length=2:=by cases t <;> rfl
@[simp] theorem fZ_length (l:List (Option Lau)):(rows fZ l).length=2*l.length:=rows_length fZ_two l
end Go.Proofs.Ytncfmemhjahpeaa.Ab
namespace Go.Proofs.Ytncfmemhjahpeaa.Ab
open Go
end Go.Proofs.Ytncfmemhjahpeaa.Ab
namespace Go.Proofs.Ytncfmemhjahpeaa.Ab
open Go
set_option maxRecDepth 10000
set_option maxHeartbeats 2000000
end Go.Proofs.Ytncfmemhjahpeaa.Ab
namespace Go.Proofs.Ytncfmemhjahpeaa.Ab
open Go
set_option maxRecDepth 10000
set_option maxHeartbeats 2000000
noncomputable def iniF (m:Mat):Sed×Bool:=if MatOK m then (⟨m,varsL m.r.toNat⟩,true) else (zeroS,false)
theorem impl_InitialSeedN_c (m:Mat) (hx:m.d.length < 17592186044416) (hno:¬ MatOK m):ACalls Try.prog F.impl_InitialSeed [aM m] [] true (fun outs res=>outs=[]/\WkRs res [.ag (sO zeroS),.one (D.bool false)]):=by
 refine ACalls.of_body (C:=C.impl_InitialSeed) (n:=Try.f14.ntmps) tabT folT Try.func14 rfl (by kernel_rfl) rfl (Nat.le_of_ble_eq_true rfl) (by decide) (by kernel_rfl) (by kernel_rfl) rfl (by simp) (by simp) ?_
 simp only [Try.f14]
 refine wseq ?_
 refine wreg fun K hK=>?_
 simp [C.impl_InitialSeed]
 refine hK _ ?_;clear hK K
 show AWp _ _ _ _ _
 refine wseq ?_
 refine wseq ?_
 refine wregI ([0,1] ++ ([2])) rfl fun K hK=>?_
 refine oSg fun L hL=>?_
 simp [C.impl_InitialSeed]
 refine wcall1 (impl_MatrixOkG_c m hx) (by simp) (by simp) ?_
 simp [C.impl_InitialSeed]
 refine hL _ ?_;clear hL L
 refine oEn fun L hL=>?_
 simp [C.impl_InitialSeed]
 refine hL _ ?_;clear hL L
 simp [C.impl_InitialSeed]
 refine hK _ ?_;clear hK K
 show AWp _ _ _ _ _
 refine wcond _ rfl (fun hc1=>?_) (fun hc1=>?_)
 ·refine wseq ?_
  refine wreg fun K hK=>?_
  simp [C.impl_InitialSeed]
  refine hK _ ?_;clear hK K
  show AWp _ _ _ _ _
  refine wret ?_
  simp [C.impl_InitialSeed,zeroS,sO,ints,rows]
 ·exact absurd (nd_f hc1) hno
theorem iIni_c (m:Mat) (hx:m.d.length < 17592186044416):ACalls Try.prog F.impl_InitialSeed [aM m] [] true (fun outs res=>outs=[]/\res=[.ag (sO (iniF m).1),.one (D.bool (iniF m).2)]):=by
 by_cases h:MatOK m
 ·have hm:iniF m=(⟨m,varsL m.r.toNat⟩,true):=if_pos h
  have hd:=sh_dim h.1
  have hok:=impl_MatrixOkG_c m hx
  rw [decide_eq_true h] at hok
  have hini:=impl_InitialSeed_c m.n m.r.toNat m.d (by omega) hx
  rw [hd.2.2.2.2.2.2] at hini
  have em:(⟨m.n,m.r,m.d⟩:Mat)=m:=by cases m;rfl
  rw [em] at hini
  rw [hm]
  exact hini hok
 ·have hm:iniF m=(zeroS,false):=if_neg h
  rw [hm]
  exact (impl_InitialSeedN_c m hx h).weak1
end Go.Proofs.Ytncfmemhjahpeaa.Ab
namespace Go.Proofs.Ytncfmemhjahpeaa.Ab
open Go
set_option maxRecDepth 10000
set_option maxHeartbeats 2000000
end Go.Proofs.Ytncfmemhjahpeaa.Ab
namespace Go.Proofs.Ytncfmemhjahpeaa.Ab
open Go
set_option maxRecDepth 10000
set_option maxHeartbeats 2000000
end Go.Proofs.Ytncfmemhjahpeaa.Ab
namespace Go.Proofs.Ytncfmemhjahpeaa.Ab
open Go
set_option maxRecDepth 10000
set_option maxHeartbeats 4000000
attribute [local simp] cur
theorem spec_dNames_c (xs:List Int) (i:Nat) (h:Int) (n:Nat) (hi:i<=xs.length) (hx:xs.length<=1048576) (hn:n<=8):ACalls Try.prog F.spec_dNames [.pt (0,0) [] 0,.int n] [((0,0),cur xs i h)] false (DrawE xs (fun e=>e.length=n/\(∀ x∈e,0<=x/\x < n)/\e.Nodup)):=by
 refine ACalls.of_body (C:=C.spec_dNames) (n:=Try.f51.ntmps) tabT folT Try.func51 rfl (by kernel_rfl) rfl (Nat.le_of_ble_eq_true rfl) (by decide) (by kernel_rfl) (by kernel_rfl) rfl (by simp) (by simp) ?_
 simp only [Try.f51]
 refine wseq ?_
 refine wreg fun K hK=>?_
 simp [C.spec_dNames]
 refine hK _ ?_;clear hK K
 show AWp _ _ _ _ _
 refine wseq ?_
 refine wreg fun K hK=>?_
 simp [C.spec_dNames]
 refine hK _ ?_;clear hK K
 show AWp _ _ _ _ _
 refine wseq ?_
 refine wseq ?_
 refine wreg fun K hK=>?_
 simp [C.spec_dNames]
 refine hK _ ?_;clear hK K
 show AWp _ _ _ _ _
 refine wblock ?_
 refine wloop (fun x:Nat×List Int×Nat×Int=>⟨ofL [(0,.pt (0,0) [] 0),(1,.int n),(5,.al (5,0) [] 0 x.1),(6,.int x.1),(1000,.pt (0,0) [] 0)],ofRO [((0,0),some (cur xs x.2.2.1 x.2.2.2)),((5,0),some (.ow 1 x.1 (ints x.2.1)))]⟩) (fun x=>x.1<=n/\x.2.1.length=x.1/\((∀ y∈x.2.1,0<=y/\y < (x.1:Int))/\x.2.1.Nodup)/\x.2.2.1<=xs.length) (fun x=>n - x.1) (0,[],i,h) (by simp [C.spec_dNames,ints]) ⟨by simp,rfl,by simp,hi⟩ ?_
 intro x1 hx1 R1 hR1
 obtain ⟨j,e,i1,h1⟩:=x1
 obtain ⟨g1,g2,g3,g4⟩:=hx1
 dsimp only at g1 g2 g3 g4 ⊢
 refine wseq ?_
 refine wseq ?_
 refine wreg fun K hK=>?_
 simp [C.spec_dNames]
 refine hK _ ?_;clear hK K
 show AWp _ _ _ _ _
 refine wcond _ rfl (fun hc1=>?_) (fun hc1=>?_)
 ·have hj:j < n:=by have:=d_t hc1;omega
  refine wskip ?_
  show AWp _ _ _ _ _
  refine wseq ?_
  refine wblock ?_
  refine wseq ?_
  refine wregI ([0,1,2,3,4] ++ ([5])) rfl fun K hK=>?_
  refine oSg fun L hL=>?_
  simp [C.spec_dNames,wrapOk (x:=(j:Int)+1) (by omega) (by omega)]
  refine wcall (spec_l1Below_c xs i1 h1 ((j:Int)+1) g4 hx (by omega)) (by simp) (by simp) (by simp) ?_
  rintro outs res ⟨i2,h2,c,q1,q2,rfl,rfl⟩
  simp [C.spec_dNames,wrapOk (x:=(j:Int)+1) (by omega) (by omega)]
  refine hL _ ?_;clear hL L
  refine oEn fun L hL=>?_
  simp [C.spec_dNames,wrapOk (x:=(j:Int)+1) (by omega) (by omega)]
  refine hL _ ?_;clear hL L
  simp [C.spec_dNames,wrapOk (x:=(j:Int)+1) (by omega) (by omega)]
  refine hK _ ?_;clear hK K
  show AWp _ _ _ _ _
  obtain ⟨p,hp⟩:∃ p:Nat,c=p:=⟨c.toNat,by omega⟩
  rw [hp]
  have hpj:p<=j:=by omega
  have hlen:p+1+(j - p)=j+1:=by omega
  refine wdraw (.take 1 (.take 2 (.take 3 (.take 5 (.take 8 (.take 9 (.take 10 (.all [(0,.all [(4,.all [(6,.all [(7,.all [(11,.take 12 (.done))])])]),(6,.all [(4,.all [(7,.all [(11,.take 12 (.done))])])])]),(6,.all [(0,.all [(4,.all [(7,.all [(11,.take 12 (.done))])])])])])))))))) ⟨by kernel_rfl,by kernel_rfl⟩ fun K hK=>?_
  have hJ:K ⟨ofL [(0,.pt (0,0) [] 0),(1,.int n),(5,.al (5,0) [] 0 (j+1)),(6,.int j),(1000,.pt (0,0) [] 0)],ofRO [((0,0),some (cur xs i2 h2)),((5,0),some (.ow 1 (j+1) (ints (e.take p ++ (j:Int) :: e.drop p))))]⟩:=by
   refine hK _ ?_;clear hK K
   show AWp _ _ _ _ _
   refine wreg fun K hK=>?_
   simp [C.spec_dNames,wrap_succ (show j < 4611686018427387904 by omega)]
   refine hK _ ?_;clear hK K
   simp [C.spec_dNames]
   refine hR1 (j+1,e.take p ++ (j:Int) :: e.drop p,i2,h2) ⟨hj,?_,?_,q1⟩ (by dsimp only;omega)
   ·dsimp only
    simp [g2]
    omega
   ·dsimp only
    refine ⟨fun y hy=>?_,?_⟩
    ·rcases List.mem_append.1 hy with hy | hy
     ·have:=g3.1 y (List.mem_of_mem_take hy)
      omega
     ·rcases List.mem_cons.1 hy with rfl | hy
      ·omega
      ·have:=g3.1 y (List.mem_of_mem_drop hy)
       omega
    ·refine (List.perm_middle.nodup_iff).2 (List.nodup_cons.2 ⟨fun hm=>?_,?_⟩)
     ·rw [List.take_append_drop] at hm
      have:=g3.1 _ hm
      omega
     ·rw [List.take_append_drop]
      exact g3.2
  clear hK
  have hbig:(j+1)*8<=140737488355328:=by omega
  by_cases z1:p=j
  ·have t1:e.take p=e:=List.take_of_length_le (by omega)
   have t2:e.drop p=[]:=List.drop_of_length_le (by omega)
   rw [t1,t2] at hJ
   subst z1
   by_cases z2:p=0
   ·subst z2
    obtain rfl:e=[]:=List.eq_nil_of_length_eq_zero g2
    simp [C.spec_dNames,ints]
    refine cast (congrArg K ?_) hJ
    simp [ints]
   ·simp [C.spec_dNames,g2,t1,t2,z2,hbig,show p*8<=140737488355328 by omega]
    repeat' first
     | (refine cast (congrArg K ?_) hJ;simp [ints];done)
     | refine And.intro ?_ ?_
     | omega
  ·by_cases z2:p=0
   ·subst z2
    simp [C.spec_dNames,g2,z1,hbig,show ¬ 0=j by omega,show (0+1+j)*8<=140737488355328 by omega,show (1+j)*8<=140737488355328 by omega]
    repeat' first
     | (refine cast (congrArg K ?_) hJ;simp [ints,Nat.add_comm];done)
     | refine And.intro ?_ ?_
     | omega
   ·have e1:p+1+(j - p)=j+1:=by omega
    have t3:(e.drop p).take (j - p)=e.drop p:=List.take_of_length_le (by simp;omega)
    simp [C.spec_dNames,t3,g2,z1,z2,hpj,hbig,e1,show (p:Int)<=j by omega,show p*8<=140737488355328 by omega,show (p+1)*8<=140737488355328 by omega]
    repeat' first
     | (refine cast (congrArg K ?_) hJ;simp [ints,e1,t3];done)
     | refine And.intro ?_ ?_
     | omega
 ·have hj:j=n:=by have:=d_f hc1;omega
  refine wexit ?_
  show AWp _ _ _ _ _
  refine wseq ?_
  refine wreg fun K hK=>?_
  simp [C.spec_dNames]
  refine hK _ ?_;clear hK K
  show AWp _ _ _ _ _
  refine wret ?_
  simp [C.spec_dNames]
  exact ⟨i1,h1,e,g4,⟨by omega,fun x hx=>by have:=g3.1 x hx;omega,g3.2⟩,by simp [hj,g2,owI]⟩
end Go.Proofs.Ytncfmemhjahpeaa.Ab
namespace Go.Proofs.Ytncfmemhjahpeaa.Ab
open Go
set_option maxRecDepth 10000
set_option maxHeartbeats 2000000
end Go.Proofs.Ytncfmemhjahpeaa.Ab
namespace Go.Proofs.Ytncfmemhjahpeaa.Ab
open Go
set_option maxRecDepth 10000
set_option maxHeartbeats 4000000
attribute [local simp] cur
end Go.Proofs.Ytncfmemhjahpeaa.Ab
namespace Go.Proofs.Ytncfmemhjahpeaa.Ab
open Go
set_option maxRecDepth 10000
set_option maxHeartbeats 2000000
end Go.Proofs.Ytncfmemhjahpeaa.Ab
namespace Go.Proofs.Ytncfmemhjahpeaa.Ab
open Go
set_option maxRecDepth 10000
set_option maxHeartbeats 2000000
end Go.Proofs.Ytncfmemhjahpeaa.Ab
namespace Go.Proofs.Ytncfmemhjahpeaa.Ab
open Go
set_option maxRecDepth 10000
set_option maxHeartbeats 2000000
end Go.Proofs.Ytncfmemhjahpeaa.Ab
namespace Go.Proofs.Ytncfmemhjahpeaa.Ab
open Go
set_option maxRecDepth 10000
set_option maxHeartbeats 4000000
attribute [local simp] cur
theorem ch_all (v:Nat) (hv:4<=v/\v<=8) (all:List Dg) (hall:all.length<=64):∀ (n at_:Nat) (F:List Dg) (L:List (List Dg)),all.length - at_<=n->at_<=all.length->F.length<=v - 3->L.length+(chF (v - 3) (all.drop at_) F).length<=1000->ChC v all at_ F L
 | n,at_,F,L,h0,h1,h2,h3=>spec_l5Choose_c v hv all at_ F L h1 hall h2 h3 fun at' F' L' g1 g2 g3 g4=>by
  match n with
  | 0=>omega
  | n+1=>exact ch_all v hv all hall n at' F' L' (by omega) g2 g3 g4
theorem lDD_0 {l:List (List Dg)} {i:Nat} (h:i < l.length):(rows lDD l)[i]? = some (D.ow 2 l[i].length (rows gM (l[i].map dgI)))/\∀ h',(rows lDD l)[i]'h'=D.ow 2 l[i].length (rows gM (l[i].map dgI)):=twice (by
 have:=rows_get lDD_one l i 0 h (by omega)
 simpa [lDD] using this)
theorem dgm_at (t:List Dg) {k:Nat} (hk:k < t.length):∃ hk:k < t.length,((rows gM (t.map dgI))[2*k]? = some (D.int t[k].1)/\∀ h',(rows gM (t.map dgI))[2*k]'h'=D.int t[k].1)/\((rows gM (t.map dgI))[2*k+1]? = some (D.int t[k].2)/\∀ h',(rows gM (t.map dgI))[2*k+1]'h'=D.int t[k].2):=by
 have hm:k < (t.map dgI).length:=by simpa using hk
 have h1:(t.map dgI)[k].1=(t[k].1:Int):=by rw [List.getElem_map];rfl
 have h2:(t.map dgI)[k].2=(t[k].2:Int):=by rw [List.getElem_map];rfl
 have a:=gM_0 hm
 have b:=gM_1 hm
 rw [h1] at a
 rw [h2] at b
 exact ⟨hk,a,b⟩
def drT (t:List Dg) (e:List Int) (j:Nat):List Dg:=(e.take j).map fun x=>t.getD x.toNat (0,0)
def DrawT (xs:List Int) (outs:List D) (res:List RV):Prop:=∃ (i':Nat) (h':Int) (v:Nat) (l:List Dg),i'<=xs.length/\(4<=v/\v<=7)/\Tri v l/\outs=[cur xs i' h']/\res=[.one (D.int v),.one (.ow 2 l.length (rows gM (l.map dgI)))]
def DrawG (xs:List Int) (v:Nat) (outs:List D) (res:List RV):Prop:=∃ (i':Nat) (h':Int) (d:Dg),i'<=xs.length/\d∈allD v/\outs=[cur xs i' h']/\res=[.ag [D.int d.1,D.int d.2]]
def DrawFl (outs:List D) (res:List RV):Prop:=∃ (v:Nat) (l:List Dg) (ks:List Int) (d:Dg),(4<=v/\v<=7)/\Tri v l/\(ks.length<=6/\∀ x∈ks,0<=x/\x < l.length)/\d∈allD v/\outs=[]/\res=[.one (D.int v),.one (.ow 2 l.length (rows gM (l.map dgI))),.one (owI ks),.ag [D.int d.1,D.int d.2]]
theorem spec_TriangulationsOf_c (v:Nat) (hv:4<=v/\v<=7):ACalls Try.prog F.spec_TriangulationsOf [.int v] [] true (fun outs res=>outs=[]/\res=[.one (.ow 1 (triL v).length (rows lDD (triL v)))]):=by
 have h8:4<=v/\v<=8:=⟨hv.1,by omega⟩
 have hal:=allD_len hv
 have htl:=triL_len hv
 have htl2:(chF (v - 3) (allD v) []).length<=1000:=Nat.le_trans htl.2 (by omega)
 have hN:=spec_l5ChooseN_c v h8 (allD v) (by omega) htl2 fun at' F' L' _ g2 g3 g4=>ch_all v h8 (allD v) (by omega) _ at' F' L' (Nat.le_refl _) g2 g3 g4
 rw [show chF (v - 3) (allD v) []=triL v from rfl] at hN
 have hp:=spec_l5Polygon_c v
 rw [decide_eq_true (show 4<=(v:Int)/\(v:Int)<=8 by omega)] at hp
 refine ACalls.of_body (C:=C.spec_TriangulationsOf) (n:=Try.f50.ntmps) tabT folT Try.func50 rfl (by kernel_rfl) rfl (Nat.le_of_ble_eq_true rfl) (by decide) (by kernel_rfl) (by kernel_rfl) rfl (by simp) (by simp) ?_
 simp only [Try.f50]
 refine wseq ?_
 refine wreg fun K hK=>?_
 simp [C.spec_TriangulationsOf]
 refine hK _ ?_;clear hK K
 show AWp _ _ _ _ _
 refine wseq ?_
 refine wseq ?_
 refine wregI ([0,1] ++ ([2])) rfl fun K hK=>?_
 refine oSg fun L hL=>?_
 simp [C.spec_TriangulationsOf]
 refine wcall1 (hp) (by simp) (by simp) ?_
 simp [C.spec_TriangulationsOf]
 refine hL _ ?_;clear hL L
 refine oEn fun L hL=>?_
 simp [C.spec_TriangulationsOf]
 refine hL _ ?_;clear hL L
 simp [C.spec_TriangulationsOf]
 refine hK _ ?_;clear hK K
 show AWp _ _ _ _ _
 refine wcond _ rfl (fun hc1=>?_) (fun hc1=>?_)
 ·simp at hc1
 ·refine wskip ?_
  show AWp _ _ _ _ _
  refine wseq ?_
  refine wregI ([0,1,2] ++ ([3,4] ++ ([5]))) rfl fun K hK=>?_
  refine oSg fun L hL=>?_
  simp [C.spec_TriangulationsOf]
  refine wcall1 (spec_l5All_c v h8) (by simp) (by simp) ?_
  simp [C.spec_TriangulationsOf]
  refine hL _ ?_;clear hL L
  refine oSg fun L hL=>?_
  simp [C.spec_TriangulationsOf]
  refine wcall1 (hN) (by simp []) (by simp) ?_
  simp [C.spec_TriangulationsOf]
  refine hL _ ?_;clear hL L
  refine oEn fun L hL=>?_
  simp [C.spec_TriangulationsOf]
  refine hL _ ?_;clear hL L
  simp [C.spec_TriangulationsOf]
  refine hK _ ?_;clear hK K
  show AWp _ _ _ _ _
  refine wret ?_
  simp [C.spec_TriangulationsOf]
theorem spec_dTriangulation_c (xs:List Int) (i:Nat) (h:Int) (hi:i<=xs.length) (hx:xs.length<=1048576):ACalls Try.prog F.spec_dTriangulation [.pt (0,0) [] 0,.int 7] [((0,0),cur xs i h)] false (DrawT xs):=by
 refine ACalls.of_body (C:=C.spec_dTriangulation) (n:=Try.f19.ntmps) tabT folT Try.func19 rfl (by kernel_rfl) rfl (Nat.le_of_ble_eq_true rfl) (by decide) (by kernel_rfl) (by kernel_rfl) rfl (by simp) (by simp) ?_
 simp only [Try.f19]
 refine wseq ?_
 refine wreg fun K hK=>?_
 simp [C.spec_dTriangulation]
 refine hK _ ?_;clear hK K
 show AWp _ _ _ _ _
 refine wseq ?_
 refine wregI ([0,1,2,3] ++ ([4,5])) rfl fun K hK=>?_
 refine oSg fun L hL=>?_
 simp [C.spec_dTriangulation,wrapOk (x:=(4:Int)) (by omega) (by omega)]
 refine wcall (spec_l1Below_c xs i h 4 hi hx (by omega)) (by simp) (by simp) (by simp) ?_
 rintro outs res ⟨i1,h1,c1,p1,q1,rfl,rfl⟩
 simp [C.spec_dTriangulation,wrapOk (x:=(4:Int)) (by omega) (by omega)]
 refine hL _ ?_;clear hL L
 refine oEn fun L hL=>?_
 simp [C.spec_dTriangulation,wrapOk (x:=(4:Int)) (by omega) (by omega)]
 refine hL _ ?_;clear hL L
 simp [C.spec_dTriangulation,wrapOk (x:=(4:Int)) (by omega) (by omega)]
 refine hK _ ?_;clear hK K
 show AWp _ _ _ _ _
 refine wseq ?_
 obtain ⟨v,hv,hvb⟩:∃ v:Nat,IntKind.i64.wrap (4+c1)=v/\(4<=v/\v<=7):=⟨(4+c1).toNat,by rw [wrapOk (by omega) (by omega)];omega,by omega⟩
 rw [hv]
 have htl:=triL_len hvb
 refine wregI ([0,1] ++ ([2])) rfl fun K hK=>?_
 refine oSg fun L hL=>?_
 simp [C.spec_dTriangulation]
 refine wcall1 (spec_TriangulationsOf_c v hvb) (by simp) (by simp) ?_
 simp [C.spec_dTriangulation]
 refine hL _ ?_;clear hL L
 refine oEn fun L hL=>?_
 simp [C.spec_dTriangulation]
 refine hL _ ?_;clear hL L
 simp [C.spec_dTriangulation]
 refine hK _ ?_;clear hK K
 show AWp _ _ _ _ _
 refine wseq ?_
 refine wregI ([0,1,2,3,4] ++ ([5,6,7])) rfl fun K hK=>?_
 have hJ:∀ (i2:Nat) (h2:Int) (k:Nat) (hi2:i2<=xs.length) (hk:k < (triL v).length),K ⟨ofL [(0,.pt (0,0) [] 0),(6,.int v),(8,.al (8,0) [k] 0 (triL v)[k].length),(1000,.pt (0,0) [] 0)],ofRO [((0,0),some (cur xs i2 h2)),((8,0),some (.ow 1 (triL v).length (rows lDD (triL v))))]⟩:=by
  intro i2 h2 k hi2 hk
  refine hK _ ?_;clear hK K
  show AWp _ _ _ _ _
  refine wseq ?_
  refine wreg fun K hK=>?_
  simp [C.spec_dTriangulation,rows]
  refine hK _ ?_;clear hK K
  show AWp _ _ _ _ _
  refine wseq ?_
  have htt:=triL_tri (v:=v) ⟨hvb.1,by omega⟩ (List.getElem_mem hk)
  obtain ⟨t,ht⟩:∃ t,t=(triL v)[k]:=⟨_,rfl⟩
  have hl0:=lDD_0 hk
  rw [<-ht] at hl0 htt
  rw [<-ht]
  have htln:=htt.len
  refine wregI ([0,1,2,3] ++ ([4])) rfl fun K hK=>?_
  refine oSg fun L hL=>?_
  simp [C.spec_dTriangulation]
  refine wcall (spec_dNames_c xs i2 h2 t.length hi2 hx (by omega)) (by simp) (by simp) (by simp) ?_
  rintro outs res ⟨i3,h3,e,hi3,⟨he1,he2,he3⟩,rfl,rfl⟩
  simp [C.spec_dTriangulation]
  refine hL _ ?_;clear hL L
  refine oEn fun L hL=>?_
  simp [C.spec_dTriangulation]
  refine hL _ ?_;clear hL L
  simp [C.spec_dTriangulation]
  refine hK _ ?_;clear hK K
  show AWp _ _ _ _ _
  refine wseq ?_
  refine wseq ?_
  refine wreg fun K hK=>?_
  simp [C.spec_dTriangulation]
  refine hK _ ?_;clear hK K
  show AWp _ _ _ _ _
  refine wblock ?_
  refine wloop (fun j:Nat=>⟨ofL [(6,.int v),(8,.al (8,0) [k] 0 t.length),(9,.al (9,0) [] 0 j),(10,.al (10,0) [] 0 e.length),(11,.int j),(1000,.pt (1000,0) [] 0)],ofRO [((8,0),some (.ow 1 (triL v).length (rows lDD (triL v)))),((9,0),some (.ow 2 j (rows gM ((drT t e j).map dgI)))),((10,0),some (owI e)),((1000,0),some (cur xs i3 h3))]⟩) (fun j=>j<=t.length) (fun j=>t.length - j) 0 (by simp [C.spec_dTriangulation,rows,owI,drT]) (by simp) ?_
  intro x1 hx1 R1 hR1
  refine wseq ?_
  refine wseq ?_
  refine wreg fun K hK=>?_
  simp [C.spec_dTriangulation]
  refine hK _ ?_;clear hK K
  show AWp _ _ _ _ _
  refine wcond _ rfl (fun hc1=>?_) (fun hc1=>?_)
  ·have hj:x1 < t.length:=by have:=d_t hc1;simpa using this
   have hje:x1 < e.length:=by omega
   have hb:=he2 _ (List.getElem_mem hje)
   obtain ⟨p,hp⟩:∃ p:Nat,e[x1]=p:=⟨e[x1].toNat,by omega⟩
   have hpt:p < t.length:=by omega
   have hpm:p < (t.map dgI).length:=by simpa using hpt
   obtain ⟨d,hd⟩:∃ d,d=t[p]:=⟨_,rfl⟩
   obtain ⟨_,hs0,hs1⟩:=dgm_at t hpt
   rw [<-hd] at hs0 hs1
   have hsn:=dg_snoc (drT t e x1) d
   have htk:drT t e (x1+1)=drT t e x1 ++ [d]:=by
    unfold drT
    rw [List.take_succ_eq_append_getElem hje,List.map_append]
    simp only [List.map_cons,List.map_nil,hp,Int.toNat_natCast,List.getD_eq_getElem?_getD,List.getElem?_eq_getElem hpt,Option.getD_some,hd]
   obtain ⟨M,hM⟩:∃ M,M=drT t e x1:=⟨_,rfl⟩
   rw [<-hM] at hsn htk
   rw [<-hM]
   refine wskip ?_
   show AWp _ _ _ _ _
   refine wseq ?_
   refine wblock ?_
   refine wreg fun K hK=>?_
   simp [C.spec_dTriangulation,get_ints,hje,hp,hpt,hs0,hs1,hl0,hk,hj,hsn,show (x1:Int) < t.length by omega,show (p:Int) < t.length by omega,show (x1+1)*16<=140737488355328 by omega]
   refine hK _ ?_;clear hK K
   show AWp _ _ _ _ _
   refine wreg fun K hK=>?_
   simp [C.spec_dTriangulation,wrap_succ (show x1 < 4611686018427387904 by omega)]
   refine hK _ ?_;clear hK K
   simp [C.spec_dTriangulation]
   refine cast (congrArg R1 ?_) (hR1 (x1+1) hj (by omega))
   rw [htk]
   simp [owI]
  ·have hj:x1=t.length:=by have:=d_f hc1;simp at this;omega
   have hpm:=names_perm he1 he2 he3
   have hdr:drT t e x1=e.map fun x=>t.getD x.toNat (0,0):=by
    unfold drT
    rw [hj,List.take_of_length_le (by omega)]
   rw [<-hdr] at hpm
   have hdl:=hpm.length_eq
   refine wexit ?_
   show AWp _ _ _ _ _
   refine wseq ?_
   refine wreg fun K hK=>?_
   simp [C.spec_dTriangulation]
   refine hK _ ?_;clear hK K
   show AWp _ _ _ _ _
   refine wret ?_
   simp [C.spec_dTriangulation]
   exact ⟨i3,h3,v,drT t e x1,hi3,hvb,htt.perm hpm,by simp,by have h:=hdl;rw [hj] at h;simp [hj,h]⟩
 clear hK
 simp [C.spec_dTriangulation]
 repeat' first
  | (refine wcall (spec_l1Below_c xs i1 h1 (triL v).length p1 hx (by omega)) (by simp) (by simp) (by simp) ?_;rintro outs res ⟨i2,h2,c2,q1,q2,rfl,rfl⟩;obtain ⟨k,rfl⟩:∃ k:Nat,c2=k:=⟨c2.toNat,by omega⟩;simp [C.spec_dTriangulation,lDD_0 (show k < (triL v).length by omega),show k < (triL v).length by omega];refine cast (congrArg K ?_) (hJ i2 h2 k q1 (by omega));simp;done)
  | refine And.intro ?_ ?_
theorem spec_dDiagonal_c (xs:List Int) (i:Nat) (h:Int) (v:Nat) (hi:i<=xs.length) (hx:xs.length<=1048576) (hv:4<=v/\v<=7):ACalls Try.prog F.spec_dDiagonal [.pt (0,0) [] 0,.int v] [((0,0),cur xs i h)] false (DrawG xs v):=by
 have hal:=allD_len hv
 refine ACalls.of_body (C:=C.spec_dDiagonal) (n:=Try.f21.ntmps) tabT folT Try.func21 rfl (by kernel_rfl) rfl (Nat.le_of_ble_eq_true rfl) (by decide) (by kernel_rfl) (by kernel_rfl) rfl (by simp) (by simp) ?_
 simp only [Try.f21]
 refine wseq ?_
 refine wreg fun K hK=>?_
 simp [C.spec_dDiagonal]
 refine hK _ ?_;clear hK K
 show AWp _ _ _ _ _
 refine wseq ?_
 refine wregI ([0,1] ++ ([2])) rfl fun K hK=>?_
 refine oSg fun L hL=>?_
 simp [C.spec_dDiagonal]
 refine wcall1 (spec_l5All_c v ⟨hv.1,by omega⟩) (by simp) (by simp) ?_
 simp [C.spec_dDiagonal]
 refine hL _ ?_;clear hL L
 refine oEn fun L hL=>?_
 simp [C.spec_dDiagonal]
 refine hL _ ?_;clear hL L
 simp [C.spec_dDiagonal]
 refine hK _ ?_;clear hK K
 show AWp _ _ _ _ _
 refine wseq ?_
 refine wregI ([0,1,2,3,4] ++ ([5,6,7])) rfl fun K hK=>?_
 have hJ:∀ (i2:Nat) (h2:Int) (d:Dg) (hi2:i2<=xs.length) (hd:d∈allD v),K ⟨ofL [(4,.pt (4,0) [] 0),(1000,.pt (1000,0) [] 0)],ofRO [((4,0),some (.bx [D.int d.1,D.int d.2])),((1000,0),some (cur xs i2 h2))]⟩:=by
  intro i2 h2 d hi2 hd
  refine hK _ ?_;clear hK K
  show AWp _ _ _ _ _
  refine wret ?_
  simp [C.spec_dDiagonal]
  exact ⟨i2,h2,d,hi2,hd,by simp⟩
 clear hK
 simp [C.spec_dDiagonal]
 repeat' first
  | (refine wcall (spec_l1Below_c xs i h (allD v).length hi hx (by omega)) (by simp) (by simp) (by simp) ?_;rintro outs res ⟨i2,h2,c2,q1,q2,rfl,rfl⟩;obtain ⟨k,rfl⟩:∃ k:Nat,c2=k:=⟨c2.toNat,by omega⟩;obtain ⟨hk,hk0,hk1⟩:=dgm_at (allD v) (show k < (allD v).length by omega);simp [C.spec_dDiagonal,hk0,hk1,hk];refine cast (congrArg K ?_) (hJ i2 h2 (allD v)[k] q1 (List.getElem_mem hk));simp;done)
  | refine And.intro ?_ ?_
theorem spec_dSteps6_c (xs:List Int) (i:Nat) (h:Int) (n:Nat) (hi:i<=xs.length) (hx:xs.length<=1048576) (hn:1<=n/\n<=5):ACalls Try.prog F.spec_dSteps [.pt (0,0) [] 0,.int n,.int 6] [((0,0),cur xs i h)] false (DrawE xs (fun e=>e.length<=6/\∀ x∈e,0<=x/\x < n)):=by
 refine ACalls.of_body (C:=C.spec_dSteps) (n:=Try.f20.ntmps) tabT folT Try.func20 rfl (by kernel_rfl) rfl (Nat.le_of_ble_eq_true rfl) (by decide) (by kernel_rfl) (by kernel_rfl) rfl (by simp) (by simp) ?_
 simp only [Try.f20]
 refine wseq ?_
 refine wreg fun K hK=>?_
 simp [C.spec_dSteps]
 refine hK _ ?_;clear hK K
 show AWp _ _ _ _ _
 refine wseq ?_
 refine wreg fun K hK=>?_
 simp [C.spec_dSteps]
 refine hK _ ?_;clear hK K
 show AWp _ _ _ _ _
 refine wseq ?_
 refine wregI ([0,1,2,3] ++ ([4])) rfl fun K hK=>?_
 refine oSg fun L hL=>?_
 simp [C.spec_dSteps,wrapOk (x:=(7:Int)) (by omega) (by omega)]
 refine wcall (spec_l1Below_c xs i h 7 hi hx (by omega)) (by simp) (by simp) (by simp) ?_
 rintro outs res ⟨i1,h1,c1,p1,q1,rfl,rfl⟩
 simp [C.spec_dSteps,wrapOk (x:=(7:Int)) (by omega) (by omega)]
 refine hL _ ?_;clear hL L
 refine oEn fun L hL=>?_
 simp [C.spec_dSteps,wrapOk (x:=(7:Int)) (by omega) (by omega)]
 refine hL _ ?_;clear hL L
 simp [C.spec_dSteps,wrapOk (x:=(7:Int)) (by omega) (by omega)]
 refine hK _ ?_;clear hK K
 show AWp _ _ _ _ _
 refine wseq ?_
 refine wseq ?_
 obtain ⟨cc,hcc⟩:∃ cc:Nat,c1=cc:=⟨c1.toNat,by omega⟩
 rw [hcc]
 refine wreg fun K hK=>?_
 simp [C.spec_dSteps]
 refine hK _ ?_;clear hK K
 show AWp _ _ _ _ _
 refine wblock ?_
 refine wloop (fun x:Nat×List Int×Nat×Int=>⟨ofL [(0,.pt (0,0) [] 0),(1,.int n),(7,.al (7,0) [] 0 x.1),(8,.int cc),(9,.int x.1),(1000,.pt (0,0) [] 0)],ofRO [((0,0),some (cur xs x.2.2.1 x.2.2.2)),((7,0),some (.ow 1 x.1 (ints x.2.1)))]⟩) (fun x=>x.1<=cc/\x.2.1.length=x.1/\(∀ y∈x.2.1,0<=y/\y < n)/\x.2.2.1<=xs.length) (fun x=>cc - x.1) (0,[],i1,h1) (by simp [C.spec_dSteps,ints]) ⟨by simp,rfl,by simp,p1⟩ ?_
 intro x1 hx1 R1 hR1
 obtain ⟨j,e,i2,h2⟩:=x1
 obtain ⟨g1,g2,g3,g4⟩:=hx1
 dsimp only at g1 g2 g3 g4 ⊢
 refine wseq ?_
 refine wseq ?_
 refine wreg fun K hK=>?_
 simp [C.spec_dSteps]
 refine hK _ ?_;clear hK K
 show AWp _ _ _ _ _
 refine wcond _ rfl (fun hc1=>?_) (fun hc1=>?_)
 ·have hj:j < cc:=by have:=d_t hc1;omega
  refine wskip ?_
  show AWp _ _ _ _ _
  refine wseq ?_
  refine wblock ?_
  refine wregI ([0,1,2,3] ++ ([4,5,6])) rfl fun K hK=>?_
  refine oSg fun L hL=>?_
  simp [C.spec_dSteps,ints_snocA,show (j+1)*8<=140737488355328 by omega]
  refine wcall (spec_l1Below_c xs i2 h2 n g4 hx (by omega)) (by simp) (by simp) (by simp) ?_
  rintro outs res ⟨i3,h3,c,p2,q2,rfl,rfl⟩
  simp [C.spec_dSteps,ints_snocA,show (j+1)*8<=140737488355328 by omega]
  refine hL _ ?_;clear hL L
  refine oEn fun L hL=>?_
  simp [C.spec_dSteps,ints_snocA,show (j+1)*8<=140737488355328 by omega]
  refine hL _ ?_;clear hL L
  simp [C.spec_dSteps,ints_snocA,show (j+1)*8<=140737488355328 by omega]
  refine hK _ ?_;clear hK K
  show AWp _ _ _ _ _
  refine wreg fun K hK=>?_
  simp [C.spec_dSteps,wrap_succ (show j < 4611686018427387904 by omega)]
  refine hK _ ?_;clear hK K
  simp [C.spec_dSteps]
  refine hR1 (j+1,e ++ [c],i3,h3) ⟨hj,?_,?_,p2⟩ (by dsimp only;omega)
  ·dsimp only
   simp [g2]
  ·dsimp only
   intro y hy
   rcases List.mem_append.1 hy with hy | hy
   ·exact g3 y hy
   ·rw [List.mem_singleton] at hy
    subst hy
    exact q2
 ·have hj:j=cc:=by have:=d_f hc1;omega
  refine wexit ?_
  show AWp _ _ _ _ _
  refine wseq ?_
  refine wreg fun K hK=>?_
  simp [C.spec_dSteps]
  refine hK _ ?_;clear hK K
  show AWp _ _ _ _ _
  refine wret ?_
  simp [C.spec_dSteps]
  exact ⟨i2,h2,e,g4,⟨by omega,g3⟩,by simp,by simp [g2,owI]⟩
theorem spec_DrawFlips_c (xs:List Int) (hx:xs.length<=1048576):ACalls Try.prog F.spec_DrawFlips [.d (.sh 1 xs.length (byts xs))] [] false DrawFl:=by
 refine ACalls.of_body (C:=C.spec_DrawFlips) (n:=Try.f6.ntmps) tabT folT Try.func6 rfl (by kernel_rfl) rfl (Nat.le_of_ble_eq_true rfl) (by decide) (by kernel_rfl) (by kernel_rfl) rfl (by simp) (by simp) ?_
 simp only [Try.f6]
 refine wseq ?_
 refine wreg fun K hK=>?_
 simp [C.spec_DrawFlips]
 refine hK _ ?_;clear hK K
 show AWp _ _ _ _ _
 refine wseq ?_
 refine wregI ([0,1] ++ ([2])) rfl fun K hK=>?_
 refine oSg fun L hL=>?_
 simp [C.spec_DrawFlips]
 refine wcall (spec_l1New_c xs hx) (by simp) (by simp) (by simp) ?_
 rintro outs res ⟨rfl,h0,rfl⟩
 simp [C.spec_DrawFlips]
 refine hL _ ?_;clear hL L
 refine oEn fun L hL=>?_
 simp [C.spec_DrawFlips]
 refine hL _ ?_;clear hL L
 simp [C.spec_DrawFlips]
 refine hK _ ?_;clear hK K
 show AWp _ _ _ _ _
 refine wseq ?_
 refine wregI ([0,1] ++ ([2,3,4,5,6])) rfl fun K hK=>?_
 refine oSg fun L hL=>?_
 simp [C.spec_DrawFlips]
 refine wcall (spec_dTriangulation_c xs 0 h0 (by omega) hx) (by simp) (by simp) (by simp) ?_
 rintro outs res ⟨i1,h1,v,l,p1,hv,hT,rfl,rfl⟩
 simp [C.spec_DrawFlips]
 refine hL _ ?_;clear hL L
 refine oEn fun L hL=>?_
 simp [C.spec_DrawFlips]
 refine hL _ ?_;clear hL L
 simp [C.spec_DrawFlips]
 refine hK _ ?_;clear hK K
 show AWp _ _ _ _ _
 refine wseq ?_
 have hll:=hT.len
 refine wregI ([0,1,2,3,4,5] ++ ([6,7,8] ++ ([9,10,11,12]))) rfl fun K hK=>?_
 refine oSg fun L hL=>?_
 simp [C.spec_DrawFlips]
 refine wcall (spec_dSteps6_c xs i1 h1 l.length p1 hx (by omega)) (by simp) (by simp) (by simp) ?_
 rintro outs res ⟨i2,h2,ks,p2,⟨k1,k2⟩,rfl,rfl⟩
 simp [C.spec_DrawFlips]
 refine hL _ ?_;clear hL L
 refine oSg fun L hL=>?_
 simp [C.spec_DrawFlips]
 refine wcall (spec_dDiagonal_c xs i2 h2 v p2 hx hv) (by simp) (by simp) (by simp) ?_
 rintro outs res ⟨i3,h3,d,p3,hd,rfl,rfl⟩
 simp [C.spec_DrawFlips]
 refine hL _ ?_;clear hL L
 refine oEn fun L hL=>?_
 simp [C.spec_DrawFlips]
 refine hL _ ?_;clear hL L
 simp [C.spec_DrawFlips]
 refine hK _ ?_;clear hK K
 show AWp _ _ _ _ _
 refine wret ?_
 simp [C.spec_DrawFlips]
 exact ⟨v,l,ks,d,hv,hT,⟨k1,k2⟩,hd,by simp [owI]⟩
end Go.Proofs.Ytncfmemhjahpeaa.Ab
namespace Go.Proofs.Ytncfmemhjahpeaa.Ab
open Go
set_option maxRecDepth 10000
set_option maxHeartbeats 4000000
theorem iArc_c (v:Int) (l:List DI) (d:DI) (hx:l.length < 4611686018427387904):ACalls Try.prog F.impl_ArcLaurent [.int v,.d (.sh 2 l.length (rows gM l)),agD d] [] true (fun outs res=>outs=[]/\res=[.ag (fO (arcF v l d).1),.one (D.bool (arcF v l d).2)]):=((impl_ArcLaurent_c v l d hx).mono fun outs res h=>⟨h.1,h.2.1⟩).weak1
theorem lnL_ok {v:Nat} {l:List Dg} (h:Tri v l) {a c:Nat} (hac:a≠c) (ha:a < v) (hc:c < v):LenP v l a c (lnL v l a c):=by
 obtain ⟨f,hf⟩:=len_ex h _ a c (Nat.le_refl _) hac ha hc
 rw [lnL_eq h hf]
 exact hf
theorem isDg_of {v:Nat} {d:Dg} (hv:4<=v/\v<=8) (h:d∈allD v):IsDg v (dgI d):=by
 obtain ⟨a,b⟩:=d
 have:=allD_mem.1 h
 unfold IsDg dgI
 dsimp only
 omega
theorem map_toN (l:List Dg):(l.map dgI).map toN=l:=by
 rw [List.map_map]
 have:(toN ∘ dgI)=id:=by funext d;rfl
 rw [this,List.map_id]
theorem triI_of {v:Nat} {l:List Dg} (h:Tri v l):TriI v (l.map dgI):=by
 have hv:=h.vb
 refine ⟨by omega,by rw [List.length_map];have:=h.len;omega,fun d hd=>?_,?_⟩
 ·obtain ⟨x,hx,rfl⟩:=List.mem_map.1 hd
  exact isDg_of hv (h.mem x hx)
 ·rw [List.pairwise_map]
  refine (List.Pairwise.and_mem.1 h.apart).imp fun {a b} hh=>?_
  obtain ⟨ha,hb,hne,hcr⟩:=hh
  rintro (⟨e1,e2⟩ | e)
  ·apply hne
   unfold dgI at e1 e2
   dsimp only at e1 e2
   exact Prod.ext (by omega) (by omega)
  ·have:=(crI_toN (isDg_of hv (h.mem b hb)) (isDg_of hv (h.mem a ha))).1 e
   rw [toN_dgI,toN_dgI,crs_sym,hcr] at this
   exact absurd this (by simp)
theorem arcF_at {v:Nat} {l:List Dg} (h:Tri v l) {a b:Nat} (hd:(a,b)∈allD v):arcF v (l.map dgI) (dgI (a,b))=(lnL v l a b,true):=by
 unfold arcF
 rw [if_pos ⟨triI_of h,isDg_of h.vb hd⟩,map_toN]
 rfl
end Go.Proofs.Ytncfmemhjahpeaa.Ab
namespace Go.Proofs.Ytncfmemhjahpeaa.Ab
open Go
set_option maxRecDepth 10000
set_option maxHeartbeats 4000000
theorem impl_diagonalsOf_c (v:Nat) (hv:4<=v/\v<=8):ACalls Try.prog F.impl_diagonalsOf [.int v] [] true (fun outs res=>outs=[]/\res=[.one (.ow 2 (allD v).length (rows gM ((allD v).map dgI)))]):=by
 refine ACalls.of_body (C:=C.impl_diagonalsOf) (n:=Try.f42.ntmps) tabT folT Try.func42 rfl (by kernel_rfl) rfl (Nat.le_of_ble_eq_true rfl) (by decide) (by kernel_rfl) (by kernel_rfl) rfl (by simp) (by simp) ?_
 simp only [Try.f42]
 refine wseq ?_
 refine wreg fun K hK=>?_
 simp [C.impl_diagonalsOf]
 refine hK _ ?_;clear hK K
 show AWp _ _ _ _ _
 refine wseq ?_
 refine wreg fun K hK=>?_
 simp [C.impl_diagonalsOf]
 refine hK _ ?_;clear hK K
 show AWp _ _ _ _ _
 refine wseq ?_
 refine wseq ?_
 refine wreg fun K hK=>?_
 simp [C.impl_diagonalsOf]
 refine hK _ ?_;clear hK K
 show AWp _ _ _ _ _
 refine wblock ?_
 refine wloopW (fun a:Nat=>⟨ofL [(0,.int v),(3,.al (3,0) [] 0 (allP v a).length),(4,.int a)],ofRO [((3,0),some (.ow 2 (allP v a).length (rows gM ((allP v a).map dgI))))]⟩) (fun a=>a<=v) (fun a=>v - a) 0 [.tmp 3 2] (by simp [C.impl_diagonalsOf,rows,allP];repeat' (first | refine ⟨?_,?_⟩ | exact updHit _ _ _ _ | refine updCons (by decide) ?_ | exact rootNil _ _ _ | refine rootCons (by decide) ?_)) (by simp) ?_
 intro x1 hx1 R1 hR1
 refine wseq ?_
 refine wseq ?_
 refine wreg fun K hK=>?_
 simp [C.impl_diagonalsOf]
 refine hK _ ?_;clear hK K
 show AWp _ _ _ _ _
 refine wcond _ rfl (fun hc1=>?_) (fun hc1=>?_)
 ·have h1:x1 < v:=by have:=d_t hc1;omega
  have hal:=allP_len v x1
  have hal2:x1*v<=8*8:=Nat.mul_le_mul (by omega) hv.2
  have hst:lsD v x1 (x1+1)=allP v x1:=by
   unfold lsD
   rw [rowD_start (by omega),List.append_nil]
  refine wskip ?_
  show AWp _ _ _ _ _
  refine wseq ?_
  refine wblock ?_
  refine wseq ?_
  refine wreg fun K hK=>?_
  simp [C.impl_diagonalsOf,wrap_succ (show x1 < 4611686018427387904 by omega)]
  refine hK _ ?_;clear hK K
  show AWp _ _ _ _ _
  refine wblock ?_
  refine wloop (fun b:Nat=>⟨ofL [(0,.int v),(3,.al (3,0) [] 0 (lsD v x1 b).length),(4,.int x1),(5,.int b)],ofRO [((3,0),some (.ow 2 (lsD v x1 b).length (rows gM ((lsD v x1 b).map dgI))))]⟩) (fun b=>x1+1<=b/\b<=v) (fun b=>v+2 - b) (x1+1) (by simp [C.impl_diagonalsOf,hst]) ⟨by omega,by omega⟩ ?_
  intro x2 hx2 R2 hR2
  refine wseq ?_
  refine wseq ?_
  refine wreg fun K hK=>?_
  simp [C.impl_diagonalsOf]
  refine hK _ ?_;clear hK K
  show AWp _ _ _ _ _
  refine wcond _ rfl (fun hc2=>?_) (fun hc2=>?_)
  ·have h2:x2 < v:=by have:=d_t hc2;omega
   have hrl:=rowD_len v x1 x2
   have hlen:(lsD v x1 x2).length<=72:=by unfold lsD;rw [List.length_append];omega
   have hsu:=lsD_succ v x1 x2
   have hrc:=rowC_eq v x1 x2
   obtain ⟨Q,hQ⟩:∃ Q,Q=lsD v x1 x2:=⟨_,rfl⟩
   rw [<-hQ] at hlen hsu
   rw [<-hQ]
   have hid:=impl_IsDiagonal_c v ((x1:Int),(x2:Int))
   have hib:decide (IsDg (v:Int) ((x1:Int),(x2:Int)))=rowC v x1 x2:=by
    rw [hrc,Bool.eq_iff_iff,decide_eq_true_eq,decide_eq_true_eq]
    unfold IsDg
    dsimp only
    omega
   rw [hib] at hid
   simp only [agD] at hid
   refine wskip ?_
   show AWp _ _ _ _ _
   refine wseq ?_
   refine wblock ?_
   refine wseq ?_
   refine wreg fun K hK=>?_
   simp [C.impl_diagonalsOf]
   refine hK _ ?_;clear hK K
   show AWp _ _ _ _ _
   refine wseq ?_
   refine wregI ([0,1,2] ++ ([])) rfl fun K hK=>?_
   refine oSg fun L hL=>?_
   simp [C.impl_diagonalsOf]
   refine wcall1 (hid) (by simp) (by simp) ?_
   simp [C.impl_diagonalsOf]
   refine hL _ ?_;clear hL L
   refine oEn fun L hL=>?_
   simp only [AOpsI]
   refine hL _ ?_;clear hL L
   simp [C.impl_diagonalsOf]
   refine hK _ ?_;clear hK K
   show AWp _ _ _ _ _
   refine wcond _ rfl (fun hc3=>?_) (fun hc3=>?_)
   ·have hr1:rowC v x1 x2=true:=by simpa using hc3
    rw [if_pos hr1] at hsu
    refine wreg fun K hK=>?_
    simp [C.impl_diagonalsOf,show (Q.length+1)*16<=140737488355328 by omega,dg_snoc Q (x1,x2)]
    refine hK _ ?_;clear hK K
    show AWp _ _ _ _ _
    refine wreg fun K hK=>?_
    simp [C.impl_diagonalsOf,wrap_succ (show x2 < 4611686018427387904 by omega)]
    refine hK _ ?_;clear hK K
    simp [C.impl_diagonalsOf]
    refine cast (congrArg R2 ?_) (hR2 (x2+1) ⟨by omega,h2⟩ (by omega))
    rw [hsu]
    simp
   ·have hr1:¬ rowC v x1 x2=true:=by simpa using hc3
    rw [if_neg hr1] at hsu
    refine wskip ?_
    show AWp _ _ _ _ _
    refine wreg fun K hK=>?_
    simp [C.impl_diagonalsOf,wrap_succ (show x2 < 4611686018427387904 by omega)]
    refine hK _ ?_;clear hK K
    simp [C.impl_diagonalsOf]
    refine cast (congrArg R2 ?_) (hR2 (x2+1) ⟨by omega,h2⟩ (by omega))
    rw [hsu]
    simp
  ·have h2:x2=v:=by have:=d_f hc2;omega
   have hend:lsD v x1 x2=allP v (x1+1):=by
    rw [allP_succ]
    unfold lsD
    rw [h2]
   refine wexit ?_
   show AWp _ _ _ _ _
   refine wreg fun K hK=>?_
   simp [C.impl_diagonalsOf,wrap_succ (show x1 < 4611686018427387904 by omega)]
   refine hK _ ?_;clear hK K
   simp [C.impl_diagonalsOf]
   refine cast (congrArg R1 ?_) (hR1 (x1+1) h1 (by omega))
   rw [hend]
   simp
 ·have h1:x1=v:=by have:=d_f hc1;omega
  refine wexit ?_
  show AWp _ _ _ _ _
  refine wseq ?_
  refine wreg fun K hK=>?_
  simp [C.impl_diagonalsOf]
  refine hK _ ?_;clear hK K
  show AWp _ _ _ _ _
  refine wret ?_
  simp [C.impl_diagonalsOf]
  rw [h1,allP_all]
  exact ⟨rfl,rfl⟩
theorem slices_Clone_impl_Diagonal_impl_Diagonal_c (xs:List DI) (hx:xs.length < 8796093022208):ACalls Try.prog F.slices_Clone_impl_Diagonal_impl_Diagonal [.d (.sh 2 xs.length (rows gM xs))] [] true (fun outs res=>outs=[]/\WkRs res [.one (.ow 2 xs.length (rows gM xs))]):=by
 refine ACalls.of_body (C:=C.slices_Clone_impl_Diagonal_impl_Diagonal) (n:=Try.f43.ntmps) tabT folT Try.func43 rfl (by kernel_rfl) rfl (Nat.le_of_ble_eq_true rfl) (by decide) (by kernel_rfl) (by kernel_rfl) rfl (by simp) (by simp) ?_
 simp only [Try.f43]
 refine wseq ?_
 refine wreg fun K hK=>?_
 simp [C.slices_Clone_impl_Diagonal_impl_Diagonal]
 refine hK _ ?_;clear hK K
 show AWp _ _ _ _ _
 refine wseq ?_
 refine wseq ?_
 refine wreg fun K hK=>?_
 simp [C.slices_Clone_impl_Diagonal_impl_Diagonal]
 refine ⟨?_,fun h=>?_⟩
 ·refine hK _ ?_;clear hK K
  show AWp _ _ _ _ _
  refine wcond _ rfl (fun hc1=>?_) (fun hc1=>?_)
  ·simp at hc1
  ·refine wskip ?_
   show AWp _ _ _ _ _
   refine wseq ?_
   refine wreg fun K hK=>?_
   simp [C.slices_Clone_impl_Diagonal_impl_Diagonal,show xs.length*16<=140737488355328 by omega]
   refine hK _ ?_;clear hK K
   show AWp _ _ _ _ _
   refine wret ?_
   simp [C.slices_Clone_impl_Diagonal_impl_Diagonal]
 ·refine hK _ ?_;clear hK K
  show AWp _ _ _ _ _
  refine wcond _ rfl (fun hc2=>?_) (fun hc2=>?_)
  ·refine wseq ?_
   refine wreg fun K hK=>?_
   simp [C.slices_Clone_impl_Diagonal_impl_Diagonal]
   refine hK _ ?_;clear hK K
   show AWp _ _ _ _ _
   refine wret ?_
   simp [C.slices_Clone_impl_Diagonal_impl_Diagonal,h,rows]
  ·simp at hc2
end Go.Proofs.Ytncfmemhjahpeaa.Ab
namespace Go.Proofs.Ytncfmemhjahpeaa.Ab
open Go
set_option maxRecDepth 100000
set_option maxHeartbeats 4000000
end Go.Proofs.Ytncfmemhjahpeaa.Ab
namespace Go.Proofs.Ytncfmemhjahpeaa.Ab
open Go
set_option maxRecDepth 100000
def chk4 (v:Nat) (F:List Dg):Bool:=F.all fun e=>(allD v).any fun d=>!dgq d e && F.all fun f=>dgq f e || (!crs f d && !dgq f d)
theorem chk4_4:enumC (chk4 4) (allD 4) [] 1=true:=by decide +kernel
theorem chk4_5:enumC (chk4 5) (allD 5) [] 2=true:=by decide +kernel
theorem chk4_6:enumC (chk4 6) (allD 6) [] 3=true:=by decide +kernel
theorem chk4_7:enumC (chk4 7) (allD 7) [] 4=true:=by decide +kernel
theorem tri_flip {v:Nat} {l:List Dg} (h:Tri v l) (h7:v<=7) {k:Nat} (hk:k < l.length):∃ d∈allD v,d≠l[k]/\Tri v (l.set k d):=by
 have hn:=allD_nodup h.vb.2
 obtain ⟨S,hS⟩:∃ S,S=(allD v).filter fun d=>l.contains d:=⟨_,rfl⟩
 have hsub:S.Sublist (allD v):=by rw [hS];exact List.filter_sublist
 have hp:S.Perm l:=(List.perm_ext_iff_of_nodup (hsub.nodup hn) h.nodup).2 fun d=>by
  rw [hS,List.mem_filter]
  simp only [List.contains_eq_mem,decide_eq_true_eq]
  exact ⟨fun h=>h.2,fun hd=>⟨h.mem d hd,hd⟩⟩
 have hT:=h.perm hp
 have hall:enumC (chk4 v) (allD v) [] (v - 3)=true:=by
  have:=h.vb
  obtain rfl | rfl | rfl | rfl:v=4\/v=5\/v=6\/v=7:=by omega
  ·exact chk4_4
  ·exact chk4_5
  ·exact chk4_6
  ·exact chk4_7
 have:=enumC_ok (chk4 v) (allD v) [] S (v - 3) hall hsub hT.len (hT.apart.imp fun h=>h.2) (by simp)
 rw [List.append_nil] at this
 have hq:=(List.reverse_perm S).trans hp
 unfold chk4 at this
 simp only [all_perm hq] at this
 rw [List.all_eq_true] at this
 have:=this l[k] (List.getElem_mem hk)
 rw [List.any_eq_true] at this
 obtain ⟨d,hd,hdd⟩:=this
 rw [Bool.and_eq_true,List.all_eq_true] at hdd
 obtain ⟨h1,h2⟩:=hdd
 have hne:d≠l[k]:=fun e=>by
  rw [dgq_eq.2 e] at h1
  simp at h1
 refine ⟨d,hd,hne,h.vb,by rw [List.length_set];exact h.len,fun x hx=>?_,?_⟩
 ·rcases List.mem_or_eq_of_mem_set hx with hx | rfl
  ·exact h.mem x hx
  ·exact hd
 ·have hap:=h.apart
  rw [List.pairwise_iff_getElem] at hap ⊢
  have key:∀ j (hj:j < l.length),j≠k->l[j]≠d/\crs l[j] d=false:=fun j hj hjk=>by
   have h3:=h2 l[j] (List.getElem_mem hj)
   have h4:l[j]≠l[k]:=fun e=>by
    rcases Nat.lt_or_gt_of_ne hjk with g | g
    ·exact (hap j k hj hk g).1 e
    ·exact (hap k j hk hj g).1 e.symm
   rw [Bool.or_eq_true] at h3
   rcases h3 with h3 | h3
   ·exact absurd (dgq_eq.1 h3) h4
   ·simp only [Bool.and_eq_true,Bool.not_eq_true'] at h3
    refine ⟨fun e=>?_,h3.1⟩
    rw [dgq_eq.2 e] at h3
    simp at h3
  intro i j hi hj hij
  rw [List.length_set] at hi hj
  rw [List.getElem_set,List.getElem_set]
  by_cases e1:k=i
  ·rw [if_pos e1,if_neg (by omega)]
   have:=key j hj (by omega)
   exact ⟨this.1.symm,by rw [crs_sym];exact this.2⟩
  ·rw [if_neg e1]
   by_cases e2:k=j
   ·rw [if_pos e2]
    exact key i hi (by omega)
   ·rw [if_neg e2]
    exact hap i j hi hj hij
end Go.Proofs.Ytncfmemhjahpeaa.Ab
namespace Go.Proofs.Ytncfmemhjahpeaa.Ab
open Go
set_option maxRecDepth 10000
set_option maxHeartbeats 4000000
theorem cloneD_c (xs:List DI) (hx:xs.length < 8796093022208):ACalls Try.prog F.slices_Clone_impl_Diagonal_impl_Diagonal [.d (.sh 2 xs.length (rows gM xs))] [] true (fun outs res=>outs=[]/\res=[.one (.ow 2 xs.length (rows gM xs))]):=(slices_Clone_impl_Diagonal_impl_Diagonal_c xs hx).weak1
theorem triI_iff {v:Nat} {l:List Dg}:TriI (v:Int) (l.map dgI)↔Tri v l:=by
 refine ⟨fun h=>?_,triI_of⟩
 have:=tri_of h
 rw [Int.toNat_natCast,map_toN] at this
 exact this
theorem dgs_set {l:List Dg} {k:Nat} (hk:k < l.length) (d:Dg):((rows gM (l.map dgI)).set (2*k) (D.v (.int .i64 (d.1:Int)))).set (2*k+1) (D.v (.int .i64 (d.2:Int)))=rows gM ((l.set k d).map dgI):=by
 have hm:k < (l.map dgI).length:=by simpa using hk
 have e0:=rows_set gM_two (l.map dgI) k 0 (D.v (.int .i64 (d.1:Int))) ((d.1:Int),(l.map dgI)[k].2) hm (by omega) rfl
 rw [Nat.add_zero] at e0
 rw [e0]
 have h3:k < ((l.map dgI).set k ((d.1:Int),(l.map dgI)[k].2)).length:=by simpa using hk
 have e1:=gM_set1 h3 (d.2:Int)
 rw [e1,List.set_set,List.map_set]
 congr 1
 simp [dgI]
def FlipP (v:Nat) (l:List Dg) (k:Nat) (d:Dg):Prop:=∃ h:k < l.length,d∈allD v/\d≠l[k]/\Tri v (l.set k d)
theorem impl_FlipDiagonal_c (v:Nat) (l:List Dg) (k:Nat) (hT:Tri v l) (h7:v<=7) (hk:k < l.length):ACalls Try.prog F.impl_FlipDiagonal [.int v,.d (.sh 2 l.length (rows gM (l.map dgI))),.int k] [] true (fun outs res=>outs=[]/\∃ d,FlipP v l k d/\res=[.one (.ow 2 l.length (rows gM ((l.set k d).map dgI))),.one (D.bool true)]):=by
 have hv:=hT.vb
 have hll:=hT.len
 have hit:=impl_IsTriangulation_c v (l.map dgI) (by rw [List.length_map];omega)
 rw [decide_eq_true (triI_of hT),List.length_map] at hit
 have hwi:=impl_within_c k 0 ((l.length:Int) - 1)
 rw [decide_eq_true (show (0:Int)<=k/\(k:Int)<=(l.length:Int) - 1 by omega)] at hwi
 have hdo:=impl_diagonalsOf_c v hv
 have hcl:=cloneD_c (l.map dgI) (by rw [List.length_map];omega)
 rw [List.length_map] at hcl
 obtain ⟨d0,hd0,hn0,ht0⟩:=tri_flip hT h7 hk
 have hal:(allD v).length<=64:=Nat.le_trans (allD_len ⟨hv.1,h7⟩).2 (by omega)
 obtain ⟨_,hl0,hl1⟩:=dgm_at l hk
 refine ACalls.of_body (C:=C.impl_FlipDiagonal) (n:=Try.f15.ntmps) tabT folT Try.func15 rfl (by kernel_rfl) rfl (Nat.le_of_ble_eq_true rfl) (by decide) (by kernel_rfl) (by kernel_rfl) rfl (by simp) (by simp) ?_
 simp only [Try.f15]
 refine wseq ?_
 refine wreg fun K hK=>?_
 simp [C.impl_FlipDiagonal]
 refine hK _ ?_;clear hK K
 show AWp _ _ _ _ _
 refine wseq ?_
 refine wseq ?_
 refine wregI ([0,1,2] ++ ([3,4,5,6,7,8,9] ++ ([10,11]))) rfl fun K hK=>?_
 refine oSg fun L hL=>?_
 simp [C.impl_FlipDiagonal,wrapOk (x:=(l.length:Int) - 1) (by omega) (by omega)]
 refine wcall1 (hit) (by simp) (by simp) ?_
 simp [C.impl_FlipDiagonal,wrapOk (x:=(l.length:Int) - 1) (by omega) (by omega)]
 refine hL _ ?_;clear hL L
 refine oSg fun L hL=>?_
 simp [C.impl_FlipDiagonal,wrapOk (x:=(l.length:Int) - 1) (by omega) (by omega)]
 refine wcall1 (hwi) (by simp) (by simp) ?_
 simp [C.impl_FlipDiagonal,wrapOk (x:=(l.length:Int) - 1) (by omega) (by omega)]
 refine hL _ ?_;clear hL L
 refine oEn fun L hL=>?_
 simp [C.impl_FlipDiagonal,wrapOk (x:=(l.length:Int) - 1) (by omega) (by omega)]
 refine hL _ ?_;clear hL L
 simp [C.impl_FlipDiagonal,wrapOk (x:=(l.length:Int) - 1) (by omega) (by omega)]
 refine hK _ ?_;clear hK K
 show AWp _ _ _ _ _
 refine wcond _ rfl (fun hc1=>?_) (fun hc1=>?_)
 ·simp at hc1
 ·refine wskip ?_
  show AWp _ _ _ _ _
  refine wseq ?_
  refine wseq ?_
  refine wregI ([0,1] ++ ([2,3])) rfl fun K hK=>?_
  refine oSg fun L hL=>?_
  simp [C.impl_FlipDiagonal]
  refine wcall1 (hdo) (by simp) (by simp) ?_
  simp [C.impl_FlipDiagonal]
  refine hL _ ?_;clear hL L
  refine oEn fun L hL=>?_
  simp [C.impl_FlipDiagonal]
  refine hL _ ?_;clear hL L
  simp [C.impl_FlipDiagonal]
  refine hK _ ?_;clear hK K
  show AWp _ _ _ _ _
  refine wblock ?_
  refine wloop (fun i:Nat=>⟨ofL [(0,.int v),(1,.d (.sh 2 l.length (rows gM (l.map dgI)))),(2,.int k),(24,.al (24,0) [] 0 (allD v).length),(25,.int (allD v).length),(26,.int i)],ofRO [((24,0),some (.ow 2 (allD v).length (rows gM ((allD v).map dgI))))]⟩) (fun i=>i<=(allD v).length/\∀ (j:Nat) (hj:j < (allD v).length),j < i->¬ ((allD v)[j]≠l[k]/\Tri v (l.set k (allD v)[j]))) (fun i=>(allD v).length - i) 0 (by simp [C.impl_FlipDiagonal]) ⟨by simp,fun j _ h=>absurd h (by omega)⟩ ?_
  intro x1 hx1 R1 hR1
  obtain ⟨hi0,hno⟩:=hx1
  refine wseq ?_
  refine wreg fun K hK=>?_
  simp [C.impl_FlipDiagonal]
  refine hK _ ?_;clear hK K
  show AWp _ _ _ _ _
  refine wseq ?_
  refine wcond _ rfl (fun hc2=>?_) (fun hc2=>?_)
  ·have h1:x1 < (allD v).length:=by have:=d_t hc2;simpa using this
   obtain ⟨_,hs0,hs1⟩:=dgm_at (allD v) h1
   obtain ⟨d,hd⟩:∃ d,d=(allD v)[x1]:=⟨_,rfl⟩
   rw [<-hd] at hs0 hs1
   have hdm:d∈allD v:=by rw [hd];exact List.getElem_mem h1
   have hset:=dgs_set hk d
   have hit2:=impl_IsTriangulation_c v ((l.set k d).map dgI) (by rw [List.length_map,List.length_set];omega)
   rw [List.length_map,List.length_set] at hit2
   obtain ⟨q0,hq0⟩:∃ b:Bool,b=((d.1:Int) == (l[k].1:Int) && (d.2:Int) == (l[k].2:Int)):=⟨_,rfl⟩
   obtain ⟨lk,hlk⟩:∃ lk,lk=(l.set k d).map dgI:=⟨_,rfl⟩
   rw [<-hlk] at hset hit2
   refine wskip ?_
   show AWp _ _ _ _ _
   refine wseq ?_
   refine wblock ?_
   refine wseq ?_
   refine wreg fun K hK=>?_
   simp [C.impl_FlipDiagonal,hs0,hs1,h1]
   refine hK _ ?_;clear hK K
   show AWp _ _ _ _ _
   refine wseq ?_
   refine wregI ([0,1] ++ ([2])) rfl fun K hK=>?_
   refine oSg fun L hL=>?_
   simp [C.impl_FlipDiagonal]
   refine wcall1 (hcl) (by simp) (by simp) ?_
   simp [C.impl_FlipDiagonal]
   refine hL _ ?_;clear hL L
   refine oEn fun L hL=>?_
   simp [C.impl_FlipDiagonal]
   refine hL _ ?_;clear hL L
   simp [C.impl_FlipDiagonal]
   refine hK _ ?_;clear hK K
   show AWp _ _ _ _ _
   refine wseq ?_
   refine wreg fun K hK=>?_
   simp [C.impl_FlipDiagonal,hk,hl0,hl1,hset]
   refine hK _ ?_;clear hK K
   show AWp _ _ _ _ _
   refine wseq ?_
   refine wdrawI [(true,0),(true,1),(true,2),(true,3),(true,4),(true,5),(true,6),(true,7),(true,8),(false,9),(true,10)] ⟨by kernel_rfl,by kernel_rfl⟩ ([0,1,2,3,4,5,6,7,8,9] ++ ([10])) rfl fun K hK=>?_
   have hJ:K ⟨ofL [(0,.int v),(1,.d (.sh 2 l.length (rows gM (l.map dgI)))),(2,.int k),(10,.al (10,0) [] 0 l.length),(24,.al (24,0) [] 0 (allD v).length),(25,.int (allD v).length),(26,.int x1),(46,.bool (!q0 && decide (TriI v lk)))],ofRO [((10,0),some (.ow 2 l.length (rows gM lk))),((24,0),some (.ow 2 (allD v).length (rows gM ((allD v).map dgI))))]⟩:=by
    refine hK _ ?_;clear hK K
    show AWp _ _ _ _ _
    refine wcond _ rfl (fun hc3=>?_) (fun hc3=>?_)
    ·have hcc:q0=false/\TriI v lk:=by
      simp only [Bool.and_eq_true,Bool.not_eq_true',decide_eq_true_eq] at hc3
      exact hc3
     rw [hcc.1] at hq0
     have hne:d≠l[k]:=fun e=>by
      rw [e] at hq0
      simp at hq0
     have hyes:FlipP v l k d:=⟨hk,hdm,hne,triI_iff.1 (hlk ▸ hcc.2)⟩
     refine wseq ?_
     refine wreg fun K hK=>?_
     simp [C.impl_FlipDiagonal]
     refine hK _ ?_;clear hK K
     show AWp _ _ _ _ _
     refine wret ?_
     simp [C.impl_FlipDiagonal]
     exact ⟨d.1,d.2,hyes,by rw [hlk,List.map_set]⟩
    ·have hcc:¬ (q0=false/\TriI v lk):=fun q=>by
      rw [q.1,decide_eq_true q.2] at hc3
      simp at hc3
     refine wskip ?_
     show AWp _ _ _ _ _
     refine wreg fun K hK=>?_
     simp [C.impl_FlipDiagonal,wrap_succ (show x1 < 4611686018427387904 by omega)]
     refine hK _ ?_;clear hK K
     simp [C.impl_FlipDiagonal]
     refine hR1 (x1+1) ⟨h1,fun j hj hjx e=>?_⟩ (by omega)
     by_cases hjx2:j=x1
     ·subst hjx2
      rw [<-hd] at e
      refine hcc ⟨?_,hlk ▸ triI_iff.2 e.2⟩
      rw [hq0,Bool.eq_false_iff]
      intro q
      simp only [Bool.and_eq_true,beq_iff_eq] at q
      exact e.1 (Prod.ext (by omega) (by omega))
     ·exact hno j hj (by omega) e
   clear hK
   cases q0 with
   | true=>
    have hb:=hq0.symm
    simp [C.impl_FlipDiagonal,hk,hl0,hl1,hb]
    repeat' first
     | (refine cast (congrArg K ?_) hJ;simp;done)
     | refine And.intro ?_ ?_
   | false=>
    have hb:=hq0.symm
    simp [C.impl_FlipDiagonal,hk,hl0,hl1,hb]
    repeat' first
     | (refine wcall1 hit2 ?_ (by simp) ?_;(focus (simp;done));simp [C.impl_FlipDiagonal,hb])
     | (refine cast (congrArg K ?_) hJ;simp;done)
     | refine And.intro ?_ ?_
  ·have h1:x1=(allD v).length:=by have:=d_f hc2;simp at this;omega
   refine wexit ?_
   show AWp _ _ _ _ _
   refine wseq ?_
   refine wreg fun K hK=>?_
   exfalso
   obtain ⟨j,hj,hje⟩:=List.getElem_of_mem hd0
   exact hno j hj (by omega) ⟨by rw [hje];exact hn0,by rw [hje];exact ht0⟩
end Go.Proofs.Ytncfmemhjahpeaa.Ab
namespace Go.Proofs.Ytncfmemhjahpeaa.Ab
open Go
set_option maxRecDepth 10000
set_option maxHeartbeats 4000000
end Go.Proofs.Ytncfmemhjahpeaa.Ab
namespace Go.Proofs.Ytncfmemhjahpeaa.Ab
open Go
set_option maxRecDepth 10000
set_option maxHeartbeats 4000000
def tcon (v:Nat) (l:List Dg) (a b c:Nat):Bool:=Nat.blt a b && (Nat.blt b c && (knD v l (a,b) && (knD v l (b,c) && knD v l (a,c))))
def trC (v:Nat) (l:List Dg) (a b c:Nat):List N3:=((List.range c).filter (tcon v l a b)).map fun c'=>(a,b,c')
def trB (v:Nat) (l:List Dg) (a b:Nat):List N3:=(List.range b).flatMap fun b'=>trC v l a b' v
def trA (v:Nat) (l:List Dg) (a:Nat):List N3:=(List.range a).flatMap fun a'=>trB v l a' v
theorem trA_all (v:Nat) (l:List Dg):trA v l v=tris v l:=rfl
theorem trC_succ (v:Nat) (l:List Dg) (a b c:Nat):trC v l a b (c+1)=if tcon v l a b c=true then trC v l a b c ++ [(a,b,c)] else trC v l a b c:=by
 unfold trC
 rw [List.range_succ,List.filter_append,List.map_append]
 by_cases h:tcon v l a b c=true
 ·simp [h]
 ·simp [h]
theorem trB_succ (v:Nat) (l:List Dg) (a b:Nat):trB v l a (b+1)=trB v l a b ++ trC v l a b v:=by
 unfold trB
 rw [List.range_succ,List.flatMap_append]
 simp
theorem trA_succ (v:Nat) (l:List Dg) (a:Nat):trA v l (a+1)=trA v l a ++ trB v l a v:=by
 unfold trA
 rw [List.range_succ,List.flatMap_append]
 simp
theorem trC_low {v:Nat} {l:List Dg} {a b c:Nat} (h:c<=b+1\/b<=a):trC v l a b c=[]:=by
 unfold trC
 rw [List.map_eq_nil_iff,List.filter_eq_nil_iff]
 intro x hx
 rw [List.mem_range] at hx
 simp only [tcon,Bool.and_eq_true,Nat.blt_eq]
 omega
theorem trB_low {v:Nat} {l:List Dg} {a b:Nat} (h:b<=a+1):trB v l a b=[]:=by
 unfold trB
 rw [List.flatMap_eq_nil_iff]
 intro x hx
 rw [List.mem_range] at hx
 exact trC_low (.inr (by omega))
def ls3 (v:Nat) (l:List Dg) (a b c:Nat):List N3:=trA v l a ++ trB v l a b ++ trC v l a b c
theorem ls3_succ (v:Nat) (l:List Dg) (a b c:Nat):ls3 v l a b (c+1)=if tcon v l a b c=true then ls3 v l a b c ++ [(a,b,c)] else ls3 v l a b c:=by
 unfold ls3
 rw [trC_succ]
 split
 ·simp only [List.append_assoc]
 ·rfl
theorem trC_len (v:Nat) (l:List Dg) (a b c:Nat):(trC v l a b c).length<=c:=by
 unfold trC
 rw [List.length_map]
 exact Nat.le_trans (List.length_filter_le _ _) (by simp)
theorem trB_len (v:Nat) (l:List Dg) (a b:Nat):(trB v l a b).length<=b*v:=by
 induction b with
 | zero=>simp [trB]
 | succ b ih=>
  rw [trB_succ,List.length_append,Nat.succ_mul]
  have:=trC_len v l a b v
  omega
theorem trA_len (v:Nat) (l:List Dg) (a:Nat):(trA v l a).length<=a*(v*v):=by
 induction a with
 | zero=>simp [trA]
 | succ a ih=>
  rw [trA_succ,List.length_append,Nat.succ_mul]
  have:=trB_len v l a v
  omega
def t3L (t:N3):List Int:=[(t.1:Int),(t.2.1:Int),(t.2.2:Int)]
theorem t3_snoc (T:List N3) (a b c:Nat):rows lO (T.map t3L) ++ [D.ow 1 3 [D.v (.int .i64 a),D.v (.int .i64 b),D.v (.int .i64 c)]]=rows lO ((T ++ [(a,b,c)]).map t3L):=by
 rw [List.map_append,rows_append]
 simp [rows,lO,t3L,owI,ints]
end Go.Proofs.Ytncfmemhjahpeaa.Ab
namespace Go.Proofs.Ytncfmemhjahpeaa.Ab
open Go
set_option maxRecDepth 10000
set_option maxHeartbeats 4000000
theorem impl_TrianglesOf_1_c (v:Nat) (l:List Dg) (a b:Nat) (hT:Tri v l) (hab:a < b) (hb:b < v):ACalls Try.prog F.impl_TrianglesOf_1 [.int a,.int b,.d (.vp [D.int v]),.d (.vp [D.sh 2 l.length (rows gM (l.map dgI))])] [] true (fun outs res=>outs=[]/\res=[.one (D.bool (knD v l (a,b)))]):=by
 have hv:=hT.vb
 have hll:=hT.len
 have hbs:=impl_beside_c v a b (by omega) (by omega) (by omega)
 rw [besI_sd hv.1 (by omega) hb (by omega),srt_lt hab] at hbs
 have hct:=slices_Contains_impl_Diagonal_impl_Diagonal_c (l.map dgI) (dgI (a,b)) (by rw [List.length_map];omega)
 simp only [agD,dgI,List.length_map] at hct
 have hk:knD v l (a,b)=(sd v (a,b) || decide (dgI (a,b)∈l.map dgI)):=by
  have:=kn_eq (v:=v) (l:=l.map dgI) (triI_of hT).2.2.1 a b
  rw [map_toN,srt_lt hab] at this
  unfold kn at this
  rw [srt_lt hab] at this
  exact this
 rw [hk]
 refine ACalls.of_body (C:=C.impl_TrianglesOf_1) (n:=Try.f55.ntmps) tabT folT Try.func55 rfl (by kernel_rfl) rfl (Nat.le_of_ble_eq_true rfl) (by decide) (by kernel_rfl) (by kernel_rfl) rfl (by simp) (by simp) ?_
 simp only [Try.f55]
 refine wseq ?_
 refine wreg fun K hK=>?_
 simp [C.impl_TrianglesOf_1]
 refine hK _ ?_;clear hK K
 show AWp _ _ _ _ _
 refine wseq ?_
 refine wregI ([0,1,2,3] ++ ([4,5,6,7,8,9] ++ ([10,11]))) rfl fun K hK=>?_
 have hJ:K ⟨ofL [(6,.bool (sd v (a,b) || decide (dgI (a,b)∈l.map dgI)))],ofRO []⟩:=by
  refine hK _ ?_;clear hK K
  show AWp _ _ _ _ _
  refine wret ?_
  simp [C.impl_TrianglesOf_1]
 clear hK
 by_cases h1:sd v (a,b)=true
 ·refine oSg fun L hL=>?_
  simp [C.impl_TrianglesOf_1,h1]
  refine wcall1 (hbs) (by simp) (by simp) ?_
  simp [C.impl_TrianglesOf_1,h1]
  refine hL _ ?_;clear hL L
  refine oSg fun L hL=>?_
  simp [C.impl_TrianglesOf_1,h1]
  refine hL _ ?_;clear hL L
  refine oEn fun L hL=>?_
  simp [C.impl_TrianglesOf_1,h1]
  refine hL _ ?_;clear hL L
  simp [C.impl_TrianglesOf_1,h1]
  refine cast (congrArg K ?_) hJ
  simp [h1,dgI,h1]
 ·refine oSg fun L hL=>?_
  simp [C.impl_TrianglesOf_1,h1]
  refine wcall1 (hbs) (by simp) (by simp) ?_
  simp [C.impl_TrianglesOf_1,h1]
  refine hL _ ?_;clear hL L
  refine oSg fun L hL=>?_
  simp [C.impl_TrianglesOf_1,h1]
  refine wcall1 (hct) (by simp) (by simp) ?_
  simp [C.impl_TrianglesOf_1,h1]
  refine hL _ ?_;clear hL L
  refine oEn fun L hL=>?_
  simp [C.impl_TrianglesOf_1,h1]
  refine hL _ ?_;clear hL L
  simp [C.impl_TrianglesOf_1,h1]
  refine cast (congrArg K ?_) hJ
  simp [h1,dgI,h1]
theorem impl_TrianglesOf_c (v:Nat) (l:List Dg) (hT:Tri v l):ACalls Try.prog F.impl_TrianglesOf [.int v,.d (.sh 2 l.length (rows gM (l.map dgI)))] [] true (fun outs res=>outs=[]/\res=[.one (.ow 1 (tris v l).length (rows lO ((tris v l).map t3L)))]):=by
 have hv0:=hT.vb
 have hv:v<=8/\4<=v:=⟨hv0.2,hv0.1⟩
 have hl:l.length<=8:=by have:=hT.len;omega
 have hit:=impl_IsTriangulation_c v (l.map dgI) (by rw [List.length_map];omega)
 rw [decide_eq_true (triI_of hT),List.length_map] at hit
 refine ACalls.of_body (C:=C.impl_TrianglesOf) (n:=Try.f23.ntmps) tabT folT Try.func23 rfl (by kernel_rfl) rfl (Nat.le_of_ble_eq_true rfl) (by decide) (by kernel_rfl) (by kernel_rfl) rfl (by simp) (by simp) ?_
 simp only [Try.f23]
 refine wseq ?_
 refine wreg fun K hK=>?_
 simp [C.impl_TrianglesOf]
 refine hK _ ?_;clear hK K
 show AWp _ _ _ _ _
 refine wseq ?_
 refine wseq ?_
 refine wregI ([0,1,2] ++ ([3])) rfl fun K hK=>?_
 refine oSg fun L hL=>?_
 simp [C.impl_TrianglesOf]
 refine wcall1 (hit) (by simp) (by simp) ?_
 simp [C.impl_TrianglesOf]
 refine hL _ ?_;clear hL L
 refine oEn fun L hL=>?_
 simp [C.impl_TrianglesOf]
 refine hL _ ?_;clear hL L
 simp [C.impl_TrianglesOf]
 refine hK _ ?_;clear hK K
 show AWp _ _ _ _ _
 refine wcond _ rfl (fun hc1=>?_) (fun hc1=>?_)
 ·simp at hc1
 ·refine wskip ?_
  show AWp _ _ _ _ _
  refine wseq ?_
  refine wreg fun K hK=>?_
  simp [C.impl_TrianglesOf]
  refine hK _ ?_;clear hK K
  show AWp _ _ _ _ _
  refine wseq ?_
  refine wreg fun K hK=>?_
  simp [C.impl_TrianglesOf]
  refine hK _ ?_;clear hK K
  show AWp _ _ _ _ _
  refine wseq ?_
  refine wseq ?_
  refine wreg fun K hK=>?_
  simp [C.impl_TrianglesOf]
  refine hK _ ?_;clear hK K
  show AWp _ _ _ _ _
  refine wblock ?_
  refine wloopW (fun a:Nat=>⟨ofL [(2,.pt (2,0) [] 0),(5,.cl F.impl_TrianglesOf_1 [.pt (2,0) [] 0,.pt (5,0) [] 0]),(6,.al (6,0) [] 0 (trA v l a).length),(7,.int a)],ofRO [((2,0),some (.bx [D.int v])),((5,0),some (.bx [D.sh 2 l.length (rows gM (l.map dgI))])),((6,0),some (.ow 1 (trA v l a).length (rows lO ((trA v l a).map t3L))))]⟩) (fun a=>a<=v) (fun a=>v - a) 0 [.tmp 6 1] (by simp [C.impl_TrianglesOf,rows,trA];repeat' (first | refine ⟨?_,?_⟩ | exact updHit _ _ _ _ | refine updCons (by decide) ?_ | exact rootNil _ _ _ | refine rootCons (by decide) ?_)) (by simp) ?_
  intro x1 hx1 R1 hR1
  refine wseq ?_
  refine wseq ?_
  refine wreg fun K hK=>?_
  simp [C.impl_TrianglesOf]
  refine hK _ ?_;clear hK K
  show AWp _ _ _ _ _
  refine wcond _ rfl (fun hc2=>?_) (fun hc2=>?_)
  ·have h1:x1 < v:=by have:=d_t hc2;omega
   have hA:=trA_len v l x1
   have hA2:x1*(v*v)<=8*(8*8):=Nat.mul_le_mul (by omega) (Nat.mul_le_mul hv.1 hv.1)
   refine wskip ?_
   show AWp _ _ _ _ _
   refine wseq ?_
   refine wblock ?_
   refine wseq ?_
   refine wreg fun K hK=>?_
   simp [C.impl_TrianglesOf,wrap_succ (show x1 < 4611686018427387904 by omega)]
   refine hK _ ?_;clear hK K
   show AWp _ _ _ _ _
   refine wblock ?_
   refine wloop (fun b:Nat=>⟨ofL [(2,.pt (2,0) [] 0),(5,.cl F.impl_TrianglesOf_1 [.pt (2,0) [] 0,.pt (5,0) [] 0]),(6,.al (6,0) [] 0 (ls3 v l x1 b 0).length),(7,.int x1),(8,.int b)],ofRO [((2,0),some (.bx [D.int v])),((5,0),some (.bx [D.sh 2 l.length (rows gM (l.map dgI))])),((6,0),some (.ow 1 (ls3 v l x1 b 0).length (rows lO ((ls3 v l x1 b 0).map t3L))))]⟩) (fun b=>x1+1<=b/\b<=v) (fun b=>v - b) (x1+1) (by simp [C.impl_TrianglesOf,ls3,trB_low,trC]) ⟨by omega,by omega⟩ ?_
   intro x2 hx2 R2 hR2
   refine wseq ?_
   refine wseq ?_
   refine wreg fun K hK=>?_
   simp [C.impl_TrianglesOf]
   refine hK _ ?_;clear hK K
   show AWp _ _ _ _ _
   refine wcond _ rfl (fun hc3=>?_) (fun hc3=>?_)
   ·have h2:x2 < v:=by have:=d_t hc3;omega
    have hB:=trB_len v l x1 x2
    have hB2:x2*v<=8*8:=Nat.mul_le_mul (by omega) hv.1
    have hst3:ls3 v l x1 x2 (x2+1)=ls3 v l x1 x2 0:=by
     unfold ls3
     rw [trC_low (.inl (Nat.le_refl _)),show trC v l x1 x2 0=[] from rfl]
    refine wskip ?_
    show AWp _ _ _ _ _
    refine wseq ?_
    refine wblock ?_
    refine wseq ?_
    refine wreg fun K hK=>?_
    simp [C.impl_TrianglesOf,wrap_succ (show x2 < 4611686018427387904 by omega)]
    refine hK _ ?_;clear hK K
    show AWp _ _ _ _ _
    refine wblock ?_
    refine wloop (fun c:Nat=>⟨ofL [(2,.pt (2,0) [] 0),(5,.cl F.impl_TrianglesOf_1 [.pt (2,0) [] 0,.pt (5,0) [] 0]),(6,.al (6,0) [] 0 (ls3 v l x1 x2 c).length),(7,.int x1),(8,.int x2),(9,.int c)],ofRO [((2,0),some (.bx [D.int v])),((5,0),some (.bx [D.sh 2 l.length (rows gM (l.map dgI))])),((6,0),some (.ow 1 (ls3 v l x1 x2 c).length (rows lO ((ls3 v l x1 x2 c).map t3L))))]⟩) (fun c=>x2+1<=c/\c<=v) (fun c=>v - c) (x2+1) (by simp [C.impl_TrianglesOf,hst3]) ⟨by omega,by omega⟩ ?_
    intro x3 hx3 R3 hR3
    refine wseq ?_
    refine wseq ?_
    refine wreg fun K hK=>?_
    simp [C.impl_TrianglesOf]
    refine hK _ ?_;clear hK K
    show AWp _ _ _ _ _
    refine wcond _ rfl (fun hc4=>?_) (fun hc4=>?_)
    ·have h3:x3 < v:=by have:=d_t hc4;omega
     have hC:=trC_len v l x1 x2 x3
     have hlen:(ls3 v l x1 x2 x3).length<=600:=by unfold ls3;rw [List.length_append,List.length_append];omega
     have hsu:=ls3_succ v l x1 x2 x3
     obtain ⟨Q,hQ⟩:∃ Q,Q=ls3 v l x1 x2 x3:=⟨_,rfl⟩
     rw [<-hQ] at hlen hsu
     rw [<-hQ]
     have htc:tcon v l x1 x2 x3=(decide (x1 < x2/\x2 < x3) && (knD v l (x1,x2) && (knD v l (x2,x3) && knD v l (x1,x3)))):=by
      unfold tcon
      rw [Bool.eq_iff_iff]
      simp only [Bool.and_eq_true,Nat.blt_eq,decide_eq_true_eq]
      exact ⟨fun h=>⟨⟨h.1,h.2.1⟩,h.2.2⟩,fun h=>⟨h.1.1,h.1.2,h.2⟩⟩
     rw [decide_eq_true (show x1 < x2/\x2 < x3 by omega),Bool.true_and] at htc
     have s1:=impl_TrianglesOf_1_c v l x1 x2 hT (by omega) (by omega)
     have s2:=impl_TrianglesOf_1_c v l x2 x3 hT (by omega) (by omega)
     have s3:=impl_TrianglesOf_1_c v l x1 x3 hT (by omega) (by omega)
     refine wskip ?_
     show AWp _ _ _ _ _
     refine wseq ?_
     refine wblock ?_
     refine wseq ?_
     refine wregI ([0,1,2,3] ++ ([4,5,6,7,8] ++ ([9,10,11,12,13,14] ++ ([15])))) rfl fun K hK=>?_
     have hJ:K ⟨ofL [(2,.pt (2,0) [] 0),(5,.cl F.impl_TrianglesOf_1 [.pt (2,0) [] 0,.pt (5,0) [] 0]),(6,.al (6,0) [] 0 Q.length),(7,.int x1),(8,.int x2),(9,.int x3),(49,.bool (knD v l (x1,x2) && (knD v l (x2,x3) && knD v l (x1,x3))))],ofRO [((2,0),some (.bx [D.int v])),((5,0),some (.bx [D.sh 2 l.length (rows gM (l.map dgI))])),((6,0),some (.ow 1 Q.length (rows lO (Q.map t3L))))]⟩:=by
      refine hK _ ?_;clear hK K
      show AWp _ _ _ _ _
      refine wcond _ rfl (fun hc5=>?_) (fun hc5=>?_)
      ·have ht:tcon v l x1 x2 x3=true:=by rw [htc];exact hc5
       rw [if_pos ht] at hsu
       have hsn:=t3_snoc Q x1 x2 x3
       refine wreg fun K hK=>?_
       simp [C.impl_TrianglesOf,show (Q.length+1)*24<=140737488355328 by omega,hsn]
       refine hK _ ?_;clear hK K
       show AWp _ _ _ _ _
       refine wreg fun K hK=>?_
       simp [C.impl_TrianglesOf,wrap_succ (show x3 < 4611686018427387904 by omega)]
       refine hK _ ?_;clear hK K
       simp [C.impl_TrianglesOf]
       refine cast (congrArg R3 ?_) (hR3 (x3+1) ⟨by omega,h3⟩ (by omega))
       rw [hsu]
       simp
      ·have ht:¬ tcon v l x1 x2 x3=true:=by rw [htc,hc5];simp
       rw [if_neg ht] at hsu
       refine wskip ?_
       show AWp _ _ _ _ _
       refine wreg fun K hK=>?_
       simp [C.impl_TrianglesOf,wrap_succ (show x3 < 4611686018427387904 by omega)]
       refine hK _ ?_;clear hK K
       simp [C.impl_TrianglesOf]
       refine cast (congrArg R3 ?_) (hR3 (x3+1) ⟨by omega,h3⟩ (by omega))
       rw [hsu]
       simp
     clear hK
     by_cases g1:knD v l (x1,x2)=true
     ·by_cases g2:knD v l (x2,x3)=true
      ·refine oSg fun L hL=>?_
       simp [C.impl_TrianglesOf,g1,g2]
       refine wcall1 (s1) (by simp) (by simp) ?_
       simp [C.impl_TrianglesOf,g1,g2]
       refine hL _ ?_;clear hL L
       refine oSg fun L hL=>?_
       simp [C.impl_TrianglesOf,g1,g2]
       refine wcall1 (s2) (by simp) (by simp) ?_
       simp [C.impl_TrianglesOf,g1,g2]
       refine hL _ ?_;clear hL L
       refine oSg fun L hL=>?_
       simp [C.impl_TrianglesOf,g1,g2]
       refine wcall1 (s3) (by simp) (by simp) ?_
       simp [C.impl_TrianglesOf,g1,g2]
       refine hL _ ?_;clear hL L
       refine oEn fun L hL=>?_
       simp [C.impl_TrianglesOf,g1,g2]
       refine hL _ ?_;clear hL L
       simp [C.impl_TrianglesOf,g1,g2]
       refine cast (congrArg K ?_) hJ
       simp [g1,g2,g1,g2]
      ·refine oSg fun L hL=>?_
       simp [C.impl_TrianglesOf,g1,g2]
       refine wcall1 (s1) (by simp) (by simp) ?_
       simp [C.impl_TrianglesOf,g1,g2]
       refine hL _ ?_;clear hL L
       refine oSg fun L hL=>?_
       simp [C.impl_TrianglesOf,g1,g2]
       refine wcall1 (s2) (by simp) (by simp) ?_
       simp [C.impl_TrianglesOf,g1,g2]
       refine hL _ ?_;clear hL L
       refine oSg fun L hL=>?_
       simp [C.impl_TrianglesOf,g1,g2]
       refine hL _ ?_;clear hL L
       refine oEn fun L hL=>?_
       simp [C.impl_TrianglesOf,g1,g2]
       refine hL _ ?_;clear hL L
       simp [C.impl_TrianglesOf,g1,g2]
       refine cast (congrArg K ?_) hJ
       simp [g1,g2,g1,g2]
     ·refine oSg fun L hL=>?_
      simp [C.impl_TrianglesOf,g1]
      refine wcall1 (s1) (by simp) (by simp) ?_
      simp [C.impl_TrianglesOf,g1]
      refine hL _ ?_;clear hL L
      refine oSg fun L hL=>?_
      simp [C.impl_TrianglesOf,g1]
      refine hL _ ?_;clear hL L
      refine oSg fun L hL=>?_
      simp [C.impl_TrianglesOf,g1]
      refine hL _ ?_;clear hL L
      refine oEn fun L hL=>?_
      simp [C.impl_TrianglesOf,g1]
      refine hL _ ?_;clear hL L
      simp [C.impl_TrianglesOf,g1]
      refine cast (congrArg K ?_) hJ
      simp [g1,g1]
    ·have h3:x3=v:=by have:=d_f hc4;omega
     have he:ls3 v l x1 x2 x3=ls3 v l x1 (x2+1) 0:=by
      unfold ls3
      rw [trB_succ,h3,show trC v l x1 (x2+1) 0=[] from rfl,List.append_nil,List.append_assoc]
     refine wexit ?_
     show AWp _ _ _ _ _
     refine wreg fun K hK=>?_
     simp [C.impl_TrianglesOf,wrap_succ (show x2 < 4611686018427387904 by omega)]
     refine hK _ ?_;clear hK K
     simp [C.impl_TrianglesOf]
     refine cast (congrArg R2 ?_) (hR2 (x2+1) ⟨by omega,h2⟩ (by omega))
     rw [he]
     simp
   ·have h2:x2=v:=by have:=d_f hc3;omega
    have he:ls3 v l x1 x2 0=trA v l (x1+1):=by
     unfold ls3
     rw [trA_succ,h2,show trC v l x1 v 0=[] from rfl,List.append_nil]
    refine wexit ?_
    show AWp _ _ _ _ _
    refine wreg fun K hK=>?_
    simp [C.impl_TrianglesOf,wrap_succ (show x1 < 4611686018427387904 by omega)]
    refine hK _ ?_;clear hK K
    simp [C.impl_TrianglesOf]
    refine cast (congrArg R1 ?_) (hR1 (x1+1) h1 (by omega))
    rw [he]
    simp
  ·have h1:x1=v:=by have:=d_f hc2;omega
   refine wexit ?_
   show AWp _ _ _ _ _
   refine wseq ?_
   refine wreg fun K hK=>?_
   simp [C.impl_TrianglesOf]
   refine hK _ ?_;clear hK K
   show AWp _ _ _ _ _
   refine wret ?_
   simp [C.impl_TrianglesOf]
   rw [h1,trA_all]
   exact ⟨rfl,rfl⟩
end Go.Proofs.Ytncfmemhjahpeaa.Ab
namespace Go.Proofs.Ytncfmemhjahpeaa.Ab
open Go
set_option maxRecDepth 100000
def ind (b:Bool):Int:=if b=true then 1 else 0
def pT (x y e f:Dg):Int:=ind (dgq x e && dgq y f) - ind (dgq x f && dgq y e)
def bT (e f:Dg) (t:Nat×Nat×Nat):Int:=pT (t.1,t.2.1) (t.2.1,t.2.2) e f+(pT (t.2.1,t.2.2) (t.1,t.2.2) e f+pT (t.1,t.2.2) (t.1,t.2.1) e f)
def bS (e f:Dg):List (Nat×Nat×Nat)->Int
 | []=>0
 | t :: ts=>bT e f t+bS e f ts
def muB (T:List (Nat×Nat×Nat)) (e f g:Dg):Int:=if (dgq f e || dgq g e)=true then -(bS f g T) else let x:=bS f e T;let y:=bS e g T;bS f g T+(if 0 < x/\0 < y then x*y else if x < 0/\y < 0 then -(x*y) else 0)
def ta (e d x:Dg):Dg:=if dgq x e=true then d else x
def chk5 (v:Nat) (F:List Dg):Bool:=
 let T:=tris v F
 F.all fun e=>(allD v).all fun d=>bimp (!dgq d e && F.all fun f=>dgq f e || (!crs f d && !dgq f d)) (let T':=tris v (F.map (ta e d));F.all fun f=>F.all fun g=>decide (bS (ta e d f) (ta e d g) T'=muB T e f g))
theorem chk5_4:enumC (chk5 4) (allD 4) [] 1=true:=by decide +kernel
theorem chk5_5:enumC (chk5 5) (allD 5) [] 2=true:=by decide +kernel
theorem chk5_6:enumC (chk5 6) (allD 6) [] 3=true:=by decide +kernel
theorem chk5_7:enumC (chk5 7) (allD 7) [] 4=true:=by decide +kernel
def inA (e d f:Dg):Int:=ind (dgq (srt e.1 d.1) f || dgq (srt e.2 d.2) f)
def inB (e d f:Dg):Int:=ind (dgq (srt e.1 d.2) f || dgq (srt e.2 d.1) f)
def chk6 (v:Nat) (F:List Dg):Bool:=
 let T:=tris v F
 F.all fun e=>(allD v).all fun d=>bimp (!dgq d e && F.all fun f=>dgq f e || (!crs f d && !dgq f d)) (crs e d && ((kn v F e.1 d.1 && (kn v F e.2 d.2 && (kn v F e.1 d.2 && kn v F e.2 d.1))) && ((F.all fun f=>decide (bS f e T=inA e d f - inB e d f)) || (F.all fun f=>decide (bS f e T=inB e d f - inA e d f)))))
theorem chk6_4:enumC (chk6 4) (allD 4) [] 1=true:=by decide +kernel
theorem chk6_5:enumC (chk6 5) (allD 5) [] 2=true:=by decide +kernel
theorem chk6_6:enumC (chk6 6) (allD 6) [] 3=true:=by decide +kernel
theorem chk6_7:enumC (chk6 7) (allD 7) [] 4=true:=by decide +kernel
end Go.Proofs.Ytncfmemhjahpeaa.Ab
namespace Go.Proofs.Ytncfmemhjahpeaa.Ab
open Go
set_option maxRecDepth 100000
theorem tri_any (C:Nat->List Dg->Bool) (h4:enumC (C 4) (allD 4) [] 1=true) (h5:enumC (C 5) (allD 5) [] 2=true) (h6:enumC (C 6) (allD 6) [] 3=true) (h7:enumC (C 7) (allD 7) [] 4=true) {v:Nat} {l:List Dg} (h:Tri v l) (hv:v<=7):∃ F,F.Perm l/\C v F=true:=by
 have hn:=allD_nodup h.vb.2
 obtain ⟨S,hS⟩:∃ S,S=(allD v).filter fun d=>l.contains d:=⟨_,rfl⟩
 have hsub:S.Sublist (allD v):=by rw [hS];exact List.filter_sublist
 have hp:S.Perm l:=(List.perm_ext_iff_of_nodup (hsub.nodup hn) h.nodup).2 fun d=>by
  rw [hS,List.mem_filter]
  simp only [List.contains_eq_mem,decide_eq_true_eq]
  exact ⟨fun h=>h.2,fun hd=>⟨h.mem d hd,hd⟩⟩
 have hT:=h.perm hp
 have hall:enumC (C v) (allD v) [] (v - 3)=true:=by
  have:=h.vb
  obtain rfl | rfl | rfl | rfl:v=4\/v=5\/v=6\/v=7:=by omega
  ·exact h4
  ·exact h5
  ·exact h6
  ·exact h7
 have:=enumC_ok (C v) (allD v) [] S (v - 3) hall hsub hT.len (hT.apart.imp fun h=>h.2) (by simp)
 rw [List.append_nil] at this
 exact ⟨S.reverse,(List.reverse_perm S).trans hp,this⟩
def chk7 (v:Nat) (F:List Dg):Bool:=
 let T:=tris v F
 F.all fun e=>F.all fun f=>decide ((bS e f T).natAbs<=2)
theorem chk7_4:enumC (chk7 4) (allD 4) [] 1=true:=by decide +kernel
theorem chk7_5:enumC (chk7 5) (allD 5) [] 2=true:=by decide +kernel
theorem chk7_6:enumC (chk7 6) (allD 6) [] 3=true:=by decide +kernel
theorem chk7_7:enumC (chk7 7) (allD 7) [] 4=true:=by decide +kernel
theorem bS_bd {v:Nat} {l:List Dg} (h:Tri v l) (h7:v<=7) {e f:Dg} (he:e∈l) (hf:f∈l):(bS e f (tris v l)).natAbs<=2:=by
 obtain ⟨F,hp,hc⟩:=tri_any chk7 chk7_4 chk7_5 chk7_6 chk7_7 h h7
 unfold chk7 at hc
 rw [tris_perm hp] at hc
 dsimp only at hc
 rw [List.all_eq_true] at hc
 have hc:=hc e (hp.mem_iff.2 he)
 rw [List.all_eq_true] at hc
 simpa using hc f (hp.mem_iff.2 hf)
theorem pT_skew (x y e f:Dg):pT x y e f=-(pT x y f e):=by
 unfold pT
 omega
theorem bS_skew (e f:Dg):∀ T,bS e f T=-(bS f e T)
 | []=>rfl
 | t :: ts=>by
  simp only [bS,bT]
  rw [bS_skew e f ts,pT_skew _ _ e f,pT_skew _ _ e f,pT_skew _ _ e f]
  omega
def atD (l:List Dg) (i:Nat):Dg:=l.getD i (0,0)
theorem atD_get {l:List Dg} {i:Nat} (h:i < l.length):atD l i=l[i]:=by simp [atD,List.getD_eq_getElem?_getD,h]
def matT (v:Nat) (l:List Dg):Mat:=⟨l.length,l.length,(List.range (l.length*l.length)).map fun q=>bS (atD l (q / l.length)) (atD l (q % l.length)) (tris v l)⟩
theorem matT_b {v:Nat} {l:List Dg} {i j:Nat} (hi:i < l.length) (hj:j < l.length):bM (matT v l) i j=bS l[i] l[j] (tris v l):=by
 have hlt:i*l.length+j < l.length*l.length:=by
  have:=Nat.mul_le_mul_right l.length (show i+1<=l.length by omega)
  rw [Nat.add_mul] at this
  omega
 unfold bM g0 matT
 dsimp only
 rw [Int.toNat_natCast,List.getD_eq_getElem?_getD,List.getElem?_eq_getElem (by simpa using hlt)]
 simp only [Option.getD_some,List.getElem_map,List.getElem_range]
 rw [Nat.mul_comm i,Nat.mul_add_div (by omega),Nat.div_eq_of_lt hj,Nat.mul_add_mod,Nat.mod_eq_of_lt hj,Nat.add_zero,atD_get hi,atD_get hj]
theorem matT_ok {v:Nat} {l:List Dg} (h:Tri v l) (h7:v<=7):MatOK (matT v l):=by
 have hl:=h.len
 have hv:=h.vb
 refine ⟨⟨⟨by unfold matT;dsimp only;omega,by unfold matT;dsimp only;omega⟩,⟨by unfold matT;dsimp only;omega,by unfold matT;dsimp only;omega⟩,by simp [matT],fun x hx=>?_⟩,fun _=>1,fun _ _=>by omega,fun i j hi hj=>?_⟩
 ·simp only [matT,List.mem_map,List.mem_range] at hx
  obtain ⟨q,hq,rfl⟩:=hx
  have h1:q / l.length < l.length:=(Nat.div_lt_iff_lt_mul (by omega)).2 hq
  have h2:q % l.length < l.length:=Nat.mod_lt _ (by omega)
  rw [atD_get h1,atD_get h2]
  have:=bS_bd h h7 (List.getElem_mem h1) (List.getElem_mem h2)
  omega
 ·have hi:i < l.length:=by unfold matT at hi;dsimp only at hi;omega
  have hj:j < l.length:=by unfold matT at hj;dsimp only at hj;omega
  rw [matT_b hi hj,matT_b hj hi,bS_skew]
  omega
theorem flip_fit {v:Nat} {l:List Dg} {k:Nat} {d:Dg} (h:Tri v l) (hf:FlipP v l k d):∃ hk:k < l.length,l.set k d=l.map (ta l[k] d)/\(!dgq d l[k] && l.all fun f=>dgq f l[k] || (!crs f d && !dgq f d))=true:=by
 obtain ⟨hk,hd,hne,ht⟩:=hf
 have hap:=h.apart
 rw [List.pairwise_iff_getElem] at hap
 have hdif:∀ i j (hi:i < l.length) (hj:j < l.length),i≠j->l[i]≠l[j]:=fun i j hi hj hij e=>by
  rcases Nat.lt_or_gt_of_ne hij with g | g
  ·exact (hap i j hi hj g).1 e
  ·exact (hap j i hj hi g).1 e.symm
 refine ⟨hk,?_,?_⟩
 ·refine List.ext_getElem (by simp) fun i h1 h2=>?_
  rw [List.getElem_set,List.getElem_map]
  have hi:i < l.length:=by simpa using h1
  unfold ta
  by_cases e:k=i
  ·subst e
   rw [if_pos rfl,if_pos (dgq_eq.2 rfl)]
  ·rw [if_neg e,if_neg fun q=>hdif i k hi hk (Ne.symm e) (dgq_eq.1 q)]
 ·rw [Bool.and_eq_true,List.all_eq_true]
  refine ⟨by rw [Bool.not_eq_true',Bool.eq_false_iff];exact fun q=>hne (dgq_eq.1 q),fun f hf=>?_⟩
  obtain ⟨i,hi,rfl⟩:=List.getElem_of_mem hf
  by_cases e:i=k
  ·subst e
   rw [dgq_eq.2 rfl,Bool.true_or]
  ·have hap2:=ht.apart
   rw [List.pairwise_iff_getElem] at hap2
   have key:l[i]≠d/\crs l[i] d=false:=by
    rcases Nat.lt_or_gt_of_ne e with g | g
    ·have:=hap2 i k (by simpa using hi) (by simpa using hk) g
     rw [List.getElem_set_self,List.getElem_set_ne (by omega)] at this
     exact this
    ·have:=hap2 k i (by simpa using hk) (by simpa using hi) g
     rw [List.getElem_set_self,List.getElem_set_ne (by omega)] at this
     exact ⟨this.1.symm,by rw [crs_sym];exact this.2⟩
   rw [key.2,show dgq l[i] d=false from Bool.eq_false_iff.2 fun q=>key.1 (dgq_eq.1 q)]
   simp
theorem flip_b {v:Nat} {l:List Dg} (h:Tri v l) (h7:v<=7) {k:Nat} {d:Dg} (hf:FlipP v l k d) {f g:Dg} (hk:k < l.length) (hfm:f∈l) (hgm:g∈l):bS (ta l[k] d f) (ta l[k] d g) (tris v (l.set k d))=muB (tris v l) l[k] f g:=by
 obtain ⟨_,e1,e2⟩:=flip_fit h hf
 have hd:=hf.2.1
 obtain ⟨F,hp,hc⟩:=tri_any chk5 chk5_4 chk5_5 chk5_6 chk5_7 h h7
 unfold chk5 at hc
 dsimp only at hc
 rw [List.all_eq_true] at hc
 have hc:=hc l[k] (hp.mem_iff.2 (List.getElem_mem hk))
 rw [List.all_eq_true] at hc
 have hc:=bimp_eq.1 (hc d hd) (by rw [all_perm hp];exact e2)
 rw [List.all_eq_true] at hc
 have hc:=hc f (hp.mem_iff.2 hfm)
 rw [List.all_eq_true] at hc
 have hc:=hc g (hp.mem_iff.2 hgm)
 rw [tris_perm (hp.map _),tris_perm hp,<-e1] at hc
 exact of_decide_eq_true hc
theorem flip_mat {v:Nat} {l:List Dg} (h:Tri v l) (h7:v<=7) {k:Nat} {d:Dg} (hf:FlipP v l k d):muF (matT v l) k=(matT v (l.set k d),true):=by
 obtain ⟨hk,e1,e2⟩:=flip_fit h hf
 have ht:=hf.2.2.2
 have hml:=h.len
 have hmu:muM (matT v l) k=matT v (l.set k d):=by
  unfold muM
  have hd:muD (matT v l) k=(matT v (l.set k d)).d:=by
   unfold muD
   have hn:(matT v l).n.toNat=l.length:=by unfold matT;simp
   have hdl:(matT v l).d.length=l.length*l.length:=by unfold matT;simp
   rw [hn,hdl]
   unfold matT
   dsimp only
   rw [List.length_set]
   refine List.map_congr_left fun q hq=>?_
   rw [List.mem_range] at hq
   have h1:q / l.length < l.length:=(Nat.div_lt_iff_lt_mul (by have:=h.vb;omega)).2 hq
   have h2:q % l.length < l.length:=Nat.mod_lt _ (by have:=h.vb;omega)
   have hat:∀ i,(hi:i < l.length)->atD (l.set k d) i=ta l[k] d l[i]:=fun i hi=>by
    rw [atD_get (by simpa using hi)]
    simp only [e1,List.getElem_map]
   rw [hat _ h1,hat _ h2,flip_b h h7 hf hk (List.getElem_mem h1) (List.getElem_mem h2)]
   have hiff:∀ i (hi:i < l.length),dgq l[i] l[k]=true↔i=k:=fun i hi=>by
    rw [dgq_eq]
    exact ⟨fun e=>(List.getElem_inj h.nodup).1 e,fun e=>by subst e;rfl⟩
   show muE (bM (matT v l)) k _ _=_
   unfold muE muB
   rw [matT_b h1 h2,matT_b h1 hk,matT_b hk h2]
   by_cases c:q / l.length=k\/q % l.length=k
   ·rw [if_pos c,if_pos (by rw [Bool.or_eq_true,hiff _ h1,hiff _ h2];exact c)]
   ·have hc2:¬ (dgq l[q / l.length] l[k] || dgq l[q % l.length] l[k])=true:=by rw [Bool.or_eq_true,hiff _ h1,hiff _ h2];exact c
    rw [if_neg c,if_neg hc2]
    dsimp only
    generalize bS l[q / l.length] l[k] (tris v l)*bS l[k] l[q % l.length] (tris v l)=Z
    by_cases g1:0 < bS l[q / l.length] l[k] (tris v l)/\0 < bS l[k] l[q % l.length] (tris v l)
    ·rw [if_pos g1,if_pos g1]
    ·rw [if_neg g1,if_neg g1]
     by_cases g2:bS l[q / l.length] l[k] (tris v l) < 0/\bS l[k] l[q % l.length] (tris v l) < 0
     ·rw [if_pos g2,if_pos g2]
      omega
     ·rw [if_neg g2,if_neg g2]
      omega
  rw [hd]
  unfold matT
  rw [List.length_set]
 unfold muF
 rw [Int.toNat_natCast,hmu,if_pos ⟨matT_ok h h7,⟨by omega,by unfold matT;dsimp only;omega⟩,matT_ok ht h7⟩]
def inP (A B f:Dg):Bool:=dgq A f || dgq B f
def prV (V:Dg->Rat) (A B:Dg):List Dg->Rat
 | []=>1
 | f :: fs=>(if inP A B f=true then V f else 1)*prV V A B fs
theorem cnt_one (A:Dg):∀ {fs:List Dg},fs.Nodup->fs.countP (dgq A)<=1
 | [],_=>by simp
 | f :: fs,h=>by
  obtain ⟨h1,h2⟩:=List.nodup_cons.1 h
  rw [List.countP_cons]
  by_cases e:dgq A f=true
  ·rw [if_pos e]
   have:fs.countP (dgq A)=0:=by
    rw [List.countP_eq_zero]
    intro x hx q
    rw [dgq_eq] at e q
    subst e
    subst q
    exact h1 hx
   omega
  ·rw [if_neg e]
   have:=cnt_one A h2
   omega
theorem cnt_two (A B:Dg) {fs:List Dg} (h:fs.Nodup):fs.countP (inP A B)<=2:=by
 have h1:=cnt_one A h
 have h2:=cnt_one B h
 have h3:∀ l:List Dg,l.countP (inP A B)<=l.countP (dgq A)+l.countP (dgq B):=fun l=>by
  induction l with
  | nil=>simp
  | cons x l ih=>
   rw [List.countP_cons,List.countP_cons,List.countP_cons]
   unfold inP
   cases dgq A x <;> cases dgq B x <;> simp <;> unfold inP at ih <;> omega
 have:=h3 fs
 omega
theorem prV_val (V:Dg->Rat) {A B:Dg} (hAB:A≠B):∀ {fs:List Dg},fs.Nodup->prV V A B fs=(if A∈fs then V A else 1)*(if B∈fs then V B else 1)
 | [],_=>by simp [prV]
 | f :: fs,h=>by
  obtain ⟨h1,h2⟩:=List.nodup_cons.1 h
  have ih:=prV_val V hAB h2
  simp only [prV,ih,inP,Bool.or_eq_true,dgq_eq,List.mem_cons]
  have ea:A≠f->((A=f\/A∈fs)↔A∈fs):=fun a=>⟨fun q=>q.resolve_left a,.inr⟩
  have eb:B≠f->((B=f\/B∈fs)↔B∈fs):=fun b=>⟨fun q=>q.resolve_left b,.inr⟩
  by_cases a:A=f
  ·have b:B≠f:=fun q=>hAB (a.trans q.symm)
   have hA:A ∉ fs:=fun q=>h1 (a ▸ q)
   have e1:(A=f\/B=f)↔True:=⟨fun _=>trivial,fun _=>.inl a⟩
   have e2:(A=f\/A∈fs)↔True:=⟨fun _=>trivial,fun _=>.inl a⟩
   simp only [e1,e2,eb b,hA,if_true,if_false,a]
   grind
  ·by_cases b:B=f
   ·have hB:B ∉ fs:=fun q=>h1 (b ▸ q)
    have e1:(A=f\/B=f)↔True:=⟨fun _=>trivial,fun _=>.inr b⟩
    have e2:(B=f\/B∈fs)↔True:=⟨fun _=>trivial,fun _=>.inl b⟩
    simp only [e1,e2,ea a,hB,if_true,if_false,b]
    grind
   ·have e1:(A=f\/B=f)↔False:=⟨fun q=>q.elim a b,False.elim⟩
    simp only [e1,ea a,eb b,if_false]
    grind
theorem prodE_val {n:Nat} (hn:1<=n/\n<=8) {A B:Dg} {sg:Int} {lf:Dg->Lau} {c:Dg->Int}:∀ (fs:List Dg) (t:Nat) (p:Lau),LB n (16 ^ t) (9*t+1) p->(∀ f∈fs,LB n 16 9 (lf f))->(∀ f∈fs,(sg*c f).toNat=if inP A B f=true then 1 else 0)->t+fs.countP (inP A B)<=2 ->
  ∃ a,prodE sg (fs.map lf) (fs.map c) p=some a/\LB n (16 ^ 2) 19 a/\∀ T,2<=T->vT T n (plist a)=vT T n (plist p)*prV (fun f=>vT T n (plist (lf f))) A B fs
 | [],t,p,hp,_,_,ht=>by
  refine ⟨p,rfl,hp.mono (Nat.pow_le_pow_right (by omega) (by simp at ht;omega)) (by simp at ht;omega),fun T _=>?_⟩
  simp only [prV]
  grind
 | f :: fs,t,p,hp,hl,hc,ht=>by
  have h1:=hl f (by simp)
  have h2:=hc f (by simp)
  rw [List.countP_cons] at ht
  simp only [List.map_cons,prodE,h2]
  by_cases e:inP A B f=true
  ·rw [if_pos e] at ht ⊢
   have ht2:t<=1:=by omega
   have hp16:16 ^ t<=16:=by
    have:=Nat.pow_le_pow_right (n:=16) (by omega) ht2
    simpa using this
   obtain ⟨P,p1,p2,p3,-⟩:=lb_mul hn hp h1 (by omega) (by omega)
   rw [<-Nat.pow_succ,show 9*t+1+9=9*(t+1)+1 by omega] at p2
   obtain ⟨a,a1,a2,a3⟩:=prodE_val hn (A:=A) (B:=B) (sg:=sg) (c:=c) fs (t+1) P p2 (fun x hx=>hl x (by simp [hx])) (fun x hx=>hc x (by simp [hx])) (by omega)
   refine ⟨a,by simp only [itM,p1,if_true,Option.bind_some];exact a1,a2,fun T hT=>?_⟩
   rw [a3 T hT,p3 T hT]
   simp only [prV,if_pos e]
   grind
  ·rw [if_neg e] at ht ⊢
   obtain ⟨a,a1,a2,a3⟩:=prodE_val hn (A:=A) (B:=B) (sg:=sg) (c:=c) fs t p hp (fun x hx=>hl x (by simp [hx])) (fun x hx=>hc x (by simp [hx])) (by omega)
   refine ⟨a,by simp only [itM,Option.bind_some];exact a1,a2,fun T hT=>?_⟩
   rw [a3 T hT]
   simp only [prV,if_neg e]
   grind
theorem srt_inj {a b c d:Nat} (h:srt a b=srt c d):(a=c/\b=d)\/(a=d/\b=c):=by
 unfold srt at h
 split at h <;> split at h <;> (injection h with h1 h2;omega)
theorem lenV_srt (X:Nat->V2) (a c:Nat):lenV X (srt a c).1 (srt a c).2=lenV X a c:=by
 rcases Nat.lt_trichotomy a c with g | g | g
 ·rw [srt_lt g]
 ·subst g
  rw [show srt a a=(a,a) by unfold srt;split <;> rfl]
 ·rw [srt_gt g]
  exact lenV_com X c a
noncomputable def lnD (v:Nat) (l:List Dg) (d:Dg):Lau:=lnL v l d.1 d.2
theorem lnD_ok {v:Nat} {l:List Dg} (h:Tri v l) {d:Dg} (hd:d∈allD v):LenP v l d.1 d.2 (lnD v l d):=by
 obtain ⟨a,b⟩:=d
 have:=allD_mem.1 hd
 exact lnL_ok h (by dsimp only;omega) (by dsimp only;omega) (by dsimp only;omega)
theorem lnD_lb {v:Nat} {l:List Dg} (h:Tri v l) (h7:v<=7) {d:Dg} (hd:d∈allD v):LB (v - 3) 16 9 (lnD v l d):=by
 have h1:=(lnD_ok h hd).lb
 have h2:cntD l d.1 d.2<=4:=by
  have:=List.countP_le_length (p:=crs (srt d.1 d.2)) (l:=l)
  have:=h.len
  unfold cntD
  omega
 refine h1.mono ?_ (by omega)
 have:=Nat.pow_le_pow_right (n:=2) (by omega) h2
 simpa using this
noncomputable def sedT (v:Nat) (l now:List Dg):Sed:=⟨matT v now,now.map (lnD v l)⟩
theorem sedT_ok {v:Nat} {l now:List Dg} (h:Tri v l) (hn:Tri v now) (h7:v<=7):SeedOK (sedT v l now):=by
 refine ⟨matT_ok hn h7,by unfold sedT matT;simp,fun f hf=>?_⟩
 obtain ⟨d,hd,rfl⟩:=List.mem_map.1 hf
 have h1:=lnD_ok h (hn.mem d hd)
 refine ⟨h1.lb.right,fun e=>h1.pos.1 (by unfold plist;rw [e];rfl),?_⟩
 rw [h1.lb.v]
 show ((v - 3:Nat):Int)=(now.length:Int)
 rw [hn.len]
theorem flip_ex {v:Nat} {l now:List Dg} (h:Tri v l) (hn:Tri v now) (h7:v<=7) {k:Nat} {d:Dg} (hf:FlipP v now k d):exF (now.map (lnD v l)) (colM (matT v now) now.length k) now.length ((now.map (lnD v l)).getD k zeroF)=(lnD v l d,true):=by
 obtain ⟨hk,e1,e2⟩:=flip_fit hn hf
 obtain ⟨_,hd,hne,ht⟩:=hf
 obtain ⟨e,he⟩:∃ e,e=now[k]:=⟨_,rfl⟩
 have hem:e∈now:=he ▸ List.getElem_mem hk
 have hlen:now.length=v - 3:=hn.len
 have hb:=n_bd h
 rw [<-he] at e2
 -- the quadrilateral
 obtain ⟨F,hp,hc⟩:=tri_any chk6 chk6_4 chk6_5 chk6_6 chk6_7 hn h7
 unfold chk6 at hc
 dsimp only at hc
 rw [List.all_eq_true] at hc
 have hc:=hc e (hp.mem_iff.2 hem)
 rw [List.all_eq_true] at hc
 have hc:=bimp_eq.1 (hc d hd) (by rw [all_perm hp];exact e2)
 rw [tris_perm hp,kn_perm hp,all_perm hp,all_perm hp] at hc
 simp only [Bool.and_eq_true,Bool.or_eq_true,List.all_eq_true,decide_eq_true_eq] at hc
 obtain ⟨hcr,⟨k1,k2,k3,k4⟩,hsg⟩:=hc
 have hcol:colM (matT v now) now.length k=now.map fun f=>bS f e (tris v now):=by
  refine List.ext_getElem (by simp) fun i h1 h2=>?_
  have hi:i < now.length:=by simpa using h1
  rw [colM_get _ _ _ _ hi,matT_b hi hk,List.getElem_map]
  exact congrArg (fun z=>bS now[i] z (tris v now)) he.symm
 have hold:(now.map (lnD v l)).getD k zeroF=lnD v l e:=by
  simp [List.getD_eq_getElem?_getD,hk,he]
 have hle:e.1 < e.2/\e.2 < v:=tri_mem hn hem
 have hld:d.1 < d.2/\d.2 < v:=by
  obtain ⟨a,b⟩:=d
  have:=allD_mem.1 hd
  dsimp only
  omega
 have hcr2:=crs_iff.1 hcr
 have hpt:∀ T,LenT v l T d.1 d.2*LenT v l T e.1 e.2=LenT v l T d.1 e.1*LenT v l T d.2 e.2+LenT v l T d.1 e.2*LenT v l T d.2 e.1:=fun T=>
  lenV_cross (vecV v l (lnT v l T)) (a:=d.1) (c:=d.2) (e:=e) (by rw [srt_lt hld.1,crs_sym];exact hcr)
 -- a pair of opposite sides
 have hside:∀ T,2<=T->∀ a b:Nat,a≠b->a < v->b < v->kn v now a b=true->(if srt a b∈now then vT T (v - 3) (plist (lnD v l (srt a b))) else 1)=LenT v l T a b:=fun T hT a b hab ha hb2 hkn=>by
  by_cases hm:srt a b∈now
  ·rw [if_pos hm,(lnD_ok h (hn.mem _ hm)).val T hT]
   exact lenV_srt _ a b
  ·rw [if_neg hm]
   unfold kn knD at hkn
   rw [Bool.or_eq_true] at hkn
   rcases hkn with hs | hs
   ·have:=(len_side h hab ha hb2 hs).val T hT
    rw [vT_oneF hT] at this
    exact this
   ·rw [List.any_eq_true] at hs
    obtain ⟨x,hx,hq⟩:=hs
    rw [dgq_eq] at hq
    rw [hq] at hm
    exact absurd hx hm
 have hlb:∀ f∈now,LB (v - 3) 16 9 (lnD v l f):=fun f hf=>lnD_lb h h7 (hn.mem f hf)
 have hone:LB (v - 3) (16 ^ 0) (9*0+1) (oneF (v - 3)):=lb_one hb
 have hne1:srt e.1 d.1≠srt e.2 d.2:=fun q=>by have:=srt_inj q;omega
 have hne2:srt e.1 d.2≠srt e.2 d.1:=fun q=>by have:=srt_inj q;omega
 have hdis:∀ f,¬ (inP (srt e.1 d.1) (srt e.2 d.2) f=true/\inP (srt e.1 d.2) (srt e.2 d.1) f=true):=fun f q=>by
  unfold inP at q
  simp only [Bool.or_eq_true,dgq_eq] at q
  obtain ⟨q1,q2⟩:=q
  rcases q1 with rfl | rfl <;> rcases q2 with q2 | q2 <;> (have:=srt_inj q2;omega)
 have hprod:∀ (sg:Int) (c:Dg->Int) (A B:Dg),A≠B->(∀ f∈now,(sg*c f).toNat=if inP A B f=true then 1 else 0)->∃ a,prodE sg (now.map (lnD v l)) (now.map c) (oneF (v - 3))=some a/\LB (v - 3) (16 ^ 2) 19 a/\∀ T,2<=T->vT T (v - 3) (plist a)=(if A∈now then vT T (v - 3) (plist (lnD v l A)) else 1)*(if B∈now then vT T (v - 3) (plist (lnD v l B)) else 1):=fun sg c A B hAB hcc=>by
  obtain ⟨a,a1,a2,a3⟩:=prodE_val hb (A:=A) (B:=B) (sg:=sg) (c:=c) now 0 _ hone hlb hcc (by have:=cnt_two A B hn.nodup;omega)
  refine ⟨a,a1,a2,fun T hT=>?_⟩
  rw [a3 T hT,vT_oneF hT,prV_val _ hAB hn.nodup]
  grind
 -- both products
 have hboth:∃ a b,prodE 1 (now.map (lnD v l)) (now.map fun f=>bS f e (tris v now)) (oneF (v - 3))=some a/\prodE (-1) (now.map (lnD v l)) (now.map fun f=>bS f e (tris v now)) (oneF (v - 3))=some b/\LB (v - 3) (16 ^ 2) 19 a/\LB (v - 3) (16 ^ 2) 19 b/\∀ T,2<=T->vT T (v - 3) (plist a)+vT T (v - 3) (plist b)=LenT v l T d.1 d.2*LenT v l T e.1 e.2:=by
  have hA:∀ T,2<=T->(if srt e.1 d.1∈now then vT T (v - 3) (plist (lnD v l (srt e.1 d.1))) else 1)*(if srt e.2 d.2∈now then vT T (v - 3) (plist (lnD v l (srt e.2 d.2))) else 1)=LenT v l T d.1 e.1*LenT v l T d.2 e.2:=fun T hT=>by
   rw [hside T hT e.1 d.1 (by omega) (by omega) (by omega) k1,hside T hT e.2 d.2 (by omega) (by omega) (by omega) k2]
   unfold LenT
   rw [lenV_com _ e.1 d.1,lenV_com _ e.2 d.2]
  have hB:∀ T,2<=T->(if srt e.1 d.2∈now then vT T (v - 3) (plist (lnD v l (srt e.1 d.2))) else 1)*(if srt e.2 d.1∈now then vT T (v - 3) (plist (lnD v l (srt e.2 d.1))) else 1)=LenT v l T d.1 e.2*LenT v l T d.2 e.1:=fun T hT=>by
   rw [hside T hT e.1 d.2 (by omega) (by omega) (by omega) k3,hside T hT e.2 d.1 (by omega) (by omega) (by omega) k4]
   unfold LenT
   rw [lenV_com _ e.1 d.2,lenV_com _ e.2 d.1]
   grind
  rcases hsg with hs | hs
  ·obtain ⟨a,a1,a2,a3⟩:=hprod 1 (fun f=>bS f e (tris v now)) _ _ hne1 fun f hf=>by
    have:=hs f hf
    have hdf:=hdis f
    unfold inA inB ind at this
    unfold inP at hdf ⊢
    rw [this]
    by_cases u:(dgq (srt e.1 d.1) f || dgq (srt e.2 d.2) f)=true
    ·rw [if_pos u,if_pos u,if_neg fun w=>hdf ⟨u,w⟩]
     rfl
    ·rw [if_neg u,if_neg u]
     split <;> rfl
   obtain ⟨b,b1,b2,b3⟩:=hprod (-1) (fun f=>bS f e (tris v now)) _ _ hne2 fun f hf=>by
    have:=hs f hf
    have hdf:=hdis f
    unfold inA inB ind at this
    unfold inP at hdf ⊢
    rw [this]
    by_cases u:(dgq (srt e.1 d.2) f || dgq (srt e.2 d.1) f)=true
    ·rw [if_pos u,if_pos u,if_neg fun w=>hdf ⟨w,u⟩]
     rfl
    ·rw [if_neg u,if_neg u]
     split <;> rfl
   refine ⟨a,b,a1,b1,a2,b2,fun T hT=>?_⟩
   rw [a3 T hT,b3 T hT,hA T hT,hB T hT,hpt T]
  ·obtain ⟨a,a1,a2,a3⟩:=hprod 1 (fun f=>bS f e (tris v now)) _ _ hne2 fun f hf=>by
    have:=hs f hf
    have hdf:=hdis f
    unfold inA inB ind at this
    unfold inP at hdf ⊢
    rw [this]
    by_cases u:(dgq (srt e.1 d.2) f || dgq (srt e.2 d.1) f)=true
    ·rw [if_pos u,if_pos u,if_neg fun w=>hdf ⟨w,u⟩]
     rfl
    ·rw [if_neg u,if_neg u]
     split <;> rfl
   obtain ⟨b,b1,b2,b3⟩:=hprod (-1) (fun f=>bS f e (tris v now)) _ _ hne1 fun f hf=>by
    have:=hs f hf
    have hdf:=hdis f
    unfold inA inB ind at this
    unfold inP at hdf ⊢
    rw [this]
    by_cases u:(dgq (srt e.1 d.1) f || dgq (srt e.2 d.2) f)=true
    ·rw [if_pos u,if_pos u,if_neg fun w=>hdf ⟨u,w⟩]
     rfl
    ·rw [if_neg u,if_neg u]
     split <;> rfl
   refine ⟨a,b,a1,b1,a2,b2,fun T hT=>?_⟩
   rw [a3 T hT,b3 T hT,hA T hT,hB T hT,hpt T]
   grind
 obtain ⟨a,b,a1,b1,a2,b2,hab⟩:=hboth
 obtain ⟨S,s1,s2,s3,-⟩:=lb_add hb a2 b2 (by decide) (by omega)
 have ld:=lnD_lb h h7 hd
 have le:=lnD_lb h h7 (hn.mem e hem)
 obtain ⟨S',t1,t2,t3,-⟩:=lb_mul hb ld le (by omega) (by omega)
 have hSS:S=S':=lb_sep s2 t2 (by omega) (by omega) fun T hT=>by
  rw [s3,hab T hT,t3 T hT,(lnD_ok h hd).val T hT,(lnD_ok h (hn.mem e hem)).val T hT]
 subst hSS
 have hdv:=div_mul ld.right le.right (ld.v.trans le.v.symm) (fun q=>(lnD_ok h (hn.mem e hem)).pos.1 (by unfold plist;rw [q];rfl)) t1
 have hcs:∀ c∈now.map (fun f=>bS f e (tris v now)),-8<=c/\c<=8:=fun c hc=>by
  obtain ⟨f,hf,rfl⟩:=List.mem_map.1 hc
  have:=bS_bd hn h7 hf hem
  omega
 rw [hcol,hold,hlen,exF_some hcs a1 b1,s1]
 dsimp only
 rw [if_pos rfl]
 exact hdv
theorem flip_seed {v:Nat} {l now:List Dg} (h:Tri v l) (hn:Tri v now) (h7:v<=7) {k:Nat} {d:Dg} (hf:FlipP v now k d):seedF (sedT v l now) k=(sedT v l (now.set k d),true):=by
 have hk:=hf.1
 have hE:=flip_ex h hn h7 hf
 have hM:=flip_mat hn h7 hf
 rw [seedF_eq (sedT_ok h hn h7) (n:=now.length) (r:=now.length) rfl rfl hk]
 unfold sedT
 dsimp only
 rw [hE,hM]
 dsimp only
 rw [if_pos ⟨rfl,rfl⟩,List.map_set]
theorem sedT_ini {v:Nat} {l:List Dg} (h:Tri v l) (h7:v<=7):iniF (matT v l)=(sedT v l l,true):=by
 unfold iniF
 rw [if_pos (matT_ok h h7)]
 unfold sedT
 have hr:(matT v l).r.toNat=l.length:=by unfold matT;simp
 rw [hr]
 congr 2
 unfold varsL
 refine List.ext_getElem (by simp) fun i h1 h2=>?_
 have hi:i < l.length:=by simpa using h1
 rw [List.getElem_map,List.getElem_range,List.getElem_map]
 have hm:=tri_mem h (List.getElem_mem hi)
 have:=len_diag h (a:=l[i].1) (c:=l[i].2) (k:=i) (by omega) (by omega) (by omega) (by rw [srt_lt hm.1,List.getElem?_eq_getElem hi])
 unfold lnD
 rw [lnL_eq h this,h.len]
 exact monoF_unit (n_bd h)
end Go.Proofs.Ytncfmemhjahpeaa.Ab
namespace Go.Proofs.Ytncfmemhjahpeaa.Ab
open Go
def pS (P:List (Dg×Dg)) (e f:Dg):Int:=(P.map fun z=>pT z.1 z.2 e f).sum
def prs (t:N3):List (Dg×Dg):=[((t.1,t.2.1),(t.2.1,t.2.2)),((t.2.1,t.2.2),(t.1,t.2.2)),((t.1,t.2.2),(t.1,t.2.1))]
def prA (T:List N3) (i j:Nat):List (Dg×Dg):=(T.take i).flatMap prs ++ (prs (T.getD i (0,0,0))).take j
theorem prA_zero (T:List N3):prA T 0 0=[]:=by simp [prA]
theorem prA_next {T:List N3} {i:Nat} (h:i < T.length):prA T i 3=prA T (i+1) 0:=by
 unfold prA
 rw [List.take_succ_eq_append_getElem h,List.flatMap_append]
 simp [prs,List.getD_eq_getElem?_getD,h]
theorem prA_end (T:List N3):prA T T.length 0=T.flatMap prs:=by simp [prA]
theorem prA_step {T:List N3} {i j:Nat} (hj:j < 3):prA T i (j+1)=prA T i j ++ [(prs (T.getD i (0,0,0)))[j]'(by simp [prs];omega)]:=by
 unfold prA
 rw [List.take_succ_eq_append_getElem (by simp [prs];omega),List.append_assoc]
theorem pS_app (P Q:List (Dg×Dg)) (e f:Dg):pS (P ++ Q) e f=pS P e f+pS Q e f:=by simp [pS]
theorem pS_all (e f:Dg):∀ T:List N3,pS (T.flatMap prs) e f=bS e f T
 | []=>rfl
 | t :: ts=>by
  rw [List.flatMap_cons,pS_app,pS_all e f ts]
  simp only [bS,bT,pS,prs,List.map_cons,List.map_nil,List.sum_cons,List.sum_nil]
  omega
theorem pT_bd (x y e f:Dg):(pT x y e f).natAbs<=1:=by
 unfold pT ind
 split <;> split <;> omega
theorem pS_bd (e f:Dg):∀ P:List (Dg×Dg),(pS P e f).natAbs<=P.length
 | []=>by simp [pS]
 | z :: P=>by
  have h1:=pS_bd e f P
  have h2:=pT_bd z.1 z.2 e f
  simp only [pS,List.map_cons,List.sum_cons,List.length_cons] at h1 ⊢
  omega
def dA (l:List Dg) (P:List (Dg×Dg)):List Int:=(List.range (l.length*l.length)).map fun q=>pS P (atD l (q / l.length)) (atD l (q % l.length))
@[simp] theorem dA_length (l:List Dg) (P:List (Dg×Dg)):(dA l P).length=l.length*l.length:=by simp [dA]
theorem dA_get {l:List Dg} {P:List (Dg×Dg)} {i j q:Nat} (hi:i < l.length) (hj:j < l.length) (hq:q=i*l.length+j):∃ h:q < (dA l P).length,(dA l P)[q]=pS P l[i] l[j]:=by
 have hlt:q < l.length*l.length:=by
  have:=Nat.mul_le_mul_right l.length (show i+1<=l.length by omega)
  rw [Nat.add_mul] at this
  omega
 refine ⟨by simpa using hlt,?_⟩
 simp only [dA,List.getElem_map,List.getElem_range]
 rw [hq,Nat.mul_comm i,Nat.mul_add_div (by omega),Nat.div_eq_of_lt hj,Nat.mul_add_mod,Nat.mod_eq_of_lt hj,Nat.add_zero,atD_get hi,atD_get hj]
theorem dA_nil (l:List Dg):dA l []=List.replicate (l.length*l.length) 0:=by
 refine List.ext_getElem (by simp) fun q h1 h2=>?_
 simp [dA,pS]
theorem dgq_at {l:List Dg} (hn:l.Nodup) {i p:Nat} (hi:i < l.length) (hp:p < l.length):dgq l[i] l[p]=decide (i=p):=by
 rw [Bool.eq_iff_iff,dgq_eq,decide_eq_true_eq]
 exact ⟨fun e=>(List.getElem_inj hn).1 e,fun e=>by subst e;rfl⟩
theorem dgq_no {l:List Dg} {x:Dg} (hx:x ∉ l) {p:Nat} (hp:p < l.length):dgq x l[p]=false:=by
 rw [Bool.eq_false_iff]
 intro e
 rw [dgq_eq] at e
 exact hx (e ▸ List.getElem_mem hp)
theorem dA_step {l:List Dg} (hn:l.Nodup) {P:List (Dg×Dg)} {i j q r:Nat} (hi:i < l.length) (hj:j < l.length) (hij:i≠j) (hq:q=i*l.length+j) (hr:r=j*l.length+i):((dA l P).set q (pS P l[i] l[j]+1)).set r (pS P l[j] l[i] - 1)=dA l (P ++ [(l[i],l[j])]):=by
 refine List.ext_getElem (by simp) fun z h1 h2=>?_
 have hz:z < l.length*l.length:=by simpa using h2
 have hpos:0 < l.length:=by omega
 obtain ⟨a,ha⟩:∃ a,a=z / l.length:=⟨_,rfl⟩
 obtain ⟨b,hb⟩:∃ b,b=z % l.length:=⟨_,rfl⟩
 have hal:a < l.length:=by rw [ha];exact (Nat.div_lt_iff_lt_mul hpos).2 hz
 have hbl:b < l.length:=by rw [hb];exact Nat.mod_lt _ hpos
 have hze:z=a*l.length+b:=by
  have:=Nat.div_add_mod z l.length
  rw [<-ha,<-hb,Nat.mul_comm] at this
  exact this.symm
 obtain ⟨_,e1⟩:=dA_get (P:=P) hal hbl hze
 obtain ⟨_,e2⟩:=dA_get (P:=P ++ [(l[i],l[j])]) hal hbl hze
 have key:∀ {a b i j:Nat},b < l.length->j < l.length->(a*l.length+b=i*l.length+j↔a=i/\b=j):=fun {a b i j} hb hj=>by
  refine ⟨fun e=>?_,fun e=>by rw [e.1,e.2]⟩
  have d1:(a*l.length+b) / l.length=a:=by rw [Nat.mul_comm,Nat.mul_add_div hpos,Nat.div_eq_of_lt hb,Nat.add_zero]
  have d2:(i*l.length+j) / l.length=i:=by rw [Nat.mul_comm,Nat.mul_add_div hpos,Nat.div_eq_of_lt hj,Nat.add_zero]
  rw [e,d2] at d1
  subst d1
  omega
 rw [List.getElem_set,List.getElem_set,e1,e2,pS_app]
 have e3:pS [(l[i],l[j])] l[a] l[b]=ind (decide (i=a) && decide (j=b)) - ind (decide (i=b) && decide (j=a)):=by
  simp only [pS,List.map_cons,List.map_nil,List.sum_cons,List.sum_nil,pT,dgq_at hn hi hal,dgq_at hn hj hbl,dgq_at hn hi hbl,dgq_at hn hj hal]
  omega
 rw [e3,hq,hr,hze]
 by_cases c1:j=a/\i=b
 ·obtain ⟨rfl,rfl⟩:=c1
  rw [if_pos rfl]
  simp [ind,hij,Ne.symm hij]
  omega
 ·rw [if_neg fun e=>c1 ((key hi hbl).1 e)]
  by_cases c2:i=a/\j=b
  ·obtain ⟨rfl,rfl⟩:=c2
   rw [if_pos rfl]
   simp [ind,hij,Ne.symm hij]
  ·rw [if_neg fun e=>c2 ((key hj hbl).1 e)]
   have g1:(decide (i=a) && decide (j=b))=false:=by
    rw [Bool.eq_false_iff]
    intro h
    simp only [Bool.and_eq_true,decide_eq_true_eq] at h
    exact c2 h
   have g2:(decide (i=b) && decide (j=a))=false:=by
    rw [Bool.eq_false_iff]
    intro h
    simp only [Bool.and_eq_true,decide_eq_true_eq] at h
    exact c1 ⟨h.2,h.1⟩
   rw [g1,g2]
   simp [ind]
theorem dA_same {l:List Dg} {P:List (Dg×Dg)} {x y:Dg} (h:x ∉ l\/y ∉ l):dA l (P ++ [(x,y)])=dA l P:=by
 unfold dA
 refine List.map_congr_left fun q hq=>?_
 rw [List.mem_range] at hq
 have hpos:0 < l.length:=by
  rcases Nat.eq_zero_or_pos l.length with e | e
  ·rw [e] at hq
   omega
  ·exact e
 have hal:q / l.length < l.length:=(Nat.div_lt_iff_lt_mul hpos).2 hq
 have hbl:q % l.length < l.length:=Nat.mod_lt _ hpos
 rw [pS_app,atD_get hal,atD_get hbl]
 have:pS [(x,y)] l[q / l.length] l[q % l.length]=0:=by
  simp only [pS,List.map_cons,List.map_nil,List.sum_cons,List.sum_nil,pT]
  rcases h with h | h
  ·rw [dgq_no h hal,dgq_no h hbl]
   rfl
  ·rw [dgq_no h hal,dgq_no h hbl]
   simp [ind]
 omega
def idxI (l:List Dg) (d:Dg):Int:=match l.findIdx? (dgq d) with
 | some k=>k
 | none=>-1
theorem idxI_in {l:List Dg} (hn:l.Nodup) {k:Nat} (hk:k < l.length):idxI l l[k]=k:=by
 unfold idxI
 rw [find_at hn (List.getElem?_eq_getElem hk)]
theorem idxI_no {l:List Dg} {d:Dg} (h:d ∉ l):idxI l d=-1:=by
 unfold idxI
 have:l.findIdx? (dgq d)=none:=by
  rw [List.findIdx?_eq_none_iff]
  intro x hx
  rw [Bool.eq_false_iff]
  intro e
  rw [dgq_eq] at e
  exact h (e ▸ hx)
 rw [this]
end Go.Proofs.Ytncfmemhjahpeaa.Ab
namespace Go.Proofs.Ytncfmemhjahpeaa.Ab
open Go
set_option maxRecDepth 10000
set_option maxHeartbeats 4000000
def sdL (t:N3):List Dg:=[(t.1,t.2.1),(t.2.1,t.2.2),(t.1,t.2.2)]
theorem prs_at (t:N3) {j:Nat} (hj:j < 3) (h:j < (prs t).length) (h1:j < (sdL t).length) (h2:(j+1) % 3 < (sdL t).length):(prs t)[j]=((sdL t)[j],(sdL t)[(j+1) % 3]):=by
 obtain rfl | rfl | rfl:j=0\/j=1\/j=2:=by omega
 all_goals rfl
theorem sdL_ne {t:N3} (h1:t.1 < t.2.1) (h2:t.2.1 < t.2.2) {j:Nat} (hj:j < 3) (q1:j < (sdL t).length) (q2:(j+1) % 3 < (sdL t).length):(sdL t)[j]≠(sdL t)[(j+1) % 3]:=by
 obtain rfl | rfl | rfl:j=0\/j=1\/j=2:=by omega
 all_goals
  simp only [sdL,List.getElem_cons_zero,List.getElem_cons_succ,Nat.reduceAdd,Nat.reduceMod]
  intro e
  injection e
  omega
theorem t3g (u:N3):∃ (h0:0 < (t3L u).length) (h1:1 < (t3L u).length) (h2:2 < (t3L u).length),(t3L u)[0]=(u.1:Int)/\(t3L u)[1]=(u.2.1:Int)/\(t3L u)[2]=(u.2.2:Int):=⟨by simp [t3L],by simp [t3L],by simp [t3L],rfl,rfl,rfl⟩
theorem index_c {l:List Dg} (hn:l.Nodup) (hl:l.length < 4611686018427387904) (d:Dg):ACalls Try.prog F.slices_Index_impl_Diagonal_impl_Diagonal [.d (.sh 2 l.length (rows gM (l.map dgI))),.ag [.int d.1,.int d.2]] [] true (fun outs res=>outs=[]/\res=[.one (D.int (idxI l d))]):=by
 have h:=slices_Index_impl_Diagonal_impl_Diagonal_c (l.map dgI) (dgI d) (by rw [List.length_map];exact hl)
 rw [List.length_map] at h
 refine h.mono fun outs res ⟨h1,r,h2,h3⟩=>⟨h1,?_⟩
 rw [h2]
 have:r=idxI l d:=by
  have inj:∀ x y:Dg,dgI x=dgI y->x=y:=fun x y e=>by
   unfold dgI at e
   injection e with e1 e2
   exact Prod.ext (by omega) (by omega)
  rcases h3 with ⟨rfl,hno⟩ | ⟨k,rfl,hk⟩
  ·rw [idxI_no fun q=>hno (List.mem_map.2 ⟨d,q,rfl⟩)]
  ·rw [List.getElem?_map,Option.map_eq_some_iff] at hk
   obtain ⟨x,hx,hxd⟩:=hk
   obtain ⟨hkl,hkx⟩:=List.getElem?_eq_some_iff.1 hx
   rw [<-inj _ _ hxd,<-hkx,idxI_in hn hkl]
 rw [this]
theorem impl_MatrixOfTriangulation_c (v:Nat) (l:List Dg) (hT:Tri v l):ACalls Try.prog F.impl_MatrixOfTriangulation [.int v,.d (.sh 2 l.length (rows gM (l.map dgI)))] [] true (fun outs res=>outs=[]/\res=[.ag (mO (matT v l)),.one (D.bool true)]):=by
 have hv0:=hT.vb
 have hv:v<=8/\4<=v:=⟨hv0.2,hv0.1⟩
 have hl:l.length<=5/\1<=l.length:=by have:=hT.len;omega
 have hit:=impl_IsTriangulation_c v (l.map dgI) (by rw [List.length_map];omega)
 rw [decide_eq_true (triI_of hT),List.length_map] at hit
 have htr:=impl_TrianglesOf_c v l hT
 have hnn:l.length*l.length<=5*5:=Nat.mul_le_mul hl.1 hl.1
 have hcast:(l.length:Int)*l.length=((l.length*l.length:Nat):Int):=by simp
 have hw:IntKind.i64.wrap ((l.length:Int)*l.length)=((l.length*l.length:Nat):Int):=by rw [hcast];exact wrapOk (by omega) (by omega)
 obtain ⟨nn,hnne⟩:∃ nn,nn=l.length*l.length:=⟨_,rfl⟩
 rw [<-hnne] at hw hnn
 obtain ⟨T,hTe⟩:∃ T,T=tris v l:=⟨_,rfl⟩
 rw [<-hTe] at htr
 obtain ⟨N,hN⟩:∃ N,N=T.length:=⟨_,rfl⟩
 have hNb:N<=512:=by
  rw [hN,hTe,<-trA_all]
  exact Nat.le_trans (trA_len v l v) (Nat.mul_le_mul hv.1 (Nat.mul_le_mul hv.1 hv.1))
 rw [<-hN] at htr
 have hfin:dA l (T.flatMap prs)=(matT v l).d:=by
  unfold dA matT
  dsimp only
  refine List.map_congr_left fun q _=>?_
  rw [pS_all,hTe]
 refine ACalls.of_body (C:=C.impl_MatrixOfTriangulation) (n:=Try.f13.ntmps) tabT folT Try.func13 rfl (by kernel_rfl) rfl (Nat.le_of_ble_eq_true rfl) (by decide) (by kernel_rfl) (by kernel_rfl) rfl (by simp) (by simp) ?_
 simp only [Try.f13]
 refine wseq ?_
 refine wreg fun K hK=>?_
 simp [C.impl_MatrixOfTriangulation]
 refine hK _ ?_;clear hK K
 show AWp _ _ _ _ _
 refine wseq ?_
 refine wseq ?_
 refine wregI ([0,1,2] ++ ([3])) rfl fun K hK=>?_
 refine oSg fun L hL=>?_
 simp [C.impl_MatrixOfTriangulation]
 refine wcall1 (hit) (by simp) (by simp) ?_
 simp [C.impl_MatrixOfTriangulation]
 refine hL _ ?_;clear hL L
 refine oEn fun L hL=>?_
 simp [C.impl_MatrixOfTriangulation]
 refine hL _ ?_;clear hL L
 simp [C.impl_MatrixOfTriangulation]
 refine hK _ ?_;clear hK K
 show AWp _ _ _ _ _
 refine wcond _ rfl (fun hc1=>?_) (fun hc1=>?_)
 ·simp at hc1
 ·refine wskip ?_
  show AWp _ _ _ _ _
  refine wseq ?_
  refine wreg fun K hK=>?_
  simp [C.impl_MatrixOfTriangulation]
  refine hK _ ?_;clear hK K
  show AWp _ _ _ _ _
  refine wseq ?_
  refine wreg fun K hK=>?_
  simp [C.impl_MatrixOfTriangulation,hw,show (nn:Int)<=281474976710656 by omega,show (8:Int)*nn<=281474976710656 by omega,zeros_ints]
  refine hK _ ?_;clear hK K
  show AWp _ _ _ _ _
  refine wseq ?_
  refine wseq ?_
  refine wregI ([0,1,2] ++ ([3,4])) rfl fun K hK=>?_
  refine oSg fun L hL=>?_
  simp [C.impl_MatrixOfTriangulation]
  refine wcall1 (htr) (by simp) (by simp) ?_
  simp [C.impl_MatrixOfTriangulation]
  refine hL _ ?_;clear hL L
  refine oEn fun L hL=>?_
  simp [C.impl_MatrixOfTriangulation]
  refine hL _ ?_;clear hL L
  simp [C.impl_MatrixOfTriangulation]
  refine hK _ ?_;clear hK K
  show AWp _ _ _ _ _
  refine wblock ?_
  refine wloop (fun i:Nat=>⟨ofL [(1,.d (.sh 2 l.length (rows gM (l.map dgI)))),(4,.pt (4,0) [] 0),(6,.int l.length),(7,.pt (7,0) [] 0),(31,.al (31,0) [] 0 N),(32,.int N),(33,.int i)],ofRO [((4,0),some (.bx [D.int 0,D.int 0,.v (.slice none 0 0)])),((7,0),some (.bx [D.int l.length,D.int l.length,.ow 1 nn (ints (dA l (prA T i 0)))])),((31,0),some (.ow 1 N (rows lO (T.map t3L))))]⟩) (fun i=>i<=N) (fun i=>N - i) 0 (by simp [C.impl_MatrixOfTriangulation,prA_zero,dA_nil,hnne]) (by simp) ?_
  intro x1 hx1 R1 hR1
  refine wseq ?_
  refine wreg fun K hK=>?_
  simp [C.impl_MatrixOfTriangulation]
  refine hK _ ?_;clear hK K
  show AWp _ _ _ _ _
  refine wseq ?_
  refine wcond _ rfl (fun hc2=>?_) (fun hc2=>?_)
  ·have h1:x1 < N:=by have:=d_t hc2;omega
   have h1T:x1 < T.length:=by omega
   obtain ⟨t,ht⟩:∃ t,t=T[x1]:=⟨_,rfl⟩
   have htd:T.getD x1 (0,0,0)=t:=by simp [List.getD_eq_getElem?_getD,h1T,ht]
   have hbd:=tris_bd (v:=v) (l:=l) (t:=t) (by rw [<-hTe,ht];exact List.getElem_mem h1T)
   have hm1:x1 < (T.map t3L).length:=by simpa using h1T
   have hlt:=lO_0 hm1
   have hTt:(T.map t3L)[x1]=t3L t:=by rw [List.getElem_map,<-ht]
   rw [hTt] at hlt
   obtain ⟨y0,y1,y2,w0,w1,w2⟩:=t3g t
   have t3n:(t3L t).length=3:=rfl
   refine wskip ?_
   show AWp _ _ _ _ _
   refine wseq ?_
   refine wblock ?_
   refine wseq ?_
   refine wreg fun K hK=>?_
   simp [C.impl_MatrixOfTriangulation,hlt,h1]
   refine hK _ ?_;clear hK K
   show AWp _ _ _ _ _
   refine wseq ?_
   refine wdrawI [(true,0),(true,1),(true,2),(true,3),(true,4),(true,5),(true,6),(true,7),(true,8),(true,9),(true,10),(true,11),(true,12),(true,13),(true,14),(true,15),(true,16),(true,17),(true,18),(true,19),(true,20),(false,21),(true,22)] ⟨by kernel_rfl,by kernel_rfl⟩ ([0,1,2,3,4,5,6,7,8,9,10,11,12,13,14,15,16,17,18,19,20,21,22]) rfl fun K hK=>?_
   refine oEn fun L hL=>?_
   simp [C.impl_MatrixOfTriangulation,hlt,h1,get_ints,w0,w1,w2,t3n]
   refine hL _ ?_;clear hL L
   simp [C.impl_MatrixOfTriangulation,hlt,h1,get_ints,w0,w1,w2,t3n]
   refine hK _ ?_;clear hK K
   show AWp _ _ _ _ _
   refine wseq ?_
   skip
   refine wreg fun K hK=>?_
   simp [C.impl_MatrixOfTriangulation]
   refine hK _ ?_;clear hK K
   show AWp _ _ _ _ _
   refine wblock ?_
   refine wloop (fun j:Nat=>⟨ofL [(1,.d (.sh 2 l.length (rows gM (l.map dgI)))),(4,.pt (4,0) [] 0),(6,.int l.length),(7,.pt (7,0) [] 0),(10,.al (10,0) [] 0 3),(31,.al (31,0) [] 0 N),(32,.int N),(33,.int x1),(59,.al (10,0) [] 0 3),(60,.int 3),(61,.int j)],ofRO [((4,0),some (.bx [D.int 0,D.int 0,.v (.slice none 0 0)])),((7,0),some (.bx [D.int l.length,D.int l.length,.ow 1 nn (ints (dA l (prA T x1 j)))])),((10,0),some (.ow 2 3 (rows gM ((sdL t).map dgI)))),((31,0),some (.ow 1 N (rows lO (T.map t3L))))]⟩) (fun j=>j<=3) (fun j=>3 - j) 0 (by simp [C.impl_MatrixOfTriangulation,sdL,gM,dgI,rows]) (by simp) ?_
   intro x2 hx2 R2 hR2
   refine wseq ?_
   refine wreg fun K hK=>?_
   simp [C.impl_MatrixOfTriangulation]
   refine hK _ ?_;clear hK K
   show AWp _ _ _ _ _
   refine wseq ?_
   refine wcond _ rfl (fun hc3=>?_) (fun hc3=>?_)
   ·have h2:x2 < 3:=by have:=d_t hc3;omega
    have m2:(x2+1) % 3 < 3:=Nat.mod_lt _ (by omega)
    have e1:IntKind.i64.wrap ((x2:Int)+1)=(x2:Int)+1:=wrapOk (by omega) (by omega)
    have f1:((x2:Int)+1).tmod 3=(((x2+1) % 3:Nat):Int):=by rw [Int.tmod_eq_emod_of_nonneg (by omega)];omega
    have k1:x2 < (sdL t).length:=h2
    have k2:(x2+1) % 3 < (sdL t).length:=m2
    obtain ⟨_,a0,a1⟩:=dgm_at (sdL t) k1
    obtain ⟨_,b0,b1⟩:=dgm_at (sdL t) k2
    have hpr:prA T x1 (x2+1)=prA T x1 x2 ++ [((sdL t)[x2],(sdL t)[(x2+1) % 3])]:=by
     have h9:=prA_step (T:=T) (i:=x1) h2
     simp only [htd] at h9
     exact h9.trans (congrArg (fun z=>prA T x1 x2 ++ [z]) (prs_at t h2 (by simpa [prs] using h2) k1 k2))
    have hxy:=sdL_ne hbd.1 hbd.2.1 h2 k1 k2
    obtain ⟨x,hx⟩:∃ x,x=(sdL t)[x2]:=⟨_,rfl⟩
    obtain ⟨y,hy⟩:∃ y,y=(sdL t)[(x2+1) % 3]:=⟨_,rfl⟩
    rw [<-hx] at a0 a1 hpr hxy
    rw [<-hy] at b0 b1 hpr hxy
    clear hx hy k1 k2
    generalize (x2+1) % 3=j2 at m2 f1 b0 b1
    obtain ⟨P,hP⟩:∃ P,P=prA T x1 x2:=⟨_,rfl⟩
    rw [<-hP] at hpr
    rw [<-hP]
    have hPl:P.length<=3*512+3:=by
     rw [hP]
     unfold prA
     rw [List.length_append,List.length_take,List.length_flatMap]
     have:((T.take x1).map fun a=>(prs a).length).sum=3*(T.take x1).length:=by
      generalize T.take x1=L
      induction L with
      | nil=>rfl
      | cons z L ih=>simp only [List.map_cons,List.sum_cons,ih,List.length_cons];show 3+_=_;omega
     rw [this,List.length_take]
     have:(prs (T.getD x1 (0,0,0))).length=3:=rfl
     omega
    have i1:=index_c hT.nodup (by omega) x
    have i2:=index_c hT.nodup (by omega) y
    refine wskip ?_
    show AWp _ _ _ _ _
    refine wseq ?_
    refine wblock ?_
    refine wseq ?_
    refine wreg fun K hK=>?_
    simp [C.impl_MatrixOfTriangulation,a0,a1,h2,show (x2:Int) < 3 by omega]
    refine hK _ ?_;clear hK K
    show AWp _ _ _ _ _
    refine wseq ?_
    refine wdrawI [(true,0),(true,1),(true,3),(true,4),(true,5),(true,6),(true,7),(true,8),(true,9),(false,2),(false,10),(true,11),(true,12)] ⟨by kernel_rfl,by kernel_rfl⟩ ([0,1,3,4,5,6,7,8,9,2] ++ ([10] ++ ([11,12]))) rfl fun K hK=>?_
    refine oSg fun L hL=>?_
    simp [C.impl_MatrixOfTriangulation,b0,b1,e1,f1,m2,show (j2:Int) < 3 by omega]
    refine wcall1 (i1) (by simp) (by simp) ?_
    simp [C.impl_MatrixOfTriangulation,b0,b1,e1,f1,m2,show (j2:Int) < 3 by omega]
    refine hL _ ?_;clear hL L
    refine oSg fun L hL=>?_
    simp [C.impl_MatrixOfTriangulation,b0,b1,e1,f1,m2,show (j2:Int) < 3 by omega]
    refine wcall1 (i2) (by simp) (by simp) ?_
    simp [C.impl_MatrixOfTriangulation,b0,b1,e1,f1,m2,show (j2:Int) < 3 by omega]
    refine hL _ ?_;clear hL L
    refine oEn fun L hL=>?_
    simp [C.impl_MatrixOfTriangulation,b0,b1,e1,f1,m2,show (j2:Int) < 3 by omega]
    refine hL _ ?_;clear hL L
    simp [C.impl_MatrixOfTriangulation,b0,b1,e1,f1,m2,show (j2:Int) < 3 by omega]
    refine hK _ ?_;clear hK K
    show AWp _ _ _ _ _
    refine wseq ?_
    refine wreg fun K hK=>?_
    have hJ:K ⟨ofL [(1,.d (.sh 2 l.length (rows gM (l.map dgI)))),(4,.pt (4,0) [] 0),(6,.int l.length),(7,.pt (7,0) [] 0),(10,.al (10,0) [] 0 3),(13,.int (idxI l x)),(14,.int (idxI l y)),(31,.al (31,0) [] 0 N),(32,.int N),(33,.int x1),(59,.al (10,0) [] 0 3),(60,.int 3),(61,.int x2),(82,.bool (decide (0<=idxI l x/\0<=idxI l y)))],ofRO [((4,0),some (.bx [D.int 0,D.int 0,.v (.slice none 0 0)])),((7,0),some (.bx [D.int l.length,D.int l.length,.ow 1 nn (ints (dA l P))])),((10,0),some (.ow 2 3 (rows gM ((sdL t).map dgI)))),((31,0),some (.ow 1 N (rows lO (T.map t3L))))]⟩:=by
     refine hK _ ?_;clear hK K
     show AWp _ _ _ _ _
     refine wcond _ rfl (fun hc4=>?_) (fun hc4=>?_)
     ·have h4:=d_t hc4
      have hxm:x∈l:=Classical.byContradiction fun q=>by rw [idxI_no q] at h4;omega
      have hym:y∈l:=Classical.byContradiction fun q=>by rw [idxI_no q] at h4;omega
      obtain ⟨i,hi,hix⟩:=List.getElem_of_mem hxm
      obtain ⟨j,hj,hjy⟩:=List.getElem_of_mem hym
      have hij:i≠j:=fun e=>by subst e;exact hxy (hix.symm.trans hjy)
      have ei:idxI l x=i:=by rw [<-hix];exact idxI_in hT.nodup hi
      have ej:idxI l y=j:=by rw [<-hjy];exact idxI_in hT.nodup hj
      obtain ⟨q,hq⟩:∃ q,q=i*l.length+j:=⟨_,rfl⟩
      obtain ⟨r,hr⟩:∃ r,r=j*l.length+i:=⟨_,rfl⟩
      obtain ⟨hq1,hq2⟩:=dA_get (P:=P) hi hj hq
      obtain ⟨hr1,hr2⟩:=dA_get (P:=P) hj hi hr
      have hst:=dA_step hT.nodup (P:=P) hi hj hij hq hr
      rw [hix,hjy] at hst hq2 hr2
      have hqr:q≠r:=fun e=>by
       have d1:q / l.length=i:=by rw [hq,Nat.mul_comm,Nat.mul_add_div (by omega),Nat.div_eq_of_lt hj,Nat.add_zero]
       have d2:r / l.length=j:=by rw [hr,Nat.mul_comm,Nat.mul_add_div (by omega),Nat.div_eq_of_lt hi,Nat.add_zero]
       rw [e,d2] at d1
       exact hij d1.symm
      have hdl:(dA l P).length=nn:=by rw [dA_length,hnne]
      rw [hdl] at hq1 hr1
      have p1:=pS_bd x y P
      have p2:=pS_bd y x P
      have hil:i*l.length<=5*5:=Nat.mul_le_mul (by omega) hl.1
      have hjl:j*l.length<=5*5:=Nat.mul_le_mul (by omega) hl.1
      have wi:IntKind.i64.wrap ((i:Int)*l.length)=((i*l.length:Nat):Int):=by rw [show (i:Int)*l.length=((i*l.length:Nat):Int) by simp];exact wrapOk (by omega) (by omega)
      have wj:IntKind.i64.wrap ((j:Int)*l.length)=((j*l.length:Nat):Int):=by rw [show (j:Int)*l.length=((j*l.length:Nat):Int) by simp];exact wrapOk (by omega) (by omega)
      have wq:IntKind.i64.wrap (((i*l.length:Nat):Int)+j)=(q:Int):=by rw [hq,wrapOk (by omega) (by omega)];omega
      have wr:IntKind.i64.wrap (((j*l.length:Nat):Int)+i)=(r:Int):=by rw [hr,wrapOk (by omega) (by omega)];omega
      generalize i*l.length=il at wi wq
      generalize j*l.length=jl at wj wr
      obtain ⟨A,hA⟩:∃ A,A=pS P x y:=⟨_,rfl⟩
      obtain ⟨B,hB⟩:∃ B,B=pS P y x:=⟨_,rfl⟩
      rw [<-hA] at hst hq2 p1
      rw [<-hB] at hst hr2 p2
      rw [<-hpr] at hst
      rw [ei,ej]
      obtain ⟨M,hM⟩:∃ M,M=dA l P:=⟨_,rfl⟩
      simp only [<-hM] at hst hq2 hr2 hdl
      rw [<-hM]
      obtain ⟨M1,hM1⟩:∃ M1,M1=M.set q (A+1):=⟨_,rfl⟩
      rw [<-hM1] at hst
      have h1l:M1.length=nn:=by rw [hM1,List.length_set,hdl]
      have h1r:M1[r]'(by omega)=B:=by
       simp only [hM1]
       rw [List.getElem_set_ne hqr]
       exact hr2
      have hM1':=hM1.symm
      refine wseq ?_
      refine wreg fun K hK=>?_
      simp [C.impl_MatrixOfTriangulation,wi,wq,show (q:Int) < nn by omega,get_ints,hdl,hq1,hq2,wrapOk (x:=A+1) (by omega) (by omega),hM1']
      refine hK _ ?_;clear hK K
      show AWp _ _ _ _ _
      refine wreg fun K hK=>?_
      simp [C.impl_MatrixOfTriangulation,wj,wr,show (r:Int) < nn by omega,get_ints,h1l,hr1,h1r,wrapOk (x:=B - 1) (by omega) (by omega),hst]
      refine hK _ ?_;clear hK K
      show AWp _ _ _ _ _
      refine wreg fun K hK=>?_
      simp [C.impl_MatrixOfTriangulation,wrap_succ (show x2 < 4611686018427387904 by omega)]
      refine hK _ ?_;clear hK K
      simp [C.impl_MatrixOfTriangulation]
      exact hR2 (x2+1) h2 (by omega)
     ·have h4:=d_f hc4
      have hno:x ∉ l\/y ∉ l:=by
       by_cases hxm:x∈l
       ·right
        intro hym
        obtain ⟨i,hi,hix⟩:=List.getElem_of_mem hxm
        obtain ⟨j,hj,hjy⟩:=List.getElem_of_mem hym
        rw [<-hix,<-hjy,idxI_in hT.nodup hi,idxI_in hT.nodup hj] at h4
        omega
       ·exact .inl hxm
      have hst:dA l P=dA l (prA T x1 (x2+1)):=by rw [hpr];exact (dA_same hno).symm
      rw [hst]
      refine wskip ?_
      show AWp _ _ _ _ _
      refine wreg fun K hK=>?_
      simp [C.impl_MatrixOfTriangulation,wrap_succ (show x2 < 4611686018427387904 by omega)]
      refine hK _ ?_;clear hK K
      simp [C.impl_MatrixOfTriangulation]
      exact hR2 (x2+1) h2 (by omega)
    clear hK
    by_cases h3:0<=idxI l x
    ·simp [C.impl_MatrixOfTriangulation,h3]
     refine cast (congrArg K ?_) hJ
     simp [h3]
    ·simp [C.impl_MatrixOfTriangulation,h3]
     refine cast (congrArg K ?_) hJ
     simp [h3]
   ·have h2:x2=3:=by have:=d_f hc3;omega
    have hst:dA l (prA T x1 x2)=dA l (prA T (x1+1) 0):=by rw [h2,prA_next h1T]
    rw [hst]
    refine wexit ?_
    show AWp _ _ _ _ _
    refine wreg fun K hK=>?_
    simp [C.impl_MatrixOfTriangulation,wrap_succ (show x1 < 4611686018427387904 by omega)]
    refine hK _ ?_;clear hK K
    simp [C.impl_MatrixOfTriangulation]
    exact hR1 (x1+1) h1 (by omega)
  ·have h1:x1=N:=by have:=d_f hc2;omega
   have hst:dA l (prA T x1 0)=(matT v l).d:=by rw [h1,hN,prA_end,hfin]
   rw [hst]
   have hml:(matT v l).d.length=nn:=by unfold matT;simp [hnne]
   refine wexit ?_
   show AWp _ _ _ _ _
   refine wseq ?_
   refine wreg fun K hK=>?_
   simp [C.impl_MatrixOfTriangulation,mO,owI,hml]
   refine hK _ ?_;clear hK K
   show AWp _ _ _ _ _
   refine wret ?_
   simp [C.impl_MatrixOfTriangulation,mO,owI,hml]
   exact ⟨rfl,rfl⟩
end Go.Proofs.Ytncfmemhjahpeaa.Ab
namespace Go.Proofs.Ytncfmemhjahpeaa.Ab
open Go
set_option maxRecDepth 10000
set_option maxHeartbeats 4000000
end Go.Proofs.Ytncfmemhjahpeaa.Ab
namespace Go.Proofs.Ytncfmemhjahpeaa.Ab
open Go
set_option maxRecDepth 10000
set_option maxHeartbeats 4000000
end Go.Proofs.Ytncfmemhjahpeaa.Ab
namespace Go.Proofs.Ytncfmemhjahpeaa.Ab
open Go
set_option maxRecDepth 10000
set_option maxHeartbeats 4000000
theorem laws_FnArcs_c (xs:List Int) (hb:∀ x∈xs,0<=x/\x<=255):ACalls Try.prog F.laws_FnArcs [.d (.sh 1 xs.length (byts xs))] [] true (fun outs res=>outs=[]/\res=[.one (D.bool true)]):=by
 refine ACalls.of_body (C:=C.laws_FnArcs) (n:=Try.f4.ntmps) tabT folT Try.func4 rfl (by kernel_rfl) rfl (Nat.le_of_ble_eq_true rfl) (by decide) (by kernel_rfl) (by kernel_rfl) rfl (by simp) (by simp) ?_
 simp only [Try.f4]
 refine wseq ?_
 refine wreg fun K hK=>?_
 simp [C.laws_FnArcs]
 refine hK _ ?_;clear hK K
 show AWp _ _ _ _ _
 refine wseq ?_
 refine wseq ?_
 refine wregI ([0,1] ++ ([])) rfl fun K hK=>?_
 refine oSg fun L hL=>?_
 simp [C.laws_FnArcs]
 refine wcall1 (laws_big_c xs) (by simp) (by simp) ?_
 simp [C.laws_FnArcs]
 refine hL _ ?_;clear hL L
 refine oEn fun L hL=>?_
 simp only [AOpsI]
 refine hL _ ?_;clear hL L
 simp [C.laws_FnArcs]
 refine hK _ ?_;clear hK K
 show AWp _ _ _ _ _
 refine wcond _ rfl (fun hc1=>?_) (fun hc1=>?_)
 ·refine wseq ?_
  refine wreg fun K hK=>?_
  simp [C.laws_FnArcs]
  refine hK _ ?_;clear hK K
  show AWp _ _ _ _ _
  refine wret ?_
  simp [C.laws_FnArcs]
 ·have hx:xs.length<=1048576:=by have:=d_f hc1;omega
  refine wskip ?_
  show AWp _ _ _ _ _
  refine wseq ?_
  refine wregI ([0,1] ++ ([2,3,4,5,6,7,8,9,10,11])) rfl fun K hK=>?_
  refine oSg fun L hL=>?_
  simp [C.laws_FnArcs]
  refine wcall (spec_DrawFlips_c xs hx) (by simp) (by simp) (by simp) ?_
  rintro outs res ⟨v,l,ks,dg,hv,hT,hks,hdg,rfl,rfl⟩
  simp [C.laws_FnArcs]
  refine hL _ ?_;clear hL L
  refine oEn fun L hL=>?_
  simp [C.laws_FnArcs]
  refine hL _ ?_;clear hL L
  simp [C.laws_FnArcs]
  refine hK _ ?_;clear hK K
  show AWp _ _ _ _ _
  refine wseq ?_
  have hmt:=impl_MatrixOfTriangulation_c v l hT
  have hok:=sedT_ok hT hT hv.2
  have hini:=sedT_ini hT hv.2
  have hml:(matT v l).d.length<=40:=(GdS.ok hok).1
  have hic:=iIni_c (matT v l) (by omega)
  rw [hini] at hic
  obtain ⟨S0,hS0⟩:∃ S,S=sedT v l l:=⟨_,rfl⟩
  obtain ⟨M,hM⟩:∃ M,M=matT v l:=⟨_,rfl⟩
  rw [<-hS0,<-hM] at hic
  rw [<-hM] at hmt
  have hll:=hT.len
  refine wregI ([0,1,2] ++ ([3,4,5,6,7,8])) rfl fun K hK=>?_
  refine oSg fun L hL=>?_
  simp [C.laws_FnArcs,mO]
  refine wcall1 (hmt) (by simp) (by simp) ?_
  simp [C.laws_FnArcs,mO]
  refine hL _ ?_;clear hL L
  refine oEn fun L hL=>?_
  simp [C.laws_FnArcs,mO]
  refine hL _ ?_;clear hL L
  simp [C.laws_FnArcs,mO]
  refine hK _ ?_;clear hK K
  show AWp _ _ _ _ _
  refine wseq ?_
  refine wregI ([0,1] ++ ([2,3,4,5,6,7])) rfl fun K hK=>?_
  refine oSg fun L hL=>?_
  simp [C.laws_FnArcs,sO,mO]
  refine wcall1 (hic) (by simp) (by simp) ?_
  simp [C.laws_FnArcs,sO,mO]
  refine hL _ ?_;clear hL L
  refine oEn fun L hL=>?_
  simp [C.laws_FnArcs,sO,mO]
  refine hL _ ?_;clear hL L
  simp [C.laws_FnArcs,sO,mO]
  refine hK _ ?_;clear hK K
  show AWp _ _ _ _ _
  refine wseq ?_
  refine wseq ?_
  refine wreg fun K hK=>?_
  simp [C.laws_FnArcs]
  refine hK _ ?_;clear hK K
  show AWp _ _ _ _ _
  refine wcond _ rfl (fun hc2=>?_) (fun hc2=>?_)
  ·simp at hc2
  ·refine wskip ?_
   show AWp _ _ _ _ _
   refine wseq ?_
   refine wreg fun K hK=>?_
   simp [C.laws_FnArcs]
   refine hK _ ?_;clear hK K
   show AWp _ _ _ _ _
   refine wseq ?_
   refine wseq ?_
   refine wreg fun K hK=>?_
   simp [C.laws_FnArcs]
   refine hK _ ?_;clear hK K
   show AWp _ _ _ _ _
   refine wblock ?_
   refine wloop (fun x:Nat×List Dg=>⟨ofL [(3,.int v),(4,.d (.sh 2 l.length (rows gM (l.map dgI)))),(5,.al (5,0) [] 0 ks.length),(9,.pt (9,0) [] 0),(11,.d (.sh 2 x.2.length (rows gM (x.2.map dgI)))),(12,.int x.1)],ofRO [((5,0),some (owI ks)),((9,0),some (.bx (sO (sedT v l x.2))))]⟩) (fun x=>x.1<=ks.length/\Tri v x.2) (fun x=>ks.length - x.1) (0,l) (by simp [C.laws_FnArcs,sO,owI,<-hS0]) ⟨by simp,hT⟩ ?_
   intro x1 hx1 R1 hR1
   obtain ⟨i,now⟩:=x1
   obtain ⟨hi0,hTn⟩:=hx1
   dsimp only at hi0 hTn hR1 ⊢
   have hnl:=hTn.len
   refine wseq ?_
   refine wseq ?_
   refine wreg fun K hK=>?_
   simp [C.laws_FnArcs,owI]
   refine hK _ ?_;clear hK K
   show AWp _ _ _ _ _
   refine wcond _ rfl (fun hc3=>?_) (fun hc3=>?_)
   ·have hi:i < ks.length:=by have:=d_t hc3;omega
    have hki:=hks.2 ks[i] (List.getElem_mem hi)
    obtain ⟨k,hk⟩:∃ k:Nat,ks[i]=(k:Int):=⟨ks[i].toNat,by omega⟩
    have hkn:k < now.length:=by omega
    have hfl:=impl_FlipDiagonal_c v now k hTn hv.2 hkn
    have hgd:=GdS.ok (sedT_ok hT hTn hv.2)
    have hms:=iMs_c (sedT v l now) k hgd.sm.1 hgd.sm.2.1 hgd.sm.2.2
    have hfs:=fun d=>flip_seed hT hTn hv.2 (k:=k) (d:=d)
    obtain ⟨S,hS⟩:∃ S,S=sedT v l now:=⟨_,rfl⟩
    rw [<-hS] at hms
    simp only [<-hS] at hfs
    rw [<-hS]
    refine wskip ?_
    show AWp _ _ _ _ _
    refine wseq ?_
    refine wblock ?_
    refine wseq ?_
    refine wregI ([0,1,2,3,4,5,6] ++ ([7,8,9,10,11])) rfl fun K hK=>?_
    refine oSg fun L hL=>?_
    simp [C.laws_FnArcs,owI,get_ints,hk,hi]
    refine wcall (hfl) (by simp) (by simp) (by simp) ?_
    rintro outs res ⟨rfl,d,hf,rfl⟩
    simp [C.laws_FnArcs,owI,get_ints,hk,hi]
    refine hL _ ?_;clear hL L
    refine oEn fun L hL=>?_
    simp [C.laws_FnArcs,owI,get_ints,hk,hi]
    refine hL _ ?_;clear hL L
    simp [C.laws_FnArcs,owI,get_ints,hk,hi]
    refine hK _ ?_;clear hK K
    show AWp _ _ _ _ _
    refine wseq ?_
    rw [hfs d hf] at hms
    have hTd:=hf.2.2.2
    obtain ⟨S',hS'⟩:∃ S',S'=sedT v l (now.set k d):=⟨_,rfl⟩
    rw [<-hS'] at hms
    have hdl:(now.set k d).length=now.length:=List.length_set
    obtain ⟨nw,hnw⟩:∃ nw,nw=now.set k d:=⟨_,rfl⟩
    rw [<-hnw] at hS' hTd hdl
    have hmp:(now.map dgI).set k (dgI d)=nw.map dgI:=by rw [hnw,List.map_set]
    rw [hmp]
    refine wdraw (.take 0 (.take 1 (.take 2 (.take 3 (.take 4 (.all [(5,.take 6 (.take 7 (.take 8 (.all [(9,.all [(10,.take 11 (.done))])])))),(9,.all [(5,.take 6 (.take 7 (.take 8 (.all [(10,.take 11 (.done))]))))])])))))) ⟨by kernel_rfl,by kernel_rfl⟩ fun K hK=>?_
    have hJ:K ⟨ofL [(3,.int v),(4,.d (.sh 2 l.length (rows gM (l.map dgI)))),(5,.al (5,0) [] 0 ks.length),(9,.pt (9,0) [] 0),(12,.int i),(13,.d (.sh 2 nw.length (rows gM (nw.map dgI)))),(14,.bool true),(15,.pt (15,0) [] 0),(16,.bool true)],ofRO [((5,0),some (.ow 1 ks.length (ints ks))),((9,0),some (.bx (sO S))),((15,0),some (.bx (sO S')))]⟩:=by
     refine hK _ ?_;clear hK K
     show AWp _ _ _ _ _
     refine wseq ?_
     refine wseq ?_
     refine wreg fun K hK=>?_
     simp [C.laws_FnArcs]
     refine hK _ ?_;clear hK K
     show AWp _ _ _ _ _
     refine wcond _ rfl (fun hc4=>?_) (fun hc4=>?_)
     ·simp at hc4
     ·refine wskip ?_
      show AWp _ _ _ _ _
      refine wdraw (.take 0 (.take 1 (.take 2 (.all [(3,.done)])))) ⟨by kernel_rfl,by kernel_rfl⟩ fun K hK=>?_
      simp [C.laws_FnArcs,sO]
      refine hK _ ?_;clear hK K
      show AWp _ _ _ _ _
      refine wreg fun K hK=>?_
      simp [C.laws_FnArcs,wrap_succ (show i < 4611686018427387904 by omega)]
      refine hK _ ?_;clear hK K
      simp [C.laws_FnArcs]
      refine cast (congrArg R1 ?_) (hR1 (i+1,nw) ⟨hi,hTd⟩ (by show ks.length - (i+1) < ks.length - i;omega))
      simp [sO,owI,hS']
    clear hK
    simp [C.laws_FnArcs,sO,owI,get_ints,hk,hi,hdl]
    repeat' first
     | (refine wcall1 (hms) ?_ (by simp) ?_;(focus (simp;done));simp [C.laws_FnArcs,sO,owI])
     | (refine cast (congrArg K ?_) hJ;simp [sO,owI,hdl];done)
     | refine And.intro ?_ ?_
   ·have hi:i=ks.length:=by have:=d_f hc3;omega
    have hfk:∀ j (hj:j < now.length),∃ h:j < (sedT v l now).f.length,(sedT v l now).f[j]=lnD v l now[j]:=fun j hj=>⟨by unfold sedT;simpa using hj,by simp [sedT]⟩
    have hfl:(sedT v l now).f.length=now.length:=by unfold sedT;simp
    obtain ⟨S,hS⟩:∃ S,S=sedT v l now:=⟨_,rfl⟩
    simp only [<-hS] at hfk hfl
    rw [<-hS]
    refine wexit ?_
    show AWp _ _ _ _ _
    refine wseq ?_
    refine wseq ?_
    refine wreg fun K hK=>?_
    simp [C.laws_FnArcs,sO,owI]
    refine hK _ ?_;clear hK K
    show AWp _ _ _ _ _
    refine wblock ?_
    refine wloop (fun j:Nat=>⟨ofL [(3,.int v),(4,.d (.sh 2 l.length (rows gM (l.map dgI)))),(9,.pt (9,0) [] 0),(11,.d (.sh 2 now.length (rows gM (now.map dgI)))),(17,.int j)],ofRO [((9,0),some (.bx (sO S)))]⟩) (fun j=>j<=now.length) (fun j=>now.length - j) 0 (by simp [C.laws_FnArcs,sO]) (by simp) ?_
    intro x2 hx2 R2 hR2
    refine wseq ?_
    refine wseq ?_
    refine wreg fun K hK=>?_
    simp [C.laws_FnArcs]
    refine hK _ ?_;clear hK K
    show AWp _ _ _ _ _
    refine wcond _ rfl (fun hc5=>?_) (fun hc5=>?_)
    ·have hj:x2 < now.length:=by have:=d_t hc5;omega
     obtain ⟨hjf,hfj⟩:=hfk x2 hj
     obtain ⟨_,a0,a1⟩:=dgm_at now hj
     have hdm:=hTn.mem _ (List.getElem_mem hj)
     obtain ⟨e,he⟩:∃ e,e=now[x2]:=⟨_,rfl⟩
     rw [<-he] at a0 a1 hdm hfj
     obtain ⟨ea,eb⟩:=e
     have hA:=iArc_c v (l.map dgI) (dgI (ea,eb)) (by rw [List.length_map];omega)
     rw [arcF_at hT hdm] at hA
     simp only [agD,dgI,List.length_map] at hA
     have hsf:=(lnD_lb hT hv.2 hdm).right
     have hsm:=(small_right hsf).sm'
     obtain ⟨F,hF⟩:∃ F,F=lnD v l (ea,eb):=⟨_,rfl⟩
     rw [<-hF] at hsf hsm hfj
     rw [show lnL v l ea eb=F from hF.symm] at hA
     have hlc:=laws_laurents_c F F hsm.1 hsm.2
     refine wskip ?_
     show AWp _ _ _ _ _
     refine wseq ?_
     refine wblock ?_
     refine wseq ?_
     refine wregI ([0,1,2,3,4,5,6] ++ ([7,8,9,10,11,12])) rfl fun K hK=>?_
     refine oSg fun L hL=>?_
     simp [C.laws_FnArcs,a0,a1,hj]
     refine wcall1 (hA) (by simp [a0,a1,hj]) (by simp) ?_
     simp [C.laws_FnArcs,a0,a1,hj]
     refine hL _ ?_;clear hL L
     refine oEn fun L hL=>?_
     simp [C.laws_FnArcs,a0,a1,hj]
     refine hL _ ?_;clear hL L
     simp [C.laws_FnArcs,a0,a1,hj]
     refine hK _ ?_;clear hK K
     show AWp _ _ _ _ _
     refine wseq ?_
     refine wdrawI [(true,0),(true,1),(true,2),(true,3),(true,4),(true,5),(true,6),(true,7),(true,8),(false,9),(true,10),(true,11)] ⟨by kernel_rfl,by kernel_rfl⟩ ([0,1,2,3,4,5,6,7,8,9] ++ ([10,11])) rfl fun K hK=>?_
     have hJ:K ⟨ofL [(3,.int v),(4,.d (.sh 2 l.length (rows gM (l.map dgI)))),(9,.pt (9,0) [] 0),(11,.d (.sh 2 now.length (rows gM (now.map dgI)))),(17,.int x2),(107,.bool false)],ofRO [((9,0),some (.bx (sO S)))]⟩:=by
      refine hK _ ?_;clear hK K
      show AWp _ _ _ _ _
      refine wcond _ rfl (fun hc6=>?_) (fun hc6=>?_)
      ·simp at hc6
      ·refine wskip ?_
       show AWp _ _ _ _ _
       refine wreg fun K hK=>?_
       simp [C.laws_FnArcs,wrap_succ (show x2 < 4611686018427387904 by omega)]
       refine hK _ ?_;clear hK K
       simp [C.laws_FnArcs]
       exact hR2 (x2+1) hj (by omega)
     clear hK
     simp [C.laws_FnArcs,sO,hjf,hj,hfl,fO_0 hjf,fO_1 hjf,hfj,show (x2:Int) < now.length by omega]
     repeat' first
      | (refine wcall1 (hlc) ?_ (by simp) ?_;(focus (simp [hfj];done));simp [C.laws_FnArcs,hfj])
      | (refine cast (congrArg K ?_) hJ;simp [sO,hfl];done)
      | refine And.intro ?_ ?_
    ·skip
     refine wexit ?_
     show AWp _ _ _ _ _
     refine wseq ?_
     refine wreg fun K hK=>?_
     simp [C.laws_FnArcs,sO,hfl]
     refine hK _ ?_;clear hK K
     show AWp _ _ _ _ _
     refine wret ?_
     simp [C.laws_FnArcs]
end Go.Proofs.Ytncfmemhjahpeaa.Ab
namespace Go.Proofs.Ytncfmemhjahpeaa.Ab
open Go Go.ChangeShapes Go.WideShapes Go.ChangeAt Go.RowKit
set_option maxRecDepth 100000
section
variable {H:Type} {enc:TypeId×Value->H} {W:World}
theorem rows_byts (l:List Int):rows (fun n=>[D.v (.int .u8 n)]) l=byts l:=by
 induction l with
 | nil=>rfl
 | cons x l ih=>simp [rows,ih,byts]
def CodeB (l:List Int):Prop:=(∀ x∈l,0<=x/\x<=255)/\l.length*1<=140737488351232
theorem opCode:Opens enc Try.prog W 22 1 (List Int) (fun l=>[.sh 1 l.length (byts l)]) CodeB:=
 (Opens.slice (Opens.byte Try.underlying5 (by kernel_rfl)) (by omega) Try.underlying22 (by kernel_rfl) (by kernel_rfl)).to id (fun l=>by simp [rows_byts]) (fun _=>rfl) (fun _ h=>h)
theorem argCode:Arg enc Try.prog W 22 (List Int) (fun l=>.d (.sh 1 l.length (byts l))) CodeB:=Arg.one opCode (by kernel_rfl) (of_decide_eq_true (by kernel_rfl)) (by kernel_rfl)
end
end Go.Proofs.Ytncfmemhjahpeaa.Ab
namespace Go.Proofs.Ytncfmemhjahpeaa.Ab
open Go
theorem lawAr (xs:List Int) (h:CodeB xs):ACalls Try.prog F.laws_FnArcs [.d (.sh 1 xs.length (byts xs))] [] true (fun outs res=>outs=[]/\res=[.one (D.bool true)]):=laws_FnArcs_c xs h.1
end Go.Proofs.Ytncfmemhjahpeaa.Ab
