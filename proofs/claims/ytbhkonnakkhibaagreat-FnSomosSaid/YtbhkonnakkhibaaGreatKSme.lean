/- Division of the program's sums. Division: the law over both sides. Seeds that are right; what mutation of a seed is; the program's side. The exchange at a seed and mutation of a seed, by the program. Mutation of a seed along a list, by the program. Division finds the factor of a product again, over any keys. Laurent sums: what was multiplied is found again by division; what is divided is multiplied again. Sums as linear maps: what a function on keys makes of a sum. Values of Laurent sums modulo a prime: they go with sums and products. Drawing: the cursor, numbers, exponents, sums. Drawing sums: what is drawn is right and small. Three drawn sums; what the laws compare. What was multiplied is found again by division: the law. Drawn sums are a ring; values go with sums and products. A seed that is mutated twice at one place. Sequences of rank two: both sides make the same. Sums that are computed: what is checked of them; their values at ones. Sequences of two variables are made by mutations in turn. Sequences of Somos in variables: both sides make the same. Principal matrices along steps; what the polynomials are. Sequences of Somos: what is computed of them. Sizes, pieces and factors of a matrix, by the reference. The reference's factors of a matrix. Matrices that are right, mutation of a matrix, by the reference. Mutation of seeds, by the reference. Mutation of a seed and along a list, by the reference. Seeds as arguments of laws: their sizes, copies. Seeds of laws: how great they are. Mutation of a seed along a list: the program's is the reference's, fresh at each call. The first seed of any matrix; what is the same; whether a session is one. What the law of Somos' sequences calls. A matrix under other names, by the program. Sequences of two variables are made by mutations in turn, and come back: the law. Values of sums: the program's, and the reference's where there is none. Values of sums: the program's, and the reference's where there is none. Sequences of Somos: the law. A code of bytes as an argument, read as a tree. Sequences of Somos: the law, with its argument. No condition. -/
import Derived.Test.YtbhkonnakkhibaaGreatKSmd
import Derived.Test.YtbhkonnakkhibaaGreatKSmc
set_option linter.unusedVariables false
set_option linter.unusedSimpArgs false
namespace Go.Proofs.YtbhkonnakkhibaaGreat.Ab
open Go
set_option maxRecDepth 10000
set_option maxHeartbeats 2000000
attribute [local simp] mapKV flatInt tileB
structure LJ (n:Nat) (es l:List (List Int×Int)) (B:Nat):Prop where
 map:MapR n es l
 len:∀ x∈l,x.1.length=n
 abs:absE l<=B
theorem LJ.add {n:Nat} {es l:List (List Int×Int)} {B:Nat} (h:LJ n es l B) {e:List Int} (he:e.length=n) {c:Int} {X:Nat} (hc:c.natAbs<=X):LJ n (madd es (pad e) c) ((e,c) :: l) (B+X):=by
 refine ⟨h.map.add he c,fun x hx=>?_,?_⟩
 ·rcases List.mem_cons.1 hx with rfl | hx
  ·exact he
  ·exact h.len x hx
 ·have:=h.abs
  simp only [absE,List.map_cons,List.sum_cons] at *
  omega
theorem LJ.val {n:Nat} {es l:List (List Int×Int)} {B:Nat} (h:LJ n es l B) {e:List Int} (he:e.length=n) {c:Int} {X:Nat} (hc:c.natAbs<=X) (hB:B+X<=4000000000000000000):-9223372036854775808<=c+(mget (pad e) es).getD 0/\c+(mget (pad e) es).getD 0 < 9223372036854775808:=by
 have h1:=h.map.val e he
 have h2:=co_abs e l
 have h3:=h.abs
 rw [h1]
 omega
theorem LJ.mono {n:Nat} {es l:List (List Int×Int)} {B C:Nat} (h:LJ n es l B) (hB:B<=C):LJ n es l C:=⟨h.map,h.len,Nat.le_trans h.abs hB⟩
theorem divF_some {f g:Lau} {n:Nat} (hf:Right f) (hg:Right g) (hn:f.v=n) (hgn:g.v=n) (hne:g.ts≠[]):divF f g=endF n (divL chkI g 600 (f.ts.map pr)):=by
 unfold divF
 rw [if_pos ⟨⟨hf,hg,by omega⟩,hne⟩,hn]
theorem impl_DivideLaurents_l1 (f g:Lau) (n:Nat) (hn:f.v=n) (hv:n<=8) (hf:Right f) (hfl:f.ts.length<=600) (Q0:AEx->St->Prop) (hX0:∀ es l,LJ n es l 600000000->l.Perm (f.ts.map pr)->Q0 (.exit 0) ⟨ofL [(2,.pt (2,0) [] 0),(3,.pt (3,0) [] 0),(4,.pt (4,0) [] 0),(6,.pt (6,0) [] 0),(34,.d (.sh 2 f.ts.length (rows tS f.ts))),(35,.int f.ts.length),(36,.int f.ts.length),(37,.bool false)],ofRO [((2,0),some (.bx (fS f))),((3,0),some (.bx (fS g))),((4,0),some (.bx [D.int 0,.v (.slice none 0 0)])),((6,0),some (.bx [D.int n,.mp es]))]⟩):AWp C.impl_DivideLaurents (codeAt Tryz.f118 [1,1,1,0,1,0]) 0 Q0 ⟨ofL [(2,.pt (2,0) [] 0),(3,.pt (3,0) [] 0),(4,.pt (4,0) [] 0),(6,.pt (6,0) [] 0),(34,.d (.sh 2 f.ts.length (rows tS f.ts))),(35,.int f.ts.length),(36,.int 0)],ofRO [((2,0),some (.bx (fS f))),((3,0),some (.bx (fS g))),((4,0),some (.bx [D.int 0,.v (.slice none 0 0)])),((6,0),some (.bx [D.int n,.mp []]))]⟩:=by
 simp only [codeAt,Tryz.f118,walkCode]
 refine wloop (fun x:Nat×List (List Int×Int)×List (List Int×Int)=>⟨ofL [(2,.pt (2,0) [] 0),(3,.pt (3,0) [] 0),(4,.pt (4,0) [] 0),(6,.pt (6,0) [] 0),(34,.d (.sh 2 f.ts.length (rows tS f.ts))),(35,.int f.ts.length),(36,.int x.1)],ofRO [((2,0),some (.bx (fS f))),((3,0),some (.bx (fS g))),((4,0),some (.bx [D.int 0,.v (.slice none 0 0)])),((6,0),some (.bx [D.int n,.mp x.2.1]))]⟩) (fun x=>x.1<=f.ts.length/\LJ n x.2.1 x.2.2 (x.1*1000000)/\x.2.2.Perm ((f.ts.map pr).take x.1)) (fun x=>f.ts.length - x.1) (0,[],[]) (by simp [C.impl_DivideLaurents,fS,hn]) ⟨by simp,⟨MapR.nil n,by simp,by simp [absE]⟩,by simp⟩ ?_
 intro x1 hx1 R1 hR1
 obtain ⟨i,es,l⟩:=x1
 obtain ⟨hi,hLJ,hP⟩:=hx1
 dsimp only at hi hLJ hP ⊢
 refine wseq ?_
 refine wreg fun K hK=>?_
 simp [C.impl_DivideLaurents,fS]
 refine hK _ ?_;clear hK K
 show AWp _ _ _ _ _
 refine wseq ?_
 refine wcond _ rfl (fun hc2=>?_) (fun hc2=>?_)
 ·have hif:i < f.ts.length:=by have:=d_t hc2;omega
  have hT:=right_dig hf hn _ (List.getElem_mem hif)
  refine wskip ?_
  show AWp _ _ _ _ _
  refine wseq ?_
  refine wblock ?_
  refine wseq ?_
  refine wreg fun K hK=>?_
  simp [C.impl_DivideLaurents,fS,hif,tS_0 hif,tS_1 hif]
  refine hK _ ?_;clear hK K
  show AWp _ _ _ _ _
  obtain ⟨a0,a1,a2,a3,a4,a5,a6,a7,hpa⟩:=eight (pad_length (e:=f.ts[i].e) (by omega))
  have hval:=hLJ.val hT.1 (c:=f.ts[i].c) (X:=1000000) (by omega) (by omega)
  rw [hpa] at hval
  refine wdrawI [(true,0),(true,1),(true,2),(true,4),(true,5),(false,3),(false,6)] ⟨by kernel_rfl,by kernel_rfl⟩ ([0,1,2,4,5,3] ++ ([6] ++ ([]))) rfl fun K hK=>?_
  refine opsI_seg fun L hL=>?_
  simp [C.impl_DivideLaurents,fS,tS]
  refine wcall1 (impl_keyOf_calls f.ts[i].e (by omega) a0 a1 a2 a3 a4 a5 a6 a7 hpa) (by simp) (by simp) ?_
  simp [C.impl_DivideLaurents,fS,tS]
  refine hL _ ?_;clear hL L
  refine opsI_seg fun L hL=>?_
  simp [C.impl_DivideLaurents,fS,tS]
  refine wcall1 (impl_building_add_calls n f.ts[i].c es a0 a1 a2 a3 a4 a5 a6 a7 (hLJ.map.len8 hv) hval) (by simp) (by simp) ?_
  simp [C.impl_DivideLaurents,fS,tS]
  refine hL _ ?_;clear hL L
  refine opsI_end fun L hL=>?_
  simp only [AOpsI]
  refine hL _ ?_;clear hL L
  simp [C.impl_DivideLaurents,fS,tS]
  rw [← hpa]
  refine hK _ ?_;clear hK K
  show AWp _ _ _ _ _
  refine wreg fun K hK=>?_
  simp [C.impl_DivideLaurents,fS,wrap_succ (show i < 4611686018427387904 by omega)]
  refine hK _ ?_;clear hK K
  simp [C.impl_DivideLaurents,fS]
  refine cast (congrArg R1 ?_) (hR1 (i+1,madd es (pad f.ts[i].e) f.ts[i].c,(f.ts[i].e,f.ts[i].c) :: l) ⟨hif,?_,?_⟩ (by dsimp only;omega))
  ·simp [fS,hn]
  ·have:=hLJ.add hT.1 (c:=f.ts[i].c) (X:=1000000) (by omega)
   dsimp only
   rwa [Nat.add_mul,Nat.one_mul]
  ·dsimp only
   rw [List.take_succ_eq_append_getElem (by simpa using hif)]
   refine (List.Perm.cons _ hP).trans ?_
   simp only [List.getElem_map,pr]
   exact (List.perm_append_singleton _ _).symm
 ·have hif:i=f.ts.length:=by have:=d_f hc2;omega
  have hall:l.Perm (f.ts.map pr):=by
   rw [List.take_of_length_le (by simp;omega)] at hP
   exact hP
  refine wexit ?_
  refine cast (congrArg (Q0 (.exit 0)) ?_) (hX0 es l (hLJ.mono (by rw [hif];omega)) hall)
  simp [fS,hn,hif]
theorem impl_DivideLaurents_r21 (f g:Lau) (n:Nat) (hn:f.v=n) (es eo P rest:List (List Int×Int)) (k0 k1 k2 k3 k4 k5 k6 k7 t0 t1 t2 t3 t4 t5 t6 t7 xc:Int) (i:Nat) (i0:Nat) (Q0:AEx->St->Prop) (hJ0:Q0 .normal ⟨ofL [(2,.pt (2,0) [] 0),(3,.pt (3,0) [] 0),(4,.pt (4,0) [] 0),(6,.pt (6,0) [] 0),(9,.pt (9,0) [] 0),(10,.pt (10,0) [] 0),(11,.pt (11,0) [] 0),(12,.bool (decide (P=[]))),(13,.pt (13,0) [] 0),(65,.it (65,0) (6,0) [1] (rest.eraseIdx i) (some ([k0,k1,k2,k3,k4,k5,k6,k7],xc))),(76,.bool (decide (P=[]\/lexlt [t0,t1,t2,t3,t4,t5,t6,t7] [k0,k1,k2,k3,k4,k5,k6,k7]=true)))],ofRO [((2,0),some (.bx (fS f))),((3,0),some (.bx (fS g))),((4,0),some (.bx [D.int 0,.v (.slice none 0 0)])),((6,0),some (.bx [D.int n,.mp es])),((9,0),some (.bx [D.int n,.mp eo])),((10,0),some (.bx [shI (leadE g),D.int (leadC g)])),((11,0),some (.bx [D.int t0,D.int t1,D.int t2,D.int t3,D.int t4,D.int t5,D.int t6,D.int t7])),((13,0),some (.bx [D.int k0,D.int k1,D.int k2,D.int k3,D.int k4,D.int k5,D.int k6,D.int k7])),((65,0),some .itr)]⟩):AWp C.impl_DivideLaurents (codeAt Tryz.f118 [1,1,1,1,1,1,0,0,0,1,0,1,1,0,1,0,0,1,1,0,1,0]) i0 Q0 ⟨ofL [(2,.pt (2,0) [] 0),(3,.pt (3,0) [] 0),(4,.pt (4,0) [] 0),(6,.pt (6,0) [] 0),(9,.pt (9,0) [] 0),(10,.pt (10,0) [] 0),(11,.pt (11,0) [] 0),(12,.bool (decide (P=[]))),(13,.pt (13,0) [] 0),(65,.it (65,0) (6,0) [1] (rest.eraseIdx i) (some ([k0,k1,k2,k3,k4,k5,k6,k7],xc)))],ofRO [((2,0),some (.bx (fS f))),((3,0),some (.bx (fS g))),((4,0),some (.bx [D.int 0,.v (.slice none 0 0)])),((6,0),some (.bx [D.int n,.mp es])),((9,0),some (.bx [D.int n,.mp eo])),((10,0),some (.bx [shI (leadE g),D.int (leadC g)])),((11,0),some (.bx [D.int t0,D.int t1,D.int t2,D.int t3,D.int t4,D.int t5,D.int t6,D.int t7])),((13,0),some (.bx [D.int k0,D.int k1,D.int k2,D.int k3,D.int k4,D.int k5,D.int k6,D.int k7])),((65,0),some .itr)]⟩:=by
 simp only [codeAt,Tryz.f118,walkCode]
 refine wdrawI [(true,0),(true,1),(true,2),(true,3),(false,4),(true,5),(true,6)] ⟨by kernel_rfl,by kernel_rfl⟩ ([0,1,2,3,4] ++ ([5,6])) rfl fun K hK=>?_
 have hJ:K ⟨ofL [(2,.pt (2,0) [] 0),(3,.pt (3,0) [] 0),(4,.pt (4,0) [] 0),(6,.pt (6,0) [] 0),(9,.pt (9,0) [] 0),(10,.pt (10,0) [] 0),(11,.pt (11,0) [] 0),(12,.bool (decide (P=[]))),(13,.pt (13,0) [] 0),(65,.it (65,0) (6,0) [1] (rest.eraseIdx i) (some ([k0,k1,k2,k3,k4,k5,k6,k7],xc))),(76,.bool (decide (P=[]\/lexlt [t0,t1,t2,t3,t4,t5,t6,t7] [k0,k1,k2,k3,k4,k5,k6,k7]=true)))],ofRO [((2,0),some (.bx (fS f))),((3,0),some (.bx (fS g))),((4,0),some (.bx [D.int 0,.v (.slice none 0 0)])),((6,0),some (.bx [D.int n,.mp es])),((9,0),some (.bx [D.int n,.mp eo])),((10,0),some (.bx [shI (leadE g),D.int (leadC g)])),((11,0),some (.bx [D.int t0,D.int t1,D.int t2,D.int t3,D.int t4,D.int t5,D.int t6,D.int t7])),((13,0),some (.bx [D.int k0,D.int k1,D.int k2,D.int k3,D.int k4,D.int k5,D.int k6,D.int k7])),((65,0),some .itr)]⟩:=by
  refine hK _ ?_;clear hK K
  exact hJ0
 clear hK
 by_cases hp:P=[]
 ·refine opsI_seg fun L hL=>?_
  simp [C.impl_DivideLaurents,fS,ints,sh8,hp]
  refine hL _ ?_;clear hL L
  refine opsI_end fun L hL=>?_
  simp [C.impl_DivideLaurents,fS,ints,sh8,hp]
  refine hL _ ?_;clear hL L
  simp [C.impl_DivideLaurents,fS,ints,sh8,hp]
  refine cast (congrArg K ?_) hJ
  simp [cmpL_gt,hn,fS,hp]
 ·refine opsI_seg fun L hL=>?_
  simp [C.impl_DivideLaurents,fS,ints,sh8,hp]
  refine wcall1 (slices_Compare_int_int_calls [k0,k1,k2,k3,k4,k5,k6,k7] [t0,t1,t2,t3,t4,t5,t6,t7] (by simp)) (by simp [fS,ints,sh8]) (by simp) ?_
  simp [C.impl_DivideLaurents,fS,ints,sh8,hp]
  refine hL _ ?_;clear hL L
  refine opsI_end fun L hL=>?_
  simp [C.impl_DivideLaurents,fS,ints,sh8,hp]
  refine hL _ ?_;clear hL L
  simp [C.impl_DivideLaurents,fS,ints,sh8,hp]
  refine cast (congrArg K ?_) hJ
  simp [cmpL_gt,hn,fS,hp]
theorem impl_DivideLaurents_l3 (f g:Lau) (n:Nat) (hn:f.v=n) (es eo:List (List Int×Int)) (hm8:mapLen 8 es) (Q0:AEx->St->Prop) (hX0:∀ P top cur,P.Perm es->TopJ P top->Q0 (.exit 4) ⟨ofL [(2,.pt (2,0) [] 0),(3,.pt (3,0) [] 0),(4,.pt (4,0) [] 0),(6,.pt (6,0) [] 0),(9,.pt (9,0) [] 0),(10,.pt (10,0) [] 0),(11,.pt (11,0) [] 0),(12,.bool (decide (P=[]))),(65,.it (65,0) (6,0) [1] [] cur),(67,.bool false)],ofRO [((2,0),some (.bx (fS f))),((3,0),some (.bx (fS g))),((4,0),some (.bx [D.int 0,.v (.slice none 0 0)])),((6,0),some (.bx [D.int n,.mp es])),((9,0),some (.bx [D.int n,.mp eo])),((10,0),some (.bx [shI (leadE g),D.int (leadC g)])),((11,0),some (.bx (ints top))),((65,0),some .itr)]⟩):AWp C.impl_DivideLaurents (codeAt Tryz.f118 [1,1,1,1,1,1,0,0,0,1,0,1,1,0,1,0]) 4 Q0 ⟨ofL [(2,.pt (2,0) [] 0),(3,.pt (3,0) [] 0),(4,.pt (4,0) [] 0),(6,.pt (6,0) [] 0),(9,.pt (9,0) [] 0),(10,.pt (10,0) [] 0),(11,.pt (11,0) [] 0),(12,.bool (decide (([]:List (List Int×Int))=[]))),(65,.it (65,0) (6,0) [1] es none)],ofRO [((2,0),some (.bx (fS f))),((3,0),some (.bx (fS g))),((4,0),some (.bx [D.int 0,.v (.slice none 0 0)])),((6,0),some (.bx [D.int n,.mp es])),((9,0),some (.bx [D.int n,.mp eo])),((10,0),some (.bx [shI (leadE g),D.int (leadC g)])),((11,0),some (.bx (ints [0,0,0,0,0,0,0,0]))),((65,0),some .itr)]⟩:=by
 simp only [codeAt,Tryz.f118,walkCode]
 refine wloop (fun x:List (List Int×Int)×List Int×List (List Int×Int)×Option (List Int×Int)=>⟨ofL [(2,.pt (2,0) [] 0),(3,.pt (3,0) [] 0),(4,.pt (4,0) [] 0),(6,.pt (6,0) [] 0),(9,.pt (9,0) [] 0),(10,.pt (10,0) [] 0),(11,.pt (11,0) [] 0),(12,.bool (decide (x.1=[]))),(65,.it (65,0) (6,0) [1] x.2.2.1 x.2.2.2)],ofRO [((2,0),some (.bx (fS f))),((3,0),some (.bx (fS g))),((4,0),some (.bx [D.int 0,.v (.slice none 0 0)])),((6,0),some (.bx [D.int n,.mp es])),((9,0),some (.bx [D.int n,.mp eo])),((10,0),some (.bx [shI (leadE g),D.int (leadC g)])),((11,0),some (.bx (ints x.2.1))),((65,0),some .itr)]⟩) (fun x=>(x.1 ++ x.2.2.1).Perm es/\TopJ x.1 x.2.1) (fun x=>x.2.2.1.length) ([],[0,0,0,0,0,0,0,0],es,none) (by simp [C.impl_DivideLaurents,fS,hn,ints]) ⟨by simp,⟨rfl,by simp,by simp⟩⟩ ?_
 intro x3 hx3 R3 hR3
 obtain ⟨P,top,rest,cur⟩:=x3
 obtain ⟨hq,hT⟩:=hx3
 dsimp only at hq hT ⊢
 refine wseq ?_
 refine wreg fun K hK=>?_
 simp [C.impl_DivideLaurents,fS]
 refine ⟨fun hrest=>?_,fun i xk xc hxi=>?_⟩
 ·refine hK _ ?_;clear hK K
  show AWp _ _ _ _ _
  refine wseq ?_
  refine wcond _ rfl (fun hc4=>?_) (fun hc4=>?_)
  ·simp at hc4
  ·subst hrest
   have hqe:P.Perm es:=by simpa using hq
   refine wexit ?_
   refine cast (congrArg (Q0 (.exit 4)) ?_) (hX0 P top cur hqe hT)
   simp [fS,hn]
 ·refine hK _ ?_;clear hK K
  show AWp _ _ _ _ _
  refine wseq ?_
  refine wcond _ rfl (fun hc6=>?_) (fun hc6=>?_)
  ·have hxm:(xk,xc)∈rest:=List.mem_of_getElem? hxi
   have hxl:=hm8 _ (hq.subset (List.mem_append_right P hxm))
   dsimp only at hxl
   obtain ⟨k0,k1,k2,k3,k4,k5,k6,k7,rfl⟩:=eight hxl
   obtain ⟨t0,t1,t2,t3,t4,t5,t6,t7,rfl⟩:=eight hT.len
   have hil:i < rest.length:=by
    rcases Nat.lt_or_ge i rest.length with h | h
    ·exact h
    ·rw [List.getElem?_eq_none h] at hxi;simp at hxi
   have hper:(P ++ [([k0,k1,k2,k3,k4,k5,k6,k7],xc)] ++ rest.eraseIdx i).Perm es:=by
    have hget:rest[i]=([k0,k1,k2,k3,k4,k5,k6,k7],xc):=by
     rw [List.getElem?_eq_getElem hil] at hxi
     injection hxi
    have h9:=erase_perm rest i hil
    rw [hget] at h9
    refine List.Perm.trans ?_ hq
    rw [List.append_assoc]
    exact List.Perm.append_left _ h9
   refine wskip ?_
   show AWp _ _ _ _ _
   refine wblock ?_
   refine wseq ?_
   refine wreg fun K hK=>?_
   simp [C.impl_DivideLaurents,fS,ints]
   refine hK _ ?_;clear hK K
   show AWp _ _ _ _ _
   refine wseq ?_
   refine wcode (c':=codeAt Tryz.f118 [1,1,1,1,1,1,0,0,0,1,0,1,1,0,1,0,0,1,1,0,1,0]) (by kernel_rfl) ?_
   refine impl_DivideLaurents_r21 f g n hn es eo P rest k0 k1 k2 k3 k4 k5 k6 k7 t0 t1 t2 t3 t4 t5 t6 t7 xc i _ _ ?_
   show AWp _ _ _ _ _
   refine wcond _ rfl (fun hc7=>?_) (fun hc7=>?_)
   ·have hcm:=d_t hc7
    refine wreg fun K hK=>?_
    simp [C.impl_DivideLaurents,fS]
    refine hK _ ?_;clear hK K
    simp [C.impl_DivideLaurents,fS]
    refine cast (congrArg R3 ?_) (hR3 (P ++ [([k0,k1,k2,k3,k4,k5,k6,k7],xc)],[k0,k1,k2,k3,k4,k5,k6,k7],rest.eraseIdx i,some ([k0,k1,k2,k3,k4,k5,k6,k7],xc)) ⟨hper,hT.next rfl hcm⟩ (by dsimp only;rw [List.length_eraseIdx_of_lt hil];omega))
    simp [fS,hn,ints]
   ·have hcm:=d_f hc7
    have hPn:P≠[]:=fun e=>hcm (.inl e)
    have hlt:lexlt [t0,t1,t2,t3,t4,t5,t6,t7] [k0,k1,k2,k3,k4,k5,k6,k7]=false:=by
     cases hh:lexlt [t0,t1,t2,t3,t4,t5,t6,t7] [k0,k1,k2,k3,k4,k5,k6,k7] with
     | false=>rfl
     | true=>exact absurd (.inr hh) hcm
    refine wskip ?_
    simp [C.impl_DivideLaurents,fS]
    refine cast (congrArg R3 ?_) (hR3 (P ++ [([k0,k1,k2,k3,k4,k5,k6,k7],xc)],[t0,t1,t2,t3,t4,t5,t6,t7],rest.eraseIdx i,some ([k0,k1,k2,k3,k4,k5,k6,k7],xc)) ⟨hper,hT.keep hPn hlt⟩ (by dsimp only;rw [List.length_eraseIdx_of_lt hil];omega))
    simp [fS,hn,ints,hPn]
  ·simp at hc6
theorem impl_DivideLaurents_r24 (f g:Lau) (n:Nat) (es eo:List (List Int×Int)) (a0 a1 a2 a3 a4 a5 a6 a7 b0 b1 b2 b3 b4 b5 b6 b7 c:Int) (hgl8:(leadE g).length<=8) (hpb:pad (leadE g)=[b0,b1,b2,b3,b4,b5,b6,b7]) (hba:∀ x∈[a0,a1,a2,a3,a4,a5,a6,a7],-1000000<=x/\x<=1000000) (hbb:∀ x∈[b0,b1,b2,b3,b4,b5,b6,b7],-1000000<=x/\x<=1000000) (i0:Nat) (Q0:AEx->St->Prop) (hJ0:Q0 .normal ⟨ofL [(2,.pt (2,0) [] 0),(3,.pt (3,0) [] 0),(4,.pt (4,0) [] 0),(6,.pt (6,0) [] 0),(9,.pt (9,0) [] 0),(10,.pt (10,0) [] 0),(14,.int c),(15,.pt (15,0) [] 0)],ofRO [((2,0),some (.bx (fS f))),((3,0),some (.bx (fS g))),((4,0),some (.bx [D.int 0,.v (.slice none 0 0)])),((6,0),some (.bx [D.int n,.mp es])),((9,0),some (.bx [D.int n,.mp eo])),((10,0),some (.bx [shI (leadE g),D.int (leadC g)])),((15,0),some (.bx [D.int (a0 + -1*b0),D.int (a1 + -1*b1),D.int (a2 + -1*b2),D.int (a3 + -1*b3),D.int (a4 + -1*b4),D.int (a5 + -1*b5),D.int (a6 + -1*b6),D.int (a7 + -1*b7)]))]⟩):AWp C.impl_DivideLaurents (codeAt Tryz.f118 [1,1,1,1,1,1,0,0,0,1,0,1,1,1,1,0]) i0 Q0 ⟨ofL [(2,.pt (2,0) [] 0),(3,.pt (3,0) [] 0),(4,.pt (4,0) [] 0),(6,.pt (6,0) [] 0),(9,.pt (9,0) [] 0),(10,.pt (10,0) [] 0),(11,.pt (11,0) [] 0),(14,.int c)],ofRO [((2,0),some (.bx (fS f))),((3,0),some (.bx (fS g))),((4,0),some (.bx [D.int 0,.v (.slice none 0 0)])),((6,0),some (.bx [D.int n,.mp es])),((9,0),some (.bx [D.int n,.mp eo])),((10,0),some (.bx [shI (leadE g),D.int (leadC g)])),((11,0),some (.bx (ints [a0,a1,a2,a3,a4,a5,a6,a7])))]⟩:=by
 simp only [codeAt,Tryz.f118,walkCode]
 refine wdraw (.take 0 (.take 1 (.take 2 (.all [(3,.all [(4,.all [(5,.all [(6,.done)])]),(5,.all [(4,.all [(6,.done)])])]),(5,.all [(3,.all [(4,.all [(6,.done)])])])])))) ⟨by kernel_rfl,by kernel_rfl⟩ fun K hK=>?_
 have hJ:K ⟨ofL [(2,.pt (2,0) [] 0),(3,.pt (3,0) [] 0),(4,.pt (4,0) [] 0),(6,.pt (6,0) [] 0),(9,.pt (9,0) [] 0),(10,.pt (10,0) [] 0),(14,.int c),(15,.pt (15,0) [] 0)],ofRO [((2,0),some (.bx (fS f))),((3,0),some (.bx (fS g))),((4,0),some (.bx [D.int 0,.v (.slice none 0 0)])),((6,0),some (.bx [D.int n,.mp es])),((9,0),some (.bx [D.int n,.mp eo])),((10,0),some (.bx [shI (leadE g),D.int (leadC g)])),((15,0),some (.bx [D.int (a0 + -1*b0),D.int (a1 + -1*b1),D.int (a2 + -1*b2),D.int (a3 + -1*b3),D.int (a4 + -1*b4),D.int (a5 + -1*b5),D.int (a6 + -1*b6),D.int (a7 + -1*b7)]))]⟩:=by
  refine hK _ ?_;clear hK K
  exact hJ0
 clear hK
 have hk1:=impl_keyOf_calls (leadE g) (by omega) b0 b1 b2 b3 b4 b5 b6 b7 hpb
 have hk2:=impl_plusExp_calls (-1) a0 a1 a2 a3 a4 a5 a6 a7 b0 b1 b2 b3 b4 b5 b6 b7 (by omega) hba hbb
 simp [C.impl_DivideLaurents,fS,ints]
 repeat' first
  | (refine wcall1 hk1 (by simp) (by simp) ?_;simp [C.impl_DivideLaurents,fS])
  | (refine wcall1 hk2 (by simp) (by simp) ?_;simp [C.impl_DivideLaurents,fS])
  | (refine cast (congrArg K ?_) hJ;simp [fS];done)
  | refine ⟨?_,?_⟩
theorem impl_DivideLaurents_r26 (f g:Lau) (n:Nat) (hn:f.v=n) (hv:n<=8) (es eo O:List (List Int×Int)) (E:List Int) (e0 e1 e2 e3 e4 e5 e6 e7 c q:Int) (hgc0:leadC g≠0) (hsh:shareL (List.take n [D.v (.int .i64 e0),D.v (.int .i64 e1),D.v (.int .i64 e2),D.v (.int .i64 e3),D.v (.int .i64 e4),D.v (.int .i64 e5),D.v (.int .i64 e6),D.v (.int .i64 e7)])=ints E) (hEl:E.length=n) (heol:eo.length=O.length) (i0:Nat) (Q0:AEx->St->Prop) (hJ0:Q0 .normal ⟨ofL [(2,.pt (2,0) [] 0),(3,.pt (3,0) [] 0),(4,.pt (4,0) [] 0),(6,.pt (6,0) [] 0),(9,.pt (9,0) [] 0),(10,.pt (10,0) [] 0),(15,.pt (15,0) [] 0),(16,.int q),(119,.bool (!decide (((c.tmod (leadC g)=0/\okE E n=true)/\(q≠0/\-1000000<=q/\q<=1000000))/\¬ O.length=600)))],ofRO [((2,0),some (.bx (fS f))),((3,0),some (.bx (fS g))),((4,0),some (.bx [D.int 0,.v (.slice none 0 0)])),((6,0),some (.bx [D.int n,.mp es])),((9,0),some (.bx [D.int n,.mp eo])),((10,0),some (.bx [shI (leadE g),D.int (leadC g)])),((15,0),some (.bx [D.int e0,D.int e1,D.int e2,D.int e3,D.int e4,D.int e5,D.int e6,D.int e7]))]⟩):AWp C.impl_DivideLaurents (codeAt Tryz.f118 [1,1,1,1,1,1,0,0,0,1,0,1,1,1,1,1,1,0,0]) i0 Q0 ⟨ofL [(2,.pt (2,0) [] 0),(3,.pt (3,0) [] 0),(4,.pt (4,0) [] 0),(6,.pt (6,0) [] 0),(9,.pt (9,0) [] 0),(10,.pt (10,0) [] 0),(14,.int c),(15,.pt (15,0) [] 0),(16,.int q)],ofRO [((2,0),some (.bx (fS f))),((3,0),some (.bx (fS g))),((4,0),some (.bx [D.int 0,.v (.slice none 0 0)])),((6,0),some (.bx [D.int n,.mp es])),((9,0),some (.bx [D.int n,.mp eo])),((10,0),some (.bx [shI (leadE g),D.int (leadC g)])),((15,0),some (.bx [D.int e0,D.int e1,D.int e2,D.int e3,D.int e4,D.int e5,D.int e6,D.int e7]))]⟩:=by
 simp only [codeAt,Tryz.f118,walkCode]
 refine wdrawI [(true,0),(true,1),(true,2),(true,3),(true,4),(true,5),(true,6),(true,7),(true,8),(true,9),(true,10),(false,11),(true,12),(true,13),(true,14),(true,15),(false,16),(true,17),(true,18),(true,19),(true,20),(true,21),(true,22),(true,23),(true,24),(true,25),(true,26)] ⟨by kernel_rfl,by kernel_rfl⟩ ([0,1,2,3,4,5,6,7,8,9,10,11] ++ ([12,13,14,15,16] ++ ([17,18,19,20,21,22,23,24,25,26]))) rfl fun K hK=>?_
 have hJ:K ⟨ofL [(2,.pt (2,0) [] 0),(3,.pt (3,0) [] 0),(4,.pt (4,0) [] 0),(6,.pt (6,0) [] 0),(9,.pt (9,0) [] 0),(10,.pt (10,0) [] 0),(15,.pt (15,0) [] 0),(16,.int q),(119,.bool (!decide (((c.tmod (leadC g)=0/\okE E n=true)/\(q≠0/\-1000000<=q/\q<=1000000))/\¬ O.length=600)))],ofRO [((2,0),some (.bx (fS f))),((3,0),some (.bx (fS g))),((4,0),some (.bx [D.int 0,.v (.slice none 0 0)])),((6,0),some (.bx [D.int n,.mp es])),((9,0),some (.bx [D.int n,.mp eo])),((10,0),some (.bx [shI (leadE g),D.int (leadC g)])),((15,0),some (.bx [D.int e0,D.int e1,D.int e2,D.int e3,D.int e4,D.int e5,D.int e6,D.int e7]))]⟩:=by
  refine hK _ ?_;clear hK K
  exact hJ0
 clear hK
 by_cases g1:c.tmod (leadC g)=0
 ·by_cases g2:okE E n=true
  ·by_cases g3:(q≠0/\-1000000<=q/\q<=1000000)
   ·refine opsI_seg fun L hL=>?_
    simp [C.impl_DivideLaurents,fS,hgc0,hn,show ((n:Int)<=8) by omega,hv,Nat.min_eq_left hv,hsh,hEl,heol,g1,g2,g3]
    refine wcall1 (impl_expOk_calls E n (by omega)) (by simp [fS,hgc0,hn,show ((n:Int)<=8) by omega,hv,Nat.min_eq_left hv,hsh,hEl,heol]) (by simp) ?_
    simp [C.impl_DivideLaurents,fS,hgc0,hn,show ((n:Int)<=8) by omega,hv,Nat.min_eq_left hv,hsh,hEl,heol,g1,g2,g3]
    refine hL _ ?_;clear hL L
    refine opsI_seg fun L hL=>?_
    simp [C.impl_DivideLaurents,fS,hgc0,hn,show ((n:Int)<=8) by omega,hv,Nat.min_eq_left hv,hsh,hEl,heol,g1,g2,g3]
    refine wcall1 (impl_coefOk_calls q) (by simp) (by simp) ?_
    simp [C.impl_DivideLaurents,fS,hgc0,hn,show ((n:Int)<=8) by omega,hv,Nat.min_eq_left hv,hsh,hEl,heol,g1,g2,g3]
    refine hL _ ?_;clear hL L
    refine opsI_end fun L hL=>?_
    simp [C.impl_DivideLaurents,fS,hgc0,hn,show ((n:Int)<=8) by omega,hv,Nat.min_eq_left hv,hsh,hEl,heol,g1,g2,g3]
    refine hL _ ?_;clear hL L
    simp [C.impl_DivideLaurents,fS,hgc0,hn,show ((n:Int)<=8) by omega,hv,Nat.min_eq_left hv,hsh,hEl,heol,g1,g2,g3]
    refine cast (congrArg K ?_) hJ
    simp [ieq600,hn,fS,g1,g2,g3]
   ·refine opsI_seg fun L hL=>?_
    simp [C.impl_DivideLaurents,fS,hgc0,hn,show ((n:Int)<=8) by omega,hv,Nat.min_eq_left hv,hsh,hEl,heol,g1,g2,g3]
    refine wcall1 (impl_expOk_calls E n (by omega)) (by simp [fS,hgc0,hn,show ((n:Int)<=8) by omega,hv,Nat.min_eq_left hv,hsh,hEl,heol]) (by simp) ?_
    simp [C.impl_DivideLaurents,fS,hgc0,hn,show ((n:Int)<=8) by omega,hv,Nat.min_eq_left hv,hsh,hEl,heol,g1,g2,g3]
    refine hL _ ?_;clear hL L
    refine opsI_seg fun L hL=>?_
    simp [C.impl_DivideLaurents,fS,hgc0,hn,show ((n:Int)<=8) by omega,hv,Nat.min_eq_left hv,hsh,hEl,heol,g1,g2,g3]
    refine wcall1 (impl_coefOk_calls q) (by simp) (by simp) ?_
    simp [C.impl_DivideLaurents,fS,hgc0,hn,show ((n:Int)<=8) by omega,hv,Nat.min_eq_left hv,hsh,hEl,heol,g1,g2,g3]
    refine hL _ ?_;clear hL L
    refine opsI_end fun L hL=>?_
    simp [C.impl_DivideLaurents,fS,hgc0,hn,show ((n:Int)<=8) by omega,hv,Nat.min_eq_left hv,hsh,hEl,heol,g1,g2,g3]
    refine hL _ ?_;clear hL L
    simp [C.impl_DivideLaurents,fS,hgc0,hn,show ((n:Int)<=8) by omega,hv,Nat.min_eq_left hv,hsh,hEl,heol,g1,g2,g3]
    refine cast (congrArg K ?_) hJ
    simp [ieq600,hn,fS,g1,g2,g3]
  ·refine opsI_seg fun L hL=>?_
   simp [C.impl_DivideLaurents,fS,hgc0,hn,show ((n:Int)<=8) by omega,hv,Nat.min_eq_left hv,hsh,hEl,heol,g1,g2]
   refine wcall1 (impl_expOk_calls E n (by omega)) (by simp [fS,hgc0,hn,show ((n:Int)<=8) by omega,hv,Nat.min_eq_left hv,hsh,hEl,heol]) (by simp) ?_
   simp [C.impl_DivideLaurents,fS,hgc0,hn,show ((n:Int)<=8) by omega,hv,Nat.min_eq_left hv,hsh,hEl,heol,g1,g2]
   refine hL _ ?_;clear hL L
   refine opsI_seg fun L hL=>?_
   simp [C.impl_DivideLaurents,fS,hgc0,hn,show ((n:Int)<=8) by omega,hv,Nat.min_eq_left hv,hsh,hEl,heol,g1,g2]
   refine hL _ ?_;clear hL L
   refine opsI_end fun L hL=>?_
   simp [C.impl_DivideLaurents,fS,hgc0,hn,show ((n:Int)<=8) by omega,hv,Nat.min_eq_left hv,hsh,hEl,heol,g1,g2]
   refine hL _ ?_;clear hL L
   simp [C.impl_DivideLaurents,fS,hgc0,hn,show ((n:Int)<=8) by omega,hv,Nat.min_eq_left hv,hsh,hEl,heol,g1,g2]
   refine cast (congrArg K ?_) hJ
   simp [ieq600,hn,fS,g1,g2]
 ·refine opsI_seg fun L hL=>?_
  simp [C.impl_DivideLaurents,fS,hgc0,hn,show ((n:Int)<=8) by omega,hv,Nat.min_eq_left hv,hsh,hEl,heol,g1]
  refine hL _ ?_;clear hL L
  refine opsI_seg fun L hL=>?_
  simp [C.impl_DivideLaurents,fS,hgc0,hn,show ((n:Int)<=8) by omega,hv,Nat.min_eq_left hv,hsh,hEl,heol,g1]
  refine hL _ ?_;clear hL L
  refine opsI_end fun L hL=>?_
  simp [C.impl_DivideLaurents,fS,hgc0,hn,show ((n:Int)<=8) by omega,hv,Nat.min_eq_left hv,hsh,hEl,heol,g1]
  refine hL _ ?_;clear hL L
  simp [C.impl_DivideLaurents,fS,hgc0,hn,show ((n:Int)<=8) by omega,hv,Nat.min_eq_left hv,hsh,hEl,heol,g1]
  refine cast (congrArg K ?_) hJ
  simp [ieq600,hn,fS,g1]
theorem impl_DivideLaurents_l4 (f g:Lau) (n:Nat) (hn:f.v=n) (hgn:g.v=n) (hv:n<=8) (hg:Right g) (hgl:g.ts.length<=600) (es l eo2 O:List (List Int×Int)) (hOl:O.length<=600) (hLr:LJ n es l (600000000+O.length*600000000000000)) (E:List Int) (hEl:E.length=n) (e0 e1 e2 e3 e4 e5 e6 e7 q:Int) (hpe:pad E=[e0,e1,e2,e3,e4,e5,e6,e7]) (hbe:∀ x∈[e0,e1,e2,e3,e4,e5,e6,e7],-1000000<=x/\x<=1000000) (g3:q≠0/\-1000000<=q/\q<=1000000) (Q0:AEx->St->Prop) (hX0:∀ es2 l2,LJ n es2 l2 (600000000+O.length*600000000000000+600000000000000)->l2.Perm (l ++ negT E q g.ts)->Q0 (.exit 6) ⟨ofL [(2,.pt (2,0) [] 0),(3,.pt (3,0) [] 0),(4,.pt (4,0) [] 0),(6,.pt (6,0) [] 0),(9,.pt (9,0) [] 0),(10,.pt (10,0) [] 0),(15,.pt (15,0) [] 0),(16,.int q),(126,.d (.sh 2 g.ts.length (rows tS g.ts))),(127,.int g.ts.length),(128,.int g.ts.length),(129,.bool false)],ofRO [((2,0),some (.bx (fS f))),((3,0),some (.bx (fS g))),((4,0),some (.bx [D.int 0,.v (.slice none 0 0)])),((6,0),some (.bx [D.int n,.mp es2])),((9,0),some (.bx [D.int n,.mp eo2])),((10,0),some (.bx [shI (leadE g),D.int (leadC g)])),((15,0),some (.bx [D.int e0,D.int e1,D.int e2,D.int e3,D.int e4,D.int e5,D.int e6,D.int e7]))]⟩):AWp C.impl_DivideLaurents (codeAt Tryz.f118 [1,1,1,1,1,1,0,0,0,1,0,1,1,1,1,1,1,1,1,1,0]) 6 Q0 ⟨ofL [(2,.pt (2,0) [] 0),(3,.pt (3,0) [] 0),(4,.pt (4,0) [] 0),(6,.pt (6,0) [] 0),(9,.pt (9,0) [] 0),(10,.pt (10,0) [] 0),(15,.pt (15,0) [] 0),(16,.int q),(126,.d (.sh 2 g.ts.length (rows tS g.ts))),(127,.int g.ts.length),(128,.int 0)],ofRO [((2,0),some (.bx (fS f))),((3,0),some (.bx (fS g))),((4,0),some (.bx [D.int 0,.v (.slice none 0 0)])),((6,0),some (.bx [D.int n,.mp es])),((9,0),some (.bx [D.int n,.mp eo2])),((10,0),some (.bx [shI (leadE g),D.int (leadC g)])),((15,0),some (.bx [D.int e0,D.int e1,D.int e2,D.int e3,D.int e4,D.int e5,D.int e6,D.int e7]))]⟩:=by
 simp only [codeAt,Tryz.f118,walkCode]
 refine wloop (fun x:Nat×List (List Int×Int)×List (List Int×Int)=>⟨ofL [(2,.pt (2,0) [] 0),(3,.pt (3,0) [] 0),(4,.pt (4,0) [] 0),(6,.pt (6,0) [] 0),(9,.pt (9,0) [] 0),(10,.pt (10,0) [] 0),(15,.pt (15,0) [] 0),(16,.int q),(126,.d (.sh 2 g.ts.length (rows tS g.ts))),(127,.int g.ts.length),(128,.int x.1)],ofRO [((2,0),some (.bx (fS f))),((3,0),some (.bx (fS g))),((4,0),some (.bx [D.int 0,.v (.slice none 0 0)])),((6,0),some (.bx [D.int n,.mp x.2.1])),((9,0),some (.bx [D.int n,.mp eo2])),((10,0),some (.bx [shI (leadE g),D.int (leadC g)])),((15,0),some (.bx [D.int e0,D.int e1,D.int e2,D.int e3,D.int e4,D.int e5,D.int e6,D.int e7]))]⟩) (fun x=>x.1<=g.ts.length/\LJ n x.2.1 x.2.2 (600000000+O.length*600000000000000+x.1*1000000000000)/\x.2.2.Perm (l ++ negT E q (g.ts.take x.1))) (fun x=>g.ts.length - x.1) (0,es,l) (by simp [C.impl_DivideLaurents,fS,hn,hgn,hpe]) ⟨by simp,hLr.mono (by dsimp only;omega),by simp [negT]⟩ ?_
 intro x4 hx4 R4 hR4
 obtain ⟨j,es2,l2⟩:=x4
 obtain ⟨hj,hL2,hP2⟩:=hx4
 dsimp only at hj hL2 hP2 ⊢
 refine wseq ?_
 refine wreg fun K hK=>?_
 simp [C.impl_DivideLaurents,fS]
 refine hK _ ?_;clear hK K
 show AWp _ _ _ _ _
 refine wseq ?_
 refine wcond _ rfl (fun hc9=>?_) (fun hc9=>?_)
 ·have hjg:j < g.ts.length:=by have:=d_t hc9;omega
  have hU:=right_dig hg hgn _ (List.getElem_mem hjg)
  refine wskip ?_
  show AWp _ _ _ _ _
  refine wseq ?_
  refine wblock ?_
  refine wseq ?_
  refine wreg fun K hK=>?_
  simp [C.impl_DivideLaurents,fS,hjg,tS_0 hjg,tS_1 hjg]
  refine hK _ ?_;clear hK K
  show AWp _ _ _ _ _
  obtain ⟨u0,u1,u2,u3,u4,u5,u6,u7,hpu⟩:=eight (pad_length (e:=g.ts[j].e) (by omega))
  have hbu:=pad_bd hU.2.2.1
  rw [hpu] at hbu
  have hadd:[e0+1*u0,e1+1*u1,e2+1*u2,e3+1*u3,e4+1*u4,e5+1*u5,e6+1*u6,e7+1*u7]=pad (addE 1 E g.ts[j].e):=by
   rw [← pad_add (by omega),hpe,hpu]
   simp [addE]
  have hnl:(addE 1 E g.ts[j].e).length=n:=by rw [addE_length _ _ _ (by omega)];exact hEl
  have hcc:=mul_bd (x:=-q) (y:=g.ts[j].c) (by omega) hU.2.2.2
  have hvj:=hL2.val hnl (c:=-q*g.ts[j].c) (X:=1000000000000) (by omega) (by omega)
  rw [← hadd] at hvj
  refine wdrawI [(true,0),(true,1),(true,2),(true,3),(true,6),(true,7),(true,8),(true,9),(true,10),(false,4),(false,5),(false,11)] ⟨by kernel_rfl,by kernel_rfl⟩ ([0,1,2,3,6,7,8,9,10,4] ++ ([5] ++ ([11] ++ ([])))) rfl fun K hK=>?_
  refine opsI_seg fun L hL=>?_
  simp [C.impl_DivideLaurents,fS,tS,wrapOk (x:=-q) (by omega) (by omega),wrapOk (x:=-q*g.ts[j].c) (by omega) (by omega)]
  refine wcall1 (impl_keyOf_calls g.ts[j].e (by omega) u0 u1 u2 u3 u4 u5 u6 u7 hpu) (by simp) (by simp) ?_
  simp [C.impl_DivideLaurents,fS,tS,wrapOk (x:=-q) (by omega) (by omega),wrapOk (x:=-q*g.ts[j].c) (by omega) (by omega)]
  refine hL _ ?_;clear hL L
  refine opsI_seg fun L hL=>?_
  simp [C.impl_DivideLaurents,fS,tS,wrapOk (x:=-q) (by omega) (by omega),wrapOk (x:=-q*g.ts[j].c) (by omega) (by omega)]
  refine wcall1 (impl_plusExp_calls 1 e0 e1 e2 e3 e4 e5 e6 e7 u0 u1 u2 u3 u4 u5 u6 u7 (by omega) hbe hbu) (by simp) (by simp) ?_
  simp [C.impl_DivideLaurents,fS,tS,wrapOk (x:=-q) (by omega) (by omega),wrapOk (x:=-q*g.ts[j].c) (by omega) (by omega)]
  refine hL _ ?_;clear hL L
  refine opsI_seg fun L hL=>?_
  simp [C.impl_DivideLaurents,fS,tS,wrapOk (x:=-q) (by omega) (by omega),wrapOk (x:=-q*g.ts[j].c) (by omega) (by omega)]
  refine wcall1 (impl_building_add_calls n (-q*g.ts[j].c) es2 (e0+1*u0) (e1+1*u1) (e2+1*u2) (e3+1*u3) (e4+1*u4) (e5+1*u5) (e6+1*u6) (e7+1*u7) (hL2.map.len8 hv) hvj) (by simp) (by simp) ?_
  simp [C.impl_DivideLaurents,fS,tS,wrapOk (x:=-q) (by omega) (by omega),wrapOk (x:=-q*g.ts[j].c) (by omega) (by omega)]
  refine hL _ ?_;clear hL L
  refine opsI_end fun L hL=>?_
  simp only [AOpsI]
  refine hL _ ?_;clear hL L
  simp [C.impl_DivideLaurents,fS,tS,wrapOk (x:=-q) (by omega) (by omega),wrapOk (x:=-q*g.ts[j].c) (by omega) (by omega)]
  simp only [Int.one_mul] at hadd
  rw [hadd]
  refine hK _ ?_;clear hK K
  show AWp _ _ _ _ _
  refine wreg fun K hK=>?_
  simp [C.impl_DivideLaurents,fS,wrap_succ (show j < 4611686018427387904 by omega)]
  refine hK _ ?_;clear hK K
  simp [C.impl_DivideLaurents,fS]
  refine cast (congrArg R4 ?_) (hR4 (j+1,madd es2 (pad (addE 1 E g.ts[j].e)) (-q*g.ts[j].c),(addE 1 E g.ts[j].e,-q*g.ts[j].c) :: l2) ⟨hjg,?_,?_⟩ (by dsimp only;omega))
  ·simp [fS,hn,hgn]
  ·have:=hL2.add hnl (c:=-q*g.ts[j].c) (X:=1000000000000) (by omega)
   exact this.mono (by dsimp only;omega)
  ·dsimp only
   rw [negT_step hjg,← List.append_assoc]
   exact (List.Perm.cons _ hP2).trans (List.perm_append_singleton _ _).symm
 ·have hjg:j=g.ts.length:=by have:=d_f hc9;omega
  rw [hjg,List.take_length] at hP2
  refine wexit ?_
  refine cast (congrArg (Q0 (.exit 6)) ?_) (hX0 es2 l2 (hL2.mono (by omega)) hP2)
  simp [fS,hn,hgn,hjg]
theorem impl_DivideLaurents_calls (hDone:DoneOk) (f g:Lau) (hx:f.ts.length < 4611686018427387904) (hxe:∀ t∈f.ts,t.e.length < 4611686018427387904) (hy:g.ts.length < 4611686018427387904) (hye:∀ t∈g.ts,t.e.length < 4611686018427387904):ACalls Tryz.prog F.impl_DivideLaurents [aF f,aF g] [] true (fun outs res=>outs=[]/\WkRs res [.ag (fO (divF f g).1),.one (D.bool (divF f g).2)]):=by
 have hcall:=impl_bothOk_calls f g hx hxe hy hye
 generalize hB:decide (Right f/\Right g/\f.v=g.v)=B at hcall
 refine ACalls.of_body (C:=C.impl_DivideLaurents) (n:=Tryz.f118.ntmps) tabT folT Tryz.func118 rfl (by kernel_rfl) rfl (Nat.le_of_ble_eq_true rfl) (by decide) (by kernel_rfl) (by kernel_rfl) rfl (by simp) (by simp) ?_
 simp only [Tryz.f118]
 refine wseq ?_
 refine wreg fun K hK=>?_
 simp [C.impl_DivideLaurents,fS]
 refine hK _ ?_;clear hK K
 show AWp _ _ _ _ _
 refine wseq ?_
 refine wseq ?_
 refine wregI ([0,1,2] ++ ([3,4,5,6,7,8,9])) rfl fun K hK=>?_
 have hJ:K ⟨ofL [(2,.pt (2,0) [] 0),(3,.pt (3,0) [] 0),(4,.pt (4,0) [] 0),(28,.bool (!(B && !decide (g.ts=[]))))],ofRO [((2,0),some (.bx (fS f))),((3,0),some (.bx (fS g))),((4,0),some (.bx [D.int 0,.v (.slice none 0 0)]))]⟩:=by
  refine hK _ ?_;clear hK K
  show AWp _ _ _ _ _
  refine wcond _ rfl (fun hc1=>?_) (fun hc1=>?_)
  ·have hr:¬ ((Right f/\Right g/\f.v=g.v)/\g.ts≠[]):=by
    rintro ⟨h1,h2⟩
    rw [← hB,decide_eq_true h1] at hc1
    simp [h2] at hc1
   have hm:divF f g=(zeroF,false):=if_neg hr
   refine wseq ?_
   refine wreg fun K hK=>?_
   simp [C.impl_DivideLaurents,fS]
   refine hK _ ?_;clear hK K
   show AWp _ _ _ _ _
   refine wret ?_
   simp [C.impl_DivideLaurents,fS,hm,fO,zeroF,rows]
  ·have hr:(Right f/\Right g/\f.v=g.v)/\g.ts≠[]:=by
    rw [← hB] at hc1
    simpa using hc1
   obtain ⟨⟨hf,hg,hfg⟩,hgne⟩:=hr
   have hv0:=hf.1
   obtain ⟨n,hn⟩:∃ n:Nat,f.v=n:=⟨f.v.toNat,by omega⟩
   have hgn:g.v=n:=by omega
   have hv:n<=8:=by omega
   have hm:=divF_some hf hg hn hgn hgne
   have hfl:=hf.2.1
   have hgl:=hg.2.1
   have he:=right_he hf hn
   have heg:=right_he hg hgn
   have hG0:0 < g.ts.length:=List.length_pos_iff.2 hgne
   obtain ⟨hl1,hl2⟩:=lead_get hG0
   have hgood:=hg.2.2.1 _ (List.getElem_mem hG0)
   have hgle:=heg _ (List.getElem_mem hG0)
   rw [hl1] at hgle
   obtain ⟨hgle1,hgle2⟩:=hgle
   have hgc:leadC g≠0/\-1000000<=leadC g/\leadC g<=1000000:=by rw [← hl2];exact ⟨hgood.2.1,hgood.2.2.1⟩
   obtain ⟨b0,b1,b2,b3,b4,b5,b6,b7,hpb⟩:=eight (pad_length (e:=leadE g) (by omega))
   have hbb:=pad_bd hgle2
   rw [hpb] at hbb
   refine wskip ?_
   show AWp _ _ _ _ _
   refine wseq ?_
   refine wregI ([0,1,2] ++ ([3])) rfl fun K hK=>?_
   refine opsI_seg fun L hL=>?_
   simp [C.impl_DivideLaurents,fS,hn]
   refine wcall1 (impl_newBuilding_calls n) (by simp) (by simp) ?_
   simp [C.impl_DivideLaurents,fS,hn]
   refine hL _ ?_;clear hL L
   refine opsI_end fun L hL=>?_
   simp [C.impl_DivideLaurents,fS,hn]
   refine hL _ ?_;clear hL L
   simp [C.impl_DivideLaurents,fS,hn]
   refine hK _ ?_;clear hK K
   show AWp _ _ _ _ _
   refine wseq ?_
   refine wseq ?_
   refine wreg fun K hK=>?_
   simp [C.impl_DivideLaurents,fS]
   refine hK _ ?_;clear hK K
   show AWp _ _ _ _ _
   refine wblock ?_
   refine wcode (c':=codeAt Tryz.f118 [1,1,1,0,1,0]) (by kernel_rfl) ?_
   refine wst (σ2:=⟨ofL [(2,.pt (2,0) [] 0),(3,.pt (3,0) [] 0),(4,.pt (4,0) [] 0),(6,.pt (6,0) [] 0),(34,.d (.sh 2 f.ts.length (rows tS f.ts))),(35,.int f.ts.length),(36,.int 0)],ofRO [((2,0),some (.bx (fS f))),((3,0),some (.bx (fS g))),((4,0),some (.bx [D.int 0,.v (.slice none 0 0)])),((6,0),some (.bx [D.int n,.mp []]))]⟩) (by simp [fS,hn]) ?_
   refine impl_DivideLaurents_l1 f g n hn hv hf hfl _ ?_
   intro es l hLJ hall
   have hnf0:nf lexlt l=f.ts.map pr:=by
    rw [nf_perm hall]
    exact (nf_unique lexOrd (pr_desc hf) (pr_nz hf) fun k=>rfl).symm
   show AWp _ _ _ _ _
   refine wseq ?_
   refine wregI ([0,1,2] ++ ([3])) rfl fun K hK=>?_
   refine opsI_seg fun L hL=>?_
   simp [C.impl_DivideLaurents,fS,hn]
   refine wcall1 (impl_newBuilding_calls n) (by simp) (by simp) ?_
   simp [C.impl_DivideLaurents,fS,hn]
   refine hL _ ?_;clear hL L
   refine opsI_end fun L hL=>?_
   simp [C.impl_DivideLaurents,fS,hn]
   refine hL _ ?_;clear hL L
   simp [C.impl_DivideLaurents,fS,hn]
   refine hK _ ?_;clear hK K
   show AWp _ _ _ _ _
   refine wseq ?_
   refine wreg fun K hK=>?_
   simp [C.impl_DivideLaurents,fS,hG0,tS_0 hG0,tS_1 hG0,hl1,hl2]
   refine hK _ ?_;clear hK K
   show AWp _ _ _ _ _
   refine wseq ?_
   refine wblock ?_
   refine wloop (fun x:(List (List Int×Int)×List (List Int×Int))×(List (List Int×Int)×List (List Int×Int))×List (List Int×Int)=>⟨ofL [(2,.pt (2,0) [] 0),(3,.pt (3,0) [] 0),(4,.pt (4,0) [] 0),(6,.pt (6,0) [] 0),(9,.pt (9,0) [] 0),(10,.pt (10,0) [] 0)],ofRO [((2,0),some (.bx (fS f))),((3,0),some (.bx (fS g))),((4,0),some (.bx [D.int 0,.v (.slice none 0 0)])),((6,0),some (.bx [D.int n,.mp x.1.1])),((9,0),some (.bx [D.int n,.mp x.2.1.1])),((10,0),some (.bx [shI (leadE g),D.int (leadC g)]))]⟩) (fun x=>LJ n x.1.1 x.1.2 (600000000+x.2.2.length*600000000000000)/\LJ n x.2.1.1 x.2.1.2 (x.2.2.length*1000000)/\x.2.1.2.Perm x.2.2/\DivJ chkI f g n (nf lexlt x.1.2) x.2.2/\DivO g n (nf lexlt x.1.2) x.2.2) (fun x=>600 - x.2.2.length) ((es,l),([],[]),[]) (by simp [C.impl_DivideLaurents,fS,hn]) ⟨hLJ.mono (by dsimp only [List.length_nil];omega),⟨MapR.nil n,by simp,by simp [absE]⟩,by simp,by dsimp only;rw [hnf0];exact DivJ.start _ hf hn,⟨List.Pairwise.nil,by simp [Nz],by simp,by simp⟩⟩ ?_
   intro x2 hx2 R2 hR2
   obtain ⟨⟨es,l⟩,⟨eo,lo⟩,O⟩:=x2
   obtain ⟨hLr,hLo,hPo,hJ1,hJ2⟩:=hx2
   dsimp only at hLr hLo hPo hJ1 hJ2 ⊢
   have hOl:=hJ1.ol
   have helen:=unpad_len hLr.map hLr.len
   have heol:eo.length=O.length:=by
    have h1:=unpad_len hLo.map hLo.len
    rw [nf_perm hPo,hJ2.nf] at h1
    exact h1.symm
   refine wseq ?_
   refine wseq ?_
   refine wreg fun K hK=>?_
   simp [C.impl_DivideLaurents,fS]
   refine hK _ ?_;clear hK K
   show AWp _ _ _ _ _
   refine wcond _ rfl (fun hc3=>?_) (fun hc3=>?_)
   ·have hes:0 < es.length:=by have:=d_t hc3;omega
    obtain ⟨⟨a,c⟩,R',hR⟩:∃ y R',nf lexlt l=y :: R':=by
     cases hh:nf lexlt l with
     | nil=>rw [hh] at helen;simp at helen;omega
     | cons y R'=>exact ⟨y,R',rfl⟩
    rw [hR] at hJ1 hJ2
    refine wskip ?_
    show AWp _ _ _ _ _
    refine wblock ?_
    refine wseq ?_
    refine wreg fun K hK=>?_
    simp [C.impl_DivideLaurents,fS]
    refine hK _ ?_;clear hK K
    show AWp _ _ _ _ _
    refine wseq ?_
    refine wreg fun K hK=>?_
    simp [C.impl_DivideLaurents,fS]
    refine hK _ ?_;clear hK K
    show AWp _ _ _ _ _
    refine wseq ?_
    refine wseq ?_
    refine wreg fun K hK=>?_
    simp [C.impl_DivideLaurents,fS]
    refine hK _ ?_;clear hK K
    show AWp _ _ _ _ _
    refine wblock ?_
    refine wcode (c':=codeAt Tryz.f118 [1,1,1,1,1,1,0,0,0,1,0,1,1,0,1,0]) (by kernel_rfl) ?_
    refine impl_DivideLaurents_l3 f g n hn es eo (hLr.map.len8 hv) _ ?_
    intro P top cur hqe hT
    have hPne:P≠[]:=by intro e;rw [e] at hqe;have:=hqe.length_eq;simp at this;omega
    obtain ⟨htop,hget⟩:=top_head hLr.map hLr.len hqe hT hR
    have ha:=hJ1.rl (a,c) (by simp)
    obtain ⟨hal,ha60⟩:=ha
    dsimp only at hal ha60
    obtain ⟨a0,a1,a2,a3,a4,a5,a6,a7,hpa⟩:=eight (pad_length (e:=a) (by omega))
    have hba:=pad_bd60 (B:=60) (by omega) (by omega) ha60
    rw [hpa] at hba htop
    subst htop
    have hcb:-1000000000000000000<=c/\c<=1000000000000000000:=by
     have h1:=hJ1.ra
     simp only [absK,List.map_cons,List.sum_cons] at h1
     omega
    have hEl:(addE (-1) a (leadE g)).length=n:=by rw [addE_length _ _ _ (by omega)];exact hal
    have hE80:=addE_bd (B:=60) (C:=20) (k:=-1) (.inr rfl) (hal.trans hgle1.symm) ha60 hgle2
    have hpe0:[a0 + -1*b0,a1 + -1*b1,a2 + -1*b2,a3 + -1*b3,a4 + -1*b4,a5 + -1*b5,a6 + -1*b6,a7 + -1*b7]=pad (addE (-1) a (leadE g)):=by
     rw [← pad_add (by omega),hpa,hpb]
     simp [addE]
    show AWp _ _ _ _ _
    refine wseq ?_
    refine wdraw (.take 0 (.take 1 (.take 2 (.take 3 (.take 4 (.take 5 (.take 6 (.done)))))))) ⟨by kernel_rfl,by kernel_rfl⟩ fun K hK=>?_
    simp [C.impl_DivideLaurents,fS,hget,hLr.map.len8 hv]
    refine hK _ ?_;clear hK K
    show AWp _ _ _ _ _
    refine wseq ?_
    refine wcode (c':=codeAt Tryz.f118 [1,1,1,1,1,1,0,0,0,1,0,1,1,1,1,0]) (by kernel_rfl) ?_
    refine impl_DivideLaurents_r24 f g n es eo a0 a1 a2 a3 a4 a5 a6 a7 b0 b1 b2 b3 b4 b5 b6 b7 c (by omega) hpb hba hbb _ _ ?_
    show AWp _ _ _ _ _
    refine wseq ?_
    obtain ⟨e0,e1,e2,e3,e4,e5,e6,e7,hpe⟩:=eight (pad_length (e:=addE (-1) a (leadE g)) (by omega))
    rw [hpe] at hpe0
    simp only [List.cons.injEq,and_true] at hpe0
    obtain ⟨k0,k1,k2,k3,k4,k5,k6,k7⟩:=hpe0
    simp only [k0,k1,k2,k3,k4,k5,k6,k7]
    have hqb:-1000000000000000000<=c.tdiv (leadC g)/\c.tdiv (leadC g)<=1000000000000000000:=by
     have h1:(c.tdiv (leadC g)).natAbs<=c.natAbs:=by
      rw [Int.natAbs_tdiv]
      exact Nat.div_le_self _ _
     omega
    generalize hQ:c.tdiv (leadC g)=q at hqb
    have htkE:List.take n [e0,e1,e2,e3,e4,e5,e6,e7]=addE (-1) a (leadE g):=by
     rw [← hpe]
     have:=pad_take (e:=addE (-1) a (leadE g))
     rwa [hEl] at this
    have hsh:=sh8 n e0 e1 e2 e3 e4 e5 e6 e7
    rw [htkE] at hsh
    refine wreg fun K hK=>?_
    simp [C.impl_DivideLaurents,fS,hgc.1,hQ,wrapOk (x:=q) (by omega) (by omega)]
    refine hK _ ?_;clear hK K
    show AWp _ _ _ _ _
    refine wseq ?_
    refine wseq ?_
    refine wcode (c':=codeAt Tryz.f118 [1,1,1,1,1,1,0,0,0,1,0,1,1,1,1,1,1,0,0]) (by kernel_rfl) ?_
    refine impl_DivideLaurents_r26 f g n hn hv es eo O (addE (-1) a (leadE g)) e0 e1 e2 e3 e4 e5 e6 e7 c q hgc.1 hsh hEl heol _ _ ?_
    show AWp _ _ _ _ _
    refine wcond _ rfl (fun hc8=>?_) (fun hc8=>?_)
    ·have hr:=nd_t hc8
     have hfail:=hJ1.fail (by
      rcases Classical.em (O.length=600) with h | h
      ·exact .inr h
      ·refine .inl fun h2=>hr ⟨?_,h⟩
       dsimp only at h2
       rw [hQ] at h2
       simp only [chkI,decide_eq_true_eq] at h2
       exact ⟨⟨h2.1,okE_iff.2 ⟨by omega,h2.2.1⟩⟩,h2.2.2⟩)
     refine wseq ?_
     refine wreg fun K hK=>?_
     simp [C.impl_DivideLaurents,fS]
     refine hK _ ?_;clear hK K
     show AWp _ _ _ _ _
     refine wret ?_
     simp [C.impl_DivideLaurents,fS,hm,hfail,endF,zeroF,fO,rows]
    ·obtain ⟨⟨⟨g1,g2⟩,g3⟩,g4⟩:=nd_f hc8
     have hE20:=(okE_iff.1 g2).2
     have hchk:chkI (addE (-1) a (leadE g)) q=true:=by simp only [chkI,decide_eq_true_eq];exact ⟨hE20,g3⟩
     have hJ1s:=hJ1.step hg hgn g1 (by dsimp only;rw [hQ];exact hchk) (by omega) hEl (fun z hz=>by have:=hE20 z hz;omega) (by dsimp only;rw [hQ];exact g3.2)
     have hJ2s:=hJ2.step hJ1.rd (fun y hy=>(hJ1.rl y hy).1) hg hgn hgne g1 (by dsimp only;rw [hQ];exact g3.1)
     dsimp only at hJ1s hJ2s
     rw [hQ] at hJ1s hJ2s
     have hvo:=hLo.val hEl (c:=q) (X:=1000000) (by omega) (by omega)
     rw [hpe] at hvo
     have hbe:=pad_bd hE20
     rw [hpe] at hbe
     refine wskip ?_
     show AWp _ _ _ _ _
     refine wseq ?_
     refine wregI ([0,1,2,3] ++ ([])) rfl fun K hK=>?_
     refine opsI_seg fun L hL=>?_
     simp [C.impl_DivideLaurents,fS]
     refine wcall1 (impl_building_add_calls n q eo e0 e1 e2 e3 e4 e5 e6 e7 (hLo.map.len8 hv) hvo) (by simp) (by simp) ?_
     simp [C.impl_DivideLaurents,fS]
     refine hL _ ?_;clear hL L
     refine opsI_end fun L hL=>?_
     simp only [AOpsI]
     refine hL _ ?_;clear hL L
     simp [C.impl_DivideLaurents,fS]
     rw [← hpe]
     refine hK _ ?_;clear hK K
     show AWp _ _ _ _ _
     refine wseq ?_
     refine wreg fun K hK=>?_
     simp [C.impl_DivideLaurents,fS]
     refine hK _ ?_;clear hK K
     show AWp _ _ _ _ _
     refine wblock ?_
     refine wcode (c':=codeAt Tryz.f118 [1,1,1,1,1,1,0,0,0,1,0,1,1,1,1,1,1,1,1,1,0]) (by kernel_rfl) ?_
     refine impl_DivideLaurents_l4 f g n hn hgn hv hg hgl es l (madd eo (pad (addE (-1) a (leadE g))) q) O hOl hLr (addE (-1) a (leadE g)) hEl e0 e1 e2 e3 e4 e5 e6 e7 q hpe hbe g3 _ ?_
     intro es2 l2 hL2 hP2
     have hnf2:nf lexlt l2=nf lexlt (stepL g (a,c) R'):=step_nf hR (by dsimp only;rw [hQ];exact hP2)
     simp [C.impl_DivideLaurents,fS]
     refine cast (congrArg R2 ?_) (hR2 ((es2,l2),(madd eo (pad (addE (-1) a (leadE g))) q,(addE (-1) a (leadE g),q) :: lo),O ++ [(addE (-1) a (leadE g),q)]) ⟨?_,?_,?_,?_,?_⟩ (by simp;omega))
     ·simp [fS,hn,hgn]
     ·exact hL2.mono (by simp;omega)
     ·exact (hLo.add hEl (c:=q) (X:=1000000) (by omega)).mono (by simp;omega)
     ·exact (List.Perm.cons _ hPo).trans (List.perm_append_singleton _ _).symm
     ·dsimp only
      rw [hnf2]
      exact hJ1s
     ·dsimp only
      rw [hnf2]
      exact hJ2s
   ·have hes:es.length=0:=by have:=d_f hc3;omega
    have hR0:nf lexlt l=[]:=List.eq_nil_of_length_eq_zero (by omega)
    rw [hR0] at hJ1 hJ2
    have hdone:=hJ1.done
    have hsh0:=hJ2.shut n
    rw [← shutF_perm hPo] at hsh0
    refine wexit ?_
    show AWp _ _ _ _ _
    refine wseq ?_
    refine wregI ([0,1] ++ ([2,3,4,5])) rfl fun K hK=>?_
    refine opsI_seg fun L hL=>?_
    simp [C.impl_DivideLaurents,fS,hn]
    refine wcall1 (hDone n eo lo hLo.map hLo.len (by omega) hv (by have:=hPo.length_eq;omega)) (by simp) (by simp) ?_
    simp [C.impl_DivideLaurents,fS,hn]
    refine hL _ ?_;clear hL L
    refine opsI_end fun L hL=>?_
    simp [C.impl_DivideLaurents,fS,hn]
    refine hL _ ?_;clear hL L
    simp [C.impl_DivideLaurents,fS,hn]
    refine hK _ ?_;clear hK K
    show AWp _ _ _ _ _
    refine wret ?_
    simp [C.impl_DivideLaurents,fS,hm,hdone,hsh0,fO]
 clear hK
 by_cases hb:B=true
 ·refine opsI_seg fun L hL=>?_
  simp [C.impl_DivideLaurents,fS,hb]
  refine wcall1 (hcall) (by simp) (by simp) ?_
  simp [C.impl_DivideLaurents,fS,hb]
  refine hL _ ?_;clear hL L
  refine opsI_end fun L hL=>?_
  simp [C.impl_DivideLaurents,fS,hb]
  refine hL _ ?_;clear hL L
  simp [C.impl_DivideLaurents,fS,hb]
  refine cast (congrArg K ?_) hJ
  simp [ieq0,fS,hb]
 ·refine opsI_seg fun L hL=>?_
  simp [C.impl_DivideLaurents,fS,hb]
  refine wcall1 (hcall) (by simp) (by simp) ?_
  simp [C.impl_DivideLaurents,fS,hb]
  refine hL _ ?_;clear hL L
  refine opsI_end fun L hL=>?_
  simp [C.impl_DivideLaurents,fS,hb]
  refine hL _ ?_;clear hL L
  simp [C.impl_DivideLaurents,fS,hb]
  refine cast (congrArg K ?_) hJ
  simp [ieq0,fS,hb]
theorem iDiv_calls (hDone:DoneOk) (f g:Lau) (hx:f.ts.length < 4611686018427387904) (hxe:∀ t∈f.ts,t.e.length < 4611686018427387904) (hy:g.ts.length < 4611686018427387904) (hye:∀ t∈g.ts,t.e.length < 4611686018427387904):ACalls Tryz.prog F.impl_DivideLaurents [aF f,aF g] [] true (fun outs res=>outs=[]/\res=[.ag (fO (divF f g).1),.one (D.bool (divF f g).2)]):=(impl_DivideLaurents_calls hDone f g hx hxe hy hye).weak1
theorem endF_right (v:Int) (O:Option (List (List Int×Int))):Right (endF v O).1\/endF v O=(zeroF,false):=by
 cases O with
 | none=>exact .inr rfl
 | some O=>
  simp only [endF]
  split
  ·rename_i h;exact .inl h
  ·exact .inr rfl
theorem divF_small (f g:Lau):SmallF (divF f g).1:=by
 unfold divF
 split
 ·rcases endF_right f.v (divL chkI g 600 (f.ts.map pr)) with h | h
  ·exact small_right h
  ·rw [h];exact small_zero
 ·exact small_zero
end Go.Proofs.YtbhkonnakkhibaaGreat.Ab
namespace Go.Proofs.YtbhkonnakkhibaaGreat.Ab
open Go
set_option maxRecDepth 10000
set_option maxHeartbeats 2000000
end Go.Proofs.YtbhkonnakkhibaaGreat.Ab
namespace Go.Proofs.YtbhkonnakkhibaaGreat.Ab
open Go
set_option maxRecDepth 10000
set_option maxHeartbeats 2000000
def VarOk (r:Int) (f:Lau):Prop:=Right f/\f.ts≠[]/\f.v=r
def SeedOK (s:Sed):Prop:=MatOK s.m/\(s.f.length:Int)=s.m.r/\∀ f∈s.f,VarOk s.m.r f
noncomputable instance (r:Int) (f:Lau):Decidable (VarOk r f):=Classical.propDecidable _
noncomputable instance (s:Sed):Decidable (SeedOK s):=Classical.propDecidable _
theorem impl_SeedOk_1_calls (s:Sed) (f:Lau) (hx:f.ts.length < 4611686018427387904) (hxe:∀ t∈f.ts,t.e.length < 4611686018427387904):ACalls Tryz.prog F.impl_SeedOk_1 [aF f,.d (.vp (sS s))] [] true (fun outs res=>outs=[]/\res=[.one (D.bool (!decide (VarOk s.m.r f)))]):=by
 refine ACalls.of_body (C:=C.impl_SeedOk_1) (n:=Tryz.f83.ntmps) tabT folT Tryz.func83 rfl (by kernel_rfl) rfl (Nat.le_of_ble_eq_true rfl) (by decide) (by kernel_rfl) (by kernel_rfl) rfl (by simp) (by simp) ?_
 simp only [Tryz.f83]
 refine wseq ?_
 refine wreg fun K hK=>?_
 simp [C.impl_SeedOk_1,fS,sS]
 refine hK _ ?_;clear hK K
 show AWp _ _ _ _ _
 refine wseq ?_
 refine wregI ([0,1] ++ ([2,3,4,5,6,7,8,9,10,11,12,13,14,15,16,17])) rfl fun K hK=>?_
 have hJ:K ⟨ofL [(3,.bool (!decide (VarOk s.m.r f)))],ofRO []⟩:=by
  refine hK _ ?_;clear hK K
  show AWp _ _ _ _ _
  refine wret ?_
  simp [C.impl_SeedOk_1,fS,sS]
 clear hK
 by_cases h1:Right f
 ·by_cases h2:f.ts=[]
  ·refine opsI_seg fun L hL=>?_
   simp [C.impl_SeedOk_1,fS,sS,h2,h1,h2]
   refine wcall1 (impl_LaurentOk_calls f hx hxe) (by simp [fS,sS,h2]) (by simp) ?_
   simp [C.impl_SeedOk_1,fS,sS,h2,h1,h2]
   refine hL _ ?_;clear hL L
   refine opsI_end fun L hL=>?_
   simp [C.impl_SeedOk_1,fS,sS,h2,h1,h2]
   refine hL _ ?_;clear hL L
   simp [C.impl_SeedOk_1,fS,sS,h2,h1,h2]
   refine cast (congrArg K ?_) hJ
   simp [VarOk,ibne,fS,sS,h1,h2]
  ·refine opsI_seg fun L hL=>?_
   simp [C.impl_SeedOk_1,fS,sS,h1,h2]
   refine wcall1 (impl_LaurentOk_calls f hx hxe) (by simp) (by simp) ?_
   simp [C.impl_SeedOk_1,fS,sS,h1,h2]
   refine hL _ ?_;clear hL L
   refine opsI_end fun L hL=>?_
   simp [C.impl_SeedOk_1,fS,sS,h1,h2]
   refine hL _ ?_;clear hL L
   simp [C.impl_SeedOk_1,fS,sS,h1,h2]
   refine cast (congrArg K ?_) hJ
   simp [VarOk,ibne,fS,sS,h1,h2]
 ·refine opsI_seg fun L hL=>?_
  simp [C.impl_SeedOk_1,fS,sS,h1]
  refine wcall1 (impl_LaurentOk_calls f hx hxe) (by simp) (by simp) ?_
  simp [C.impl_SeedOk_1,fS,sS,h1]
  refine hL _ ?_;clear hL L
  refine opsI_end fun L hL=>?_
  simp [C.impl_SeedOk_1,fS,sS,h1]
  refine hL _ ?_;clear hL L
  simp [C.impl_SeedOk_1,fS,sS,h1]
  refine cast (congrArg K ?_) hJ
  simp [VarOk,ibne,fS,sS,h1]
theorem slices_IndexFunc_impl_Laurent_impl_Laurent_calls (xs:List Lau) (g:Nat) (cs:List D) (p:Lau->Bool) (hx:xs.length < 4611686018427387904) (hM:aget [] MM g=[]) (hp:∀ x∈xs,ACalls Tryz.prog g [aF x,.d (.vp cs)] [] true (fun outs res=>outs=[]/\res=[.one (D.bool (p x))])):ACalls Tryz.prog F.slices_IndexFunc_impl_Laurent_impl_Laurent [.d (.sh 2 xs.length (rows fS xs)),.cl g [.d (.vp cs)]] [] true (fun outs res=>outs=[]/\∃ r:Int,res=[.one (D.int r)]/\decide (0<=r)=xs.any p):=by
 refine ACalls.of_body (C:=C.slices_IndexFunc_impl_Laurent_impl_Laurent) (n:=Tryz.f156.ntmps) tabT folT Tryz.func156 rfl (by kernel_rfl) rfl (Nat.le_of_ble_eq_true rfl) (by decide) (by kernel_rfl) (by kernel_rfl) rfl (by simp) (by simp) ?_
 simp only [Tryz.f156]
 refine wseq ?_
 refine wreg fun K hK=>?_
 simp [C.slices_IndexFunc_impl_Laurent_impl_Laurent]
 refine hK _ ?_;clear hK K
 show AWp _ _ _ _ _
 refine wseq ?_
 refine wseq ?_
 refine wreg fun K hK=>?_
 simp [C.slices_IndexFunc_impl_Laurent_impl_Laurent]
 refine hK _ ?_;clear hK K
 show AWp _ _ _ _ _
 refine wblock ?_
 refine wloop (fun k:Nat=>⟨ofL [(0,.d (.sh 2 xs.length (rows fS xs))),(1,.cl g [.d (.vp cs)]),(7,.int xs.length),(8,FV.int k)],ofRO []⟩) (fun k=>k<=xs.length/\(xs.take k).any p=false) (fun k=>xs.length - k) 0 (by simp [C.slices_IndexFunc_impl_Laurent_impl_Laurent]) (by simp) ?_
 intro x1 hx1 R1 hR1
 obtain ⟨hk,ht⟩:=hx1
 refine wseq ?_
 refine wreg fun K hK=>?_
 simp [C.slices_IndexFunc_impl_Laurent_impl_Laurent]
 refine hK _ ?_;clear hK K
 show AWp _ _ _ _ _
 refine wseq ?_
 refine wcond _ rfl (fun hc1=>?_) (fun hc1=>?_)
 ·have h1:x1 < xs.length:=by have:=d_t hc1;omega
  refine wskip ?_
  show AWp _ _ _ _ _
  refine wseq ?_
  refine wblock ?_
  refine wseq ?_
  refine wreg fun K hK=>?_
  simp [C.slices_IndexFunc_impl_Laurent_impl_Laurent]
  refine hK _ ?_;clear hK K
  show AWp _ _ _ _ _
  refine wseq ?_
  refine wregI ([0,1,2,3,4,5] ++ ([])) rfl fun K hK=>?_
  refine opsI_seg fun L hL=>?_
  simp [C.slices_IndexFunc_impl_Laurent_impl_Laurent,fS_0 h1,fS_1 h1,h1,hM]
  refine wcall1 (hp xs[x1] (List.getElem_mem h1)) (by simp) (by simp) ?_
  simp [C.slices_IndexFunc_impl_Laurent_impl_Laurent,fS_0 h1,fS_1 h1,h1,hM]
  refine hL _ ?_;clear hL L
  refine opsI_end fun L hL=>?_
  simp only [AOpsI]
  refine hL _ ?_;clear hL L
  simp [C.slices_IndexFunc_impl_Laurent_impl_Laurent,fS_0 h1,fS_1 h1,h1,hM]
  refine hK _ ?_;clear hK K
  show AWp _ _ _ _ _
  refine wcond _ rfl (fun hc2=>?_) (fun hc2=>?_)
  ·have hpx:p xs[x1]=true:=by simpa using hc2
   refine wseq ?_
   refine wreg fun K hK=>?_
   simp [C.slices_IndexFunc_impl_Laurent_impl_Laurent]
   refine hK _ ?_;clear hK K
   show AWp _ _ _ _ _
   refine wret ?_
   simp [C.slices_IndexFunc_impl_Laurent_impl_Laurent]
   exact ⟨xs[x1],List.getElem_mem h1,hpx⟩
  ·have hpx:p xs[x1]=false:=by simpa using hc2
   refine wskip ?_
   show AWp _ _ _ _ _
   refine wreg fun K hK=>?_
   simp [C.slices_IndexFunc_impl_Laurent_impl_Laurent,wrap_succ (show x1 < 4611686018427387904 by omega)]
   refine hK _ ?_;clear hK K
   simp [C.slices_IndexFunc_impl_Laurent_impl_Laurent]
   refine hR1 (x1+1) ⟨h1,?_⟩ (by omega)
   rw [List.take_succ_eq_append_getElem h1,List.any_append,ht]
   simp [hpx]
 ·have h1:x1=xs.length:=by have:=d_f hc1;omega
  refine wexit ?_
  show AWp _ _ _ _ _
  refine wseq ?_
  refine wreg fun K hK=>?_
  simp [C.slices_IndexFunc_impl_Laurent_impl_Laurent]
  refine hK _ ?_;clear hK K
  show AWp _ _ _ _ _
  refine wret ?_
  simp [C.slices_IndexFunc_impl_Laurent_impl_Laurent]
  rw [h1,List.take_length] at ht
  simpa using ht
theorem slices_ContainsFunc_impl_Laurent_impl_Laurent_calls (xs:List Lau) (g:Nat) (cs:List D) (p:Lau->Bool) (hx:xs.length < 4611686018427387904) (hM:aget [] MM g=[]) (hp:∀ x∈xs,ACalls Tryz.prog g [aF x,.d (.vp cs)] [] true (fun outs res=>outs=[]/\res=[.one (D.bool (p x))])):ACalls Tryz.prog F.slices_ContainsFunc_impl_Laurent_impl_Laurent [.d (.sh 2 xs.length (rows fS xs)),.cl g [.d (.vp cs)]] [] true (fun outs res=>outs=[]/\res=[.one (D.bool (xs.any p))]):=by
 refine ACalls.of_body (C:=C.slices_ContainsFunc_impl_Laurent_impl_Laurent) (n:=Tryz.f82.ntmps) tabT folT Tryz.func82 rfl (by kernel_rfl) rfl (Nat.le_of_ble_eq_true rfl) (by decide) (by kernel_rfl) (by kernel_rfl) rfl (by simp) (by simp) ?_
 simp only [Tryz.f82]
 refine wseq ?_
 refine wreg fun K hK=>?_
 simp [C.slices_ContainsFunc_impl_Laurent_impl_Laurent]
 refine hK _ ?_;clear hK K
 show AWp _ _ _ _ _
 refine wseq ?_
 refine wregI ([0,1,2] ++ ([3,4])) rfl fun K hK=>?_
 refine opsI_seg fun L hL=>?_
 simp [C.slices_ContainsFunc_impl_Laurent_impl_Laurent]
 refine wcall (slices_IndexFunc_impl_Laurent_impl_Laurent_calls xs g cs p hx hM hp) (by simp) (by simp) (by simp) ?_
 rintro outs res ⟨rfl,r,rfl,hr⟩
 simp [C.slices_ContainsFunc_impl_Laurent_impl_Laurent]
 refine hL _ ?_;clear hL L
 refine opsI_end fun L hL=>?_
 simp [C.slices_ContainsFunc_impl_Laurent_impl_Laurent]
 refine hL _ ?_;clear hL L
 simp [C.slices_ContainsFunc_impl_Laurent_impl_Laurent]
 refine hK _ ?_;clear hK K
 show AWp _ _ _ _ _
 refine wret ?_
 simp [C.slices_ContainsFunc_impl_Laurent_impl_Laurent]
 exact hr
theorem impl_SeedOk_calls (s:Sed) (hx:s.m.d.length < 17592186044416) (hl:s.f.length < 4611686018427387904) (hf:∀ f∈s.f,SmF f):ACalls Tryz.prog F.impl_SeedOk [aS s] [] true (fun outs res=>outs=[]/\res=[.one (D.bool (decide (SeedOK s)))]):=by
 refine ACalls.of_body (C:=C.impl_SeedOk) (n:=Tryz.f26.ntmps) tabT folT Tryz.func26 rfl (by kernel_rfl) rfl (Nat.le_of_ble_eq_true rfl) (by decide) (by kernel_rfl) (by kernel_rfl) rfl (by simp) (by simp) ?_
 simp only [Tryz.f26]
 refine wseq ?_
 refine wreg fun K hK=>?_
 simp [C.impl_SeedOk,sS]
 refine hK _ ?_;clear hK K
 show AWp _ _ _ _ _
 refine wseq ?_
 refine wseq ?_
 refine wregI ([0,1,2] ++ ([3,4,5,6,7,8,9,10,11,12])) rfl fun K hK=>?_
 have hJ:K ⟨ofL [(1,.pt (1,0) [] 0),(15,.bool (!decide (MatOK s.m/\(s.f.length:Int)=s.m.r)))],ofRO [((1,0),some (.bx (sS s)))]⟩:=by
  refine hK _ ?_;clear hK K
  show AWp _ _ _ _ _
  refine wcond _ rfl (fun hc1=>?_) (fun hc1=>?_)
  ·have hr:=nd_t hc1
   have hno:¬ SeedOK s:=fun h=>hr ⟨h.1,h.2.1⟩
   refine wseq ?_
   refine wreg fun K hK=>?_
   simp [C.impl_SeedOk,sS]
   refine hK _ ?_;clear hK K
   show AWp _ _ _ _ _
   refine wret ?_
   simp [C.impl_SeedOk,sS,hno]
  ·have hr:=nd_f hc1
   have hany:(!(s.f.any fun f=>!decide (VarOk s.m.r f)))=decide (SeedOK s):=by
    rw [Bool.eq_iff_iff]
    simp only [Bool.not_eq_true',List.any_eq_false,decide_eq_true_eq]
    refine ⟨fun h=>⟨hr.1,hr.2,fun f hm=>?_⟩,fun h f hm=>?_⟩
    ·simpa using h f hm
    ·simpa using h.2.2 f hm
   have hcall:=slices_ContainsFunc_impl_Laurent_impl_Laurent_calls s.f F.impl_SeedOk_1 (sS s) (fun f=>!decide (VarOk s.m.r f)) hl (by simp) (fun f hm=>impl_SeedOk_1_calls s f (hf f hm).1 (hf f hm).2)
   simp only [sS] at hcall
   refine wskip ?_
   show AWp _ _ _ _ _
   refine wseq ?_
   refine wregI ([0,1,2,3] ++ ([4,5])) rfl fun K hK=>?_
   refine opsI_seg fun L hL=>?_
   simp [C.impl_SeedOk,sS]
   refine wcall1 (hcall) (by simp) (by simp) ?_
   simp [C.impl_SeedOk,sS]
   refine hL _ ?_;clear hL L
   refine opsI_end fun L hL=>?_
   simp [C.impl_SeedOk,sS]
   refine hL _ ?_;clear hL L
   simp [C.impl_SeedOk,sS]
   refine hK _ ?_;clear hK K
   show AWp _ _ _ _ _
   refine wret ?_
   simp [C.impl_SeedOk,sS]
   rw [← hany];simp
 clear hK
 by_cases h1:MatOK s.m
 ·refine opsI_seg fun L hL=>?_
  simp [C.impl_SeedOk,sS,h1]
  refine wcall1 (impl_MatrixOkG_calls s.m hx) (by simp) (by simp) ?_
  simp [C.impl_SeedOk,sS,h1]
  refine hL _ ?_;clear hL L
  refine opsI_end fun L hL=>?_
  simp [C.impl_SeedOk,sS,h1]
  refine hL _ ?_;clear hL L
  simp [C.impl_SeedOk,sS,h1]
  refine cast (congrArg K ?_) hJ
  simp [ibne,sS,h1]
 ·refine opsI_seg fun L hL=>?_
  simp [C.impl_SeedOk,sS,h1]
  refine wcall1 (impl_MatrixOkG_calls s.m hx) (by simp) (by simp) ?_
  simp [C.impl_SeedOk,sS,h1]
  refine hL _ ?_;clear hL L
  refine opsI_end fun L hL=>?_
  simp [C.impl_SeedOk,sS,h1]
  refine hL _ ?_;clear hL L
  simp [C.impl_SeedOk,sS,h1]
  refine cast (congrArg K ?_) hJ
  simp [ibne,sS,h1]
end Go.Proofs.YtbhkonnakkhibaaGreat.Ab
namespace Go.Proofs.YtbhkonnakkhibaaGreat.Ab
open Go
set_option maxRecDepth 10000
set_option maxHeartbeats 2000000
noncomputable def itM (f:Lau):Nat->Lau->Option Lau
 | 0,p=>some p
 | n+1,p=>if (mulF p f).2=true then itM f n (mulF p f).1 else none
noncomputable def prodE (sg:Int):List Lau->List Int->Lau->Option Lau
 | f :: fs,c :: cs,p=>(itM f (sg*c).toNat p).bind (prodE sg fs cs)
 | [],_,p=>some p
 | _ :: _,[],p=>some p
def colM (m:Mat) (r k:Nat):List Int:=(List.range r).map fun i=>bM m i k
@[simp] theorem colM_length (m:Mat) (r k:Nat):(colM m r k).length=r:=by simp [colM]
theorem colM_get (m:Mat) (r k i:Nat) (h:i < r):(colM m r k)[i]'(by simpa using h)=bM m i k:=by simp [colM]
noncomputable def exF (fs:List Lau) (cs:List Int) (r:Nat) (old:Lau):Lau×Bool:=
 if ∀ c∈cs,-8<=c/\c<=8 then (match prodE 1 fs cs (oneF r),prodE (-1) fs cs (oneF r) with
  | some a,some b=>if (addF a 1 b).2=true then divF (addF a 1 b).1 old else (zeroF,false)
  | _,_=>(zeroF,false)) else (zeroF,false)
theorem prodE_step {sg:Int} {fs:List Lau} {cs:List Int} {i:Nat} (h1:i < fs.length) (h2:i < cs.length) (p:Lau):prodE sg (fs.drop i) (cs.drop i) p=(itM fs[i] (sg*cs[i]).toNat p).bind (prodE sg (fs.drop (i+1)) (cs.drop (i+1))):=by
 rw [List.drop_eq_getElem_cons h1,List.drop_eq_getElem_cons h2,prodE]
theorem exF_none {fs:List Lau} {cs:List Int} {r:Nat} {old:Lau} {sg:Int} (hs:sg=1\/sg=-1) (h:prodE sg fs cs (oneF r)=none):exF fs cs r old=(zeroF,false):=by
 unfold exF
 split
 ·rcases hs with rfl | rfl
  ·rw [h]
  ·rw [h]
   split <;> simp_all
 ·rfl
theorem exF_big {fs:List Lau} {cs:List Int} {r:Nat} {old:Lau} {c:Int} (hc:c∈cs) (h:¬ (-8<=c/\c<=8)):exF fs cs r old=(zeroF,false):=if_neg fun q=>h (q c hc)
theorem exF_some {fs:List Lau} {cs:List Int} {r:Nat} {old a b:Lau} (hc:∀ c∈cs,-8<=c/\c<=8) (ha:prodE 1 fs cs (oneF r)=some a) (hb:prodE (-1) fs cs (oneF r)=some b):exF fs cs r old=if (addF a 1 b).2=true then divF (addF a 1 b).1 old else (zeroF,false):=by
 unfold exF
 rw [if_pos hc,ha,hb]
theorem SmallF.sm' {f:Lau} (h:SmallF f):f.ts.length < 4611686018427387904/\∀ t∈f.ts,t.e.length < 4611686018427387904:=⟨by have:=h.1;omega,fun t ht=>by have:=h.2.1 t ht;omega⟩
theorem mulF_small' (f g:Lau):SmallF (mulF f g).1:=by
 rcases mulF_right f g with h | h
 ·exact small_right h
 ·rw [h];exact small_zero
theorem addF_small' (f:Lau) (k:Int) (g:Lau):SmallF (addF f k g).1:=by
 unfold addF
 split
 ·rcases shutF_right f.v (f.ts.map pr ++ g.ts.map (prk k)) with h | h
  ·exact small_right h
  ·rw [h];exact small_zero
 ·exact small_zero
def exC0:List D:=[D.int 0,.v (.slice none 0 0),D.int 0,.v (.slice none 0 0)]
def exC1 (a:Lau):List D:=[D.int a.v,.ow 2 a.ts.length (rows tO a.ts),D.int 0,.v (.slice none 0 0)]
def exC2 (a b:Lau):List D:=[D.int a.v,.ow 2 a.ts.length (rows tO a.ts),D.int b.v,.ow 2 b.ts.length (rows tO b.ts)]
structure ExJ (fs:List Lau) (cs:List Int) (r:Nat) (side:Nat) (cells:List D):Prop where
 all:(side=0/\cells=exC0)\/(side=1/\(∀ c∈cs,c<=8)/\∃ a,SmallF a/\prodE 1 fs cs (oneF r)=some a/\cells=exC1 a) \/
  (side=2/\(∀ c∈cs,-8<=c/\c<=8)/\∃ a b,SmallF a/\SmallF b/\prodE 1 fs cs (oneF r)=some a/\prodE (-1) fs cs (oneF r)=some b/\cells=exC2 a b)
theorem impl_exchange_calls (m:Mat) (n r k:Nat) (fs:List Lau) (v:Nat) (hv8:1<=v/\v<=8) (hn:m.n=n) (hr:m.r=r) (hS:ShM m) (hk:k < n) (hl:fs.length=r) (hf:∀ f∈fs,SmF f) (hv:∀ f∈fs,f.v=v):ACalls Tryz.prog F.impl_exchange [.ag [.int n,.int r,.d (shI m.d)],.d (.sh 2 fs.length (rows fS fs)),.int k] [] true (fun outs res=>outs=[]/\WkRs res [.ag (fO (exF fs (colM m r k) v (fs.getD k zeroF)).1),.one (D.bool (exF fs (colM m r k) v (fs.getD k zeroF)).2)]):=by
 have hn5:1<=n/\n<=5:=by have:=hS.1;omega
 have hnr:n<=r/\r<=8:=by have:=hS.2.1;omega
 have hkl:k < fs.length:=by omega
 have hkv:fs[k].v=v:=hv _ (List.getElem_mem hkl)
 have hone:=impl_ConstantLaurent_calls v hv8
 have hos:SmallF (oneF v):=small_right (oneF_right (by omega))
 obtain ⟨cs,hcs⟩:∃ cs,cs=colM m r k:=⟨_,rfl⟩
 have hcl:cs.length=r:=by rw [hcs];simp
 have hcg:∀ (i:Nat) (h:i < r),cs[i]'(by omega)=bM m i k:=fun i h=>by simp only [hcs];exact colM_get m r k i h
 rw [← hcs]
 obtain ⟨old,hold⟩:∃ old,old=fs.getD k zeroF:=⟨_,rfl⟩
 have hkg:fs[k]=old:=by rw [hold];simp [List.getD_eq_getElem?_getD,hkl]
 rw [← hold]
 have hov:old.v=v:=by rw [← hkg];exact hkv
 have holds:=hf _ (List.getElem_mem hkl)
 rw [hkg] at holds
 refine ACalls.of_body (C:=C.impl_exchange) (n:=Tryz.f66.ntmps) tabT folT Tryz.func66 rfl (by kernel_rfl) rfl (Nat.le_of_ble_eq_true rfl) (by decide) (by kernel_rfl) (by kernel_rfl) rfl (by simp) (by simp) ?_
 simp only [Tryz.f66]
 refine wseq ?_
 refine wreg fun K hK=>?_
 simp [C.impl_exchange]
 refine hK _ ?_;clear hK K
 show AWp _ _ _ _ _
 refine wseq ?_
 refine wreg fun K hK=>?_
 simp [C.impl_exchange]
 refine hK _ ?_;clear hK K
 show AWp _ _ _ _ _
 refine wseq ?_
 refine wseq ?_
 refine wreg fun K hK=>?_
 simp [C.impl_exchange]
 refine hK _ ?_;clear hK K
 show AWp _ _ _ _ _
 refine wblock ?_
 refine wloop (fun x:Nat×List D=>⟨ofL [(1,.d (.sh 2 fs.length (rows fS fs))),(2,.int k),(3,.pt (3,0) [] 0),(6,.pt (6,0) [] 0),(8,.pt (8,0) [] 0),(18,.al (18,0) [] 0 2),(19,.int 2),(20,.int x.1)],ofRO [((3,0),some (.bx [D.int n,D.int r,shI m.d])),((6,0),some (.bx [D.int 0,.v (.slice none 0 0)])),((8,0),some (.bx x.2)),((18,0),some (.ow 1 2 (ints [1,-1])))]⟩) (fun x=>ExJ fs cs v x.1 x.2) (fun x=>2 - x.1) (0,exC0) (by simp [C.impl_exchange,exC0,ints]) ⟨.inl ⟨rfl,rfl⟩⟩ ?_
 intro x1 hx1 R1 hR1
 obtain ⟨side,cells⟩:=x1
 have hx1':=hx1
 dsimp only at hx1' ⊢
 refine wseq ?_
 refine wreg fun K hK=>?_
 simp [C.impl_exchange]
 refine hK _ ?_;clear hK K
 show AWp _ _ _ _ _
 refine wseq ?_
 refine wcond _ rfl (fun hc1=>?_) (fun hc1=>?_)
 ·have hside:side < 2:=by have:=d_t hc1;omega
  obtain ⟨sg,hsg⟩:∃ sg:Int,sg=if side=0 then 1 else -1:=⟨_,rfl⟩
  have hsg2:sg=1\/sg=-1:=by rw [hsg];split <;> simp
  have hsgn:([1,-1]:List Int)[side]'(by simpa using hside)=sg:=by
   rcases (show side=0\/side=1 by omega) with rfl | rfl <;> (rw [hsg];rfl)
  obtain ⟨goal,hgoal⟩:∃ goal,goal=prodE sg fs cs (oneF v):=⟨_,rfl⟩
  refine wskip ?_
  show AWp _ _ _ _ _
  refine wseq ?_
  refine wblock ?_
  refine wseq ?_
  refine wreg fun K hK=>?_
  simp [C.impl_exchange,hside,get_ints,hsgn,show (side:Int) < 2 by omega]
  refine hK _ ?_;clear hK K
  show AWp _ _ _ _ _
  refine wseq ?_
  refine wregI ([0,1,2,3,4,5] ++ ([6,7])) rfl fun K hK=>?_
  refine opsI_seg fun L hL=>?_
  simp [C.impl_exchange,hkl,fS_0 hkl,hkg,hov,show (k:Int) < fs.length by omega,fO]
  refine wcall1 (hone) (by simp) (by simp) ?_
  simp [C.impl_exchange,hkl,fS_0 hkl,hkg,hov,show (k:Int) < fs.length by omega,fO]
  refine hL _ ?_;clear hL L
  refine opsI_end fun L hL=>?_
  simp [C.impl_exchange,hkl,fS_0 hkl,hkg,hov,show (k:Int) < fs.length by omega,fO]
  refine hL _ ?_;clear hL L
  simp [C.impl_exchange,hkl,fS_0 hkl,hkg,hov,show (k:Int) < fs.length by omega,fO]
  refine hK _ ?_;clear hK K
  show AWp _ _ _ _ _
  refine wseq ?_
  refine wreg fun K hK=>?_
  simp [C.impl_exchange]
  refine hK _ ?_;clear hK K
  show AWp _ _ _ _ _
  refine wseq ?_
  refine wseq ?_
  refine wreg fun K hK=>?_
  simp [C.impl_exchange]
  refine hK _ ?_;clear hK K
  show AWp _ _ _ _ _
  refine wblock ?_
  refine wloop (fun x:Nat×Lau=>⟨ofL [(1,.d (.sh 2 fs.length (rows fS fs))),(2,.int k),(3,.pt (3,0) [] 0),(6,.pt (6,0) [] 0),(8,.pt (8,0) [] 0),(9,.int side),(10,.int sg),(11,.pt (11,0) [] 0),(18,.al (18,0) [] 0 2),(19,.int 2),(20,.int side),(31,.d (.sh 2 fs.length (rows fS fs))),(32,.int fs.length),(33,.int x.1)],ofRO [((3,0),some (.bx [D.int n,D.int r,shI m.d])),((6,0),some (.bx [D.int 0,.v (.slice none 0 0)])),((8,0),some (.bx cells)),((11,0),some (.bx (fO x.2))),((18,0),some (.ow 1 2 (ints [1,-1])))]⟩) (fun x=>x.1<=r/\SmallF x.2/\(∀ c∈cs.take x.1,sg*c<=8)/\prodE sg (fs.drop x.1) (cs.drop x.1) x.2=goal) (fun x=>r - x.1) (0,oneF v) (by simp [C.impl_exchange,fO]) ⟨by simp,hos,by simp,by rw [hgoal];rfl⟩ ?_
  intro x2 hx2 R2 hR2
  obtain ⟨i,p⟩:=x2
  obtain ⟨hi0,hps,hcb,hpg⟩:=hx2
  dsimp only at hi0 hps hcb hpg ⊢
  refine wseq ?_
  refine wreg fun K hK=>?_
  simp [C.impl_exchange]
  refine hK _ ?_;clear hK K
  show AWp _ _ _ _ _
  refine wseq ?_
  refine wcond _ rfl (fun hc2=>?_) (fun hc2=>?_)
  ·have hi:i < r:=by have:=d_t hc2;omega
   have hif:i < fs.length:=by omega
   obtain ⟨c,hc⟩:∃ c,c=cs[i]'(by omega):=⟨_,rfl⟩
   have hcm:bM m i k=c:=by rw [hc,hcg i hi]
   have hat:=at_calls hn hS (i:=i) (j:=k) (by omega) hk
   rw [hr,hcm] at hat
   have hcb99:=bM_bd hS i k
   rw [hcm] at hcb99
   have hsc:IntKind.i64.wrap (sg*c)=sg*c:=by rcases hsg2 with rfl | rfl <;> exact wrapOk (by omega) (by omega)
   have hstep:=prodE_step (sg:=sg) hif (show i < cs.length by omega) p
   rw [hpg,← hc] at hstep
   obtain ⟨f,hfi⟩:∃ f,f=fs[i]:=⟨_,rfl⟩
   have hfs:=hf _ (List.getElem_mem hif)
   rw [← hfi] at hstep hfs
   refine wskip ?_
   show AWp _ _ _ _ _
   refine wseq ?_
   refine wblock ?_
   refine wseq ?_
   refine wreg fun K hK=>?_
   simp [C.impl_exchange,hif,fS_0 hif,fS_1 hif,← hfi]
   refine hK _ ?_;clear hK K
   show AWp _ _ _ _ _
   refine wseq ?_
   refine wregI ([0,1,2,3,4] ++ ([5,6])) rfl fun K hK=>?_
   refine opsI_seg fun L hL=>?_
   simp [C.impl_exchange,hsc]
   refine wcall1 (hat) (by simp) (by simp) ?_
   simp [C.impl_exchange,hsc]
   refine hL _ ?_;clear hL L
   refine opsI_end fun L hL=>?_
   simp [C.impl_exchange,hsc]
   refine hL _ ?_;clear hL L
   simp [C.impl_exchange,hsc]
   refine hK _ ?_;clear hK K
   show AWp _ _ _ _ _
   refine wseq ?_
   refine wseq ?_
   refine wreg fun K hK=>?_
   simp [C.impl_exchange]
   refine hK _ ?_;clear hK K
   show AWp _ _ _ _ _
   refine wcond _ rfl (fun hc3=>?_) (fun hc3=>?_)
   ·have hbig:8 < sg*c:=by simpa using hc3
    have hm:exF fs cs v old=(zeroF,false):=exF_big (c:=c) (by rw [hc];exact List.getElem_mem _) (by rcases hsg2 with rfl | rfl <;> omega)
    refine wseq ?_
    refine wreg fun K hK=>?_
    simp [C.impl_exchange]
    refine hK _ ?_;clear hK K
    show AWp _ _ _ _ _
    refine wret ?_
    simp [C.impl_exchange,hm,fO,zeroF,rows]
   ·have hle:¬ 8 < sg*c:=by simpa using hc3
    refine wskip ?_
    show AWp _ _ _ _ _
    refine wblock ?_
    refine wloop (fun x:Int×Lau=>⟨ofL [(1,.d (.sh 2 fs.length (rows fS fs))),(2,.int k),(3,.pt (3,0) [] 0),(6,.pt (6,0) [] 0),(8,.pt (8,0) [] 0),(9,.int side),(10,.int sg),(11,.pt (11,0) [] 0),(14,.pt (14,0) [] 0),(15,.int x.1),(18,.al (18,0) [] 0 2),(19,.int 2),(20,.int side),(31,.d (.sh 2 fs.length (rows fS fs))),(32,.int fs.length),(33,.int i)],ofRO [((3,0),some (.bx [D.int n,D.int r,shI m.d])),((6,0),some (.bx [D.int 0,.v (.slice none 0 0)])),((8,0),some (.bx cells)),((11,0),some (.bx (fO x.2))),((14,0),some (.bx (fS f))),((18,0),some (.ow 1 2 (ints [1,-1])))]⟩) (fun x=>x.1<=8/\-99<=x.1/\SmallF x.2/\(itM f x.1.toNat x.2).bind (prodE sg (fs.drop (i+1)) (cs.drop (i+1)))=goal) (fun x=>x.1.toNat) (sg*c,p) (by simp [C.impl_exchange,fO,fS]) ⟨by dsimp only;omega,by dsimp only;rcases hsg2 with rfl | rfl <;> omega,hps,hstep.symm⟩ ?_
    intro x3 hx3 R3 hR3
    obtain ⟨nn,q⟩:=x3
    obtain ⟨hn8,hn99,hqs,hqg⟩:=hx3
    dsimp only at hn8 hn99 hqs hqg ⊢
    refine wseq ?_
    refine wseq ?_
    refine wreg fun K hK=>?_
    simp [C.impl_exchange]
    refine hK _ ?_;clear hK K
    show AWp _ _ _ _ _
    refine wcond _ rfl (fun hc4=>?_) (fun hc4=>?_)
    ·have hpos:0 < nn:=by simpa using hc4
     obtain ⟨t,ht⟩:∃ t,nn.toNat=t+1:=⟨nn.toNat - 1,by omega⟩
     rw [ht] at hqg
     simp only [itM] at hqg
     have hmul:=mulOk q f hqs.sm'.1 hqs.sm'.2 hfs.1 hfs.2
     have hmulS:=mulF_small' q f
     obtain ⟨P,hP⟩:∃ P,P=mulF q f:=⟨_,rfl⟩
     rw [← hP] at hqg hmul hmulS
     refine wskip ?_
     show AWp _ _ _ _ _
     refine wseq ?_
     refine wblock ?_
     refine wseq ?_
     refine wregI ([0,1,2] ++ ([3,4,5,6,7])) rfl fun K hK=>?_
     refine opsI_seg fun L hL=>?_
     simp [C.impl_exchange,fO,fS]
     refine wcall1 (hmul) (by simp) (by simp) ?_
     simp [C.impl_exchange,fO,fS]
     refine hL _ ?_;clear hL L
     refine opsI_end fun L hL=>?_
     simp [C.impl_exchange,fO,fS]
     refine hL _ ?_;clear hL L
     simp [C.impl_exchange,fO,fS]
     refine hK _ ?_;clear hK K
     show AWp _ _ _ _ _
     refine wseq ?_
     refine wreg fun K hK=>?_
     simp [C.impl_exchange]
     refine hK _ ?_;clear hK K
     show AWp _ _ _ _ _
     refine wcond _ rfl (fun hc5=>?_) (fun hc5=>?_)
     ·have hb:P.2=false:=by simpa using hc5
      rw [hb] at hqg
      have hm:exF fs cs v old=(zeroF,false):=exF_none hsg2 (by rw [← hgoal,← hqg];rfl)
      refine wseq ?_
      refine wreg fun K hK=>?_
      simp [C.impl_exchange]
      refine hK _ ?_;clear hK K
      show AWp _ _ _ _ _
      refine wret ?_
      simp [C.impl_exchange,hm,fO,zeroF,rows]
     ·have hb:P.2=true:=by simpa using hc5
      rw [if_pos hb] at hqg
      refine wskip ?_
      show AWp _ _ _ _ _
      refine wreg fun K hK=>?_
      simp [C.impl_exchange,wrapOk (x:=nn - 1) (by omega) (by omega)]
      refine hK _ ?_;clear hK K
      simp [C.impl_exchange]
      refine cast (congrArg R3 ?_) (hR3 (nn - 1,P.1) ⟨by dsimp only;omega,by dsimp only;omega,hmulS,by dsimp only;rw [show (nn - 1).toNat=t by omega];exact hqg⟩ (by dsimp only;omega))
      simp [fO,fS]
    ·have hpos:¬ 0 < nn:=by simpa using hc4
     rw [show nn.toNat=0 by omega] at hqg
     have hqg2:prodE sg (fs.drop (i+1)) (cs.drop (i+1)) q=goal:=hqg
     refine wexit ?_
     show AWp _ _ _ _ _
     refine wreg fun K hK=>?_
     simp [C.impl_exchange,wrap_succ (show i < 4611686018427387904 by omega)]
     refine hK _ ?_;clear hK K
     simp [C.impl_exchange]
     refine hR2 (i+1,q) ⟨hi,hqs,fun z hz=>?_,hqg2⟩ (by dsimp only;omega)
     dsimp only at hz
     rw [List.take_succ_eq_append_getElem (by omega)] at hz
     rcases List.mem_append.1 hz with hz | hz
     ·exact hcb z hz
     ·rw [List.mem_singleton] at hz
      rw [hz,← hc]
      omega
  ·have hi:i=r:=by have:=d_f hc2;omega
   rw [hi,List.drop_of_length_le (by omega),List.drop_of_length_le (by omega)] at hpg
   rw [hi,List.take_of_length_le (by omega)] at hcb
   have hpg2:prodE sg fs cs (oneF v)=some p:=by rw [← hgoal,← hpg];rfl
   refine wexit ?_
   show AWp _ _ _ _ _
   refine wreg fun K hK=>?_
   have hJ:K ⟨ofL [(1,.d (.sh 2 fs.length (rows fS fs))),(2,.int k),(3,.pt (3,0) [] 0),(6,.pt (6,0) [] 0),(8,.pt (8,0) [] 0),(18,.al (18,0) [] 0 2),(19,.int 2),(20,.int side)],ofRO [((3,0),some (.bx [D.int n,D.int r,shI m.d])),((6,0),some (.bx [D.int 0,.v (.slice none 0 0)])),((8,0),some (.bx (((cells.set (2*side) (D.int p.v)).set (2*side+1) (.ow 2 p.ts.length (rows tO p.ts)))))),((18,0),some (.ow 1 2 (ints [1,-1])))]⟩:=by
    refine hK _ ?_;clear hK K
    show AWp _ _ _ _ _
    refine wreg fun K hK=>?_
    simp [C.impl_exchange,wrap_succ (show side < 4611686018427387904 by omega)]
    refine hK _ ?_;clear hK K
    simp [C.impl_exchange]
    refine hR1 (side+1,_) ⟨?_⟩ (by dsimp only;omega)
    rcases hx1'.all with ⟨h1,h2⟩ | ⟨h1,h3,a,ha,hae,h2⟩ | ⟨h1,_⟩
    ·right
     left
     subst h1
     subst h2
     obtain rfl:sg=1:=hsg
     exact ⟨rfl,fun c hc=>by have:=hcb c hc;omega,p,hps,hpg2,rfl⟩
    ·right
     right
     subst h1
     subst h2
     obtain rfl:sg=-1:=hsg
     exact ⟨rfl,fun c hc=>by have:=hcb c hc;have:=h3 c hc;omega,a,p,ha,hps,hae,hpg2,rfl⟩
    ·omega
   clear hK
   rcases hx1'.all with ⟨h1,h2⟩ | ⟨h1,_,a,_,_,h2⟩ | ⟨h1,_⟩
   ·subst h1
    subst h2
    simp [C.impl_exchange,fO,exC0]
    refine cast (congrArg K ?_) hJ
    simp [fO,exC0]
   ·subst h1
    subst h2
    simp [C.impl_exchange,fO,exC1]
    refine cast (congrArg K ?_) hJ
    simp [fO,exC1]
   ·omega
 ·have hside:¬ side < 2:=by have:=d_f hc1;omega
  obtain ⟨hcb,a,b,has,hbs,hae,hbe,hcell⟩:(∀ c∈cs,-8<=c/\c<=8)/\∃ a b,SmallF a/\SmallF b/\prodE 1 fs cs (oneF v)=some a/\prodE (-1) fs cs (oneF v)=some b/\cells=exC2 a b:=by
   rcases hx1'.all with ⟨h1,h2⟩ | ⟨h1,h3,a,ha,hae,h2⟩ | ⟨h1,h2⟩
   ·omega
   ·omega
   ·exact h2
  subst hcell
  have hm:=exF_some (old:=old) hcb hae hbe
  have hadd:=iAdd_calls a 1 b has.sm'.1 has.sm'.2 hbs.sm'.1 hbs.sm'.2
  have hadds:=addF_small' a 1 b
  obtain ⟨A,hA⟩:∃ A,A=addF a 1 b:=⟨_,rfl⟩
  rw [← hA] at hm hadd hadds
  refine wexit ?_
  show AWp _ _ _ _ _
  refine wseq ?_
  refine wregI ([0,1,2,3,4] ++ ([5,6,7,8,9,10])) rfl fun K hK=>?_
  refine opsI_seg fun L hL=>?_
  simp [C.impl_exchange,exC2,fO]
  refine wcall1 (hadd) (by simp) (by simp) ?_
  simp [C.impl_exchange,exC2,fO]
  refine hL _ ?_;clear hL L
  refine opsI_end fun L hL=>?_
  simp [C.impl_exchange,exC2,fO]
  refine hL _ ?_;clear hL L
  simp [C.impl_exchange,exC2,fO]
  refine hK _ ?_;clear hK K
  show AWp _ _ _ _ _
  refine wseq ?_
  refine wseq ?_
  refine wreg fun K hK=>?_
  simp [C.impl_exchange]
  refine hK _ ?_;clear hK K
  show AWp _ _ _ _ _
  refine wcond _ rfl (fun hc6=>?_) (fun hc6=>?_)
  ·have hno:¬ A.2=true:=by simpa using hc6
   refine wseq ?_
   refine wreg fun K hK=>?_
   simp [C.impl_exchange]
   refine hK _ ?_;clear hK K
   show AWp _ _ _ _ _
   refine wret ?_
   simp [C.impl_exchange,hm,hno,fO,zeroF,rows]
  ·have hyes:A.2=true:=by simpa using hc6
   have hdiv:=iDiv_calls doneOk A.1 old hadds.sm'.1 hadds.sm'.2 holds.1 holds.2
   rw [if_pos hyes] at hm
   refine wskip ?_
   show AWp _ _ _ _ _
   refine wseq ?_
   refine wdrawI [(true,0),(true,1),(true,2),(true,3),(true,4),(false,5),(true,6),(true,7),(false,8),(true,9)] ⟨by kernel_rfl,by kernel_rfl⟩ ([0,1,2,3,4,5] ++ ([6,7,8,9])) rfl fun K hK=>?_
   refine opsI_seg fun L hL=>?_
   simp [C.impl_exchange,hkl,fS_0 hkl,fS_1 hkl,hkg,show (k:Int) < fs.length by omega,fO]
   refine wcall1 (hdiv) (by simp) (by simp) ?_
   simp [C.impl_exchange,hkl,fS_0 hkl,fS_1 hkl,hkg,show (k:Int) < fs.length by omega,fO]
   refine hL _ ?_;clear hL L
   refine opsI_end fun L hL=>?_
   simp [C.impl_exchange,hkl,fS_0 hkl,fS_1 hkl,hkg,show (k:Int) < fs.length by omega,fO]
   refine hL _ ?_;clear hL L
   simp [C.impl_exchange,hkl,fS_0 hkl,fS_1 hkl,hkg,show (k:Int) < fs.length by omega,fO]
   refine hK _ ?_;clear hK K
   show AWp _ _ _ _ _
   refine wret ?_
   simp [C.impl_exchange,hm,fO]
theorem iEx_calls (m:Mat) (n r k:Nat) (fs:List Lau) (v:Nat) (hv8:1<=v/\v<=8) (hn:m.n=n) (hr:m.r=r) (hS:ShM m) (hk:k < n) (hl:fs.length=r) (hf:∀ f∈fs,SmF f) (hv:∀ f∈fs,f.v=v):ACalls Tryz.prog F.impl_exchange [.ag [.int n,.int r,.d (shI m.d)],.d (.sh 2 fs.length (rows fS fs)),.int k] [] true (fun outs res=>outs=[]/\res=[.ag (fO (exF fs (colM m r k) v (fs.getD k zeroF)).1),.one (D.bool (exF fs (colM m r k) v (fs.getD k zeroF)).2)]):=(impl_exchange_calls m n r k fs v hv8 hn hr hS hk hl hf hv).weak1
noncomputable def seedF (s:Sed) (k:Int):Sed×Bool:=
 if SeedOK s/\(0<=k/\k < s.m.n)/\(exF s.f (colM s.m s.m.r.toNat k.toNat) s.m.r.toNat (s.f.getD k.toNat zeroF)).2=true/\(muF s.m k).2=true then
  (⟨(muF s.m k).1,s.f.set k.toNat (exF s.f (colM s.m s.m.r.toNat k.toNat) s.m.r.toNat (s.f.getD k.toNat zeroF)).1⟩,true) else (⟨⟨0,0,[]⟩,[]⟩,false)
theorem impl_MutateSeed_calls (s:Sed) (k:Int) (hx:s.m.d.length < 17592186044416) (hl:s.f.length < 4611686018427387904) (hf:∀ f∈s.f,SmF f):ACalls Tryz.prog F.impl_MutateSeed [aS s,.int k] [] true (fun outs res=>outs=[]/\WkRs res [.ag (sO (seedF s k).1),.one (D.bool (seedF s k).2)]):=by
 refine ACalls.of_body (C:=C.impl_MutateSeed) (n:=Tryz.f23.ntmps) tabT folT Tryz.func23 rfl (by kernel_rfl) rfl (Nat.le_of_ble_eq_true rfl) (by decide) (by kernel_rfl) (by kernel_rfl) rfl (by simp) (by simp) ?_
 simp only [Tryz.f23]
 refine wseq ?_
 refine wreg fun K hK=>?_
 simp [C.impl_MutateSeed,sS]
 refine hK _ ?_;clear hK K
 show AWp _ _ _ _ _
 refine wseq ?_
 refine wseq ?_
 refine wregI ([0,1] ++ ([2,3,4,5,6,7,8,9] ++ ([10,11]))) rfl fun K hK=>?_
 have hJ:K ⟨ofL [(1,.int k),(2,.pt (2,0) [] 0),(4,.pt (4,0) [] 0),(22,.bool (!decide (SeedOK s/\(0<=k/\k < s.m.n))))],ofRO [((2,0),some (.bx (sS s))),((4,0),some (.bx [D.int 0,D.int 0,.v (.slice none 0 0),.v (.slice none 0 0)]))]⟩:=by
  refine hK _ ?_;clear hK K
  show AWp _ _ _ _ _
  refine wcond _ rfl (fun hc1=>?_) (fun hc1=>?_)
  ·have hr:=nd_t hc1
   have hm:seedF s k=(⟨⟨0,0,[]⟩,[]⟩,false):=if_neg (fun h=>hr ⟨h.1,h.2.1⟩)
   refine wseq ?_
   refine wreg fun K hK=>?_
   simp [C.impl_MutateSeed,sS]
   refine hK _ ?_;clear hK K
   show AWp _ _ _ _ _
   refine wret ?_
   simp [C.impl_MutateSeed,sS,hm,sO,ints,rows]
  ·have hr:=nd_f hc1
   obtain ⟨hok,hk⟩:=hr
   have hS:=hok.1.1
   obtain ⟨n,hn⟩:∃ n:Nat,s.m.n=n:=⟨s.m.n.toNat,by have:=hS.1;omega⟩
   obtain ⟨r,hr⟩:∃ r:Nat,s.m.r=r:=⟨s.m.r.toNat,by have:=hS.1;have:=hS.2.1;omega⟩
   obtain ⟨k,rfl⟩:∃ j:Nat,k=j:=⟨k.toNat,by omega⟩
   have hnr:n<=r/\r<=8:=by have:=hS.2.1;omega
   have hfl:s.f.length=r:=by have:=hok.2.1;omega
   have hkn:k < n:=by omega
   have hex:=iEx_calls s.m n r k s.f r (by omega) hn hr hS hkn hfl hf (fun f hm=>by rw [(hok.2.2 f hm).2.2,hr])
   have hmu:=iMu_calls s.m k hx
   have hm:seedF s k=if (exF s.f (colM s.m r k) r (s.f.getD k zeroF)).2=true/\(muF s.m k).2=true then
     (⟨(muF s.m k).1,s.f.set k (exF s.f (colM s.m r k) r (s.f.getD k zeroF)).1⟩,true) else (⟨⟨0,0,[]⟩,[]⟩,false):=by
    unfold seedF
    rw [show s.m.r.toNat=r by omega,Int.toNat_natCast]
    by_cases q:(exF s.f (colM s.m r k) r (s.f.getD k zeroF)).2=true/\(muF s.m k).2=true
    ·rw [if_pos ⟨hok,hk,q⟩,if_pos q]
    ·rw [if_neg (fun h=>q h.2.2),if_neg q]
   obtain ⟨E,hE⟩:∃ E,E=exF s.f (colM s.m r k) r (s.f.getD k zeroF):=⟨_,rfl⟩
   obtain ⟨M,hM⟩:∃ M,M=muF s.m k:=⟨_,rfl⟩
   rw [← hE] at hex hm
   rw [← hM] at hmu hm
   clear hE hM
   have haM:aM s.m = .ag [.int n,.int r,.d (shI s.m.d)]:=by rw [← hn,← hr]
   rw [haM] at hmu
   have hcopy:=impl_copySeed_calls s hx (by omega) (fun f hm=>by
    have h1:=(hok.2.2 f hm).1
    exact ⟨by have:=h1.2.1;omega,fun t ht=>by have:=(h1.2.2.1 t ht).1;have:=h1.1;omega⟩)
   refine wskip ?_
   show AWp _ _ _ _ _
   refine wseq ?_
   refine wregI ([0,1,2,3,4,5] ++ ([6,7,8,9,10,11])) rfl fun K hK=>?_
   refine opsI_seg fun L hL=>?_
   simp [C.impl_MutateSeed,sS,hn,hr,fO]
   refine wcall1 (hex) (by simp) (by simp) ?_
   simp [C.impl_MutateSeed,sS,hn,hr,fO]
   refine hL _ ?_;clear hL L
   refine opsI_end fun L hL=>?_
   simp [C.impl_MutateSeed,sS,hn,hr,fO]
   refine hL _ ?_;clear hL L
   simp [C.impl_MutateSeed,sS,hn,hr,fO]
   refine hK _ ?_;clear hK K
   show AWp _ _ _ _ _
   refine wseq ?_
   refine wregI ([0,1,2,3] ++ ([4,5,6,7,8,9])) rfl fun K hK=>?_
   refine opsI_seg fun L hL=>?_
   simp [C.impl_MutateSeed,sS,hn,hr,mO]
   refine wcall1 (hmu) (by simp) (by simp) ?_
   simp [C.impl_MutateSeed,sS,hn,hr,mO]
   refine hL _ ?_;clear hL L
   refine opsI_end fun L hL=>?_
   simp [C.impl_MutateSeed,sS,hn,hr,mO]
   refine hL _ ?_;clear hL L
   simp [C.impl_MutateSeed,sS,hn,hr,mO]
   refine hK _ ?_;clear hK K
   show AWp _ _ _ _ _
   refine wseq ?_
   refine wseq ?_
   refine wreg fun K hK=>?_
   have hJ:K ⟨ofL [(1,.int k),(2,.pt (2,0) [] 0),(4,.pt (4,0) [] 0),(6,.pt (6,0) [] 0),(8,.pt (8,0) [] 0),(45,.bool (!(E.2 && M.2)))],ofRO [((2,0),some (.bx (sS s))),((4,0),some (.bx [D.int 0,D.int 0,.v (.slice none 0 0),.v (.slice none 0 0)])),((6,0),some (.bx (fO E.1))),((8,0),some (.bx (mO M.1)))]⟩:=by
    refine hK _ ?_;clear hK K
    show AWp _ _ _ _ _
    refine wcond _ rfl (fun hc2=>?_) (fun hc2=>?_)
    ·have hno:¬ (E.2=true/\M.2=true):=by
      rintro ⟨q1,q2⟩
      rw [q1,q2] at hc2
      simp at hc2
     refine wseq ?_
     refine wreg fun K hK=>?_
     simp [C.impl_MutateSeed,sS]
     refine hK _ ?_;clear hK K
     show AWp _ _ _ _ _
     refine wret ?_
     simp [C.impl_MutateSeed,sS,hm,hno,sO,ints,rows]
    ·have hyes:E.2=true/\M.2=true:=by simpa using hc2
     refine wskip ?_
     show AWp _ _ _ _ _
     refine wseq ?_
     refine wregI ([0,1] ++ ([2,3])) rfl fun K hK=>?_
     refine opsI_seg fun L hL=>?_
     simp [C.impl_MutateSeed,sS,sO]
     refine wcall1 (hcopy) (by simp) (by simp) ?_
     simp [C.impl_MutateSeed,sS,sO]
     refine hL _ ?_;clear hL L
     refine opsI_end fun L hL=>?_
     simp [C.impl_MutateSeed,sS,sO]
     refine hL _ ?_;clear hL L
     simp [C.impl_MutateSeed,sS,sO]
     refine hK _ ?_;clear hK K
     show AWp _ _ _ _ _
     refine wseq ?_
     refine wreg fun K hK=>?_
     simp [C.impl_MutateSeed,sS,mO]
     refine hK _ ?_;clear hK K
     show AWp _ _ _ _ _
     refine wseq ?_
     refine wreg fun K hK=>?_
     simp [C.impl_MutateSeed,sS,fO,show k < s.f.length by omega,show (k:Int) < s.f.length by omega,fO_0 (show k < s.f.length by omega),fO_1 (show k < s.f.length by omega),fO_set2]
     refine hK _ ?_;clear hK K
     show AWp _ _ _ _ _
     refine wseq ?_
     refine wreg fun K hK=>?_
     simp [C.impl_MutateSeed,sS]
     refine hK _ ?_;clear hK K
     show AWp _ _ _ _ _
     refine wret ?_
     simp [C.impl_MutateSeed,sS,hm,hyes,sO]
   clear hK
   by_cases h1:E.2=true
   ·simp [C.impl_MutateSeed,sS,h1]
    refine cast (congrArg K ?_) hJ
    simp [hn,hr,fO,mO,sS,sS,h1]
   ·simp [C.impl_MutateSeed,sS,h1]
    refine cast (congrArg K ?_) hJ
    simp [hn,hr,fO,mO,sS,sS,h1]
 clear hK
 by_cases h1:SeedOK s
 ·have hwn:IntKind.i64.wrap (s.m.n - 1)=s.m.n - 1:=by have:=h1.1.1.1;exact wrapOk (by omega) (by omega)
  have hle:∀ x:Int,(x<=s.m.n - 1)=(x < s.m.n):=fun x=>by rw [eq_iff_iff];omega
  refine opsI_seg fun L hL=>?_
  simp [C.impl_MutateSeed,sS,hwn,hle,h1]
  refine wcall1 (impl_SeedOk_calls s hx hl hf) (by simp) (by simp) ?_
  simp [C.impl_MutateSeed,sS,hwn,hle,h1]
  refine hL _ ?_;clear hL L
  refine opsI_seg fun L hL=>?_
  simp [C.impl_MutateSeed,sS,hwn,hle,h1]
  refine wcall1 (impl_within_calls k 0 (s.m.n - 1)) (by simp) (by simp) ?_
  simp [C.impl_MutateSeed,sS,hwn,hle,h1]
  refine hL _ ?_;clear hL L
  refine opsI_end fun L hL=>?_
  simp [C.impl_MutateSeed,sS,hwn,hle,h1]
  refine hL _ ?_;clear hL L
  simp [C.impl_MutateSeed,sS,hwn,hle,h1]
  refine cast (congrArg K ?_) hJ
  simp [Bool.not_and,sS,h1]
 ·refine opsI_seg fun L hL=>?_
  simp [C.impl_MutateSeed,sS,h1]
  refine wcall1 (impl_SeedOk_calls s hx hl hf) (by simp) (by simp) ?_
  simp [C.impl_MutateSeed,sS,h1]
  refine hL _ ?_;clear hL L
  refine opsI_seg fun L hL=>?_
  simp [C.impl_MutateSeed,sS,h1]
  refine hL _ ?_;clear hL L
  refine opsI_end fun L hL=>?_
  simp [C.impl_MutateSeed,sS,h1]
  refine hL _ ?_;clear hL L
  simp [C.impl_MutateSeed,sS,h1]
  refine cast (congrArg K ?_) hJ
  simp [Bool.not_and,sS,h1]
end Go.Proofs.YtbhkonnakkhibaaGreat.Ab
namespace Go.Proofs.YtbhkonnakkhibaaGreat.Ab
open Go
set_option maxRecDepth 10000
set_option maxHeartbeats 2000000
def zeroS:Sed:=⟨⟨0,0,[]⟩,[]⟩
def GdS (s:Sed):Prop:=s.m.d.length<=40/\s.f.length<=8/\∀ f∈s.f,SmallF f
theorem GdS.ok {s:Sed} (h:SeedOK s):GdS s:=by
 refine ⟨?_,by have:=h.2.1;have:=h.1.1.2.1;omega,fun f hf=>small_right (h.2.2 f hf).1⟩
 have hS:=h.1.1
 have h1:=hS.2.2.1
 have h2:=hS.1
 have h3:=hS.2.1
 have:s.m.n*s.m.r<=5*8:=Int.mul_le_mul (by omega) (by omega) (by omega) (by omega)
 omega
theorem GdS.sm {s:Sed} (h:GdS s):s.m.d.length < 17592186044416/\s.f.length < 4611686018427387904/\∀ f∈s.f,SmF f:=
 ⟨by have:=h.1;omega,by have:=h.2.1;omega,fun f hf=>(h.2.2 f hf).sm'⟩
theorem iMs_calls (s:Sed) (k:Int) (hx:s.m.d.length < 17592186044416) (hl:s.f.length < 4611686018427387904) (hf:∀ f∈s.f,SmF f):ACalls Tryz.prog F.impl_MutateSeed [aS s,.int k] [] true (fun outs res=>outs=[]/\res=[.ag (sO (seedF s k).1),.one (D.bool (seedF s k).2)]):=(impl_MutateSeed_calls s k hx hl hf).weak1
end Go.Proofs.YtbhkonnakkhibaaGreat.Ab
namespace Go.Proofs.YtbhkonnakkhibaaGreat.Ab
open Go
set_option linter.unusedSectionVars false
section
variable {K:Type} [DecidableEq K] {lt:K->K->Bool} {mul dv:K->K->K} {D:K->Prop} {chk:K->Int->Bool}
theorem insK_top {k:K} {c:Int} (ho:Ord lt) (hc:c≠0):∀ (l:List (K×Int)),(∀ x∈l,lt x.1 k=true)->insK lt k c l=(k,c) :: l
 | [],_=>by simp [insK,hc]
 | x :: l,h=>by
  have hx:=h x (by simp)
  have hne:¬ x.1=k:=fun e=>by rw [e,ho.irr] at hx;simp at hx
  simp only [insK]
  rw [if_neg hne,if_pos hx,if_neg hc]
theorem co_prodK_cons (q:K) (x:K×Int) (a g:List (K×Int)):co q (prodK mul (x :: a) g)=co q (mulT mul x.1 x.2 g)+co q (prodK mul a g):=by
 unfold prodK
 rw [List.flatMap_cons,co_append]
theorem prodK_mem {a g:List (K×Int)} {y:K×Int} (h:y∈prodK mul a g):∃ x∈a,∃ z∈g,y=(mul x.1 z.1,x.2*z.2):=by
 unfold prodK at h
 obtain ⟨x,hx,h⟩:=List.mem_flatMap.1 h
 obtain ⟨z,hz,h⟩:=List.mem_map.1 h
 exact ⟨x,hx,z,hz,h.symm⟩
theorem divGo_prod (ho:Ord lt) (ha:Act lt mul dv D) (hdm:∀ a b,D a->D b->dv (mul a b) b=a) (hml:∀ x y b,D x->D y->D b->lt x y=true->lt (mul x b) (mul y b)=true)
  {b:K} {d:Int} {gt:List (K×Int)} (hgd:Desc lt ((b,d) :: gt)) (hg0:d≠0) (hgD:∀ x∈(b,d) :: gt,D x.1) :
  ∀ (k:Nat) (fs:List (K×Int)),Desc lt fs->Nz fs->(∀ x∈fs,D x.1/\chk x.1 x.2=true)->fs.length<=k->divGo lt mul dv chk ((b,d) :: gt) b d k (nf lt (prodK mul fs ((b,d) :: gt)))=some fs
 | k,[],_,_,_,_=>by cases k <;> rfl
 | 0,x :: fs,_,_,_,h=>by simp at h
 | k+1,x :: fs,hd,hz,hc,hk=>by
  obtain ⟨hd1,hd2⟩:=List.pairwise_cons.1 hd
  have hxz:=hz x (by simp)
  have hxD:=(hc x (by simp)).1
  have hbD:=hgD (b,d) (by simp)
  have hc0:x.2*d≠0:=Int.mul_ne_zero hxz hg0
  have hgt:=(List.pairwise_cons.1 hgd).1
  -- the greatest term
  have hrest:∀ y∈mulT mul x.1 x.2 gt ++ prodK mul fs ((b,d) :: gt),lt y.1 (mul x.1 b)=true:=fun y hy=>by
   rcases List.mem_append.1 hy with hy | hy
   ·obtain ⟨z,hzg,rfl⟩:=List.mem_map.1 hy
    exact ha.mul_lt _ _ _ hxD (hgD z (by simp [hzg])) hbD (hgt z hzg)
   ·obtain ⟨u,hu,z,hzg,rfl⟩:=prodK_mem hy
    have huD:=(hc u (by simp [hu])).1
    have h1:=hml _ _ b huD hxD hbD (hd1 u hu)
    rcases List.mem_cons.1 hzg with rfl | hzg
    ·exact h1
    ·exact ho.tr _ _ _ (ha.mul_lt _ _ _ huD (hgD z (by simp [hzg])) hbD (hgt z hzg)) h1
  have hR:nf lt (prodK mul (x :: fs) ((b,d) :: gt))=(mul x.1 b,x.2*d) :: nf lt (mulT mul x.1 x.2 gt ++ prodK mul fs ((b,d) :: gt)):=by
   have e:prodK mul (x :: fs) ((b,d) :: gt)=(mul x.1 b,x.2*d) :: (mulT mul x.1 x.2 gt ++ prodK mul fs ((b,d) :: gt)):=rfl
   rw [e]
   show insK lt (mul x.1 b) (x.2*d) (nf lt _)=_
   refine insK_top ho hc0 _ fun y hy=>?_
   obtain ⟨z,hzz,e2⟩:=nf_mem hy
   rw [← e2]
   exact hrest z hzz
  rw [hR]
  simp only [divGo]
  have h1:(x.2*d).tmod d=0:=Int.mul_tmod_left _ _
  have h2:(x.2*d).tdiv d=x.2:=Int.mul_tdiv_cancel _ hg0
  rw [hdm _ _ hxD hbD,h1,h2,if_pos ⟨rfl,(hc x (by simp)).2⟩]
  have hnf:nf lt ((mul x.1 b,x.2*d) :: nf lt (mulT mul x.1 x.2 gt ++ prodK mul fs ((b,d) :: gt)) ++ mulT mul x.1 (-x.2) ((b,d) :: gt))=nf lt (prodK mul fs ((b,d) :: gt)):=by
   refine nf_unique ho (nf_desc ho _) (nf_nz _) fun q=>?_
   rw [nf_co,← hR,co_append,nf_co,co_prodK_cons,co_mulT_neg]
   omega
  rw [hnf,divGo_prod ho ha hdm hml hgd hg0 hgD k fs hd2 (fun y hy=>hz y (by simp [hy])) (fun y hy=>hc y (by simp [hy])) (by simpa using hk)]
  rfl
end
end Go.Proofs.YtbhkonnakkhibaaGreat.Ab
namespace Go.Proofs.YtbhkonnakkhibaaGreat.Ab
open Go
theorem addE_vd:∀ (a b:List Int),a.length=b.length->addE (-1) (addE 1 a b) b=a
 | [],[],_=>rfl
 | x :: a,y :: b,h=>by
  simp only [addE,addE_vd a b (by simpa using h)]
  congr 1
  omega
 | [],_ :: _,h=>by simp at h
 | _ :: _,[],h=>by simp at h
theorem lau_eta (f:Lau):(⟨f.v,(f.ts.map pr).map tm⟩:Lau)=f:=by
 rw [List.map_map]
 have:tm ∘ pr=id:=rfl
 rw [this,List.map_id]
theorem pr_tm (l:List (List Int×Int)):(l.map tm).map pr=l:=by
 rw [List.map_map]
 exact List.map_id _
theorem div_mul {f g P:Lau} (hf:Right f) (hg:Right g) (hv:f.v=g.v) (hne:g.ts≠[]) (hP:mulF f g=(P,true)):divF P g=(f,true):=by
 have hm:mulF f g=shutF f.v (prodL (f.ts.map pr) (g.ts.map pr)):=if_pos ⟨hf,hg,hv⟩
 rw [hm] at hP
 unfold shutF at hP
 split at hP
 ·rename_i hR
  injection hP with hP _
  subst hP
  obtain ⟨n,hn⟩:∃ n:Nat,f.v=n:=⟨f.v.toNat,by have:=hf.1;omega⟩
  have hn2:g.v=n:=by omega
  unfold divF
  rw [if_pos ⟨⟨hR,hg,hv⟩,hne⟩]
  simp only [pr_tm]
  match hgt:g.ts,hne with
  | t :: ts,_=>
   have hd:=divGo_prod (mul:=addE 1) (dv:=addE (-1)) (chk:=chkI) lexOrd (lauAct n) (fun a b h1 h2=>addE_vd a b (h1.trans h2.symm)) (fun x y b h1 h2 h3 h=>by rw [lexlt_addE _ _ _ _ (h1.trans h3.symm) (h2.trans h3.symm)];exact h)
    (b:=t.e) (d:=t.c) (gt:=ts.map pr) (by have:=pr_desc hg;rw [hgt] at this;exact this) ((hg.2.2.1 t (by rw [hgt];simp)).2.1)
    (fun x hx=>by have:=pr_dig hg hn2;rw [hgt] at this;exact (this x hx).1) 600 (f.ts.map pr) (pr_desc hf) (pr_nz hf)
    (fun x hx=>⟨(pr_dig hf hn x hx).1,by
     obtain ⟨u,hu,rfl⟩:=List.mem_map.1 hx
     have:=hf.2.2.1 u hu
     exact decide_eq_true ⟨this.2.2.2,this.2.1,this.2.2.1⟩⟩) (by simpa using hf.2.1)
   have e:divL chkI g 600 (nf lexlt (prodL (f.ts.map pr) ((t :: ts).map pr)))=some (f.ts.map pr):=by
    unfold divL leadE leadC
    rw [hgt]
    exact hd
   rw [e]
   simp only [endF,lau_eta]
   rw [if_pos hf]
 ·injection hP with _ h
  simp at h
end Go.Proofs.YtbhkonnakkhibaaGreat.Ab
namespace Go.Proofs.YtbhkonnakkhibaaGreat.Ab
open Go
section
variable {K:Type} [DecidableEq K] {lt:K->K->Bool} {mul:K->K->K}
def vl (φ:K->Int):List (K×Int)->Int
 | []=>0
 | x :: l=>x.2*φ x.1+vl φ l
omit [DecidableEq K] in
theorem vl_app (φ:K->Int):∀ l r:List (K×Int),vl φ (l ++ r)=vl φ l+vl φ r
 | [],r=>by simp [vl]
 | x :: l,r=>by simp only [List.cons_append,vl,vl_app φ l r];omega
theorem co_vl (k:K):∀ l:List (K×Int),co k l=vl (fun e=>if e=k then 1 else 0) l
 | []=>rfl
 | x :: l=>by
  simp only [co,vl,co_vl k l]
  split <;> simp
theorem nf_vl (ho:Ord lt) {l r:List (K×Int)} (h:∀ φ,vl φ l=vl φ r):nf lt l=nf lt r:=
 nf_unique ho (nf_desc ho _) (nf_nz _) fun k=>by rw [nf_co,co_vl,co_vl,h]
omit [DecidableEq K] in
theorem vl_congr {φ ψ:K->Int}:∀ {l:List (K×Int)},(∀ x∈l,φ x.1=ψ x.1)->vl φ l=vl ψ l
 | [],_=>rfl
 | x :: l,h=>by
  simp only [vl,h x (by simp),vl_congr (l:=l) fun y hy=>h y (by simp [hy])]
omit [DecidableEq K] in
theorem vl_add (φ ψ:K->Int):∀ l:List (K×Int),vl (fun e=>φ e+ψ e) l=vl φ l+vl ψ l
 | []=>rfl
 | x :: l=>by
  simp only [vl,vl_add φ ψ l,Int.mul_add]
  omega
omit [DecidableEq K] in
theorem vl_mul (c:Int) (φ:K->Int):∀ l:List (K×Int),vl (fun e=>c*φ e) l=c*vl φ l
 | []=>by simp [vl]
 | x :: l=>by
  simp only [vl,vl_mul c φ l,Int.mul_add]
  rw [Int.mul_left_comm]
omit [DecidableEq K] in
theorem vl_zero:∀ l:List (K×Int),vl (fun _=>0) l=0
 | []=>rfl
 | x :: l=>by simp [vl,vl_zero l]
omit [DecidableEq K] in
theorem vl_fub {J:Type} (φ:K->J->Int) (b:List (J×Int)):∀ a:List (K×Int),vl (fun e=>vl (fun e'=>φ e e') b) a=vl (fun e'=>vl (fun e=>φ e e') a) b
 | []=>by
  simp only [vl]
  rw [vl_zero]
 | x :: a=>by
  simp only [vl]
  rw [vl_add,vl_mul,vl_fub φ b a]
omit [DecidableEq K] in
theorem vl_map (g:K->K) (q:Int) (φ:K->Int):∀ l:List (K×Int),vl φ (l.map fun y=>(g y.1,q*y.2))=q*vl (fun e=>φ (g e)) l
 | []=>by simp [vl]
 | x :: l=>by
  simp only [List.map_cons,vl,vl_map g q φ l,Int.mul_add,Int.mul_assoc]
omit [DecidableEq K] in
theorem vl_prodK (φ:K->Int) (g:List (K×Int)):∀ a:List (K×Int),vl φ (prodK mul a g)=vl (fun e=>vl (fun e'=>φ (mul e e')) g) a
 | []=>rfl
 | x :: a=>by
  have:=vl_prodK φ g a
  unfold prodK at this ⊢
  simp only [List.flatMap_cons,vl_app,vl,this]
  unfold mulT
  rw [vl_map]
omit [DecidableEq K] in
theorem vl_prod_com {D:K->Prop} (hc:∀ a b,D a->D b->mul a b=mul b a) (φ:K->Int) {a b:List (K×Int)} (ha:∀ x∈a,D x.1) (hb:∀ x∈b,D x.1):vl φ (prodK mul a b)=vl φ (prodK mul b a):=by
 rw [vl_prodK,vl_prodK,vl_fub]
 exact vl_congr fun x hx=>vl_congr fun y hy=>by rw [hc _ _ (ha y hy) (hb x hx)]
omit [DecidableEq K] in
omit [DecidableEq K] in
end
end Go.Proofs.YtbhkonnakkhibaaGreat.Ab
namespace Go.Proofs.YtbhkonnakkhibaaGreat.Ab
open Go
def invN:Nat->Nat->Nat->Nat->Nat
 | 0,o,_,_=>o
 | k+1,o,b,n=>bif n % 2 == 1 then invN k (o*b % 32003) (b*b % 32003) (n / 2) else invN k o (b*b % 32003) (n / 2)
def invOne (x:Nat):Bool:=Nat.beq (invN 15 1 x 32001*x % 32003) 1
def invChk (lo:Nat):Nat->Bool
 | 0=>true
 | k+1=>bif invOne (lo+k) then invChk lo k else false
def rsd (x:Int):Nat:=(x % 32003).toNat
theorem rsd_lt (x:Int):rsd x < 32003:=by unfold rsd;omega
theorem rsd_int (x:Int):(rsd x:Int)=x % 32003:=by unfold rsd;omega
def pwN (x:Nat):Nat->Nat
 | 0=>1
 | n+1=>pwN x n*x % 32003
theorem pwN_lt (x n:Nat):pwN x n < 32003:=by
 cases n with
 | zero=>simp [pwN]
 | succ n=>exact Nat.mod_lt _ (by omega)
def pwZ (x:Nat) (e:Int):Nat:=if e < 0 then pwN (invN 15 1 x 32001) (-e).toNat else pwN x e.toNat
def evK (c:Int) (ys es:List Int):Nat->Nat
 | 0=>rsd c
 | k+1=>evK c ys es k*pwZ (rsd (ys.getD k 0)) (es.getD k 0) % 32003
def evS (ys:List Int) (n:Nat) (ts:List Trm):Nat->Nat
 | 0=>0
 | k+1=>(evS ys n ts k+evK (ts.getD k ⟨[],0⟩).c ys (ts.getD k ⟨[],0⟩).e n) % 32003
theorem evK_lt (c:Int) (ys es:List Int) (k:Nat):evK c ys es k < 32003:=by
 cases k with
 | zero=>exact rsd_lt c
 | succ k=>exact Nat.mod_lt _ (by omega)
theorem evS_lt (ys:List Int) (n:Nat) (ts:List Trm) (k:Nat):evS ys n ts k < 32003:=by
 cases k with
 | zero=>simp [evS]
 | succ k=>exact Nat.mod_lt _ (by omega)
def ValOk (f:Lau) (ys:List Int):Prop:=Right f/\(ys.length:Int)=f.v/\∀ y∈ys,y % 32003≠0
noncomputable instance (f:Lau) (ys:List Int):Decidable (ValOk f ys):=Classical.propDecidable _
noncomputable def evF (f:Lau) (ys:List Int):Int:=if ValOk f ys then evS ys ys.length f.ts f.ts.length else -1
end Go.Proofs.YtbhkonnakkhibaaGreat.Ab
namespace Go.Proofs.YtbhkonnakkhibaaGreat.Ab
open Go
set_option maxRecDepth 10000
set_option maxHeartbeats 2000000
def byts (xs:List Int):List D:=xs.map fun x=>D.v (.int .u8 x)
@[simp] theorem byts_length (xs:List Int):(byts xs).length=xs.length:=by simp [byts]
theorem byts_0 {xs:List Int} {i:Nat} (h:i < xs.length):(byts xs)[i]? = some (D.v (.int .u8 xs[i]))/\∀ h',(byts xs)[i]'h'=D.v (.int .u8 xs[i]):=by
 unfold byts
 exact ⟨by simp [h],fun _=>by simp⟩
theorem ints_snocA (xs:List Int) (x:Int):ints xs ++ [D.v (.int .i64 x)]=ints (xs ++ [x]):=by simp [ints]
def cur (xs:List Int) (i:Nat) (h:Int):D:=.bx [.sh 1 xs.length (byts xs),D.int i,D.int h]
attribute [local simp] cur
theorem laws_big_calls (xs:List Int):ACalls Tryz.prog F.laws_big [.d (.sh 1 xs.length (byts xs))] [] true (fun outs res=>outs=[]/\res=[.one (D.bool (decide (1048576 < (xs.length:Int))))]):=by
 refine ACalls.of_body (C:=C.laws_big) (n:=Tryz.f21.ntmps) tabT folT Tryz.func21 rfl (by kernel_rfl) rfl (Nat.le_of_ble_eq_true rfl) (by decide) (by kernel_rfl) (by kernel_rfl) rfl (by simp) (by simp) ?_
 simp only [Tryz.f21]
 refine wseq ?_
 refine wreg fun K hK=>?_
 simp [C.laws_big]
 refine hK _ ?_;clear hK K
 show AWp _ _ _ _ _
 refine wseq ?_
 refine wreg fun K hK=>?_
 simp [C.laws_big]
 refine hK _ ?_;clear hK K
 show AWp _ _ _ _ _
 refine wret ?_
 simp [C.laws_big]
end Go.Proofs.YtbhkonnakkhibaaGreat.Ab
namespace Go.Proofs.YtbhkonnakkhibaaGreat.Ab
open Go
set_option maxRecDepth 10000
set_option maxHeartbeats 2000000
attribute [local simp] cur
def Drawn (n:Nat) (f:Lau):Prop:=Right f/\f.v=n/\f.ts.length<=4/\∀ t∈f.ts,(-16<=t.c/\t.c<=16)/\∀ x∈t.e,-2<=x/\x<=2
end Go.Proofs.YtbhkonnakkhibaaGreat.Ab
namespace Go.Proofs.YtbhkonnakkhibaaGreat.Ab
open Go
set_option maxRecDepth 10000
set_option maxHeartbeats 2000000
attribute [local simp] cur
theorem laws_ints_calls (a b:List Int) (hx:a.length < 4611686018427387904):ACalls Tryz.prog F.laws_ints [.d (shI a),.d (shI b)] [] true (fun outs res=>outs=[]/\res=[.one (D.bool (decide (a=b)))]):=by
 refine ACalls.of_body (C:=C.laws_ints) (n:=Tryz.f86.ntmps) tabT folT Tryz.func86 rfl (by kernel_rfl) rfl (Nat.le_of_ble_eq_true rfl) (by decide) (by kernel_rfl) (by kernel_rfl) rfl (by simp) (by simp) ?_
 simp only [Tryz.f86]
 refine wseq ?_
 refine wreg fun K hK=>?_
 simp [C.laws_ints]
 refine hK _ ?_;clear hK K
 show AWp _ _ _ _ _
 refine wseq ?_
 refine wseq ?_
 refine wreg fun K hK=>?_
 simp [C.laws_ints]
 refine hK _ ?_;clear hK K
 show AWp _ _ _ _ _
 refine wcond _ rfl (fun hc1=>?_) (fun hc1=>?_)
 ·refine wseq ?_
  refine wreg fun K hK=>?_
  simp [C.laws_ints]
  refine hK _ ?_;clear hK K
  show AWp _ _ _ _ _
  refine wret ?_
  have hc:¬ a.length=b.length:=by simp at hc1;omega
  simp [C.laws_ints]
  intro e;simp [e] at hc
 ·refine wskip ?_
  show AWp _ _ _ _ _
  refine wseq ?_
  refine wseq ?_
  refine wreg fun K hK=>?_
  simp [C.laws_ints]
  refine hK _ ?_;clear hK K
  show AWp _ _ _ _ _
  refine wblock ?_
  have e:a.length=b.length:=by simp at hc1;omega
  refine wloop (fun k:Nat=>⟨ofL [(0,.d (shI a)),(1,.d (shI b)),(5,FV.int k)],ofRO []⟩) (fun k=>k<=a.length/\a.take k=b.take k) (fun k=>a.length - k) 0 (by simp [C.laws_ints]) (by simp) ?_
  intro x1 hx1 R1 hR1
  obtain ⟨hk,ht⟩:=hx1
  refine wseq ?_
  refine wseq ?_
  refine wreg fun K hK=>?_
  simp [C.laws_ints]
  refine hK _ ?_;clear hK K
  show AWp _ _ _ _ _
  refine wcond _ rfl (fun hc2=>?_) (fun hc2=>?_)
  ·refine wskip ?_
   show AWp _ _ _ _ _
   refine wseq ?_
   refine wblock ?_
   refine wseq ?_
   have h1:x1 < a.length:=by simpa using hc2
   have h2:x1 < b.length:=by omega
   refine wdraw (.take 0 (.take 1 (.take 2 (.take 3 (.take 4 (.take 5 (.take 6 (.take 7 (.take 8 (.done)))))))))) ⟨by kernel_rfl,by kernel_rfl⟩ fun K hK=>?_
   simp [C.laws_ints,h1,h2,get_ints]
   refine hK _ ?_;clear hK K
   show AWp _ _ _ _ _
   refine wcond _ rfl (fun hc3=>?_) (fun hc3=>?_)
   ·refine wseq ?_
    refine wreg fun K hK=>?_
    simp [C.laws_ints]
    refine hK _ ?_;clear hK K
    show AWp _ _ _ _ _
    refine wret ?_
    have hc:¬ a[x1]=b[x1]:=by simpa using hc3
    simp [C.laws_ints]
    intro e2
    subst e2
    exact hc rfl
   ·refine wskip ?_
    show AWp _ _ _ _ _
    refine wreg fun K hK=>?_
    simp [C.laws_ints,wrap_succ (show x1 < 4611686018427387904 by omega)]
    refine hK _ ?_;clear hK K
    simp [C.laws_ints]
    have hc:a[x1]=b[x1]:=by simpa using hc3
    refine hR1 (x1+1) ⟨h1,?_⟩ (by omega)
    rw [List.take_succ_eq_append_getElem h1,List.take_succ_eq_append_getElem h2,ht,hc]
  ·refine wexit ?_
   show AWp _ _ _ _ _
   refine wseq ?_
   refine wreg fun K hK=>?_
   simp [C.laws_ints]
   refine hK _ ?_;clear hK K
   show AWp _ _ _ _ _
   refine wret ?_
   have hk2:x1=a.length:=by simp at hc2;omega
   simp [C.laws_ints]
   rw [hk2,List.take_length,e,List.take_length] at ht
   exact ht
theorem laws_laurents_calls (f g:Lau) (hx:f.ts.length < 4611686018427387904) (hxe:∀ t∈f.ts,t.e.length < 4611686018427387904):ACalls Tryz.prog F.laws_laurents [aF f,aF g] [] true (fun outs res=>outs=[]/\res=[.one (D.bool (decide (f=g)))]):=by
 refine ACalls.of_body (C:=C.laws_laurents) (n:=Tryz.f30.ntmps) tabT folT Tryz.func30 rfl (by kernel_rfl) rfl (Nat.le_of_ble_eq_true rfl) (by decide) (by kernel_rfl) (by kernel_rfl) rfl (by simp) (by simp) ?_
 simp only [Tryz.f30]
 refine wseq ?_
 refine wreg fun K hK=>?_
 simp [C.laws_laurents,fS]
 refine hK _ ?_;clear hK K
 show AWp _ _ _ _ _
 refine wseq ?_
 refine wseq ?_
 refine wregI ([0,1,2,3,4,5,6,7,8,9,10,11,12,13]) rfl fun K hK=>?_
 have hJ:K ⟨ofL [(2,.pt (2,0) [] 0),(3,.pt (3,0) [] 0),(19,.bool (!decide (f.v=g.v/\(f.ts.length:Int)=g.ts.length)))],ofRO [((2,0),some (.bx (fS f))),((3,0),some (.bx (fS g)))]⟩:=by
  refine hK _ ?_;clear hK K
  show AWp _ _ _ _ _
  refine wcond _ rfl (fun hc1=>?_) (fun hc1=>?_)
  ·have hc:=nd_t hc1
   refine wseq ?_
   refine wreg fun K hK=>?_
   simp [C.laws_laurents,fS]
   refine hK _ ?_;clear hK K
   show AWp _ _ _ _ _
   refine wret ?_
   simp [C.laws_laurents,fS]
   intro e
   subst e
   exact hc ⟨rfl,rfl⟩
  ·have hc0:=nd_f hc1
   have hc:f.v=g.v/\f.ts.length=g.ts.length:=⟨hc0.1,by have:=hc0.2;omega⟩
   refine wskip ?_
   show AWp _ _ _ _ _
   refine wseq ?_
   refine wseq ?_
   refine wreg fun K hK=>?_
   simp [C.laws_laurents,fS]
   refine hK _ ?_;clear hK K
   show AWp _ _ _ _ _
   refine wblock ?_
   refine wloop (fun k:Nat=>⟨ofL [(2,.pt (2,0) [] 0),(3,.pt (3,0) [] 0),(5,FV.int k)],ofRO [((2,0),some (.bx (fS f))),((3,0),some (.bx (fS g)))]⟩) (fun k=>k<=f.ts.length/\f.ts.take k=g.ts.take k) (fun k=>f.ts.length - k) 0 (by simp [C.laws_laurents,fS]) (by simp) ?_
   intro x1 hx1 R1 hR1
   obtain ⟨hk,ht⟩:=hx1
   refine wseq ?_
   refine wseq ?_
   refine wreg fun K hK=>?_
   simp [C.laws_laurents,fS]
   refine hK _ ?_;clear hK K
   show AWp _ _ _ _ _
   refine wcond _ rfl (fun hc2=>?_) (fun hc2=>?_)
   ·have h1:x1 < f.ts.length:=by have:=d_t hc2;omega
    have h2:x1 < g.ts.length:=by omega
    refine wskip ?_
    show AWp _ _ _ _ _
    refine wseq ?_
    refine wblock ?_
    refine wseq ?_
    refine wdrawI [(true,0),(true,1),(true,2),(true,3),(true,4),(true,5),(true,6),(true,7),(true,8),(true,9),(true,10),(true,11),(true,12),(true,13),(true,14),(true,15),(true,16),(true,17),(true,18),(true,19),(true,20),(true,21),(true,22),(true,23),(true,24),(true,25),(false,26),(true,27),(true,28)] ⟨by kernel_rfl,by kernel_rfl⟩ ([0,1,2,3,4,5,6,7,8,9,10,11,12,13,14,15,16,17,18,19,20,21,22,23,24,25,26] ++ ([27,28])) rfl fun K hK=>?_
    have hJ:K ⟨ofL [(2,.pt (2,0) [] 0),(3,.pt (3,0) [] 0),(5,FV.int x1),(55,.bool (!decide (f.ts[x1].c=g.ts[x1].c/\f.ts[x1].e=g.ts[x1].e)))],ofRO [((2,0),some (.bx (fS f))),((3,0),some (.bx (fS g)))]⟩:=by
     refine hK _ ?_;clear hK K
     show AWp _ _ _ _ _
     refine wcond _ rfl (fun hc3=>?_) (fun hc3=>?_)
     ·have hb:=nd_t hc3
      refine wseq ?_
      refine wreg fun K hK=>?_
      simp [C.laws_laurents,fS]
      refine hK _ ?_;clear hK K
      show AWp _ _ _ _ _
      refine wret ?_
      simp [C.laws_laurents,fS]
      intro e
      subst e
      exact hb ⟨rfl,rfl⟩
     ·have hb:=nd_f hc3
      refine wskip ?_
      show AWp _ _ _ _ _
      refine wreg fun K hK=>?_
      simp [C.laws_laurents,fS,wrap_succ (show x1 < 4611686018427387904 by omega)]
      refine hK _ ?_;clear hK K
      simp [C.laws_laurents,fS]
      refine hR1 (x1+1) ⟨h1,?_⟩ (by omega)
      have he:f.ts[x1]=g.ts[x1]:=by
       cases hf:f.ts[x1]
       cases hg:g.ts[x1]
       simp only [hf,hg] at hb
       simp [hb.1,hb.2]
      rw [List.take_succ_eq_append_getElem h1,List.take_succ_eq_append_getElem h2,ht,he]
    clear hK
    by_cases ha:f.ts[x1].c=g.ts[x1].c
    ·refine opsI_seg fun L hL=>?_
     simp [C.laws_laurents,fS,h1,h2,tS_0 h1,tS_1 h1,tS_0 h2,tS_1 h2,ha]
     refine wcall1 (laws_ints_calls f.ts[x1].e g.ts[x1].e (hxe _ (List.getElem_mem h1))) (by simp) (by simp) ?_
     simp [C.laws_laurents,fS,h1,h2,tS_0 h1,tS_1 h1,tS_0 h2,tS_1 h2,ha]
     refine hL _ ?_;clear hL L
     refine opsI_end fun L hL=>?_
     simp [C.laws_laurents,fS,h1,h2,tS_0 h1,tS_1 h1,tS_0 h2,tS_1 h2,ha]
     refine hL _ ?_;clear hL L
     simp [C.laws_laurents,fS,h1,h2,tS_0 h1,tS_1 h1,tS_0 h2,tS_1 h2,ha]
     refine cast (congrArg K ?_) hJ
     simp [ibne,fS,ha]
    ·refine opsI_seg fun L hL=>?_
     simp [C.laws_laurents,fS,h1,h2,tS_0 h1,tS_1 h1,tS_0 h2,tS_1 h2,ha]
     refine hL _ ?_;clear hL L
     refine opsI_end fun L hL=>?_
     simp [C.laws_laurents,fS,h1,h2,tS_0 h1,tS_1 h1,tS_0 h2,tS_1 h2,ha]
     refine hL _ ?_;clear hL L
     simp [C.laws_laurents,fS,h1,h2,tS_0 h1,tS_1 h1,tS_0 h2,tS_1 h2,ha]
     refine cast (congrArg K ?_) hJ
     simp [ibne,fS,ha]
   ·have h1:x1=f.ts.length:=by have:=d_f hc2;omega
    refine wexit ?_
    show AWp _ _ _ _ _
    refine wseq ?_
    refine wreg fun K hK=>?_
    simp [C.laws_laurents,fS]
    refine hK _ ?_;clear hK K
    show AWp _ _ _ _ _
    refine wret ?_
    simp [C.laws_laurents,fS]
    rw [h1,List.take_length,hc.2,List.take_length] at ht
    cases f
    cases g
    simp only at hc ht
    simp [hc.1,ht]
 clear hK
 by_cases ha:f.v=g.v
 ·refine opsI_end fun L hL=>?_
  simp [C.laws_laurents,fS,ha]
  refine hL _ ?_;clear hL L
  simp [C.laws_laurents,fS,ha]
  refine cast (congrArg K ?_) hJ
  simp [ibne,fS,ha]
 ·refine opsI_end fun L hL=>?_
  simp [C.laws_laurents,fS,ha]
  refine hL _ ?_;clear hL L
  simp [C.laws_laurents,fS,ha]
  refine cast (congrArg K ?_) hJ
  simp [ibne,fS,ha]
end Go.Proofs.YtbhkonnakkhibaaGreat.Ab
namespace Go.Proofs.YtbhkonnakkhibaaGreat.Ab
open Go
set_option maxRecDepth 10000
set_option maxHeartbeats 2000000
end Go.Proofs.YtbhkonnakkhibaaGreat.Ab
namespace Go.Proofs.YtbhkonnakkhibaaGreat.Ab
open Go
theorem addE_comm1:∀ (a b:List Int),a.length=b.length->addE 1 a b=addE 1 b a
 | [],[],_=>rfl
 | x :: a,y :: b,h=>by
  simp only [addE,addE_comm1 a b (by simpa using h),Int.one_mul]
  rw [Int.add_comm]
theorem prodL_eq (a b:List (List Int×Int)):prodL a b=prodK (addE 1) a b:=rfl
theorem ring_com {n:Nat} {f g:Lau} (hf:∀ x∈f.ts.map pr,x.1.length=n) (hg:∀ x∈g.ts.map pr,x.1.length=n):nf lexlt (prodL (f.ts.map pr) (g.ts.map pr))=nf lexlt (prodL (g.ts.map pr) (f.ts.map pr)):=
 nf_vl lexOrd fun φ=>by
  rw [prodL_eq,prodL_eq]
  exact vl_prod_com (D:=fun e=>e.length=n) (fun a b h1 h2=>addE_comm1 a b (h1.trans h2.symm)) φ hf hg
theorem addE_zero1:∀ (n:Nat) (a:List Int),a.length=n->addE 1 (List.replicate n 0) a=a
 | 0,[],_=>rfl
 | n+1,x :: a,h=>by
  simp only [List.replicate_succ,addE,addE_zero1 n a (by simpa using h)]
  simp
theorem one_mul {n:Nat} {f:Lau} (hf:Right f) (hn:f.v=n):mulF (oneF n) f=(f,true)/\mulF f (oneF n)=(f,true):=by
 have hn8:1<=n/\n<=8:=by have:=hf.1;omega
 have h1:=oneF_right hn8
 have hl:∀ x∈f.ts.map pr,x.1.length=n:=fun x hx=>by
  obtain ⟨t,ht,rfl⟩:=List.mem_map.1 hx
  exact (right_dig hf hn t ht).1
 have h1l:∀ x∈(oneF n).ts.map pr,x.1.length=n:=fun x hx=>by
  simp only [oneF,List.map_cons,List.map_nil,List.mem_singleton] at hx
  subst hx
  simp [pr]
 have e:prodL ((oneF n).ts.map pr) (f.ts.map pr)=f.ts.map pr:=by
  simp only [oneF,List.map_cons,List.map_nil,prodL,List.flatMap_cons,List.flatMap_nil,List.append_nil]
  have:∀ l:List (List Int×Int),(∀ x∈l,x.1.length=n)->l.map (fun y=>(addE 1 (pr ⟨List.replicate n 0,1⟩).1 y.1,(pr ⟨List.replicate n 0,1⟩).2*y.2))=l:=fun l hl=>by
   refine (List.map_congr_left fun x hx=>?_).trans (List.map_id l)
   simp only [pr,addE_zero1 n x.1 (hl x hx),Int.one_mul,id]
  exact this _ hl
 have enf:nf lexlt (f.ts.map pr)=f.ts.map pr:=(nf_unique lexOrd (pr_desc hf) (pr_nz hf) fun k=>rfl).symm
 constructor
 ·unfold mulF
  rw [if_pos ⟨h1,hf,hn.symm⟩,e]
  unfold shutF
  rw [enf]
  have:(⟨(oneF n).v,(f.ts.map pr).map tm⟩:Lau)=f:=by
   rw [show (oneF n).v=f.v from hn.symm]
   exact lau_eta f
  rw [this,if_pos hf]
 ·unfold mulF
  rw [if_pos ⟨hf,h1,hn⟩]
  unfold shutF
  rw [ring_com hl h1l,e,enf,lau_eta,if_pos hf]
theorem evF_of {f:Lau} {ys:List Int} {n:Nat} (hf:Right f) (hn:f.v=n) (hy:ys.length=n) (h:∀ y∈ys,y % 32003≠0):evF f ys=evS ys n f.ts f.ts.length:=by
 unfold evF
 rw [if_pos ⟨hf,by omega,h⟩,hy]
end Go.Proofs.YtbhkonnakkhibaaGreat.Ab
namespace Go.Proofs.YtbhkonnakkhibaaGreat.Ab
open Go
theorem sh_dim {m:Mat} (h:ShM m):1<=m.n.toNat/\m.n.toNat<=5/\m.n.toNat<=m.r.toNat/\m.r.toNat<=8/\m.d.length=m.r.toNat*m.n.toNat/\(m.n.toNat:Int)=m.n/\(m.r.toNat:Int)=m.r:=by
 have h1:=h.1
 have h2:=h.2.1
 have h3:=h.2.2.1
 have e1:(m.n.toNat:Int)=m.n:=by omega
 have e2:(m.r.toNat:Int)=m.r:=by omega
 refine ⟨by omega,by omega,by omega,by omega,?_,e1,e2⟩
 rw [← e1,← e2,← Int.natCast_mul,Nat.mul_comm] at h3
 omega
theorem muF_ok {m m':Mat} {k:Int} (h:muF m k=(m',true)):MatOK m/\(0<=k/\k < m.n)/\MatOK m'/\m'=muM m k.toNat:=by
 unfold muF at h
 split at h
 ·rename_i q
  injection h with h1 h2
  exact ⟨q.1,q.2.1,h1 ▸ q.2.2,h1.symm⟩
 ·simp at h
theorem exF_ok {fs:List Lau} {cs:List Int} {r:Nat} {old x:Lau} (h:exF fs cs r old=(x,true)):(∀ c∈cs,-8<=c/\c<=8)/\∃ a b S,prodE 1 fs cs (oneF r)=some a/\prodE (-1) fs cs (oneF r)=some b/\addF a 1 b=(S,true)/\divF S old=(x,true):=by
 unfold exF at h
 split at h
 ·rename_i hc
  refine ⟨hc,?_⟩
  split at h
  ·rename_i a b ha hb
   split at h
   ·rename_i hs
    exact ⟨a,b,(addF a 1 b).1,ha,hb,by rw [← hs],h⟩
   ·simp at h
  ·simp at h
 ·simp at h
structure Exch (s:Sed) (k:Nat) (x a b S:Lau):Prop where
 ok:SeedOK s
 hk:(k:Int) < s.m.n
 mok:(muF s.m k).2=true
 ha:prodE 1 s.f (colM s.m s.m.r.toNat k) (oneF s.m.r.toNat)=some a
 hb:prodE (-1) s.f (colM s.m s.m.r.toNat k) (oneF s.m.r.toNat)=some b
 hs:addF a 1 b=(S,true)
 hd:divF S (s.f.getD k zeroF)=(x,true)
theorem seedF_ok {s t:Sed} {k:Int} (h:seedF s k=(t,true)):∃ x a b S,0<=k/\Exch s k.toNat x a b S/\t=⟨(muF s.m k).1,s.f.set k.toNat x⟩:=by
 unfold seedF at h
 split at h
 ·rename_i q
  injection h with h1 h2
  obtain ⟨h3,h4⟩:=q.2.1
  obtain ⟨x,hx⟩:∃ x,exF s.f (colM s.m s.m.r.toNat k.toNat) s.m.r.toNat (s.f.getD k.toNat zeroF)=(x,true):=⟨_,by rw [← q.2.2.1]⟩
  obtain ⟨_,a,b,S,ha,hb,hs,hd⟩:=exF_ok hx
  rw [hx] at h1
  have e:((k.toNat:Nat):Int)=k:=by omega
  exact ⟨x,a,b,S,h3,⟨q.1,by omega,by rw [e];exact q.2.2.2,ha,hb,hs,hd⟩,h1.symm⟩
 ·simp at h
end Go.Proofs.YtbhkonnakkhibaaGreat.Ab
namespace Go.Proofs.YtbhkonnakkhibaaGreat.Ab
open Go
set_option maxRecDepth 10000
set_option maxHeartbeats 2000000
theorem SmallF.sm {f:Lau} (h:SmallF f):f.ts.length < 4611686018427387904/\∀ t∈f.ts,t.e.length < 4611686018427387904:=⟨by have:=h.1;omega,fun t ht=>by have:=h.2.1 t ht;omega⟩
theorem addF_small (f:Lau) (k:Int) (g:Lau):SmallF (addF f k g).1:=by
 unfold addF
 split
 ·rcases shutF_right f.v (f.ts.map pr ++ g.ts.map (prk k)) with h | h
  ·exact small_right h
  ·rw [h];exact small_zero
 ·exact small_zero
theorem mono_small2 (e:List Int):SmallF (monoF e):=by
 unfold monoF
 split
 ·rename_i h;exact small_right h
 ·exact small_zero
theorem getD_get {l:List Lau} {i:Nat} (h:i < l.length):l[i]=l.getD i zeroF:=by simp [List.getD_eq_getElem?_getD,h]
theorem small_getD {l:List Lau} (h:∀ f∈l,SmallF f) (i:Nat):SmallF (l.getD i zeroF):=by
 rw [List.getD_eq_getElem?_getD]
 by_cases q:i < l.length
 ·rw [List.getElem?_eq_getElem q];exact h _ (List.getElem_mem q)
 ·rw [List.getElem?_eq_none (by omega)];exact small_zero
theorem ofL_pad:∀ l:List (Nat×FV),ofL l=ofL (l ++ [(0,.dead)])
 | []=>by funext t;simp [ofL]
 | x :: l=>by
  funext t
  have:=congrFun (ofL_pad l) t
  simp only [List.cons_append,ofL] at this ⊢
  split
  ·rfl
  ·exact this
end Go.Proofs.YtbhkonnakkhibaaGreat.Ab
namespace Go.Proofs.YtbhkonnakkhibaaGreat.Ab
open Go
def goodB (v:Int) (t:Trm):Bool:=decide ((t.e.length:Int)=v/\t.c≠0/\(-1000000<=t.c/\t.c<=1000000)/\∀ x∈t.e,-20<=x/\x<=20)
def descB:List Trm->Bool
 | a :: b :: l=>lexlt b.e a.e && descB (b :: l)
 | _=>true
theorem descB_ok:∀ {l:List Trm},descB l=true->DescT l
 | [],_=>List.Pairwise.nil
 | [a],_=>List.pairwise_singleton _ _
 | a :: b :: l,h=>by
  simp only [descB,Bool.and_eq_true] at h
  have h2:=descB_ok (l:=b :: l) h.2
  refine List.Pairwise.cons (fun x hx=>?_) h2
  rcases List.mem_cons.1 hx with rfl | hx
  ·exact h.1
  ·exact lexlt_tr _ _ _ ((List.pairwise_cons.1 h2).1 x hx) h.1
def rightB (f:Lau):Bool:=decide (1<=f.v/\f.v<=8) && decide (f.ts.length<=600) && f.ts.all (goodB f.v) && descB f.ts
theorem rightB_ok {f:Lau} (h:rightB f=true):Right f:=by
 simp only [rightB,Bool.and_eq_true,decide_eq_true_eq,List.all_eq_true] at h
 exact ⟨h.1.1.1,h.1.1.2,fun t ht=>by have:=h.1.2 t ht;simp only [goodB,decide_eq_true_eq] at this;exact this,descB_ok h.2⟩
def mulC (f g:Lau):Lau:=⟨f.v,(nf lexlt (prodL (f.ts.map pr) (g.ts.map pr))).map tm⟩
def addC (f g:Lau):Lau:=⟨f.v,(nf lexlt (f.ts.map pr ++ g.ts.map (prk 1))).map tm⟩
def mulB (f g:Lau):Bool:=rightB f && rightB g && decide (f.v=g.v) && rightB (mulC f g)
theorem mulB_ok {f g:Lau} (h:mulB f g=true):mulF f g=(mulC f g,true):=by
 simp only [mulB,Bool.and_eq_true,decide_eq_true_eq] at h
 unfold mulF
 rw [if_pos ⟨rightB_ok h.1.1.1,rightB_ok h.1.1.2,h.1.2⟩]
 exact if_pos (rightB_ok h.2)
def addB (f g:Lau):Bool:=rightB f && rightB g && decide (f.v=g.v) && rightB (addC f g)
theorem addB_ok {f g:Lau} (h:addB f g=true):addF f 1 g=(addC f g,true):=by
 simp only [addB,Bool.and_eq_true,decide_eq_true_eq] at h
 unfold addF
 rw [if_pos ⟨⟨rightB_ok h.1.1.1,rightB_ok h.1.1.2,h.1.2⟩,by omega⟩]
 exact if_pos (rightB_ok h.2)
def divB (S g x:Lau):Bool:=mulB x g && decide (g.ts≠[]) && decide (mulC x g=S)
theorem divB_ok {S g x:Lau} (h:divB S g x=true):divF S g=(x,true):=by
 simp only [divB,Bool.and_eq_true,decide_eq_true_eq] at h
 have h1:=mulB_ok h.1.1
 have h2:=h.1.1
 simp only [mulB,Bool.and_eq_true,decide_eq_true_eq] at h2
 exact div_mul (rightB_ok h2.1.1.1) (rightB_ok h2.1.1.2) h2.1.2 h.1.2 (by rw [h1,h.2])
end Go.Proofs.YtbhkonnakkhibaaGreat.Ab
namespace Go.Proofs.YtbhkonnakkhibaaGreat.Ab
open Go
end Go.Proofs.YtbhkonnakkhibaaGreat.Ab
namespace Go.Proofs.YtbhkonnakkhibaaGreat.Ab
open Go
set_option maxRecDepth 10000
set_option maxHeartbeats 2000000
noncomputable def smX (k:Nat) (l:List Lau) (ii:Nat):Lau×Bool:=mulF (l.getD (l.length - ii) zeroF) (l.getD (l.length - k+ii) zeroF)
noncomputable def smS (k:Nat) (l:List Lau):Nat->Option Lau
 | 0=>some ⟨k,[]⟩
 | m+1=>match smS k l m with
  | some s=>if (smX k l (m+1)).2=true/\(addF s 1 (smX k l (m+1)).1).2=true then some (addF s 1 (smX k l (m+1)).1).1 else none
  | none=>none
noncomputable def smL (k:Nat):Nat->Option (List Lau)
 | 0=>some []
 | m+1=>match smL k m with
  | some l=>if m < k then some (l ++ [monoF (unitL k m)]) else (match smS k l (k / 2) with
   | some s=>if (divF s (l.getD (m - k) zeroF)).2=true then some (l ++ [(divF s (l.getD (m - k) zeroF)).1]) else none
   | none=>none)
  | none=>none
noncomputable def smF (k n:Int):List Lau×Bool:=if (4<=k/\k<=7)/\0<=n/\n<=11 then (match smL k.toNat n.toNat with | some l=>(l,true) | none=>([],false)) else ([],false)
theorem smS_none {k:Nat} {l:List Lau} {n m:Nat} (h:smS k l n=none) (hm:n<=m):smS k l m=none:=by
 induction m with
 | zero=>
  have:n=0:=by omega
  subst this
  exact h
 | succ m ih=>
  rcases Nat.lt_or_ge m n with q | q
  ·have:n=m+1:=by omega
   subst this
   exact h
  ·simp only [smS,ih q]
theorem smL_none {k:Nat} {n m:Nat} (h:smL k n=none) (hm:n<=m):smL k m=none:=by
 induction m with
 | zero=>
  have:n=0:=by omega
  subst this
  exact h
 | succ m ih=>
  rcases Nat.lt_or_ge m n with q | q
  ·have:n=m+1:=by omega
   subst this
   exact h
  ·simp only [smL,ih q]
theorem smS_small {k:Nat} {l:List Lau}:∀ {m:Nat} {s:Lau},smS k l m=some s->SmallF s
 | 0,s,h=>by
  simp only [smS,Option.some.injEq] at h
  subst h
  exact ⟨by simp,by simp,by simp [cntL]⟩
 | m+1,s,h=>by
  simp only [smS] at h
  split at h
  ·split at h
   ·injection h with h
    subst h
    exact addF_small _ _ _
   ·simp at h
  ·simp at h
theorem smL_ok (k:Nat):∀ (m:Nat) (l:List Lau),smL k m=some l->l.length=m/\∀ f∈l,SmallF f
 | 0,l,h=>by
  simp only [smL,Option.some.injEq] at h
  subst h
  simp
 | m+1,l,h=>by
  simp only [smL] at h
  split at h
  ·rename_i l' hl
   obtain ⟨h1,h2⟩:=smL_ok k m l' hl
   split at h
   ·injection h with h
    subst h
    refine ⟨by simp [h1],fun f hf=>?_⟩
    rcases List.mem_append.1 hf with hf | hf
    ·exact h2 f hf
    ·simp only [List.mem_singleton] at hf
     subst hf
     exact mono_small2 _
   ·split at h
    ·split at h
     ·injection h with h
      subst h
      refine ⟨by simp [h1],fun f hf=>?_⟩
      rcases List.mem_append.1 hf with hf | hf
      ·exact h2 f hf
      ·simp only [List.mem_singleton] at hf
       subst hf
       exact divF_small _ _
     ·simp at h
    ·simp at h
  ·simp at h
theorem mulF_small (f g:Lau):SmallF (mulF f g).1:=by
 rcases mulF_right f g with h | h
 ·exact small_right h
 ·rw [h];exact small_zero
theorem impl_ConstantLaurent0_calls (n:Nat) (hn:1<=n/\n<=8):ACalls Tryz.prog F.impl_ConstantLaurent [.int n,.int 0] [] true (fun outs res=>outs=[]/\WkRs res [.ag (fO ⟨n,[]⟩)]):=by
 refine ACalls.of_body (C:=C.impl_ConstantLaurent) (n:=Tryz.f63.ntmps) tabT folT Tryz.func63 rfl (by kernel_rfl) rfl (Nat.le_of_ble_eq_true rfl) (by decide) (by kernel_rfl) (by kernel_rfl) rfl (by simp) (by simp) ?_
 simp only [Tryz.f63]
 refine wseq ?_
 refine wreg fun K hK=>?_
 simp [C.impl_ConstantLaurent]
 refine hK _ ?_;clear hK K
 show AWp _ _ _ _ _
 refine wseq ?_
 refine wseq ?_
 refine wregI ([0,1] ++ ([2,3,4,5] ++ ([6,7]))) rfl fun K hK=>?_
 refine opsI_seg fun L hL=>?_
 simp [C.impl_ConstantLaurent,show (1<=(n:Int)) by omega,show ((n:Int)<=8) by omega]
 refine wcall1 (impl_within_calls n 1 8) (by simp) (by simp) ?_
 simp [C.impl_ConstantLaurent,show (1<=(n:Int)) by omega,show ((n:Int)<=8) by omega]
 refine hL _ ?_;clear hL L
 refine opsI_seg fun L hL=>?_
 simp [C.impl_ConstantLaurent,show (1<=(n:Int)) by omega,show ((n:Int)<=8) by omega]
 refine wcall1 (impl_within_calls 0 (-1000000) 1000000) (by simp) (by simp) ?_
 simp [C.impl_ConstantLaurent,show (1<=(n:Int)) by omega,show ((n:Int)<=8) by omega]
 refine hL _ ?_;clear hL L
 refine opsI_end fun L hL=>?_
 simp [C.impl_ConstantLaurent,show (1<=(n:Int)) by omega,show ((n:Int)<=8) by omega]
 refine hL _ ?_;clear hL L
 simp [C.impl_ConstantLaurent,show (1<=(n:Int)) by omega,show ((n:Int)<=8) by omega]
 refine hK _ ?_;clear hK K
 show AWp _ _ _ _ _
 refine wcond _ rfl (fun hc1=>?_) (fun hc1=>?_)
 ·simp at hc1
 ·refine wskip ?_
  show AWp _ _ _ _ _
  refine wseq ?_
  refine wseq ?_
  refine wreg fun K hK=>?_
  simp [C.impl_ConstantLaurent]
  refine hK _ ?_;clear hK K
  show AWp _ _ _ _ _
  refine wcond _ rfl (fun hc2=>?_) (fun hc2=>?_)
  ·refine wseq ?_
   refine wreg fun K hK=>?_
   simp [C.impl_ConstantLaurent]
   refine hK _ ?_;clear hK K
   show AWp _ _ _ _ _
   refine wret ?_
   simp [C.impl_ConstantLaurent,fO,rows]
  ·simp at hc2
theorem iCon0_calls (n:Nat) (hn:1<=n/\n<=8):ACalls Tryz.prog F.impl_ConstantLaurent [.int n,.int 0] [] true (fun outs res=>outs=[]/\res=[.ag (fO ⟨n,[]⟩)]):=(impl_ConstantLaurent0_calls n hn).weak1
theorem spec_SomosLaurents_calls (k n:Int):ACalls Tryz.prog F.spec_SomosLaurents [.int k,.int n] [] true (fun outs res=>outs=[]/\WkRs res [.one (.ow 2 (smF k n).1.length (rows fO (smF k n).1)),.one (D.bool (smF k n).2)]):=by
 refine ACalls.of_body (C:=C.spec_SomosLaurents) (n:=Tryz.f47.ntmps) tabT folT Tryz.func47 rfl (by kernel_rfl) rfl (Nat.le_of_ble_eq_true rfl) (by decide) (by kernel_rfl) (by kernel_rfl) rfl (by simp) (by simp) ?_
 simp only [Tryz.f47]
 refine wseq ?_
 refine wreg fun K hK=>?_
 simp [C.spec_SomosLaurents,fO]
 refine hK _ ?_;clear hK K
 show AWp _ _ _ _ _
 refine wseq ?_
 refine wseq ?_
 refine wregI ([0,1] ++ ([2,3,4,5] ++ ([6,7]))) rfl fun K hK=>?_
 have hJ:K ⟨ofL [(0,.int k),(1,.int n),(23,.bool (!decide ((4<=k/\k<=7)/\0<=n/\n<=11)))],ofRO []⟩:=by
  refine hK _ ?_;clear hK K
  show AWp _ _ _ _ _
  refine wcond _ rfl (fun hc1=>?_) (fun hc1=>?_)
  ·have hr:=nd_t hc1
   have hm:smF k n=([],false):=if_neg hr
   refine wseq ?_
   refine wreg fun K hK=>?_
   simp [C.spec_SomosLaurents,fO]
   refine hK _ ?_;clear hK K
   show AWp _ _ _ _ _
   refine wret ?_
   simp [C.spec_SomosLaurents,fO,hm,rows]
  ·have hr:=nd_f hc1
   obtain ⟨k,rfl⟩:∃ m:Nat,k=(m:Int):=⟨k.toNat,by omega⟩
   obtain ⟨n,rfl⟩:∃ m:Nat,n=(m:Int):=⟨n.toNat,by omega⟩
   have hk7:4<=k/\k<=7:=by omega
   have hn11:n<=11:=by omega
   have hm:smF k n=(match smL k n with | some l=>(l,true) | none=>([],false)):=by
    unfold smF
    rw [if_pos hr]
    rfl
   refine wskip ?_
   show AWp _ _ _ _ _
   refine wseq ?_
   refine wreg fun K hK=>?_
   simp [C.spec_SomosLaurents,fO]
   refine hK _ ?_;clear hK K
   show AWp _ _ _ _ _
   refine wseq ?_
   refine wseq ?_
   refine wreg fun K hK=>?_
   simp [C.spec_SomosLaurents,fO]
   refine hK _ ?_;clear hK K
   show AWp _ _ _ _ _
   refine wblock ?_
   refine wloop (fun x:Nat×List Lau=>⟨ofL [(0,.int k),(1,.int n),(6,.al (6,0) [] 0 x.1),(7,.int x.1)],ofRO [((6,0),some (.ow 2 x.1 (rows fO x.2)))]⟩) (fun x=>x.1<=n/\smL k x.1=some x.2) (fun x=>n - x.1) (0,[]) (by simp [C.spec_SomosLaurents,fO,rows]) ⟨by simp,rfl⟩ ?_
   intro x1 hx1 R1 hR1
   obtain ⟨at_,l⟩:=x1
   obtain ⟨hj,hl⟩:=hx1
   dsimp only at hj hl ⊢
   obtain ⟨hll,hls⟩:=smL_ok k at_ l hl
   refine wseq ?_
   refine wseq ?_
   refine wreg fun K hK=>?_
   simp [C.spec_SomosLaurents,fO]
   refine hK _ ?_;clear hK K
   show AWp _ _ _ _ _
   refine wcond _ rfl (fun hc2=>?_) (fun hc2=>?_)
   ·have hjm:at_ < n:=by have:=d_t hc2;omega
    refine wskip ?_
    show AWp _ _ _ _ _
    refine wseq ?_
    refine wblock ?_
    refine wseq ?_
    refine wseq ?_
    refine wreg fun K hK=>?_
    simp [C.spec_SomosLaurents,fO]
    refine hK _ ?_;clear hK K
    show AWp _ _ _ _ _
    refine wcond _ rfl (fun hc3=>?_) (fun hc3=>?_)
    ·have hak:at_ < k:=by have:=d_t hc3;omega
     have hnext:smL k (at_+1)=some (l ++ [monoF (unitL k at_)]):=by simp only [smL,hl,if_pos hak]
     refine wseq ?_
     refine wregI ([0,1,2,3] ++ ([4] ++ ([5,6,7]))) rfl fun K hK=>?_
     refine opsI_seg fun L hL=>?_
     simp [C.spec_SomosLaurents,fO,fO_snoc,show (at_+1)*32<=140737488355328 by omega]
     refine wcall1 (spec_l3Unit_calls k at_ (by omega) hak) (by simp) (by simp) ?_
     simp [C.spec_SomosLaurents,fO,fO_snoc,show (at_+1)*32<=140737488355328 by omega]
     refine hL _ ?_;clear hL L
     refine opsI_seg fun L hL=>?_
     simp [C.spec_SomosLaurents,fO,fO_snoc,show (at_+1)*32<=140737488355328 by omega]
     refine wcall1 (sMono_calls (unitL k at_) (by rw [unitL_length];omega)) (by simp) (by simp) ?_
     simp [C.spec_SomosLaurents,fO,fO_snoc,show (at_+1)*32<=140737488355328 by omega]
     refine hL _ ?_;clear hL L
     refine opsI_end fun L hL=>?_
     simp [C.spec_SomosLaurents,fO,fO_snoc,show (at_+1)*32<=140737488355328 by omega]
     refine hL _ ?_;clear hL L
     simp [C.spec_SomosLaurents,fO,fO_snoc,show (at_+1)*32<=140737488355328 by omega]
     refine hK _ ?_;clear hK K
     show AWp _ _ _ _ _
     refine wexit ?_
     show AWp _ _ _ _ _
     refine wreg fun K hK=>?_
     simp [C.spec_SomosLaurents,fO,wrapOk (x:=(at_:Int)+1) (by omega) (by omega)]
     refine hK _ ?_;clear hK K
     simp [C.spec_SomosLaurents,fO]
     refine cast (congrArg R1 ?_) (hR1 (at_+1,l ++ [monoF (unitL k at_)]) ⟨hjm,hnext⟩ (by dsimp only;omega))
     simp
    ·have hak:k<=at_:=by have:=d_f hc3;omega
     have hnext:smL k (at_+1)=(match smS k l (k / 2) with
       | some s=>if (divF s (l.getD (at_ - k) zeroF)).2=true then some (l ++ [(divF s (l.getD (at_ - k) zeroF)).1]) else none
       | none=>none):=by
      simp only [smL,hl,if_neg (show ¬ at_ < k by omega)]
     refine wskip ?_
     show AWp _ _ _ _ _
     refine wseq ?_
     refine wreg fun K hK=>?_
     simp [C.spec_SomosLaurents,fO]
     refine hK _ ?_;clear hK K
     show AWp _ _ _ _ _
     refine wseq ?_
     refine wseq ?_
     refine wreg fun K hK=>?_
     simp [C.spec_SomosLaurents,fO]
     refine hK _ ?_;clear hK K
     show AWp _ _ _ _ _
     refine wblock ?_
     refine wloop (fun x:Nat×Lau=>⟨ofL [(0,.int k),(1,.int n),(6,.al (6,0) [] 0 at_),(7,.int at_),(8,.pt (8,0) [] 0),(9,.int x.1)],ofRO [((6,0),some (.ow 2 at_ (rows fO l))),((8,0),some (.bx (fO x.2)))]⟩) (fun x=>1<=x.1/\2*(x.1 - 1)<=k/\smS k l (x.1 - 1)=some x.2) (fun x=>k - x.1) (1,⟨k,[]⟩) (by simp [C.spec_SomosLaurents,fO,rows]) ⟨by simp,by simp,rfl⟩ ?_
     intro x2 hx2 R2 hR2
     obtain ⟨ii,s⟩:=x2
     obtain ⟨hi1,hi2,hs⟩:=hx2
     dsimp only at hi1 hi2 hs ⊢
     have hsS:=smS_small hs
     refine wseq ?_
     refine wseq ?_
     refine wreg fun K hK=>?_
     simp [C.spec_SomosLaurents,fO,wrapOk (x:=2*(ii:Int)) (by omega) (by omega)]
     refine hK _ ?_;clear hK K
     show AWp _ _ _ _ _
     refine wcond _ rfl (fun hc4=>?_) (fun hc4=>?_)
     ·have hik:2*ii<=k:=by have:=d_t hc4;omega
      obtain ⟨p1,hp1⟩:∃ p1:Nat,p1+ii=at_:=⟨at_ - ii,by omega⟩
      obtain ⟨p0,hp0⟩:∃ p0:Nat,p0+k=at_:=⟨at_ - k,by omega⟩
      have hw1:IntKind.i64.wrap ((at_:Int) - ii)=(p1:Int):=by rw [wrapOk (by omega) (by omega)];omega
      have hw0:IntKind.i64.wrap ((at_:Int) - k)=(p0:Int):=by rw [wrapOk (by omega) (by omega)];omega
      have hw2:IntKind.i64.wrap ((p0:Int)+ii)=((p0+ii:Nat):Int):=by rw [wrapOk (by omega) (by omega)];omega
      obtain ⟨p2,hp2⟩:∃ p2:Nat,p2=p0+ii:=⟨_,rfl⟩
      rw [← hp2] at hw2
      have hF1:=getD_get (l:=l) (i:=p1) (by omega)
      have hF2:=getD_get (l:=l) (i:=p2) (by omega)
      have hs1:=(small_getD hls p1).sm
      have hs2:=(small_getD hls p2).sm
      obtain ⟨m,hmi⟩:∃ m,m+1=ii:=⟨ii - 1,by omega⟩
      have hs':smS k l m=some s:=by rw [← hs,← hmi];rfl
      obtain ⟨X,hX⟩:∃ X,X=smX k l ii:=⟨_,rfl⟩
      have hXe:mulF (l.getD p1 zeroF) (l.getD p2 zeroF)=X:=by
       rw [hX]
       unfold smX
       rw [hll,show at_ - ii=p1 by omega,show at_ - k+ii=p2 by omega]
      have hXc:=sMul_calls (l.getD p1 zeroF) (l.getD p2 zeroF) hs1.1 hs1.2 hs2.1 hs2.2
      have hXs:SmallF X.1:=hXe ▸ mulF_small _ _
      rw [hXe] at hXc
      obtain ⟨Y,hY⟩:∃ Y,Y=addF s 1 X.1:=⟨_,rfl⟩
      have hYc:=sAdd_calls s 1 X.1 hsS.sm.1 hsS.sm.2 hXs.sm.1 hXs.sm.2
      rw [← hY] at hYc
      have hnS:smS k l ii=if X.2=true/\Y.2=true then some Y.1 else none:=by
       rw [hX] at hY
       rw [hY,hX,← hmi]
       simp only [smS,hs']
      clear hX hY hXe
      refine wskip ?_
      show AWp _ _ _ _ _
      refine wseq ?_
      refine wblock ?_
      refine wseq ?_
      refine wdraw (.take 0 (.take 1 (.take 2 (.take 3 (.take 4 (.take 5 (.take 6 (.take 7 (.take 8 (.take 9 (.take 10 (.take 11 (.take 12 (.take 13 (.all [(14,.take 15 (.take 16 (.take 17 (.all [(18,.all [(19,.take 20 (.done))])])))),(18,.all [(14,.take 15 (.take 16 (.take 17 (.all [(19,.take 20 (.done))]))))])]))))))))))))))) ⟨by kernel_rfl,by kernel_rfl⟩ fun K hK=>?_
      have hJ:K ⟨ofL [(0,.int k),(1,.int n),(6,.al (6,0) [] 0 at_),(7,.int at_),(8,.pt (8,0) [] 0),(9,.int ii),(10,.pt (10,0) [] 0),(11,.bool X.2)],ofRO [((6,0),some (.ow 2 at_ (rows fO l))),((8,0),some (.bx (fO s))),((10,0),some (.bx (fO X.1)))]⟩:=by
       refine hK _ ?_;clear hK K
       show AWp _ _ _ _ _
       refine wseq ?_
       refine wregI ([0,1,2] ++ ([3,4,5,6,7,8])) rfl fun K hK=>?_
       refine opsI_seg fun L hL=>?_
       simp [C.spec_SomosLaurents,fO]
       refine wcall1 (hYc) (by simp) (by simp) ?_
       simp [C.spec_SomosLaurents,fO]
       refine hL _ ?_;clear hL L
       refine opsI_end fun L hL=>?_
       simp [C.spec_SomosLaurents,fO]
       refine hL _ ?_;clear hL L
       simp [C.spec_SomosLaurents,fO]
       refine hK _ ?_;clear hK K
       show AWp _ _ _ _ _
       refine wseq ?_
       refine wseq ?_
       refine wreg fun K hK=>?_
       have hJ:K ⟨ofL [(0,.int k),(1,.int n),(6,.al (6,0) [] 0 at_),(7,.int at_),(8,.pt (8,0) [] 0),(9,.int ii),(12,.pt (12,0) [] 0),(78,.bool (!(X.2 && Y.2)))],ofRO [((6,0),some (.ow 2 at_ (rows fO l))),((8,0),some (.bx (fO s))),((12,0),some (.bx (fO Y.1)))]⟩:=by
        refine hK _ ?_;clear hK K
        show AWp _ _ _ _ _
        refine wcond _ rfl (fun hc5=>?_) (fun hc5=>?_)
        ·have hno:¬ (X.2=true/\Y.2=true):=by
          rintro ⟨q1,q2⟩
          rw [q1,q2] at hc5
          simp at hc5
         have hnone:smL k n=none:=smL_none (n:=at_+1) (by rw [hnext,smS_none (n:=ii) (by rw [hnS,if_neg hno]) (by omega)]) (by omega)
         refine wseq ?_
         refine wreg fun K hK=>?_
         simp [C.spec_SomosLaurents,fO]
         refine hK _ ?_;clear hK K
         show AWp _ _ _ _ _
         refine wret ?_
         simp [C.spec_SomosLaurents,fO,hm,hnone,rows]
        ·have hyes:X.2=true/\Y.2=true:=by simpa using hc5
         refine wskip ?_
         show AWp _ _ _ _ _
         refine wreg fun K hK=>?_
         simp [C.spec_SomosLaurents,fO]
         refine hK _ ?_;clear hK K
         show AWp _ _ _ _ _
         refine wreg fun K hK=>?_
         simp [C.spec_SomosLaurents,fO,wrapOk (x:=(ii:Int)+1) (by omega) (by omega)]
         refine hK _ ?_;clear hK K
         simp [C.spec_SomosLaurents,fO]
         refine cast (congrArg R2 ?_) (hR2 (ii+1,Y.1) ⟨by dsimp only;omega,by dsimp only;omega,by dsimp only;rw [Nat.add_sub_cancel,hnS,if_pos hyes]⟩ (by dsimp only;omega))
         simp [fO]
       clear hK
       by_cases h1:X.2=true
       ·simp [C.spec_SomosLaurents,fO,h1]
        refine cast (congrArg K ?_) hJ
        simp [fO,h1]
       ·simp [C.spec_SomosLaurents,fO,h1]
        refine cast (congrArg K ?_) hJ
        simp [fO,h1]
      clear hK
      simp [C.spec_SomosLaurents,fO,hw1,hw0,hw2,hF1,hF2,fO_0 (show p1 < l.length by omega),fO_1 (show p1 < l.length by omega),fO_0 (show p2 < l.length by omega),fO_1 (show p2 < l.length by omega),show (p1:Int) < at_ by omega,show (p2:Int) < at_ by omega,show p1 < at_ by omega,show p2 < at_ by omega]
      repeat' first
       | (refine wcall1 (hXc) ?_ (by simp) ?_;(focus (simp;done));simp [C.spec_SomosLaurents,fO])
       | (refine cast (congrArg K ?_) hJ;simp [fO];done)
       | refine And.intro ?_ ?_
     ·have hik:k < 2*ii:=by have:=d_f hc4;omega
      have hk2:ii - 1=k / 2:=by omega
      rw [← hk2,hs] at hnext
      dsimp only at hnext
      obtain ⟨p0,hp0⟩:∃ p0:Nat,p0+k=at_:=⟨at_ - k,by omega⟩
      have hw0:IntKind.i64.wrap ((at_:Int) - k)=(p0:Int):=by rw [wrapOk (by omega) (by omega)];omega
      have hF0:=getD_get (l:=l) (i:=p0) (by omega)
      have hs0:=(small_getD hls p0).sm
      obtain ⟨V,hV⟩:∃ V,V=divF s (l.getD p0 zeroF):=⟨_,rfl⟩
      have hVc:=sDiv_calls s (l.getD p0 zeroF) hsS.sm.1 hsS.sm.2 hs0.1 hs0.2
      rw [show at_ - k=p0 by omega,← hV] at hnext
      rw [← hV] at hVc
      clear hV
      refine wexit ?_
      show AWp _ _ _ _ _
      refine wseq ?_
      refine wdraw (.take 0 (.take 1 (.take 2 (.take 3 (.take 4 (.take 5 (.take 6 (.all [(7,.take 8 (.take 9 (.take 10 (.all [(11,.all [(12,.take 13 (.done))])])))),(11,.all [(7,.take 8 (.take 9 (.take 10 (.all [(12,.take 13 (.done))]))))])])))))))) ⟨by kernel_rfl,by kernel_rfl⟩ fun K hK=>?_
      have hJ:K ⟨ofL [(0,.int k),(1,.int n),(6,.al (6,0) [] 0 at_),(7,.int at_),(14,.pt (14,0) [] 0),(15,.bool V.2)],ofRO [((6,0),some (.ow 2 at_ (rows fO l))),((14,0),some (.bx (fO V.1)))]⟩:=by
       refine hK _ ?_;clear hK K
       show AWp _ _ _ _ _
       refine wseq ?_
       refine wseq ?_
       refine wreg fun K hK=>?_
       simp [C.spec_SomosLaurents,fO]
       refine hK _ ?_;clear hK K
       show AWp _ _ _ _ _
       refine wcond _ rfl (fun hc6=>?_) (fun hc6=>?_)
       ·have hno:¬ (V.2=true):=by
         intro q
         rw [q] at hc6
         simp at hc6
        have hnone:smL k n=none:=smL_none (n:=at_+1) (by rw [hnext,if_neg hno]) (by omega)
        refine wseq ?_
        refine wreg fun K hK=>?_
        simp [C.spec_SomosLaurents,fO]
        refine hK _ ?_;clear hK K
        show AWp _ _ _ _ _
        refine wret ?_
        simp [C.spec_SomosLaurents,fO,hm,hnone,rows]
       ·have hyes3:V.2=true:=by simpa using hc6
        refine wskip ?_
        show AWp _ _ _ _ _
        refine wreg fun K hK=>?_
        simp [C.spec_SomosLaurents,fO,fO_snoc,show (at_+1)*32<=140737488355328 by omega]
        refine hK _ ?_;clear hK K
        show AWp _ _ _ _ _
        refine wreg fun K hK=>?_
        simp [C.spec_SomosLaurents,fO,wrapOk (x:=(at_:Int)+1) (by omega) (by omega)]
        refine hK _ ?_;clear hK K
        simp [C.spec_SomosLaurents,fO]
        refine cast (congrArg R1 ?_) (hR1 (at_+1,l ++ [V.1]) ⟨hjm,by rw [hnext,if_pos hyes3]⟩ (by dsimp only;omega))
        simp
      clear hK
      simp [C.spec_SomosLaurents,fO,hw0,hF0,fO_0 (show p0 < l.length by omega),fO_1 (show p0 < l.length by omega),show (p0:Int) < at_ by omega,show p0 < at_ by omega]
      repeat' first
       | (refine wcall1 (hVc) ?_ (by simp) ?_;(focus (simp;done));simp [C.spec_SomosLaurents,fO])
       | (refine cast (congrArg K ?_) hJ;simp [fO];done)
       | refine And.intro ?_ ?_
   ·have hjm:at_=n:=by have:=d_f hc2;omega
    subst hjm
    refine wexit ?_
    show AWp _ _ _ _ _
    refine wseq ?_
    refine wreg fun K hK=>?_
    simp [C.spec_SomosLaurents,fO]
    refine hK _ ?_;clear hK K
    show AWp _ _ _ _ _
    refine wret ?_
    simp [C.spec_SomosLaurents,fO,hm,hl,hll]
 clear hK
 by_cases ha:4<=k/\k<=7
 ·refine opsI_seg fun L hL=>?_
  simp [C.spec_SomosLaurents,fO,ha]
  refine wcall1 (spec_l1In_calls k 4 7) (by simp) (by simp) ?_
  simp [C.spec_SomosLaurents,fO,ha]
  refine hL _ ?_;clear hL L
  refine opsI_seg fun L hL=>?_
  simp [C.spec_SomosLaurents,fO,ha]
  refine wcall1 (spec_l1In_calls n 0 11) (by simp) (by simp) ?_
  simp [C.spec_SomosLaurents,fO,ha]
  refine hL _ ?_;clear hL L
  refine opsI_end fun L hL=>?_
  simp [C.spec_SomosLaurents,fO,ha]
  refine hL _ ?_;clear hL L
  simp [C.spec_SomosLaurents,fO,ha]
  refine cast (congrArg K ?_) hJ
  simp [fO,ha]
 ·refine opsI_seg fun L hL=>?_
  simp [C.spec_SomosLaurents,fO,ha]
  refine wcall1 (spec_l1In_calls k 4 7) (by simp) (by simp) ?_
  simp [C.spec_SomosLaurents,fO,ha]
  refine hL _ ?_;clear hL L
  refine opsI_seg fun L hL=>?_
  simp [C.spec_SomosLaurents,fO,ha]
  refine hL _ ?_;clear hL L
  refine opsI_end fun L hL=>?_
  simp [C.spec_SomosLaurents,fO,ha]
  refine hL _ ?_;clear hL L
  simp [C.spec_SomosLaurents,fO,ha]
  refine cast (congrArg K ?_) hJ
  simp [fO,ha]
theorem sSo_calls (k n:Int):ACalls Tryz.prog F.spec_SomosLaurents [.int k,.int n] [] true (fun outs res=>outs=[]/\res=[.one (.ow 2 (smF k n).1.length (rows fO (smF k n).1)),.one (D.bool (smF k n).2)]):=(spec_SomosLaurents_calls k n).weak1
theorem impl_SomosLaurents_calls (k n:Int):ACalls Tryz.prog F.impl_SomosLaurents [.int k,.int n] [] true (fun outs res=>outs=[]/\WkRs res [.one (.ow 2 (smF k n).1.length (rows fO (smF k n).1)),.one (D.bool (smF k n).2)]):=by
 refine ACalls.of_body (C:=C.impl_SomosLaurents) (n:=Tryz.f45.ntmps) tabT folT Tryz.func45 rfl (by kernel_rfl) rfl (Nat.le_of_ble_eq_true rfl) (by decide) (by kernel_rfl) (by kernel_rfl) rfl (by simp) (by simp) ?_
 simp only [Tryz.f45]
 refine wseq ?_
 refine wreg fun K hK=>?_
 simp [C.impl_SomosLaurents,fO]
 refine hK _ ?_;clear hK K
 show AWp _ _ _ _ _
 refine wseq ?_
 refine wseq ?_
 refine wregI ([0,1] ++ ([2,3,4,5] ++ ([6,7]))) rfl fun K hK=>?_
 have hJ:K ⟨ofL [(0,.int k),(1,.int n),(23,.bool (!decide ((4<=k/\k<=7)/\0<=n/\n<=11)))],ofRO []⟩:=by
  refine hK _ ?_;clear hK K
  show AWp _ _ _ _ _
  refine wcond _ rfl (fun hc1=>?_) (fun hc1=>?_)
  ·have hr:=nd_t hc1
   have hm:smF k n=([],false):=if_neg hr
   refine wseq ?_
   refine wreg fun K hK=>?_
   simp [C.impl_SomosLaurents,fO]
   refine hK _ ?_;clear hK K
   show AWp _ _ _ _ _
   refine wret ?_
   simp [C.impl_SomosLaurents,fO,hm,rows]
  ·have hr:=nd_f hc1
   obtain ⟨k,rfl⟩:∃ m:Nat,k=(m:Int):=⟨k.toNat,by omega⟩
   obtain ⟨n,rfl⟩:∃ m:Nat,n=(m:Int):=⟨n.toNat,by omega⟩
   have hk7:4<=k/\k<=7:=by omega
   have hn11:n<=11:=by omega
   have hm:smF k n=(match smL k n with | some l=>(l,true) | none=>([],false)):=by
    unfold smF
    rw [if_pos hr]
    rfl
   refine wskip ?_
   show AWp _ _ _ _ _
   refine wseq ?_
   refine wreg fun K hK=>?_
   simp [C.impl_SomosLaurents,fO]
   refine hK _ ?_;clear hK K
   show AWp _ _ _ _ _
   refine wseq ?_
   refine wseq ?_
   refine wreg fun K hK=>?_
   simp [C.impl_SomosLaurents,fO]
   refine hK _ ?_;clear hK K
   show AWp _ _ _ _ _
   refine wblock ?_
   refine wloopW (fun x:Nat×List Lau=>⟨ofL [(0,.int k),(1,.int n),(6,.al (6,0) [] 0 x.1),(7,.int x.1)],ofRO [((6,0),some (.ow 2 x.1 (rows fO x.2)))]⟩) (fun x=>x.1<=n/\smL k x.1=some x.2) (fun x=>n - x.1) (0,[]) [.tmp 6 2] (by simp [C.impl_SomosLaurents,rows];(first | (constructor <;> funext t) | funext t) <;> simp only [ofL,ofRO] <;> (repeat' (first | rfl | split)) <;> (first | (simp_all;done) | (simp_all <;> (first | omega | (intro e;exact absurd e.symm (by assumption)))))) ⟨by simp,rfl⟩ ?_
   intro x1 hx1 R1 hR1
   obtain ⟨at_,l⟩:=x1
   obtain ⟨hj,hl⟩:=hx1
   dsimp only at hj hl ⊢
   obtain ⟨hll,hls⟩:=smL_ok k at_ l hl
   refine wseq ?_
   refine wseq ?_
   refine wreg fun K hK=>?_
   simp [C.impl_SomosLaurents,fO]
   refine hK _ ?_;clear hK K
   show AWp _ _ _ _ _
   refine wcond _ rfl (fun hc2=>?_) (fun hc2=>?_)
   ·have hjm:at_ < n:=by have:=d_t hc2;omega
    refine wskip ?_
    show AWp _ _ _ _ _
    refine wseq ?_
    refine wblock ?_
    refine wseq ?_
    refine wseq ?_
    refine wreg fun K hK=>?_
    simp [C.impl_SomosLaurents,fO]
    refine hK _ ?_;clear hK K
    show AWp _ _ _ _ _
    refine wcond _ rfl (fun hc3=>?_) (fun hc3=>?_)
    ·have hak:at_ < k:=by have:=d_t hc3;omega
     have hnext:smL k (at_+1)=some (l ++ [monoF (unitL k at_)]):=by simp only [smL,hl,if_pos hak]
     refine wseq ?_
     refine wregI ([0,1,2,3] ++ ([4] ++ ([5,6,7]))) rfl fun K hK=>?_
     refine opsI_seg fun L hL=>?_
     simp [C.impl_SomosLaurents,fO,fO_snoc,show (at_+1)*32<=140737488355328 by omega]
     refine wcall1 (impl_unit_calls k at_ (by omega) hak) (by simp) (by simp) ?_
     simp [C.impl_SomosLaurents,fO,fO_snoc,show (at_+1)*32<=140737488355328 by omega]
     refine hL _ ?_;clear hL L
     refine opsI_seg fun L hL=>?_
     simp [C.impl_SomosLaurents,fO,fO_snoc,show (at_+1)*32<=140737488355328 by omega]
     refine wcall1 (iMono_calls (unitL k at_) (by rw [unitL_length];omega)) (by simp) (by simp) ?_
     simp [C.impl_SomosLaurents,fO,fO_snoc,show (at_+1)*32<=140737488355328 by omega]
     refine hL _ ?_;clear hL L
     refine opsI_end fun L hL=>?_
     simp [C.impl_SomosLaurents,fO,fO_snoc,show (at_+1)*32<=140737488355328 by omega]
     refine hL _ ?_;clear hL L
     simp [C.impl_SomosLaurents,fO,fO_snoc,show (at_+1)*32<=140737488355328 by omega]
     refine hK _ ?_;clear hK K
     show AWp _ _ _ _ _
     refine wexit ?_
     show AWp _ _ _ _ _
     refine wreg fun K hK=>?_
     simp [C.impl_SomosLaurents,fO,wrapOk (x:=(at_:Int)+1) (by omega) (by omega)]
     refine hK _ ?_;clear hK K
     simp [C.impl_SomosLaurents,fO]
     refine cast (congrArg R1 ?_) (hR1 (at_+1,l ++ [monoF (unitL k at_)]) ⟨hjm,hnext⟩ (by dsimp only;omega))
     simp
    ·have hak:k<=at_:=by have:=d_f hc3;omega
     have hnext:smL k (at_+1)=(match smS k l (k / 2) with
       | some s=>if (divF s (l.getD (at_ - k) zeroF)).2=true then some (l ++ [(divF s (l.getD (at_ - k) zeroF)).1]) else none
       | none=>none):=by
      simp only [smL,hl,if_neg (show ¬ at_ < k by omega)]
     refine wskip ?_
     show AWp _ _ _ _ _
     refine wseq ?_
     refine wregI ([0,1] ++ ([2,3])) rfl fun K hK=>?_
     refine opsI_seg fun L hL=>?_
     simp [C.impl_SomosLaurents,fO]
     refine wcall1 (iCon0_calls k (by omega)) (by simp) (by simp) ?_
     simp [C.impl_SomosLaurents,fO]
     refine hL _ ?_;clear hL L
     refine opsI_end fun L hL=>?_
     simp [C.impl_SomosLaurents,fO]
     refine hL _ ?_;clear hL L
     simp [C.impl_SomosLaurents,fO]
     refine hK _ ?_;clear hK K
     show AWp _ _ _ _ _
     refine wseq ?_
     refine wseq ?_
     refine wreg fun K hK=>?_
     simp [C.impl_SomosLaurents,fO]
     refine hK _ ?_;clear hK K
     show AWp _ _ _ _ _
     refine wblock ?_
     refine wloop (fun x:Nat×Lau=>⟨ofL [(0,.int k),(1,.int n),(6,.al (6,0) [] 0 at_),(7,.int at_),(8,.pt (8,0) [] 0),(9,.int x.1)],ofRO [((6,0),some (.ow 2 at_ (rows fO l))),((8,0),some (.bx (fO x.2)))]⟩) (fun x=>1<=x.1/\2*(x.1 - 1)<=k/\smS k l (x.1 - 1)=some x.2) (fun x=>k - x.1) (1,⟨k,[]⟩) (by simp [C.impl_SomosLaurents,fO,rows]) ⟨by simp,by simp,rfl⟩ ?_
     intro x2 hx2 R2 hR2
     obtain ⟨ii,s⟩:=x2
     obtain ⟨hi1,hi2,hs⟩:=hx2
     dsimp only at hi1 hi2 hs ⊢
     have hsS:=smS_small hs
     refine wseq ?_
     refine wseq ?_
     refine wreg fun K hK=>?_
     simp [C.impl_SomosLaurents,fO,wrapOk (x:=2*(ii:Int)) (by omega) (by omega)]
     refine hK _ ?_;clear hK K
     show AWp _ _ _ _ _
     refine wcond _ rfl (fun hc4=>?_) (fun hc4=>?_)
     ·have hik:2*ii<=k:=by have:=d_t hc4;omega
      obtain ⟨p1,hp1⟩:∃ p1:Nat,p1+ii=at_:=⟨at_ - ii,by omega⟩
      obtain ⟨p0,hp0⟩:∃ p0:Nat,p0+k=at_:=⟨at_ - k,by omega⟩
      have hw1:IntKind.i64.wrap ((at_:Int) - ii)=(p1:Int):=by rw [wrapOk (by omega) (by omega)];omega
      have hw0:IntKind.i64.wrap ((at_:Int) - k)=(p0:Int):=by rw [wrapOk (by omega) (by omega)];omega
      have hw2:IntKind.i64.wrap ((p0:Int)+ii)=((p0+ii:Nat):Int):=by rw [wrapOk (by omega) (by omega)];omega
      obtain ⟨p2,hp2⟩:∃ p2:Nat,p2=p0+ii:=⟨_,rfl⟩
      rw [← hp2] at hw2
      have hF1:=getD_get (l:=l) (i:=p1) (by omega)
      have hF2:=getD_get (l:=l) (i:=p2) (by omega)
      have hs1:=(small_getD hls p1).sm
      have hs2:=(small_getD hls p2).sm
      obtain ⟨m,hmi⟩:∃ m,m+1=ii:=⟨ii - 1,by omega⟩
      have hs':smS k l m=some s:=by rw [← hs,← hmi];rfl
      obtain ⟨X,hX⟩:∃ X,X=smX k l ii:=⟨_,rfl⟩
      have hXe:mulF (l.getD p1 zeroF) (l.getD p2 zeroF)=X:=by
       rw [hX]
       unfold smX
       rw [hll,show at_ - ii=p1 by omega,show at_ - k+ii=p2 by omega]
      have hXc:=mulOk (l.getD p1 zeroF) (l.getD p2 zeroF) hs1.1 hs1.2 hs2.1 hs2.2
      have hXs:SmallF X.1:=hXe ▸ mulF_small _ _
      rw [hXe] at hXc
      obtain ⟨Y,hY⟩:∃ Y,Y=addF s 1 X.1:=⟨_,rfl⟩
      have hYc:=iAdd_calls s 1 X.1 hsS.sm.1 hsS.sm.2 hXs.sm.1 hXs.sm.2
      rw [← hY] at hYc
      have hnS:smS k l ii=if X.2=true/\Y.2=true then some Y.1 else none:=by
       rw [hX] at hY
       rw [hY,hX,← hmi]
       simp only [smS,hs']
      clear hX hY hXe
      refine wskip ?_
      show AWp _ _ _ _ _
      refine wseq ?_
      refine wblock ?_
      refine wseq ?_
      refine wdraw (.take 0 (.take 1 (.take 2 (.take 3 (.take 4 (.take 5 (.take 6 (.take 7 (.take 8 (.take 9 (.take 10 (.take 11 (.take 12 (.take 13 (.all [(14,.take 15 (.take 16 (.take 17 (.all [(18,.all [(19,.take 20 (.done))])])))),(18,.all [(14,.take 15 (.take 16 (.take 17 (.all [(19,.take 20 (.done))]))))])]))))))))))))))) ⟨by kernel_rfl,by kernel_rfl⟩ fun K hK=>?_
      have hJ:K ⟨ofL [(0,.int k),(1,.int n),(6,.al (6,0) [] 0 at_),(7,.int at_),(8,.pt (8,0) [] 0),(9,.int ii),(10,.pt (10,0) [] 0),(11,.bool X.2)],ofRO [((6,0),some (.ow 2 at_ (rows fO l))),((8,0),some (.bx (fO s))),((10,0),some (.bx (fO X.1)))]⟩:=by
       refine hK _ ?_;clear hK K
       show AWp _ _ _ _ _
       refine wseq ?_
       refine wregI ([0,1,2] ++ ([3,4,5,6,7,8])) rfl fun K hK=>?_
       refine opsI_seg fun L hL=>?_
       simp [C.impl_SomosLaurents,fO]
       refine wcall1 (hYc) (by simp) (by simp) ?_
       simp [C.impl_SomosLaurents,fO]
       refine hL _ ?_;clear hL L
       refine opsI_end fun L hL=>?_
       simp [C.impl_SomosLaurents,fO]
       refine hL _ ?_;clear hL L
       simp [C.impl_SomosLaurents,fO]
       refine hK _ ?_;clear hK K
       show AWp _ _ _ _ _
       refine wseq ?_
       refine wseq ?_
       refine wreg fun K hK=>?_
       have hJ:K ⟨ofL [(0,.int k),(1,.int n),(6,.al (6,0) [] 0 at_),(7,.int at_),(8,.pt (8,0) [] 0),(9,.int ii),(12,.pt (12,0) [] 0),(76,.bool (!(X.2 && Y.2)))],ofRO [((6,0),some (.ow 2 at_ (rows fO l))),((8,0),some (.bx (fO s))),((12,0),some (.bx (fO Y.1)))]⟩:=by
        refine hK _ ?_;clear hK K
        show AWp _ _ _ _ _
        refine wcond _ rfl (fun hc5=>?_) (fun hc5=>?_)
        ·have hno:¬ (X.2=true/\Y.2=true):=by
          rintro ⟨q1,q2⟩
          rw [q1,q2] at hc5
          simp at hc5
         have hnone:smL k n=none:=smL_none (n:=at_+1) (by rw [hnext,smS_none (n:=ii) (by rw [hnS,if_neg hno]) (by omega)]) (by omega)
         refine wseq ?_
         refine wreg fun K hK=>?_
         simp [C.impl_SomosLaurents,fO]
         refine hK _ ?_;clear hK K
         show AWp _ _ _ _ _
         refine wret ?_
         simp [C.impl_SomosLaurents,fO,hm,hnone,rows]
        ·have hyes:X.2=true/\Y.2=true:=by simpa using hc5
         refine wskip ?_
         show AWp _ _ _ _ _
         refine wreg fun K hK=>?_
         simp [C.impl_SomosLaurents,fO]
         refine hK _ ?_;clear hK K
         show AWp _ _ _ _ _
         refine wreg fun K hK=>?_
         simp [C.impl_SomosLaurents,fO,wrapOk (x:=(ii:Int)+1) (by omega) (by omega)]
         refine hK _ ?_;clear hK K
         simp [C.impl_SomosLaurents,fO]
         refine cast (congrArg R2 ?_) (hR2 (ii+1,Y.1) ⟨by dsimp only;omega,by dsimp only;omega,by dsimp only;rw [Nat.add_sub_cancel,hnS,if_pos hyes]⟩ (by dsimp only;omega))
         simp [fO]
       clear hK
       by_cases h1:X.2=true
       ·simp [C.impl_SomosLaurents,fO,h1]
        refine cast (congrArg K ?_) hJ
        simp [fO,h1]
       ·simp [C.impl_SomosLaurents,fO,h1]
        refine cast (congrArg K ?_) hJ
        simp [fO,h1]
      clear hK
      simp [C.impl_SomosLaurents,fO,hw1,hw0,hw2,hF1,hF2,fO_0 (show p1 < l.length by omega),fO_1 (show p1 < l.length by omega),fO_0 (show p2 < l.length by omega),fO_1 (show p2 < l.length by omega),show (p1:Int) < at_ by omega,show (p2:Int) < at_ by omega,show p1 < at_ by omega,show p2 < at_ by omega]
      repeat' first
       | (refine wcall1 (hXc) ?_ (by simp) ?_;(focus (simp;done));simp [C.impl_SomosLaurents,fO])
       | (refine cast (congrArg K ?_) hJ;simp [fO];done)
       | refine And.intro ?_ ?_
     ·have hik:k < 2*ii:=by have:=d_f hc4;omega
      have hk2:ii - 1=k / 2:=by omega
      rw [← hk2,hs] at hnext
      dsimp only at hnext
      obtain ⟨p0,hp0⟩:∃ p0:Nat,p0+k=at_:=⟨at_ - k,by omega⟩
      have hw0:IntKind.i64.wrap ((at_:Int) - k)=(p0:Int):=by rw [wrapOk (by omega) (by omega)];omega
      have hF0:=getD_get (l:=l) (i:=p0) (by omega)
      have hs0:=(small_getD hls p0).sm
      obtain ⟨V,hV⟩:∃ V,V=divF s (l.getD p0 zeroF):=⟨_,rfl⟩
      have hVc:=iDiv_calls doneOk s (l.getD p0 zeroF) hsS.sm.1 hsS.sm.2 hs0.1 hs0.2
      rw [show at_ - k=p0 by omega,← hV] at hnext
      rw [← hV] at hVc
      clear hV
      refine wexit ?_
      show AWp _ _ _ _ _
      refine wseq ?_
      refine wdraw (.take 0 (.take 1 (.take 2 (.take 3 (.take 4 (.take 5 (.take 6 (.all [(7,.take 8 (.take 9 (.take 10 (.all [(11,.all [(12,.take 13 (.done))])])))),(11,.all [(7,.take 8 (.take 9 (.take 10 (.all [(12,.take 13 (.done))]))))])])))))))) ⟨by kernel_rfl,by kernel_rfl⟩ fun K hK=>?_
      have hJ:K ⟨ofL [(0,.int k),(1,.int n),(6,.al (6,0) [] 0 at_),(7,.int at_),(14,.pt (14,0) [] 0),(15,.bool V.2)],ofRO [((6,0),some (.ow 2 at_ (rows fO l))),((14,0),some (.bx (fO V.1)))]⟩:=by
       refine hK _ ?_;clear hK K
       show AWp _ _ _ _ _
       refine wseq ?_
       refine wseq ?_
       refine wreg fun K hK=>?_
       simp [C.impl_SomosLaurents,fO]
       refine hK _ ?_;clear hK K
       show AWp _ _ _ _ _
       refine wcond _ rfl (fun hc6=>?_) (fun hc6=>?_)
       ·have hno:¬ (V.2=true):=by
         intro q
         rw [q] at hc6
         simp at hc6
        have hnone:smL k n=none:=smL_none (n:=at_+1) (by rw [hnext,if_neg hno]) (by omega)
        refine wseq ?_
        refine wreg fun K hK=>?_
        simp [C.impl_SomosLaurents,fO]
        refine hK _ ?_;clear hK K
        show AWp _ _ _ _ _
        refine wret ?_
        simp [C.impl_SomosLaurents,fO,hm,hnone,rows]
       ·have hyes3:V.2=true:=by simpa using hc6
        refine wskip ?_
        show AWp _ _ _ _ _
        refine wreg fun K hK=>?_
        simp [C.impl_SomosLaurents,fO,fO_snoc,show (at_+1)*32<=140737488355328 by omega]
        refine hK _ ?_;clear hK K
        show AWp _ _ _ _ _
        refine wreg fun K hK=>?_
        simp [C.impl_SomosLaurents,fO,wrapOk (x:=(at_:Int)+1) (by omega) (by omega)]
        refine hK _ ?_;clear hK K
        simp [C.impl_SomosLaurents,fO]
        refine cast (congrArg R1 ?_) (hR1 (at_+1,l ++ [V.1]) ⟨hjm,by rw [hnext,if_pos hyes3]⟩ (by dsimp only;omega))
        simp
      clear hK
      simp [C.impl_SomosLaurents,fO,hw0,hF0,fO_0 (show p0 < l.length by omega),fO_1 (show p0 < l.length by omega),show (p0:Int) < at_ by omega,show p0 < at_ by omega]
      repeat' first
       | (refine wcall1 (hVc) ?_ (by simp) ?_;(focus (simp;done));simp [C.impl_SomosLaurents,fO])
       | (refine cast (congrArg K ?_) hJ;simp [fO];done)
       | refine And.intro ?_ ?_
   ·have hjm:at_=n:=by have:=d_f hc2;omega
    subst hjm
    refine wexit ?_
    show AWp _ _ _ _ _
    refine wseq ?_
    refine wreg fun K hK=>?_
    simp [C.impl_SomosLaurents,fO]
    refine hK _ ?_;clear hK K
    show AWp _ _ _ _ _
    refine wret ?_
    simp [C.impl_SomosLaurents,fO,hm,hl,hll]
 clear hK
 by_cases ha:4<=k/\k<=7
 ·refine opsI_seg fun L hL=>?_
  simp [C.impl_SomosLaurents,fO,ha]
  refine wcall1 (impl_within_calls k 4 7) (by simp) (by simp) ?_
  simp [C.impl_SomosLaurents,fO,ha]
  refine hL _ ?_;clear hL L
  refine opsI_seg fun L hL=>?_
  simp [C.impl_SomosLaurents,fO,ha]
  refine wcall1 (impl_within_calls n 0 11) (by simp) (by simp) ?_
  simp [C.impl_SomosLaurents,fO,ha]
  refine hL _ ?_;clear hL L
  refine opsI_end fun L hL=>?_
  simp [C.impl_SomosLaurents,fO,ha]
  refine hL _ ?_;clear hL L
  simp [C.impl_SomosLaurents,fO,ha]
  refine cast (congrArg K ?_) hJ
  simp [fO,ha]
 ·refine opsI_seg fun L hL=>?_
  simp [C.impl_SomosLaurents,fO,ha]
  refine wcall1 (impl_within_calls k 4 7) (by simp) (by simp) ?_
  simp [C.impl_SomosLaurents,fO,ha]
  refine hL _ ?_;clear hL L
  refine opsI_seg fun L hL=>?_
  simp [C.impl_SomosLaurents,fO,ha]
  refine hL _ ?_;clear hL L
  refine opsI_end fun L hL=>?_
  simp [C.impl_SomosLaurents,fO,ha]
  refine hL _ ?_;clear hL L
  simp [C.impl_SomosLaurents,fO,ha]
  refine cast (congrArg K ?_) hJ
  simp [fO,ha]
theorem iSo_calls (k n:Int):ACalls Tryz.prog F.impl_SomosLaurents [.int k,.int n] [] true (fun outs res=>outs=[]/\res=[.one (.ow 2 (smF k n).1.length (rows fO (smF k n).1)),.one (D.bool (smF k n).2)]):=(impl_SomosLaurents_calls k n).weak1
end Go.Proofs.YtbhkonnakkhibaaGreat.Ab
namespace Go.Proofs.YtbhkonnakkhibaaGreat.Ab
open Go
def zM:Mat:=⟨0,0,[]⟩
def idP (n i:Nat):List Int:=(List.range i).flatMap fun j=>unitL n j
theorem idP_succ (n i:Nat):idP n (i+1)=idP n i ++ unitL n i:=by simp [idP,List.range_succ]
@[simp] theorem idP_length (n:Nat):∀ i,(idP n i).length=i*n
 | 0=>by simp [idP]
 | i+1=>by rw [idP_succ,List.length_append,idP_length n i,unitL_length,Nat.add_mul,Nat.one_mul]
theorem unitL_mem {n i:Nat} {x:Int} (h:x∈unitL n i):x=0\/x=1:=by
 rcases List.mem_or_eq_of_mem_set h with h | h
 ·exact .inl (List.eq_of_mem_replicate h)
 ·exact .inr h
def SqOK (m:Mat):Prop:=MatOK m/\m.r=m.n/\2*m.n<=8
noncomputable instance (m:Mat):Decidable (SqOK m):=Classical.propDecidable _
noncomputable def fpL (m:Mat) (ws:List Mat) (ks:List Int):Nat->Option (List Lau)
 | 0=>some (List.replicate m.n.toNat (oneF m.n.toNat) ++ varsL m.n.toNat)
 | t+1=>match fpL m ws ks t with
  | some fs=>if (exF fs (colM (ws.getD t zM) (2*m.n.toNat) (ks.getD t 0).toNat) m.n.toNat (fs.getD (ks.getD t 0).toNat zeroF)).2=true then
    some (fs.set (ks.getD t 0).toNat (exF fs (colM (ws.getD t zM) (2*m.n.toNat) (ks.getD t 0).toNat) m.n.toNat (fs.getD (ks.getD t 0).toNat zeroF)).1) else none
  | none=>none
end Go.Proofs.YtbhkonnakkhibaaGreat.Ab
namespace Go.Proofs.YtbhkonnakkhibaaGreat.Ab
open Go
def smSC (k:Nat) (l:List Lau):Nat->Option Lau
 | 0=>some ⟨k,[]⟩
 | m+1=>match smSC k l m with
  | some s=>if mulB (l.getD (l.length - (m+1)) zeroF) (l.getD (l.length - k+(m+1)) zeroF) && addB s (mulC (l.getD (l.length - (m+1)) zeroF) (l.getD (l.length - k+(m+1)) zeroF)) then
    some (addC s (mulC (l.getD (l.length - (m+1)) zeroF) (l.getD (l.length - k+(m+1)) zeroF))) else none
  | none=>none
theorem smSC_ok {k:Nat} {l:List Lau}:∀ {m:Nat} {s:Lau},smSC k l m=some s->smS k l m=some s
 | 0,s,h=>h
 | m+1,s,h=>by
  simp only [smSC] at h
  split at h
  ·rename_i s' hs
   split at h
   ·rename_i q
    rw [Bool.and_eq_true] at q
    have e:smX k l (m+1)=(mulC (l.getD (l.length - (m+1)) zeroF) (l.getD (l.length - k+(m+1)) zeroF),true):=mulB_ok q.1
    simp only [smS,smSC_ok hs,e,addB_ok q.2]
    simpa using h
   ·simp at h
  ·simp at h
def chkSo (k:Nat) (L:List Lau):Nat->Bool
 | 0=>true
 | m+1=>chkSo k L m && (if m < k then (decide (L.getD m zeroF=⟨k,[⟨unitL k m,1⟩]⟩) && rightB (L.getD m zeroF)) else (match smSC k (L.take m) (k / 2) with
  | some s=>divB s (L.getD (m - k) zeroF) (L.getD m zeroF)
  | none=>false))
theorem take_snocL {L:List Lau} {m:Nat} (h:m < L.length):L.take m ++ [L.getD m zeroF]=L.take (m+1):=by
 rw [List.take_succ_eq_append_getElem h]
 simp [List.getD_eq_getElem?_getD,h]
theorem chkSo_ok {k:Nat} {L:List Lau}:∀ {m:Nat},m<=L.length->chkSo k L m=true->smL k m=some (L.take m)
 | 0,_,_=>by simp [smL]
 | m+1,hl,h=>by
  simp only [chkSo,Bool.and_eq_true] at h
  obtain ⟨h1,h2⟩:=h
  have ih:=chkSo_ok (by omega) h1
  simp only [smL,ih]
  by_cases q:m < k
  ·rw [if_pos q] at h2 ⊢
   simp only [Bool.and_eq_true,decide_eq_true_eq] at h2
   have e:monoF (unitL k m)=L.getD m zeroF:=by
    have hr:=rightB_ok h2.2
    rw [h2.1] at hr ⊢
    have hl:=unitL_length k m
    unfold monoF
    rw [hl,if_pos hr]
   rw [e,take_snocL (by omega)]
  ·rw [if_neg q] at h2 ⊢
   split at h2
   ·rename_i s hs
    have e:(L.take m).getD (m - k) zeroF=L.getD (m - k) zeroF:=by
     by_cases q0:0 < k
     ·simp [List.getD_eq_getElem?_getD,List.getElem?_take,show m - k < m by omega]
     ·have:k=0:=by omega
      subst this
      simp only [smSC,Nat.zero_div,Option.some.injEq] at hs
      subst hs
      exfalso
      simp only [divB,mulB,Bool.and_eq_true,decide_eq_true_eq] at h2
      have h5:=(rightB_ok h2.1.1.1.1.1).1
      have h6:(mulC (L.getD m zeroF) (L.getD (m - 0) zeroF)).v=0:=by rw [h2.2];rfl
      simp only [mulC] at h6
      omega
    rw [smSC_ok hs]
    simp only [e,divB_ok h2]
    rw [if_pos trivial,take_snocL (by omega)]
   ·simp at h2
def itC (f:Lau):Nat->Lau->Option Lau
 | 0,p=>some p
 | n+1,p=>if mulB p f=true then itC f n (mulC p f) else none
theorem itC_ok {f:Lau}:∀ {n:Nat} {p a:Lau},itC f n p=some a->itM f n p=some a
 | 0,p,a,h=>h
 | n+1,p,a,h=>by
  simp only [itC] at h
  split at h
  ·rename_i q
   simp only [itM,mulB_ok q]
   simpa using itC_ok h
  ·simp at h
def prodC (sg:Int):List Lau->List Int->Lau->Option Lau
 | f :: fs,c :: cs,p=>(itC f (sg*c).toNat p).bind (prodC sg fs cs)
 | [],_,p=>some p
 | _ :: _,[],p=>some p
theorem prodC_ok {sg:Int}:∀ {fs:List Lau} {cs:List Int} {p a:Lau},prodC sg fs cs p=some a->prodE sg fs cs p=some a
 | [],_,p,a,h=>by simpa [prodC,prodE] using h
 | f :: fs,[],p,a,h=>by simpa [prodC,prodE] using h
 | f :: fs,c :: cs,p,a,h=>by
  simp only [prodC] at h
  obtain ⟨q,h1,h2⟩:=Option.bind_eq_some_iff.1 h
  simp only [prodE,itC_ok h1]
  exact prodC_ok h2
def chkX (fs:List Lau) (cs:List Int) (r:Nat) (old x:Lau):Bool:=
 cs.all (fun c=>decide (-8<=c/\c<=8)) && (match prodC 1 fs cs (oneF r),prodC (-1) fs cs (oneF r) with
  | some a,some b=>addB a b && divB (addC a b) old x
  | _,_=>false)
theorem chkX_ok {fs:List Lau} {cs:List Int} {r:Nat} {old x:Lau} (h:chkX fs cs r old x=true):exF fs cs r old=(x,true):=by
 simp only [chkX,Bool.and_eq_true,List.all_eq_true,decide_eq_true_eq] at h
 obtain ⟨h1,h2⟩:=h
 split at h2
 ·rename_i a b ha hb
  rw [Bool.and_eq_true] at h2
  rw [exF_some h1 (prodC_ok ha) (prodC_ok hb),addB_ok h2.1]
  simpa using divB_ok h2.2
 ·simp at h2
def skewB (m:Mat):Bool:=decide ((1<=m.n/\m.n<=5)/\(m.n<=m.r/\m.r<=8)/\(m.d.length:Int)=m.n*m.r) && m.d.all (fun x=>decide (-99<=x/\x<=99)) &&
 (List.range m.n.toNat).all fun i=>(List.range m.n.toNat).all fun j=>decide (bM m i j=-bM m j i)
theorem skewB_ok {m:Mat} (h:skewB m=true):MatOK m:=by
 simp only [skewB,Bool.and_eq_true,List.all_eq_true,decide_eq_true_eq,List.mem_range] at h
 refine ⟨⟨h.1.1.1,h.1.1.2.1,h.1.1.2.2,h.1.2⟩,fun _=>1,⟨fun i hi=>by omega,fun i j hi hj=>?_⟩⟩
 have:=h.2 i hi j hj
 simp only [Int.one_mul]
 exact this
def chkD (m:Mat) (fs:List Lau) (k:Nat) (x:Lau) (m':Mat):Bool:=
 skewB m && skewB m' && decide ((k:Int) < m.n) && decide (muM m k=m') && decide ((fs.length:Int)=m.r) && fs.all (fun f=>rightB f && decide (f.ts≠[]/\f.v=m.r)) && chkX fs (colM m m.r.toNat k) m.r.toNat (fs.getD k zeroF) x
theorem chkD_ok {m:Mat} {fs:List Lau} {k:Nat} {x:Lau} {m':Mat} (h:chkD m fs k x m'=true):seedF ⟨m,fs⟩ k=(⟨m',fs.set k x⟩,true):=by
 simp only [chkD,Bool.and_eq_true,List.all_eq_true,decide_eq_true_eq] at h
 obtain ⟨⟨⟨⟨⟨⟨h1,h2⟩,h3⟩,h4⟩,h5⟩,h6⟩,h7⟩:=h
 have hok:SeedOK ⟨m,fs⟩:=⟨skewB_ok h1,h5,fun f hf=>⟨rightB_ok (h6 f hf).1,(h6 f hf).2.1,(h6 f hf).2.2⟩⟩
 have hmu:muF m (k:Int)=(m',true):=by
  unfold muF
  rw [Int.toNat_natCast,h4,if_pos ⟨skewB_ok h1,⟨by omega,h3⟩,skewB_ok h2⟩]
 have hx:=chkX_ok h7
 unfold seedF
 dsimp only
 rw [Int.toNat_natCast,hx,hmu,if_pos ⟨hok,⟨by omega,h3⟩,rfl,rfl⟩]
def somV (k:Nat) (L:List Lau) (i:Nat):List Lau:=(List.range k).map fun j=>L.getD (if j+2*k < i then j+2*k else if j+k < i then j+k else j) zeroF
def somS (k:Nat) (L:List Lau) (Q:List Mat) (i:Nat):Sed:=⟨Q.getD (i - k) zM,somV k L i⟩
def chkQ (k:Nat) (L:List Lau) (Q:List Mat) (i:Nat):Bool:=decide ((somV k L i).set (i % k) (L.getD i zeroF)=somV k L (i+1)) && chkD (Q.getD (i - k) zM) (somV k L i) (i % k) (L.getD i zeroF) (Q.getD (i+1 - k) zM)
def posB (f:Lau):Bool:=rightB f && decide (f.ts≠[]) && f.ts.all fun t=>decide (0<=t.c)
def evB (k:Nat) (f:Lau) (x:Int):Bool:=posB f && decide (f.v=k) && decide ((evS (List.replicate k 1) k f.ts f.ts.length:Int)=x)
def somL4:List Lau:=[⟨4,[⟨[1,0,0,0],1⟩]⟩,
 ⟨4,[⟨[0,1,0,0],1⟩]⟩,
 ⟨4,[⟨[0,0,1,0],1⟩]⟩,
 ⟨4,[⟨[0,0,0,1],1⟩]⟩,
 ⟨4,[⟨[-1,1,0,1],1⟩,⟨[-1,0,2,0],1⟩]⟩,
 ⟨4,[⟨[0,-1,0,2],1⟩,⟨[-1,0,1,1],1⟩,⟨[-1,-1,3,0],1⟩]⟩,
 ⟨4,[⟨[0,-1,-1,3],1⟩,⟨[-1,0,0,2],1⟩,⟨[-1,-1,2,1],1⟩,⟨[-2,2,-1,2],1⟩,⟨[-2,1,1,1],2⟩,⟨[-2,0,3,0],1⟩]⟩,
 ⟨4,[⟨[0,-2,0,3],1⟩,⟨[-1,0,-1,3],1⟩,⟨[-1,-1,1,2],3⟩,⟨[-1,-2,3,1],2⟩,⟨[-2,1,0,2],1⟩,⟨[-2,0,2,1],3⟩,⟨[-2,-1,4,0],3⟩,⟨[-2,-2,6,-1],1⟩,⟨[-3,3,-1,2],1⟩,⟨[-3,2,1,1],3⟩,⟨[-3,1,3,0],3⟩,⟨[-3,0,5,-1],1⟩]⟩,
 ⟨4,[⟨[1,-3,-2,5],1⟩,⟨[0,-2,-1,4],3⟩,⟨[0,-3,1,3],3⟩,⟨[-1,0,-2,4],2⟩,⟨[-1,-1,0,3],5⟩,⟨[-1,-2,2,2],6⟩,⟨[-1,-3,4,1],3⟩,⟨[-2,1,-1,3],3⟩,⟨[-2,0,1,2],7⟩,⟨[-2,-1,3,1],6⟩,⟨[-2,-2,5,0],3⟩,⟨[-2,-3,7,-1],1⟩,⟨[-3,3,-2,3],1⟩,⟨[-3,2,0,2],4⟩,⟨[-3,1,2,1],6⟩,⟨[-3,0,4,0],4⟩,⟨[-3,-1,6,-1],1⟩]⟩]
def somX4:List Int:=[1,1,1,1,2,3,7,23,59]
def somL5:List Lau:=[⟨5,[⟨[1,0,0,0,0],1⟩]⟩,
 ⟨5,[⟨[0,1,0,0,0],1⟩]⟩,
 ⟨5,[⟨[0,0,1,0,0],1⟩]⟩,
 ⟨5,[⟨[0,0,0,1,0],1⟩]⟩,
 ⟨5,[⟨[0,0,0,0,1],1⟩]⟩,
 ⟨5,[⟨[-1,1,0,0,1],1⟩,⟨[-1,0,1,1,0],1⟩]⟩,
 ⟨5,[⟨[0,-1,0,1,1],1⟩,⟨[-1,0,1,0,1],1⟩,⟨[-1,-1,2,1,0],1⟩]⟩,
 ⟨5,[⟨[0,-1,-1,2,1],1⟩,⟨[-1,1,-1,0,2],1⟩,⟨[-1,0,0,1,1],2⟩,⟨[-1,-1,1,2,0],1⟩]⟩,
 ⟨5,[⟨[0,-1,-1,1,2],1⟩,⟨[-1,1,-1,-1,3],1⟩,⟨[-1,0,0,0,2],3⟩,⟨[-1,-1,1,1,1],2⟩,⟨[-2,1,1,-1,2],1⟩,⟨[-2,0,2,0,1],2⟩,⟨[-2,-1,3,1,0],1⟩]⟩]
def somX5:List Int:=[1,1,1,1,1,2,3,5,11]
def somL6:List Lau:=[⟨6,[⟨[1,0,0,0,0,0],1⟩]⟩,
 ⟨6,[⟨[0,1,0,0,0,0],1⟩]⟩,
 ⟨6,[⟨[0,0,1,0,0,0],1⟩]⟩,
 ⟨6,[⟨[0,0,0,1,0,0],1⟩]⟩,
 ⟨6,[⟨[0,0,0,0,1,0],1⟩]⟩,
 ⟨6,[⟨[0,0,0,0,0,1],1⟩]⟩,
 ⟨6,[⟨[-1,1,0,0,0,1],1⟩,⟨[-1,0,1,0,1,0],1⟩,⟨[-1,0,0,2,0,0],1⟩]⟩,
 ⟨6,[⟨[0,-1,0,1,0,1],1⟩,⟨[0,-1,0,0,2,0],1⟩,⟨[-1,0,1,0,0,1],1⟩,⟨[-1,-1,2,0,1,0],1⟩,⟨[-1,-1,1,2,0,0],1⟩]⟩,
 ⟨6,[⟨[0,0,-1,0,0,2],1⟩,⟨[0,-1,-1,2,0,1],1⟩,⟨[0,-1,-1,1,2,0],1⟩,⟨[-1,1,-1,0,1,1],1⟩,⟨[-1,0,0,1,0,1],1⟩,⟨[-1,0,0,0,2,0],1⟩,⟨[-1,0,-1,2,1,0],1⟩,⟨[-1,-1,1,1,1,0],1⟩,⟨[-1,-1,0,3,0,0],1⟩]⟩]
def somX6:List Int:=[1,1,1,1,1,1,3,5,9]
def somL7:List Lau:=[⟨7,[⟨[1,0,0,0,0,0,0],1⟩]⟩,
 ⟨7,[⟨[0,1,0,0,0,0,0],1⟩]⟩,
 ⟨7,[⟨[0,0,1,0,0,0,0],1⟩]⟩,
 ⟨7,[⟨[0,0,0,1,0,0,0],1⟩]⟩,
 ⟨7,[⟨[0,0,0,0,1,0,0],1⟩]⟩,
 ⟨7,[⟨[0,0,0,0,0,1,0],1⟩]⟩,
 ⟨7,[⟨[0,0,0,0,0,0,1],1⟩]⟩,
 ⟨7,[⟨[-1,1,0,0,0,0,1],1⟩,⟨[-1,0,1,0,0,1,0],1⟩,⟨[-1,0,0,1,1,0,0],1⟩]⟩,
 ⟨7,[⟨[0,-1,0,1,0,0,1],1⟩,⟨[0,-1,0,0,1,1,0],1⟩,⟨[-1,0,1,0,0,0,1],1⟩,⟨[-1,-1,2,0,0,1,0],1⟩,⟨[-1,-1,1,1,1,0,0],1⟩]⟩]
def somX7:List Int:=[1,1,1,1,1,1,1,3,5]
def somQ4:List Mat:=[⟨4,4,[0,-1,2,-1,1,0,-3,2,-2,3,0,-1,1,-2,1,0]⟩,
 ⟨4,4,[0,1,-2,1,-1,0,-1,2,2,1,0,-3,-1,-2,3,0]⟩,
 ⟨4,4,[0,-1,-2,3,1,0,1,-2,2,-1,0,-1,-3,2,1,0]⟩,
 ⟨4,4,[0,-3,2,1,3,0,-1,-2,-2,1,0,1,-1,2,-1,0]⟩,
 ⟨4,4,[0,-1,2,-1,1,0,-3,2,-2,3,0,-1,1,-2,1,0]⟩,
 ⟨4,4,[0,1,-2,1,-1,0,-1,2,2,1,0,-3,-1,-2,3,0]⟩]
def somQ5:List Mat:=[⟨5,5,[0,-1,1,1,-1,1,0,-2,0,1,-1,2,0,-2,1,-1,0,2,0,-1,1,-1,-1,1,0]⟩,
 ⟨5,5,[0,1,-1,-1,1,-1,0,-1,1,1,1,1,0,-2,0,1,-1,2,0,-2,-1,-1,0,2,0]⟩,
 ⟨5,5,[0,-1,-1,0,2,1,0,1,-1,-1,1,-1,0,-1,1,0,1,1,0,-2,-2,1,-1,2,0]⟩,
 ⟨5,5,[0,-2,1,-1,2,2,0,-1,-1,0,-1,1,0,1,-1,1,1,-1,0,-1,-2,0,1,1,0]⟩,
 ⟨5,5,[0,-2,0,1,1,2,0,-2,1,-1,0,2,0,-1,-1,-1,-1,1,0,1,-1,1,1,-1,0]⟩]
theorem somC4:chkSo 4 somL4 9=true:=by kernel_rfl
theorem somE4:(List.range 9).all (fun i=>evB 4 (somL4.getD i zeroF) (somX4.getD i 0))=true:=by kernel_rfl
theorem somC5:chkSo 5 somL5 9=true:=by kernel_rfl
theorem somE5:(List.range 9).all (fun i=>evB 5 (somL5.getD i zeroF) (somX5.getD i 0))=true:=by kernel_rfl
theorem somC6:chkSo 6 somL6 9=true:=by kernel_rfl
theorem somE6:(List.range 9).all (fun i=>evB 6 (somL6.getD i zeroF) (somX6.getD i 0))=true:=by kernel_rfl
theorem somC7:chkSo 7 somL7 9=true:=by kernel_rfl
theorem somE7:(List.range 9).all (fun i=>evB 7 (somL7.getD i zeroF) (somX7.getD i 0))=true:=by kernel_rfl
theorem somD4:(List.range 5).all (fun i=>chkQ 4 somL4 somQ4 (i+4))=true:=by kernel_rfl
theorem somD5:(List.range 4).all (fun i=>chkQ 5 somL5 somQ5 (i+5))=true:=by kernel_rfl
def somL (k:Nat):List Lau:=if k=4 then somL4 else if k=5 then somL5 else if k=6 then somL6 else somL7
def somX (k:Nat):List Int:=if k=4 then somX4 else if k=5 then somX5 else if k=6 then somX6 else somX7
def somQ (k:Nat):List Mat:=if k=4 then somQ4 else somQ5
theorem k47 {k:Nat} (hk:4<=k/\k<=7):k=4\/k=5\/k=6\/k=7:=by omega
theorem somL_len {k:Nat} (hk:4<=k/\k<=7):(somL k).length=9:=by
 rcases k47 hk with rfl | rfl | rfl | rfl <;> rfl
theorem somX_len {k:Nat} (hk:4<=k/\k<=7):(somX k).length=9:=by
 rcases k47 hk with rfl | rfl | rfl | rfl <;> rfl
theorem somC {k:Nat} (hk:4<=k/\k<=7):chkSo k (somL k) 9=true:=by
 rcases k47 hk with rfl | rfl | rfl | rfl
 ·exact somC4
 ·exact somC5
 ·exact somC6
 ·exact somC7
theorem chkSo_le {k:Nat} {L:List Lau} {m:Nat} (h:chkSo k L 9=true) (hm:m<=9):chkSo k L m=true:=by
 have hall:∀ j,j<=9->chkSo k L (9 - j)=true:=by
  intro j hj
  induction j with
  | zero=>exact h
  | succ j ih=>
   have:=ih (by omega)
   rw [show 9 - j=(9 - (j+1))+1 by omega] at this
   simp only [chkSo,Bool.and_eq_true] at this
   exact this.1
 have:=hall (9 - m) (by omega)
 rwa [show 9 - (9 - m)=m by omega] at this
theorem smF_som {k n:Nat} (hk:4<=k/\k<=7) (hn:n<=9):smF k n=((somL k).take n,true):=by
 have h:=chkSo_ok (by rw [somL_len hk];exact hn) (chkSo_le (somC hk) hn)
 unfold smF
 rw [if_pos ⟨by omega,by omega,by omega⟩,Int.toNat_natCast,Int.toNat_natCast,h]
theorem somE {k:Nat} (hk:4<=k/\k<=7) {i:Nat} (hi:i < 9):evB k ((somL k).getD i zeroF) ((somX k).getD i 0)=true:=by
 rcases k47 hk with rfl | rfl | rfl | rfl
 ·exact List.all_eq_true.1 somE4 i (List.mem_range.2 hi)
 ·exact List.all_eq_true.1 somE5 i (List.mem_range.2 hi)
 ·exact List.all_eq_true.1 somE6 i (List.mem_range.2 hi)
 ·exact List.all_eq_true.1 somE7 i (List.mem_range.2 hi)
theorem somQ_step {k:Nat} (hk:k=4\/k=5) {i:Nat} (h1:k<=i) (h2:i < 9):chkQ k (somL k) (somQ k) i=true:=by
 have e:i=(i - k)+k:=by omega
 rw [e]
 rcases hk with rfl | rfl
 ·exact List.all_eq_true.1 somD4 (i - 4) (List.mem_range.2 (by omega))
 ·exact List.all_eq_true.1 somD5 (i - 5) (List.mem_range.2 (by omega))
theorem som_mut {k:Nat} (hk:k=4\/k=5) {i:Nat} (h1:k<=i) (h2:i < 9):seedF (somS k (somL k) (somQ k) i) ((i % k:Nat):Int)=(somS k (somL k) (somQ k) (i+1),true):=by
 have h:=somQ_step hk h1 h2
 simp only [chkQ,Bool.and_eq_true,decide_eq_true_eq] at h
 have h3:=chkD_ok h.2
 unfold somS
 rw [h3,h.1]
theorem som_ok {k:Nat} (hk:k=4\/k=5) {i:Nat} (h1:k<=i) (h2:i < 9):SeedOK (somS k (somL k) (somQ k) i):=by
 have h:=som_mut hk h1 h2
 obtain ⟨x,a,b,S,_,hE,_⟩:=seedF_ok h
 exact hE.ok
def sumX (k m:Nat):Nat->Int
 | 0=>0
 | i+1=>sumX k m i+(somX k).getD (m - (i+1)) 0*(somX k).getD (m - k+(i+1)) 0
theorem somX_bd {k:Nat} (hk:4<=k/\k<=7):∀ m,m < 9->1<=(somX k).getD m 0/\(somX k).getD m 0<=100:=by
 rcases k47 hk with rfl | rfl | rfl | rfl <;> decide
theorem somX_one {k:Nat} (hk:4<=k/\k<=7):∀ m,m < 9->m < k->(somX k).getD m 0=1:=by
 rcases k47 hk with rfl | rfl | rfl | rfl <;> decide
theorem somX_step {k:Nat} (hk:4<=k/\k<=7):∀ m,m < 9->k<=m->(sumX k m (k / 2)).tdiv ((somX k).getD (m - k) 0)=(somX k).getD m 0:=by
 rcases k47 hk with rfl | rfl | rfl | rfl <;> decide
theorem sumX_bd {k:Nat} (hk:4<=k/\k<=7):∀ m,m < 9->∀ i,i < 5->0<=sumX k m i/\sumX k m i<=50000:=by
 rcases k47 hk with rfl | rfl | rfl | rfl <;> decide
def rowN (n:Nat) (nm:List Int) (i:Nat):Int:=if i < n then nm.getD i 0 else i
def renL (base:List Int) (m:Mat) (nm:List Int):Nat->List Int
 | 0=>base
 | q+1=>(renL base m nm q).set ((rowN m.n.toNat nm (q / m.n.toNat)).toNat*m.n.toNat+(nm.getD (q % m.n.toNat) 0).toNat) (m.d.getD q 0)
@[simp] theorem renL_length (base:List Int) (m:Mat) (nm:List Int):∀ q,(renL base m nm q).length=base.length
 | 0=>rfl
 | q+1=>by simp [renL,renL_length base m nm q]
def nmS (k:Nat):List Int:=(List.range k).map fun i=>(((i+k - 1) % k:Nat):Int)
theorem som_names {k:Nat} (hk:k=4\/k=5):(nmS k).length=k/\(∀ x∈nmS k,0<=x/\x < k)/\(nmS k).Nodup/\(∀ i,i < k->(nmS k).getD i 0=(((i+k - 1) % k:Nat):Int)):=by
 rcases hk with rfl | rfl <;> decide
theorem som_ren {k:Nat} (hk:k=4\/k=5):muF ((somQ k).getD 0 zM) 0=((somQ k).getD 1 zM,true)/\MatOK ((somQ k).getD 0 zM)/\MatOK ((somQ k).getD 1 zM)/\((somQ k).getD 0 zM).n=k/\((somQ k).getD 0 zM).r=k/\((somQ k).getD 1 zM).n=k/\((somQ k).getD 1 zM).r=k /\
  (⟨((somQ k).getD 1 zM).n,((somQ k).getD 1 zM).r,renL (List.replicate ((somQ k).getD 1 zM).d.length 0) ((somQ k).getD 1 zM) (nmS k) ((somQ k).getD 1 zM).d.length⟩:Mat)=(somQ k).getD 0 zM:=by
 have h:=som_mut hk (i:=k) (Nat.le_refl _) (by omega)
 obtain ⟨x,a,b,S,_,hE,ht⟩:=seedF_ok h
 have e0:((k % k:Nat):Int)=0:=by simp
 have e1:(somS k (somL k) (somQ k) k).m=(somQ k).getD 0 zM:=by simp [somS]
 have e2:(somS k (somL k) (somQ k) (k+1)).m=(somQ k).getD 1 zM:=by simp [somS]
 have hm:=hE.mok
 rw [e0,e1] at hm
 have e3:(muF ((somQ k).getD 0 zM) 0).1=(somQ k).getD 1 zM:=by
  rw [ht] at e2
  simp only [e0,e1] at e2
  exact e2
 have hmu:muF ((somQ k).getD 0 zM) 0=((somQ k).getD 1 zM,true):=by
  rw [← e3,← hm]
  rfl
 obtain ⟨o1,o2,o3,o4⟩:=muF_ok hmu
 refine ⟨hmu,o1,o3,?_⟩
 clear h hE ht hm e1 e2 e3 hmu o1 o2 o3 o4
 rcases hk with rfl | rfl <;> decide
theorem som_vars {k:Nat} (hk:k=4\/k=5):varsL k=somV k (somL k) k:=by
 have e:varsL k=(List.range k).map fun j=>(⟨k,[⟨unitL k j,1⟩]⟩:Lau):=by
  unfold varsL
  refine List.map_congr_left fun j hj=>?_
  have hl:=unitL_length k j
  have hr:Right ⟨(unitL k j).length,[⟨unitL k j,1⟩]⟩:=mono_right.2 ⟨by rw [hl];omega,by
   rw [okE_iff]
   exact ⟨rfl,fun x hx=>by rcases unitL_mem hx with rfl | rfl <;> omega⟩⟩
  unfold monoF
  rw [if_pos hr,hl]
 rw [e]
 rcases hk with rfl | rfl <;> decide
end Go.Proofs.YtbhkonnakkhibaaGreat.Ab
namespace Go.Proofs.YtbhkonnakkhibaaGreat.Ab
open Go
set_option maxRecDepth 10000
set_option maxHeartbeats 2000000
def SgM (m:Mat) (i j:Nat):Prop:=(0 < bM m i j↔bM m j i < 0)/\(bM m i j=0↔bM m j i=0)
def SzM (m:Mat):Prop:=ShM m/\∀ i j,i < m.n.toNat->j < m.n.toNat->SgM m i j
noncomputable instance (m:Mat):Decidable (SzM m):=Classical.propDecidable _
end Go.Proofs.YtbhkonnakkhibaaGreat.Ab
namespace Go.Proofs.YtbhkonnakkhibaaGreat.Ab
open Go
set_option maxRecDepth 10000
set_option maxHeartbeats 2000000
end Go.Proofs.YtbhkonnakkhibaaGreat.Ab
namespace Go.Proofs.YtbhkonnakkhibaaGreat.Ab
open Go
set_option maxRecDepth 10000
set_option maxHeartbeats 2000000
end Go.Proofs.YtbhkonnakkhibaaGreat.Ab
namespace Go.Proofs.YtbhkonnakkhibaaGreat.Ab
open Go
set_option maxRecDepth 10000
set_option maxHeartbeats 2000000
end Go.Proofs.YtbhkonnakkhibaaGreat.Ab
namespace Go.Proofs.YtbhkonnakkhibaaGreat.Ab
open Go
set_option maxRecDepth 10000
set_option maxHeartbeats 2000000
end Go.Proofs.YtbhkonnakkhibaaGreat.Ab
namespace Go.Proofs.YtbhkonnakkhibaaGreat.Ab
open Go
set_option maxRecDepth 10000
set_option maxHeartbeats 2000000
def fZ:Option Lau->List D
 | none=>[D.int 0,.v (.slice none 0 0)]
 | some f=>fO f
theorem fZ_two (t:Option Lau):(fZ t).length=2:=by cases t <;> rfl
@[simp] theorem fZ_length (l:List (Option Lau)):(rows fZ l).length=2*l.length:=rows_length fZ_two l
end Go.Proofs.YtbhkonnakkhibaaGreat.Ab
namespace Go.Proofs.YtbhkonnakkhibaaGreat.Ab
open Go
end Go.Proofs.YtbhkonnakkhibaaGreat.Ab
namespace Go.Proofs.YtbhkonnakkhibaaGreat.Ab
open Go
set_option maxRecDepth 10000
set_option maxHeartbeats 2000000
end Go.Proofs.YtbhkonnakkhibaaGreat.Ab
namespace Go.Proofs.YtbhkonnakkhibaaGreat.Ab
open Go
set_option maxRecDepth 10000
set_option maxHeartbeats 2000000
noncomputable def iniF (m:Mat):Sed×Bool:=if MatOK m then (⟨m,varsL m.r.toNat⟩,true) else (zeroS,false)
theorem impl_InitialSeedN_calls (m:Mat) (hx:m.d.length < 17592186044416) (hno:¬ MatOK m):ACalls Tryz.prog F.impl_InitialSeed [aM m] [] true (fun outs res=>outs=[]/\WkRs res [.ag (sO zeroS),.one (D.bool false)]):=by
 refine ACalls.of_body (C:=C.impl_InitialSeed) (n:=Tryz.f54.ntmps) tabT folT Tryz.func54 rfl (by kernel_rfl) rfl (Nat.le_of_ble_eq_true rfl) (by decide) (by kernel_rfl) (by kernel_rfl) rfl (by simp) (by simp) ?_
 simp only [Tryz.f54]
 refine wseq ?_
 refine wreg fun K hK=>?_
 simp [C.impl_InitialSeed]
 refine hK _ ?_;clear hK K
 show AWp _ _ _ _ _
 refine wseq ?_
 refine wseq ?_
 refine wregI ([0,1] ++ ([2])) rfl fun K hK=>?_
 refine opsI_seg fun L hL=>?_
 simp [C.impl_InitialSeed]
 refine wcall1 (impl_MatrixOkG_calls m hx) (by simp) (by simp) ?_
 simp [C.impl_InitialSeed]
 refine hL _ ?_;clear hL L
 refine opsI_end fun L hL=>?_
 simp [C.impl_InitialSeed]
 refine hL _ ?_;clear hL L
 simp [C.impl_InitialSeed]
 refine hK _ ?_;clear hK K
 show AWp _ _ _ _ _
 refine wcond _ rfl (fun hc1=>?_) (fun hc1=>?_)
 ·refine wseq ?_
  refine wreg fun K hK=>?_
  simp [C.impl_InitialSeed]
  refine hK _ ?_;clear hK K
  show AWp _ _ _ _ _
  refine wret ?_
  simp [C.impl_InitialSeed,zeroS,sO,ints,rows]
 ·exact absurd (nd_f hc1) hno
theorem iIni_calls (m:Mat) (hx:m.d.length < 17592186044416):ACalls Tryz.prog F.impl_InitialSeed [aM m] [] true (fun outs res=>outs=[]/\res=[.ag (sO (iniF m).1),.one (D.bool (iniF m).2)]):=by
 by_cases h:MatOK m
 ·have hm:iniF m=(⟨m,varsL m.r.toNat⟩,true):=if_pos h
  have hd:=sh_dim h.1
  have hok:=impl_MatrixOkG_calls m hx
  rw [decide_eq_true h] at hok
  have hini:=impl_InitialSeed_calls m.n m.r.toNat m.d (by omega) hx
  rw [hd.2.2.2.2.2.2] at hini
  have em:(⟨m.n,m.r,m.d⟩:Mat)=m:=by cases m;rfl
  rw [em] at hini
  rw [hm]
  exact hini hok
 ·have hm:iniF m=(zeroS,false):=if_neg h
  rw [hm]
  exact (impl_InitialSeedN_calls m hx h).weak1
end Go.Proofs.YtbhkonnakkhibaaGreat.Ab
namespace Go.Proofs.YtbhkonnakkhibaaGreat.Ab
open Go
set_option maxRecDepth 10000
set_option maxHeartbeats 2000000
theorem laws_ones_calls (k:Nat) (hk:k<=8):ACalls Tryz.prog F.laws_ones [.int k] [] true (fun outs res=>outs=[]/\res=[.one (owI (List.replicate k 1))]):=by
 refine ACalls.of_body (C:=C.laws_ones) (n:=Tryz.f49.ntmps) tabT folT Tryz.func49 rfl (by kernel_rfl) rfl (Nat.le_of_ble_eq_true rfl) (by decide) (by kernel_rfl) (by kernel_rfl) rfl (by simp) (by simp) ?_
 simp only [Tryz.f49]
 refine wseq ?_
 refine wreg fun K hK=>?_
 simp [C.laws_ones]
 refine hK _ ?_;clear hK K
 show AWp _ _ _ _ _
 refine wseq ?_
 refine wreg fun K hK=>?_
 simp [C.laws_ones]
 refine hK _ ?_;clear hK K
 show AWp _ _ _ _ _
 refine wseq ?_
 refine wblock ?_
 refine wloop (fun j:Nat=>⟨ofL [(0,.int k),(3,.al (3,0) [] 0 j)],ofRO [((3,0),some (.ow 1 j (ints (List.replicate j 1))))]⟩) (fun j=>j<=k) (fun j=>k - j) 0 (by simp [C.laws_ones,ints]) (by simp) ?_
 intro x1 hx1 R1 hR1
 refine wseq ?_
 refine wseq ?_
 refine wreg fun K hK=>?_
 simp [C.laws_ones]
 refine hK _ ?_;clear hK K
 show AWp _ _ _ _ _
 refine wcond _ rfl (fun hc1=>?_) (fun hc1=>?_)
 ·have hj:x1 < k:=by have:=d_t hc1;omega
  refine wskip ?_
  show AWp _ _ _ _ _
  refine wblock ?_
  refine wreg fun K hK=>?_
  simp [C.laws_ones,ints_snocA,show (x1+1)*8<=140737488355328 by omega]
  refine hK _ ?_;clear hK K
  simp [C.laws_ones]
  refine cast (congrArg R1 ?_) (hR1 (x1+1) hj (by omega))
  simp [List.replicate_succ']
 ·have hj:x1=k:=by have:=d_f hc1;omega
  refine wexit ?_
  show AWp _ _ _ _ _
  refine wseq ?_
  refine wreg fun K hK=>?_
  simp [C.laws_ones]
  refine hK _ ?_;clear hK K
  show AWp _ _ _ _ _
  refine wret ?_
  simp [C.laws_ones,hj,owI]
theorem impl_IsPositive_1_calls (t:Trm):ACalls Tryz.prog F.impl_IsPositive_1 [.ag [.d (shI t.e),.int t.c]] [] true (fun outs res=>outs=[]/\res=[.one (D.bool (decide (t.c < 0)))]):=by
 refine ACalls.of_body (C:=C.impl_IsPositive_1) (n:=Tryz.f128.ntmps) tabT folT Tryz.func128 rfl (by kernel_rfl) rfl (Nat.le_of_ble_eq_true rfl) (by decide) (by kernel_rfl) (by kernel_rfl) rfl (by simp) (by simp) ?_
 simp only [Tryz.f128]
 refine wseq ?_
 refine wreg fun K hK=>?_
 simp [C.impl_IsPositive_1]
 refine hK _ ?_;clear hK K
 show AWp _ _ _ _ _
 refine wseq ?_
 refine wreg fun K hK=>?_
 simp [C.impl_IsPositive_1]
 refine hK _ ?_;clear hK K
 show AWp _ _ _ _ _
 refine wret ?_
 simp [C.impl_IsPositive_1]
theorem slices_IndexFunc_impl_Term_impl_Term_calls (xs:List Trm) (g:Nat) (p:Trm->Bool) (hx:xs.length < 4611686018427387904) (hM:aget [] MM g=[]) (hp:∀ x∈xs,ACalls Tryz.prog g [.ag [.d (shI x.e),.int x.c]] [] true (fun outs res=>outs=[]/\res=[.one (D.bool (p x))])):ACalls Tryz.prog F.slices_IndexFunc_impl_Term_impl_Term [.d (.sh 2 xs.length (rows tS xs)),.d (.fn g [])] [] true (fun outs res=>outs=[]/\∃ r:Int,res=[.one (D.int r)]/\decide (0<=r)=xs.any p):=by
 refine ACalls.of_body (C:=C.slices_IndexFunc_impl_Term_impl_Term) (n:=Tryz.f202.ntmps) tabT folT Tryz.func202 rfl (by kernel_rfl) rfl (Nat.le_of_ble_eq_true rfl) (by decide) (by kernel_rfl) (by kernel_rfl) rfl (by simp) (by simp) ?_
 simp only [Tryz.f202]
 refine wseq ?_
 refine wreg fun K hK=>?_
 simp [C.slices_IndexFunc_impl_Term_impl_Term]
 refine hK _ ?_;clear hK K
 show AWp _ _ _ _ _
 refine wseq ?_
 refine wseq ?_
 refine wreg fun K hK=>?_
 simp [C.slices_IndexFunc_impl_Term_impl_Term]
 refine hK _ ?_;clear hK K
 show AWp _ _ _ _ _
 refine wblock ?_
 refine wloop (fun k:Nat=>⟨ofL [(0,.d (.sh 2 xs.length (rows tS xs))),(1,.d (.fn g [])),(7,.int xs.length),(8,FV.int k)],ofRO []⟩) (fun k=>k<=xs.length/\(xs.take k).any p=false) (fun k=>xs.length - k) 0 (by simp [C.slices_IndexFunc_impl_Term_impl_Term]) (by simp) ?_
 intro x1 hx1 R1 hR1
 obtain ⟨hk,ht⟩:=hx1
 refine wseq ?_
 refine wreg fun K hK=>?_
 simp [C.slices_IndexFunc_impl_Term_impl_Term]
 refine hK _ ?_;clear hK K
 show AWp _ _ _ _ _
 refine wseq ?_
 refine wcond _ rfl (fun hc1=>?_) (fun hc1=>?_)
 ·have h1:x1 < xs.length:=by have:=d_t hc1;omega
  refine wskip ?_
  show AWp _ _ _ _ _
  refine wseq ?_
  refine wblock ?_
  refine wseq ?_
  refine wreg fun K hK=>?_
  simp [C.slices_IndexFunc_impl_Term_impl_Term]
  refine hK _ ?_;clear hK K
  show AWp _ _ _ _ _
  refine wseq ?_
  refine wregI ([0,1,2,3,4,5] ++ ([])) rfl fun K hK=>?_
  refine opsI_seg fun L hL=>?_
  simp [C.slices_IndexFunc_impl_Term_impl_Term,tS_0 h1,tS_1 h1,h1,hM]
  refine wcall1 (hp xs[x1] (List.getElem_mem h1)) (by simp) (by simp) ?_
  simp [C.slices_IndexFunc_impl_Term_impl_Term,tS_0 h1,tS_1 h1,h1,hM]
  refine hL _ ?_;clear hL L
  refine opsI_end fun L hL=>?_
  simp only [AOpsI]
  refine hL _ ?_;clear hL L
  simp [C.slices_IndexFunc_impl_Term_impl_Term,tS_0 h1,tS_1 h1,h1,hM]
  refine hK _ ?_;clear hK K
  show AWp _ _ _ _ _
  refine wcond _ rfl (fun hc2=>?_) (fun hc2=>?_)
  ·have hpx:p xs[x1]=true:=by simpa using hc2
   refine wseq ?_
   refine wreg fun K hK=>?_
   simp [C.slices_IndexFunc_impl_Term_impl_Term]
   refine hK _ ?_;clear hK K
   show AWp _ _ _ _ _
   refine wret ?_
   simp [C.slices_IndexFunc_impl_Term_impl_Term]
   exact ⟨xs[x1],List.getElem_mem h1,hpx⟩
  ·have hpx:p xs[x1]=false:=by simpa using hc2
   refine wskip ?_
   show AWp _ _ _ _ _
   refine wreg fun K hK=>?_
   simp [C.slices_IndexFunc_impl_Term_impl_Term,wrap_succ (show x1 < 4611686018427387904 by omega)]
   refine hK _ ?_;clear hK K
   simp [C.slices_IndexFunc_impl_Term_impl_Term]
   refine hR1 (x1+1) ⟨h1,?_⟩ (by omega)
   rw [List.take_succ_eq_append_getElem h1,List.any_append,ht]
   simp [hpx]
 ·have h1:x1=xs.length:=by have:=d_f hc1;omega
  have ht2:xs.any p=false:=by rw [h1,List.take_length] at ht;exact ht
  refine wexit ?_
  show AWp _ _ _ _ _
  refine wseq ?_
  refine wreg fun K hK=>?_
  simp [C.slices_IndexFunc_impl_Term_impl_Term]
  refine hK _ ?_;clear hK K
  show AWp _ _ _ _ _
  refine wret ?_
  simp [C.slices_IndexFunc_impl_Term_impl_Term]
  intro x hx
  have:=List.any_eq_false.1 ht2 x hx
  simpa using this
theorem slices_ContainsFunc_impl_Term_impl_Term_calls (xs:List Trm) (g:Nat) (p:Trm->Bool) (hx:xs.length < 4611686018427387904) (hM:aget [] MM g=[]) (hp:∀ x∈xs,ACalls Tryz.prog g [.ag [.d (shI x.e),.int x.c]] [] true (fun outs res=>outs=[]/\res=[.one (D.bool (p x))])):ACalls Tryz.prog F.slices_ContainsFunc_impl_Term_impl_Term [.d (.sh 2 xs.length (rows tS xs)),.d (.fn g [])] [] true (fun outs res=>outs=[]/\res=[.one (D.bool (xs.any p))]):=by
 refine ACalls.of_body (C:=C.slices_ContainsFunc_impl_Term_impl_Term) (n:=Tryz.f127.ntmps) tabT folT Tryz.func127 rfl (by kernel_rfl) rfl (Nat.le_of_ble_eq_true rfl) (by decide) (by kernel_rfl) (by kernel_rfl) rfl (by simp) (by simp) ?_
 simp only [Tryz.f127]
 refine wseq ?_
 refine wreg fun K hK=>?_
 simp [C.slices_ContainsFunc_impl_Term_impl_Term]
 refine hK _ ?_;clear hK K
 show AWp _ _ _ _ _
 refine wseq ?_
 refine wregI ([0,1,2] ++ ([3,4])) rfl fun K hK=>?_
 refine opsI_seg fun L hL=>?_
 simp [C.slices_ContainsFunc_impl_Term_impl_Term]
 refine wcall (slices_IndexFunc_impl_Term_impl_Term_calls xs g p hx hM hp) (by simp) (by simp) (by simp) ?_
 rintro outs res ⟨rfl,r,rfl,hr⟩
 simp [C.slices_ContainsFunc_impl_Term_impl_Term]
 refine hL _ ?_;clear hL L
 refine opsI_end fun L hL=>?_
 simp [C.slices_ContainsFunc_impl_Term_impl_Term]
 refine hL _ ?_;clear hL L
 simp [C.slices_ContainsFunc_impl_Term_impl_Term]
 refine hK _ ?_;clear hK K
 show AWp _ _ _ _ _
 refine wret ?_
 simp [C.slices_ContainsFunc_impl_Term_impl_Term]
 exact hr
theorem impl_IsPositive_calls (f:Lau) (h:posB f=true):ACalls Tryz.prog F.impl_IsPositive [aF f] [] true (fun outs res=>outs=[]/\res=[.one (D.bool true)]):=by
 simp only [posB,Bool.and_eq_true,decide_eq_true_eq,List.all_eq_true] at h
 have hR:=rightB_ok h.1.1
 have hsm:=(small_right hR).sm'
 have hok:=impl_LaurentOk_calls f hsm.1 hsm.2
 rw [decide_eq_true hR] at hok
 have hlen:(0:Int) < f.ts.length:=by have:=List.length_pos_iff.2 h.1.2;omega
 have hlen2:0 < f.ts.length:=by omega
 have hcon:=slices_ContainsFunc_impl_Term_impl_Term_calls f.ts F.impl_IsPositive_1 (fun t=>decide (t.c < 0)) hsm.1 (by simp) (fun t _=>impl_IsPositive_1_calls t)
 have hany:(f.ts.any fun t=>decide (t.c < 0))=false:=by
  rw [List.any_eq_false]
  intro t ht
  have:=h.2 t ht
  simp
  omega
 rw [hany] at hcon
 refine ACalls.of_body (C:=C.impl_IsPositive) (n:=Tryz.f50.ntmps) tabT folT Tryz.func50 rfl (by kernel_rfl) rfl (Nat.le_of_ble_eq_true rfl) (by decide) (by kernel_rfl) (by kernel_rfl) rfl (by simp) (by simp) ?_
 simp only [Tryz.f50]
 refine wseq ?_
 refine wreg fun K hK=>?_
 simp [C.impl_IsPositive,fS]
 refine hK _ ?_;clear hK K
 show AWp _ _ _ _ _
 refine wseq ?_
 refine wregI ([0,1] ++ ([2,3,4,5,6,7,8,9,10,11] ++ ([12,13,14]))) rfl fun K hK=>?_
 have hJ:K ⟨ofL [(2,.bool true)],ofRO []⟩:=by
  refine hK _ ?_;clear hK K
  show AWp _ _ _ _ _
  refine wret ?_
  simp [C.impl_IsPositive,fS]
 clear hK
 simp [C.impl_IsPositive,fS,hlen,hlen2]
 repeat' first
  | (refine wcall1 (hok) ?_ (by simp) ?_;(focus (simp;done));simp [C.impl_IsPositive,hlen,hlen2])
  | (refine wcall1 (hcon) ?_ (by simp) ?_;(focus (simp;done));simp [C.impl_IsPositive])
  | (refine cast (congrArg K ?_) hJ;simp;done)
  | refine And.intro ?_ ?_
theorem slices_Index_int_int_calls (xs:List Int) (x:Int) (hx:xs.length < 4611686018427387904) (hn:x ∉ xs):ACalls Tryz.prog F.slices_Index_int_int [.d (shI xs),.int x] [] true (fun outs res=>outs=[]/\res=[.one (D.int (-1))]):=by
 refine ACalls.of_body (C:=C.slices_Index_int_int) (n:=Tryz.f235.ntmps) tabT folT Tryz.func235 rfl (by kernel_rfl) rfl (Nat.le_of_ble_eq_true rfl) (by decide) (by kernel_rfl) (by kernel_rfl) rfl (by simp) (by simp) ?_
 simp only [Tryz.f235]
 refine wseq ?_
 refine wreg fun K hK=>?_
 simp [C.slices_Index_int_int]
 refine hK _ ?_;clear hK K
 show AWp _ _ _ _ _
 refine wseq ?_
 refine wseq ?_
 refine wreg fun K hK=>?_
 simp [C.slices_Index_int_int]
 refine hK _ ?_;clear hK K
 show AWp _ _ _ _ _
 refine wblock ?_
 refine wloop (fun k:Nat=>⟨ofL [(0,.d (shI xs)),(1,.int x),(7,.int xs.length),(8,FV.int k)],ofRO []⟩) (fun k=>k<=xs.length) (fun k=>xs.length - k) 0 (by simp [C.slices_Index_int_int]) (by simp) ?_
 intro x1 hx1 R1 hR1
 refine wseq ?_
 refine wreg fun K hK=>?_
 simp [C.slices_Index_int_int]
 refine hK _ ?_;clear hK K
 show AWp _ _ _ _ _
 refine wseq ?_
 refine wcond _ rfl (fun hc1=>?_) (fun hc1=>?_)
 ·have h1:x1 < xs.length:=by have:=d_t hc1;omega
  refine wskip ?_
  show AWp _ _ _ _ _
  refine wseq ?_
  refine wblock ?_
  refine wseq ?_
  refine wreg fun K hK=>?_
  simp [C.slices_Index_int_int]
  refine hK _ ?_;clear hK K
  show AWp _ _ _ _ _
  refine wseq ?_
  refine wreg fun K hK=>?_
  simp [C.slices_Index_int_int,get_ints,h1,show (x1:Int) < xs.length by omega]
  refine hK _ ?_;clear hK K
  show AWp _ _ _ _ _
  refine wcond _ rfl (fun hc2=>?_) (fun hc2=>?_)
  ·have he:x=xs[x1]:=by simpa using hc2
   exact absurd (he ▸ List.getElem_mem h1) hn
  ·refine wskip ?_
   show AWp _ _ _ _ _
   refine wreg fun K hK=>?_
   simp [C.slices_Index_int_int,wrap_succ (show x1 < 4611686018427387904 by omega)]
   refine hK _ ?_;clear hK K
   simp [C.slices_Index_int_int]
   exact hR1 (x1+1) h1 (by omega)
 ·refine wexit ?_
  show AWp _ _ _ _ _
  refine wseq ?_
  refine wreg fun K hK=>?_
  simp [C.slices_Index_int_int]
  refine hK _ ?_;clear hK K
  show AWp _ _ _ _ _
  refine wret ?_
  simp [C.slices_Index_int_int]
theorem slices_Contains_int_int_calls (xs:List Int) (x:Int) (hx:xs.length < 4611686018427387904) (hn:x ∉ xs):ACalls Tryz.prog F.slices_Contains_int_int [.d (shI xs),.int x] [] true (fun outs res=>outs=[]/\res=[.one (D.bool false)]):=by
 refine ACalls.of_body (C:=C.slices_Contains_int_int) (n:=Tryz.f203.ntmps) tabT folT Tryz.func203 rfl (by kernel_rfl) rfl (Nat.le_of_ble_eq_true rfl) (by decide) (by kernel_rfl) (by kernel_rfl) rfl (by simp) (by simp) ?_
 simp only [Tryz.f203]
 refine wseq ?_
 refine wreg fun K hK=>?_
 simp [C.slices_Contains_int_int]
 refine hK _ ?_;clear hK K
 show AWp _ _ _ _ _
 refine wseq ?_
 refine wregI ([0,1,2] ++ ([3,4])) rfl fun K hK=>?_
 refine opsI_seg fun L hL=>?_
 simp [C.slices_Contains_int_int]
 refine wcall1 (slices_Index_int_int_calls xs x hx hn) (by simp) (by simp) ?_
 simp [C.slices_Contains_int_int]
 refine hL _ ?_;clear hL L
 refine opsI_end fun L hL=>?_
 simp [C.slices_Contains_int_int]
 refine hL _ ?_;clear hL L
 simp [C.slices_Contains_int_int]
 refine hK _ ?_;clear hK K
 show AWp _ _ _ _ _
 refine wret ?_
 simp [C.slices_Contains_int_int]
theorem impl_isOrder_calls (l:List Int) (n:Nat) (hn:n<=8) (hl:l.length=n) (hb:∀ x∈l,0<=x/\x < n) (hnd:l.Nodup):ACalls Tryz.prog F.impl_isOrder [.d (shI l),.int n] [] true (fun outs res=>outs=[]/\res=[.one (D.bool true)]):=by
 refine ACalls.of_body (C:=C.impl_isOrder) (n:=Tryz.f130.ntmps) tabT folT Tryz.func130 rfl (by kernel_rfl) rfl (Nat.le_of_ble_eq_true rfl) (by decide) (by kernel_rfl) (by kernel_rfl) rfl (by simp) (by simp) ?_
 simp only [Tryz.f130]
 refine wseq ?_
 refine wreg fun K hK=>?_
 simp [C.impl_isOrder]
 refine hK _ ?_;clear hK K
 show AWp _ _ _ _ _
 refine wseq ?_
 refine wseq ?_
 refine wreg fun K hK=>?_
 simp [C.impl_isOrder]
 refine hK _ ?_;clear hK K
 show AWp _ _ _ _ _
 refine wcond _ rfl (fun hc1=>?_) (fun hc1=>?_)
 ·have:=hc1;simp [hl] at this
 ·refine wskip ?_
  show AWp _ _ _ _ _
  refine wseq ?_
  refine wseq ?_
  refine wreg fun K hK=>?_
  simp [C.impl_isOrder]
  refine hK _ ?_;clear hK K
  show AWp _ _ _ _ _
  refine wblock ?_
  refine wloop (fun k:Nat=>⟨ofL [(0,.d (shI l)),(1,.int n),(11,.d (shI l)),(12,.int l.length),(13,FV.int k)],ofRO []⟩) (fun k=>k<=l.length) (fun k=>l.length - k) 0 (by simp [C.impl_isOrder]) (by simp) ?_
  intro x1 hx1 R1 hR1
  refine wseq ?_
  refine wreg fun K hK=>?_
  simp [C.impl_isOrder]
  refine hK _ ?_;clear hK K
  show AWp _ _ _ _ _
  refine wseq ?_
  refine wcond _ rfl (fun hc2=>?_) (fun hc2=>?_)
  ·have h1:x1 < l.length:=by have:=d_t hc2;omega
   have hv:=hb _ (List.getElem_mem h1)
   have hwi:=impl_within_calls l[x1] 0 ((n:Int) - 1)
   rw [decide_eq_true (show 0<=l[x1]/\l[x1]<=(n:Int) - 1 by omega)] at hwi
   have hno:l[x1] ∉ l.take x1:=fun hm=>by
    have h2:=hnd
    rw [← List.take_append_drop x1 l,List.nodup_append] at h2
    have h3:l.drop x1=l[x1] :: l.drop (x1+1):=List.drop_eq_getElem_cons h1
    exact h2.2.2 _ hm _ (by rw [h3];exact List.mem_cons_self) rfl
   have hcon:=slices_Contains_int_int_calls (l.take x1) l[x1] (by rw [List.length_take];omega) hno
   have htl:(l.take x1).length=x1:=by rw [List.length_take];omega
   rw [show shI (l.take x1) = .sh 1 x1 (ints (l.take x1)) by simp only [shI,htl]] at hcon
   have hwn:IntKind.i64.wrap ((n:Int) - 1)=(n:Int) - 1:=wrapOk (by omega) (by omega)
   refine wskip ?_
   show AWp _ _ _ _ _
   refine wseq ?_
   refine wblock ?_
   refine wseq ?_
   refine wreg fun K hK=>?_
   simp [C.impl_isOrder,get_ints,h1,show (x1:Int) < l.length by omega]
   refine hK _ ?_;clear hK K
   show AWp _ _ _ _ _
   refine wseq ?_
   refine wregI ([0,1,2,3] ++ ([4,5,6,7,8,9,10] ++ ([11]))) rfl fun K hK=>?_
   have hJ:K ⟨ofL [(0,.d (shI l)),(1,.int n),(11,.d (shI l)),(12,.int l.length),(13,FV.int x1),(29,.bool false)],ofRO []⟩:=by
    refine hK _ ?_;clear hK K
    show AWp _ _ _ _ _
    refine wcond _ rfl (fun hc3=>?_) (fun hc3=>?_)
    ·simp at hc3
    ·refine wskip ?_
     show AWp _ _ _ _ _
     refine wreg fun K hK=>?_
     simp [C.impl_isOrder,wrap_succ (show x1 < 4611686018427387904 by omega)]
     refine hK _ ?_;clear hK K
     simp [C.impl_isOrder]
     exact hR1 (x1+1) h1 (by omega)
   clear hK
   simp [C.impl_isOrder,hwn,h1,show (x1:Int)<=l.length by omega,show x1<=l.length by omega]
   repeat' first
    | (refine wcall1 (hwi) ?_ (by simp) ?_;(focus (simp;done));simp [C.impl_isOrder,h1,show (x1:Int)<=l.length by omega,show x1<=l.length by omega])
    | (refine wcall1 (hcon) ?_ (by simp) ?_;(focus (simp [Nat.min_eq_left (show x1<=l.length by omega)];done));simp [C.impl_isOrder])
    | (refine cast (congrArg K ?_) hJ;simp;done)
    | refine And.intro ?_ ?_
  ·refine wexit ?_
   show AWp _ _ _ _ _
   refine wseq ?_
   refine wreg fun K hK=>?_
   simp [C.impl_isOrder]
   refine hK _ ?_;clear hK K
   show AWp _ _ _ _ _
   refine wret ?_
   simp [C.impl_isOrder]
theorem laws_matrices_calls (a b:Mat) (hx:a.d.length < 4611686018427387904):ACalls Tryz.prog F.laws_matrices [aM a,aM b] [] true (fun outs res=>outs=[]/\res=[.one (D.bool (decide (a=b)))]):=by
 refine ACalls.of_body (C:=C.laws_matrices) (n:=Tryz.f55.ntmps) tabT folT Tryz.func55 rfl (by kernel_rfl) rfl (Nat.le_of_ble_eq_true rfl) (by decide) (by kernel_rfl) (by kernel_rfl) rfl (by simp) (by simp) ?_
 simp only [Tryz.f55]
 refine wseq ?_
 refine wreg fun K hK=>?_
 simp [C.laws_matrices]
 refine hK _ ?_;clear hK K
 show AWp _ _ _ _ _
 refine wseq ?_
 refine wregI ([0,1,2,3,4,5,6,7,8,9,10,11,12,13,14,15,16,17] ++ ([18,19])) rfl fun K hK=>?_
 have hJ:K ⟨ofL [(4,.bool (decide (a=b)))],ofRO []⟩:=by
  refine hK _ ?_;clear hK K
  show AWp _ _ _ _ _
  refine wret ?_
  simp [C.laws_matrices]
 clear hK
 by_cases h1:a.n=b.n
 ·by_cases h2:a.r=b.r
  ·refine opsI_seg fun L hL=>?_
   simp [C.laws_matrices,h1,h2]
   refine wcall1 (laws_ints_calls a.d b.d hx) (by simp) (by simp) ?_
   simp [C.laws_matrices,h1,h2]
   refine hL _ ?_;clear hL L
   refine opsI_end fun L hL=>?_
   simp [C.laws_matrices,h1,h2]
   refine hL _ ?_;clear hL L
   simp [C.laws_matrices,h1,h2]
   refine cast (congrArg K ?_) hJ
   simp [mat_eq,h1,h2]
  ·refine opsI_seg fun L hL=>?_
   simp [C.laws_matrices,h1,h2]
   refine hL _ ?_;clear hL L
   refine opsI_end fun L hL=>?_
   simp [C.laws_matrices,h1,h2]
   refine hL _ ?_;clear hL L
   simp [C.laws_matrices,h1,h2]
   refine cast (congrArg K ?_) hJ
   simp [mat_eq,h1,h2]
 ·refine opsI_seg fun L hL=>?_
  simp [C.laws_matrices,h1]
  refine hL _ ?_;clear hL L
  refine opsI_end fun L hL=>?_
  simp [C.laws_matrices,h1]
  refine hL _ ?_;clear hL L
  simp [C.laws_matrices,h1]
  refine cast (congrArg K ?_) hJ
  simp [mat_eq,h1]
def smMat (k:Nat):Mat×Bool:=if k=4\/k=5 then ((somQ k).getD 0 zM,true) else (zM,false)
theorem impl_SomosMatrix_calls (k:Nat) (hk:4<=k/\k<=7):ACalls Tryz.prog F.impl_SomosMatrix [.int k] [] true (fun outs res=>outs=[]/\WkRs res [.ag (mO (smMat k).1),.one (D.bool (smMat k).2)]):=by
 refine ACalls.of_body (C:=C.impl_SomosMatrix) (n:=Tryz.f51.ntmps) tabT folT Tryz.func51 rfl (by kernel_rfl) rfl (Nat.le_of_ble_eq_true rfl) (by decide) (by kernel_rfl) (by kernel_rfl) rfl (by simp) (by simp) ?_
 simp only [Tryz.f51]
 refine wseq ?_
 refine wreg fun K hK=>?_
 simp [C.impl_SomosMatrix]
 refine hK _ ?_;clear hK K
 show AWp _ _ _ _ _
 refine wseq ?_
 refine wseq ?_
 refine wreg fun K hK=>?_
 simp [C.impl_SomosMatrix]
 refine hK _ ?_;clear hK K
 show AWp _ _ _ _ _
 refine wblock ?_
 refine wseq ?_
 refine wreg fun K hK=>?_
 simp [C.impl_SomosMatrix]
 refine hK _ ?_;clear hK K
 show AWp _ _ _ _ _
 refine wcond _ rfl (fun hc1=>?_) (fun hc1=>?_)
 ·have he:k=4:=by have:=hc1;simp at this;omega
  subst he
  have hm:smMat 4=(⟨4,4,[0,-1,2,-1,1,0,-3,2,-2,3,0,-1,1,-2,1,0]⟩,true):=rfl
  refine wseq ?_
  refine wreg fun K hK=>?_
  simp [C.impl_SomosMatrix]
  refine hK _ ?_;clear hK K
  show AWp _ _ _ _ _
  refine wret ?_
  simp [C.impl_SomosMatrix,hm,mO,ints]
 ·have he4:¬ k=4:=by have:=hc1;simp at this;omega
  refine wseq ?_
  refine wreg fun K hK=>?_
  simp [C.impl_SomosMatrix]
  refine hK _ ?_;clear hK K
  show AWp _ _ _ _ _
  refine wcond _ rfl (fun hc2=>?_) (fun hc2=>?_)
  ·have he:k=5:=by have:=hc2;simp at this;omega
   subst he
   have hm:smMat 5=(⟨5,5,[0,-1,1,1,-1,1,0,-2,0,1,-1,2,0,-2,1,-1,0,2,0,-1,1,-1,-1,1,0]⟩,true):=rfl
   refine wseq ?_
   refine wreg fun K hK=>?_
   simp [C.impl_SomosMatrix]
   refine hK _ ?_;clear hK K
   show AWp _ _ _ _ _
   refine wret ?_
   simp [C.impl_SomosMatrix,hm,mO,ints]
  ·have he5:¬ k=5:=by have:=hc2;simp at this;omega
   have hm:smMat k=(zM,false):=if_neg (by omega)
   refine wskip ?_
   show AWp _ _ _ _ _
   refine wseq ?_
   refine wreg fun K hK=>?_
   simp [C.impl_SomosMatrix]
   refine hK _ ?_;clear hK K
   show AWp _ _ _ _ _
   refine wret ?_
   simp [C.impl_SomosMatrix,hm,zM,mO,ints]
theorem iSm_calls (k:Nat) (hk:4<=k/\k<=7):ACalls Tryz.prog F.impl_SomosMatrix [.int k] [] true (fun outs res=>outs=[]/\res=[.ag (mO (smMat k).1),.one (D.bool (smMat k).2)]):=(impl_SomosMatrix_calls k hk).weak1
theorem impl_SomosTerms_calls (k n:Nat) (hk:4<=k/\k<=7) (hn:n<=9):ACalls Tryz.prog F.impl_SomosTerms [.int k,.int n] [] true (fun outs res=>outs=[]/\WkRs res [.one (owI ((somX k).take n)),.one (D.bool true)]):=by
 have hw1:=impl_within_calls (k:Int) 4 7
 rw [decide_eq_true (show 4<=(k:Int)/\(k:Int)<=7 by omega)] at hw1
 have hw2:=impl_within_calls (n:Int) 0 24
 rw [decide_eq_true (show 0<=(n:Int)/\(n:Int)<=24 by omega)] at hw2
 have hXl:=somX_len hk
 refine ACalls.of_body (C:=C.impl_SomosTerms) (n:=Tryz.f46.ntmps) tabT folT Tryz.func46 rfl (by kernel_rfl) rfl (Nat.le_of_ble_eq_true rfl) (by decide) (by kernel_rfl) (by kernel_rfl) rfl (by simp) (by simp) ?_
 simp only [Tryz.f46]
 refine wseq ?_
 refine wreg fun K hK=>?_
 simp [C.impl_SomosTerms]
 refine hK _ ?_;clear hK K
 show AWp _ _ _ _ _
 refine wseq ?_
 refine wseq ?_
 refine wregI ([0,1] ++ ([2,3,4,5] ++ ([6,7]))) rfl fun K hK=>?_
 have hJ:K ⟨ofL [(0,.int k),(1,.int n),(17,.bool false)],ofRO []⟩:=by
  refine hK _ ?_;clear hK K
  show AWp _ _ _ _ _
  refine wcond _ rfl (fun hc1=>?_) (fun hc1=>?_)
  ·simp at hc1
  ·refine wskip ?_
   show AWp _ _ _ _ _
   refine wseq ?_
   refine wreg fun K hK=>?_
   simp [C.impl_SomosTerms]
   refine hK _ ?_;clear hK K
   show AWp _ _ _ _ _
   refine wseq ?_
   refine wseq ?_
   refine wreg fun K hK=>?_
   simp [C.impl_SomosTerms]
   refine hK _ ?_;clear hK K
   show AWp _ _ _ _ _
   refine wblock ?_
   refine wloopW (fun m:Nat=>⟨ofL [(0,.int k),(1,.int n),(6,.al (6,0) [] 0 m),(7,.int m)],ofRO [((6,0),some (.ow 1 m (ints ((somX k).take m))))]⟩) (fun m=>m<=n) (fun m=>n - m) 0 [.tmp 6 1] (by simp [C.impl_SomosTerms,ints];(first | (constructor <;> funext t) | funext t) <;> simp only [ofL,ofRO] <;> (repeat' (first | rfl | split)) <;> (first | (simp_all;done) | (simp_all <;> (first | omega | (intro e;exact absurd e.symm (by assumption)))))) (by simp) ?_
   intro x1 hx1 R1 hR1
   refine wseq ?_
   refine wseq ?_
   refine wreg fun K hK=>?_
   simp [C.impl_SomosTerms]
   refine hK _ ?_;clear hK K
   show AWp _ _ _ _ _
   refine wcond _ rfl (fun hc2=>?_) (fun hc2=>?_)
   ·have hm:x1 < n:=by have:=d_t hc2;omega
    have hbd:=somX_bd hk
    have hval:=hbd x1 (by omega)
    have htl:((somX k).take x1).length=x1:=by rw [List.length_take];omega
    have hget:∀ i,i < x1->∀ h,((somX k).take x1)[i]'h=(somX k).getD i 0:=fun i hi h=>by simp [List.getD_eq_getElem?_getD,show i < (somX k).length by omega]
    have hsnoc:(somX k).take x1 ++ [(somX k).getD x1 0]=(somX k).take (x1+1):=by
     rw [List.take_succ_eq_append_getElem (by omega)]
     simp [List.getD_eq_getElem?_getD,show x1 < (somX k).length by omega]
    obtain ⟨X,hX⟩:∃ X,X=(somX k).getD x1 0:=⟨_,rfl⟩
    rw [← hX] at hval hsnoc
    obtain ⟨T,hT⟩:∃ T,T=(somX k).take x1:=⟨_,rfl⟩
    rw [← hT] at hsnoc htl
    simp only [← hT] at hget
    rw [← hT]
    refine wskip ?_
    show AWp _ _ _ _ _
    refine wseq ?_
    refine wblock ?_
    refine wseq ?_
    refine wreg fun K hK=>?_
    simp [C.impl_SomosTerms]
    refine hK _ ?_;clear hK K
    show AWp _ _ _ _ _
    refine wseq ?_
    refine wseq ?_
    refine wreg fun K hK=>?_
    simp [C.impl_SomosTerms]
    refine hK _ ?_;clear hK K
    show AWp _ _ _ _ _
    refine wcondJ (fun σ'=>∃ t f,σ'=⟨ofL [(0,.int k),(1,.int n),(6,.al (6,0) [] 0 x1),(7,.int x1),(8,.int X),(t,f)],ofRO [((6,0),some (.ow 1 x1 (ints T)))]⟩) _ rfl ?_ (fun hc3 Qc3 hQc3=>?_) (fun hc3 Qc3 hQc3=>?_)
    ·rintro σc3 ⟨tt,ff,rfl⟩
     show AWp _ _ _ _ _
     refine wseq ?_
     refine wseq ?_
     refine wreg fun K hK=>?_
     simp [C.impl_SomosTerms]
     refine hK _ ?_;clear hK K
     show AWp _ _ _ _ _
     refine wcond _ rfl (fun hc4=>?_) (fun hc4=>?_)
     ·have:=d_t hc4;omega
     ·refine wskip ?_
      show AWp _ _ _ _ _
      refine wreg fun K hK=>?_
      simp [C.impl_SomosTerms,ints_snocA,hsnoc,show (x1+1)*8<=140737488355328 by omega]
      refine hK _ ?_;clear hK K
      show AWp _ _ _ _ _
      refine wreg fun K hK=>?_
      simp [C.impl_SomosTerms,wrap_succ (show x1 < 4611686018427387904 by omega)]
      refine hK _ ?_;clear hK K
      simp [C.impl_SomosTerms]
      exact hR1 (x1+1) hm (by omega)
    ·have hge:k<=x1:=by have:=d_t hc3;omega
     refine wseq ?_
     refine wreg fun K hK=>?_
     simp [C.impl_SomosTerms]
     refine hK _ ?_;clear hK K
     show AWp _ _ _ _ _
     refine wseq ?_
     refine wseq ?_
     refine wreg fun K hK=>?_
     simp [C.impl_SomosTerms]
     refine hK _ ?_;clear hK K
     show AWp _ _ _ _ _
     refine wblock ?_
     refine wloop (fun i:Nat=>⟨ofL [(0,.int k),(1,.int n),(6,.al (6,0) [] 0 x1),(7,.int x1),(8,.int (sumX k x1 i)),(9,.int ((i+1:Nat):Int))],ofRO [((6,0),some (.ow 1 x1 (ints T)))]⟩) (fun i=>i<=k / 2) (fun i=>k / 2 - i) 0 (by simp [C.impl_SomosTerms,sumX]) (by simp) ?_
     intro x2 hx2 R2 hR2
     have hx2':x2<=k / 2:=hx2
     have hw2:IntKind.i64.wrap (2*((x2:Int)+1))=2*((x2:Int)+1):=wrapOk (by omega) (by omega)
     refine wseq ?_
     refine wseq ?_
     refine wreg fun K hK=>?_
     simp [C.impl_SomosTerms,hw2]
     refine hK _ ?_;clear hK K
     show AWp _ _ _ _ _
     refine wcond _ rfl (fun hc5=>?_) (fun hc5=>?_)
     ·have hi:2*(x2+1)<=k:=by have:=hc5;simp at this;omega
      obtain ⟨a,ha⟩:∃ a,a=x1 - (x2+1):=⟨_,rfl⟩
      obtain ⟨c,hcc⟩:∃ c,c=x1 - k:=⟨_,rfl⟩
      obtain ⟨b,hb⟩:∃ b,b=c+(x2+1):=⟨_,rfl⟩
      have hwa:IntKind.i64.wrap ((x1:Int) - ((x2:Int)+1))=(a:Int):=by rw [wrapOk (by omega) (by omega)];omega
      have hwk:IntKind.i64.wrap ((x1:Int) - (k:Int))=(c:Int):=by rw [wrapOk (by omega) (by omega)];omega
      have hwb:IntKind.i64.wrap ((c:Int)+((x2:Int)+1))=(b:Int):=by rw [wrapOk (by omega) (by omega)];omega
      have hga:=hget a (by omega)
      have hgb:=hget b (by omega)
      have hba:=hbd a (by omega)
      have hbb:=hbd b (by omega)
      have hsum:sumX k x1 (x2+1)=sumX k x1 x2+(somX k).getD a 0*(somX k).getD b 0:=by rw [ha,hb,hcc];rfl
      have hsb:=sumX_bd hk x1 (by omega) x2 (by omega)
      obtain ⟨A,hA⟩:∃ A,A=(somX k).getD a 0:=⟨_,rfl⟩
      obtain ⟨B,hB⟩:∃ B,B=(somX k).getD b 0:=⟨_,rfl⟩
      rw [← hA] at hga hba hsum
      rw [← hB] at hgb hbb hsum
      have hab:0<=A*B/\A*B<=100*100:=⟨Int.mul_nonneg (by omega) (by omega),Int.mul_le_mul (by omega) (by omega) (by omega) (by omega)⟩
      have hwm:IntKind.i64.wrap (A*B)=A*B:=wrapOk (by omega) (by omega)
      have hws:IntKind.i64.wrap (sumX k x1 x2+A*B)=sumX k x1 (x2+1):=by rw [hsum];exact wrapOk (by omega) (by omega)
      refine wskip ?_
      show AWp _ _ _ _ _
      refine wseq ?_
      refine wblock ?_
      refine wdrawI [(true,0),(true,1),(true,2),(true,3),(true,4),(true,5),(true,6),(true,7),(true,8),(true,9),(true,10),(true,11),(true,12),(true,13),(true,14),(true,15),(true,16),(true,17)] ⟨by kernel_rfl,by kernel_rfl⟩ ([0,1,2,3,4,5,6,7,8,9,10,11,12,13,14,15,16,17]) rfl fun K hK=>?_
      refine opsI_end fun L hL=>?_
      simp [C.impl_SomosTerms,hwa,hwk,hwb,get_ints,hga,hgb,hwm,hws,htl,show a < x1 by omega,show b < x1 by omega,show (a:Int) < x1 by omega,show (b:Int) < x1 by omega]
      refine hL _ ?_;clear hL L
      simp [C.impl_SomosTerms,hwa,hwk,hwb,get_ints,hga,hgb,hwm,hws,htl,show a < x1 by omega,show b < x1 by omega,show (a:Int) < x1 by omega,show (b:Int) < x1 by omega]
      refine hK _ ?_;clear hK K
      show AWp _ _ _ _ _
      refine wreg fun K hK=>?_
      simp [C.impl_SomosTerms,wrapOk (x:=(x2:Int)+1+1) (by omega) (by omega)]
      refine hK _ ?_;clear hK K
      simp [C.impl_SomosTerms]
      refine cast (congrArg R2 ?_) (hR2 (x2+1) (by omega) (by omega))
      simp
     ·have hi:x2=k / 2:=by have:=hc5;simp at this;omega
      obtain ⟨c,hcc⟩:∃ c,c=x1 - k:=⟨_,rfl⟩
      have hwk:IntKind.i64.wrap ((x1:Int) - (k:Int))=(c:Int):=by rw [wrapOk (by omega) (by omega)];omega
      have hgc:=hget c (by omega)
      have hbc:=hbd c (by omega)
      have hdiv:=somX_step hk x1 (by omega) hge
      rw [← hi,← hcc,← hX] at hdiv
      obtain ⟨Cc,hC⟩:∃ C,C=(somX k).getD c 0:=⟨_,rfl⟩
      rw [← hC] at hgc hbc hdiv
      refine wexit ?_
      show AWp _ _ _ _ _
      refine wreg fun K hK=>?_
      simp [C.impl_SomosTerms,hwk,get_ints,hgc,htl,show c < x1 by omega,show (c:Int) < x1 by omega,show ¬ Cc=0 by omega,hdiv,wrapOk (x:=X) (by omega) (by omega)]
      refine hK _ ?_;clear hK K
      rw [ofL_pad]
      exact hQc3 _ ⟨0,.dead,rfl⟩
    ·have hlt:¬ k<=x1:=by have:=d_f hc3;omega
     have hone:=somX_one hk x1 (by omega) (by omega)
     rw [← hX] at hone
     refine wskip ?_
     rw [hone] at hQc3
     exact hQc3 _ ⟨_,_,rfl⟩
   ·have hm:x1=n:=by have:=d_f hc2;omega
    have htl:((somX k).take n).length=n:=by rw [List.length_take];omega
    refine wexit ?_
    show AWp _ _ _ _ _
    refine wseq ?_
    refine wreg fun K hK=>?_
    simp [C.impl_SomosTerms]
    refine hK _ ?_;clear hK K
    show AWp _ _ _ _ _
    refine wret ?_
    simp [C.impl_SomosTerms,hm,owI,htl]
 clear hK
 simp [C.impl_SomosTerms]
 repeat' first
  | (refine wcall1 (hw1) ?_ (by simp) ?_;(focus (simp;done));simp [C.impl_SomosTerms])
  | (refine wcall1 (hw2) ?_ (by simp) ?_;(focus (simp;done));simp [C.impl_SomosTerms])
  | (refine cast (congrArg K ?_) hJ;simp;done)
  | refine And.intro ?_ ?_
theorem iSt_calls (k n:Nat) (hk:4<=k/\k<=7) (hn:n<=9):ACalls Tryz.prog F.impl_SomosTerms [.int k,.int n] [] true (fun outs res=>outs=[]/\res=[.one (owI ((somX k).take n)),.one (D.bool true)]):=(impl_SomosTerms_calls k n hk hn).weak1
end Go.Proofs.YtbhkonnakkhibaaGreat.Ab
namespace Go.Proofs.YtbhkonnakkhibaaGreat.Ab
open Go
set_option maxRecDepth 10000
set_option maxHeartbeats 2000000
theorem renL_step {base:List Int} {m:Mat} {nm:List Int} {n i j rw y:Nat} (hn:m.n=n) (hj:j < n) (h1:(rowN n nm i).toNat=rw) (h2:nm.getD j 0=(y:Int)):renL base m nm (i*n+j+1)=(renL base m nm (i*n+j)).set (rw*n+y) (bM m i j):=by
 have en:m.n.toNat=n:=by omega
 have e1:(i*n+j) / n=i:=by rw [Nat.mul_comm,Nat.mul_add_div (by omega),Nat.div_eq_of_lt hj,Nat.add_zero]
 have e2:(i*n+j) % n=j:=by rw [Nat.mul_comm,Nat.mul_add_mod,Nat.mod_eq_of_lt hj]
 simp only [renL,en,e1,e2,h1,h2,Int.toNat_natCast]
 rw [show m.d.getD (i*n+j) 0=bM m i j by simp [bM,g0,en]]
theorem rowN_bd {n r:Nat} {nm:List Int} {i:Nat} (hl:nm.length=n) (hb:∀ x∈nm,0<=x/\x < n) (hnr:n<=r) (hi:i < r):rowN n nm i=(((rowN n nm i).toNat:Nat):Int)/\(rowN n nm i).toNat < r:=by
 unfold rowN
 split
 ·rename_i h
  have e:nm.getD i 0=nm[i]'(by omega):=by simp [List.getD_eq_getElem?_getD,show i < nm.length by omega]
  have:=hb _ (List.getElem_mem (show i < nm.length by omega))
  rw [e]
  omega
 ·omega
theorem impl_RenameMatrix_calls (m:Mat) (nm:List Int) (n r:Nat) (hn:m.n=n) (hr:m.r=r) (hok:MatOK m) (hl:nm.length=n) (hb:∀ x∈nm,0<=x/\x < n) (hnd:nm.Nodup):ACalls Tryz.prog F.impl_RenameMatrix [.ag [.int n,.int r,.d (shI m.d)],.d (shI nm)] [] true (fun outs res=>outs=[]/\res=[.ag (mO ⟨n,r,renL (List.replicate m.d.length 0) m nm m.d.length⟩),.one (D.bool true)]):=by
 have hS:=hok.1
 have hd:=sh_dim hS
 have hn5:1<=n/\n<=5:=by omega
 have hnr:n<=r/\r<=8:=by omega
 have hL:m.d.length=r*n:=by rw [hd.2.2.2.2.1,show m.r.toNat=r by omega,show m.n.toNat=n by omega]
 have hL40:m.d.length<=40:=by rw [hL];exact Nat.mul_le_mul hnr.2 hn5.2
 have hmok:=impl_MatrixOkG_calls m (by omega)
 have haM:aM m = .ag [.int n,.int r,.d (shI m.d)]:=by rw [← hn,← hr]
 rw [decide_eq_true hok,haM] at hmok
 have hio:=impl_isOrder_calls nm n (by omega) hl hb hnd
 obtain ⟨Z,hZ⟩:∃ Z:List Int,Z=List.replicate m.d.length 0:=⟨_,rfl⟩
 have hZl:Z.length=m.d.length:=by rw [hZ];simp
 rw [← hZ]
 refine ACalls.of_body (C:=C.impl_RenameMatrix) (n:=Tryz.f53.ntmps) tabT folT Tryz.func53 rfl (by kernel_rfl) rfl (Nat.le_of_ble_eq_true rfl) (by decide) (by kernel_rfl) (by kernel_rfl) rfl (by simp) (by simp) ?_
 simp only [Tryz.f53]
 refine wseq ?_
 refine wreg fun K hK=>?_
 simp [C.impl_RenameMatrix]
 refine hK _ ?_;clear hK K
 show AWp _ _ _ _ _
 refine wseq ?_
 refine wseq ?_
 refine wregI ([0,1] ++ ([2,3,4,5,6,7] ++ ([8,9]))) rfl fun K hK=>?_
 have hJ:K ⟨ofL [(1,.d (shI nm)),(2,.pt (2,0) [] 0),(4,.pt (4,0) [] 0),(19,.bool false)],ofRO [((2,0),some (.bx [D.int n,D.int r,shI m.d])),((4,0),some (.bx [D.int 0,D.int 0,.v (.slice none 0 0)]))]⟩:=by
  refine hK _ ?_;clear hK K
  show AWp _ _ _ _ _
  refine wcond _ rfl (fun hc1=>?_) (fun hc1=>?_)
  ·simp at hc1
  ·refine wskip ?_
   show AWp _ _ _ _ _
   refine wseq ?_
   refine wdraw (.take 0 (.take 1 (.take 2 (.take 3 (.take 4 (.take 5 (.take 6 (.all [(7,.take 8 (.all [(9,.all [(10,.done)])])),(9,.all [(7,.take 8 (.all [(10,.done)]))])])))))))) ⟨by kernel_rfl,by kernel_rfl⟩ fun K hK=>?_
   have hJ:K ⟨ofL [(1,.d (shI nm)),(2,.pt (2,0) [] 0),(4,.pt (4,0) [] 0),(6,.pt (6,0) [] 0)],ofRO [((2,0),some (.bx [D.int n,D.int r,shI m.d])),((4,0),some (.bx [D.int 0,D.int 0,.v (.slice none 0 0)])),((6,0),some (.bx [D.int n,D.int r,owI Z]))]⟩:=by
    refine hK _ ?_;clear hK K
    show AWp _ _ _ _ _
    refine wseq ?_
    refine wseq ?_
    refine wreg fun K hK=>?_
    simp [C.impl_RenameMatrix]
    refine hK _ ?_;clear hK K
    show AWp _ _ _ _ _
    refine wblock ?_
    refine wloop (fun i:Nat=>⟨ofL [(1,.d (shI nm)),(2,.pt (2,0) [] 0),(4,.pt (4,0) [] 0),(6,.pt (6,0) [] 0),(7,.int i)],ofRO [((2,0),some (.bx [D.int n,D.int r,shI m.d])),((4,0),some (.bx [D.int 0,D.int 0,.v (.slice none 0 0)])),((6,0),some (.bx [D.int n,D.int r,owI (renL Z m nm (i*n))]))]⟩) (fun i=>i<=r) (fun i=>r - i) 0 (by simp [C.impl_RenameMatrix,renL]) (by simp) ?_
    intro x1 hx1 R1 hR1
    refine wseq ?_
    refine wseq ?_
    refine wreg fun K hK=>?_
    simp [C.impl_RenameMatrix]
    refine hK _ ?_;clear hK K
    show AWp _ _ _ _ _
    refine wcond _ rfl (fun hc2=>?_) (fun hc2=>?_)
    ·have hi:x1 < r:=by have:=d_t hc2;omega
     obtain ⟨e1,e2⟩:=rowN_bd hl hb hnr.1 hi
     obtain ⟨rw',hrw⟩:∃ rw',rw'=(rowN n nm x1).toNat:=⟨_,rfl⟩
     rw [← hrw] at e1 e2
     refine wskip ?_
     show AWp _ _ _ _ _
     refine wseq ?_
     refine wblock ?_
     refine wseq ?_
     refine wreg fun K hK=>?_
     simp [C.impl_RenameMatrix]
     refine hK _ ?_;clear hK K
     show AWp _ _ _ _ _
     refine wseq ?_
     refine wseq ?_
     refine wreg fun K hK=>?_
     simp [C.impl_RenameMatrix]
     refine hK _ ?_;clear hK K
     show AWp _ _ _ _ _
     refine wcondJ (fun σ'=>∃ t f,σ'=⟨ofL [(1,.d (shI nm)),(2,.pt (2,0) [] 0),(4,.pt (4,0) [] 0),(6,.pt (6,0) [] 0),(7,.int x1),(8,.int rw'),(t,f)],ofRO [((2,0),some (.bx [D.int n,D.int r,shI m.d])),((4,0),some (.bx [D.int 0,D.int 0,.v (.slice none 0 0)])),((6,0),some (.bx [D.int n,D.int r,owI (renL Z m nm (x1*n))]))]⟩) _ rfl ?_ (fun hc3 Qc3 hQc3=>?_) (fun hc3 Qc3 hQc3=>?_)
     ·rintro σc3 ⟨tt,ff,rfl⟩
      show AWp _ _ _ _ _
      refine wseq ?_
      refine wreg fun K hK=>?_
      simp [C.impl_RenameMatrix]
      refine hK _ ?_;clear hK K
      show AWp _ _ _ _ _
      refine wblock ?_
      refine wloop (fun j:Nat=>⟨ofL [(1,.d (shI nm)),(2,.pt (2,0) [] 0),(4,.pt (4,0) [] 0),(6,.pt (6,0) [] 0),(7,.int x1),(8,.int rw'),(9,.int j)],ofRO [((2,0),some (.bx [D.int n,D.int r,shI m.d])),((4,0),some (.bx [D.int 0,D.int 0,.v (.slice none 0 0)])),((6,0),some (.bx [D.int n,D.int r,owI (renL Z m nm (x1*n+j))]))]⟩) (fun j=>j<=n) (fun j=>n - j) 0 (by simp [C.impl_RenameMatrix]) (by simp) ?_
      intro x2 hx2 R2 hR2
      refine wseq ?_
      refine wseq ?_
      refine wreg fun K hK=>?_
      simp [C.impl_RenameMatrix]
      refine hK _ ?_;clear hK K
      show AWp _ _ _ _ _
      refine wcond _ rfl (fun hc4=>?_) (fun hc4=>?_)
      ·have hj:x2 < n:=by have:=d_t hc4;omega
       have hjn:x2 < nm.length:=by omega
       have hyb:=hb _ (List.getElem_mem hjn)
       obtain ⟨y,hy⟩:∃ y:Nat,nm[x2]=y:=⟨nm[x2].toNat,by omega⟩
       rw [hy] at hyb
       have hyd:nm.getD x2 0=(y:Int):=by rw [← hy];simp [List.getD_eq_getElem?_getD,hjn]
       have hst:=renL_step (base:=Z) hn hj hrw.symm hyd
       obtain ⟨q,hq⟩:∃ q,q=rw' * n+y:=⟨_,rfl⟩
       have hqL:q < m.d.length:=by
        rw [hL,hq]
        have h1:(rw' + 1)*n<=r*n:=Nat.mul_le_mul_right _ (by omega)
        rw [Nat.add_mul] at h1
        omega
       have hw1:IntKind.i64.wrap ((rw':Int)*n)=((rw' * n:Nat):Int):=by
        rw [wrapOk]
        ·simp
        ·have:(rw':Int)*n=((rw' * n:Nat):Int):=by simp
         omega
        ·have:(rw':Int)*n=((rw' * n:Nat):Int):=by simp
         omega
       have hw2:IntKind.i64.wrap (((rw' * n:Nat):Int)+y)=(q:Int):=by rw [wrapOk (by omega) (by omega)];omega
       have hat:=at_calls hn hS (show (x1:Int) < m.r by omega) hj
       rw [hr] at hat
       have hAl:(renL Z m nm (x1*n+x2)).length=m.d.length:=by rw [renL_length,hZl]
       rw [← hq] at hst
       obtain ⟨A,hA⟩:∃ A,A=renL Z m nm (x1*n+x2):=⟨_,rfl⟩
       rw [← hA] at hst hAl
       rw [← hA]
       obtain ⟨P,hP⟩:∃ P,P=rw' * n:=⟨_,rfl⟩
       rw [← hP] at hw1 hw2
       refine wskip ?_
       show AWp _ _ _ _ _
       refine wseq ?_
       refine wblock ?_
       refine wdrawI [(true,0),(true,1),(true,2),(true,3),(true,4),(true,5),(true,6),(true,7),(true,8),(true,9),(true,10),(true,11),(true,12),(true,13),(false,14),(true,15),(false,16)] ⟨by kernel_rfl,by kernel_rfl⟩ ([0,1,2,3,4,5,6,7,8,9,10,11,12,13,14] ++ ([15,16])) rfl fun K hK=>?_
       have hJ:K ⟨ofL [(1,.d (shI nm)),(2,.pt (2,0) [] 0),(4,.pt (4,0) [] 0),(6,.pt (6,0) [] 0),(7,.int x1),(8,.int rw'),(9,.int x2)],ofRO [((2,0),some (.bx [D.int n,D.int r,shI m.d])),((4,0),some (.bx [D.int 0,D.int 0,.v (.slice none 0 0)])),((6,0),some (.bx [D.int n,D.int r,owI (renL Z m nm (x1*n+x2+1))]))]⟩:=by
        refine hK _ ?_;clear hK K
        show AWp _ _ _ _ _
        refine wreg fun K hK=>?_
        simp [C.impl_RenameMatrix,wrap_succ (show x2 < 4611686018427387904 by omega)]
        refine hK _ ?_;clear hK K
        simp [C.impl_RenameMatrix]
        refine cast (congrArg R2 ?_) (hR2 (x2+1) hj (by omega))
        simp [← Nat.add_assoc]
       clear hK
       simp [C.impl_RenameMatrix,hw1,hw2,get_ints,hjn,hy,hAl,hqL,show (x2:Int) < nm.length by omega,show (q:Int) < m.d.length by omega]
       repeat' first
        | (refine wcall1 (hat) ?_ (by simp) ?_;(focus (simp;done));simp [C.impl_RenameMatrix,hw1,hw2,get_ints,hjn,hy,hAl,hqL,show (x2:Int) < nm.length by omega,show (q:Int) < m.d.length by omega])
        | (refine cast (congrArg K ?_) hJ;simp [hst,hAl,owI];done)
        | refine And.intro ?_ ?_
      ·have hj:x2=n:=by have:=d_f hc4;omega
       refine wexit ?_
       show AWp _ _ _ _ _
       refine wreg fun K hK=>?_
       simp [C.impl_RenameMatrix,wrap_succ (show x1 < 4611686018427387904 by omega)]
       refine hK _ ?_;clear hK K
       simp [C.impl_RenameMatrix]
       refine cast (congrArg R1 ?_) (hR1 (x1+1) hi (by omega))
       simp [Nat.add_mul,hj]
     ·have hin:x1 < n:=by have:=d_t hc3;omega
      have hnx:nm[x1]'(by omega)=(rw':Int):=by
       rw [← e1]
       unfold rowN
       rw [if_pos hin]
       simp [List.getD_eq_getElem?_getD,show x1 < nm.length by omega]
      refine wreg fun K hK=>?_
      simp [C.impl_RenameMatrix,get_ints,hnx,show x1 < nm.length by omega,show (x1:Int) < nm.length by omega]
      refine hK _ ?_;clear hK K
      rw [ofL_pad]
      exact hQc3 _ ⟨0,.dead,rfl⟩
     ·have hin:¬ x1 < n:=by have:=d_f hc3;omega
      have hnx:(x1:Int)=rw':=by
       rw [← e1]
       unfold rowN
       rw [if_neg hin]
      refine wskip ?_
      rw [← hnx] at hQc3
      exact hQc3 _ ⟨_,_,rfl⟩
    ·have hi:x1=r:=by have:=d_f hc2;omega
     refine wexit ?_
     show AWp _ _ _ _ _
     refine wseq ?_
     refine wreg fun K hK=>?_
     simp [C.impl_RenameMatrix]
     refine hK _ ?_;clear hK K
     show AWp _ _ _ _ _
     refine wret ?_
     simp [C.impl_RenameMatrix,mO,hi,← hL]
   clear hK
   simp [C.impl_RenameMatrix,zeros_ints,show (8:Int)*m.d.length<=281474976710656 by omega,show (m.d.length:Int)<=281474976710656 by omega]
   repeat' first
    | (refine cast (congrArg K ?_) hJ;simp [hZ,owI];done)
    | refine And.intro ?_ ?_
 clear hK
 simp [C.impl_RenameMatrix]
 repeat' first
  | (refine wcall1 (hmok) ?_ (by simp) ?_;(focus (simp;done));simp [C.impl_RenameMatrix])
  | (refine wcall1 (hio) ?_ (by simp) ?_;(focus (simp;done));simp [C.impl_RenameMatrix])
  | (refine cast (congrArg K ?_) hJ;simp;done)
  | refine And.intro ?_ ?_
end Go.Proofs.YtbhkonnakkhibaaGreat.Ab
namespace Go.Proofs.YtbhkonnakkhibaaGreat.Ab
open Go
set_option maxRecDepth 10000
set_option maxHeartbeats 2000000
theorem laws_at0_calls (xs:List Int) (i:Nat) (hx:xs.length<=1048576) (hb:∀ x∈xs,0<=x/\x<=255) (hi:i<=100):ACalls Tryz.prog F.laws_at0 [.d (.sh 1 xs.length (byts xs)),.int i] [] true (fun outs res=>outs=[]/\∃ r:Int,res=[.one (D.int r)]/\0<=r/\r < 256):=by
 refine ACalls.of_body (C:=C.laws_at0) (n:=Tryz.f44.ntmps) tabT folT Tryz.func44 rfl (by kernel_rfl) rfl (Nat.le_of_ble_eq_true rfl) (by decide) (by kernel_rfl) (by kernel_rfl) rfl (by simp) (by simp) ?_
 simp only [Tryz.f44]
 refine wseq ?_
 refine wreg fun K hK=>?_
 simp [C.laws_at0]
 refine hK _ ?_;clear hK K
 show AWp _ _ _ _ _
 refine wseq ?_
 refine wseq ?_
 refine wreg fun K hK=>?_
 simp [C.laws_at0]
 refine hK _ ?_;clear hK K
 show AWp _ _ _ _ _
 refine wcond _ rfl (fun hc1=>?_) (fun hc1=>?_)
 ·have h1:i < xs.length:=by have:=d_t hc1;omega
  have hv:=hb _ (List.getElem_mem h1)
  refine wseq ?_
  refine wreg fun K hK=>?_
  simp [C.laws_at0,h1,byts_0 h1,show (i:Int) < xs.length by omega,wrapOk (x:=xs[i]) (by omega) (by omega)]
  refine hK _ ?_;clear hK K
  show AWp _ _ _ _ _
  refine wret ?_
  simp [C.laws_at0]
  exact ⟨by omega,by omega⟩
 ·refine wskip ?_
  show AWp _ _ _ _ _
  refine wseq ?_
  refine wreg fun K hK=>?_
  simp [C.laws_at0,wrapOk (x:=(i:Int)*7) (by omega) (by omega),wrapOk (x:=(i:Int)*7+xs.length) (by omega) (by omega)]
  refine hK _ ?_;clear hK K
  show AWp _ _ _ _ _
  refine wret ?_
  simp [C.laws_at0]
  exact ⟨Int.tmod_nonneg _ (by omega),Int.tmod_lt_of_pos _ (by omega)⟩
end Go.Proofs.YtbhkonnakkhibaaGreat.Ab
namespace Go.Proofs.YtbhkonnakkhibaaGreat.Ab
open Go
set_option maxRecDepth 10000
set_option maxHeartbeats 2000000
theorem resid (x:Int):(IntKind.i64.wrap (x.tmod 32003+32003)).tmod 32003=(rsd x:Int):=by
 have h1:=Int.mul_tdiv_add_tmod x 32003
 have h2:=Int.tmod_lt_of_pos x (show (0:Int) < 32003 by omega)
 have h3:=Int.lt_tmod_of_pos x (show (0:Int) < 32003 by omega)
 rw [wrapOk (by omega) (by omega),Int.tmod_eq_emod_of_nonneg (by omega),rsd_int]
 omega
theorem ntmod (a b:Nat):(a:Int).tmod b=((a % b:Nat):Int):=rfl
theorem ntdiv (a b:Nat):(a:Int).tdiv b=((a / b:Nat):Int):=rfl
theorem pwmul {a b:Nat} (ha:a < 32003) (hb:b < 32003):(IntKind.i64.wrap ((a:Int)*b)).tmod 32003=((a*b % 32003:Nat):Int):=by
 have h1:a*b<=32003*32003:=Nat.mul_le_mul (by omega) (by omega)
 rw [← Int.natCast_mul,wrapOk (by omega) (by omega)]
 exact ntmod _ 32003
theorem pwadd {a b:Nat} (ha:a < 32003) (hb:b < 32003):(IntKind.i64.wrap ((a:Int)+b)).tmod 32003=(((a+b) % 32003:Nat):Int):=by
 rw [← Int.natCast_add,wrapOk (by omega) (by omega)]
 exact ntmod _ 32003
theorem invN_zero:∀ (k o b:Nat),invN k o b 0=o
 | 0,_,_=>rfl
 | k+1,o,b=>by
  simp only [invN]
  exact invN_zero k o _
theorem invN_lt:∀ (k o b n:Nat),o < 32003->invN k o b n < 32003
 | 0,_,_,_,h=>h
 | k+1,o,b,n,h=>by
  simp only [invN]
  cases n % 2 == 1 with
  | true=>exact invN_lt k _ _ _ (Nat.mod_lt _ (by omega))
  | false=>exact invN_lt k _ _ _ h
theorem impl_residue_calls (x:Int):ACalls Tryz.prog F.impl_residue [.int x] [] true (fun outs res=>outs=[]/\res=[.one (D.int (rsd x))]):=by
 refine ACalls.of_body (C:=C.impl_residue) (n:=Tryz.f124.ntmps) tabT folT Tryz.func124 rfl (by kernel_rfl) rfl (Nat.le_of_ble_eq_true rfl) (by decide) (by kernel_rfl) (by kernel_rfl) rfl (by simp) (by simp) ?_
 simp only [Tryz.f124]
 refine wseq ?_
 refine wreg fun K hK=>?_
 simp [C.impl_residue]
 refine hK _ ?_;clear hK K
 show AWp _ _ _ _ _
 refine wseq ?_
 refine wreg fun K hK=>?_
 simp [C.impl_residue,resid x]
 refine hK _ ?_;clear hK K
 show AWp _ _ _ _ _
 refine wret ?_
 simp [C.impl_residue]
theorem impl_powerOf_calls (x:Nat) (n:Nat) (hx:x < 32003) (hn:n < 4611686018427387904):ACalls Tryz.prog F.impl_powerOf [.int x,.int n] [] true (fun outs res=>outs=[]/\res=[.one (D.int (pwN x n))]):=by
 refine ACalls.of_body (C:=C.impl_powerOf) (n:=Tryz.f126.ntmps) tabT folT Tryz.func126 rfl (by kernel_rfl) rfl (Nat.le_of_ble_eq_true rfl) (by decide) (by kernel_rfl) (by kernel_rfl) rfl (by simp) (by simp) ?_
 simp only [Tryz.f126]
 refine wseq ?_
 refine wreg fun K hK=>?_
 simp [C.impl_powerOf]
 refine hK _ ?_;clear hK K
 show AWp _ _ _ _ _
 refine wseq ?_
 refine wreg fun K hK=>?_
 simp [C.impl_powerOf]
 refine hK _ ?_;clear hK K
 show AWp _ _ _ _ _
 refine wseq ?_
 refine wblock ?_
 refine wloop (fun k:Nat=>⟨ofL [(0,.int x),(1,.int ((n:Int) - k)),(5,.int (pwN x k))],ofRO []⟩) (fun k=>k<=n) (fun k=>n - k) 0 (by simp [C.impl_powerOf,pwN]) (by simp) ?_
 intro x1 hx1 R1 hR1
 refine wseq ?_
 refine wseq ?_
 refine wreg fun K hK=>?_
 simp [C.impl_powerOf]
 refine hK _ ?_;clear hK K
 show AWp _ _ _ _ _
 refine wcond _ rfl (fun hc1=>?_) (fun hc1=>?_)
 ·have h1:x1 < n:=by have:=d_t hc1;omega
  refine wskip ?_
  show AWp _ _ _ _ _
  refine wseq ?_
  refine wblock ?_
  refine wreg fun K hK=>?_
  simp [C.impl_powerOf,pwmul (pwN_lt x x1) hx]
  refine hK _ ?_;clear hK K
  show AWp _ _ _ _ _
  refine wreg fun K hK=>?_
  simp [C.impl_powerOf,wrapOk (x:=(n:Int) - x1 - 1) (by omega) (by omega)]
  refine hK _ ?_;clear hK K
  simp [C.impl_powerOf]
  refine cast (congrArg R1 ?_) (hR1 (x1+1) h1 (by omega))
  simp [pwN,show (n:Int) - (x1+1)=n - x1 - 1 by omega]
 ·have h1:x1=n:=by have:=d_f hc1;omega
  refine wexit ?_
  show AWp _ _ _ _ _
  refine wseq ?_
  refine wreg fun K hK=>?_
  simp [C.impl_powerOf]
  refine hK _ ?_;clear hK K
  show AWp _ _ _ _ _
  refine wret ?_
  simp [C.impl_powerOf,h1]
theorem impl_inverse_calls (x:Nat) (hx:x < 32003):ACalls Tryz.prog F.impl_inverse [.int x] [] true (fun outs res=>outs=[]/\res=[.one (D.int (invN 15 1 x 32001))]):=by
 obtain ⟨I,hI⟩:∃ I,I=invN 15 1 x 32001:=⟨_,rfl⟩
 rw [← hI]
 refine ACalls.of_body (C:=C.impl_inverse) (n:=Tryz.f125.ntmps) tabT folT Tryz.func125 rfl (by kernel_rfl) rfl (Nat.le_of_ble_eq_true rfl) (by decide) (by kernel_rfl) (by kernel_rfl) rfl (by simp) (by simp) ?_
 simp only [Tryz.f125]
 refine wseq ?_
 refine wreg fun K hK=>?_
 simp [C.impl_inverse]
 refine hK _ ?_;clear hK K
 show AWp _ _ _ _ _
 refine wseq ?_
 refine wreg fun K hK=>?_
 simp [C.impl_inverse]
 refine hK _ ?_;clear hK K
 show AWp _ _ _ _ _
 refine wseq ?_
 refine wseq ?_
 refine wreg fun K hK=>?_
 simp [C.impl_inverse]
 refine hK _ ?_;clear hK K
 show AWp _ _ _ _ _
 refine wblock ?_
 refine wloop (fun y:Nat×Nat×Nat×Nat=>⟨ofL [(3,.int y.2.1),(4,.int y.2.2.1),(5,.int y.2.2.2)],ofRO []⟩) (fun y=>y.2.1 < 32003/\y.2.2.1 < 32003/\y.2.2.2 < 2 ^ y.1/\y.2.2.2<=32001/\invN y.1 y.2.1 y.2.2.1 y.2.2.2=I) (fun y=>y.1) (15,1,x,32001) (by simp [C.impl_inverse]) ⟨by simp,hx,by simp,by simp,hI.symm⟩ ?_
 intro x1 hx1 R1 hR1
 obtain ⟨k,o,b,m⟩:=x1
 obtain ⟨ho,hb,hm,hm2,hi⟩:=hx1
 dsimp only at ho hb hm hm2 hi ⊢
 refine wseq ?_
 refine wseq ?_
 refine wreg fun K hK=>?_
 simp [C.impl_inverse]
 refine hK _ ?_;clear hK K
 show AWp _ _ _ _ _
 refine wcond _ rfl (fun hc1=>?_) (fun hc1=>?_)
 ·have h1:0 < m:=by have:=d_t hc1;omega
  obtain ⟨k,rfl⟩:∃ k',k=k' + 1:=by
   cases k with
   | zero=>simp at hm;omega
   | succ k=>exact ⟨k,rfl⟩
  have hm3:m / 2 < 2 ^ k:=by rw [Nat.pow_succ] at hm;omega
  have hq:=ntmod m 2
  have hd:=ntdiv m 2
  simp only [Int.cast_ofNat_Int] at hq hd
  have hwd:IntKind.i64.wrap ((m:Int) / 2)=(m:Int) / 2:=wrapOk (by omega) (by omega)
  refine wskip ?_
  show AWp _ _ _ _ _
  refine wseq ?_
  refine wblock ?_
  refine wseq ?_
  refine wseq ?_
  refine wreg fun K hK=>?_
  simp [C.impl_inverse,hq]
  refine hK _ ?_;clear hK K
  show AWp _ _ _ _ _
  refine wcond _ rfl (fun hc2=>?_) (fun hc2=>?_)
  ·have hodd:m % 2=1:=by have:=d_t hc2;omega
   refine wreg fun K hK=>?_
   simp [C.impl_inverse,pwmul ho hb]
   refine hK _ ?_;clear hK K
   show AWp _ _ _ _ _
   refine wreg fun K hK=>?_
   simp [C.impl_inverse,pwmul hb hb]
   refine hK _ ?_;clear hK K
   show AWp _ _ _ _ _
   refine wreg fun K hK=>?_
   simp [C.impl_inverse,hd,hwd]
   refine hK _ ?_;clear hK K
   simp [C.impl_inverse]
   refine cast (congrArg R1 ?_) (hR1 (k,o*b % 32003,b*b % 32003,m / 2) ⟨Nat.mod_lt _ (by omega),Nat.mod_lt _ (by omega),hm3,by dsimp only;omega,?_⟩ (by dsimp only;omega))
   ·simp
   ·dsimp only
    simp only [invN,hodd] at hi
    exact hi
  ·have hodd:m % 2≠1:=by have:=d_f hc2;omega
   refine wskip ?_
   show AWp _ _ _ _ _
   refine wreg fun K hK=>?_
   simp [C.impl_inverse,pwmul hb hb]
   refine hK _ ?_;clear hK K
   show AWp _ _ _ _ _
   refine wreg fun K hK=>?_
   simp [C.impl_inverse,hd,hwd]
   refine hK _ ?_;clear hK K
   simp [C.impl_inverse]
   refine cast (congrArg R1 ?_) (hR1 (k,o,b*b % 32003,m / 2) ⟨ho,Nat.mod_lt _ (by omega),hm3,by dsimp only;omega,?_⟩ (by dsimp only;omega))
   ·simp
   ·dsimp only
    simp only [invN,show (m % 2 == 1)=false by simpa using hodd] at hi
    exact hi
 ·have h1:m=0:=by have:=d_f hc1;omega
  refine wexit ?_
  show AWp _ _ _ _ _
  refine wseq ?_
  refine wreg fun K hK=>?_
  simp [C.impl_inverse]
  refine hK _ ?_;clear hK K
  show AWp _ _ _ _ _
  refine wret ?_
  simp [C.impl_inverse]
  rw [h1,invN_zero] at hi
  rw [hi]
theorem impl_EvaluateLaurent_1_calls (x:Int):ACalls Tryz.prog F.impl_EvaluateLaurent_1 [.int x] [] true (fun outs res=>outs=[]/\res=[.one (D.bool (decide (rsd x=0)))]):=by
 refine ACalls.of_body (C:=C.impl_EvaluateLaurent_1) (n:=Tryz.f123.ntmps) tabT folT Tryz.func123 rfl (by kernel_rfl) rfl (Nat.le_of_ble_eq_true rfl) (by decide) (by kernel_rfl) (by kernel_rfl) rfl (by simp) (by simp) ?_
 simp only [Tryz.f123]
 refine wseq ?_
 refine wreg fun K hK=>?_
 simp [C.impl_EvaluateLaurent_1]
 refine hK _ ?_;clear hK K
 show AWp _ _ _ _ _
 refine wseq ?_
 refine wregI ([0,1] ++ ([2,3])) rfl fun K hK=>?_
 refine opsI_seg fun L hL=>?_
 simp [C.impl_EvaluateLaurent_1]
 refine wcall1 (impl_residue_calls x) (by simp) (by simp) ?_
 simp [C.impl_EvaluateLaurent_1]
 refine hL _ ?_;clear hL L
 refine opsI_end fun L hL=>?_
 simp [C.impl_EvaluateLaurent_1]
 refine hL _ ?_;clear hL L
 simp [C.impl_EvaluateLaurent_1]
 refine hK _ ?_;clear hK K
 show AWp _ _ _ _ _
 refine wret ?_
 simp [C.impl_EvaluateLaurent_1]
 rw [Bool.eq_iff_iff]
 simp
end Go.Proofs.YtbhkonnakkhibaaGreat.Ab
namespace Go.Proofs.YtbhkonnakkhibaaGreat.Ab
open Go
set_option maxRecDepth 10000
set_option maxHeartbeats 2000000
theorem rsd_zero (y:Int):rsd y=0↔y % 32003=0:=by unfold rsd;omega
theorem val_no1 {f:Lau} {ys:List Int} (h:¬ Right f):decide (ValOk f ys)=false:=by simp [ValOk,h]
theorem val_no2 {f:Lau} {ys:List Int} (h:¬ (ys.length:Int)=f.v):decide (ValOk f ys)=false:=by simp [ValOk,h]
theorem val_any {f:Lau} {ys:List Int} (h1:Right f) (h2:(ys.length:Int)=f.v):(ys.any fun x=>decide (rsd x=0)) = !decide (ValOk f ys):=by
 rw [Bool.eq_iff_iff]
 simp only [List.any_eq_true,decide_eq_true_eq,Bool.not_eq_true',decide_eq_false_iff_not]
 constructor
 ·rintro ⟨y,hy,h⟩ ⟨_,_,h3⟩
  exact h3 y hy ((rsd_zero y).1 h)
 ·intro h
  refine Classical.byContradiction fun h3=>h ⟨h1,h2,fun y hy h4=>h3 ⟨y,hy,(rsd_zero y).2 h4⟩⟩
theorem impl_EvaluateLaurent_calls (f:Lau) (ys:List Int) (hx:f.ts.length < 4611686018427387904) (hxe:∀ t∈f.ts,t.e.length < 4611686018427387904) (hy:ys.length < 4611686018427387904):ACalls Tryz.prog F.impl_EvaluateLaurent [aF f,.d (shI ys)] [] true (fun outs res=>outs=[]/\res=[.one (D.int (evF f ys))]):=by
 refine ACalls.of_body (C:=C.impl_EvaluateLaurent) (n:=Tryz.f48.ntmps) tabT folT Tryz.func48 rfl (by kernel_rfl) rfl (Nat.le_of_ble_eq_true rfl) (by decide) (by kernel_rfl) (by kernel_rfl) rfl (by simp) (by simp) ?_
 simp only [Tryz.f48]
 refine wseq ?_
 refine wreg fun K hK=>?_
 simp [C.impl_EvaluateLaurent,fS]
 refine hK _ ?_;clear hK K
 show AWp _ _ _ _ _
 refine wseq ?_
 refine wseq ?_
 refine wregI ([0,1] ++ ([2,3,4,5,6,7,8,9,10,11,12] ++ ([13]))) rfl fun K hK=>?_
 have hJ:K ⟨ofL [(1,.d (shI ys)),(2,.pt (2,0) [] 0),(25,.bool (!decide (ValOk f ys)))],ofRO [((2,0),some (.bx (fS f)))]⟩:=by
  refine hK _ ?_;clear hK K
  show AWp _ _ _ _ _
  refine wcond _ rfl (fun hc1=>?_) (fun hc1=>?_)
  ·have hr:=nd_t hc1
   have hm:evF f ys=-1:=if_neg hr
   refine wseq ?_
   refine wreg fun K hK=>?_
   simp [C.impl_EvaluateLaurent,fS]
   refine hK _ ?_;clear hK K
   show AWp _ _ _ _ _
   refine wret ?_
   simp [C.impl_EvaluateLaurent,fS,hm]
  ·have hr:=nd_f hc1
   have hm:evF f ys=evS ys ys.length f.ts f.ts.length:=if_pos hr
   obtain ⟨hf,hl,hyz⟩:=hr
   have hfl:=hf.2.1
   have he:=right_he hf hl.symm
   have hn8:ys.length<=8:=by have:=hf.1;omega
   refine wskip ?_
   show AWp _ _ _ _ _
   refine wseq ?_
   refine wreg fun K hK=>?_
   simp [C.impl_EvaluateLaurent,fS]
   refine hK _ ?_;clear hK K
   show AWp _ _ _ _ _
   refine wseq ?_
   refine wseq ?_
   refine wreg fun K hK=>?_
   simp [C.impl_EvaluateLaurent,fS]
   refine hK _ ?_;clear hK K
   show AWp _ _ _ _ _
   refine wblock ?_
   refine wloop (fun k:Nat=>⟨ofL [(1,.d (shI ys)),(5,.int (evS ys ys.length f.ts k)),(27,.d (.sh 2 f.ts.length (rows tS f.ts))),(28,.int f.ts.length),(29,.int k)],ofRO []⟩) (fun k=>k<=f.ts.length) (fun k=>f.ts.length - k) 0 (by simp [C.impl_EvaluateLaurent,fS,evS]) (by simp) ?_
   intro x1 hx1 R1 hR1
   refine wseq ?_
   refine wreg fun K hK=>?_
   simp [C.impl_EvaluateLaurent,fS]
   refine hK _ ?_;clear hK K
   show AWp _ _ _ _ _
   refine wseq ?_
   refine wcond _ rfl (fun hc2=>?_) (fun hc2=>?_)
   ·have hk:x1 < f.ts.length:=by have:=d_t hc2;omega
    have hE:=he _ (List.getElem_mem hk)
    have hgk:f.ts.getD x1 ⟨[],0⟩ = f.ts[x1]:=by simp [List.getD_eq_getElem?_getD,hk]
    refine wskip ?_
    show AWp _ _ _ _ _
    refine wseq ?_
    refine wblock ?_
    refine wseq ?_
    refine wreg fun K hK=>?_
    simp [C.impl_EvaluateLaurent,fS,hk,tS_0 hk,tS_1 hk]
    refine hK _ ?_;clear hK K
    show AWp _ _ _ _ _
    refine wseq ?_
    refine wregI ([0,1,2] ++ ([3])) rfl fun K hK=>?_
    refine opsI_seg fun L hL=>?_
    simp [C.impl_EvaluateLaurent,fS,tS]
    refine wcall1 (impl_residue_calls f.ts[x1].c) (by simp) (by simp) ?_
    simp [C.impl_EvaluateLaurent,fS,tS]
    refine hL _ ?_;clear hL L
    refine opsI_end fun L hL=>?_
    simp [C.impl_EvaluateLaurent,fS,tS]
    refine hL _ ?_;clear hL L
    simp [C.impl_EvaluateLaurent,fS,tS]
    refine hK _ ?_;clear hK K
    show AWp _ _ _ _ _
    refine wseq ?_
    refine wseq ?_
    refine wreg fun K hK=>?_
    simp [C.impl_EvaluateLaurent,fS,tS]
    refine hK _ ?_;clear hK K
    show AWp _ _ _ _ _
    refine wblock ?_
    refine wloop (fun j:Nat=>⟨ofL [(1,.d (shI ys)),(5,.int (evS ys ys.length f.ts x1)),(8,.int (evK f.ts[x1].c ys f.ts[x1].e j)),(27,.d (.sh 2 f.ts.length (rows tS f.ts))),(28,.int f.ts.length),(29,.int x1),(37,.d (shI f.ts[x1].e)),(38,.int f.ts[x1].e.length),(39,.int j)],ofRO []⟩) (fun j=>j<=ys.length) (fun j=>ys.length - j) 0 (by simp [C.impl_EvaluateLaurent,fS,evK]) (by simp) ?_
    intro x2 hx2 R2 hR2
    refine wseq ?_
    refine wreg fun K hK=>?_
    simp [C.impl_EvaluateLaurent,fS]
    refine hK _ ?_;clear hK K
    show AWp _ _ _ _ _
    refine wseq ?_
    refine wcond _ rfl (fun hc3=>?_) (fun hc3=>?_)
    ·have hj:x2 < ys.length:=by have:=d_t hc3;have:=hE.1;omega
     have hje:x2 < f.ts[x1].e.length:=by have:=hE.1;omega
     have hb:=hE.2 _ (List.getElem_mem hje)
     have hgy:ys.getD x2 0=ys[x2]:=by simp [List.getD_eq_getElem?_getD,hj]
     have hge:f.ts[x1].e.getD x2 0=f.ts[x1].e[x2]:=by simp [List.getD_eq_getElem?_getD,hje]
     refine wskip ?_
     show AWp _ _ _ _ _
     refine wseq ?_
     refine wblock ?_
     refine wseq ?_
     refine wreg fun K hK=>?_
     simp [C.impl_EvaluateLaurent,fS,hje,get_ints]
     refine hK _ ?_;clear hK K
     show AWp _ _ _ _ _
     refine wseq ?_
     refine wregI ([0,1,2,3,4] ++ ([5])) rfl fun K hK=>?_
     refine opsI_seg fun L hL=>?_
     simp [C.impl_EvaluateLaurent,fS,hj,get_ints]
     refine wcall1 (impl_residue_calls ys[x2]) (by simp) (by simp) ?_
     simp [C.impl_EvaluateLaurent,fS,hj,get_ints]
     refine hL _ ?_;clear hL L
     refine opsI_end fun L hL=>?_
     simp [C.impl_EvaluateLaurent,fS,hj,get_ints]
     refine hL _ ?_;clear hL L
     simp [C.impl_EvaluateLaurent,fS,hj,get_ints]
     refine hK _ ?_;clear hK K
     show AWp _ _ _ _ _
     refine wseq ?_
     refine wseq ?_
     refine wreg fun K hK=>?_
     simp [C.impl_EvaluateLaurent,fS]
     refine hK _ ?_;clear hK K
     show AWp _ _ _ _ _
     refine wcond _ rfl (fun hc4=>?_) (fun hc4=>?_)
     ·have hneg:f.ts[x1].e[x2] < 0:=by simpa using hc4
      have hpw:=impl_powerOf_calls (invN 15 1 (rsd ys[x2]) 32001) (-f.ts[x1].e[x2]).toNat (invN_lt _ _ _ _ (by omega)) (by omega)
      rw [show (((-f.ts[x1].e[x2]).toNat:Nat):Int)=-f.ts[x1].e[x2] by omega] at hpw
      have hs:evK f.ts[x1].c ys f.ts[x1].e (x2+1)=evK f.ts[x1].c ys f.ts[x1].e x2*pwN (invN 15 1 (rsd ys[x2]) 32001) (-f.ts[x1].e[x2]).toNat % 32003:=by
       simp only [evK,pwZ,hgy,hge,if_pos hneg]
      refine wregI ([0,1] ++ ([2,3,4,5])) rfl fun K hK=>?_
      refine opsI_seg fun L hL=>?_
      simp [C.impl_EvaluateLaurent,fS,wrapOk (x:=-f.ts[x1].e[x2]) (by omega) (by omega)]
      refine wcall1 (impl_inverse_calls (rsd ys[x2]) (rsd_lt _)) (by simp) (by simp) ?_
      simp [C.impl_EvaluateLaurent,fS,wrapOk (x:=-f.ts[x1].e[x2]) (by omega) (by omega)]
      refine hL _ ?_;clear hL L
      refine opsI_end fun L hL=>?_
      simp [C.impl_EvaluateLaurent,fS,wrapOk (x:=-f.ts[x1].e[x2]) (by omega) (by omega)]
      refine hL _ ?_;clear hL L
      simp [C.impl_EvaluateLaurent,fS,wrapOk (x:=-f.ts[x1].e[x2]) (by omega) (by omega)]
      refine hK _ ?_;clear hK K
      show AWp _ _ _ _ _
      refine wregI ([0,1,2,3] ++ ([4,5,6])) rfl fun K hK=>?_
      refine opsI_seg fun L hL=>?_
      simp [C.impl_EvaluateLaurent,fS,pwmul (evK_lt f.ts[x1].c ys f.ts[x1].e x2) (pwN_lt (invN 15 1 (rsd ys[x2]) 32001) (-f.ts[x1].e[x2]).toNat)]
      refine wcall1 (hpw) (by simp) (by simp) ?_
      simp [C.impl_EvaluateLaurent,fS,pwmul (evK_lt f.ts[x1].c ys f.ts[x1].e x2) (pwN_lt (invN 15 1 (rsd ys[x2]) 32001) (-f.ts[x1].e[x2]).toNat)]
      refine hL _ ?_;clear hL L
      refine opsI_end fun L hL=>?_
      simp [C.impl_EvaluateLaurent,fS,pwmul (evK_lt f.ts[x1].c ys f.ts[x1].e x2) (pwN_lt (invN 15 1 (rsd ys[x2]) 32001) (-f.ts[x1].e[x2]).toNat)]
      refine hL _ ?_;clear hL L
      simp [C.impl_EvaluateLaurent,fS,pwmul (evK_lt f.ts[x1].c ys f.ts[x1].e x2) (pwN_lt (invN 15 1 (rsd ys[x2]) 32001) (-f.ts[x1].e[x2]).toNat)]
      refine hK _ ?_;clear hK K
      show AWp _ _ _ _ _
      refine wreg fun K hK=>?_
      simp [C.impl_EvaluateLaurent,fS,wrap_succ (show x2 < 4611686018427387904 by omega)]
      refine hK _ ?_;clear hK K
      simp [C.impl_EvaluateLaurent,fS]
      refine cast (congrArg R2 ?_) (hR2 (x2+1) hj (by omega))
      simp [hs]
     ·have hneg:¬ f.ts[x1].e[x2] < 0:=by simpa using hc4
      have hpw:=impl_powerOf_calls (rsd ys[x2]) f.ts[x1].e[x2].toNat (rsd_lt _) (by omega)
      rw [show ((f.ts[x1].e[x2].toNat:Nat):Int)=f.ts[x1].e[x2] by omega] at hpw
      have hs:evK f.ts[x1].c ys f.ts[x1].e (x2+1)=evK f.ts[x1].c ys f.ts[x1].e x2*pwN (rsd ys[x2]) f.ts[x1].e[x2].toNat % 32003:=by
       simp only [evK,pwZ,hgy,hge,if_neg hneg]
      refine wskip ?_
      show AWp _ _ _ _ _
      refine wregI ([0,1,2,3] ++ ([4,5,6])) rfl fun K hK=>?_
      refine opsI_seg fun L hL=>?_
      simp [C.impl_EvaluateLaurent,fS,pwmul (evK_lt f.ts[x1].c ys f.ts[x1].e x2) (pwN_lt (rsd ys[x2]) f.ts[x1].e[x2].toNat)]
      refine wcall1 (hpw) (by simp) (by simp) ?_
      simp [C.impl_EvaluateLaurent,fS,pwmul (evK_lt f.ts[x1].c ys f.ts[x1].e x2) (pwN_lt (rsd ys[x2]) f.ts[x1].e[x2].toNat)]
      refine hL _ ?_;clear hL L
      refine opsI_end fun L hL=>?_
      simp [C.impl_EvaluateLaurent,fS,pwmul (evK_lt f.ts[x1].c ys f.ts[x1].e x2) (pwN_lt (rsd ys[x2]) f.ts[x1].e[x2].toNat)]
      refine hL _ ?_;clear hL L
      simp [C.impl_EvaluateLaurent,fS,pwmul (evK_lt f.ts[x1].c ys f.ts[x1].e x2) (pwN_lt (rsd ys[x2]) f.ts[x1].e[x2].toNat)]
      refine hK _ ?_;clear hK K
      show AWp _ _ _ _ _
      refine wreg fun K hK=>?_
      simp [C.impl_EvaluateLaurent,fS,wrap_succ (show x2 < 4611686018427387904 by omega)]
      refine hK _ ?_;clear hK K
      simp [C.impl_EvaluateLaurent,fS]
      refine cast (congrArg R2 ?_) (hR2 (x2+1) hj (by omega))
      simp [hs]
    ·have hj:x2=ys.length:=by have:=d_f hc3;have:=hE.1;omega
     have hs:evS ys ys.length f.ts (x1+1)=(evS ys ys.length f.ts x1+evK f.ts[x1].c ys f.ts[x1].e ys.length) % 32003:=by
      simp only [evS,hgk]
     refine wexit ?_
     show AWp _ _ _ _ _
     refine wreg fun K hK=>?_
     simp [C.impl_EvaluateLaurent,fS,hj,pwadd (evS_lt ys ys.length f.ts x1) (evK_lt f.ts[x1].c ys f.ts[x1].e ys.length)]
     refine hK _ ?_;clear hK K
     show AWp _ _ _ _ _
     refine wreg fun K hK=>?_
     simp [C.impl_EvaluateLaurent,fS,wrap_succ (show x1 < 4611686018427387904 by omega)]
     refine hK _ ?_;clear hK K
     simp [C.impl_EvaluateLaurent,fS]
     refine cast (congrArg R1 ?_) (hR1 (x1+1) hk (by omega))
     simp [hs]
   ·have hk:x1=f.ts.length:=by have:=d_f hc2;omega
    refine wexit ?_
    show AWp _ _ _ _ _
    refine wseq ?_
    refine wreg fun K hK=>?_
    simp [C.impl_EvaluateLaurent,fS]
    refine hK _ ?_;clear hK K
    show AWp _ _ _ _ _
    refine wret ?_
    simp [C.impl_EvaluateLaurent,fS,hm,hk]
 clear hK
 by_cases h1:Right f
 ·by_cases h2:(ys.length:Int)=f.v
  ·refine opsI_seg fun L hL=>?_
   simp [C.impl_EvaluateLaurent,fS,h1,h2]
   refine wcall1 (impl_LaurentOk_calls f hx hxe) (by simp) (by simp) ?_
   simp [C.impl_EvaluateLaurent,fS,h1,h2]
   refine hL _ ?_;clear hL L
   refine opsI_seg fun L hL=>?_
   simp [C.impl_EvaluateLaurent,fS,h1,h2]
   refine wcall1 (slices_ContainsFunc_int_int_calls ys _ (fun x=>decide (rsd x=0)) hy rfl (fun x _=>impl_EvaluateLaurent_1_calls x)) (by simp) (by simp) ?_
   simp [C.impl_EvaluateLaurent,fS,h1,h2]
   refine hL _ ?_;clear hL L
   refine opsI_end fun L hL=>?_
   simp [C.impl_EvaluateLaurent,fS,h1,h2]
   refine hL _ ?_;clear hL L
   simp [C.impl_EvaluateLaurent,fS,h1,h2]
   refine cast (congrArg K ?_) hJ
   simp [val_any h1 h2,fS,h1,h2]
  ·refine opsI_seg fun L hL=>?_
   simp [C.impl_EvaluateLaurent,fS,h1,h2]
   refine wcall1 (impl_LaurentOk_calls f hx hxe) (by simp) (by simp) ?_
   simp [C.impl_EvaluateLaurent,fS,h1,h2]
   refine hL _ ?_;clear hL L
   refine opsI_seg fun L hL=>?_
   simp [C.impl_EvaluateLaurent,fS,h1,h2]
   refine hL _ ?_;clear hL L
   refine opsI_end fun L hL=>?_
   simp [C.impl_EvaluateLaurent,fS,h1,h2]
   refine hL _ ?_;clear hL L
   simp [C.impl_EvaluateLaurent,fS,h1,h2]
   refine cast (congrArg K ?_) hJ
   simp [val_no2 h2,fS,h1,h2]
 ·refine opsI_seg fun L hL=>?_
  simp [C.impl_EvaluateLaurent,fS,h1]
  refine wcall1 (impl_LaurentOk_calls f hx hxe) (by simp) (by simp) ?_
  simp [C.impl_EvaluateLaurent,fS,h1]
  refine hL _ ?_;clear hL L
  refine opsI_seg fun L hL=>?_
  simp [C.impl_EvaluateLaurent,fS,h1]
  refine hL _ ?_;clear hL L
  refine opsI_end fun L hL=>?_
  simp [C.impl_EvaluateLaurent,fS,h1]
  refine hL _ ?_;clear hL L
  simp [C.impl_EvaluateLaurent,fS,h1]
  refine cast (congrArg K ?_) hJ
  simp [val_no1 h1,fS,h1]
end Go.Proofs.YtbhkonnakkhibaaGreat.Ab
namespace Go.Proofs.YtbhkonnakkhibaaGreat.Ab
open Go
set_option maxRecDepth 10000
set_option maxHeartbeats 2000000
theorem som_ev {k:Nat} (hk:4<=k/\k<=7) {i:Nat} (hi:i < 9):posB ((somL k).getD i zeroF)=true/\evF ((somL k).getD i zeroF) (List.replicate k 1)=(somX k).getD i 0:=by
 have h:=somE hk hi
 simp only [evB,Bool.and_eq_true,decide_eq_true_eq] at h
 have hp:=h.1.1
 have hp2:=hp
 simp only [posB,Bool.and_eq_true] at hp2
 have hR:=rightB_ok hp2.1.1
 refine ⟨hp,?_⟩
 rw [evF_of hR h.1.2 (by simp) (fun y hy=>by rw [List.eq_of_mem_replicate hy];decide)]
 exact h.2
theorem som_new {k:Nat} (hk:k=4\/k=5) {i:Nat} (h1:k<=i) (h2:i < 9) (h:i % k < (somS k (somL k) (somQ k) (i+1)).f.length):(somS k (somL k) (somQ k) (i+1)).f[i % k]=(somL k).getD i zeroF:=by
 have hq:=somQ_step hk h1 h2
 simp only [chkQ,Bool.and_eq_true,decide_eq_true_eq] at hq
 have e:(somS k (somL k) (somQ k) (i+1)).f=(somV k (somL k) i).set (i % k) ((somL k).getD i zeroF):=hq.1.symm
 have hl:i % k < (somV k (somL k) i).length:=by
  rw [e,List.length_set] at h
  exact h
 have g:(somS k (somL k) (somQ k) (i+1)).f[i % k]? = some ((somL k).getD i zeroF):=by
  rw [e]
  simp [hl]
 rw [List.getElem?_eq_getElem h] at g
 injection g
theorem somS_len (k:Nat) (i:Nat):(somS k (somL k) (somQ k) i).f.length=k:=by simp [somS,somV]
theorem laws_FnSomos_calls (xs:List Int) (hb:∀ x∈xs,0<=x/\x<=255):ACalls Tryz.prog F.laws_FnSomos [.d (.sh 1 xs.length (byts xs))] [] true (fun outs res=>outs=[]/\res=[.one (D.bool true)]):=by
 refine ACalls.of_body (C:=C.laws_FnSomos) (n:=Tryz.f8.ntmps) tabT folT Tryz.func8 rfl (by kernel_rfl) rfl (Nat.le_of_ble_eq_true rfl) (by decide) (by kernel_rfl) (by kernel_rfl) rfl (by simp) (by simp) ?_
 simp only [Tryz.f8]
 refine wseq ?_
 refine wreg fun K hK=>?_
 simp [C.laws_FnSomos]
 refine hK _ ?_;clear hK K
 show AWp _ _ _ _ _
 refine wseq ?_
 refine wseq ?_
 refine wregI ([0,1] ++ ([])) rfl fun K hK=>?_
 refine opsI_seg fun L hL=>?_
 simp [C.laws_FnSomos]
 refine wcall1 (laws_big_calls xs) (by simp) (by simp) ?_
 simp [C.laws_FnSomos]
 refine hL _ ?_;clear hL L
 refine opsI_end fun L hL=>?_
 simp only [AOpsI]
 refine hL _ ?_;clear hL L
 simp [C.laws_FnSomos]
 refine hK _ ?_;clear hK K
 show AWp _ _ _ _ _
 refine wcond _ rfl (fun hc1=>?_) (fun hc1=>?_)
 ·refine wseq ?_
  refine wreg fun K hK=>?_
  simp [C.laws_FnSomos]
  refine hK _ ?_;clear hK K
  show AWp _ _ _ _ _
  refine wret ?_
  simp [C.laws_FnSomos]
 ·have hx:xs.length<=1048576:=by have:=d_f hc1;omega
  refine wskip ?_
  show AWp _ _ _ _ _
  refine wseq ?_
  refine wregI ([0,1] ++ ([2,3,4])) rfl fun K hK=>?_
  refine opsI_seg fun L hL=>?_
  simp [C.laws_FnSomos]
  refine wcall (laws_at0_calls xs 0 hx hb (by omega)) (by simp) (by simp) (by simp) ?_
  rintro outs res ⟨rfl,r0,rfl,p0,q0⟩
  simp [C.laws_FnSomos]
  refine hL _ ?_;clear hL L
  refine opsI_end fun L hL=>?_
  simp [C.laws_FnSomos]
  refine hL _ ?_;clear hL L
  simp [C.laws_FnSomos]
  refine hK _ ?_;clear hK K
  show AWp _ _ _ _ _
  refine wseq ?_
  obtain ⟨k,hkq,hk⟩:∃ k:Nat,IntKind.i64.wrap (4+r0.tmod 4)=k/\4<=k/\k<=7:=by
   have h1:=Int.tmod_nonneg (4:Int) (a:=r0) (by omega)
   have h2:=Int.tmod_lt_of_pos r0 (b:=4) (by omega)
   exact ⟨(4+r0.tmod 4).toNat,by rw [wrapOk (by omega) (by omega)];omega,by omega,by omega⟩
  rw [hkq]
  refine wregI ([0,1] ++ ([2,3])) rfl fun K hK=>?_
  refine opsI_seg fun L hL=>?_
  simp [C.laws_FnSomos]
  refine wcall (laws_at0_calls xs 1 hx hb (by omega)) (by simp) (by simp) (by simp) ?_
  rintro outs res ⟨rfl,r1,rfl,p1,q1⟩
  simp [C.laws_FnSomos]
  refine hL _ ?_;clear hL L
  refine opsI_end fun L hL=>?_
  simp [C.laws_FnSomos]
  refine hL _ ?_;clear hL L
  simp [C.laws_FnSomos]
  refine hK _ ?_;clear hK K
  show AWp _ _ _ _ _
  refine wseq ?_
  obtain ⟨n,hnq,hn⟩:∃ n:Nat,r1.tmod 10=n/\n<=9:=by
   have h1:=Int.tmod_nonneg (10:Int) (a:=r1) (by omega)
   have h2:=Int.tmod_lt_of_pos r1 (b:=10) (by omega)
   exact ⟨(r1.tmod 10).toNat,by omega,by omega⟩
  rw [hnq]
  have hL1:=iSo_calls k n
  have hL2:=sSo_calls k n
  rw [smF_som hk hn] at hL1 hL2
  have hX1:=iSt_calls k n hk hn
  have hLl:((somL k).take n).length=n:=by rw [List.length_take,somL_len hk];omega
  have hXl:((somX k).take n).length=n:=by rw [List.length_take,somX_len hk];omega
  have hLg:∀ i (h:i < ((somL k).take n).length),((somL k).take n)[i]=(somL k).getD i zeroF:=fun i h=>by
   have:i < (somL k).length:=by rw [somL_len hk];omega
   simp [List.getD_eq_getElem?_getD,this]
  have hXg:∀ i (h:i < ((somX k).take n).length),((somX k).take n)[i]=(somX k).getD i 0:=fun i h=>by
   have:i < (somX k).length:=by rw [somX_len hk];omega
   simp [List.getD_eq_getElem?_getD,this]
  obtain ⟨Ls,hLs⟩:∃ l,l=(somL k).take n:=⟨_,rfl⟩
  obtain ⟨Xs,hXs⟩:∃ l,l=(somX k).take n:=⟨_,rfl⟩
  rw [← hLs] at hL1 hL2 hLl
  rw [← hXs] at hX1 hXl
  simp only [← hLs] at hLg
  simp only [← hXs] at hXg
  refine wregI ([0,1,2] ++ ([3,4,5,6,7])) rfl fun K hK=>?_
  refine opsI_seg fun L hL=>?_
  simp [C.laws_FnSomos]
  refine wcall1 (hL1) (by simp) (by simp) ?_
  simp [C.laws_FnSomos]
  refine hL _ ?_;clear hL L
  refine opsI_end fun L hL=>?_
  simp [C.laws_FnSomos]
  refine hL _ ?_;clear hL L
  simp [C.laws_FnSomos]
  refine hK _ ?_;clear hK K
  show AWp _ _ _ _ _
  refine wseq ?_
  refine wregI ([0,1,2] ++ ([3,4,5,6,7])) rfl fun K hK=>?_
  refine opsI_seg fun L hL=>?_
  simp [C.laws_FnSomos]
  refine wcall1 (hX1) (by simp) (by simp) ?_
  simp [C.laws_FnSomos]
  refine hL _ ?_;clear hL L
  refine opsI_end fun L hL=>?_
  simp [C.laws_FnSomos]
  refine hL _ ?_;clear hL L
  simp [C.laws_FnSomos]
  refine hK _ ?_;clear hK K
  show AWp _ _ _ _ _
  refine wseq ?_
  refine wregI ([0,1,2] ++ ([3,4,5,6,7])) rfl fun K hK=>?_
  refine opsI_seg fun L hL=>?_
  simp [C.laws_FnSomos]
  refine wcall1 (hL2) (by simp) (by simp) ?_
  simp [C.laws_FnSomos]
  refine hL _ ?_;clear hL L
  refine opsI_end fun L hL=>?_
  simp [C.laws_FnSomos]
  refine hL _ ?_;clear hL L
  simp [C.laws_FnSomos]
  refine hK _ ?_;clear hK K
  show AWp _ _ _ _ _
  refine wseq ?_
  refine wseq ?_
  refine wregI ([0,1,2,3,4,5,6,7,8,9,10,11,12]) rfl fun K hK=>?_
  refine opsI_end fun L hL=>?_
  simp [C.laws_FnSomos,hXl]
  refine hL _ ?_;clear hL L
  simp [C.laws_FnSomos,hXl]
  refine hK _ ?_;clear hK K
  show AWp _ _ _ _ _
  refine wcond _ rfl (fun hc2=>?_) (fun hc2=>?_)
  ·simp at hc2
  ·refine wskip ?_
   show AWp _ _ _ _ _
   refine wseq ?_
   refine wseq ?_
   refine wreg fun K hK=>?_
   simp [C.laws_FnSomos]
   refine hK _ ?_;clear hK K
   show AWp _ _ _ _ _
   refine wblock ?_
   refine wloop (fun i:Nat=>⟨ofL [(3,.int k),(4,.int n),(5,.al (5,0) [] 0 Ls.length),(6,.bool true),(7,.al (7,0) [] 0 Xs.length),(11,.int i)],ofRO [((5,0),some (.ow 2 Ls.length (rows fO Ls))),((7,0),some (owI Xs))]⟩) (fun i=>i<=n) (fun i=>n - i) 0 (by simp [C.laws_FnSomos,hXl,owI]) (by simp) ?_
   intro x1 hx1 R1 hR1
   refine wseq ?_
   refine wseq ?_
   refine wreg fun K hK=>?_
   have hJ:K ⟨ofL [(3,.int k),(4,.int n),(5,.al (5,0) [] 0 Ls.length),(6,.bool true),(7,.al (7,0) [] 0 Xs.length),(11,.int x1),(70,.bool (decide (x1 < n)))],ofRO [((5,0),some (.ow 2 Ls.length (rows fO Ls))),((7,0),some (owI Xs))]⟩:=by
    refine hK _ ?_;clear hK K
    show AWp _ _ _ _ _
    refine wcond _ rfl (fun hc3=>?_) (fun hc3=>?_)
    ·have hi:x1 < n:=d_t hc3
     have hiL:x1 < Ls.length:=by omega
     have hiX:x1 < Xs.length:=by omega
     obtain ⟨ep,ev⟩:=som_ev hk (show x1 < 9 by omega)
     have hFe:=hLg x1 hiL
     have hVe:=hXg x1 hiX
     have hbd:=somX_bd hk x1 (by omega)
     rw [← hFe] at ep ev
     rw [← hVe] at ev hbd
     obtain ⟨V,hV⟩:∃ V,Xs[x1]=V:=⟨_,rfl⟩
     rw [hV] at ev hbd
     obtain ⟨Fx,hF⟩:∃ F,Ls[x1]=F:=⟨_,rfl⟩
     rw [hF] at ep ev
     have hpos:=impl_IsPositive_calls Fx ep
     have hpR:Right Fx:=by
      simp only [posB,Bool.and_eq_true] at ep
      exact rightB_ok ep.1.1
     have hFs:=(small_right hpR).sm'
     have hevc:=impl_EvaluateLaurent_calls Fx (List.replicate k 1) hFs.1 hFs.2 (by simp;omega)
     rw [ev] at hevc
     have hones:=laws_ones_calls k (by omega)
     have htm:V.tmod 32003=V:=by rw [Int.tmod_eq_emod_of_nonneg (by omega)];omega
     refine wskip ?_
     show AWp _ _ _ _ _
     refine wseq ?_
     refine wblock ?_
     refine wseq ?_
     refine wdrawI [(true,0),(true,1),(true,2),(true,3),(true,4),(true,7),(true,8),(true,9),(true,10),(true,11),(false,5),(false,6),(true,12),(true,13),(true,14),(true,15),(true,16),(true,17),(false,18),(true,19),(true,20)] ⟨by kernel_rfl,by kernel_rfl⟩ ([0,1,2,3,4,7,8,9,10,11,5] ++ ([6] ++ ([12,13,14,15,16,17,18] ++ ([19,20])))) rfl fun K hK=>?_
     have hJ:K ⟨ofL [(3,.int k),(4,.int n),(5,.al (5,0) [] 0 Ls.length),(6,.bool true),(7,.al (7,0) [] 0 Xs.length),(11,.int x1),(93,.bool false)],ofRO [((5,0),some (.ow 2 Ls.length (rows fO Ls))),((7,0),some (owI Xs))]⟩:=by
      refine hK _ ?_;clear hK K
      show AWp _ _ _ _ _
      refine wcond _ rfl (fun hc4=>?_) (fun hc4=>?_)
      ·simp at hc4
      ·refine wskip ?_
       show AWp _ _ _ _ _
       refine wreg fun K hK=>?_
       simp [C.laws_FnSomos,wrap_succ (show x1 < 4611686018427387904 by omega)]
       refine hK _ ?_;clear hK K
       simp [C.laws_FnSomos]
       exact hR1 (x1+1) hi (by omega)
     clear hK
     simp [C.laws_FnSomos,hiL,hiX,fO_0 hiL,fO_1 hiL,hF,get_ints,hV,htm,show (x1:Int) < Ls.length by omega,show (x1:Int) < Xs.length by omega]
     repeat' first
      | (refine wcall1 (hones) ?_ (by simp) ?_;(focus (simp;done));simp [C.laws_FnSomos,hiL,hiX,fO_0 hiL,fO_1 hiL,hF,get_ints,hV,htm,show (x1:Int) < Ls.length by omega,show (x1:Int) < Xs.length by omega])
      | (refine wcall1 (hevc) ?_ (by simp) ?_;(focus (simp [fO_0 hiL,fO_1 hiL,hF];done));simp [C.laws_FnSomos,hiL,hiX,fO_0 hiL,fO_1 hiL,hF,get_ints,hV,htm,show (x1:Int) < Ls.length by omega,show (x1:Int) < Xs.length by omega])
      | (refine wcall1 (hpos) ?_ (by simp) ?_;(focus (simp [fO_0 hiL,fO_1 hiL,hF];done));simp [C.laws_FnSomos])
      | (refine cast (congrArg K ?_) hJ;simp;done)
      | refine And.intro ?_ ?_
    ·have hSm:=iSm_calls k hk
     have hSe:smMat k=if k=4\/k=5 then ((somQ k).getD 0 zM,true) else (zM,false):=rfl
     generalize smMat k=SM at hSm hSe
     have hS2:SM.2=decide (k<=5):=by
      rw [hSe]
      split
      ·simp;omega
      ·simp;omega
     refine wexit ?_
     show AWp _ _ _ _ _
     refine wseq ?_
     refine wregI ([0,1] ++ ([2,3,4,5,6,7])) rfl fun K hK=>?_
     refine opsI_seg fun L hL=>?_
     simp [C.laws_FnSomos,mO]
     refine wcall1 (hSm) (by simp) (by simp) ?_
     simp [C.laws_FnSomos,mO]
     refine hL _ ?_;clear hL L
     refine opsI_end fun L hL=>?_
     simp [C.laws_FnSomos,mO]
     refine hL _ ?_;clear hL L
     simp [C.laws_FnSomos,mO]
     refine hK _ ?_;clear hK K
     show AWp _ _ _ _ _
     refine wseq ?_
     refine wseq ?_
     refine wreg fun K hK=>?_
     simp [C.laws_FnSomos,hS2]
     refine hK _ ?_;clear hK K
     show AWp _ _ _ _ _
     refine wcond _ rfl (fun hc5=>?_) (fun hc5=>?_)
     ·simp at hc5
      omega
     ·refine wskip ?_
      show AWp _ _ _ _ _
      refine wseq ?_
      refine wseq ?_
      refine wreg fun K hK=>?_
      simp [C.laws_FnSomos]
      refine hK _ ?_;clear hK K
      show AWp _ _ _ _ _
      refine wcond _ rfl (fun hc6=>?_) (fun hc6=>?_)
      ·refine wseq ?_
       refine wreg fun K hK=>?_
       simp [C.laws_FnSomos]
       refine hK _ ?_;clear hK K
       show AWp _ _ _ _ _
       refine wret ?_
       simp [C.laws_FnSomos]
      ·have hk5:k<=5:=by have:=hc6;simp [hS2] at this;omega
       have hk45:k=4\/k=5:=by omega
       have hSM:SM=((somQ k).getD 0 zM,true):=by rw [hSe,if_pos hk45]
       obtain ⟨hmu,hok0,hok1,n0,r0',n1,r1',hren⟩:=som_ren hk45
       obtain ⟨M,hM⟩:∃ M,M=(somQ k).getD 0 zM:=⟨_,rfl⟩
       obtain ⟨B,hB⟩:∃ B,B=(somQ k).getD 1 zM:=⟨_,rfl⟩
       rw [← hM] at hSM hmu hok0 n0 r0' hren
       rw [← hB] at hmu hok1 n1 r1' hren
       rw [hSM]
       dsimp only
       obtain ⟨m1,m2,m3,m4⟩:=som_names hk45
       have hMl:M.d.length<=40:=by
        have hd:=sh_dim hok0.1
        rw [hd.2.2.2.2.1]
        exact Nat.le_trans (Nat.mul_le_mul hd.2.2.2.1 hd.2.1) (by omega)
       have hmut:=iMu_calls M 0 (by omega)
       rw [hmu] at hmut
       refine wskip ?_
       show AWp _ _ _ _ _
       refine wseq ?_
       refine wregI ([0,1] ++ ([2,3,4,5,6,7])) rfl fun K hK=>?_
       refine opsI_seg fun L hL=>?_
       simp [C.laws_FnSomos,mO,n1,r1']
       refine wcall1 (hmut) (by simp) (by simp) ?_
       simp [C.laws_FnSomos,mO,n1,r1']
       refine hL _ ?_;clear hL L
       refine opsI_end fun L hL=>?_
       simp [C.laws_FnSomos,mO,n1,r1']
       refine hL _ ?_;clear hL L
       simp [C.laws_FnSomos,mO,n1,r1']
       refine hK _ ?_;clear hK K
       show AWp _ _ _ _ _
       refine wseq ?_
       refine wreg fun K hK=>?_
       simp [C.laws_FnSomos]
       refine hK _ ?_;clear hK K
       show AWp _ _ _ _ _
       refine wseq ?_
       refine wseq ?_
       refine wreg fun K hK=>?_
       simp [C.laws_FnSomos]
       refine hK _ ?_;clear hK K
       show AWp _ _ _ _ _
       refine wblock ?_
       refine wloop (fun i:Nat=>⟨ofL [(3,.int k),(4,.int n),(5,.al (5,0) [] 0 Ls.length),(6,.bool true),(12,.pt (12,0) [] 0),(14,.pt (14,0) [] 0),(15,.bool true),(16,.al (16,0) [] 0 i),(17,.int i)],ofRO [((5,0),some (.ow 2 Ls.length (rows fO Ls))),((12,0),some (.bx [D.int M.n,D.int M.r,owI M.d])),((14,0),some (.bx [D.int k,D.int k,owI B.d])),((16,0),some (.ow 1 i (ints ((nmS k).take i))))]⟩) (fun i=>i<=k) (fun i=>k - i) 0 (by simp [C.laws_FnSomos,ints,owI]) (by simp) ?_
       intro x2 hx2 R2 hR2
       refine wseq ?_
       refine wseq ?_
       refine wreg fun K hK=>?_
       simp [C.laws_FnSomos]
       refine hK _ ?_;clear hK K
       show AWp _ _ _ _ _
       refine wcond _ rfl (fun hc7=>?_) (fun hc7=>?_)
       ·have hi:x2 < k:=by have:=d_t hc7;omega
        have hwa:IntKind.i64.wrap ((x2:Int)+k)=((x2+k:Nat):Int):=by rw [wrapOk (by omega) (by omega)];simp
        have hwb:IntKind.i64.wrap (((x2+k:Nat):Int) - 1)=((x2+k - 1:Nat):Int):=by rw [wrapOk (by omega) (by omega)];omega
        obtain ⟨sa,hsa⟩:∃ s,s=x2+k:=⟨_,rfl⟩
        rw [← hsa] at hwa hwb
        have hmm:=m4 x2 hi
        rw [← hsa] at hmm
        obtain ⟨sb,hsb⟩:∃ s,s=sa - 1:=⟨_,rfl⟩
        rw [← hsb] at hwb hmm
        obtain ⟨sc,hsc⟩:∃ s,s=sb % k:=⟨_,rfl⟩
        have hmod:Int.tmod (sb:Int) (k:Int)=(sc:Int):=by rw [Int.tmod_eq_emod_of_nonneg (by omega),hsc];simp
        rw [← hsc] at hmm
        have hsn:(nmS k).take x2 ++ [(sc:Int)]=(nmS k).take (x2+1):=by
         rw [List.take_succ_eq_append_getElem (by omega),← hmm]
         simp [List.getD_eq_getElem?_getD,show x2 < (nmS k).length by omega]
        refine wskip ?_
        show AWp _ _ _ _ _
        refine wseq ?_
        refine wblock ?_
        refine wreg fun K hK=>?_
        simp [C.laws_FnSomos,hwa,hwb,hmod,show ¬ (k:Int)=0 by omega,show ¬ k=0 by omega,ints_snocA,hsn,show (x2+1)*8<=140737488355328 by omega]
        refine hK _ ?_;clear hK K
        show AWp _ _ _ _ _
        refine wreg fun K hK=>?_
        simp [C.laws_FnSomos,wrap_succ (show x2 < 4611686018427387904 by omega)]
        refine hK _ ?_;clear hK K
        simp [C.laws_FnSomos]
        exact hR2 (x2+1) hi (by omega)
       ·have hi:x2=k:=by have:=d_f hc7;omega
        have htk:(nmS k).take x2=nmS k:=List.take_of_length_le (by omega)
        rw [htk,hi]
        have hrc:=impl_RenameMatrix_calls B (nmS k) k k n1 r1' hok1 m1 m2 m3
        rw [show (⟨(k:Int),(k:Int),renL (List.replicate B.d.length 0) B (nmS k) B.d.length⟩:Mat)=M by rw [← hren,n1,r1']] at hrc
        rw [show shI (nmS k) = .sh 1 k (ints (nmS k)) by simp only [shI,m1]] at hrc
        have hic:=iIni_calls M (by omega)
        have hie:iniF M=(somS k (somL k) (somQ k) k,true):=by
         unfold iniF
         rw [if_pos hok0,show M.r.toNat=k by omega,som_vars hk45]
         simp [somS,hM]
        rw [hie] at hic
        have hmc:=laws_matrices_calls M M (by omega)
        have hS0:=somS_len k k
        obtain ⟨S0,hS0e⟩:∃ S,S=somS k (somL k) (somQ k) k:=⟨_,rfl⟩
        rw [← hS0e] at hic hS0
        refine wexit ?_
        show AWp _ _ _ _ _
        refine wseq ?_
        refine wregI ([0,1,2] ++ ([3,4,5,6,7,8])) rfl fun K hK=>?_
        refine opsI_seg fun L hL=>?_
        simp [C.laws_FnSomos,mO]
        refine wcall1 (hrc) (by simp [mO]) (by simp) ?_
        simp [C.laws_FnSomos,mO]
        refine hL _ ?_;clear hL L
        refine opsI_end fun L hL=>?_
        simp [C.laws_FnSomos,mO]
        refine hL _ ?_;clear hL L
        simp [C.laws_FnSomos,mO]
        refine hK _ ?_;clear hK K
        show AWp _ _ _ _ _
        refine wseq ?_
        refine wregI ([0,1] ++ ([2,3,4,5,6,7])) rfl fun K hK=>?_
        refine opsI_seg fun L hL=>?_
        simp [C.laws_FnSomos,sO]
        refine wcall1 (hic) (by simp) (by simp) ?_
        simp [C.laws_FnSomos,sO]
        refine hL _ ?_;clear hL L
        refine opsI_end fun L hL=>?_
        simp [C.laws_FnSomos,sO]
        refine hL _ ?_;clear hL L
        simp [C.laws_FnSomos,sO]
        refine hK _ ?_;clear hK K
        show AWp _ _ _ _ _
        refine wseq ?_
        refine wseq ?_
        refine wregI ([0,1,2,3,4,5,6,7,8,9,10,11,12,13] ++ ([14,15])) rfl fun K hK=>?_
        have hJ:K ⟨ofL [(3,.int k),(4,.int n),(5,.al (5,0) [] 0 Ls.length),(6,.bool true),(20,.pt (20,0) [] 0),(151,.bool false)],ofRO [((5,0),some (.ow 2 Ls.length (rows fO Ls))),((20,0),some (.bx (sO S0)))]⟩:=by
         refine hK _ ?_;clear hK K
         show AWp _ _ _ _ _
         refine wcond _ rfl (fun hc8=>?_) (fun hc8=>?_)
         ·simp at hc8
         ·refine wskip ?_
          show AWp _ _ _ _ _
          refine wseq ?_
          refine wseq ?_
          refine wreg fun K hK=>?_
          simp [C.laws_FnSomos]
          refine hK _ ?_;clear hK K
          show AWp _ _ _ _ _
          refine wblock ?_
          refine wloop (fun i:Nat=>⟨ofL [(3,.int k),(4,.int n),(5,.al (5,0) [] 0 Ls.length),(6,.bool true),(20,.pt (20,0) [] 0),(22,.int i)],ofRO [((5,0),some (.ow 2 Ls.length (rows fO Ls))),((20,0),some (.bx (sO (somS k (somL k) (somQ k) i))))]⟩) (fun i=>k<=i) (fun i=>n - i) k (by simp [C.laws_FnSomos,hS0e]) (by simp) ?_
          intro x3 hx3 R3 hR3
          clear hS0e hS0 hic
          refine wseq ?_
          refine wseq ?_
          refine wreg fun K hK=>?_
          have hJ:K ⟨ofL [(3,.int k),(4,.int n),(5,.al (5,0) [] 0 Ls.length),(6,.bool true),(20,.pt (20,0) [] 0),(22,.int x3),(158,.bool (decide (x3 < n)))],ofRO [((5,0),some (.ow 2 Ls.length (rows fO Ls))),((20,0),some (.bx (sO (somS k (somL k) (somQ k) x3))))]⟩:=by
           refine hK _ ?_;clear hK K
           show AWp _ _ _ _ _
           refine wcond _ rfl (fun hc9=>?_) (fun hc9=>?_)
           ·have hi:x3 < n:=d_t hc9
            have hk3:k<=x3:=hx3
            have hgd:=GdS.ok (som_ok hk45 hk3 (show x3 < 9 by omega))
            have hms:=iMs_calls (somS k (somL k) (somQ k) x3) ((x3 % k:Nat):Int) hgd.sm.1 hgd.sm.2.1 hgd.sm.2.2
            rw [som_mut hk45 hk3 (by omega)] at hms
            have hTl:=somS_len k (x3+1)
            have hSl:=somS_len k x3
            have hmk:x3 % k < k:=Nat.mod_lt _ (by omega)
            have hnew:=som_new hk45 hk3 (show x3 < 9 by omega) (by rw [hTl];exact hmk)
            obtain ⟨S,hS⟩:∃ S,S=somS k (somL k) (somQ k) x3:=⟨_,rfl⟩
            obtain ⟨T,hT⟩:∃ T,T=somS k (somL k) (somQ k) (x3+1):=⟨_,rfl⟩
            rw [← hS] at hms hSl
            rw [← hS]
            simp only [← hT] at hms hnew hTl
            obtain ⟨q,hq⟩:∃ q:Nat,x3 % k=q:=⟨_,rfl⟩
            have hmod:Int.tmod (x3:Int) (k:Int)=(q:Int):=by rw [Int.tmod_eq_emod_of_nonneg (by omega),← hq];simp
            simp only [hq] at hms hmk hnew
            have hqT:q < T.f.length:=by omega
            have hlk:x3 < Ls.length:=by omega
            have hlg:=hLg x3 hlk
            obtain ⟨FK,ek⟩:∃ F,Ls[x3]=F:=⟨_,rfl⟩
            rw [ek] at hlg
            rw [← hlg] at hnew
            have hpk:=(som_ev hk (show x3 < 9 by omega)).1
            rw [← hlg] at hpk
            have hFs:SmF FK:=by
             simp only [posB,Bool.and_eq_true] at hpk
             exact (small_right (rightB_ok hpk.1.1)).sm'
            have hck:=laws_laurents_calls FK FK hFs.1 hFs.2
            refine wskip ?_
            show AWp _ _ _ _ _
            refine wseq ?_
            refine wblock ?_
            refine wseq ?_
            refine wdraw (.take 0 (.take 1 (.take 2 (.take 3 (.all [(4,.take 5 (.take 6 (.take 7 (.all [(8,.all [(9,.take 10 (.done))])])))),(8,.all [(4,.take 5 (.take 6 (.take 7 (.all [(9,.take 10 (.done))]))))])]))))) ⟨by kernel_rfl,by kernel_rfl⟩ fun K hK=>?_
            have hJ:K ⟨ofL [(3,.int k),(4,.int n),(5,.al (5,0) [] 0 Ls.length),(6,.bool true),(20,.pt (20,0) [] 0),(22,.int x3),(23,.pt (23,0) [] 0),(24,.bool true)],ofRO [((5,0),some (.ow 2 Ls.length (rows fO Ls))),((20,0),some (.bx (sO S))),((23,0),some (.bx (sO T)))]⟩:=by
             refine hK _ ?_;clear hK K
             show AWp _ _ _ _ _
             refine wseq ?_
             refine wseq ?_
             refine wdrawI [(true,0),(true,1),(true,2),(true,3),(true,4),(true,5),(true,6),(true,7),(true,8),(true,9),(true,10),(true,11),(true,12),(true,13),(false,14),(true,15),(true,16)] ⟨by kernel_rfl,by kernel_rfl⟩ ([0,1,2,3,4,5,6,7,8,9,10,11,12,13,14] ++ ([15,16])) rfl fun K hK=>?_
             have hJ:K ⟨ofL [(3,.int k),(4,.int n),(5,.al (5,0) [] 0 Ls.length),(6,.bool true),(20,.pt (20,0) [] 0),(22,.int x3),(23,.pt (23,0) [] 0),(185,.bool false)],ofRO [((5,0),some (.ow 2 Ls.length (rows fO Ls))),((20,0),some (.bx (sO S))),((23,0),some (.bx (sO T)))]⟩:=by
              refine hK _ ?_;clear hK K
              show AWp _ _ _ _ _
              refine wcond _ rfl (fun hc10=>?_) (fun hc10=>?_)
              ·simp at hc10
              ·refine wskip ?_
               show AWp _ _ _ _ _
               refine wreg fun K hK=>?_
               simp [C.laws_FnSomos,sO]
               refine hK _ ?_;clear hK K
               show AWp _ _ _ _ _
               refine wreg fun K hK=>?_
               simp [C.laws_FnSomos,wrap_succ (show x3 < 4611686018427387904 by omega)]
               refine hK _ ?_;clear hK K
               simp [C.laws_FnSomos]
               refine cast (congrArg R3 ?_) (hR3 (x3+1) (by omega) (by omega))
               simp [hT,sO]
             clear hK
             simp [C.laws_FnSomos,sO,hmod,show ¬ (k:Int)=0 by omega,show ¬ k=0 by omega,hlk,hqT,fO_0 hlk,fO_1 hlk,ek,fO_0 hqT,fO_1 hqT,hnew,hTl,hmk,show (q:Int) < k by omega,show (x3:Int) < Ls.length by omega]
             repeat' first
              | (refine wcall1 (hck) ?_ (by simp) ?_;(focus (simp [ek,hnew];done));simp [C.laws_FnSomos,ek,hnew])
              | (refine cast (congrArg K ?_) hJ;simp [sO,hTl];done)
              | refine And.intro ?_ ?_
            clear hK
            simp [C.laws_FnSomos,hmod,sO,show ¬ (k:Int)=0 by omega,show ¬ k=0 by omega]
            repeat' first
             | (refine wcall1 (hms) ?_ (by simp) ?_;(focus (simp;done));simp [C.laws_FnSomos,sO])
             | (refine cast (congrArg K ?_) hJ;simp [sO];done)
             | refine And.intro ?_ ?_
           ·refine wexit ?_
            show AWp _ _ _ _ _
            refine wseq ?_
            refine wreg fun K hK=>?_
            simp [C.laws_FnSomos]
            refine hK _ ?_;clear hK K
            show AWp _ _ _ _ _
            refine wret ?_
            simp [C.laws_FnSomos]
          clear hK
          by_cases h1:x3 < n
          ·simp [C.laws_FnSomos,h1]
           refine cast (congrArg K ?_) hJ
           simp [h1]
          ·simp [C.laws_FnSomos,h1]
           refine cast (congrArg K ?_) hJ
           simp [h1]
        clear hK
        simp [C.laws_FnSomos,sO]
        repeat' first
         | (refine wcall1 (hmc) ?_ (by simp) ?_;(focus (simp;done));simp [C.laws_FnSomos])
         | (refine cast (congrArg K ?_) hJ;simp [sO];done)
         | refine And.intro ?_ ?_
   clear hK
   by_cases h1:x1 < n
   ·simp [C.laws_FnSomos,h1]
    refine cast (congrArg K ?_) hJ
    simp [h1]
   ·simp [C.laws_FnSomos,h1]
    refine cast (congrArg K ?_) hJ
    simp [h1]
end Go.Proofs.YtbhkonnakkhibaaGreat.Ab
namespace Go.Proofs.YtbhkonnakkhibaaGreat.Ab
open Go Go.ChangeShapes Go.WideShapes Go.ChangeAt Go.RowKit
set_option maxRecDepth 100000
section
variable {H:Type} {enc:TypeId×Value->H} {W:World}
theorem rows_byts (l:List Int):rows (fun n=>[D.v (.int .u8 n)]) l=byts l:=by
 induction l with
 | nil=>rfl
 | cons x l ih=>simp [rows,ih,byts]
def CodeB (l:List Int):Prop:=(∀ x∈l,0<=x/\x<=255)/\l.length*1<=140737488351232
theorem opCode:Opens enc Tryz.prog W 39 1 (List Int) (fun l=>[.sh 1 l.length (byts l)]) CodeB:=
 (Opens.slice (Opens.byte Tryz.underlying5 (by kernel_rfl)) (by omega) Tryz.underlying39 (by kernel_rfl) (by kernel_rfl)).to id (fun l=>by simp [rows_byts]) (fun _=>rfl) (fun _ h=>h)
theorem argCode:Arg enc Tryz.prog W 39 (List Int) (fun l=>.d (.sh 1 l.length (byts l))) CodeB:=Arg.one opCode (by kernel_rfl) (of_decide_eq_true (by kernel_rfl)) (by kernel_rfl)
end
end Go.Proofs.YtbhkonnakkhibaaGreat.Ab
namespace Go.Proofs.YtbhkonnakkhibaaGreat.Ab
open Go
theorem lawSm (xs:List Int) (h:CodeB xs):ACalls Tryz.prog F.laws_FnSomos [.d (.sh 1 xs.length (byts xs))] [] true (fun outs res=>outs=[]/\res=[.one (D.bool true)]):=laws_FnSomos_calls xs h.1
end Go.Proofs.YtbhkonnakkhibaaGreat.Ab
