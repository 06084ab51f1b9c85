/- Division: both sides. Division of the program's sums. Division: the law over both sides. Seeds that are right; what mutation of a seed is; the program's side. The exchange at a seed and mutation of a seed, by the program. Mutation of a seed along a list, by the program. Division finds the factor of a product again, over any keys. Laurent sums: what was multiplied is found again by division; what is divided is multiplied again. Sums as linear maps: what a function on keys makes of a sum. Values of Laurent sums modulo a prime: they go with sums and products. Drawing: the cursor, numbers, exponents, sums. Drawing sums: what is drawn is right and small. Three drawn sums; what the laws compare. What was multiplied is found again by division: the law. Drawn sums are a ring; values go with sums and products. A seed that is mutated twice at one place. Sequences of rank two: both sides make the same. Sums that are computed: what is checked of them; their values at ones. Sequences of two variables are made by mutations in turn. Sizes, pieces and factors of a matrix, by the reference. The reference's factors of a matrix. Matrices that are right, mutation of a matrix, by the reference. Mutation of seeds, by the reference. Mutation of a seed and along a list, by the reference. Seeds as arguments of laws: their sizes, copies. Seeds of laws: how great they are. Mutation of a seed along a list: the program's is the reference's, fresh at each call. Principal matrices along steps; what the polynomials are. The first seed of any matrix; what is the same; whether a session is one. Sequences of two variables are made by mutations in turn, and come back: the law. A code of bytes as an argument, read as a tree. Sequences of two variables: the law, with its argument. No condition. -/
import Derived.Test.YtbhkonnakkhibaaKRtd
import Derived.Test.YtbhkonnakkhibaaKRtc
set_option linter.unusedVariables false
set_option linter.unusedSimpArgs false
namespace Go.Proofs.Ytbhkonnakkhibaa.Ab
open Go
set_option maxRecDepth 10000
set_option maxHeartbeats 2000000
theorem spec_DivideLaurents_calls (f g:Lau) (hx:f.ts.length < 4611686018427387904) (hxe:∀ t∈f.ts,t.e.length < 4611686018427387904) (hy:g.ts.length < 4611686018427387904) (hye:∀ t∈g.ts,t.e.length < 4611686018427387904):ACalls Try.prog F.spec_DivideLaurents [aF f,aF g] [] true (fun outs res=>outs=[]/\WkRs res [.ag (fO (divF f g).1),.one (D.bool (divF f g).2)]):=by
 have hcall:=spec_l2Two_calls f g hx hxe hy hye
 generalize hB:decide (Right f/\Right g/\f.v=g.v)=B at hcall
 refine ACalls.of_body (C:=C.spec_DivideLaurents) (n:=Try.f74.ntmps) tabT folT Try.func74 rfl (by kernel_rfl) rfl (Nat.le_of_ble_eq_true rfl) (by decide) (by kernel_rfl) (by kernel_rfl) rfl (by simp) (by simp) ?_
 simp only [Try.f74]
 refine wseq ?_
 refine wreg fun K hK=>?_
 simp [C.spec_DivideLaurents,fS]
 refine hK _ ?_;clear hK K
 show AWp _ _ _ _ _
 refine wseq ?_
 refine wseq ?_
 refine wregI ([0,1,2] ++ ([3,4,5,6,7,8,9])) rfl fun K hK=>?_
 have hJ:K ⟨ofL [(2,.pt (2,0) [] 0),(3,.pt (3,0) [] 0),(4,.pt (4,0) [] 0),(15,.bool (!(B && !decide (g.ts=[]))))],ofRO [((2,0),some (.bx (fS f))),((3,0),some (.bx (fS g))),((4,0),some (.bx [D.int 0,.v (.slice none 0 0)]))]⟩:=by
  refine hK _ ?_;clear hK K
  show AWp _ _ _ _ _
  refine wcond _ rfl (fun hc1=>?_) (fun hc1=>?_)
  ·have hr:¬ ((Right f/\Right g/\f.v=g.v)/\g.ts≠[]):=by
    rintro ⟨h1,h2⟩
    rw [← hB,decide_eq_true h1] at hc1
    simp [h2] at hc1
   have hm:divF f g=(zeroF,false):=if_neg hr
   refine wseq ?_
   refine wreg fun K hK=>?_
   simp [C.spec_DivideLaurents,fS]
   refine hK _ ?_;clear hK K
   show AWp _ _ _ _ _
   refine wret ?_
   simp [C.spec_DivideLaurents,fS,hm,fO,zeroF,rows]
  ·have hr:(Right f/\Right g/\f.v=g.v)/\g.ts≠[]:=by
    rw [← hB] at hc1
    simpa using hc1
   obtain ⟨⟨hf,hg,hfg⟩,hne⟩:=hr
   obtain ⟨n,hn⟩:∃ n:Nat,f.v=n:=⟨f.v.toNat,by have:=hf.1;omega⟩
   have hgn:g.v=n:=by omega
   have hm:divF f g=endF f.v (divL (chkS f g n) g 600 (f.ts.map pr)):=by
    rw [← divS_eq]
    unfold divS
    rw [if_pos ⟨⟨hf,hg,hfg⟩,hne⟩,hn]
    rfl
   refine wskip ?_
   show AWp _ _ _ _ _
   refine wseq ?_
   refine wregI ([0,1,2] ++ ([3,4,5,6])) rfl fun K hK=>?_
   refine opsI_seg fun L hL=>?_
   simp [C.spec_DivideLaurents,fS]
   refine wcall1 ((spec_l2Divide_calls f g n hf hg hn hgn hne).weak1) (by simp) (by simp) ?_
   simp [C.spec_DivideLaurents,fS]
   refine hL _ ?_;clear hL L
   refine opsI_end fun L hL=>?_
   simp [C.spec_DivideLaurents,fS]
   refine hL _ ?_;clear hL L
   simp [C.spec_DivideLaurents,fS]
   refine hK _ ?_;clear hK K
   show AWp _ _ _ _ _
   refine wret ?_
   simp [C.spec_DivideLaurents,fS,hm,fO]
 clear hK
 by_cases hb:B=true
 ·refine opsI_seg fun L hL=>?_
  simp [C.spec_DivideLaurents,fS,hb]
  refine wcall1 (hcall) (by simp) (by simp) ?_
  simp [C.spec_DivideLaurents,fS,hb]
  refine hL _ ?_;clear hL L
  refine opsI_end fun L hL=>?_
  simp [C.spec_DivideLaurents,fS,hb]
  refine hL _ ?_;clear hL L
  simp [C.spec_DivideLaurents,fS,hb]
  refine cast (congrArg K ?_) hJ
  simp [ieq0,fS,hb]
 ·refine opsI_seg fun L hL=>?_
  simp [C.spec_DivideLaurents,fS,hb]
  refine wcall1 (hcall) (by simp) (by simp) ?_
  simp [C.spec_DivideLaurents,fS,hb]
  refine hL _ ?_;clear hL L
  refine opsI_end fun L hL=>?_
  simp [C.spec_DivideLaurents,fS,hb]
  refine hL _ ?_;clear hL L
  simp [C.spec_DivideLaurents,fS,hb]
  refine cast (congrArg K ?_) hJ
  simp [ieq0,fS,hb]
theorem sDiv_calls (f g:Lau) (hx:f.ts.length < 4611686018427387904) (hxe:∀ t∈f.ts,t.e.length < 4611686018427387904) (hy:g.ts.length < 4611686018427387904) (hye:∀ t∈g.ts,t.e.length < 4611686018427387904):ACalls Try.prog F.spec_DivideLaurents [aF f,aF g] [] true (fun outs res=>outs=[]/\res=[.ag (fO (divF f g).1),.one (D.bool (divF f g).2)]):=(spec_DivideLaurents_calls f g hx hxe hy hye).weak1
end Go.Proofs.Ytbhkonnakkhibaa.Ab
namespace Go.Proofs.Ytbhkonnakkhibaa.Ab
open Go
set_option maxRecDepth 10000
set_option maxHeartbeats 2000000
attribute [local simp] mapKV flatInt tileB
structure LJ (n:Nat) (es l:List (List Int×Int)) (B:Nat):Prop where
 map:MapR n es l
 len:∀ x∈l,x.1.length=n
 abs:absE l<=B
theorem LJ.add {n:Nat} {es l:List (List Int×Int)} {B:Nat} (h:LJ n es l B) {e:List Int} (he:e.length=n) {c:Int} {X:Nat} (hc:c.natAbs<=X):LJ n (madd es (pad e) c) ((e,c) :: l) (B+X):=by
 refine ⟨h.map.add he c,fun x hx=>?_,?_⟩
 ·rcases List.mem_cons.1 hx with rfl | hx
  ·exact he
  ·exact h.len x hx
 ·have:=h.abs
  simp only [absE,List.map_cons,List.sum_cons] at *
  omega
theorem LJ.val {n:Nat} {es l:List (List Int×Int)} {B:Nat} (h:LJ n es l B) {e:List Int} (he:e.length=n) {c:Int} {X:Nat} (hc:c.natAbs<=X) (hB:B+X<=4000000000000000000):-9223372036854775808<=c+(mget (pad e) es).getD 0/\c+(mget (pad e) es).getD 0 < 9223372036854775808:=by
 have h1:=h.map.val e he
 have h2:=co_abs e l
 have h3:=h.abs
 rw [h1]
 omega
theorem LJ.mono {n:Nat} {es l:List (List Int×Int)} {B C:Nat} (h:LJ n es l B) (hB:B<=C):LJ n es l C:=⟨h.map,h.len,Nat.le_trans h.abs hB⟩
theorem divF_some {f g:Lau} {n:Nat} (hf:Right f) (hg:Right g) (hn:f.v=n) (hgn:g.v=n) (hne:g.ts≠[]):divF f g=endF n (divL chkI g 600 (f.ts.map pr)):=by
 unfold divF
 rw [if_pos ⟨⟨hf,hg,by omega⟩,hne⟩,hn]
theorem impl_DivideLaurents_l1 (f g:Lau) (n:Nat) (hn:f.v=n) (hv:n<=8) (hf:Right f) (hfl:f.ts.length<=600) (Q0:AEx->St->Prop) (hX0:∀ es l,LJ n es l 600000000->l.Perm (f.ts.map pr)->Q0 (.exit 0) ⟨ofL [(2,.pt (2,0) [] 0),(3,.pt (3,0) [] 0),(4,.pt (4,0) [] 0),(6,.pt (6,0) [] 0),(34,.d (.sh 2 f.ts.length (rows tS f.ts))),(35,.int f.ts.length),(36,.int f.ts.length),(37,.bool false)],ofRO [((2,0),some (.bx (fS f))),((3,0),some (.bx (fS g))),((4,0),some (.bx [D.int 0,.v (.slice none 0 0)])),((6,0),some (.bx [D.int n,.mp es]))]⟩):AWp C.impl_DivideLaurents (codeAt Try.f69 [1,1,1,0,1,0]) 0 Q0 ⟨ofL [(2,.pt (2,0) [] 0),(3,.pt (3,0) [] 0),(4,.pt (4,0) [] 0),(6,.pt (6,0) [] 0),(34,.d (.sh 2 f.ts.length (rows tS f.ts))),(35,.int f.ts.length),(36,.int 0)],ofRO [((2,0),some (.bx (fS f))),((3,0),some (.bx (fS g))),((4,0),some (.bx [D.int 0,.v (.slice none 0 0)])),((6,0),some (.bx [D.int n,.mp []]))]⟩:=by
 simp only [codeAt,Try.f69,walkCode]
 refine wloop (fun x:Nat×List (List Int×Int)×List (List Int×Int)=>⟨ofL [(2,.pt (2,0) [] 0),(3,.pt (3,0) [] 0),(4,.pt (4,0) [] 0),(6,.pt (6,0) [] 0),(34,.d (.sh 2 f.ts.length (rows tS f.ts))),(35,.int f.ts.length),(36,.int x.1)],ofRO [((2,0),some (.bx (fS f))),((3,0),some (.bx (fS g))),((4,0),some (.bx [D.int 0,.v (.slice none 0 0)])),((6,0),some (.bx [D.int n,.mp x.2.1]))]⟩) (fun x=>x.1<=f.ts.length/\LJ n x.2.1 x.2.2 (x.1*1000000)/\x.2.2.Perm ((f.ts.map pr).take x.1)) (fun x=>f.ts.length - x.1) (0,[],[]) (by simp [C.impl_DivideLaurents,fS,hn]) ⟨by simp,⟨MapR.nil n,by simp,by simp [absE]⟩,by simp⟩ ?_
 intro x1 hx1 R1 hR1
 obtain ⟨i,es,l⟩:=x1
 obtain ⟨hi,hLJ,hP⟩:=hx1
 dsimp only at hi hLJ hP ⊢
 refine wseq ?_
 refine wreg fun K hK=>?_
 simp [C.impl_DivideLaurents,fS]
 refine hK _ ?_;clear hK K
 show AWp _ _ _ _ _
 refine wseq ?_
 refine wcond _ rfl (fun hc2=>?_) (fun hc2=>?_)
 ·have hif:i < f.ts.length:=by have:=d_t hc2;omega
  have hT:=right_dig hf hn _ (List.getElem_mem hif)
  refine wskip ?_
  show AWp _ _ _ _ _
  refine wseq ?_
  refine wblock ?_
  refine wseq ?_
  refine wreg fun K hK=>?_
  simp [C.impl_DivideLaurents,fS,hif,tS_0 hif,tS_1 hif]
  refine hK _ ?_;clear hK K
  show AWp _ _ _ _ _
  obtain ⟨a0,a1,a2,a3,a4,a5,a6,a7,hpa⟩:=eight (pad_length (e:=f.ts[i].e) (by omega))
  have hval:=hLJ.val hT.1 (c:=f.ts[i].c) (X:=1000000) (by omega) (by omega)
  rw [hpa] at hval
  refine wdrawI [(true,0),(true,1),(true,2),(true,4),(true,5),(false,3),(false,6)] ⟨by kernel_rfl,by kernel_rfl⟩ ([0,1,2,4,5,3] ++ ([6] ++ ([]))) rfl fun K hK=>?_
  refine opsI_seg fun L hL=>?_
  simp [C.impl_DivideLaurents,fS,tS]
  refine wcall1 (impl_keyOf_calls f.ts[i].e (by omega) a0 a1 a2 a3 a4 a5 a6 a7 hpa) (by simp) (by simp) ?_
  simp [C.impl_DivideLaurents,fS,tS]
  refine hL _ ?_;clear hL L
  refine opsI_seg fun L hL=>?_
  simp [C.impl_DivideLaurents,fS,tS]
  refine wcall1 (impl_building_add_calls n f.ts[i].c es a0 a1 a2 a3 a4 a5 a6 a7 (hLJ.map.len8 hv) hval) (by simp) (by simp) ?_
  simp [C.impl_DivideLaurents,fS,tS]
  refine hL _ ?_;clear hL L
  refine opsI_end fun L hL=>?_
  simp only [AOpsI]
  refine hL _ ?_;clear hL L
  simp [C.impl_DivideLaurents,fS,tS]
  rw [← hpa]
  refine hK _ ?_;clear hK K
  show AWp _ _ _ _ _
  refine wreg fun K hK=>?_
  simp [C.impl_DivideLaurents,fS,wrap_succ (show i < 4611686018427387904 by omega)]
  refine hK _ ?_;clear hK K
  simp [C.impl_DivideLaurents,fS]
  refine cast (congrArg R1 ?_) (hR1 (i+1,madd es (pad f.ts[i].e) f.ts[i].c,(f.ts[i].e,f.ts[i].c) :: l) ⟨hif,?_,?_⟩ (by dsimp only;omega))
  ·simp [fS,hn]
  ·have:=hLJ.add hT.1 (c:=f.ts[i].c) (X:=1000000) (by omega)
   dsimp only
   rwa [Nat.add_mul,Nat.one_mul]
  ·dsimp only
   rw [List.take_succ_eq_append_getElem (by simpa using hif)]
   refine (List.Perm.cons _ hP).trans ?_
   simp only [List.getElem_map,pr]
   exact (List.perm_append_singleton _ _).symm
 ·have hif:i=f.ts.length:=by have:=d_f hc2;omega
  have hall:l.Perm (f.ts.map pr):=by
   rw [List.take_of_length_le (by simp;omega)] at hP
   exact hP
  refine wexit ?_
  refine cast (congrArg (Q0 (.exit 0)) ?_) (hX0 es l (hLJ.mono (by rw [hif];omega)) hall)
  simp [fS,hn,hif]
theorem impl_DivideLaurents_r21 (f g:Lau) (n:Nat) (hn:f.v=n) (es eo P rest:List (List Int×Int)) (k0 k1 k2 k3 k4 k5 k6 k7 t0 t1 t2 t3 t4 t5 t6 t7 xc:Int) (i:Nat) (i0:Nat) (Q0:AEx->St->Prop) (hJ0:Q0 .normal ⟨ofL [(2,.pt (2,0) [] 0),(3,.pt (3,0) [] 0),(4,.pt (4,0) [] 0),(6,.pt (6,0) [] 0),(9,.pt (9,0) [] 0),(10,.pt (10,0) [] 0),(11,.pt (11,0) [] 0),(12,.bool (decide (P=[]))),(13,.pt (13,0) [] 0),(65,.it (65,0) (6,0) [1] (rest.eraseIdx i) (some ([k0,k1,k2,k3,k4,k5,k6,k7],xc))),(76,.bool (decide (P=[]\/lexlt [t0,t1,t2,t3,t4,t5,t6,t7] [k0,k1,k2,k3,k4,k5,k6,k7]=true)))],ofRO [((2,0),some (.bx (fS f))),((3,0),some (.bx (fS g))),((4,0),some (.bx [D.int 0,.v (.slice none 0 0)])),((6,0),some (.bx [D.int n,.mp es])),((9,0),some (.bx [D.int n,.mp eo])),((10,0),some (.bx [shI (leadE g),D.int (leadC g)])),((11,0),some (.bx [D.int t0,D.int t1,D.int t2,D.int t3,D.int t4,D.int t5,D.int t6,D.int t7])),((13,0),some (.bx [D.int k0,D.int k1,D.int k2,D.int k3,D.int k4,D.int k5,D.int k6,D.int k7])),((65,0),some .itr)]⟩):AWp C.impl_DivideLaurents (codeAt Try.f69 [1,1,1,1,1,1,0,0,0,1,0,1,1,0,1,0,0,1,1,0,1,0]) i0 Q0 ⟨ofL [(2,.pt (2,0) [] 0),(3,.pt (3,0) [] 0),(4,.pt (4,0) [] 0),(6,.pt (6,0) [] 0),(9,.pt (9,0) [] 0),(10,.pt (10,0) [] 0),(11,.pt (11,0) [] 0),(12,.bool (decide (P=[]))),(13,.pt (13,0) [] 0),(65,.it (65,0) (6,0) [1] (rest.eraseIdx i) (some ([k0,k1,k2,k3,k4,k5,k6,k7],xc)))],ofRO [((2,0),some (.bx (fS f))),((3,0),some (.bx (fS g))),((4,0),some (.bx [D.int 0,.v (.slice none 0 0)])),((6,0),some (.bx [D.int n,.mp es])),((9,0),some (.bx [D.int n,.mp eo])),((10,0),some (.bx [shI (leadE g),D.int (leadC g)])),((11,0),some (.bx [D.int t0,D.int t1,D.int t2,D.int t3,D.int t4,D.int t5,D.int t6,D.int t7])),((13,0),some (.bx [D.int k0,D.int k1,D.int k2,D.int k3,D.int k4,D.int k5,D.int k6,D.int k7])),((65,0),some .itr)]⟩:=by
 simp only [codeAt,Try.f69,walkCode]
 refine wdrawI [(true,0),(true,1),(true,2),(true,3),(false,4),(true,5),(true,6)] ⟨by kernel_rfl,by kernel_rfl⟩ ([0,1,2,3,4] ++ ([5,6])) rfl fun K hK=>?_
 have hJ:K ⟨ofL [(2,.pt (2,0) [] 0),(3,.pt (3,0) [] 0),(4,.pt (4,0) [] 0),(6,.pt (6,0) [] 0),(9,.pt (9,0) [] 0),(10,.pt (10,0) [] 0),(11,.pt (11,0) [] 0),(12,.bool (decide (P=[]))),(13,.pt (13,0) [] 0),(65,.it (65,0) (6,0) [1] (rest.eraseIdx i) (some ([k0,k1,k2,k3,k4,k5,k6,k7],xc))),(76,.bool (decide (P=[]\/lexlt [t0,t1,t2,t3,t4,t5,t6,t7] [k0,k1,k2,k3,k4,k5,k6,k7]=true)))],ofRO [((2,0),some (.bx (fS f))),((3,0),some (.bx (fS g))),((4,0),some (.bx [D.int 0,.v (.slice none 0 0)])),((6,0),some (.bx [D.int n,.mp es])),((9,0),some (.bx [D.int n,.mp eo])),((10,0),some (.bx [shI (leadE g),D.int (leadC g)])),((11,0),some (.bx [D.int t0,D.int t1,D.int t2,D.int t3,D.int t4,D.int t5,D.int t6,D.int t7])),((13,0),some (.bx [D.int k0,D.int k1,D.int k2,D.int k3,D.int k4,D.int k5,D.int k6,D.int k7])),((65,0),some .itr)]⟩:=by
  refine hK _ ?_;clear hK K
  exact hJ0
 clear hK
 by_cases hp:P=[]
 ·refine opsI_seg fun L hL=>?_
  simp [C.impl_DivideLaurents,fS,ints,sh8,hp]
  refine hL _ ?_;clear hL L
  refine opsI_end fun L hL=>?_
  simp [C.impl_DivideLaurents,fS,ints,sh8,hp]
  refine hL _ ?_;clear hL L
  simp [C.impl_DivideLaurents,fS,ints,sh8,hp]
  refine cast (congrArg K ?_) hJ
  simp [cmpL_gt,hn,fS,hp]
 ·refine opsI_seg fun L hL=>?_
  simp [C.impl_DivideLaurents,fS,ints,sh8,hp]
  refine wcall1 (slices_Compare_int_int_calls [k0,k1,k2,k3,k4,k5,k6,k7] [t0,t1,t2,t3,t4,t5,t6,t7] (by simp)) (by simp [fS,ints,sh8]) (by simp) ?_
  simp [C.impl_DivideLaurents,fS,ints,sh8,hp]
  refine hL _ ?_;clear hL L
  refine opsI_end fun L hL=>?_
  simp [C.impl_DivideLaurents,fS,ints,sh8,hp]
  refine hL _ ?_;clear hL L
  simp [C.impl_DivideLaurents,fS,ints,sh8,hp]
  refine cast (congrArg K ?_) hJ
  simp [cmpL_gt,hn,fS,hp]
theorem impl_DivideLaurents_l3 (f g:Lau) (n:Nat) (hn:f.v=n) (es eo:List (List Int×Int)) (hm8:mapLen 8 es) (Q0:AEx->St->Prop) (hX0:∀ P top cur,P.Perm es->TopJ P top->Q0 (.exit 4) ⟨ofL [(2,.pt (2,0) [] 0),(3,.pt (3,0) [] 0),(4,.pt (4,0) [] 0),(6,.pt (6,0) [] 0),(9,.pt (9,0) [] 0),(10,.pt (10,0) [] 0),(11,.pt (11,0) [] 0),(12,.bool (decide (P=[]))),(65,.it (65,0) (6,0) [1] [] cur),(67,.bool false)],ofRO [((2,0),some (.bx (fS f))),((3,0),some (.bx (fS g))),((4,0),some (.bx [D.int 0,.v (.slice none 0 0)])),((6,0),some (.bx [D.int n,.mp es])),((9,0),some (.bx [D.int n,.mp eo])),((10,0),some (.bx [shI (leadE g),D.int (leadC g)])),((11,0),some (.bx (ints top))),((65,0),some .itr)]⟩):AWp C.impl_DivideLaurents (codeAt Try.f69 [1,1,1,1,1,1,0,0,0,1,0,1,1,0,1,0]) 4 Q0 ⟨ofL [(2,.pt (2,0) [] 0),(3,.pt (3,0) [] 0),(4,.pt (4,0) [] 0),(6,.pt (6,0) [] 0),(9,.pt (9,0) [] 0),(10,.pt (10,0) [] 0),(11,.pt (11,0) [] 0),(12,.bool (decide (([]:List (List Int×Int))=[]))),(65,.it (65,0) (6,0) [1] es none)],ofRO [((2,0),some (.bx (fS f))),((3,0),some (.bx (fS g))),((4,0),some (.bx [D.int 0,.v (.slice none 0 0)])),((6,0),some (.bx [D.int n,.mp es])),((9,0),some (.bx [D.int n,.mp eo])),((10,0),some (.bx [shI (leadE g),D.int (leadC g)])),((11,0),some (.bx (ints [0,0,0,0,0,0,0,0]))),((65,0),some .itr)]⟩:=by
 simp only [codeAt,Try.f69,walkCode]
 refine wloop (fun x:List (List Int×Int)×List Int×List (List Int×Int)×Option (List Int×Int)=>⟨ofL [(2,.pt (2,0) [] 0),(3,.pt (3,0) [] 0),(4,.pt (4,0) [] 0),(6,.pt (6,0) [] 0),(9,.pt (9,0) [] 0),(10,.pt (10,0) [] 0),(11,.pt (11,0) [] 0),(12,.bool (decide (x.1=[]))),(65,.it (65,0) (6,0) [1] x.2.2.1 x.2.2.2)],ofRO [((2,0),some (.bx (fS f))),((3,0),some (.bx (fS g))),((4,0),some (.bx [D.int 0,.v (.slice none 0 0)])),((6,0),some (.bx [D.int n,.mp es])),((9,0),some (.bx [D.int n,.mp eo])),((10,0),some (.bx [shI (leadE g),D.int (leadC g)])),((11,0),some (.bx (ints x.2.1))),((65,0),some .itr)]⟩) (fun x=>(x.1 ++ x.2.2.1).Perm es/\TopJ x.1 x.2.1) (fun x=>x.2.2.1.length) ([],[0,0,0,0,0,0,0,0],es,none) (by simp [C.impl_DivideLaurents,fS,hn,ints]) ⟨by simp,⟨rfl,by simp,by simp⟩⟩ ?_
 intro x3 hx3 R3 hR3
 obtain ⟨P,top,rest,cur⟩:=x3
 obtain ⟨hq,hT⟩:=hx3
 dsimp only at hq hT ⊢
 refine wseq ?_
 refine wreg fun K hK=>?_
 simp [C.impl_DivideLaurents,fS]
 refine ⟨fun hrest=>?_,fun i xk xc hxi=>?_⟩
 ·refine hK _ ?_;clear hK K
  show AWp _ _ _ _ _
  refine wseq ?_
  refine wcond _ rfl (fun hc4=>?_) (fun hc4=>?_)
  ·simp at hc4
  ·subst hrest
   have hqe:P.Perm es:=by simpa using hq
   refine wexit ?_
   refine cast (congrArg (Q0 (.exit 4)) ?_) (hX0 P top cur hqe hT)
   simp [fS,hn]
 ·refine hK _ ?_;clear hK K
  show AWp _ _ _ _ _
  refine wseq ?_
  refine wcond _ rfl (fun hc6=>?_) (fun hc6=>?_)
  ·have hxm:(xk,xc)∈rest:=List.mem_of_getElem? hxi
   have hxl:=hm8 _ (hq.subset (List.mem_append_right P hxm))
   dsimp only at hxl
   obtain ⟨k0,k1,k2,k3,k4,k5,k6,k7,rfl⟩:=eight hxl
   obtain ⟨t0,t1,t2,t3,t4,t5,t6,t7,rfl⟩:=eight hT.len
   have hil:i < rest.length:=by
    rcases Nat.lt_or_ge i rest.length with h | h
    ·exact h
    ·rw [List.getElem?_eq_none h] at hxi;simp at hxi
   have hper:(P ++ [([k0,k1,k2,k3,k4,k5,k6,k7],xc)] ++ rest.eraseIdx i).Perm es:=by
    have hget:rest[i]=([k0,k1,k2,k3,k4,k5,k6,k7],xc):=by
     rw [List.getElem?_eq_getElem hil] at hxi
     injection hxi
    have h9:=erase_perm rest i hil
    rw [hget] at h9
    refine List.Perm.trans ?_ hq
    rw [List.append_assoc]
    exact List.Perm.append_left _ h9
   refine wskip ?_
   show AWp _ _ _ _ _
   refine wblock ?_
   refine wseq ?_
   refine wreg fun K hK=>?_
   simp [C.impl_DivideLaurents,fS,ints]
   refine hK _ ?_;clear hK K
   show AWp _ _ _ _ _
   refine wseq ?_
   refine wcode (c':=codeAt Try.f69 [1,1,1,1,1,1,0,0,0,1,0,1,1,0,1,0,0,1,1,0,1,0]) (by kernel_rfl) ?_
   refine impl_DivideLaurents_r21 f g n hn es eo P rest k0 k1 k2 k3 k4 k5 k6 k7 t0 t1 t2 t3 t4 t5 t6 t7 xc i _ _ ?_
   show AWp _ _ _ _ _
   refine wcond _ rfl (fun hc7=>?_) (fun hc7=>?_)
   ·have hcm:=d_t hc7
    refine wreg fun K hK=>?_
    simp [C.impl_DivideLaurents,fS]
    refine hK _ ?_;clear hK K
    simp [C.impl_DivideLaurents,fS]
    refine cast (congrArg R3 ?_) (hR3 (P ++ [([k0,k1,k2,k3,k4,k5,k6,k7],xc)],[k0,k1,k2,k3,k4,k5,k6,k7],rest.eraseIdx i,some ([k0,k1,k2,k3,k4,k5,k6,k7],xc)) ⟨hper,hT.next rfl hcm⟩ (by dsimp only;rw [List.length_eraseIdx_of_lt hil];omega))
    simp [fS,hn,ints]
   ·have hcm:=d_f hc7
    have hPn:P≠[]:=fun e=>hcm (.inl e)
    have hlt:lexlt [t0,t1,t2,t3,t4,t5,t6,t7] [k0,k1,k2,k3,k4,k5,k6,k7]=false:=by
     cases hh:lexlt [t0,t1,t2,t3,t4,t5,t6,t7] [k0,k1,k2,k3,k4,k5,k6,k7] with
     | false=>rfl
     | true=>exact absurd (.inr hh) hcm
    refine wskip ?_
    simp [C.impl_DivideLaurents,fS]
    refine cast (congrArg R3 ?_) (hR3 (P ++ [([k0,k1,k2,k3,k4,k5,k6,k7],xc)],[t0,t1,t2,t3,t4,t5,t6,t7],rest.eraseIdx i,some ([k0,k1,k2,k3,k4,k5,k6,k7],xc)) ⟨hper,hT.keep hPn hlt⟩ (by dsimp only;rw [List.length_eraseIdx_of_lt hil];omega))
    simp [fS,hn,ints,hPn]
  ·simp at hc6
theorem impl_DivideLaurents_r24 (f g:Lau) (n:Nat) (es eo:List (List Int×Int)) (a0 a1 a2 a3 a4 a5 a6 a7 b0 b1 b2 b3 b4 b5 b6 b7 c:Int) (hgl8:(leadE g).length<=8) (hpb:pad (leadE g)=[b0,b1,b2,b3,b4,b5,b6,b7]) (hba:∀ x∈[a0,a1,a2,a3,a4,a5,a6,a7],-1000000<=x/\x<=1000000) (hbb:∀ x∈[b0,b1,b2,b3,b4,b5,b6,b7],-1000000<=x/\x<=1000000) (i0:Nat) (Q0:AEx->St->Prop) (hJ0:Q0 .normal ⟨ofL [(2,.pt (2,0) [] 0),(3,.pt (3,0) [] 0),(4,.pt (4,0) [] 0),(6,.pt (6,0) [] 0),(9,.pt (9,0) [] 0),(10,.pt (10,0) [] 0),(14,.int c),(15,.pt (15,0) [] 0)],ofRO [((2,0),some (.bx (fS f))),((3,0),some (.bx (fS g))),((4,0),some (.bx [D.int 0,.v (.slice none 0 0)])),((6,0),some (.bx [D.int n,.mp es])),((9,0),some (.bx [D.int n,.mp eo])),((10,0),some (.bx [shI (leadE g),D.int (leadC g)])),((15,0),some (.bx [D.int (a0 + -1*b0),D.int (a1 + -1*b1),D.int (a2 + -1*b2),D.int (a3 + -1*b3),D.int (a4 + -1*b4),D.int (a5 + -1*b5),D.int (a6 + -1*b6),D.int (a7 + -1*b7)]))]⟩):AWp C.impl_DivideLaurents (codeAt Try.f69 [1,1,1,1,1,1,0,0,0,1,0,1,1,1,1,0]) i0 Q0 ⟨ofL [(2,.pt (2,0) [] 0),(3,.pt (3,0) [] 0),(4,.pt (4,0) [] 0),(6,.pt (6,0) [] 0),(9,.pt (9,0) [] 0),(10,.pt (10,0) [] 0),(11,.pt (11,0) [] 0),(14,.int c)],ofRO [((2,0),some (.bx (fS f))),((3,0),some (.bx (fS g))),((4,0),some (.bx [D.int 0,.v (.slice none 0 0)])),((6,0),some (.bx [D.int n,.mp es])),((9,0),some (.bx [D.int n,.mp eo])),((10,0),some (.bx [shI (leadE g),D.int (leadC g)])),((11,0),some (.bx (ints [a0,a1,a2,a3,a4,a5,a6,a7])))]⟩:=by
 simp only [codeAt,Try.f69,walkCode]
 refine wdraw (.take 0 (.take 1 (.take 2 (.all [(3,.all [(4,.all [(5,.all [(6,.done)])]),(5,.all [(4,.all [(6,.done)])])]),(5,.all [(3,.all [(4,.all [(6,.done)])])])])))) ⟨by kernel_rfl,by kernel_rfl⟩ fun K hK=>?_
 have hJ:K ⟨ofL [(2,.pt (2,0) [] 0),(3,.pt (3,0) [] 0),(4,.pt (4,0) [] 0),(6,.pt (6,0) [] 0),(9,.pt (9,0) [] 0),(10,.pt (10,0) [] 0),(14,.int c),(15,.pt (15,0) [] 0)],ofRO [((2,0),some (.bx (fS f))),((3,0),some (.bx (fS g))),((4,0),some (.bx [D.int 0,.v (.slice none 0 0)])),((6,0),some (.bx [D.int n,.mp es])),((9,0),some (.bx [D.int n,.mp eo])),((10,0),some (.bx [shI (leadE g),D.int (leadC g)])),((15,0),some (.bx [D.int (a0 + -1*b0),D.int (a1 + -1*b1),D.int (a2 + -1*b2),D.int (a3 + -1*b3),D.int (a4 + -1*b4),D.int (a5 + -1*b5),D.int (a6 + -1*b6),D.int (a7 + -1*b7)]))]⟩:=by
  refine hK _ ?_;clear hK K
  exact hJ0
 clear hK
 have hk1:=impl_keyOf_calls (leadE g) (by omega) b0 b1 b2 b3 b4 b5 b6 b7 hpb
 have hk2:=impl_plusExp_calls (-1) a0 a1 a2 a3 a4 a5 a6 a7 b0 b1 b2 b3 b4 b5 b6 b7 (by omega) hba hbb
 simp [C.impl_DivideLaurents,fS,ints]
 repeat' first
  | (refine wcall1 hk1 (by simp) (by simp) ?_;simp [C.impl_DivideLaurents,fS])
  | (refine wcall1 hk2 (by simp) (by simp) ?_;simp [C.impl_DivideLaurents,fS])
  | (refine cast (congrArg K ?_) hJ;simp [fS];done)
  | refine ⟨?_,?_⟩
theorem impl_DivideLaurents_r26 (f g:Lau) (n:Nat) (hn:f.v=n) (hv:n<=8) (es eo O:List (List Int×Int)) (E:List Int) (e0 e1 e2 e3 e4 e5 e6 e7 c q:Int) (hgc0:leadC g≠0) (hsh:shareL (List.take n [D.v (.int .i64 e0),D.v (.int .i64 e1),D.v (.int .i64 e2),D.v (.int .i64 e3),D.v (.int .i64 e4),D.v (.int .i64 e5),D.v (.int .i64 e6),D.v (.int .i64 e7)])=ints E) (hEl:E.length=n) (heol:eo.length=O.length) (i0:Nat) (Q0:AEx->St->Prop) (hJ0:Q0 .normal ⟨ofL [(2,.pt (2,0) [] 0),(3,.pt (3,0) [] 0),(4,.pt (4,0) [] 0),(6,.pt (6,0) [] 0),(9,.pt (9,0) [] 0),(10,.pt (10,0) [] 0),(15,.pt (15,0) [] 0),(16,.int q),(119,.bool (!decide (((c.tmod (leadC g)=0/\okE E n=true)/\(q≠0/\-1000000<=q/\q<=1000000))/\¬ O.length=600)))],ofRO [((2,0),some (.bx (fS f))),((3,0),some (.bx (fS g))),((4,0),some (.bx [D.int 0,.v (.slice none 0 0)])),((6,0),some (.bx [D.int n,.mp es])),((9,0),some (.bx [D.int n,.mp eo])),((10,0),some (.bx [shI (leadE g),D.int (leadC g)])),((15,0),some (.bx [D.int e0,D.int e1,D.int e2,D.int e3,D.int e4,D.int e5,D.int e6,D.int e7]))]⟩):AWp C.impl_DivideLaurents (codeAt Try.f69 [1,1,1,1,1,1,0,0,0,1,0,1,1,1,1,1,1,0,0]) i0 Q0 ⟨ofL [(2,.pt (2,0) [] 0),(3,.pt (3,0) [] 0),(4,.pt (4,0) [] 0),(6,.pt (6,0) [] 0),(9,.pt (9,0) [] 0),(10,.pt (10,0) [] 0),(14,.int c),(15,.pt (15,0) [] 0),(16,.int q)],ofRO [((2,0),some (.bx (fS f))),((3,0),some (.bx (fS g))),((4,0),some (.bx [D.int 0,.v (.slice none 0 0)])),((6,0),some (.bx [D.int n,.mp es])),((9,0),some (.bx [D.int n,.mp eo])),((10,0),some (.bx [shI (leadE g),D.int (leadC g)])),((15,0),some (.bx [D.int e0,D.int e1,D.int e2,D.int e3,D.int e4,D.int e5,D.int e6,D.int e7]))]⟩:=by
 simp only [codeAt,Try.f69,walkCode]
 refine wdrawI [(true,0),(true,1),(true,2),(true,3),(true,4),(true,5),(true,6),(true,7),(true,8),(true,9),(true,10),(false,11),(true,12),(true,13),(true,14),(true,15),(false,16),(true,17),(true,18),(true,19),(true,20),(true,21),(true,22),(true,23),(true,24),(true,25),(true,26)] ⟨by kernel_rfl,by kernel_rfl⟩ ([0,1,2,3,4,5,6,7,8,9,10,11] ++ ([12,13,14,15,16] ++ ([17,18,19,20,21,22,23,24,25,26]))) rfl fun K hK=>?_
 have hJ:K ⟨ofL [(2,.pt (2,0) [] 0),(3,.pt (3,0) [] 0),(4,.pt (4,0) [] 0),(6,.pt (6,0) [] 0),(9,.pt (9,0) [] 0),(10,.pt (10,0) [] 0),(15,.pt (15,0) [] 0),(16,.int q),(119,.bool (!decide (((c.tmod (leadC g)=0/\okE E n=true)/\(q≠0/\-1000000<=q/\q<=1000000))/\¬ O.length=600)))],ofRO [((2,0),some (.bx (fS f))),((3,0),some (.bx (fS g))),((4,0),some (.bx [D.int 0,.v (.slice none 0 0)])),((6,0),some (.bx [D.int n,.mp es])),((9,0),some (.bx [D.int n,.mp eo])),((10,0),some (.bx [shI (leadE g),D.int (leadC g)])),((15,0),some (.bx [D.int e0,D.int e1,D.int e2,D.int e3,D.int e4,D.int e5,D.int e6,D.int e7]))]⟩:=by
  refine hK _ ?_;clear hK K
  exact hJ0
 clear hK
 by_cases g1:c.tmod (leadC g)=0
 ·by_cases g2:okE E n=true
  ·by_cases g3:(q≠0/\-1000000<=q/\q<=1000000)
   ·refine opsI_seg fun L hL=>?_
    simp [C.impl_DivideLaurents,fS,hgc0,hn,show ((n:Int)<=8) by omega,hv,Nat.min_eq_left hv,hsh,hEl,heol,g1,g2,g3]
    refine wcall1 (impl_expOk_calls E n (by omega)) (by simp [fS,hgc0,hn,show ((n:Int)<=8) by omega,hv,Nat.min_eq_left hv,hsh,hEl,heol]) (by simp) ?_
    simp [C.impl_DivideLaurents,fS,hgc0,hn,show ((n:Int)<=8) by omega,hv,Nat.min_eq_left hv,hsh,hEl,heol,g1,g2,g3]
    refine hL _ ?_;clear hL L
    refine opsI_seg fun L hL=>?_
    simp [C.impl_DivideLaurents,fS,hgc0,hn,show ((n:Int)<=8) by omega,hv,Nat.min_eq_left hv,hsh,hEl,heol,g1,g2,g3]
    refine wcall1 (impl_coefOk_calls q) (by simp) (by simp) ?_
    simp [C.impl_DivideLaurents,fS,hgc0,hn,show ((n:Int)<=8) by omega,hv,Nat.min_eq_left hv,hsh,hEl,heol,g1,g2,g3]
    refine hL _ ?_;clear hL L
    refine opsI_end fun L hL=>?_
    simp [C.impl_DivideLaurents,fS,hgc0,hn,show ((n:Int)<=8) by omega,hv,Nat.min_eq_left hv,hsh,hEl,heol,g1,g2,g3]
    refine hL _ ?_;clear hL L
    simp [C.impl_DivideLaurents,fS,hgc0,hn,show ((n:Int)<=8) by omega,hv,Nat.min_eq_left hv,hsh,hEl,heol,g1,g2,g3]
    refine cast (congrArg K ?_) hJ
    simp [ieq600,hn,fS,g1,g2,g3]
   ·refine opsI_seg fun L hL=>?_
    simp [C.impl_DivideLaurents,fS,hgc0,hn,show ((n:Int)<=8) by omega,hv,Nat.min_eq_left hv,hsh,hEl,heol,g1,g2,g3]
    refine wcall1 (impl_expOk_calls E n (by omega)) (by simp [fS,hgc0,hn,show ((n:Int)<=8) by omega,hv,Nat.min_eq_left hv,hsh,hEl,heol]) (by simp) ?_
    simp [C.impl_DivideLaurents,fS,hgc0,hn,show ((n:Int)<=8) by omega,hv,Nat.min_eq_left hv,hsh,hEl,heol,g1,g2,g3]
    refine hL _ ?_;clear hL L
    refine opsI_seg fun L hL=>?_
    simp [C.impl_DivideLaurents,fS,hgc0,hn,show ((n:Int)<=8) by omega,hv,Nat.min_eq_left hv,hsh,hEl,heol,g1,g2,g3]
    refine wcall1 (impl_coefOk_calls q) (by simp) (by simp) ?_
    simp [C.impl_DivideLaurents,fS,hgc0,hn,show ((n:Int)<=8) by omega,hv,Nat.min_eq_left hv,hsh,hEl,heol,g1,g2,g3]
    refine hL _ ?_;clear hL L
    refine opsI_end fun L hL=>?_
    simp [C.impl_DivideLaurents,fS,hgc0,hn,show ((n:Int)<=8) by omega,hv,Nat.min_eq_left hv,hsh,hEl,heol,g1,g2,g3]
    refine hL _ ?_;clear hL L
    simp [C.impl_DivideLaurents,fS,hgc0,hn,show ((n:Int)<=8) by omega,hv,Nat.min_eq_left hv,hsh,hEl,heol,g1,g2,g3]
    refine cast (congrArg K ?_) hJ
    simp [ieq600,hn,fS,g1,g2,g3]
  ·refine opsI_seg fun L hL=>?_
   simp [C.impl_DivideLaurents,fS,hgc0,hn,show ((n:Int)<=8) by omega,hv,Nat.min_eq_left hv,hsh,hEl,heol,g1,g2]
   refine wcall1 (impl_expOk_calls E n (by omega)) (by simp [fS,hgc0,hn,show ((n:Int)<=8) by omega,hv,Nat.min_eq_left hv,hsh,hEl,heol]) (by simp) ?_
   simp [C.impl_DivideLaurents,fS,hgc0,hn,show ((n:Int)<=8) by omega,hv,Nat.min_eq_left hv,hsh,hEl,heol,g1,g2]
   refine hL _ ?_;clear hL L
   refine opsI_seg fun L hL=>?_
   simp [C.impl_DivideLaurents,fS,hgc0,hn,show ((n:Int)<=8) by omega,hv,Nat.min_eq_left hv,hsh,hEl,heol,g1,g2]
   refine hL _ ?_;clear hL L
   refine opsI_end fun L hL=>?_
   simp [C.impl_DivideLaurents,fS,hgc0,hn,show ((n:Int)<=8) by omega,hv,Nat.min_eq_left hv,hsh,hEl,heol,g1,g2]
   refine hL _ ?_;clear hL L
   simp [C.impl_DivideLaurents,fS,hgc0,hn,show ((n:Int)<=8) by omega,hv,Nat.min_eq_left hv,hsh,hEl,heol,g1,g2]
   refine cast (congrArg K ?_) hJ
   simp [ieq600,hn,fS,g1,g2]
 ·refine opsI_seg fun L hL=>?_
  simp [C.impl_DivideLaurents,fS,hgc0,hn,show ((n:Int)<=8) by omega,hv,Nat.min_eq_left hv,hsh,hEl,heol,g1]
  refine hL _ ?_;clear hL L
  refine opsI_seg fun L hL=>?_
  simp [C.impl_DivideLaurents,fS,hgc0,hn,show ((n:Int)<=8) by omega,hv,Nat.min_eq_left hv,hsh,hEl,heol,g1]
  refine hL _ ?_;clear hL L
  refine opsI_end fun L hL=>?_
  simp [C.impl_DivideLaurents,fS,hgc0,hn,show ((n:Int)<=8) by omega,hv,Nat.min_eq_left hv,hsh,hEl,heol,g1]
  refine hL _ ?_;clear hL L
  simp [C.impl_DivideLaurents,fS,hgc0,hn,show ((n:Int)<=8) by omega,hv,Nat.min_eq_left hv,hsh,hEl,heol,g1]
  refine cast (congrArg K ?_) hJ
  simp [ieq600,hn,fS,g1]
theorem impl_DivideLaurents_l4 (f g:Lau) (n:Nat) (hn:f.v=n) (hgn:g.v=n) (hv:n<=8) (hg:Right g) (hgl:g.ts.length<=600) (es l eo2 O:List (List Int×Int)) (hOl:O.length<=600) (hLr:LJ n es l (600000000+O.length*600000000000000)) (E:List Int) (hEl:E.length=n) (e0 e1 e2 e3 e4 e5 e6 e7 q:Int) (hpe:pad E=[e0,e1,e2,e3,e4,e5,e6,e7]) (hbe:∀ x∈[e0,e1,e2,e3,e4,e5,e6,e7],-1000000<=x/\x<=1000000) (g3:q≠0/\-1000000<=q/\q<=1000000) (Q0:AEx->St->Prop) (hX0:∀ es2 l2,LJ n es2 l2 (600000000+O.length*600000000000000+600000000000000)->l2.Perm (l ++ negT E q g.ts)->Q0 (.exit 6) ⟨ofL [(2,.pt (2,0) [] 0),(3,.pt (3,0) [] 0),(4,.pt (4,0) [] 0),(6,.pt (6,0) [] 0),(9,.pt (9,0) [] 0),(10,.pt (10,0) [] 0),(15,.pt (15,0) [] 0),(16,.int q),(126,.d (.sh 2 g.ts.length (rows tS g.ts))),(127,.int g.ts.length),(128,.int g.ts.length),(129,.bool false)],ofRO [((2,0),some (.bx (fS f))),((3,0),some (.bx (fS g))),((4,0),some (.bx [D.int 0,.v (.slice none 0 0)])),((6,0),some (.bx [D.int n,.mp es2])),((9,0),some (.bx [D.int n,.mp eo2])),((10,0),some (.bx [shI (leadE g),D.int (leadC g)])),((15,0),some (.bx [D.int e0,D.int e1,D.int e2,D.int e3,D.int e4,D.int e5,D.int e6,D.int e7]))]⟩):AWp C.impl_DivideLaurents (codeAt Try.f69 [1,1,1,1,1,1,0,0,0,1,0,1,1,1,1,1,1,1,1,1,0]) 6 Q0 ⟨ofL [(2,.pt (2,0) [] 0),(3,.pt (3,0) [] 0),(4,.pt (4,0) [] 0),(6,.pt (6,0) [] 0),(9,.pt (9,0) [] 0),(10,.pt (10,0) [] 0),(15,.pt (15,0) [] 0),(16,.int q),(126,.d (.sh 2 g.ts.length (rows tS g.ts))),(127,.int g.ts.length),(128,.int 0)],ofRO [((2,0),some (.bx (fS f))),((3,0),some (.bx (fS g))),((4,0),some (.bx [D.int 0,.v (.slice none 0 0)])),((6,0),some (.bx [D.int n,.mp es])),((9,0),some (.bx [D.int n,.mp eo2])),((10,0),some (.bx [shI (leadE g),D.int (leadC g)])),((15,0),some (.bx [D.int e0,D.int e1,D.int e2,D.int e3,D.int e4,D.int e5,D.int e6,D.int e7]))]⟩:=by
 simp only [codeAt,Try.f69,walkCode]
 refine wloop (fun x:Nat×List (List Int×Int)×List (List Int×Int)=>⟨ofL [(2,.pt (2,0) [] 0),(3,.pt (3,0) [] 0),(4,.pt (4,0) [] 0),(6,.pt (6,0) [] 0),(9,.pt (9,0) [] 0),(10,.pt (10,0) [] 0),(15,.pt (15,0) [] 0),(16,.int q),(126,.d (.sh 2 g.ts.length (rows tS g.ts))),(127,.int g.ts.length),(128,.int x.1)],ofRO [((2,0),some (.bx (fS f))),((3,0),some (.bx (fS g))),((4,0),some (.bx [D.int 0,.v (.slice none 0 0)])),((6,0),some (.bx [D.int n,.mp x.2.1])),((9,0),some (.bx [D.int n,.mp eo2])),((10,0),some (.bx [shI (leadE g),D.int (leadC g)])),((15,0),some (.bx [D.int e0,D.int e1,D.int e2,D.int e3,D.int e4,D.int e5,D.int e6,D.int e7]))]⟩) (fun x=>x.1<=g.ts.length/\LJ n x.2.1 x.2.2 (600000000+O.length*600000000000000+x.1*1000000000000)/\x.2.2.Perm (l ++ negT E q (g.ts.take x.1))) (fun x=>g.ts.length - x.1) (0,es,l) (by simp [C.impl_DivideLaurents,fS,hn,hgn,hpe]) ⟨by simp,hLr.mono (by dsimp only;omega),by simp [negT]⟩ ?_
 intro x4 hx4 R4 hR4
 obtain ⟨j,es2,l2⟩:=x4
 obtain ⟨hj,hL2,hP2⟩:=hx4
 dsimp only at hj hL2 hP2 ⊢
 refine wseq ?_
 refine wreg fun K hK=>?_
 simp [C.impl_DivideLaurents,fS]
 refine hK _ ?_;clear hK K
 show AWp _ _ _ _ _
 refine wseq ?_
 refine wcond _ rfl (fun hc9=>?_) (fun hc9=>?_)
 ·have hjg:j < g.ts.length:=by have:=d_t hc9;omega
  have hU:=right_dig hg hgn _ (List.getElem_mem hjg)
  refine wskip ?_
  show AWp _ _ _ _ _
  refine wseq ?_
  refine wblock ?_
  refine wseq ?_
  refine wreg fun K hK=>?_
  simp [C.impl_DivideLaurents,fS,hjg,tS_0 hjg,tS_1 hjg]
  refine hK _ ?_;clear hK K
  show AWp _ _ _ _ _
  obtain ⟨u0,u1,u2,u3,u4,u5,u6,u7,hpu⟩:=eight (pad_length (e:=g.ts[j].e) (by omega))
  have hbu:=pad_bd hU.2.2.1
  rw [hpu] at hbu
  have hadd:[e0+1*u0,e1+1*u1,e2+1*u2,e3+1*u3,e4+1*u4,e5+1*u5,e6+1*u6,e7+1*u7]=pad (addE 1 E g.ts[j].e):=by
   rw [← pad_add (by omega),hpe,hpu]
   simp [addE]
  have hnl:(addE 1 E g.ts[j].e).length=n:=by rw [addE_length _ _ _ (by omega)];exact hEl
  have hcc:=mul_bd (x:=-q) (y:=g.ts[j].c) (by omega) hU.2.2.2
  have hvj:=hL2.val hnl (c:=-q*g.ts[j].c) (X:=1000000000000) (by omega) (by omega)
  rw [← hadd] at hvj
  refine wdrawI [(true,0),(true,1),(true,2),(true,3),(true,6),(true,7),(true,8),(true,9),(true,10),(false,4),(false,5),(false,11)] ⟨by kernel_rfl,by kernel_rfl⟩ ([0,1,2,3,6,7,8,9,10,4] ++ ([5] ++ ([11] ++ ([])))) rfl fun K hK=>?_
  refine opsI_seg fun L hL=>?_
  simp [C.impl_DivideLaurents,fS,tS,wrapOk (x:=-q) (by omega) (by omega),wrapOk (x:=-q*g.ts[j].c) (by omega) (by omega)]
  refine wcall1 (impl_keyOf_calls g.ts[j].e (by omega) u0 u1 u2 u3 u4 u5 u6 u7 hpu) (by simp) (by simp) ?_
  simp [C.impl_DivideLaurents,fS,tS,wrapOk (x:=-q) (by omega) (by omega),wrapOk (x:=-q*g.ts[j].c) (by omega) (by omega)]
  refine hL _ ?_;clear hL L
  refine opsI_seg fun L hL=>?_
  simp [C.impl_DivideLaurents,fS,tS,wrapOk (x:=-q) (by omega) (by omega),wrapOk (x:=-q*g.ts[j].c) (by omega) (by omega)]
  refine wcall1 (impl_plusExp_calls 1 e0 e1 e2 e3 e4 e5 e6 e7 u0 u1 u2 u3 u4 u5 u6 u7 (by omega) hbe hbu) (by simp) (by simp) ?_
  simp [C.impl_DivideLaurents,fS,tS,wrapOk (x:=-q) (by omega) (by omega),wrapOk (x:=-q*g.ts[j].c) (by omega) (by omega)]
  refine hL _ ?_;clear hL L
  refine opsI_seg fun L hL=>?_
  simp [C.impl_DivideLaurents,fS,tS,wrapOk (x:=-q) (by omega) (by omega),wrapOk (x:=-q*g.ts[j].c) (by omega) (by omega)]
  refine wcall1 (impl_building_add_calls n (-q*g.ts[j].c) es2 (e0+1*u0) (e1+1*u1) (e2+1*u2) (e3+1*u3) (e4+1*u4) (e5+1*u5) (e6+1*u6) (e7+1*u7) (hL2.map.len8 hv) hvj) (by simp) (by simp) ?_
  simp [C.impl_DivideLaurents,fS,tS,wrapOk (x:=-q) (by omega) (by omega),wrapOk (x:=-q*g.ts[j].c) (by omega) (by omega)]
  refine hL _ ?_;clear hL L
  refine opsI_end fun L hL=>?_
  simp only [AOpsI]
  refine hL _ ?_;clear hL L
  simp [C.impl_DivideLaurents,fS,tS,wrapOk (x:=-q) (by omega) (by omega),wrapOk (x:=-q*g.ts[j].c) (by omega) (by omega)]
  simp only [Int.one_mul] at hadd
  rw [hadd]
  refine hK _ ?_;clear hK K
  show AWp _ _ _ _ _
  refine wreg fun K hK=>?_
  simp [C.impl_DivideLaurents,fS,wrap_succ (show j < 4611686018427387904 by omega)]
  refine hK _ ?_;clear hK K
  simp [C.impl_DivideLaurents,fS]
  refine cast (congrArg R4 ?_) (hR4 (j+1,madd es2 (pad (addE 1 E g.ts[j].e)) (-q*g.ts[j].c),(addE 1 E g.ts[j].e,-q*g.ts[j].c) :: l2) ⟨hjg,?_,?_⟩ (by dsimp only;omega))
  ·simp [fS,hn,hgn]
  ·have:=hL2.add hnl (c:=-q*g.ts[j].c) (X:=1000000000000) (by omega)
   exact this.mono (by dsimp only;omega)
  ·dsimp only
   rw [negT_step hjg,← List.append_assoc]
   exact (List.Perm.cons _ hP2).trans (List.perm_append_singleton _ _).symm
 ·have hjg:j=g.ts.length:=by have:=d_f hc9;omega
  rw [hjg,List.take_length] at hP2
  refine wexit ?_
  refine cast (congrArg (Q0 (.exit 6)) ?_) (hX0 es2 l2 (hL2.mono (by omega)) hP2)
  simp [fS,hn,hgn,hjg]
theorem impl_DivideLaurents_calls (hDone:DoneOk) (f g:Lau) (hx:f.ts.length < 4611686018427387904) (hxe:∀ t∈f.ts,t.e.length < 4611686018427387904) (hy:g.ts.length < 4611686018427387904) (hye:∀ t∈g.ts,t.e.length < 4611686018427387904):ACalls Try.prog F.impl_DivideLaurents [aF f,aF g] [] true (fun outs res=>outs=[]/\WkRs res [.ag (fO (divF f g).1),.one (D.bool (divF f g).2)]):=by
 have hcall:=impl_bothOk_calls f g hx hxe hy hye
 generalize hB:decide (Right f/\Right g/\f.v=g.v)=B at hcall
 refine ACalls.of_body (C:=C.impl_DivideLaurents) (n:=Try.f69.ntmps) tabT folT Try.func69 rfl (by kernel_rfl) rfl (Nat.le_of_ble_eq_true rfl) (by decide) (by kernel_rfl) (by kernel_rfl) rfl (by simp) (by simp) ?_
 simp only [Try.f69]
 refine wseq ?_
 refine wreg fun K hK=>?_
 simp [C.impl_DivideLaurents,fS]
 refine hK _ ?_;clear hK K
 show AWp _ _ _ _ _
 refine wseq ?_
 refine wseq ?_
 refine wregI ([0,1,2] ++ ([3,4,5,6,7,8,9])) rfl fun K hK=>?_
 have hJ:K ⟨ofL [(2,.pt (2,0) [] 0),(3,.pt (3,0) [] 0),(4,.pt (4,0) [] 0),(28,.bool (!(B && !decide (g.ts=[]))))],ofRO [((2,0),some (.bx (fS f))),((3,0),some (.bx (fS g))),((4,0),some (.bx [D.int 0,.v (.slice none 0 0)]))]⟩:=by
  refine hK _ ?_;clear hK K
  show AWp _ _ _ _ _
  refine wcond _ rfl (fun hc1=>?_) (fun hc1=>?_)
  ·have hr:¬ ((Right f/\Right g/\f.v=g.v)/\g.ts≠[]):=by
    rintro ⟨h1,h2⟩
    rw [← hB,decide_eq_true h1] at hc1
    simp [h2] at hc1
   have hm:divF f g=(zeroF,false):=if_neg hr
   refine wseq ?_
   refine wreg fun K hK=>?_
   simp [C.impl_DivideLaurents,fS]
   refine hK _ ?_;clear hK K
   show AWp _ _ _ _ _
   refine wret ?_
   simp [C.impl_DivideLaurents,fS,hm,fO,zeroF,rows]
  ·have hr:(Right f/\Right g/\f.v=g.v)/\g.ts≠[]:=by
    rw [← hB] at hc1
    simpa using hc1
   obtain ⟨⟨hf,hg,hfg⟩,hgne⟩:=hr
   have hv0:=hf.1
   obtain ⟨n,hn⟩:∃ n:Nat,f.v=n:=⟨f.v.toNat,by omega⟩
   have hgn:g.v=n:=by omega
   have hv:n<=8:=by omega
   have hm:=divF_some hf hg hn hgn hgne
   have hfl:=hf.2.1
   have hgl:=hg.2.1
   have he:=right_he hf hn
   have heg:=right_he hg hgn
   have hG0:0 < g.ts.length:=List.length_pos_iff.2 hgne
   obtain ⟨hl1,hl2⟩:=lead_get hG0
   have hgood:=hg.2.2.1 _ (List.getElem_mem hG0)
   have hgle:=heg _ (List.getElem_mem hG0)
   rw [hl1] at hgle
   obtain ⟨hgle1,hgle2⟩:=hgle
   have hgc:leadC g≠0/\-1000000<=leadC g/\leadC g<=1000000:=by rw [← hl2];exact ⟨hgood.2.1,hgood.2.2.1⟩
   obtain ⟨b0,b1,b2,b3,b4,b5,b6,b7,hpb⟩:=eight (pad_length (e:=leadE g) (by omega))
   have hbb:=pad_bd hgle2
   rw [hpb] at hbb
   refine wskip ?_
   show AWp _ _ _ _ _
   refine wseq ?_
   refine wregI ([0,1,2] ++ ([3])) rfl fun K hK=>?_
   refine opsI_seg fun L hL=>?_
   simp [C.impl_DivideLaurents,fS,hn]
   refine wcall1 (impl_newBuilding_calls n) (by simp) (by simp) ?_
   simp [C.impl_DivideLaurents,fS,hn]
   refine hL _ ?_;clear hL L
   refine opsI_end fun L hL=>?_
   simp [C.impl_DivideLaurents,fS,hn]
   refine hL _ ?_;clear hL L
   simp [C.impl_DivideLaurents,fS,hn]
   refine hK _ ?_;clear hK K
   show AWp _ _ _ _ _
   refine wseq ?_
   refine wseq ?_
   refine wreg fun K hK=>?_
   simp [C.impl_DivideLaurents,fS]
   refine hK _ ?_;clear hK K
   show AWp _ _ _ _ _
   refine wblock ?_
   refine wcode (c':=codeAt Try.f69 [1,1,1,0,1,0]) (by kernel_rfl) ?_
   refine wst (σ2:=⟨ofL [(2,.pt (2,0) [] 0),(3,.pt (3,0) [] 0),(4,.pt (4,0) [] 0),(6,.pt (6,0) [] 0),(34,.d (.sh 2 f.ts.length (rows tS f.ts))),(35,.int f.ts.length),(36,.int 0)],ofRO [((2,0),some (.bx (fS f))),((3,0),some (.bx (fS g))),((4,0),some (.bx [D.int 0,.v (.slice none 0 0)])),((6,0),some (.bx [D.int n,.mp []]))]⟩) (by simp [fS,hn]) ?_
   refine impl_DivideLaurents_l1 f g n hn hv hf hfl _ ?_
   intro es l hLJ hall
   have hnf0:nf lexlt l=f.ts.map pr:=by
    rw [nf_perm hall]
    exact (nf_unique lexOrd (pr_desc hf) (pr_nz hf) fun k=>rfl).symm
   show AWp _ _ _ _ _
   refine wseq ?_
   refine wregI ([0,1,2] ++ ([3])) rfl fun K hK=>?_
   refine opsI_seg fun L hL=>?_
   simp [C.impl_DivideLaurents,fS,hn]
   refine wcall1 (impl_newBuilding_calls n) (by simp) (by simp) ?_
   simp [C.impl_DivideLaurents,fS,hn]
   refine hL _ ?_;clear hL L
   refine opsI_end fun L hL=>?_
   simp [C.impl_DivideLaurents,fS,hn]
   refine hL _ ?_;clear hL L
   simp [C.impl_DivideLaurents,fS,hn]
   refine hK _ ?_;clear hK K
   show AWp _ _ _ _ _
   refine wseq ?_
   refine wreg fun K hK=>?_
   simp [C.impl_DivideLaurents,fS,hG0,tS_0 hG0,tS_1 hG0,hl1,hl2]
   refine hK _ ?_;clear hK K
   show AWp _ _ _ _ _
   refine wseq ?_
   refine wblock ?_
   refine wloop (fun x:(List (List Int×Int)×List (List Int×Int))×(List (List Int×Int)×List (List Int×Int))×List (List Int×Int)=>⟨ofL [(2,.pt (2,0) [] 0),(3,.pt (3,0) [] 0),(4,.pt (4,0) [] 0),(6,.pt (6,0) [] 0),(9,.pt (9,0) [] 0),(10,.pt (10,0) [] 0)],ofRO [((2,0),some (.bx (fS f))),((3,0),some (.bx (fS g))),((4,0),some (.bx [D.int 0,.v (.slice none 0 0)])),((6,0),some (.bx [D.int n,.mp x.1.1])),((9,0),some (.bx [D.int n,.mp x.2.1.1])),((10,0),some (.bx [shI (leadE g),D.int (leadC g)]))]⟩) (fun x=>LJ n x.1.1 x.1.2 (600000000+x.2.2.length*600000000000000)/\LJ n x.2.1.1 x.2.1.2 (x.2.2.length*1000000)/\x.2.1.2.Perm x.2.2/\DivJ chkI f g n (nf lexlt x.1.2) x.2.2/\DivO g n (nf lexlt x.1.2) x.2.2) (fun x=>600 - x.2.2.length) ((es,l),([],[]),[]) (by simp [C.impl_DivideLaurents,fS,hn]) ⟨hLJ.mono (by dsimp only [List.length_nil];omega),⟨MapR.nil n,by simp,by simp [absE]⟩,by simp,by dsimp only;rw [hnf0];exact DivJ.start _ hf hn,⟨List.Pairwise.nil,by simp [Nz],by simp,by simp⟩⟩ ?_
   intro x2 hx2 R2 hR2
   obtain ⟨⟨es,l⟩,⟨eo,lo⟩,O⟩:=x2
   obtain ⟨hLr,hLo,hPo,hJ1,hJ2⟩:=hx2
   dsimp only at hLr hLo hPo hJ1 hJ2 ⊢
   have hOl:=hJ1.ol
   have helen:=unpad_len hLr.map hLr.len
   have heol:eo.length=O.length:=by
    have h1:=unpad_len hLo.map hLo.len
    rw [nf_perm hPo,hJ2.nf] at h1
    exact h1.symm
   refine wseq ?_
   refine wseq ?_
   refine wreg fun K hK=>?_
   simp [C.impl_DivideLaurents,fS]
   refine hK _ ?_;clear hK K
   show AWp _ _ _ _ _
   refine wcond _ rfl (fun hc3=>?_) (fun hc3=>?_)
   ·have hes:0 < es.length:=by have:=d_t hc3;omega
    obtain ⟨⟨a,c⟩,R',hR⟩:∃ y R',nf lexlt l=y :: R':=by
     cases hh:nf lexlt l with
     | nil=>rw [hh] at helen;simp at helen;omega
     | cons y R'=>exact ⟨y,R',rfl⟩
    rw [hR] at hJ1 hJ2
    refine wskip ?_
    show AWp _ _ _ _ _
    refine wblock ?_
    refine wseq ?_
    refine wreg fun K hK=>?_
    simp [C.impl_DivideLaurents,fS]
    refine hK _ ?_;clear hK K
    show AWp _ _ _ _ _
    refine wseq ?_
    refine wreg fun K hK=>?_
    simp [C.impl_DivideLaurents,fS]
    refine hK _ ?_;clear hK K
    show AWp _ _ _ _ _
    refine wseq ?_
    refine wseq ?_
    refine wreg fun K hK=>?_
    simp [C.impl_DivideLaurents,fS]
    refine hK _ ?_;clear hK K
    show AWp _ _ _ _ _
    refine wblock ?_
    refine wcode (c':=codeAt Try.f69 [1,1,1,1,1,1,0,0,0,1,0,1,1,0,1,0]) (by kernel_rfl) ?_
    refine impl_DivideLaurents_l3 f g n hn es eo (hLr.map.len8 hv) _ ?_
    intro P top cur hqe hT
    have hPne:P≠[]:=by intro e;rw [e] at hqe;have:=hqe.length_eq;simp at this;omega
    obtain ⟨htop,hget⟩:=top_head hLr.map hLr.len hqe hT hR
    have ha:=hJ1.rl (a,c) (by simp)
    obtain ⟨hal,ha60⟩:=ha
    dsimp only at hal ha60
    obtain ⟨a0,a1,a2,a3,a4,a5,a6,a7,hpa⟩:=eight (pad_length (e:=a) (by omega))
    have hba:=pad_bd60 (B:=60) (by omega) (by omega) ha60
    rw [hpa] at hba htop
    subst htop
    have hcb:-1000000000000000000<=c/\c<=1000000000000000000:=by
     have h1:=hJ1.ra
     simp only [absK,List.map_cons,List.sum_cons] at h1
     omega
    have hEl:(addE (-1) a (leadE g)).length=n:=by rw [addE_length _ _ _ (by omega)];exact hal
    have hE80:=addE_bd (B:=60) (C:=20) (k:=-1) (.inr rfl) (hal.trans hgle1.symm) ha60 hgle2
    have hpe0:[a0 + -1*b0,a1 + -1*b1,a2 + -1*b2,a3 + -1*b3,a4 + -1*b4,a5 + -1*b5,a6 + -1*b6,a7 + -1*b7]=pad (addE (-1) a (leadE g)):=by
     rw [← pad_add (by omega),hpa,hpb]
     simp [addE]
    show AWp _ _ _ _ _
    refine wseq ?_
    refine wdraw (.take 0 (.take 1 (.take 2 (.take 3 (.take 4 (.take 5 (.take 6 (.done)))))))) ⟨by kernel_rfl,by kernel_rfl⟩ fun K hK=>?_
    simp [C.impl_DivideLaurents,fS,hget,hLr.map.len8 hv]
    refine hK _ ?_;clear hK K
    show AWp _ _ _ _ _
    refine wseq ?_
    refine wcode (c':=codeAt Try.f69 [1,1,1,1,1,1,0,0,0,1,0,1,1,1,1,0]) (by kernel_rfl) ?_
    refine impl_DivideLaurents_r24 f g n es eo a0 a1 a2 a3 a4 a5 a6 a7 b0 b1 b2 b3 b4 b5 b6 b7 c (by omega) hpb hba hbb _ _ ?_
    show AWp _ _ _ _ _
    refine wseq ?_
    obtain ⟨e0,e1,e2,e3,e4,e5,e6,e7,hpe⟩:=eight (pad_length (e:=addE (-1) a (leadE g)) (by omega))
    rw [hpe] at hpe0
    simp only [List.cons.injEq,and_true] at hpe0
    obtain ⟨k0,k1,k2,k3,k4,k5,k6,k7⟩:=hpe0
    simp only [k0,k1,k2,k3,k4,k5,k6,k7]
    have hqb:-1000000000000000000<=c.tdiv (leadC g)/\c.tdiv (leadC g)<=1000000000000000000:=by
     have h1:(c.tdiv (leadC g)).natAbs<=c.natAbs:=by
      rw [Int.natAbs_tdiv]
      exact Nat.div_le_self _ _
     omega
    generalize hQ:c.tdiv (leadC g)=q at hqb
    have htkE:List.take n [e0,e1,e2,e3,e4,e5,e6,e7]=addE (-1) a (leadE g):=by
     rw [← hpe]
     have:=pad_take (e:=addE (-1) a (leadE g))
     rwa [hEl] at this
    have hsh:=sh8 n e0 e1 e2 e3 e4 e5 e6 e7
    rw [htkE] at hsh
    refine wreg fun K hK=>?_
    simp [C.impl_DivideLaurents,fS,hgc.1,hQ,wrapOk (x:=q) (by omega) (by omega)]
    refine hK _ ?_;clear hK K
    show AWp _ _ _ _ _
    refine wseq ?_
    refine wseq ?_
    refine wcode (c':=codeAt Try.f69 [1,1,1,1,1,1,0,0,0,1,0,1,1,1,1,1,1,0,0]) (by kernel_rfl) ?_
    refine impl_DivideLaurents_r26 f g n hn hv es eo O (addE (-1) a (leadE g)) e0 e1 e2 e3 e4 e5 e6 e7 c q hgc.1 hsh hEl heol _ _ ?_
    show AWp _ _ _ _ _
    refine wcond _ rfl (fun hc8=>?_) (fun hc8=>?_)
    ·have hr:=nd_t hc8
     have hfail:=hJ1.fail (by
      rcases Classical.em (O.length=600) with h | h
      ·exact .inr h
      ·refine .inl fun h2=>hr ⟨?_,h⟩
       dsimp only at h2
       rw [hQ] at h2
       simp only [chkI,decide_eq_true_eq] at h2
       exact ⟨⟨h2.1,okE_iff.2 ⟨by omega,h2.2.1⟩⟩,h2.2.2⟩)
     refine wseq ?_
     refine wreg fun K hK=>?_
     simp [C.impl_DivideLaurents,fS]
     refine hK _ ?_;clear hK K
     show AWp _ _ _ _ _
     refine wret ?_
     simp [C.impl_DivideLaurents,fS,hm,hfail,endF,zeroF,fO,rows]
    ·obtain ⟨⟨⟨g1,g2⟩,g3⟩,g4⟩:=nd_f hc8
     have hE20:=(okE_iff.1 g2).2
     have hchk:chkI (addE (-1) a (leadE g)) q=true:=by simp only [chkI,decide_eq_true_eq];exact ⟨hE20,g3⟩
     have hJ1s:=hJ1.step hg hgn g1 (by dsimp only;rw [hQ];exact hchk) (by omega) hEl (fun z hz=>by have:=hE20 z hz;omega) (by dsimp only;rw [hQ];exact g3.2)
     have hJ2s:=hJ2.step hJ1.rd (fun y hy=>(hJ1.rl y hy).1) hg hgn hgne g1 (by dsimp only;rw [hQ];exact g3.1)
     dsimp only at hJ1s hJ2s
     rw [hQ] at hJ1s hJ2s
     have hvo:=hLo.val hEl (c:=q) (X:=1000000) (by omega) (by omega)
     rw [hpe] at hvo
     have hbe:=pad_bd hE20
     rw [hpe] at hbe
     refine wskip ?_
     show AWp _ _ _ _ _
     refine wseq ?_
     refine wregI ([0,1,2,3] ++ ([])) rfl fun K hK=>?_
     refine opsI_seg fun L hL=>?_
     simp [C.impl_DivideLaurents,fS]
     refine wcall1 (impl_building_add_calls n q eo e0 e1 e2 e3 e4 e5 e6 e7 (hLo.map.len8 hv) hvo) (by simp) (by simp) ?_
     simp [C.impl_DivideLaurents,fS]
     refine hL _ ?_;clear hL L
     refine opsI_end fun L hL=>?_
     simp only [AOpsI]
     refine hL _ ?_;clear hL L
     simp [C.impl_DivideLaurents,fS]
     rw [← hpe]
     refine hK _ ?_;clear hK K
     show AWp _ _ _ _ _
     refine wseq ?_
     refine wreg fun K hK=>?_
     simp [C.impl_DivideLaurents,fS]
     refine hK _ ?_;clear hK K
     show AWp _ _ _ _ _
     refine wblock ?_
     refine wcode (c':=codeAt Try.f69 [1,1,1,1,1,1,0,0,0,1,0,1,1,1,1,1,1,1,1,1,0]) (by kernel_rfl) ?_
     refine impl_DivideLaurents_l4 f g n hn hgn hv hg hgl es l (madd eo (pad (addE (-1) a (leadE g))) q) O hOl hLr (addE (-1) a (leadE g)) hEl e0 e1 e2 e3 e4 e5 e6 e7 q hpe hbe g3 _ ?_
     intro es2 l2 hL2 hP2
     have hnf2:nf lexlt l2=nf lexlt (stepL g (a,c) R'):=step_nf hR (by dsimp only;rw [hQ];exact hP2)
     simp [C.impl_DivideLaurents,fS]
     refine cast (congrArg R2 ?_) (hR2 ((es2,l2),(madd eo (pad (addE (-1) a (leadE g))) q,(addE (-1) a (leadE g),q) :: lo),O ++ [(addE (-1) a (leadE g),q)]) ⟨?_,?_,?_,?_,?_⟩ (by simp;omega))
     ·simp [fS,hn,hgn]
     ·exact hL2.mono (by simp;omega)
     ·exact (hLo.add hEl (c:=q) (X:=1000000) (by omega)).mono (by simp;omega)
     ·exact (List.Perm.cons _ hPo).trans (List.perm_append_singleton _ _).symm
     ·dsimp only
      rw [hnf2]
      exact hJ1s
     ·dsimp only
      rw [hnf2]
      exact hJ2s
   ·have hes:es.length=0:=by have:=d_f hc3;omega
    have hR0:nf lexlt l=[]:=List.eq_nil_of_length_eq_zero (by omega)
    rw [hR0] at hJ1 hJ2
    have hdone:=hJ1.done
    have hsh0:=hJ2.shut n
    rw [← shutF_perm hPo] at hsh0
    refine wexit ?_
    show AWp _ _ _ _ _
    refine wseq ?_
    refine wregI ([0,1] ++ ([2,3,4,5])) rfl fun K hK=>?_
    refine opsI_seg fun L hL=>?_
    simp [C.impl_DivideLaurents,fS,hn]
    refine wcall1 (hDone n eo lo hLo.map hLo.len (by omega) hv (by have:=hPo.length_eq;omega)) (by simp) (by simp) ?_
    simp [C.impl_DivideLaurents,fS,hn]
    refine hL _ ?_;clear hL L
    refine opsI_end fun L hL=>?_
    simp [C.impl_DivideLaurents,fS,hn]
    refine hL _ ?_;clear hL L
    simp [C.impl_DivideLaurents,fS,hn]
    refine hK _ ?_;clear hK K
    show AWp _ _ _ _ _
    refine wret ?_
    simp [C.impl_DivideLaurents,fS,hm,hdone,hsh0,fO]
 clear hK
 by_cases hb:B=true
 ·refine opsI_seg fun L hL=>?_
  simp [C.impl_DivideLaurents,fS,hb]
  refine wcall1 (hcall) (by simp) (by simp) ?_
  simp [C.impl_DivideLaurents,fS,hb]
  refine hL _ ?_;clear hL L
  refine opsI_end fun L hL=>?_
  simp [C.impl_DivideLaurents,fS,hb]
  refine hL _ ?_;clear hL L
  simp [C.impl_DivideLaurents,fS,hb]
  refine cast (congrArg K ?_) hJ
  simp [ieq0,fS,hb]
 ·refine opsI_seg fun L hL=>?_
  simp [C.impl_DivideLaurents,fS,hb]
  refine wcall1 (hcall) (by simp) (by simp) ?_
  simp [C.impl_DivideLaurents,fS,hb]
  refine hL _ ?_;clear hL L
  refine opsI_end fun L hL=>?_
  simp [C.impl_DivideLaurents,fS,hb]
  refine hL _ ?_;clear hL L
  simp [C.impl_DivideLaurents,fS,hb]
  refine cast (congrArg K ?_) hJ
  simp [ieq0,fS,hb]
theorem iDiv_calls (hDone:DoneOk) (f g:Lau) (hx:f.ts.length < 4611686018427387904) (hxe:∀ t∈f.ts,t.e.length < 4611686018427387904) (hy:g.ts.length < 4611686018427387904) (hye:∀ t∈g.ts,t.e.length < 4611686018427387904):ACalls Try.prog F.impl_DivideLaurents [aF f,aF g] [] true (fun outs res=>outs=[]/\res=[.ag (fO (divF f g).1),.one (D.bool (divF f g).2)]):=(impl_DivideLaurents_calls hDone f g hx hxe hy hye).weak1
theorem endF_right (v:Int) (O:Option (List (List Int×Int))):Right (endF v O).1\/endF v O=(zeroF,false):=by
 cases O with
 | none=>exact .inr rfl
 | some O=>
  simp only [endF]
  split
  ·rename_i h;exact .inl h
  ·exact .inr rfl
theorem divF_small (f g:Lau):SmallF (divF f g).1:=by
 unfold divF
 split
 ·rcases endF_right f.v (divL chkI g 600 (f.ts.map pr)) with h | h
  ·exact small_right h
  ·rw [h];exact small_zero
 ·exact small_zero
end Go.Proofs.Ytbhkonnakkhibaa.Ab
namespace Go.Proofs.Ytbhkonnakkhibaa.Ab
open Go
set_option maxRecDepth 10000
set_option maxHeartbeats 2000000
end Go.Proofs.Ytbhkonnakkhibaa.Ab
namespace Go.Proofs.Ytbhkonnakkhibaa.Ab
open Go
set_option maxRecDepth 10000
set_option maxHeartbeats 2000000
def VarOk (r:Int) (f:Lau):Prop:=Right f/\f.ts≠[]/\f.v=r
def SeedOK (s:Sed):Prop:=MatOK s.m/\(s.f.length:Int)=s.m.r/\∀ f∈s.f,VarOk s.m.r f
noncomputable instance (r:Int) (f:Lau):Decidable (VarOk r f):=Classical.propDecidable _
noncomputable instance (s:Sed):Decidable (SeedOK s):=Classical.propDecidable _
theorem impl_SeedOk_1_calls (s:Sed) (f:Lau) (hx:f.ts.length < 4611686018427387904) (hxe:∀ t∈f.ts,t.e.length < 4611686018427387904):ACalls Try.prog F.impl_SeedOk_1 [aF f,.d (.vp (sS s))] [] true (fun outs res=>outs=[]/\res=[.one (D.bool (!decide (VarOk s.m.r f)))]):=by
 refine ACalls.of_body (C:=C.impl_SeedOk_1) (n:=Try.f129.ntmps) tabT folT Try.func129 rfl (by kernel_rfl) rfl (Nat.le_of_ble_eq_true rfl) (by decide) (by kernel_rfl) (by kernel_rfl) rfl (by simp) (by simp) ?_
 simp only [Try.f129]
 refine wseq ?_
 refine wreg fun K hK=>?_
 simp [C.impl_SeedOk_1,fS,sS]
 refine hK _ ?_;clear hK K
 show AWp _ _ _ _ _
 refine wseq ?_
 refine wregI ([0,1] ++ ([2,3,4,5,6,7,8,9,10,11,12,13,14,15,16,17])) rfl fun K hK=>?_
 have hJ:K ⟨ofL [(3,.bool (!decide (VarOk s.m.r f)))],ofRO []⟩:=by
  refine hK _ ?_;clear hK K
  show AWp _ _ _ _ _
  refine wret ?_
  simp [C.impl_SeedOk_1,fS,sS]
 clear hK
 by_cases h1:Right f
 ·by_cases h2:f.ts=[]
  ·refine opsI_seg fun L hL=>?_
   simp [C.impl_SeedOk_1,fS,sS,h2,h1,h2]
   refine wcall1 (impl_LaurentOk_calls f hx hxe) (by simp [fS,sS,h2]) (by simp) ?_
   simp [C.impl_SeedOk_1,fS,sS,h2,h1,h2]
   refine hL _ ?_;clear hL L
   refine opsI_end fun L hL=>?_
   simp [C.impl_SeedOk_1,fS,sS,h2,h1,h2]
   refine hL _ ?_;clear hL L
   simp [C.impl_SeedOk_1,fS,sS,h2,h1,h2]
   refine cast (congrArg K ?_) hJ
   simp [VarOk,ibne,fS,sS,h1,h2]
  ·refine opsI_seg fun L hL=>?_
   simp [C.impl_SeedOk_1,fS,sS,h1,h2]
   refine wcall1 (impl_LaurentOk_calls f hx hxe) (by simp) (by simp) ?_
   simp [C.impl_SeedOk_1,fS,sS,h1,h2]
   refine hL _ ?_;clear hL L
   refine opsI_end fun L hL=>?_
   simp [C.impl_SeedOk_1,fS,sS,h1,h2]
   refine hL _ ?_;clear hL L
   simp [C.impl_SeedOk_1,fS,sS,h1,h2]
   refine cast (congrArg K ?_) hJ
   simp [VarOk,ibne,fS,sS,h1,h2]
 ·refine opsI_seg fun L hL=>?_
  simp [C.impl_SeedOk_1,fS,sS,h1]
  refine wcall1 (impl_LaurentOk_calls f hx hxe) (by simp) (by simp) ?_
  simp [C.impl_SeedOk_1,fS,sS,h1]
  refine hL _ ?_;clear hL L
  refine opsI_end fun L hL=>?_
  simp [C.impl_SeedOk_1,fS,sS,h1]
  refine hL _ ?_;clear hL L
  simp [C.impl_SeedOk_1,fS,sS,h1]
  refine cast (congrArg K ?_) hJ
  simp [VarOk,ibne,fS,sS,h1]
theorem slices_IndexFunc_impl_Laurent_impl_Laurent_calls (xs:List Lau) (g:Nat) (cs:List D) (p:Lau->Bool) (hx:xs.length < 4611686018427387904) (hM:aget [] MM g=[]) (hp:∀ x∈xs,ACalls Try.prog g [aF x,.d (.vp cs)] [] true (fun outs res=>outs=[]/\res=[.one (D.bool (p x))])):ACalls Try.prog F.slices_IndexFunc_impl_Laurent_impl_Laurent [.d (.sh 2 xs.length (rows fS xs)),.cl g [.d (.vp cs)]] [] true (fun outs res=>outs=[]/\∃ r:Int,res=[.one (D.int r)]/\decide (0<=r)=xs.any p):=by
 refine ACalls.of_body (C:=C.slices_IndexFunc_impl_Laurent_impl_Laurent) (n:=Try.f154.ntmps) tabT folT Try.func154 rfl (by kernel_rfl) rfl (Nat.le_of_ble_eq_true rfl) (by decide) (by kernel_rfl) (by kernel_rfl) rfl (by simp) (by simp) ?_
 simp only [Try.f154]
 refine wseq ?_
 refine wreg fun K hK=>?_
 simp [C.slices_IndexFunc_impl_Laurent_impl_Laurent]
 refine hK _ ?_;clear hK K
 show AWp _ _ _ _ _
 refine wseq ?_
 refine wseq ?_
 refine wreg fun K hK=>?_
 simp [C.slices_IndexFunc_impl_Laurent_impl_Laurent]
 refine hK _ ?_;clear hK K
 show AWp _ _ _ _ _
 refine wblock ?_
 refine wloop (fun k:Nat=>⟨ofL [(0,.d (.sh 2 xs.length (rows fS xs))),(1,.cl g [.d (.vp cs)]),(7,.int xs.length),(8,FV.int k)],ofRO []⟩) (fun k=>k<=xs.length/\(xs.take k).any p=false) (fun k=>xs.length - k) 0 (by simp [C.slices_IndexFunc_impl_Laurent_impl_Laurent]) (by simp) ?_
 intro x1 hx1 R1 hR1
 obtain ⟨hk,ht⟩:=hx1
 refine wseq ?_
 refine wreg fun K hK=>?_
 simp [C.slices_IndexFunc_impl_Laurent_impl_Laurent]
 refine hK _ ?_;clear hK K
 show AWp _ _ _ _ _
 refine wseq ?_
 refine wcond _ rfl (fun hc1=>?_) (fun hc1=>?_)
 ·have h1:x1 < xs.length:=by have:=d_t hc1;omega
  refine wskip ?_
  show AWp _ _ _ _ _
  refine wseq ?_
  refine wblock ?_
  refine wseq ?_
  refine wreg fun K hK=>?_
  simp [C.slices_IndexFunc_impl_Laurent_impl_Laurent]
  refine hK _ ?_;clear hK K
  show AWp _ _ _ _ _
  refine wseq ?_
  refine wregI ([0,1,2,3,4,5] ++ ([])) rfl fun K hK=>?_
  refine opsI_seg fun L hL=>?_
  simp [C.slices_IndexFunc_impl_Laurent_impl_Laurent,fS_0 h1,fS_1 h1,h1,hM]
  refine wcall1 (hp xs[x1] (List.getElem_mem h1)) (by simp) (by simp) ?_
  simp [C.slices_IndexFunc_impl_Laurent_impl_Laurent,fS_0 h1,fS_1 h1,h1,hM]
  refine hL _ ?_;clear hL L
  refine opsI_end fun L hL=>?_
  simp only [AOpsI]
  refine hL _ ?_;clear hL L
  simp [C.slices_IndexFunc_impl_Laurent_impl_Laurent,fS_0 h1,fS_1 h1,h1,hM]
  refine hK _ ?_;clear hK K
  show AWp _ _ _ _ _
  refine wcond _ rfl (fun hc2=>?_) (fun hc2=>?_)
  ·have hpx:p xs[x1]=true:=by simpa using hc2
   refine wseq ?_
   refine wreg fun K hK=>?_
   simp [C.slices_IndexFunc_impl_Laurent_impl_Laurent]
   refine hK _ ?_;clear hK K
   show AWp _ _ _ _ _
   refine wret ?_
   simp [C.slices_IndexFunc_impl_Laurent_impl_Laurent]
   exact ⟨xs[x1],List.getElem_mem h1,hpx⟩
  ·have hpx:p xs[x1]=false:=by simpa using hc2
   refine wskip ?_
   show AWp _ _ _ _ _
   refine wreg fun K hK=>?_
   simp [C.slices_IndexFunc_impl_Laurent_impl_Laurent,wrap_succ (show x1 < 4611686018427387904 by omega)]
   refine hK _ ?_;clear hK K
   simp [C.slices_IndexFunc_impl_Laurent_impl_Laurent]
   refine hR1 (x1+1) ⟨h1,?_⟩ (by omega)
   rw [List.take_succ_eq_append_getElem h1,List.any_append,ht]
   simp [hpx]
 ·have h1:x1=xs.length:=by have:=d_f hc1;omega
  refine wexit ?_
  show AWp _ _ _ _ _
  refine wseq ?_
  refine wreg fun K hK=>?_
  simp [C.slices_IndexFunc_impl_Laurent_impl_Laurent]
  refine hK _ ?_;clear hK K
  show AWp _ _ _ _ _
  refine wret ?_
  simp [C.slices_IndexFunc_impl_Laurent_impl_Laurent]
  rw [h1,List.take_length] at ht
  simpa using ht
theorem slices_ContainsFunc_impl_Laurent_impl_Laurent_calls (xs:List Lau) (g:Nat) (cs:List D) (p:Lau->Bool) (hx:xs.length < 4611686018427387904) (hM:aget [] MM g=[]) (hp:∀ x∈xs,ACalls Try.prog g [aF x,.d (.vp cs)] [] true (fun outs res=>outs=[]/\res=[.one (D.bool (p x))])):ACalls Try.prog F.slices_ContainsFunc_impl_Laurent_impl_Laurent [.d (.sh 2 xs.length (rows fS xs)),.cl g [.d (.vp cs)]] [] true (fun outs res=>outs=[]/\res=[.one (D.bool (xs.any p))]):=by
 refine ACalls.of_body (C:=C.slices_ContainsFunc_impl_Laurent_impl_Laurent) (n:=Try.f128.ntmps) tabT folT Try.func128 rfl (by kernel_rfl) rfl (Nat.le_of_ble_eq_true rfl) (by decide) (by kernel_rfl) (by kernel_rfl) rfl (by simp) (by simp) ?_
 simp only [Try.f128]
 refine wseq ?_
 refine wreg fun K hK=>?_
 simp [C.slices_ContainsFunc_impl_Laurent_impl_Laurent]
 refine hK _ ?_;clear hK K
 show AWp _ _ _ _ _
 refine wseq ?_
 refine wregI ([0,1,2] ++ ([3,4])) rfl fun K hK=>?_
 refine opsI_seg fun L hL=>?_
 simp [C.slices_ContainsFunc_impl_Laurent_impl_Laurent]
 refine wcall (slices_IndexFunc_impl_Laurent_impl_Laurent_calls xs g cs p hx hM hp) (by simp) (by simp) (by simp) ?_
 rintro outs res ⟨rfl,r,rfl,hr⟩
 simp [C.slices_ContainsFunc_impl_Laurent_impl_Laurent]
 refine hL _ ?_;clear hL L
 refine opsI_end fun L hL=>?_
 simp [C.slices_ContainsFunc_impl_Laurent_impl_Laurent]
 refine hL _ ?_;clear hL L
 simp [C.slices_ContainsFunc_impl_Laurent_impl_Laurent]
 refine hK _ ?_;clear hK K
 show AWp _ _ _ _ _
 refine wret ?_
 simp [C.slices_ContainsFunc_impl_Laurent_impl_Laurent]
 exact hr
theorem impl_SeedOk_calls (s:Sed) (hx:s.m.d.length < 17592186044416) (hl:s.f.length < 4611686018427387904) (hf:∀ f∈s.f,SmF f):ACalls Try.prog F.impl_SeedOk [aS s] [] true (fun outs res=>outs=[]/\res=[.one (D.bool (decide (SeedOK s)))]):=by
 refine ACalls.of_body (C:=C.impl_SeedOk) (n:=Try.f75.ntmps) tabT folT Try.func75 rfl (by kernel_rfl) rfl (Nat.le_of_ble_eq_true rfl) (by decide) (by kernel_rfl) (by kernel_rfl) rfl (by simp) (by simp) ?_
 simp only [Try.f75]
 refine wseq ?_
 refine wreg fun K hK=>?_
 simp [C.impl_SeedOk,sS]
 refine hK _ ?_;clear hK K
 show AWp _ _ _ _ _
 refine wseq ?_
 refine wseq ?_
 refine wregI ([0,1,2] ++ ([3,4,5,6,7,8,9,10,11,12])) rfl fun K hK=>?_
 have hJ:K ⟨ofL [(1,.pt (1,0) [] 0),(15,.bool (!decide (MatOK s.m/\(s.f.length:Int)=s.m.r)))],ofRO [((1,0),some (.bx (sS s)))]⟩:=by
  refine hK _ ?_;clear hK K
  show AWp _ _ _ _ _
  refine wcond _ rfl (fun hc1=>?_) (fun hc1=>?_)
  ·have hr:=nd_t hc1
   have hno:¬ SeedOK s:=fun h=>hr ⟨h.1,h.2.1⟩
   refine wseq ?_
   refine wreg fun K hK=>?_
   simp [C.impl_SeedOk,sS]
   refine hK _ ?_;clear hK K
   show AWp _ _ _ _ _
   refine wret ?_
   simp [C.impl_SeedOk,sS,hno]
  ·have hr:=nd_f hc1
   have hany:(!(s.f.any fun f=>!decide (VarOk s.m.r f)))=decide (SeedOK s):=by
    rw [Bool.eq_iff_iff]
    simp only [Bool.not_eq_true',List.any_eq_false,decide_eq_true_eq]
    refine ⟨fun h=>⟨hr.1,hr.2,fun f hm=>?_⟩,fun h f hm=>?_⟩
    ·simpa using h f hm
    ·simpa using h.2.2 f hm
   have hcall:=slices_ContainsFunc_impl_Laurent_impl_Laurent_calls s.f F.impl_SeedOk_1 (sS s) (fun f=>!decide (VarOk s.m.r f)) hl (by simp) (fun f hm=>impl_SeedOk_1_calls s f (hf f hm).1 (hf f hm).2)
   simp only [sS] at hcall
   refine wskip ?_
   show AWp _ _ _ _ _
   refine wseq ?_
   refine wregI ([0,1,2,3] ++ ([4,5])) rfl fun K hK=>?_
   refine opsI_seg fun L hL=>?_
   simp [C.impl_SeedOk,sS]
   refine wcall1 (hcall) (by simp) (by simp) ?_
   simp [C.impl_SeedOk,sS]
   refine hL _ ?_;clear hL L
   refine opsI_end fun L hL=>?_
   simp [C.impl_SeedOk,sS]
   refine hL _ ?_;clear hL L
   simp [C.impl_SeedOk,sS]
   refine hK _ ?_;clear hK K
   show AWp _ _ _ _ _
   refine wret ?_
   simp [C.impl_SeedOk,sS]
   rw [← hany];simp
 clear hK
 by_cases h1:MatOK s.m
 ·refine opsI_seg fun L hL=>?_
  simp [C.impl_SeedOk,sS,h1]
  refine wcall1 (impl_MatrixOkG_calls s.m hx) (by simp) (by simp) ?_
  simp [C.impl_SeedOk,sS,h1]
  refine hL _ ?_;clear hL L
  refine opsI_end fun L hL=>?_
  simp [C.impl_SeedOk,sS,h1]
  refine hL _ ?_;clear hL L
  simp [C.impl_SeedOk,sS,h1]
  refine cast (congrArg K ?_) hJ
  simp [ibne,sS,h1]
 ·refine opsI_seg fun L hL=>?_
  simp [C.impl_SeedOk,sS,h1]
  refine wcall1 (impl_MatrixOkG_calls s.m hx) (by simp) (by simp) ?_
  simp [C.impl_SeedOk,sS,h1]
  refine hL _ ?_;clear hL L
  refine opsI_end fun L hL=>?_
  simp [C.impl_SeedOk,sS,h1]
  refine hL _ ?_;clear hL L
  simp [C.impl_SeedOk,sS,h1]
  refine cast (congrArg K ?_) hJ
  simp [ibne,sS,h1]
end Go.Proofs.Ytbhkonnakkhibaa.Ab
namespace Go.Proofs.Ytbhkonnakkhibaa.Ab
open Go
set_option maxRecDepth 10000
set_option maxHeartbeats 2000000
noncomputable def itM (f:Lau):Nat->Lau->Option Lau
 | 0,p=>some p
 | n+1,p=>if (mulF p f).2=true then itM f n (mulF p f).1 else none
noncomputable def prodE (sg:Int):List Lau->List Int->Lau->Option Lau
 | f :: fs,c :: cs,p=>(itM f (sg*c).toNat p).bind (prodE sg fs cs)
 | [],_,p=>some p
 | _ :: _,[],p=>some p
def colM (m:Mat) (r k:Nat):List Int:=(List.range r).map fun i=>bM m i k
@[simp] theorem colM_length (m:Mat) (r k:Nat):(colM m r k).length=r:=by simp [colM]
theorem colM_get (m:Mat) (r k i:Nat) (h:i < r):(colM m r k)[i]'(by simpa using h)=bM m i k:=by simp [colM]
noncomputable def exF (fs:List Lau) (cs:List Int) (r:Nat) (old:Lau):Lau×Bool:=
 if ∀ c∈cs,-8<=c/\c<=8 then (match prodE 1 fs cs (oneF r),prodE (-1) fs cs (oneF r) with
  | some a,some b=>if (addF a 1 b).2=true then divF (addF a 1 b).1 old else (zeroF,false)
  | _,_=>(zeroF,false)) else (zeroF,false)
theorem prodE_step {sg:Int} {fs:List Lau} {cs:List Int} {i:Nat} (h1:i < fs.length) (h2:i < cs.length) (p:Lau):prodE sg (fs.drop i) (cs.drop i) p=(itM fs[i] (sg*cs[i]).toNat p).bind (prodE sg (fs.drop (i+1)) (cs.drop (i+1))):=by
 rw [List.drop_eq_getElem_cons h1,List.drop_eq_getElem_cons h2,prodE]
theorem exF_none {fs:List Lau} {cs:List Int} {r:Nat} {old:Lau} {sg:Int} (hs:sg=1\/sg=-1) (h:prodE sg fs cs (oneF r)=none):exF fs cs r old=(zeroF,false):=by
 unfold exF
 split
 ·rcases hs with rfl | rfl
  ·rw [h]
  ·rw [h]
   split <;> simp_all
 ·rfl
theorem exF_big {fs:List Lau} {cs:List Int} {r:Nat} {old:Lau} {c:Int} (hc:c∈cs) (h:¬ (-8<=c/\c<=8)):exF fs cs r old=(zeroF,false):=if_neg fun q=>h (q c hc)
theorem exF_some {fs:List Lau} {cs:List Int} {r:Nat} {old a b:Lau} (hc:∀ c∈cs,-8<=c/\c<=8) (ha:prodE 1 fs cs (oneF r)=some a) (hb:prodE (-1) fs cs (oneF r)=some b):exF fs cs r old=if (addF a 1 b).2=true then divF (addF a 1 b).1 old else (zeroF,false):=by
 unfold exF
 rw [if_pos hc,ha,hb]
theorem SmallF.sm' {f:Lau} (h:SmallF f):f.ts.length < 4611686018427387904/\∀ t∈f.ts,t.e.length < 4611686018427387904:=⟨by have:=h.1;omega,fun t ht=>by have:=h.2.1 t ht;omega⟩
theorem mulF_small' (f g:Lau):SmallF (mulF f g).1:=by
 rcases mulF_right f g with h | h
 ·exact small_right h
 ·rw [h];exact small_zero
theorem addF_small' (f:Lau) (k:Int) (g:Lau):SmallF (addF f k g).1:=by
 unfold addF
 split
 ·rcases shutF_right f.v (f.ts.map pr ++ g.ts.map (prk k)) with h | h
  ·exact small_right h
  ·rw [h];exact small_zero
 ·exact small_zero
def exC0:List D:=[D.int 0,.v (.slice none 0 0),D.int 0,.v (.slice none 0 0)]
def exC1 (a:Lau):List D:=[D.int a.v,.ow 2 a.ts.length (rows tO a.ts),D.int 0,.v (.slice none 0 0)]
def exC2 (a b:Lau):List D:=[D.int a.v,.ow 2 a.ts.length (rows tO a.ts),D.int b.v,.ow 2 b.ts.length (rows tO b.ts)]
structure ExJ (fs:List Lau) (cs:List Int) (r:Nat) (side:Nat) (cells:List D):Prop where
 all:(side=0/\cells=exC0)\/(side=1/\(∀ c∈cs,c<=8)/\∃ a,SmallF a/\prodE 1 fs cs (oneF r)=some a/\cells=exC1 a) \/
  (side=2/\(∀ c∈cs,-8<=c/\c<=8)/\∃ a b,SmallF a/\SmallF b/\prodE 1 fs cs (oneF r)=some a/\prodE (-1) fs cs (oneF r)=some b/\cells=exC2 a b)
theorem impl_exchange_calls (m:Mat) (n r k:Nat) (fs:List Lau) (v:Nat) (hv8:1<=v/\v<=8) (hn:m.n=n) (hr:m.r=r) (hS:ShM m) (hk:k < n) (hl:fs.length=r) (hf:∀ f∈fs,SmF f) (hv:∀ f∈fs,f.v=v):ACalls Try.prog F.impl_exchange [.ag [.int n,.int r,.d (shI m.d)],.d (.sh 2 fs.length (rows fS fs)),.int k] [] true (fun outs res=>outs=[]/\WkRs res [.ag (fO (exF fs (colM m r k) v (fs.getD k zeroF)).1),.one (D.bool (exF fs (colM m r k) v (fs.getD k zeroF)).2)]):=by
 have hn5:1<=n/\n<=5:=by have:=hS.1;omega
 have hnr:n<=r/\r<=8:=by have:=hS.2.1;omega
 have hkl:k < fs.length:=by omega
 have hkv:fs[k].v=v:=hv _ (List.getElem_mem hkl)
 have hone:=impl_ConstantLaurent_calls v hv8
 have hos:SmallF (oneF v):=small_right (oneF_right (by omega))
 obtain ⟨cs,hcs⟩:∃ cs,cs=colM m r k:=⟨_,rfl⟩
 have hcl:cs.length=r:=by rw [hcs];simp
 have hcg:∀ (i:Nat) (h:i < r),cs[i]'(by omega)=bM m i k:=fun i h=>by simp only [hcs];exact colM_get m r k i h
 rw [← hcs]
 obtain ⟨old,hold⟩:∃ old,old=fs.getD k zeroF:=⟨_,rfl⟩
 have hkg:fs[k]=old:=by rw [hold];simp [List.getD_eq_getElem?_getD,hkl]
 rw [← hold]
 have hov:old.v=v:=by rw [← hkg];exact hkv
 have holds:=hf _ (List.getElem_mem hkl)
 rw [hkg] at holds
 refine ACalls.of_body (C:=C.impl_exchange) (n:=Try.f76.ntmps) tabT folT Try.func76 rfl (by kernel_rfl) rfl (Nat.le_of_ble_eq_true rfl) (by decide) (by kernel_rfl) (by kernel_rfl) rfl (by simp) (by simp) ?_
 simp only [Try.f76]
 refine wseq ?_
 refine wreg fun K hK=>?_
 simp [C.impl_exchange]
 refine hK _ ?_;clear hK K
 show AWp _ _ _ _ _
 refine wseq ?_
 refine wreg fun K hK=>?_
 simp [C.impl_exchange]
 refine hK _ ?_;clear hK K
 show AWp _ _ _ _ _
 refine wseq ?_
 refine wseq ?_
 refine wreg fun K hK=>?_
 simp [C.impl_exchange]
 refine hK _ ?_;clear hK K
 show AWp _ _ _ _ _
 refine wblock ?_
 refine wloop (fun x:Nat×List D=>⟨ofL [(1,.d (.sh 2 fs.length (rows fS fs))),(2,.int k),(3,.pt (3,0) [] 0),(6,.pt (6,0) [] 0),(8,.pt (8,0) [] 0),(18,.al (18,0) [] 0 2),(19,.int 2),(20,.int x.1)],ofRO [((3,0),some (.bx [D.int n,D.int r,shI m.d])),((6,0),some (.bx [D.int 0,.v (.slice none 0 0)])),((8,0),some (.bx x.2)),((18,0),some (.ow 1 2 (ints [1,-1])))]⟩) (fun x=>ExJ fs cs v x.1 x.2) (fun x=>2 - x.1) (0,exC0) (by simp [C.impl_exchange,exC0,ints]) ⟨.inl ⟨rfl,rfl⟩⟩ ?_
 intro x1 hx1 R1 hR1
 obtain ⟨side,cells⟩:=x1
 have hx1':=hx1
 dsimp only at hx1' ⊢
 refine wseq ?_
 refine wreg fun K hK=>?_
 simp [C.impl_exchange]
 refine hK _ ?_;clear hK K
 show AWp _ _ _ _ _
 refine wseq ?_
 refine wcond _ rfl (fun hc1=>?_) (fun hc1=>?_)
 ·have hside:side < 2:=by have:=d_t hc1;omega
  obtain ⟨sg,hsg⟩:∃ sg:Int,sg=if side=0 then 1 else -1:=⟨_,rfl⟩
  have hsg2:sg=1\/sg=-1:=by rw [hsg];split <;> simp
  have hsgn:([1,-1]:List Int)[side]'(by simpa using hside)=sg:=by
   rcases (show side=0\/side=1 by omega) with rfl | rfl <;> (rw [hsg];rfl)
  obtain ⟨goal,hgoal⟩:∃ goal,goal=prodE sg fs cs (oneF v):=⟨_,rfl⟩
  refine wskip ?_
  show AWp _ _ _ _ _
  refine wseq ?_
  refine wblock ?_
  refine wseq ?_
  refine wreg fun K hK=>?_
  simp [C.impl_exchange,hside,get_ints,hsgn,show (side:Int) < 2 by omega]
  refine hK _ ?_;clear hK K
  show AWp _ _ _ _ _
  refine wseq ?_
  refine wregI ([0,1,2,3,4,5] ++ ([6,7])) rfl fun K hK=>?_
  refine opsI_seg fun L hL=>?_
  simp [C.impl_exchange,hkl,fS_0 hkl,hkg,hov,show (k:Int) < fs.length by omega,fO]
  refine wcall1 (hone) (by simp) (by simp) ?_
  simp [C.impl_exchange,hkl,fS_0 hkl,hkg,hov,show (k:Int) < fs.length by omega,fO]
  refine hL _ ?_;clear hL L
  refine opsI_end fun L hL=>?_
  simp [C.impl_exchange,hkl,fS_0 hkl,hkg,hov,show (k:Int) < fs.length by omega,fO]
  refine hL _ ?_;clear hL L
  simp [C.impl_exchange,hkl,fS_0 hkl,hkg,hov,show (k:Int) < fs.length by omega,fO]
  refine hK _ ?_;clear hK K
  show AWp _ _ _ _ _
  refine wseq ?_
  refine wreg fun K hK=>?_
  simp [C.impl_exchange]
  refine hK _ ?_;clear hK K
  show AWp _ _ _ _ _
  refine wseq ?_
  refine wseq ?_
  refine wreg fun K hK=>?_
  simp [C.impl_exchange]
  refine hK _ ?_;clear hK K
  show AWp _ _ _ _ _
  refine wblock ?_
  refine wloop (fun x:Nat×Lau=>⟨ofL [(1,.d (.sh 2 fs.length (rows fS fs))),(2,.int k),(3,.pt (3,0) [] 0),(6,.pt (6,0) [] 0),(8,.pt (8,0) [] 0),(9,.int side),(10,.int sg),(11,.pt (11,0) [] 0),(18,.al (18,0) [] 0 2),(19,.int 2),(20,.int side),(31,.d (.sh 2 fs.length (rows fS fs))),(32,.int fs.length),(33,.int x.1)],ofRO [((3,0),some (.bx [D.int n,D.int r,shI m.d])),((6,0),some (.bx [D.int 0,.v (.slice none 0 0)])),((8,0),some (.bx cells)),((11,0),some (.bx (fO x.2))),((18,0),some (.ow 1 2 (ints [1,-1])))]⟩) (fun x=>x.1<=r/\SmallF x.2/\(∀ c∈cs.take x.1,sg*c<=8)/\prodE sg (fs.drop x.1) (cs.drop x.1) x.2=goal) (fun x=>r - x.1) (0,oneF v) (by simp [C.impl_exchange,fO]) ⟨by simp,hos,by simp,by rw [hgoal];rfl⟩ ?_
  intro x2 hx2 R2 hR2
  obtain ⟨i,p⟩:=x2
  obtain ⟨hi0,hps,hcb,hpg⟩:=hx2
  dsimp only at hi0 hps hcb hpg ⊢
  refine wseq ?_
  refine wreg fun K hK=>?_
  simp [C.impl_exchange]
  refine hK _ ?_;clear hK K
  show AWp _ _ _ _ _
  refine wseq ?_
  refine wcond _ rfl (fun hc2=>?_) (fun hc2=>?_)
  ·have hi:i < r:=by have:=d_t hc2;omega
   have hif:i < fs.length:=by omega
   obtain ⟨c,hc⟩:∃ c,c=cs[i]'(by omega):=⟨_,rfl⟩
   have hcm:bM m i k=c:=by rw [hc,hcg i hi]
   have hat:=at_calls hn hS (i:=i) (j:=k) (by omega) hk
   rw [hr,hcm] at hat
   have hcb99:=bM_bd hS i k
   rw [hcm] at hcb99
   have hsc:IntKind.i64.wrap (sg*c)=sg*c:=by rcases hsg2 with rfl | rfl <;> exact wrapOk (by omega) (by omega)
   have hstep:=prodE_step (sg:=sg) hif (show i < cs.length by omega) p
   rw [hpg,← hc] at hstep
   obtain ⟨f,hfi⟩:∃ f,f=fs[i]:=⟨_,rfl⟩
   have hfs:=hf _ (List.getElem_mem hif)
   rw [← hfi] at hstep hfs
   refine wskip ?_
   show AWp _ _ _ _ _
   refine wseq ?_
   refine wblock ?_
   refine wseq ?_
   refine wreg fun K hK=>?_
   simp [C.impl_exchange,hif,fS_0 hif,fS_1 hif,← hfi]
   refine hK _ ?_;clear hK K
   show AWp _ _ _ _ _
   refine wseq ?_
   refine wregI ([0,1,2,3,4] ++ ([5,6])) rfl fun K hK=>?_
   refine opsI_seg fun L hL=>?_
   simp [C.impl_exchange,hsc]
   refine wcall1 (hat) (by simp) (by simp) ?_
   simp [C.impl_exchange,hsc]
   refine hL _ ?_;clear hL L
   refine opsI_end fun L hL=>?_
   simp [C.impl_exchange,hsc]
   refine hL _ ?_;clear hL L
   simp [C.impl_exchange,hsc]
   refine hK _ ?_;clear hK K
   show AWp _ _ _ _ _
   refine wseq ?_
   refine wseq ?_
   refine wreg fun K hK=>?_
   simp [C.impl_exchange]
   refine hK _ ?_;clear hK K
   show AWp _ _ _ _ _
   refine wcond _ rfl (fun hc3=>?_) (fun hc3=>?_)
   ·have hbig:8 < sg*c:=by simpa using hc3
    have hm:exF fs cs v old=(zeroF,false):=exF_big (c:=c) (by rw [hc];exact List.getElem_mem _) (by rcases hsg2 with rfl | rfl <;> omega)
    refine wseq ?_
    refine wreg fun K hK=>?_
    simp [C.impl_exchange]
    refine hK _ ?_;clear hK K
    show AWp _ _ _ _ _
    refine wret ?_
    simp [C.impl_exchange,hm,fO,zeroF,rows]
   ·have hle:¬ 8 < sg*c:=by simpa using hc3
    refine wskip ?_
    show AWp _ _ _ _ _
    refine wblock ?_
    refine wloop (fun x:Int×Lau=>⟨ofL [(1,.d (.sh 2 fs.length (rows fS fs))),(2,.int k),(3,.pt (3,0) [] 0),(6,.pt (6,0) [] 0),(8,.pt (8,0) [] 0),(9,.int side),(10,.int sg),(11,.pt (11,0) [] 0),(14,.pt (14,0) [] 0),(15,.int x.1),(18,.al (18,0) [] 0 2),(19,.int 2),(20,.int side),(31,.d (.sh 2 fs.length (rows fS fs))),(32,.int fs.length),(33,.int i)],ofRO [((3,0),some (.bx [D.int n,D.int r,shI m.d])),((6,0),some (.bx [D.int 0,.v (.slice none 0 0)])),((8,0),some (.bx cells)),((11,0),some (.bx (fO x.2))),((14,0),some (.bx (fS f))),((18,0),some (.ow 1 2 (ints [1,-1])))]⟩) (fun x=>x.1<=8/\-99<=x.1/\SmallF x.2/\(itM f x.1.toNat x.2).bind (prodE sg (fs.drop (i+1)) (cs.drop (i+1)))=goal) (fun x=>x.1.toNat) (sg*c,p) (by simp [C.impl_exchange,fO,fS]) ⟨by dsimp only;omega,by dsimp only;rcases hsg2 with rfl | rfl <;> omega,hps,hstep.symm⟩ ?_
    intro x3 hx3 R3 hR3
    obtain ⟨nn,q⟩:=x3
    obtain ⟨hn8,hn99,hqs,hqg⟩:=hx3
    dsimp only at hn8 hn99 hqs hqg ⊢
    refine wseq ?_
    refine wseq ?_
    refine wreg fun K hK=>?_
    simp [C.impl_exchange]
    refine hK _ ?_;clear hK K
    show AWp _ _ _ _ _
    refine wcond _ rfl (fun hc4=>?_) (fun hc4=>?_)
    ·have hpos:0 < nn:=by simpa using hc4
     obtain ⟨t,ht⟩:∃ t,nn.toNat=t+1:=⟨nn.toNat - 1,by omega⟩
     rw [ht] at hqg
     simp only [itM] at hqg
     have hmul:=mulOk q f hqs.sm'.1 hqs.sm'.2 hfs.1 hfs.2
     have hmulS:=mulF_small' q f
     obtain ⟨P,hP⟩:∃ P,P=mulF q f:=⟨_,rfl⟩
     rw [← hP] at hqg hmul hmulS
     refine wskip ?_
     show AWp _ _ _ _ _
     refine wseq ?_
     refine wblock ?_
     refine wseq ?_
     refine wregI ([0,1,2] ++ ([3,4,5,6,7])) rfl fun K hK=>?_
     refine opsI_seg fun L hL=>?_
     simp [C.impl_exchange,fO,fS]
     refine wcall1 (hmul) (by simp) (by simp) ?_
     simp [C.impl_exchange,fO,fS]
     refine hL _ ?_;clear hL L
     refine opsI_end fun L hL=>?_
     simp [C.impl_exchange,fO,fS]
     refine hL _ ?_;clear hL L
     simp [C.impl_exchange,fO,fS]
     refine hK _ ?_;clear hK K
     show AWp _ _ _ _ _
     refine wseq ?_
     refine wreg fun K hK=>?_
     simp [C.impl_exchange]
     refine hK _ ?_;clear hK K
     show AWp _ _ _ _ _
     refine wcond _ rfl (fun hc5=>?_) (fun hc5=>?_)
     ·have hb:P.2=false:=by simpa using hc5
      rw [hb] at hqg
      have hm:exF fs cs v old=(zeroF,false):=exF_none hsg2 (by rw [← hgoal,← hqg];rfl)
      refine wseq ?_
      refine wreg fun K hK=>?_
      simp [C.impl_exchange]
      refine hK _ ?_;clear hK K
      show AWp _ _ _ _ _
      refine wret ?_
      simp [C.impl_exchange,hm,fO,zeroF,rows]
     ·have hb:P.2=true:=by simpa using hc5
      rw [if_pos hb] at hqg
      refine wskip ?_
      show AWp _ _ _ _ _
      refine wreg fun K hK=>?_
      simp [C.impl_exchange,wrapOk (x:=nn - 1) (by omega) (by omega)]
      refine hK _ ?_;clear hK K
      simp [C.impl_exchange]
      refine cast (congrArg R3 ?_) (hR3 (nn - 1,P.1) ⟨by dsimp only;omega,by dsimp only;omega,hmulS,by dsimp only;rw [show (nn - 1).toNat=t by omega];exact hqg⟩ (by dsimp only;omega))
      simp [fO,fS]
    ·have hpos:¬ 0 < nn:=by simpa using hc4
     rw [show nn.toNat=0 by omega] at hqg
     have hqg2:prodE sg (fs.drop (i+1)) (cs.drop (i+1)) q=goal:=hqg
     refine wexit ?_
     show AWp _ _ _ _ _
     refine wreg fun K hK=>?_
     simp [C.impl_exchange,wrap_succ (show i < 4611686018427387904 by omega)]
     refine hK _ ?_;clear hK K
     simp [C.impl_exchange]
     refine hR2 (i+1,q) ⟨hi,hqs,fun z hz=>?_,hqg2⟩ (by dsimp only;omega)
     dsimp only at hz
     rw [List.take_succ_eq_append_getElem (by omega)] at hz
     rcases List.mem_append.1 hz with hz | hz
     ·exact hcb z hz
     ·rw [List.mem_singleton] at hz
      rw [hz,← hc]
      omega
  ·have hi:i=r:=by have:=d_f hc2;omega
   rw [hi,List.drop_of_length_le (by omega),List.drop_of_length_le (by omega)] at hpg
   rw [hi,List.take_of_length_le (by omega)] at hcb
   have hpg2:prodE sg fs cs (oneF v)=some p:=by rw [← hgoal,← hpg];rfl
   refine wexit ?_
   show AWp _ _ _ _ _
   refine wreg fun K hK=>?_
   have hJ:K ⟨ofL [(1,.d (.sh 2 fs.length (rows fS fs))),(2,.int k),(3,.pt (3,0) [] 0),(6,.pt (6,0) [] 0),(8,.pt (8,0) [] 0),(18,.al (18,0) [] 0 2),(19,.int 2),(20,.int side)],ofRO [((3,0),some (.bx [D.int n,D.int r,shI m.d])),((6,0),some (.bx [D.int 0,.v (.slice none 0 0)])),((8,0),some (.bx (((cells.set (2*side) (D.int p.v)).set (2*side+1) (.ow 2 p.ts.length (rows tO p.ts)))))),((18,0),some (.ow 1 2 (ints [1,-1])))]⟩:=by
    refine hK _ ?_;clear hK K
    show AWp _ _ _ _ _
    refine wreg fun K hK=>?_
    simp [C.impl_exchange,wrap_succ (show side < 4611686018427387904 by omega)]
    refine hK _ ?_;clear hK K
    simp [C.impl_exchange]
    refine hR1 (side+1,_) ⟨?_⟩ (by dsimp only;omega)
    rcases hx1'.all with ⟨h1,h2⟩ | ⟨h1,h3,a,ha,hae,h2⟩ | ⟨h1,_⟩
    ·right
     left
     subst h1
     subst h2
     obtain rfl:sg=1:=hsg
     exact ⟨rfl,fun c hc=>by have:=hcb c hc;omega,p,hps,hpg2,rfl⟩
    ·right
     right
     subst h1
     subst h2
     obtain rfl:sg=-1:=hsg
     exact ⟨rfl,fun c hc=>by have:=hcb c hc;have:=h3 c hc;omega,a,p,ha,hps,hae,hpg2,rfl⟩
    ·omega
   clear hK
   rcases hx1'.all with ⟨h1,h2⟩ | ⟨h1,_,a,_,_,h2⟩ | ⟨h1,_⟩
   ·subst h1
    subst h2
    simp [C.impl_exchange,fO,exC0]
    refine cast (congrArg K ?_) hJ
    simp [fO,exC0]
   ·subst h1
    subst h2
    simp [C.impl_exchange,fO,exC1]
    refine cast (congrArg K ?_) hJ
    simp [fO,exC1]
   ·omega
 ·have hside:¬ side < 2:=by have:=d_f hc1;omega
  obtain ⟨hcb,a,b,has,hbs,hae,hbe,hcell⟩:(∀ c∈cs,-8<=c/\c<=8)/\∃ a b,SmallF a/\SmallF b/\prodE 1 fs cs (oneF v)=some a/\prodE (-1) fs cs (oneF v)=some b/\cells=exC2 a b:=by
   rcases hx1'.all with ⟨h1,h2⟩ | ⟨h1,h3,a,ha,hae,h2⟩ | ⟨h1,h2⟩
   ·omega
   ·omega
   ·exact h2
  subst hcell
  have hm:=exF_some (old:=old) hcb hae hbe
  have hadd:=iAdd_calls a 1 b has.sm'.1 has.sm'.2 hbs.sm'.1 hbs.sm'.2
  have hadds:=addF_small' a 1 b
  obtain ⟨A,hA⟩:∃ A,A=addF a 1 b:=⟨_,rfl⟩
  rw [← hA] at hm hadd hadds
  refine wexit ?_
  show AWp _ _ _ _ _
  refine wseq ?_
  refine wregI ([0,1,2,3,4] ++ ([5,6,7,8,9,10])) rfl fun K hK=>?_
  refine opsI_seg fun L hL=>?_
  simp [C.impl_exchange,exC2,fO]
  refine wcall1 (hadd) (by simp) (by simp) ?_
  simp [C.impl_exchange,exC2,fO]
  refine hL _ ?_;clear hL L
  refine opsI_end fun L hL=>?_
  simp [C.impl_exchange,exC2,fO]
  refine hL _ ?_;clear hL L
  simp [C.impl_exchange,exC2,fO]
  refine hK _ ?_;clear hK K
  show AWp _ _ _ _ _
  refine wseq ?_
  refine wseq ?_
  refine wreg fun K hK=>?_
  simp [C.impl_exchange]
  refine hK _ ?_;clear hK K
  show AWp _ _ _ _ _
  refine wcond _ rfl (fun hc6=>?_) (fun hc6=>?_)
  ·have hno:¬ A.2=true:=by simpa using hc6
   refine wseq ?_
   refine wreg fun K hK=>?_
   simp [C.impl_exchange]
   refine hK _ ?_;clear hK K
   show AWp _ _ _ _ _
   refine wret ?_
   simp [C.impl_exchange,hm,hno,fO,zeroF,rows]
  ·have hyes:A.2=true:=by simpa using hc6
   have hdiv:=iDiv_calls doneOk A.1 old hadds.sm'.1 hadds.sm'.2 holds.1 holds.2
   rw [if_pos hyes] at hm
   refine wskip ?_
   show AWp _ _ _ _ _
   refine wseq ?_
   refine wdrawI [(true,0),(true,1),(true,2),(true,3),(true,4),(false,5),(true,6),(true,7),(false,8),(true,9)] ⟨by kernel_rfl,by kernel_rfl⟩ ([0,1,2,3,4,5] ++ ([6,7,8,9])) rfl fun K hK=>?_
   refine opsI_seg fun L hL=>?_
   simp [C.impl_exchange,hkl,fS_0 hkl,fS_1 hkl,hkg,show (k:Int) < fs.length by omega,fO]
   refine wcall1 (hdiv) (by simp) (by simp) ?_
   simp [C.impl_exchange,hkl,fS_0 hkl,fS_1 hkl,hkg,show (k:Int) < fs.length by omega,fO]
   refine hL _ ?_;clear hL L
   refine opsI_end fun L hL=>?_
   simp [C.impl_exchange,hkl,fS_0 hkl,fS_1 hkl,hkg,show (k:Int) < fs.length by omega,fO]
   refine hL _ ?_;clear hL L
   simp [C.impl_exchange,hkl,fS_0 hkl,fS_1 hkl,hkg,show (k:Int) < fs.length by omega,fO]
   refine hK _ ?_;clear hK K
   show AWp _ _ _ _ _
   refine wret ?_
   simp [C.impl_exchange,hm,fO]
theorem iEx_calls (m:Mat) (n r k:Nat) (fs:List Lau) (v:Nat) (hv8:1<=v/\v<=8) (hn:m.n=n) (hr:m.r=r) (hS:ShM m) (hk:k < n) (hl:fs.length=r) (hf:∀ f∈fs,SmF f) (hv:∀ f∈fs,f.v=v):ACalls Try.prog F.impl_exchange [.ag [.int n,.int r,.d (shI m.d)],.d (.sh 2 fs.length (rows fS fs)),.int k] [] true (fun outs res=>outs=[]/\res=[.ag (fO (exF fs (colM m r k) v (fs.getD k zeroF)).1),.one (D.bool (exF fs (colM m r k) v (fs.getD k zeroF)).2)]):=(impl_exchange_calls m n r k fs v hv8 hn hr hS hk hl hf hv).weak1
noncomputable def seedF (s:Sed) (k:Int):Sed×Bool:=
 if SeedOK s/\(0<=k/\k < s.m.n)/\(exF s.f (colM s.m s.m.r.toNat k.toNat) s.m.r.toNat (s.f.getD k.toNat zeroF)).2=true/\(muF s.m k).2=true then
  (⟨(muF s.m k).1,s.f.set k.toNat (exF s.f (colM s.m s.m.r.toNat k.toNat) s.m.r.toNat (s.f.getD k.toNat zeroF)).1⟩,true) else (⟨⟨0,0,[]⟩,[]⟩,false)
theorem impl_MutateSeed_calls (s:Sed) (k:Int) (hx:s.m.d.length < 17592186044416) (hl:s.f.length < 4611686018427387904) (hf:∀ f∈s.f,SmF f):ACalls Try.prog F.impl_MutateSeed [aS s,.int k] [] true (fun outs res=>outs=[]/\WkRs res [.ag (sO (seedF s k).1),.one (D.bool (seedF s k).2)]):=by
 refine ACalls.of_body (C:=C.impl_MutateSeed) (n:=Try.f34.ntmps) tabT folT Try.func34 rfl (by kernel_rfl) rfl (Nat.le_of_ble_eq_true rfl) (by decide) (by kernel_rfl) (by kernel_rfl) rfl (by simp) (by simp) ?_
 simp only [Try.f34]
 refine wseq ?_
 refine wreg fun K hK=>?_
 simp [C.impl_MutateSeed,sS]
 refine hK _ ?_;clear hK K
 show AWp _ _ _ _ _
 refine wseq ?_
 refine wseq ?_
 refine wregI ([0,1] ++ ([2,3,4,5,6,7,8,9] ++ ([10,11]))) rfl fun K hK=>?_
 have hJ:K ⟨ofL [(1,.int k),(2,.pt (2,0) [] 0),(4,.pt (4,0) [] 0),(22,.bool (!decide (SeedOK s/\(0<=k/\k < s.m.n))))],ofRO [((2,0),some (.bx (sS s))),((4,0),some (.bx [D.int 0,D.int 0,.v (.slice none 0 0),.v (.slice none 0 0)]))]⟩:=by
  refine hK _ ?_;clear hK K
  show AWp _ _ _ _ _
  refine wcond _ rfl (fun hc1=>?_) (fun hc1=>?_)
  ·have hr:=nd_t hc1
   have hm:seedF s k=(⟨⟨0,0,[]⟩,[]⟩,false):=if_neg (fun h=>hr ⟨h.1,h.2.1⟩)
   refine wseq ?_
   refine wreg fun K hK=>?_
   simp [C.impl_MutateSeed,sS]
   refine hK _ ?_;clear hK K
   show AWp _ _ _ _ _
   refine wret ?_
   simp [C.impl_MutateSeed,sS,hm,sO,ints,rows]
  ·have hr:=nd_f hc1
   obtain ⟨hok,hk⟩:=hr
   have hS:=hok.1.1
   obtain ⟨n,hn⟩:∃ n:Nat,s.m.n=n:=⟨s.m.n.toNat,by have:=hS.1;omega⟩
   obtain ⟨r,hr⟩:∃ r:Nat,s.m.r=r:=⟨s.m.r.toNat,by have:=hS.1;have:=hS.2.1;omega⟩
   obtain ⟨k,rfl⟩:∃ j:Nat,k=j:=⟨k.toNat,by omega⟩
   have hnr:n<=r/\r<=8:=by have:=hS.2.1;omega
   have hfl:s.f.length=r:=by have:=hok.2.1;omega
   have hkn:k < n:=by omega
   have hex:=iEx_calls s.m n r k s.f r (by omega) hn hr hS hkn hfl hf (fun f hm=>by rw [(hok.2.2 f hm).2.2,hr])
   have hmu:=iMu_calls s.m k hx
   have hm:seedF s k=if (exF s.f (colM s.m r k) r (s.f.getD k zeroF)).2=true/\(muF s.m k).2=true then
     (⟨(muF s.m k).1,s.f.set k (exF s.f (colM s.m r k) r (s.f.getD k zeroF)).1⟩,true) else (⟨⟨0,0,[]⟩,[]⟩,false):=by
    unfold seedF
    rw [show s.m.r.toNat=r by omega,Int.toNat_natCast]
    by_cases q:(exF s.f (colM s.m r k) r (s.f.getD k zeroF)).2=true/\(muF s.m k).2=true
    ·rw [if_pos ⟨hok,hk,q⟩,if_pos q]
    ·rw [if_neg (fun h=>q h.2.2),if_neg q]
   obtain ⟨E,hE⟩:∃ E,E=exF s.f (colM s.m r k) r (s.f.getD k zeroF):=⟨_,rfl⟩
   obtain ⟨M,hM⟩:∃ M,M=muF s.m k:=⟨_,rfl⟩
   rw [← hE] at hex hm
   rw [← hM] at hmu hm
   clear hE hM
   have haM:aM s.m = .ag [.int n,.int r,.d (shI s.m.d)]:=by rw [← hn,← hr]
   rw [haM] at hmu
   have hcopy:=impl_copySeed_calls s hx (by omega) (fun f hm=>by
    have h1:=(hok.2.2 f hm).1
    exact ⟨by have:=h1.2.1;omega,fun t ht=>by have:=(h1.2.2.1 t ht).1;have:=h1.1;omega⟩)
   refine wskip ?_
   show AWp _ _ _ _ _
   refine wseq ?_
   refine wregI ([0,1,2,3,4,5] ++ ([6,7,8,9,10,11])) rfl fun K hK=>?_
   refine opsI_seg fun L hL=>?_
   simp [C.impl_MutateSeed,sS,hn,hr,fO]
   refine wcall1 (hex) (by simp) (by simp) ?_
   simp [C.impl_MutateSeed,sS,hn,hr,fO]
   refine hL _ ?_;clear hL L
   refine opsI_end fun L hL=>?_
   simp [C.impl_MutateSeed,sS,hn,hr,fO]
   refine hL _ ?_;clear hL L
   simp [C.impl_MutateSeed,sS,hn,hr,fO]
   refine hK _ ?_;clear hK K
   show AWp _ _ _ _ _
   refine wseq ?_
   refine wregI ([0,1,2,3] ++ ([4,5,6,7,8,9])) rfl fun K hK=>?_
   refine opsI_seg fun L hL=>?_
   simp [C.impl_MutateSeed,sS,hn,hr,mO]
   refine wcall1 (hmu) (by simp) (by simp) ?_
   simp [C.impl_MutateSeed,sS,hn,hr,mO]
   refine hL _ ?_;clear hL L
   refine opsI_end fun L hL=>?_
   simp [C.impl_MutateSeed,sS,hn,hr,mO]
   refine hL _ ?_;clear hL L
   simp [C.impl_MutateSeed,sS,hn,hr,mO]
   refine hK _ ?_;clear hK K
   show AWp _ _ _ _ _
   refine wseq ?_
   refine wseq ?_
   refine wreg fun K hK=>?_
   have hJ:K ⟨ofL [(1,.int k),(2,.pt (2,0) [] 0),(4,.pt (4,0) [] 0),(6,.pt (6,0) [] 0),(8,.pt (8,0) [] 0),(45,.bool (!(E.2 && M.2)))],ofRO [((2,0),some (.bx (sS s))),((4,0),some (.bx [D.int 0,D.int 0,.v (.slice none 0 0),.v (.slice none 0 0)])),((6,0),some (.bx (fO E.1))),((8,0),some (.bx (mO M.1)))]⟩:=by
    refine hK _ ?_;clear hK K
    show AWp _ _ _ _ _
    refine wcond _ rfl (fun hc2=>?_) (fun hc2=>?_)
    ·have hno:¬ (E.2=true/\M.2=true):=by
      rintro ⟨q1,q2⟩
      rw [q1,q2] at hc2
      simp at hc2
     refine wseq ?_
     refine wreg fun K hK=>?_
     simp [C.impl_MutateSeed,sS]
     refine hK _ ?_;clear hK K
     show AWp _ _ _ _ _
     refine wret ?_
     simp [C.impl_MutateSeed,sS,hm,hno,sO,ints,rows]
    ·have hyes:E.2=true/\M.2=true:=by simpa using hc2
     refine wskip ?_
     show AWp _ _ _ _ _
     refine wseq ?_
     refine wregI ([0,1] ++ ([2,3])) rfl fun K hK=>?_
     refine opsI_seg fun L hL=>?_
     simp [C.impl_MutateSeed,sS,sO]
     refine wcall1 (hcopy) (by simp) (by simp) ?_
     simp [C.impl_MutateSeed,sS,sO]
     refine hL _ ?_;clear hL L
     refine opsI_end fun L hL=>?_
     simp [C.impl_MutateSeed,sS,sO]
     refine hL _ ?_;clear hL L
     simp [C.impl_MutateSeed,sS,sO]
     refine hK _ ?_;clear hK K
     show AWp _ _ _ _ _
     refine wseq ?_
     refine wreg fun K hK=>?_
     simp [C.impl_MutateSeed,sS,mO]
     refine hK _ ?_;clear hK K
     show AWp _ _ _ _ _
     refine wseq ?_
     refine wreg fun K hK=>?_
     simp [C.impl_MutateSeed,sS,fO,show k < s.f.length by omega,show (k:Int) < s.f.length by omega,fO_0 (show k < s.f.length by omega),fO_1 (show k < s.f.length by omega),fO_set2]
     refine hK _ ?_;clear hK K
     show AWp _ _ _ _ _
     refine wseq ?_
     refine wreg fun K hK=>?_
     simp [C.impl_MutateSeed,sS]
     refine hK _ ?_;clear hK K
     show AWp _ _ _ _ _
     refine wret ?_
     simp [C.impl_MutateSeed,sS,hm,hyes,sO]
   clear hK
   by_cases h1:E.2=true
   ·simp [C.impl_MutateSeed,sS,h1]
    refine cast (congrArg K ?_) hJ
    simp [hn,hr,fO,mO,sS,sS,h1]
   ·simp [C.impl_MutateSeed,sS,h1]
    refine cast (congrArg K ?_) hJ
    simp [hn,hr,fO,mO,sS,sS,h1]
 clear hK
 by_cases h1:SeedOK s
 ·have hwn:IntKind.i64.wrap (s.m.n - 1)=s.m.n - 1:=by have:=h1.1.1.1;exact wrapOk (by omega) (by omega)
  have hle:∀ x:Int,(x<=s.m.n - 1)=(x < s.m.n):=fun x=>by rw [eq_iff_iff];omega
  refine opsI_seg fun L hL=>?_
  simp [C.impl_MutateSeed,sS,hwn,hle,h1]
  refine wcall1 (impl_SeedOk_calls s hx hl hf) (by simp) (by simp) ?_
  simp [C.impl_MutateSeed,sS,hwn,hle,h1]
  refine hL _ ?_;clear hL L
  refine opsI_seg fun L hL=>?_
  simp [C.impl_MutateSeed,sS,hwn,hle,h1]
  refine wcall1 (impl_within_calls k 0 (s.m.n - 1)) (by simp) (by simp) ?_
  simp [C.impl_MutateSeed,sS,hwn,hle,h1]
  refine hL _ ?_;clear hL L
  refine opsI_end fun L hL=>?_
  simp [C.impl_MutateSeed,sS,hwn,hle,h1]
  refine hL _ ?_;clear hL L
  simp [C.impl_MutateSeed,sS,hwn,hle,h1]
  refine cast (congrArg K ?_) hJ
  simp [Bool.not_and,sS,h1]
 ·refine opsI_seg fun L hL=>?_
  simp [C.impl_MutateSeed,sS,h1]
  refine wcall1 (impl_SeedOk_calls s hx hl hf) (by simp) (by simp) ?_
  simp [C.impl_MutateSeed,sS,h1]
  refine hL _ ?_;clear hL L
  refine opsI_seg fun L hL=>?_
  simp [C.impl_MutateSeed,sS,h1]
  refine hL _ ?_;clear hL L
  refine opsI_end fun L hL=>?_
  simp [C.impl_MutateSeed,sS,h1]
  refine hL _ ?_;clear hL L
  simp [C.impl_MutateSeed,sS,h1]
  refine cast (congrArg K ?_) hJ
  simp [Bool.not_and,sS,h1]
end Go.Proofs.Ytbhkonnakkhibaa.Ab
namespace Go.Proofs.Ytbhkonnakkhibaa.Ab
open Go
set_option maxRecDepth 10000
set_option maxHeartbeats 2000000
def zeroS:Sed:=⟨⟨0,0,[]⟩,[]⟩
theorem iMs_calls (s:Sed) (k:Int) (hx:s.m.d.length < 17592186044416) (hl:s.f.length < 4611686018427387904) (hf:∀ f∈s.f,SmF f):ACalls Try.prog F.impl_MutateSeed [aS s,.int k] [] true (fun outs res=>outs=[]/\res=[.ag (sO (seedF s k).1),.one (D.bool (seedF s k).2)]):=(impl_MutateSeed_calls s k hx hl hf).weak1
end Go.Proofs.Ytbhkonnakkhibaa.Ab
namespace Go.Proofs.Ytbhkonnakkhibaa.Ab
open Go
set_option linter.unusedSectionVars false
section
variable {K:Type} [DecidableEq K] {lt:K->K->Bool} {mul dv:K->K->K} {D:K->Prop} {chk:K->Int->Bool}
theorem insK_top {k:K} {c:Int} (ho:Ord lt) (hc:c≠0):∀ (l:List (K×Int)),(∀ x∈l,lt x.1 k=true)->insK lt k c l=(k,c) :: l
 | [],_=>by simp [insK,hc]
 | x :: l,h=>by
  have hx:=h x (by simp)
  have hne:¬ x.1=k:=fun e=>by rw [e,ho.irr] at hx;simp at hx
  simp only [insK]
  rw [if_neg hne,if_pos hx,if_neg hc]
theorem co_prodK_cons (q:K) (x:K×Int) (a g:List (K×Int)):co q (prodK mul (x :: a) g)=co q (mulT mul x.1 x.2 g)+co q (prodK mul a g):=by
 unfold prodK
 rw [List.flatMap_cons,co_append]
theorem prodK_mem {a g:List (K×Int)} {y:K×Int} (h:y∈prodK mul a g):∃ x∈a,∃ z∈g,y=(mul x.1 z.1,x.2*z.2):=by
 unfold prodK at h
 obtain ⟨x,hx,h⟩:=List.mem_flatMap.1 h
 obtain ⟨z,hz,h⟩:=List.mem_map.1 h
 exact ⟨x,hx,z,hz,h.symm⟩
theorem divGo_prod (ho:Ord lt) (ha:Act lt mul dv D) (hdm:∀ a b,D a->D b->dv (mul a b) b=a) (hml:∀ x y b,D x->D y->D b->lt x y=true->lt (mul x b) (mul y b)=true)
  {b:K} {d:Int} {gt:List (K×Int)} (hgd:Desc lt ((b,d) :: gt)) (hg0:d≠0) (hgD:∀ x∈(b,d) :: gt,D x.1) :
  ∀ (k:Nat) (fs:List (K×Int)),Desc lt fs->Nz fs->(∀ x∈fs,D x.1/\chk x.1 x.2=true)->fs.length<=k->divGo lt mul dv chk ((b,d) :: gt) b d k (nf lt (prodK mul fs ((b,d) :: gt)))=some fs
 | k,[],_,_,_,_=>by cases k <;> rfl
 | 0,x :: fs,_,_,_,h=>by simp at h
 | k+1,x :: fs,hd,hz,hc,hk=>by
  obtain ⟨hd1,hd2⟩:=List.pairwise_cons.1 hd
  have hxz:=hz x (by simp)
  have hxD:=(hc x (by simp)).1
  have hbD:=hgD (b,d) (by simp)
  have hc0:x.2*d≠0:=Int.mul_ne_zero hxz hg0
  have hgt:=(List.pairwise_cons.1 hgd).1
  -- the greatest term
  have hrest:∀ y∈mulT mul x.1 x.2 gt ++ prodK mul fs ((b,d) :: gt),lt y.1 (mul x.1 b)=true:=fun y hy=>by
   rcases List.mem_append.1 hy with hy | hy
   ·obtain ⟨z,hzg,rfl⟩:=List.mem_map.1 hy
    exact ha.mul_lt _ _ _ hxD (hgD z (by simp [hzg])) hbD (hgt z hzg)
   ·obtain ⟨u,hu,z,hzg,rfl⟩:=prodK_mem hy
    have huD:=(hc u (by simp [hu])).1
    have h1:=hml _ _ b huD hxD hbD (hd1 u hu)
    rcases List.mem_cons.1 hzg with rfl | hzg
    ·exact h1
    ·exact ho.tr _ _ _ (ha.mul_lt _ _ _ huD (hgD z (by simp [hzg])) hbD (hgt z hzg)) h1
  have hR:nf lt (prodK mul (x :: fs) ((b,d) :: gt))=(mul x.1 b,x.2*d) :: nf lt (mulT mul x.1 x.2 gt ++ prodK mul fs ((b,d) :: gt)):=by
   have e:prodK mul (x :: fs) ((b,d) :: gt)=(mul x.1 b,x.2*d) :: (mulT mul x.1 x.2 gt ++ prodK mul fs ((b,d) :: gt)):=rfl
   rw [e]
   show insK lt (mul x.1 b) (x.2*d) (nf lt _)=_
   refine insK_top ho hc0 _ fun y hy=>?_
   obtain ⟨z,hzz,e2⟩:=nf_mem hy
   rw [← e2]
   exact hrest z hzz
  rw [hR]
  simp only [divGo]
  have h1:(x.2*d).tmod d=0:=Int.mul_tmod_left _ _
  have h2:(x.2*d).tdiv d=x.2:=Int.mul_tdiv_cancel _ hg0
  rw [hdm _ _ hxD hbD,h1,h2,if_pos ⟨rfl,(hc x (by simp)).2⟩]
  have hnf:nf lt ((mul x.1 b,x.2*d) :: nf lt (mulT mul x.1 x.2 gt ++ prodK mul fs ((b,d) :: gt)) ++ mulT mul x.1 (-x.2) ((b,d) :: gt))=nf lt (prodK mul fs ((b,d) :: gt)):=by
   refine nf_unique ho (nf_desc ho _) (nf_nz _) fun q=>?_
   rw [nf_co,← hR,co_append,nf_co,co_prodK_cons,co_mulT_neg]
   omega
  rw [hnf,divGo_prod ho ha hdm hml hgd hg0 hgD k fs hd2 (fun y hy=>hz y (by simp [hy])) (fun y hy=>hc y (by simp [hy])) (by simpa using hk)]
  rfl
end
end Go.Proofs.Ytbhkonnakkhibaa.Ab
namespace Go.Proofs.Ytbhkonnakkhibaa.Ab
open Go
theorem addE_vd:∀ (a b:List Int),a.length=b.length->addE (-1) (addE 1 a b) b=a
 | [],[],_=>rfl
 | x :: a,y :: b,h=>by
  simp only [addE,addE_vd a b (by simpa using h)]
  congr 1
  omega
 | [],_ :: _,h=>by simp at h
 | _ :: _,[],h=>by simp at h
theorem lau_eta (f:Lau):(⟨f.v,(f.ts.map pr).map tm⟩:Lau)=f:=by
 rw [List.map_map]
 have:tm ∘ pr=id:=rfl
 rw [this,List.map_id]
theorem pr_tm (l:List (List Int×Int)):(l.map tm).map pr=l:=by
 rw [List.map_map]
 exact List.map_id _
theorem div_mul {f g P:Lau} (hf:Right f) (hg:Right g) (hv:f.v=g.v) (hne:g.ts≠[]) (hP:mulF f g=(P,true)):divF P g=(f,true):=by
 have hm:mulF f g=shutF f.v (prodL (f.ts.map pr) (g.ts.map pr)):=if_pos ⟨hf,hg,hv⟩
 rw [hm] at hP
 unfold shutF at hP
 split at hP
 ·rename_i hR
  injection hP with hP _
  subst hP
  obtain ⟨n,hn⟩:∃ n:Nat,f.v=n:=⟨f.v.toNat,by have:=hf.1;omega⟩
  have hn2:g.v=n:=by omega
  unfold divF
  rw [if_pos ⟨⟨hR,hg,hv⟩,hne⟩]
  simp only [pr_tm]
  match hgt:g.ts,hne with
  | t :: ts,_=>
   have hd:=divGo_prod (mul:=addE 1) (dv:=addE (-1)) (chk:=chkI) lexOrd (lauAct n) (fun a b h1 h2=>addE_vd a b (h1.trans h2.symm)) (fun x y b h1 h2 h3 h=>by rw [lexlt_addE _ _ _ _ (h1.trans h3.symm) (h2.trans h3.symm)];exact h)
    (b:=t.e) (d:=t.c) (gt:=ts.map pr) (by have:=pr_desc hg;rw [hgt] at this;exact this) ((hg.2.2.1 t (by rw [hgt];simp)).2.1)
    (fun x hx=>by have:=pr_dig hg hn2;rw [hgt] at this;exact (this x hx).1) 600 (f.ts.map pr) (pr_desc hf) (pr_nz hf)
    (fun x hx=>⟨(pr_dig hf hn x hx).1,by
     obtain ⟨u,hu,rfl⟩:=List.mem_map.1 hx
     have:=hf.2.2.1 u hu
     exact decide_eq_true ⟨this.2.2.2,this.2.1,this.2.2.1⟩⟩) (by simpa using hf.2.1)
   have e:divL chkI g 600 (nf lexlt (prodL (f.ts.map pr) ((t :: ts).map pr)))=some (f.ts.map pr):=by
    unfold divL leadE leadC
    rw [hgt]
    exact hd
   rw [e]
   simp only [endF,lau_eta]
   rw [if_pos hf]
 ·injection hP with _ h
  simp at h
theorem mul_div {h g r:Lau} (hd:divF h g=(r,true)):Right h/\Right r/\mulF r g=(h,true):=by
 unfold divF at hd
 split at hd
 ·rename_i hc
  obtain ⟨⟨hh,hg,hv⟩,hne⟩:=hc
  cases hO:divL chkI g 600 (h.ts.map pr) with
  | none=>
   rw [hO] at hd
   simp [endF] at hd
  | some O=>
   rw [hO] at hd
   simp only [endF] at hd
   split at hd
   ·rename_i hR
    injection hd with hd _
    subst hd
    refine ⟨hh,hR,?_⟩
    have hx:=divGo_exact _ _ _ hO
    have hm:mulF ⟨h.v,O.map tm⟩ g=shutF h.v (prodL ((O.map tm).map pr) (g.ts.map pr)):=if_pos ⟨hR,hg,hv⟩
    rw [hm,pr_tm]
    have hnf:nf lexlt (prodL O (g.ts.map pr))=h.ts.map pr:=(nf_unique lexOrd (pr_desc hh) (pr_nz hh) fun q=>hx q).symm
    unfold shutF
    rw [hnf,lau_eta,if_pos hh]
   ·injection hd with _ h1
    simp at h1
 ·injection hd with _ h1
  simp at h1
end Go.Proofs.Ytbhkonnakkhibaa.Ab
namespace Go.Proofs.Ytbhkonnakkhibaa.Ab
open Go
section
variable {K:Type} [DecidableEq K] {lt:K->K->Bool} {mul:K->K->K}
def vl (φ:K->Int):List (K×Int)->Int
 | []=>0
 | x :: l=>x.2*φ x.1+vl φ l
omit [DecidableEq K] in
theorem vl_app (φ:K->Int):∀ l r:List (K×Int),vl φ (l ++ r)=vl φ l+vl φ r
 | [],r=>by simp [vl]
 | x :: l,r=>by simp only [List.cons_append,vl,vl_app φ l r];omega
theorem vl_insK (φ:K->Int) (k:K) (c:Int):∀ l:List (K×Int),vl φ (insK lt k c l)=c*φ k+vl φ l
 | []=>by
  simp only [insK]
  split
  ·rename_i h;simp [vl,h]
  ·simp [vl]
 | x :: l=>by
  simp only [insK]
  split
  ·rename_i h
   subst h
   split
   ·rename_i h2
    have:c=-x.2:=by omega
    subst this
    simp only [vl,Int.neg_mul]
    omega
   ·simp only [vl,Int.add_mul]
    omega
  ·split
   ·split
    ·rename_i h;simp [vl,h]
    ·simp only [vl]
   ·simp only [vl,vl_insK φ k c l]
    omega
theorem vl_nf (φ:K->Int):∀ l:List (K×Int),vl φ (nf lt l)=vl φ l
 | []=>rfl
 | x :: l=>by simp only [nf,vl_insK,vl_nf φ l,vl]
theorem co_vl (k:K):∀ l:List (K×Int),co k l=vl (fun e=>if e=k then 1 else 0) l
 | []=>rfl
 | x :: l=>by
  simp only [co,vl,co_vl k l]
  split <;> simp
theorem nf_vl (ho:Ord lt) {l r:List (K×Int)} (h:∀ φ,vl φ l=vl φ r):nf lt l=nf lt r:=
 nf_unique ho (nf_desc ho _) (nf_nz _) fun k=>by rw [nf_co,co_vl,co_vl,h]
omit [DecidableEq K] in
theorem vl_congr {φ ψ:K->Int}:∀ {l:List (K×Int)},(∀ x∈l,φ x.1=ψ x.1)->vl φ l=vl ψ l
 | [],_=>rfl
 | x :: l,h=>by
  simp only [vl,h x (by simp),vl_congr (l:=l) fun y hy=>h y (by simp [hy])]
omit [DecidableEq K] in
theorem vl_add (φ ψ:K->Int):∀ l:List (K×Int),vl (fun e=>φ e+ψ e) l=vl φ l+vl ψ l
 | []=>rfl
 | x :: l=>by
  simp only [vl,vl_add φ ψ l,Int.mul_add]
  omega
omit [DecidableEq K] in
theorem vl_mul (c:Int) (φ:K->Int):∀ l:List (K×Int),vl (fun e=>c*φ e) l=c*vl φ l
 | []=>by simp [vl]
 | x :: l=>by
  simp only [vl,vl_mul c φ l,Int.mul_add]
  rw [Int.mul_left_comm]
omit [DecidableEq K] in
theorem vl_zero:∀ l:List (K×Int),vl (fun _=>0) l=0
 | []=>rfl
 | x :: l=>by simp [vl,vl_zero l]
omit [DecidableEq K] in
theorem vl_fub {J:Type} (φ:K->J->Int) (b:List (J×Int)):∀ a:List (K×Int),vl (fun e=>vl (fun e'=>φ e e') b) a=vl (fun e'=>vl (fun e=>φ e e') a) b
 | []=>by
  simp only [vl]
  rw [vl_zero]
 | x :: a=>by
  simp only [vl]
  rw [vl_add,vl_mul,vl_fub φ b a]
omit [DecidableEq K] in
theorem vl_map (g:K->K) (q:Int) (φ:K->Int):∀ l:List (K×Int),vl φ (l.map fun y=>(g y.1,q*y.2))=q*vl (fun e=>φ (g e)) l
 | []=>by simp [vl]
 | x :: l=>by
  simp only [List.map_cons,vl,vl_map g q φ l,Int.mul_add,Int.mul_assoc]
omit [DecidableEq K] in
theorem vl_prodK (φ:K->Int) (g:List (K×Int)):∀ a:List (K×Int),vl φ (prodK mul a g)=vl (fun e=>vl (fun e'=>φ (mul e e')) g) a
 | []=>rfl
 | x :: a=>by
  have:=vl_prodK φ g a
  unfold prodK at this ⊢
  simp only [List.flatMap_cons,vl_app,vl,this]
  unfold mulT
  rw [vl_map]
omit [DecidableEq K] in
theorem vl_prod_com {D:K->Prop} (hc:∀ a b,D a->D b->mul a b=mul b a) (φ:K->Int) {a b:List (K×Int)} (ha:∀ x∈a,D x.1) (hb:∀ x∈b,D x.1):vl φ (prodK mul a b)=vl φ (prodK mul b a):=by
 rw [vl_prodK,vl_prodK,vl_fub]
 exact vl_congr fun x hx=>vl_congr fun y hy=>by rw [hc _ _ (ha y hy) (hb x hx)]
omit [DecidableEq K] in
omit [DecidableEq K] in
end
end Go.Proofs.Ytbhkonnakkhibaa.Ab
namespace Go.Proofs.Ytbhkonnakkhibaa.Ab
open Go
def ValOk (f:Lau) (ys:List Int):Prop:=Right f/\(ys.length:Int)=f.v/\∀ y∈ys,y % 32003≠0
noncomputable instance (f:Lau) (ys:List Int):Decidable (ValOk f ys):=Classical.propDecidable _
end Go.Proofs.Ytbhkonnakkhibaa.Ab
namespace Go.Proofs.Ytbhkonnakkhibaa.Ab
open Go
set_option maxRecDepth 10000
set_option maxHeartbeats 2000000
def byts (xs:List Int):List D:=xs.map fun x=>D.v (.int .u8 x)
@[simp] theorem byts_length (xs:List Int):(byts xs).length=xs.length:=by simp [byts]
theorem byts_0 {xs:List Int} {i:Nat} (h:i < xs.length):(byts xs)[i]? = some (D.v (.int .u8 xs[i]))/\∀ h',(byts xs)[i]'h'=D.v (.int .u8 xs[i]):=by
 unfold byts
 exact ⟨by simp [h],fun _=>by simp⟩
def cur (xs:List Int) (i:Nat) (h:Int):D:=.bx [.sh 1 xs.length (byts xs),D.int i,D.int h]
attribute [local simp] cur
theorem laws_big_calls (xs:List Int):ACalls Try.prog F.laws_big [.d (.sh 1 xs.length (byts xs))] [] true (fun outs res=>outs=[]/\res=[.one (D.bool (decide (1048576 < (xs.length:Int))))]):=by
 refine ACalls.of_body (C:=C.laws_big) (n:=Try.f6.ntmps) tabT folT Try.func6 rfl (by kernel_rfl) rfl (Nat.le_of_ble_eq_true rfl) (by decide) (by kernel_rfl) (by kernel_rfl) rfl (by simp) (by simp) ?_
 simp only [Try.f6]
 refine wseq ?_
 refine wreg fun K hK=>?_
 simp [C.laws_big]
 refine hK _ ?_;clear hK K
 show AWp _ _ _ _ _
 refine wseq ?_
 refine wreg fun K hK=>?_
 simp [C.laws_big]
 refine hK _ ?_;clear hK K
 show AWp _ _ _ _ _
 refine wret ?_
 simp [C.laws_big]
end Go.Proofs.Ytbhkonnakkhibaa.Ab
namespace Go.Proofs.Ytbhkonnakkhibaa.Ab
open Go
set_option maxRecDepth 10000
set_option maxHeartbeats 2000000
attribute [local simp] cur
def Drawn (n:Nat) (f:Lau):Prop:=Right f/\f.v=n/\f.ts.length<=4/\∀ t∈f.ts,(-16<=t.c/\t.c<=16)/\∀ x∈t.e,-2<=x/\x<=2
end Go.Proofs.Ytbhkonnakkhibaa.Ab
namespace Go.Proofs.Ytbhkonnakkhibaa.Ab
open Go
set_option maxRecDepth 10000
set_option maxHeartbeats 2000000
attribute [local simp] cur
theorem laws_ints_calls (a b:List Int) (hx:a.length < 4611686018427387904):ACalls Try.prog F.laws_ints [.d (shI a),.d (shI b)] [] true (fun outs res=>outs=[]/\res=[.one (D.bool (decide (a=b)))]):=by
 refine ACalls.of_body (C:=C.laws_ints) (n:=Try.f53.ntmps) tabT folT Try.func53 rfl (by kernel_rfl) rfl (Nat.le_of_ble_eq_true rfl) (by decide) (by kernel_rfl) (by kernel_rfl) rfl (by simp) (by simp) ?_
 simp only [Try.f53]
 refine wseq ?_
 refine wreg fun K hK=>?_
 simp [C.laws_ints]
 refine hK _ ?_;clear hK K
 show AWp _ _ _ _ _
 refine wseq ?_
 refine wseq ?_
 refine wreg fun K hK=>?_
 simp [C.laws_ints]
 refine hK _ ?_;clear hK K
 show AWp _ _ _ _ _
 refine wcond _ rfl (fun hc1=>?_) (fun hc1=>?_)
 ·refine wseq ?_
  refine wreg fun K hK=>?_
  simp [C.laws_ints]
  refine hK _ ?_;clear hK K
  show AWp _ _ _ _ _
  refine wret ?_
  have hc:¬ a.length=b.length:=by simp at hc1;omega
  simp [C.laws_ints]
  intro e;simp [e] at hc
 ·refine wskip ?_
  show AWp _ _ _ _ _
  refine wseq ?_
  refine wseq ?_
  refine wreg fun K hK=>?_
  simp [C.laws_ints]
  refine hK _ ?_;clear hK K
  show AWp _ _ _ _ _
  refine wblock ?_
  have e:a.length=b.length:=by simp at hc1;omega
  refine wloop (fun k:Nat=>⟨ofL [(0,.d (shI a)),(1,.d (shI b)),(5,FV.int k)],ofRO []⟩) (fun k=>k<=a.length/\a.take k=b.take k) (fun k=>a.length - k) 0 (by simp [C.laws_ints]) (by simp) ?_
  intro x1 hx1 R1 hR1
  obtain ⟨hk,ht⟩:=hx1
  refine wseq ?_
  refine wseq ?_
  refine wreg fun K hK=>?_
  simp [C.laws_ints]
  refine hK _ ?_;clear hK K
  show AWp _ _ _ _ _
  refine wcond _ rfl (fun hc2=>?_) (fun hc2=>?_)
  ·refine wskip ?_
   show AWp _ _ _ _ _
   refine wseq ?_
   refine wblock ?_
   refine wseq ?_
   have h1:x1 < a.length:=by simpa using hc2
   have h2:x1 < b.length:=by omega
   refine wdraw (.take 0 (.take 1 (.take 2 (.take 3 (.take 4 (.take 5 (.take 6 (.take 7 (.take 8 (.done)))))))))) ⟨by kernel_rfl,by kernel_rfl⟩ fun K hK=>?_
   simp [C.laws_ints,h1,h2,get_ints]
   refine hK _ ?_;clear hK K
   show AWp _ _ _ _ _
   refine wcond _ rfl (fun hc3=>?_) (fun hc3=>?_)
   ·refine wseq ?_
    refine wreg fun K hK=>?_
    simp [C.laws_ints]
    refine hK _ ?_;clear hK K
    show AWp _ _ _ _ _
    refine wret ?_
    have hc:¬ a[x1]=b[x1]:=by simpa using hc3
    simp [C.laws_ints]
    intro e2
    subst e2
    exact hc rfl
   ·refine wskip ?_
    show AWp _ _ _ _ _
    refine wreg fun K hK=>?_
    simp [C.laws_ints,wrap_succ (show x1 < 4611686018427387904 by omega)]
    refine hK _ ?_;clear hK K
    simp [C.laws_ints]
    have hc:a[x1]=b[x1]:=by simpa using hc3
    refine hR1 (x1+1) ⟨h1,?_⟩ (by omega)
    rw [List.take_succ_eq_append_getElem h1,List.take_succ_eq_append_getElem h2,ht,hc]
  ·refine wexit ?_
   show AWp _ _ _ _ _
   refine wseq ?_
   refine wreg fun K hK=>?_
   simp [C.laws_ints]
   refine hK _ ?_;clear hK K
   show AWp _ _ _ _ _
   refine wret ?_
   have hk2:x1=a.length:=by simp at hc2;omega
   simp [C.laws_ints]
   rw [hk2,List.take_length,e,List.take_length] at ht
   exact ht
theorem laws_laurents_calls (f g:Lau) (hx:f.ts.length < 4611686018427387904) (hxe:∀ t∈f.ts,t.e.length < 4611686018427387904):ACalls Try.prog F.laws_laurents [aF f,aF g] [] true (fun outs res=>outs=[]/\res=[.one (D.bool (decide (f=g)))]):=by
 refine ACalls.of_body (C:=C.laws_laurents) (n:=Try.f33.ntmps) tabT folT Try.func33 rfl (by kernel_rfl) rfl (Nat.le_of_ble_eq_true rfl) (by decide) (by kernel_rfl) (by kernel_rfl) rfl (by simp) (by simp) ?_
 simp only [Try.f33]
 refine wseq ?_
 refine wreg fun K hK=>?_
 simp [C.laws_laurents,fS]
 refine hK _ ?_;clear hK K
 show AWp _ _ _ _ _
 refine wseq ?_
 refine wseq ?_
 refine wregI ([0,1,2,3,4,5,6,7,8,9,10,11,12,13]) rfl fun K hK=>?_
 have hJ:K ⟨ofL [(2,.pt (2,0) [] 0),(3,.pt (3,0) [] 0),(19,.bool (!decide (f.v=g.v/\(f.ts.length:Int)=g.ts.length)))],ofRO [((2,0),some (.bx (fS f))),((3,0),some (.bx (fS g)))]⟩:=by
  refine hK _ ?_;clear hK K
  show AWp _ _ _ _ _
  refine wcond _ rfl (fun hc1=>?_) (fun hc1=>?_)
  ·have hc:=nd_t hc1
   refine wseq ?_
   refine wreg fun K hK=>?_
   simp [C.laws_laurents,fS]
   refine hK _ ?_;clear hK K
   show AWp _ _ _ _ _
   refine wret ?_
   simp [C.laws_laurents,fS]
   intro e
   subst e
   exact hc ⟨rfl,rfl⟩
  ·have hc0:=nd_f hc1
   have hc:f.v=g.v/\f.ts.length=g.ts.length:=⟨hc0.1,by have:=hc0.2;omega⟩
   refine wskip ?_
   show AWp _ _ _ _ _
   refine wseq ?_
   refine wseq ?_
   refine wreg fun K hK=>?_
   simp [C.laws_laurents,fS]
   refine hK _ ?_;clear hK K
   show AWp _ _ _ _ _
   refine wblock ?_
   refine wloop (fun k:Nat=>⟨ofL [(2,.pt (2,0) [] 0),(3,.pt (3,0) [] 0),(5,FV.int k)],ofRO [((2,0),some (.bx (fS f))),((3,0),some (.bx (fS g)))]⟩) (fun k=>k<=f.ts.length/\f.ts.take k=g.ts.take k) (fun k=>f.ts.length - k) 0 (by simp [C.laws_laurents,fS]) (by simp) ?_
   intro x1 hx1 R1 hR1
   obtain ⟨hk,ht⟩:=hx1
   refine wseq ?_
   refine wseq ?_
   refine wreg fun K hK=>?_
   simp [C.laws_laurents,fS]
   refine hK _ ?_;clear hK K
   show AWp _ _ _ _ _
   refine wcond _ rfl (fun hc2=>?_) (fun hc2=>?_)
   ·have h1:x1 < f.ts.length:=by have:=d_t hc2;omega
    have h2:x1 < g.ts.length:=by omega
    refine wskip ?_
    show AWp _ _ _ _ _
    refine wseq ?_
    refine wblock ?_
    refine wseq ?_
    refine wdrawI [(true,0),(true,1),(true,2),(true,3),(true,4),(true,5),(true,6),(true,7),(true,8),(true,9),(true,10),(true,11),(true,12),(true,13),(true,14),(true,15),(true,16),(true,17),(true,18),(true,19),(true,20),(true,21),(true,22),(true,23),(true,24),(true,25),(false,26),(true,27),(true,28)] ⟨by kernel_rfl,by kernel_rfl⟩ ([0,1,2,3,4,5,6,7,8,9,10,11,12,13,14,15,16,17,18,19,20,21,22,23,24,25,26] ++ ([27,28])) rfl fun K hK=>?_
    have hJ:K ⟨ofL [(2,.pt (2,0) [] 0),(3,.pt (3,0) [] 0),(5,FV.int x1),(55,.bool (!decide (f.ts[x1].c=g.ts[x1].c/\f.ts[x1].e=g.ts[x1].e)))],ofRO [((2,0),some (.bx (fS f))),((3,0),some (.bx (fS g)))]⟩:=by
     refine hK _ ?_;clear hK K
     show AWp _ _ _ _ _
     refine wcond _ rfl (fun hc3=>?_) (fun hc3=>?_)
     ·have hb:=nd_t hc3
      refine wseq ?_
      refine wreg fun K hK=>?_
      simp [C.laws_laurents,fS]
      refine hK _ ?_;clear hK K
      show AWp _ _ _ _ _
      refine wret ?_
      simp [C.laws_laurents,fS]
      intro e
      subst e
      exact hb ⟨rfl,rfl⟩
     ·have hb:=nd_f hc3
      refine wskip ?_
      show AWp _ _ _ _ _
      refine wreg fun K hK=>?_
      simp [C.laws_laurents,fS,wrap_succ (show x1 < 4611686018427387904 by omega)]
      refine hK _ ?_;clear hK K
      simp [C.laws_laurents,fS]
      refine hR1 (x1+1) ⟨h1,?_⟩ (by omega)
      have he:f.ts[x1]=g.ts[x1]:=by
       cases hf:f.ts[x1]
       cases hg:g.ts[x1]
       simp only [hf,hg] at hb
       simp [hb.1,hb.2]
      rw [List.take_succ_eq_append_getElem h1,List.take_succ_eq_append_getElem h2,ht,he]
    clear hK
    by_cases ha:f.ts[x1].c=g.ts[x1].c
    ·refine opsI_seg fun L hL=>?_
     simp [C.laws_laurents,fS,h1,h2,tS_0 h1,tS_1 h1,tS_0 h2,tS_1 h2,ha]
     refine wcall1 (laws_ints_calls f.ts[x1].e g.ts[x1].e (hxe _ (List.getElem_mem h1))) (by simp) (by simp) ?_
     simp [C.laws_laurents,fS,h1,h2,tS_0 h1,tS_1 h1,tS_0 h2,tS_1 h2,ha]
     refine hL _ ?_;clear hL L
     refine opsI_end fun L hL=>?_
     simp [C.laws_laurents,fS,h1,h2,tS_0 h1,tS_1 h1,tS_0 h2,tS_1 h2,ha]
     refine hL _ ?_;clear hL L
     simp [C.laws_laurents,fS,h1,h2,tS_0 h1,tS_1 h1,tS_0 h2,tS_1 h2,ha]
     refine cast (congrArg K ?_) hJ
     simp [ibne,fS,ha]
    ·refine opsI_seg fun L hL=>?_
     simp [C.laws_laurents,fS,h1,h2,tS_0 h1,tS_1 h1,tS_0 h2,tS_1 h2,ha]
     refine hL _ ?_;clear hL L
     refine opsI_end fun L hL=>?_
     simp [C.laws_laurents,fS,h1,h2,tS_0 h1,tS_1 h1,tS_0 h2,tS_1 h2,ha]
     refine hL _ ?_;clear hL L
     simp [C.laws_laurents,fS,h1,h2,tS_0 h1,tS_1 h1,tS_0 h2,tS_1 h2,ha]
     refine cast (congrArg K ?_) hJ
     simp [ibne,fS,ha]
   ·have h1:x1=f.ts.length:=by have:=d_f hc2;omega
    refine wexit ?_
    show AWp _ _ _ _ _
    refine wseq ?_
    refine wreg fun K hK=>?_
    simp [C.laws_laurents,fS]
    refine hK _ ?_;clear hK K
    show AWp _ _ _ _ _
    refine wret ?_
    simp [C.laws_laurents,fS]
    rw [h1,List.take_length,hc.2,List.take_length] at ht
    cases f
    cases g
    simp only at hc ht
    simp [hc.1,ht]
 clear hK
 by_cases ha:f.v=g.v
 ·refine opsI_end fun L hL=>?_
  simp [C.laws_laurents,fS,ha]
  refine hL _ ?_;clear hL L
  simp [C.laws_laurents,fS,ha]
  refine cast (congrArg K ?_) hJ
  simp [ibne,fS,ha]
 ·refine opsI_end fun L hL=>?_
  simp [C.laws_laurents,fS,ha]
  refine hL _ ?_;clear hL L
  simp [C.laws_laurents,fS,ha]
  refine cast (congrArg K ?_) hJ
  simp [ibne,fS,ha]
end Go.Proofs.Ytbhkonnakkhibaa.Ab
namespace Go.Proofs.Ytbhkonnakkhibaa.Ab
open Go
set_option maxRecDepth 10000
set_option maxHeartbeats 2000000
end Go.Proofs.Ytbhkonnakkhibaa.Ab
namespace Go.Proofs.Ytbhkonnakkhibaa.Ab
open Go
theorem prk_eq (f:Lau) (k:Int):f.ts.map (prk k)=(f.ts.map pr).map fun y=>(y.1,k*y.2):=by
 rw [List.map_map]
 rfl
theorem addE_comm1:∀ (a b:List Int),a.length=b.length->addE 1 a b=addE 1 b a
 | [],[],_=>rfl
 | x :: a,y :: b,h=>by
  simp only [addE,addE_comm1 a b (by simpa using h),Int.one_mul]
  rw [Int.add_comm]
theorem prodL_eq (a b:List (List Int×Int)):prodL a b=prodK (addE 1) a b:=rfl
theorem vl_prk (φ:List Int->Int) (f:Lau) (k:Int):vl φ (f.ts.map (prk k))=k*vl φ (f.ts.map pr):=by
 rw [prk_eq]
 exact vl_map id k φ _
theorem ring_com {n:Nat} {f g:Lau} (hf:∀ x∈f.ts.map pr,x.1.length=n) (hg:∀ x∈g.ts.map pr,x.1.length=n):nf lexlt (prodL (f.ts.map pr) (g.ts.map pr))=nf lexlt (prodL (g.ts.map pr) (f.ts.map pr)):=
 nf_vl lexOrd fun φ=>by
  rw [prodL_eq,prodL_eq]
  exact vl_prod_com (D:=fun e=>e.length=n) (fun a b h1 h2=>addE_comm1 a b (h1.trans h2.symm)) φ hf hg
theorem addE_zero1:∀ (n:Nat) (a:List Int),a.length=n->addE 1 (List.replicate n 0) a=a
 | 0,[],_=>rfl
 | n+1,x :: a,h=>by
  simp only [List.replicate_succ,addE,addE_zero1 n a (by simpa using h)]
  simp
theorem one_mul {n:Nat} {f:Lau} (hf:Right f) (hn:f.v=n):mulF (oneF n) f=(f,true)/\mulF f (oneF n)=(f,true):=by
 have hn8:1<=n/\n<=8:=by have:=hf.1;omega
 have h1:=oneF_right hn8
 have hl:∀ x∈f.ts.map pr,x.1.length=n:=fun x hx=>by
  obtain ⟨t,ht,rfl⟩:=List.mem_map.1 hx
  exact (right_dig hf hn t ht).1
 have h1l:∀ x∈(oneF n).ts.map pr,x.1.length=n:=fun x hx=>by
  simp only [oneF,List.map_cons,List.map_nil,List.mem_singleton] at hx
  subst hx
  simp [pr]
 have e:prodL ((oneF n).ts.map pr) (f.ts.map pr)=f.ts.map pr:=by
  simp only [oneF,List.map_cons,List.map_nil,prodL,List.flatMap_cons,List.flatMap_nil,List.append_nil]
  have:∀ l:List (List Int×Int),(∀ x∈l,x.1.length=n)->l.map (fun y=>(addE 1 (pr ⟨List.replicate n 0,1⟩).1 y.1,(pr ⟨List.replicate n 0,1⟩).2*y.2))=l:=fun l hl=>by
   refine (List.map_congr_left fun x hx=>?_).trans (List.map_id l)
   simp only [pr,addE_zero1 n x.1 (hl x hx),Int.one_mul,id]
  exact this _ hl
 have enf:nf lexlt (f.ts.map pr)=f.ts.map pr:=(nf_unique lexOrd (pr_desc hf) (pr_nz hf) fun k=>rfl).symm
 constructor
 ·unfold mulF
  rw [if_pos ⟨h1,hf,hn.symm⟩,e]
  unfold shutF
  rw [enf]
  have:(⟨(oneF n).v,(f.ts.map pr).map tm⟩:Lau)=f:=by
   rw [show (oneF n).v=f.v from hn.symm]
   exact lau_eta f
  rw [this,if_pos hf]
 ·unfold mulF
  rw [if_pos ⟨hf,h1,hn⟩]
  unfold shutF
  rw [ring_com hl h1l,e,enf,lau_eta,if_pos hf]
end Go.Proofs.Ytbhkonnakkhibaa.Ab
namespace Go.Proofs.Ytbhkonnakkhibaa.Ab
open Go
theorem sh_dim {m:Mat} (h:ShM m):1<=m.n.toNat/\m.n.toNat<=5/\m.n.toNat<=m.r.toNat/\m.r.toNat<=8/\m.d.length=m.r.toNat*m.n.toNat/\(m.n.toNat:Int)=m.n/\(m.r.toNat:Int)=m.r:=by
 have h1:=h.1
 have h2:=h.2.1
 have h3:=h.2.2.1
 have e1:(m.n.toNat:Int)=m.n:=by omega
 have e2:(m.r.toNat:Int)=m.r:=by omega
 refine ⟨by omega,by omega,by omega,by omega,?_,e1,e2⟩
 rw [← e1,← e2,← Int.natCast_mul,Nat.mul_comm] at h3
 omega
theorem mulF_v {f g P:Lau} (h:mulF f g=(P,true)):Right f/\Right g/\Right P/\P.v=f.v:=by
 unfold mulF at h
 split at h
 ·rename_i q
  unfold shutF at h
  split at h
  ·rename_i q2
   injection h with h1 h2
   exact ⟨q.1,q.2.1,h1 ▸ q2,h1 ▸ rfl⟩
  ·simp at h
 ·simp at h
theorem itM_v {f:Lau}:∀ {n:Nat} {p a:Lau},itM f n p=some a->Right p->Right a/\a.v=p.v
 | 0,p,a,h,hp=>by
  simp only [itM,Option.some.injEq] at h
  subst h
  exact ⟨hp,rfl⟩
 | n+1,p,a,h,hp=>by
  simp only [itM] at h
  split at h
  ·rename_i q
   obtain ⟨P,hP⟩:∃ P,mulF p f=(P,true):=⟨(mulF p f).1,by rw [← q]⟩
   rw [hP] at h
   have h1:=mulF_v hP
   have h2:=itM_v h h1.2.2.1
   exact ⟨h2.1,h2.2.trans h1.2.2.2⟩
  ·simp at h
theorem prk_one (l:List Trm):l.map (prk 1)=l.map pr:=List.map_congr_left fun t _=>by simp [prk,pr]
theorem addF_com (a b:Lau) (hv:a.v=b.v):addF a 1 b=addF b 1 a:=by
 unfold addF
 by_cases h:Right a/\Right b/\a.v=b.v
 ·rw [if_pos ⟨h,by omega⟩,if_pos ⟨⟨h.2.1,h.1,hv.symm⟩,by omega⟩,prk_one,prk_one]
  unfold shutF
  rw [show nf lexlt (a.ts.map pr ++ b.ts.map pr)=nf lexlt (b.ts.map pr ++ a.ts.map pr) from nf_vl lexOrd fun φ=>by rw [vl_app,vl_app,Int.add_comm],hv]
 ·rw [if_neg (fun q=>h q.1),if_neg (fun q=>h ⟨q.1.2.1,q.1.1,q.1.2.2.symm⟩)]
end Go.Proofs.Ytbhkonnakkhibaa.Ab
namespace Go.Proofs.Ytbhkonnakkhibaa.Ab
open Go
set_option maxRecDepth 10000
set_option maxHeartbeats 2000000
theorem SmallF.sm {f:Lau} (h:SmallF f):f.ts.length < 4611686018427387904/\∀ t∈f.ts,t.e.length < 4611686018427387904:=⟨by have:=h.1;omega,fun t ht=>by have:=h.2.1 t ht;omega⟩
theorem addF_small (f:Lau) (k:Int) (g:Lau):SmallF (addF f k g).1:=by
 unfold addF
 split
 ·rcases shutF_right f.v (f.ts.map pr ++ g.ts.map (prk k)) with h | h
  ·exact small_right h
  ·rw [h];exact small_zero
 ·exact small_zero
theorem mono_small2 (e:List Int):SmallF (monoF e):=by
 unfold monoF
 split
 ·rename_i h;exact small_right h
 ·exact small_zero
noncomputable def r2P (b c:Int) (l:List Lau) (m:Nat):Lau×Bool:=powF (l.getD (m+1) zeroF) (if m % 2=1 then c else b)
noncomputable def r2A (b c:Int) (l:List Lau) (m:Nat):Lau×Bool:=addF (r2P b c l m).1 1 (oneF 2)
noncomputable def r2D (b c:Int) (l:List Lau) (m:Nat):Lau×Bool:=divF (r2A b c l m).1 (l.getD m zeroF)
noncomputable def r2L (b c:Int):Nat->Option (List Lau)
 | 0=>some [monoF [1,0],monoF [0,1]]
 | m+1=>match r2L b c m with
  | some l=>if (r2P b c l m).2=true/\(r2A b c l m).2=true/\(r2D b c l m).2=true then some (l ++ [(r2D b c l m).1]) else none
  | none=>none
noncomputable def r2F (b c n:Int):List Lau×Bool:=if (0<=b/\b<=4)/\(0<=c/\c<=4)/\2<=n/\n<=12 then (match r2L b c (n - 2).toNat with | some l=>(l,true) | none=>([],false)) else ([],false)
theorem r2L_ok (b c:Int):∀ (m:Nat) (l:List Lau),r2L b c m=some l->l.length=m+2/\∀ f∈l,SmallF f
 | 0,l,h=>by
  simp only [r2L,Option.some.injEq] at h
  subst h
  refine ⟨rfl,fun f hf=>?_⟩
  simp only [List.mem_cons,List.not_mem_nil,or_false] at hf
  rcases hf with rfl | rfl <;> exact mono_small2 _
 | m+1,l,h=>by
  simp only [r2L] at h
  split at h
  ·rename_i l' hl
   obtain ⟨h1,h2⟩:=r2L_ok b c m l' hl
   split at h
   ·injection h with h
    subst h
    refine ⟨by simp [h1],fun f hf=>?_⟩
    rcases List.mem_append.1 hf with hf | hf
    ·exact h2 f hf
    ·simp only [List.mem_singleton] at hf
     subst hf
     exact divF_small _ _
   ·simp at h
  ·simp at h
theorem r2L_none {b c:Int} {n m:Nat} (h:r2L b c n=none) (hm:n<=m):r2L b c m=none:=by
 induction m with
 | zero=>
  have:n=0:=by omega
  subst this
  exact h
 | succ m ih=>
  rcases Nat.lt_or_ge m n with q | q
  ·have:n=m+1:=by omega
   subst this
   exact h
  ·simp only [r2L,ih q]
theorem getD_get {l:List Lau} {i:Nat} (h:i < l.length):l[i]=l.getD i zeroF:=by simp [List.getD_eq_getElem?_getD,h]
theorem small_getD {l:List Lau} (h:∀ f∈l,SmallF f) (i:Nat):SmallF (l.getD i zeroF):=by
 rw [List.getD_eq_getElem?_getD]
 by_cases q:i < l.length
 ·rw [List.getElem?_eq_getElem q];exact h _ (List.getElem_mem q)
 ·rw [List.getElem?_eq_none (by omega)];exact small_zero
theorem one2_small:SmallF (oneF 2):=small_right (oneF_right (by omega))
theorem sM10:ACalls Try.prog F.spec_MonomialLaurent [.d (.sh 1 2 [D.v (.int .i64 1),D.v (.int .i64 0)])] [] true (fun outs res=>outs=[]/\res=[.ag (fO (monoF [1,0]))]):=sMono_calls [1,0] (by simp)
theorem sM01:ACalls Try.prog F.spec_MonomialLaurent [.d (.sh 1 2 [D.v (.int .i64 0),D.v (.int .i64 1)])] [] true (fun outs res=>outs=[]/\res=[.ag (fO (monoF [0,1]))]):=sMono_calls [0,1] (by simp)
theorem iM10:ACalls Try.prog F.impl_MonomialLaurent [.d (.sh 1 2 [D.v (.int .i64 1),D.v (.int .i64 0)])] [] true (fun outs res=>outs=[]/\res=[.ag (fO (monoF [1,0]))]):=iMono_calls [1,0] (by simp)
theorem iM01:ACalls Try.prog F.impl_MonomialLaurent [.d (.sh 1 2 [D.v (.int .i64 0),D.v (.int .i64 1)])] [] true (fun outs res=>outs=[]/\res=[.ag (fO (monoF [0,1]))]):=iMono_calls [0,1] (by simp)
theorem ofL_pad:∀ l:List (Nat×FV),ofL l=ofL (l ++ [(0,.dead)])
 | []=>by funext t;simp [ofL]
 | x :: l=>by
  funext t
  have:=congrFun (ofL_pad l) t
  simp only [List.cons_append,ofL] at this ⊢
  split
  ·rfl
  ·exact this
theorem spec_RankTwoTerms_calls (b c n:Int):ACalls Try.prog F.spec_RankTwoTerms [.int b,.int c,.int n] [] true (fun outs res=>outs=[]/\WkRs res [.one (.ow 2 (r2F b c n).1.length (rows fO (r2F b c n).1)),.one (D.bool (r2F b c n).2)]):=by
 refine ACalls.of_body (C:=C.spec_RankTwoTerms) (n:=Try.f31.ntmps) tabT folT Try.func31 rfl (by kernel_rfl) rfl (Nat.le_of_ble_eq_true rfl) (by decide) (by kernel_rfl) (by kernel_rfl) rfl (by simp) (by simp) ?_
 simp only [Try.f31]
 refine wseq ?_
 refine wreg fun K hK=>?_
 simp [C.spec_RankTwoTerms,fO]
 refine hK _ ?_;clear hK K
 show AWp _ _ _ _ _
 refine wseq ?_
 refine wseq ?_
 refine wregI ([0,1] ++ ([2,3,4,5] ++ ([6,7,8,9,10] ++ ([11,12])))) rfl fun K hK=>?_
 have hJ:K ⟨ofL [(0,.int b),(1,.int c),(2,.int n),(29,.bool (!decide ((0<=b/\b<=4)/\(0<=c/\c<=4)/\2<=n/\n<=12)))],ofRO []⟩:=by
  refine hK _ ?_;clear hK K
  show AWp _ _ _ _ _
  refine wcond _ rfl (fun hc1=>?_) (fun hc1=>?_)
  ·have hr:=nd_t hc1
   have hm:r2F b c n=([],false):=if_neg hr
   refine wseq ?_
   refine wreg fun K hK=>?_
   simp [C.spec_RankTwoTerms,fO]
   refine hK _ ?_;clear hK K
   show AWp _ _ _ _ _
   refine wret ?_
   simp [C.spec_RankTwoTerms,fO,hm,rows]
  ·have hr:=nd_f hc1
   obtain ⟨m,rfl⟩:∃ m:Nat,n=(m:Int)+2:=⟨(n - 2).toNat,by omega⟩
   have hm2:m<=10:=by omega
   have hm:r2F b c ((m:Int)+2)=(match r2L b c m with | some l=>(l,true) | none=>([],false)):=by
    unfold r2F
    rw [if_pos hr,show ((m:Int)+2 - 2).toNat=m by omega]
   refine wskip ?_
   show AWp _ _ _ _ _
   refine wseq ?_
   refine wregI ([0,1] ++ ([2,3] ++ ([4,5]))) rfl fun K hK=>?_
   refine opsI_seg fun L hL=>?_
   simp [C.spec_RankTwoTerms,fO]
   refine wcall1 (sM10) (by simp) (by simp) ?_
   simp [C.spec_RankTwoTerms,fO]
   refine hL _ ?_;clear hL L
   refine opsI_seg fun L hL=>?_
   simp [C.spec_RankTwoTerms,fO]
   refine wcall1 (sM01) (by simp) (by simp) ?_
   simp [C.spec_RankTwoTerms,fO]
   refine hL _ ?_;clear hL L
   refine opsI_end fun L hL=>?_
   simp [C.spec_RankTwoTerms,fO]
   refine hL _ ?_;clear hL L
   simp [C.spec_RankTwoTerms,fO]
   refine hK _ ?_;clear hK K
   show AWp _ _ _ _ _
   refine wseq ?_
   refine wseq ?_
   refine wreg fun K hK=>?_
   simp [C.spec_RankTwoTerms,fO]
   refine hK _ ?_;clear hK K
   show AWp _ _ _ _ _
   refine wblock ?_
   refine wloop (fun x:Nat×List Lau=>⟨ofL [(0,.int b),(1,.int c),(2,.int ((m:Int)+2)),(8,.al (8,0) [] 0 (x.1+2)),(9,.int ((x.1:Int)+2))],ofRO [((8,0),some (.ow 2 (x.1+2) (rows fO x.2)))]⟩) (fun x=>x.1<=m/\r2L b c x.1=some x.2) (fun x=>m - x.1) (0,[monoF [1,0],monoF [0,1]]) (by simp [C.spec_RankTwoTerms,fO,rows]) ⟨by simp,rfl⟩ ?_
   intro x1 hx1 R1 hR1
   obtain ⟨j,l⟩:=x1
   obtain ⟨hj,hl⟩:=hx1
   dsimp only at hj hl ⊢
   obtain ⟨hll,hls⟩:=r2L_ok b c j l hl
   have hw1:IntKind.i64.wrap ((j:Int)+2 - 1)=(j:Int)+1:=by rw [wrapOk (by omega) (by omega)];omega
   have hw2:IntKind.i64.wrap ((j:Int)+2 - 2)=(j:Int):=by rw [wrapOk (by omega) (by omega)];omega
   have ht1:((j:Int)+1).toNat=j+1:=by omega
   have hF1:=getD_get (l:=l) (i:=j+1) (by omega)
   have hF0:=getD_get (l:=l) (i:=j) (by omega)
   have hs1:=(small_getD hls (j+1)).sm
   have hs0:=(small_getD hls j).sm
   refine wseq ?_
   refine wseq ?_
   refine wreg fun K hK=>?_
   simp [C.spec_RankTwoTerms,fO]
   refine hK _ ?_;clear hK K
   show AWp _ _ _ _ _
   refine wcond _ rfl (fun hc2=>?_) (fun hc2=>?_)
   ·have hjm:j < m:=by have:=d_t hc2;omega
    have hnext:r2L b c (j+1)=if (r2P b c l j).2=true/\(r2A b c l j).2=true/\(r2D b c l j).2=true then some (l ++ [(r2D b c l j).1]) else none:=by simp only [r2L,hl]
    refine wskip ?_
    show AWp _ _ _ _ _
    refine wseq ?_
    refine wblock ?_
    refine wseq ?_
    refine wreg fun K hK=>?_
    simp [C.spec_RankTwoTerms,fO]
    refine hK _ ?_;clear hK K
    show AWp _ _ _ _ _
    refine wseq ?_
    refine wseq ?_
    refine wreg fun K hK=>?_
    simp [C.spec_RankTwoTerms,fO]
    refine hK _ ?_;clear hK K
    show AWp _ _ _ _ _
    refine wcondJ (fun σ'=>∃ e t f,e=(if j % 2=1 then c else b)/\σ'=⟨ofL [(0,.int b),(1,.int c),(2,.int ((m:Int)+2)),(8,.al (8,0) [] 0 (j+2)),(9,.int ((j:Int)+2)),(10,.int e),(t,f)],ofRO [((8,0),some (.ow 2 (j+2) (rows fO l)))]⟩) _ rfl ?_ (fun hc3 Qc3 hQc3=>?_) (fun hc3 Qc3 hQc3=>?_)
    ·rintro σc3 ⟨e,tt,ff,he,rfl⟩
     obtain ⟨P,hP⟩:∃ P,P=r2P b c l j:=⟨_,rfl⟩
     have hPe:powF (l.getD (j+1) zeroF) e=P:=by rw [hP,he];rfl
     have hPc:=sPow_calls (l.getD (j+1) zeroF) e hs1.1 hs1.2
     have hPs:SmallF P.1:=hPe ▸ powF_small _ _
     rw [hPe] at hPc
     obtain ⟨A,hA⟩:∃ A,A=r2A b c l j:=⟨_,rfl⟩
     have hAe:addF P.1 1 (oneF 2)=A:=by rw [hA,hP];rfl
     have hAc:=sAdd_calls P.1 1 (oneF 2) hPs.sm.1 hPs.sm.2 one2_small.sm.1 one2_small.sm.2
     have hAs:SmallF A.1:=hAe ▸ addF_small _ _ _
     rw [hAe] at hAc
     obtain ⟨V,hV⟩:∃ V,V=r2D b c l j:=⟨_,rfl⟩
     have hDe:divF A.1 (l.getD j zeroF)=V:=by rw [hV,hA];rfl
     have hDc:=sDiv_calls A.1 (l.getD j zeroF) hAs.sm.1 hAs.sm.2 hs0.1 hs0.2
     rw [hDe] at hDc
     rw [← hP,← hA,← hV] at hnext
     clear hP hA hV he hPe hAe hDe
     have hone:=spec_ConstantLaurent_calls 2 (by omega)
     show AWp _ _ _ _ _
     refine wseq ?_
     refine wregI ([0,1,2,3,4,5,6] ++ ([7,8,9,10,11,12])) rfl fun K hK=>?_
     refine opsI_seg fun L hL=>?_
     simp [C.spec_RankTwoTerms,fO,hw1,ht1,fO_0 (show j+1 < l.length by omega),fO_1 (show j+1 < l.length by omega),hF1,show ((j:Int)+1 < (j:Int)+2) by omega,show (0<=(j:Int)+1) by omega]
     refine wcall1 (hPc) (by simp) (by simp) ?_
     simp [C.spec_RankTwoTerms,fO,hw1,ht1,fO_0 (show j+1 < l.length by omega),fO_1 (show j+1 < l.length by omega),hF1,show ((j:Int)+1 < (j:Int)+2) by omega,show (0<=(j:Int)+1) by omega]
     refine hL _ ?_;clear hL L
     refine opsI_end fun L hL=>?_
     simp [C.spec_RankTwoTerms,fO,hw1,ht1,fO_0 (show j+1 < l.length by omega),fO_1 (show j+1 < l.length by omega),hF1,show ((j:Int)+1 < (j:Int)+2) by omega,show (0<=(j:Int)+1) by omega]
     refine hL _ ?_;clear hL L
     simp [C.spec_RankTwoTerms,fO,hw1,ht1,fO_0 (show j+1 < l.length by omega),fO_1 (show j+1 < l.length by omega),hF1,show ((j:Int)+1 < (j:Int)+2) by omega,show (0<=(j:Int)+1) by omega]
     refine hK _ ?_;clear hK K
     show AWp _ _ _ _ _
     refine wseq ?_
     refine wdraw (.take 0 (.all [(1,.all [(2,.take 3 (.take 4 (.take 5 (.all [(6,.all [(7,.take 8 (.done))])])))),(6,.all [(2,.take 3 (.take 4 (.take 5 (.all [(7,.take 8 (.done))]))))])]),(6,.all [(1,.all [(2,.take 3 (.take 4 (.take 5 (.all [(7,.take 8 (.done))]))))])])])) ⟨by kernel_rfl,by kernel_rfl⟩ fun K hK=>?_
     have hJ:K ⟨ofL [(0,.int b),(1,.int c),(2,.int ((m:Int)+2)),(8,.al (8,0) [] 0 (j+2)),(9,.int ((j:Int)+2)),(12,.bool P.2),(13,.pt (13,0) [] 0),(14,.bool A.2)],ofRO [((8,0),some (.ow 2 (j+2) (rows fO l))),((13,0),some (.bx (fO A.1)))]⟩:=by
      refine hK _ ?_;clear hK K
      show AWp _ _ _ _ _
      refine wseq ?_
      refine wseq ?_
      refine wreg fun K hK=>?_
      have hJ:K ⟨ofL [(0,.int b),(1,.int c),(2,.int ((m:Int)+2)),(8,.al (8,0) [] 0 (j+2)),(9,.int ((j:Int)+2)),(13,.pt (13,0) [] 0),(66,.bool (!(P.2 && A.2)))],ofRO [((8,0),some (.ow 2 (j+2) (rows fO l))),((13,0),some (.bx (fO A.1)))]⟩:=by
       refine hK _ ?_;clear hK K
       show AWp _ _ _ _ _
       refine wcond _ rfl (fun hc4=>?_) (fun hc4=>?_)
       ·have hno:¬ (P.2=true/\A.2=true/\V.2=true):=by
         rintro ⟨q1,q2,_⟩
         rw [q1,q2] at hc4
         simp at hc4
        have hnone:r2L b c m=none:=r2L_none (n:=j+1) (by rw [hnext,if_neg hno]) (by omega)
        refine wseq ?_
        refine wreg fun K hK=>?_
        simp [C.spec_RankTwoTerms,fO]
        refine hK _ ?_;clear hK K
        show AWp _ _ _ _ _
        refine wret ?_
        simp [C.spec_RankTwoTerms,fO,hm,hnone,rows]
       ·have hyes:P.2=true/\A.2=true:=by simpa using hc4
        refine wskip ?_
        show AWp _ _ _ _ _
        refine wseq ?_
        refine wdraw (.take 0 (.take 1 (.take 2 (.take 3 (.take 4 (.take 5 (.all [(6,.take 7 (.take 8 (.take 9 (.all [(10,.all [(11,.take 12 (.done))])])))),(10,.all [(6,.take 7 (.take 8 (.take 9 (.all [(11,.take 12 (.done))]))))])]))))))) ⟨by kernel_rfl,by kernel_rfl⟩ fun K hK=>?_
        have hJ:K ⟨ofL [(0,.int b),(1,.int c),(2,.int ((m:Int)+2)),(8,.al (8,0) [] 0 (j+2)),(9,.int ((j:Int)+2)),(15,.pt (15,0) [] 0),(16,.bool V.2)],ofRO [((8,0),some (.ow 2 (j+2) (rows fO l))),((15,0),some (.bx (fO V.1)))]⟩:=by
         refine hK _ ?_;clear hK K
         show AWp _ _ _ _ _
         refine wseq ?_
         refine wseq ?_
         refine wreg fun K hK=>?_
         simp [C.spec_RankTwoTerms,fO]
         refine hK _ ?_;clear hK K
         show AWp _ _ _ _ _
         refine wcond _ rfl (fun hc5=>?_) (fun hc5=>?_)
         ·have hno:¬ (P.2=true/\A.2=true/\V.2=true):=by
           rintro ⟨_,_,q⟩
           rw [q] at hc5
           simp at hc5
          have hnone:r2L b c m=none:=r2L_none (n:=j+1) (by rw [hnext,if_neg hno]) (by omega)
          refine wseq ?_
          refine wreg fun K hK=>?_
          simp [C.spec_RankTwoTerms,fO]
          refine hK _ ?_;clear hK K
          show AWp _ _ _ _ _
          refine wret ?_
          simp [C.spec_RankTwoTerms,fO,hm,hnone,rows]
         ·have hyes3:V.2=true:=by simpa using hc5
          refine wskip ?_
          show AWp _ _ _ _ _
          refine wreg fun K hK=>?_
          simp [C.spec_RankTwoTerms,fO,fO_snoc,show (j+2+1)*32<=140737488355328 by omega]
          refine hK _ ?_;clear hK K
          show AWp _ _ _ _ _
          refine wreg fun K hK=>?_
          simp [C.spec_RankTwoTerms,fO,wrapOk (x:=(j:Int)+2+1) (by omega) (by omega)]
          refine hK _ ?_;clear hK K
          simp [C.spec_RankTwoTerms,fO]
          refine cast (congrArg R1 ?_) (hR1 (j+1,l ++ [V.1]) ⟨hjm,by rw [hnext,if_pos ⟨hyes.1,hyes.2,hyes3⟩]⟩ (by dsimp only;omega))
          simp [show j+2+1=j+1+2 by omega,show (j:Int)+2+1=(j:Int)+1+2 by omega]
        clear hK
        simp [C.spec_RankTwoTerms,fO,wrap_nat (show j < 4611686018427387904 by omega),hF0,fO_0 (show j < l.length by omega),fO_1 (show j < l.length by omega),show ((j:Int) < (j:Int)+2) by omega]
        repeat' first
         | (refine wcall1 (hDc) ?_ (by simp) ?_;(focus (simp;done));simp [C.spec_RankTwoTerms,fO])
         | (refine cast (congrArg K ?_) hJ;simp [fO];done)
         | refine And.intro ?_ ?_
      clear hK
      by_cases h1:P.2=true
      ·simp [C.spec_RankTwoTerms,fO,h1]
       refine cast (congrArg K ?_) hJ
       simp [fO,h1]
      ·simp [C.spec_RankTwoTerms,fO,h1]
       refine cast (congrArg K ?_) hJ
       simp [fO,h1]
     clear hK
     simp [C.spec_RankTwoTerms,fO]
     repeat' first
      | (refine wcall1 (hone) ?_ (by simp) ?_;(focus (simp;done));simp [C.spec_RankTwoTerms,fO])
      | (refine wcall1 (hAc) ?_ (by simp) ?_;(focus (simp;done));simp [C.spec_RankTwoTerms,fO])
      | (refine cast (congrArg K ?_) hJ;simp [fO];done)
      | refine And.intro ?_ ?_
    ·refine wreg fun K hK=>?_
     simp [C.spec_RankTwoTerms,fO]
     refine hK _ ?_;clear hK K
     rw [ofL_pad]
     exact hQc3 _ ⟨c,0,.dead,by rw [if_pos];have:=hc3;rw [beq_iff_eq,Int.tmod_eq_emod_of_nonneg (by omega)] at this;omega,rfl⟩
    ·refine wskip ?_
     exact hQc3 _ ⟨b,_,_,by rw [if_neg];have:=hc3;rw [beq_eq_false_iff_ne,Int.tmod_eq_emod_of_nonneg (by omega)] at this;omega,rfl⟩
   ·have hjm:j=m:=by have:=d_f hc2;omega
    subst hjm
    refine wexit ?_
    show AWp _ _ _ _ _
    refine wseq ?_
    refine wreg fun K hK=>?_
    simp [C.spec_RankTwoTerms,fO]
    refine hK _ ?_;clear hK K
    show AWp _ _ _ _ _
    refine wret ?_
    simp [C.spec_RankTwoTerms,fO,hm,hl,hll]
 clear hK
 by_cases ha:0<=b/\b<=4
 ·by_cases hb:0<=c/\c<=4
  ·by_cases hd:2<=n/\n<=12
   ·refine opsI_seg fun L hL=>?_
    simp [C.spec_RankTwoTerms,fO,ha,hb,hd]
    refine wcall1 (spec_l1In_calls b 0 4) (by simp) (by simp) ?_
    simp [C.spec_RankTwoTerms,fO,ha,hb,hd]
    refine hL _ ?_;clear hL L
    refine opsI_seg fun L hL=>?_
    simp [C.spec_RankTwoTerms,fO,ha,hb,hd]
    refine wcall1 (spec_l1In_calls c 0 4) (by simp) (by simp) ?_
    simp [C.spec_RankTwoTerms,fO,ha,hb,hd]
    refine hL _ ?_;clear hL L
    refine opsI_seg fun L hL=>?_
    simp [C.spec_RankTwoTerms,fO,ha,hb,hd]
    refine wcall1 (spec_l1In_calls n 2 12) (by simp) (by simp) ?_
    simp [C.spec_RankTwoTerms,fO,ha,hb,hd]
    refine hL _ ?_;clear hL L
    refine opsI_end fun L hL=>?_
    simp [C.spec_RankTwoTerms,fO,ha,hb,hd]
    refine hL _ ?_;clear hL L
    simp [C.spec_RankTwoTerms,fO,ha,hb,hd]
    refine cast (congrArg K ?_) hJ
    simp [fO,ha,hb,hd]
   ·refine opsI_seg fun L hL=>?_
    simp [C.spec_RankTwoTerms,fO,ha,hb,hd]
    refine wcall1 (spec_l1In_calls b 0 4) (by simp) (by simp) ?_
    simp [C.spec_RankTwoTerms,fO,ha,hb,hd]
    refine hL _ ?_;clear hL L
    refine opsI_seg fun L hL=>?_
    simp [C.spec_RankTwoTerms,fO,ha,hb,hd]
    refine wcall1 (spec_l1In_calls c 0 4) (by simp) (by simp) ?_
    simp [C.spec_RankTwoTerms,fO,ha,hb,hd]
    refine hL _ ?_;clear hL L
    refine opsI_seg fun L hL=>?_
    simp [C.spec_RankTwoTerms,fO,ha,hb,hd]
    refine wcall1 (spec_l1In_calls n 2 12) (by simp) (by simp) ?_
    simp [C.spec_RankTwoTerms,fO,ha,hb,hd]
    refine hL _ ?_;clear hL L
    refine opsI_end fun L hL=>?_
    simp [C.spec_RankTwoTerms,fO,ha,hb,hd]
    refine hL _ ?_;clear hL L
    simp [C.spec_RankTwoTerms,fO,ha,hb,hd]
    refine cast (congrArg K ?_) hJ
    simp [fO,ha,hb,hd]
  ·refine opsI_seg fun L hL=>?_
   simp [C.spec_RankTwoTerms,fO,ha,hb]
   refine wcall1 (spec_l1In_calls b 0 4) (by simp) (by simp) ?_
   simp [C.spec_RankTwoTerms,fO,ha,hb]
   refine hL _ ?_;clear hL L
   refine opsI_seg fun L hL=>?_
   simp [C.spec_RankTwoTerms,fO,ha,hb]
   refine wcall1 (spec_l1In_calls c 0 4) (by simp) (by simp) ?_
   simp [C.spec_RankTwoTerms,fO,ha,hb]
   refine hL _ ?_;clear hL L
   refine opsI_seg fun L hL=>?_
   simp [C.spec_RankTwoTerms,fO,ha,hb]
   refine hL _ ?_;clear hL L
   refine opsI_end fun L hL=>?_
   simp [C.spec_RankTwoTerms,fO,ha,hb]
   refine hL _ ?_;clear hL L
   simp [C.spec_RankTwoTerms,fO,ha,hb]
   refine cast (congrArg K ?_) hJ
   simp [fO,ha,hb]
 ·refine opsI_seg fun L hL=>?_
  simp [C.spec_RankTwoTerms,fO,ha]
  refine wcall1 (spec_l1In_calls b 0 4) (by simp) (by simp) ?_
  simp [C.spec_RankTwoTerms,fO,ha]
  refine hL _ ?_;clear hL L
  refine opsI_seg fun L hL=>?_
  simp [C.spec_RankTwoTerms,fO,ha]
  refine hL _ ?_;clear hL L
  refine opsI_seg fun L hL=>?_
  simp [C.spec_RankTwoTerms,fO,ha]
  refine hL _ ?_;clear hL L
  refine opsI_end fun L hL=>?_
  simp [C.spec_RankTwoTerms,fO,ha]
  refine hL _ ?_;clear hL L
  simp [C.spec_RankTwoTerms,fO,ha]
  refine cast (congrArg K ?_) hJ
  simp [fO,ha]
theorem sRk_calls (b c n:Int):ACalls Try.prog F.spec_RankTwoTerms [.int b,.int c,.int n] [] true (fun outs res=>outs=[]/\res=[.one (.ow 2 (r2F b c n).1.length (rows fO (r2F b c n).1)),.one (D.bool (r2F b c n).2)]):=(spec_RankTwoTerms_calls b c n).weak1
theorem impl_RankTwoTerms_calls (b c n:Int):ACalls Try.prog F.impl_RankTwoTerms [.int b,.int c,.int n] [] true (fun outs res=>outs=[]/\WkRs res [.one (.ow 2 (r2F b c n).1.length (rows fO (r2F b c n).1)),.one (D.bool (r2F b c n).2)]):=by
 refine ACalls.of_body (C:=C.impl_RankTwoTerms) (n:=Try.f30.ntmps) tabT folT Try.func30 rfl (by kernel_rfl) rfl (Nat.le_of_ble_eq_true rfl) (by decide) (by kernel_rfl) (by kernel_rfl) rfl (by simp) (by simp) ?_
 simp only [Try.f30]
 refine wseq ?_
 refine wreg fun K hK=>?_
 simp [C.impl_RankTwoTerms,fO]
 refine hK _ ?_;clear hK K
 show AWp _ _ _ _ _
 refine wseq ?_
 refine wseq ?_
 refine wregI ([0,1] ++ ([2,3,4,5] ++ ([6,7,8,9,10] ++ ([11,12])))) rfl fun K hK=>?_
 have hJ:K ⟨ofL [(0,.int b),(1,.int c),(2,.int n),(29,.bool (!decide ((0<=b/\b<=4)/\(0<=c/\c<=4)/\2<=n/\n<=12)))],ofRO []⟩:=by
  refine hK _ ?_;clear hK K
  show AWp _ _ _ _ _
  refine wcond _ rfl (fun hc1=>?_) (fun hc1=>?_)
  ·have hr:=nd_t hc1
   have hm:r2F b c n=([],false):=if_neg hr
   refine wseq ?_
   refine wreg fun K hK=>?_
   simp [C.impl_RankTwoTerms,fO]
   refine hK _ ?_;clear hK K
   show AWp _ _ _ _ _
   refine wret ?_
   simp [C.impl_RankTwoTerms,fO,hm,rows]
  ·have hr:=nd_f hc1
   obtain ⟨m,rfl⟩:∃ m:Nat,n=(m:Int)+2:=⟨(n - 2).toNat,by omega⟩
   have hm2:m<=10:=by omega
   have hm:r2F b c ((m:Int)+2)=(match r2L b c m with | some l=>(l,true) | none=>([],false)):=by
    unfold r2F
    rw [if_pos hr,show ((m:Int)+2 - 2).toNat=m by omega]
   refine wskip ?_
   show AWp _ _ _ _ _
   refine wseq ?_
   refine wregI ([0,1] ++ ([2,3] ++ ([4,5]))) rfl fun K hK=>?_
   refine opsI_seg fun L hL=>?_
   simp [C.impl_RankTwoTerms,fO]
   refine wcall1 (iM10) (by simp) (by simp) ?_
   simp [C.impl_RankTwoTerms,fO]
   refine hL _ ?_;clear hL L
   refine opsI_seg fun L hL=>?_
   simp [C.impl_RankTwoTerms,fO]
   refine wcall1 (iM01) (by simp) (by simp) ?_
   simp [C.impl_RankTwoTerms,fO]
   refine hL _ ?_;clear hL L
   refine opsI_end fun L hL=>?_
   simp [C.impl_RankTwoTerms,fO]
   refine hL _ ?_;clear hL L
   simp [C.impl_RankTwoTerms,fO]
   refine hK _ ?_;clear hK K
   show AWp _ _ _ _ _
   refine wseq ?_
   refine wseq ?_
   refine wreg fun K hK=>?_
   simp [C.impl_RankTwoTerms,fO]
   refine hK _ ?_;clear hK K
   show AWp _ _ _ _ _
   refine wblock ?_
   refine wloop (fun x:Nat×List Lau=>⟨ofL [(0,.int b),(1,.int c),(2,.int ((m:Int)+2)),(8,.al (8,0) [] 0 (x.1+2)),(9,.int ((x.1:Int)+2))],ofRO [((8,0),some (.ow 2 (x.1+2) (rows fO x.2)))]⟩) (fun x=>x.1<=m/\r2L b c x.1=some x.2) (fun x=>m - x.1) (0,[monoF [1,0],monoF [0,1]]) (by simp [C.impl_RankTwoTerms,fO,rows]) ⟨by simp,rfl⟩ ?_
   intro x1 hx1 R1 hR1
   obtain ⟨j,l⟩:=x1
   obtain ⟨hj,hl⟩:=hx1
   dsimp only at hj hl ⊢
   obtain ⟨hll,hls⟩:=r2L_ok b c j l hl
   have hw1:IntKind.i64.wrap ((j:Int)+2 - 1)=(j:Int)+1:=by rw [wrapOk (by omega) (by omega)];omega
   have hw2:IntKind.i64.wrap ((j:Int)+2 - 2)=(j:Int):=by rw [wrapOk (by omega) (by omega)];omega
   have ht1:((j:Int)+1).toNat=j+1:=by omega
   have hF1:=getD_get (l:=l) (i:=j+1) (by omega)
   have hF0:=getD_get (l:=l) (i:=j) (by omega)
   have hs1:=(small_getD hls (j+1)).sm
   have hs0:=(small_getD hls j).sm
   refine wseq ?_
   refine wseq ?_
   refine wreg fun K hK=>?_
   simp [C.impl_RankTwoTerms,fO]
   refine hK _ ?_;clear hK K
   show AWp _ _ _ _ _
   refine wcond _ rfl (fun hc2=>?_) (fun hc2=>?_)
   ·have hjm:j < m:=by have:=d_t hc2;omega
    have hnext:r2L b c (j+1)=if (r2P b c l j).2=true/\(r2A b c l j).2=true/\(r2D b c l j).2=true then some (l ++ [(r2D b c l j).1]) else none:=by simp only [r2L,hl]
    refine wskip ?_
    show AWp _ _ _ _ _
    refine wseq ?_
    refine wblock ?_
    refine wseq ?_
    refine wreg fun K hK=>?_
    simp [C.impl_RankTwoTerms,fO]
    refine hK _ ?_;clear hK K
    show AWp _ _ _ _ _
    refine wseq ?_
    refine wseq ?_
    refine wreg fun K hK=>?_
    simp [C.impl_RankTwoTerms,fO]
    refine hK _ ?_;clear hK K
    show AWp _ _ _ _ _
    refine wcondJ (fun σ'=>∃ e t f,e=(if j % 2=1 then c else b)/\σ'=⟨ofL [(0,.int b),(1,.int c),(2,.int ((m:Int)+2)),(8,.al (8,0) [] 0 (j+2)),(9,.int ((j:Int)+2)),(10,.int e),(t,f)],ofRO [((8,0),some (.ow 2 (j+2) (rows fO l)))]⟩) _ rfl ?_ (fun hc3 Qc3 hQc3=>?_) (fun hc3 Qc3 hQc3=>?_)
    ·rintro σc3 ⟨e,tt,ff,he,rfl⟩
     obtain ⟨P,hP⟩:∃ P,P=r2P b c l j:=⟨_,rfl⟩
     have hPe:powF (l.getD (j+1) zeroF) e=P:=by rw [hP,he];rfl
     have hPc:=iPow_calls mulOk (l.getD (j+1) zeroF) e hs1.1 hs1.2
     have hPs:SmallF P.1:=hPe ▸ powF_small _ _
     rw [hPe] at hPc
     obtain ⟨A,hA⟩:∃ A,A=r2A b c l j:=⟨_,rfl⟩
     have hAe:addF P.1 1 (oneF 2)=A:=by rw [hA,hP];rfl
     have hAc:=iAdd_calls P.1 1 (oneF 2) hPs.sm.1 hPs.sm.2 one2_small.sm.1 one2_small.sm.2
     have hAs:SmallF A.1:=hAe ▸ addF_small _ _ _
     rw [hAe] at hAc
     obtain ⟨V,hV⟩:∃ V,V=r2D b c l j:=⟨_,rfl⟩
     have hDe:divF A.1 (l.getD j zeroF)=V:=by rw [hV,hA];rfl
     have hDc:=iDiv_calls doneOk A.1 (l.getD j zeroF) hAs.sm.1 hAs.sm.2 hs0.1 hs0.2
     rw [hDe] at hDc
     rw [← hP,← hA,← hV] at hnext
     clear hP hA hV he hPe hAe hDe
     have hone:=impl_ConstantLaurent_calls 2 (by omega)
     show AWp _ _ _ _ _
     refine wseq ?_
     refine wregI ([0,1,2,3,4,5,6] ++ ([7,8,9,10,11,12])) rfl fun K hK=>?_
     refine opsI_seg fun L hL=>?_
     simp [C.impl_RankTwoTerms,fO,hw1,ht1,fO_0 (show j+1 < l.length by omega),fO_1 (show j+1 < l.length by omega),hF1,show ((j:Int)+1 < (j:Int)+2) by omega,show (0<=(j:Int)+1) by omega]
     refine wcall1 (hPc) (by simp) (by simp) ?_
     simp [C.impl_RankTwoTerms,fO,hw1,ht1,fO_0 (show j+1 < l.length by omega),fO_1 (show j+1 < l.length by omega),hF1,show ((j:Int)+1 < (j:Int)+2) by omega,show (0<=(j:Int)+1) by omega]
     refine hL _ ?_;clear hL L
     refine opsI_end fun L hL=>?_
     simp [C.impl_RankTwoTerms,fO,hw1,ht1,fO_0 (show j+1 < l.length by omega),fO_1 (show j+1 < l.length by omega),hF1,show ((j:Int)+1 < (j:Int)+2) by omega,show (0<=(j:Int)+1) by omega]
     refine hL _ ?_;clear hL L
     simp [C.impl_RankTwoTerms,fO,hw1,ht1,fO_0 (show j+1 < l.length by omega),fO_1 (show j+1 < l.length by omega),hF1,show ((j:Int)+1 < (j:Int)+2) by omega,show (0<=(j:Int)+1) by omega]
     refine hK _ ?_;clear hK K
     show AWp _ _ _ _ _
     refine wseq ?_
     refine wdraw (.take 0 (.all [(1,.all [(2,.take 3 (.take 4 (.take 5 (.all [(6,.all [(7,.take 8 (.done))])])))),(6,.all [(2,.take 3 (.take 4 (.take 5 (.all [(7,.take 8 (.done))]))))])]),(6,.all [(1,.all [(2,.take 3 (.take 4 (.take 5 (.all [(7,.take 8 (.done))]))))])])])) ⟨by kernel_rfl,by kernel_rfl⟩ fun K hK=>?_
     have hJ:K ⟨ofL [(0,.int b),(1,.int c),(2,.int ((m:Int)+2)),(8,.al (8,0) [] 0 (j+2)),(9,.int ((j:Int)+2)),(12,.bool P.2),(13,.pt (13,0) [] 0),(14,.bool A.2)],ofRO [((8,0),some (.ow 2 (j+2) (rows fO l))),((13,0),some (.bx (fO A.1)))]⟩:=by
      refine hK _ ?_;clear hK K
      show AWp _ _ _ _ _
      refine wseq ?_
      refine wdraw (.take 0 (.take 1 (.take 2 (.take 3 (.take 4 (.take 5 (.all [(6,.take 7 (.take 8 (.take 9 (.all [(10,.all [(11,.take 12 (.done))])])))),(10,.all [(6,.take 7 (.take 8 (.take 9 (.all [(11,.take 12 (.done))]))))])]))))))) ⟨by kernel_rfl,by kernel_rfl⟩ fun K hK=>?_
      have hJ:K ⟨ofL [(0,.int b),(1,.int c),(2,.int ((m:Int)+2)),(8,.al (8,0) [] 0 (j+2)),(9,.int ((j:Int)+2)),(12,.bool P.2),(14,.bool A.2),(15,.pt (15,0) [] 0),(16,.bool V.2)],ofRO [((8,0),some (.ow 2 (j+2) (rows fO l))),((15,0),some (.bx (fO V.1)))]⟩:=by
       refine hK _ ?_;clear hK K
       show AWp _ _ _ _ _
       refine wseq ?_
       refine wseq ?_
       refine wreg fun K hK=>?_
       have hJ:K ⟨ofL [(0,.int b),(1,.int c),(2,.int ((m:Int)+2)),(8,.al (8,0) [] 0 (j+2)),(9,.int ((j:Int)+2)),(15,.pt (15,0) [] 0),(80,.bool (!(P.2 && (A.2 && V.2))))],ofRO [((8,0),some (.ow 2 (j+2) (rows fO l))),((15,0),some (.bx (fO V.1)))]⟩:=by
        refine hK _ ?_;clear hK K
        show AWp _ _ _ _ _
        refine wcond _ rfl (fun hc4=>?_) (fun hc4=>?_)
        ·have hno:¬ (P.2=true/\A.2=true/\V.2=true):=by
          rintro ⟨q1,q2,q3⟩
          rw [q1,q2,q3] at hc4
          simp at hc4
         have hnone:r2L b c m=none:=r2L_none (n:=j+1) (by rw [hnext,if_neg hno]) (by omega)
         refine wseq ?_
         refine wreg fun K hK=>?_
         simp [C.impl_RankTwoTerms,fO]
         refine hK _ ?_;clear hK K
         show AWp _ _ _ _ _
         refine wret ?_
         simp [C.impl_RankTwoTerms,fO,hm,hnone,rows]
        ·have hyes:P.2=true/\A.2=true/\V.2=true:=by simpa using hc4
         refine wskip ?_
         show AWp _ _ _ _ _
         refine wreg fun K hK=>?_
         simp [C.impl_RankTwoTerms,fO,fO_snoc,show (j+2+1)*32<=140737488355328 by omega]
         refine hK _ ?_;clear hK K
         show AWp _ _ _ _ _
         refine wreg fun K hK=>?_
         simp [C.impl_RankTwoTerms,fO,wrapOk (x:=(j:Int)+2+1) (by omega) (by omega)]
         refine hK _ ?_;clear hK K
         simp [C.impl_RankTwoTerms,fO]
         refine cast (congrArg R1 ?_) (hR1 (j+1,l ++ [V.1]) ⟨hjm,by rw [hnext,if_pos hyes]⟩ (by dsimp only;omega))
         simp [show j+2+1=j+1+2 by omega,show (j:Int)+2+1=(j:Int)+1+2 by omega]
       clear hK
       by_cases h1:P.2=true
       ·by_cases h2:A.2=true
        ·simp [C.impl_RankTwoTerms,fO,h1,h2]
         refine cast (congrArg K ?_) hJ
         simp [fO,h1,h2]
        ·simp [C.impl_RankTwoTerms,fO,h1,h2]
         refine cast (congrArg K ?_) hJ
         simp [fO,h1,h2]
       ·simp [C.impl_RankTwoTerms,fO,h1]
        refine cast (congrArg K ?_) hJ
        simp [fO,h1]
      clear hK
      simp [C.impl_RankTwoTerms,fO,wrap_nat (show j < 4611686018427387904 by omega),hF0,fO_0 (show j < l.length by omega),fO_1 (show j < l.length by omega),show ((j:Int) < (j:Int)+2) by omega]
      repeat' first
       | (refine wcall1 (hDc) ?_ (by simp) ?_;(focus (simp;done));simp [C.impl_RankTwoTerms,fO])
       | (refine cast (congrArg K ?_) hJ;simp [fO];done)
       | refine And.intro ?_ ?_
     clear hK
     simp [C.impl_RankTwoTerms,fO]
     repeat' first
      | (refine wcall1 (hone) ?_ (by simp) ?_;(focus (simp;done));simp [C.impl_RankTwoTerms,fO])
      | (refine wcall1 (hAc) ?_ (by simp) ?_;(focus (simp;done));simp [C.impl_RankTwoTerms,fO])
      | (refine cast (congrArg K ?_) hJ;simp [fO];done)
      | refine And.intro ?_ ?_
    ·refine wreg fun K hK=>?_
     simp [C.impl_RankTwoTerms,fO]
     refine hK _ ?_;clear hK K
     rw [ofL_pad]
     exact hQc3 _ ⟨c,0,.dead,by rw [if_pos];have:=hc3;rw [beq_iff_eq,Int.tmod_eq_emod_of_nonneg (by omega)] at this;omega,rfl⟩
    ·refine wskip ?_
     exact hQc3 _ ⟨b,_,_,by rw [if_neg];have:=hc3;rw [beq_eq_false_iff_ne,Int.tmod_eq_emod_of_nonneg (by omega)] at this;omega,rfl⟩
   ·have hjm:j=m:=by have:=d_f hc2;omega
    subst hjm
    refine wexit ?_
    show AWp _ _ _ _ _
    refine wseq ?_
    refine wreg fun K hK=>?_
    simp [C.impl_RankTwoTerms,fO]
    refine hK _ ?_;clear hK K
    show AWp _ _ _ _ _
    refine wret ?_
    simp [C.impl_RankTwoTerms,fO,hm,hl,hll]
 clear hK
 by_cases ha:0<=b/\b<=4
 ·by_cases hb:0<=c/\c<=4
  ·by_cases hd:2<=n/\n<=12
   ·refine opsI_seg fun L hL=>?_
    simp [C.impl_RankTwoTerms,fO,ha,hb,hd]
    refine wcall1 (impl_within_calls b 0 4) (by simp) (by simp) ?_
    simp [C.impl_RankTwoTerms,fO,ha,hb,hd]
    refine hL _ ?_;clear hL L
    refine opsI_seg fun L hL=>?_
    simp [C.impl_RankTwoTerms,fO,ha,hb,hd]
    refine wcall1 (impl_within_calls c 0 4) (by simp) (by simp) ?_
    simp [C.impl_RankTwoTerms,fO,ha,hb,hd]
    refine hL _ ?_;clear hL L
    refine opsI_seg fun L hL=>?_
    simp [C.impl_RankTwoTerms,fO,ha,hb,hd]
    refine wcall1 (impl_within_calls n 2 12) (by simp) (by simp) ?_
    simp [C.impl_RankTwoTerms,fO,ha,hb,hd]
    refine hL _ ?_;clear hL L
    refine opsI_end fun L hL=>?_
    simp [C.impl_RankTwoTerms,fO,ha,hb,hd]
    refine hL _ ?_;clear hL L
    simp [C.impl_RankTwoTerms,fO,ha,hb,hd]
    refine cast (congrArg K ?_) hJ
    simp [fO,ha,hb,hd]
   ·refine opsI_seg fun L hL=>?_
    simp [C.impl_RankTwoTerms,fO,ha,hb,hd]
    refine wcall1 (impl_within_calls b 0 4) (by simp) (by simp) ?_
    simp [C.impl_RankTwoTerms,fO,ha,hb,hd]
    refine hL _ ?_;clear hL L
    refine opsI_seg fun L hL=>?_
    simp [C.impl_RankTwoTerms,fO,ha,hb,hd]
    refine wcall1 (impl_within_calls c 0 4) (by simp) (by simp) ?_
    simp [C.impl_RankTwoTerms,fO,ha,hb,hd]
    refine hL _ ?_;clear hL L
    refine opsI_seg fun L hL=>?_
    simp [C.impl_RankTwoTerms,fO,ha,hb,hd]
    refine wcall1 (impl_within_calls n 2 12) (by simp) (by simp) ?_
    simp [C.impl_RankTwoTerms,fO,ha,hb,hd]
    refine hL _ ?_;clear hL L
    refine opsI_end fun L hL=>?_
    simp [C.impl_RankTwoTerms,fO,ha,hb,hd]
    refine hL _ ?_;clear hL L
    simp [C.impl_RankTwoTerms,fO,ha,hb,hd]
    refine cast (congrArg K ?_) hJ
    simp [fO,ha,hb,hd]
  ·refine opsI_seg fun L hL=>?_
   simp [C.impl_RankTwoTerms,fO,ha,hb]
   refine wcall1 (impl_within_calls b 0 4) (by simp) (by simp) ?_
   simp [C.impl_RankTwoTerms,fO,ha,hb]
   refine hL _ ?_;clear hL L
   refine opsI_seg fun L hL=>?_
   simp [C.impl_RankTwoTerms,fO,ha,hb]
   refine wcall1 (impl_within_calls c 0 4) (by simp) (by simp) ?_
   simp [C.impl_RankTwoTerms,fO,ha,hb]
   refine hL _ ?_;clear hL L
   refine opsI_seg fun L hL=>?_
   simp [C.impl_RankTwoTerms,fO,ha,hb]
   refine hL _ ?_;clear hL L
   refine opsI_end fun L hL=>?_
   simp [C.impl_RankTwoTerms,fO,ha,hb]
   refine hL _ ?_;clear hL L
   simp [C.impl_RankTwoTerms,fO,ha,hb]
   refine cast (congrArg K ?_) hJ
   simp [fO,ha,hb]
 ·refine opsI_seg fun L hL=>?_
  simp [C.impl_RankTwoTerms,fO,ha]
  refine wcall1 (impl_within_calls b 0 4) (by simp) (by simp) ?_
  simp [C.impl_RankTwoTerms,fO,ha]
  refine hL _ ?_;clear hL L
  refine opsI_seg fun L hL=>?_
  simp [C.impl_RankTwoTerms,fO,ha]
  refine hL _ ?_;clear hL L
  refine opsI_seg fun L hL=>?_
  simp [C.impl_RankTwoTerms,fO,ha]
  refine hL _ ?_;clear hL L
  refine opsI_end fun L hL=>?_
  simp [C.impl_RankTwoTerms,fO,ha]
  refine hL _ ?_;clear hL L
  simp [C.impl_RankTwoTerms,fO,ha]
  refine cast (congrArg K ?_) hJ
  simp [fO,ha]
theorem iRk_calls (b c n:Int):ACalls Try.prog F.impl_RankTwoTerms [.int b,.int c,.int n] [] true (fun outs res=>outs=[]/\res=[.one (.ow 2 (r2F b c n).1.length (rows fO (r2F b c n).1)),.one (D.bool (r2F b c n).2)]):=(impl_RankTwoTerms_calls b c n).weak1
end Go.Proofs.Ytbhkonnakkhibaa.Ab
namespace Go.Proofs.Ytbhkonnakkhibaa.Ab
open Go
theorem itM_snoc (f:Lau):∀ (n:Nat) (p:Lau),itM f (n+1) p=match itM f n p with | some g=>if (mulF g f).2=true then some (mulF g f).1 else none | none=>none
 | 0,p=>by simp [itM]
 | n+1,p=>by
  rw [show itM f (n+1+1) p=(if (mulF p f).2=true then itM f (n+1) (mulF p f).1 else none) from rfl,show itM f (n+1) p=(if (mulF p f).2=true then itM f n (mulF p f).1 else none) from rfl]
  by_cases h:(mulF p f).2=true
  ·rw [if_pos h,if_pos h];exact itM_snoc f n _
  ·rw [if_neg h,if_neg h]
theorem powL_it (f:Lau):∀ n,powL f n=itM f n (oneF f.v.toNat)
 | 0=>rfl
 | n+1=>by rw [itM_snoc,← powL_it f n];rfl
def sumC (f:Lau):Int:=vl (fun _=>1) (f.ts.map pr)
theorem sumC_one (n:Nat):sumC (oneF n)=1:=by simp [sumC,oneF,vl,pr]
theorem sumC_ne {f:Lau} (h:sumC f≠0):f.ts≠[]:=fun e=>h (by simp [sumC,e,vl])
theorem mulF_ts {f g P:Lau} (h:mulF f g=(P,true)):(Right f/\Right g/\f.v=g.v)/\Right P/\P=⟨f.v,(nf lexlt (prodL (f.ts.map pr) (g.ts.map pr))).map tm⟩:=by
 unfold mulF at h
 split at h
 ·rename_i q
  unfold shutF at h
  split at h
  ·rename_i q2
   injection h with h1 h2
   exact ⟨q,h1 ▸ q2,h1.symm⟩
  ·simp at h
 ·simp at h
theorem addF_ts {f g P:Lau} {k:Int} (h:addF f k g=(P,true)):(Right f/\Right g/\f.v=g.v)/\Right P/\P=⟨f.v,(nf lexlt (f.ts.map pr ++ g.ts.map (prk k))).map tm⟩:=by
 unfold addF at h
 split at h
 ·rename_i q
  unfold shutF at h
  split at h
  ·rename_i q2
   injection h with h1 h2
   exact ⟨q.1,h1 ▸ q2,h1.symm⟩
  ·simp at h
 ·simp at h
theorem mulF_val {f g P:Lau} (h:mulF f g=(P,true)):sumC P=sumC f*sumC g:=by
 obtain ⟨_,_,rfl⟩:=mulF_ts h
 simp only [sumC]
 rw [pr_tm,vl_nf,prodL_eq,vl_prodK]
 have e:(fun e:List Int=>vl (fun e':List Int=>(fun _:List Int=>(1:Int)) (addE 1 e e')) (g.ts.map pr))=fun e:List Int=>vl (fun _:List Int=>1) (g.ts.map pr)*(fun _:List Int=>(1:Int)) e:=by
  funext e
  simp
 rw [e,vl_mul,Int.mul_comm]
theorem addF_val {f g P:Lau} {k:Int} (h:addF f k g=(P,true)):sumC P=sumC f+k*sumC g:=by
 obtain ⟨_,_,rfl⟩:=addF_ts h
 simp only [sumC]
 rw [pr_tm,vl_nf,vl_app,vl_prk]
theorem itM_val {f:Lau} (hf:0 < sumC f):∀ {n:Nat} {p a:Lau},itM f n p=some a->0 < sumC p->0 < sumC a
 | 0,p,a,h,hp=>by
  simp only [itM,Option.some.injEq] at h
  exact h ▸ hp
 | n+1,p,a,h,hp=>by
  simp only [itM] at h
  split at h
  ·rename_i q
   obtain ⟨P,hP⟩:∃ P,mulF p f=(P,true):=⟨(mulF p f).1,by rw [← q]⟩
   rw [hP] at h
   refine itM_val hf h ?_
   show 0 < sumC P
   rw [mulF_val hP]
   exact Int.mul_pos hp hf
  ·simp at h
theorem divF_val {S g x:Lau} (h:divF S g=(x,true)) (hS:0 < sumC S) (hg:0 < sumC g):0 < sumC x:=by
 obtain ⟨_,_,h3⟩:=mul_div h
 have e:=mulF_val h3
 by_cases q:0 < sumC x
 ·exact q
 ·have:sumC x*sumC g<=0:=Int.mul_nonpos_of_nonpos_of_nonneg (by omega) (by omega)
  omega
def goodB (v:Int) (t:Trm):Bool:=decide ((t.e.length:Int)=v/\t.c≠0/\(-1000000<=t.c/\t.c<=1000000)/\∀ x∈t.e,-20<=x/\x<=20)
def descB:List Trm->Bool
 | a :: b :: l=>lexlt b.e a.e && descB (b :: l)
 | _=>true
theorem descB_ok:∀ {l:List Trm},descB l=true->DescT l
 | [],_=>List.Pairwise.nil
 | [a],_=>List.pairwise_singleton _ _
 | a :: b :: l,h=>by
  simp only [descB,Bool.and_eq_true] at h
  have h2:=descB_ok (l:=b :: l) h.2
  refine List.Pairwise.cons (fun x hx=>?_) h2
  rcases List.mem_cons.1 hx with rfl | hx
  ·exact h.1
  ·exact lexlt_tr _ _ _ ((List.pairwise_cons.1 h2).1 x hx) h.1
def rightB (f:Lau):Bool:=decide (1<=f.v/\f.v<=8) && decide (f.ts.length<=600) && f.ts.all (goodB f.v) && descB f.ts
theorem rightB_ok {f:Lau} (h:rightB f=true):Right f:=by
 simp only [rightB,Bool.and_eq_true,decide_eq_true_eq,List.all_eq_true] at h
 exact ⟨h.1.1.1,h.1.1.2,fun t ht=>by have:=h.1.2 t ht;simp only [goodB,decide_eq_true_eq] at this;exact this,descB_ok h.2⟩
def mulC (f g:Lau):Lau:=⟨f.v,(nf lexlt (prodL (f.ts.map pr) (g.ts.map pr))).map tm⟩
def addC (f g:Lau):Lau:=⟨f.v,(nf lexlt (f.ts.map pr ++ g.ts.map (prk 1))).map tm⟩
def mulB (f g:Lau):Bool:=rightB f && rightB g && decide (f.v=g.v) && rightB (mulC f g)
theorem mulB_ok {f g:Lau} (h:mulB f g=true):mulF f g=(mulC f g,true):=by
 simp only [mulB,Bool.and_eq_true,decide_eq_true_eq] at h
 unfold mulF
 rw [if_pos ⟨rightB_ok h.1.1.1,rightB_ok h.1.1.2,h.1.2⟩]
 exact if_pos (rightB_ok h.2)
def addB (f g:Lau):Bool:=rightB f && rightB g && decide (f.v=g.v) && rightB (addC f g)
theorem addB_ok {f g:Lau} (h:addB f g=true):addF f 1 g=(addC f g,true):=by
 simp only [addB,Bool.and_eq_true,decide_eq_true_eq] at h
 unfold addF
 rw [if_pos ⟨⟨rightB_ok h.1.1.1,rightB_ok h.1.1.2,h.1.2⟩,by omega⟩]
 exact if_pos (rightB_ok h.2)
def divB (S g x:Lau):Bool:=mulB x g && decide (g.ts≠[]) && decide (mulC x g=S)
theorem divB_ok {S g x:Lau} (h:divB S g x=true):divF S g=(x,true):=by
 simp only [divB,Bool.and_eq_true,decide_eq_true_eq] at h
 have h1:=mulB_ok h.1.1
 have h2:=h.1.1
 simp only [mulB,Bool.and_eq_true,decide_eq_true_eq] at h2
 exact div_mul (rightB_ok h2.1.1.1) (rightB_ok h2.1.1.2) h2.1.2 h.1.2 (by rw [h1,h.2])
def powC (f:Lau):Nat->Option Lau
 | 0=>some (oneF f.v.toNat)
 | n+1=>match powC f n with
  | some g=>if mulB g f=true then some (mulC g f) else none
  | none=>none
theorem powC_ok {f:Lau}:∀ {n:Nat} {g:Lau},powC f n=some g->powL f n=some g
 | 0,g,h=>h
 | n+1,g,h=>by
  simp only [powC] at h
  split at h
  ·rename_i g' hg
   split at h
   ·rename_i hm
    simp only [powL,powC_ok hg,mulB_ok hm]
    simpa using h
   ·simp at h
  ·simp at h
end Go.Proofs.Ytbhkonnakkhibaa.Ab
namespace Go.Proofs.Ytbhkonnakkhibaa.Ab
open Go
def expO (b c:Int) (k:Nat):Int:=if k % 2=1 then c else b
structure R2St (b c:Int) (l:List Lau) (k:Nat):Prop where
 st:∃ P S,powF (l.getD (k - 1) zeroF) (expO b c k)=(P,true)/\addF P 1 (oneF 2)=(S,true)/\divF S (l.getD (k - 2) zeroF)=(l.getD k zeroF,true)
def VarP (f:Lau):Prop:=VarOk 2 f/\0 < sumC f
theorem powF_ok {f P:Lau} {e:Int} (h:powF f e=(P,true)):Right f/\(0<=e/\e<=8)/\itM f e.toNat (oneF f.v.toNat)=some P:=by
 unfold powF at h
 split at h
 ·rename_i q
  split at h
  ·rename_i g hg
   obtain rfl:g=P:=by injection h
   exact ⟨q.1,q.2,by rw [← powL_it];exact hg⟩
  ·simp at h
 ·simp at h
theorem varP_step {b c:Int} {l:List Lau} {k:Nat} (h:R2St b c l k) (h1:VarP (l.getD (k - 1) zeroF)) (h2:VarP (l.getD (k - 2) zeroF)):VarP (l.getD k zeroF):=by
 obtain ⟨P,S,hP,hS,hD⟩:=h.st
 obtain ⟨p1,p2,p3⟩:=powF_ok hP
 have h3:0 < sumC P:=itM_val h1.2 p3 (by rw [sumC_one];omega)
 have h4:0 < sumC S:=by rw [addF_val hS,sumC_one];omega
 have h5:=divF_val hD h4 h2.2
 obtain ⟨_,g2,g3⟩:=mul_div hD
 have g4:=(mulF_ts g3).1.2.2
 exact ⟨⟨g2,sumC_ne (by omega),g4.trans h2.1.2.2⟩,h5⟩
theorem getD_snoc {l:List Lau} (x:Lau) {i:Nat} (h:i < l.length):(l ++ [x]).getD i zeroF=l.getD i zeroF:=by simp [List.getD_eq_getElem?_getD,List.getElem?_append_left h]
theorem getD_last {l:List Lau} (x:Lau):(l ++ [x]).getD l.length zeroF=x:=by simp [List.getD_eq_getElem?_getD]
theorem mono2_varP {e:List Int} (hl:e.length=2) (he:okE e e.length=true):VarP (monoF e):=by
 have hr:Right ⟨e.length,[⟨e,1⟩]⟩:=mono_right.2 ⟨by omega,he⟩
 unfold monoF
 rw [if_pos hr]
 exact ⟨⟨hr,by simp,by simp [hl]⟩,by simp [sumC,vl,pr]⟩
theorem r2L_inv (b c:Int):∀ (m:Nat) (l:List Lau),r2L b c m=some l->l.length=m+2/\(l.getD 0 zeroF=monoF [1,0]/\l.getD 1 zeroF=monoF [0,1])/\(∀ k,k < m+2->VarP (l.getD k zeroF))/\∀ k,2<=k->k < m+2->R2St b c l k
 | 0,l,h=>by
  simp only [r2L,Option.some.injEq] at h
  subst h
  refine ⟨rfl,⟨rfl,rfl⟩,fun k hk=>?_,fun k h1 h2=>absurd h2 (by omega)⟩
  rcases (show k=0\/k=1 by omega) with rfl | rfl
  ·exact mono2_varP rfl (by decide)
  ·exact mono2_varP rfl (by decide)
 | m+1,l,h=>by
  simp only [r2L] at h
  split at h
  ·rename_i l' hl
   obtain ⟨h1,h2,h3,h4⟩:=r2L_inv b c m l' hl
   split at h
   ·rename_i q
    injection h with h
    subst h
    obtain ⟨x,hx⟩:∃ x,r2D b c l' m=(x,true):=⟨_,by rw [← q.2.2]⟩
    rw [hx]
    dsimp only
    have e1:∀ i,i < m+2->(l' ++ [x]).getD i zeroF=l'.getD i zeroF:=fun i hi=>getD_snoc x (by omega)
    have e2:(l' ++ [x]).getD (m+2) zeroF=x:=by rw [← h1];exact getD_last x
    have hst:R2St b c (l' ++ [x]) (m+2):=by
     refine ⟨(r2P b c l' m).1,(r2A b c l' m).1,?_,?_,?_⟩
     ·rw [show m+2 - 1=m+1 by omega,e1 _ (by omega)]
      have:expO b c (m+2)=if m % 2=1 then c else b:=by
       unfold expO
       rw [show (m+2) % 2=m % 2 by omega]
      rw [this,← q.1]
      rfl
     ·rw [← q.2.1];rfl
     ·rw [show m+2 - 2=m by omega,e1 _ (by omega),e2,← hx]
      rfl
    have hold:∀ k,2<=k->k < m+2->R2St b c (l' ++ [x]) k:=fun k g1 g2=>by
     obtain ⟨P,S,a1,a2,a3⟩:=(h4 k g1 g2).st
     exact ⟨P,S,by rw [e1 _ (by omega)];exact a1,a2,by rw [e1 _ (by omega),e1 _ (by omega)];exact a3⟩
    refine ⟨by simp [h1],⟨by rw [e1 _ (by omega)];exact h2.1,by rw [e1 _ (by omega)];exact h2.2⟩,fun k hk=>?_,fun k g1 g2=>?_⟩
    ·by_cases g:k < m+2
     ·rw [e1 _ g];exact h3 k g
     ·obtain rfl:k=m+2:=by omega
      refine varP_step hst ?_ ?_
      ·rw [e1 _ (by omega)];exact h3 _ (by omega)
      ·rw [e1 _ (by omega)];exact h3 _ (by omega)
    ·by_cases g:k < m+2
     ·exact hold k g1 g
     ·obtain rfl:k=m+2:=by omega
      exact hst
   ·simp at h
  ·simp at h
def mat2 (x y:Int):Mat:=⟨2,2,[0,x,-y,0]⟩
theorem mat2_sh {x y:Int} (hx:-99<=x/\x<=99) (hy:-99<=y/\y<=99):ShM (mat2 x y):=by
 refine ⟨by simp [mat2],by simp [mat2],by simp [mat2],fun z hz=>?_⟩
 simp only [mat2,List.mem_cons,List.not_mem_nil,or_false] at hz
 omega
theorem mat2_ok {x y:Int} (hx:-99<=x/\x<=99) (hy:-99<=y/\y<=99) (hs:0 < x/\0 < y\/x < 0/\y < 0\/x=0/\y=0):MatOK (mat2 x y):=by
 refine ⟨mat2_sh hx hy,fun i=>if x=0 then 1 else if i=0 then (y.natAbs:Int) else (x.natAbs:Int),⟨fun i hi=>?_,fun i j hi hj=>?_⟩⟩
 ·try dsimp only
  split
  ·omega
  ·split <;> omega
 ·have e:(mat2 x y).n.toNat=2:=rfl
  rw [e] at hi hj
  have b00:bM (mat2 x y) 0 0=0:=rfl
  have b01:bM (mat2 x y) 0 1=x:=rfl
  have b10:bM (mat2 x y) 1 0=-y:=rfl
  have b11:bM (mat2 x y) 1 1=0:=rfl
  rcases (show i=0\/i=1 by omega) with rfl | rfl <;> rcases (show j=0\/j=1 by omega) with rfl | rfl
  ·rw [b00];simp
  ·rw [b01,b10]
   rcases hs with hs | hs | hs
   ·rw [if_neg (by omega),if_pos rfl,if_neg (by omega),if_neg (by omega),show (y.natAbs:Int)=y by omega,show (x.natAbs:Int)=x by omega];grind
   ·rw [if_neg (by omega),if_pos rfl,if_neg (by omega),if_neg (by omega),show (y.natAbs:Int)=-y by omega,show (x.natAbs:Int)=-x by omega];grind
   ·simp [hs.1,hs.2]
  ·rw [b01,b10]
   rcases hs with hs | hs | hs
   ·rw [if_neg (by omega),if_neg (by omega),if_neg (by omega),if_pos rfl,show (y.natAbs:Int)=y by omega,show (x.natAbs:Int)=x by omega];grind
   ·rw [if_neg (by omega),if_neg (by omega),if_neg (by omega),if_pos rfl,show (y.natAbs:Int)=-y by omega,show (x.natAbs:Int)=-x by omega];grind
   ·simp [hs.1,hs.2]
  ·rw [b11];simp
theorem mat2_mu {x y:Int} (hs:0 < x/\0 < y\/x < 0/\y < 0\/x=0/\y=0) {k:Nat} (hk:k=0\/k=1):muM (mat2 x y) k=mat2 (-x) (-y):=by
 have b00:bM (mat2 x y) 0 0=0:=rfl
 have b01:bM (mat2 x y) 0 1=x:=rfl
 have b10:bM (mat2 x y) 1 0=-y:=rfl
 have b11:bM (mat2 x y) 1 1=0:=rfl
 have e:muD (mat2 x y) k=[muE (bM (mat2 x y)) k 0 0,muE (bM (mat2 x y)) k 0 1,muE (bM (mat2 x y)) k 1 0,muE (bM (mat2 x y)) k 1 1]:=by
  have e0:muD (mat2 x y) k=(List.range 4).map fun q=>muE (bM (mat2 x y)) k (q / 2) (q % 2):=rfl
  rw [e0]
  simp [List.range_succ]
 have m00:muE (bM (mat2 x y)) k 0 0=0:=by
  rcases hk with rfl | rfl
  ·simp [muE,b00]
  ·simp only [muE,b00,b01,b10]
   rw [if_neg (by omega),if_neg (by omega),if_neg (by omega)]
 have m11:muE (bM (mat2 x y)) k 1 1=0:=by
  rcases hk with rfl | rfl
  ·simp only [muE,b11,b01,b10]
   rw [if_neg (by omega),if_neg (by omega),if_neg (by omega)]
  ·simp [muE,b11]
 have m01:muE (bM (mat2 x y)) k 0 1=-x:=by
  rcases hk with rfl | rfl <;> simp [muE,b01]
 have m10:muE (bM (mat2 x y)) k 1 0=- -y:=by
  rcases hk with rfl | rfl <;> simp [muE,b10]
 unfold muM
 rw [e,m00,m01,m10,m11]
 rfl
noncomputable def r2S (b c:Int) (l:List Lau) (k:Nat):Sed:=if k % 2=0 then ⟨mat2 c b,[l.getD (k - 2) zeroF,l.getD (k - 1) zeroF]⟩ else ⟨mat2 (-c) (-b),[l.getD (k - 1) zeroF,l.getD (k - 2) zeroF]⟩
theorem exF_two {cs:List Int} {fs:List Lau} {r:Nat} {old P S x:Lau} (hc:∀ c∈cs,-8<=c/\c<=8) (h1:prodE 1 fs cs (oneF r)=some (oneF r)) (h2:prodE (-1) fs cs (oneF r)=some P) (hv:P.v=r) (hS:addF P 1 (oneF r)=(S,true)) (hD:divF S old=(x,true)):exF fs cs r old=(x,true):=by
 rw [exF_some hc h1 h2,addF_com _ _ (by rw [hv];rfl),hS]
 simpa using hD
theorem r2_mut {b c:Int} (hb:0<=b/\b<=4) (hc:0<=c/\c<=4) (hbc:b=0↔c=0) {l:List Lau} {k:Nat} (hk:2<=k) (h1:VarP (l.getD (k - 1) zeroF)) (h2:VarP (l.getD (k - 2) zeroF)) (hst:R2St b c l k):seedF (r2S b c l k) ((k % 2:Nat):Int)=(r2S b c l (k+1),true):=by
 obtain ⟨P,S,hP,hS,hD⟩:=hst.st
 obtain ⟨p1,p2,p3⟩:=powF_ok hP
 have hv1:(l.getD (k - 1) zeroF).v=2:=h1.1.2.2
 rw [hv1] at p3
 have hone:Right (oneF 2):=oneF_right (by omega)
 have hPv:P.v=2:=(itM_v p3 hone).2
 have hs:0 < c/\0 < b\/c < 0/\b < 0\/c=0/\b=0:=by omega
 have hs':0 < -c/\0 < -b\/-c < 0/\-b < 0\/-c=0/\-b=0:=by omega
 rcases (show k % 2=0\/k % 2=1 by omega) with e | e
 ·have e1:r2S b c l k=⟨mat2 c b,[l.getD (k - 2) zeroF,l.getD (k - 1) zeroF]⟩:=if_pos e
  have e2:r2S b c l (k+1)=⟨mat2 (-c) (-b),[l.getD k zeroF,l.getD (k - 1) zeroF]⟩:=by
   unfold r2S
   rw [if_neg (by omega),show k+1 - 1=k by omega,show k+1 - 2=k - 1 by omega]
  have ex:expO b c k=b:=by unfold expO;rw [if_neg (by omega)]
  rw [ex] at p3
  have hcol:colM (mat2 c b) 2 0=[0,-b]:=rfl
  have hex:exF [l.getD (k - 2) zeroF,l.getD (k - 1) zeroF] [0,-b] 2 (l.getD (k - 2) zeroF)=(l.getD k zeroF,true):=by
   refine exF_two (P:=P) (S:=S) (fun z hz=>?_) ?_ ?_ hPv hS hD
   ·simp only [List.mem_cons,List.not_mem_nil,or_false] at hz
    omega
   ·have e0:(-b:Int).toNat=0:=by omega
    simp [prodE,itM,e0]
   ·have e0:(-1 * -b:Int).toNat=b.toNat:=by omega
    simp only [prodE,e0]
    simpa [itM] using p3
  have hok:SeedOK ⟨mat2 c b,[l.getD (k - 2) zeroF,l.getD (k - 1) zeroF]⟩:=by
   refine ⟨mat2_ok (by omega) (by omega) hs,rfl,fun f hf=>?_⟩
   simp only [List.mem_cons,List.not_mem_nil,or_false] at hf
   rcases hf with rfl | rfl
   ·exact h2.1
   ·exact h1.1
  have hmu:muF (mat2 c b) 0=(mat2 (-c) (-b),true):=by
   unfold muF
   rw [show (0:Int).toNat=0 from rfl,mat2_mu hs (.inl rfl),if_pos ⟨hok.1,by simp [mat2],mat2_ok (by omega) (by omega) hs'⟩]
  rw [e,e1,e2]
  unfold seedF
  have hg:exF [l.getD (k - 2) zeroF,l.getD (k - 1) zeroF] (colM (mat2 c b) (mat2 c b).r.toNat (((0:Nat):Int).toNat)) (mat2 c b).r.toNat ([l.getD (k - 2) zeroF,l.getD (k - 1) zeroF].getD (((0:Nat):Int).toNat) zeroF)=(l.getD k zeroF,true):=hex
  have hmu2:muF (mat2 c b) ((0:Nat):Int)=(mat2 (-c) (-b),true):=hmu
  dsimp only
  rw [hg,hmu2,if_pos ⟨hok,⟨by simp,by simp [mat2]⟩,rfl,rfl⟩]
  rfl
 ·have e1:r2S b c l k=⟨mat2 (-c) (-b),[l.getD (k - 1) zeroF,l.getD (k - 2) zeroF]⟩:=if_neg (by omega)
  have e2:r2S b c l (k+1)=⟨mat2 c b,[l.getD (k - 1) zeroF,l.getD k zeroF]⟩:=by
   unfold r2S
   rw [if_pos (by omega),show k+1 - 1=k by omega,show k+1 - 2=k - 1 by omega]
  have ex:expO b c k=c:=by unfold expO;rw [if_pos e]
  rw [ex] at p3
  have hex:exF [l.getD (k - 1) zeroF,l.getD (k - 2) zeroF] [-c,0] 2 (l.getD (k - 2) zeroF)=(l.getD k zeroF,true):=by
   refine exF_two (P:=P) (S:=S) (fun z hz=>?_) ?_ ?_ hPv hS hD
   ·simp only [List.mem_cons,List.not_mem_nil,or_false] at hz
    omega
   ·have e0:(-c:Int).toNat=0:=by omega
    simp [prodE,itM,e0]
   ·have e0:(-1 * -c:Int).toNat=c.toNat:=by omega
    simp only [prodE,e0]
    have:itM (l.getD (k - 1) zeroF) c.toNat (oneF 2)=some P:=p3
    rw [this]
    simp [itM]
  have hok:SeedOK ⟨mat2 (-c) (-b),[l.getD (k - 1) zeroF,l.getD (k - 2) zeroF]⟩:=by
   refine ⟨mat2_ok (by omega) (by omega) hs',rfl,fun f hf=>?_⟩
   simp only [List.mem_cons,List.not_mem_nil,or_false] at hf
   rcases hf with rfl | rfl
   ·exact h1.1
   ·exact h2.1
  have hmu:muF (mat2 (-c) (-b)) 1=(mat2 c b,true):=by
   unfold muF
   rw [show (1:Int).toNat=1 from rfl,mat2_mu hs' (.inr rfl),Int.neg_neg,Int.neg_neg,if_pos ⟨hok.1,by simp [mat2],mat2_ok (by omega) (by omega) hs⟩]
  rw [e,e1,e2]
  unfold seedF
  have hg:exF [l.getD (k - 1) zeroF,l.getD (k - 2) zeroF] (colM (mat2 (-c) (-b)) (mat2 (-c) (-b)).r.toNat (((1:Nat):Int).toNat)) (mat2 (-c) (-b)).r.toNat ([l.getD (k - 1) zeroF,l.getD (k - 2) zeroF].getD (((1:Nat):Int).toNat) zeroF)=(l.getD k zeroF,true):=hex
  have hmu2:muF (mat2 (-c) (-b)) ((1:Nat):Int)=(mat2 c b,true):=hmu
  dsimp only
  rw [hg,hmu2,if_pos ⟨hok,⟨by simp,by simp [mat2]⟩,rfl,rfl⟩]
  rfl
def chkR (b c:Int) (L:List Lau):Nat->Bool
 | 0=>decide (L.getD 0 zeroF=⟨2,[⟨[1,0],1⟩]⟩) && decide (L.getD 1 zeroF=⟨2,[⟨[0,1],1⟩]⟩)
 | m+1=>chkR b c L m && (match powC (L.getD (m+1) zeroF) (if m % 2=1 then c else b).toNat with
  | some P=>rightB (L.getD (m+1) zeroF) && addB P (oneF 2) && divB (addC P (oneF 2)) (L.getD m zeroF) (L.getD (m+2) zeroF)
  | none=>false)
theorem chkR_ok {b c:Int} (hb:0<=b/\b<=4) (hc:0<=c/\c<=4) {L:List Lau}:∀ {m:Nat},m+2<=L.length->chkR b c L m=true->r2L b c m=some (L.take (m+2))
 | 0,hl,h=>by
  simp only [chkR,Bool.and_eq_true,decide_eq_true_eq] at h
  have e1:monoF [1,0]=⟨2,[⟨[1,0],1⟩]⟩:=if_pos (mono_right.2 ⟨by simp,by decide⟩)
  have e2:monoF [0,1]=⟨2,[⟨[0,1],1⟩]⟩:=if_pos (mono_right.2 ⟨by simp,by decide⟩)
  match L,hl with
  | x :: y :: l,_=>
   obtain ⟨h1,h2⟩:=h
   simp only [List.getD_cons_zero,List.getD_cons_succ] at h1 h2
   simp [r2L,e1,e2,h1,h2]
 | m+1,hl,h=>by
  simp only [chkR,Bool.and_eq_true] at h
  obtain ⟨h1,h2⟩:=h
  have ih:=chkR_ok hb hc (by omega) h1
  split at h2
  ·rename_i P hP
   simp only [Bool.and_eq_true] at h2
   have g0:∀ i,i < m+2->(L.take (m+2)).getD i zeroF=L.getD i zeroF:=fun i hi=>by simp [List.getD_eq_getElem?_getD,List.getElem?_take,hi]
   have g1:r2P b c (L.take (m+2)) m=(P,true):=by
    unfold r2P powF
    rw [g0 _ (by omega),if_pos ⟨rightB_ok h2.1.1,by split <;> omega⟩,powC_ok hP]
   have g2:r2A b c (L.take (m+2)) m=(addC P (oneF 2),true):=by
    unfold r2A
    rw [g1]
    exact addB_ok h2.1.2
   have g3:r2D b c (L.take (m+2)) m=(L.getD (m+2) zeroF,true):=by
    unfold r2D
    rw [g2,g0 _ (by omega)]
    exact divB_ok h2.2
   simp only [r2L,ih]
   rw [g1,g2,g3,if_pos ⟨rfl,rfl,rfl⟩]
   congr 1
   rw [List.take_succ_eq_append_getElem (show m+2 < L.length by omega)]
   simp [List.getD_eq_getElem?_getD,show m+2 < L.length by omega]
  ·simp at h2
def r2l00:List Lau:=[⟨2,[⟨[1,0],1⟩]⟩,
 ⟨2,[⟨[0,1],1⟩]⟩,
 ⟨2,[⟨[-1,0],2⟩]⟩,
 ⟨2,[⟨[0,-1],2⟩]⟩,
 ⟨2,[⟨[1,0],1⟩]⟩,
 ⟨2,[⟨[0,1],1⟩]⟩,
 ⟨2,[⟨[-1,0],2⟩]⟩,
 ⟨2,[⟨[0,-1],2⟩]⟩,
 ⟨2,[⟨[1,0],1⟩]⟩,
 ⟨2,[⟨[0,1],1⟩]⟩]
theorem r2c00:chkR 0 0 r2l00 8=true:=by kernel_rfl
def r2l11:List Lau:=[⟨2,[⟨[1,0],1⟩]⟩,
 ⟨2,[⟨[0,1],1⟩]⟩,
 ⟨2,[⟨[-1,1],1⟩,⟨[-1,0],1⟩]⟩,
 ⟨2,[⟨[0,-1],1⟩,⟨[-1,0],1⟩,⟨[-1,-1],1⟩]⟩,
 ⟨2,[⟨[1,-1],1⟩,⟨[0,-1],1⟩]⟩,
 ⟨2,[⟨[1,0],1⟩]⟩,
 ⟨2,[⟨[0,1],1⟩]⟩,
 ⟨2,[⟨[-1,1],1⟩,⟨[-1,0],1⟩]⟩,
 ⟨2,[⟨[0,-1],1⟩,⟨[-1,0],1⟩,⟨[-1,-1],1⟩]⟩,
 ⟨2,[⟨[1,-1],1⟩,⟨[0,-1],1⟩]⟩]
theorem r2c11:chkR 1 1 r2l11 8=true:=by kernel_rfl
def r2l12:List Lau:=[⟨2,[⟨[1,0],1⟩]⟩,
 ⟨2,[⟨[0,1],1⟩]⟩,
 ⟨2,[⟨[-1,1],1⟩,⟨[-1,0],1⟩]⟩,
 ⟨2,[⟨[0,-1],1⟩,⟨[-2,1],1⟩,⟨[-2,0],2⟩,⟨[-2,-1],1⟩]⟩,
 ⟨2,[⟨[1,-1],1⟩,⟨[-1,0],1⟩,⟨[-1,-1],1⟩]⟩,
 ⟨2,[⟨[2,-1],1⟩,⟨[0,-1],1⟩]⟩,
 ⟨2,[⟨[1,0],1⟩]⟩,
 ⟨2,[⟨[0,1],1⟩]⟩,
 ⟨2,[⟨[-1,1],1⟩,⟨[-1,0],1⟩]⟩,
 ⟨2,[⟨[0,-1],1⟩,⟨[-2,1],1⟩,⟨[-2,0],2⟩,⟨[-2,-1],1⟩]⟩]
theorem r2c12:chkR 1 2 r2l12 8=true:=by kernel_rfl
def r2l21:List Lau:=[⟨2,[⟨[1,0],1⟩]⟩,
 ⟨2,[⟨[0,1],1⟩]⟩,
 ⟨2,[⟨[-1,2],1⟩,⟨[-1,0],1⟩]⟩,
 ⟨2,[⟨[0,-1],1⟩,⟨[-1,1],1⟩,⟨[-1,-1],1⟩]⟩,
 ⟨2,[⟨[1,-2],1⟩,⟨[0,-2],2⟩,⟨[-1,0],1⟩,⟨[-1,-2],1⟩]⟩,
 ⟨2,[⟨[1,-1],1⟩,⟨[0,-1],1⟩]⟩,
 ⟨2,[⟨[1,0],1⟩]⟩,
 ⟨2,[⟨[0,1],1⟩]⟩,
 ⟨2,[⟨[-1,2],1⟩,⟨[-1,0],1⟩]⟩,
 ⟨2,[⟨[0,-1],1⟩,⟨[-1,1],1⟩,⟨[-1,-1],1⟩]⟩]
theorem r2c21:chkR 2 1 r2l21 8=true:=by kernel_rfl
def r2l13:List Lau:=[⟨2,[⟨[1,0],1⟩]⟩,
 ⟨2,[⟨[0,1],1⟩]⟩,
 ⟨2,[⟨[-1,1],1⟩,⟨[-1,0],1⟩]⟩,
 ⟨2,[⟨[0,-1],1⟩,⟨[-3,2],1⟩,⟨[-3,1],3⟩,⟨[-3,0],3⟩,⟨[-3,-1],1⟩]⟩,
 ⟨2,[⟨[1,-1],1⟩,⟨[-2,1],1⟩,⟨[-2,0],2⟩,⟨[-2,-1],1⟩]⟩,
 ⟨2,[⟨[3,-2],1⟩,⟨[0,-1],3⟩,⟨[0,-2],2⟩,⟨[-3,1],1⟩,⟨[-3,0],3⟩,⟨[-3,-1],3⟩,⟨[-3,-2],1⟩]⟩,
 ⟨2,[⟨[2,-1],1⟩,⟨[-1,0],1⟩,⟨[-1,-1],1⟩]⟩,
 ⟨2,[⟨[3,-1],1⟩,⟨[0,-1],1⟩]⟩,
 ⟨2,[⟨[1,0],1⟩]⟩,
 ⟨2,[⟨[0,1],1⟩]⟩]
theorem r2c13:chkR 1 3 r2l13 8=true:=by kernel_rfl
def r2l31:List Lau:=[⟨2,[⟨[1,0],1⟩]⟩,
 ⟨2,[⟨[0,1],1⟩]⟩,
 ⟨2,[⟨[-1,3],1⟩,⟨[-1,0],1⟩]⟩,
 ⟨2,[⟨[0,-1],1⟩,⟨[-1,2],1⟩,⟨[-1,-1],1⟩]⟩,
 ⟨2,[⟨[1,-3],1⟩,⟨[0,-3],3⟩,⟨[-1,0],3⟩,⟨[-1,-3],3⟩,⟨[-2,3],1⟩,⟨[-2,0],2⟩,⟨[-2,-3],1⟩]⟩,
 ⟨2,[⟨[1,-2],1⟩,⟨[0,-2],2⟩,⟨[-1,1],1⟩,⟨[-1,-2],1⟩]⟩,
 ⟨2,[⟨[2,-3],1⟩,⟨[1,-3],3⟩,⟨[0,-3],3⟩,⟨[-1,0],1⟩,⟨[-1,-3],1⟩]⟩,
 ⟨2,[⟨[1,-1],1⟩,⟨[0,-1],1⟩]⟩,
 ⟨2,[⟨[1,0],1⟩]⟩,
 ⟨2,[⟨[0,1],1⟩]⟩]
theorem r2c31:chkR 3 1 r2l31 8=true:=by kernel_rfl
end Go.Proofs.Ytbhkonnakkhibaa.Ab
namespace Go.Proofs.Ytbhkonnakkhibaa.Ab
open Go
set_option maxRecDepth 10000
set_option maxHeartbeats 2000000
def SgM (m:Mat) (i j:Nat):Prop:=(0 < bM m i j↔bM m j i < 0)/\(bM m i j=0↔bM m j i=0)
def SzM (m:Mat):Prop:=ShM m/\∀ i j,i < m.n.toNat->j < m.n.toNat->SgM m i j
noncomputable instance (m:Mat):Decidable (SzM m):=Classical.propDecidable _
end Go.Proofs.Ytbhkonnakkhibaa.Ab
namespace Go.Proofs.Ytbhkonnakkhibaa.Ab
open Go
set_option maxRecDepth 10000
set_option maxHeartbeats 2000000
end Go.Proofs.Ytbhkonnakkhibaa.Ab
namespace Go.Proofs.Ytbhkonnakkhibaa.Ab
open Go
set_option maxRecDepth 10000
set_option maxHeartbeats 2000000
end Go.Proofs.Ytbhkonnakkhibaa.Ab
namespace Go.Proofs.Ytbhkonnakkhibaa.Ab
open Go
set_option maxRecDepth 10000
set_option maxHeartbeats 2000000
end Go.Proofs.Ytbhkonnakkhibaa.Ab
namespace Go.Proofs.Ytbhkonnakkhibaa.Ab
open Go
set_option maxRecDepth 10000
set_option maxHeartbeats 2000000
end Go.Proofs.Ytbhkonnakkhibaa.Ab
namespace Go.Proofs.Ytbhkonnakkhibaa.Ab
open Go
set_option maxRecDepth 10000
set_option maxHeartbeats 2000000
def fZ:Option Lau->List D
 | none=>[D.int 0,.v (.slice none 0 0)]
 | some f=>fO f
theorem fZ_two (t:Option Lau):(fZ t).length=2:=by cases t <;> rfl
@[simp] theorem fZ_length (l:List (Option Lau)):(rows fZ l).length=2*l.length:=rows_length fZ_two l
end Go.Proofs.Ytbhkonnakkhibaa.Ab
namespace Go.Proofs.Ytbhkonnakkhibaa.Ab
open Go
end Go.Proofs.Ytbhkonnakkhibaa.Ab
namespace Go.Proofs.Ytbhkonnakkhibaa.Ab
open Go
set_option maxRecDepth 10000
set_option maxHeartbeats 2000000
end Go.Proofs.Ytbhkonnakkhibaa.Ab
namespace Go.Proofs.Ytbhkonnakkhibaa.Ab
open Go
def zM:Mat:=⟨0,0,[]⟩
def idP (n i:Nat):List Int:=(List.range i).flatMap fun j=>unitL n j
theorem idP_succ (n i:Nat):idP n (i+1)=idP n i ++ unitL n i:=by simp [idP,List.range_succ]
@[simp] theorem idP_length (n:Nat):∀ i,(idP n i).length=i*n
 | 0=>by simp [idP]
 | i+1=>by rw [idP_succ,List.length_append,idP_length n i,unitL_length,Nat.add_mul,Nat.one_mul]
def SqOK (m:Mat):Prop:=MatOK m/\m.r=m.n/\2*m.n<=8
noncomputable instance (m:Mat):Decidable (SqOK m):=Classical.propDecidable _
noncomputable def fpL (m:Mat) (ws:List Mat) (ks:List Int):Nat->Option (List Lau)
 | 0=>some (List.replicate m.n.toNat (oneF m.n.toNat) ++ varsL m.n.toNat)
 | t+1=>match fpL m ws ks t with
  | some fs=>if (exF fs (colM (ws.getD t zM) (2*m.n.toNat) (ks.getD t 0).toNat) m.n.toNat (fs.getD (ks.getD t 0).toNat zeroF)).2=true then
    some (fs.set (ks.getD t 0).toNat (exF fs (colM (ws.getD t zM) (2*m.n.toNat) (ks.getD t 0).toNat) m.n.toNat (fs.getD (ks.getD t 0).toNat zeroF)).1) else none
  | none=>none
end Go.Proofs.Ytbhkonnakkhibaa.Ab
namespace Go.Proofs.Ytbhkonnakkhibaa.Ab
open Go
set_option maxRecDepth 10000
set_option maxHeartbeats 2000000
noncomputable def iniF (m:Mat):Sed×Bool:=if MatOK m then (⟨m,varsL m.r.toNat⟩,true) else (zeroS,false)
theorem impl_InitialSeedN_calls (m:Mat) (hx:m.d.length < 17592186044416) (hno:¬ MatOK m):ACalls Try.prog F.impl_InitialSeed [aM m] [] true (fun outs res=>outs=[]/\WkRs res [.ag (sO zeroS),.one (D.bool false)]):=by
 refine ACalls.of_body (C:=C.impl_InitialSeed) (n:=Try.f32.ntmps) tabT folT Try.func32 rfl (by kernel_rfl) rfl (Nat.le_of_ble_eq_true rfl) (by decide) (by kernel_rfl) (by kernel_rfl) rfl (by simp) (by simp) ?_
 simp only [Try.f32]
 refine wseq ?_
 refine wreg fun K hK=>?_
 simp [C.impl_InitialSeed]
 refine hK _ ?_;clear hK K
 show AWp _ _ _ _ _
 refine wseq ?_
 refine wseq ?_
 refine wregI ([0,1] ++ ([2])) rfl fun K hK=>?_
 refine opsI_seg fun L hL=>?_
 simp [C.impl_InitialSeed]
 refine wcall1 (impl_MatrixOkG_calls m hx) (by simp) (by simp) ?_
 simp [C.impl_InitialSeed]
 refine hL _ ?_;clear hL L
 refine opsI_end fun L hL=>?_
 simp [C.impl_InitialSeed]
 refine hL _ ?_;clear hL L
 simp [C.impl_InitialSeed]
 refine hK _ ?_;clear hK K
 show AWp _ _ _ _ _
 refine wcond _ rfl (fun hc1=>?_) (fun hc1=>?_)
 ·refine wseq ?_
  refine wreg fun K hK=>?_
  simp [C.impl_InitialSeed]
  refine hK _ ?_;clear hK K
  show AWp _ _ _ _ _
  refine wret ?_
  simp [C.impl_InitialSeed,zeroS,sO,ints,rows]
 ·exact absurd (nd_f hc1) hno
theorem iIni_calls (m:Mat) (hx:m.d.length < 17592186044416):ACalls Try.prog F.impl_InitialSeed [aM m] [] true (fun outs res=>outs=[]/\res=[.ag (sO (iniF m).1),.one (D.bool (iniF m).2)]):=by
 by_cases h:MatOK m
 ·have hm:iniF m=(⟨m,varsL m.r.toNat⟩,true):=if_pos h
  have hd:=sh_dim h.1
  have hok:=impl_MatrixOkG_calls m hx
  rw [decide_eq_true h] at hok
  have hini:=impl_InitialSeed_calls m.n m.r.toNat m.d (by omega) hx
  rw [hd.2.2.2.2.2.2] at hini
  have em:(⟨m.n,m.r,m.d⟩:Mat)=m:=by cases m;rfl
  rw [em] at hini
  rw [hm]
  exact hini hok
 ·have hm:iniF m=(zeroS,false):=if_neg h
  rw [hm]
  exact (impl_InitialSeedN_calls m hx h).weak1
end Go.Proofs.Ytbhkonnakkhibaa.Ab
namespace Go.Proofs.Ytbhkonnakkhibaa.Ab
open Go
set_option maxRecDepth 10000
set_option maxHeartbeats 2000000
theorem laws_at0_calls (xs:List Int) (i:Nat) (hx:xs.length<=1048576) (hb:∀ x∈xs,0<=x/\x<=255) (hi:i<=100):ACalls Try.prog F.laws_at0 [.d (.sh 1 xs.length (byts xs)),.int i] [] true (fun outs res=>outs=[]/\∃ r:Int,res=[.one (D.int r)]/\0<=r/\r < 256):=by
 refine ACalls.of_body (C:=C.laws_at0) (n:=Try.f15.ntmps) tabT folT Try.func15 rfl (by kernel_rfl) rfl (Nat.le_of_ble_eq_true rfl) (by decide) (by kernel_rfl) (by kernel_rfl) rfl (by simp) (by simp) ?_
 simp only [Try.f15]
 refine wseq ?_
 refine wreg fun K hK=>?_
 simp [C.laws_at0]
 refine hK _ ?_;clear hK K
 show AWp _ _ _ _ _
 refine wseq ?_
 refine wseq ?_
 refine wreg fun K hK=>?_
 simp [C.laws_at0]
 refine hK _ ?_;clear hK K
 show AWp _ _ _ _ _
 refine wcond _ rfl (fun hc1=>?_) (fun hc1=>?_)
 ·have h1:i < xs.length:=by have:=d_t hc1;omega
  have hv:=hb _ (List.getElem_mem h1)
  refine wseq ?_
  refine wreg fun K hK=>?_
  simp [C.laws_at0,h1,byts_0 h1,show (i:Int) < xs.length by omega,wrapOk (x:=xs[i]) (by omega) (by omega)]
  refine hK _ ?_;clear hK K
  show AWp _ _ _ _ _
  refine wret ?_
  simp [C.laws_at0]
  exact ⟨by omega,by omega⟩
 ·refine wskip ?_
  show AWp _ _ _ _ _
  refine wseq ?_
  refine wreg fun K hK=>?_
  simp [C.laws_at0,wrapOk (x:=(i:Int)*7) (by omega) (by omega),wrapOk (x:=(i:Int)*7+xs.length) (by omega) (by omega)]
  refine hK _ ?_;clear hK K
  show AWp _ _ _ _ _
  refine wret ?_
  simp [C.laws_at0]
  exact ⟨Int.tmod_nonneg _ (by omega),Int.tmod_lt_of_pos _ (by omega)⟩
theorem r2_back {b c:Int} (hb:0<=b/\b < 4) (hc:0<=c/\c < 4) (hbc:b=0↔c=0) (h3:b*c<=3) {n:Nat} (hn:2<=n/\n<=10) {l:List Lau} (hl:r2L b c (n - 2)=some l) :
  ∃ p bk:Nat,b*c=p/\p<=3/\([4,5,6,8]:List Int)[p]? = some (bk:Int)/\bk<=8/\(bk < n->l.getD bk zeroF=l.getD 0 zeroF):=by
 have main:∀ {L:List Lau} {bk:Nat},chkR b c L 8=true->L.length=10->bk<=8->L.getD bk zeroF=L.getD 0 zeroF->(bk < n->l.getD bk zeroF=l.getD 0 zeroF):=by
  intro L bk h1 h2 h3 h4 h5
  have hm:∀ m,chkR b c L (m+1)=true->chkR b c L m=true:=fun m h=>by
   simp only [chkR,Bool.and_eq_true] at h
   exact h.1
  have hall:∀ m,m<=8->chkR b c L (8 - m)=true:=by
   intro m hm8
   induction m with
   | zero=>exact h1
   | succ m ih=>
    have:=ih (by omega)
    rw [show 8 - m=(8 - (m+1))+1 by omega] at this
    exact hm _ this
  have hk:=hall (8 - (n - 2)) (by omega)
  rw [show 8 - (8 - (n - 2))=n - 2 by omega] at hk
  have e:=chkR_ok (by omega) (by omega) (m:=n - 2) (by omega) hk
  rw [hl] at e
  injection e with e
  rw [e,show n - 2+2=n by omega]
  have g:∀ i,i < n->(L.take n).getD i zeroF=L.getD i zeroF:=fun i hi=>by simp [List.getD_eq_getElem?_getD,List.getElem?_take,hi]
  rw [g _ h5,g _ (by omega),h4]
 have hcase:(b=0/\c=0)\/(b=1/\c=1)\/(b=1/\c=2)\/(b=2/\c=1)\/(b=1/\c=3)\/(b=3/\c=1):=by
  rcases (show b=0\/b=1\/b=2\/b=3 by omega) with rfl | rfl | rfl | rfl <;> rcases (show c=0\/c=1\/c=2\/c=3 by omega) with rfl | rfl | rfl | rfl <;> simp_all
 rcases hcase with ⟨rfl,rfl⟩ | ⟨rfl,rfl⟩ | ⟨rfl,rfl⟩ | ⟨rfl,rfl⟩ | ⟨rfl,rfl⟩ | ⟨rfl,rfl⟩
 ·exact ⟨0,4,rfl,by omega,rfl,by omega,main r2c00 rfl (by omega) rfl⟩
 ·exact ⟨1,5,rfl,by omega,rfl,by omega,main r2c11 rfl (by omega) rfl⟩
 ·exact ⟨2,6,rfl,by omega,rfl,by omega,main r2c12 rfl (by omega) rfl⟩
 ·exact ⟨2,6,rfl,by omega,rfl,by omega,main r2c21 rfl (by omega) rfl⟩
 ·exact ⟨3,8,rfl,by omega,rfl,by omega,main r2c13 rfl (by omega) rfl⟩
 ·exact ⟨3,8,rfl,by omega,rfl,by omega,main r2c31 rfl (by omega) rfl⟩
theorem varP_sm {f:Lau} (h:VarP f):SmF f:=(small_right h.1.1).sm'
theorem r2S_ok {b c:Int} {l:List Lau} {k:Nat} (h1:VarP (l.getD (k - 1) zeroF)) (h2:VarP (l.getD (k - 2) zeroF)):(r2S b c l k).m.d.length=4/\(r2S b c l k).f.length=2/\∀ f∈(r2S b c l k).f,SmF f:=by
 unfold r2S
 split
 ·refine ⟨rfl,rfl,fun f hf=>?_⟩
  simp only [List.mem_cons,List.not_mem_nil,or_false] at hf
  rcases hf with rfl | rfl
  ·exact varP_sm h2
  ·exact varP_sm h1
 ·refine ⟨rfl,rfl,fun f hf=>?_⟩
  simp only [List.mem_cons,List.not_mem_nil,or_false] at hf
  rcases hf with rfl | rfl
  ·exact varP_sm h1
  ·exact varP_sm h2
theorem r2S_new {b c:Int} {l:List Lau} {k:Nat} (hk:2<=k) (h:k % 2 < (r2S b c l (k+1)).f.length):(r2S b c l (k+1)).f[k % 2]=l.getD k zeroF:=by
 have e:(r2S b c l (k+1)).f=if (k+1) % 2=0 then [l.getD (k+1 - 2) zeroF,l.getD (k+1 - 1) zeroF] else [l.getD (k+1 - 1) zeroF,l.getD (k+1 - 2) zeroF]:=by
  unfold r2S
  split <;> rfl
 have g:(r2S b c l (k+1)).f[k % 2]? = some (l.getD k zeroF):=by
  rw [e]
  rcases (show k % 2=0\/k % 2=1 by omega) with q | q
  ·rw [if_neg (by omega),q]
   simp
  ·rw [if_pos (by omega),q]
   simp
 rw [List.getElem?_eq_getElem h] at g
 injection g
theorem laws_FnRankTwo_calls (xs:List Int) (hb:∀ x∈xs,0<=x/\x<=255):ACalls Try.prog F.laws_FnRankTwo [.d (.sh 1 xs.length (byts xs))] [] true (fun outs res=>outs=[]/\res=[.one (D.bool true)]):=by
 refine ACalls.of_body (C:=C.laws_FnRankTwo) (n:=Try.f5.ntmps) tabT folT Try.func5 rfl (by kernel_rfl) rfl (Nat.le_of_ble_eq_true rfl) (by decide) (by kernel_rfl) (by kernel_rfl) rfl (by simp) (by simp) ?_
 simp only [Try.f5]
 refine wseq ?_
 refine wreg fun K hK=>?_
 simp [C.laws_FnRankTwo]
 refine hK _ ?_;clear hK K
 show AWp _ _ _ _ _
 refine wseq ?_
 refine wseq ?_
 refine wregI ([0,1] ++ ([])) rfl fun K hK=>?_
 refine opsI_seg fun L hL=>?_
 simp [C.laws_FnRankTwo]
 refine wcall1 (laws_big_calls xs) (by simp) (by simp) ?_
 simp [C.laws_FnRankTwo]
 refine hL _ ?_;clear hL L
 refine opsI_end fun L hL=>?_
 simp only [AOpsI]
 refine hL _ ?_;clear hL L
 simp [C.laws_FnRankTwo]
 refine hK _ ?_;clear hK K
 show AWp _ _ _ _ _
 refine wcond _ rfl (fun hc1=>?_) (fun hc1=>?_)
 ·refine wseq ?_
  refine wreg fun K hK=>?_
  simp [C.laws_FnRankTwo]
  refine hK _ ?_;clear hK K
  show AWp _ _ _ _ _
  refine wret ?_
  simp [C.laws_FnRankTwo]
 ·have hx:xs.length<=1048576:=by have:=d_f hc1;omega
  refine wskip ?_
  show AWp _ _ _ _ _
  refine wseq ?_
  refine wregI ([0,1] ++ ([2,3])) rfl fun K hK=>?_
  refine opsI_seg fun L hL=>?_
  simp [C.laws_FnRankTwo]
  refine wcall (laws_at0_calls xs 0 hx hb (by omega)) (by simp) (by simp) (by simp) ?_
  rintro outs res ⟨rfl,r0,rfl,p0,q0⟩
  simp [C.laws_FnRankTwo]
  refine hL _ ?_;clear hL L
  refine opsI_end fun L hL=>?_
  simp [C.laws_FnRankTwo]
  refine hL _ ?_;clear hL L
  simp [C.laws_FnRankTwo]
  refine hK _ ?_;clear hK K
  show AWp _ _ _ _ _
  refine wseq ?_
  obtain ⟨b,hbq,hb1,hb2⟩:∃ b:Int,r0.tmod 4=b/\0<=b/\b < 4:=⟨_,rfl,Int.tmod_nonneg _ (by omega),Int.tmod_lt_of_pos _ (by omega)⟩
  rw [hbq]
  refine wregI ([0,1] ++ ([2,3])) rfl fun K hK=>?_
  refine opsI_seg fun L hL=>?_
  simp [C.laws_FnRankTwo]
  refine wcall (laws_at0_calls xs 1 hx hb (by omega)) (by simp) (by simp) (by simp) ?_
  rintro outs res ⟨rfl,r1,rfl,p1,q1⟩
  simp [C.laws_FnRankTwo]
  refine hL _ ?_;clear hL L
  refine opsI_end fun L hL=>?_
  simp [C.laws_FnRankTwo]
  refine hL _ ?_;clear hL L
  simp [C.laws_FnRankTwo]
  refine hK _ ?_;clear hK K
  show AWp _ _ _ _ _
  refine wseq ?_
  refine wseq ?_
  obtain ⟨c,hcq,hc1',hc2'⟩:∃ c:Int,r1.tmod 4=c/\0<=c/\c < 4:=⟨_,rfl,Int.tmod_nonneg _ (by omega),Int.tmod_lt_of_pos _ (by omega)⟩
  rw [hcq]
  refine wreg fun K hK=>?_
  have hJ:K ⟨ofL [(0,.d (.sh 1 xs.length (byts xs))),(3,.int b),(4,.int c),(29,.bool (decide (b=0\/c=0)))],ofRO []⟩:=by
   refine hK _ ?_;clear hK K
   show AWp _ _ _ _ _
   refine wcondJ (fun σ'=>∃ b' c':Int,∃ t f,((0<=b'/\b' < 4)/\(0<=c'/\c' < 4)/\(b'=0↔c'=0))/\σ'=⟨ofL [(0,.d (.sh 1 xs.length (byts xs))),(3,.int b'),(4,.int c'),(t,f)],ofRO []⟩) _ rfl ?_ (fun hc2 Qc2 hQc2=>?_) (fun hc2 Qc2 hQc2=>?_)
   ·rintro σc2 ⟨u,v,tt,ff,⟨hu,hv,huv⟩,rfl⟩
    show AWp _ _ _ _ _
    refine wseq ?_
    refine wregI ([0,1] ++ ([2,3,4])) rfl fun K hK=>?_
    refine opsI_seg fun L hL=>?_
    simp [C.laws_FnRankTwo]
    refine wcall (laws_at0_calls xs 2 hx hb (by omega)) (by simp) (by simp) (by simp) ?_
    rintro outs res ⟨rfl,r2,rfl,p2,q2⟩
    simp [C.laws_FnRankTwo]
    refine hL _ ?_;clear hL L
    refine opsI_end fun L hL=>?_
    simp [C.laws_FnRankTwo]
    refine hL _ ?_;clear hL L
    simp [C.laws_FnRankTwo]
    refine hK _ ?_;clear hK K
    show AWp _ _ _ _ _
    refine wseq ?_
    obtain ⟨n,hnq,hn⟩:∃ n:Nat,IntKind.i64.wrap (2+r2.tmod 9)=n/\2<=n/\n<=10:=by
     have h1:=Int.tmod_nonneg (9:Int) (a:=r2) (by omega)
     have h2:=Int.tmod_lt_of_pos r2 (b:=9) (by omega)
     exact ⟨(2+r2.tmod 9).toNat,by rw [wrapOk (by omega) (by omega)];omega,by omega,by omega⟩
    rw [hnq]
    have hR:=iRk_calls u v n
    have hR2:=sRk_calls u v n
    have hRe:r2F u v n=match r2L u v (n - 2) with | some l=>(l,true) | none=>([],false):=by
     unfold r2F
     rw [if_pos ⟨by omega,by omega,by omega⟩,show ((n:Int) - 2).toNat=n - 2 by omega]
     all_goals (cases r2L u v (n - 2) <;> rfl)
    generalize r2F u v n=W at hR hR2 hRe
    refine wregI ([0,1,2,3] ++ ([4,5,6,7,8])) rfl fun K hK=>?_
    refine opsI_seg fun L hL=>?_
    simp [C.laws_FnRankTwo]
    refine wcall1 (hR) (by simp) (by simp) ?_
    simp [C.laws_FnRankTwo]
    refine hL _ ?_;clear hL L
    refine opsI_end fun L hL=>?_
    simp [C.laws_FnRankTwo]
    refine hL _ ?_;clear hL L
    simp [C.laws_FnRankTwo]
    refine hK _ ?_;clear hK K
    show AWp _ _ _ _ _
    refine wseq ?_
    refine wregI ([0,1,2,3] ++ ([4,5,6,7,8])) rfl fun K hK=>?_
    refine opsI_seg fun L hL=>?_
    simp [C.laws_FnRankTwo]
    refine wcall1 (hR2) (by simp) (by simp) ?_
    simp [C.laws_FnRankTwo]
    refine hL _ ?_;clear hL L
    refine opsI_end fun L hL=>?_
    simp [C.laws_FnRankTwo]
    refine hL _ ?_;clear hL L
    simp [C.laws_FnRankTwo]
    refine hK _ ?_;clear hK K
    show AWp _ _ _ _ _
    refine wseq ?_
    refine wseq ?_
    refine wreg fun K hK=>?_
    simp [C.laws_FnRankTwo]
    refine hK _ ?_;clear hK K
    show AWp _ _ _ _ _
    refine wcond _ rfl (fun hc3=>?_) (fun hc3=>?_)
    ·simp at hc3
    ·refine wskip ?_
     show AWp _ _ _ _ _
     refine wseq ?_
     refine wseq ?_
     refine wreg fun K hK=>?_
     simp [C.laws_FnRankTwo]
     refine hK _ ?_;clear hK K
     show AWp _ _ _ _ _
     refine wcond _ rfl (fun hc4=>?_) (fun hc4=>?_)
     ·refine wseq ?_
      refine wreg fun K hK=>?_
      simp [C.laws_FnRankTwo]
      refine hK _ ?_;clear hK K
      show AWp _ _ _ _ _
      refine wret ?_
      simp [C.laws_FnRankTwo]
     ·have hW2:W.2=true:=by simpa using hc4
      obtain ⟨l,hl,hWl⟩:∃ l,r2L u v (n - 2)=some l/\W=(l,true):=by
       rw [hRe] at hW2 ⊢
       cases h:r2L u v (n - 2) with
       | some l=>exact ⟨l,rfl,rfl⟩
       | none=>rw [h] at hW2;simp at hW2
      rw [hWl]
      dsimp only
      obtain ⟨i1,⟨i2,i3⟩,i4,i5⟩:=r2L_inv u v (n - 2) l hl
      have hln:l.length=n:=by omega
      have hwu:IntKind.i64.wrap (-u)=-u:=wrapOk (by omega) (by omega)
      have hs:0 < v/\0 < u\/v < 0/\u < 0\/v=0/\u=0:=by omega
      have hini:=iIni_calls (mat2 v u) (by simp [mat2])
      have hv0:iniF (mat2 v u)=(r2S u v l 2,true):=by
       unfold iniF
       rw [if_pos (mat2_ok (by omega) (by omega) hs)]
       have:r2S u v l 2=⟨mat2 v u,[l.getD 0 zeroF,l.getD 1 zeroF]⟩:=rfl
       rw [this,i2,i3]
       rfl
      rw [hv0] at hini
      have hm2:aM (mat2 v u) = .ag [.int 2,.int 2,.d (.sh 1 4 (ints [0,v,-u,0]))]:=rfl
      rw [hm2] at hini
      obtain ⟨a1,a2,a3⟩:=r2S_ok (b:=u) (c:=v) (l:=l) (k:=2) (i4 1 (by omega)) (i4 0 (by omega))
      refine wskip ?_
      show AWp _ _ _ _ _
      refine wseq ?_
      have hints:[D.v (.int .i64 0),D.v (.int .i64 v),D.v (.int .i64 (-u)),D.v (.int .i64 0)]=ints [0,v,-u,0]:=rfl
      refine wregI ([0,1,2,3,4,5] ++ ([6,7,8,9,10,11])) rfl fun K hK=>?_
      refine opsI_seg fun L hL=>?_
      simp [C.laws_FnRankTwo,hwu,sO,hints]
      refine wcall1 (hini) (by simp [hwu,sO,hints]) (by simp) ?_
      simp [C.laws_FnRankTwo,hwu,sO,hints]
      refine hL _ ?_;clear hL L
      refine opsI_end fun L hL=>?_
      simp [C.laws_FnRankTwo,hwu,sO,hints]
      refine hL _ ?_;clear hL L
      simp [C.laws_FnRankTwo,hwu,sO,hints]
      refine hK _ ?_;clear hK K
      show AWp _ _ _ _ _
      refine wseq ?_
      refine wseq ?_
      have hl0:0 < l.length:=by omega
      have hl1:1 < l.length:=by omega
      obtain ⟨F0,e0⟩:∃ F,l[0]=F:=⟨_,rfl⟩
      obtain ⟨F1,e1⟩:∃ F,l[1]=F:=⟨_,rfl⟩
      have e0':l.getD 0 zeroF=F0:=by rw [← e0];simp [List.getD_eq_getElem?_getD,hl0]
      have e1':l.getD 1 zeroF=F1:=by rw [← e1];simp [List.getD_eq_getElem?_getD,hl1]
      have g0:(r2S u v l 2).f[0]'(by omega)=F0:=e0'
      have g1:(r2S u v l 2).f[1]'(by omega)=F1:=e1'
      have q0:=varP_sm (i4 0 (by omega))
      have q1:=varP_sm (i4 1 (by omega))
      rw [e0'] at q0
      rw [e1'] at q1
      have hc0:=laws_laurents_calls F0 F0 q0.1 q0.2
      have hc1:=laws_laurents_calls F1 F1 q1.1 q1.2
      obtain ⟨S,hS⟩:∃ S,S=r2S u v l 2:=⟨_,rfl⟩
      rw [← hS]
      simp only [← hS] at a1 a2 a3 g0 g1
      have hs0:0 < S.f.length:=by omega
      have hs1:1 < S.f.length:=by omega
      have z0:(rows fO l)[0]? = some (D.int l[0].v)/\∀ h',(rows fO l)[0]'h'=D.int l[0].v:=fO_0 hl0
      have z1:(rows fO l)[1]? = some (.ow 2 l[0].ts.length (rows tO l[0].ts))/\∀ h',(rows fO l)[1]'h' = .ow 2 l[0].ts.length (rows tO l[0].ts):=fO_1 hl0
      have z2:(rows fO l)[2]? = some (D.int l[1].v)/\∀ h',(rows fO l)[2]'h'=D.int l[1].v:=fO_0 hl1
      have z3:(rows fO l)[3]? = some (.ow 2 l[1].ts.length (rows tO l[1].ts))/\∀ h',(rows fO l)[3]'h' = .ow 2 l[1].ts.length (rows tO l[1].ts):=fO_1 hl1
      have y0:(rows fO S.f)[0]? = some (D.int S.f[0].v)/\∀ h',(rows fO S.f)[0]'h'=D.int S.f[0].v:=fO_0 hs0
      have y1:(rows fO S.f)[1]? = some (.ow 2 S.f[0].ts.length (rows tO S.f[0].ts))/\∀ h',(rows fO S.f)[1]'h' = .ow 2 S.f[0].ts.length (rows tO S.f[0].ts):=fO_1 hs0
      have y2:(rows fO S.f)[2]? = some (D.int S.f[1].v)/\∀ h',(rows fO S.f)[2]'h'=D.int S.f[1].v:=fO_0 hs1
      have y3:(rows fO S.f)[3]? = some (.ow 2 S.f[1].ts.length (rows tO S.f[1].ts))/\∀ h',(rows fO S.f)[3]'h' = .ow 2 S.f[1].ts.length (rows tO S.f[1].ts):=fO_1 hs1
      refine wdrawI [(true,0),(true,1),(true,2),(true,3),(true,4),(true,5),(true,6),(true,7),(true,8),(true,9),(true,10),(true,11),(true,12),(true,13),(true,14),(true,15),(false,16),(true,17),(true,18),(true,19),(true,20),(true,21),(true,22),(true,23),(true,24),(true,25),(true,26),(false,27),(true,28),(true,29)] ⟨by kernel_rfl,by kernel_rfl⟩ ([0,1,2,3,4,5,6,7,8,9,10,11,12,13,14,15,16] ++ ([17,18,19,20,21,22,23,24,25,26,27] ++ ([28,29]))) rfl fun K hK=>?_
      have hJ:K ⟨ofL [(3,.int u),(4,.int v),(5,.int n),(6,.al (6,0) [] 0 l.length),(10,.pt (10,0) [] 0),(91,.bool false)],ofRO [((6,0),some (.ow 2 l.length (rows fO l))),((10,0),some (.bx (sO S)))]⟩:=by
       refine hK _ ?_;clear hK K
       show AWp _ _ _ _ _
       refine wcond _ rfl (fun hc5=>?_) (fun hc5=>?_)
       ·simp at hc5
       ·refine wskip ?_
        show AWp _ _ _ _ _
        refine wseq ?_
        refine wseq ?_
        refine wreg fun K hK=>?_
        simp [C.laws_FnRankTwo]
        refine hK _ ?_;clear hK K
        show AWp _ _ _ _ _
        refine wblock ?_
        refine wloop (fun k:Nat=>⟨ofL [(3,.int u),(4,.int v),(5,.int n),(6,.al (6,0) [] 0 l.length),(10,.pt (10,0) [] 0),(12,.int k)],ofRO [((6,0),some (.ow 2 l.length (rows fO l))),((10,0),some (.bx (sO (r2S u v l k))))]⟩) (fun k=>2<=k/\k<=n) (fun k=>n - k) 2 (by simp [C.laws_FnRankTwo,hS]) (by omega) ?_
        intro x1 hx1 R1 hR1
        clear hS g0 g1 a1 a2 a3
        refine wseq ?_
        refine wseq ?_
        refine wreg fun K hK=>?_
        simp [C.laws_FnRankTwo]
        refine hK _ ?_;clear hK K
        show AWp _ _ _ _ _
        refine wcond _ rfl (fun hc6=>?_) (fun hc6=>?_)
        ·have hk:x1 < n:=by have:=d_t hc6;omega
         have hk2:2<=x1:=hx1.1
         have hmut:=r2_mut (b:=u) (c:=v) (l:=l) (k:=x1) (by omega) (by omega) huv hk2 (i4 _ (by omega)) (i4 _ (by omega)) (i5 x1 hk2 (by omega))
         obtain ⟨a1,a2,a3⟩:=r2S_ok (b:=u) (c:=v) (l:=l) (k:=x1) (i4 _ (by omega)) (i4 _ (by omega))
         have hms:=iMs_calls (r2S u v l x1) ((x1 % 2:Nat):Int) (by omega) (by omega) a3
         rw [hmut] at hms
         obtain ⟨q,hq⟩:∃ q:Nat,x1 % 2=q:=⟨_,rfl⟩
         have hmod:Int.tmod (x1:Int) 2=(q:Int):=by rw [Int.tmod_eq_emod_of_nonneg (by omega),← hq];simp
         obtain ⟨b1,b2,b3⟩:=r2S_ok (b:=u) (c:=v) (l:=l) (k:=x1+1) (i4 _ (by omega)) (i4 _ (by omega))
         have hkm:x1 % 2 < (r2S u v l (x1+1)).f.length:=by omega
         have hlk:x1 < l.length:=by omega
         obtain ⟨FK,ek⟩:∃ F,l[x1]=F:=⟨_,rfl⟩
         have ek':l.getD x1 zeroF=FK:=by rw [← ek];simp [List.getD_eq_getElem?_getD,hlk]
         have hnew:=r2S_new (b:=u) (c:=v) (l:=l) hk2 hkm
         rw [ek'] at hnew
         simp only [hq] at hms hkm hnew
         obtain ⟨S,hS⟩:∃ S,S=r2S u v l x1:=⟨_,rfl⟩
         obtain ⟨T,hT⟩:∃ T,T=r2S u v l (x1+1):=⟨_,rfl⟩
         rw [← hS] at hms
         rw [← hS]
         simp only [← hT] at hms hnew hkm b1 b2 b3
         have qk:=varP_sm (i4 x1 (by omega))
         rw [ek'] at qk
         have hck:=laws_laurents_calls FK FK qk.1 qk.2
         refine wskip ?_
         show AWp _ _ _ _ _
         refine wseq ?_
         refine wblock ?_
         refine wseq ?_
         refine wregI ([0,1,2,3] ++ ([4,5,6,7,8,9])) rfl fun K hK=>?_
         refine opsI_seg fun L hL=>?_
         simp [C.laws_FnRankTwo,hmod,sO]
         refine wcall1 (hms) (by simp) (by simp) ?_
         simp [C.laws_FnRankTwo,hmod,sO]
         refine hL _ ?_;clear hL L
         refine opsI_end fun L hL=>?_
         simp [C.laws_FnRankTwo,hmod,sO]
         refine hL _ ?_;clear hL L
         simp [C.laws_FnRankTwo,hmod,sO]
         refine hK _ ?_;clear hK K
         show AWp _ _ _ _ _
         refine wseq ?_
         refine wseq ?_
         refine wdrawI [(true,0),(true,1),(true,2),(true,3),(true,4),(true,5),(true,6),(true,7),(true,8),(true,9),(true,10),(true,11),(true,12),(false,13),(true,14),(true,15)] ⟨by kernel_rfl,by kernel_rfl⟩ ([0,1,2,3,4,5,6,7,8,9,10,11,12,13] ++ ([14,15])) rfl fun K hK=>?_
         have hJ:K ⟨ofL [(3,.int u),(4,.int v),(5,.int n),(6,.al (6,0) [] 0 l.length),(10,.pt (10,0) [] 0),(12,.int x1),(13,.pt (13,0) [] 0),(119,.bool false)],ofRO [((6,0),some (.ow 2 l.length (rows fO l))),((10,0),some (.bx (sO S))),((13,0),some (.bx (sO T)))]⟩:=by
          refine hK _ ?_;clear hK K
          show AWp _ _ _ _ _
          refine wcond _ rfl (fun hc7=>?_) (fun hc7=>?_)
          ·simp at hc7
          ·refine wskip ?_
           show AWp _ _ _ _ _
           refine wreg fun K hK=>?_
           simp [C.laws_FnRankTwo,sO]
           refine hK _ ?_;clear hK K
           show AWp _ _ _ _ _
           refine wreg fun K hK=>?_
           simp [C.laws_FnRankTwo,wrap_succ (show x1 < 4611686018427387904 by omega)]
           refine hK _ ?_;clear hK K
           simp [C.laws_FnRankTwo]
           refine cast (congrArg R1 ?_) (hR1 (x1+1) ⟨by omega,hk⟩ (by omega))
           simp [hT,sO]
         clear hK
         simp [C.laws_FnRankTwo,sO,hmod,hlk,hkm,fO_0 hlk,fO_1 hlk,ek,fO_0 hkm,fO_1 hkm,hnew,b2,show (q:Int) < 2 by omega,show q < 2 by omega,show (x1:Int) < l.length by omega]
         repeat' first
          | (refine wcall1 (hck) ?_ (by simp) ?_;(focus (simp [ek,hnew];done));simp [C.laws_FnRankTwo,ek,hnew])
          | (refine cast (congrArg K ?_) hJ;simp [sO,hln,a2,b2];done)
          | (refine cast (congrArg K ?_) hJ;simp [sO,hln,a2];done)
          | refine And.intro ?_ ?_
          | omega
        ·have hk:x1=n:=by have:=d_f hc6;omega
         have huv9:-1 < u*v/\u*v < 10:=by
          have h1:0<=u*v:=Int.mul_nonneg (by omega) (by omega)
          have h2:u*v<=3*3:=Int.mul_le_mul (by omega) (by omega) (by omega) (by omega)
          omega
         have hwuv:IntKind.i64.wrap (u*v)=u*v:=wrapOk (by omega) (by omega)
         refine wexit ?_
         show AWp _ _ _ _ _
         refine wseq ?_
         refine wseq ?_
         refine wreg fun K hK=>?_
         simp [C.laws_FnRankTwo,hwuv]
         refine hK _ ?_;clear hK K
         show AWp _ _ _ _ _
         refine wcond _ rfl (fun hc8=>?_) (fun hc8=>?_)
         ·refine wseq ?_
          refine wreg fun K hK=>?_
          simp [C.laws_FnRankTwo]
          refine hK _ ?_;clear hK K
          show AWp _ _ _ _ _
          refine wret ?_
          simp [C.laws_FnRankTwo]
         ·have h3:u*v<=3:=by have:=hc8;simp at this;omega
          obtain ⟨p,bk,hp,hp3,hget,hbk,hback⟩:=r2_back hu hv huv h3 hn hl
          have hget2:∀ (h:p < ([4,5,6,8]:List Int).length),([4,5,6,8]:List Int)[p]=(bk:Int):=fun h=>by
           rw [List.getElem?_eq_getElem h] at hget
           injection hget
          have hwp:IntKind.i64.wrap (p:Int)=(p:Int):=wrapOk (by omega) (by omega)
          have hints4:[D.v (.int .i64 4),D.v (.int .i64 5),D.v (.int .i64 6),D.v (.int .i64 8)]=ints [4,5,6,8]:=rfl
          refine wskip ?_
          show AWp _ _ _ _ _
          refine wseq ?_
          refine wreg fun K hK=>?_
          simp [C.laws_FnRankTwo,hp,hwp,hints4,get_ints,show p < 4 by omega,show (p:Int) < 4 by omega,hget2]
          refine hK _ ?_;clear hK K
          show AWp _ _ _ _ _
          refine wseq ?_
          refine wdrawI [(true,0),(true,1),(true,2),(true,3),(true,4),(true,5),(true,6),(true,7),(true,8),(true,9),(true,10),(false,11),(true,12),(true,13)] ⟨by kernel_rfl,by kernel_rfl⟩ ([0,1,2,3,4,5,6,7,8,9,10,11] ++ ([12,13])) rfl fun K hK=>?_
          have hJ:K ⟨ofL [(2,.bool true)],ofRO []⟩:=by
           refine hK _ ?_;clear hK K
           show AWp _ _ _ _ _
           refine wret ?_
           simp [C.laws_FnRankTwo]
          clear hK
          by_cases h1:n<=bk
          ·refine opsI_seg fun L hL=>?_
           simp [C.laws_FnRankTwo,h1]
           refine hL _ ?_;clear hL L
           refine opsI_end fun L hL=>?_
           simp [C.laws_FnRankTwo,h1]
           refine hL _ ?_;clear hL L
           simp [C.laws_FnRankTwo,h1]
           refine cast (congrArg K ?_) hJ
           simp [h1]
          ·have hlb:bk < l.length:=by omega
           have hl0':0 < l.length:=by omega
           obtain ⟨FZ,e00⟩:∃ F,l[0]=F:=⟨_,rfl⟩
           have e00':l.getD 0 zeroF=FZ:=by rw [← e00];simp [List.getD_eq_getElem?_getD,hl0']
           have eb:l[bk]=FZ:=by rw [show l[bk]=l.getD bk zeroF by simp [List.getD_eq_getElem?_getD,hlb],hback (by omega),e00']
           have qz:=varP_sm (i4 0 (by omega))
           rw [e00'] at qz
           refine opsI_seg fun L hL=>?_
           simp [C.laws_FnRankTwo,hlb,hl0',fO_0 hlb,fO_1 hlb,fO_0 hl0',fO_1 hl0',eb,e00,show (bk:Int) < l.length by omega,show ¬ ((n:Int)<=bk) by omega,h1]
           refine wcall1 (laws_laurents_calls FZ FZ qz.1 qz.2) (by simp [hlb,hl0',fO_0 hlb,fO_1 hlb,fO_0 hl0',fO_1 hl0',eb,e00,show (bk:Int) < l.length by omega,show ¬ ((n:Int)<=bk) by omega]) (by simp) ?_
           simp [C.laws_FnRankTwo,hlb,hl0',fO_0 hlb,fO_1 hlb,fO_0 hl0',fO_1 hl0',eb,e00,show (bk:Int) < l.length by omega,show ¬ ((n:Int)<=bk) by omega,h1]
           refine hL _ ?_;clear hL L
           refine opsI_end fun L hL=>?_
           simp [C.laws_FnRankTwo,hlb,hl0',fO_0 hlb,fO_1 hlb,fO_0 hl0',fO_1 hl0',eb,e00,show (bk:Int) < l.length by omega,show ¬ ((n:Int)<=bk) by omega,h1]
           refine hL _ ?_;clear hL L
           simp [C.laws_FnRankTwo,hlb,hl0',fO_0 hlb,fO_1 hlb,fO_0 hl0',fO_1 hl0',eb,e00,show (bk:Int) < l.length by omega,show ¬ ((n:Int)<=bk) by omega,h1]
           refine cast (congrArg K ?_) hJ
           simp [h1]
      clear hK
      simp [C.laws_FnRankTwo,sO,hln,hl0,hl1,z0,z1,z2,z3,e0,e1,a2,y0,y1,y2,y3,g0,g1]
      repeat' first
       | (refine wcall1 (hc0) ?_ (by simp) ?_;(focus (simp [e0,g0];done));simp [C.laws_FnRankTwo,sO,hln,hl0,hl1,e0,e1,g0,g1,a2,z0,z1,z2,z3,y0,y1,y2,y3])
       | (refine wcall1 (hc1) ?_ (by simp) ?_;(focus (simp [e1,g1];done));simp [C.laws_FnRankTwo,sO,hln,hl0,hl1,e0,e1,g0,g1,a2,z0,z1,z2,z3,y0,y1,y2,y3])
       | (refine cast (congrArg K ?_) hJ;simp [sO,hln,a2,b2];done)
       | (refine cast (congrArg K ?_) hJ;simp [sO,hln,a2];done)
       | refine And.intro ?_ ?_
       | omega
   ·refine wreg fun K hK=>?_
    simp [C.laws_FnRankTwo]
    refine hK _ ?_;clear hK K
    rw [ofL_pad]
    exact hQc2 _ ⟨0,0,0,.dead,⟨by omega,by omega,by simp⟩,rfl⟩
   ·refine wskip ?_
    exact hQc2 _ ⟨b,c,_,_,⟨⟨hb1,hb2⟩,⟨hc1',hc2'⟩,by have:=d_f hc2;omega⟩,rfl⟩
  clear hK
  by_cases h1:b=0
  ·simp [C.laws_FnRankTwo,h1]
   refine cast (congrArg K ?_) hJ
   simp [ibeq,h1]
  ·simp [C.laws_FnRankTwo,h1]
   refine cast (congrArg K ?_) hJ
   simp [ibeq,h1]
end Go.Proofs.Ytbhkonnakkhibaa.Ab
namespace Go.Proofs.Ytbhkonnakkhibaa.Ab
open Go Go.ChangeShapes Go.WideShapes Go.ChangeAt Go.RowKit
set_option maxRecDepth 100000
section
variable {H:Type} {enc:TypeId×Value->H} {W:World}
theorem rows_byts (l:List Int):rows (fun n=>[D.v (.int .u8 n)]) l=byts l:=by
 induction l with
 | nil=>rfl
 | cons x l ih=>simp [rows,ih,byts]
def CodeB (l:List Int):Prop:=(∀ x∈l,0<=x/\x<=255)/\l.length*1<=140737488351232
theorem opCode:Opens enc Try.prog W 22 1 (List Int) (fun l=>[.sh 1 l.length (byts l)]) CodeB:=
 (Opens.slice (Opens.byte Try.underlying5 (by kernel_rfl)) (by omega) Try.underlying22 (by kernel_rfl) (by kernel_rfl)).to id (fun l=>by simp [rows_byts]) (fun _=>rfl) (fun _ h=>h)
theorem argCode:Arg enc Try.prog W 22 (List Int) (fun l=>.d (.sh 1 l.length (byts l))) CodeB:=Arg.one opCode (by kernel_rfl) (of_decide_eq_true (by kernel_rfl)) (by kernel_rfl)
end
end Go.Proofs.Ytbhkonnakkhibaa.Ab
namespace Go.Proofs.Ytbhkonnakkhibaa.Ab
open Go
theorem lawRt (xs:List Int) (h:CodeB xs):ACalls Try.prog F.laws_FnRankTwo [.d (.sh 1 xs.length (byts xs))] [] true (fun outs res=>outs=[]/\res=[.one (D.bool true)]):=laws_FnRankTwo_calls xs h.1
end Go.Proofs.Ytbhkonnakkhibaa.Ab
