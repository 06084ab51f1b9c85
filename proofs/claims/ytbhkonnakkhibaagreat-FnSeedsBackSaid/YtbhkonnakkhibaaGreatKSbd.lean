/- Keys of the program's sums, and their building. The program's powers of sums, over its products. A map of padded exponents as a sum. The program's products of sums, over the end of a building. Powers of sums: the program's are the reference's, fresh at each call. Seeds and sessions: what is equal, marks. The first seed and the first session, on both sides. Least exponents, denominators, numerators. Division of sums in variables: two ways to test whether to go on lead to the same. What a division keeps from step to step. Greatest exponents, sums of coded terms, division: the reference's side. Printed by wip/tools/lay.py: the contracts of slices.SortFunc laid at this seat. slices.SortFunc in the calculus: from a contract over worlds to a contract over trees. The end of a building, over a sort. The sort of terms by their exponents, greatest first, at this program. The program's sums: all contracts without a premise left. Drawing: the cursor, numbers, exponents, sums. Drawing sums: what is drawn is right and small. Three drawn sums; what the laws compare. Drawing numbers to be put in place of variables. What a matrix of small entries is: its shape and its factors, at the first session's matrix. Factors of a matrix by fractions: what holds along the search. Factors of a matrix by pieces: what holds along the search. Matrices that are right, their least factors, mutation. No condition. -/
import Derived.Test.YtbhkonnakkhibaaGreatKSbc
import Derived.Shelf.SlLaysF0
import Derived.Test.YtbhkonnakkhibaaGreatProg
import Derived.Shelf.SlSortCmp.InsertionK
import Derived.Shelf.SlSortFuncK.ComposeK
import Derived.Shelf.SlSortCmp.NoneTotal
set_option linter.unusedVariables false
set_option linter.unusedSimpArgs false
set_option linter.unusedSectionVars false
namespace Go.Proofs.YtbhkonnakkhibaaGreat.Ab
open Go
set_option maxRecDepth 10000
set_option maxHeartbeats 2000000
attribute [local simp] mapKV flatInt tileB
def pad (e:List Int):List Int:=e ++ List.replicate (8 - e.length) 0
theorem pad_length {e:List Int} (h:e.length<=8):(pad e).length=8:=by
 unfold pad
 simp
 omega
theorem eight {l:List Int} (h:l.length=8):∃ a b c d e f g k,l=[a,b,c,d,e,f,g,k]:=by
 match l,h with
 | [a,b,c,d,e,f,g,k],_=>exact ⟨a,b,c,d,e,f,g,k,rfl⟩
def madd (es:List (List Int×Int)) (k:List Int) (c:Int):List (List Int×Int):=
 if c+(mget k es).getD 0=0 then mdel k es else mset k (c+(mget k es).getD 0) es
theorem impl_keyOf_c (e:List Int) (he:e.length<=8) (k0 k1 k2 k3 k4 k5 k6 k7:Int) (hk:pad e=[k0,k1,k2,k3,k4,k5,k6,k7]):ACalls Tryz.prog F.impl_keyOf [.d (shI e)] [] true (fun outs res=>outs=[]/\res=[.ag [D.int k0,D.int k1,D.int k2,D.int k3,D.int k4,D.int k5,D.int k6,D.int k7]]):=by
 refine ACalls.of_body (C:=C.impl_keyOf) (n:=Tryz.f161.ntmps) tabT folT Tryz.func161 rfl (by kernel_rfl) rfl (Nat.le_of_ble_eq_true rfl) (by decide) (by kernel_rfl) (by kernel_rfl) rfl (by simp) (by simp) ?_
 simp only [Tryz.f161]
 refine wseq ?_
 refine wreg fun K hK=>?_
 simp [C.impl_keyOf]
 refine hK _ ?_;clear hK K
 show AWp _ _ _ _ _
 refine wseq ?_
 refine wreg fun K hK=>?_
 simp [C.impl_keyOf]
 refine hK _ ?_;clear hK K
 show AWp _ _ _ _ _
 refine wseq ?_
 have hcp:ints (e.take (min e.length 8)) ++ List.drop (min e.length 8) [D.int 0,D.int 0,D.int 0,D.int 0,D.int 0,D.int 0,D.int 0,D.int 0]=[D.int k0,D.int k1,D.int k2,D.int k3,D.int k4,D.int k5,D.int k6,D.int k7]:=by
  have hz:([D.int 0,D.int 0,D.int 0,D.int 0,D.int 0,D.int 0,D.int 0,D.int 0]:List D)=ints (List.replicate 8 0):=rfl
  rw [hz,Nat.min_eq_left he,List.take_length,ints_drop,ints_append,List.drop_replicate]
  show ints (pad e)=_
  rw [hk]
  rfl
 refine wreg fun K hK=>?_
 simp [C.impl_keyOf]
 rw [hcp]
 refine hK _ ?_;clear hK K
 show AWp _ _ _ _ _
 refine wseq ?_
 refine wreg fun K hK=>?_
 simp [C.impl_keyOf]
 refine hK _ ?_;clear hK K
 show AWp _ _ _ _ _
 refine wret ?_
 simp [C.impl_keyOf]
theorem impl_newBuilding_c (v:Int):ACalls Tryz.prog F.impl_newBuilding [.int v] [] true (fun outs res=>outs=[]/\res=[.one (.bx [D.int v,.mp []])]):=by
 refine ACalls.of_body (C:=C.impl_newBuilding) (n:=Tryz.f92.ntmps) tabT folT Tryz.func92 rfl (by kernel_rfl) rfl (Nat.le_of_ble_eq_true rfl) (by decide) (by kernel_rfl) (by kernel_rfl) rfl (by simp) (by simp) ?_
 simp only [Tryz.f92]
 refine wseq ?_
 refine wreg fun K hK=>?_
 simp [C.impl_newBuilding]
 refine hK _ ?_;clear hK K
 show AWp _ _ _ _ _
 refine wseq ?_
 refine wreg fun K hK=>?_
 simp [C.impl_newBuilding]
 refine hK _ ?_;clear hK K
 show AWp _ _ _ _ _
 refine wret ?_
 simp [C.impl_newBuilding]
theorem impl_building_add_c (v c:Int) (es:List (List Int×Int)) (k0 k1 k2 k3 k4 k5 k6 k7:Int) (hes:mapLen 8 es) (hw:-9223372036854775808<=c+(mget [k0,k1,k2,k3,k4,k5,k6,k7] es).getD 0/\c+(mget [k0,k1,k2,k3,k4,k5,k6,k7] es).getD 0 < 9223372036854775808):ACalls Tryz.prog F.impl_building_add [.pt (0,0) [] 0,.ag [.int k0,.int k1,.int k2,.int k3,.int k4,.int k5,.int k6,.int k7],.int c] [((0,0),.bx [D.int v,.mp es])] true (fun outs res=>outs=[.bx [D.int v,.mp (madd es [k0,k1,k2,k3,k4,k5,k6,k7] c)]]/\res=[]):=by
 refine ACalls.of_body (C:=C.impl_building_add) (n:=Tryz.f94.ntmps) tabT folT Tryz.func94 rfl (by kernel_rfl) rfl (Nat.le_of_ble_eq_true rfl) (by decide) (by kernel_rfl) (by kernel_rfl) rfl (by simp) (by simp) ?_
 simp only [Tryz.f94]
 refine wseq ?_
 refine wreg fun K hK=>?_
 simp [C.impl_building_add]
 refine hK _ ?_;clear hK K
 show AWp _ _ _ _ _
 refine wseq ?_
 refine wdraw (.take 0 (.take 1 (.take 2 (.take 3 (.take 4 (.take 5 (.take 6 (.take 7 (.take 8 (.done)))))))))) ⟨by kernel_rfl,by kernel_rfl⟩ fun K hK=>?_
 simp [C.impl_building_add,hes]
 rw [wrapOk (x:=c+(mget [k0,k1,k2,k3,k4,k5,k6,k7] es).getD 0) hw.1 hw.2]
 refine hK _ ?_;clear hK K
 show AWp _ _ _ _ _
 refine wseq ?_
 refine wreg fun K hK=>?_
 simp [C.impl_building_add]
 refine hK _ ?_;clear hK K
 show AWp _ _ _ _ _
 refine wcond _ rfl (fun hc1=>?_) (fun hc1=>?_)
 ·have hz:c+(mget [k0,k1,k2,k3,k4,k5,k6,k7] es).getD 0=0:=by simpa using hc1
  refine wdraw (.take 0 (.take 1 (.take 2 (.take 3 (.take 4 (.all [(5,.done)])))))) ⟨by kernel_rfl,by kernel_rfl⟩ fun K hK=>?_
  simp [C.impl_building_add,hes]
  refine hK _ ?_;clear hK K
  simp [C.impl_building_add,madd,hz]
 ·have hz:¬ c+(mget [k0,k1,k2,k3,k4,k5,k6,k7] es).getD 0=0:=by simpa using hc1
  refine wdraw (.take 0 (.take 1 (.take 2 (.take 3 (.take 4 (.take 5 (.all [(6,.done)]))))))) ⟨by kernel_rfl,by kernel_rfl⟩ fun K hK=>?_
  simp [C.impl_building_add,hes]
  refine hK _ ?_;clear hK K
  simp [C.impl_building_add,madd,hz]
theorem impl_plusExp_c (t:Int) (a0 a1 a2 a3 a4 a5 a6 a7 b0 b1 b2 b3 b4 b5 b6 b7:Int) (ht:-1<=t/\t<=1) (ha:∀ x∈[a0,a1,a2,a3,a4,a5,a6,a7],-1000000<=x/\x<=1000000) (hb:∀ x∈[b0,b1,b2,b3,b4,b5,b6,b7],-1000000<=x/\x<=1000000):ACalls Tryz.prog F.impl_plusExp [.ag [.int a0,.int a1,.int a2,.int a3,.int a4,.int a5,.int a6,.int a7],.int t,.ag [.int b0,.int b1,.int b2,.int b3,.int b4,.int b5,.int b6,.int b7]] [] true (fun outs res=>outs=[]/\res=[.ag [D.int (a0+t*b0),D.int (a1+t*b1),D.int (a2+t*b2),D.int (a3+t*b3),D.int (a4+t*b4),D.int (a5+t*b5),D.int (a6+t*b6),D.int (a7+t*b7)]]):=by
 refine ACalls.of_body (C:=C.impl_plusExp) (n:=Tryz.f160.ntmps) tabT folT Tryz.func160 rfl (by kernel_rfl) rfl (Nat.le_of_ble_eq_true rfl) (by decide) (by kernel_rfl) (by kernel_rfl) rfl (by simp) (by simp) ?_
 simp only [Tryz.f160]
 refine wseq ?_
 refine wreg fun K hK=>?_
 simp [C.impl_plusExp]
 refine hK _ ?_;clear hK K
 show AWp _ _ _ _ _
 refine wseq ?_
 refine wseq ?_
 refine wreg fun K hK=>?_
 simp [C.impl_plusExp]
 refine hK _ ?_;clear hK K
 show AWp _ _ _ _ _
 refine wblock ?_
 refine wloop (fun x:Nat×List Int=>⟨ofL [(1,.int t),(3,.pt (3,0) [] 0),(5,.pt (5,0) [] 0),(6,.pt (6,0) [] 0),(8,.int x.1)],ofRO [((3,0),some (.bx (ints x.2))),((5,0),some (.bx (ints [b0,b1,b2,b3,b4,b5,b6,b7]))),((6,0),some (.bx (ints [0,0,0,0,0,0,0,0])))]⟩) (fun x=>x.1<=8/\x.2=addE t ([a0,a1,a2,a3,a4,a5,a6,a7].take x.1) ([b0,b1,b2,b3,b4,b5,b6,b7].take x.1) ++ [a0,a1,a2,a3,a4,a5,a6,a7].drop x.1) (fun x=>8 - x.1) (0,[a0,a1,a2,a3,a4,a5,a6,a7]) (by simp [C.impl_plusExp,ints]) (by simp [addE]) ?_
 intro x1 hx1 R1 hR1
 obtain ⟨i,gs⟩:=x1
 obtain ⟨hi,hg⟩:=hx1
 dsimp only at hi hg ⊢
 refine wseq ?_
 refine wreg fun K hK=>?_
 simp [C.impl_plusExp]
 refine hK _ ?_;clear hK K
 show AWp _ _ _ _ _
 refine wseq ?_
 refine wcond _ rfl (fun hc1=>?_) (fun hc1=>?_)
 ·have h1:i < 8:=by have:=d_t hc1;omega
  have hgl:gs.length=8:=by
   rw [hg]
   simp [addE_length]
   omega
  have h2:i < gs.length:=by omega
  have h3:i < [b0,b1,b2,b3,b4,b5,b6,b7].length:=by simpa using h1
  have h4:i < [a0,a1,a2,a3,a4,a5,a6,a7].length:=by simpa using h1
  have hge:gs[i]=[a0,a1,a2,a3,a4,a5,a6,a7][i]:=by
   have:=addE_get (t:=t) h4 (show [a0,a1,a2,a3,a4,a5,a6,a7].length=[b0,b1,b2,b3,b4,b5,b6,b7].length from rfl)
   rw [<-hg,List.getElem?_eq_getElem h2] at this
   injection this
  have hA:=ha _ (List.getElem_mem h4)
  have hB:=hb _ (List.getElem_mem h3)
  generalize hbi:[b0,b1,b2,b3,b4,b5,b6,b7][i]=B at hB
  generalize hai:[a0,a1,a2,a3,a4,a5,a6,a7][i]=A at hA hge
  have htb:-1000000<=t*B/\t*B<=1000000:=by
   rcases (show t=-1\/t=0\/t=1 by omega) with rfl | rfl | rfl <;> omega
  refine wskip ?_
  show AWp _ _ _ _ _
  refine wseq ?_
  refine wblock ?_
  refine wseq ?_
  refine wreg fun K hK=>?_
  simp [C.impl_plusExp]
  refine hK _ ?_;clear hK K
  show AWp _ _ _ _ _
  refine wdraw (.take 0 (.take 1 (.take 2 (.take 3 (.take 4 (.take 5 (.take 6 (.take 7 (.take 8 (.take 9 (.all [(10,.done)]))))))))))) ⟨by kernel_rfl,by kernel_rfl⟩ fun K hK=>?_
  simp [C.impl_plusExp,show ((i:Int) < 8) by omega,h1,hgl,get_ints]
  rw [hbi,hge,wrapOk (x:=t*B) (by omega) (by omega),wrapOk (x:=A+t*B) (by omega) (by omega)]
  refine hK _ ?_;clear hK K
  show AWp _ _ _ _ _
  refine wreg fun K hK=>?_
  simp [C.impl_plusExp,wrap_succ (show i < 4611686018427387904 by omega)]
  refine hK _ ?_;clear hK K
  simp [C.impl_plusExp]
  refine hR1 (i+1,_) ⟨h1,?_⟩ (by dsimp only;omega)
  dsimp only
  rw [hg,<-hai,<-hbi]
  exact addE_step (bs:=[b0,b1,b2,b3,b4,b5,b6,b7]) h4 rfl
 ·have h1:i=8:=by have:=d_f hc1;omega
  subst h1
  have hg2:gs=[a0+t*b0,a1+t*b1,a2+t*b2,a3+t*b3,a4+t*b4,a5+t*b5,a6+t*b6,a7+t*b7]:=by rw [hg];rfl
  subst hg2
  refine wexit ?_
  show AWp _ _ _ _ _
  refine wseq ?_
  refine wreg fun K hK=>?_
  simp [C.impl_plusExp,ints]
  refine hK _ ?_;clear hK K
  show AWp _ _ _ _ _
  refine wret ?_
  simp [C.impl_plusExp]
end Go.Proofs.YtbhkonnakkhibaaGreat.Ab
namespace Go.Proofs.YtbhkonnakkhibaaGreat.Ab
open Go
set_option maxRecDepth 10000
set_option maxHeartbeats 2000000
def MulOk:Prop:=∀ f g:Lau,f.ts.length < 4611686018427387904->(∀ t∈f.ts,t.e.length < 4611686018427387904)->g.ts.length < 4611686018427387904->(∀ t∈g.ts,t.e.length < 4611686018427387904) ->
 ACalls Tryz.prog F.impl_MulLaurents [aF f,aF g] [] true (fun outs res=>outs=[]/\res=[.ag (fO (mulF f g).1),.one (D.bool (mulF f g).2)])
theorem impl_ConstantLaurent_c (n:Nat) (hn:1<=n/\n<=8):ACalls Tryz.prog F.impl_ConstantLaurent [.int n,.int 1] [] true (fun outs res=>outs=[]/\res=[.ag (fO (oneF n))]):=by
 refine ACalls.of_body (C:=C.impl_ConstantLaurent) (n:=Tryz.f63.ntmps) tabT folT Tryz.func63 rfl (by kernel_rfl) rfl (Nat.le_of_ble_eq_true rfl) (by decide) (by kernel_rfl) (by kernel_rfl) rfl (by simp) (by simp) ?_
 simp only [Tryz.f63]
 refine wseq ?_
 refine wreg fun K hK=>?_
 simp [C.impl_ConstantLaurent]
 refine hK _ ?_;clear hK K
 show AWp _ _ _ _ _
 refine wseq ?_
 refine wseq ?_
 refine wregI ([0,1] ++ ([2,3,4,5] ++ ([6,7]))) rfl fun K hK=>?_
 refine oSg fun L hL=>?_
 simp [C.impl_ConstantLaurent,show (1<=(n:Int)) by omega,show ((n:Int)<=8) by omega]
 refine wcall1 (impl_within_c n 1 8) (by simp) (by simp) ?_
 simp [C.impl_ConstantLaurent,show (1<=(n:Int)) by omega,show ((n:Int)<=8) by omega]
 refine hL _ ?_;clear hL L
 refine oSg fun L hL=>?_
 simp [C.impl_ConstantLaurent,show (1<=(n:Int)) by omega,show ((n:Int)<=8) by omega]
 refine wcall1 (impl_within_c 1 (-1000000) 1000000) (by simp) (by simp) ?_
 simp [C.impl_ConstantLaurent,show (1<=(n:Int)) by omega,show ((n:Int)<=8) by omega]
 refine hL _ ?_;clear hL L
 refine oEn fun L hL=>?_
 simp [C.impl_ConstantLaurent,show (1<=(n:Int)) by omega,show ((n:Int)<=8) by omega]
 refine hL _ ?_;clear hL L
 simp [C.impl_ConstantLaurent,show (1<=(n:Int)) by omega,show ((n:Int)<=8) by omega]
 refine hK _ ?_;clear hK K
 show AWp _ _ _ _ _
 refine wcond _ rfl (fun hc1=>?_) (fun hc1=>?_)
 ·simp at hc1
 ·refine wskip ?_
  show AWp _ _ _ _ _
  refine wseq ?_
  refine wseq ?_
  refine wreg fun K hK=>?_
  simp [C.impl_ConstantLaurent]
  refine hK _ ?_;clear hK K
  show AWp _ _ _ _ _
  refine wcond _ rfl (fun hc2=>?_) (fun hc2=>?_)
  ·simp at hc2
  ·refine wskip ?_
   show AWp _ _ _ _ _
   refine wseq ?_
   refine wreg fun K hK=>?_
   simp [C.impl_ConstantLaurent,zeros_ints,show (8:Int)*n<=281474976710656 by omega,show (n:Int)<=281474976710656 by omega]
   refine hK _ ?_;clear hK K
   show AWp _ _ _ _ _
   refine wret ?_
   simp [C.impl_ConstantLaurent,fO,oneF,rows,tO]
end Go.Proofs.YtbhkonnakkhibaaGreat.Ab
namespace Go.Proofs.YtbhkonnakkhibaaGreat.Ab
open Go
theorem pad_inj {a b:List Int} (h:a.length=b.length) (e:pad a=pad b):a=b:=by
 unfold pad at e
 rw [h] at e
 exact List.append_cancel_right e
theorem pad_take {e:List Int}:(pad e).take e.length=e:=by
 unfold pad
 exact List.take_left
theorem mget_none {k:List Int}:∀ {es:List (List Int×Int)},(∀ x∈es,x.1≠k)->mget k es=none
 | [],_=>rfl
 | x :: es,h=>by
  simp only [mget]
  rw [if_neg (h x (by simp))]
  exact mget_none fun y hy=>h y (by simp [hy])
theorem mget_mset {k q:List Int} {v:Int}:∀ (es:List (List Int×Int)),mget q (mset k v es)=if k=q then some v else mget q es
 | []=>by simp [mset,mget]
 | x :: es=>by
  simp only [mset]
  split
  ·rename_i e
   subst e
   simp only [mget]
   split <;> rfl
  ·rename_i e
   simp only [mget,mget_mset es]
   by_cases h1:x.1=q
   ·rw [if_pos h1,if_neg (fun h2=>e (h1.trans h2.symm)),if_pos h1]
   ·rw [if_neg h1,if_neg h1]
theorem mget_mdel {k q:List Int}:∀ (es:List (List Int×Int)),(es.map (·.1)).Nodup->mget q (mdel k es)=if k=q then none else mget q es
 | [],_=>by simp [mdel,mget]
 | x :: es,h=>by
  simp only [List.map_cons,List.nodup_cons] at h
  simp only [mdel]
  split
  ·rename_i e
   subst e
   by_cases h1:x.1=q
   ·rw [if_pos h1]
    exact mget_none fun y hy e2=>h.1 (by rw [h1,<-e2];exact List.mem_map.2 ⟨y,hy,rfl⟩)
   ·rw [if_neg h1]
    simp only [mget]
    rw [if_neg h1]
  ·rename_i e
   simp only [mget,mget_mdel es h.2]
   by_cases h1:x.1=q
   ·rw [if_pos h1,if_neg (fun h2=>e (h1.trans h2.symm)),if_pos h1]
   ·rw [if_neg h1,if_neg h1]
theorem mset_mem {k:List Int} {v:Int}:∀ {es:List (List Int×Int)} {x:List Int×Int},x∈mset k v es->x=(k,v)\/x∈es
 | [],x,h=>by
  simp only [mset,List.mem_singleton] at h
  exact .inl h
 | y :: es,x,h=>by
  simp only [mset] at h
  split at h
  ·rcases List.mem_cons.1 h with h | h
   ·exact .inl h
   ·exact .inr (by simp [h])
  ·rcases List.mem_cons.1 h with h | h
   ·exact .inr (by simp [h])
   ·rcases mset_mem h with h | h
    ·exact .inl h
    ·exact .inr (by simp [h])
theorem mdel_mem {k:List Int}:∀ {es:List (List Int×Int)} {x:List Int×Int},x∈mdel k es->x∈es
 | [],x,h=>by simp [mdel] at h
 | y :: es,x,h=>by
  simp only [mdel] at h
  split at h
  ·simp [h]
  ·rcases List.mem_cons.1 h with h | h
   ·simp [h]
   ·simp [mdel_mem h]
theorem mset_nodup {k:List Int} {v:Int}:∀ {es:List (List Int×Int)},(es.map (·.1)).Nodup->((mset k v es).map (·.1)).Nodup
 | [],_=>by simp [mset]
 | y :: es,h=>by
  simp only [List.map_cons,List.nodup_cons] at h
  simp only [mset]
  split
  ·rename_i e
   simp only [List.map_cons,List.nodup_cons]
   rw [<-e]
   exact h
  ·rename_i e
   simp only [List.map_cons,List.nodup_cons]
   refine ⟨fun hm=>?_,mset_nodup h.2⟩
   obtain ⟨z,hz,e2⟩:=List.mem_map.1 hm
   rcases mset_mem hz with rfl | hz
   ·exact e e2.symm
   ·exact h.1 (List.mem_map.2 ⟨z,hz,e2⟩)
theorem mdel_nodup {k:List Int}:∀ {es:List (List Int×Int)},(es.map (·.1)).Nodup->((mdel k es).map (·.1)).Nodup
 | [],_=>by simp [mdel]
 | y :: es,h=>by
  simp only [List.map_cons,List.nodup_cons] at h
  simp only [mdel]
  split
  ·exact h.2
  ·simp only [List.map_cons,List.nodup_cons]
   refine ⟨fun hm=>?_,mdel_nodup h.2⟩
   obtain ⟨z,hz,e2⟩:=List.mem_map.1 hm
   exact h.1 (List.mem_map.2 ⟨z,mdel_mem hz,e2⟩)
structure MapR (n:Nat) (es l:List (List Int×Int)):Prop where
 nod:(es.map (·.1)).Nodup
 nz:∀ x∈es,x.2≠0/\∃ e,e.length=n/\x.1=pad e
 val:∀ e,e.length=n->(mget (pad e) es).getD 0=co e l
theorem MapR.nil (n:Nat):MapR n [] []:=⟨by simp,by simp,fun e _=>rfl⟩
theorem MapR.add {n:Nat} {es l:List (List Int×Int)} (h:MapR n es l) {e:List Int} (he:e.length=n) (c:Int):MapR n (madd es (pad e) c) ((e,c) :: l):=by
 have hv:=h.val e he
 unfold madd
 split
 ·rename_i hz
  refine ⟨mdel_nodup h.nod,fun x hx=>h.nz x (mdel_mem hx),fun q hq=>?_⟩
  rw [mget_mdel _ h.nod]
  by_cases e1:e=q
  ·subst e1
   rw [if_pos rfl]
   simp only [co,if_true,Option.getD_none]
   omega
  ·rw [if_neg (fun e2=>e1 (pad_inj (he.trans hq.symm) e2)),h.val q hq]
   simp [co,e1]
 ·rename_i hz
  refine ⟨mset_nodup h.nod,fun x hx=>?_,fun q hq=>?_⟩
  ·rcases mset_mem hx with rfl | hx
   ·exact ⟨hz,e,he,rfl⟩
   ·exact h.nz x hx
  ·rw [mget_mset]
   by_cases e1:e=q
   ·subst e1
    rw [if_pos rfl]
    simp only [co,if_true,Option.getD_some]
    omega
   ·rw [if_neg (fun e2=>e1 (pad_inj (he.trans hq.symm) e2)),h.val q hq]
    simp [co,e1]
theorem MapR.len8 {n:Nat} {es l:List (List Int×Int)} (h:MapR n es l) (hn:n<=8):mapLen 8 es:=fun x hx=>by
 obtain ⟨_,e,he,e2⟩:=h.nz x hx
 rw [e2]
 exact pad_length (by omega)
def unpadT (n:Nat) (x:List Int×Int):List Int×Int:=(x.1.take n,x.2)
theorem unpad_co {n:Nat} {es l:List (List Int×Int)} (h:MapR n es l) (hl:∀ x∈l,x.1.length=n):∀ q,co q (es.map (unpadT n))=co q l:=by
 intro q
 by_cases hq:q.length=n
 ·rw [<-h.val q hq]
  have:∀ (es:List (List Int×Int)),(es.map (·.1)).Nodup->(∀ x∈es,∃ e,e.length=n/\x.1=pad e)->co q (es.map (unpadT n))=(mget (pad q) es).getD 0:=by
   intro es
   induction es with
   | nil=>intro _ _;rfl
   | cons x es ih=>
    intro hn hp
    simp only [List.map_cons,List.nodup_cons] at hn
    obtain ⟨e,he,e2⟩:=hp x (by simp)
    have ht:(unpadT n x).1=e:=by
     simp only [unpadT]
     rw [e2,<-he]
     exact pad_take
    simp only [List.map_cons,co,mget]
    rw [ih hn.2 fun y hy=>hp y (by simp [hy]),ht]
    by_cases e3:e=q
    ·subst e3
     rw [if_pos rfl,if_pos e2,mget_none fun y hy e4=>hn.1 (by rw [e2,<-e4];exact List.mem_map.2 ⟨y,hy,rfl⟩)]
     simp [unpadT]
    ·rw [if_neg e3,if_neg (fun e4=>e3 (pad_inj (he.trans hq.symm) (e2.symm.trans e4)))]
     simp
  exact this es h.nod fun x hx=>(h.nz x hx).2
 ·rw [co_none q l fun x hx e=>hq (e ▸ hl x hx),co_none q _ fun x hx e=>hq ?_]
  obtain ⟨y,hy,rfl⟩:=List.mem_map.1 hx
  obtain ⟨_,e',he',e2⟩:=h.nz y hy
  rw [<-e]
  simp only [unpadT]
  rw [e2,<-he',pad_take]
theorem unpad_nf {n:Nat} {es l t:List (List Int×Int)} (h:MapR n es l) (hl:∀ x∈l,x.1.length=n) (hp:t.Perm (es.map (unpadT n))) (hd:Desc lexlt t):t=nf lexlt l:=by
 refine nf_unique lexOrd hd (fun x hx=>?_) fun k=>by rw [co_perm k hp,unpad_co h hl]
 obtain ⟨y,hy,rfl⟩:=List.mem_map.1 (hp.mem_iff.1 hx)
 exact (h.nz y hy).1
end Go.Proofs.YtbhkonnakkhibaaGreat.Ab
namespace Go.Proofs.YtbhkonnakkhibaaGreat.Ab
open Go
set_option maxRecDepth 10000
set_option maxHeartbeats 2000000
def DoneOk:Prop:=∀ (n:Nat) (es l:List (List Int×Int)),MapR n es l->(∀ x∈l,x.1.length=n)->1<=n->n<=8->l.length<=1000000 ->
 ACalls Tryz.prog F.impl_building_done [.pt (0,0) [] 0] [((0,0),.bx [D.int n,.mp es])] true (fun outs res=>outs=[.bx [D.int n,.mp es]]/\res=[.ag (fO (shutF n l).1),.one (D.bool (shutF n l).2)])
theorem pad_add {a b:List Int} (h:a.length=b.length) (k:Int):addE k (pad a) (pad b)=pad (addE k a b):=by
 unfold pad
 rw [addE_length _ _ _ h,<-h]
 generalize 8 - a.length=m
 induction a generalizing b with
 | nil=>cases b with
  | nil=>
   simp only [addE,List.nil_append]
   induction m with
   | zero=>rfl
   | succ m ih=>simp [List.replicate_succ,addE,ih]
  | cons y b=>simp at h
 | cons x a ih=>cases b with
  | nil=>simp at h
  | cons y b=>simp [addE,ih (by simpa using h)]
def absE (l:List (List Int×Int)):Nat:=(l.map fun x=>x.2.natAbs).sum
theorem co_abs (k:List Int):∀ l:List (List Int×Int),(co k l).natAbs<=absE l
 | []=>by simp [co]
 | x :: l=>by
  have:=co_abs k l
  simp only [co,absE,List.map_cons,List.sum_cons] at this ⊢
  split <;> omega
theorem nf_perm {l r:List (List Int×Int)} (h:l.Perm r):nf lexlt l=nf lexlt r:=
 nf_unique lexOrd (nf_desc lexOrd l) (nf_nz l) fun k=>by rw [nf_co,co_perm k h]
theorem shutF_perm {l r:List (List Int×Int)} (h:l.Perm r) (v:Int):shutF v l=shutF v r:=by
 unfold shutF
 rw [nf_perm h]
theorem prodL_step {a b:List (List Int×Int)} {i:Nat} (h:i < a.length):prodL (a.take (i+1)) b=prodL (a.take i) b ++ b.map fun y=>(addE 1 a[i].1 y.1,a[i].2*y.2):=by
 unfold prodL
 rw [List.take_succ_eq_append_getElem h,List.flatMap_append]
 simp
theorem absB {a i j:Nat} (h:a<=(i*600+j)*1000000000000) (hj:j<=600):a<=((i+1)*600)*1000000000000:=
 Nat.le_trans h (Nat.mul_le_mul_right _ (by omega))
theorem natAbs_bd {c:Int} (h:-1000000000000<=c/\c<=1000000000000):c.natAbs<=1000000000000:=by omega
theorem pad_bd {e:List Int} (h:∀ x∈e,-20<=x/\x<=20):∀ x∈pad e,-1000000<=x/\x<=1000000:=fun x hx=>by
 unfold pad at hx
 rcases List.mem_append.1 hx with hx | hx
 ·have:=h x hx;omega
 ·have:=List.eq_of_mem_replicate hx;omega
theorem impl_MulLaurents_c (hDone:DoneOk) (f g:Lau) (hx:f.ts.length < 4611686018427387904) (hxe:∀ t∈f.ts,t.e.length < 4611686018427387904) (hy:g.ts.length < 4611686018427387904) (hye:∀ t∈g.ts,t.e.length < 4611686018427387904):ACalls Tryz.prog F.impl_MulLaurents [aF f,aF g] [] true (fun outs res=>outs=[]/\WkRs res [.ag (fO (mulF f g).1),.one (D.bool (mulF f g).2)]):=by
 refine ACalls.of_body (C:=C.impl_MulLaurents) (n:=Tryz.f85.ntmps) tabT folT Tryz.func85 rfl (by kernel_rfl) rfl (Nat.le_of_ble_eq_true rfl) (by decide) (by kernel_rfl) (by kernel_rfl) rfl (by simp) (by simp) ?_
 simp only [Tryz.f85]
 refine wseq ?_
 refine wreg fun K hK=>?_
 simp [C.impl_MulLaurents,fS]
 refine hK _ ?_;clear hK K
 show AWp _ _ _ _ _
 refine wseq ?_
 refine wseq ?_
 refine wregI ([0,1,2] ++ ([3])) rfl fun K hK=>?_
 refine oSg fun L hL=>?_
 simp [C.impl_MulLaurents,fS]
 refine wcall1 (impl_bothOk_c f g hx hxe hy hye) (by simp) (by simp) ?_
 simp [C.impl_MulLaurents,fS]
 refine hL _ ?_;clear hL L
 refine oEn fun L hL=>?_
 simp [C.impl_MulLaurents,fS]
 refine hL _ ?_;clear hL L
 simp [C.impl_MulLaurents,fS]
 refine hK _ ?_;clear hK K
 show AWp _ _ _ _ _
 refine wcond _ rfl (fun hc1=>?_) (fun hc1=>?_)
 ·have hr:¬ (Right f/\Right g/\f.v=g.v):=by
   intro ⟨q1,q2,q3⟩
   simp [q1,q2,q3] at hc1
  have hm:mulF f g=(zeroF,false):=if_neg hr
  refine wseq ?_
  refine wreg fun K hK=>?_
  simp [C.impl_MulLaurents,fS]
  refine hK _ ?_;clear hK K
  show AWp _ _ _ _ _
  refine wret ?_
  simp [C.impl_MulLaurents,fS,hm,fO,zeroF,rows]
 ·have hr:Right f/\Right g/\f.v=g.v:=by simpa using hc1
  obtain ⟨hf,hg,hfg⟩:=hr
  have hv:=hf.1
  obtain ⟨n,hn⟩:∃ n:Nat,f.v=n:=⟨f.v.toNat,by omega⟩
  have hn2:g.v=n:=by omega
  have hn8:n<=8:=by omega
  have hfl:=hf.2.1
  have hgl:=hg.2.1
  have hm:mulF f g=shutF n (prodL (f.ts.map pr) (g.ts.map pr)):=by
   unfold mulF
   rw [if_pos ⟨hf,hg,hfg⟩,hn]
  refine wskip ?_
  show AWp _ _ _ _ _
  refine wseq ?_
  refine wregI ([0,1,2] ++ ([3])) rfl fun K hK=>?_
  refine oSg fun L hL=>?_
  simp [C.impl_MulLaurents,fS,hn]
  refine wcall1 (impl_newBuilding_c n) (by simp) (by simp) ?_
  simp [C.impl_MulLaurents,fS,hn]
  refine hL _ ?_;clear hL L
  refine oEn fun L hL=>?_
  simp [C.impl_MulLaurents,fS,hn]
  refine hL _ ?_;clear hL L
  simp [C.impl_MulLaurents,fS,hn]
  refine hK _ ?_;clear hK K
  show AWp _ _ _ _ _
  refine wseq ?_
  refine wseq ?_
  refine wreg fun K hK=>?_
  simp [C.impl_MulLaurents,fS]
  refine hK _ ?_;clear hK K
  show AWp _ _ _ _ _
  refine wblock ?_
  refine wloop (fun x:Nat×List (List Int×Int)×List (List Int×Int)=>⟨ofL [(3,.pt (3,0) [] 0),(4,.pt (4,0) [] 0),(6,.pt (6,0) [] 0),(20,.d (.sh 2 f.ts.length (rows tS f.ts))),(21,.int f.ts.length),(22,.int x.1)],ofRO [((3,0),some (.bx (fS g))),((4,0),some (.bx [D.int 0,.v (.slice none 0 0)])),((6,0),some (.bx [D.int n,.mp x.2.1]))]⟩) (fun x=>x.1<=f.ts.length/\MapR n x.2.1 x.2.2/\x.2.2.Perm (prodL ((f.ts.map pr).take x.1) (g.ts.map pr))/\x.2.2.length<=x.1*600/\absE x.2.2<=(x.1*600)*1000000000000) (fun x=>f.ts.length - x.1) (0,[],[]) (by simp [C.impl_MulLaurents,fS]) ⟨by simp,MapR.nil n,by simp [prodL],by simp,by simp [absE]⟩ ?_
  intro x1 hx1 R1 hR1
  obtain ⟨i,es,l⟩:=x1
  obtain ⟨hi,hM,hP,hL,hA⟩:=hx1
  dsimp only at hi hM hP hL hA ⊢
  refine wseq ?_
  refine wreg fun K hK=>?_
  simp [C.impl_MulLaurents,fS]
  refine hK _ ?_;clear hK K
  show AWp _ _ _ _ _
  refine wseq ?_
  refine wcond _ rfl (fun hc2=>?_) (fun hc2=>?_)
  ·have hif:i < f.ts.length:=by have:=d_t hc2;omega
   have hT:=right_dig hf hn _ (List.getElem_mem hif)
   refine wskip ?_
   show AWp _ _ _ _ _
   refine wseq ?_
   refine wblock ?_
   refine wseq ?_
   refine wreg fun K hK=>?_
   simp [C.impl_MulLaurents,fS,hif,tS_0 hif,tS_1 hif]
   refine hK _ ?_;clear hK K
   show AWp _ _ _ _ _
   refine wseq ?_
   refine wreg fun K hK=>?_
   simp [C.impl_MulLaurents,fS]
   refine hK _ ?_;clear hK K
   show AWp _ _ _ _ _
   refine wblock ?_
   refine wloop (fun x:Nat×List (List Int×Int)×List (List Int×Int)=>⟨ofL [(3,.pt (3,0) [] 0),(4,.pt (4,0) [] 0),(6,.pt (6,0) [] 0),(8,.pt (8,0) [] 0),(20,.d (.sh 2 f.ts.length (rows tS f.ts))),(21,.int f.ts.length),(22,.int i),(27,.d (.sh 2 g.ts.length (rows tS g.ts))),(28,.int g.ts.length),(29,.int x.1)],ofRO [((3,0),some (.bx (fS g))),((4,0),some (.bx [D.int 0,.v (.slice none 0 0)])),((6,0),some (.bx [D.int n,.mp x.2.1])),((8,0),some (.bx (tS f.ts[i])))]⟩) (fun x=>x.1<=g.ts.length/\MapR n x.2.1 x.2.2/\x.2.2.Perm (prodL ((f.ts.map pr).take i) (g.ts.map pr) ++ ((g.ts.map pr).take x.1).map fun y=>(addE 1 f.ts[i].e y.1,f.ts[i].c*y.2))/\x.2.2.length<=i*600+x.1/\absE x.2.2<=(i*600+x.1)*1000000000000) (fun x=>g.ts.length - x.1) (0,es,l) (by simp [C.impl_MulLaurents,fS,tS]) ⟨by simp,hM,by simpa using hP,by dsimp only;omega,by dsimp only;omega⟩ ?_
   intro x2 hx2 R2 hR2
   obtain ⟨j,es2,l2⟩:=x2
   obtain ⟨hj,hM2,hP2,hL2,hA2⟩:=hx2
   dsimp only at hj hM2 hP2 hL2 hA2 ⊢
   refine wseq ?_
   refine wreg fun K hK=>?_
   simp [C.impl_MulLaurents,fS]
   refine hK _ ?_;clear hK K
   show AWp _ _ _ _ _
   refine wseq ?_
   refine wcond _ rfl (fun hc3=>?_) (fun hc3=>?_)
   ·have hjg:j < g.ts.length:=by have:=d_t hc3;omega
    have hU:=right_dig hg hn2 _ (List.getElem_mem hjg)
    refine wskip ?_
    show AWp _ _ _ _ _
    refine wseq ?_
    refine wblock ?_
    refine wseq ?_
    refine wreg fun K hK=>?_
    simp [C.impl_MulLaurents,fS,hjg,tS_0 hjg,tS_1 hjg]
    refine hK _ ?_;clear hK K
    show AWp _ _ _ _ _
    obtain ⟨a0,a1,a2,a3,a4,a5,a6,a7,hpa⟩:=eight (pad_length (e:=f.ts[i].e) (by omega))
    obtain ⟨b0,b1,b2,b3,b4,b5,b6,b7,hpb⟩:=eight (pad_length (e:=g.ts[j].e) (by omega))
    have hba:=pad_bd hT.2.2.1
    have hbb:=pad_bd hU.2.2.1
    rw [hpa] at hba
    rw [hpb] at hbb
    have hadd:[a0+b0,a1+b1,a2+b2,a3+b3,a4+b4,a5+b5,a6+b6,a7+b7]=pad (addE 1 f.ts[i].e g.ts[j].e):=by
     rw [<-pad_add (by omega),hpa,hpb]
     simp [addE]
    have hel:(addE 1 f.ts[i].e g.ts[j].e).length=n:=by rw [addE_length _ _ _ (by omega)];omega
    have hcc:=mul_bd hT.2.2.2 hU.2.2.2
    have hval:=hM2.val _ hel
    have hco:=co_abs (addE 1 f.ts[i].e g.ts[j].e) l2
    refine wdrawI [(true,0),(true,1),(true,2),(true,4),(true,5),(true,8),(true,9),(true,10),(true,11),(true,12),(false,3),(false,6),(false,7),(false,13)] ⟨by kernel_rfl,by kernel_rfl⟩ ([0,1,2,4,5,8,9,10,11,12,3] ++ ([6] ++ ([7] ++ ([13] ++ ([]))))) rfl fun K hK=>?_
    refine oSg fun L hL=>?_
    simp [C.impl_MulLaurents,fS,tS,wrapOk (x:=f.ts[i].c*g.ts[j].c) (by omega) (by omega)]
    refine wcall1 (impl_keyOf_c f.ts[i].e (by omega) a0 a1 a2 a3 a4 a5 a6 a7 hpa) (by simp) (by simp) ?_
    simp [C.impl_MulLaurents,fS,tS,wrapOk (x:=f.ts[i].c*g.ts[j].c) (by omega) (by omega)]
    refine hL _ ?_;clear hL L
    refine oSg fun L hL=>?_
    simp [C.impl_MulLaurents,fS,tS,wrapOk (x:=f.ts[i].c*g.ts[j].c) (by omega) (by omega)]
    refine wcall1 (impl_keyOf_c g.ts[j].e (by omega) b0 b1 b2 b3 b4 b5 b6 b7 hpb) (by simp) (by simp) ?_
    simp [C.impl_MulLaurents,fS,tS,wrapOk (x:=f.ts[i].c*g.ts[j].c) (by omega) (by omega)]
    refine hL _ ?_;clear hL L
    refine oSg fun L hL=>?_
    simp [C.impl_MulLaurents,fS,tS,wrapOk (x:=f.ts[i].c*g.ts[j].c) (by omega) (by omega)]
    refine wcall1 (impl_plusExp_c 1 a0 a1 a2 a3 a4 a5 a6 a7 b0 b1 b2 b3 b4 b5 b6 b7 (by omega) hba hbb) (by simp) (by simp) ?_
    simp [C.impl_MulLaurents,fS,tS,wrapOk (x:=f.ts[i].c*g.ts[j].c) (by omega) (by omega)]
    refine hL _ ?_;clear hL L
    refine oSg fun L hL=>?_
    simp [C.impl_MulLaurents,fS,tS,wrapOk (x:=f.ts[i].c*g.ts[j].c) (by omega) (by omega)]
    refine wcall1 (impl_building_add_c n (f.ts[i].c*g.ts[j].c) es2 (a0+1*b0) (a1+1*b1) (a2+1*b2) (a3+1*b3) (a4+1*b4) (a5+1*b5) (a6+1*b6) (a7+1*b7) (hM2.len8 hn8) (by simp only [Int.one_mul];rw [hadd,hval];omega)) (by simp) (by simp) ?_
    simp [C.impl_MulLaurents,fS,tS,wrapOk (x:=f.ts[i].c*g.ts[j].c) (by omega) (by omega)]
    refine hL _ ?_;clear hL L
    refine oEn fun L hL=>?_
    simp only [AOpsI]
    refine hL _ ?_;clear hL L
    simp [C.impl_MulLaurents,fS,tS,wrapOk (x:=f.ts[i].c*g.ts[j].c) (by omega) (by omega)]
    rw [hadd]
    refine hK _ ?_;clear hK K
    show AWp _ _ _ _ _
    refine wreg fun K hK=>?_
    simp [C.impl_MulLaurents,fS,wrap_succ (show j < 4611686018427387904 by omega)]
    refine hK _ ?_;clear hK K
    simp [C.impl_MulLaurents,fS]
    refine hR2 (j+1,_,(addE 1 f.ts[i].e g.ts[j].e,f.ts[i].c*g.ts[j].c) :: l2) ⟨hjg,hM2.add hel _,?_,by dsimp only [List.length_cons];omega,?_⟩ (by dsimp only;omega)
    ·dsimp only
     rw [List.take_succ_eq_append_getElem (by simpa using hjg),List.map_append,<-List.append_assoc]
     refine (List.Perm.cons _ hP2).trans ?_
     simp only [List.getElem_map,List.map_cons,List.map_nil,pr]
     exact (List.perm_append_singleton _ _).symm
    ·have:=natAbs_bd hcc
     simp only [absE,List.map_cons,List.sum_cons] at hA2 ⊢
     omega
   ·have hjg:j=g.ts.length:=by have:=d_f hc3;omega
    refine wexit ?_
    show AWp _ _ _ _ _
    refine wreg fun K hK=>?_
    simp [C.impl_MulLaurents,fS,wrap_succ (show i < 4611686018427387904 by omega)]
    refine hK _ ?_;clear hK K
    simp [C.impl_MulLaurents,fS]
    refine hR1 (i+1,es2,l2) ⟨hif,hM2,?_,by dsimp only;omega,absB hA2 (by omega)⟩ (by dsimp only;omega)
    dsimp only
    rw [prodL_step (by simpa using hif)]
    refine hP2.trans (List.Perm.of_eq ?_)
    rw [List.take_of_length_le (l:=g.ts.map pr) (by simp;omega)]
    simp [pr]
  ·have hif:i=f.ts.length:=by have:=d_f hc2;omega
   have hall:l.Perm (prodL (f.ts.map pr) (g.ts.map pr)):=by
    rw [List.take_of_length_le (l:=f.ts.map pr) (by simp;omega)] at hP
    exact hP
   have hlen:∀ x∈l,x.1.length=n:=fun x hx=>by
    have:=hall.subset hx
    simp only [prodL,List.mem_flatMap,List.mem_map] at this
    obtain ⟨a,⟨t,ht,rfl⟩,b,⟨u,hu,rfl⟩,rfl⟩:=this
    have h1:=right_dig hf hn t ht
    have h2:=right_dig hg hn2 u hu
    simp only [pr]
    rw [addE_length _ _ _ (by omega)]
    omega
   have hs:=shutF_perm hall n
   refine wexit ?_
   show AWp _ _ _ _ _
   refine wseq ?_
   refine wregI ([0,1] ++ ([2,3,4,5])) rfl fun K hK=>?_
   refine oSg fun L hL=>?_
   simp [C.impl_MulLaurents,fS,fO]
   refine wcall1 (hDone n es l hM hlen (by omega) hn8 (by omega)) (by simp) (by simp) ?_
   simp [C.impl_MulLaurents,fS,fO]
   refine hL _ ?_;clear hL L
   refine oEn fun L hL=>?_
   simp [C.impl_MulLaurents,fS,fO]
   refine hL _ ?_;clear hL L
   simp [C.impl_MulLaurents,fS,fO]
   refine hK _ ?_;clear hK K
   show AWp _ _ _ _ _
   refine wret ?_
   simp [C.impl_MulLaurents,fS,hm,<-hs,fO]
theorem iMul_c (hDone:DoneOk):MulOk:=fun f g hx hxe hy hye=>(impl_MulLaurents_c hDone f g hx hxe hy hye).weak1
end Go.Proofs.YtbhkonnakkhibaaGreat.Ab
namespace Go.Proofs.YtbhkonnakkhibaaGreat.Ab
open Go
set_option maxRecDepth 10000
set_option maxHeartbeats 2000000
def SmallF (g:Lau):Prop:=g.ts.length<=600/\(∀ t∈g.ts,t.e.length<=8)/\cntL cntT g.ts<=5400
theorem small_right {g:Lau} (h:Right g):SmallF g:=by
 have he:∀ t∈g.ts,t.e.length<=8:=fun t ht=>by have:=(h.2.2.1 t ht).1;have:=h.1;omega
 refine ⟨h.2.1,he,?_⟩
 have:∀ ts:List Trm,(∀ t∈ts,t.e.length<=8)->cntL cntT ts<=ts.length*9:=fun ts=>by
  induction ts with
  | nil=>intro _;simp [cntL]
  | cons x ts ih=>
   intro h
   have h1:=h x (by simp)
   have h2:=ih fun y hy=>h y (by simp [hy])
   simp only [cntL,cntT,List.length_cons]
   omega
 have h2:=this g.ts he
 have:=h.2.1
 omega
theorem small_zero:SmallF zeroF:=by simp [SmallF,zeroF,cntL]
end Go.Proofs.YtbhkonnakkhibaaGreat.Ab
namespace Go.Proofs.YtbhkonnakkhibaaGreat.Ab
open Go
set_option maxRecDepth 10000
set_option maxHeartbeats 1000000
abbrev aM (m:Mat):FV:=.ag [.int m.n,.int m.r,.d (shI m.d)]
abbrev aS (s:Sed):FV:=.ag [.int s.m.n,.int s.m.r,.d (shI s.m.d),.d (.sh 2 s.f.length (rows fS s.f))]
theorem mat_eq {a b:Mat}:a=b↔a.n=b.n/\a.r=b.r/\a.d=b.d:=by
 cases a;cases b;simp
theorem sed_eq {a b:Sed}:a=b↔a.m=b.m/\a.f=b.f:=by
 cases a;cases b;simp
def SmF (f:Lau):Prop:=f.ts.length < 4611686018427387904/\∀ t∈f.ts,t.e.length < 4611686018427387904
def SmS (s:Sed):Prop:=s.m.d.length < 4611686018427387904/\s.f.length < 4611686018427387904/\∀ f∈s.f,SmF f
end Go.Proofs.YtbhkonnakkhibaaGreat.Ab
namespace Go.Proofs.YtbhkonnakkhibaaGreat.Ab
open Go
set_option maxRecDepth 10000
set_option maxHeartbeats 2000000
def unitL (n i:Nat):List Int:=(List.replicate n 0).set i 1
theorem unitL_length (n i:Nat):(unitL n i).length=n:=by simp [unitL]
noncomputable def monoF (e:List Int):Lau:=if Right ⟨e.length,[⟨e,1⟩]⟩ then ⟨e.length,[⟨e,1⟩]⟩ else zeroF
noncomputable def varsL (r:Nat):List Lau:=(List.range r).map fun i=>monoF (unitL r i)
theorem fO_snoc (l:List Lau) (f:Lau):rows fO l ++ [D.v (.int .i64 f.v),D.ow 2 f.ts.length (rows tO f.ts)]=rows fO (l ++ [f]):=by
 rw [rows_append]
 rfl
theorem mono_right {e:List Int}:Right ⟨e.length,[⟨e,1⟩]⟩↔(1<=(e.length:Int)/\(e.length:Int)<=8)/\okE e e.length=true:=by
 rw [okE_iff]
 unfold Right Good DescT
 simp
theorem spec_l1CopyMatrix_c (m:Mat) (hx:m.d.length < 17592186044416):ACalls Tryz.prog F.spec_l1CopyMatrix [aM m] [] true (fun outs res=>outs=[]/\res=[.ag (mO m)]):=by
 refine ACalls.of_body (C:=C.spec_l1CopyMatrix) (n:=Tryz.f167.ntmps) tabT folT Tryz.func167 rfl (by kernel_rfl) rfl (Nat.le_of_ble_eq_true rfl) (by decide) (by kernel_rfl) (by kernel_rfl) rfl (by simp) (by simp) ?_
 simp only [Tryz.f167]
 refine wseq ?_
 refine wreg fun K hK=>?_
 simp [C.spec_l1CopyMatrix]
 refine hK _ ?_;clear hK K
 show AWp _ _ _ _ _
 refine wseq ?_
 refine wdrawI [(true,0),(true,1),(true,2),(true,3),(true,4),(true,5),(false,6),(true,7),(false,8)] ⟨by kernel_rfl,by kernel_rfl⟩ ([0,1,2,3,4,5,6] ++ ([7,8])) rfl fun K hK=>?_
 refine oSg fun L hL=>?_
 simp [C.spec_l1CopyMatrix]
 refine wcall1 (spec_l1Ints_c m.d hx) (by simp) (by simp) ?_
 simp [C.spec_l1CopyMatrix]
 refine hL _ ?_;clear hL L
 refine oEn fun L hL=>?_
 simp [C.spec_l1CopyMatrix]
 refine hL _ ?_;clear hL L
 simp [C.spec_l1CopyMatrix]
 refine hK _ ?_;clear hK K
 show AWp _ _ _ _ _
 refine wret ?_
 simp [C.spec_l1CopyMatrix,mO]
theorem spec_l3Unit_c (n i:Nat) (hn:n<=8) (hi:i < n):ACalls Tryz.prog F.spec_l3Unit [.int n,.int i] [] true (fun outs res=>outs=[]/\res=[.one (owI (unitL n i))]):=by
 refine ACalls.of_body (C:=C.spec_l3Unit) (n:=Tryz.f59.ntmps) tabT folT Tryz.func59 rfl (by kernel_rfl) rfl (Nat.le_of_ble_eq_true rfl) (by decide) (by kernel_rfl) (by kernel_rfl) rfl (by simp) (by simp) ?_
 simp only [Tryz.f59]
 refine wseq ?_
 refine wreg fun K hK=>?_
 simp [C.spec_l3Unit]
 refine hK _ ?_;clear hK K
 show AWp _ _ _ _ _
 refine wseq ?_
 refine wreg fun K hK=>?_
 simp [C.spec_l3Unit,zeros_ints,show (8:Int)*n<=281474976710656 by omega,show (n:Int)<=281474976710656 by omega]
 refine hK _ ?_;clear hK K
 show AWp _ _ _ _ _
 refine wseq ?_
 refine wreg fun K hK=>?_
 simp [C.spec_l3Unit,hi]
 refine hK _ ?_;clear hK K
 show AWp _ _ _ _ _
 refine wseq ?_
 refine wreg fun K hK=>?_
 simp [C.spec_l3Unit]
 refine hK _ ?_;clear hK K
 show AWp _ _ _ _ _
 refine wret ?_
 simp [C.spec_l3Unit,unitL]
theorem spec_MonomialLaurent_c (e:List Int) (hx:e.length < 17592186044416):ACalls Tryz.prog F.spec_MonomialLaurent [.d (shI e)] [] true (fun outs res=>outs=[]/\WkRs res [.ag (fO (monoF e))]):=by
 refine ACalls.of_body (C:=C.spec_MonomialLaurent) (n:=Tryz.f58.ntmps) tabT folT Tryz.func58 rfl (by kernel_rfl) rfl (Nat.le_of_ble_eq_true rfl) (by decide) (by kernel_rfl) (by kernel_rfl) rfl (by simp) (by simp) ?_
 simp only [Tryz.f58]
 refine wseq ?_
 refine wreg fun K hK=>?_
 simp [C.spec_MonomialLaurent]
 refine hK _ ?_;clear hK K
 show AWp _ _ _ _ _
 refine wseq ?_
 refine wregI ([0,1,2,3] ++ ([4,5,6,7,8])) rfl fun K hK=>?_
 refine oSg fun L hL=>?_
 simp [C.spec_MonomialLaurent]
 refine wcall1 (spec_l1Ints_c e hx) (by simp) (by simp) ?_
 simp [C.spec_MonomialLaurent]
 refine hL _ ?_;clear hL L
 refine oEn fun L hL=>?_
 simp [C.spec_MonomialLaurent]
 refine hL _ ?_;clear hL L
 simp [C.spec_MonomialLaurent]
 refine hK _ ?_;clear hK K
 show AWp _ _ _ _ _
 refine wseq ?_
 refine wseq ?_
 refine wregI ([0,1] ++ ([2])) rfl fun K hK=>?_
 refine oSg fun L hL=>?_
 simp [C.spec_MonomialLaurent,rows,tO,tS]
 refine wcall1 (spec_l2Right_c ⟨e.length,[⟨e,1⟩]⟩ (by simp) (by simp;omega)) (by simp [rows,tO,tS]) (by simp) ?_
 simp [C.spec_MonomialLaurent,rows,tO,tS]
 refine hL _ ?_;clear hL L
 refine oEn fun L hL=>?_
 simp [C.spec_MonomialLaurent,rows,tO,tS]
 refine hL _ ?_;clear hL L
 simp [C.spec_MonomialLaurent,rows,tO,tS]
 refine hK _ ?_;clear hK K
 show AWp _ _ _ _ _
 refine wcond _ rfl (fun hc1=>?_) (fun hc1=>?_)
 ·have hr:=nd_t hc1
  refine wseq ?_
  refine wreg fun K hK=>?_
  simp [C.spec_MonomialLaurent]
  refine hK _ ?_;clear hK K
  show AWp _ _ _ _ _
  refine wret ?_
  simp [C.spec_MonomialLaurent,monoF,hr,fO,zeroF,rows]
 ·have hr:=nd_f hc1
  refine wskip ?_
  show AWp _ _ _ _ _
  refine wseq ?_
  refine wreg fun K hK=>?_
  simp [C.spec_MonomialLaurent]
  refine hK _ ?_;clear hK K
  show AWp _ _ _ _ _
  refine wret ?_
  simp [C.spec_MonomialLaurent,monoF,hr,fO,rows,tO]
theorem sMono_c (e:List Int) (hx:e.length < 17592186044416):ACalls Tryz.prog F.spec_MonomialLaurent [.d (shI e)] [] true (fun outs res=>outs=[]/\res=[.ag (fO (monoF e))]):=(spec_MonomialLaurent_c e hx).weak1
theorem spec_l3Initial_c (n:Int) (r:Nat) (d:List Int) (hr:r<=8) (hx:d.length < 17592186044416):ACalls Tryz.prog F.spec_l3Initial [.ag [.int n,.int r,.d (shI d)]] [] true (fun outs res=>outs=[]/\res=[.ag (sO ⟨⟨n,r,d⟩,varsL r⟩)]):=by
 refine ACalls.of_body (C:=C.spec_l3Initial) (n:=Tryz.f145.ntmps) tabT folT Tryz.func145 rfl (by kernel_rfl) rfl (Nat.le_of_ble_eq_true rfl) (by decide) (by kernel_rfl) (by kernel_rfl) rfl (by simp) (by simp) ?_
 simp only [Tryz.f145]
 refine wseq ?_
 refine wreg fun K hK=>?_
 simp [C.spec_l3Initial]
 refine hK _ ?_;clear hK K
 show AWp _ _ _ _ _
 refine wseq ?_
 refine wregI ([0,1] ++ ([2,3,4])) rfl fun K hK=>?_
 refine oSg fun L hL=>?_
 simp [C.spec_l3Initial,mO]
 refine wcall1 (spec_l1CopyMatrix_c ⟨n,r,d⟩ hx) (by simp) (by simp) ?_
 simp [C.spec_l3Initial,mO]
 refine hL _ ?_;clear hL L
 refine oEn fun L hL=>?_
 simp [C.spec_l3Initial,mO]
 refine hL _ ?_;clear hL L
 simp [C.spec_l3Initial,mO]
 refine hK _ ?_;clear hK K
 show AWp _ _ _ _ _
 refine wseq ?_
 refine wseq ?_
 refine wreg fun K hK=>?_
 simp [C.spec_l3Initial]
 refine hK _ ?_;clear hK K
 show AWp _ _ _ _ _
 refine wblock ?_
 refine wloopW (fun x:Nat×List Lau=>⟨ofL [(1,.pt (1,0) [] 0),(2,.pt (2,0) [] 0),(3,.pt (3,0) [] 0),(4,.int x.1)],ofRO [((1,0),some (.bx [D.int n,D.int r,shI d])),((2,0),some (.bx [D.int 0,D.int 0,.v (.slice none 0 0),.v (.slice none 0 0)])),((3,0),some (.bx [D.int n,D.int r,owI d,.ow 2 x.1 (rows fO x.2)]))]⟩) (fun x=>x.1<=r/\x.2=(List.range x.1).map fun i=>monoF (unitL r i)) (fun x=>r - x.1) (0,[]) [.cell (3,0) [] 3 2] (by simp [C.spec_l3Initial,rows];(first | (constructor <;> funext t) | funext t) <;> simp only [ofL,ofRO] <;> (repeat' (first | rfl | split)) <;> simp_all) (by simp) ?_
 intro x1 hx1 R1 hR1
 obtain ⟨j,gs⟩:=x1
 obtain ⟨hj,hg⟩:=hx1
 dsimp only at hj hg ⊢
 refine wseq ?_
 refine wseq ?_
 refine wreg fun K hK=>?_
 simp [C.spec_l3Initial]
 refine hK _ ?_;clear hK K
 show AWp _ _ _ _ _
 refine wcond _ rfl (fun hc1=>?_) (fun hc1=>?_)
 ·have h1:j < r:=by have:=d_t hc1;omega
  have hgl:gs.length=j:=by rw [hg];simp
  refine wskip ?_
  show AWp _ _ _ _ _
  refine wseq ?_
  refine wblock ?_
  refine wdrawI [(true,0),(true,1),(true,2),(true,3),(true,4),(false,5),(false,6),(false,7),(false,8),(true,9),(false,10)] ⟨by kernel_rfl,by kernel_rfl⟩ ([0,1,2,3,4,5] ++ ([6] ++ ([7,8,9,10]))) rfl fun K hK=>?_
  refine oSg fun L hL=>?_
  simp [C.spec_l3Initial,fO,fO_snoc,show (j+1)*32<=140737488355328 by omega]
  refine wcall1 (spec_l3Unit_c r j hr h1) (by simp) (by simp) ?_
  simp [C.spec_l3Initial,fO,fO_snoc,show (j+1)*32<=140737488355328 by omega]
  refine hL _ ?_;clear hL L
  refine oSg fun L hL=>?_
  simp [C.spec_l3Initial,fO,fO_snoc,show (j+1)*32<=140737488355328 by omega]
  refine wcall1 (sMono_c (unitL r j) (by rw [unitL_length];omega)) (by simp) (by simp) ?_
  simp [C.spec_l3Initial,fO,fO_snoc,show (j+1)*32<=140737488355328 by omega]
  refine hL _ ?_;clear hL L
  refine oEn fun L hL=>?_
  simp [C.spec_l3Initial,fO,fO_snoc,show (j+1)*32<=140737488355328 by omega]
  refine hL _ ?_;clear hL L
  simp [C.spec_l3Initial,fO,fO_snoc,show (j+1)*32<=140737488355328 by omega]
  refine hK _ ?_;clear hK K
  show AWp _ _ _ _ _
  refine wreg fun K hK=>?_
  simp [C.spec_l3Initial,wrap_succ (show j < 4611686018427387904 by omega)]
  refine hK _ ?_;clear hK K
  simp [C.spec_l3Initial]
  refine hR1 (j+1,_) ⟨h1,?_⟩ (by dsimp only;omega)
  dsimp only
  rw [hg,List.range_succ,List.map_append]
  rfl
 ·have h1:j=r:=by have:=d_f hc1;omega
  subst h1
  refine wexit ?_
  show AWp _ _ _ _ _
  refine wseq ?_
  refine wreg fun K hK=>?_
  simp [C.spec_l3Initial]
  refine hK _ ?_;clear hK K
  show AWp _ _ _ _ _
  refine wret ?_
  simp [C.spec_l3Initial,hg,sO,varsL]
abbrev m0:Mat:=⟨2,2,[0,1,-1,0]⟩
noncomputable abbrev z0:Ses:=⟨m0,[],⟨m0,varsL 2⟩⟩
theorem impl_copyLaurent_c (f:Lau) (hl:f.ts.length<=1000000) (he:∀ t∈f.ts,t.e.length < 17592186044416):ACalls Tryz.prog F.impl_copyLaurent [aF f] [] true (fun outs res=>outs=[]/\res=[.ag (fO f)]):=by
 refine ACalls.of_body (C:=C.impl_copyLaurent) (n:=Tryz.f151.ntmps) tabT folT Tryz.func151 rfl (by kernel_rfl) rfl (Nat.le_of_ble_eq_true rfl) (by decide) (by kernel_rfl) (by kernel_rfl) rfl (by simp) (by simp) ?_
 simp only [Tryz.f151]
 refine wseq ?_
 refine wreg fun K hK=>?_
 simp [C.impl_copyLaurent]
 refine hK _ ?_;clear hK K
 show AWp _ _ _ _ _
 refine wseq ?_
 refine wreg fun K hK=>?_
 simp [C.impl_copyLaurent]
 refine hK _ ?_;clear hK K
 show AWp _ _ _ _ _
 refine wseq ?_
 refine wseq ?_
 refine wreg fun K hK=>?_
 simp [C.impl_copyLaurent]
 refine hK _ ?_;clear hK K
 show AWp _ _ _ _ _
 refine wblock ?_
 refine wloopW (fun x:Nat×List Trm=>⟨ofL [(2,.pt (2,0) [] 0),(3,.pt (3,0) [] 0),(10,.d (.sh 2 f.ts.length (rows tS f.ts))),(11,.int f.ts.length),(12,.int x.1)],ofRO [((2,0),some (.bx [D.int 0,.v (.slice none 0 0)])),((3,0),some (.bx [D.int f.v,.ow 2 x.1 (rows tO x.2)]))]⟩) (fun x=>x.1<=f.ts.length/\x.2=f.ts.take x.1) (fun x=>f.ts.length - x.1) (0,[]) [.cell (3,0) [] 1 2] (by simp [C.impl_copyLaurent,rows];(first | (constructor <;> funext t) | funext t) <;> simp only [ofL,ofRO] <;> (repeat' (first | rfl | split)) <;> simp_all) (by simp) ?_
 intro x1 hx1 R1 hR1
 obtain ⟨j,gs⟩:=x1
 obtain ⟨hj,hg⟩:=hx1
 dsimp only at hj hg ⊢
 refine wseq ?_
 refine wreg fun K hK=>?_
 simp [C.impl_copyLaurent]
 refine hK _ ?_;clear hK K
 show AWp _ _ _ _ _
 refine wseq ?_
 refine wcond _ rfl (fun hc1=>?_) (fun hc1=>?_)
 ·have h1:j < f.ts.length:=by have:=d_t hc1;omega
  have hgl:gs.length=j:=by rw [hg];simp;omega
  refine wskip ?_
  show AWp _ _ _ _ _
  refine wseq ?_
  refine wblock ?_
  refine wseq ?_
  refine wreg fun K hK=>?_
  simp [C.impl_copyLaurent,h1,tS_0 h1,tS_1 h1]
  refine hK _ ?_;clear hK K
  show AWp _ _ _ _ _
  refine wdrawI [(true,0),(true,1),(true,2),(true,3),(true,5),(true,6),(false,4),(true,7),(false,8),(false,9),(true,10),(false,11)] ⟨by kernel_rfl,by kernel_rfl⟩ ([0,1,2,3,5,6,4] ++ ([7,8,9,10,11])) rfl fun K hK=>?_
  refine oSg fun L hL=>?_
  simp [C.impl_copyLaurent,h1,tO_snoc,show (j+1)*32<=140737488355328 by omega]
  refine wcall1 (clone_c f.ts[j].e (he _ (List.getElem_mem h1))) (by simp) (by simp) ?_
  simp [C.impl_copyLaurent,h1,tO_snoc,show (j+1)*32<=140737488355328 by omega]
  refine hL _ ?_;clear hL L
  refine oEn fun L hL=>?_
  simp [C.impl_copyLaurent,h1,tO_snoc,show (j+1)*32<=140737488355328 by omega]
  refine hL _ ?_;clear hL L
  simp [C.impl_copyLaurent,h1,tO_snoc,show (j+1)*32<=140737488355328 by omega]
  refine hK _ ?_;clear hK K
  show AWp _ _ _ _ _
  refine wreg fun K hK=>?_
  simp [C.impl_copyLaurent,wrap_succ (show j < 4611686018427387904 by omega)]
  refine hK _ ?_;clear hK K
  simp [C.impl_copyLaurent]
  refine hR1 (j+1,_) ⟨h1,?_⟩ (by dsimp only;omega)
  dsimp only
  rw [hg,List.take_succ_eq_append_getElem h1]
 ·have h1:j=f.ts.length:=by have:=d_f hc1;omega
  refine wexit ?_
  show AWp _ _ _ _ _
  refine wseq ?_
  refine wreg fun K hK=>?_
  simp [C.impl_copyLaurent]
  refine hK _ ?_;clear hK K
  show AWp _ _ _ _ _
  refine wret ?_
  simp [C.impl_copyLaurent,hg,h1,fO]
theorem impl_copySeed_c (s:Sed) (hx:s.m.d.length < 17592186044416) (hl:s.f.length<=1000000) (hf:∀ f∈s.f,f.ts.length<=1000000/\∀ t∈f.ts,t.e.length < 17592186044416):ACalls Tryz.prog F.impl_copySeed [aS s] [] true (fun outs res=>outs=[]/\res=[.ag (sO s)]):=by
 refine ACalls.of_body (C:=C.impl_copySeed) (n:=Tryz.f76.ntmps) tabT folT Tryz.func76 rfl (by kernel_rfl) rfl (Nat.le_of_ble_eq_true rfl) (by decide) (by kernel_rfl) (by kernel_rfl) rfl (by simp) (by simp) ?_
 simp only [Tryz.f76]
 refine wseq ?_
 refine wreg fun K hK=>?_
 simp [C.impl_copySeed,sS]
 refine hK _ ?_;clear hK K
 show AWp _ _ _ _ _
 refine wseq ?_
 refine wdraw (.take 0 (.take 1 (.take 2 (.take 3 (.take 4 (.take 5 (.take 6 (.take 7 (.take 8 (.all [(9,.take 10 (.take 11 (.all [(12,.all [(13,.done)])]))),(12,.all [(9,.take 10 (.take 11 (.all [(13,.done)])))])])))))))))) ⟨by kernel_rfl,by kernel_rfl⟩ fun K hK=>?_
 have hJ:K ⟨ofL [(1,.pt (1,0) [] 0),(2,.pt (2,0) [] 0),(3,.pt (3,0) [] 0)],ofRO [((1,0),some (.bx (sS s))),((2,0),some (.bx [D.int 0,D.int 0,.v (.slice none 0 0),.v (.slice none 0 0)])),((3,0),some (.bx [D.int s.m.n,D.int s.m.r,owI s.m.d,.v (.slice none 0 0)]))]⟩:=by
  refine hK _ ?_;clear hK K
  show AWp _ _ _ _ _
  refine wseq ?_
  refine wseq ?_
  refine wreg fun K hK=>?_
  simp [C.impl_copySeed,sS]
  refine hK _ ?_;clear hK K
  show AWp _ _ _ _ _
  refine wblock ?_
  refine wloopW (fun x:Nat×List Lau=>⟨ofL [(2,.pt (2,0) [] 0),(3,.pt (3,0) [] 0),(19,.d (.sh 2 s.f.length (rows fS s.f))),(20,.int s.f.length),(21,.int x.1)],ofRO [((2,0),some (.bx [D.int 0,D.int 0,.v (.slice none 0 0),.v (.slice none 0 0)])),((3,0),some (.bx [D.int s.m.n,D.int s.m.r,owI s.m.d,.ow 2 x.1 (rows fO x.2)]))]⟩) (fun x=>x.1<=s.f.length/\x.2=s.f.take x.1) (fun x=>s.f.length - x.1) (0,[]) [.cell (3,0) [] 3 2] (by simp [C.impl_copySeed,rows];(first | (constructor <;> funext t) | funext t) <;> simp only [ofL,ofRO] <;> (repeat' (first | rfl | split)) <;> simp_all) (by simp) ?_
  intro x1 hx1 R1 hR1
  obtain ⟨j,gs⟩:=x1
  obtain ⟨hj,hg⟩:=hx1
  dsimp only at hj hg ⊢
  refine wseq ?_
  refine wreg fun K hK=>?_
  simp [C.impl_copySeed,sS]
  refine hK _ ?_;clear hK K
  show AWp _ _ _ _ _
  refine wseq ?_
  refine wcond _ rfl (fun hc1=>?_) (fun hc1=>?_)
  ·have h1:j < s.f.length:=by have:=d_t hc1;omega
   have hgl:gs.length=j:=by rw [hg];simp;omega
   refine wskip ?_
   show AWp _ _ _ _ _
   refine wseq ?_
   refine wblock ?_
   refine wseq ?_
   refine wreg fun K hK=>?_
   simp [C.impl_copySeed,sS,h1,fS_0 h1,fS_1 h1]
   refine hK _ ?_;clear hK K
   show AWp _ _ _ _ _
   refine wdrawI [(true,0),(true,1),(true,2),(false,3),(false,4),(false,5),(true,6),(false,7)] ⟨by kernel_rfl,by kernel_rfl⟩ ([0,1,2,3] ++ ([4,5,6,7])) rfl fun K hK=>?_
   refine oSg fun L hL=>?_
   simp [C.impl_copySeed,sS,h1,fO,fO_snoc,show (j+1)*32<=140737488355328 by omega]
   refine wcall1 (impl_copyLaurent_c s.f[j] (hf _ (List.getElem_mem h1)).1 (hf _ (List.getElem_mem h1)).2) (by simp) (by simp) ?_
   simp [C.impl_copySeed,sS,h1,fO,fO_snoc,show (j+1)*32<=140737488355328 by omega]
   refine hL _ ?_;clear hL L
   refine oEn fun L hL=>?_
   simp [C.impl_copySeed,sS,h1,fO,fO_snoc,show (j+1)*32<=140737488355328 by omega]
   refine hL _ ?_;clear hL L
   simp [C.impl_copySeed,sS,h1,fO,fO_snoc,show (j+1)*32<=140737488355328 by omega]
   refine hK _ ?_;clear hK K
   show AWp _ _ _ _ _
   refine wreg fun K hK=>?_
   simp [C.impl_copySeed,sS,wrap_succ (show j < 4611686018427387904 by omega)]
   refine hK _ ?_;clear hK K
   simp [C.impl_copySeed,sS]
   refine hR1 (j+1,_) ⟨h1,?_⟩ (by dsimp only;omega)
   dsimp only
   rw [hg,List.take_succ_eq_append_getElem h1]
  ·have h1:j=s.f.length:=by have:=d_f hc1;omega
   refine wexit ?_
   show AWp _ _ _ _ _
   refine wseq ?_
   refine wreg fun K hK=>?_
   simp [C.impl_copySeed,sS]
   refine hK _ ?_;clear hK K
   show AWp _ _ _ _ _
   refine wret ?_
   simp [C.impl_copySeed,sS,hg,h1,sO]
 clear hK
 simp [C.impl_copySeed]
 refine ⟨?_,?_⟩
 ·refine wcall1 (clone_c s.m.d hx) (by simp) (by simp) ?_
  simp [C.impl_copySeed]
  exact hJ
 ·refine wcall1 (clone_c s.m.d hx) (by simp) (by simp) ?_
  simp [C.impl_copySeed]
  exact hJ
end Go.Proofs.YtbhkonnakkhibaaGreat.Ab
namespace Go.Proofs.YtbhkonnakkhibaaGreat.Ab
open Go
set_option maxRecDepth 10000
set_option maxHeartbeats 2000000
def minF (x:Int) (ts:List Trm) (i:Nat):Int:=ts.foldl (fun m t=>min m (t.e.getD i 0)) x
theorem minF_snoc (x:Int) (ts:List Trm) (t:Trm) (i:Nat):minF x (ts ++ [t]) i=min (minF x ts i) (t.e.getD i 0):=by simp [minF,List.foldl_append]
theorem minF_le (x:Int) (i:Nat):∀ ts:List Trm,minF x ts i<=x/\(∀ t∈ts,minF x ts i<=t.e.getD i 0)/\(minF x ts i=x\/∃ t∈ts,minF x ts i=t.e.getD i 0):=by
 intro ts
 induction ts generalizing x with
 | nil=>simp [minF]
 | cons t ts ih=>
  obtain ⟨h1,h2,h3⟩:=ih (min x (t.e.getD i 0))
  have e:minF x (t :: ts) i=minF (min x (t.e.getD i 0)) ts i:=rfl
  rw [e]
  refine ⟨by omega,fun u hu=>?_,?_⟩
  ·rcases List.mem_cons.1 hu with rfl | hu
   ·omega
   ·exact h2 u hu
  ·rcases h3 with h3 | ⟨u,hu,h3⟩
   ·by_cases hle:x<=t.e.getD i 0
    ·exact .inl (by rw [h3];omega)
    ·exact .inr ⟨t,by simp,by rw [h3];omega⟩
   ·exact .inr ⟨u,by simp [hu],h3⟩
def lowA (x:Nat->Int) (ts:List Trm) (n:Nat):List Int:=(List.range n).map fun i=>minF (x i) ts i
@[simp] theorem lowA_length (x:Nat->Int) (ts:List Trm) (n:Nat):(lowA x ts n).length=n:=by simp [lowA]
theorem lowA_get (x:Nat->Int) (ts:List Trm) (n i:Nat) (h:i < n):(lowA x ts n)[i]'(by simpa using h)=minF (x i) ts i:=by simp [lowA]
theorem getD_eq {l:List Int} {i:Nat} (h:i < l.length):l.getD i 0=l[i]:=by simp [List.getD,h]
theorem mix_set {α:Type} (xs ys:List α) (i:Nat) (h:i < xs.length) (hl:xs.length=ys.length):(xs.take i ++ ys.drop i).set i xs[i]=xs.take (i+1) ++ ys.drop (i+1):=by
 rw [List.set_append_right _ _ (by simp;omega),List.take_succ_eq_append_getElem h]
 simp only [List.length_take,Nat.min_eq_left (Nat.le_of_lt h),Nat.sub_self]
 rw [List.drop_eq_getElem_cons (by omega),List.set_cons_zero,List.append_assoc]
 rfl
theorem mix_get {α:Type} (xs ys:List α) (i:Nat) (h:i < ys.length) (hl:xs.length=ys.length):(xs.take i ++ ys.drop i)[i]? = some ys[i]:=by
 rw [List.getElem?_append_right (by simp;omega)]
 simp [Nat.min_eq_left (show i<=xs.length by omega),h]
def headE (ts:List Trm) (i:Nat):Int:=match ts with | []=>0 | t :: _=>t.e.getD i 0
theorem lowA_start (ts:List Trm) (n:Nat) (h:0 < ts.length) (he:∀ t∈ts,t.e.length=n):lowA (headE ts) [] n=(ts[0]'h).e:=by
 match ts,h with
 | t :: ts,_=>
  have h1:=he t (by simp)
  apply List.ext_getElem
  ·simp [h1]
  ·intro i h2 h3
   rw [lowA_get _ _ _ _ (by simpa using h2)]
   simp only [minF,List.foldl_nil,headE,List.getElem_cons_zero]
   exact getD_eq h3
def lowL (ts:List Trm) (n:Nat):List Int:=lowA (headE ts) ts n
theorem spec_l2Least_c (f:Lau) (n:Nat) (hn:f.v=n) (hn8:n<=8) (h0:0 < f.ts.length) (hl:f.ts.length<=600) (he:∀ t∈f.ts,t.e.length=n):ACalls Tryz.prog F.spec_l2Least [aF f] [] true (fun outs res=>outs=[]/\res=[.one (owI (lowL f.ts n))]):=by
 have h0e:=he _ (List.getElem_mem h0)
 refine ACalls.of_body (C:=C.spec_l2Least) (n:=Tryz.f233.ntmps) tabT folT Tryz.func233 rfl (by kernel_rfl) rfl (Nat.le_of_ble_eq_true rfl) (by decide) (by kernel_rfl) (by kernel_rfl) rfl (by simp) (by simp) ?_
 simp only [Tryz.f233]
 refine wseq ?_
 refine wreg fun K hK=>?_
 simp [C.spec_l2Least,fS,hn]
 refine hK _ ?_;clear hK K
 show AWp _ _ _ _ _
 refine wseq ?_
 refine wregI ([0,1,2,3,4,5] ++ ([6])) rfl fun K hK=>?_
 refine oSg fun L hL=>?_
 simp [C.spec_l2Least,fS,hn,h0,tS_0 h0]
 refine wcall1 (spec_l1Ints_c f.ts[0].e (by omega)) (by simp) (by simp) ?_
 simp [C.spec_l2Least,fS,hn,h0,tS_0 h0]
 refine hL _ ?_;clear hL L
 refine oEn fun L hL=>?_
 simp [C.spec_l2Least,fS,hn,h0,tS_0 h0]
 refine hL _ ?_;clear hL L
 simp [C.spec_l2Least,fS,hn,h0,tS_0 h0]
 refine hK _ ?_;clear hK K
 show AWp _ _ _ _ _
 refine wseq ?_
 refine wseq ?_
 refine wreg fun K hK=>?_
 simp [C.spec_l2Least,fS,hn]
 refine hK _ ?_;clear hK K
 show AWp _ _ _ _ _
 refine wblock ?_
 refine wloop (fun x:Nat=>⟨ofL [(1,.pt (1,0) [] 0),(3,.al (3,0) [] 0 n),(4,.int x)],ofRO [((1,0),some (.bx (fS f))),((3,0),some (.ow 1 n (ints (lowA (headE f.ts) (f.ts.take x) n))))]⟩) (fun x=>x<=f.ts.length) (fun x=>f.ts.length - x) 0 (by simp [C.spec_l2Least,fS,hn,lowA_start f.ts n h0 he,h0e]) (by simp) ?_
 intro x1 hx1 R1 hR1
 refine wseq ?_
 refine wseq ?_
 refine wreg fun K hK=>?_
 simp [C.spec_l2Least,fS,hn]
 refine hK _ ?_;clear hK K
 show AWp _ _ _ _ _
 refine wcond _ rfl (fun hc1=>?_) (fun hc1=>?_)
 ·have h1:x1 < f.ts.length:=d_t hc1
  have h1e:=he _ (List.getElem_mem h1)
  refine wskip ?_
  show AWp _ _ _ _ _
  refine wseq ?_
  refine wblock ?_
  refine wseq ?_
  refine wreg fun K hK=>?_
  simp [C.spec_l2Least,fS,hn]
  refine hK _ ?_;clear hK K
  show AWp _ _ _ _ _
  refine wblock ?_
  refine wloop (fun x:Nat=>⟨ofL [(1,.pt (1,0) [] 0),(3,.al (3,0) [] 0 n),(4,.int x1),(5,.int x)],ofRO [((1,0),some (.bx (fS f))),((3,0),some (.ow 1 n (ints ((lowA (headE f.ts) (f.ts.take (x1+1)) n).take x ++ (lowA (headE f.ts) (f.ts.take x1) n).drop x))))]⟩) (fun x=>x<=n) (fun x=>n - x) 0 (by simp [C.spec_l2Least,fS,hn]) (by simp) ?_
  intro x2 hx2 R2 hR2
  refine wseq ?_
  refine wseq ?_
  refine wreg fun K hK=>?_
  simp [C.spec_l2Least,fS,hn]
  refine hK _ ?_;clear hK K
  show AWp _ _ _ _ _
  refine wcond _ rfl (fun hc2=>?_) (fun hc2=>?_)
  ·have h2:x2 < n:=by have:=d_t hc2;omega
   have hg1:=mix_get (lowA (headE f.ts) (f.ts.take (x1+1)) n) (lowA (headE f.ts) (f.ts.take x1) n) x2 (by simpa using h2) (by simp)
   have hg2:minF (headE f.ts x2) (f.ts.take (x1+1)) x2=min (minF (headE f.ts x2) (f.ts.take x1) x2) (f.ts[x1].e[x2]'(by omega)):=by
    rw [List.take_succ_eq_append_getElem h1,minF_snoc,getD_eq (by omega)]
   have hset:=mix_set (lowA (headE f.ts) (f.ts.take (x1+1)) n) (lowA (headE f.ts) (f.ts.take x1) n) x2 (by simpa using h2) (by simp)
   rw [lowA_get _ _ _ _ h2] at hset hg1
   rw [hg2] at hset
   have hlen:((lowA (headE f.ts) (f.ts.take (x1+1)) n).take x2 ++ (lowA (headE f.ts) (f.ts.take x1) n).drop x2).length=n:=by simp;omega
   generalize hM:(lowA (headE f.ts) (f.ts.take (x1+1)) n).take x2 ++ (lowA (headE f.ts) (f.ts.take x1) n).drop x2=M at hset hg1 hlen
   have h2M:x2 < M.length:=by omega
   rw [List.getElem?_eq_getElem h2M] at hg1
   have hg3:M[x2]=minF (headE f.ts x2) (f.ts.take x1) x2:=by injection hg1
   rw [<-hg3] at hset
   refine wskip ?_
   show AWp _ _ _ _ _
   refine wseq ?_
   refine wblock ?_
   refine wdrawI [(true,0),(true,1),(true,2),(true,3),(true,4),(true,5),(true,6),(true,7),(true,8),(true,9),(true,10),(true,11),(true,12),(true,13),(true,14),(true,15),(true,16),(false,17)] ⟨by kernel_rfl,by kernel_rfl⟩ ([0,1,2,3,4,5,6,7,8,9,10,11,12,13,14,15,16,17]) rfl fun K hK=>?_
   refine oEn fun L hL=>?_
   simp [C.spec_l2Least,fS,hn,h1,tS_0 h1,h1e,h2,hlen,get_ints,h2M]
   refine hL _ ?_;clear hL L
   simp [C.spec_l2Least,fS,hn,h1,tS_0 h1,h1e,h2,hlen,get_ints,h2M]
   refine hK _ ?_;clear hK K
   show AWp _ _ _ _ _
   refine wreg fun K hK=>?_
   simp [C.spec_l2Least,fS,hn,wrap_succ (show x2 < 4611686018427387904 by omega),hset,modify_const,ints_set]
   refine hK _ ?_;clear hK K
   simp [C.spec_l2Least,fS,hn]
   refine cast (congrArg R2 ?_) (hR2 (x2+1) h2 (by omega))
   simp [fS,hn]
  ·have h2:x2=n:=by have:=d_f hc2;omega
   refine wexit ?_
   show AWp _ _ _ _ _
   refine wreg fun K hK=>?_
   simp [C.spec_l2Least,fS,hn,wrap_succ (show x1 < 4611686018427387904 by omega)]
   refine hK _ ?_;clear hK K
   simp [C.spec_l2Least,fS,hn]
   refine cast (congrArg R1 ?_) (hR1 (x1+1) h1 (by omega))
   simp [fS,hn,h2,List.take_of_length_le,List.drop_of_length_le]
 ·have h1:x1=f.ts.length:=by have:=d_f hc1;omega
  refine wexit ?_
  show AWp _ _ _ _ _
  refine wseq ?_
  refine wreg fun K hK=>?_
  simp [C.spec_l2Least,fS,hn]
  refine hK _ ?_;clear hK K
  show AWp _ _ _ _ _
  refine wret ?_
  simp [C.spec_l2Least,fS,hn,h1,lowL]
def denL (f:Lau):List Int:=(lowL f.ts f.v.toNat).map fun x=>-x
@[simp] theorem denL_length (f:Lau):(denL f).length=f.v.toNat:=by simp [denL,lowL]
theorem right_he {f:Lau} {n:Nat} (h:Right f) (hn:f.v=n):∀ t∈f.ts,t.e.length=n/\∀ x∈t.e,-20<=x/\x<=20:=fun t ht=>by
 have:=h.2.2.1 t ht
 exact ⟨by have:=this.1;omega,this.2.2.2⟩
theorem ieq0 (n:Nat):((n:Int) == 0)=decide (n=0):=by
 rw [Bool.eq_iff_iff];simp
end Go.Proofs.YtbhkonnakkhibaaGreat.Ab
namespace Go.Proofs.YtbhkonnakkhibaaGreat.Ab
open Go
theorem addE_dv:∀ (a b:List Int),a.length=b.length->addE 1 (addE (-1) a b) b=a
 | [],[],_=>rfl
 | x :: a,y :: b,h=>by
  simp only [addE,addE_dv a b (by simpa using h)]
  congr 1
  omega
 | [],_ :: _,h=>by simp at h
 | _ :: _,[],h=>by simp at h
theorem lexlt_addE (k:Int):∀ (x y b:List Int),x.length=b.length->y.length=b.length->lexlt (addE k x b) (addE k y b)=lexlt x y
 | [],[],[],_,_=>rfl
 | u :: x,v :: y,w :: b,h1,h2=>by
  simp only [addE,lexlt,lexlt_addE k x y b (by simpa using h1) (by simpa using h2)]
  by_cases e:u=v
  ·rw [if_pos e,if_pos (by omega)]
  ·rw [if_neg e,if_neg (by omega)]
   congr 1
   simp only [eq_iff_iff]
   omega
 | [],_ :: _,_,h1,h2=>by simp at h1 h2;omega
 | _ :: _,[],_,h1,h2=>by simp at h1 h2;omega
 | _ :: _,_ :: _,[],h1,_=>by simp at h1
 | [],[],_ :: _,h1,_=>by simp at h1
theorem lexlt_addE2:∀ (e x y:List Int),e.length=x.length->e.length=y.length->lexlt (addE 1 e x) (addE 1 e y)=lexlt x y
 | [],[],[],_,_=>rfl
 | w :: e,u :: x,v :: y,h1,h2=>by
  simp only [addE,lexlt,lexlt_addE2 e x y (by simpa using h1) (by simpa using h2)]
  by_cases e:u=v
  ·rw [if_pos e,if_pos (by omega)]
  ·rw [if_neg e,if_neg (by omega)]
   congr 1
   simp only [eq_iff_iff]
   omega
 | [],_ :: _,_,h1,_=>by simp at h1
 | _ :: _,[],_,h1,_=>by simp at h1
 | [],[],_ :: _,_,h2=>by simp at h2
 | _ :: _,_ :: _,[],_,h2=>by simp at h2
theorem lauAct (n:Nat):Act lexlt (addE 1) (addE (-1)) (fun e=>e.length=n) where
 mul_dv a b h1 h2:=addE_dv a b (h1.trans h2.symm)
 dv_lt x y b h1 h2 h3 h:=by rw [lexlt_addE _ _ _ _ (h1.trans h3.symm) (h2.trans h3.symm)];exact h
 mul_lt e x y h1 h2 h3 h:=by rw [lexlt_addE2 _ _ _ (h1.trans h2.symm) (h1.trans h3.symm)];exact h
 dmul a b h1 h2:=by rw [addE_length _ _ _ (h1.trans h2.symm)];exact h1
 ddv a b h1 h2:=by rw [addE_length _ _ _ (h1.trans h2.symm)];exact h1
theorem least_of {α:Type} (f:α->Int):∀ l:List α,l≠[]->∃ x∈l,∀ y∈l,f x<=f y
 | [],h=>absurd rfl h
 | [x],_=>⟨x,by simp,by simp⟩
 | x :: y :: l,_=>by
  obtain ⟨z,hz,hm⟩:=least_of f (y :: l) (by simp)
  by_cases h:f x<=f z
  ·refine ⟨x,by simp,fun u hu=>?_⟩
   rcases List.mem_cons.1 hu with rfl | hu
   ·omega
   ·have:=hm u hu;omega
  ·refine ⟨z,by simp [hz],fun u hu=>?_⟩
   rcases List.mem_cons.1 hu with rfl | hu
   ·omega
   ·exact hm u hu
theorem getD_addE (k:Int) (i:Nat):∀ (a b:List Int),a.length=b.length->(addE k a b).getD i 0=a.getD i 0+k*b.getD i 0:=by
 induction i with
 | zero=>
  intro a b h
  match a,b,h with
  | [],[],_=>simp [addE]
  | x :: a,y :: b,_=>simp [addE]
 | succ i ih=>
  intro a b h
  match a,b,h with
  | [],[],_=>simp [addE]
  | x :: a,y :: b,h=>
   have:=ih a b (by simpa using h)
   simpa [addE,List.getD_cons_succ] using this
def wei (s:Int) (i:Nat) (e:List Int):Int:=s*(e.getD i 0*144115188075855872+keyA 0 e)
theorem wei_add (s:Int) (i:Nat) (a b:List Int) (h:a.length=b.length):wei s i (addE 1 a b)=wei s i a+wei s i b - s*keyA 0 (List.replicate a.length 0):=by
 unfold wei
 have:=keyA_add a b 0 0 0 h
 simp only [Int.add_zero,Int.sub_zero] at this
 rw [this,getD_addE 1 i a b h,<-Int.mul_add,<-Int.mul_sub]
 congr 1
 omega
theorem wei_bd {e:List Int} (hd:Dig e) (h8:e.length<=8):0<=keyA 0 e/\keyA 0 e < 144115188075855872:=by
 have:=keyA_key hd h8
 omega
theorem wei_inj {s:Int} (hs:s=1\/s=-1) {i:Nat} {a b:List Int} (hl:a.length=b.length) (ha:Dig a) (hb:Dig b) (h8:a.length<=8) (h:wei s i a=wei s i b):a=b:=by
 have h1:=wei_bd ha h8
 have h2:=wei_bd hb (by omega)
 refine keyA_inj hl ha hb (p:=0) ?_
 unfold wei at h
 rcases hs with rfl | rfl <;> omega
theorem wei_le {s:Int} (hs:s=1\/s=-1) {i:Nat} {a b:List Int} (ha:Dig a) (hb:Dig b) (h8:a.length<=8) (h8b:b.length<=8) (h:wei s i a<=wei s i b):s*a.getD i 0<=s*b.getD i 0:=by
 have h1:=wei_bd ha h8
 have h2:=wei_bd hb h8b
 unfold wei at h
 rcases hs with rfl | rfl <;> omega
theorem outer {s:Int} (hs:s=1\/s=-1) {n i:Nat} (h8:n<=8) {F O g:List (List Int×Int)} (hO:Desc lexlt O) (hg:Desc lexlt g) (hOz:Nz O) (hgz:Nz g) (hne:g≠[]) (hOD:∀ x∈O,x.1.length=n/\Dig x.1) (hgD:∀ x∈g,x.1.length=n/\Dig x.1)
  (hF:∀ q,co q F=co q (prodK (addE 1) O g)):∀ x∈O,∃ t∈F,∃ y∈g,(∀ z∈g,s*y.1.getD i 0<=s*z.1.getD i 0)/\s*t.1.getD i 0<=s*x.1.getD i 0+s*y.1.getD i 0:=by
 intro x hx
 obtain ⟨a,haO,ham⟩:=least_of (fun u:List Int×Int=>wei s i u.1) O (fun e=>by rw [e] at hx;simp at hx)
 obtain ⟨y,hyg,hym⟩:=least_of (fun u:List Int×Int=>wei s i u.1) g hne
 have ha:=hOD a haO
 have hy:=hgD y hyg
 have huniq:∀ u∈O,∀ v∈g,addE 1 u.1 v.1=addE 1 a.1 y.1->u=a/\v=y:=by
  intro u hu v hv e
  have h1:=hOD u hu
  have h2:=hgD v hv
  have e1:=wei_add s i u.1 v.1 (h1.1.trans h2.1.symm)
  have e2:=wei_add s i a.1 y.1 (ha.1.trans hy.1.symm)
  rw [e,e2,h1.1,ha.1] at e1
  have m1:wei s i a.1<=wei s i u.1:=ham u hu
  have m2:wei s i y.1<=wei s i v.1:=hym v hv
  have k1:u.1=a.1:=wei_inj (i:=i) hs (h1.1.trans ha.1.symm) h1.2 ha.2 (by omega) (by omega)
  have k2:v.1=y.1:=wei_inj (i:=i) hs (h2.1.trans hy.1.symm) h2.2 hy.2 (by omega) (by omega)
  have c1:=co_single lexOrd hO hu
  have c2:=co_single lexOrd hO haO
  have c3:=co_single lexOrd hg hv
  have c4:=co_single lexOrd hg hyg
  rw [k1] at c1
  rw [k2] at c3
  exact ⟨Prod.ext k1 (c1.symm.trans c2),Prod.ext k2 (c3.symm.trans c4)⟩
 have hc:=co_pair2 (mul:=addE 1) lexOrd hO hg haO hyg huniq
 have hnz:co (addE 1 a.1 y.1) F≠0:=by
  rw [hF,hc]
  exact Int.mul_ne_zero (hOz a haO) (hgz y hyg)
 obtain ⟨t,ht,et⟩:=co_mem hnz
 refine ⟨t,ht,y,hyg,fun z hz=>wei_le hs hy.2 (hgD z hz).2 (by omega) (by have:=(hgD z hz).1;omega) (hym z hz),?_⟩
 rw [et,getD_addE 1 i _ _ (ha.1.trans hy.1.symm)]
 have:=wei_le hs ha.2 (hOD x hx).2 (by omega) (by have:=(hOD x hx).1;omega) (ham x hx)
 rw [Int.one_mul,Int.mul_add]
 omega
def maxF (x:Int) (ts:List Trm) (i:Nat):Int:=ts.foldl (fun m t=>max m (t.e.getD i 0)) x
theorem maxF_snoc (x:Int) (ts:List Trm) (t:Trm) (i:Nat):maxF x (ts ++ [t]) i=max (maxF x ts i) (t.e.getD i 0):=by simp [maxF,List.foldl_append]
theorem maxF_ge (x:Int) (i:Nat):∀ ts:List Trm,x<=maxF x ts i/\(∀ t∈ts,t.e.getD i 0<=maxF x ts i)/\(maxF x ts i=x\/∃ t∈ts,maxF x ts i=t.e.getD i 0):=by
 intro ts
 induction ts generalizing x with
 | nil=>simp [maxF]
 | cons t ts ih=>
  obtain ⟨h1,h2,h3⟩:=ih (max x (t.e.getD i 0))
  have e:maxF x (t :: ts) i=maxF (max x (t.e.getD i 0)) ts i:=rfl
  rw [e]
  refine ⟨by omega,fun u hu=>?_,?_⟩
  ·rcases List.mem_cons.1 hu with rfl | hu
   ·omega
   ·exact h2 u hu
  ·rcases h3 with h3 | ⟨u,hu,h3⟩
   ·by_cases hle:t.e.getD i 0<=x
    ·exact .inl (by rw [h3];omega)
    ·exact .inr ⟨t,by simp,by rw [h3];omega⟩
   ·exact .inr ⟨u,by simp [hu],h3⟩
def highA (x:Nat->Int) (ts:List Trm) (n:Nat):List Int:=(List.range n).map fun i=>maxF (x i) ts i
@[simp] theorem highA_length (x:Nat->Int) (ts:List Trm) (n:Nat):(highA x ts n).length=n:=by simp [highA]
theorem highA_get (x:Nat->Int) (ts:List Trm) (n i:Nat) (h:i < n):(highA x ts n)[i]'(by simpa using h)=maxF (x i) ts i:=by simp [highA]
theorem highA_start (ts:List Trm) (n:Nat) (h:0 < ts.length) (he:∀ t∈ts,t.e.length=n):highA (headE ts) [] n=(ts[0]'h).e:=by
 have:=lowA_start ts n h he
 rw [<-this]
 unfold highA lowA minF maxF
 rfl
def highL (ts:List Trm) (n:Nat):List Int:=highA (headE ts) ts n
theorem headE_mem {ts:List Trm} (h:ts≠[]) (i:Nat):∃ t∈ts,headE ts i=t.e.getD i 0:=by
 match ts,h with
 | t :: ts,_=>exact ⟨t,by simp,rfl⟩
theorem lowL_at {ts:List Trm} (h:ts≠[]) {n i:Nat} (hi:i < n):(∀ t∈ts,(lowL ts n).getD i 0<=t.e.getD i 0)/\∃ t∈ts,(lowL ts n).getD i 0=t.e.getD i 0:=by
 have e:(lowL ts n).getD i 0=minF (headE ts i) ts i:=by
  rw [getD_eq (by simpa [lowL] using hi)]
  exact lowA_get _ _ _ _ hi
 rw [e]
 obtain ⟨_,h2,h3⟩:=minF_le (headE ts i) i ts
 refine ⟨h2,?_⟩
 rcases h3 with h3 | h3
 ·rw [h3];exact headE_mem h i
 ·exact h3
theorem highL_at {ts:List Trm} (h:ts≠[]) {n i:Nat} (hi:i < n):(∀ t∈ts,t.e.getD i 0<=(highL ts n).getD i 0)/\∃ t∈ts,(highL ts n).getD i 0=t.e.getD i 0:=by
 have e:(highL ts n).getD i 0=maxF (headE ts i) ts i:=by
  rw [getD_eq (by simpa [highL] using hi)]
  exact highA_get _ _ _ _ hi
 rw [e]
 obtain ⟨_,h2,h3⟩:=maxF_ge (headE ts i) i ts
 refine ⟨h2,?_⟩
 rcases h3 with h3 | h3
 ·rw [h3];exact headE_mem h i
 ·exact h3
def chkI (e:List Int) (q:Int):Bool:=decide ((∀ x∈e,-20<=x/\x<=20)/\q≠0/\-1000000<=q/\q<=1000000)
def inBox (f g:Lau) (n:Nat) (e:List Int):Prop:=∀ i,i < n->(lowL f.ts n).getD i 0 - (lowL g.ts n).getD i 0<=e.getD i 0/\e.getD i 0<=(highL f.ts n).getD i 0 - (highL g.ts n).getD i 0
instance (f g:Lau) (n:Nat) (e:List Int):Decidable (inBox f g n e):=Nat.decidableBallLT n _
def chkS (f g:Lau) (n:Nat) (e:List Int) (q:Int):Bool:=decide (inBox f g n e/\-1000000<=q/\q<=1000000)
def leadE (g:Lau):List Int:=match g.ts with | []=>[] | t :: _=>t.e
def leadC (g:Lau):Int:=match g.ts with | []=>1 | t :: _=>t.c
def divL (chk:List Int->Int->Bool) (g:Lau) (k:Nat) (R:List (List Int×Int)):Option (List (List Int×Int)):=divGo lexlt (addE 1) (addE (-1)) chk (g.ts.map pr) (leadE g) (leadC g) k R
noncomputable def endF (v:Int):Option (List (List Int×Int))->Lau×Bool
 | some O=>if Right ⟨v,O.map tm⟩ then (⟨v,O.map tm⟩,true) else (zeroF,false)
 | none=>(zeroF,false)
noncomputable def divF (f g:Lau):Lau×Bool:=if (Right f/\Right g/\f.v=g.v)/\g.ts≠[] then endF f.v (divL chkI g 600 (f.ts.map pr)) else (zeroF,false)
noncomputable def divS (f g:Lau):Lau×Bool:=if (Right f/\Right g/\f.v=g.v)/\g.ts≠[] then endF f.v (divL (chkS f g f.v.toNat) g 600 (f.ts.map pr)) else (zeroF,false)
theorem pr_desc {f:Lau} (h:Right f):Desc lexlt (f.ts.map pr):=by
 unfold Desc
 rw [List.pairwise_map]
 exact h.2.2.2
theorem pr_nz {f:Lau} (h:Right f):Nz (f.ts.map pr):=fun x hx=>by
 obtain ⟨t,ht,rfl⟩:=List.mem_map.1 hx
 exact (h.2.2.1 t ht).2.1
theorem pr_dig {f:Lau} {n:Nat} (h:Right f) (hn:f.v=n):∀ x∈f.ts.map pr,x.1.length=n/\Dig x.1:=fun x hx=>by
 obtain ⟨t,ht,rfl⟩:=List.mem_map.1 hx
 have:=right_he h hn t ht
 exact ⟨this.1,fun y hy=>by have:=this.2 y hy;omega⟩
theorem divS_eq (f g:Lau):divS f g=divF f g:=by
 unfold divS divF
 split
 ·rename_i hc
  obtain ⟨⟨hf,hg,hfg⟩,hne⟩:=hc
  obtain ⟨n,hn⟩:∃ n:Nat,f.v=n:=⟨f.v.toNat,by have:=hf.1;omega⟩
  have hgn:g.v=n:=by omega
  have hnt:f.v.toNat=n:=by omega
  have h8:n<=8:=by have:=hf.1;omega
  rw [hnt]
  have hgd:=pr_desc hg
  have hgm:g.ts.map pr=(leadE g,leadC g) :: (g.ts.tail.map pr):=by
   unfold leadE leadC
   match hh:g.ts,hne with
   | t :: ts,_=>rfl
  cases hI:divL chkI g 600 (f.ts.map pr) with
  | some O=>
   have hch:=(divGo_all _ _ _ hI).1
   have hOd:Desc lexlt O/\(∀ x∈O,x.1.length=n):=by
    unfold divL at hI
    rw [hgm] at hI hgd
    have:=divGo_desc (chk:=chkI) lexOrd (lauAct n) hgd (by rw [<-hgm];exact fun y hy=>(pr_dig hg hgn y hy).1) 600 _ O hI (pr_desc hf) fun y hy=>(pr_dig hf hn y hy).1
    exact ⟨this.1,this.2.1⟩
   have hOz:Nz O:=fun x hx=>by
    have:=hch x hx
    simp only [chkI,decide_eq_true_eq] at this
    exact this.2.1
   have hex:=divGo_exact _ _ _ hI
   have hS:divL (chkS f g n) g 600 (f.ts.map pr)=some O:=by
    refine divGo_chk _ _ _ hI fun x hx=>?_
    have hcx:=hch x hx
    simp only [chkI,decide_eq_true_eq] at hcx
    simp only [chkS,decide_eq_true_eq]
    refine ⟨fun i hi=>?_,hcx.2.2⟩
    have hOD:∀ x∈O,x.1.length=n/\Dig x.1:=fun x hx=>⟨hOd.2 x hx,fun z hz=>by
     have:=hch x hx
     simp only [chkI,decide_eq_true_eq] at this
     have:=this.1 z hz
     omega⟩
    have hfne:f.ts≠[]:=by
     rintro e
     have:=outer (s:=1) (i:=i) (.inl rfl) h8 hOd.1 (pr_desc hg) hOz (pr_nz hg) (by simpa using hne) hOD (pr_dig hg hgn) hex x hx
     obtain ⟨t,ht,_⟩:=this
     rw [e] at ht
     simp at ht
    obtain ⟨lf1,_⟩:=lowL_at hfne hi
    obtain ⟨_,tl,htl,lg2⟩:=lowL_at hne hi
    obtain ⟨hf1,_⟩:=highL_at hfne hi
    obtain ⟨_,th,hth,hg2⟩:=highL_at hne hi
    obtain ⟨t,ht,y,hy,m1,m2⟩:=outer (s:=1) (i:=i) (.inl rfl) h8 hOd.1 (pr_desc hg) hOz (pr_nz hg) (by simpa using hne) hOD (pr_dig hg hgn) hex x hx
    obtain ⟨t',ht',y',hy',m1',m2'⟩:=outer (s:=-1) (i:=i) (.inr rfl) h8 hOd.1 (pr_desc hg) hOz (pr_nz hg) (by simpa using hne) hOD (pr_dig hg hgn) hex x hx
    obtain ⟨u,hu,rfl⟩:=List.mem_map.1 ht
    obtain ⟨u',hu',rfl⟩:=List.mem_map.1 ht'
    have a1:=lf1 u hu
    have a2:=m1 (pr tl) (List.mem_map.2 ⟨tl,htl,rfl⟩)
    have a3:=hf1 u' hu'
    have a4:=m1' (pr th) (List.mem_map.2 ⟨th,hth,rfl⟩)
    simp only [pr] at m2 m2' a2 a4
    constructor <;> omega
   rw [hS]
  | none=>
   cases hS:divL (chkS f g n) g 600 (f.ts.map pr) with
   | none=>rfl
   | some O=>
    simp only [endF]
    rw [if_neg]
    intro hr
    have:divL chkI g 600 (f.ts.map pr)=some O:=by
     refine divGo_chk _ _ _ hS fun x hx=>?_
     have:=hr.2.2.1 (tm x) (List.mem_map.2 ⟨x,hx,rfl⟩)
     simp only [chkI,decide_eq_true_eq]
     exact ⟨this.2.2.2,this.2.1,this.2.2.1⟩
    rw [hI] at this
    simp at this
 ·rfl
end Go.Proofs.YtbhkonnakkhibaaGreat.Ab
namespace Go.Proofs.YtbhkonnakkhibaaGreat.Ab
open Go
structure DivJ (chk:List Int->Int->Bool) (f g:Lau) (n:Nat) (R O:List (List Int×Int)):Prop where
 run:divL chk g 600 (f.ts.map pr)=(divL chk g (600 - O.length) R).map (O ++ ·)
 ol:O.length<=600
 rd:Desc lexlt R
 rl:∀ y∈R,y.1.length=n/\∀ z∈y.1,-60<=z/\z<=60
 ra:absK R<=600000000+O.length*600000000000000
 rn:R.length<=600+O.length*600
 od:∀ x∈O,x.1.length=n/\∀ z∈x.1,-40<=z/\z<=40
theorem absK_le {l:List (List Int×Int)} {B:Nat} (h:∀ x∈l,x.2.natAbs<=B):absK l<=l.length*B:=by
 induction l with
 | nil=>simp [absK]
 | cons x l ih=>
  have h1:=h x (by simp)
  have h2:=ih fun y hy=>h y (by simp [hy])
  simp only [absK,List.map_cons,List.sum_cons,List.length_cons,Nat.add_mul,Nat.one_mul] at h2 ⊢
  omega
theorem right_absK {f:Lau} (h:Right f):absK (f.ts.map pr)<=600000000:=by
 have h1:absK (f.ts.map pr)<=(f.ts.map pr).length*1000000:=absK_le fun x hx=>by
  obtain ⟨t,ht,rfl⟩:=List.mem_map.1 hx
  have:=(h.2.2.1 t ht).2.2.1
  simp only [pr]
  omega
 have h2:=h.2.1
 simp only [List.length_map] at h1
 exact Nat.le_trans h1 (by omega)
theorem DivJ.start (chk:List Int->Int->Bool) {f g:Lau} {n:Nat} (hf:Right f) (hn:f.v=n):DivJ chk f g n (f.ts.map pr) []:=by
 refine ⟨?_,by simp,pr_desc hf,fun y hy=>?_,by simpa using right_absK hf,by simpa using hf.2.1,by simp⟩
 ·simp only [List.length_nil,Nat.sub_zero,List.nil_append]
  cases divL chk g 600 (f.ts.map pr) <;> rfl
 ·obtain ⟨t,ht,rfl⟩:=List.mem_map.1 hy
  have:=right_he hf hn t ht
  exact ⟨this.1,fun z hz=>by have:=this.2 z hz;omega⟩
theorem DivJ.dig {chk:List Int->Int->Bool} {f g:Lau} {n:Nat} {R O:List (List Int×Int)} (h:DivJ chk f g n R O):∀ y∈R,y.1.length=n/\Dig y.1:=fun y hy=>⟨(h.rl y hy).1,fun z hz=>by have:=(h.rl y hy).2 z hz;omega⟩
theorem DivJ.done {chk:List Int->Int->Bool} {f g:Lau} {n:Nat} {O:List (List Int×Int)} (h:DivJ chk f g n [] O):divL chk g 600 (f.ts.map pr)=some O:=by
 rw [h.run]
 cases 600 - O.length <;> simp [divL,divGo]
theorem DivJ.fail {chk:List Int->Int->Bool} {f g:Lau} {n:Nat} {x:List Int×Int} {R O:List (List Int×Int)} (h:DivJ chk f g n (x :: R) O) (hc:¬ (x.2.tmod (leadC g)=0/\chk (addE (-1) x.1 (leadE g)) (x.2.tdiv (leadC g))=true)\/O.length=600):divL chk g 600 (f.ts.map pr)=none:=by
 rw [h.run]
 rcases Nat.eq_zero_or_pos (600 - O.length) with e | e
 ·rw [e];rfl
 ·obtain ⟨k,hk⟩:∃ k,600 - O.length=k+1:=⟨600 - O.length - 1,by omega⟩
  rw [hk]
  rcases hc with hc | hc
  ·simp only [divL,divGo]
   rw [if_neg hc]
   rfl
  ·omega
def stepL (g:Lau) (x:List Int×Int) (R:List (List Int×Int)):List (List Int×Int):=x :: R ++ mulT (addE 1) (addE (-1) x.1 (leadE g)) (-(x.2.tdiv (leadC g))) (g.ts.map pr)
theorem addE_bd {B C:Int}:∀ {a b:List Int} {k:Int},(k=1\/k=-1)->a.length=b.length->(∀ z∈a,-B<=z/\z<=B)->(∀ z∈b,-C<=z/\z<=C)->∀ z∈addE k a b,-(B+C)<=z/\z<=B+C
 | [],[],k,_,_,_,_=>by simp [addE]
 | x :: a,y :: b,k,hk,h,ha,hb=>by
  intro z hz
  have h1:=ha x (by simp)
  have h2:=hb y (by simp)
  simp only [addE,List.mem_cons] at hz
  rcases hz with rfl | hz
  ·rcases hk with rfl | rfl <;> omega
  ·exact addE_bd hk (by simpa using h) (fun z hz=>ha z (by simp [hz])) (fun z hz=>hb z (by simp [hz])) z hz
 | [],_ :: _,_,_,h,_,_=>by simp at h
 | _ :: _,[],_,_,h,_,_=>by simp at h
theorem DivJ.step {chk:List Int->Int->Bool} {f g:Lau} {n:Nat} {x:List Int×Int} {R O:List (List Int×Int)} (h:DivJ chk f g n (x :: R) O) (hg:Right g) (hgn:g.v=n) (hm:x.2.tmod (leadC g)=0) (hc:chk (addE (-1) x.1 (leadE g)) (x.2.tdiv (leadC g))=true) (h6:O.length < 600)
  (hel:(addE (-1) x.1 (leadE g)).length=n) (hb:∀ z∈addE (-1) x.1 (leadE g),-40<=z/\z<=40) (hq:-1000000<=x.2.tdiv (leadC g)/\x.2.tdiv (leadC g)<=1000000) :
  DivJ chk f g n (nf lexlt (stepL g x R)) (O ++ [(addE (-1) x.1 (leadE g),x.2.tdiv (leadC g))]):=by
 have hga:=right_absK hg
 have hgl:=hg.2.1
 have hab:=nf_abs (lt:=lexlt) (stepL g x R)
 have hlen:(O ++ [(addE (-1) x.1 (leadE g),x.2.tdiv (leadC g))]).length=O.length+1:=by simp
 refine ⟨?_,by omega,nf_desc lexOrd _,fun y hy=>?_,?_,?_,fun y hy=>?_⟩
 ·rw [h.run]
  obtain ⟨k,hk⟩:∃ k,600 - O.length=k+1:=⟨600 - O.length - 1,by omega⟩
  rw [hlen,hk,show 600 - (O.length+1)=k by omega]
  simp only [divL,divGo]
  rw [if_pos ⟨hm,hc⟩]
  simp only [Option.map_map,stepL]
  congr 1
  funext z
  simp
 ·obtain ⟨z,hz,e⟩:=nf_mem hy
  rw [<-e]
  unfold stepL at hz
  rcases List.mem_append.1 hz with hz | hz
  ·exact h.rl z hz
  ·obtain ⟨u,hu,rfl⟩:=List.mem_map.1 hz
   obtain ⟨t,ht,rfl⟩:=List.mem_map.1 hu
   have ht2:=right_he hg hgn t ht
   refine ⟨by simp only [pr];rw [addE_length _ _ _ (hel.trans ht2.1.symm)];exact hel,?_⟩
   exact addE_bd (B:=40) (C:=20) (.inl rfl) (hel.trans ht2.1.symm) hb ht2.2
 ·refine Nat.le_trans hab.1 ?_
  unfold stepL
  rw [absK_append,mulT_abs,hlen]
  have h1:=h.ra
  have h2:(-(x.2.tdiv (leadC g))).natAbs*absK (g.ts.map pr)<=1000000*600000000:=Nat.mul_le_mul (by omega) hga
  omega
 ·refine Nat.le_trans hab.2 ?_
  unfold stepL
  rw [List.length_append,mulT_length,List.length_map,hlen]
  have h1:=h.rn
  omega
 ·rcases List.mem_append.1 hy with hy | hy
  ·exact h.od y hy
  ·simp only [List.mem_singleton] at hy
   subst hy
   exact ⟨hel,hb⟩
theorem inBox_bd {f g:Lau} {n:Nat} (hf:Right f) (hg:Right g) (hn:f.v=n) (hgn:g.v=n) (hfne:f.ts≠[]) (hgne:g.ts≠[]) {e:List Int} (hl:e.length=n) (hb:inBox f g n e):∀ z∈e,-40<=z/\z<=40:=by
 intro z hz
 obtain ⟨i,hi,rfl⟩:=List.getElem_of_mem hz
 have h1:=hb i (by omega)
 obtain ⟨_,t1,ht1,q1⟩:=lowL_at hfne (show i < n by omega)
 obtain ⟨_,t2,ht2,q2⟩:=lowL_at hgne (show i < n by omega)
 obtain ⟨_,t3,ht3,q3⟩:=highL_at hfne (show i < n by omega)
 obtain ⟨_,t4,ht4,q4⟩:=highL_at hgne (show i < n by omega)
 have b:∀ {u:Lau} (hu:Right u) (hun:u.v=n) {t:Trm} (ht:t∈u.ts),-20<=t.e.getD i 0/\t.e.getD i 0<=20:=fun {u} hu hun {t} ht=>by
  have:=right_he hu hun t ht
  rw [getD_eq (by omega)]
  exact this.2 _ (List.getElem_mem _)
 have b1:=b hf hn ht1
 have b2:=b hg hgn ht2
 have b3:=b hf hn ht3
 have b4:=b hg hgn ht4
 rw [q1,q2,q3,q4,getD_eq hi] at h1
 omega
theorem lowL_bd {f:Lau} {n:Nat} (hf:Right f) (hn:f.v=n) (hne:f.ts≠[]) {i:Nat} (hi:i < n):(-20<=(lowL f.ts n).getD i 0/\(lowL f.ts n).getD i 0<=20)/\-20<=(highL f.ts n).getD i 0/\(highL f.ts n).getD i 0<=20:=by
 obtain ⟨_,t1,ht1,q1⟩:=lowL_at hne hi
 obtain ⟨_,t3,ht3,q3⟩:=highL_at hne hi
 have b:∀ {t:Trm} (ht:t∈f.ts),-20<=t.e.getD i 0/\t.e.getD i 0<=20:=fun {t} ht=>by
  have:=right_he hf hn t ht
  rw [getD_eq (by omega)]
  exact this.2 _ (List.getElem_mem _)
 rw [q1,q3]
 exact ⟨b ht1,b ht3⟩
theorem lead_get {g:Lau} (h:0 < g.ts.length):(g.ts[0]'h).e=leadE g/\(g.ts[0]'h).c=leadC g:=by
 unfold leadE leadC
 match hh:g.ts,h with
 | t :: ts,_=>simp
theorem step_coded {g:Lau} {n:Nat} (hg:Right g) (hgn:g.v=n) {x:List Int×Int} {R:List (List Int×Int)} (hR:∀ y∈x :: R,y.1.length=n/\Dig y.1) (hel:(addE (-1) x.1 (leadE g)).length=n) (hb:∀ z∈addE (-1) x.1 (leadE g),-40<=z/\z<=40) :
  nf ilt ((x :: R).map kc ++ (nf ilt (prodM (keyA 0 (List.replicate n 0)) [(keyA 0 (addE (-1) x.1 (leadE g)),x.2.tdiv (leadC g))] (g.ts.map kt))).map (fun y=>(y.1,-1*y.2)))=(nf lexlt (stepL g x R)).map kc:=by
 generalize he:addE (-1) x.1 (leadE g)=e at hel hb
 generalize hq:x.2.tdiv (leadC g)=q
 have h1:prodM (keyA 0 (List.replicate n 0)) [(keyA 0 e,q)] (g.ts.map kt)=(mulT (addE 1) e q (g.ts.map pr)).map kc:=by
  simp only [prodM,List.flatMap_cons,List.flatMap_nil,List.append_nil,mulT,List.map_map]
  apply List.map_congr_left
  intro t ht
  have ht2:=right_he hg hgn t ht
  have hk:=keyA_add e t.e 0 0 0 (hel.trans ht2.1.symm)
  simp only [Int.add_zero,Int.sub_zero] at hk
  simp only [Function.comp,pM,kt,kc,pr]
  rw [hk,hel]
 have hM:Exps n (mulT (addE 1) e q (g.ts.map pr)):=fun y hy=>by
  obtain ⟨u,hu,rfl⟩:=List.mem_map.1 hy
  obtain ⟨t,ht,rfl⟩:=List.mem_map.1 hu
  have ht2:=right_he hg hgn t ht
  refine ⟨by simp only [pr];rw [addE_length _ _ _ (hel.trans ht2.1.symm)];exact hel,fun z hz=>?_⟩
  have:=addE_bd (B:=40) (C:=20) (.inl rfl) (hel.trans ht2.1.symm) hb ht2.2 z hz
  omega
 rw [h1,nf_key _ hM,List.map_map]
 have h2:(fun y:Int×Int=>(y.1,-1*y.2)) ∘ kc=kc ∘ fun y:List Int×Int=>(y.1,-1*y.2):=rfl
 rw [h2,<-List.map_map,<-List.map_append,nf_key]
 ·congr 1
  refine nf_unique lexOrd (nf_desc lexOrd _) (nf_nz _) fun k=>?_
  rw [nf_co,stepL,he,hq,co_append,co_append,co_mulT_neg]
  congr 1
  have:∀ l:List (List Int×Int),co k (l.map fun y=>(y.1,-1*y.2))=-co k l:=fun l=>by
   induction l with
   | nil=>rfl
   | cons y l ih=>
    simp only [List.map_cons,co,ih]
    split <;> omega
  rw [this,nf_co]
 ·intro y hy
  rcases List.mem_append.1 hy with hy | hy
  ·exact hR y hy
  ·obtain ⟨z,hz,rfl⟩:=List.mem_map.1 hy
   exact nf_exps hM z hz
end Go.Proofs.YtbhkonnakkhibaaGreat.Ab
namespace Go.Proofs.YtbhkonnakkhibaaGreat.Ab
open Go
set_option maxRecDepth 10000
set_option maxHeartbeats 2000000
theorem spec_l2Most_c (f:Lau) (n:Nat) (hn:f.v=n) (hn8:n<=8) (h0:0 < f.ts.length) (hl:f.ts.length<=600) (he:∀ t∈f.ts,t.e.length=n):ACalls Tryz.prog F.spec_l2Most [aF f] [] true (fun outs res=>outs=[]/\res=[.one (owI (highL f.ts n))]):=by
 have h0e:=he _ (List.getElem_mem h0)
 refine ACalls.of_body (C:=C.spec_l2Most) (n:=Tryz.f234.ntmps) tabT folT Tryz.func234 rfl (by kernel_rfl) rfl (Nat.le_of_ble_eq_true rfl) (by decide) (by kernel_rfl) (by kernel_rfl) rfl (by simp) (by simp) ?_
 simp only [Tryz.f234]
 refine wseq ?_
 refine wreg fun K hK=>?_
 simp [C.spec_l2Most,fS,hn]
 refine hK _ ?_;clear hK K
 show AWp _ _ _ _ _
 refine wseq ?_
 refine wregI ([0,1,2,3,4,5] ++ ([6])) rfl fun K hK=>?_
 refine oSg fun L hL=>?_
 simp [C.spec_l2Most,fS,hn,h0,tS_0 h0]
 refine wcall1 (spec_l1Ints_c f.ts[0].e (by omega)) (by simp) (by simp) ?_
 simp [C.spec_l2Most,fS,hn,h0,tS_0 h0]
 refine hL _ ?_;clear hL L
 refine oEn fun L hL=>?_
 simp [C.spec_l2Most,fS,hn,h0,tS_0 h0]
 refine hL _ ?_;clear hL L
 simp [C.spec_l2Most,fS,hn,h0,tS_0 h0]
 refine hK _ ?_;clear hK K
 show AWp _ _ _ _ _
 refine wseq ?_
 refine wseq ?_
 refine wreg fun K hK=>?_
 simp [C.spec_l2Most,fS,hn]
 refine hK _ ?_;clear hK K
 show AWp _ _ _ _ _
 refine wblock ?_
 refine wloop (fun x:Nat=>⟨ofL [(1,.pt (1,0) [] 0),(3,.al (3,0) [] 0 n),(4,.int x)],ofRO [((1,0),some (.bx (fS f))),((3,0),some (.ow 1 n (ints (highA (headE f.ts) (f.ts.take x) n))))]⟩) (fun x=>x<=f.ts.length) (fun x=>f.ts.length - x) 0 (by simp [C.spec_l2Most,fS,hn,highA_start f.ts n h0 he,h0e]) (by simp) ?_
 intro x1 hx1 R1 hR1
 refine wseq ?_
 refine wseq ?_
 refine wreg fun K hK=>?_
 simp [C.spec_l2Most,fS,hn]
 refine hK _ ?_;clear hK K
 show AWp _ _ _ _ _
 refine wcond _ rfl (fun hc1=>?_) (fun hc1=>?_)
 ·have h1:x1 < f.ts.length:=d_t hc1
  have h1e:=he _ (List.getElem_mem h1)
  refine wskip ?_
  show AWp _ _ _ _ _
  refine wseq ?_
  refine wblock ?_
  refine wseq ?_
  refine wreg fun K hK=>?_
  simp [C.spec_l2Most,fS,hn]
  refine hK _ ?_;clear hK K
  show AWp _ _ _ _ _
  refine wblock ?_
  refine wloop (fun x:Nat=>⟨ofL [(1,.pt (1,0) [] 0),(3,.al (3,0) [] 0 n),(4,.int x1),(5,.int x)],ofRO [((1,0),some (.bx (fS f))),((3,0),some (.ow 1 n (ints ((highA (headE f.ts) (f.ts.take (x1+1)) n).take x ++ (highA (headE f.ts) (f.ts.take x1) n).drop x))))]⟩) (fun x=>x<=n) (fun x=>n - x) 0 (by simp [C.spec_l2Most,fS,hn]) (by simp) ?_
  intro x2 hx2 R2 hR2
  refine wseq ?_
  refine wseq ?_
  refine wreg fun K hK=>?_
  simp [C.spec_l2Most,fS,hn]
  refine hK _ ?_;clear hK K
  show AWp _ _ _ _ _
  refine wcond _ rfl (fun hc2=>?_) (fun hc2=>?_)
  ·have h2:x2 < n:=by have:=d_t hc2;omega
   have hg1:=mix_get (highA (headE f.ts) (f.ts.take (x1+1)) n) (highA (headE f.ts) (f.ts.take x1) n) x2 (by simpa using h2) (by simp)
   have hg2:maxF (headE f.ts x2) (f.ts.take (x1+1)) x2=max (maxF (headE f.ts x2) (f.ts.take x1) x2) (f.ts[x1].e[x2]'(by omega)):=by
    rw [List.take_succ_eq_append_getElem h1,maxF_snoc,getD_eq (by omega)]
   have hset:=mix_set (highA (headE f.ts) (f.ts.take (x1+1)) n) (highA (headE f.ts) (f.ts.take x1) n) x2 (by simpa using h2) (by simp)
   rw [highA_get _ _ _ _ h2] at hset hg1
   rw [hg2] at hset
   have hlen:((highA (headE f.ts) (f.ts.take (x1+1)) n).take x2 ++ (highA (headE f.ts) (f.ts.take x1) n).drop x2).length=n:=by simp;omega
   generalize hM:(highA (headE f.ts) (f.ts.take (x1+1)) n).take x2 ++ (highA (headE f.ts) (f.ts.take x1) n).drop x2=M at hset hg1 hlen
   have h2M:x2 < M.length:=by omega
   rw [List.getElem?_eq_getElem h2M] at hg1
   have hg3:M[x2]=maxF (headE f.ts x2) (f.ts.take x1) x2:=by injection hg1
   rw [<-hg3] at hset
   refine wskip ?_
   show AWp _ _ _ _ _
   refine wseq ?_
   refine wblock ?_
   refine wdrawI [(true,0),(true,1),(true,2),(true,3),(true,4),(true,5),(true,6),(true,7),(true,8),(true,9),(true,10),(true,11),(true,12),(true,13),(true,14),(true,15),(true,16),(false,17)] ⟨by kernel_rfl,by kernel_rfl⟩ ([0,1,2,3,4,5,6,7,8,9,10,11,12,13,14,15,16,17]) rfl fun K hK=>?_
   refine oEn fun L hL=>?_
   simp [C.spec_l2Most,fS,hn,h1,tS_0 h1,h1e,h2,hlen,get_ints,h2M]
   refine hL _ ?_;clear hL L
   simp [C.spec_l2Most,fS,hn,h1,tS_0 h1,h1e,h2,hlen,get_ints,h2M]
   refine hK _ ?_;clear hK K
   show AWp _ _ _ _ _
   refine wreg fun K hK=>?_
   simp [C.spec_l2Most,fS,hn,wrap_succ (show x2 < 4611686018427387904 by omega),hset,modify_const,ints_set]
   refine hK _ ?_;clear hK K
   simp [C.spec_l2Most,fS,hn]
   refine cast (congrArg R2 ?_) (hR2 (x2+1) h2 (by omega))
   simp [fS,hn]
  ·have h2:x2=n:=by have:=d_f hc2;omega
   refine wexit ?_
   show AWp _ _ _ _ _
   refine wreg fun K hK=>?_
   simp [C.spec_l2Most,fS,hn,wrap_succ (show x1 < 4611686018427387904 by omega)]
   refine hK _ ?_;clear hK K
   simp [C.spec_l2Most,fS,hn]
   refine cast (congrArg R1 ?_) (hR1 (x1+1) h1 (by omega))
   simp [fS,hn,h2,List.take_of_length_le,List.drop_of_length_le]
 ·have h1:x1=f.ts.length:=by have:=d_f hc1;omega
  refine wexit ?_
  show AWp _ _ _ _ _
  refine wseq ?_
  refine wreg fun K hK=>?_
  simp [C.spec_l2Most,fS,hn]
  refine hK _ ?_;clear hK K
  show AWp _ _ _ _ _
  refine wret ?_
  simp [C.spec_l2Most,fS,hn,h1,highL]
def scM (k:Int) (x:Int×Int):Int×Int:=(x.1,k*x.2)
theorem scM_abs (k:Int):∀ b:List (Int×Int),absL (b.map (scM k))=k.natAbs*absL b
 | []=>rfl
 | x :: b=>by
  have:=scM_abs k b
  simp only [absL,List.map_cons,List.sum_cons,scM] at this ⊢
  rw [Int.natAbs_mul,Nat.mul_add]
  simp only [List.map_map] at this ⊢
  omega
theorem scM_bd {k:Int} {b:List (Int×Int)} {x:Int×Int} (hx:x∈b) {B:Nat} (h:k.natAbs*absL b < B):-(B:Int) < k*x.2/\k*x.2 < B:=by
 have h1:=absL_mem hx
 have h2:(k*x.2).natAbs<=k.natAbs*absL b:=by
  rw [Int.natAbs_mul]
  exact Nat.mul_le_mul_left _ h1
 omega
theorem spec_l2Plus_c (a b:List (Int×Int)) (k:Int) (hl:a.length+b.length<=1000000) (hc:absL a+k.natAbs*absL b < 4611686018427387904):ACalls Tryz.prog F.spec_l2Plus [.d (.sh 2 a.length (rows gM a)),.int k,.d (.sh 2 b.length (rows gM b))] [] true (fun outs res=>outs=[]/\res=[.one (.ow 2 (nf ilt (a ++ b.map (scM k))).length (rows gM (nf ilt (a ++ b.map (scM k)))))]):=by
 refine ACalls.of_body (C:=C.spec_l2Plus) (n:=Tryz.f199.ntmps) tabT folT Tryz.func199 rfl (by kernel_rfl) rfl (Nat.le_of_ble_eq_true rfl) (by decide) (by kernel_rfl) (by kernel_rfl) rfl (by simp) (by simp) ?_
 simp only [Tryz.f199]
 refine wseq ?_
 refine wreg fun K hK=>?_
 simp [C.spec_l2Plus]
 refine hK _ ?_;clear hK K
 show AWp _ _ _ _ _
 refine wseq ?_
 refine wreg fun K hK=>?_
 simp [C.spec_l2Plus,show a.length*16<=140737488355328 by omega]
 refine hK _ ?_;clear hK K
 show AWp _ _ _ _ _
 refine wseq ?_
 refine wseq ?_
 refine wreg fun K hK=>?_
 simp [C.spec_l2Plus]
 refine hK _ ?_;clear hK K
 show AWp _ _ _ _ _
 refine wblock ?_
 refine wloop (fun x:Nat=>⟨ofL [(1,.int k),(2,.d (.sh 2 b.length (rows gM b))),(7,.al (7,0) [] 0 (a.length+x)),(8,.int x)],ofRO [((7,0),some (.ow 2 (a.length+x) (rows gM (a ++ (b.take x).map (scM k)))))]⟩) (fun x=>x<=b.length) (fun x=>b.length - x) 0 (by simp [C.spec_l2Plus]) (by simp) ?_
 intro x1 hx1 R1 hR1
 refine wseq ?_
 refine wseq ?_
 refine wreg fun K hK=>?_
 simp [C.spec_l2Plus]
 refine hK _ ?_;clear hK K
 show AWp _ _ _ _ _
 refine wcond _ rfl (fun hc1=>?_) (fun hc1=>?_)
 ·have h1:x1 < b.length:=by have:=d_t hc1;omega
  have hbd:=scM_bd (List.getElem_mem h1) (show k.natAbs*absL b < 4611686018427387904 by omega)
  refine wskip ?_
  show AWp _ _ _ _ _
  refine wseq ?_
  refine wblock ?_
  refine wdrawI [(true,0),(true,1),(true,2),(true,3),(true,4),(true,5),(true,6),(true,7),(true,8),(true,9),(true,10),(true,11),(true,12),(true,13),(false,14),(false,15),(true,16)] ⟨by kernel_rfl,by kernel_rfl⟩ ([0,1,2,3,4,5,6,7,8,9,10,11,12,13,14,15,16]) rfl fun K hK=>?_
  refine oEn fun L hL=>?_
  simp [C.spec_l2Plus,h1,gM_0 h1,gM_1 h1,gM_snoc,wrapOk (x:=k*b[x1].2) (by omega) (by omega),show (a.length+x1+1)*16<=140737488355328 by omega]
  refine hL _ ?_;clear hL L
  simp [C.spec_l2Plus,h1,gM_0 h1,gM_1 h1,gM_snoc,wrapOk (x:=k*b[x1].2) (by omega) (by omega),show (a.length+x1+1)*16<=140737488355328 by omega]
  refine hK _ ?_;clear hK K
  show AWp _ _ _ _ _
  refine wreg fun K hK=>?_
  simp [C.spec_l2Plus,wrap_succ (show x1 < 4611686018427387904 by omega)]
  refine hK _ ?_;clear hK K
  simp [C.spec_l2Plus]
  refine cast (congrArg R1 ?_) (hR1 (x1+1) h1 (by omega))
  rw [List.take_succ_eq_append_getElem h1,List.map_append]
  simp [scM,Nat.add_assoc]
 ·have h1:x1=b.length:=by have:=d_f hc1;omega
  have htk:List.take b.length (List.map (scM k) b)=List.map (scM k) b:=List.take_of_length_le (by simp)
  refine wexit ?_
  show AWp _ _ _ _ _
  refine wseq ?_
  refine wregI ([0,1] ++ ([2])) rfl fun K hK=>?_
  refine oSg fun L hL=>?_
  simp [C.spec_l2Plus,h1,htk]
  refine wcall1 (spec_l2Gather_c (a ++ b.map (scM k)) (by simp;omega) (by rw [absL_append,scM_abs];omega)) (by simp [h1,htk]) (by simp) ?_
  simp [C.spec_l2Plus,h1,htk]
  refine hL _ ?_;clear hL L
  refine oEn fun L hL=>?_
  simp [C.spec_l2Plus,h1,htk]
  refine hL _ ?_;clear hL L
  simp [C.spec_l2Plus,h1,htk]
  refine hK _ ?_;clear hK K
  show AWp _ _ _ _ _
  refine wret ?_
  simp [C.spec_l2Plus]
@[simp] theorem lowL_length (ts:List Trm) (n:Nat):(lowL ts n).length=n:=by simp [lowL]
@[simp] theorem highL_length (ts:List Trm) (n:Nat):(highL ts n).length=n:=by simp [highL]
theorem kt_abs (ts:List Trm):absL (ts.map kt)=absK (ts.map pr):=by
 simp only [absL,absK,List.map_map]
 rfl
theorem kc_abs (l:List (List Int×Int)):absL (l.map kc)=absK l:=by
 simp only [absL,absK,List.map_map]
 rfl
theorem prodM_one (base k q:Int):∀ G:List (Int×Int),(prodM base [(k,q)] G).length=G.length/\absL (prodM base [(k,q)] G)=q.natAbs*absL G:=by
 intro G
 refine ⟨by simp [prodM_len],?_⟩
 simp only [prodM,List.flatMap_cons,List.flatMap_nil,List.append_nil]
 induction G with
 | nil=>rfl
 | cons y G ih=>
  simp only [absL,List.map_cons,List.sum_cons,List.map_map] at ih ⊢
  rw [Nat.mul_add,<-ih,pM,Int.natAbs_mul]
theorem ieq600 (n:Nat):((n:Int) == 600)=decide (n=600):=by
 rw [Bool.eq_iff_iff];simp;omega
theorem kc_pr:kc ∘ pr=kt:=rfl
theorem endF_some (v:Int) (O:List (List Int×Int)):endF v (some O)=((if Right ⟨v,O.map tm⟩ then ⟨v,O.map tm⟩ else zeroF),decide (Right ⟨v,O.map tm⟩)):=by
 simp only [endF]
 split <;> simp_all
theorem shut_coded (O:List (List Int×Int)) (n:Nat) (hl:O.length<=1000000) (he:∀ x∈O,Dig x.1/\x.1.length=n) (hv:n<=8):ACalls Tryz.prog F.spec_l2Shut [.d (.sh 2 O.length (rows gM (O.map kc))),.int n] [] true (fun outs res=>outs=[]/\res=[.ag (fO (endF n (some O)).1),.one (D.bool (endF n (some O)).2)]):=by
 have:=l2Shut_c (O.map tm) n (by simpa using hl) (fun t ht=>by
  obtain ⟨x,hx,rfl⟩:=List.mem_map.1 ht
  exact he x hx) hv
 simp only [List.length_map,List.map_map,kt_tm] at this
 rw [endF_some]
 exact this
theorem right_open {f:Lau} (h:Right f) {n:Nat} (hn:f.v=n) (h8:n<=8):∀ t∈f.ts,Dig t.e/\t.e.length<=8:=fun t ht=>by
 have:=right_he h hn t ht
 exact ⟨fun z hz=>by have:=this.2 z hz;omega,by omega⟩
theorem spec_l2Divide_c (f g:Lau) (n:Nat) (hf:Right f) (hg:Right g) (hn:f.v=n) (hgn:g.v=n) (hgne:g.ts≠[]):ACalls Tryz.prog F.spec_l2Divide [aF f,aF g] [] true (fun outs res=>outs=[]/\WkRs res [.ag (fO (endF f.v (divL (chkS f g n) g 600 (f.ts.map pr))).1),.one (D.bool (endF f.v (divL (chkS f g n) g 600 (f.ts.map pr))).2)]):=by
 have hv:n<=8:=by have:=hf.1;omega
 have hfl:=hf.2.1
 have hgl:=hg.2.1
 have he:=right_he hf hn
 have heg:=right_he hg hgn
 have hG0:0 < g.ts.length:=List.length_pos_iff.2 hgne
 obtain ⟨hl1,hl2⟩:=lead_get hG0
 have hgood:=hg.2.2.1 _ (List.getElem_mem hG0)
 have hgle:=heg _ (List.getElem_mem hG0)
 rw [hl1] at hgle
 have hgc:leadC g≠0/\-1000000<=leadC g/\leadC g<=1000000:=by rw [<-hl2];exact ⟨hgood.2.1,hgood.2.2.1⟩
 refine ACalls.of_body (C:=C.spec_l2Divide) (n:=Tryz.f200.ntmps) tabT folT Tryz.func200 rfl (by kernel_rfl) rfl (Nat.le_of_ble_eq_true rfl) (by decide) (by kernel_rfl) (by kernel_rfl) rfl (by simp) (by simp) ?_
 simp only [Tryz.f200]
 refine wseq ?_
 refine wreg fun K hK=>?_
 simp [C.spec_l2Divide,fS,hn,hgn]
 refine hK _ ?_;clear hK K
 show AWp _ _ _ _ _
 refine wseq ?_
 refine wregI ([0,1,2] ++ ([3])) rfl fun K hK=>?_
 refine oSg fun L hL=>?_
 simp [C.spec_l2Divide,fS,hn,hgn]
 refine wcall1 (spec_l2Base_c n hv) (by simp [fS,hn,hgn]) (by simp) ?_
 simp [C.spec_l2Divide,fS,hn,hgn]
 refine hL _ ?_;clear hL L
 refine oEn fun L hL=>?_
 simp [C.spec_l2Divide,fS,hn,hgn]
 refine hL _ ?_;clear hL L
 simp [C.spec_l2Divide,fS,hn,hgn]
 refine hK _ ?_;clear hK K
 show AWp _ _ _ _ _
 refine wseq ?_
 refine wregI ([0,1] ++ ([2])) rfl fun K hK=>?_
 refine oSg fun L hL=>?_
 simp [C.spec_l2Divide,fS,hn,hgn]
 refine wcall1 (spec_l2Open_c f (by omega) (right_open hf hn hv)) (by simp [fS,hn,hgn]) (by simp) ?_
 simp [C.spec_l2Divide,fS,hn,hgn]
 refine hL _ ?_;clear hL L
 refine oEn fun L hL=>?_
 simp [C.spec_l2Divide,fS,hn,hgn]
 refine hL _ ?_;clear hL L
 simp [C.spec_l2Divide,fS,hn,hgn]
 refine hK _ ?_;clear hK K
 show AWp _ _ _ _ _
 refine wseq ?_
 refine wregI ([0,1] ++ ([2])) rfl fun K hK=>?_
 refine oSg fun L hL=>?_
 simp [C.spec_l2Divide,fS,hn,hgn]
 refine wcall1 (spec_l2Open_c g (by omega) (right_open hg hgn hv)) (by simp [fS,hn,hgn]) (by simp) ?_
 simp [C.spec_l2Divide,fS,hn,hgn]
 refine hL _ ?_;clear hL L
 refine oEn fun L hL=>?_
 simp [C.spec_l2Divide,fS,hn,hgn]
 refine hL _ ?_;clear hL L
 simp [C.spec_l2Divide,fS,hn,hgn]
 refine hK _ ?_;clear hK K
 show AWp _ _ _ _ _
 refine wseq ?_
 refine wreg fun K hK=>?_
 simp [C.spec_l2Divide,fS,hn,hgn]
 refine hK _ ?_;clear hK K
 show AWp _ _ _ _ _
 refine wseq ?_
 refine wseq ?_
 refine wreg fun K hK=>?_
 simp [C.spec_l2Divide,fS,hn,hgn]
 refine hK _ ?_;clear hK K
 show AWp _ _ _ _ _
 refine wcond _ rfl (fun hc1=>?_) (fun hc1=>?_)
 ·have hf0:f.ts=[]:=by simpa using hc1
  have hd0:divL (chkS f g n) g 600 (f.ts.map pr)=some []:=by rw [hf0];rfl
  refine wseq ?_
  refine wregI ([0,1,2,3] ++ ([4,5,6,7])) rfl fun K hK=>?_
  refine oSg fun L hL=>?_
  simp [C.spec_l2Divide,fS,hn,hgn,rows]
  refine wcall1 (shut_coded [] n (by simp) (by simp) hv) (by simp [fS,hn,hgn,rows]) (by simp) ?_
  simp [C.spec_l2Divide,fS,hn,hgn,rows]
  refine hL _ ?_;clear hL L
  refine oEn fun L hL=>?_
  simp [C.spec_l2Divide,fS,hn,hgn,rows]
  refine hL _ ?_;clear hL L
  simp [C.spec_l2Divide,fS,hn,hgn,rows]
  refine hK _ ?_;clear hK K
  show AWp _ _ _ _ _
  refine wret ?_
  simp [C.spec_l2Divide,fS,hn,hgn,hd0,fO]
 ·have hfne:f.ts≠[]:=by intro e;simp [e] at hc1
  have hF0:0 < f.ts.length:=List.length_pos_iff.2 hfne
  refine wskip ?_
  show AWp _ _ _ _ _
  refine wseq ?_
  refine wdrawI [(true,0),(true,2),(false,1),(false,3),(true,4),(true,5)] ⟨by kernel_rfl,by kernel_rfl⟩ ([0,2,1] ++ ([3] ++ ([4,5]))) rfl fun K hK=>?_
  refine oSg fun L hL=>?_
  simp [C.spec_l2Divide,fS,hn,hgn]
  refine wcall1 (spec_l2Least_c f n hn hv hF0 hfl (fun t ht=>(he t ht).1)) (by simp [fS,hn,hgn]) (by simp) ?_
  simp [C.spec_l2Divide,fS,hn,hgn]
  refine hL _ ?_;clear hL L
  refine oSg fun L hL=>?_
  simp [C.spec_l2Divide,fS,hn,hgn]
  refine wcall1 (spec_l2Most_c f n hn hv hF0 hfl (fun t ht=>(he t ht).1)) (by simp [fS,hn,hgn]) (by simp) ?_
  simp [C.spec_l2Divide,fS,hn,hgn]
  refine hL _ ?_;clear hL L
  refine oEn fun L hL=>?_
  simp [C.spec_l2Divide,fS,hn,hgn]
  refine hL _ ?_;clear hL L
  simp [C.spec_l2Divide,fS,hn,hgn]
  refine hK _ ?_;clear hK K
  show AWp _ _ _ _ _
  refine wseq ?_
  refine wdrawI [(true,0),(true,2),(false,1),(false,3),(true,4),(true,5)] ⟨by kernel_rfl,by kernel_rfl⟩ ([0,2,1] ++ ([3] ++ ([4,5]))) rfl fun K hK=>?_
  refine oSg fun L hL=>?_
  simp [C.spec_l2Divide,fS,hn,hgn]
  refine wcall1 (spec_l2Least_c g n hgn hv hG0 hgl (fun t ht=>(heg t ht).1)) (by simp [fS,hn,hgn]) (by simp) ?_
  simp [C.spec_l2Divide,fS,hn,hgn]
  refine hL _ ?_;clear hL L
  refine oSg fun L hL=>?_
  simp [C.spec_l2Divide,fS,hn,hgn]
  refine wcall1 (spec_l2Most_c g n hgn hv hG0 hgl (fun t ht=>(heg t ht).1)) (by simp [fS,hn,hgn]) (by simp) ?_
  simp [C.spec_l2Divide,fS,hn,hgn]
  refine hL _ ?_;clear hL L
  refine oEn fun L hL=>?_
  simp [C.spec_l2Divide,fS,hn,hgn]
  refine hL _ ?_;clear hL L
  simp [C.spec_l2Divide,fS,hn,hgn]
  refine hK _ ?_;clear hK K
  show AWp _ _ _ _ _
  refine wseq ?_
  refine wblock ?_
  refine wloop (fun x:List (List Int×Int)×List (List Int×Int)=>⟨ofL [(2,.pt (2,0) [] 0),(3,.pt (3,0) [] 0),(4,.pt (4,0) [] 0),(6,.int (keyA 0 (List.replicate n 0))),(7,.al (7,0) [] 0 x.1.length),(8,.al (8,0) [] 0 g.ts.length),(9,.al (9,0) [] 0 x.2.length),(10,.al (10,0) [] 0 n),(11,.al (11,0) [] 0 n),(12,.al (12,0) [] 0 n),(13,.al (13,0) [] 0 n)],ofRO [((2,0),some (.bx (fS f))),((3,0),some (.bx (fS g))),((4,0),some (.bx [D.int 0,.v (.slice none 0 0)])),((7,0),some (.ow 2 x.1.length (rows gM (x.1.map kc)))),((8,0),some (.ow 2 g.ts.length (rows gM (g.ts.map kt)))),((9,0),some (.ow 2 x.2.length (rows gM (x.2.map kc)))),((10,0),some (.ow 1 n (ints (lowL f.ts n)))),((11,0),some (.ow 1 n (ints (highL f.ts n)))),((12,0),some (.ow 1 n (ints (lowL g.ts n)))),((13,0),some (.ow 1 n (ints (highL g.ts n))))]⟩) (fun x=>DivJ (chkS f g n) f g n x.1 x.2) (fun x=>600 - x.2.length) (f.ts.map pr,[]) (by simp [C.spec_l2Divide,fS,hn,hgn,rows,kc_pr]) (DivJ.start _ hf hn) ?_
  intro x1 hx1 R1 hR1
  obtain ⟨R,O⟩:=x1
  dsimp only at hx1 ⊢
  refine wseq ?_
  refine wseq ?_
  refine wreg fun K hK=>?_
  simp [C.spec_l2Divide,fS,hn,hgn]
  refine hK _ ?_;clear hK K
  show AWp _ _ _ _ _
  refine wcond _ rfl (fun hc2=>?_) (fun hc2=>?_)
  ·obtain ⟨⟨a,c⟩,R',rfl⟩:∃ y R',R=y :: R':=by
    cases R with
    | nil=>simp at hc2
    | cons y R'=>exact ⟨y,R',rfl⟩
   have ha:=hx1.dig (a,c) (by simp)
   have hc0:-1000000000000000000<=c/\c<=1000000000000000000:=by
    have h1:=hx1.ra
    have h2:=hx1.ol
    simp only [absK,List.map_cons,List.sum_cons] at h1
    omega
   have q0:=gM_0 (l:=(keyA 0 a,c) :: R'.map kc) (i:=0) (by simp)
   have q1:=gM_1 (l:=(keyA 0 a,c) :: R'.map kc) (i:=0) (by simp)
   have p0:=gM_0 (l:=g.ts.map kt) (i:=0) (by simpa using hG0)
   have p1:=gM_1 (l:=g.ts.map kt) (i:=0) (by simpa using hG0)
   simp only [List.getElem_map,kt,hl1,hl2,List.getElem_cons_zero] at p0 p1 q0 q1
   refine wskip ?_
   show AWp _ _ _ _ _
   refine wblock ?_
   refine wseq ?_
   refine wseq ?_
   refine wdraw (.take 0 (.take 1 (.take 2 (.take 3 (.take 4 (.take 5 (.take 6 (.take 7 (.take 8 (.take 9 (.done))))))))))) ⟨by kernel_rfl,by kernel_rfl⟩ fun K hK=>?_
   simp [C.spec_l2Divide,fS,hn,hgn,q1,p1,kc,hG0,hgc.1]
   refine hK _ ?_;clear hK K
   show AWp _ _ _ _ _
   refine wcond _ rfl (fun hc3=>?_) (fun hc3=>?_)
   ·have hcm:c.tmod (leadC g)≠0:=by simpa using hc3
    have hfail:=hx1.fail (.inl fun h=>hcm h.1)
    refine wseq ?_
    refine wreg fun K hK=>?_
    simp [C.spec_l2Divide,fS,hn,hgn]
    refine hK _ ?_;clear hK K
    show AWp _ _ _ _ _
    refine wret ?_
    simp [C.spec_l2Divide,fS,hn,hgn,hfail,endF,zeroF,fO,rows]
   ·have hcm:c.tmod (leadC g)=0:=by simpa using hc3
    have hcq:=tmod_tdiv hcm
    have hqb:-1000000000000000000<=c.tdiv (leadC g)/\c.tdiv (leadC g)<=1000000000000000000:=by
     have h1:(c.tdiv (leadC g)).natAbs<=c.natAbs:=by
      rw [Int.natAbs_tdiv]
      exact Nat.div_le_self _ _
     omega
    generalize hQ:c.tdiv (leadC g)=q at hcq hqb
    have hal:a.length=n:=ha.1
    have had:Dig a:=ha.2
    have hab:=(hx1.rl (a,c) (by simp)).2
    dsimp only at hab
    obtain ⟨hgle1,hgle2⟩:=hgle
    have hEl:(addE (-1) a (leadE g)).length=n:=by rw [addE_length _ _ _ (by omega)];exact hal
    have hEg:∀ (i:Nat) (h:i < n),(addE (-1) a (leadE g))[i]'(by omega)=a[i]'(by omega) - (leadE g)[i]'(by omega):=fun i h=>by
     have:=getD_addE (-1) i a (leadE g) (by omega)
     rw [getD_eq (by omega),getD_eq (by omega),getD_eq (by omega)] at this
     omega
    have hfailq:¬ chkS f g n (addE (-1) a (leadE g)) q=true\/O.length=600->divL (chkS f g n) g 600 (f.ts.map pr)=none:=fun h=>hx1.fail (h.imp (fun h1 h2=>h1 (by rw [<-hQ];exact h2.2)) id)
    refine wskip ?_
    show AWp _ _ _ _ _
    refine wseq ?_
    refine wdraw (.take 0 (.take 1 (.take 2 (.take 3 (.take 4 (.take 5 (.take 6 (.take 7 (.take 8 (.take 9 (.all [(10,.all [(11,.done)])]))))))))))) ⟨by kernel_rfl,by kernel_rfl⟩ fun K hK=>?_
    simp [C.spec_l2Divide,fS,hn,hgn,q1,p1,kc,hG0,hgc.1,hQ,wrapOk (x:=q) (by omega) (by omega)]
    refine hK _ ?_;clear hK K
    show AWp _ _ _ _ _
    refine wseq ?_
    refine wdrawI [(true,0),(true,1),(true,2),(true,3),(true,4),(true,5),(false,6),(true,7)] ⟨by kernel_rfl,by kernel_rfl⟩ ([0,1,2,3,4,5,6] ++ ([7])) rfl fun K hK=>?_
    refine oSg fun L hL=>?_
    simp [C.spec_l2Divide,fS,hn,hgn,q0,kc,hal]
    refine wcall1 (spec_l2Exp_c a had (by omega)) (by simp [fS,hn,hgn,q0,kc,hal]) (by simp) ?_
    simp [C.spec_l2Divide,fS,hn,hgn,q0,kc,hal]
    refine hL _ ?_;clear hL L
    refine oEn fun L hL=>?_
    simp [C.spec_l2Divide,fS,hn,hgn,q0,kc,hal]
    refine hL _ ?_;clear hL L
    simp [C.spec_l2Divide,fS,hn,hgn,q0,kc,hal]
    refine hK _ ?_;clear hK K
    show AWp _ _ _ _ _
    refine wseq ?_
    refine wreg fun K hK=>?_
    simp [C.spec_l2Divide,fS,hn,hgn]
    refine hK _ ?_;clear hK K
    show AWp _ _ _ _ _
    refine wseq ?_
    refine wseq ?_
    refine wreg fun K hK=>?_
    simp [C.spec_l2Divide,fS,hn,hgn]
    refine hK _ ?_;clear hK K
    show AWp _ _ _ _ _
    refine wblock ?_
    refine wloop (fun x:Nat=>⟨ofL [(2,.pt (2,0) [] 0),(3,.pt (3,0) [] 0),(4,.pt (4,0) [] 0),(6,.int (keyA 0 (List.replicate n 0))),(7,.al (7,0) [] 0 (R'.length+1)),(8,.al (8,0) [] 0 g.ts.length),(9,.al (9,0) [] 0 O.length),(10,.al (10,0) [] 0 n),(11,.al (11,0) [] 0 n),(12,.al (12,0) [] 0 n),(13,.al (13,0) [] 0 n),(14,.pt (14,0) [] 0),(15,.al (15,0) [] 0 n),(16,.al (16,0) [] 0 x),(17,.int x)],ofRO [((2,0),some (.bx (fS f))),((3,0),some (.bx (fS g))),((4,0),some (.bx [D.int 0,.v (.slice none 0 0)])),((7,0),some (.ow 2 (R'.length+1) (rows gM ((keyA 0 a,c) :: R'.map kc)))),((8,0),some (.ow 2 g.ts.length (rows gM (g.ts.map kt)))),((9,0),some (.ow 2 O.length (rows gM (O.map kc)))),((10,0),some (.ow 1 n (ints (lowL f.ts n)))),((11,0),some (.ow 1 n (ints (highL f.ts n)))),((12,0),some (.ow 1 n (ints (lowL g.ts n)))),((13,0),some (.ow 1 n (ints (highL g.ts n)))),((14,0),some (.bx [D.int 0,D.int q])),((15,0),some (.ow 1 n (ints a))),((16,0),some (.ow 1 x (ints ((addE (-1) a (leadE g)).take x))))]⟩) (fun x=>x<=n/\∀ i,i < x->(lowL f.ts n).getD i 0 - (lowL g.ts n).getD i 0<=(addE (-1) a (leadE g)).getD i 0/\(addE (-1) a (leadE g)).getD i 0<=(highL f.ts n).getD i 0 - (highL g.ts n).getD i 0) (fun x=>n - x) 0 (by simp [C.spec_l2Divide,fS,hn,hgn,kc,hal,ints]) (by simp) ?_
    intro x2 hx2 R2 hR2
    obtain ⟨hj1,hj2⟩:=hx2
    refine wseq ?_
    refine wseq ?_
    refine wreg fun K hK=>?_
    simp [C.spec_l2Divide,fS,hn,hgn]
    refine hK _ ?_;clear hK K
    show AWp _ _ _ _ _
    refine wcond _ rfl (fun hc4=>?_) (fun hc4=>?_)
    ·have h4:x2 < n:=by have:=d_t hc4;omega
     have e1:=hEg x2 h4
     have bd1:=hab _ (List.getElem_mem (show x2 < a.length by omega))
     have bd2:=hgle2 _ (List.getElem_mem (show x2 < (leadE g).length by omega))
     have bd3:=lowL_bd hf hn hfne h4
     have bd4:=lowL_bd hg hgn hgne h4
     rw [getD_eq (by simpa using h4),getD_eq (by simpa using h4)] at bd3 bd4
     have hsn:ints ((addE (-1) a (leadE g)).take x2) ++ [D.v (.int .i64 (a[x2] - (leadE g)[x2]))]=ints ((addE (-1) a (leadE g)).take (x2+1)):=by
      rw [List.take_succ_eq_append_getElem (by omega),e1]
      simp [ints]
     have hln:((addE (-1) a (leadE g)).take (x2+1)).length=x2+1:=by simp;omega
     have hgt:((addE (-1) a (leadE g)).take (x2+1))[x2]'(by omega)=a[x2] - (leadE g)[x2]:=by rw [List.getElem_take];exact e1
     refine wskip ?_
     show AWp _ _ _ _ _
     refine wseq ?_
     refine wblock ?_
     refine wseq ?_
     refine wdrawI [(true,0),(true,1),(true,2),(true,3),(true,4),(true,5),(true,6),(true,7),(true,8),(true,9),(true,10),(true,11),(true,12),(true,13),(false,14),(false,15),(true,16)] ⟨by kernel_rfl,by kernel_rfl⟩ ([0,1,2,3,4,5,6,7,8,9,10,11,12,13,14,15,16]) rfl fun K hK=>?_
     refine oEn fun L hL=>?_
     simp [C.spec_l2Divide,fS,hn,hgn,h4,hal,hgle1,get_ints,hG0,tS_0 hG0,hl1,wrapOk (x:=a[x2] - (leadE g)[x2]) (by omega) (by omega),hsn,show (x2+1)*8<=140737488355328 by omega]
     refine hL _ ?_;clear hL L
     simp [C.spec_l2Divide,fS,hn,hgn,h4,hal,hgle1,get_ints,hG0,tS_0 hG0,hl1,wrapOk (x:=a[x2] - (leadE g)[x2]) (by omega) (by omega),hsn,show (x2+1)*8<=140737488355328 by omega]
     refine hK _ ?_;clear hK K
     show AWp _ _ _ _ _
     refine wseq ?_
     refine wdrawI [(true,0),(true,1),(true,2),(true,3),(true,4),(true,5),(true,6),(true,7),(true,8),(true,9),(true,10),(true,11),(true,12),(true,13),(true,14),(true,15),(true,16),(true,17),(true,18),(true,19),(true,20),(true,21),(false,22),(true,23)] ⟨by kernel_rfl,by kernel_rfl⟩ ([0,1,2,3,4,5,6,7,8,9,10,11,12,13,14,15,16,17,18,19,20,21,22] ++ ([23])) rfl fun K hK=>?_
     refine oSg fun L hL=>?_
     simp [C.spec_l2Divide,fS,hn,hgn,show ((x2:Int) < (x2:Int)+1) by omega,h4,get_ints,hln,hgt,wrapOk (x:=(lowL f.ts n)[x2]'(by simpa using h4) - (lowL g.ts n)[x2]'(by simpa using h4)) (by omega) (by omega),wrapOk (x:=(highL f.ts n)[x2]'(by simpa using h4) - (highL g.ts n)[x2]'(by simpa using h4)) (by omega) (by omega)]
     refine wcall1 (spec_l1In_c (a[x2] - (leadE g)[x2]) ((lowL f.ts n)[x2]'(by simpa using h4) - (lowL g.ts n)[x2]'(by simpa using h4)) ((highL f.ts n)[x2]'(by simpa using h4) - (highL g.ts n)[x2]'(by simpa using h4))) (by simp) (by simp) ?_
     simp [C.spec_l2Divide,fS,hn,hgn,show ((x2:Int) < (x2:Int)+1) by omega,h4,get_ints,hln,hgt,wrapOk (x:=(lowL f.ts n)[x2]'(by simpa using h4) - (lowL g.ts n)[x2]'(by simpa using h4)) (by omega) (by omega),wrapOk (x:=(highL f.ts n)[x2]'(by simpa using h4) - (highL g.ts n)[x2]'(by simpa using h4)) (by omega) (by omega)]
     refine hL _ ?_;clear hL L
     refine oEn fun L hL=>?_
     simp [C.spec_l2Divide,fS,hn,hgn,show ((x2:Int) < (x2:Int)+1) by omega,h4,get_ints,hln,hgt,wrapOk (x:=(lowL f.ts n)[x2]'(by simpa using h4) - (lowL g.ts n)[x2]'(by simpa using h4)) (by omega) (by omega),wrapOk (x:=(highL f.ts n)[x2]'(by simpa using h4) - (highL g.ts n)[x2]'(by simpa using h4)) (by omega) (by omega)]
     refine hL _ ?_;clear hL L
     simp [C.spec_l2Divide,fS,hn,hgn,show ((x2:Int) < (x2:Int)+1) by omega,h4,get_ints,hln,hgt,wrapOk (x:=(lowL f.ts n)[x2]'(by simpa using h4) - (lowL g.ts n)[x2]'(by simpa using h4)) (by omega) (by omega),wrapOk (x:=(highL f.ts n)[x2]'(by simpa using h4) - (highL g.ts n)[x2]'(by simpa using h4)) (by omega) (by omega)]
     refine hK _ ?_;clear hK K
     show AWp _ _ _ _ _
     refine wcond _ rfl (fun hc5=>?_) (fun hc5=>?_)
     ·have hfail:=hfailq (.inl fun h=>by
       simp only [chkS,decide_eq_true_eq] at h
       have:=h.1 x2 h4
       rw [getD_eq (by simpa using h4),getD_eq (by simpa using h4),getD_eq (by omega),getD_eq (by simpa using h4),getD_eq (by simpa using h4),e1] at this
       simp [this.1,this.2] at hc5)
      refine wseq ?_
      refine wreg fun K hK=>?_
      simp [C.spec_l2Divide,fS,hn,hgn]
      refine hK _ ?_;clear hK K
      show AWp _ _ _ _ _
      refine wret ?_
      simp [C.spec_l2Divide,fS,hn,hgn,hfail,endF,zeroF,fO,rows]
     ·have hbx:((lowL f.ts n)[x2]'(by simpa using h4) - (lowL g.ts n)[x2]'(by simpa using h4)<=a[x2] - (leadE g)[x2])/\(a[x2] - (leadE g)[x2]<=(highL f.ts n)[x2]'(by simpa using h4) - (highL g.ts n)[x2]'(by simpa using h4)):=by simpa using hc5
      refine wskip ?_
      show AWp _ _ _ _ _
      refine wreg fun K hK=>?_
      simp [C.spec_l2Divide,fS,hn,hgn,wrap_succ (show x2 < 4611686018427387904 by omega)]
      refine hK _ ?_;clear hK K
      simp [C.spec_l2Divide,fS,hn,hgn]
      refine cast (congrArg R2 ?_) (hR2 (x2+1) ⟨h4,fun i hi=>?_⟩ (by omega))
      ·simp [fS,hn,hgn]
      ·rcases Nat.lt_succ_iff_lt_or_eq.1 hi with h | rfl
       ·exact hj2 i h
       ·rw [getD_eq (by simpa using h4),getD_eq (by simpa using h4),getD_eq (by omega),getD_eq (by simpa using h4),getD_eq (by simpa using h4),e1]
        exact hbx
    ·have h4:x2=n:=by have:=d_f hc4;omega
     have hbox:inBox f g n (addE (-1) a (leadE g)):=fun i hi=>hj2 i (by omega)
     have hb40:=inBox_bd hf hg hn hgn hfne hgne hEl hbox
     have htk:(addE (-1) a (leadE g)).take n=addE (-1) a (leadE g):=List.take_of_length_le (by omega)
     refine wexit ?_
     show AWp _ _ _ _ _
     refine wseq ?_
     refine wregI ([0,1] ++ ([2,3])) rfl fun K hK=>?_
     refine oSg fun L hL=>?_
     simp [C.spec_l2Divide,fS,hn,hgn,htk,h4,hEl]
     refine wcall1 (spec_l2Key_c (addE (-1) a (leadE g)) (fun z hz=>by have:=hb40 z hz;omega) (by omega)) (by simp [fS,hn,hgn,htk,h4,hEl]) (by simp) ?_
     simp [C.spec_l2Divide,fS,hn,hgn,htk,h4,hEl]
     refine hL _ ?_;clear hL L
     refine oEn fun L hL=>?_
     simp [C.spec_l2Divide,fS,hn,hgn,htk,h4,hEl]
     refine hL _ ?_;clear hL L
     simp [C.spec_l2Divide,fS,hn,hgn,htk,h4,hEl]
     refine hK _ ?_;clear hK K
     show AWp _ _ _ _ _
     refine wseq ?_
     refine wseq ?_
     refine wregI ([0,1,2] ++ ([3,4,5,6,7,8])) rfl fun K hK=>?_
     have hJ:K ⟨ofL [(2,.pt (2,0) [] 0),(3,.pt (3,0) [] 0),(4,.pt (4,0) [] 0),(6,.int (keyA 0 (List.replicate n 0))),(7,.al (7,0) [] 0 (R'.length+1)),(8,.al (8,0) [] 0 g.ts.length),(9,.al (9,0) [] 0 O.length),(10,.al (10,0) [] 0 n),(11,.al (11,0) [] 0 n),(12,.al (12,0) [] 0 n),(13,.al (13,0) [] 0 n),(14,.pt (14,0) [] 0),(133,.bool (!decide ((-1000000<=q/\q<=1000000)/\¬ O.length=600)))],ofRO [((2,0),some (.bx (fS f))),((3,0),some (.bx (fS g))),((4,0),some (.bx [D.int 0,.v (.slice none 0 0)])),((7,0),some (.ow 2 (R'.length+1) (rows gM ((keyA 0 a,c) :: R'.map kc)))),((8,0),some (.ow 2 g.ts.length (rows gM (g.ts.map kt)))),((9,0),some (.ow 2 O.length (rows gM (O.map kc)))),((10,0),some (.ow 1 n (ints (lowL f.ts n)))),((11,0),some (.ow 1 n (ints (highL f.ts n)))),((12,0),some (.ow 1 n (ints (lowL g.ts n)))),((13,0),some (.ow 1 n (ints (highL g.ts n)))),((14,0),some (.bx [D.int (keyA 0 (addE (-1) a (leadE g))),D.int q]))]⟩:=by
      refine hK _ ?_;clear hK K
      show AWp _ _ _ _ _
      refine wcond _ rfl (fun hc6=>?_) (fun hc6=>?_)
      ·have hr:=nd_t hc6
       have hfail:=hfailq (by
        rcases Classical.em (O.length=600) with h | h
        ·exact .inr h
        ·refine .inl fun h2=>hr ⟨?_,h⟩
         simp only [chkS,decide_eq_true_eq] at h2
         exact h2.2)
       refine wseq ?_
       refine wreg fun K hK=>?_
       simp [C.spec_l2Divide,fS,hn,hgn]
       refine hK _ ?_;clear hK K
       show AWp _ _ _ _ _
       refine wret ?_
       simp [C.spec_l2Divide,fS,hn,hgn,hfail,endF,zeroF,fO,rows]
      ·obtain ⟨hq6,hO6⟩:=nd_f hc6
       have hE0:=keyA_key (a:=addE (-1) a (leadE g)) (fun z hz=>by have:=hb40 z hz;omega) (by omega)
       have hB0:=keyA_key (a:=List.replicate n 0) (fun z hz=>by have:=List.eq_of_mem_replicate hz;omega) (by simpa using hv)
       have hP:=prodM_one (keyA 0 (List.replicate n 0)) (keyA 0 (addE (-1) a (leadE g))) q (g.ts.map kt)
       have hPn:=nf_abs (lt:=ilt) (prodM (keyA 0 (List.replicate n 0)) [(keyA 0 (addE (-1) a (leadE g)),q)] (g.ts.map kt))
       have hgA:=right_absK hg
       have htm:=spec_l2Times_c [(keyA 0 (addE (-1) a (leadE g)),q)] (g.ts.map kt) (keyA 0 (List.replicate n 0)) hB0 (fun y hy=>by simp only [List.mem_singleton] at hy;subst hy;exact ⟨hE0,hq6⟩) (right_mon hg hgn) (by simp) (by simpa using hgl)
       rw [kt_abs,List.length_map] at hP
       simp only [List.length_cons,List.length_nil,List.length_map,rows,gM,List.append_nil,List.nil_append,Nat.zero_add] at htm
       have hOl:=hx1.ol
       have hRn:=hx1.rn
       have hRa:=hx1.ra
       have hstep:=hx1.step hg hgn hcm (by rw [hQ];simp only [chkS,decide_eq_true_eq];exact ⟨hbox,hq6⟩) (by omega) hEl hb40 (by rw [hQ];exact hq6)
       have hcoded:=step_coded hg hgn hx1.dig hEl hb40
       rw [hQ] at hstep hcoded
       simp only [List.map_cons,kc] at hcoded
       have hsnO:rows gM (O.map kc) ++ [D.v (.int .i64 (keyA 0 (addE (-1) a (leadE g)))),D.v (.int .i64 q)]=rows gM ((O ++ [(addE (-1) a (leadE g),q)]).map kc):=by
        rw [gM_snoc]
        simp [kc]
       have hqA:q.natAbs*absK (g.ts.map pr)<=1000000*600000000:=Nat.mul_le_mul (by omega) hgA
       have hplus:=spec_l2Plus_c ((keyA 0 a,c) :: R'.map kc) (nf ilt (prodM (keyA 0 (List.replicate n 0)) [(keyA 0 (addE (-1) a (leadE g)),q)] (g.ts.map kt))) (-1) (by
        simp only [List.length_cons,List.length_map] at hRn ⊢
        omega) (by
        have e1:absL ((keyA 0 a,c) :: R'.map kc)=absK ((a,c) :: R'):=kc_abs ((a,c) :: R')
        have e2:absL (nf ilt (prodM (keyA 0 (List.replicate n 0)) [(keyA 0 (addE (-1) a (leadE g)),q)] (g.ts.map kt)))<=absL (prodM (keyA 0 (List.replicate n 0)) [(keyA 0 (addE (-1) a (leadE g)),q)] (g.ts.map kt)):=hPn.1
        rw [e1]
        simp only [Int.natAbs_neg,Int.natAbs_one,Nat.one_mul]
        omega)
       rw [show scM (-1)=fun y:Int×Int=>(y.1,-1*y.2) from rfl,hcoded] at hplus
       simp only [List.length_cons,List.length_map] at hplus
       refine wskip ?_
       show AWp _ _ _ _ _
       refine wseq ?_
       refine wreg fun K hK=>?_
       simp [C.spec_l2Divide,fS,hn,hgn,hsnO,show (O.length+1)*16<=140737488355328 by omega]
       refine hK _ ?_;clear hK K
       show AWp _ _ _ _ _
       refine wregI ([0,1,2,3,4,5] ++ ([6] ++ ([7]))) rfl fun K hK=>?_
       refine oSg fun L hL=>?_
       simp [C.spec_l2Divide,fS,hn,hgn]
       refine wcall1 (htm) (by simp) (by simp) ?_
       simp [C.spec_l2Divide,fS,hn,hgn]
       refine hL _ ?_;clear hL L
       refine oSg fun L hL=>?_
       simp [C.spec_l2Divide,fS,hn,hgn]
       refine wcall1 (hplus) (by simp) (by simp) ?_
       simp [C.spec_l2Divide,fS,hn,hgn]
       refine hL _ ?_;clear hL L
       refine oEn fun L hL=>?_
       simp [C.spec_l2Divide,fS,hn,hgn]
       refine hL _ ?_;clear hL L
       simp [C.spec_l2Divide,fS,hn,hgn]
       refine hK _ ?_;clear hK K
       simp [C.spec_l2Divide,fS,hn,hgn]
       refine cast (congrArg R1 ?_) (hR1 (nf lexlt (stepL g (a,c) R'),O ++ [(addE (-1) a (leadE g),q)]) hstep (by simp;omega))
       simp [fS,hn,hgn]
     clear hK
     by_cases hqq:-1000000<=q/\q<=1000000
     ·refine oSg fun L hL=>?_
      simp [C.spec_l2Divide,fS,hn,hgn,hqq]
      refine wcall1 (spec_l1In_c q (-1000000) 1000000) (by simp) (by simp) ?_
      simp [C.spec_l2Divide,fS,hn,hgn,hqq]
      refine hL _ ?_;clear hL L
      refine oEn fun L hL=>?_
      simp [C.spec_l2Divide,fS,hn,hgn,hqq]
      refine hL _ ?_;clear hL L
      simp [C.spec_l2Divide,fS,hn,hgn,hqq]
      refine cast (congrArg K ?_) hJ
      simp [ieq600,fS,hn,hgn,hqq]
     ·refine oSg fun L hL=>?_
      simp [C.spec_l2Divide,fS,hn,hgn,hqq]
      refine wcall1 (spec_l1In_c q (-1000000) 1000000) (by simp) (by simp) ?_
      simp [C.spec_l2Divide,fS,hn,hgn,hqq]
      refine hL _ ?_;clear hL L
      refine oEn fun L hL=>?_
      simp [C.spec_l2Divide,fS,hn,hgn,hqq]
      refine hL _ ?_;clear hL L
      simp [C.spec_l2Divide,fS,hn,hgn,hqq]
      refine cast (congrArg K ?_) hJ
      simp [ieq600,fS,hn,hgn,hqq]
  ·have hR0:R=[]:=by
    cases R with
    | nil=>rfl
    | cons y R'=>simp at hc2
   subst hR0
   have hdone:=hx1.done
   have hOl:=hx1.ol
   refine wexit ?_
   show AWp _ _ _ _ _
   refine wseq ?_
   refine wregI ([0,1,2,3] ++ ([4,5,6,7])) rfl fun K hK=>?_
   refine oSg fun L hL=>?_
   simp [C.spec_l2Divide,fS,hn,hgn]
   refine wcall1 (shut_coded O n (by omega) (fun x hx=>⟨fun z hz=>by have:=(hx1.od x hx).2 z hz;omega,(hx1.od x hx).1⟩) hv) (by simp) (by simp) ?_
   simp [C.spec_l2Divide,fS,hn,hgn]
   refine hL _ ?_;clear hL L
   refine oEn fun L hL=>?_
   simp [C.spec_l2Divide,fS,hn,hgn]
   refine hL _ ?_;clear hL L
   simp [C.spec_l2Divide,fS,hn,hgn]
   refine hK _ ?_;clear hK K
   show AWp _ _ _ _ _
   refine wret ?_
   simp [C.spec_l2Divide,fS,hn,hgn,hdone,fO]
end Go.Proofs.YtbhkonnakkhibaaGreat.Ab
namespace Go.Proofs.YtbhkonnakkhibaaGreat.Ab
open Go Go.Proofs
def sortTerm_ren:Go.Shelf.Ren:=⟨fun | 6=>164 | 15=>217 | 14=>216 | 28=>253 | 29=>254 | 20=>245 | 21=>246 | 22=>247 | 23=>248 | 24=>249 | 25=>250 | 26=>251 | 27=>252 | 46=>261 | 47=>262 | 48=>263 | 49=>264 | 50=>265 | 57=>276 | n=>n,fun | 22=>49 | 24=>107 | 25=>179 | 3=>3 | 39=>214 | 0=>0 | 53=>247 | 55=>249 | 4=>4 | 46=>240 | 45=>239 | 50=>244 | 5=>5 | 9=>9 | 66=>255 | 70=>209 | 76=>268 | 77=>269 | n=>n,fun | n=>n⟩
theorem sortTerm:Go.Proofs.SlLaysF0.n6 Tryz.prog sortTerm_ren:={
 mixed:=by kernel_rfl,
 f6:=⟨Tryz.f164.name,by decide,Tryz.func164.trans (congrArg some (by kernel_rfl))⟩,
 f14:=⟨Tryz.f216.name,by decide,Tryz.func216.trans (congrArg some (by kernel_rfl))⟩,
 f15:=Tryz.func217.trans (congrArg some (by kernel_rfl)),
 f20:=⟨Tryz.f245.name,by decide,Tryz.func245.trans (congrArg some (by kernel_rfl))⟩,
 f21:=⟨Tryz.f246.name,by decide,Tryz.func246.trans (congrArg some (by kernel_rfl))⟩,
 f22:=⟨Tryz.f247.name,by decide,Tryz.func247.trans (congrArg some (by kernel_rfl))⟩,
 f23:=⟨Tryz.f248.name,by decide,Tryz.func248.trans (congrArg some (by kernel_rfl))⟩,
 f24:=⟨Tryz.f249.name,by decide,Tryz.func249.trans (congrArg some (by kernel_rfl))⟩,
 f25:=⟨Tryz.f250.name,by decide,Tryz.func250.trans (congrArg some (by kernel_rfl))⟩,
 f26:=⟨Tryz.f251.name,by decide,Tryz.func251.trans (congrArg some (by kernel_rfl))⟩,
 f27:=⟨Tryz.f252.name,by decide,Tryz.func252.trans (congrArg some (by kernel_rfl))⟩,
 f28:=Tryz.func253.trans (congrArg some (by kernel_rfl)),
 f29:=Tryz.func254.trans (congrArg some (by kernel_rfl)),
 f46:=⟨Tryz.f261.name,by decide,Tryz.func261.trans (congrArg some (by kernel_rfl))⟩,
 f47:=Tryz.func262.trans (congrArg some (by kernel_rfl)),
 f48:=Tryz.func263.trans (congrArg some (by kernel_rfl)),
 f49:=⟨Tryz.f264.name,by decide,Tryz.func264.trans (congrArg some (by kernel_rfl))⟩,
 f50:=⟨Tryz.f265.name,by decide,Tryz.func265.trans (congrArg some (by kernel_rfl))⟩,
 f57:=⟨Tryz.f276.name,by decide,Tryz.func276.trans (congrArg some (by kernel_rfl))⟩,
 t0:=Tryz.underlying0,
 a0:=Tryz.isAgg0,
 z0:=Tryz.sizeOf0,
 v0:=Tryz.zeroValue0,
 t3:=Tryz.underlying3,
 a3:=Tryz.isAgg3,
 z3:=Tryz.sizeOf3,
 v3:=Tryz.zeroValue3,
 t4:=Tryz.underlying4,
 a4:=Tryz.isAgg4,
 z4:=Tryz.sizeOf4,
 v4:=Tryz.zeroValue4,
 t5:=Tryz.underlying5,
 a5:=Tryz.isAgg5,
 z5:=Tryz.sizeOf5,
 v5:=Tryz.zeroValue5,
 t9:=Tryz.underlying9,
 a9:=Tryz.isAgg9,
 z9:=Tryz.sizeOf9,
 v9:=Tryz.zeroValue9,
 t22:=Tryz.underlying49,
 a22:=Tryz.isAgg49,
 z22:=Tryz.sizeOf49,
 v22:=Tryz.zeroValue49,
 t25:=Tryz.underlying179,
 a25:=Tryz.isAgg179,
 z25:=Tryz.sizeOf179,
 v25:=Tryz.zeroValue179,
 t39:=Tryz.underlying214,
 a39:=Tryz.isAgg214,
 z39:=Tryz.sizeOf214,
 v39:=Tryz.zeroValue214,
 t45:=Tryz.underlying239,
 a45:=Tryz.isAgg239,
 z45:=Tryz.sizeOf239,
 v45:=Tryz.zeroValue239,
 t46:=Tryz.underlying240,
 a46:=Tryz.isAgg240,
 z46:=Tryz.sizeOf240,
 v46:=Tryz.zeroValue240,
 t50:=Tryz.underlying244,
 a50:=Tryz.isAgg244,
 z50:=Tryz.sizeOf244,
 v50:=Tryz.zeroValue244,
 t53:=Tryz.underlying247,
 a53:=Tryz.isAgg247,
 z53:=Tryz.sizeOf247,
 v53:=Tryz.zeroValue247,
 t55:=Tryz.underlying249,
 a55:=Tryz.isAgg249,
 z55:=Tryz.sizeOf249,
 v55:=Tryz.zeroValue249,
 t66:=Tryz.underlying255,
 a66:=Tryz.isAgg255,
 z66:=Tryz.sizeOf255,
 v66:=Tryz.zeroValue255,
 t70:=Tryz.underlying209,
 a70:=Tryz.isAgg209,
 z70:=Tryz.sizeOf209,
 v70:=Tryz.zeroValue209,
 t76:=Tryz.underlying268,
 a76:=Tryz.isAgg268,
 z76:=Tryz.sizeOf268,
 v76:=Tryz.zeroValue268,
 t77:=Tryz.underlying269,
 a77:=Tryz.isAgg269,
 z77:=Tryz.sizeOf269,
 v77:=Tryz.zeroValue269 }
theorem sortTerm_t24:sortTerm_ren.t 24=107:=by kernel_rfl
theorem sortTerm_f6:sortTerm_ren.f 6=164:=by kernel_rfl
theorem sortTerm_agg:∀ w,(isAgg (sortTerm_ren.t 24)).run Tryz.prog w = .ok true w:=fun w=>by rw [sortTerm_t24];exact Tryz.isAgg107 w
theorem sortTerm_size:∀ w,(Go.sizeOf (sortTerm_ren.t 24)).run Tryz.prog w = .ok 2 w:=fun w=>by rw [sortTerm_t24];exact Tryz.sizeOf107 w
end Go.Proofs.YtbhkonnakkhibaaGreat.Ab
namespace Go.Proofs.YtbhkonnakkhibaaGreat.Ab
open Go
def SfOk (P:Program) (sf k:Nat):Prop:=
 (∀ (p:Option Addr) (cap:Nat) (fv:Value) (w:World),Calls P sf #[.slice p 0 cap,fv] w fun e w'=>e = .returned (.tuple #[])/\w'=w) /\
 ∀ (α:Type) [Inhabited α] (enc:α->List Value) (hk:∀ x,(enc x).length=k) (h1:∀ x,∀ v∈enc x,v.oneCell'=true) (cf:α->α->Int) (hO:Go.Sort.SWO (ltOf cf)) (g:Nat) (blk off cap:Nat) (d:Array α) (w:World)
  (eg:∀ args w,(callFunc g args).run P w = .ok (.enter g args) w) (hcmp:CmpLays P g #[] enc k cf blk off d.size w) (hH:Go.Sort.HoldsK enc k w blk off d) (hblk:blk < w.heap.size) (hsz:d.size < 4611686018427387904),
  Calls P sf #[.slice (some ⟨blk,off,none⟩) d.size cap,.func (.func g) #[] #[]] w fun e w'=>
   e = .returned (.tuple #[])/\∃ d' n os,Go.Sort.PermIn 0 d.size d d'/\Go.Sort.SortedIn (ltOf cf) 0 d.size d'/\w'=sortWorldK enc k w blk off n d' os
structure El (τ:Type) where
 us:List Value
 fp:List Nat
 t:τ
section
variable {τ:Type} {f:τ->List D} {k:Nat} {w:World} {ok:Nat->Prop}
theorem rows_els (hk:∀ t,(f t).length=k):∀ (ts:List τ) (us:List Value) (fp:List Nat),OwVs w ok (rows f ts) us fp ->
  ∃ els:List (El τ),els.map (·.t)=ts/\us=els.flatMap (·.us)/\fp=els.flatMap (·.fp)/\∀ x∈els,OwVs w ok (f x.t) x.us x.fp
 | [],us,fp,h=>by
  simp only [rows,OwVs] at h
  exact ⟨[],rfl,by simp [h.1],by simp [h.2],by simp⟩
 | t :: ts,us,fp,h=>by
  have hl:=OwVs_length h
  obtain ⟨f1,f2,e,h1,h2⟩:=OwVs_split k h
  have e1:(rows f (t :: ts)).take k=f t:=by
   simp only [rows]
   rw [List.take_append_of_le_length (by rw [hk];exact Nat.le_refl _),List.take_of_length_le (by rw [hk];exact Nat.le_refl _)]
  have e2:(rows f (t :: ts)).drop k=rows f ts:=by
   simp only [rows]
   rw [<-hk t,List.drop_left]
  rw [e1] at h1
  rw [e2] at h2
  obtain ⟨els,g1,g2,g3,g4⟩:=rows_els hk ts _ _ h2
  refine ⟨⟨us.take k,f1,t⟩ :: els,by simp [g1],?_,?_,fun x hx=>?_⟩
  ·simp only [List.flatMap_cons]
   rw [<-g2,List.take_append_drop]
  ·simp only [List.flatMap_cons]
   rw [<-g3,e]
  ·rcases List.mem_cons.1 hx with rfl | hx
   ·exact h1
   ·exact g4 x hx
theorem els_rows:∀ (els:List (El τ)),(∀ x∈els,OwVs w ok (f x.t) x.us x.fp)->OwVs w ok (rows f (els.map (·.t))) (els.flatMap (·.us)) (els.flatMap (·.fp))
 | [],_=>by simp [rows,OwVs]
 | x :: els,h=>by
  simp only [List.map_cons,rows,List.flatMap_cons]
  exact OwVs_append (h x (by simp)) (els_rows els fun y hy=>h y (by simp [hy]))
end
theorem flat_get {α β:Type} {g:α->List β} {k:Nat} (hk:∀ x,(g x).length=k):∀ (l:List α) (j:Nat) (h:j / k < l.length) (h0:0 < k),(l.flatMap g)[j]? = (g (l[j / k]'h))[j % k]?
 | [],j,h,_=>by simp at h
 | x :: l,j,h,h0=>by
  simp only [List.flatMap_cons]
  rcases Nat.lt_or_ge j k with hj | hj
  ·rw [List.getElem?_append_left (by rw [hk];exact hj)]
   simp only [Nat.div_eq_of_lt hj,Nat.mod_eq_of_lt hj,List.getElem_cons_zero]
  ·rw [List.getElem?_append_right (by rw [hk];exact hj),hk]
   obtain ⟨m,rfl⟩:∃ m,j=m+k:=⟨j - k,by omega⟩
   simp only [Nat.add_sub_cancel,Nat.add_div_right _ h0,Nat.add_mod_right,Nat.succ_eq_add_one,List.getElem_cons_succ]
   exact flat_get hk l m (by rw [Nat.add_div_right _ h0] at h;simpa using h) h0
theorem flat_len {α β:Type} {g:α->List β} {k:Nat} (hk:∀ x,(g x).length=k):∀ l:List α,(l.flatMap g).length=l.length*k
 | []=>by simp
 | x :: l=>by simp only [List.flatMap_cons,List.length_append,hk,flat_len hk l,List.length_cons,Nat.add_mul,Nat.one_mul];omega
theorem flatK_get {α:Type} [Inhabited α] {enc:α->List Value} {k:Nat} (hk:∀ x,(enc x).length=k) (d:Array α) (j:Nat) (h:j < d.size*k):(d.toList.flatMap enc)[j]? = some ((Go.Sort.flatK enc k d)[j]!):=by
 have h0:0 < k:=by
  rcases Nat.eq_zero_or_pos k with e | e
  ·subst e;simp at h
  ·exact e
 have hd:j / k < d.size:=(Nat.div_lt_iff_lt_mul h0).2 h
 have hm:j % k < k:=Nat.mod_lt _ h0
 rw [flat_get hk d.toList j (by simpa using hd) h0,Go.Sort.get_flatK _ _ _ _ h]
 rw [getElem!_pos d (j / k) hd,List.getElem?_eq_getElem (by rw [hk];exact hm),getElem!_pos _ (j % k) (by rw [hk];exact hm)]
 simp
theorem done1 {w w':World} {ok:Nat->Prop} {ρ:Rn->Value} {fp0:List Nat} {d:D} {fp':List Nat} (hns:noSh d) (ho:Ow w' ok d (ρ (0,0)) fp') (hnd:fp'.Nodup)
  (hb:∀ b∈fp',¬ ok b/\(b∈fp0\/w.heap.size<=b)/\b < w'.heap.size) (hf:Keeps w fp0 w') (hok:∀ b,ok b->b < w.heap.size) :
  Done w ok ρ fp0 [(0,0)] true [d] [] (.tuple #[]) w' ok (fun _=>fp') []:=by
 have key:∀ {r:Rn} {e:D},ofR ([((0,0):Rn)].zip [d]) r=some e->r=(0,0)/\e=d:=fun {r e} h=>by
  simp only [List.zip_cons_cons,List.zip_nil_left,ofR] at h
  split at h
  ·rename_i e2
   simp only [Option.some.injEq] at h
   exact ⟨by first | exact e2 | exact e2.symm,h.symm⟩
  ·simp at h
 refine ⟨rfl,fun r e he=>?_,fun r r' e e' hne he he'=>?_,⟨[],rfl,by simp [OwRs]⟩,List.nodup_nil,by simp,by simp,hf,fun _ h=>h,fun b h=>⟨.inl h,Nat.lt_of_lt_of_le (hok b h) hf.size⟩⟩
 ·obtain ⟨rfl,rfl⟩:=key he
  exact ⟨by simpa using Ow_nosh _ _ _ hns ho,hnd,hb⟩
 ·exact absurd ((key he).1.trans (key he').1.symm) hne
theorem ShV_d {w:World} {ok:Nat->Prop} {σ:St} {ρ:Rn->Value}:∀ {ds:List D} {us:List Value},ShV w ok ds us->FRL w ok σ ρ (ds.map .d) us
 | [],us,h=>by simpa [ShV,FRL] using h
 | d :: ds,us,h=>by
  simp only [ShV] at h
  obtain ⟨u,vs,rfl,h1,h2⟩:=h
  simp only [List.map_cons,FRL]
  exact ⟨u,vs,rfl,by simpa [FR] using h1,ShV_d h2⟩
theorem ShV_share {w:World} {ok ok':Nat->Prop} (hk:∀ b,ok b->ok' b):∀ {ds:List D} {us:List Value} {fp:List Nat},OwVs w ok ds us fp->(∀ b∈fp,ok' b)->ShV w ok' (shareL ds) us
 | [],us,fp,h,_=>by
  simp only [OwVs] at h
  simp [shareL,ShV,h.1]
 | d :: ds,us,fp,h,hf=>by
  simp only [OwVs] at h
  obtain ⟨u,vs,f1,f2,rfl,rfl,h1,h2⟩:=h
  simp only [shareL,ShV]
  exact ⟨u,vs,rfl,Sh_share hk d u f1 (fun b hb=>hf b (by simp [hb])) h1,ShV_share hk h2 fun b hb=>hf b (by simp [hb])⟩
theorem OwVs_world {w w':World} {ok:Nat->Prop} (hk:∀ b,ok b->w'.heap[b]? = w.heap[b]?):∀ {ds:List D} {us:List Value} {fp:List Nat},OwVs w ok ds us fp->(∀ b∈fp,w'.heap[b]? = w.heap[b]?)->OwVs w' ok ds us fp
 | [],us,fp,h,_=>by simpa only [OwVs] using h
 | d :: ds,us,fp,h,hf=>by
  simp only [OwVs] at h ⊢
  obtain ⟨u,vs,f1,f2,rfl,rfl,h1,h2⟩:=h
  exact ⟨u,vs,f1,f2,rfl,rfl,Ow_mono (fun b hb=>⟨hb,hk b hb⟩) _ _ _ (fun b hb=>hf b (by simp [hb])) h1,OwVs_world hk h2 fun b hb=>hf b (by simp [hb])⟩
theorem grow_of_keeps {w w':World} (h:Keeps w [] w'):∃ q os',w'=Go.Sort.grow (w.drewN q) os':=by
 refine ⟨w'.drawn - w.drawn,w'.heap.extract w.heap.size w'.heap.size,?_⟩
 have hh:w'.heap=w.heap ++ w'.heap.extract w.heap.size w'.heap.size:=by
  apply Array.ext_getElem?
  intro i
  rw [Array.getElem?_append]
  split
  ·rename_i hi
   exact h.old i hi (by simp)
  ·rename_i hi
   rw [Array.getElem?_extract]
   have hs:=h.size
   rcases Nat.lt_or_ge i w'.heap.size with h1 | h1
   ·rw [if_pos (by omega),show w.heap.size+(i - w.heap.size)=i by omega]
   ·rw [if_neg (by omega),Array.getElem?_eq_none (by omega)]
 have h1:=h.os
 have h2:=h.out
 have h3:=h.tape
 have h4:=h.drawn
 cases w' with
 | mk heap tape drawn os output=>
  cases w with
  | mk heap2 tape2 drawn2 os2 output2=>
   simp only at h1 h2 h3 h4 hh
   subst h1;subst h2;subst h3
   simp only [Go.Sort.grow,World.drewN]
   congr 1
   omega
theorem cmp_call {P:Program} {g:Nat} {cx cy:List D} {c:Int} (h:ACalls P g [.ag ((shareL cx).map .d),.ag ((shareL cy).map .d)] [] true (fun outs res=>outs=[]/\res=[.one (D.int c)])) {w:World} {ok:Nat->Prop} {ux uy:List Value} {fx fy:List Nat}
  (hx:OwVs w ok cx ux fx) (hy:OwVs w ok cy uy fy) (hfx:∀ b∈fx,b < w.heap.size) (hfy:∀ b∈fy,b < w.heap.size) (hok:∀ b,ok b->b < w.heap.size) :
  Calls P g (#[.agg ux.toArray,.agg uy.toArray] ++ #[]) w fun e w'=>e = .returned (.int .i64 c)/\∃ q os',w'=Go.Sort.grow (w.drewN q) os':=by
 have h1:=ShV_share (ok':=fun b=>ok b\/b∈fx\/b∈fy) (fun b hb=>.inl hb) hx (fun b hb=>.inr (.inl hb))
 have h2:=ShV_share (ok':=fun b=>ok b\/b∈fx\/b∈fy) (fun b hb=>.inl hb) hy (fun b hb=>.inr (.inr hb))
 have:=h.2 w [] (fun b=>ok b\/b∈fx\/b∈fy) [.agg ux.toArray,.agg uy.toArray] (fun _=>undef) (fun _=>[]) rfl ⟨fun r d hd=>by simp [ofR] at hd,fun r r' d d' _ hd=>by simp [ofR] at hd,fun t=>by
  match t with
  | 0=>
   simp only [argEnv,List.getD_cons_zero,FR]
   exact ⟨_,rfl,ShV_d (by simpa using h1)⟩
  | 1=>
   simp only [argEnv,List.getD_cons_succ,List.getD_cons_zero,FR]
   exact ⟨_,rfl,ShV_d (by simpa using h2)⟩
  | t+2=>simp [argEnv,FR],fun b hb=>by rcases hb with hb | hb | hb;exact hok b hb;exact hfx b hb;exact hfy b hb,Keeps.refl w []⟩
 have e0:(#[.agg ux.toArray,.agg uy.toArray] ++ #[]:Array Value)=[Value.agg ux.toArray,Value.agg uy.toArray].toArray:=by simp
 rw [e0]
 refine Calls.mono this ?_
 rintro e w' ⟨v,outs,res,ok',φ',fr,rfl,⟨rfl,rfl⟩,hd⟩
 obtain ⟨vs,e1,e2⟩:=hd.res
 simp only [OwRs,OwRV,if_true] at e2
 obtain ⟨u,us,f1,f2,rfl,_,k1,k2,_⟩:=e2
 subst k2
 simp only [Ow] at k1
 refine ⟨?_,grow_of_keeps hd.frm⟩
 rw [e1,k1.2]
 rfl
section
variable {α:Type} [Inhabited α] {enc:α->List Value} {k:Nat} {w:World} {b o:Nat}
theorem srt_other (m:Nat) (d:Array α) (os:Array Obj) {c:Nat} (hc:c≠b) (hs:c < w.heap.size):(sortWorldK enc k w b o m d os).heap[c]? = w.heap[c]?:=by
 unfold sortWorldK
 rw [Go.Sort.heap_grow_old _ _ (by simpa [Go.Sort.putRowK] using hs)]
 simp [Go.Sort.putRowK,Go.Sort.putRow,Go.Sort.mapBlock,Array.getElem?_modify,Ne.symm hc]
theorem srt_blk (m:Nat) (d:Array α) (os:Array Obj) {arr:Array Value} {T:Nat} {fr:Nat×Nat} (h:w.heap[b]? = some (.cells arr T fr)):∃ arr',(sortWorldK enc k w b o m d os).heap[b]? = some (.cells arr' T fr)/\arr'.size=arr.size:=by
 have hb:b < w.heap.size:=by
  rcases Nat.lt_or_ge b w.heap.size with hh | hh
  ·exact hh
  ·rw [Array.getElem?_eq_none (by omega)] at h;simp at h
 refine ⟨Go.Sort.putCells id o (Go.Sort.flatK enc k d) arr,?_,by simp [Go.Sort.putCells]⟩
 unfold sortWorldK
 rw [Go.Sort.heap_grow_old _ _ (by simpa [Go.Sort.putRowK] using hb)]
 simp [Go.Sort.putRowK,Go.Sort.putRow,Go.Sort.mapBlock,Array.getElem?_modify,h,Go.Sort.onCells]
theorem srt_keeps (m:Nat) (d:Array α) (os:Array Obj) {fp0:List Nat} (hb:b∈fp0):Keeps w fp0 (sortWorldK enc k w b o m d os):=by
 refine ⟨rfl,rfl,rfl,?_,?_,fun c hc hn=>srt_other m d os (fun e=>hn (e ▸ hb)) hc⟩
 ·show w.drawn<=w.drawn+m
  omega
 ·simp [sortWorldK,Go.Sort.putRowK]
end
theorem permIn_all {α:Type} [Inhabited α] {d d':Array α} (h:Go.Sort.PermIn 0 d.size d d'):d'.toList.Perm d.toList:=by
 obtain ⟨h1,_,h3⟩:=h
 have e1:d'.extract 0 d.size=d':=by rw [<-h1];exact Array.extract_size
 rwa [e1,Array.extract_size] at h3
theorem sortedIn_all {α:Type} [Inhabited α] {lt:α->α->Bool} {d d':Array α} (hs:d'.size=d.size) (h:Go.Sort.SortedIn lt 0 d.size d'):d'.toList.Pairwise fun a b=>lt b a=false:=by
 rw [List.pairwise_iff_getElem]
 intro i j hi hj hij
 simp only [Array.length_toList] at hi hj
 have:=h i j (Nat.zero_le _) hij (by omega)
 rwa [getElem!_pos d' i hi,getElem!_pos d' j hj] at this
theorem ACalls.mono {P:Program} {f:Nat} {args:List FV} {ros:List (Rn×D)} {pure:Bool} {Q Q':List D->List RV->Prop} (h:ACalls P f args ros pure Q) (hq:∀ outs res,Q outs res->Q' outs res):ACalls P f args ros pure Q':=
 ⟨h.1,fun w fp0 ok vs ρ φ hl hR=>(h.2 w fp0 ok vs ρ φ hl hR).mono fun e w' ⟨v,outs,res,ok',φ',fr,he,hQ,hD⟩=>⟨v,outs,res,ok',φ',fr,he,hq _ _ hQ,hD⟩⟩
theorem sort_c {P:Program} {sf k g:Nat} (hcl:Callable P sf) (hS:SfOk P sf k) {τ:Type} {f:τ->List D} (hk:∀ t,(f t).length=k) (hk0:0 < k) (hns:∀ t,noShL (f t)) (hso:∀ ts,solidL (rows f ts)) (cf:τ->τ->Int)
  (hO:Go.Sort.SWO (ltOf cf)) (ts:List τ) (hlen:ts.length < 4611686018427387904)
  (hcmp:∀ x∈ts,∀ y∈ts,ACalls P g [.ag ((shareL (f x)).map .d),.ag ((shareL (f y)).map .d)] [] true (fun outs res=>outs=[]/\res=[.one (D.int (cf x y))])) :
  ACalls P sf [.al (0,0) [] 0 ts.length,.d (.fn g [])] [((0,0),.ow k ts.length (rows f ts))] true (fun outs res=>∃ r:List τ,r.Perm ts/\(r.Pairwise fun a b=>¬ cf b a < 0)/\outs=[.ow k ts.length (rows f r)]/\res=[]):=by
 refine ⟨hcl,fun w fp0 ok vs ρ φ hl hR=>?_⟩
 match vs,hl with
 | [u,fv],_=>
 have h0:=hR.env 0
 have h1:=hR.env 1
 simp only [argEnv,List.getD_cons_zero,List.getD_cons_succ,FR,Sh] at h0 h1
 obtain ⟨k1,N,cs,hv,ho,hh,hN,hsub⟩:=h0
 simp only [hdr,Option.some.injEq] at hh
 subst hh
 obtain ⟨lb,rfl,hlb⟩:=h1
 simp only [ShV] at hlb
 have hlb2:lb = #[]:=by
  apply Array.ext'
  simpa using hlb
 subst hlb2
 have hown:=hR.own (0,0) (.ow k ts.length (rows f ts)) (by simp [ofR])
 obtain ⟨how,hnd,hbl⟩:=hown
 have hsub2:∃ a M c,ρ (0,0) = .slice a M c/\u = .slice a ts.length c:=by
  rcases hsub with ⟨_,a,M,c,e1,e2⟩ | ⟨h,_⟩
  ·exact ⟨a,M,c,e1,e2⟩
  ·omega
 obtain ⟨a,M,c,e1,rfl⟩:=hsub2
 simp only [Ow] at how
 have hns2:∀ r:List τ,noSh (.ow k ts.length (rows f r)):=fun r=>by
  simp only [noSh]
  exact rows_noSh hns r
 rcases how with ⟨hn0,hcs,hfp,a',e2⟩ | ⟨b,o,c',arr,T,fp',e2,hfp,hheap,hcap,harr,hlc,hOL⟩
 ·-- nothing to sort
  have hts:ts=[]:=List.eq_nil_of_length_eq_zero hn0
  subst hts
  rw [e1] at e2
  refine Calls.mono (hS.1 a c (.func (.func g) #[] #[]) w) ?_
  rintro e w' ⟨rfl,rfl⟩
  refine ⟨_,[.ow k 0 (rows f [])],[],ok,fun _=>[],[],rfl,⟨[],List.Perm.nil,List.Pairwise.nil,rfl,rfl⟩,?_⟩
  refine done1 (hns2 []) ?_ List.nodup_nil (by simp) (Keeps.refl _ fp0) hR.okb
  simp only [Ow,rows]
  exact .inl ⟨trivial,trivial,trivial,a',by rw [e1];exact e2⟩
 ·obtain ⟨us,hul,hus,hov⟩:=OwL_read hOL
  obtain ⟨els,het,heu,hef,heo⟩:=rows_els hk ts us fp' hov
  have hnl:els.length=ts.length:=by rw [<-het,List.length_map]
  rw [e1] at e2
  have e3:=Value.slice.inj e2
  obtain ⟨rfl,rfl,rfl⟩:=e3
  have hbm:=hbl b (by rw [hfp];simp)
  have hb0:b∈fp0:=by
   rcases hbm.2.1 with h | h
   ·exact h
   ·omega
  rcases Nat.eq_zero_or_pos ts.length with hz | hpos
  ·have hts:ts=[]:=List.eq_nil_of_length_eq_zero hz
   subst hts
   refine Calls.mono (hS.1 (some ⟨b,o,none⟩) c (.func (.func g) #[] #[]) w) ?_
   rintro e w' ⟨rfl,rfl⟩
   refine ⟨_,[.ow k 0 (rows f [])],[],ok,fun _=>φ (0,0),[],rfl,⟨[],List.Perm.nil,List.Pairwise.nil,rfl,rfl⟩,?_⟩
   refine done1 (hns2 []) ?_ hnd hbl (Keeps.refl _ fp0) hR.okb
   simp only [Ow]
   exact .inr ⟨b,o,c,arr,T,fp',by rw [e1];rfl,hfp,hheap,hcap,harr,hlc,hOL⟩
  ·have hinh:Inhabited (Fin els.length):=⟨⟨0,by omega⟩⟩
   let enc:Fin els.length->List Value:=fun i=>els[i].us
   have henc:∀ i,(enc i).length=k:=fun i=>by
    have:=OwVs_length (heo els[i] (List.getElem_mem i.2))
    show els[i].us.length=k
    rw [this,hk]
   let d:Array (Fin els.length):=Array.ofFn id
   have hds:d.size=ts.length:=by simp [d,hnl]
   have hdl:d.toList.flatMap enc=us:=by
    rw [heu]
    show (Array.ofFn id).toList.flatMap enc=_
    rw [Array.toList_ofFn]
    conv=>rhs;rw [<-List.ofFn_getElem (xs:=els)]
    simp only [List.flatMap,List.map_ofFn]
    rfl
   have hco:∀ i:Fin els.length,cf els[i].t els[i].t=cf els[i].t els[i].t:=fun _=>rfl
   have hmem:∀ i:Fin els.length,els[i].t∈ts:=fun i=>by
    have h9:els[i].t∈els.map (·.t):=List.mem_map.2 ⟨_,List.getElem_mem i.2,rfl⟩
    rwa [het] at h9
   have hO2:Go.Sort.SWO (ltOf fun i j:Fin els.length=>cf els[i].t els[j].t):=⟨fun x=>hO.irrefl _,fun x y z=>hO.trans _ _ _,fun x y z=>hO.ntrans _ _ _⟩
   have hkk:us.length=d.size*k:=by rw [hul,hlc,hds,Nat.mul_comm]
   have hH:Go.Sort.HoldsK enc k w b o d:=fun j hj=>by
    rw [Go.Sort.size_flatK] at hj
    refine ⟨?_,not_frozen hheap⟩
    have:=flatK_get henc d j hj
    rw [hdl] at this
    exact hus j _ this
   have hfne:∀ x∈fp',x≠b:=fun x hx e=>by
    subst e
    rw [hfp] at hnd
    exact (List.nodup_cons.1 hnd).1 hx
   have hfb:∀ x∈fp',x < w.heap.size:=fun x hx=>(hbl x (by rw [hfp];simp [hx])).2.2
   have hC:CmpLays P g #[] enc k (fun i j:Fin els.length=>cf els[i].t els[j].t) b o d.size w:=fun m os dk hdk x y=>by
    have hw:∀ i:Fin els.length,OwVs (sortWorldK enc k w b o m dk os) ok (f els[i].t) (enc i) els[i].fp:=fun i=>by
     have hsub:∀ q∈els[i].fp,q∈fp':=fun q hq=>by rw [hef];exact List.mem_flatMap.2 ⟨_,List.getElem_mem i.2,hq⟩
     refine OwVs_world (fun q hq=>srt_other m dk os ?_ (hR.okb q hq)) (heo els[i] (List.getElem_mem i.2)) fun q hq=>srt_other m dk os (hfne q (hsub q hq)) (hfb q (hsub q hq))
     rintro rfl
     exact hbm.1 hq
    have hgs:=size_sortWorldK_c enc k w b o m dk os
    have hfi:∀ i:Fin els.length,∀ q∈els[i].fp,q < (sortWorldK enc k w b o m dk os).heap.size:=fun i q hq=>Nat.lt_of_lt_of_le (hfb q (by rw [hef];exact List.mem_flatMap.2 ⟨_,List.getElem_mem i.2,hq⟩)) hgs
    exact cmp_call (hcmp _ (hmem x) _ (hmem y)) (hw x) (hw y) (hfi x) (hfi y) fun q hq=>Nat.lt_of_lt_of_le (hR.okb q hq) hgs
   obtain ⟨fn,cd,hf1,hf2,hf3⟩:=(hcmp _ (hmem ⟨0,by omega⟩) _ (hmem ⟨0,by omega⟩)).1
   have h1c:∀ x,∀ v∈enc x,v.oneCell'=true:=fun x v hv=>by
    refine OwVs_solid ?_ (heo els[x] (List.getElem_mem x.2)) v hv
    have:=hso [els[x].t]
    simpa [rows] using this
   have hcall:=hS.2 (Fin els.length) enc henc h1c (fun i j=>cf els[i].t els[j].t) hO2 g b o c d w (enters_of hf1 hf3 hf2) hC hH hbm.2.2 (by omega)
   rw [hds] at hcall
   refine Calls.mono hcall ?_
   rintro e w' ⟨rfl,d',m,os,hp,hsd,rfl⟩
   have hpl:=permIn_all (d:=d) (by rw [hds];exact hp)
   have hdd:d.toList=List.finRange els.length:=by
    show (Array.ofFn id).toList=_
    rw [Array.toList_ofFn]
    rfl
   have hsz':d'.size=ts.length:=hp.1.trans hds
   let el2:List (El τ):=d'.toList.map fun i=>els[i]
   have hpe:el2.Perm els:=by
    have h2:=hpl.map fun i:Fin els.length=>els[i]
    refine h2.trans (List.Perm.of_eq ?_)
    show (Array.ofFn id).toList.map _=els
    rw [Array.toList_ofFn,List.map_ofFn]
    exact List.ofFn_getElem
   refine ⟨_,[.ow k ts.length (rows f (el2.map (·.t)))],[],ok,fun _=>b :: el2.flatMap (·.fp),[],rfl,⟨el2.map (·.t),by rw [<-het];exact hpe.map _,?_,rfl,rfl⟩,?_⟩
   ·have:=sortedIn_all hp.1 (by rw [hds];exact hsd)
    rw [List.pairwise_map,List.pairwise_map]
    refine this.imp fun h=>?_
    simpa [ltOf] using h
   ·have hpf:(el2.flatMap (·.fp)).Perm fp':=by rw [hef];exact hpe.flatMap_right _
    obtain ⟨arr',hb',hsa⟩:=srt_blk (enc:=enc) (k:=k) (o:=o) m d' os hheap
    have hgs:=size_sortWorldK_c enc k w b o m d' os
    refine done1 (hns2 _) ?_ ?_ ?_ (srt_keeps m d' os hb0) hR.okb
    ·simp only [Ow]
     refine .inr ⟨b,o,c,arr',T,el2.flatMap (·.fp),e1,rfl,hb',hcap,by rw [hsa];exact harr,?_,?_⟩
     ·rw [rows_length hk,List.length_map,List.length_map,Array.length_toList,hsz']
     ·have hov2:OwVs w ok (rows f (el2.map (·.t))) (el2.flatMap (·.us)) (el2.flatMap (·.fp)):=els_rows el2 fun x hx=>heo x (hpe.subset hx)
      have hflat:el2.flatMap (·.us)=d'.toList.flatMap enc:=by
       show (d'.toList.map _).flatMap _=_
       rw [List.flatMap_map]
      refine OwL_lay (fun q hq=>srt_other m d' os ?_ (hR.okb q hq)) hov2 (fun j v hj=>?_) fun q hq=>srt_other m d' os (hfne q (hpf.subset hq)) (hfb q (hpf.subset hq))
      ·rintro rfl
       exact hbm.1 hq
      ·have hHs:=holdsK_sortWorldK_c enc k w b o d d' m os hH hbm.2.2 hp.1
       have hj2:j < d'.size*k:=by
        rcases Nat.lt_or_ge j (d'.toList.flatMap enc).length with h | h
        ·rwa [flat_len henc,Array.length_toList] at h
        ·rw [hflat,List.getElem?_eq_none h] at hj;simp at hj
       rw [hflat,flatK_get henc d' j hj2] at hj
       simp only [Option.some.injEq] at hj
       rw [<-hj]
       exact (hHs j (by rw [Go.Sort.size_flatK];exact hj2)).1
    ·refine List.nodup_cons.2 ⟨fun h=>hfne b (hpf.subset h) rfl,hpf.nodup_iff.2 ?_⟩
     rw [hfp] at hnd
     exact (List.nodup_cons.1 hnd).2
    ·intro q hq
     rcases List.mem_cons.1 hq with rfl | hq
     ·exact ⟨hbm.1,.inl hb0,Nat.lt_of_lt_of_le hbm.2.2 hgs⟩
     ·have:=hbl q (by rw [hfp];simp [hpf.subset hq])
      exact ⟨this.1,this.2.1,Nat.lt_of_lt_of_le this.2.2 hgs⟩
end Go.Proofs.YtbhkonnakkhibaaGreat.Ab
namespace Go.Proofs.YtbhkonnakkhibaaGreat.Ab
open Go
set_option maxRecDepth 10000
set_option maxHeartbeats 2000000
attribute [local simp] mapKV flatInt tileB
def SortOk:Prop:=∀ (ts:List Trm),(∀ t∈ts,t.e.length < 4611686018427387904)->(ts.map (·.e)).Nodup->ts.length < 4611686018427387904 ->
 ACalls Tryz.prog F.slices_SortFunc_impl_Term_impl_Term [.al (0,0) [] 0 ts.length,.d (.fn F.impl_building_done_1 [])] [((0,0),.ow 2 ts.length (rows tO ts))] true (fun outs res=>∃ r:List Trm,r.Perm ts/\DescT r/\outs=[.ow 2 ts.length (rows tO r)]/\res=[])
theorem insK_len_eq {K:Type} [DecidableEq K] {lt:K->K->Bool} {k:K} {c:Int} (hc:c≠0):∀ l:List (K×Int),(∀ x∈l,x.1≠k)->(insK lt k c l).length=l.length+1
 | [],_=>by simp [insK,hc]
 | x :: l,h=>by
  simp only [insK]
  rw [if_neg (h x (by simp))]
  split
  ·first | rfl | (rw [if_neg hc];rfl)
  ·simp [insK_len_eq hc l fun y hy=>h y (by simp [hy])]
theorem nf_len_eq {K:Type} [DecidableEq K] {lt:K->K->Bool}:∀ l:List (K×Int),(l.map (·.1)).Nodup->(∀ x∈l,x.2≠0)->(nf lt l).length=l.length
 | [],_,_=>rfl
 | x :: l,h,hz=>by
  simp only [List.map_cons,List.nodup_cons] at h
  simp only [nf]
  rw [insK_len_eq (hz x (by simp)),nf_len_eq l h.2 fun y hy=>hz y (by simp [hy])]
  ·rfl
  ·intro y hy e
   obtain ⟨z,hz,e2⟩:=nf_mem hy
   exact h.1 (List.mem_map.2 ⟨z,hz,by rw [e2,e]⟩)
theorem unpad_inj {n:Nat} {es l:List (List Int×Int)} (h:MapR n es l):((es.map (unpadT n)).map (·.1)).Nodup:=by
 have:∀ es:List (List Int×Int),(es.map (·.1)).Nodup->(∀ x∈es,∃ e,e.length=n/\x.1=pad e)->((es.map (unpadT n)).map (·.1)).Nodup:=by
  intro es
  induction es with
  | nil=>intro _ _;simp
  | cons x es ih=>
   intro hn hp
   simp only [List.map_cons,List.nodup_cons] at hn ⊢
   refine ⟨fun hm=>?_,ih hn.2 fun y hy=>hp y (by simp [hy])⟩
   obtain ⟨y,hy,e⟩:=List.mem_map.1 hm
   obtain ⟨z,hz,rfl⟩:=List.mem_map.1 hy
   obtain ⟨a,ha,e1⟩:=hp x (by simp)
   obtain ⟨b,hb,e2⟩:=hp z (by simp [hz])
   refine hn.1 (List.mem_map.2 ⟨z,hz,?_⟩)
   simp only [unpadT] at e
   rw [e1,e2] at e ⊢
   have q1:(pad a).take n=a:=by rw [<-ha];exact pad_take
   have q2:(pad b).take n=b:=by rw [<-hb];exact pad_take
   rw [q1,q2] at e
   rw [e]
 exact this es h.nod fun x hx=>(h.nz x hx).2
theorem unpad_nf2 {n:Nat} {es l:List (List Int×Int)} (h:MapR n es l) (hl:∀ x∈l,x.1.length=n):nf lexlt (es.map (unpadT n))=nf lexlt l:=
 nf_unique lexOrd (nf_desc lexOrd _) (nf_nz _) fun k=>by rw [nf_co,unpad_co h hl]
theorem unpad_len {n:Nat} {es l:List (List Int×Int)} (h:MapR n es l) (hl:∀ x∈l,x.1.length=n):(nf lexlt l).length=es.length:=by
 rw [<-unpad_nf2 h hl,nf_len_eq _ (unpad_inj h),List.length_map]
 intro x hx
 obtain ⟨y,hy,rfl⟩:=List.mem_map.1 hx
 exact (h.nz y hy).1
theorem shutF_many {n:Nat} {es l:List (List Int×Int)} (h:MapR n es l) (hl:∀ x∈l,x.1.length=n) (hm:600 < es.length):shutF n l=(zeroF,false):=by
 unfold shutF
 rw [if_neg]
 intro hr
 have:=hr.2.1
 simp only [List.length_map] at this
 rw [unpad_len h hl] at this
 omega
theorem erase_perm {α:Type}:∀ (l:List α) (i:Nat) (h:i < l.length),(l[i] :: l.eraseIdx i).Perm l
 | [],i,h=>by simp at h
 | x :: l,0,h=>by simp
 | x :: l,i+1,h=>by
  simp only [List.getElem_cons_succ,List.eraseIdx_cons_succ]
  exact (List.Perm.swap ..).trans (List.Perm.cons x (erase_perm l i (by simpa using h)))
theorem sh8 (n:Nat) (k0 k1 k2 k3 k4 k5 k6 k7:Int):shareL (List.take n [D.v (.int .i64 k0),D.v (.int .i64 k1),D.v (.int .i64 k2),D.v (.int .i64 k3),D.v (.int .i64 k4),D.v (.int .i64 k5),D.v (.int .i64 k6),D.v (.int .i64 k7)])=ints (List.take n [k0,k1,k2,k3,k4,k5,k6,k7]):=by
 rw [show ([D.v (.int .i64 k0),D.v (.int .i64 k1),D.v (.int .i64 k2),D.v (.int .i64 k3),D.v (.int .i64 k4),D.v (.int .i64 k5),D.v (.int .i64 k6),D.v (.int .i64 k7)]:List D)=ints [k0,k1,k2,k3,k4,k5,k6,k7] from rfl,ints_take,shareL_ints]
theorem impl_building_done_1_c (x y:Trm) (hx:x.e.length < 4611686018427387904) (hy:y.e.length < 4611686018427387904):ACalls Tryz.prog F.impl_building_done_1 [.ag [.d (shI x.e),.int x.c],.ag [.d (shI y.e),.int y.c]] [] true (fun outs res=>outs=[]/\res=[.one (D.int (cmpL y.e x.e))]):=by
 refine ACalls.of_body (C:=C.impl_building_done_1) (n:=Tryz.f165.ntmps) tabT folT Tryz.func165 rfl (by kernel_rfl) rfl (Nat.le_of_ble_eq_true rfl) (by decide) (by kernel_rfl) (by kernel_rfl) rfl (by simp) (by simp) ?_
 simp only [Tryz.f165]
 refine wseq ?_
 refine wreg fun K hK=>?_
 simp [C.impl_building_done_1]
 refine hK _ ?_;clear hK K
 show AWp _ _ _ _ _
 refine wseq ?_
 refine wregI ([0,1,2,3,4] ++ ([5])) rfl fun K hK=>?_
 refine oSg fun L hL=>?_
 simp [C.impl_building_done_1]
 refine wcall1 (slices_Compare_int_int_c y.e x.e hy) (by simp) (by simp) ?_
 simp [C.impl_building_done_1]
 refine hL _ ?_;clear hL L
 refine oEn fun L hL=>?_
 simp [C.impl_building_done_1]
 refine hL _ ?_;clear hL L
 simp [C.impl_building_done_1]
 refine hK _ ?_;clear hK K
 show AWp _ _ _ _ _
 refine wret ?_
 simp [C.impl_building_done_1]
theorem impl_building_done_c (hSort:SortOk) (n:Nat) (es l:List (List Int×Int)) (hM:MapR n es l) (hl:∀ x∈l,x.1.length=n) (h1:1<=n) (h8:n<=8) (hL:l.length<=1000000):ACalls Tryz.prog F.impl_building_done [.pt (0,0) [] 0] [((0,0),.bx [D.int n,.mp es])] true (fun outs res=>outs=[.bx [D.int n,.mp es]]/\WkRs res [.ag (fO (shutF n l).1),.one (D.bool (shutF n l).2)]):=by
 refine ACalls.of_body (C:=C.impl_building_done) (n:=Tryz.f95.ntmps) tabT folT Tryz.func95 rfl (by kernel_rfl) rfl (Nat.le_of_ble_eq_true rfl) (by decide) (by kernel_rfl) (by kernel_rfl) rfl (by simp) (by simp) ?_
 simp only [Tryz.f95]
 refine wseq ?_
 refine wreg fun K hK=>?_
 simp [C.impl_building_done]
 refine hK _ ?_;clear hK K
 show AWp _ _ _ _ _
 refine wseq ?_
 refine wreg fun K hK=>?_
 simp [C.impl_building_done]
 refine hK _ ?_;clear hK K
 show AWp _ _ _ _ _
 refine wseq ?_
 refine wseq ?_
 refine wreg fun K hK=>?_
 simp [C.impl_building_done]
 refine hK _ ?_;clear hK K
 show AWp _ _ _ _ _
 refine wcond _ rfl (fun hc1=>?_) (fun hc1=>?_)
 ·have hm:=shutF_many hM hl (by have:=d_t hc1;omega)
  refine wseq ?_
  refine wreg fun K hK=>?_
  simp [C.impl_building_done]
  refine hK _ ?_;clear hK K
  show AWp _ _ _ _ _
  refine wret ?_
  simp [C.impl_building_done,hm,fO,zeroF,rows]
 ·have h600:es.length<=600:=by have:=d_f hc1;omega
  refine wskip ?_
  show AWp _ _ _ _ _
  refine wseq ?_
  refine wseq ?_
  refine wreg fun K hK=>?_
  simp [C.impl_building_done]
  refine hK _ ?_;clear hK K
  show AWp _ _ _ _ _
  refine wblock ?_
  refine wloopW (fun x:List Trm×List (List Int×Int)×Option (List Int×Int)=>⟨ofL [(0,.pt (0,0) [] 0),(2,.pt (2,0) [] 0),(4,.pt (4,0) [] 0),(23,.it (23,0) (0,0) [1] x.2.1 x.2.2),(1000,.pt (0,0) [] 0)],ofRO [((0,0),some (.bx [D.int n,.mp es])),((2,0),some (.bx [D.int 0,.v (.slice none 0 0)])),((4,0),some (.bx [D.int n,.ow 2 x.1.length (rows tO x.1)])),((23,0),some .itr)]⟩) (fun x=>(x.1.map pr ++ x.2.1.map (unpadT n)).Perm (es.map (unpadT n))/\∀ y∈x.2.1,y∈es) (fun x=>x.2.1.length) ([],es,none) [.cell (4,0) [] 1 2] (by simp [C.impl_building_done,rows];funext q;by_cases e4:q=(4,0);(subst e4;rfl);by_cases e9:q=(9999,0);(subst e9;rfl);simp [ofRO,e4,e9,Ne.symm e4]) ⟨by simp,fun y hy=>hy⟩ ?_
  intro x1 hx1 R1 hR1
  obtain ⟨q,rest,cur⟩:=x1
  obtain ⟨hq,hin⟩:=hx1
  dsimp only at hq hin ⊢
  refine wseq ?_
  refine wreg fun K hK=>?_
  simp [C.impl_building_done]
  refine ⟨fun hrest=>?_,fun i xk xc hx=>?_⟩
  ·refine hK _ ?_;clear hK K
   show AWp _ _ _ _ _
   refine wseq ?_
   refine wcond _ rfl (fun hc2=>?_) (fun hc2=>?_)
   ·simp at hc2
   ·subst hrest
    have hq2:(q.map pr).Perm (es.map (unpadT n)):=by simpa using hq
    have hqe:∀ t∈q,t.e.length=n:=fun t ht=>by
     have h3:=hq2.subset (List.mem_map.2 ⟨t,ht,rfl⟩)
     obtain ⟨y,hy,e⟩:=List.mem_map.1 h3
     have e2:t.e=y.1.take n:=by
      have:=congrArg Prod.fst e
      simpa [pr,unpadT] using this.symm
     rw [e2,List.length_take,hM.len8 h8 y hy]
     omega
    have hqn:(q.map (·.e)).Nodup:=by
     have h3:=(hq2.map (·.1)).nodup_iff.2 (unpad_inj hM)
     rw [List.map_map] at h3
     exact h3
    have hql:q.length=es.length:=by simpa using hq2.length_eq
    refine wexit ?_
    show AWp _ _ _ _ _
    refine wseq ?_
    refine wregI ([0,1,2] ++ ([])) rfl fun K hK=>?_
    refine oSg fun L hL=>?_
    simp [C.impl_building_done]
    refine wcall (hSort q (fun t ht=>by have:=hqe t ht;omega) hqn (by omega)) (by simp) (by simp) (by simp) ?_
    rintro outs res ⟨r,hr,hd,rfl,rfl⟩
    simp [C.impl_building_done]
    refine hL _ ?_;clear hL L
    refine oEn fun L hL=>?_
    simp only [AOpsI]
    refine hL _ ?_;clear hL L
    simp [C.impl_building_done]
    refine hK _ ?_;clear hK K
    show AWp _ _ _ _ _
    refine wseq ?_
    refine wseq ?_
    have hrl:r.length=q.length:=hr.length_eq
    have hrn:r.map pr=nf lexlt l:=unpad_nf hM hl ((hr.map pr).trans hq2) (by
     unfold Desc
     rw [List.pairwise_map]
     exact hd)
    have hrt:(nf lexlt l).map tm=r:=by
     rw [<-hrn,List.map_map]
     have:tm ∘ pr=id:=rfl
     rw [this,List.map_id]
    refine wregI ([0,1] ++ ([2])) rfl fun K hK=>?_
    refine oSg fun L hL=>?_
    simp [C.impl_building_done,hrl]
    refine wcall1 (impl_LaurentOk_c ⟨n,r⟩ (by dsimp only;omega) (fun t ht=>by have:=hqe t (hr.subset ht);omega)) (by simp [hrl]) (by simp) ?_
    simp [C.impl_building_done,hrl]
    refine hL _ ?_;clear hL L
    refine oEn fun L hL=>?_
    simp [C.impl_building_done,hrl]
    refine hL _ ?_;clear hL L
    simp [C.impl_building_done,hrl]
    refine hK _ ?_;clear hK K
    show AWp _ _ _ _ _
    refine wcond _ rfl (fun hc3=>?_) (fun hc3=>?_)
    ·have hR:¬ Right ⟨n,r⟩:=by simpa using hc3
     have hm:shutF n l=(zeroF,false):=by unfold shutF;rw [hrt,if_neg hR]
     refine wseq ?_
     refine wreg fun K hK=>?_
     simp [C.impl_building_done]
     refine hK _ ?_;clear hK K
     show AWp _ _ _ _ _
     refine wret ?_
     simp [C.impl_building_done,hm,fO,zeroF,rows]
    ·have hR:Right ⟨n,r⟩:=by simpa using hc3
     have hm:shutF n l=(⟨n,r⟩,true):=by unfold shutF;rw [hrt,if_pos hR]
     refine wskip ?_
     show AWp _ _ _ _ _
     refine wseq ?_
     refine wreg fun K hK=>?_
     simp [C.impl_building_done]
     refine hK _ ?_;clear hK K
     show AWp _ _ _ _ _
     refine wret ?_
     simp [C.impl_building_done,hm,fO,hrl]
  ·refine hK _ ?_;clear hK K
   show AWp _ _ _ _ _
   refine wseq ?_
   refine wcond _ rfl (fun hc4=>?_) (fun hc4=>?_)
   ·have hxm:(xk,xc)∈rest:=List.mem_of_getElem? hx
    have hxl:=hM.len8 h8 _ (hin _ hxm)
    dsimp only at hxl
    obtain ⟨k0,k1,k2,k3,k4,k5,k6,k7,rfl⟩:=eight hxl
    have hql:q.length+rest.length=es.length:=by simpa using hq.length_eq
    have hil:i < rest.length:=by
     rcases Nat.lt_or_ge i rest.length with h | h
     ·exact h
     ·rw [List.getElem?_eq_none h] at hx;simp at hx
    refine wskip ?_
    show AWp _ _ _ _ _
    refine wblock ?_
    refine wseq ?_
    refine wreg fun K hK=>?_
    simp [C.impl_building_done]
    refine hK _ ?_;clear hK K
    show AWp _ _ _ _ _
    refine wdrawI [(true,0),(true,1),(true,2),(true,3),(true,4),(true,5),(true,6),(true,8),(false,7),(true,9),(false,10),(false,11),(true,12),(false,13)] ⟨by kernel_rfl,by kernel_rfl⟩ ([0,1,2,3,4,5,6,8,7] ++ ([9,10,11,12,13])) rfl fun K hK=>?_
    refine oSg fun L hL=>?_
    simp [C.impl_building_done,tO_snoc,show ((n:Int)<=8) by omega,h8,Nat.min_eq_left h8,sh8,show (q.length+1)*32<=140737488355328 by omega]
    refine wcall1 (clone_c ([k0,k1,k2,k3,k4,k5,k6,k7].take n) (by simp;omega)) (by simp [tO_snoc,show ((n:Int)<=8) by omega,h8,Nat.min_eq_left h8,sh8,show (q.length+1)*32<=140737488355328 by omega]) (by simp) ?_
    simp [C.impl_building_done,tO_snoc,show ((n:Int)<=8) by omega,h8,Nat.min_eq_left h8,sh8,show (q.length+1)*32<=140737488355328 by omega]
    refine hL _ ?_;clear hL L
    refine oEn fun L hL=>?_
    simp [C.impl_building_done,tO_snoc,show ((n:Int)<=8) by omega,h8,Nat.min_eq_left h8,sh8,show (q.length+1)*32<=140737488355328 by omega]
    refine hL _ ?_;clear hL L
    simp [C.impl_building_done,tO_snoc,show ((n:Int)<=8) by omega,h8,Nat.min_eq_left h8,sh8,show (q.length+1)*32<=140737488355328 by omega]
    refine hK _ ?_;clear hK K
    simp [C.impl_building_done]
    have htl:([k0,k1,k2,k3,k4,k5,k6,k7].take n).length=n:=by simp;omega
    have hrow:rows tO q ++ [D.ow 1 n (ints (List.take n [k0,k1,k2,k3,k4,k5,k6,k7])),D.v (.int .i64 xc)]=rows tO (q ++ [⟨List.take n [k0,k1,k2,k3,k4,k5,k6,k7],xc⟩]):=by
     rw [<-tO_snoc]
     simp only [htl]
    refine cast (congrArg R1 ?_) (hR1 (q ++ [⟨List.take n [k0,k1,k2,k3,k4,k5,k6,k7],xc⟩],rest.eraseIdx i,some ([k0,k1,k2,k3,k4,k5,k6,k7],xc)) ⟨?_,?_⟩ ?_)
    ·simp [hrow]
    ·dsimp only
     have hget:rest[i]=([k0,k1,k2,k3,k4,k5,k6,k7],xc):=by
      rw [List.getElem?_eq_getElem hil] at hx
      injection hx
     have hper:=erase_perm rest i hil
     rw [hget] at hper
     refine List.Perm.trans ?_ hq
     rw [List.map_append,List.append_assoc]
     exact List.Perm.append_left _ (hper.map (unpadT n))
    ·exact fun y hy=>hin y (List.mem_of_mem_eraseIdx hy)
    ·dsimp only
     rw [List.length_eraseIdx_of_lt hil]
     omega
   ·simp at hc4
end Go.Proofs.YtbhkonnakkhibaaGreat.Ab
namespace Go.Proofs.YtbhkonnakkhibaaGreat.Ab
open Go
theorem sfTerm:SfOk Tryz.prog F.slices_SortFunc_impl_Term_impl_Term 2:=by
 refine ⟨fun p cap fv w=>?_,fun α _ enc hk h1 cf hO g blk off cap d w eg hcmp hH hblk hsz=>?_⟩
 ·have h:=AnyF.slices_SortFunc_none sortTerm p cap fv w
  rw [sortTerm_f6] at h
  exact h
 ·have h:=AnyQ.slices_SortFunc sortTerm 2 sortTerm_agg sortTerm_size enc hk h1 cf hO g #[] blk off cap d w eg hcmp hH hblk hsz
  rw [sortTerm_f6] at h
  exact h
theorem lexlt_ntrans (a b c:List Int) (h1:lexlt a b=false) (h2:lexlt b c=false):lexlt a c=false:=by
 cases h:lexlt a c with
 | false=>rfl
 | true=>
  exfalso
  rcases lexlt_tot a b with h3 | h3 | h3
  ·rw [h1] at h3;simp at h3
  ·subst h3
   rw [h2] at h;simp at h
  ·have:=lexlt_tr b a c h3 h
   rw [h2] at this;simp at this
theorem swoTerm:Go.Sort.SWO (ltOf fun x y:Trm=>cmpL y.e x.e) where
 irrefl x:=by unfold ltOf;rw [cmpL_neg];exact lexlt_irr _
 trans x y z h1 h2:=by
  unfold ltOf at *
  rw [cmpL_neg] at *
  exact lexlt_tr _ _ _ h2 h1
 ntrans x y z h1 h2:=by
  unfold ltOf at *
  rw [cmpL_neg] at *
  exact lexlt_ntrans _ _ _ h2 h1
theorem sortOk:SortOk:=by
 intro ts hts hnd hlen
 have h:=sort_c (P:=Tryz.prog) (g:=F.impl_building_done_1) ⟨Tryz.f164,_,Tryz.func164,rfl,by kernel_rfl⟩ sfTerm tO_two (by omega) (fun t=>by simp [tO,noShL,noSh]) (fun l=>by
  induction l with
  | nil=>trivial
  | cons x l ih=>
   simp only [rows,tO,List.cons_append,List.nil_append,solidL]
   exact ⟨rfl,rfl,ih⟩) (fun x y:Trm=>cmpL y.e x.e) swoTerm ts hlen (fun x hx y hy=>by
  have:=impl_building_done_1_c x y (hts x hx) (hts y hy)
  simpa [tO,shareL,share,shareL_ints] using this)
 refine ACalls.mono h ?_
 rintro outs res ⟨r,h1,h2,h3,h4⟩
 refine ⟨r,h1,?_,h3,h4⟩
 have hnr:(r.map (·.e)).Nodup:=(h1.map (·.e)).nodup_iff.2 hnd
 unfold DescT
 rw [List.Nodup,List.pairwise_map] at hnr
 refine (h2.and hnr).imp ?_
 rintro a b ⟨h5,h6⟩
 have h7:lexlt a.e b.e=false:=by
  rw [<-cmpL_neg]
  simpa using h5
 rcases lexlt_tot a.e b.e with h8 | h8 | h8
 ·rw [h7] at h8;simp at h8
 ·exact absurd h8 h6
 ·exact h8
end Go.Proofs.YtbhkonnakkhibaaGreat.Ab
namespace Go.Proofs.YtbhkonnakkhibaaGreat.Ab
open Go
theorem doneOk:DoneOk:=fun n es l hM hl h1 h8 hL=>(impl_building_done_c sortOk n es l hM hl h1 h8 hL).weak1
theorem mulOk:MulOk:=iMul_c doneOk
end Go.Proofs.YtbhkonnakkhibaaGreat.Ab
namespace Go.Proofs.YtbhkonnakkhibaaGreat.Ab
open Go
set_option maxRecDepth 10000
set_option maxHeartbeats 2000000
def byts (xs:List Int):List D:=xs.map fun x=>D.v (.int .u8 x)
@[simp] theorem byts_length (xs:List Int):(byts xs).length=xs.length:=by simp [byts]
theorem byts_0 {xs:List Int} {i:Nat} (h:i < xs.length):(byts xs)[i]? = some (D.v (.int .u8 xs[i]))/\∀ h',(byts xs)[i]'h'=D.v (.int .u8 xs[i]):=by
 unfold byts
 exact ⟨by simp [h],fun _=>by simp⟩
theorem and_bd (x:Int) {m:Int} {b:Nat} (hm:(BitVec.ofInt 64 m).toNat=b) (hb:b < 4611686018427387904):0<=IntKind.i64.wrap ((BitVec.ofInt 64 x &&& BitVec.ofInt 64 m).toNat:Int)/\IntKind.i64.wrap ((BitVec.ofInt 64 x &&& BitVec.ofInt 64 m).toNat:Int)<=b:=by
 have h1:(BitVec.ofInt 64 x &&& BitVec.ofInt 64 m).toNat<=b:=by
  rw [BitVec.toNat_and,hm]
  exact Nat.and_le_right
 rw [wrapOk (by omega) (by omega)]
 omega
theorem ints_snocA (xs:List Int) (x:Int):ints xs ++ [D.v (.int .i64 x)]=ints (xs ++ [x]):=by simp [ints]
def cur (xs:List Int) (i:Nat) (h:Int):D:=.bx [.sh 1 xs.length (byts xs),D.int i,D.int h]
attribute [local simp] cur
def DrawI (xs:List Int) (p:Int->Prop) (outs:List D) (res:List RV):Prop:=∃ (i':Nat) (h' r:Int),i'<=xs.length/\p r/\outs=[cur xs i' h']/\res=[.one (D.int r)]
def DrawE (xs:List Int) (p:List Int->Prop) (outs:List D) (res:List RV):Prop:=∃ (i':Nat) (h':Int) (e:List Int),i'<=xs.length/\p e/\outs=[cur xs i' h']/\res=[.one (owI e)]
theorem laws_big_c (xs:List Int):ACalls Tryz.prog F.laws_big [.d (.sh 1 xs.length (byts xs))] [] true (fun outs res=>outs=[]/\res=[.one (D.bool (decide (1048576 < (xs.length:Int))))]):=by
 refine ACalls.of_body (C:=C.laws_big) (n:=Tryz.f21.ntmps) tabT folT Tryz.func21 rfl (by kernel_rfl) rfl (Nat.le_of_ble_eq_true rfl) (by decide) (by kernel_rfl) (by kernel_rfl) rfl (by simp) (by simp) ?_
 simp only [Tryz.f21]
 refine wseq ?_
 refine wreg fun K hK=>?_
 simp [C.laws_big]
 refine hK _ ?_;clear hK K
 show AWp _ _ _ _ _
 refine wseq ?_
 refine wreg fun K hK=>?_
 simp [C.laws_big]
 refine hK _ ?_;clear hK K
 show AWp _ _ _ _ _
 refine wret ?_
 simp [C.laws_big]
theorem spec_l1New_c (xs:List Int) (hx:xs.length<=1048576):ACalls Tryz.prog F.spec_l1New [.d (.sh 1 xs.length (byts xs))] [] false (fun outs res=>outs=[]/\∃ h:Int,res=[.one (cur xs 0 h)]):=by
 refine ACalls.of_body (C:=C.spec_l1New) (n:=Tryz.f70.ntmps) tabT folT Tryz.func70 rfl (by kernel_rfl) rfl (Nat.le_of_ble_eq_true rfl) (by decide) (by kernel_rfl) (by kernel_rfl) rfl (by simp) (by simp) ?_
 simp only [Tryz.f70]
 refine wseq ?_
 refine wreg fun K hK=>?_
 simp [C.spec_l1New]
 refine hK _ ?_;clear hK K
 show AWp _ _ _ _ _
 refine wseq ?_
 refine wreg fun K hK=>?_
 simp [C.spec_l1New]
 rw [wrapOk (x:=124929+(xs.length:Int)) (by omega) (by omega)]
 refine hK _ ?_;clear hK K
 show AWp _ _ _ _ _
 refine wseq ?_
 refine wseq ?_
 refine wreg fun K hK=>?_
 simp [C.spec_l1New]
 refine hK _ ?_;clear hK K
 show AWp _ _ _ _ _
 refine wblock ?_
 refine wloop (fun x:Nat×Int=>⟨ofL [(0,.d (.sh 1 xs.length (byts xs))),(3,.int x.2),(4,.int x.1)],ofRO []⟩) (fun x=>x.1<=xs.length) (fun x=>xs.length - x.1) (0,124929+(xs.length:Int)) (by simp [C.spec_l1New]) (by simp) ?_
 intro x1 hx1 R1 hR1
 obtain ⟨j,h⟩:=x1
 dsimp only at hx1 ⊢
 refine wseq ?_
 refine wseq ?_
 refine wreg fun K hK=>?_
 have hJ:K ⟨ofL [(0,.d (.sh 1 xs.length (byts xs))),(3,.int h),(4,.int j),(15,.bool (decide (j < xs.length/\(j:Int) < 4000)))],ofRO []⟩:=by
  refine hK _ ?_;clear hK K
  show AWp _ _ _ _ _
  refine wcond _ rfl (fun hc1=>?_) (fun hc1=>?_)
  ·have hh:=d_t hc1
   have h1:j < xs.length:=hh.1
   refine wskip ?_
   show AWp _ _ _ _ _
   refine wseq ?_
   refine wblock ?_
   refine wreg fun K hK=>?_
   simp [C.spec_l1New,h1,byts_0 h1]
   refine hK _ ?_;clear hK K
   show AWp _ _ _ _ _
   refine wreg fun K hK=>?_
   simp [C.spec_l1New,wrap_succ (show j < 4611686018427387904 by omega)]
   refine hK _ ?_;clear hK K
   simp [C.spec_l1New]
   exact hR1 (j+1,_) h1 (by dsimp only;omega)
  ·refine wexit ?_
   show AWp _ _ _ _ _
   refine wseq ?_
   refine wreg fun K hK=>?_
   simp [C.spec_l1New]
   refine hK _ ?_;clear hK K
   show AWp _ _ _ _ _
   refine wret ?_
   simp [C.spec_l1New,cur]
 clear hK
 by_cases ha:j < xs.length
 ·simp [C.spec_l1New,ha]
  refine cast (congrArg K ?_) hJ
  simp [ha]
 ·simp [C.spec_l1New,ha]
  refine cast (congrArg K ?_) hJ
  simp [ha]
theorem spec_l1Byte_c (xs:List Int) (i:Nat) (h:Int) (hi:i<=xs.length) (hx:xs.length<=1048576):ACalls Tryz.prog F.spec_l1Byte [.pt (0,0) [] 0] [((0,0),cur xs i h)] false (DrawI xs (fun r=>0<=r/\r<=255)):=by
 refine ACalls.of_body (C:=C.spec_l1Byte) (n:=Tryz.f211.ntmps) tabT folT Tryz.func211 rfl (by kernel_rfl) rfl (Nat.le_of_ble_eq_true rfl) (by decide) (by kernel_rfl) (by kernel_rfl) rfl (by simp) (by simp) ?_
 simp only [Tryz.f211]
 refine wseq ?_
 refine wreg fun K hK=>?_
 simp [C.spec_l1Byte,cur]
 refine hK _ ?_;clear hK K
 show AWp _ _ _ _ _
 refine wseq ?_
 refine wreg fun K hK=>?_
 simp [C.spec_l1Byte,cur]
 refine hK _ ?_;clear hK K
 show AWp _ _ _ _ _
 refine wseq ?_
 refine wdrawI [(true,0),(true,1),(true,2),(true,3),(true,4),(true,5),(true,6),(true,7),(true,8),(true,9),(true,10),(true,11),(true,12)] ⟨by kernel_rfl,by kernel_rfl⟩ ([0,1,2,3,4,5,6,7,8,9,10,11,12]) rfl fun K hK=>?_
 refine oEn fun L hL=>?_
 simp [C.spec_l1Byte,cur]
 refine hL _ ?_;clear hL L
 simp [C.spec_l1Byte,cur]
 refine hK _ ?_;clear hK K
 show AWp _ _ _ _ _
 refine wseq ?_
 refine wseq ?_
 refine wdraw (.take 0 (.take 1 (.take 2 (.take 3 (.take 4 (.take 5 (.take 6 (.take 7 (.take 8 (.take 9 (.done))))))))))) ⟨by kernel_rfl,by kernel_rfl⟩ fun K hK=>?_
 simp [C.spec_l1Byte,cur]
 refine hK _ ?_;clear hK K
 show AWp _ _ _ _ _
 refine wcond _ rfl (fun hc1=>?_) (fun hc1=>?_)
 ·have h1:i < xs.length:=by have:=d_t hc1;omega
  refine wseq ?_
  refine wdrawI [(true,0),(true,1),(true,2),(true,3),(true,4),(true,5),(true,6),(true,7),(true,8),(true,9),(true,10),(true,11),(true,12),(true,13),(true,14)] ⟨by kernel_rfl,by kernel_rfl⟩ ([0,1,2,3,4,5,6,7,8,9,10,11,12,13,14]) rfl fun K hK=>?_
  refine oEn fun L hL=>?_
  simp [C.spec_l1Byte,cur,h1,byts_0 h1]
  refine hL _ ?_;clear hL L
  simp [C.spec_l1Byte,cur,h1,byts_0 h1]
  refine hK _ ?_;clear hK K
  show AWp _ _ _ _ _
  refine wreg fun K hK=>?_
  simp [C.spec_l1Byte,cur,wrap_succ (show i < 4611686018427387904 by omega)]
  refine hK _ ?_;clear hK K
  show AWp _ _ _ _ _
  refine wseq ?_
  refine wreg fun K hK=>?_
  simp [C.spec_l1Byte,cur]
  refine hK _ ?_;clear hK K
  show AWp _ _ _ _ _
  refine wret ?_
  simp [C.spec_l1Byte,cur,cur]
  exact ⟨i+1,_,_,h1,and_bd (m:=255) (b:=255) _ (by decide) (by decide),rfl,rfl⟩
 ·have h1:¬ i < xs.length:=by have:=d_f hc1;omega
  refine wskip ?_
  show AWp _ _ _ _ _
  refine wseq ?_
  refine wreg fun K hK=>?_
  simp [C.spec_l1Byte,cur]
  refine hK _ ?_;clear hK K
  show AWp _ _ _ _ _
  refine wret ?_
  simp [C.spec_l1Byte,cur,cur]
  exact ⟨i,_,_,hi,and_bd (m:=255) (b:=255) _ (by decide) (by decide),rfl,rfl⟩
theorem spec_l1Below_c (xs:List Int) (i:Nat) (h n:Int) (hi:i<=xs.length) (hx:xs.length<=1048576) (hn:0 < n/\n<=256):ACalls Tryz.prog F.spec_l1Below [.pt (0,0) [] 0,.int n] [((0,0),cur xs i h)] false (DrawI xs (fun r=>0<=r/\r < n)):=by
 refine ACalls.of_body (C:=C.spec_l1Below) (n:=Tryz.f146.ntmps) tabT folT Tryz.func146 rfl (by kernel_rfl) rfl (Nat.le_of_ble_eq_true rfl) (by decide) (by kernel_rfl) (by kernel_rfl) rfl (by simp) (by simp) ?_
 simp only [Tryz.f146]
 refine wseq ?_
 refine wreg fun K hK=>?_
 simp [C.spec_l1Below,cur]
 refine hK _ ?_;clear hK K
 show AWp _ _ _ _ _
 refine wseq ?_
 refine wseq ?_
 refine wreg fun K hK=>?_
 simp [C.spec_l1Below,cur]
 refine hK _ ?_;clear hK K
 show AWp _ _ _ _ _
 refine wcond _ rfl (fun hc1=>?_) (fun hc1=>?_)
 ·have:=d_t hc1;omega
 ·refine wskip ?_
  show AWp _ _ _ _ _
  refine wseq ?_
  refine wseq ?_
  refine wreg fun K hK=>?_
  simp [C.spec_l1Below,cur]
  refine hK _ ?_;clear hK K
  show AWp _ _ _ _ _
  refine wcond _ rfl (fun hc2=>?_) (fun hc2=>?_)
  ·refine wseq ?_
   refine wregI ([0,1] ++ ([2,3,4])) rfl fun K hK=>?_
   refine oSg fun L hL=>?_
   simp [C.spec_l1Below,cur,show ¬ n=0 by omega]
   refine wcall (spec_l1Byte_c xs i h hi hx) (by simp) (by simp) (by simp) ?_
   rintro outs res ⟨i',h',r,q1,q2,rfl,rfl⟩
   simp [C.spec_l1Below,cur,show ¬ n=0 by omega]
   refine hL _ ?_;clear hL L
   refine oEn fun L hL=>?_
   simp [C.spec_l1Below,cur,show ¬ n=0 by omega]
   refine hL _ ?_;clear hL L
   simp [C.spec_l1Below,cur,show ¬ n=0 by omega]
   refine hK _ ?_;clear hK K
   show AWp _ _ _ _ _
   refine wret ?_
   simp [C.spec_l1Below,cur]
   exact ⟨i',h',r.tmod n,q1,⟨Int.tmod_nonneg _ q2.1,Int.tmod_lt_of_pos _ hn.1⟩,rfl,rfl⟩
  ·have:=d_f hc2;omega
theorem spec_dExp_c (xs:List Int) (i:Nat) (h:Int) (n:Nat) (hi:i<=xs.length) (hx:xs.length<=1048576) (hn:n<=8):ACalls Tryz.prog F.spec_dExp [.pt (0,0) [] 0,.int n] [((0,0),cur xs i h)] false (DrawE xs (fun e=>e.length=n/\∀ x∈e,-2<=x/\x<=2)):=by
 refine ACalls.of_body (C:=C.spec_dExp) (n:=Tryz.f148.ntmps) tabT folT Tryz.func148 rfl (by kernel_rfl) rfl (Nat.le_of_ble_eq_true rfl) (by decide) (by kernel_rfl) (by kernel_rfl) rfl (by simp) (by simp) ?_
 simp only [Tryz.f148]
 refine wseq ?_
 refine wreg fun K hK=>?_
 simp [C.spec_dExp,cur]
 refine hK _ ?_;clear hK K
 show AWp _ _ _ _ _
 refine wseq ?_
 refine wreg fun K hK=>?_
 simp [C.spec_dExp,cur]
 refine hK _ ?_;clear hK K
 show AWp _ _ _ _ _
 refine wseq ?_
 refine wseq ?_
 refine wreg fun K hK=>?_
 simp [C.spec_dExp,cur]
 refine hK _ ?_;clear hK K
 show AWp _ _ _ _ _
 refine wblock ?_
 refine wloop (fun x:Nat×List Int×Nat×Int=>⟨ofL [(0,.pt (0,0) [] 0),(1,.int n),(5,.al (5,0) [] 0 x.1),(6,.int x.1),(1000,.pt (0,0) [] 0)],ofRO [((0,0),some (cur xs x.2.2.1 x.2.2.2)),((5,0),some (.ow 1 x.1 (ints x.2.1)))]⟩) (fun x=>x.1<=n/\x.2.1.length=x.1/\(∀ y∈x.2.1,-2<=y/\y<=2)/\x.2.2.1<=xs.length) (fun x=>n - x.1) (0,[],i,h) (by simp [C.spec_dExp,ints]) ⟨by simp,rfl,by simp,hi⟩ ?_
 intro x1 hx1 R1 hR1
 obtain ⟨j,e,i1,h1⟩:=x1
 obtain ⟨g1,g2,g3,g4⟩:=hx1
 dsimp only at g1 g2 g3 g4 ⊢
 refine wseq ?_
 refine wseq ?_
 refine wreg fun K hK=>?_
 simp [C.spec_dExp,cur]
 refine hK _ ?_;clear hK K
 show AWp _ _ _ _ _
 refine wcond _ rfl (fun hc1=>?_) (fun hc1=>?_)
 ·have hj:j < n:=by have:=d_t hc1;omega
  refine wskip ?_
  show AWp _ _ _ _ _
  refine wseq ?_
  refine wblock ?_
  refine wregI ([0,1,2] ++ ([3,4,5,6])) rfl fun K hK=>?_
  refine oSg fun L hL=>?_
  simp [C.spec_dExp,cur,ints_snocA,show (j+1)*8<=140737488355328 by omega]
  refine wcall (spec_l1Below_c xs i1 h1 5 g4 hx (by omega)) (by simp) (by simp) (by simp) ?_
  rintro outs res ⟨i',h',r,q1,q2,rfl,rfl⟩
  simp [C.spec_dExp,cur,ints_snocA,show (j+1)*8<=140737488355328 by omega]
  refine hL _ ?_;clear hL L
  refine oEn fun L hL=>?_
  simp [C.spec_dExp,cur,ints_snocA,show (j+1)*8<=140737488355328 by omega]
  refine hL _ ?_;clear hL L
  simp [C.spec_dExp,cur,ints_snocA,show (j+1)*8<=140737488355328 by omega]
  refine hK _ ?_;clear hK K
  show AWp _ _ _ _ _
  refine wreg fun K hK=>?_
  simp [C.spec_dExp,cur,wrap_succ (show j < 4611686018427387904 by omega)]
  refine hK _ ?_;clear hK K
  simp [C.spec_dExp,cur]
  rw [wrapOk (x:=r - 2) (by omega) (by omega)]
  refine hR1 (j+1,e ++ [r - 2],i',h') ⟨hj,by dsimp only;simp;omega,?_,q1⟩ (by dsimp only;omega)
  dsimp only
  intro y hy
  rcases List.mem_append.1 hy with hy | hy
  ·exact g3 y hy
  ·simp only [List.mem_singleton] at hy
   omega
 ·have hj:j=n:=by have:=d_f hc1;omega
  refine wexit ?_
  show AWp _ _ _ _ _
  refine wseq ?_
  refine wreg fun K hK=>?_
  simp [C.spec_dExp,cur]
  refine hK _ ?_;clear hK K
  show AWp _ _ _ _ _
  refine wret ?_
  simp [C.spec_dExp,cur]
  exact ⟨i1,h1,e,g4,⟨by omega,g3⟩,by simp [hj,g2,owI]⟩
end Go.Proofs.YtbhkonnakkhibaaGreat.Ab
namespace Go.Proofs.YtbhkonnakkhibaaGreat.Ab
open Go
set_option maxRecDepth 10000
set_option maxHeartbeats 2000000
attribute [local simp] cur
def Drawn (n:Nat) (f:Lau):Prop:=Right f/\f.v=n/\f.ts.length<=4/\∀ t∈f.ts,(-16<=t.c/\t.c<=16)/\∀ x∈t.e,-2<=x/\x<=2
def DrawL (n:Nat) (L:List (List Int×Int)):Prop:=L.length<=4/\∀ x∈L,(x.1.length=n/\∀ y∈x.1,-2<=y/\y<=2)/\-4<=x.2/\x.2<=4
theorem drawL_exps {n:Nat} {L:List (List Int×Int)} (h:DrawL n L):Exps n L:=fun x hx=>⟨(h.2 x hx).1.1,fun y hy=>by have:=(h.2 x hx).1.2 y hy;omega⟩
theorem drawL_abs {n:Nat}:∀ {L:List (List Int×Int)},(∀ x∈L,(x.1.length=n/\∀ y∈x.1,-2<=y/\y<=2)/\-4<=x.2/\x.2<=4)->absE L<=L.length*4
 | [],_=>by simp [absE]
 | x :: L,h=>by
  have h1:=(h x (by simp)).2
  have h2:=drawL_abs (L:=L) fun y hy=>h y (by simp [hy])
  simp only [absE,List.map_cons,List.sum_cons,List.length_cons] at h2 ⊢
  omega
theorem co_at {K:Type} [DecidableEq K] {lt:K->K->Bool} (ho:Ord lt):∀ {l:List (K×Int)},Desc lt l->∀ x∈l,co x.1 l=x.2
 | y :: l,h,x,hx=>by
  rcases List.mem_cons.1 hx with rfl | hx
  ·simp only [co,if_true]
   rw [co_none x.1 l (desc_tail_ne ho h)]
   omega
  ·have hne:=desc_tail_ne ho h x hx
   simp only [co]
   rw [if_neg (fun e=>hne e.symm),co_at ho (List.pairwise_cons.1 h).2 x hx]
   omega
theorem drawn_of {n:Nat} {L:List (List Int×Int)} (hn:1<=n/\n<=8) (h:DrawL n L):Drawn n ⟨n,(nf lexlt L).map tm⟩:=by
 have hl:=nf_len (lt:=lexlt) L
 have hd:=nf_desc lexOrd L
 have hz:=nf_nz (lt:=lexlt) L
 have hab:=drawL_abs h.2
 have hL:=h.1
 have ht:∀ x∈nf lexlt L,(-16<=x.2/\x.2<=16)/\x.1.length=n/\∀ y∈x.1,-2<=y/\y<=2:=fun x hx=>by
  have h1:=co_at lexOrd hd x hx
  rw [nf_co] at h1
  have h2:=co_abs x.1 L
  obtain ⟨z,hz1,hz2⟩:=nf_mem hx
  have h3:=(h.2 z hz1).1
  rw [hz2] at h3
  refine ⟨by omega,h3⟩
 refine ⟨⟨by dsimp only;omega,by dsimp only;rw [List.length_map];omega,fun t hm=>?_,?_⟩,rfl,by dsimp only;rw [List.length_map];omega,fun t hm=>?_⟩
 ·obtain ⟨x,hx,rfl⟩:=List.mem_map.1 hm
  have:=ht x hx
  refine ⟨by simp only [tm];omega,hz x hx,by simp only [tm];omega,fun y hy=>?_⟩
  have:=this.2.2 y hy
  omega
 ·unfold DescT
  rw [List.pairwise_map]
  exact hd
 ·obtain ⟨x,hx,rfl⟩:=List.mem_map.1 hm
  exact ⟨(ht x hx).1,(ht x hx).2.2⟩
def DrawF (xs:List Int) (n:Nat) (outs:List D) (res:List RV):Prop:=∃ (i':Nat) (h':Int) (f:Lau),i'<=xs.length/\Drawn n f/\outs=[cur xs i' h']/\res=[.ag (fO f)]
theorem spec_dLaurent_c (xs:List Int) (i:Nat) (h:Int) (n:Nat) (hi:i<=xs.length) (hx:xs.length<=1048576) (hn:1<=n/\n<=8):ACalls Tryz.prog F.spec_dLaurent [.pt (0,0) [] 0,.int n] [((0,0),cur xs i h)] false (DrawF xs n):=by
 refine ACalls.of_body (C:=C.spec_dLaurent) (n:=Tryz.f73.ntmps) tabT folT Tryz.func73 rfl (by kernel_rfl) rfl (Nat.le_of_ble_eq_true rfl) (by decide) (by kernel_rfl) (by kernel_rfl) rfl (by simp) (by simp) ?_
 simp only [Tryz.f73]
 refine wseq ?_
 refine wreg fun K hK=>?_
 simp [C.spec_dLaurent]
 refine hK _ ?_;clear hK K
 show AWp _ _ _ _ _
 refine wseq ?_
 refine wreg fun K hK=>?_
 simp [C.spec_dLaurent]
 refine hK _ ?_;clear hK K
 show AWp _ _ _ _ _
 refine wseq ?_
 refine wregI ([0,1] ++ ([2])) rfl fun K hK=>?_
 refine oSg fun L hL=>?_
 simp [C.spec_dLaurent]
 refine wcall (spec_l1Below_c xs i h 5 hi hx (by omega)) (by simp) (by simp) (by simp) ?_
 rintro outs res ⟨i1,h1,c,q1,q2,rfl,rfl⟩
 simp [C.spec_dLaurent]
 refine hL _ ?_;clear hL L
 refine oEn fun L hL=>?_
 simp [C.spec_dLaurent]
 refine hL _ ?_;clear hL L
 simp [C.spec_dLaurent]
 refine hK _ ?_;clear hK K
 show AWp _ _ _ _ _
 refine wseq ?_
 refine wseq ?_
 obtain ⟨m,rfl⟩:∃ m:Nat,c=m:=⟨c.toNat,by omega⟩
 refine wreg fun K hK=>?_
 simp [C.spec_dLaurent]
 refine hK _ ?_;clear hK K
 show AWp _ _ _ _ _
 refine wblock ?_
 refine wloop (fun x:Nat×List (List Int×Int)×Nat×Int=>⟨ofL [(0,.pt (0,0) [] 0),(1,.int n),(4,.pt (4,0) [] 0),(5,.al (5,0) [] 0 x.1),(6,.int m),(7,.int x.1),(1000,.pt (0,0) [] 0)],ofRO [((0,0),some (cur xs x.2.2.1 x.2.2.2)),((4,0),some (.bx [D.int 0,.v (.slice none 0 0)])),((5,0),some (.ow 2 x.1 (rows gM (x.2.1.map kc))))]⟩) (fun x=>x.1<=m/\x.2.1.length=x.1/\(∀ y∈x.2.1,(y.1.length=n/\∀ z∈y.1,-2<=z/\z<=2)/\-4<=y.2/\y.2<=4)/\x.2.2.1<=xs.length) (fun x=>m - x.1) (0,[],i1,h1) (by simp [C.spec_dLaurent,rows]) ⟨by simp,rfl,by simp,q1⟩ ?_
 intro x1 hx1 R1 hR1
 obtain ⟨j,L,i2,h2⟩:=x1
 obtain ⟨g1,g2,g3,g4⟩:=hx1
 dsimp only at g1 g2 g3 g4 ⊢
 refine wseq ?_
 refine wseq ?_
 refine wreg fun K hK=>?_
 simp [C.spec_dLaurent]
 refine hK _ ?_;clear hK K
 show AWp _ _ _ _ _
 refine wcond _ rfl (fun hc1=>?_) (fun hc1=>?_)
 ·have hj:j < m:=by have:=d_t hc1;omega
  refine wskip ?_
  show AWp _ _ _ _ _
  refine wseq ?_
  refine wblock ?_
  refine wregI ([0,1,2,3] ++ ([4] ++ ([5,6] ++ ([7,8,9,10,11])))) rfl fun K hK=>?_
  refine oSg fun L hL=>?_
  simp [C.spec_dLaurent,gM_snoc,show (j+1)*16<=140737488355328 by omega]
  refine wcall (spec_dExp_c xs i2 h2 n g4 hx hn.2) (by simp) (by simp) (by simp) ?_
  rintro outs res ⟨i3,h3,e,p1,p2,rfl,rfl⟩
  simp [C.spec_dLaurent,gM_snoc,show (j+1)*16<=140737488355328 by omega]
  refine hL _ ?_;clear hL L
  refine oSg fun L hL=>?_
  simp [C.spec_dLaurent,gM_snoc,show (j+1)*16<=140737488355328 by omega]
  refine wcall1 (spec_l2Key_c e (fun z hz=>by have:=p2.2 z hz;omega) (by omega)) (by simp) (by simp) ?_
  simp [C.spec_dLaurent,gM_snoc,show (j+1)*16<=140737488355328 by omega]
  refine hL _ ?_;clear hL L
  refine oSg fun L hL=>?_
  simp [C.spec_dLaurent,gM_snoc,show (j+1)*16<=140737488355328 by omega]
  refine wcall (spec_l1Below_c xs i3 h3 9 p1 hx (by omega)) (by simp) (by simp) (by simp) ?_
  rintro outs res ⟨i4,h4,r,s1,s2,rfl,rfl⟩
  simp [C.spec_dLaurent,gM_snoc,show (j+1)*16<=140737488355328 by omega]
  refine hL _ ?_;clear hL L
  refine oEn fun L hL=>?_
  simp [C.spec_dLaurent,gM_snoc,show (j+1)*16<=140737488355328 by omega]
  refine hL _ ?_;clear hL L
  simp [C.spec_dLaurent,gM_snoc,show (j+1)*16<=140737488355328 by omega]
  refine hK _ ?_;clear hK K
  show AWp _ _ _ _ _
  refine wreg fun K hK=>?_
  simp [C.spec_dLaurent,wrap_succ (show j < 4611686018427387904 by omega)]
  refine hK _ ?_;clear hK K
  simp [C.spec_dLaurent]
  rw [wrapOk (x:=r - 4) (by omega) (by omega)]
  refine cast (congrArg R1 ?_) (hR1 (j+1,L ++ [(e,r - 4)],i4,h4) ⟨hj,by dsimp only;simp;omega,?_,s1⟩ (by dsimp only;omega))
  ·simp [kc]
  ·dsimp only
   intro y hy
   rcases List.mem_append.1 hy with hy | hy
   ·exact g3 y hy
   ·simp only [List.mem_singleton] at hy
    subst hy
    exact ⟨p2,by dsimp only;omega⟩
 ·have hj:j=m:=by have:=d_f hc1;omega
  have hD:DrawL n L:=⟨by omega,g3⟩
  have hex:=drawL_exps hD
  have hG:=spec_l2Gather_c (L.map kc) (by simp;omega) (by
   have:=drawL_abs g3
   have e:absL (L.map kc)=absE L:=by simp [absL,absE,kc,Function.comp_def]
   omega)
  rw [nf_key _ hex] at hG
  simp only [List.length_map,g2] at hG
  have hnl:=nf_len (lt:=lexlt) L
  have hS:=shut_coded (nf lexlt L) n (by omega) (fun x hx=>by have:=nf_exps hex x hx;exact ⟨this.2,this.1⟩) hn.2
  have hdr:=drawn_of hn hD
  have hend:endF n (some (nf lexlt L))=(⟨n,(nf lexlt L).map tm⟩,true):=if_pos hdr.1
  rw [hend] at hS
  refine wexit ?_
  show AWp _ _ _ _ _
  refine wseq ?_
  refine wregI ([0,1] ++ ([2,3] ++ ([4,5,6,7,8,9]))) rfl fun K hK=>?_
  refine oSg fun L hL=>?_
  simp [C.spec_dLaurent,fO]
  refine wcall1 (hG) (by simp) (by simp) ?_
  simp [C.spec_dLaurent,fO]
  refine hL _ ?_;clear hL L
  refine oSg fun L hL=>?_
  simp [C.spec_dLaurent,fO]
  refine wcall1 (hS) (by simp) (by simp) ?_
  simp [C.spec_dLaurent,fO]
  refine hL _ ?_;clear hL L
  refine oEn fun L hL=>?_
  simp [C.spec_dLaurent,fO]
  refine hL _ ?_;clear hL L
  simp [C.spec_dLaurent,fO]
  refine hK _ ?_;clear hK K
  show AWp _ _ _ _ _
  refine wseq ?_
  refine wreg fun K hK=>?_
  simp [C.spec_dLaurent,fO]
  refine hK _ ?_;clear hK K
  show AWp _ _ _ _ _
  refine wret ?_
  simp [C.spec_dLaurent]
  exact ⟨i2,h2,_,g4,hdr,rfl,by simp [fO]⟩
end Go.Proofs.YtbhkonnakkhibaaGreat.Ab
namespace Go.Proofs.YtbhkonnakkhibaaGreat.Ab
open Go
set_option maxRecDepth 10000
set_option maxHeartbeats 2000000
attribute [local simp] cur
theorem laws_ints_c (a b:List Int) (hx:a.length < 4611686018427387904):ACalls Tryz.prog F.laws_ints [.d (shI a),.d (shI b)] [] true (fun outs res=>outs=[]/\res=[.one (D.bool (decide (a=b)))]):=by
 refine ACalls.of_body (C:=C.laws_ints) (n:=Tryz.f86.ntmps) tabT folT Tryz.func86 rfl (by kernel_rfl) rfl (Nat.le_of_ble_eq_true rfl) (by decide) (by kernel_rfl) (by kernel_rfl) rfl (by simp) (by simp) ?_
 simp only [Tryz.f86]
 refine wseq ?_
 refine wreg fun K hK=>?_
 simp [C.laws_ints]
 refine hK _ ?_;clear hK K
 show AWp _ _ _ _ _
 refine wseq ?_
 refine wseq ?_
 refine wreg fun K hK=>?_
 simp [C.laws_ints]
 refine hK _ ?_;clear hK K
 show AWp _ _ _ _ _
 refine wcond _ rfl (fun hc1=>?_) (fun hc1=>?_)
 ·refine wseq ?_
  refine wreg fun K hK=>?_
  simp [C.laws_ints]
  refine hK _ ?_;clear hK K
  show AWp _ _ _ _ _
  refine wret ?_
  have hc:¬ a.length=b.length:=by simp at hc1;omega
  simp [C.laws_ints]
  intro e;simp [e] at hc
 ·refine wskip ?_
  show AWp _ _ _ _ _
  refine wseq ?_
  refine wseq ?_
  refine wreg fun K hK=>?_
  simp [C.laws_ints]
  refine hK _ ?_;clear hK K
  show AWp _ _ _ _ _
  refine wblock ?_
  have e:a.length=b.length:=by simp at hc1;omega
  refine wloop (fun k:Nat=>⟨ofL [(0,.d (shI a)),(1,.d (shI b)),(5,FV.int k)],ofRO []⟩) (fun k=>k<=a.length/\a.take k=b.take k) (fun k=>a.length - k) 0 (by simp [C.laws_ints]) (by simp) ?_
  intro x1 hx1 R1 hR1
  obtain ⟨hk,ht⟩:=hx1
  refine wseq ?_
  refine wseq ?_
  refine wreg fun K hK=>?_
  simp [C.laws_ints]
  refine hK _ ?_;clear hK K
  show AWp _ _ _ _ _
  refine wcond _ rfl (fun hc2=>?_) (fun hc2=>?_)
  ·refine wskip ?_
   show AWp _ _ _ _ _
   refine wseq ?_
   refine wblock ?_
   refine wseq ?_
   have h1:x1 < a.length:=by simpa using hc2
   have h2:x1 < b.length:=by omega
   refine wdraw (.take 0 (.take 1 (.take 2 (.take 3 (.take 4 (.take 5 (.take 6 (.take 7 (.take 8 (.done)))))))))) ⟨by kernel_rfl,by kernel_rfl⟩ fun K hK=>?_
   simp [C.laws_ints,h1,h2,get_ints]
   refine hK _ ?_;clear hK K
   show AWp _ _ _ _ _
   refine wcond _ rfl (fun hc3=>?_) (fun hc3=>?_)
   ·refine wseq ?_
    refine wreg fun K hK=>?_
    simp [C.laws_ints]
    refine hK _ ?_;clear hK K
    show AWp _ _ _ _ _
    refine wret ?_
    have hc:¬ a[x1]=b[x1]:=by simpa using hc3
    simp [C.laws_ints]
    intro e2
    subst e2
    exact hc rfl
   ·refine wskip ?_
    show AWp _ _ _ _ _
    refine wreg fun K hK=>?_
    simp [C.laws_ints,wrap_succ (show x1 < 4611686018427387904 by omega)]
    refine hK _ ?_;clear hK K
    simp [C.laws_ints]
    have hc:a[x1]=b[x1]:=by simpa using hc3
    refine hR1 (x1+1) ⟨h1,?_⟩ (by omega)
    rw [List.take_succ_eq_append_getElem h1,List.take_succ_eq_append_getElem h2,ht,hc]
  ·refine wexit ?_
   show AWp _ _ _ _ _
   refine wseq ?_
   refine wreg fun K hK=>?_
   simp [C.laws_ints]
   refine hK _ ?_;clear hK K
   show AWp _ _ _ _ _
   refine wret ?_
   have hk2:x1=a.length:=by simp at hc2;omega
   simp [C.laws_ints]
   rw [hk2,List.take_length,e,List.take_length] at ht
   exact ht
theorem laws_laurents_c (f g:Lau) (hx:f.ts.length < 4611686018427387904) (hxe:∀ t∈f.ts,t.e.length < 4611686018427387904):ACalls Tryz.prog F.laws_laurents [aF f,aF g] [] true (fun outs res=>outs=[]/\res=[.one (D.bool (decide (f=g)))]):=by
 refine ACalls.of_body (C:=C.laws_laurents) (n:=Tryz.f30.ntmps) tabT folT Tryz.func30 rfl (by kernel_rfl) rfl (Nat.le_of_ble_eq_true rfl) (by decide) (by kernel_rfl) (by kernel_rfl) rfl (by simp) (by simp) ?_
 simp only [Tryz.f30]
 refine wseq ?_
 refine wreg fun K hK=>?_
 simp [C.laws_laurents,fS]
 refine hK _ ?_;clear hK K
 show AWp _ _ _ _ _
 refine wseq ?_
 refine wseq ?_
 refine wregI ([0,1,2,3,4,5,6,7,8,9,10,11,12,13]) rfl fun K hK=>?_
 have hJ:K ⟨ofL [(2,.pt (2,0) [] 0),(3,.pt (3,0) [] 0),(19,.bool (!decide (f.v=g.v/\(f.ts.length:Int)=g.ts.length)))],ofRO [((2,0),some (.bx (fS f))),((3,0),some (.bx (fS g)))]⟩:=by
  refine hK _ ?_;clear hK K
  show AWp _ _ _ _ _
  refine wcond _ rfl (fun hc1=>?_) (fun hc1=>?_)
  ·have hc:=nd_t hc1
   refine wseq ?_
   refine wreg fun K hK=>?_
   simp [C.laws_laurents,fS]
   refine hK _ ?_;clear hK K
   show AWp _ _ _ _ _
   refine wret ?_
   simp [C.laws_laurents,fS]
   intro e
   subst e
   exact hc ⟨rfl,rfl⟩
  ·have hc0:=nd_f hc1
   have hc:f.v=g.v/\f.ts.length=g.ts.length:=⟨hc0.1,by have:=hc0.2;omega⟩
   refine wskip ?_
   show AWp _ _ _ _ _
   refine wseq ?_
   refine wseq ?_
   refine wreg fun K hK=>?_
   simp [C.laws_laurents,fS]
   refine hK _ ?_;clear hK K
   show AWp _ _ _ _ _
   refine wblock ?_
   refine wloop (fun k:Nat=>⟨ofL [(2,.pt (2,0) [] 0),(3,.pt (3,0) [] 0),(5,FV.int k)],ofRO [((2,0),some (.bx (fS f))),((3,0),some (.bx (fS g)))]⟩) (fun k=>k<=f.ts.length/\f.ts.take k=g.ts.take k) (fun k=>f.ts.length - k) 0 (by simp [C.laws_laurents,fS]) (by simp) ?_
   intro x1 hx1 R1 hR1
   obtain ⟨hk,ht⟩:=hx1
   refine wseq ?_
   refine wseq ?_
   refine wreg fun K hK=>?_
   simp [C.laws_laurents,fS]
   refine hK _ ?_;clear hK K
   show AWp _ _ _ _ _
   refine wcond _ rfl (fun hc2=>?_) (fun hc2=>?_)
   ·have h1:x1 < f.ts.length:=by have:=d_t hc2;omega
    have h2:x1 < g.ts.length:=by omega
    refine wskip ?_
    show AWp _ _ _ _ _
    refine wseq ?_
    refine wblock ?_
    refine wseq ?_
    refine wdrawI [(true,0),(true,1),(true,2),(true,3),(true,4),(true,5),(true,6),(true,7),(true,8),(true,9),(true,10),(true,11),(true,12),(true,13),(true,14),(true,15),(true,16),(true,17),(true,18),(true,19),(true,20),(true,21),(true,22),(true,23),(true,24),(true,25),(false,26),(true,27),(true,28)] ⟨by kernel_rfl,by kernel_rfl⟩ ([0,1,2,3,4,5,6,7,8,9,10,11,12,13,14,15,16,17,18,19,20,21,22,23,24,25,26] ++ ([27,28])) rfl fun K hK=>?_
    have hJ:K ⟨ofL [(2,.pt (2,0) [] 0),(3,.pt (3,0) [] 0),(5,FV.int x1),(55,.bool (!decide (f.ts[x1].c=g.ts[x1].c/\f.ts[x1].e=g.ts[x1].e)))],ofRO [((2,0),some (.bx (fS f))),((3,0),some (.bx (fS g)))]⟩:=by
     refine hK _ ?_;clear hK K
     show AWp _ _ _ _ _
     refine wcond _ rfl (fun hc3=>?_) (fun hc3=>?_)
     ·have hb:=nd_t hc3
      refine wseq ?_
      refine wreg fun K hK=>?_
      simp [C.laws_laurents,fS]
      refine hK _ ?_;clear hK K
      show AWp _ _ _ _ _
      refine wret ?_
      simp [C.laws_laurents,fS]
      intro e
      subst e
      exact hb ⟨rfl,rfl⟩
     ·have hb:=nd_f hc3
      refine wskip ?_
      show AWp _ _ _ _ _
      refine wreg fun K hK=>?_
      simp [C.laws_laurents,fS,wrap_succ (show x1 < 4611686018427387904 by omega)]
      refine hK _ ?_;clear hK K
      simp [C.laws_laurents,fS]
      refine hR1 (x1+1) ⟨h1,?_⟩ (by omega)
      have he:f.ts[x1]=g.ts[x1]:=by
       cases hf:f.ts[x1]
       cases hg:g.ts[x1]
       simp only [hf,hg] at hb
       simp [hb.1,hb.2]
      rw [List.take_succ_eq_append_getElem h1,List.take_succ_eq_append_getElem h2,ht,he]
    clear hK
    by_cases ha:f.ts[x1].c=g.ts[x1].c
    ·refine oSg fun L hL=>?_
     simp [C.laws_laurents,fS,h1,h2,tS_0 h1,tS_1 h1,tS_0 h2,tS_1 h2,ha]
     refine wcall1 (laws_ints_c f.ts[x1].e g.ts[x1].e (hxe _ (List.getElem_mem h1))) (by simp) (by simp) ?_
     simp [C.laws_laurents,fS,h1,h2,tS_0 h1,tS_1 h1,tS_0 h2,tS_1 h2,ha]
     refine hL _ ?_;clear hL L
     refine oEn fun L hL=>?_
     simp [C.laws_laurents,fS,h1,h2,tS_0 h1,tS_1 h1,tS_0 h2,tS_1 h2,ha]
     refine hL _ ?_;clear hL L
     simp [C.laws_laurents,fS,h1,h2,tS_0 h1,tS_1 h1,tS_0 h2,tS_1 h2,ha]
     refine cast (congrArg K ?_) hJ
     simp [ibne,fS,ha]
    ·refine oSg fun L hL=>?_
     simp [C.laws_laurents,fS,h1,h2,tS_0 h1,tS_1 h1,tS_0 h2,tS_1 h2,ha]
     refine hL _ ?_;clear hL L
     refine oEn fun L hL=>?_
     simp [C.laws_laurents,fS,h1,h2,tS_0 h1,tS_1 h1,tS_0 h2,tS_1 h2,ha]
     refine hL _ ?_;clear hL L
     simp [C.laws_laurents,fS,h1,h2,tS_0 h1,tS_1 h1,tS_0 h2,tS_1 h2,ha]
     refine cast (congrArg K ?_) hJ
     simp [ibne,fS,ha]
   ·have h1:x1=f.ts.length:=by have:=d_f hc2;omega
    refine wexit ?_
    show AWp _ _ _ _ _
    refine wseq ?_
    refine wreg fun K hK=>?_
    simp [C.laws_laurents,fS]
    refine hK _ ?_;clear hK K
    show AWp _ _ _ _ _
    refine wret ?_
    simp [C.laws_laurents,fS]
    rw [h1,List.take_length,hc.2,List.take_length] at ht
    cases f
    cases g
    simp only at hc ht
    simp [hc.1,ht]
 clear hK
 by_cases ha:f.v=g.v
 ·refine oEn fun L hL=>?_
  simp [C.laws_laurents,fS,ha]
  refine hL _ ?_;clear hL L
  simp [C.laws_laurents,fS,ha]
  refine cast (congrArg K ?_) hJ
  simp [ibne,fS,ha]
 ·refine oEn fun L hL=>?_
  simp [C.laws_laurents,fS,ha]
  refine hL _ ?_;clear hL L
  simp [C.laws_laurents,fS,ha]
  refine cast (congrArg K ?_) hJ
  simp [ibne,fS,ha]
end Go.Proofs.YtbhkonnakkhibaaGreat.Ab
namespace Go.Proofs.YtbhkonnakkhibaaGreat.Ab
open Go
set_option maxRecDepth 10000
set_option maxHeartbeats 2000000
attribute [local simp] cur
def DrawBo (xs:List Int) (outs:List D) (res:List RV):Prop:=∃ (i':Nat) (h':Int) (b:Bool),i'<=xs.length/\outs=[cur xs i' h']/\res=[.one (D.bool b)]
theorem spec_l1Once_c (xs:List Int) (i:Nat) (h n:Int) (hi:i<=xs.length) (hx:xs.length<=1048576) (hn:0 < n/\n<=256):ACalls Tryz.prog F.spec_l1Once [.pt (0,0) [] 0,.int n] [((0,0),cur xs i h)] false (DrawBo xs):=by
 refine ACalls.of_body (C:=C.spec_l1Once) (n:=Tryz.f72.ntmps) tabT folT Tryz.func72 rfl (by kernel_rfl) rfl (Nat.le_of_ble_eq_true rfl) (by decide) (by kernel_rfl) (by kernel_rfl) rfl (by simp) (by simp) ?_
 simp only [Tryz.f72]
 refine wseq ?_
 refine wreg fun K hK=>?_
 simp [C.spec_l1Once,cur]
 refine hK _ ?_;clear hK K
 show AWp _ _ _ _ _
 refine wseq ?_
 refine wregI ([0,1,2] ++ ([3,4])) rfl fun K hK=>?_
 refine oSg fun L hL=>?_
 simp [C.spec_l1Once,cur]
 refine wcall (spec_l1Below_c xs i h n hi hx hn) (by simp) (by simp) (by simp) ?_
 rintro outs res ⟨i',h',r,q1,q2,rfl,rfl⟩
 simp [C.spec_l1Once,cur]
 refine hL _ ?_;clear hL L
 refine oEn fun L hL=>?_
 simp [C.spec_l1Once,cur]
 refine hL _ ?_;clear hL L
 simp [C.spec_l1Once,cur]
 refine hK _ ?_;clear hK K
 show AWp _ _ _ _ _
 refine wret ?_
 simp [C.spec_l1Once,cur]
 exact ⟨i',h',_,q1,rfl,rfl⟩
end Go.Proofs.YtbhkonnakkhibaaGreat.Ab
namespace Go.Proofs.YtbhkonnakkhibaaGreat.Ab
open Go
set_option maxRecDepth 10000
set_option maxHeartbeats 2000000
theorem impl_shaped_1_c (x:Int):ACalls Tryz.prog F.impl_shaped_1 [.int x] [] true (fun outs res=>outs=[]/\res=[.one (D.bool (!decide (-99<=x/\x<=99)))]):=by
 refine ACalls.of_body (C:=C.impl_shaped_1) (n:=Tryz.f213.ntmps) tabT folT Tryz.func213 rfl (by kernel_rfl) rfl (Nat.le_of_ble_eq_true rfl) (by decide) (by kernel_rfl) (by kernel_rfl) rfl (by simp) (by simp) ?_
 simp only [Tryz.f213]
 refine wseq ?_
 refine wreg fun K hK=>?_
 simp [C.impl_shaped_1]
 refine hK _ ?_;clear hK K
 show AWp _ _ _ _ _
 refine wseq ?_
 refine wregI ([0,1] ++ ([2,3])) rfl fun K hK=>?_
 refine oSg fun L hL=>?_
 simp [C.impl_shaped_1]
 refine wcall1 (impl_within_c x (-99) 99) (by simp) (by simp) ?_
 simp [C.impl_shaped_1]
 refine hL _ ?_;clear hL L
 refine oEn fun L hL=>?_
 simp [C.impl_shaped_1]
 refine hL _ ?_;clear hL L
 simp [C.impl_shaped_1]
 refine hK _ ?_;clear hK K
 show AWp _ _ _ _ _
 refine wret ?_
 simp [C.impl_shaped_1]
theorem impl_Matrix_at_c (m:Mat) (i j q:Nat) (n:Nat) (hn:m.n=n) (hq:q=i*n+j) (hlt:q < m.d.length) (hb:m.d.length < 1000000):ACalls Tryz.prog F.impl_Matrix_at [aM m,.int i,.int j] [] true (fun outs res=>outs=[]/\res=[.one (D.int (m.d[q]'hlt))]):=by
 refine ACalls.of_body (C:=C.impl_Matrix_at) (n:=Tryz.f93.ntmps) tabT folT Tryz.func93 rfl (by kernel_rfl) rfl (Nat.le_of_ble_eq_true rfl) (by decide) (by kernel_rfl) (by kernel_rfl) rfl (by simp) (by simp) ?_
 simp only [Tryz.f93]
 refine wseq ?_
 refine wreg fun K hK=>?_
 simp [C.impl_Matrix_at]
 refine hK _ ?_;clear hK K
 show AWp _ _ _ _ _
 refine wseq ?_
 have h0:((i:Int)*n)=((i*n:Nat):Int):=by simp
 have h1:IntKind.i64.wrap ((i:Int)*n)=(i:Int)*n:=by
  rw [h0,wrapOk (by omega) (by omega)]
 have h2:IntKind.i64.wrap ((i:Int)*n+j)=(q:Int):=by
  rw [h0,wrapOk (by omega) (by omega)]
  omega
 refine wreg fun K hK=>?_
 simp [C.impl_Matrix_at,hn,h1,h2,hlt,get_ints]
 refine hK _ ?_;clear hK K
 show AWp _ _ _ _ _
 refine wret ?_
 simp [C.impl_Matrix_at]
end Go.Proofs.YtbhkonnakkhibaaGreat.Ab
namespace Go.Proofs.YtbhkonnakkhibaaGreat.Ab
open Go
def g0 (l:List Int) (i:Nat):Int:=l.getD i 0
def bM (m:Mat) (i j:Nat):Int:=g0 m.d (i*m.n.toNat+j)
structure Sol (n:Nat) (b:Nat->Nat->Int) (d:Nat->Int):Prop where
 pos:∀ i,i < n->0 < d i
 rel:∀ i j,i < n->j < n->d i*b i j=-(d j*b j i)
theorem g0_set (l:List Int) (i j:Nat) (x:Int) (h:i < l.length):g0 (l.set i x) j=if i=j then x else g0 l j:=by
 simp only [g0,List.getD_eq_getElem?_getD,List.getElem?_set]
 split
 ·rename_i e;subst e;simp [h]
 ·rfl
theorem frac (A B:Int) (hA:0 < A) (hB:0 < B):∃ a b g:Int,0 < a/\0 < b/\0 < g/\(Int.gcd A B:Int)=g/\A=a*g/\B=b*g/\a.natAbs.Coprime b.natAbs:=by
 obtain ⟨A,rfl⟩:=Int.eq_ofNat_of_zero_le (Int.le_of_lt hA)
 obtain ⟨B,rfl⟩:=Int.eq_ofNat_of_zero_le (Int.le_of_lt hB)
 have hA':0 < A:=by omega
 have hB':0 < B:=by omega
 have hg:0 < A.gcd B:=Nat.gcd_pos_of_pos_left _ hA'
 have e1:=Nat.div_mul_cancel (Nat.gcd_dvd_left A B)
 have e2:=Nat.div_mul_cancel (Nat.gcd_dvd_right A B)
 refine ⟨(A / A.gcd B:Nat),(B / A.gcd B:Nat),A.gcd B,?_,?_,by omega,rfl,?_,?_,?_⟩
 ·have:=Nat.div_pos (Nat.le_of_dvd hA' (Nat.gcd_dvd_left A B)) hg;omega
 ·have:=Nat.div_pos (Nat.le_of_dvd hB' (Nat.gcd_dvd_right A B)) hg;omega
 ·rw [<-Int.natCast_mul,e1]
 ·rw [<-Int.natCast_mul,e2]
 ·rw [Int.natAbs_natCast,Int.natAbs_natCast];exact Nat.coprime_div_gcd_div_gcd hg
def Edge (b:Nat->Nat->Int) (num den:List Int) (P:List Nat) (i j:Nat):Prop:=
 (b i j=0/\b j i=0)\/(j∈P/\g0 num i*g0 den j*b i j=-(g0 num j*g0 den i*b j i))
structure BJ (n:Nat) (b:Nat->Nat->Int) (old:List Nat) (s:Nat) (num den:List Int) (P:List Nat) (a j:Nat):Prop where
 ln:num.length=n
 ld:den.length=n
 pn:P.Nodup
 pl:∀ i∈P,i < n
 mem:∀ i,i < n->(g0 num i≠0↔i∈old\/i∈P)
 pd:∀ i∈P,i ∉ old
 hd:P[0]? = some s
 s1:g0 num s=1/\g0 den s=1
 pos:∀ i∈P,0 < g0 num i/\0 < g0 den i/\(g0 num i).natAbs.Coprime (g0 den i).natAbs
 bd:∀ t (h:t < P.length),(g0 num P[t]).natAbs<=99 ^ t/\(g0 den P[t]).natAbs<=99 ^ t
 qd:∃ Q:Nat,0 < Q/\Q<=99 ^ (P.length - 1)/\∀ i∈P,(g0 den i).natAbs ∣ Q
 sol:∀ d,Sol n b d->∀ i∈P,d i*g0 den i=d s*g0 num i
 edge:∀ t (h:t < P.length),(t < a->∀ k,k < n->Edge b num den P P[t] k)/\(t=a->∀ k,k < j->Edge b num den P P[t] k)
structure OJ (n:Nat) (b:Nat->Nat->Int) (old:List Nat) (out:List Int):Prop where
 lo:out.length=n
 cl:∀ i∈old,i < n/\0 < g0 out i/\∀ j,j < n->(b i j=0/\b j i=0)\/(j∈old/\g0 out i*b i j=-(g0 out j*b j i))
 mn:∀ d,Sol n b d->∀ i∈old,g0 out i ∣ d i
section
variable {n:Nat} {b:Nat->Nat->Int} {old:List Nat} {s:Nat} {num den out:List Int} {P:List Nat} {a j:Nat}
theorem BJ.start (ln:num.length=n) (ld:den.length=n) (hs:s < n) (hm:∀ i,i < n->(g0 num i≠0↔i∈old)) (h0:g0 num s=0):BJ n b old s (num.set s 1) (den.set s 1) [s] 0 0:=by
 have hso:s ∉ old:=fun h=>(hm s hs).2 h h0
 refine ⟨by simpa using ln,by simpa using ld,by simp,by simpa using hs,fun i hi=>?_,by simpa using hso,rfl,?_,?_,?_,⟨1,by simp,by simp,?_⟩,?_,?_⟩
 ·rw [g0_set _ _ _ _ (by omega)]
  by_cases e:s=i
  ·simp [e]
  ·rw [if_neg e,hm i hi]
   simp;omega
 ·rw [g0_set _ _ _ _ (by omega),g0_set _ _ _ _ (by omega)];simp
 ·intro i hi
  obtain rfl:i=s:=by simpa using hi
  rw [g0_set _ _ _ _ (by omega),g0_set _ _ _ _ (by omega)];simp
 ·intro t ht
  obtain rfl:t=0:=by simpa using ht
  simp only [List.getElem_cons_zero]
  rw [g0_set _ _ _ _ (by omega),g0_set _ _ _ _ (by omega)];simp
 ·intro i hi
  obtain rfl:i=s:=by simpa using hi
  rw [g0_set _ _ _ _ (by omega)];simp
 ·intro d _ i hi
  obtain rfl:i=s:=by simpa using hi
  rw [g0_set _ _ _ _ (by omega),g0_set _ _ _ _ (by omega)];simp
 ·intro t ht
  exact ⟨fun h=>absurd h (by omega),fun _ k h=>absurd h (by omega)⟩
theorem BJ.skip (h:BJ n b old s num den P a j) (ha:a < P.length) (h1:b P[a] j=0) (h2:b j P[a]=0):BJ n b old s num den P a (j+1):=
 { h with edge:=fun t ht=>⟨(h.edge t ht).1,fun e k hk=>by
   subst e
   by_cases q:k=j
   ·subst q;exact .inl ⟨h1,h2⟩
   ·exact (h.edge t ht).2 rfl k (by omega)⟩ }
theorem BJ.next (h:BJ n b old s num den P a n):BJ n b old s num den P (a+1) 0:=
 { h with edge:=fun t ht=>⟨fun e k hk=>by
   by_cases q:t=a
   ·exact (h.edge t ht).2 q k hk
   ·exact (h.edge t ht).1 (by omega) k hk,fun _ k h=>absurd h (by omega)⟩ }
theorem mul_sign {x y p q:Int} (hx:0 < x) (hy:0 < y) (e:x*p=y*q):(0 < p->0 < q)/\(p=0->q=0)/\(p < 0->q < 0):=by
 refine ⟨fun h=>?_,fun h=>?_,fun h=>?_⟩
 ·have h1:0 < y*q:=e ▸ Int.mul_pos hx h
  exact Int.pos_of_mul_pos_right h1 (by omega)
 ·rw [h,Int.mul_zero] at e
  rcases Int.mul_eq_zero.1 e.symm with h | h <;> omega
 ·have h1:0 < y * -q:=by rw [Int.mul_neg,<-e,<-Int.mul_neg];exact Int.mul_pos hx (by omega)
  have:=Int.pos_of_mul_pos_right h1 (by omega)
  omega
theorem sol_sign {d:Nat->Int} (hd:Sol n b d) {i:Nat} (hi:i < n) (hj:j < n):(0 < b i j↔0 < -b j i)/\(b i j=0↔b j i=0)/\(b i j < 0↔-b j i < 0):=by
 have h1:=hd.pos i hi
 have h2:=hd.pos j hj
 have h3:=hd.rel i j hi hj
 have e:d i*b i j=d j * -b j i:=by rw [h3,Int.mul_neg]
 have q1:=mul_sign h1 h2 e
 have q2:=mul_sign h2 h1 e.symm
 refine ⟨⟨q1.1,q2.1⟩,⟨fun h=>?_,fun h=>?_⟩,⟨q1.2.2,q2.2.2⟩⟩
 ·have:=q1.2.1 h;omega
 ·exact q2.2.1 (by omega)
theorem natAbs_same {p q:Int} (h:0 < p/\0 < q\/p < 0/\q < 0):∃ u v:Int,0 < u/\0 < v/\max p (-p)=u/\max q (-q)=v/\v*p=u*q/\u.natAbs=p.natAbs/\v.natAbs=q.natAbs/\(∀ x y:Int,x*p=y*q->x*u=y*v):=by
 rcases h with h | h
 ·refine ⟨p,q,h.1,h.2,by omega,by omega,Int.mul_comm _ _,rfl,rfl,fun x y e=>e⟩
 ·refine ⟨-p,-q,by omega,by omega,by omega,by omega,by grind,by omega,by omega,fun x y e=>by grind⟩
theorem BJ.new (h:BJ n b old s num den P a j) (hoc:∀ i∈old,∀ j,j < n->(b i j=0/\b j i=0)\/j∈old) (ha:a < P.length) (hj:j < n) (hB:∀ i j,i < n->j < n->(b i j).natAbs<=99)
  (hpq:0 < b P[a] j/\0 < -b j P[a]\/b P[a] j < 0/\-b j P[a] < 0) (hz:g0 num j=0) {u v x y g:Int}
  (hu:max (b P[a] j) (-b P[a] j)=u) (hv:max (-b j P[a]) (- -b j P[a])=v) (hg:0 < g) (hx0:0 < x) (hy0:0 < y) (hx:g0 num P[a]*u=x*g) (hy:g0 den P[a]*v=y*g) (hco:x.natAbs.Coprime y.natAbs) :
  BJ n b old s (num.set j x) (den.set j y) (P ++ [j]) a (j+1):=by
 have hin:P[a]∈P:=List.getElem_mem ha
 have hi:=h.pl _ hin
 have hjP:j ∉ old/\j ∉ P:=by
  have:=h.mem j hj
  simp only [hz,ne_eq,not_true_eq_false,false_iff,not_or] at this
  exact this
 have hne:∀ i∈P,j≠i:=fun i hi e=>hjP.2 (e ▸ hi)
 obtain ⟨u',v',hu0,hv0,hu',hv',hvp,hup,hvq,hrat⟩:=natAbs_same hpq
 obtain rfl:u=u':=by omega
 obtain rfl:v=v':=by omega
 have hpi:=h.pos _ hin
 have gn:∀ i∈P,g0 (num.set j x) i=g0 num i:=fun i hi=>by
  rw [g0_set _ _ _ _ (by have:=h.ln;omega),if_neg (hne i hi)]
 have gd:∀ i∈P,g0 (den.set j y) i=g0 den i:=fun i hi=>by
  rw [g0_set _ _ _ _ (by have:=h.ld;omega),if_neg (hne i hi)]
 have gnj:g0 (num.set j x) j=x:=by rw [g0_set _ _ _ _ (by have:=h.ln;omega),if_pos rfl]
 have gdj:g0 (den.set j y) j=y:=by rw [g0_set _ _ _ _ (by have:=h.ld;omega),if_pos rfl]
 have hs:s∈P:=List.mem_of_getElem? h.hd
 have hb1:u.natAbs<=99:=hup ▸ hB _ _ hi hj
 have hb2:v.natAbs<=99:=by have:=hB _ _ hj hi;omega
 have hxd:x.natAbs ∣ (g0 num P[a]).natAbs*u.natAbs:=by
  rw [<-Int.natAbs_mul,hx,Int.natAbs_mul];exact Nat.dvd_mul_right _ _
 have hyd:y.natAbs ∣ (g0 den P[a]).natAbs*v.natAbs:=by
  rw [<-Int.natAbs_mul,hy,Int.natAbs_mul];exact Nat.dvd_mul_right _ _
 have hbx:x.natAbs<=99 ^ P.length:=by
  have h1:=Nat.le_of_dvd (Nat.mul_pos (by omega) (by omega)) hxd
  have h2:=Nat.mul_le_mul (h.bd a ha).1 hb1
  rw [<-Nat.pow_succ] at h2
  have h3:99 ^ (a+1)<=99 ^ P.length:=Nat.pow_le_pow_right (by omega) (by omega)
  exact Nat.le_trans h1 (Nat.le_trans h2 h3)
 have hby:y.natAbs<=99 ^ P.length:=by
  have h1:=Nat.le_of_dvd (Nat.mul_pos (by omega) (by omega)) hyd
  have h2:=Nat.mul_le_mul (h.bd a ha).2 hb2
  rw [<-Nat.pow_succ] at h2
  have h3:99 ^ (a+1)<=99 ^ P.length:=Nat.pow_le_pow_right (by omega) (by omega)
  exact Nat.le_trans h1 (Nat.le_trans h2 h3)
 refine ⟨by simpa using h.ln,by simpa using h.ld,?_,?_,?_,?_,?_,?_,?_,?_,?_,?_,?_⟩
 ·rw [List.nodup_append]
  exact ⟨h.pn,by simp,fun i hi k hk=>by simp at hk;subst hk;exact (hne i hi).symm⟩
 ·intro i hi
  rcases List.mem_append.1 hi with hi | hi
  ·exact h.pl i hi
  ·simp at hi;omega
 ·intro i hi
  by_cases e:j=i
  ·subst e;rw [gnj];simp;omega
  ·rw [g0_set _ _ _ _ (by have:=h.ln;omega),if_neg e,h.mem i hi]
   simp only [List.mem_append,List.mem_singleton]
   constructor
   ·rintro (q | q)
    ·exact .inl q
    ·exact .inr (.inl q)
   ·rintro (q | q | q)
    ·exact .inl q
    ·exact .inr q
    ·omega
 ·intro i hi
  rcases List.mem_append.1 hi with hi | hi
  ·exact h.pd i hi
  ·simp at hi;subst hi;exact hjP.1
 ·rw [List.getElem?_append_left (by omega)];exact h.hd
 ·rw [gn s hs,gd s hs];exact h.s1
 ·intro i hi
  rcases List.mem_append.1 hi with hi | hi
  ·rw [gn i hi,gd i hi];exact h.pos i hi
  ·simp at hi;subst hi;rw [gnj,gdj];exact ⟨hx0,hy0,hco⟩
 ·intro t ht
  by_cases e:t < P.length
  ·have hm:=List.getElem_mem e
   rw [List.getElem_append_left e,gn _ hm,gd _ hm]
   exact h.bd t e
  ·have e2:t=P.length:=by simp at ht;omega
   subst e2
   simp only [List.getElem_concat_length]
   rw [gnj,gdj]
   exact ⟨hbx,hby⟩
 ·obtain ⟨Q,q1,q2,q3⟩:=h.qd
  refine ⟨Q*v.natAbs,Nat.mul_pos q1 (by omega),?_,?_⟩
  ·rw [List.length_append,List.length_singleton,Nat.add_sub_cancel]
   have h2:=Nat.mul_le_mul q2 hb2
   rw [<-Nat.pow_succ,show (P.length - 1).succ=P.length by omega] at h2
   exact h2
  ·intro i hi
   rcases List.mem_append.1 hi with hi | hi
   ·rw [gd i hi];exact Nat.dvd_trans (q3 i hi) (Nat.dvd_mul_right _ _)
   ·simp at hi;subst hi;rw [gdj]
    exact Nat.dvd_trans hyd (Nat.mul_dvd_mul_right (q3 _ hin) _)
 ·intro d hd i hi'
  rcases List.mem_append.1 hi' with hi' | hi'
  ·rw [gn i hi',gd i hi'];exact h.sol d hd i hi'
  ·simp at hi';subst hi';rw [gnj,gdj]
   have e1:=h.sol d hd _ hin
   have e2:=hrat (d P[a]) (d i) (by have:=hd.rel _ i hi hj;rw [this,Int.mul_neg])
   have:d i*y*g=d s*x*g:=by
    rw [Int.mul_assoc,<-hy,Int.mul_assoc,<-hx]
    calc d i*(g0 den P[a]*v)=(d i*v)*g0 den P[a]:=by grind
     _=(d P[a]*g0 den P[a])*u:=by rw [<-e2];grind
     _=d s*(g0 num P[a]*u):=by rw [e1];grind
   exact Int.eq_of_mul_eq_mul_right (by omega) this
 ·intro t ht
  have key:∀ i k,i∈P->Edge b num den P i k->Edge b (num.set j x) (den.set j y) (P ++ [j]) i k:=fun i k hi hk=>by
   rcases hk with hk | ⟨hk,e⟩
   ·exact .inl hk
   ·refine .inr ⟨by simp [hk],?_⟩
    rw [gn i hi,gd i hi,gn k hk,gd k hk];exact e
  by_cases e:t < P.length
  ·rw [List.getElem_append_left e]
   refine ⟨fun hta k hk=>key _ _ (List.getElem_mem e) ((h.edge t e).1 hta k hk),fun hta k hk=>?_⟩
   by_cases q:k=j
   ·obtain rfl:=hta;obtain rfl:=q
    refine .inr ⟨by simp,?_⟩
    rw [gn _ hin,gd _ hin,gnj,gdj]
    have:g0 num P[t]*y*b P[t] k*g=-(x*g0 den P[t]*b k P[t])*g:=by
     calc g0 num P[t]*y*b P[t] k*g=g0 num P[t]*(y*g)*b P[t] k:=by grind
      _=g0 num P[t]*g0 den P[t]*(v*b P[t] k):=by rw [<-hy];grind
      _=(g0 num P[t]*u)*g0 den P[t]*(-b k P[t]):=by rw [hvp];grind
      _=-(x*g0 den P[t]*b k P[t])*g:=by rw [hx];grind
    exact Int.eq_of_mul_eq_mul_right (by omega) this
   ·exact key _ _ (List.getElem_mem e) ((h.edge t e).2 hta k (by omega))
  ·have e2:t=P.length:=by simp at ht;omega
   exact ⟨fun h=>absurd h (by omega),fun h=>absurd h (by omega)⟩
theorem BJ.inP (h:BJ n b old s num den P a j) (hoc:∀ i∈old,∀ j,j < n->(b i j=0/\b j i=0)\/j∈old) (ha:a < P.length) (hj:j < n) (hne:b P[a] j≠0) (hz:g0 num j≠0):j∈P:=by
 have hin:P[a]∈P:=List.getElem_mem ha
 rcases (h.mem j hj).1 hz with q | q
 ·rcases hoc j q P[a] (h.pl _ hin) with e | e
  ·exact absurd e.2 hne
  ·exact absurd e (h.pd _ hin)
 ·exact q
theorem BJ.cmp (h:BJ n b old s num den P a j) (hoc:∀ i∈old,∀ j,j < n->(b i j=0/\b j i=0)\/j∈old) (ha:a < P.length) (hj:j < n)
  (hpq:0 < b P[a] j/\0 < -b j P[a]\/b P[a] j < 0/\-b j P[a] < 0) (hz:g0 num j≠0) {u v x y g:Int}
  (hu:max (b P[a] j) (-b P[a] j)=u) (hv:max (-b j P[a]) (- -b j P[a])=v) (hg:0 < g) (hx0:0 < x) (hy0:0 < y) (hx:g0 num P[a]*u=x*g) (hy:g0 den P[a]*v=y*g) (hco:x.natAbs.Coprime y.natAbs) :
  (g0 num j=x/\g0 den j=y->BJ n b old s num den P a (j+1))/\(¬ (g0 num j=x/\g0 den j=y)->∀ d,¬ Sol n b d):=by
 have hin:P[a]∈P:=List.getElem_mem ha
 have hjP:=h.inP hoc ha hj (by omega) hz
 obtain ⟨u',v',hu0,hv0,hu',hv',hvp,hup,hvq,hrat⟩:=natAbs_same hpq
 obtain rfl:u=u':=by omega
 obtain rfl:v=v':=by omega
 refine ⟨fun ⟨e1,e2⟩=>?_,fun hne d hd=>hne ?_⟩
 ·refine { h with edge:=fun t ht=>⟨(h.edge t ht).1,fun e k hk=>?_⟩ }
  subst e
  by_cases q:k=j
  ·subst q
   refine .inr ⟨hjP,?_⟩
   rw [e1,e2]
   have:g0 num P[t]*y*b P[t] k*g=-(x*g0 den P[t]*b k P[t])*g:=by
    calc g0 num P[t]*y*b P[t] k*g=g0 num P[t]*(y*g)*b P[t] k:=by grind
     _=g0 num P[t]*g0 den P[t]*(v*b P[t] k):=by rw [<-hy];grind
     _=(g0 num P[t]*u)*g0 den P[t]*(-b k P[t]):=by rw [hvp];grind
     _=-(x*g0 den P[t]*b k P[t])*g:=by rw [hx];grind
   exact Int.eq_of_mul_eq_mul_right (by omega) this
  ·exact (h.edge t ht).2 rfl k (by omega)
 ·have e1:=h.sol d hd _ hin
  have e3:=h.sol d hd _ hjP
  have e2:=hrat (d P[a]) (d j) (by have:=hd.rel _ j (h.pl _ hin) hj;rw [this,Int.mul_neg])
  have e4:d j*y=d s*x:=by
   have:d j*y*g=d s*x*g:=by
    rw [Int.mul_assoc,<-hy,Int.mul_assoc,<-hx]
    calc d j*(g0 den P[a]*v)=(d j*v)*g0 den P[a]:=by grind
     _=(d P[a]*g0 den P[a])*u:=by rw [<-e2];grind
     _=d s*(g0 num P[a]*u):=by rw [e1];grind
   exact Int.eq_of_mul_eq_mul_right (by omega) this
  have hp:=h.pos j hjP
  have hds:=hd.pos s (h.pl s (List.mem_of_getElem? h.hd))
  have e5:g0 num j*y=x*g0 den j:=by
   have h0:d s*(g0 num j*y)=d s*(x*g0 den j):=by
    calc d s*(g0 num j*y)=(d s*g0 num j)*y:=by grind
     _=(d j*y)*g0 den j:=by rw [<-e3];grind
     _=d s*(x*g0 den j):=by rw [e4];grind
   exact Int.eq_of_mul_eq_mul_left (by omega) h0
  have e6:(g0 num j).natAbs*y.natAbs=x.natAbs*(g0 den j).natAbs:=by rw [<-Int.natAbs_mul,e5,Int.natAbs_mul]
  have k1:(g0 num j).natAbs=x.natAbs:=by
   refine Nat.dvd_antisymm ?_ ?_
   ·exact hp.2.2.dvd_of_dvd_mul_right (e6 ▸ Nat.dvd_mul_right _ _)
   ·exact hco.dvd_of_dvd_mul_right (e6 ▸ Nat.dvd_mul_right _ _)
  have k2:(g0 den j).natAbs=y.natAbs:=by
   rw [k1] at e6
   exact (Nat.eq_of_mul_eq_mul_left (by omega) e6).symm
  omega
theorem sign_fail {i j:Nat} (hi:i < n) (hj:j < n) (h0:¬ (b i j=0/\-b j i=0)) (h:¬ (0 < b i j/\0 < -b j i\/b i j < 0/\-b j i < 0)\/i=j) (d:Nat->Int):¬ Sol n b d:=fun hd=>by
 obtain ⟨h1,h2,h3⟩:=sol_sign hd hi hj
 rcases h with h | h
 ·omega
 ·subst h
  omega
theorem BJ.den_dvd (h:BJ n b old s num den P a j) {d:Nat->Int} (hd:Sol n b d) {i:Nat} (hi:i∈P):g0 den i ∣ d s:=by
 have e:=h.sol d hd i hi
 have hp:=h.pos i hi
 have:(g0 den i).natAbs ∣ (d s).natAbs:=by
  refine hp.2.2.symm.dvd_of_dvd_mul_right (n:=(g0 num i).natAbs) ?_
  rw [<-Int.natAbs_mul,<-e,Int.natAbs_mul]
  exact Nat.dvd_mul_left _ _
 exact Int.natAbs_dvd_natAbs.1 this
structure CJ (n:Nat) (b:Nat->Nat->Int) (s:Nat) (den:List Int) (P:List Nat) (t:Nat) (c:Int):Prop where
 pos:0 < c
 dv:∀ i∈P.take t,g0 den i ∣ c
 qd:c<=99 ^ 4
 ex:∃ Q:Nat,Q<=99 ^ 4/\0 < Q/\c.natAbs ∣ Q/\∀ i∈P,(g0 den i).natAbs ∣ Q
 sol:∀ d,Sol n b d->c ∣ d s
theorem lcm_step {c e:Int} (hc:0 < c) (he:0 < e):∃ w:Nat,c.tdiv (Int.gcd c e:Int)=w/\w<=c/\(w:Int)*e=(Nat.lcm c.natAbs e.natAbs:Nat):=by
 obtain ⟨c,rfl⟩:=Int.eq_ofNat_of_zero_le (Int.le_of_lt hc)
 obtain ⟨e,rfl⟩:=Int.eq_ofNat_of_zero_le (Int.le_of_lt he)
 refine ⟨c / c.gcd e,?_,?_,?_⟩
 ·rw [Int.gcd_natCast_natCast,<-Int.ofNat_tdiv]
 ·have:=Nat.div_le_self c (c.gcd e);omega
 ·rw [Int.natAbs_natCast,Int.natAbs_natCast,<-Int.natCast_mul,Nat.lcm]
  congr 1
  rw [Nat.div_mul_right_comm (Nat.gcd_dvd_left c e)]
theorem CJ.start (h:BJ n b old s num den P a j) (hn:n<=5) (hPl:P.length<=n):CJ n b s den P 0 1:=by
 obtain ⟨Q,q1,q2,q3⟩:=h.qd
 refine ⟨by omega,by simp,by decide,⟨Q,Nat.le_trans q2 (Nat.pow_le_pow_right (by omega) (by omega)),q1,by simp,q3⟩,fun d _=>Int.one_dvd _⟩
theorem CJ.step {t:Nat} {c:Int} (h:CJ n b s den P t c) (hB:BJ n b old s num den P a j) (ht:t < P.length):CJ n b s den P (t+1) (c.tdiv (Int.gcd c (g0 den P[t]):Int)*g0 den P[t]):=by
 have hin:P[t]∈P:=List.getElem_mem ht
 obtain ⟨w,w1,_,w2⟩:=lcm_step h.pos (hB.pos _ hin).2.1
 rw [w1,w2]
 obtain ⟨Q,q1,q2,q3,q4⟩:=h.ex
 have hQ:Nat.lcm c.natAbs (g0 den P[t]).natAbs ∣ Q:=Nat.lcm_dvd q3 (q4 _ hin)
 have hp:0 < Nat.lcm c.natAbs (g0 den P[t]).natAbs:=Nat.pos_of_dvd_of_pos hQ q2
 have hl:=Nat.le_of_dvd q2 hQ
 refine ⟨by omega,fun i hi=>?_,?_,⟨Q,q1,q2,by simpa using hQ,q4⟩,fun d hd=>?_⟩
 ·rw [List.take_succ_eq_append_getElem ht] at hi
  rcases List.mem_append.1 hi with hi | hi
  ·exact Int.dvd_trans (h.dv i hi) (Int.natAbs_dvd.1 (Int.natCast_dvd_natCast.2 (Nat.dvd_lcm_left _ _)))
  ·obtain rfl:i=P[t]:=by simpa using hi
   exact Int.natAbs_dvd.1 (Int.natCast_dvd_natCast.2 (Nat.dvd_lcm_right _ _))
 ·have:(Nat.lcm c.natAbs (g0 den P[t]).natAbs:Int)<=((99 ^ 4:Nat):Int):=by omega
  exact this
 ·have h1:c.natAbs ∣ (d s).natAbs:=Int.natAbs_dvd_natAbs.2 (h.sol d hd)
  have h2:(g0 den P[t]).natAbs ∣ (d s).natAbs:=Int.natAbs_dvd_natAbs.2 (hB.den_dvd hd hin)
  exact Int.dvd_natAbs.1 (Int.natCast_dvd_natCast.2 (Nat.lcm_dvd h1 h2))
def wM (c:Int) (num den:List Int) (i:Nat):Int:=c.tdiv (g0 den i)*g0 num i
theorem pow4 {P:List Nat} {t n:Nat} (ht:t < P.length) (hn:n<=5) (hP:P.length<=n):99 ^ t<=99 ^ 4:=Nat.pow_le_pow_right (by omega) (by omega)
theorem wM_spec {c:Int} (h:CJ n b s den P P.length c) (hB:BJ n b old s num den P a j) (hn:n<=5) (hPl:P.length<=n) {i:Nat} (hi:i∈P) :
  0 < c.tdiv (g0 den i)/\c.tdiv (g0 den i)<=99 ^ 4/\0 < wM c num den i/\wM c num den i<=99 ^ 8/\wM c num den i*g0 den i=c*g0 num i/\(∀ d,Sol n b d->wM c num den i ∣ d i):=by
 obtain ⟨h1,h2,h3⟩:=hB.pos i hi
 have hd:=h.dv i (by rw [List.take_length];exact hi)
 obtain ⟨k,hk⟩:=hd
 have e1:c.tdiv (g0 den i)=k:=by rw [hk,Int.mul_comm,Int.mul_tdiv_cancel _ (by omega)]
 have hk0:0 < k:=Int.pos_of_mul_pos_right (hk ▸ h.pos) (by omega)
 have hkc:k<=c:=by
  rw [hk]
  have:1*k<=g0 den i*k:=Int.mul_le_mul_of_nonneg_right (by omega) (by omega)
  omega
 have hc:=h.qd
 obtain ⟨t,ht,rfl⟩:=List.getElem_of_mem hi
 have hb:=(hB.bd t ht).1
 have hb2:=pow4 ht hn hPl
 unfold wM
 rw [e1]
 refine ⟨hk0,by omega,Int.mul_pos hk0 h1,?_,?_,fun d hd=>?_⟩
 ·have h5:k.natAbs*(g0 num P[t]).natAbs<=99 ^ 4*99 ^ 4:=Nat.mul_le_mul (by omega) (by omega)
  rw [<-Int.natAbs_mul] at h5
  have h6:=Int.mul_pos hk0 h1
  generalize k*g0 num P[t]=z at *
  omega
 ·rw [hk];grind
 ·obtain ⟨z,hz⟩:=h.sol d hd
  have e:=hB.sol d hd _ hi
  refine ⟨z,?_⟩
  have:d P[t]*g0 den P[t]=k*g0 num P[t]*z*g0 den P[t]:=by rw [e,hz,hk];grind
  exact Int.eq_of_mul_eq_mul_right (by omega) this
theorem take_mem_snoc {P:List Nat} {t:Nat} (ht:t < P.length) (i:Nat):i∈P.take (t+1)↔i∈P.take t\/i=P[t]:=by
 rw [List.take_succ_eq_append_getElem ht];simp only [List.mem_append,List.mem_singleton]
theorem nodup_take {P:List Nat} (h:P.Nodup) {t:Nat} (ht:t < P.length):P[t] ∉ P.take t:=fun hm=>by
 have:(P.take t ++ P.drop t).Nodup:=by rw [List.take_append_drop];exact h
 rw [List.nodup_append] at this
 exact this.2.2 _ hm P[t] (by rw [List.drop_eq_getElem_cons ht];simp only [List.mem_cons,true_or]) rfl
structure WJ (c:Int) (num den:List Int) (P:List Nat) (o0:List Int) (t:Nat) (o:List Int) (g:Int):Prop where
 len:o.length=o0.length
 val:∀ i,g0 o i=if i∈P.take t then wM c num den i else g0 o0 i
 g0':0<=g/\(0 < t->0 < g)
 gd:∀ i∈P.take t,g ∣ wM c num den i
theorem WJ.start (c:Int) (num den:List Int) (P:List Nat) (o0:List Int):WJ c num den P o0 0 o0 0:=⟨rfl,by simp,by omega,by simp⟩
theorem WJ.step {c:Int} {o0 o:List Int} {t:Nat} {g:Int} (h:WJ c num den P o0 t o g) (ht:t < P.length) (hl:P[t] < o0.length) (hw:0 < wM c num den P[t]):WJ c num den P o0 (t+1) (o.set P[t] (wM c num den P[t])) (Int.gcd g (wM c num den P[t]):Int):=by
 refine ⟨by simpa using h.len,fun i=>?_,⟨by omega,fun _=>?_⟩,fun i hi=>?_⟩
 ·rw [g0_set _ _ _ _ (by have:=h.len;omega),h.val i]
  simp only [take_mem_snoc ht]
  by_cases e:P[t]=i
  ·subst e;simp
  ·rw [if_neg e]
   have:¬ i=P[t]:=fun q=>e q.symm
   simp [this]
 ·have:=Int.gcd_pos_of_ne_zero_right g (show wM c num den P[t]≠0 by omega)
  omega
 ·rcases (take_mem_snoc ht i).1 hi with hi | rfl
  ·exact Int.dvd_trans (Int.gcd_dvd_left _ _) (h.gd i hi)
  ·exact Int.gcd_dvd_right _ _
structure VJ (w:Nat->Int) (g:Int) (P:List Nat) (o0:List Int) (t:Nat) (o:List Int):Prop where
 len:o.length=o0.length
 val:∀ i,g0 o i=if i∈P.take t then (w i).tdiv g else if i∈P then w i else g0 o0 i
theorem VJ.start {c:Int} {o0 o:List Int} {g:Int} (h:WJ c num den P o0 P.length o g):VJ (wM c num den) g P o0 0 o:=⟨h.len,fun i=>by rw [h.val i,List.take_length];simp⟩
theorem VJ.step {w:Nat->Int} {g:Int} {o0 o:List Int} {t:Nat} (hP:P.Nodup) (h:VJ w g P o0 t o) (ht:t < P.length) (hl:P[t] < o0.length):g0 o P[t]=w P[t]/\VJ w g P o0 (t+1) (o.set P[t] ((w P[t]).tdiv g)):=by
 refine ⟨by rw [h.val,if_neg (nodup_take hP ht),if_pos (List.getElem_mem ht)],by simpa using h.len,fun i=>?_⟩
 rw [g0_set _ _ _ _ (by have:=h.len;omega),h.val i]
 simp only [take_mem_snoc ht]
 by_cases e:P[t]=i
 ·subst e;simp
 ·rw [if_neg e]
  have:¬ i=P[t]:=fun q=>e q.symm
  simp [this]
theorem OJ.grow {c g:Int} {o0 o1 o:List Int} (hO:OJ n b old o0) (hB:BJ n b old s num den P P.length j) (hn:n<=5) (hPl:P.length<=n) (hC:CJ n b s den P P.length c) (hW:WJ c num den P o0 P.length o1 g) (hV:VJ (wM c num den) g P o0 P.length o):OJ n b (old ++ P) o:=by
 have hgp:0 < g:=hW.g0'.2 (List.length_pos_of_mem (List.mem_of_getElem? hB.hd))
 have hv:∀ i∈P,∃ z,0 < z/\g0 o i=z/\wM c num den i=z*g:=fun i hi=>by
  obtain ⟨z,hz⟩:=hW.gd i (by rw [List.take_length];exact hi)
  have hp:=(wM_spec hC hB hn hPl hi).2.2.1
  refine ⟨z,Int.pos_of_mul_pos_right (hz ▸ hp) (by omega),?_,by rw [hz,Int.mul_comm]⟩
  rw [hV.val,List.take_length,if_pos hi,hz,Int.mul_comm,Int.mul_tdiv_cancel _ (by omega)]
 have hov:∀ i∈old,g0 o i=g0 o0 i:=fun i hi=>by
  have:i ∉ P:=fun q=>hB.pd i q hi
  rw [hV.val,List.take_length,if_neg this,if_neg this]
 refine ⟨hV.len.trans hO.lo,fun i hi=>?_,fun d hd i hi=>?_⟩
 ·rcases List.mem_append.1 hi with hi | hi
  ·obtain ⟨h1,h2,h3⟩:=hO.cl i hi
   refine ⟨h1,by rw [hov i hi];exact h2,fun k hk=>(h3 k hk).imp id fun ⟨e1,e2⟩=>⟨by simp [e1],by rw [hov i hi,hov k e1];exact e2⟩⟩
  ·obtain ⟨z,z0,z1,z2⟩:=hv i hi
   refine ⟨hB.pl i hi,by omega,fun k hk=>?_⟩
   obtain ⟨t,ht,rfl⟩:=List.getElem_of_mem hi
   rcases (hB.edge t ht).1 ht k hk with e | ⟨e1,e2⟩
   ·exact .inl e
   ·right
    obtain ⟨x,x0,x1,x2⟩:=hv k e1
    refine ⟨by simp [e1],?_⟩
    rw [z1,x1]
    have f1:=(wM_spec hC hB hn hPl hi).2.2.2.2.1
    have f2:=(wM_spec hC hB hn hPl e1).2.2.2.2.1
    rw [z2] at f1
    rw [x2] at f2
    have p1:=hB.pos _ hi
    have p2:=hB.pos _ e1
    have hc:=hC.pos
    have key:(z*b P[t] k)*(g*g0 den P[t]*g0 den k)=(-(x*b k P[t]))*(g*g0 den P[t]*g0 den k):=by
     calc (z*b P[t] k)*(g*g0 den P[t]*g0 den k)=(z*g*g0 den P[t])*g0 den k*b P[t] k:=by grind
      _=c*(g0 num P[t]*g0 den k*b P[t] k):=by rw [f1];grind
      _=-(c*g0 num k)*g0 den P[t]*b k P[t]:=by rw [e2];grind
      _=(-(x*b k P[t]))*(g*g0 den P[t]*g0 den k):=by rw [<-f2];grind
    exact Int.eq_of_mul_eq_mul_right (by have:=Int.mul_pos (Int.mul_pos hgp p1.2.1) p2.2.1;omega) key
 ·rcases List.mem_append.1 hi with hi | hi
  ·rw [hov i hi];exact hO.mn d hd i hi
  ·obtain ⟨z,z0,z1,z2⟩:=hv i hi
   rw [z1]
   have h1:=(wM_spec hC hB hn hPl hi).2.2.2.2.2 d hd
   rw [z2] at h1
   exact Int.dvd_trans (Int.dvd_mul_right _ _) h1
end
end Go.Proofs.YtbhkonnakkhibaaGreat.Ab
namespace Go.Proofs.YtbhkonnakkhibaaGreat.Ab
open Go
structure PJ (n:Nat) (b:Nat->Nat->Int) (s:Nat) (L F:List Nat) (a j:Nat):Prop where
 lf:F.length=L.length
 nd:L.Nodup
 lt:∀ i∈L,i < n
 hd:L[0]? = some s
 par:∀ k (h:k < L.length),0 < k->∃ k',∃ h':k' < L.length,k' < k/\F[k]? = some L[k']/\b L[k'] L[k]≠0
 cl:∀ t (h:t < L.length),(t < a->∀ k,k < n->b L[t] k≠0->k∈L)/\(t=a->∀ k,k < j->b L[t] k≠0->k∈L)
section
variable {n:Nat} {b:Nat->Nat->Int} {old:List Nat} {s:Nat} {d0 d:List Int} {L F:List Nat} {a j:Nat}
theorem PJ.start (hs:s < n):PJ n b s [s] [s] 0 0:=
 ⟨rfl,by simp,by simpa using hs,rfl,fun k h h0=>by simp at h;omega,fun t ht=>⟨fun h=>absurd h (by omega),fun _ k h=>absurd h (by omega)⟩⟩
theorem PJ.skip (h:PJ n b s L F a j) (ha:a < L.length) (hb:b L[a] j=0\/j∈L):PJ n b s L F a (j+1):=
 { h with cl:=fun t ht=>⟨(h.cl t ht).1,fun e k hk hne=>by
   obtain rfl:=e
   by_cases q:k=j
   ·obtain rfl:=q
    rcases hb with hb | hb
    ·exact absurd hb hne
    ·exact hb
   ·exact (h.cl t ht).2 rfl k (by omega) hne⟩ }
theorem PJ.new (h:PJ n b s L F a j) (ha:a < L.length) (hj:j < n) (hb:b L[a] j≠0) (hn:j ∉ L):PJ n b s (L ++ [j]) (F ++ [L[a]]) a (j+1):=by
 refine ⟨by simp [h.lf],?_,fun i hi=>?_,?_,fun k hk h0=>?_,fun t ht=>?_⟩
 ·rw [List.nodup_append]
  exact ⟨h.nd,by simp,fun i hi k hk=>by simp at hk;subst hk;exact fun e=>hn (e ▸ hi)⟩
 ·rcases List.mem_append.1 hi with hi | hi
  ·exact h.lt i hi
  ·simp at hi;omega
 ·rw [List.getElem?_append_left (by omega)];exact h.hd
 ·by_cases e:k < L.length
  ·obtain ⟨k',h',e1,e2,e3⟩:=h.par k e h0
   refine ⟨k',by simp;omega,e1,?_,?_⟩
   ·rw [List.getElem?_append_left (by rw [h.lf];exact e),e2,List.getElem_append_left h']
   ·rw [List.getElem_append_left h',List.getElem_append_left e];exact e3
  ·have e2:k=L.length:=by simp at hk;omega
   subst e2
   refine ⟨a,by simp;omega,ha,?_,?_⟩
   ·rw [List.getElem?_append_right (by rw [h.lf];exact Nat.le_refl _),h.lf,Nat.sub_self,List.getElem_append_left ha];rfl
   ·rw [List.getElem_append_left ha];simpa using hb
 ·by_cases e:t < L.length
  ·rw [List.getElem_append_left e]
   refine ⟨fun q k hk hne=>by simp [(h.cl t e).1 q k hk hne],fun q k hk hne=>?_⟩
   obtain rfl:=q
   by_cases q:k=j
   ·simp [q]
   ·simp [(h.cl t e).2 rfl k (by omega) hne]
  ·have:t=L.length:=by simp at ht;omega
   exact ⟨fun h=>absurd h (by omega),fun h=>absurd h (by omega)⟩
theorem PJ.next (h:PJ n b s L F a n):PJ n b s L F (a+1) 0:=
 { h with cl:=fun t ht=>⟨fun e k hk hne=>by
   by_cases q:t=a
   ·exact (h.cl t ht).2 q k hk hne
   ·exact (h.cl t ht).1 (by omega) k hk hne,fun _ k h=>absurd h (by omega)⟩ }
structure Piece (n:Nat) (b:Nat->Nat->Int) (s:Nat) (L F:List Nat):Prop where
 lf:F.length=L.length
 nd:L.Nodup
 lt:∀ i∈L,i < n
 hd:L[0]? = some s
 par:∀ k (h:k < L.length),0 < k->∃ k',∃ h':k' < L.length,k' < k/\F[k]? = some L[k']/\b L[k'] L[k]≠0
 cl:∀ i∈L,∀ k,k < n->b i k≠0->k∈L
theorem PJ.done (h:PJ n b s L F L.length j):Piece n b s L F:=⟨h.lf,h.nd,h.lt,h.hd,h.par,fun i hi k hk hne=>by
 obtain ⟨t,ht,rfl⟩:=List.getElem_of_mem hi
 exact (h.cl t ht).1 ht k hk hne⟩
theorem nodup_len:∀ {n:Nat} {L:List Nat},L.Nodup->(∀ i∈L,i < n)->L.length<=n
 | 0,L,_,h2=>by
  cases L with
  | nil=>simp
  | cons x L=>exact absurd (h2 x (by simp)) (by omega)
 | n+1,L,h1,h2=>by
  have h3:=nodup_len (n:=n) (L:=L.erase n) (h1.erase n) fun i hi=>by
   have h4:=h2 i (List.mem_of_mem_erase hi)
   have h5:i≠n:=fun e=>by
    subst e
    exact (List.Nodup.not_mem_erase h1) hi
   omega
  by_cases e:n∈L
  ·rw [List.length_erase_of_mem e] at h3;omega
  ·rw [List.erase_of_not_mem e] at h3;omega
def qM (b:Nat->Nat->Int) (L F:List Nat) (k:Nat):Nat:=(b (L.getD k 0) (F.getD k 0)).natAbs
def rM (b:Nat->Nat->Int) (L F:List Nat):Nat->Nat->Nat
 | _,0=>1
 | t,m+1=>qM b L F t*rM b L F (t+1) m
def pM1 (b:Nat->Nat->Int) (L F:List Nat):Nat->Nat
 | 0=>1
 | m+1=>pM1 b L F m*qM b L F (m+1)
theorem rM_snoc (b:Nat->Nat->Int) (L F:List Nat):∀ t m,rM b L F t (m+1)=rM b L F t m*qM b L F (t+m)
 | t,0=>by simp [rM]
 | t,m+1=>by
  rw [rM,rM_snoc b L F (t+1) m,rM,Nat.mul_assoc,show t+1+m=t+(m+1) by omega]
theorem pM1_eq (b:Nat->Nat->Int) (L F:List Nat):∀ m,pM1 b L F m=rM b L F 1 m
 | 0=>rfl
 | m+1=>by rw [pM1,pM1_eq b L F m,rM_snoc,Nat.add_comm 1 m]
theorem rM_dvd (b:Nat->Nat->Int) (L F:List Nat) {t m:Nat} (h:0 < m):rM b L F t m=qM b L F t*rM b L F (t+1) (m - 1):=by
 cases m with
 | zero=>omega
 | succ m=>rfl
structure DJ (n:Nat) (b:Nat->Nat->Int) (s:Nat) (L F:List Nat) (d0:List Int) (t:Nat) (d:List Int) (g:Int):Prop where
 len:d.length=n
 oth:∀ i,i ∉ L.take t->g0 d i=g0 d0 i
 pos:∀ k (h:k < L.length),k < t->0 < g0 d L[k]/\(g0 d L[k]).natAbs<=99 ^ (L.length - 1+k)/\(rM b L F t (L.length - t):Int) ∣ g0 d L[k]/\∀ e,Sol n b e->e L[k]*g0 d s=e s*g0 d L[k]
 gp:0 < g/\g<=g0 d s
 gd:∀ k (h:k < L.length),k < t->g ∣ g0 d L[k]
 gx:∀ x y:Int,(∀ k (h:k < L.length),k < t->x ∣ y*g0 d L[k])->x ∣ y*g
theorem Piece.q (h:Piece n b s L F) (hs:∀ i j,i < n->j < n->(b i j=0↔b j i=0)) {k:Nat} (hk:k < L.length) (h0:0 < k):∃ k',∃ h':k' < L.length,k' < k/\F[k]? = some L[k']/\b L[k'] L[k]≠0/\b L[k] L[k']≠0/\qM b L F k=(b L[k] L[k']).natAbs/\0 < qM b L F k:=by
 obtain ⟨k',h',e1,e2,e3⟩:=h.par k hk h0
 have e4:b L[k] L[k']≠0:=fun q=>e3 ((hs _ _ (h.lt _ (List.getElem_mem h')) (h.lt _ (List.getElem_mem hk))).2 q)
 have e5:qM b L F k=(b L[k] L[k']).natAbs:=by
  unfold qM
  rw [List.getD_eq_getElem?_getD,List.getD_eq_getElem?_getD,e2,List.getElem?_eq_getElem hk]
  rfl
 exact ⟨k',h',e1,e2,e3,e4,e5,by omega⟩
theorem Piece.pM_bd (h:Piece n b s L F) (hs:∀ i j,i < n->j < n->(b i j=0↔b j i=0)) (hB:∀ i j,i < n->j < n->(b i j).natAbs<=99):∀ m,m < L.length->0 < pM1 b L F m/\pM1 b L F m<=99 ^ m
 | 0,_=>by simp [pM1]
 | m+1,hm=>by
  obtain ⟨h1,h2⟩:=h.pM_bd hs hB m (by omega)
  obtain ⟨k',h',e1,e2,e3,e4,e5,e6⟩:=h.q hs hm (by omega)
  have h3:qM b L F (m+1)<=99:=by rw [e5];exact hB _ _ (h.lt _ (List.getElem_mem hm)) (h.lt _ (List.getElem_mem h'))
  exact ⟨Nat.mul_pos h1 e6,by rw [pM1,Nat.pow_succ];exact Nat.mul_le_mul h2 h3⟩
theorem Piece.first (h:Piece n b s L F):∃ hl:0 < L.length,L[0]=s:=by
 obtain ⟨h1,h2⟩:=List.getElem?_eq_some_iff.1 h.hd
 exact ⟨h1,h2⟩
theorem DJ.start (h:Piece n b s L F) (hs:∀ i j,i < n->j < n->(b i j=0↔b j i=0)) (hB:∀ i j,i < n->j < n->(b i j).natAbs<=99) (hl:d0.length=n):DJ n b s L F d0 1 (d0.set s (pM1 b L F (L.length - 1):Nat)) (pM1 b L F (L.length - 1):Nat):=by
 obtain ⟨hl0,hl1⟩:=h.first
 have hsn:=h.lt s (hl1 ▸ List.getElem_mem hl0)
 have hv:g0 (d0.set s (pM1 b L F (L.length - 1):Nat)) s=(pM1 b L F (L.length - 1):Nat):=by rw [g0_set _ _ _ _ (by omega),if_pos rfl]
 obtain ⟨p1,p2⟩:=h.pM_bd hs hB (L.length - 1) (by omega)
 have htk:∀ k (h:k < L.length),k < 1->L[k]=s:=fun k hk h1=>by
  obtain rfl:k=0:=by omega
  exact hl1
 refine ⟨by simpa using hl,fun i hi=>?_,fun k hk h1=>?_,⟨by omega,by rw [hv];exact Int.le_refl _⟩,fun k hk h1=>?_,fun x y hx=>?_⟩
 ·have:i≠s:=fun e=>hi (by rw [e,<-hl1,take_mem_snoc hl0];exact .inr rfl)
  rw [g0_set _ _ _ _ (by omega),if_neg (fun e=>this e.symm)]
 ·rw [htk k hk h1,hv]
  refine ⟨by omega,?_,?_,fun e _=>rfl⟩
  ·have:k=0:=by omega
   subst this
   simpa using p2
  ·rw [pM1_eq];exact Int.dvd_refl _
 ·rw [htk k hk h1,hv];exact Int.dvd_refl _
 ·have:=hx 0 hl0 (by omega)
  rw [hl1,hv] at this
  exact this
theorem DJ.step {t:Nat} {g:Int} (h:Piece n b s L F) (hs:∀ i j,i < n->j < n->(b i j=0↔b j i=0)) (hB:∀ i j,i < n->j < n->(b i j).natAbs<=99) (hJ:DJ n b s L F d0 t d g) (ht:t < L.length) (h0:0 < t) :
  ∃ t',∃ h':t' < L.length,t' < t/\F[t]? = some L[t']/\∃ w:Int,0 < w/\(g0 d L[t']).natAbs<=99 ^ (L.length - 1+t')/\0 < g0 d L[t']/\(b L[t'] L[t]).natAbs<=99/\b L[t] L[t']≠0/\(g0 d L[t']*((b L[t'] L[t]).natAbs:Int)).tdiv ((b L[t] L[t']).natAbs:Int)=w /\
   DJ n b s L F d0 (t+1) (d.set L[t] w) (Int.gcd g w:Int):=by
 obtain ⟨t',h',e1,e2,e3,e4,e5,e6⟩:=h.q hs ht h0
 obtain ⟨p1,p2,p3,p4⟩:=hJ.pos t' h' e1
 have hi:=h.lt _ (List.getElem_mem h')
 have hj:=h.lt _ (List.getElem_mem ht)
 have hr:=rM_dvd b L F (t:=t) (m:=L.length - t) (by omega)
 rw [show L.length - t - 1=L.length - (t+1) by omega] at hr
 have p3':=p3
 obtain ⟨m,hm⟩:=p3
 rw [hr,e5,Int.natCast_mul] at hm
 generalize hQ:((b L[t] L[t']).natAbs:Int)=Q at *
 generalize hPp:((b L[t'] L[t]).natAbs:Int)=Pp at *
 generalize hRr:(rM b L F (t+1) (L.length - (t+1)):Int)=R at *
 have hQ0:0 < Q:=by omega
 have hP0:0 < Pp:=by omega
 have hP9:Pp<=99:=by have:=hB _ _ hi hj;omega
 have hRm:0 < R*m:=by
  have:0 < Q*(R*m):=by rw [<-Int.mul_assoc,<-hm];exact p1
  exact Int.pos_of_mul_pos_right this (by omega)
 have hw:(g0 d L[t']*Pp).tdiv Q=R*m*Pp:=by
  rw [hm,show Q*R*m*Pp=(R*m*Pp)*Q by grind,Int.mul_tdiv_cancel _ (by omega)]
 have hw0:0 < R*m*Pp:=Int.mul_pos hRm hP0
 have hnt:L[t] ∉ L.take t:=nodup_take h.nd ht
 have hne:∀ k (hk:k < L.length),k < t->L[t]≠L[k]:=fun k hk hkt e=>hnt (by rw [e,List.mem_take_iff_getElem];exact ⟨k,by omega,rfl⟩)
 obtain ⟨hl0,hl1⟩:=h.first
 have hds:g0 (d.set L[t] (R*m*Pp)) s=g0 d s:=by
  rw [g0_set _ _ _ _ (by have:=hJ.len;omega),if_neg (hl1 ▸ hne 0 hl0 h0)]
 have hgk:∀ k (hk:k < L.length),k < t->g0 (d.set L[t] (R*m*Pp)) L[k]=g0 d L[k]:=fun k hk hkt=>by
  rw [g0_set _ _ _ _ (by have:=hJ.len;omega),if_neg (hne k hk hkt)]
 have hgt:g0 (d.set L[t] (R*m*Pp)) L[t]=R*m*Pp:=by rw [g0_set _ _ _ _ (by have:=hJ.len;omega),if_pos rfl]
 refine ⟨t',h',e1,e2,R*m*Pp,hw0,p2,p1,hB _ _ hi hj,e4,by rw [hPp,hQ];exact hw,?_⟩
 have hgg:0 < Int.gcd g (R*m*Pp):=Int.gcd_pos_of_ne_zero_right g (by omega)
 refine ⟨by simpa using hJ.len,fun i hi=>?_,fun k hk hkt=>?_,⟨by omega,?_⟩,fun k hk hkt=>?_,fun x y hx=>?_⟩
 ·rw [take_mem_snoc ht,not_or] at hi
  rw [g0_set _ _ _ _ (by have:=hJ.len;omega),if_neg (fun e=>hi.2 e.symm)]
  exact hJ.oth i hi.1
 ·by_cases q:k < t
  ·obtain ⟨q1,q2,q3,q4⟩:=hJ.pos k hk q
   rw [hgk k hk q,hds]
   refine ⟨q1,q2,?_,q4⟩
   rw [hr,Int.natCast_mul,hRr] at q3
   rw [hRr]
   exact Int.dvd_trans (Int.dvd_mul_left _ _) q3
  ·obtain rfl:k=t:=by omega
   rw [hgt,hds]
   refine ⟨hw0,?_,by rw [hRr,Int.mul_assoc];exact Int.dvd_mul_right _ _,fun e he=>?_⟩
   ·have h1:(R*m).natAbs<=(g0 d L[t']).natAbs:=by
     rw [hm,Int.mul_assoc,Int.natAbs_mul Q]
     exact Nat.le_mul_of_pos_left _ (by omega)
    rw [Int.natAbs_mul]
    have h2:=Nat.mul_le_mul (Nat.le_trans h1 p2) (show Pp.natAbs<=99 by omega)
    rw [<-Nat.pow_succ] at h2
    exact Nat.le_trans h2 (Nat.pow_le_pow_right (by omega) (by omega))
   ·have f1:=p4 e he
    have f2:=he.rel L[t'] L[k] hi hj
    have f3:e L[t']*Pp=e L[k]*Q:=by
     obtain ⟨s1,s2,s3⟩:=sol_sign he hi hj
     rcases (show 0 < b L[t'] L[k]/\0 < -b L[k] L[t']\/b L[t'] L[k] < 0/\-b L[k] L[t'] < 0 by omega) with z | z
     ·rw [show Pp=b L[t'] L[k] by omega,show Q=-b L[k] L[t'] by omega];grind
     ·rw [show Pp=-b L[t'] L[k] by omega,show Q=b L[k] L[t'] by omega];grind
    have key:e L[k]*g0 d s*Q=e s*(R*m*Pp)*Q:=by
     calc e L[k]*g0 d s*Q=(e L[t']*g0 d s)*Pp:=by grind
      _=e s*(g0 d L[t']*Pp):=by rw [f1];grind
      _=e s*(R*m*Pp)*Q:=by rw [hm];grind
    exact Int.eq_of_mul_eq_mul_right (by omega) key
 ·rw [hds]
  have:Int.gcd g (R*m*Pp) ∣ g.natAbs:=Nat.gcd_dvd_left _ _
  have:=Nat.le_of_dvd (by have:=hJ.gp;omega) this
  have:=hJ.gp
  omega
 ·by_cases q:k < t
  ·rw [hgk k hk q]
   exact Int.dvd_trans (Int.gcd_dvd_left _ _) (hJ.gd k hk q)
  ·obtain rfl:k=t:=by omega
   rw [hgt];exact Int.gcd_dvd_right _ _
 ·have x1:=hJ.gx x y fun k hk hkt=>by have:=hx k hk (by omega);rwa [hgk k hk hkt] at this
  have x2:=hx t ht (by omega)
  rw [hgt] at x2
  have x3:x.natAbs ∣ Nat.gcd (y*g).natAbs (y*(R*m*Pp)).natAbs:=Nat.dvd_gcd (Int.natAbs_dvd_natAbs.2 x1) (Int.natAbs_dvd_natAbs.2 x2)
  rw [Int.natAbs_mul,Int.natAbs_mul,Nat.gcd_mul_left] at x3
  refine Int.natAbs_dvd_natAbs.1 ?_
  rw [Int.natAbs_mul]
  exact x3
structure EJ (g:Int) (L:List Nat) (d1:List Int) (t:Nat) (d:List Int):Prop where
 len:d.length=d1.length
 val:∀ i,g0 d i=if i∈L.take t then (g0 d1 i).tdiv g else g0 d1 i
theorem EJ.start (g:Int) (L:List Nat) (d1:List Int):EJ g L d1 0 d1:=⟨rfl,by simp⟩
theorem EJ.step {g:Int} {d1:List Int} {t:Nat} (h:EJ g L d1 t d) (hP:L.Nodup) (ht:t < L.length) (hl:L[t] < d1.length):g0 d L[t]=g0 d1 L[t]/\EJ g L d1 (t+1) (d.set L[t] ((g0 d1 L[t]).tdiv g)):=by
 refine ⟨by rw [h.val,if_neg (nodup_take hP ht)],by simpa using h.len,fun i=>?_⟩
 rw [g0_set _ _ _ _ (by have:=h.len;omega),h.val i]
 simp only [take_mem_snoc ht]
 by_cases e:L[t]=i
 ·subst e;simp
 ·rw [if_neg e]
  have:¬ i=L[t]:=fun q=>e q.symm
  simp [this]
structure OS (n:Nat) (b:Nat->Nat->Int) (old:List Nat) (d:List Int):Prop where
 lo:d.length=n
 zr:∀ i,i < n->(0 < g0 d i↔i∈old)
 cl:∀ i∈old,i < n/\(∀ j,j < n->b i j≠0->j∈old)
 sol:∀ e,Sol n b e->∀ i∈old,g0 d i ∣ e i/\∀ j,j < n->b i j≠0->e i*g0 d j=e j*g0 d i
 bd:∀ i∈old,(g0 d i).natAbs<=99 ^ 8
theorem OS.grow {g:Int} {d1:List Int} (hO:OS n b old d0) (h:Piece n b s L F) (hn:n<=5) (hdis:∀ i∈L,i ∉ old) (hJ:DJ n b s L F d0 L.length d1 g) (hE:EJ g L d1 L.length d):OS n b (old ++ L) d:=by
 have hll:=nodup_len h.nd h.lt
 obtain ⟨hl0,hl1⟩:=h.first
 have hsL:s∈L:=hl1 ▸ List.getElem_mem hl0
 have hv:∀ i∈L,∃ z,0 < z/\g0 d i=z/\g0 d1 i=z*g:=fun i hi=>by
  obtain ⟨k,hk,rfl⟩:=List.getElem_of_mem hi
  obtain ⟨z,hz⟩:=hJ.gd k hk hk
  refine ⟨z,Int.pos_of_mul_pos_right (hz ▸ (hJ.pos k hk hk).1) (by have:=hJ.gp;omega),?_,by rw [hz,Int.mul_comm]⟩
  rw [hE.val,List.take_length,if_pos hi,hz,Int.mul_comm,Int.mul_tdiv_cancel _ (by have:=hJ.gp;omega)]
 have hov:∀ i,i ∉ L->g0 d i=g0 d0 i:=fun i hi=>by
  rw [hE.val,List.take_length,if_neg hi]
  exact hJ.oth i (by rw [List.take_length];exact hi)
 have hoo:∀ i∈old,g0 d i=g0 d0 i:=fun i hi=>hov i fun q=>hdis i q hi
 refine ⟨by rw [hE.len,hJ.len],fun i hi=>?_,fun i hi=>?_,fun e he i hi=>?_,fun i hi=>?_⟩
 ·by_cases q:i∈L
  ·obtain ⟨z,z0,z1,_⟩:=hv i q
   rw [z1];simp [q,z0]
  ·rw [hov i q,hO.zr i hi]
   simp [q]
 ·rcases List.mem_append.1 hi with hi | hi
  ·exact ⟨(hO.cl i hi).1,fun j hj hne=>by simp [(hO.cl i hi).2 j hj hne]⟩
  ·exact ⟨h.lt i hi,fun j hj hne=>by simp [h.cl i hi j hj hne]⟩
 ·rcases List.mem_append.1 hi with hi | hi
  ·obtain ⟨q1,q2⟩:=hO.sol e he i hi
   refine ⟨by rw [hoo i hi];exact q1,fun j hj hne=>?_⟩
   rw [hoo i hi,hoo j ((hO.cl i hi).2 j hj hne)]
   exact q2 j hj hne
  ·have hg:=hJ.gp.1
   have rel:∀ k∈L,e k*g0 d s=e s*g0 d k:=fun k hk=>by
    obtain ⟨z,z0,z1,z2⟩:=hv k hk
    obtain ⟨y,y0,y1,y2⟩:=hv s hsL
    obtain ⟨t,ht,rfl⟩:=List.getElem_of_mem hk
    have:=(hJ.pos t ht ht).2.2.2 e he
    rw [z2,y2] at this
    rw [z1,y1]
    refine Int.eq_of_mul_eq_mul_right (a:=g) (by omega) ?_
    grind
   obtain ⟨y,y0,y1,y2⟩:=hv s hsL
   have hsd:g0 d s ∣ e s:=by
    have:=hJ.gx (g0 d s*g) (e s) fun k hk _=>by
     obtain ⟨z,z0,z1,z2⟩:=hv L[k] (List.getElem_mem hk)
     rw [z2,<-z1,<-Int.mul_assoc,<-rel _ (List.getElem_mem hk)]
     exact ⟨e L[k],by grind⟩
    obtain ⟨c,hc⟩:=this
    exact ⟨c,Int.eq_of_mul_eq_mul_right (a:=g) (by omega) (by rw [hc];grind)⟩
   obtain ⟨c,hc⟩:=hsd
   have mul:∀ k∈L,e k=g0 d k*c:=fun k hk=>by
    have:=rel k hk
    rw [hc] at this
    exact Int.eq_of_mul_eq_mul_right (a:=g0 d s) (by omega) (by rw [this];grind)
   refine ⟨⟨c,mul i hi⟩,fun j hj hne=>?_⟩
   rw [mul i hi,mul j (h.cl i hi j hj hne)]
   grind
 ·rcases List.mem_append.1 hi with hi | hi
  ·rw [hoo i hi];exact hO.bd i hi
  ·obtain ⟨z,z0,z1,z2⟩:=hv i hi
   obtain ⟨t,ht,rfl⟩:=List.getElem_of_mem hi
   have h1:=(hJ.pos t ht ht).2.1
   have h2:(g0 d L[t]).natAbs<=(g0 d1 L[t]).natAbs:=by
    rw [z1,z2,Int.natAbs_mul]
    exact Nat.le_mul_of_pos_right _ (by have:=hJ.gp;omega)
   exact Nat.le_trans h2 (Nat.le_trans h1 (Nat.pow_le_pow_right (by omega) (by omega)))
theorem OS.rel {e:Nat->Int} (hO:OS n b old d) (he:Sol n b e) {i:Nat} (hi:i∈old) (hj:j < n) (hs:∀ i j,i < n->j < n->(b i j=0↔b j i=0)):g0 d i*b i j=-(g0 d j*b j i):=by
 have hin:=(hO.cl i hi).1
 by_cases q:b i j=0
 ·rw [q,(hs i j hin hj).1 q];simp
 ·have h1:=(hO.sol e he i hi).2 j hj q
  have h2:=he.rel i j hin hj
  have h3:=he.pos j hj
  refine Int.eq_of_mul_eq_mul_right (a:=e j) (by omega) ?_
  calc g0 d i*b i j*e j=(e j*g0 d i)*b i j:=by grind
   _=g0 d j*(e i*b i j):=by rw [<-h1];grind
   _=-(g0 d j*b j i)*e j:=by rw [h2];grind
end
end Go.Proofs.YtbhkonnakkhibaaGreat.Ab
namespace Go.Proofs.YtbhkonnakkhibaaGreat.Ab
open Go
def ShM (m:Mat):Prop:=(1<=m.n/\m.n<=5)/\(m.n<=m.r/\m.r<=8)/\(m.d.length:Int)=m.n*m.r/\∀ x∈m.d,-99<=x/\x<=99
def MatOK (m:Mat):Prop:=ShM m/\∃ d,Sol m.n.toNat (bM m) d
noncomputable instance (m:Mat):Decidable (ShM m):=Classical.propDecidable _
noncomputable instance (m:Mat):Decidable (MatOK m):=Classical.propDecidable _
def MinSol (n:Nat) (b:Nat->Nat->Int) (l:List Int):Prop:=l.length=n/\Sol n b (g0 l)/\∀ e,Sol n b e->∀ i,i < n->g0 l i ∣ e i
theorem MinSol.uniq {n:Nat} {b:Nat->Nat->Int} {l k:List Int} (h:MinSol n b l) (h':MinSol n b k):l=k:=by
 refine List.ext_getElem (by rw [h.1,h'.1]) fun i h1 h2=>?_
 have hi:i < n:=by have:=h.1;omega
 have e1:=h.2.2 _ h'.2.1 i hi
 have e2:=h'.2.2 _ h.2.1 i hi
 have p1:=h.2.1.pos i hi
 have p2:=h'.2.1.pos i hi
 have:g0 l i=g0 k i:=Int.dvd_antisymm (by omega) (by omega) e1 e2
 simpa [g0,List.getD_eq_getElem?_getD,h1,h2] using this
theorem OJ.min {n:Nat} {b:Nat->Nat->Int} {old:List Nat} {out:List Int} (h:OJ n b old out) (ha:∀ i,i < n->i∈old):MinSol n b out:=by
 refine ⟨h.lo,⟨fun i hi=>(h.cl i (ha i hi)).2.1,fun i j hi hj=>?_⟩,fun e he i hi=>h.mn e he i (ha i hi)⟩
 rcases (h.cl i (ha i hi)).2.2 j hj with q | q
 ·rw [q.1,q.2];simp
 ·exact q.2
theorem OS.min {n:Nat} {b:Nat->Nat->Int} {old:List Nat} {out:List Int} (h:OS n b old out) (ha:∀ i,i < n->i∈old) (hr:∀ i j,i < n->j < n->g0 out i*b i j=-(g0 out j*b j i)):MinSol n b out:=
 ⟨h.lo,⟨fun i hi=>(h.zr i hi).2 (ha i hi),hr⟩,fun e he i hi=>(h.sol e he i (ha i hi)).1⟩
theorem bM_get {m:Mat} (h:ShM m) {i j:Nat} (hi:(i:Int) < m.r) (hj:(j:Int) < m.n):∃ hq:i*m.n.toNat+j < m.d.length,m.d[i*m.n.toNat+j]=bM m i j:=by
 obtain ⟨n,hn⟩:∃ n:Nat,m.n=n:=⟨m.n.toNat,by have:=h.1;omega⟩
 obtain ⟨r,hr⟩:∃ r:Nat,m.r=r:=⟨m.r.toNat,by have:=h.1;have:=h.2.1;omega⟩
 have hl:=h.2.2.1
 rw [hn,hr,<-Int.natCast_mul] at hl
 have hq:i*m.n.toNat+j < m.d.length:=by
  rw [hn,Int.toNat_natCast,show m.d.length=n*r by omega]
  have h1:(i+1)*n<=r*n:=Nat.mul_le_mul_right _ (by omega)
  rw [Nat.mul_comm n r]
  rw [Nat.add_mul] at h1
  omega
 exact ⟨hq,by simp [bM,g0,List.getD_eq_getElem?_getD,hq]⟩
theorem bM_bd {m:Mat} (h:ShM m) (i j:Nat):(bM m i j).natAbs<=99:=by
 unfold bM
 simp only [g0,List.getD_eq_getElem?_getD]
 by_cases q:i*m.n.toNat+j < m.d.length
 ·rw [List.getElem?_eq_getElem q]
  have:=h.2.2.2 _ (List.getElem_mem q)
  simp only [Option.getD_some]
  omega
 ·rw [List.getElem?_eq_none (by omega)];simp
def muE (b:Nat->Nat->Int) (k i j:Nat):Int:=
 if i=k\/j=k then -b i j else if 0 < b i k/\0 < b k j then b i j+b i k*b k j else if b i k < 0/\b k j < 0 then b i j - b i k*b k j else b i j
theorem muE_sol {n k:Nat} {b:Nat->Nat->Int} {d:Nat->Int} (h:Sol n b d) (hk:k < n):Sol n (muE b k) d:=by
 refine ⟨h.pos,fun i j hi hj=>?_⟩
 obtain ⟨a1,a2,a3⟩:=sol_sign h hi hk
 obtain ⟨c1,c2,c3⟩:=sol_sign h hj hk
 have e0:=h.rel i j hi hj
 have e1:=h.rel i k hi hk
 have e2:=h.rel j k hj hk
 have key:d i*(b i k*b k j)=d j*(b j k*b k i):=by
  have hp:=h.pos k hk
  refine Int.eq_of_mul_eq_mul_right (a:=d k) (by omega) ?_
  calc d i*(b i k*b k j)*d k=(d i*b i k)*(d k*b k j):=by grind
   _=(d k*b k i)*(d j*b j k):=by rw [e1,show d k*b k j=-(d j*b j k) by rw [e2];grind];grind
   _=d j*(b j k*b k i)*d k:=by grind
 unfold muE
 by_cases hc:i=k\/j=k
 ·rw [if_pos hc,if_pos (Or.comm.1 hc)];grind
 ·rw [if_neg hc,if_neg (fun q=>hc (Or.comm.1 q))]
  by_cases h1:0 < b i k/\0 < b k j
  ·rw [if_pos h1,if_neg (by omega),if_pos (by omega)];grind
  ·rw [if_neg h1]
   by_cases h2:b i k < 0/\b k j < 0
   ·rw [if_pos h2,if_pos (by omega)];grind
   ·rw [if_neg h2,if_neg (by omega),if_neg (by omega)];exact e0
def muD (m:Mat) (k:Nat):List Int:=(List.range m.d.length).map fun q=>muE (bM m) k (q / m.n.toNat) (q % m.n.toNat)
def muM (m:Mat) (k:Nat):Mat:=⟨m.n,m.r,muD m k⟩
@[simp] theorem muD_length (m:Mat) (k:Nat):(muD m k).length=m.d.length:=by simp [muD]
theorem muD_get (m:Mat) (k i j:Nat) (hj:j < m.n.toNat) (h:i*m.n.toNat+j < m.d.length):(muD m k)[i*m.n.toNat+j]'(by simpa using h)=muE (bM m) k i j:=by
 simp only [muD,List.getElem_map,List.getElem_range]
 rw [Nat.mul_comm i,Nat.mul_add_div (by omega),Nat.div_eq_of_lt hj,Nat.mul_add_mod,Nat.mod_eq_of_lt hj,Nat.add_zero]
theorem muM_b {m:Mat} (h:ShM m) {k i j:Nat} (hi:(i:Int) < m.r) (hj:(j:Int) < m.n):bM (muM m k) i j=muE (bM m) k i j:=by
 obtain ⟨hq,_⟩:=bM_get h hi hj
 have:=muD_get m k i j (by omega) hq
 rw [<-this]
 have h2:i*m.n.toNat+j < (muD m k).length:=by simpa using hq
 show g0 (muD m k) (i*m.n.toNat+j)=_
 simp only [g0,List.getD_eq_getElem?_getD]
 rw [List.getElem?_eq_getElem h2];rfl
theorem Sol.congr {n:Nat} {b c:Nat->Nat->Int} {d:Nat->Int} (h:Sol n b d) (e:∀ i j,i < n->j < n->c i j=b i j):Sol n c d:=
 ⟨h.pos,fun i j hi hj=>by rw [e i j hi hj,e j i hj hi];exact h.rel i j hi hj⟩
theorem muM_sol {m:Mat} (h:MatOK m) {k:Nat} (hk:(k:Int) < m.n):∃ d,Sol (muM m k).n.toNat (bM (muM m k)) d:=by
 obtain ⟨hS,d,hd⟩:=h
 have h1:=hS.1
 have h2:=hS.2.1
 refine ⟨d,?_⟩
 show Sol m.n.toNat _ d
 exact (muE_sol hd (show k < m.n.toNat by omega)).congr fun i j hi hj=>muM_b hS (by omega) (by omega)
noncomputable def muF (m:Mat) (k:Int):Mat×Bool:=if MatOK m/\(0<=k/\k < m.n)/\MatOK (muM m k.toNat) then (muM m k.toNat,true) else (⟨0,0,[]⟩,false)
end Go.Proofs.YtbhkonnakkhibaaGreat.Ab
