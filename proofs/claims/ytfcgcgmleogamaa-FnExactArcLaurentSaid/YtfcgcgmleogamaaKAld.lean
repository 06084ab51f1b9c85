/- The program's sums: what is right, keys, comparisons. Keys of the program's sums, and their building. The program's powers of sums, over its products. A map of padded exponents as a sum. The program's products of sums, over the end of a building. Powers of sums: the program's are the reference's, fresh at each call. Seeds and sessions: what is equal, marks. The first seed and the first session, on both sides. Least exponents, denominators, numerators. Division of sums in variables: two ways to test whether to go on lead to the same. Laurent sums: what was multiplied is found again by division; what is divided is multiplied again. Printed by wip/tools/lay.py: the contracts of slices.SortFunc laid at this seat. slices.SortFunc in the calculus: from a contract over worlds to a contract over trees. The end of a building, over a sort. The sort of terms by their exponents, greatest first, at this program. The program's sums: all contracts without a premise left. The program's sums of sums. What a division keeps from step to step. Greatest exponents, sums of coded terms, division: the reference's side. Drawing: the cursor, numbers, exponents, sums. Drawing sums: what is drawn is right and small. Bounded sums and their values: products, sums, quotients by a variable. Diagonals of polygons, the program's side: what is one, what crosses, what is a triangulation. Triangulations and lengths, the program's side. Lengths of a triangulation: what they are, and the step from triangle to triangle. Three drawn sums; what the laws compare. Division by maps: the greatest key, and what a step does. Division: both sides. Division of the program's sums. What a matrix of small entries is: its shape and its factors, at the first session's matrix. Factors of a matrix by fractions: what holds along the search. Factors of a matrix by pieces: what holds along the search. Matrices that are right, their least factors, mutation. The factors of a matrix, by the program. Matrices that are right, mutation of a matrix, by the program. The reference's sums of sums. Division: the law over both sides. Seeds that are right; what mutation of a seed is; the program's side. The exchange at a seed and mutation of a seed, by the program. No condition. -/
import Derived.Test.YtfcgcgmleogamaaKAlc
import Derived.Shelf.SlLaysF0
import Derived.Test.YtfcgcgmleogamaaProg
import Derived.Shelf.SlSortCmp.InsertionK
import Derived.Shelf.SlSortFuncK.ComposeK
import Derived.Shelf.SlSortCmp.NoneTotal
set_option linter.unusedVariables false
set_option linter.unusedSimpArgs false
set_option linter.unusedSectionVars false
namespace Go.Proofs.Ytfcgcgmleogamaa.Ab
open Go
set_option maxRecDepth 10000
set_option maxHeartbeats 2000000
def cmpI (a b:Int):Int:=if a < b then -1 else if b < a then 1 else 0
def cmpL:List Int->List Int->Int
 | [],[]=>0
 | [],_ :: _=>-1
 | _ :: _,[]=>1
 | a :: x,b :: y=>if a=b then cmpL x y else if a < b then -1 else 1
theorem cmpL_neg:∀ (a b:List Int),decide (cmpL a b < 0)=lexlt a b
 | [],[]=>rfl
 | [],_ :: _=>rfl
 | _ :: _,[]=>rfl
 | a :: x,b :: y=>by
  have ih:=cmpL_neg x y
  by_cases h:a=b
  ·have e:cmpL (a :: x) (b :: y)=cmpL x y:=by simp [cmpL,h]
   rw [e,ih]
   simp [lexlt,h]
  ·by_cases h2:a < b
   ·have e:cmpL (a :: x) (b :: y)=-1:=by simp [cmpL,h,h2]
    rw [e]
    simp [lexlt,h,h2]
   ·have e:cmpL (a :: x) (b :: y)=1:=by simp [cmpL,h,h2]
    rw [e]
    simp [lexlt,h,h2]
theorem cmpL_pos:∀ (a b:List Int),decide (cmpL a b<=0) = !lexlt b a
 | [],[]=>rfl
 | [],_ :: _=>rfl
 | _ :: _,[]=>rfl
 | a :: x,b :: y=>by
  have ih:=cmpL_pos x y
  by_cases h:a=b
  ·have e:cmpL (a :: x) (b :: y)=cmpL x y:=by simp [cmpL,h]
   rw [e,ih]
   simp [lexlt,h]
  ·by_cases h2:a < b
   ·have e:cmpL (a :: x) (b :: y)=-1:=by simp [cmpL,h,h2]
    rw [e]
    simp [lexlt,Ne.symm h]
    omega
   ·have e:cmpL (a :: x) (b :: y)=1:=by simp [cmpL,h,h2]
    rw [e]
    simp [lexlt,Ne.symm h]
    omega
def okE (e:List Int) (v:Int):Bool:=decide ((e.length:Int)=v) && !e.any (fun x=>!decide (-20<=x/\x<=20))
theorem okE_iff {e:List Int} {v:Int}:okE e v=true↔(e.length:Int)=v/\∀ x∈e,-20<=x/\x<=20:=by
 unfold okE
 simp only [Bool.and_eq_true,decide_eq_true_eq,Bool.not_eq_true',List.any_eq_false,Bool.not_eq_true']
 refine ⟨fun ⟨h1,h2⟩=>⟨h1,fun x hx=>?_⟩,fun ⟨h1,h2⟩=>⟨h1,fun x hx=>?_⟩⟩
 ·have:=h2 x hx
  simpa using this
 ·have:=h2 x hx
  simpa using this
theorem cmp_isNaN_int_c (a:Int):ACalls Try.prog F.cmp_isNaN_int [.int a] [] true (fun outs res=>outs=[]/\res=[.one (D.bool false)]):=by
 refine ACalls.of_body (C:=C.cmp_isNaN_int) (n:=Try.f194.ntmps) tabT folT Try.func194 rfl (by kernel_rfl) rfl (Nat.le_of_ble_eq_true rfl) (by decide) (by kernel_rfl) (by kernel_rfl) rfl (by simp) (by simp) ?_
 simp only [Try.f194]
 refine wseq ?_
 refine wreg fun K hK=>?_
 simp [C.cmp_isNaN_int]
 refine hK _ ?_;clear hK K
 show AWp _ _ _ _ _
 refine wseq ?_
 refine wreg fun K hK=>?_
 simp [C.cmp_isNaN_int]
 refine hK _ ?_;clear hK K
 show AWp _ _ _ _ _
 refine wret ?_
 simp [C.cmp_isNaN_int]
theorem cmp_Compare_int_c (a b:Int):ACalls Try.prog F.cmp_Compare_int [.int a,.int b] [] true (fun outs res=>outs=[]/\res=[.one (D.int (cmpI a b))]):=by
 refine ACalls.of_body (C:=C.cmp_Compare_int) (n:=Try.f179.ntmps) tabT folT Try.func179 rfl (by kernel_rfl) rfl (Nat.le_of_ble_eq_true rfl) (by decide) (by kernel_rfl) (by kernel_rfl) rfl (by simp) (by simp) ?_
 simp only [Try.f179]
 refine wseq ?_
 refine wreg fun K hK=>?_
 simp [C.cmp_Compare_int]
 refine hK _ ?_;clear hK K
 show AWp _ _ _ _ _
 refine wseq ?_
 refine wregI ([0,1] ++ ([2])) rfl fun K hK=>?_
 refine oSg fun L hL=>?_
 simp [C.cmp_Compare_int]
 refine wcall1 (cmp_isNaN_int_c a) (by simp) (by simp) ?_
 simp [C.cmp_Compare_int]
 refine hL _ ?_;clear hL L
 refine oEn fun L hL=>?_
 simp [C.cmp_Compare_int]
 refine hL _ ?_;clear hL L
 simp [C.cmp_Compare_int]
 refine hK _ ?_;clear hK K
 show AWp _ _ _ _ _
 refine wseq ?_
 refine wregI ([0,1] ++ ([2])) rfl fun K hK=>?_
 refine oSg fun L hL=>?_
 simp [C.cmp_Compare_int]
 refine wcall1 (cmp_isNaN_int_c b) (by simp) (by simp) ?_
 simp [C.cmp_Compare_int]
 refine hL _ ?_;clear hL L
 refine oEn fun L hL=>?_
 simp [C.cmp_Compare_int]
 refine hL _ ?_;clear hL L
 simp [C.cmp_Compare_int]
 refine hK _ ?_;clear hK K
 show AWp _ _ _ _ _
 refine wseq ?_
 refine wseq ?_
 refine wreg fun K hK=>?_
 simp [C.cmp_Compare_int]
 refine hK _ ?_;clear hK K
 show AWp _ _ _ _ _
 refine wcond _ rfl (fun hc1=>?_) (fun hc1=>?_)
 ·simp at hc1
 ·refine wskip ?_
  show AWp _ _ _ _ _
  refine wseq ?_
  refine wseq ?_
  refine wreg fun K hK=>?_
  simp [C.cmp_Compare_int]
  refine hK _ ?_;clear hK K
  show AWp _ _ _ _ _
  refine wcond _ rfl (fun hc3=>?_) (fun hc3=>?_)
  ·simp at hc3
  ·refine wskip ?_
   show AWp _ _ _ _ _
   refine wseq ?_
   refine wseq ?_
   refine wreg fun K hK=>?_
   simp [C.cmp_Compare_int]
   refine hK _ ?_;clear hK K
   show AWp _ _ _ _ _
   refine wcond _ rfl (fun hc4=>?_) (fun hc4=>?_)
   ·have h4:=d_t hc4
    refine wseq ?_
    refine wreg fun K hK=>?_
    simp [C.cmp_Compare_int]
    refine hK _ ?_;clear hK K
    show AWp _ _ _ _ _
    refine wret ?_
    simp [C.cmp_Compare_int,cmpI,h4]
   ·have h4:=d_f hc4
    refine wskip ?_
    show AWp _ _ _ _ _
    refine wseq ?_
    refine wseq ?_
    refine wreg fun K hK=>?_
    simp [C.cmp_Compare_int]
    refine hK _ ?_;clear hK K
    show AWp _ _ _ _ _
    refine wcond _ rfl (fun hc5=>?_) (fun hc5=>?_)
    ·have h5:b < a:=by simpa using hc5
     refine wseq ?_
     refine wreg fun K hK=>?_
     simp [C.cmp_Compare_int]
     refine hK _ ?_;clear hK K
     show AWp _ _ _ _ _
     refine wret ?_
     simp [C.cmp_Compare_int,cmpI,h4,h5]
    ·have h5:¬ b < a:=by simpa using hc5
     refine wskip ?_
     show AWp _ _ _ _ _
     refine wseq ?_
     refine wreg fun K hK=>?_
     simp [C.cmp_Compare_int]
     refine hK _ ?_;clear hK K
     show AWp _ _ _ _ _
     refine wret ?_
     simp [C.cmp_Compare_int,cmpI,h4,h5]
theorem slices_Compare_int_int_c (a b:List Int) (ha:a.length < 4611686018427387904):ACalls Try.prog F.slices_Compare_int_int [.d (shI a),.d (shI b)] [] true (fun outs res=>outs=[]/\res=[.one (D.int (cmpL a b))]):=by
 refine ACalls.of_body (C:=C.slices_Compare_int_int) (n:=Try.f142.ntmps) tabT folT Try.func142 rfl (by kernel_rfl) rfl (Nat.le_of_ble_eq_true rfl) (by decide) (by kernel_rfl) (by kernel_rfl) rfl (by simp) (by simp) ?_
 simp only [Try.f142]
 refine wseq ?_
 refine wreg fun K hK=>?_
 simp [C.slices_Compare_int_int]
 refine hK _ ?_;clear hK K
 show AWp _ _ _ _ _
 refine wseq ?_
 refine wseq ?_
 refine wreg fun K hK=>?_
 simp [C.slices_Compare_int_int]
 refine hK _ ?_;clear hK K
 show AWp _ _ _ _ _
 refine wblock ?_
 refine wloop (fun k:Nat=>⟨ofL [(0,.d (shI a)),(1,.d (shI b)),(9,.d (shI a)),(10,.int a.length),(11,FV.int k)],ofRO []⟩) (fun k=>k<=a.length/\k<=b.length/\cmpL a b=cmpL (a.drop k) (b.drop k)) (fun k=>a.length - k) 0 (by simp [C.slices_Compare_int_int]) (by simp) ?_
 intro x1 hx1 R1 hR1
 obtain ⟨hk,hk2,ht⟩:=hx1
 refine wseq ?_
 refine wreg fun K hK=>?_
 simp [C.slices_Compare_int_int]
 refine hK _ ?_;clear hK K
 show AWp _ _ _ _ _
 refine wseq ?_
 refine wcond _ rfl (fun hc1=>?_) (fun hc1=>?_)
 ·have h1:x1 < a.length:=by have:=d_t hc1;omega
  refine wskip ?_
  show AWp _ _ _ _ _
  refine wseq ?_
  refine wblock ?_
  refine wseq ?_
  refine wreg fun K hK=>?_
  simp [C.slices_Compare_int_int,get_ints,h1]
  refine hK _ ?_;clear hK K
  show AWp _ _ _ _ _
  refine wseq ?_
  refine wseq ?_
  refine wreg fun K hK=>?_
  simp [C.slices_Compare_int_int]
  refine hK _ ?_;clear hK K
  show AWp _ _ _ _ _
  refine wcond _ rfl (fun hc2=>?_) (fun hc2=>?_)
  ·have h2:b.length<=x1:=by have:=d_t hc2;omega
   refine wseq ?_
   refine wreg fun K hK=>?_
   simp [C.slices_Compare_int_int]
   refine hK _ ?_;clear hK K
   show AWp _ _ _ _ _
   refine wret ?_
   simp [C.slices_Compare_int_int]
   rw [ht,List.drop_eq_nil_of_le h2,List.drop_eq_getElem_cons h1]
   rfl
  ·have h2:x1 < b.length:=by have:=d_f hc2;omega
   refine wskip ?_
   show AWp _ _ _ _ _
   refine wseq ?_
   refine wreg fun K hK=>?_
   simp [C.slices_Compare_int_int,get_ints,h2]
   refine hK _ ?_;clear hK K
   show AWp _ _ _ _ _
   refine wseq ?_
   refine wregI ([0,1,2] ++ ([3])) rfl fun K hK=>?_
   refine oSg fun L hL=>?_
   simp [C.slices_Compare_int_int]
   refine wcall1 (cmp_Compare_int_c a[x1] b[x1]) (by simp) (by simp) ?_
   simp [C.slices_Compare_int_int]
   refine hL _ ?_;clear hL L
   refine oEn fun L hL=>?_
   simp [C.slices_Compare_int_int]
   refine hL _ ?_;clear hL L
   simp [C.slices_Compare_int_int]
   refine hK _ ?_;clear hK K
   show AWp _ _ _ _ _
   refine wseq ?_
   refine wreg fun K hK=>?_
   simp [C.slices_Compare_int_int]
   refine hK _ ?_;clear hK K
   show AWp _ _ _ _ _
   refine wcond _ rfl (fun hc3=>?_) (fun hc3=>?_)
   ·have hne:¬ cmpI a[x1] b[x1]=0:=by simpa using hc3
    refine wseq ?_
    refine wreg fun K hK=>?_
    simp [C.slices_Compare_int_int]
    refine hK _ ?_;clear hK K
    show AWp _ _ _ _ _
    refine wret ?_
    simp [C.slices_Compare_int_int]
    rw [ht,List.drop_eq_getElem_cons h1,List.drop_eq_getElem_cons h2]
    rcases Int.lt_trichotomy a[x1] b[x1] with q | q | q
    ·simp [cmpL,cmpI,q,Int.ne_of_lt q]
    ·simp [cmpI,q] at hne
    ·simp [cmpL,cmpI,q,Int.ne_of_gt q,Int.not_lt.2 (Int.le_of_lt q)]
   ·have heq:cmpI a[x1] b[x1]=0:=by simpa using hc3
    have hab:a[x1]=b[x1]:=by
     unfold cmpI at heq
     split at heq
     ·simp at heq
     ·split at heq
      ·simp at heq
      ·omega
    refine wskip ?_
    show AWp _ _ _ _ _
    refine wreg fun K hK=>?_
    simp [C.slices_Compare_int_int,wrap_succ (show x1 < 4611686018427387904 by omega)]
    refine hK _ ?_;clear hK K
    simp [C.slices_Compare_int_int]
    refine hR1 (x1+1) ⟨h1,h2,?_⟩ (by omega)
    rw [ht,List.drop_eq_getElem_cons h1,List.drop_eq_getElem_cons h2]
    simp [cmpL,hab]
 ·have h1:x1=a.length:=by have:=d_f hc1;omega
  have hn:a.drop x1=[]:=List.drop_eq_nil_of_le (by omega)
  refine wexit ?_
  show AWp _ _ _ _ _
  refine wseq ?_
  refine wseq ?_
  refine wreg fun K hK=>?_
  simp [C.slices_Compare_int_int]
  refine hK _ ?_;clear hK K
  show AWp _ _ _ _ _
  refine wcond _ rfl (fun hc4=>?_) (fun hc4=>?_)
  ·have h2:a.length < b.length:=by have:=d_t hc4;omega
   refine wseq ?_
   refine wreg fun K hK=>?_
   simp [C.slices_Compare_int_int]
   refine hK _ ?_;clear hK K
   show AWp _ _ _ _ _
   refine wret ?_
   simp [C.slices_Compare_int_int]
   rw [ht,hn,List.drop_eq_getElem_cons (show x1 < b.length by omega)]
   rfl
  ·have h2:¬ a.length < b.length:=by have:=d_f hc4;omega
   refine wskip ?_
   show AWp _ _ _ _ _
   refine wseq ?_
   refine wreg fun K hK=>?_
   simp [C.slices_Compare_int_int]
   refine hK _ ?_;clear hK K
   show AWp _ _ _ _ _
   refine wret ?_
   simp [C.slices_Compare_int_int]
   rw [ht,hn,List.drop_eq_nil_of_le (show b.length<=x1 by omega)]
   rfl
theorem slices_IndexFunc_int_int_c (xs:List Int) (g:Nat) (p:Int->Bool) (hx:xs.length < 4611686018427387904) (hM:aget [] MM g=[]) (hp:∀ x∈xs,ACalls Try.prog g [.int x] [] true (fun outs res=>outs=[]/\res=[.one (D.bool (p x))])):ACalls Try.prog F.slices_IndexFunc_int_int [.d (shI xs),.d (.fn g [])] [] true (fun outs res=>outs=[]/\∃ r:Int,res=[.one (D.int r)]/\decide (0<=r)=xs.any p):=by
 refine ACalls.of_body (C:=C.slices_IndexFunc_int_int) (n:=Try.f150.ntmps) tabT folT Try.func150 rfl (by kernel_rfl) rfl (Nat.le_of_ble_eq_true rfl) (by decide) (by kernel_rfl) (by kernel_rfl) rfl (by simp) (by simp) ?_
 simp only [Try.f150]
 refine wseq ?_
 refine wreg fun K hK=>?_
 simp [C.slices_IndexFunc_int_int]
 refine hK _ ?_;clear hK K
 show AWp _ _ _ _ _
 refine wseq ?_
 refine wseq ?_
 refine wreg fun K hK=>?_
 simp [C.slices_IndexFunc_int_int]
 refine hK _ ?_;clear hK K
 show AWp _ _ _ _ _
 refine wblock ?_
 refine wloop (fun k:Nat=>⟨ofL [(0,.d (shI xs)),(1,.d (.fn g [])),(7,.int xs.length),(8,FV.int k)],ofRO []⟩) (fun k=>k<=xs.length/\(xs.take k).any p=false) (fun k=>xs.length - k) 0 (by simp [C.slices_IndexFunc_int_int]) (by simp) ?_
 intro x1 hx1 R1 hR1
 obtain ⟨hk,ht⟩:=hx1
 refine wseq ?_
 refine wreg fun K hK=>?_
 simp [C.slices_IndexFunc_int_int]
 refine hK _ ?_;clear hK K
 show AWp _ _ _ _ _
 refine wseq ?_
 refine wcond _ rfl (fun hc1=>?_) (fun hc1=>?_)
 ·have h1:x1 < xs.length:=by have:=d_t hc1;omega
  refine wskip ?_
  show AWp _ _ _ _ _
  refine wseq ?_
  refine wblock ?_
  refine wseq ?_
  refine wreg fun K hK=>?_
  simp [C.slices_IndexFunc_int_int]
  refine hK _ ?_;clear hK K
  show AWp _ _ _ _ _
  refine wseq ?_
  refine wregI ([0,1,2,3,4,5] ++ ([])) rfl fun K hK=>?_
  refine oSg fun L hL=>?_
  simp [C.slices_IndexFunc_int_int,get_ints,h1,hM]
  refine wcall1 (hp xs[x1] (List.getElem_mem h1)) (by simp) (by simp) ?_
  simp [C.slices_IndexFunc_int_int,get_ints,h1,hM]
  refine hL _ ?_;clear hL L
  refine oEn fun L hL=>?_
  simp only [AOpsI]
  refine hL _ ?_;clear hL L
  simp [C.slices_IndexFunc_int_int,get_ints,h1,hM]
  refine hK _ ?_;clear hK K
  show AWp _ _ _ _ _
  refine wcond _ rfl (fun hc2=>?_) (fun hc2=>?_)
  ·have hpx:p xs[x1]=true:=by simpa using hc2
   refine wseq ?_
   refine wreg fun K hK=>?_
   simp [C.slices_IndexFunc_int_int]
   refine hK _ ?_;clear hK K
   show AWp _ _ _ _ _
   refine wret ?_
   simp [C.slices_IndexFunc_int_int]
   exact ⟨xs[x1],List.getElem_mem h1,hpx⟩
  ·have hpx:p xs[x1]=false:=by simpa using hc2
   refine wskip ?_
   show AWp _ _ _ _ _
   refine wreg fun K hK=>?_
   simp [C.slices_IndexFunc_int_int,wrap_succ (show x1 < 4611686018427387904 by omega)]
   refine hK _ ?_;clear hK K
   simp [C.slices_IndexFunc_int_int]
   refine hR1 (x1+1) ⟨h1,?_⟩ (by omega)
   rw [List.take_succ_eq_append_getElem h1,List.any_append,ht]
   simp [hpx]
 ·have h1:x1=xs.length:=by have:=d_f hc1;omega
  have ht2:xs.any p=false:=by rw [h1,List.take_length] at ht;exact ht
  refine wexit ?_
  show AWp _ _ _ _ _
  refine wseq ?_
  refine wreg fun K hK=>?_
  simp [C.slices_IndexFunc_int_int]
  refine hK _ ?_;clear hK K
  show AWp _ _ _ _ _
  refine wret ?_
  simp [C.slices_IndexFunc_int_int]
  intro x hx
  have:=List.any_eq_false.1 ht2 x hx
  simpa using this
theorem slices_ContainsFunc_int_int_c (xs:List Int) (g:Nat) (p:Int->Bool) (hx:xs.length < 4611686018427387904) (hM:aget [] MM g=[]) (hp:∀ x∈xs,ACalls Try.prog g [.int x] [] true (fun outs res=>outs=[]/\res=[.one (D.bool (p x))])):ACalls Try.prog F.slices_ContainsFunc_int_int [.d (shI xs),.d (.fn g [])] [] true (fun outs res=>outs=[]/\res=[.one (D.bool (xs.any p))]):=by
 refine ACalls.of_body (C:=C.slices_ContainsFunc_int_int) (n:=Try.f90.ntmps) tabT folT Try.func90 rfl (by kernel_rfl) rfl (Nat.le_of_ble_eq_true rfl) (by decide) (by kernel_rfl) (by kernel_rfl) rfl (by simp) (by simp) ?_
 simp only [Try.f90]
 refine wseq ?_
 refine wreg fun K hK=>?_
 simp [C.slices_ContainsFunc_int_int]
 refine hK _ ?_;clear hK K
 show AWp _ _ _ _ _
 refine wseq ?_
 refine wregI ([0,1,2] ++ ([3,4])) rfl fun K hK=>?_
 refine oSg fun L hL=>?_
 simp [C.slices_ContainsFunc_int_int]
 refine wcall (slices_IndexFunc_int_int_c xs g p hx hM hp) (by simp) (by simp) (by simp) ?_
 rintro outs res ⟨rfl,r,rfl,hr⟩
 simp [C.slices_ContainsFunc_int_int]
 refine hL _ ?_;clear hL L
 refine oEn fun L hL=>?_
 simp [C.slices_ContainsFunc_int_int]
 refine hL _ ?_;clear hL L
 simp [C.slices_ContainsFunc_int_int]
 refine hK _ ?_;clear hK K
 show AWp _ _ _ _ _
 refine wret ?_
 simp [C.slices_ContainsFunc_int_int]
 exact hr
theorem impl_expOk_1_c (x:Int):ACalls Try.prog F.impl_expOk_1 [.int x] [] true (fun outs res=>outs=[]/\res=[.one (D.bool (!decide (-20<=x/\x<=20)))]):=by
 refine ACalls.of_body (C:=C.impl_expOk_1) (n:=Try.f178.ntmps) tabT folT Try.func178 rfl (by kernel_rfl) rfl (Nat.le_of_ble_eq_true rfl) (by decide) (by kernel_rfl) (by kernel_rfl) rfl (by simp) (by simp) ?_
 simp only [Try.f178]
 refine wseq ?_
 refine wreg fun K hK=>?_
 simp [C.impl_expOk_1]
 refine hK _ ?_;clear hK K
 show AWp _ _ _ _ _
 refine wseq ?_
 refine wregI ([0,1] ++ ([2,3])) rfl fun K hK=>?_
 refine oSg fun L hL=>?_
 simp [C.impl_expOk_1]
 refine wcall1 (impl_within_c x (-20) 20) (by simp) (by simp) ?_
 simp [C.impl_expOk_1]
 refine hL _ ?_;clear hL L
 refine oEn fun L hL=>?_
 simp [C.impl_expOk_1]
 refine hL _ ?_;clear hL L
 simp [C.impl_expOk_1]
 refine hK _ ?_;clear hK K
 show AWp _ _ _ _ _
 refine wret ?_
 simp [C.impl_expOk_1]
theorem impl_expOk_c (e:List Int) (v:Int) (hx:e.length < 4611686018427387904):ACalls Try.prog F.impl_expOk [.d (shI e),.int v] [] true (fun outs res=>outs=[]/\res=[.one (D.bool (okE e v))]):=by
 refine ACalls.of_body (C:=C.impl_expOk) (n:=Try.f140.ntmps) tabT folT Try.func140 rfl (by kernel_rfl) rfl (Nat.le_of_ble_eq_true rfl) (by decide) (by kernel_rfl) (by kernel_rfl) rfl (by simp) (by simp) ?_
 simp only [Try.f140]
 refine wseq ?_
 refine wreg fun K hK=>?_
 simp [C.impl_expOk]
 refine hK _ ?_;clear hK K
 show AWp _ _ _ _ _
 refine wseq ?_
 refine wregI ([0,1,2,3,4,5,6] ++ ([7,8,9])) rfl fun K hK=>?_
 have hJ:K ⟨ofL [(4,.bool (okE e v))],ofRO []⟩:=by
  refine hK _ ?_;clear hK K
  show AWp _ _ _ _ _
  refine wret ?_
  simp [C.impl_expOk]
 clear hK
 by_cases ha:(e.length:Int)=v
 ·refine oSg fun L hL=>?_
  simp [C.impl_expOk,ha]
  refine wcall1 (slices_ContainsFunc_int_int_c e _ (fun x=>!decide (-20<=x/\x<=20)) hx rfl (fun x _=>impl_expOk_1_c x)) (by simp) (by simp) ?_
  simp [C.impl_expOk,ha]
  refine hL _ ?_;clear hL L
  refine oEn fun L hL=>?_
  simp [C.impl_expOk,ha]
  refine hL _ ?_;clear hL L
  simp [C.impl_expOk,ha]
  refine cast (congrArg K ?_) hJ
  simp [okE,ha]
 ·refine oSg fun L hL=>?_
  simp [C.impl_expOk,ha]
  refine hL _ ?_;clear hL L
  refine oEn fun L hL=>?_
  simp [C.impl_expOk,ha]
  refine hL _ ?_;clear hL L
  simp [C.impl_expOk,ha]
  refine cast (congrArg K ?_) hJ
  simp [okE,ha]
theorem impl_coefOk_c (c:Int):ACalls Try.prog F.impl_coefOk [.int c] [] true (fun outs res=>outs=[]/\res=[.one (D.bool (decide (c≠0/\-1000000<=c/\c<=1000000)))]):=by
 refine ACalls.of_body (C:=C.impl_coefOk) (n:=Try.f141.ntmps) tabT folT Try.func141 rfl (by kernel_rfl) rfl (Nat.le_of_ble_eq_true rfl) (by decide) (by kernel_rfl) (by kernel_rfl) rfl (by simp) (by simp) ?_
 simp only [Try.f141]
 refine wseq ?_
 refine wreg fun K hK=>?_
 simp [C.impl_coefOk]
 refine hK _ ?_;clear hK K
 show AWp _ _ _ _ _
 refine wseq ?_
 refine wregI ([0,1,2,3,4] ++ ([5,6])) rfl fun K hK=>?_
 have hJ:K ⟨ofL [(2,.bool (decide (c≠0/\-1000000<=c/\c<=1000000)))],ofRO []⟩:=by
  refine hK _ ?_;clear hK K
  show AWp _ _ _ _ _
  refine wret ?_
  simp [C.impl_coefOk]
 clear hK
 by_cases ha:c=0
 ·refine oSg fun L hL=>?_
  simp [C.impl_coefOk,ha]
  refine hL _ ?_;clear hL L
  refine oEn fun L hL=>?_
  simp [C.impl_coefOk,ha]
  refine hL _ ?_;clear hL L
  simp [C.impl_coefOk,ha]
  refine cast (congrArg K ?_) hJ
  simp [ha]
 ·refine oSg fun L hL=>?_
  simp [C.impl_coefOk,ha]
  refine wcall1 (impl_within_c c (-1000000) 1000000) (by simp) (by simp) ?_
  simp [C.impl_coefOk,ha]
  refine hL _ ?_;clear hL L
  refine oEn fun L hL=>?_
  simp [C.impl_coefOk,ha]
  refine hL _ ?_;clear hL L
  simp [C.impl_coefOk,ha]
  refine cast (congrArg K ?_) hJ
  simp [ha]
theorem impl_LaurentOk_c (f:Lau) (hx:f.ts.length < 4611686018427387904) (hxe:∀ t∈f.ts,t.e.length < 4611686018427387904):ACalls Try.prog F.impl_LaurentOk [aF f] [] true (fun outs res=>outs=[]/\res=[.one (D.bool (decide (Right f)))]):=by
 refine ACalls.of_body (C:=C.impl_LaurentOk) (n:=Try.f80.ntmps) tabT folT Try.func80 rfl (by kernel_rfl) rfl (Nat.le_of_ble_eq_true rfl) (by decide) (by kernel_rfl) (by kernel_rfl) rfl (by simp) (by simp) ?_
 simp only [Try.f80]
 refine wseq ?_
 refine wreg fun K hK=>?_
 simp [C.impl_LaurentOk,fS,tS]
 refine hK _ ?_;clear hK K
 show AWp _ _ _ _ _
 refine wseq ?_
 refine wseq ?_
 refine wregI ([0,1,2] ++ ([3,4,5,6,7,8,9])) rfl fun K hK=>?_
 have hJ:K ⟨ofL [(1,.pt (1,0) [] 0),(14,.bool (decide (¬ (1<=f.v/\f.v<=8)\/600 < (f.ts.length:Int))))],ofRO [((1,0),some (.bx (fS f)))]⟩:=by
  refine hK _ ?_;clear hK K
  show AWp _ _ _ _ _
  refine wcond _ rfl (fun hc1=>?_) (fun hc1=>?_)
  ·have hh:=d_t hc1
   refine wseq ?_
   refine wreg fun K hK=>?_
   simp [C.impl_LaurentOk,fS,tS]
   refine hK _ ?_;clear hK K
   show AWp _ _ _ _ _
   refine wret ?_
   simp [C.impl_LaurentOk,fS,tS]
   intro hr;have:=hr.1;have:=hr.2.1;omega
  ·have hh0:=d_f hc1
   have hh:(1<=f.v/\f.v<=8)/\f.ts.length<=600:=by omega
   refine wskip ?_
   show AWp _ _ _ _ _
   refine wseq ?_
   refine wseq ?_
   refine wreg fun K hK=>?_
   simp [C.impl_LaurentOk,fS,tS]
   refine hK _ ?_;clear hK K
   show AWp _ _ _ _ _
   refine wblock ?_
   refine wloop (fun k:Nat=>⟨ofL [(1,.pt (1,0) [] 0),(16,.d (.sh 2 f.ts.length (rows tS f.ts))),(17,.int f.ts.length),(18,.int k)],ofRO [((1,0),some (.bx (fS f)))]⟩) (fun k=>k<=f.ts.length/\(∀ t∈f.ts.take k,Good f.v t)/\DescT (f.ts.take k)) (fun k=>f.ts.length - k) 0 (by simp [C.impl_LaurentOk,fS]) (by simp [DescT]) ?_
   intro x1 hx1 R1 hR1
   obtain ⟨hk,hgood,hdesc⟩:=hx1
   refine wseq ?_
   refine wreg fun K hK=>?_
   simp [C.impl_LaurentOk,fS,tS]
   refine hK _ ?_;clear hK K
   show AWp _ _ _ _ _
   refine wseq ?_
   refine wcond _ rfl (fun hc2=>?_) (fun hc2=>?_)
   ·have h1:x1 < f.ts.length:=by have:=d_t hc2;omega
    refine wskip ?_
    show AWp _ _ _ _ _
    refine wseq ?_
    refine wblock ?_
    refine wseq ?_
    refine wreg fun K hK=>?_
    simp [C.impl_LaurentOk,fS,tS,h1,tS_0 h1,tS_1 h1]
    refine hK _ ?_;clear hK K
    show AWp _ _ _ _ _
    refine wseq ?_
    refine wdrawI [(true,0),(true,1),(true,2),(true,3),(false,4),(true,5),(true,6),(true,7),(true,8),(false,9),(true,10),(true,11),(true,12),(true,13),(true,14),(true,15),(true,16),(true,17),(true,18),(true,19),(true,20),(true,21),(true,22),(true,23),(true,24),(false,25),(true,26),(true,27),(true,28)] ⟨by kernel_rfl,by kernel_rfl⟩ ([0,1,2,3,4] ++ ([5,6,7,8,9] ++ ([10,11,12,13,14,15,16,17,18,19,20,21,22,23,24,25] ++ ([26,27,28])))) rfl fun K hK=>?_
    have hJ:K ⟨ofL [(1,.pt (1,0) [] 0),(16,.d (.sh 2 f.ts.length (rows tS f.ts))),(17,.int f.ts.length),(18,.int x1),(51,.bool (!decide (okE f.ts[x1].e f.v=true/\(f.ts[x1].c≠0/\-1000000<=f.ts[x1].c/\f.ts[x1].c<=1000000)/\(x1=0\/lexlt f.ts[x1].e f.ts[x1 - 1].e=true))))],ofRO [((1,0),some (.bx (fS f)))]⟩:=by
     refine hK _ ?_;clear hK K
     show AWp _ _ _ _ _
     refine wcond _ rfl (fun hc3=>?_) (fun hc3=>?_)
     ·have hb:=nd_t hc3
      refine wseq ?_
      refine wreg fun K hK=>?_
      simp [C.impl_LaurentOk,fS,tS]
      refine hK _ ?_;clear hK K
      show AWp _ _ _ _ _
      refine wret ?_
      simp [C.impl_LaurentOk,fS,tS]
      intro hr
      have hg:=hr.2.2.1 _ (List.getElem_mem h1)
      exact hb ⟨okE_iff.2 ⟨hg.1,hg.2.2.2⟩,⟨hg.2.1,hg.2.2.1⟩,descT_next h1 hr.2.2.2⟩
     ·have hb:=nd_f hc3
      refine wskip ?_
      show AWp _ _ _ _ _
      refine wreg fun K hK=>?_
      simp [C.impl_LaurentOk,fS,tS,wrap_succ (show x1 < 4611686018427387904 by omega)]
      refine hK _ ?_;clear hK K
      simp [C.impl_LaurentOk,fS,tS]
      refine hR1 (x1+1) ⟨h1,?_,descT_step h1 hdesc hb.2.2⟩ (by omega)
      rw [List.take_succ_eq_append_getElem h1]
      intro t ht
      rcases List.mem_append.1 ht with ht | ht
      ·exact hgood t ht
      ·simp only [List.mem_singleton] at ht
       rw [ht]
       have ho:=okE_iff.1 hb.1
       exact ⟨ho.1,hb.2.1.1,hb.2.1.2,ho.2⟩
    clear hK
    by_cases ha:okE f.ts[x1].e f.v=true
    ·by_cases hb:f.ts[x1].c≠0/\-1000000<=f.ts[x1].c/\f.ts[x1].c<=1000000
     ·by_cases hd:0 < x1
      ·obtain ⟨m,rfl⟩:∃ m,x1=m+1:=⟨x1 - 1,by omega⟩
       have hm:m < f.ts.length:=by omega
       refine oSg fun L hL=>?_
       simp [C.impl_LaurentOk,fS,tS,hm,tS_0 hm,wrap_nat (show m < 4611686018427387904 by omega),ha,hb,hd]
       refine wcall1 (impl_expOk_c f.ts[m+1].e f.v (hxe _ (List.getElem_mem h1))) (by simp) (by simp) ?_
       simp [C.impl_LaurentOk,fS,tS,hm,tS_0 hm,wrap_nat (show m < 4611686018427387904 by omega),ha,hb,hd]
       refine hL _ ?_;clear hL L
       refine oSg fun L hL=>?_
       simp [C.impl_LaurentOk,fS,tS,hm,tS_0 hm,wrap_nat (show m < 4611686018427387904 by omega),ha,hb,hd]
       refine wcall1 (impl_coefOk_c f.ts[m+1].c) (by simp) (by simp) ?_
       simp [C.impl_LaurentOk,fS,tS,hm,tS_0 hm,wrap_nat (show m < 4611686018427387904 by omega),ha,hb,hd]
       refine hL _ ?_;clear hL L
       refine oSg fun L hL=>?_
       simp [C.impl_LaurentOk,fS,tS,hm,tS_0 hm,wrap_nat (show m < 4611686018427387904 by omega),ha,hb,hd]
       refine wcall1 (slices_Compare_int_int_c f.ts[m].e f.ts[m+1].e (hxe _ (List.getElem_mem hm))) (by simp) (by simp) ?_
       simp [C.impl_LaurentOk,fS,tS,hm,tS_0 hm,wrap_nat (show m < 4611686018427387904 by omega),ha,hb,hd]
       refine hL _ ?_;clear hL L
       refine oEn fun L hL=>?_
       simp [C.impl_LaurentOk,fS,tS,hm,tS_0 hm,wrap_nat (show m < 4611686018427387904 by omega),ha,hb,hd]
       refine hL _ ?_;clear hL L
       simp [C.impl_LaurentOk,fS,tS,hm,tS_0 hm,wrap_nat (show m < 4611686018427387904 by omega),ha,hb,hd]
       refine cast (congrArg K ?_) hJ
       simp [cmpL_pos,fS,tS,ha,hb,hd]
      ·obtain rfl:x1=0:=by omega
       refine oSg fun L hL=>?_
       simp [C.impl_LaurentOk,fS,tS,ha,hb,hd]
       refine wcall1 (impl_expOk_c f.ts[0].e f.v (hxe _ (List.getElem_mem h1))) (by simp) (by simp) ?_
       simp [C.impl_LaurentOk,fS,tS,ha,hb,hd]
       refine hL _ ?_;clear hL L
       refine oSg fun L hL=>?_
       simp [C.impl_LaurentOk,fS,tS,ha,hb,hd]
       refine wcall1 (impl_coefOk_c f.ts[0].c) (by simp) (by simp) ?_
       simp [C.impl_LaurentOk,fS,tS,ha,hb,hd]
       refine hL _ ?_;clear hL L
       refine oSg fun L hL=>?_
       simp [C.impl_LaurentOk,fS,tS,ha,hb,hd]
       refine hL _ ?_;clear hL L
       refine oEn fun L hL=>?_
       simp [C.impl_LaurentOk,fS,tS,ha,hb,hd]
       refine hL _ ?_;clear hL L
       simp [C.impl_LaurentOk,fS,tS,ha,hb,hd]
       refine cast (congrArg K ?_) hJ
       simp [fS,tS,ha,hb,hd]
     ·refine oSg fun L hL=>?_
      simp [C.impl_LaurentOk,fS,tS,ha,hb]
      refine wcall1 (impl_expOk_c f.ts[x1].e f.v (hxe _ (List.getElem_mem h1))) (by simp) (by simp) ?_
      simp [C.impl_LaurentOk,fS,tS,ha,hb]
      refine hL _ ?_;clear hL L
      refine oSg fun L hL=>?_
      simp [C.impl_LaurentOk,fS,tS,ha,hb]
      refine wcall1 (impl_coefOk_c f.ts[x1].c) (by simp) (by simp) ?_
      simp [C.impl_LaurentOk,fS,tS,ha,hb]
      refine hL _ ?_;clear hL L
      refine oSg fun L hL=>?_
      simp [C.impl_LaurentOk,fS,tS,ha,hb]
      refine hL _ ?_;clear hL L
      refine oEn fun L hL=>?_
      simp [C.impl_LaurentOk,fS,tS,ha,hb]
      refine hL _ ?_;clear hL L
      simp [C.impl_LaurentOk,fS,tS,ha,hb]
      refine cast (congrArg K ?_) hJ
      simp [fS,tS,ha,hb]
    ·refine oSg fun L hL=>?_
     simp [C.impl_LaurentOk,fS,tS,ha]
     refine wcall1 (impl_expOk_c f.ts[x1].e f.v (hxe _ (List.getElem_mem h1))) (by simp) (by simp) ?_
     simp [C.impl_LaurentOk,fS,tS,ha]
     refine hL _ ?_;clear hL L
     refine oSg fun L hL=>?_
     simp [C.impl_LaurentOk,fS,tS,ha]
     refine hL _ ?_;clear hL L
     refine oSg fun L hL=>?_
     simp [C.impl_LaurentOk,fS,tS,ha]
     refine hL _ ?_;clear hL L
     refine oEn fun L hL=>?_
     simp [C.impl_LaurentOk,fS,tS,ha]
     refine hL _ ?_;clear hL L
     simp [C.impl_LaurentOk,fS,tS,ha]
     refine cast (congrArg K ?_) hJ
     simp [fS,tS,ha]
   ·have h2:x1=f.ts.length:=by have:=d_f hc2;omega
    refine wexit ?_
    show AWp _ _ _ _ _
    refine wseq ?_
    refine wreg fun K hK=>?_
    simp [C.impl_LaurentOk,fS,tS]
    refine hK _ ?_;clear hK K
    show AWp _ _ _ _ _
    refine wret ?_
    simp [C.impl_LaurentOk,fS,tS]
    rw [h2,List.take_length] at hgood hdesc
    exact ⟨hh.1,hh.2,hgood,hdesc⟩
 clear hK
 by_cases ha:1<=f.v/\f.v<=8
 ·refine oSg fun L hL=>?_
  simp [C.impl_LaurentOk,fS,tS,ha]
  refine wcall1 (impl_within_c f.v 1 8) (by simp) (by simp) ?_
  simp [C.impl_LaurentOk,fS,tS,ha]
  refine hL _ ?_;clear hL L
  refine oEn fun L hL=>?_
  simp [C.impl_LaurentOk,fS,tS,ha]
  refine hL _ ?_;clear hL L
  simp [C.impl_LaurentOk,fS,tS,ha]
  refine cast (congrArg K ?_) hJ
  simp [fS,tS,ha]
 ·refine oSg fun L hL=>?_
  simp [C.impl_LaurentOk,fS,tS,ha]
  refine wcall1 (impl_within_c f.v 1 8) (by simp) (by simp) ?_
  simp [C.impl_LaurentOk,fS,tS,ha]
  refine hL _ ?_;clear hL L
  refine oEn fun L hL=>?_
  simp [C.impl_LaurentOk,fS,tS,ha]
  refine hL _ ?_;clear hL L
  simp [C.impl_LaurentOk,fS,tS,ha]
  refine cast (congrArg K ?_) hJ
  simp [fS,tS,ha]
theorem impl_bothOk_c (f g:Lau) (hx:f.ts.length < 4611686018427387904) (hxe:∀ t∈f.ts,t.e.length < 4611686018427387904) (hy:g.ts.length < 4611686018427387904) (hye:∀ t∈g.ts,t.e.length < 4611686018427387904):ACalls Try.prog F.impl_bothOk [aF f,aF g] [] true (fun outs res=>outs=[]/\res=[.one (D.bool (decide (Right f/\Right g/\f.v=g.v)))]):=by
 refine ACalls.of_body (C:=C.impl_bothOk) (n:=Try.f128.ntmps) tabT folT Try.func128 rfl (by kernel_rfl) rfl (Nat.le_of_ble_eq_true rfl) (by decide) (by kernel_rfl) (by kernel_rfl) rfl (by simp) (by simp) ?_
 simp only [Try.f128]
 refine wseq ?_
 refine wreg fun K hK=>?_
 simp [C.impl_bothOk,fS]
 refine hK _ ?_;clear hK K
 show AWp _ _ _ _ _
 refine wseq ?_
 refine wregI ([0,1] ++ ([2,3,4] ++ ([5,6,7,8,9,10,11,12,13]))) rfl fun K hK=>?_
 have hJ:K ⟨ofL [(4,.bool (decide (Right f/\Right g/\f.v=g.v)))],ofRO []⟩:=by
  refine hK _ ?_;clear hK K
  show AWp _ _ _ _ _
  refine wret ?_
  simp [C.impl_bothOk,fS]
 clear hK
 by_cases ha:Right f
 ·by_cases hb:Right g
  ·refine oSg fun L hL=>?_
   simp [C.impl_bothOk,fS,ha,hb]
   refine wcall1 (impl_LaurentOk_c f hx hxe) (by simp) (by simp) ?_
   simp [C.impl_bothOk,fS,ha,hb]
   refine hL _ ?_;clear hL L
   refine oSg fun L hL=>?_
   simp [C.impl_bothOk,fS,ha,hb]
   refine wcall1 (impl_LaurentOk_c g hy hye) (by simp) (by simp) ?_
   simp [C.impl_bothOk,fS,ha,hb]
   refine hL _ ?_;clear hL L
   refine oEn fun L hL=>?_
   simp [C.impl_bothOk,fS,ha,hb]
   refine hL _ ?_;clear hL L
   simp [C.impl_bothOk,fS,ha,hb]
   refine cast (congrArg K ?_) hJ
   simp [ibeq,fS,ha,hb]
  ·refine oSg fun L hL=>?_
   simp [C.impl_bothOk,fS,ha,hb]
   refine wcall1 (impl_LaurentOk_c f hx hxe) (by simp) (by simp) ?_
   simp [C.impl_bothOk,fS,ha,hb]
   refine hL _ ?_;clear hL L
   refine oSg fun L hL=>?_
   simp [C.impl_bothOk,fS,ha,hb]
   refine wcall1 (impl_LaurentOk_c g hy hye) (by simp) (by simp) ?_
   simp [C.impl_bothOk,fS,ha,hb]
   refine hL _ ?_;clear hL L
   refine oEn fun L hL=>?_
   simp [C.impl_bothOk,fS,ha,hb]
   refine hL _ ?_;clear hL L
   simp [C.impl_bothOk,fS,ha,hb]
   refine cast (congrArg K ?_) hJ
   simp [ibeq,fS,ha,hb]
 ·refine oSg fun L hL=>?_
  simp [C.impl_bothOk,fS,ha]
  refine wcall1 (impl_LaurentOk_c f hx hxe) (by simp) (by simp) ?_
  simp [C.impl_bothOk,fS,ha]
  refine hL _ ?_;clear hL L
  refine oSg fun L hL=>?_
  simp [C.impl_bothOk,fS,ha]
  refine hL _ ?_;clear hL L
  refine oEn fun L hL=>?_
  simp [C.impl_bothOk,fS,ha]
  refine hL _ ?_;clear hL L
  simp [C.impl_bothOk,fS,ha]
  refine cast (congrArg K ?_) hJ
  simp [ibeq,fS,ha]
end Go.Proofs.Ytfcgcgmleogamaa.Ab
namespace Go.Proofs.Ytfcgcgmleogamaa.Ab
open Go
set_option maxRecDepth 10000
set_option maxHeartbeats 2000000
attribute [local simp] mapKV flatInt tileB
def pad (e:List Int):List Int:=e ++ List.replicate (8 - e.length) 0
theorem pad_length {e:List Int} (h:e.length<=8):(pad e).length=8:=by
 unfold pad
 simp
 omega
theorem eight {l:List Int} (h:l.length=8):∃ a b c d e f g k,l=[a,b,c,d,e,f,g,k]:=by
 match l,h with
 | [a,b,c,d,e,f,g,k],_=>exact ⟨a,b,c,d,e,f,g,k,rfl⟩
def madd (es:List (List Int×Int)) (k:List Int) (c:Int):List (List Int×Int):=
 if c+(mget k es).getD 0=0 then mdel k es else mset k (c+(mget k es).getD 0) es
theorem impl_keyOf_c (e:List Int) (he:e.length<=8) (k0 k1 k2 k3 k4 k5 k6 k7:Int) (hk:pad e=[k0,k1,k2,k3,k4,k5,k6,k7]):ACalls Try.prog F.impl_keyOf [.d (shI e)] [] true (fun outs res=>outs=[]/\res=[.ag [D.int k0,D.int k1,D.int k2,D.int k3,D.int k4,D.int k5,D.int k6,D.int k7]]):=by
 refine ACalls.of_body (C:=C.impl_keyOf) (n:=Try.f132.ntmps) tabT folT Try.func132 rfl (by kernel_rfl) rfl (Nat.le_of_ble_eq_true rfl) (by decide) (by kernel_rfl) (by kernel_rfl) rfl (by simp) (by simp) ?_
 simp only [Try.f132]
 refine wseq ?_
 refine wreg fun K hK=>?_
 simp [C.impl_keyOf]
 refine hK _ ?_;clear hK K
 show AWp _ _ _ _ _
 refine wseq ?_
 refine wreg fun K hK=>?_
 simp [C.impl_keyOf]
 refine hK _ ?_;clear hK K
 show AWp _ _ _ _ _
 refine wseq ?_
 have hcp:ints (e.take (min e.length 8)) ++ List.drop (min e.length 8) [D.int 0,D.int 0,D.int 0,D.int 0,D.int 0,D.int 0,D.int 0,D.int 0]=[D.int k0,D.int k1,D.int k2,D.int k3,D.int k4,D.int k5,D.int k6,D.int k7]:=by
  have hz:([D.int 0,D.int 0,D.int 0,D.int 0,D.int 0,D.int 0,D.int 0,D.int 0]:List D)=ints (List.replicate 8 0):=rfl
  rw [hz,Nat.min_eq_left he,List.take_length,ints_drop,ints_append,List.drop_replicate]
  show ints (pad e)=_
  rw [hk]
  rfl
 refine wreg fun K hK=>?_
 simp [C.impl_keyOf]
 rw [hcp]
 refine hK _ ?_;clear hK K
 show AWp _ _ _ _ _
 refine wseq ?_
 refine wreg fun K hK=>?_
 simp [C.impl_keyOf]
 refine hK _ ?_;clear hK K
 show AWp _ _ _ _ _
 refine wret ?_
 simp [C.impl_keyOf]
theorem impl_newBuilding_c (v:Int):ACalls Try.prog F.impl_newBuilding [.int v] [] true (fun outs res=>outs=[]/\res=[.one (.bx [D.int v,.mp []])]):=by
 refine ACalls.of_body (C:=C.impl_newBuilding) (n:=Try.f129.ntmps) tabT folT Try.func129 rfl (by kernel_rfl) rfl (Nat.le_of_ble_eq_true rfl) (by decide) (by kernel_rfl) (by kernel_rfl) rfl (by simp) (by simp) ?_
 simp only [Try.f129]
 refine wseq ?_
 refine wreg fun K hK=>?_
 simp [C.impl_newBuilding]
 refine hK _ ?_;clear hK K
 show AWp _ _ _ _ _
 refine wseq ?_
 refine wreg fun K hK=>?_
 simp [C.impl_newBuilding]
 refine hK _ ?_;clear hK K
 show AWp _ _ _ _ _
 refine wret ?_
 simp [C.impl_newBuilding]
theorem impl_building_add_c (v c:Int) (es:List (List Int×Int)) (k0 k1 k2 k3 k4 k5 k6 k7:Int) (hes:mapLen 8 es) (hw:-9223372036854775808<=c+(mget [k0,k1,k2,k3,k4,k5,k6,k7] es).getD 0/\c+(mget [k0,k1,k2,k3,k4,k5,k6,k7] es).getD 0 < 9223372036854775808):ACalls Try.prog F.impl_building_add [.pt (0,0) [] 0,.ag [.int k0,.int k1,.int k2,.int k3,.int k4,.int k5,.int k6,.int k7],.int c] [((0,0),.bx [D.int v,.mp es])] true (fun outs res=>outs=[.bx [D.int v,.mp (madd es [k0,k1,k2,k3,k4,k5,k6,k7] c)]]/\res=[]):=by
 refine ACalls.of_body (C:=C.impl_building_add) (n:=Try.f130.ntmps) tabT folT Try.func130 rfl (by kernel_rfl) rfl (Nat.le_of_ble_eq_true rfl) (by decide) (by kernel_rfl) (by kernel_rfl) rfl (by simp) (by simp) ?_
 simp only [Try.f130]
 refine wseq ?_
 refine wreg fun K hK=>?_
 simp [C.impl_building_add]
 refine hK _ ?_;clear hK K
 show AWp _ _ _ _ _
 refine wseq ?_
 refine wdraw (.take 0 (.take 1 (.take 2 (.take 3 (.take 4 (.take 5 (.take 6 (.take 7 (.take 8 (.done)))))))))) ⟨by kernel_rfl,by kernel_rfl⟩ fun K hK=>?_
 simp [C.impl_building_add,hes]
 rw [wrapOk (x:=c+(mget [k0,k1,k2,k3,k4,k5,k6,k7] es).getD 0) hw.1 hw.2]
 refine hK _ ?_;clear hK K
 show AWp _ _ _ _ _
 refine wseq ?_
 refine wreg fun K hK=>?_
 simp [C.impl_building_add]
 refine hK _ ?_;clear hK K
 show AWp _ _ _ _ _
 refine wcond _ rfl (fun hc1=>?_) (fun hc1=>?_)
 ·have hz:c+(mget [k0,k1,k2,k3,k4,k5,k6,k7] es).getD 0=0:=by simpa using hc1
  refine wdraw (.take 0 (.take 1 (.take 2 (.take 3 (.take 4 (.all [(5,.done)])))))) ⟨by kernel_rfl,by kernel_rfl⟩ fun K hK=>?_
  simp [C.impl_building_add,hes]
  refine hK _ ?_;clear hK K
  simp [C.impl_building_add,madd,hz]
 ·have hz:¬ c+(mget [k0,k1,k2,k3,k4,k5,k6,k7] es).getD 0=0:=by simpa using hc1
  refine wdraw (.take 0 (.take 1 (.take 2 (.take 3 (.take 4 (.take 5 (.all [(6,.done)]))))))) ⟨by kernel_rfl,by kernel_rfl⟩ fun K hK=>?_
  simp [C.impl_building_add,hes]
  refine hK _ ?_;clear hK K
  simp [C.impl_building_add,madd,hz]
theorem impl_plusExp_c (t:Int) (a0 a1 a2 a3 a4 a5 a6 a7 b0 b1 b2 b3 b4 b5 b6 b7:Int) (ht:-1<=t/\t<=1) (ha:∀ x∈[a0,a1,a2,a3,a4,a5,a6,a7],-1000000<=x/\x<=1000000) (hb:∀ x∈[b0,b1,b2,b3,b4,b5,b6,b7],-1000000<=x/\x<=1000000):ACalls Try.prog F.impl_plusExp [.ag [.int a0,.int a1,.int a2,.int a3,.int a4,.int a5,.int a6,.int a7],.int t,.ag [.int b0,.int b1,.int b2,.int b3,.int b4,.int b5,.int b6,.int b7]] [] true (fun outs res=>outs=[]/\res=[.ag [D.int (a0+t*b0),D.int (a1+t*b1),D.int (a2+t*b2),D.int (a3+t*b3),D.int (a4+t*b4),D.int (a5+t*b5),D.int (a6+t*b6),D.int (a7+t*b7)]]):=by
 refine ACalls.of_body (C:=C.impl_plusExp) (n:=Try.f131.ntmps) tabT folT Try.func131 rfl (by kernel_rfl) rfl (Nat.le_of_ble_eq_true rfl) (by decide) (by kernel_rfl) (by kernel_rfl) rfl (by simp) (by simp) ?_
 simp only [Try.f131]
 refine wseq ?_
 refine wreg fun K hK=>?_
 simp [C.impl_plusExp]
 refine hK _ ?_;clear hK K
 show AWp _ _ _ _ _
 refine wseq ?_
 refine wseq ?_
 refine wreg fun K hK=>?_
 simp [C.impl_plusExp]
 refine hK _ ?_;clear hK K
 show AWp _ _ _ _ _
 refine wblock ?_
 refine wloop (fun x:Nat×List Int=>⟨ofL [(1,.int t),(3,.pt (3,0) [] 0),(5,.pt (5,0) [] 0),(6,.pt (6,0) [] 0),(8,.int x.1)],ofRO [((3,0),some (.bx (ints x.2))),((5,0),some (.bx (ints [b0,b1,b2,b3,b4,b5,b6,b7]))),((6,0),some (.bx (ints [0,0,0,0,0,0,0,0])))]⟩) (fun x=>x.1<=8/\x.2=addE t ([a0,a1,a2,a3,a4,a5,a6,a7].take x.1) ([b0,b1,b2,b3,b4,b5,b6,b7].take x.1) ++ [a0,a1,a2,a3,a4,a5,a6,a7].drop x.1) (fun x=>8 - x.1) (0,[a0,a1,a2,a3,a4,a5,a6,a7]) (by simp [C.impl_plusExp,ints]) (by simp [addE]) ?_
 intro x1 hx1 R1 hR1
 obtain ⟨i,gs⟩:=x1
 obtain ⟨hi,hg⟩:=hx1
 dsimp only at hi hg ⊢
 refine wseq ?_
 refine wreg fun K hK=>?_
 simp [C.impl_plusExp]
 refine hK _ ?_;clear hK K
 show AWp _ _ _ _ _
 refine wseq ?_
 refine wcond _ rfl (fun hc1=>?_) (fun hc1=>?_)
 ·have h1:i < 8:=by have:=d_t hc1;omega
  have hgl:gs.length=8:=by
   rw [hg]
   simp [addE_length]
   omega
  have h2:i < gs.length:=by omega
  have h3:i < [b0,b1,b2,b3,b4,b5,b6,b7].length:=by simpa using h1
  have h4:i < [a0,a1,a2,a3,a4,a5,a6,a7].length:=by simpa using h1
  have hge:gs[i]=[a0,a1,a2,a3,a4,a5,a6,a7][i]:=by
   have:=addE_get (t:=t) h4 (show [a0,a1,a2,a3,a4,a5,a6,a7].length=[b0,b1,b2,b3,b4,b5,b6,b7].length from rfl)
   rw [<-hg,List.getElem?_eq_getElem h2] at this
   injection this
  have hA:=ha _ (List.getElem_mem h4)
  have hB:=hb _ (List.getElem_mem h3)
  generalize hbi:[b0,b1,b2,b3,b4,b5,b6,b7][i]=B at hB
  generalize hai:[a0,a1,a2,a3,a4,a5,a6,a7][i]=A at hA hge
  have htb:-1000000<=t*B/\t*B<=1000000:=by
   rcases (show t=-1\/t=0\/t=1 by omega) with rfl | rfl | rfl <;> omega
  refine wskip ?_
  show AWp _ _ _ _ _
  refine wseq ?_
  refine wblock ?_
  refine wseq ?_
  refine wreg fun K hK=>?_
  simp [C.impl_plusExp]
  refine hK _ ?_;clear hK K
  show AWp _ _ _ _ _
  refine wdraw (.take 0 (.take 1 (.take 2 (.take 3 (.take 4 (.take 5 (.take 6 (.take 7 (.take 8 (.take 9 (.all [(10,.done)]))))))))))) ⟨by kernel_rfl,by kernel_rfl⟩ fun K hK=>?_
  simp [C.impl_plusExp,show ((i:Int) < 8) by omega,h1,hgl,get_ints]
  rw [hbi,hge,wrapOk (x:=t*B) (by omega) (by omega),wrapOk (x:=A+t*B) (by omega) (by omega)]
  refine hK _ ?_;clear hK K
  show AWp _ _ _ _ _
  refine wreg fun K hK=>?_
  simp [C.impl_plusExp,wrap_succ (show i < 4611686018427387904 by omega)]
  refine hK _ ?_;clear hK K
  simp [C.impl_plusExp]
  refine hR1 (i+1,_) ⟨h1,?_⟩ (by dsimp only;omega)
  dsimp only
  rw [hg,<-hai,<-hbi]
  exact addE_step (bs:=[b0,b1,b2,b3,b4,b5,b6,b7]) h4 rfl
 ·have h1:i=8:=by have:=d_f hc1;omega
  subst h1
  have hg2:gs=[a0+t*b0,a1+t*b1,a2+t*b2,a3+t*b3,a4+t*b4,a5+t*b5,a6+t*b6,a7+t*b7]:=by rw [hg];rfl
  subst hg2
  refine wexit ?_
  show AWp _ _ _ _ _
  refine wseq ?_
  refine wreg fun K hK=>?_
  simp [C.impl_plusExp,ints]
  refine hK _ ?_;clear hK K
  show AWp _ _ _ _ _
  refine wret ?_
  simp [C.impl_plusExp]
end Go.Proofs.Ytfcgcgmleogamaa.Ab
namespace Go.Proofs.Ytfcgcgmleogamaa.Ab
open Go
set_option maxRecDepth 10000
set_option maxHeartbeats 2000000
def MulOk:Prop:=∀ f g:Lau,f.ts.length < 4611686018427387904->(∀ t∈f.ts,t.e.length < 4611686018427387904)->g.ts.length < 4611686018427387904->(∀ t∈g.ts,t.e.length < 4611686018427387904) ->
 ACalls Try.prog F.impl_MulLaurents [aF f,aF g] [] true (fun outs res=>outs=[]/\res=[.ag (fO (mulF f g).1),.one (D.bool (mulF f g).2)])
theorem impl_ConstantLaurent_c (n:Nat) (hn:1<=n/\n<=8):ACalls Try.prog F.impl_ConstantLaurent [.int n,.int 1] [] true (fun outs res=>outs=[]/\res=[.ag (fO (oneF n))]):=by
 refine ACalls.of_body (C:=C.impl_ConstantLaurent) (n:=Try.f137.ntmps) tabT folT Try.func137 rfl (by kernel_rfl) rfl (Nat.le_of_ble_eq_true rfl) (by decide) (by kernel_rfl) (by kernel_rfl) rfl (by simp) (by simp) ?_
 simp only [Try.f137]
 refine wseq ?_
 refine wreg fun K hK=>?_
 simp [C.impl_ConstantLaurent]
 refine hK _ ?_;clear hK K
 show AWp _ _ _ _ _
 refine wseq ?_
 refine wseq ?_
 refine wregI ([0,1] ++ ([2,3,4,5] ++ ([6,7]))) rfl fun K hK=>?_
 refine oSg fun L hL=>?_
 simp [C.impl_ConstantLaurent,show (1<=(n:Int)) by omega,show ((n:Int)<=8) by omega]
 refine wcall1 (impl_within_c n 1 8) (by simp) (by simp) ?_
 simp [C.impl_ConstantLaurent,show (1<=(n:Int)) by omega,show ((n:Int)<=8) by omega]
 refine hL _ ?_;clear hL L
 refine oSg fun L hL=>?_
 simp [C.impl_ConstantLaurent,show (1<=(n:Int)) by omega,show ((n:Int)<=8) by omega]
 refine wcall1 (impl_within_c 1 (-1000000) 1000000) (by simp) (by simp) ?_
 simp [C.impl_ConstantLaurent,show (1<=(n:Int)) by omega,show ((n:Int)<=8) by omega]
 refine hL _ ?_;clear hL L
 refine oEn fun L hL=>?_
 simp [C.impl_ConstantLaurent,show (1<=(n:Int)) by omega,show ((n:Int)<=8) by omega]
 refine hL _ ?_;clear hL L
 simp [C.impl_ConstantLaurent,show (1<=(n:Int)) by omega,show ((n:Int)<=8) by omega]
 refine hK _ ?_;clear hK K
 show AWp _ _ _ _ _
 refine wcond _ rfl (fun hc1=>?_) (fun hc1=>?_)
 ·simp at hc1
 ·refine wskip ?_
  show AWp _ _ _ _ _
  refine wseq ?_
  refine wseq ?_
  refine wreg fun K hK=>?_
  simp [C.impl_ConstantLaurent]
  refine hK _ ?_;clear hK K
  show AWp _ _ _ _ _
  refine wcond _ rfl (fun hc2=>?_) (fun hc2=>?_)
  ·simp at hc2
  ·refine wskip ?_
   show AWp _ _ _ _ _
   refine wseq ?_
   refine wreg fun K hK=>?_
   simp [C.impl_ConstantLaurent,zeros_ints,show (8:Int)*n<=281474976710656 by omega,show (n:Int)<=281474976710656 by omega]
   refine hK _ ?_;clear hK K
   show AWp _ _ _ _ _
   refine wret ?_
   simp [C.impl_ConstantLaurent,fO,oneF,rows,tO]
end Go.Proofs.Ytfcgcgmleogamaa.Ab
namespace Go.Proofs.Ytfcgcgmleogamaa.Ab
open Go
theorem pad_inj {a b:List Int} (h:a.length=b.length) (e:pad a=pad b):a=b:=by
 unfold pad at e
 rw [h] at e
 exact List.append_cancel_right e
theorem pad_take {e:List Int}:(pad e).take e.length=e:=by
 unfold pad
 exact List.take_left
theorem mget_none {k:List Int}:∀ {es:List (List Int×Int)},(∀ x∈es,x.1≠k)->mget k es=none
 | [],_=>rfl
 | x :: es,h=>by
  simp only [mget]
  rw [if_neg (h x (by simp))]
  exact mget_none fun y hy=>h y (by simp [hy])
theorem mget_mset {k q:List Int} {v:Int}:∀ (es:List (List Int×Int)),mget q (mset k v es)=if k=q then some v else mget q es
 | []=>by simp [mset,mget]
 | x :: es=>by
  simp only [mset]
  split
  ·rename_i e
   subst e
   simp only [mget]
   split <;> rfl
  ·rename_i e
   simp only [mget,mget_mset es]
   by_cases h1:x.1=q
   ·rw [if_pos h1,if_neg (fun h2=>e (h1.trans h2.symm)),if_pos h1]
   ·rw [if_neg h1,if_neg h1]
theorem mget_mdel {k q:List Int}:∀ (es:List (List Int×Int)),(es.map (·.1)).Nodup->mget q (mdel k es)=if k=q then none else mget q es
 | [],_=>by simp [mdel,mget]
 | x :: es,h=>by
  simp only [List.map_cons,List.nodup_cons] at h
  simp only [mdel]
  split
  ·rename_i e
   subst e
   by_cases h1:x.1=q
   ·rw [if_pos h1]
    exact mget_none fun y hy e2=>h.1 (by rw [h1,<-e2];exact List.mem_map.2 ⟨y,hy,rfl⟩)
   ·rw [if_neg h1]
    simp only [mget]
    rw [if_neg h1]
  ·rename_i e
   simp only [mget,mget_mdel es h.2]
   by_cases h1:x.1=q
   ·rw [if_pos h1,if_neg (fun h2=>e (h1.trans h2.symm)),if_pos h1]
   ·rw [if_neg h1,if_neg h1]
theorem mset_mem {k:List Int} {v:Int}:∀ {es:List (List Int×Int)} {x:List Int×Int},x∈mset k v es->x=(k,v)\/x∈es
 | [],x,h=>by
  simp only [mset,List.mem_singleton] at h
  exact .inl h
 | y :: es,x,h=>by
  simp only [mset] at h
  split at h
  ·rcases List.mem_cons.1 h with h | h
   ·exact .inl h
   ·exact .inr (by simp [h])
  ·rcases List.mem_cons.1 h with h | h
   ·exact .inr (by simp [h])
   ·rcases mset_mem h with h | h
    ·exact .inl h
    ·exact .inr (by simp [h])
theorem mdel_mem {k:List Int}:∀ {es:List (List Int×Int)} {x:List Int×Int},x∈mdel k es->x∈es
 | [],x,h=>by simp [mdel] at h
 | y :: es,x,h=>by
  simp only [mdel] at h
  split at h
  ·simp [h]
  ·rcases List.mem_cons.1 h with h | h
   ·simp [h]
   ·simp [mdel_mem h]
theorem mset_nodup {k:List Int} {v:Int}:∀ {es:List (List Int×Int)},(es.map (·.1)).Nodup->((mset k v es).map (·.1)).Nodup
 | [],_=>by simp [mset]
 | y :: es,h=>by
  simp only [List.map_cons,List.nodup_cons] at h
  simp only [mset]
  split
  ·rename_i e
   simp only [List.map_cons,List.nodup_cons]
   rw [<-e]
   exact h
  ·rename_i e
   simp only [List.map_cons,List.nodup_cons]
   refine ⟨fun hm=>?_,mset_nodup h.2⟩
   obtain ⟨z,hz,e2⟩:=List.mem_map.1 hm
   rcases mset_mem hz with rfl | hz
   ·exact e e2.symm
   ·exact h.1 (List.mem_map.2 ⟨z,hz,e2⟩)
theorem mdel_nodup {k:List Int}:∀ {es:List (List Int×Int)},(es.map (·.1)).Nodup->((mdel k es).map (·.1)).Nodup
 | [],_=>by simp [mdel]
 | y :: es,h=>by
  simp only [List.map_cons,List.nodup_cons] at h
  simp only [mdel]
  split
  ·exact h.2
  ·simp only [List.map_cons,List.nodup_cons]
   refine ⟨fun hm=>?_,mdel_nodup h.2⟩
   obtain ⟨z,hz,e2⟩:=List.mem_map.1 hm
   exact h.1 (List.mem_map.2 ⟨z,mdel_mem hz,e2⟩)
structure MapR (n:Nat) (es l:List (List Int×Int)):Prop where
 nod:(es.map (·.1)).Nodup
 nz:∀ x∈es,x.2≠0/\∃ e,e.length=n/\x.1=pad e
 val:∀ e,e.length=n->(mget (pad e) es).getD 0=co e l
theorem MapR.nil (n:Nat):MapR n [] []:=⟨by simp,by simp,fun e _=>rfl⟩
theorem MapR.add {n:Nat} {es l:List (List Int×Int)} (h:MapR n es l) {e:List Int} (he:e.length=n) (c:Int):MapR n (madd es (pad e) c) ((e,c) :: l):=by
 have hv:=h.val e he
 unfold madd
 split
 ·rename_i hz
  refine ⟨mdel_nodup h.nod,fun x hx=>h.nz x (mdel_mem hx),fun q hq=>?_⟩
  rw [mget_mdel _ h.nod]
  by_cases e1:e=q
  ·subst e1
   rw [if_pos rfl]
   simp only [co,if_true,Option.getD_none]
   omega
  ·rw [if_neg (fun e2=>e1 (pad_inj (he.trans hq.symm) e2)),h.val q hq]
   simp [co,e1]
 ·rename_i hz
  refine ⟨mset_nodup h.nod,fun x hx=>?_,fun q hq=>?_⟩
  ·rcases mset_mem hx with rfl | hx
   ·exact ⟨hz,e,he,rfl⟩
   ·exact h.nz x hx
  ·rw [mget_mset]
   by_cases e1:e=q
   ·subst e1
    rw [if_pos rfl]
    simp only [co,if_true,Option.getD_some]
    omega
   ·rw [if_neg (fun e2=>e1 (pad_inj (he.trans hq.symm) e2)),h.val q hq]
    simp [co,e1]
theorem MapR.len8 {n:Nat} {es l:List (List Int×Int)} (h:MapR n es l) (hn:n<=8):mapLen 8 es:=fun x hx=>by
 obtain ⟨_,e,he,e2⟩:=h.nz x hx
 rw [e2]
 exact pad_length (by omega)
def unpadT (n:Nat) (x:List Int×Int):List Int×Int:=(x.1.take n,x.2)
theorem unpad_co {n:Nat} {es l:List (List Int×Int)} (h:MapR n es l) (hl:∀ x∈l,x.1.length=n):∀ q,co q (es.map (unpadT n))=co q l:=by
 intro q
 by_cases hq:q.length=n
 ·rw [<-h.val q hq]
  have:∀ (es:List (List Int×Int)),(es.map (·.1)).Nodup->(∀ x∈es,∃ e,e.length=n/\x.1=pad e)->co q (es.map (unpadT n))=(mget (pad q) es).getD 0:=by
   intro es
   induction es with
   | nil=>intro _ _;rfl
   | cons x es ih=>
    intro hn hp
    simp only [List.map_cons,List.nodup_cons] at hn
    obtain ⟨e,he,e2⟩:=hp x (by simp)
    have ht:(unpadT n x).1=e:=by
     simp only [unpadT]
     rw [e2,<-he]
     exact pad_take
    simp only [List.map_cons,co,mget]
    rw [ih hn.2 fun y hy=>hp y (by simp [hy]),ht]
    by_cases e3:e=q
    ·subst e3
     rw [if_pos rfl,if_pos e2,mget_none fun y hy e4=>hn.1 (by rw [e2,<-e4];exact List.mem_map.2 ⟨y,hy,rfl⟩)]
     simp [unpadT]
    ·rw [if_neg e3,if_neg (fun e4=>e3 (pad_inj (he.trans hq.symm) (e2.symm.trans e4)))]
     simp
  exact this es h.nod fun x hx=>(h.nz x hx).2
 ·rw [co_none q l fun x hx e=>hq (e ▸ hl x hx),co_none q _ fun x hx e=>hq ?_]
  obtain ⟨y,hy,rfl⟩:=List.mem_map.1 hx
  obtain ⟨_,e',he',e2⟩:=h.nz y hy
  rw [<-e]
  simp only [unpadT]
  rw [e2,<-he',pad_take]
theorem unpad_nf {n:Nat} {es l t:List (List Int×Int)} (h:MapR n es l) (hl:∀ x∈l,x.1.length=n) (hp:t.Perm (es.map (unpadT n))) (hd:Desc lexlt t):t=nf lexlt l:=by
 refine nf_unique lexOrd hd (fun x hx=>?_) fun k=>by rw [co_perm k hp,unpad_co h hl]
 obtain ⟨y,hy,rfl⟩:=List.mem_map.1 (hp.mem_iff.1 hx)
 exact (h.nz y hy).1
end Go.Proofs.Ytfcgcgmleogamaa.Ab
namespace Go.Proofs.Ytfcgcgmleogamaa.Ab
open Go
set_option maxRecDepth 10000
set_option maxHeartbeats 2000000
def DoneOk:Prop:=∀ (n:Nat) (es l:List (List Int×Int)),MapR n es l->(∀ x∈l,x.1.length=n)->1<=n->n<=8->l.length<=1000000 ->
 ACalls Try.prog F.impl_building_done [.pt (0,0) [] 0] [((0,0),.bx [D.int n,.mp es])] true (fun outs res=>outs=[.bx [D.int n,.mp es]]/\res=[.ag (fO (shutF n l).1),.one (D.bool (shutF n l).2)])
theorem pad_add {a b:List Int} (h:a.length=b.length) (k:Int):addE k (pad a) (pad b)=pad (addE k a b):=by
 unfold pad
 rw [addE_length _ _ _ h,<-h]
 generalize 8 - a.length=m
 induction a generalizing b with
 | nil=>cases b with
  | nil=>
   simp only [addE,List.nil_append]
   induction m with
   | zero=>rfl
   | succ m ih=>simp [List.replicate_succ,addE,ih]
  | cons y b=>simp at h
 | cons x a ih=>cases b with
  | nil=>simp at h
  | cons y b=>simp [addE,ih (by simpa using h)]
def absE (l:List (List Int×Int)):Nat:=(l.map fun x=>x.2.natAbs).sum
theorem co_abs (k:List Int):∀ l:List (List Int×Int),(co k l).natAbs<=absE l
 | []=>by simp [co]
 | x :: l=>by
  have:=co_abs k l
  simp only [co,absE,List.map_cons,List.sum_cons] at this ⊢
  split <;> omega
theorem nf_perm {l r:List (List Int×Int)} (h:l.Perm r):nf lexlt l=nf lexlt r:=
 nf_unique lexOrd (nf_desc lexOrd l) (nf_nz l) fun k=>by rw [nf_co,co_perm k h]
theorem shutF_perm {l r:List (List Int×Int)} (h:l.Perm r) (v:Int):shutF v l=shutF v r:=by
 unfold shutF
 rw [nf_perm h]
theorem prodL_step {a b:List (List Int×Int)} {i:Nat} (h:i < a.length):prodL (a.take (i+1)) b=prodL (a.take i) b ++ b.map fun y=>(addE 1 a[i].1 y.1,a[i].2*y.2):=by
 unfold prodL
 rw [List.take_succ_eq_append_getElem h,List.flatMap_append]
 simp
theorem absB {a i j:Nat} (h:a<=(i*600+j)*1000000000000) (hj:j<=600):a<=((i+1)*600)*1000000000000:=
 Nat.le_trans h (Nat.mul_le_mul_right _ (by omega))
theorem natAbs_bd {c:Int} (h:-1000000000000<=c/\c<=1000000000000):c.natAbs<=1000000000000:=by omega
theorem pad_bd {e:List Int} (h:∀ x∈e,-20<=x/\x<=20):∀ x∈pad e,-1000000<=x/\x<=1000000:=fun x hx=>by
 unfold pad at hx
 rcases List.mem_append.1 hx with hx | hx
 ·have:=h x hx;omega
 ·have:=List.eq_of_mem_replicate hx;omega
theorem impl_MulLaurents_c (hDone:DoneOk) (f g:Lau) (hx:f.ts.length < 4611686018427387904) (hxe:∀ t∈f.ts,t.e.length < 4611686018427387904) (hy:g.ts.length < 4611686018427387904) (hye:∀ t∈g.ts,t.e.length < 4611686018427387904):ACalls Try.prog F.impl_MulLaurents [aF f,aF g] [] true (fun outs res=>outs=[]/\WkRs res [.ag (fO (mulF f g).1),.one (D.bool (mulF f g).2)]):=by
 refine ACalls.of_body (C:=C.impl_MulLaurents) (n:=Try.f74.ntmps) tabT folT Try.func74 rfl (by kernel_rfl) rfl (Nat.le_of_ble_eq_true rfl) (by decide) (by kernel_rfl) (by kernel_rfl) rfl (by simp) (by simp) ?_
 simp only [Try.f74]
 refine wseq ?_
 refine wreg fun K hK=>?_
 simp [C.impl_MulLaurents,fS]
 refine hK _ ?_;clear hK K
 show AWp _ _ _ _ _
 refine wseq ?_
 refine wseq ?_
 refine wregI ([0,1,2] ++ ([3])) rfl fun K hK=>?_
 refine oSg fun L hL=>?_
 simp [C.impl_MulLaurents,fS]
 refine wcall1 (impl_bothOk_c f g hx hxe hy hye) (by simp) (by simp) ?_
 simp [C.impl_MulLaurents,fS]
 refine hL _ ?_;clear hL L
 refine oEn fun L hL=>?_
 simp [C.impl_MulLaurents,fS]
 refine hL _ ?_;clear hL L
 simp [C.impl_MulLaurents,fS]
 refine hK _ ?_;clear hK K
 show AWp _ _ _ _ _
 refine wcond _ rfl (fun hc1=>?_) (fun hc1=>?_)
 ·have hr:¬ (Right f/\Right g/\f.v=g.v):=by
   intro ⟨q1,q2,q3⟩
   simp [q1,q2,q3] at hc1
  have hm:mulF f g=(zeroF,false):=if_neg hr
  refine wseq ?_
  refine wreg fun K hK=>?_
  simp [C.impl_MulLaurents,fS]
  refine hK _ ?_;clear hK K
  show AWp _ _ _ _ _
  refine wret ?_
  simp [C.impl_MulLaurents,fS,hm,fO,zeroF,rows]
 ·have hr:Right f/\Right g/\f.v=g.v:=by simpa using hc1
  obtain ⟨hf,hg,hfg⟩:=hr
  have hv:=hf.1
  obtain ⟨n,hn⟩:∃ n:Nat,f.v=n:=⟨f.v.toNat,by omega⟩
  have hn2:g.v=n:=by omega
  have hn8:n<=8:=by omega
  have hfl:=hf.2.1
  have hgl:=hg.2.1
  have hm:mulF f g=shutF n (prodL (f.ts.map pr) (g.ts.map pr)):=by
   unfold mulF
   rw [if_pos ⟨hf,hg,hfg⟩,hn]
  refine wskip ?_
  show AWp _ _ _ _ _
  refine wseq ?_
  refine wregI ([0,1,2] ++ ([3])) rfl fun K hK=>?_
  refine oSg fun L hL=>?_
  simp [C.impl_MulLaurents,fS,hn]
  refine wcall1 (impl_newBuilding_c n) (by simp) (by simp) ?_
  simp [C.impl_MulLaurents,fS,hn]
  refine hL _ ?_;clear hL L
  refine oEn fun L hL=>?_
  simp [C.impl_MulLaurents,fS,hn]
  refine hL _ ?_;clear hL L
  simp [C.impl_MulLaurents,fS,hn]
  refine hK _ ?_;clear hK K
  show AWp _ _ _ _ _
  refine wseq ?_
  refine wseq ?_
  refine wreg fun K hK=>?_
  simp [C.impl_MulLaurents,fS]
  refine hK _ ?_;clear hK K
  show AWp _ _ _ _ _
  refine wblock ?_
  refine wloop (fun x:Nat×List (List Int×Int)×List (List Int×Int)=>⟨ofL [(3,.pt (3,0) [] 0),(4,.pt (4,0) [] 0),(6,.pt (6,0) [] 0),(20,.d (.sh 2 f.ts.length (rows tS f.ts))),(21,.int f.ts.length),(22,.int x.1)],ofRO [((3,0),some (.bx (fS g))),((4,0),some (.bx [D.int 0,.v (.slice none 0 0)])),((6,0),some (.bx [D.int n,.mp x.2.1]))]⟩) (fun x=>x.1<=f.ts.length/\MapR n x.2.1 x.2.2/\x.2.2.Perm (prodL ((f.ts.map pr).take x.1) (g.ts.map pr))/\x.2.2.length<=x.1*600/\absE x.2.2<=(x.1*600)*1000000000000) (fun x=>f.ts.length - x.1) (0,[],[]) (by simp [C.impl_MulLaurents,fS]) ⟨by simp,MapR.nil n,by simp [prodL],by simp,by simp [absE]⟩ ?_
  intro x1 hx1 R1 hR1
  obtain ⟨i,es,l⟩:=x1
  obtain ⟨hi,hM,hP,hL,hA⟩:=hx1
  dsimp only at hi hM hP hL hA ⊢
  refine wseq ?_
  refine wreg fun K hK=>?_
  simp [C.impl_MulLaurents,fS]
  refine hK _ ?_;clear hK K
  show AWp _ _ _ _ _
  refine wseq ?_
  refine wcond _ rfl (fun hc2=>?_) (fun hc2=>?_)
  ·have hif:i < f.ts.length:=by have:=d_t hc2;omega
   have hT:=right_dig hf hn _ (List.getElem_mem hif)
   refine wskip ?_
   show AWp _ _ _ _ _
   refine wseq ?_
   refine wblock ?_
   refine wseq ?_
   refine wreg fun K hK=>?_
   simp [C.impl_MulLaurents,fS,hif,tS_0 hif,tS_1 hif]
   refine hK _ ?_;clear hK K
   show AWp _ _ _ _ _
   refine wseq ?_
   refine wreg fun K hK=>?_
   simp [C.impl_MulLaurents,fS]
   refine hK _ ?_;clear hK K
   show AWp _ _ _ _ _
   refine wblock ?_
   refine wloop (fun x:Nat×List (List Int×Int)×List (List Int×Int)=>⟨ofL [(3,.pt (3,0) [] 0),(4,.pt (4,0) [] 0),(6,.pt (6,0) [] 0),(8,.pt (8,0) [] 0),(20,.d (.sh 2 f.ts.length (rows tS f.ts))),(21,.int f.ts.length),(22,.int i),(27,.d (.sh 2 g.ts.length (rows tS g.ts))),(28,.int g.ts.length),(29,.int x.1)],ofRO [((3,0),some (.bx (fS g))),((4,0),some (.bx [D.int 0,.v (.slice none 0 0)])),((6,0),some (.bx [D.int n,.mp x.2.1])),((8,0),some (.bx (tS f.ts[i])))]⟩) (fun x=>x.1<=g.ts.length/\MapR n x.2.1 x.2.2/\x.2.2.Perm (prodL ((f.ts.map pr).take i) (g.ts.map pr) ++ ((g.ts.map pr).take x.1).map fun y=>(addE 1 f.ts[i].e y.1,f.ts[i].c*y.2))/\x.2.2.length<=i*600+x.1/\absE x.2.2<=(i*600+x.1)*1000000000000) (fun x=>g.ts.length - x.1) (0,es,l) (by simp [C.impl_MulLaurents,fS,tS]) ⟨by simp,hM,by simpa using hP,by dsimp only;omega,by dsimp only;omega⟩ ?_
   intro x2 hx2 R2 hR2
   obtain ⟨j,es2,l2⟩:=x2
   obtain ⟨hj,hM2,hP2,hL2,hA2⟩:=hx2
   dsimp only at hj hM2 hP2 hL2 hA2 ⊢
   refine wseq ?_
   refine wreg fun K hK=>?_
   simp [C.impl_MulLaurents,fS]
   refine hK _ ?_;clear hK K
   show AWp _ _ _ _ _
   refine wseq ?_
   refine wcond _ rfl (fun hc3=>?_) (fun hc3=>?_)
   ·have hjg:j < g.ts.length:=by have:=d_t hc3;omega
    have hU:=right_dig hg hn2 _ (List.getElem_mem hjg)
    refine wskip ?_
    show AWp _ _ _ _ _
    refine wseq ?_
    refine wblock ?_
    refine wseq ?_
    refine wreg fun K hK=>?_
    simp [C.impl_MulLaurents,fS,hjg,tS_0 hjg,tS_1 hjg]
    refine hK _ ?_;clear hK K
    show AWp _ _ _ _ _
    obtain ⟨a0,a1,a2,a3,a4,a5,a6,a7,hpa⟩:=eight (pad_length (e:=f.ts[i].e) (by omega))
    obtain ⟨b0,b1,b2,b3,b4,b5,b6,b7,hpb⟩:=eight (pad_length (e:=g.ts[j].e) (by omega))
    have hba:=pad_bd hT.2.2.1
    have hbb:=pad_bd hU.2.2.1
    rw [hpa] at hba
    rw [hpb] at hbb
    have hadd:[a0+b0,a1+b1,a2+b2,a3+b3,a4+b4,a5+b5,a6+b6,a7+b7]=pad (addE 1 f.ts[i].e g.ts[j].e):=by
     rw [<-pad_add (by omega),hpa,hpb]
     simp [addE]
    have hel:(addE 1 f.ts[i].e g.ts[j].e).length=n:=by rw [addE_length _ _ _ (by omega)];omega
    have hcc:=mul_bd hT.2.2.2 hU.2.2.2
    have hval:=hM2.val _ hel
    have hco:=co_abs (addE 1 f.ts[i].e g.ts[j].e) l2
    refine wdrawI [(true,0),(true,1),(true,2),(true,4),(true,5),(true,8),(true,9),(true,10),(true,11),(true,12),(false,3),(false,6),(false,7),(false,13)] ⟨by kernel_rfl,by kernel_rfl⟩ ([0,1,2,4,5,8,9,10,11,12,3] ++ ([6] ++ ([7] ++ ([13] ++ ([]))))) rfl fun K hK=>?_
    refine oSg fun L hL=>?_
    simp [C.impl_MulLaurents,fS,tS,wrapOk (x:=f.ts[i].c*g.ts[j].c) (by omega) (by omega)]
    refine wcall1 (impl_keyOf_c f.ts[i].e (by omega) a0 a1 a2 a3 a4 a5 a6 a7 hpa) (by simp) (by simp) ?_
    simp [C.impl_MulLaurents,fS,tS,wrapOk (x:=f.ts[i].c*g.ts[j].c) (by omega) (by omega)]
    refine hL _ ?_;clear hL L
    refine oSg fun L hL=>?_
    simp [C.impl_MulLaurents,fS,tS,wrapOk (x:=f.ts[i].c*g.ts[j].c) (by omega) (by omega)]
    refine wcall1 (impl_keyOf_c g.ts[j].e (by omega) b0 b1 b2 b3 b4 b5 b6 b7 hpb) (by simp) (by simp) ?_
    simp [C.impl_MulLaurents,fS,tS,wrapOk (x:=f.ts[i].c*g.ts[j].c) (by omega) (by omega)]
    refine hL _ ?_;clear hL L
    refine oSg fun L hL=>?_
    simp [C.impl_MulLaurents,fS,tS,wrapOk (x:=f.ts[i].c*g.ts[j].c) (by omega) (by omega)]
    refine wcall1 (impl_plusExp_c 1 a0 a1 a2 a3 a4 a5 a6 a7 b0 b1 b2 b3 b4 b5 b6 b7 (by omega) hba hbb) (by simp) (by simp) ?_
    simp [C.impl_MulLaurents,fS,tS,wrapOk (x:=f.ts[i].c*g.ts[j].c) (by omega) (by omega)]
    refine hL _ ?_;clear hL L
    refine oSg fun L hL=>?_
    simp [C.impl_MulLaurents,fS,tS,wrapOk (x:=f.ts[i].c*g.ts[j].c) (by omega) (by omega)]
    refine wcall1 (impl_building_add_c n (f.ts[i].c*g.ts[j].c) es2 (a0+1*b0) (a1+1*b1) (a2+1*b2) (a3+1*b3) (a4+1*b4) (a5+1*b5) (a6+1*b6) (a7+1*b7) (hM2.len8 hn8) (by simp only [Int.one_mul];rw [hadd,hval];omega)) (by simp) (by simp) ?_
    simp [C.impl_MulLaurents,fS,tS,wrapOk (x:=f.ts[i].c*g.ts[j].c) (by omega) (by omega)]
    refine hL _ ?_;clear hL L
    refine oEn fun L hL=>?_
    simp only [AOpsI]
    refine hL _ ?_;clear hL L
    simp [C.impl_MulLaurents,fS,tS,wrapOk (x:=f.ts[i].c*g.ts[j].c) (by omega) (by omega)]
    rw [hadd]
    refine hK _ ?_;clear hK K
    show AWp _ _ _ _ _
    refine wreg fun K hK=>?_
    simp [C.impl_MulLaurents,fS,wrap_succ (show j < 4611686018427387904 by omega)]
    refine hK _ ?_;clear hK K
    simp [C.impl_MulLaurents,fS]
    refine hR2 (j+1,_,(addE 1 f.ts[i].e g.ts[j].e,f.ts[i].c*g.ts[j].c) :: l2) ⟨hjg,hM2.add hel _,?_,by dsimp only [List.length_cons];omega,?_⟩ (by dsimp only;omega)
    ·dsimp only
     rw [List.take_succ_eq_append_getElem (by simpa using hjg),List.map_append,<-List.append_assoc]
     refine (List.Perm.cons _ hP2).trans ?_
     simp only [List.getElem_map,List.map_cons,List.map_nil,pr]
     exact (List.perm_append_singleton _ _).symm
    ·have:=natAbs_bd hcc
     simp only [absE,List.map_cons,List.sum_cons] at hA2 ⊢
     omega
   ·have hjg:j=g.ts.length:=by have:=d_f hc3;omega
    refine wexit ?_
    show AWp _ _ _ _ _
    refine wreg fun K hK=>?_
    simp [C.impl_MulLaurents,fS,wrap_succ (show i < 4611686018427387904 by omega)]
    refine hK _ ?_;clear hK K
    simp [C.impl_MulLaurents,fS]
    refine hR1 (i+1,es2,l2) ⟨hif,hM2,?_,by dsimp only;omega,absB hA2 (by omega)⟩ (by dsimp only;omega)
    dsimp only
    rw [prodL_step (by simpa using hif)]
    refine hP2.trans (List.Perm.of_eq ?_)
    rw [List.take_of_length_le (l:=g.ts.map pr) (by simp;omega)]
    simp [pr]
  ·have hif:i=f.ts.length:=by have:=d_f hc2;omega
   have hall:l.Perm (prodL (f.ts.map pr) (g.ts.map pr)):=by
    rw [List.take_of_length_le (l:=f.ts.map pr) (by simp;omega)] at hP
    exact hP
   have hlen:∀ x∈l,x.1.length=n:=fun x hx=>by
    have:=hall.subset hx
    simp only [prodL,List.mem_flatMap,List.mem_map] at this
    obtain ⟨a,⟨t,ht,rfl⟩,b,⟨u,hu,rfl⟩,rfl⟩:=this
    have h1:=right_dig hf hn t ht
    have h2:=right_dig hg hn2 u hu
    simp only [pr]
    rw [addE_length _ _ _ (by omega)]
    omega
   have hs:=shutF_perm hall n
   refine wexit ?_
   show AWp _ _ _ _ _
   refine wseq ?_
   refine wregI ([0,1] ++ ([2,3,4,5])) rfl fun K hK=>?_
   refine oSg fun L hL=>?_
   simp [C.impl_MulLaurents,fS,fO]
   refine wcall1 (hDone n es l hM hlen (by omega) hn8 (by omega)) (by simp) (by simp) ?_
   simp [C.impl_MulLaurents,fS,fO]
   refine hL _ ?_;clear hL L
   refine oEn fun L hL=>?_
   simp [C.impl_MulLaurents,fS,fO]
   refine hL _ ?_;clear hL L
   simp [C.impl_MulLaurents,fS,fO]
   refine hK _ ?_;clear hK K
   show AWp _ _ _ _ _
   refine wret ?_
   simp [C.impl_MulLaurents,fS,hm,<-hs,fO]
theorem iMul_c (hDone:DoneOk):MulOk:=fun f g hx hxe hy hye=>(impl_MulLaurents_c hDone f g hx hxe hy hye).weak1
end Go.Proofs.Ytfcgcgmleogamaa.Ab
namespace Go.Proofs.Ytfcgcgmleogamaa.Ab
open Go
set_option maxRecDepth 10000
set_option maxHeartbeats 2000000
def SmallF (g:Lau):Prop:=g.ts.length<=600/\(∀ t∈g.ts,t.e.length<=8)/\cntL cntT g.ts<=5400
theorem small_right {g:Lau} (h:Right g):SmallF g:=by
 have he:∀ t∈g.ts,t.e.length<=8:=fun t ht=>by have:=(h.2.2.1 t ht).1;have:=h.1;omega
 refine ⟨h.2.1,he,?_⟩
 have:∀ ts:List Trm,(∀ t∈ts,t.e.length<=8)->cntL cntT ts<=ts.length*9:=fun ts=>by
  induction ts with
  | nil=>intro _;simp [cntL]
  | cons x ts ih=>
   intro h
   have h1:=h x (by simp)
   have h2:=ih fun y hy=>h y (by simp [hy])
   simp only [cntL,cntT,List.length_cons]
   omega
 have h2:=this g.ts he
 have:=h.2.1
 omega
end Go.Proofs.Ytfcgcgmleogamaa.Ab
namespace Go.Proofs.Ytfcgcgmleogamaa.Ab
open Go
set_option maxRecDepth 10000
set_option maxHeartbeats 1000000
def SmF (f:Lau):Prop:=f.ts.length < 4611686018427387904/\∀ t∈f.ts,t.e.length < 4611686018427387904
end Go.Proofs.Ytfcgcgmleogamaa.Ab
namespace Go.Proofs.Ytfcgcgmleogamaa.Ab
open Go
set_option maxRecDepth 10000
set_option maxHeartbeats 2000000
def unitL (n i:Nat):List Int:=(List.replicate n 0).set i 1
theorem unitL_length (n i:Nat):(unitL n i).length=n:=by simp [unitL]
noncomputable def monoF (e:List Int):Lau:=if Right ⟨e.length,[⟨e,1⟩]⟩ then ⟨e.length,[⟨e,1⟩]⟩ else zeroF
noncomputable def varsL (r:Nat):List Lau:=(List.range r).map fun i=>monoF (unitL r i)
theorem mono_right {e:List Int}:Right ⟨e.length,[⟨e,1⟩]⟩↔(1<=(e.length:Int)/\(e.length:Int)<=8)/\okE e e.length=true:=by
 rw [okE_iff]
 unfold Right Good DescT
 simp
theorem impl_unit_c (n i:Nat) (hn:n<=8) (hi:i < n):ACalls Try.prog F.impl_unit [.int n,.int i] [] true (fun outs res=>outs=[]/\res=[.one (owI (unitL n i))]):=by
 refine ACalls.of_body (C:=C.impl_unit) (n:=Try.f63.ntmps) tabT folT Try.func63 rfl (by kernel_rfl) rfl (Nat.le_of_ble_eq_true rfl) (by decide) (by kernel_rfl) (by kernel_rfl) rfl (by simp) (by simp) ?_
 simp only [Try.f63]
 refine wseq ?_
 refine wreg fun K hK=>?_
 simp [C.impl_unit]
 refine hK _ ?_;clear hK K
 show AWp _ _ _ _ _
 refine wseq ?_
 refine wreg fun K hK=>?_
 simp [C.impl_unit,zeros_ints,show (8:Int)*n<=281474976710656 by omega,show (n:Int)<=281474976710656 by omega]
 refine hK _ ?_;clear hK K
 show AWp _ _ _ _ _
 refine wseq ?_
 refine wreg fun K hK=>?_
 simp [C.impl_unit,hi]
 refine hK _ ?_;clear hK K
 show AWp _ _ _ _ _
 refine wseq ?_
 refine wreg fun K hK=>?_
 simp [C.impl_unit]
 refine hK _ ?_;clear hK K
 show AWp _ _ _ _ _
 refine wret ?_
 simp [C.impl_unit,unitL]
theorem impl_MonomialLaurent_c (e:List Int) (hx:e.length < 17592186044416):ACalls Try.prog F.impl_MonomialLaurent [.d (shI e)] [] true (fun outs res=>outs=[]/\WkRs res [.ag (fO (monoF e))]):=by
 refine ACalls.of_body (C:=C.impl_MonomialLaurent) (n:=Try.f96.ntmps) tabT folT Try.func96 rfl (by kernel_rfl) rfl (Nat.le_of_ble_eq_true rfl) (by decide) (by kernel_rfl) (by kernel_rfl) rfl (by simp) (by simp) ?_
 simp only [Try.f96]
 refine wseq ?_
 refine wreg fun K hK=>?_
 simp [C.impl_MonomialLaurent]
 refine hK _ ?_;clear hK K
 show AWp _ _ _ _ _
 refine wseq ?_
 refine wseq ?_
 refine wregI ([0,1,2] ++ ([3,4,5,6,7,8] ++ ([9,10]))) rfl fun K hK=>?_
 have hJ:K ⟨ofL [(0,.d (shI e)),(2,.pt (2,0) [] 0),(13,.bool (!decide ((1<=(e.length:Int)/\(e.length:Int)<=8)/\okE e e.length=true)))],ofRO [((2,0),some (.bx [D.int 0,.v (.slice none 0 0)]))]⟩:=by
  refine hK _ ?_;clear hK K
  show AWp _ _ _ _ _
  refine wcond _ rfl (fun hc1=>?_) (fun hc1=>?_)
  ·have hr:¬ Right ⟨e.length,[⟨e,1⟩]⟩:=fun h=>nd_t hc1 (mono_right.1 h)
   refine wseq ?_
   refine wreg fun K hK=>?_
   simp [C.impl_MonomialLaurent]
   refine hK _ ?_;clear hK K
   show AWp _ _ _ _ _
   refine wret ?_
   simp [C.impl_MonomialLaurent,monoF,hr,fO,zeroF,rows]
  ·have hr:Right ⟨e.length,[⟨e,1⟩]⟩:=mono_right.2 (nd_f hc1)
   refine wskip ?_
   show AWp _ _ _ _ _
   refine wseq ?_
   refine wregI ([0,1,2,3] ++ ([4,5,6,7])) rfl fun K hK=>?_
   refine oSg fun L hL=>?_
   simp [C.impl_MonomialLaurent]
   refine wcall1 (clone_c e hx) (by simp) (by simp) ?_
   simp [C.impl_MonomialLaurent]
   refine hL _ ?_;clear hL L
   refine oEn fun L hL=>?_
   simp [C.impl_MonomialLaurent]
   refine hL _ ?_;clear hL L
   simp [C.impl_MonomialLaurent]
   refine hK _ ?_;clear hK K
   show AWp _ _ _ _ _
   refine wret ?_
   simp [C.impl_MonomialLaurent,monoF,hr,fO,rows,tO]
 clear hK
 by_cases ha:1<=(e.length:Int)/\(e.length:Int)<=8
 ·refine oSg fun L hL=>?_
  simp [C.impl_MonomialLaurent,ha]
  refine wcall1 (impl_within_c e.length 1 8) (by simp) (by simp) ?_
  simp [C.impl_MonomialLaurent,ha]
  refine hL _ ?_;clear hL L
  refine oSg fun L hL=>?_
  simp [C.impl_MonomialLaurent,ha]
  refine wcall1 (impl_expOk_c e e.length (by omega)) (by simp) (by simp) ?_
  simp [C.impl_MonomialLaurent,ha]
  refine hL _ ?_;clear hL L
  refine oEn fun L hL=>?_
  simp [C.impl_MonomialLaurent,ha]
  refine hL _ ?_;clear hL L
  simp [C.impl_MonomialLaurent,ha]
  refine cast (congrArg K ?_) hJ
  simp [Bool.not_and,ha]
 ·refine oSg fun L hL=>?_
  simp [C.impl_MonomialLaurent,ha]
  refine wcall1 (impl_within_c e.length 1 8) (by simp) (by simp) ?_
  simp [C.impl_MonomialLaurent,ha]
  refine hL _ ?_;clear hL L
  refine oSg fun L hL=>?_
  simp [C.impl_MonomialLaurent,ha]
  refine hL _ ?_;clear hL L
  refine oEn fun L hL=>?_
  simp [C.impl_MonomialLaurent,ha]
  refine hL _ ?_;clear hL L
  simp [C.impl_MonomialLaurent,ha]
  refine cast (congrArg K ?_) hJ
  simp [Bool.not_and,ha]
theorem iMono_c (e:List Int) (hx:e.length < 17592186044416):ACalls Try.prog F.impl_MonomialLaurent [.d (shI e)] [] true (fun outs res=>outs=[]/\res=[.ag (fO (monoF e))]):=(impl_MonomialLaurent_c e hx).weak1
abbrev m0:Mat:=⟨2,2,[0,1,-1,0]⟩
noncomputable abbrev z0:Ses:=⟨m0,[],⟨m0,varsL 2⟩⟩
end Go.Proofs.Ytfcgcgmleogamaa.Ab
namespace Go.Proofs.Ytfcgcgmleogamaa.Ab
open Go
set_option maxRecDepth 10000
set_option maxHeartbeats 2000000
def minF (x:Int) (ts:List Trm) (i:Nat):Int:=ts.foldl (fun m t=>min m (t.e.getD i 0)) x
def lowA (x:Nat->Int) (ts:List Trm) (n:Nat):List Int:=(List.range n).map fun i=>minF (x i) ts i
@[simp] theorem lowA_length (x:Nat->Int) (ts:List Trm) (n:Nat):(lowA x ts n).length=n:=by simp [lowA]
def headE (ts:List Trm) (i:Nat):Int:=match ts with | []=>0 | t :: _=>t.e.getD i 0
def lowL (ts:List Trm) (n:Nat):List Int:=lowA (headE ts) ts n
def denL (f:Lau):List Int:=(lowL f.ts f.v.toNat).map fun x=>-x
@[simp] theorem denL_length (f:Lau):(denL f).length=f.v.toNat:=by simp [denL,lowL]
theorem right_he {f:Lau} {n:Nat} (h:Right f) (hn:f.v=n):∀ t∈f.ts,t.e.length=n/\∀ x∈t.e,-20<=x/\x<=20:=fun t ht=>by
 have:=h.2.2.1 t ht
 exact ⟨by have:=this.1;omega,this.2.2.2⟩
theorem ieq0 (n:Nat):((n:Int) == 0)=decide (n=0):=by
 rw [Bool.eq_iff_iff];simp
end Go.Proofs.Ytfcgcgmleogamaa.Ab
namespace Go.Proofs.Ytfcgcgmleogamaa.Ab
open Go
theorem addE_dv:∀ (a b:List Int),a.length=b.length->addE 1 (addE (-1) a b) b=a
 | [],[],_=>rfl
 | x :: a,y :: b,h=>by
  simp only [addE,addE_dv a b (by simpa using h)]
  congr 1
  omega
 | [],_ :: _,h=>by simp at h
 | _ :: _,[],h=>by simp at h
theorem lexlt_addE (k:Int):∀ (x y b:List Int),x.length=b.length->y.length=b.length->lexlt (addE k x b) (addE k y b)=lexlt x y
 | [],[],[],_,_=>rfl
 | u :: x,v :: y,w :: b,h1,h2=>by
  simp only [addE,lexlt,lexlt_addE k x y b (by simpa using h1) (by simpa using h2)]
  by_cases e:u=v
  ·rw [if_pos e,if_pos (by omega)]
  ·rw [if_neg e,if_neg (by omega)]
   congr 1
   simp only [eq_iff_iff]
   omega
 | [],_ :: _,_,h1,h2=>by simp at h1 h2;omega
 | _ :: _,[],_,h1,h2=>by simp at h1 h2;omega
 | _ :: _,_ :: _,[],h1,_=>by simp at h1
 | [],[],_ :: _,h1,_=>by simp at h1
theorem lexlt_addE2:∀ (e x y:List Int),e.length=x.length->e.length=y.length->lexlt (addE 1 e x) (addE 1 e y)=lexlt x y
 | [],[],[],_,_=>rfl
 | w :: e,u :: x,v :: y,h1,h2=>by
  simp only [addE,lexlt,lexlt_addE2 e x y (by simpa using h1) (by simpa using h2)]
  by_cases e:u=v
  ·rw [if_pos e,if_pos (by omega)]
  ·rw [if_neg e,if_neg (by omega)]
   congr 1
   simp only [eq_iff_iff]
   omega
 | [],_ :: _,_,h1,_=>by simp at h1
 | _ :: _,[],_,h1,_=>by simp at h1
 | [],[],_ :: _,_,h2=>by simp at h2
 | _ :: _,_ :: _,[],_,h2=>by simp at h2
theorem lauAct (n:Nat):Act lexlt (addE 1) (addE (-1)) (fun e=>e.length=n) where
 mul_dv a b h1 h2:=addE_dv a b (h1.trans h2.symm)
 dv_lt x y b h1 h2 h3 h:=by rw [lexlt_addE _ _ _ _ (h1.trans h3.symm) (h2.trans h3.symm)];exact h
 mul_lt e x y h1 h2 h3 h:=by rw [lexlt_addE2 _ _ _ (h1.trans h2.symm) (h1.trans h3.symm)];exact h
 dmul a b h1 h2:=by rw [addE_length _ _ _ (h1.trans h2.symm)];exact h1
 ddv a b h1 h2:=by rw [addE_length _ _ _ (h1.trans h2.symm)];exact h1
def maxF (x:Int) (ts:List Trm) (i:Nat):Int:=ts.foldl (fun m t=>max m (t.e.getD i 0)) x
def highA (x:Nat->Int) (ts:List Trm) (n:Nat):List Int:=(List.range n).map fun i=>maxF (x i) ts i
@[simp] theorem highA_length (x:Nat->Int) (ts:List Trm) (n:Nat):(highA x ts n).length=n:=by simp [highA]
def highL (ts:List Trm) (n:Nat):List Int:=highA (headE ts) ts n
def chkI (e:List Int) (q:Int):Bool:=decide ((∀ x∈e,-20<=x/\x<=20)/\q≠0/\-1000000<=q/\q<=1000000)
def inBox (f g:Lau) (n:Nat) (e:List Int):Prop:=∀ i,i < n->(lowL f.ts n).getD i 0 - (lowL g.ts n).getD i 0<=e.getD i 0/\e.getD i 0<=(highL f.ts n).getD i 0 - (highL g.ts n).getD i 0
instance (f g:Lau) (n:Nat) (e:List Int):Decidable (inBox f g n e):=Nat.decidableBallLT n _
def leadE (g:Lau):List Int:=match g.ts with | []=>[] | t :: _=>t.e
def leadC (g:Lau):Int:=match g.ts with | []=>1 | t :: _=>t.c
def divL (chk:List Int->Int->Bool) (g:Lau) (k:Nat) (R:List (List Int×Int)):Option (List (List Int×Int)):=divGo lexlt (addE 1) (addE (-1)) chk (g.ts.map pr) (leadE g) (leadC g) k R
noncomputable def endF (v:Int):Option (List (List Int×Int))->Lau×Bool
 | some O=>if Right ⟨v,O.map tm⟩ then (⟨v,O.map tm⟩,true) else (zeroF,false)
 | none=>(zeroF,false)
noncomputable def divF (f g:Lau):Lau×Bool:=if (Right f/\Right g/\f.v=g.v)/\g.ts≠[] then endF f.v (divL chkI g 600 (f.ts.map pr)) else (zeroF,false)
theorem pr_desc {f:Lau} (h:Right f):Desc lexlt (f.ts.map pr):=by
 unfold Desc
 rw [List.pairwise_map]
 exact h.2.2.2
theorem pr_nz {f:Lau} (h:Right f):Nz (f.ts.map pr):=fun x hx=>by
 obtain ⟨t,ht,rfl⟩:=List.mem_map.1 hx
 exact (h.2.2.1 t ht).2.1
theorem pr_dig {f:Lau} {n:Nat} (h:Right f) (hn:f.v=n):∀ x∈f.ts.map pr,x.1.length=n/\Dig x.1:=fun x hx=>by
 obtain ⟨t,ht,rfl⟩:=List.mem_map.1 hx
 have:=right_he h hn t ht
 exact ⟨this.1,fun y hy=>by have:=this.2 y hy;omega⟩
end Go.Proofs.Ytfcgcgmleogamaa.Ab
namespace Go.Proofs.Ytfcgcgmleogamaa.Ab
open Go
theorem addE_vd:∀ (a b:List Int),a.length=b.length->addE (-1) (addE 1 a b) b=a
 | [],[],_=>rfl
 | x :: a,y :: b,h=>by
  simp only [addE,addE_vd a b (by simpa using h)]
  congr 1
  omega
 | [],_ :: _,h=>by simp at h
 | _ :: _,[],h=>by simp at h
theorem lau_eta (f:Lau):(⟨f.v,(f.ts.map pr).map tm⟩:Lau)=f:=by
 rw [List.map_map]
 have:tm ∘ pr=id:=rfl
 rw [this,List.map_id]
theorem pr_tm (l:List (List Int×Int)):(l.map tm).map pr=l:=by
 rw [List.map_map]
 exact List.map_id _
theorem div_mul {f g P:Lau} (hf:Right f) (hg:Right g) (hv:f.v=g.v) (hne:g.ts≠[]) (hP:mulF f g=(P,true)):divF P g=(f,true):=by
 have hm:mulF f g=shutF f.v (prodL (f.ts.map pr) (g.ts.map pr)):=if_pos ⟨hf,hg,hv⟩
 rw [hm] at hP
 unfold shutF at hP
 split at hP
 ·rename_i hR
  injection hP with hP _
  subst hP
  obtain ⟨n,hn⟩:∃ n:Nat,f.v=n:=⟨f.v.toNat,by have:=hf.1;omega⟩
  have hn2:g.v=n:=by omega
  unfold divF
  rw [if_pos ⟨⟨hR,hg,hv⟩,hne⟩]
  simp only [pr_tm]
  match hgt:g.ts,hne with
  | t :: ts,_=>
   have hd:=divGo_prod (mul:=addE 1) (dv:=addE (-1)) (chk:=chkI) lexOrd (lauAct n) (fun a b h1 h2=>addE_vd a b (h1.trans h2.symm)) (fun x y b h1 h2 h3 h=>by rw [lexlt_addE _ _ _ _ (h1.trans h3.symm) (h2.trans h3.symm)];exact h)
    (b:=t.e) (d:=t.c) (gt:=ts.map pr) (by have:=pr_desc hg;rw [hgt] at this;exact this) ((hg.2.2.1 t (by rw [hgt];simp)).2.1)
    (fun x hx=>by have:=pr_dig hg hn2;rw [hgt] at this;exact (this x hx).1) 600 (f.ts.map pr) (pr_desc hf) (pr_nz hf)
    (fun x hx=>⟨(pr_dig hf hn x hx).1,by
     obtain ⟨u,hu,rfl⟩:=List.mem_map.1 hx
     have:=hf.2.2.1 u hu
     exact decide_eq_true ⟨this.2.2.2,this.2.1,this.2.2.1⟩⟩) (by simpa using hf.2.1)
   have e:divL chkI g 600 (nf lexlt (prodL (f.ts.map pr) ((t :: ts).map pr)))=some (f.ts.map pr):=by
    unfold divL leadE leadC
    rw [hgt]
    exact hd
   rw [e]
   simp only [endF,lau_eta]
   rw [if_pos hf]
 ·injection hP with _ h
  simp at h
end Go.Proofs.Ytfcgcgmleogamaa.Ab
namespace Go.Proofs.Ytfcgcgmleogamaa.Ab
open Go Go.Proofs
def sortTerm_ren:Go.Shelf.Ren:=⟨fun | 6=>174 | 15=>192 | 14=>191 | 28=>204 | 29=>205 | 20=>196 | 21=>197 | 22=>198 | 23=>199 | 24=>200 | 25=>201 | 26=>202 | 27=>203 | 46=>206 | 47=>207 | 48=>208 | 49=>209 | 50=>210 | 57=>211 | n=>n,fun | 22=>47 | 24=>112 | 25=>188 | 3=>3 | 39=>201 | 0=>0 | 53=>214 | 55=>216 | 4=>4 | 46=>208 | 45=>207 | 50=>63 | 5=>5 | 9=>9 | 66=>217 | 70=>146 | 76=>222 | 77=>223 | n=>n,fun | n=>n⟩
theorem sortTerm:Go.Proofs.SlLaysF0.n6 Try.prog sortTerm_ren:={
 mixed:=by kernel_rfl,
 f6:=⟨Try.f174.name,by decide,Try.func174.trans (congrArg some (by kernel_rfl))⟩,
 f14:=⟨Try.f191.name,by decide,Try.func191.trans (congrArg some (by kernel_rfl))⟩,
 f15:=Try.func192.trans (congrArg some (by kernel_rfl)),
 f20:=⟨Try.f196.name,by decide,Try.func196.trans (congrArg some (by kernel_rfl))⟩,
 f21:=⟨Try.f197.name,by decide,Try.func197.trans (congrArg some (by kernel_rfl))⟩,
 f22:=⟨Try.f198.name,by decide,Try.func198.trans (congrArg some (by kernel_rfl))⟩,
 f23:=⟨Try.f199.name,by decide,Try.func199.trans (congrArg some (by kernel_rfl))⟩,
 f24:=⟨Try.f200.name,by decide,Try.func200.trans (congrArg some (by kernel_rfl))⟩,
 f25:=⟨Try.f201.name,by decide,Try.func201.trans (congrArg some (by kernel_rfl))⟩,
 f26:=⟨Try.f202.name,by decide,Try.func202.trans (congrArg some (by kernel_rfl))⟩,
 f27:=⟨Try.f203.name,by decide,Try.func203.trans (congrArg some (by kernel_rfl))⟩,
 f28:=Try.func204.trans (congrArg some (by kernel_rfl)),
 f29:=Try.func205.trans (congrArg some (by kernel_rfl)),
 f46:=⟨Try.f206.name,by decide,Try.func206.trans (congrArg some (by kernel_rfl))⟩,
 f47:=Try.func207.trans (congrArg some (by kernel_rfl)),
 f48:=Try.func208.trans (congrArg some (by kernel_rfl)),
 f49:=⟨Try.f209.name,by decide,Try.func209.trans (congrArg some (by kernel_rfl))⟩,
 f50:=⟨Try.f210.name,by decide,Try.func210.trans (congrArg some (by kernel_rfl))⟩,
 f57:=⟨Try.f211.name,by decide,Try.func211.trans (congrArg some (by kernel_rfl))⟩,
 t0:=Try.underlying0,
 a0:=Try.isAgg0,
 z0:=Try.sizeOf0,
 v0:=Try.zeroValue0,
 t3:=Try.underlying3,
 a3:=Try.isAgg3,
 z3:=Try.sizeOf3,
 v3:=Try.zeroValue3,
 t4:=Try.underlying4,
 a4:=Try.isAgg4,
 z4:=Try.sizeOf4,
 v4:=Try.zeroValue4,
 t5:=Try.underlying5,
 a5:=Try.isAgg5,
 z5:=Try.sizeOf5,
 v5:=Try.zeroValue5,
 t9:=Try.underlying9,
 a9:=Try.isAgg9,
 z9:=Try.sizeOf9,
 v9:=Try.zeroValue9,
 t22:=Try.underlying47,
 a22:=Try.isAgg47,
 z22:=Try.sizeOf47,
 v22:=Try.zeroValue47,
 t25:=Try.underlying188,
 a25:=Try.isAgg188,
 z25:=Try.sizeOf188,
 v25:=Try.zeroValue188,
 t39:=Try.underlying201,
 a39:=Try.isAgg201,
 z39:=Try.sizeOf201,
 v39:=Try.zeroValue201,
 t45:=Try.underlying207,
 a45:=Try.isAgg207,
 z45:=Try.sizeOf207,
 v45:=Try.zeroValue207,
 t46:=Try.underlying208,
 a46:=Try.isAgg208,
 z46:=Try.sizeOf208,
 v46:=Try.zeroValue208,
 t50:=Try.underlying63,
 a50:=Try.isAgg63,
 z50:=Try.sizeOf63,
 v50:=Try.zeroValue63,
 t53:=Try.underlying214,
 a53:=Try.isAgg214,
 z53:=Try.sizeOf214,
 v53:=Try.zeroValue214,
 t55:=Try.underlying216,
 a55:=Try.isAgg216,
 z55:=Try.sizeOf216,
 v55:=Try.zeroValue216,
 t66:=Try.underlying217,
 a66:=Try.isAgg217,
 z66:=Try.sizeOf217,
 v66:=Try.zeroValue217,
 t70:=Try.underlying146,
 a70:=Try.isAgg146,
 z70:=Try.sizeOf146,
 v70:=Try.zeroValue146,
 t76:=Try.underlying222,
 a76:=Try.isAgg222,
 z76:=Try.sizeOf222,
 v76:=Try.zeroValue222,
 t77:=Try.underlying223,
 a77:=Try.isAgg223,
 z77:=Try.sizeOf223,
 v77:=Try.zeroValue223 }
theorem sortTerm_t24:sortTerm_ren.t 24=112:=by kernel_rfl
theorem sortTerm_f6:sortTerm_ren.f 6=174:=by kernel_rfl
theorem sortTerm_agg:∀ w,(isAgg (sortTerm_ren.t 24)).run Try.prog w = .ok true w:=fun w=>by rw [sortTerm_t24];exact Try.isAgg112 w
theorem sortTerm_size:∀ w,(Go.sizeOf (sortTerm_ren.t 24)).run Try.prog w = .ok 2 w:=fun w=>by rw [sortTerm_t24];exact Try.sizeOf112 w
end Go.Proofs.Ytfcgcgmleogamaa.Ab
namespace Go.Proofs.Ytfcgcgmleogamaa.Ab
open Go
def SfOk (P:Program) (sf k:Nat):Prop:=
 (∀ (p:Option Addr) (cap:Nat) (fv:Value) (w:World),Calls P sf #[.slice p 0 cap,fv] w fun e w'=>e = .returned (.tuple #[])/\w'=w) /\
 ∀ (α:Type) [Inhabited α] (enc:α->List Value) (hk:∀ x,(enc x).length=k) (h1:∀ x,∀ v∈enc x,v.oneCell'=true) (cf:α->α->Int) (hO:Go.Sort.SWO (ltOf cf)) (g:Nat) (blk off cap:Nat) (d:Array α) (w:World)
  (eg:∀ args w,(callFunc g args).run P w = .ok (.enter g args) w) (hcmp:CmpLays P g #[] enc k cf blk off d.size w) (hH:Go.Sort.HoldsK enc k w blk off d) (hblk:blk < w.heap.size) (hsz:d.size < 4611686018427387904),
  Calls P sf #[.slice (some ⟨blk,off,none⟩) d.size cap,.func (.func g) #[] #[]] w fun e w'=>
   e = .returned (.tuple #[])/\∃ d' n os,Go.Sort.PermIn 0 d.size d d'/\Go.Sort.SortedIn (ltOf cf) 0 d.size d'/\w'=sortWorldK enc k w blk off n d' os
structure El (τ:Type) where
 us:List Value
 fp:List Nat
 t:τ
section
variable {τ:Type} {f:τ->List D} {k:Nat} {w:World} {ok:Nat->Prop}
theorem rows_els (hk:∀ t,(f t).length=k):∀ (ts:List τ) (us:List Value) (fp:List Nat),OwVs w ok (rows f ts) us fp ->
  ∃ els:List (El τ),els.map (·.t)=ts/\us=els.flatMap (·.us)/\fp=els.flatMap (·.fp)/\∀ x∈els,OwVs w ok (f x.t) x.us x.fp
 | [],us,fp,h=>by
  simp only [rows,OwVs] at h
  exact ⟨[],rfl,by simp [h.1],by simp [h.2],by simp⟩
 | t :: ts,us,fp,h=>by
  have hl:=OwVs_length h
  obtain ⟨f1,f2,e,h1,h2⟩:=OwVs_split k h
  have e1:(rows f (t :: ts)).take k=f t:=by
   simp only [rows]
   rw [List.take_append_of_le_length (by rw [hk];exact Nat.le_refl _),List.take_of_length_le (by rw [hk];exact Nat.le_refl _)]
  have e2:(rows f (t :: ts)).drop k=rows f ts:=by
   simp only [rows]
   rw [<-hk t,List.drop_left]
  rw [e1] at h1
  rw [e2] at h2
  obtain ⟨els,g1,g2,g3,g4⟩:=rows_els hk ts _ _ h2
  refine ⟨⟨us.take k,f1,t⟩ :: els,by simp [g1],?_,?_,fun x hx=>?_⟩
  ·simp only [List.flatMap_cons]
   rw [<-g2,List.take_append_drop]
  ·simp only [List.flatMap_cons]
   rw [<-g3,e]
  ·rcases List.mem_cons.1 hx with rfl | hx
   ·exact h1
   ·exact g4 x hx
theorem els_rows:∀ (els:List (El τ)),(∀ x∈els,OwVs w ok (f x.t) x.us x.fp)->OwVs w ok (rows f (els.map (·.t))) (els.flatMap (·.us)) (els.flatMap (·.fp))
 | [],_=>by simp [rows,OwVs]
 | x :: els,h=>by
  simp only [List.map_cons,rows,List.flatMap_cons]
  exact OwVs_append (h x (by simp)) (els_rows els fun y hy=>h y (by simp [hy]))
end
theorem flat_get {α β:Type} {g:α->List β} {k:Nat} (hk:∀ x,(g x).length=k):∀ (l:List α) (j:Nat) (h:j / k < l.length) (h0:0 < k),(l.flatMap g)[j]? = (g (l[j / k]'h))[j % k]?
 | [],j,h,_=>by simp at h
 | x :: l,j,h,h0=>by
  simp only [List.flatMap_cons]
  rcases Nat.lt_or_ge j k with hj | hj
  ·rw [List.getElem?_append_left (by rw [hk];exact hj)]
   simp only [Nat.div_eq_of_lt hj,Nat.mod_eq_of_lt hj,List.getElem_cons_zero]
  ·rw [List.getElem?_append_right (by rw [hk];exact hj),hk]
   obtain ⟨m,rfl⟩:∃ m,j=m+k:=⟨j - k,by omega⟩
   simp only [Nat.add_sub_cancel,Nat.add_div_right _ h0,Nat.add_mod_right,Nat.succ_eq_add_one,List.getElem_cons_succ]
   exact flat_get hk l m (by rw [Nat.add_div_right _ h0] at h;simpa using h) h0
theorem flat_len {α β:Type} {g:α->List β} {k:Nat} (hk:∀ x,(g x).length=k):∀ l:List α,(l.flatMap g).length=l.length*k
 | []=>by simp
 | x :: l=>by simp only [List.flatMap_cons,List.length_append,hk,flat_len hk l,List.length_cons,Nat.add_mul,Nat.one_mul];omega
theorem flatK_get {α:Type} [Inhabited α] {enc:α->List Value} {k:Nat} (hk:∀ x,(enc x).length=k) (d:Array α) (j:Nat) (h:j < d.size*k):(d.toList.flatMap enc)[j]? = some ((Go.Sort.flatK enc k d)[j]!):=by
 have h0:0 < k:=by
  rcases Nat.eq_zero_or_pos k with e | e
  ·subst e;simp at h
  ·exact e
 have hd:j / k < d.size:=(Nat.div_lt_iff_lt_mul h0).2 h
 have hm:j % k < k:=Nat.mod_lt _ h0
 rw [flat_get hk d.toList j (by simpa using hd) h0,Go.Sort.get_flatK _ _ _ _ h]
 rw [getElem!_pos d (j / k) hd,List.getElem?_eq_getElem (by rw [hk];exact hm),getElem!_pos _ (j % k) (by rw [hk];exact hm)]
 simp
theorem done1 {w w':World} {ok:Nat->Prop} {ρ:Rn->Value} {fp0:List Nat} {d:D} {fp':List Nat} (hns:noSh d) (ho:Ow w' ok d (ρ (0,0)) fp') (hnd:fp'.Nodup)
  (hb:∀ b∈fp',¬ ok b/\(b∈fp0\/w.heap.size<=b)/\b < w'.heap.size) (hf:Keeps w fp0 w') (hok:∀ b,ok b->b < w.heap.size) :
  Done w ok ρ fp0 [(0,0)] true [d] [] (.tuple #[]) w' ok (fun _=>fp') []:=by
 have key:∀ {r:Rn} {e:D},ofR ([((0,0):Rn)].zip [d]) r=some e->r=(0,0)/\e=d:=fun {r e} h=>by
  simp only [List.zip_cons_cons,List.zip_nil_left,ofR] at h
  split at h
  ·rename_i e2
   simp only [Option.some.injEq] at h
   exact ⟨by first | exact e2 | exact e2.symm,h.symm⟩
  ·simp at h
 refine ⟨rfl,fun r e he=>?_,fun r r' e e' hne he he'=>?_,⟨[],rfl,by simp [OwRs]⟩,List.nodup_nil,by simp,by simp,hf,fun _ h=>h,fun b h=>⟨.inl h,Nat.lt_of_lt_of_le (hok b h) hf.size⟩⟩
 ·obtain ⟨rfl,rfl⟩:=key he
  exact ⟨by simpa using Ow_nosh _ _ _ hns ho,hnd,hb⟩
 ·exact absurd ((key he).1.trans (key he').1.symm) hne
theorem ShV_d {w:World} {ok:Nat->Prop} {σ:St} {ρ:Rn->Value}:∀ {ds:List D} {us:List Value},ShV w ok ds us->FRL w ok σ ρ (ds.map .d) us
 | [],us,h=>by simpa [ShV,FRL] using h
 | d :: ds,us,h=>by
  simp only [ShV] at h
  obtain ⟨u,vs,rfl,h1,h2⟩:=h
  simp only [List.map_cons,FRL]
  exact ⟨u,vs,rfl,by simpa [FR] using h1,ShV_d h2⟩
theorem ShV_share {w:World} {ok ok':Nat->Prop} (hk:∀ b,ok b->ok' b):∀ {ds:List D} {us:List Value} {fp:List Nat},OwVs w ok ds us fp->(∀ b∈fp,ok' b)->ShV w ok' (shareL ds) us
 | [],us,fp,h,_=>by
  simp only [OwVs] at h
  simp [shareL,ShV,h.1]
 | d :: ds,us,fp,h,hf=>by
  simp only [OwVs] at h
  obtain ⟨u,vs,f1,f2,rfl,rfl,h1,h2⟩:=h
  simp only [shareL,ShV]
  exact ⟨u,vs,rfl,Sh_share hk d u f1 (fun b hb=>hf b (by simp [hb])) h1,ShV_share hk h2 fun b hb=>hf b (by simp [hb])⟩
theorem OwVs_world {w w':World} {ok:Nat->Prop} (hk:∀ b,ok b->w'.heap[b]? = w.heap[b]?):∀ {ds:List D} {us:List Value} {fp:List Nat},OwVs w ok ds us fp->(∀ b∈fp,w'.heap[b]? = w.heap[b]?)->OwVs w' ok ds us fp
 | [],us,fp,h,_=>by simpa only [OwVs] using h
 | d :: ds,us,fp,h,hf=>by
  simp only [OwVs] at h ⊢
  obtain ⟨u,vs,f1,f2,rfl,rfl,h1,h2⟩:=h
  exact ⟨u,vs,f1,f2,rfl,rfl,Ow_mono (fun b hb=>⟨hb,hk b hb⟩) _ _ _ (fun b hb=>hf b (by simp [hb])) h1,OwVs_world hk h2 fun b hb=>hf b (by simp [hb])⟩
theorem grow_of_keeps {w w':World} (h:Keeps w [] w'):∃ q os',w'=Go.Sort.grow (w.drewN q) os':=by
 refine ⟨w'.drawn - w.drawn,w'.heap.extract w.heap.size w'.heap.size,?_⟩
 have hh:w'.heap=w.heap ++ w'.heap.extract w.heap.size w'.heap.size:=by
  apply Array.ext_getElem?
  intro i
  rw [Array.getElem?_append]
  split
  ·rename_i hi
   exact h.old i hi (by simp)
  ·rename_i hi
   rw [Array.getElem?_extract]
   have hs:=h.size
   rcases Nat.lt_or_ge i w'.heap.size with h1 | h1
   ·rw [if_pos (by omega),show w.heap.size+(i - w.heap.size)=i by omega]
   ·rw [if_neg (by omega),Array.getElem?_eq_none (by omega)]
 have h1:=h.os
 have h2:=h.out
 have h3:=h.tape
 have h4:=h.drawn
 cases w' with
 | mk heap tape drawn os output=>
  cases w with
  | mk heap2 tape2 drawn2 os2 output2=>
   simp only at h1 h2 h3 h4 hh
   subst h1;subst h2;subst h3
   simp only [Go.Sort.grow,World.drewN]
   congr 1
   omega
theorem cmp_call {P:Program} {g:Nat} {cx cy:List D} {c:Int} (h:ACalls P g [.ag ((shareL cx).map .d),.ag ((shareL cy).map .d)] [] true (fun outs res=>outs=[]/\res=[.one (D.int c)])) {w:World} {ok:Nat->Prop} {ux uy:List Value} {fx fy:List Nat}
  (hx:OwVs w ok cx ux fx) (hy:OwVs w ok cy uy fy) (hfx:∀ b∈fx,b < w.heap.size) (hfy:∀ b∈fy,b < w.heap.size) (hok:∀ b,ok b->b < w.heap.size) :
  Calls P g (#[.agg ux.toArray,.agg uy.toArray] ++ #[]) w fun e w'=>e = .returned (.int .i64 c)/\∃ q os',w'=Go.Sort.grow (w.drewN q) os':=by
 have h1:=ShV_share (ok':=fun b=>ok b\/b∈fx\/b∈fy) (fun b hb=>.inl hb) hx (fun b hb=>.inr (.inl hb))
 have h2:=ShV_share (ok':=fun b=>ok b\/b∈fx\/b∈fy) (fun b hb=>.inl hb) hy (fun b hb=>.inr (.inr hb))
 have:=h.2 w [] (fun b=>ok b\/b∈fx\/b∈fy) [.agg ux.toArray,.agg uy.toArray] (fun _=>undef) (fun _=>[]) rfl ⟨fun r d hd=>by simp [ofR] at hd,fun r r' d d' _ hd=>by simp [ofR] at hd,fun t=>by
  match t with
  | 0=>
   simp only [argEnv,List.getD_cons_zero,FR]
   exact ⟨_,rfl,ShV_d (by simpa using h1)⟩
  | 1=>
   simp only [argEnv,List.getD_cons_succ,List.getD_cons_zero,FR]
   exact ⟨_,rfl,ShV_d (by simpa using h2)⟩
  | t+2=>simp [argEnv,FR],fun b hb=>by rcases hb with hb | hb | hb;exact hok b hb;exact hfx b hb;exact hfy b hb,Keeps.refl w []⟩
 have e0:(#[.agg ux.toArray,.agg uy.toArray] ++ #[]:Array Value)=[Value.agg ux.toArray,Value.agg uy.toArray].toArray:=by simp
 rw [e0]
 refine Calls.mono this ?_
 rintro e w' ⟨v,outs,res,ok',φ',fr,rfl,⟨rfl,rfl⟩,hd⟩
 obtain ⟨vs,e1,e2⟩:=hd.res
 simp only [OwRs,OwRV,if_true] at e2
 obtain ⟨u,us,f1,f2,rfl,_,k1,k2,_⟩:=e2
 subst k2
 simp only [Ow] at k1
 refine ⟨?_,grow_of_keeps hd.frm⟩
 rw [e1,k1.2]
 rfl
section
variable {α:Type} [Inhabited α] {enc:α->List Value} {k:Nat} {w:World} {b o:Nat}
theorem srt_other (m:Nat) (d:Array α) (os:Array Obj) {c:Nat} (hc:c≠b) (hs:c < w.heap.size):(sortWorldK enc k w b o m d os).heap[c]? = w.heap[c]?:=by
 unfold sortWorldK
 rw [Go.Sort.heap_grow_old _ _ (by simpa [Go.Sort.putRowK] using hs)]
 simp [Go.Sort.putRowK,Go.Sort.putRow,Go.Sort.mapBlock,Array.getElem?_modify,Ne.symm hc]
theorem srt_blk (m:Nat) (d:Array α) (os:Array Obj) {arr:Array Value} {T:Nat} {fr:Nat×Nat} (h:w.heap[b]? = some (.cells arr T fr)):∃ arr',(sortWorldK enc k w b o m d os).heap[b]? = some (.cells arr' T fr)/\arr'.size=arr.size:=by
 have hb:b < w.heap.size:=by
  rcases Nat.lt_or_ge b w.heap.size with hh | hh
  ·exact hh
  ·rw [Array.getElem?_eq_none (by omega)] at h;simp at h
 refine ⟨Go.Sort.putCells id o (Go.Sort.flatK enc k d) arr,?_,by simp [Go.Sort.putCells]⟩
 unfold sortWorldK
 rw [Go.Sort.heap_grow_old _ _ (by simpa [Go.Sort.putRowK] using hb)]
 simp [Go.Sort.putRowK,Go.Sort.putRow,Go.Sort.mapBlock,Array.getElem?_modify,h,Go.Sort.onCells]
theorem srt_keeps (m:Nat) (d:Array α) (os:Array Obj) {fp0:List Nat} (hb:b∈fp0):Keeps w fp0 (sortWorldK enc k w b o m d os):=by
 refine ⟨rfl,rfl,rfl,?_,?_,fun c hc hn=>srt_other m d os (fun e=>hn (e ▸ hb)) hc⟩
 ·show w.drawn<=w.drawn+m
  omega
 ·simp [sortWorldK,Go.Sort.putRowK]
end
theorem permIn_all {α:Type} [Inhabited α] {d d':Array α} (h:Go.Sort.PermIn 0 d.size d d'):d'.toList.Perm d.toList:=by
 obtain ⟨h1,_,h3⟩:=h
 have e1:d'.extract 0 d.size=d':=by rw [<-h1];exact Array.extract_size
 rwa [e1,Array.extract_size] at h3
theorem sortedIn_all {α:Type} [Inhabited α] {lt:α->α->Bool} {d d':Array α} (hs:d'.size=d.size) (h:Go.Sort.SortedIn lt 0 d.size d'):d'.toList.Pairwise fun a b=>lt b a=false:=by
 rw [List.pairwise_iff_getElem]
 intro i j hi hj hij
 simp only [Array.length_toList] at hi hj
 have:=h i j (Nat.zero_le _) hij (by omega)
 rwa [getElem!_pos d' i hi,getElem!_pos d' j hj] at this
theorem ACalls.mono {P:Program} {f:Nat} {args:List FV} {ros:List (Rn×D)} {pure:Bool} {Q Q':List D->List RV->Prop} (h:ACalls P f args ros pure Q) (hq:∀ outs res,Q outs res->Q' outs res):ACalls P f args ros pure Q':=
 ⟨h.1,fun w fp0 ok vs ρ φ hl hR=>(h.2 w fp0 ok vs ρ φ hl hR).mono fun e w' ⟨v,outs,res,ok',φ',fr,he,hQ,hD⟩=>⟨v,outs,res,ok',φ',fr,he,hq _ _ hQ,hD⟩⟩
theorem sort_c {P:Program} {sf k g:Nat} (hcl:Callable P sf) (hS:SfOk P sf k) {τ:Type} {f:τ->List D} (hk:∀ t,(f t).length=k) (hk0:0 < k) (hns:∀ t,noShL (f t)) (hso:∀ ts,solidL (rows f ts)) (cf:τ->τ->Int)
  (hO:Go.Sort.SWO (ltOf cf)) (ts:List τ) (hlen:ts.length < 4611686018427387904)
  (hcmp:∀ x∈ts,∀ y∈ts,ACalls P g [.ag ((shareL (f x)).map .d),.ag ((shareL (f y)).map .d)] [] true (fun outs res=>outs=[]/\res=[.one (D.int (cf x y))])) :
  ACalls P sf [.al (0,0) [] 0 ts.length,.d (.fn g [])] [((0,0),.ow k ts.length (rows f ts))] true (fun outs res=>∃ r:List τ,r.Perm ts/\(r.Pairwise fun a b=>¬ cf b a < 0)/\outs=[.ow k ts.length (rows f r)]/\res=[]):=by
 refine ⟨hcl,fun w fp0 ok vs ρ φ hl hR=>?_⟩
 match vs,hl with
 | [u,fv],_=>
 have h0:=hR.env 0
 have h1:=hR.env 1
 simp only [argEnv,List.getD_cons_zero,List.getD_cons_succ,FR,Sh] at h0 h1
 obtain ⟨k1,N,cs,hv,ho,hh,hN,hsub⟩:=h0
 simp only [hdr,Option.some.injEq] at hh
 subst hh
 obtain ⟨lb,rfl,hlb⟩:=h1
 simp only [ShV] at hlb
 have hlb2:lb = #[]:=by
  apply Array.ext'
  simpa using hlb
 subst hlb2
 have hown:=hR.own (0,0) (.ow k ts.length (rows f ts)) (by simp [ofR])
 obtain ⟨how,hnd,hbl⟩:=hown
 have hsub2:∃ a M c,ρ (0,0) = .slice a M c/\u = .slice a ts.length c:=by
  rcases hsub with ⟨_,a,M,c,e1,e2⟩ | ⟨h,_⟩
  ·exact ⟨a,M,c,e1,e2⟩
  ·omega
 obtain ⟨a,M,c,e1,rfl⟩:=hsub2
 simp only [Ow] at how
 have hns2:∀ r:List τ,noSh (.ow k ts.length (rows f r)):=fun r=>by
  simp only [noSh]
  exact rows_noSh hns r
 rcases how with ⟨hn0,hcs,hfp,a',e2⟩ | ⟨b,o,c',arr,T,fp',e2,hfp,hheap,hcap,harr,hlc,hOL⟩
 ·-- nothing to sort
  have hts:ts=[]:=List.eq_nil_of_length_eq_zero hn0
  subst hts
  rw [e1] at e2
  refine Calls.mono (hS.1 a c (.func (.func g) #[] #[]) w) ?_
  rintro e w' ⟨rfl,rfl⟩
  refine ⟨_,[.ow k 0 (rows f [])],[],ok,fun _=>[],[],rfl,⟨[],List.Perm.nil,List.Pairwise.nil,rfl,rfl⟩,?_⟩
  refine done1 (hns2 []) ?_ List.nodup_nil (by simp) (Keeps.refl _ fp0) hR.okb
  simp only [Ow,rows]
  exact .inl ⟨trivial,trivial,trivial,a',by rw [e1];exact e2⟩
 ·obtain ⟨us,hul,hus,hov⟩:=OwL_read hOL
  obtain ⟨els,het,heu,hef,heo⟩:=rows_els hk ts us fp' hov
  have hnl:els.length=ts.length:=by rw [<-het,List.length_map]
  rw [e1] at e2
  have e3:=Value.slice.inj e2
  obtain ⟨rfl,rfl,rfl⟩:=e3
  have hbm:=hbl b (by rw [hfp];simp)
  have hb0:b∈fp0:=by
   rcases hbm.2.1 with h | h
   ·exact h
   ·omega
  rcases Nat.eq_zero_or_pos ts.length with hz | hpos
  ·have hts:ts=[]:=List.eq_nil_of_length_eq_zero hz
   subst hts
   refine Calls.mono (hS.1 (some ⟨b,o,none⟩) c (.func (.func g) #[] #[]) w) ?_
   rintro e w' ⟨rfl,rfl⟩
   refine ⟨_,[.ow k 0 (rows f [])],[],ok,fun _=>φ (0,0),[],rfl,⟨[],List.Perm.nil,List.Pairwise.nil,rfl,rfl⟩,?_⟩
   refine done1 (hns2 []) ?_ hnd hbl (Keeps.refl _ fp0) hR.okb
   simp only [Ow]
   exact .inr ⟨b,o,c,arr,T,fp',by rw [e1];rfl,hfp,hheap,hcap,harr,hlc,hOL⟩
  ·have hinh:Inhabited (Fin els.length):=⟨⟨0,by omega⟩⟩
   let enc:Fin els.length->List Value:=fun i=>els[i].us
   have henc:∀ i,(enc i).length=k:=fun i=>by
    have:=OwVs_length (heo els[i] (List.getElem_mem i.2))
    show els[i].us.length=k
    rw [this,hk]
   let d:Array (Fin els.length):=Array.ofFn id
   have hds:d.size=ts.length:=by simp [d,hnl]
   have hdl:d.toList.flatMap enc=us:=by
    rw [heu]
    show (Array.ofFn id).toList.flatMap enc=_
    rw [Array.toList_ofFn]
    conv=>rhs;rw [<-List.ofFn_getElem (xs:=els)]
    simp only [List.flatMap,List.map_ofFn]
    rfl
   have hco:∀ i:Fin els.length,cf els[i].t els[i].t=cf els[i].t els[i].t:=fun _=>rfl
   have hmem:∀ i:Fin els.length,els[i].t∈ts:=fun i=>by
    have h9:els[i].t∈els.map (·.t):=List.mem_map.2 ⟨_,List.getElem_mem i.2,rfl⟩
    rwa [het] at h9
   have hO2:Go.Sort.SWO (ltOf fun i j:Fin els.length=>cf els[i].t els[j].t):=⟨fun x=>hO.irrefl _,fun x y z=>hO.trans _ _ _,fun x y z=>hO.ntrans _ _ _⟩
   have hkk:us.length=d.size*k:=by rw [hul,hlc,hds,Nat.mul_comm]
   have hH:Go.Sort.HoldsK enc k w b o d:=fun j hj=>by
    rw [Go.Sort.size_flatK] at hj
    refine ⟨?_,not_frozen hheap⟩
    have:=flatK_get henc d j hj
    rw [hdl] at this
    exact hus j _ this
   have hfne:∀ x∈fp',x≠b:=fun x hx e=>by
    subst e
    rw [hfp] at hnd
    exact (List.nodup_cons.1 hnd).1 hx
   have hfb:∀ x∈fp',x < w.heap.size:=fun x hx=>(hbl x (by rw [hfp];simp [hx])).2.2
   have hC:CmpLays P g #[] enc k (fun i j:Fin els.length=>cf els[i].t els[j].t) b o d.size w:=fun m os dk hdk x y=>by
    have hw:∀ i:Fin els.length,OwVs (sortWorldK enc k w b o m dk os) ok (f els[i].t) (enc i) els[i].fp:=fun i=>by
     have hsub:∀ q∈els[i].fp,q∈fp':=fun q hq=>by rw [hef];exact List.mem_flatMap.2 ⟨_,List.getElem_mem i.2,hq⟩
     refine OwVs_world (fun q hq=>srt_other m dk os ?_ (hR.okb q hq)) (heo els[i] (List.getElem_mem i.2)) fun q hq=>srt_other m dk os (hfne q (hsub q hq)) (hfb q (hsub q hq))
     rintro rfl
     exact hbm.1 hq
    have hgs:=size_sortWorldK_c enc k w b o m dk os
    have hfi:∀ i:Fin els.length,∀ q∈els[i].fp,q < (sortWorldK enc k w b o m dk os).heap.size:=fun i q hq=>Nat.lt_of_lt_of_le (hfb q (by rw [hef];exact List.mem_flatMap.2 ⟨_,List.getElem_mem i.2,hq⟩)) hgs
    exact cmp_call (hcmp _ (hmem x) _ (hmem y)) (hw x) (hw y) (hfi x) (hfi y) fun q hq=>Nat.lt_of_lt_of_le (hR.okb q hq) hgs
   obtain ⟨fn,cd,hf1,hf2,hf3⟩:=(hcmp _ (hmem ⟨0,by omega⟩) _ (hmem ⟨0,by omega⟩)).1
   have h1c:∀ x,∀ v∈enc x,v.oneCell'=true:=fun x v hv=>by
    refine OwVs_solid ?_ (heo els[x] (List.getElem_mem x.2)) v hv
    have:=hso [els[x].t]
    simpa [rows] using this
   have hcall:=hS.2 (Fin els.length) enc henc h1c (fun i j=>cf els[i].t els[j].t) hO2 g b o c d w (enters_of hf1 hf3 hf2) hC hH hbm.2.2 (by omega)
   rw [hds] at hcall
   refine Calls.mono hcall ?_
   rintro e w' ⟨rfl,d',m,os,hp,hsd,rfl⟩
   have hpl:=permIn_all (d:=d) (by rw [hds];exact hp)
   have hdd:d.toList=List.finRange els.length:=by
    show (Array.ofFn id).toList=_
    rw [Array.toList_ofFn]
    rfl
   have hsz':d'.size=ts.length:=hp.1.trans hds
   let el2:List (El τ):=d'.toList.map fun i=>els[i]
   have hpe:el2.Perm els:=by
    have h2:=hpl.map fun i:Fin els.length=>els[i]
    refine h2.trans (List.Perm.of_eq ?_)
    show (Array.ofFn id).toList.map _=els
    rw [Array.toList_ofFn,List.map_ofFn]
    exact List.ofFn_getElem
   refine ⟨_,[.ow k ts.length (rows f (el2.map (·.t)))],[],ok,fun _=>b :: el2.flatMap (·.fp),[],rfl,⟨el2.map (·.t),by rw [<-het];exact hpe.map _,?_,rfl,rfl⟩,?_⟩
   ·have:=sortedIn_all hp.1 (by rw [hds];exact hsd)
    rw [List.pairwise_map,List.pairwise_map]
    refine this.imp fun h=>?_
    simpa [ltOf] using h
   ·have hpf:(el2.flatMap (·.fp)).Perm fp':=by rw [hef];exact hpe.flatMap_right _
    obtain ⟨arr',hb',hsa⟩:=srt_blk (enc:=enc) (k:=k) (o:=o) m d' os hheap
    have hgs:=size_sortWorldK_c enc k w b o m d' os
    refine done1 (hns2 _) ?_ ?_ ?_ (srt_keeps m d' os hb0) hR.okb
    ·simp only [Ow]
     refine .inr ⟨b,o,c,arr',T,el2.flatMap (·.fp),e1,rfl,hb',hcap,by rw [hsa];exact harr,?_,?_⟩
     ·rw [rows_length hk,List.length_map,List.length_map,Array.length_toList,hsz']
     ·have hov2:OwVs w ok (rows f (el2.map (·.t))) (el2.flatMap (·.us)) (el2.flatMap (·.fp)):=els_rows el2 fun x hx=>heo x (hpe.subset hx)
      have hflat:el2.flatMap (·.us)=d'.toList.flatMap enc:=by
       show (d'.toList.map _).flatMap _=_
       rw [List.flatMap_map]
      refine OwL_lay (fun q hq=>srt_other m d' os ?_ (hR.okb q hq)) hov2 (fun j v hj=>?_) fun q hq=>srt_other m d' os (hfne q (hpf.subset hq)) (hfb q (hpf.subset hq))
      ·rintro rfl
       exact hbm.1 hq
      ·have hHs:=holdsK_sortWorldK_c enc k w b o d d' m os hH hbm.2.2 hp.1
       have hj2:j < d'.size*k:=by
        rcases Nat.lt_or_ge j (d'.toList.flatMap enc).length with h | h
        ·rwa [flat_len henc,Array.length_toList] at h
        ·rw [hflat,List.getElem?_eq_none h] at hj;simp at hj
       rw [hflat,flatK_get henc d' j hj2] at hj
       simp only [Option.some.injEq] at hj
       rw [<-hj]
       exact (hHs j (by rw [Go.Sort.size_flatK];exact hj2)).1
    ·refine List.nodup_cons.2 ⟨fun h=>hfne b (hpf.subset h) rfl,hpf.nodup_iff.2 ?_⟩
     rw [hfp] at hnd
     exact (List.nodup_cons.1 hnd).2
    ·intro q hq
     rcases List.mem_cons.1 hq with rfl | hq
     ·exact ⟨hbm.1,.inl hb0,Nat.lt_of_lt_of_le hbm.2.2 hgs⟩
     ·have:=hbl q (by rw [hfp];simp [hpf.subset hq])
      exact ⟨this.1,this.2.1,Nat.lt_of_lt_of_le this.2.2 hgs⟩
end Go.Proofs.Ytfcgcgmleogamaa.Ab
namespace Go.Proofs.Ytfcgcgmleogamaa.Ab
open Go
set_option maxRecDepth 10000
set_option maxHeartbeats 2000000
attribute [local simp] mapKV flatInt tileB
def SortOk:Prop:=∀ (ts:List Trm),(∀ t∈ts,t.e.length < 4611686018427387904)->(ts.map (·.e)).Nodup->ts.length < 4611686018427387904 ->
 ACalls Try.prog F.slices_SortFunc_impl_Term_impl_Term [.al (0,0) [] 0 ts.length,.d (.fn F.impl_building_done_1 [])] [((0,0),.ow 2 ts.length (rows tO ts))] true (fun outs res=>∃ r:List Trm,r.Perm ts/\DescT r/\outs=[.ow 2 ts.length (rows tO r)]/\res=[])
theorem insK_len_eq {K:Type} [DecidableEq K] {lt:K->K->Bool} {k:K} {c:Int} (hc:c≠0):∀ l:List (K×Int),(∀ x∈l,x.1≠k)->(insK lt k c l).length=l.length+1
 | [],_=>by simp [insK,hc]
 | x :: l,h=>by
  simp only [insK]
  rw [if_neg (h x (by simp))]
  split
  ·first | rfl | (rw [if_neg hc];rfl)
  ·simp [insK_len_eq hc l fun y hy=>h y (by simp [hy])]
theorem nf_len_eq {K:Type} [DecidableEq K] {lt:K->K->Bool}:∀ l:List (K×Int),(l.map (·.1)).Nodup->(∀ x∈l,x.2≠0)->(nf lt l).length=l.length
 | [],_,_=>rfl
 | x :: l,h,hz=>by
  simp only [List.map_cons,List.nodup_cons] at h
  simp only [nf]
  rw [insK_len_eq (hz x (by simp)),nf_len_eq l h.2 fun y hy=>hz y (by simp [hy])]
  ·rfl
  ·intro y hy e
   obtain ⟨z,hz,e2⟩:=nf_mem hy
   exact h.1 (List.mem_map.2 ⟨z,hz,by rw [e2,e]⟩)
theorem unpad_inj {n:Nat} {es l:List (List Int×Int)} (h:MapR n es l):((es.map (unpadT n)).map (·.1)).Nodup:=by
 have:∀ es:List (List Int×Int),(es.map (·.1)).Nodup->(∀ x∈es,∃ e,e.length=n/\x.1=pad e)->((es.map (unpadT n)).map (·.1)).Nodup:=by
  intro es
  induction es with
  | nil=>intro _ _;simp
  | cons x es ih=>
   intro hn hp
   simp only [List.map_cons,List.nodup_cons] at hn ⊢
   refine ⟨fun hm=>?_,ih hn.2 fun y hy=>hp y (by simp [hy])⟩
   obtain ⟨y,hy,e⟩:=List.mem_map.1 hm
   obtain ⟨z,hz,rfl⟩:=List.mem_map.1 hy
   obtain ⟨a,ha,e1⟩:=hp x (by simp)
   obtain ⟨b,hb,e2⟩:=hp z (by simp [hz])
   refine hn.1 (List.mem_map.2 ⟨z,hz,?_⟩)
   simp only [unpadT] at e
   rw [e1,e2] at e ⊢
   have q1:(pad a).take n=a:=by rw [<-ha];exact pad_take
   have q2:(pad b).take n=b:=by rw [<-hb];exact pad_take
   rw [q1,q2] at e
   rw [e]
 exact this es h.nod fun x hx=>(h.nz x hx).2
theorem unpad_nf2 {n:Nat} {es l:List (List Int×Int)} (h:MapR n es l) (hl:∀ x∈l,x.1.length=n):nf lexlt (es.map (unpadT n))=nf lexlt l:=
 nf_unique lexOrd (nf_desc lexOrd _) (nf_nz _) fun k=>by rw [nf_co,unpad_co h hl]
theorem unpad_len {n:Nat} {es l:List (List Int×Int)} (h:MapR n es l) (hl:∀ x∈l,x.1.length=n):(nf lexlt l).length=es.length:=by
 rw [<-unpad_nf2 h hl,nf_len_eq _ (unpad_inj h),List.length_map]
 intro x hx
 obtain ⟨y,hy,rfl⟩:=List.mem_map.1 hx
 exact (h.nz y hy).1
theorem shutF_many {n:Nat} {es l:List (List Int×Int)} (h:MapR n es l) (hl:∀ x∈l,x.1.length=n) (hm:600 < es.length):shutF n l=(zeroF,false):=by
 unfold shutF
 rw [if_neg]
 intro hr
 have:=hr.2.1
 simp only [List.length_map] at this
 rw [unpad_len h hl] at this
 omega
theorem erase_perm {α:Type}:∀ (l:List α) (i:Nat) (h:i < l.length),(l[i] :: l.eraseIdx i).Perm l
 | [],i,h=>by simp at h
 | x :: l,0,h=>by simp
 | x :: l,i+1,h=>by
  simp only [List.getElem_cons_succ,List.eraseIdx_cons_succ]
  exact (List.Perm.swap ..).trans (List.Perm.cons x (erase_perm l i (by simpa using h)))
theorem sh8 (n:Nat) (k0 k1 k2 k3 k4 k5 k6 k7:Int):shareL (List.take n [D.v (.int .i64 k0),D.v (.int .i64 k1),D.v (.int .i64 k2),D.v (.int .i64 k3),D.v (.int .i64 k4),D.v (.int .i64 k5),D.v (.int .i64 k6),D.v (.int .i64 k7)])=ints (List.take n [k0,k1,k2,k3,k4,k5,k6,k7]):=by
 rw [show ([D.v (.int .i64 k0),D.v (.int .i64 k1),D.v (.int .i64 k2),D.v (.int .i64 k3),D.v (.int .i64 k4),D.v (.int .i64 k5),D.v (.int .i64 k6),D.v (.int .i64 k7)]:List D)=ints [k0,k1,k2,k3,k4,k5,k6,k7] from rfl,ints_take,shareL_ints]
theorem impl_building_done_1_c (x y:Trm) (hx:x.e.length < 4611686018427387904) (hy:y.e.length < 4611686018427387904):ACalls Try.prog F.impl_building_done_1 [.ag [.d (shI x.e),.int x.c],.ag [.d (shI y.e),.int y.c]] [] true (fun outs res=>outs=[]/\res=[.one (D.int (cmpL y.e x.e))]):=by
 refine ACalls.of_body (C:=C.impl_building_done_1) (n:=Try.f175.ntmps) tabT folT Try.func175 rfl (by kernel_rfl) rfl (Nat.le_of_ble_eq_true rfl) (by decide) (by kernel_rfl) (by kernel_rfl) rfl (by simp) (by simp) ?_
 simp only [Try.f175]
 refine wseq ?_
 refine wreg fun K hK=>?_
 simp [C.impl_building_done_1]
 refine hK _ ?_;clear hK K
 show AWp _ _ _ _ _
 refine wseq ?_
 refine wregI ([0,1,2,3,4] ++ ([5])) rfl fun K hK=>?_
 refine oSg fun L hL=>?_
 simp [C.impl_building_done_1]
 refine wcall1 (slices_Compare_int_int_c y.e x.e hy) (by simp) (by simp) ?_
 simp [C.impl_building_done_1]
 refine hL _ ?_;clear hL L
 refine oEn fun L hL=>?_
 simp [C.impl_building_done_1]
 refine hL _ ?_;clear hL L
 simp [C.impl_building_done_1]
 refine hK _ ?_;clear hK K
 show AWp _ _ _ _ _
 refine wret ?_
 simp [C.impl_building_done_1]
theorem impl_building_done_c (hSort:SortOk) (n:Nat) (es l:List (List Int×Int)) (hM:MapR n es l) (hl:∀ x∈l,x.1.length=n) (h1:1<=n) (h8:n<=8) (hL:l.length<=1000000):ACalls Try.prog F.impl_building_done [.pt (0,0) [] 0] [((0,0),.bx [D.int n,.mp es])] true (fun outs res=>outs=[.bx [D.int n,.mp es]]/\WkRs res [.ag (fO (shutF n l).1),.one (D.bool (shutF n l).2)]):=by
 refine ACalls.of_body (C:=C.impl_building_done) (n:=Try.f133.ntmps) tabT folT Try.func133 rfl (by kernel_rfl) rfl (Nat.le_of_ble_eq_true rfl) (by decide) (by kernel_rfl) (by kernel_rfl) rfl (by simp) (by simp) ?_
 simp only [Try.f133]
 refine wseq ?_
 refine wreg fun K hK=>?_
 simp [C.impl_building_done]
 refine hK _ ?_;clear hK K
 show AWp _ _ _ _ _
 refine wseq ?_
 refine wreg fun K hK=>?_
 simp [C.impl_building_done]
 refine hK _ ?_;clear hK K
 show AWp _ _ _ _ _
 refine wseq ?_
 refine wseq ?_
 refine wreg fun K hK=>?_
 simp [C.impl_building_done]
 refine hK _ ?_;clear hK K
 show AWp _ _ _ _ _
 refine wcond _ rfl (fun hc1=>?_) (fun hc1=>?_)
 ·have hm:=shutF_many hM hl (by have:=d_t hc1;omega)
  refine wseq ?_
  refine wreg fun K hK=>?_
  simp [C.impl_building_done]
  refine hK _ ?_;clear hK K
  show AWp _ _ _ _ _
  refine wret ?_
  simp [C.impl_building_done,hm,fO,zeroF,rows]
 ·have h600:es.length<=600:=by have:=d_f hc1;omega
  refine wskip ?_
  show AWp _ _ _ _ _
  refine wseq ?_
  refine wseq ?_
  refine wreg fun K hK=>?_
  simp [C.impl_building_done]
  refine hK _ ?_;clear hK K
  show AWp _ _ _ _ _
  refine wblock ?_
  refine wloopW (fun x:List Trm×List (List Int×Int)×Option (List Int×Int)=>⟨ofL [(0,.pt (0,0) [] 0),(2,.pt (2,0) [] 0),(4,.pt (4,0) [] 0),(23,.it (23,0) (0,0) [1] x.2.1 x.2.2),(1000,.pt (0,0) [] 0)],ofRO [((0,0),some (.bx [D.int n,.mp es])),((2,0),some (.bx [D.int 0,.v (.slice none 0 0)])),((4,0),some (.bx [D.int n,.ow 2 x.1.length (rows tO x.1)])),((23,0),some .itr)]⟩) (fun x=>(x.1.map pr ++ x.2.1.map (unpadT n)).Perm (es.map (unpadT n))/\∀ y∈x.2.1,y∈es) (fun x=>x.2.1.length) ([],es,none) [.cell (4,0) [] 1 2] (by simp [C.impl_building_done,rows];funext q;by_cases e4:q=(4,0);(subst e4;rfl);by_cases e9:q=(9999,0);(subst e9;rfl);simp [ofRO,e4,e9,Ne.symm e4]) ⟨by simp,fun y hy=>hy⟩ ?_
  intro x1 hx1 R1 hR1
  obtain ⟨q,rest,cur⟩:=x1
  obtain ⟨hq,hin⟩:=hx1
  dsimp only at hq hin ⊢
  refine wseq ?_
  refine wreg fun K hK=>?_
  simp [C.impl_building_done]
  refine ⟨fun hrest=>?_,fun i xk xc hx=>?_⟩
  ·refine hK _ ?_;clear hK K
   show AWp _ _ _ _ _
   refine wseq ?_
   refine wcond _ rfl (fun hc2=>?_) (fun hc2=>?_)
   ·simp at hc2
   ·subst hrest
    have hq2:(q.map pr).Perm (es.map (unpadT n)):=by simpa using hq
    have hqe:∀ t∈q,t.e.length=n:=fun t ht=>by
     have h3:=hq2.subset (List.mem_map.2 ⟨t,ht,rfl⟩)
     obtain ⟨y,hy,e⟩:=List.mem_map.1 h3
     have e2:t.e=y.1.take n:=by
      have:=congrArg Prod.fst e
      simpa [pr,unpadT] using this.symm
     rw [e2,List.length_take,hM.len8 h8 y hy]
     omega
    have hqn:(q.map (·.e)).Nodup:=by
     have h3:=(hq2.map (·.1)).nodup_iff.2 (unpad_inj hM)
     rw [List.map_map] at h3
     exact h3
    have hql:q.length=es.length:=by simpa using hq2.length_eq
    refine wexit ?_
    show AWp _ _ _ _ _
    refine wseq ?_
    refine wregI ([0,1,2] ++ ([])) rfl fun K hK=>?_
    refine oSg fun L hL=>?_
    simp [C.impl_building_done]
    refine wcall (hSort q (fun t ht=>by have:=hqe t ht;omega) hqn (by omega)) (by simp) (by simp) (by simp) ?_
    rintro outs res ⟨r,hr,hd,rfl,rfl⟩
    simp [C.impl_building_done]
    refine hL _ ?_;clear hL L
    refine oEn fun L hL=>?_
    simp only [AOpsI]
    refine hL _ ?_;clear hL L
    simp [C.impl_building_done]
    refine hK _ ?_;clear hK K
    show AWp _ _ _ _ _
    refine wseq ?_
    refine wseq ?_
    have hrl:r.length=q.length:=hr.length_eq
    have hrn:r.map pr=nf lexlt l:=unpad_nf hM hl ((hr.map pr).trans hq2) (by
     unfold Desc
     rw [List.pairwise_map]
     exact hd)
    have hrt:(nf lexlt l).map tm=r:=by
     rw [<-hrn,List.map_map]
     have:tm ∘ pr=id:=rfl
     rw [this,List.map_id]
    refine wregI ([0,1] ++ ([2])) rfl fun K hK=>?_
    refine oSg fun L hL=>?_
    simp [C.impl_building_done,hrl]
    refine wcall1 (impl_LaurentOk_c ⟨n,r⟩ (by dsimp only;omega) (fun t ht=>by have:=hqe t (hr.subset ht);omega)) (by simp [hrl]) (by simp) ?_
    simp [C.impl_building_done,hrl]
    refine hL _ ?_;clear hL L
    refine oEn fun L hL=>?_
    simp [C.impl_building_done,hrl]
    refine hL _ ?_;clear hL L
    simp [C.impl_building_done,hrl]
    refine hK _ ?_;clear hK K
    show AWp _ _ _ _ _
    refine wcond _ rfl (fun hc3=>?_) (fun hc3=>?_)
    ·have hR:¬ Right ⟨n,r⟩:=by simpa using hc3
     have hm:shutF n l=(zeroF,false):=by unfold shutF;rw [hrt,if_neg hR]
     refine wseq ?_
     refine wreg fun K hK=>?_
     simp [C.impl_building_done]
     refine hK _ ?_;clear hK K
     show AWp _ _ _ _ _
     refine wret ?_
     simp [C.impl_building_done,hm,fO,zeroF,rows]
    ·have hR:Right ⟨n,r⟩:=by simpa using hc3
     have hm:shutF n l=(⟨n,r⟩,true):=by unfold shutF;rw [hrt,if_pos hR]
     refine wskip ?_
     show AWp _ _ _ _ _
     refine wseq ?_
     refine wreg fun K hK=>?_
     simp [C.impl_building_done]
     refine hK _ ?_;clear hK K
     show AWp _ _ _ _ _
     refine wret ?_
     simp [C.impl_building_done,hm,fO,hrl]
  ·refine hK _ ?_;clear hK K
   show AWp _ _ _ _ _
   refine wseq ?_
   refine wcond _ rfl (fun hc4=>?_) (fun hc4=>?_)
   ·have hxm:(xk,xc)∈rest:=List.mem_of_getElem? hx
    have hxl:=hM.len8 h8 _ (hin _ hxm)
    dsimp only at hxl
    obtain ⟨k0,k1,k2,k3,k4,k5,k6,k7,rfl⟩:=eight hxl
    have hql:q.length+rest.length=es.length:=by simpa using hq.length_eq
    have hil:i < rest.length:=by
     rcases Nat.lt_or_ge i rest.length with h | h
     ·exact h
     ·rw [List.getElem?_eq_none h] at hx;simp at hx
    refine wskip ?_
    show AWp _ _ _ _ _
    refine wblock ?_
    refine wseq ?_
    refine wreg fun K hK=>?_
    simp [C.impl_building_done]
    refine hK _ ?_;clear hK K
    show AWp _ _ _ _ _
    refine wdrawI [(true,0),(true,1),(true,2),(true,3),(true,4),(true,5),(true,6),(true,8),(false,7),(true,9),(false,10),(false,11),(true,12),(false,13)] ⟨by kernel_rfl,by kernel_rfl⟩ ([0,1,2,3,4,5,6,8,7] ++ ([9,10,11,12,13])) rfl fun K hK=>?_
    refine oSg fun L hL=>?_
    simp [C.impl_building_done,tO_snoc,show ((n:Int)<=8) by omega,h8,Nat.min_eq_left h8,sh8,show (q.length+1)*32<=140737488355328 by omega]
    refine wcall1 (clone_c ([k0,k1,k2,k3,k4,k5,k6,k7].take n) (by simp;omega)) (by simp [tO_snoc,show ((n:Int)<=8) by omega,h8,Nat.min_eq_left h8,sh8,show (q.length+1)*32<=140737488355328 by omega]) (by simp) ?_
    simp [C.impl_building_done,tO_snoc,show ((n:Int)<=8) by omega,h8,Nat.min_eq_left h8,sh8,show (q.length+1)*32<=140737488355328 by omega]
    refine hL _ ?_;clear hL L
    refine oEn fun L hL=>?_
    simp [C.impl_building_done,tO_snoc,show ((n:Int)<=8) by omega,h8,Nat.min_eq_left h8,sh8,show (q.length+1)*32<=140737488355328 by omega]
    refine hL _ ?_;clear hL L
    simp [C.impl_building_done,tO_snoc,show ((n:Int)<=8) by omega,h8,Nat.min_eq_left h8,sh8,show (q.length+1)*32<=140737488355328 by omega]
    refine hK _ ?_;clear hK K
    simp [C.impl_building_done]
    have htl:([k0,k1,k2,k3,k4,k5,k6,k7].take n).length=n:=by simp;omega
    have hrow:rows tO q ++ [D.ow 1 n (ints (List.take n [k0,k1,k2,k3,k4,k5,k6,k7])),D.v (.int .i64 xc)]=rows tO (q ++ [⟨List.take n [k0,k1,k2,k3,k4,k5,k6,k7],xc⟩]):=by
     rw [<-tO_snoc]
     simp only [htl]
    refine cast (congrArg R1 ?_) (hR1 (q ++ [⟨List.take n [k0,k1,k2,k3,k4,k5,k6,k7],xc⟩],rest.eraseIdx i,some ([k0,k1,k2,k3,k4,k5,k6,k7],xc)) ⟨?_,?_⟩ ?_)
    ·simp [hrow]
    ·dsimp only
     have hget:rest[i]=([k0,k1,k2,k3,k4,k5,k6,k7],xc):=by
      rw [List.getElem?_eq_getElem hil] at hx
      injection hx
     have hper:=erase_perm rest i hil
     rw [hget] at hper
     refine List.Perm.trans ?_ hq
     rw [List.map_append,List.append_assoc]
     exact List.Perm.append_left _ (hper.map (unpadT n))
    ·exact fun y hy=>hin y (List.mem_of_mem_eraseIdx hy)
    ·dsimp only
     rw [List.length_eraseIdx_of_lt hil]
     omega
   ·simp at hc4
end Go.Proofs.Ytfcgcgmleogamaa.Ab
namespace Go.Proofs.Ytfcgcgmleogamaa.Ab
open Go
theorem sfTerm:SfOk Try.prog F.slices_SortFunc_impl_Term_impl_Term 2:=by
 refine ⟨fun p cap fv w=>?_,fun α _ enc hk h1 cf hO g blk off cap d w eg hcmp hH hblk hsz=>?_⟩
 ·have h:=AnyF.slices_SortFunc_none sortTerm p cap fv w
  rw [sortTerm_f6] at h
  exact h
 ·have h:=AnyQ.slices_SortFunc sortTerm 2 sortTerm_agg sortTerm_size enc hk h1 cf hO g #[] blk off cap d w eg hcmp hH hblk hsz
  rw [sortTerm_f6] at h
  exact h
theorem lexlt_ntrans (a b c:List Int) (h1:lexlt a b=false) (h2:lexlt b c=false):lexlt a c=false:=by
 cases h:lexlt a c with
 | false=>rfl
 | true=>
  exfalso
  rcases lexlt_tot a b with h3 | h3 | h3
  ·rw [h1] at h3;simp at h3
  ·subst h3
   rw [h2] at h;simp at h
  ·have:=lexlt_tr b a c h3 h
   rw [h2] at this;simp at this
theorem swoTerm:Go.Sort.SWO (ltOf fun x y:Trm=>cmpL y.e x.e) where
 irrefl x:=by unfold ltOf;rw [cmpL_neg];exact lexlt_irr _
 trans x y z h1 h2:=by
  unfold ltOf at *
  rw [cmpL_neg] at *
  exact lexlt_tr _ _ _ h2 h1
 ntrans x y z h1 h2:=by
  unfold ltOf at *
  rw [cmpL_neg] at *
  exact lexlt_ntrans _ _ _ h2 h1
theorem sortOk:SortOk:=by
 intro ts hts hnd hlen
 have h:=sort_c (P:=Try.prog) (g:=F.impl_building_done_1) ⟨Try.f174,_,Try.func174,rfl,by kernel_rfl⟩ sfTerm tO_two (by omega) (fun t=>by simp [tO,noShL,noSh]) (fun l=>by
  induction l with
  | nil=>trivial
  | cons x l ih=>
   simp only [rows,tO,List.cons_append,List.nil_append,solidL]
   exact ⟨rfl,rfl,ih⟩) (fun x y:Trm=>cmpL y.e x.e) swoTerm ts hlen (fun x hx y hy=>by
  have:=impl_building_done_1_c x y (hts x hx) (hts y hy)
  simpa [tO,shareL,share,shareL_ints] using this)
 refine ACalls.mono h ?_
 rintro outs res ⟨r,h1,h2,h3,h4⟩
 refine ⟨r,h1,?_,h3,h4⟩
 have hnr:(r.map (·.e)).Nodup:=(h1.map (·.e)).nodup_iff.2 hnd
 unfold DescT
 rw [List.Nodup,List.pairwise_map] at hnr
 refine (h2.and hnr).imp ?_
 rintro a b ⟨h5,h6⟩
 have h7:lexlt a.e b.e=false:=by
  rw [<-cmpL_neg]
  simpa using h5
 rcases lexlt_tot a.e b.e with h8 | h8 | h8
 ·rw [h7] at h8;simp at h8
 ·exact absurd h8 h6
 ·exact h8
end Go.Proofs.Ytfcgcgmleogamaa.Ab
namespace Go.Proofs.Ytfcgcgmleogamaa.Ab
open Go
theorem doneOk:DoneOk:=fun n es l hM hl h1 h8 hL=>(impl_building_done_c sortOk n es l hM hl h1 h8 hL).weak1
theorem mulOk:MulOk:=iMul_c doneOk
end Go.Proofs.Ytfcgcgmleogamaa.Ab
namespace Go.Proofs.Ytfcgcgmleogamaa.Ab
open Go
set_option maxRecDepth 10000
set_option maxHeartbeats 2000000
def prk (k:Int) (t:Trm):List Int×Int:=(t.e,k*t.c)
noncomputable def addF (f:Lau) (k:Int) (g:Lau):Lau×Bool:=if (Right f/\Right g/\f.v=g.v)/\(-1000<=k/\k<=1000) then shutF f.v (f.ts.map pr ++ g.ts.map (prk k)) else (zeroF,false)
theorem impl_AddLaurents_c (f:Lau) (k:Int) (g:Lau) (hx:f.ts.length < 4611686018427387904) (hxe:∀ t∈f.ts,t.e.length < 4611686018427387904) (hy:g.ts.length < 4611686018427387904) (hye:∀ t∈g.ts,t.e.length < 4611686018427387904):ACalls Try.prog F.impl_AddLaurents [aF f,.int k,aF g] [] true (fun outs res=>outs=[]/\WkRs res [.ag (fO (addF f k g).1),.one (D.bool (addF f k g).2)]):=by
 refine ACalls.of_body (C:=C.impl_AddLaurents) (n:=Try.f76.ntmps) tabT folT Try.func76 rfl (by kernel_rfl) rfl (Nat.le_of_ble_eq_true rfl) (by decide) (by kernel_rfl) (by kernel_rfl) rfl (by simp) (by simp) ?_
 simp only [Try.f76]
 refine wseq ?_
 refine wreg fun K hK=>?_
 simp [C.impl_AddLaurents,fS]
 refine hK _ ?_;clear hK K
 show AWp _ _ _ _ _
 refine wseq ?_
 refine wseq ?_
 refine wregI ([0,1,2] ++ ([3,4,5,6] ++ ([7,8]))) rfl fun K hK=>?_
 have hJ:K ⟨ofL [(1,.int k),(3,.pt (3,0) [] 0),(5,.pt (5,0) [] 0),(6,.pt (6,0) [] 0),(21,.bool (!decide ((Right f/\Right g/\f.v=g.v)/\(-1000<=k/\k<=1000))))],ofRO [((3,0),some (.bx (fS f))),((5,0),some (.bx (fS g))),((6,0),some (.bx [D.int 0,.v (.slice none 0 0)]))]⟩:=by
  refine hK _ ?_;clear hK K
  show AWp _ _ _ _ _
  refine wcond _ rfl (fun hc1=>?_) (fun hc1=>?_)
  ·have hr:=nd_t hc1
   have hm:addF f k g=(zeroF,false):=if_neg hr
   refine wseq ?_
   refine wreg fun K hK=>?_
   simp [C.impl_AddLaurents,fS]
   refine hK _ ?_;clear hK K
   show AWp _ _ _ _ _
   refine wret ?_
   simp [C.impl_AddLaurents,fS,hm,fO,zeroF,rows]
  ·have hr:=nd_f hc1
   obtain ⟨⟨hf,hg,hfg⟩,hk⟩:=hr
   have hv:=hf.1
   obtain ⟨n,hn⟩:∃ n:Nat,f.v=n:=⟨f.v.toNat,by omega⟩
   have hn2:g.v=n:=by omega
   have hn8:n<=8:=by omega
   have hfl:=hf.2.1
   have hgl:=hg.2.1
   have hm:addF f k g=shutF n (f.ts.map pr ++ g.ts.map (prk k)):=by
    unfold addF
    rw [if_pos ⟨⟨hf,hg,hfg⟩,hk⟩,hn]
   refine wskip ?_
   show AWp _ _ _ _ _
   refine wseq ?_
   refine wregI ([0,1,2] ++ ([3])) rfl fun K hK=>?_
   refine oSg fun L hL=>?_
   simp [C.impl_AddLaurents,fS,hn]
   refine wcall1 (impl_newBuilding_c n) (by simp) (by simp) ?_
   simp [C.impl_AddLaurents,fS,hn]
   refine hL _ ?_;clear hL L
   refine oEn fun L hL=>?_
   simp [C.impl_AddLaurents,fS,hn]
   refine hL _ ?_;clear hL L
   simp [C.impl_AddLaurents,fS,hn]
   refine hK _ ?_;clear hK K
   show AWp _ _ _ _ _
   refine wseq ?_
   refine wseq ?_
   refine wreg fun K hK=>?_
   simp [C.impl_AddLaurents,fS]
   refine hK _ ?_;clear hK K
   show AWp _ _ _ _ _
   refine wblock ?_
   refine wloop (fun x:Nat×List (List Int×Int)×List (List Int×Int)=>⟨ofL [(1,.int k),(5,.pt (5,0) [] 0),(6,.pt (6,0) [] 0),(8,.pt (8,0) [] 0),(27,.d (.sh 2 f.ts.length (rows tS f.ts))),(28,.int f.ts.length),(29,.int x.1)],ofRO [((5,0),some (.bx (fS g))),((6,0),some (.bx [D.int 0,.v (.slice none 0 0)])),((8,0),some (.bx [D.int n,.mp x.2.1]))]⟩) (fun x=>x.1<=f.ts.length/\MapR n x.2.1 x.2.2/\x.2.2.Perm ((f.ts.take x.1).map pr)/\absE x.2.2<=x.1*1000000) (fun x=>f.ts.length - x.1) (0,[],[]) (by simp [C.impl_AddLaurents,fS]) ⟨by simp,MapR.nil n,by simp,by simp [absE]⟩ ?_
   intro x1 hx1 R1 hR1
   obtain ⟨j,es,l⟩:=x1
   obtain ⟨hj,hM,hP,hA⟩:=hx1
   dsimp only at hj hM hP hA ⊢
   refine wseq ?_
   refine wreg fun K hK=>?_
   simp [C.impl_AddLaurents,fS]
   refine hK _ ?_;clear hK K
   show AWp _ _ _ _ _
   refine wseq ?_
   refine wcond _ rfl (fun hc2=>?_) (fun hc2=>?_)
   ·have h1:j < f.ts.length:=by have:=d_t hc2;omega
    have hT:=right_dig hf hn _ (List.getElem_mem h1)
    refine wskip ?_
    show AWp _ _ _ _ _
    refine wseq ?_
    refine wblock ?_
    refine wseq ?_
    refine wreg fun K hK=>?_
    simp [C.impl_AddLaurents,fS,h1,tS_0 h1,tS_1 h1]
    refine hK _ ?_;clear hK K
    show AWp _ _ _ _ _
    obtain ⟨a0,a1,a2,a3,a4,a5,a6,a7,hpa⟩:=eight (pad_length (e:=f.ts[j].e) (by omega))
    have hval:=hM.val _ hT.1
    have hco:=co_abs f.ts[j].e l
    refine wdrawI [(true,0),(true,1),(true,2),(true,4),(true,5),(false,3),(false,6)] ⟨by kernel_rfl,by kernel_rfl⟩ ([0,1,2,4,5,3] ++ ([6] ++ ([]))) rfl fun K hK=>?_
    refine oSg fun L hL=>?_
    simp [C.impl_AddLaurents,fS,tS]
    refine wcall1 (impl_keyOf_c f.ts[j].e (by omega) a0 a1 a2 a3 a4 a5 a6 a7 hpa) (by simp) (by simp) ?_
    simp [C.impl_AddLaurents,fS,tS]
    refine hL _ ?_;clear hL L
    refine oSg fun L hL=>?_
    simp [C.impl_AddLaurents,fS,tS]
    refine wcall1 (impl_building_add_c n f.ts[j].c es a0 a1 a2 a3 a4 a5 a6 a7 (hM.len8 hn8) (by rw [<-hpa,hval];have:=hT.2.2.2;omega)) (by simp) (by simp) ?_
    simp [C.impl_AddLaurents,fS,tS]
    refine hL _ ?_;clear hL L
    refine oEn fun L hL=>?_
    simp only [AOpsI]
    refine hL _ ?_;clear hL L
    simp [C.impl_AddLaurents,fS,tS]
    rw [<-hpa]
    refine hK _ ?_;clear hK K
    show AWp _ _ _ _ _
    refine wreg fun K hK=>?_
    simp [C.impl_AddLaurents,fS,wrap_succ (show j < 4611686018427387904 by omega)]
    refine hK _ ?_;clear hK K
    simp [C.impl_AddLaurents,fS]
    refine hR1 (j+1,_,(f.ts[j].e,f.ts[j].c) :: l) ⟨h1,hM.add hT.1 _,?_,?_⟩ (by dsimp only;omega)
    ·dsimp only
     rw [List.take_succ_eq_append_getElem h1,List.map_append]
     refine (List.Perm.cons _ hP).trans ?_
     exact (List.perm_append_singleton _ _).symm
    ·have:=hT.2.2.2
     have h3:f.ts[j].c.natAbs<=1000000:=by omega
     simp only [absE,List.map_cons,List.sum_cons] at hA ⊢
     omega
   ·have h1:j=f.ts.length:=by have:=d_f hc2;omega
    rw [h1,List.take_length] at hP
    refine wexit ?_
    show AWp _ _ _ _ _
    refine wseq ?_
    refine wseq ?_
    refine wreg fun K hK=>?_
    simp [C.impl_AddLaurents,fS]
    refine hK _ ?_;clear hK K
    show AWp _ _ _ _ _
    refine wblock ?_
    refine wloop (fun x:Nat×List (List Int×Int)×List (List Int×Int)=>⟨ofL [(1,.int k),(6,.pt (6,0) [] 0),(8,.pt (8,0) [] 0),(42,.d (.sh 2 g.ts.length (rows tS g.ts))),(43,.int g.ts.length),(44,.int x.1)],ofRO [((6,0),some (.bx [D.int 0,.v (.slice none 0 0)])),((8,0),some (.bx [D.int n,.mp x.2.1]))]⟩) (fun x=>x.1<=g.ts.length/\MapR n x.2.1 x.2.2/\x.2.2.Perm (f.ts.map pr ++ (g.ts.take x.1).map (prk k))/\absE x.2.2<=600000000+x.1*1000000000) (fun x=>g.ts.length - x.1) (0,es,l) (by simp [C.impl_AddLaurents,fS]) ⟨by simp,hM,by simpa using hP,by dsimp only;omega⟩ ?_
    intro x2 hx2 R2 hR2
    obtain ⟨i,es2,l2⟩:=x2
    obtain ⟨hi,hM2,hP2,hA2⟩:=hx2
    dsimp only at hi hM2 hP2 hA2 ⊢
    refine wseq ?_
    refine wreg fun K hK=>?_
    simp [C.impl_AddLaurents,fS]
    refine hK _ ?_;clear hK K
    show AWp _ _ _ _ _
    refine wseq ?_
    refine wcond _ rfl (fun hc3=>?_) (fun hc3=>?_)
    ·have h2:i < g.ts.length:=by have:=d_t hc3;omega
     have hU:=right_dig hg hn2 _ (List.getElem_mem h2)
     have hkc:(k*g.ts[i].c).natAbs<=1000*1000000:=by
      rw [Int.natAbs_mul]
      exact Nat.mul_le_mul (by omega) (by have:=hU.2.2.2;omega)
     refine wskip ?_
     show AWp _ _ _ _ _
     refine wseq ?_
     refine wblock ?_
     refine wseq ?_
     refine wreg fun K hK=>?_
     simp [C.impl_AddLaurents,fS,h2,tS_0 h2,tS_1 h2]
     refine hK _ ?_;clear hK K
     show AWp _ _ _ _ _
     obtain ⟨a0,a1,a2,a3,a4,a5,a6,a7,hpa⟩:=eight (pad_length (e:=g.ts[i].e) (by omega))
     have hval:=hM2.val _ hU.1
     have hco:=co_abs g.ts[i].e l2
     refine wdrawI [(true,0),(true,1),(true,2),(true,4),(true,5),(true,6),(true,7),(false,3),(false,8)] ⟨by kernel_rfl,by kernel_rfl⟩ ([0,1,2,4,5,6,7,3] ++ ([8] ++ ([]))) rfl fun K hK=>?_
     refine oSg fun L hL=>?_
     simp [C.impl_AddLaurents,fS,tS,wrapOk (x:=k*g.ts[i].c) (by omega) (by omega)]
     refine wcall1 (impl_keyOf_c g.ts[i].e (by omega) a0 a1 a2 a3 a4 a5 a6 a7 hpa) (by simp) (by simp) ?_
     simp [C.impl_AddLaurents,fS,tS,wrapOk (x:=k*g.ts[i].c) (by omega) (by omega)]
     refine hL _ ?_;clear hL L
     refine oSg fun L hL=>?_
     simp [C.impl_AddLaurents,fS,tS,wrapOk (x:=k*g.ts[i].c) (by omega) (by omega)]
     refine wcall1 (impl_building_add_c n (k*g.ts[i].c) es2 a0 a1 a2 a3 a4 a5 a6 a7 (hM2.len8 hn8) (by rw [<-hpa,hval];omega)) (by simp) (by simp) ?_
     simp [C.impl_AddLaurents,fS,tS,wrapOk (x:=k*g.ts[i].c) (by omega) (by omega)]
     refine hL _ ?_;clear hL L
     refine oEn fun L hL=>?_
     simp only [AOpsI]
     refine hL _ ?_;clear hL L
     simp [C.impl_AddLaurents,fS,tS,wrapOk (x:=k*g.ts[i].c) (by omega) (by omega)]
     rw [<-hpa]
     refine hK _ ?_;clear hK K
     show AWp _ _ _ _ _
     refine wreg fun K hK=>?_
     simp [C.impl_AddLaurents,fS,wrap_succ (show i < 4611686018427387904 by omega)]
     refine hK _ ?_;clear hK K
     simp [C.impl_AddLaurents,fS]
     refine hR2 (i+1,_,(g.ts[i].e,k*g.ts[i].c) :: l2) ⟨h2,hM2.add hU.1 _,?_,?_⟩ (by dsimp only;omega)
     ·dsimp only
      rw [List.take_succ_eq_append_getElem h2,List.map_append,<-List.append_assoc]
      refine (List.Perm.cons _ hP2).trans ?_
      exact (List.perm_append_singleton _ _).symm
     ·simp only [absE,List.map_cons,List.sum_cons] at hA2 ⊢
      omega
    ·have h2:i=g.ts.length:=by have:=d_f hc3;omega
     have hall:l2.Perm (f.ts.map pr ++ g.ts.map (prk k)):=by
      rw [h2,List.take_length] at hP2
      exact hP2
     have hlen:∀ x∈l2,x.1.length=n:=fun x hx=>by
      rcases List.mem_append.1 (hall.subset hx) with h | h
      ·obtain ⟨t,ht,rfl⟩:=List.mem_map.1 h
       exact (right_dig hf hn t ht).1
      ·obtain ⟨t,ht,rfl⟩:=List.mem_map.1 h
       exact (right_dig hg hn2 t ht).1
     have hll:l2.length<=1000000:=by rw [hall.length_eq,List.length_append,List.length_map,List.length_map];omega
     have hs:=shutF_perm hall n
     refine wexit ?_
     show AWp _ _ _ _ _
     refine wseq ?_
     refine wregI ([0,1] ++ ([2,3,4,5])) rfl fun K hK=>?_
     refine oSg fun L hL=>?_
     simp [C.impl_AddLaurents,fS,fO]
     refine wcall1 (doneOk n es2 l2 hM2 hlen (by omega) hn8 hll) (by simp) (by simp) ?_
     simp [C.impl_AddLaurents,fS,fO]
     refine hL _ ?_;clear hL L
     refine oEn fun L hL=>?_
     simp [C.impl_AddLaurents,fS,fO]
     refine hL _ ?_;clear hL L
     simp [C.impl_AddLaurents,fS,fO]
     refine hK _ ?_;clear hK K
     show AWp _ _ _ _ _
     refine wret ?_
     simp [C.impl_AddLaurents,fS,hm,<-hs,fO]
 clear hK
 by_cases ha:Right f/\Right g/\f.v=g.v
 ·have hvv:=ha.2.2
  refine oSg fun L hL=>?_
  simp [C.impl_AddLaurents,fS,ha]
  refine wcall1 (impl_bothOk_c f g hx hxe hy hye) (by simp;omega) (by simp) ?_
  simp [C.impl_AddLaurents,fS,ha]
  refine hL _ ?_;clear hL L
  refine oSg fun L hL=>?_
  simp [C.impl_AddLaurents,fS,ha]
  refine wcall1 (impl_within_c k (-1000) 1000) (by simp) (by simp) ?_
  simp [C.impl_AddLaurents,fS,ha]
  refine hL _ ?_;clear hL L
  refine oEn fun L hL=>?_
  simp [C.impl_AddLaurents,fS,ha]
  refine hL _ ?_;clear hL L
  simp [C.impl_AddLaurents,fS,ha]
  refine cast (congrArg K ?_) hJ
  simp [fS,ha]
 ·refine oSg fun L hL=>?_
  simp [C.impl_AddLaurents,fS,ha]
  refine wcall1 (impl_bothOk_c f g hx hxe hy hye) (by simp) (by simp) ?_
  simp [C.impl_AddLaurents,fS,ha]
  refine hL _ ?_;clear hL L
  refine oSg fun L hL=>?_
  simp [C.impl_AddLaurents,fS,ha]
  refine hL _ ?_;clear hL L
  refine oEn fun L hL=>?_
  simp [C.impl_AddLaurents,fS,ha]
  refine hL _ ?_;clear hL L
  simp [C.impl_AddLaurents,fS,ha]
  refine cast (congrArg K ?_) hJ
  simp [fS,ha]
theorem iAdd_c (f:Lau) (k:Int) (g:Lau) (hx:f.ts.length < 4611686018427387904) (hxe:∀ t∈f.ts,t.e.length < 4611686018427387904) (hy:g.ts.length < 4611686018427387904) (hye:∀ t∈g.ts,t.e.length < 4611686018427387904):ACalls Try.prog F.impl_AddLaurents [aF f,.int k,aF g] [] true (fun outs res=>outs=[]/\res=[.ag (fO (addF f k g).1),.one (D.bool (addF f k g).2)]):=(impl_AddLaurents_c f k g hx hxe hy hye).weak1
end Go.Proofs.Ytfcgcgmleogamaa.Ab
namespace Go.Proofs.Ytfcgcgmleogamaa.Ab
open Go
structure DivJ (chk:List Int->Int->Bool) (f g:Lau) (n:Nat) (R O:List (List Int×Int)):Prop where
 run:divL chk g 600 (f.ts.map pr)=(divL chk g (600 - O.length) R).map (O ++ ·)
 ol:O.length<=600
 rd:Desc lexlt R
 rl:∀ y∈R,y.1.length=n/\∀ z∈y.1,-60<=z/\z<=60
 ra:absK R<=600000000+O.length*600000000000000
 rn:R.length<=600+O.length*600
 od:∀ x∈O,x.1.length=n/\∀ z∈x.1,-40<=z/\z<=40
theorem absK_le {l:List (List Int×Int)} {B:Nat} (h:∀ x∈l,x.2.natAbs<=B):absK l<=l.length*B:=by
 induction l with
 | nil=>simp [absK]
 | cons x l ih=>
  have h1:=h x (by simp)
  have h2:=ih fun y hy=>h y (by simp [hy])
  simp only [absK,List.map_cons,List.sum_cons,List.length_cons,Nat.add_mul,Nat.one_mul] at h2 ⊢
  omega
theorem right_absK {f:Lau} (h:Right f):absK (f.ts.map pr)<=600000000:=by
 have h1:absK (f.ts.map pr)<=(f.ts.map pr).length*1000000:=absK_le fun x hx=>by
  obtain ⟨t,ht,rfl⟩:=List.mem_map.1 hx
  have:=(h.2.2.1 t ht).2.2.1
  simp only [pr]
  omega
 have h2:=h.2.1
 simp only [List.length_map] at h1
 exact Nat.le_trans h1 (by omega)
theorem DivJ.start (chk:List Int->Int->Bool) {f g:Lau} {n:Nat} (hf:Right f) (hn:f.v=n):DivJ chk f g n (f.ts.map pr) []:=by
 refine ⟨?_,by simp,pr_desc hf,fun y hy=>?_,by simpa using right_absK hf,by simpa using hf.2.1,by simp⟩
 ·simp only [List.length_nil,Nat.sub_zero,List.nil_append]
  cases divL chk g 600 (f.ts.map pr) <;> rfl
 ·obtain ⟨t,ht,rfl⟩:=List.mem_map.1 hy
  have:=right_he hf hn t ht
  exact ⟨this.1,fun z hz=>by have:=this.2 z hz;omega⟩
theorem DivJ.done {chk:List Int->Int->Bool} {f g:Lau} {n:Nat} {O:List (List Int×Int)} (h:DivJ chk f g n [] O):divL chk g 600 (f.ts.map pr)=some O:=by
 rw [h.run]
 cases 600 - O.length <;> simp [divL,divGo]
theorem DivJ.fail {chk:List Int->Int->Bool} {f g:Lau} {n:Nat} {x:List Int×Int} {R O:List (List Int×Int)} (h:DivJ chk f g n (x :: R) O) (hc:¬ (x.2.tmod (leadC g)=0/\chk (addE (-1) x.1 (leadE g)) (x.2.tdiv (leadC g))=true)\/O.length=600):divL chk g 600 (f.ts.map pr)=none:=by
 rw [h.run]
 rcases Nat.eq_zero_or_pos (600 - O.length) with e | e
 ·rw [e];rfl
 ·obtain ⟨k,hk⟩:∃ k,600 - O.length=k+1:=⟨600 - O.length - 1,by omega⟩
  rw [hk]
  rcases hc with hc | hc
  ·simp only [divL,divGo]
   rw [if_neg hc]
   rfl
  ·omega
def stepL (g:Lau) (x:List Int×Int) (R:List (List Int×Int)):List (List Int×Int):=x :: R ++ mulT (addE 1) (addE (-1) x.1 (leadE g)) (-(x.2.tdiv (leadC g))) (g.ts.map pr)
theorem addE_bd {B C:Int}:∀ {a b:List Int} {k:Int},(k=1\/k=-1)->a.length=b.length->(∀ z∈a,-B<=z/\z<=B)->(∀ z∈b,-C<=z/\z<=C)->∀ z∈addE k a b,-(B+C)<=z/\z<=B+C
 | [],[],k,_,_,_,_=>by simp [addE]
 | x :: a,y :: b,k,hk,h,ha,hb=>by
  intro z hz
  have h1:=ha x (by simp)
  have h2:=hb y (by simp)
  simp only [addE,List.mem_cons] at hz
  rcases hz with rfl | hz
  ·rcases hk with rfl | rfl <;> omega
  ·exact addE_bd hk (by simpa using h) (fun z hz=>ha z (by simp [hz])) (fun z hz=>hb z (by simp [hz])) z hz
 | [],_ :: _,_,_,h,_,_=>by simp at h
 | _ :: _,[],_,_,h,_,_=>by simp at h
theorem DivJ.step {chk:List Int->Int->Bool} {f g:Lau} {n:Nat} {x:List Int×Int} {R O:List (List Int×Int)} (h:DivJ chk f g n (x :: R) O) (hg:Right g) (hgn:g.v=n) (hm:x.2.tmod (leadC g)=0) (hc:chk (addE (-1) x.1 (leadE g)) (x.2.tdiv (leadC g))=true) (h6:O.length < 600)
  (hel:(addE (-1) x.1 (leadE g)).length=n) (hb:∀ z∈addE (-1) x.1 (leadE g),-40<=z/\z<=40) (hq:-1000000<=x.2.tdiv (leadC g)/\x.2.tdiv (leadC g)<=1000000) :
  DivJ chk f g n (nf lexlt (stepL g x R)) (O ++ [(addE (-1) x.1 (leadE g),x.2.tdiv (leadC g))]):=by
 have hga:=right_absK hg
 have hgl:=hg.2.1
 have hab:=nf_abs (lt:=lexlt) (stepL g x R)
 have hlen:(O ++ [(addE (-1) x.1 (leadE g),x.2.tdiv (leadC g))]).length=O.length+1:=by simp
 refine ⟨?_,by omega,nf_desc lexOrd _,fun y hy=>?_,?_,?_,fun y hy=>?_⟩
 ·rw [h.run]
  obtain ⟨k,hk⟩:∃ k,600 - O.length=k+1:=⟨600 - O.length - 1,by omega⟩
  rw [hlen,hk,show 600 - (O.length+1)=k by omega]
  simp only [divL,divGo]
  rw [if_pos ⟨hm,hc⟩]
  simp only [Option.map_map,stepL]
  congr 1
  funext z
  simp
 ·obtain ⟨z,hz,e⟩:=nf_mem hy
  rw [<-e]
  unfold stepL at hz
  rcases List.mem_append.1 hz with hz | hz
  ·exact h.rl z hz
  ·obtain ⟨u,hu,rfl⟩:=List.mem_map.1 hz
   obtain ⟨t,ht,rfl⟩:=List.mem_map.1 hu
   have ht2:=right_he hg hgn t ht
   refine ⟨by simp only [pr];rw [addE_length _ _ _ (hel.trans ht2.1.symm)];exact hel,?_⟩
   exact addE_bd (B:=40) (C:=20) (.inl rfl) (hel.trans ht2.1.symm) hb ht2.2
 ·refine Nat.le_trans hab.1 ?_
  unfold stepL
  rw [absK_append,mulT_abs,hlen]
  have h1:=h.ra
  have h2:(-(x.2.tdiv (leadC g))).natAbs*absK (g.ts.map pr)<=1000000*600000000:=Nat.mul_le_mul (by omega) hga
  omega
 ·refine Nat.le_trans hab.2 ?_
  unfold stepL
  rw [List.length_append,mulT_length,List.length_map,hlen]
  have h1:=h.rn
  omega
 ·rcases List.mem_append.1 hy with hy | hy
  ·exact h.od y hy
  ·simp only [List.mem_singleton] at hy
   subst hy
   exact ⟨hel,hb⟩
theorem lead_get {g:Lau} (h:0 < g.ts.length):(g.ts[0]'h).e=leadE g/\(g.ts[0]'h).c=leadC g:=by
 unfold leadE leadC
 match hh:g.ts,h with
 | t :: ts,_=>simp
end Go.Proofs.Ytfcgcgmleogamaa.Ab
namespace Go.Proofs.Ytfcgcgmleogamaa.Ab
open Go
set_option maxRecDepth 10000
set_option maxHeartbeats 2000000
def scM (k:Int) (x:Int×Int):Int×Int:=(x.1,k*x.2)
theorem scM_abs (k:Int):∀ b:List (Int×Int),absL (b.map (scM k))=k.natAbs*absL b
 | []=>rfl
 | x :: b=>by
  have:=scM_abs k b
  simp only [absL,List.map_cons,List.sum_cons,scM] at this ⊢
  rw [Int.natAbs_mul,Nat.mul_add]
  simp only [List.map_map] at this ⊢
  omega
theorem scM_bd {k:Int} {b:List (Int×Int)} {x:Int×Int} (hx:x∈b) {B:Nat} (h:k.natAbs*absL b < B):-(B:Int) < k*x.2/\k*x.2 < B:=by
 have h1:=absL_mem hx
 have h2:(k*x.2).natAbs<=k.natAbs*absL b:=by
  rw [Int.natAbs_mul]
  exact Nat.mul_le_mul_left _ h1
 omega
theorem spec_l2Plus_c (a b:List (Int×Int)) (k:Int) (hl:a.length+b.length<=1000000) (hc:absL a+k.natAbs*absL b < 4611686018427387904):ACalls Try.prog F.spec_l2Plus [.d (.sh 2 a.length (rows gM a)),.int k,.d (.sh 2 b.length (rows gM b))] [] true (fun outs res=>outs=[]/\res=[.one (.ow 2 (nf ilt (a ++ b.map (scM k))).length (rows gM (nf ilt (a ++ b.map (scM k)))))]):=by
 refine ACalls.of_body (C:=C.spec_l2Plus) (n:=Try.f161.ntmps) tabT folT Try.func161 rfl (by kernel_rfl) rfl (Nat.le_of_ble_eq_true rfl) (by decide) (by kernel_rfl) (by kernel_rfl) rfl (by simp) (by simp) ?_
 simp only [Try.f161]
 refine wseq ?_
 refine wreg fun K hK=>?_
 simp [C.spec_l2Plus]
 refine hK _ ?_;clear hK K
 show AWp _ _ _ _ _
 refine wseq ?_
 refine wreg fun K hK=>?_
 simp [C.spec_l2Plus,show a.length*16<=140737488355328 by omega]
 refine hK _ ?_;clear hK K
 show AWp _ _ _ _ _
 refine wseq ?_
 refine wseq ?_
 refine wreg fun K hK=>?_
 simp [C.spec_l2Plus]
 refine hK _ ?_;clear hK K
 show AWp _ _ _ _ _
 refine wblock ?_
 refine wloop (fun x:Nat=>⟨ofL [(1,.int k),(2,.d (.sh 2 b.length (rows gM b))),(7,.al (7,0) [] 0 (a.length+x)),(8,.int x)],ofRO [((7,0),some (.ow 2 (a.length+x) (rows gM (a ++ (b.take x).map (scM k)))))]⟩) (fun x=>x<=b.length) (fun x=>b.length - x) 0 (by simp [C.spec_l2Plus]) (by simp) ?_
 intro x1 hx1 R1 hR1
 refine wseq ?_
 refine wseq ?_
 refine wreg fun K hK=>?_
 simp [C.spec_l2Plus]
 refine hK _ ?_;clear hK K
 show AWp _ _ _ _ _
 refine wcond _ rfl (fun hc1=>?_) (fun hc1=>?_)
 ·have h1:x1 < b.length:=by have:=d_t hc1;omega
  have hbd:=scM_bd (List.getElem_mem h1) (show k.natAbs*absL b < 4611686018427387904 by omega)
  refine wskip ?_
  show AWp _ _ _ _ _
  refine wseq ?_
  refine wblock ?_
  refine wdrawI [(true,0),(true,1),(true,2),(true,3),(true,4),(true,5),(true,6),(true,7),(true,8),(true,9),(true,10),(true,11),(true,12),(true,13),(false,14),(false,15),(true,16)] ⟨by kernel_rfl,by kernel_rfl⟩ ([0,1,2,3,4,5,6,7,8,9,10,11,12,13,14,15,16]) rfl fun K hK=>?_
  refine oEn fun L hL=>?_
  simp [C.spec_l2Plus,h1,gM_0 h1,gM_1 h1,gM_snoc,wrapOk (x:=k*b[x1].2) (by omega) (by omega),show (a.length+x1+1)*16<=140737488355328 by omega]
  refine hL _ ?_;clear hL L
  simp [C.spec_l2Plus,h1,gM_0 h1,gM_1 h1,gM_snoc,wrapOk (x:=k*b[x1].2) (by omega) (by omega),show (a.length+x1+1)*16<=140737488355328 by omega]
  refine hK _ ?_;clear hK K
  show AWp _ _ _ _ _
  refine wreg fun K hK=>?_
  simp [C.spec_l2Plus,wrap_succ (show x1 < 4611686018427387904 by omega)]
  refine hK _ ?_;clear hK K
  simp [C.spec_l2Plus]
  refine cast (congrArg R1 ?_) (hR1 (x1+1) h1 (by omega))
  rw [List.take_succ_eq_append_getElem h1,List.map_append]
  simp [scM,Nat.add_assoc]
 ·have h1:x1=b.length:=by have:=d_f hc1;omega
  have htk:List.take b.length (List.map (scM k) b)=List.map (scM k) b:=List.take_of_length_le (by simp)
  refine wexit ?_
  show AWp _ _ _ _ _
  refine wseq ?_
  refine wregI ([0,1] ++ ([2])) rfl fun K hK=>?_
  refine oSg fun L hL=>?_
  simp [C.spec_l2Plus,h1,htk]
  refine wcall1 (spec_l2Gather_c (a ++ b.map (scM k)) (by simp;omega) (by rw [absL_append,scM_abs];omega)) (by simp [h1,htk]) (by simp) ?_
  simp [C.spec_l2Plus,h1,htk]
  refine hL _ ?_;clear hL L
  refine oEn fun L hL=>?_
  simp [C.spec_l2Plus,h1,htk]
  refine hL _ ?_;clear hL L
  simp [C.spec_l2Plus,h1,htk]
  refine hK _ ?_;clear hK K
  show AWp _ _ _ _ _
  refine wret ?_
  simp [C.spec_l2Plus]
@[simp] theorem lowL_length (ts:List Trm) (n:Nat):(lowL ts n).length=n:=by simp [lowL]
@[simp] theorem highL_length (ts:List Trm) (n:Nat):(highL ts n).length=n:=by simp [highL]
theorem kc_abs (l:List (List Int×Int)):absL (l.map kc)=absK l:=by
 simp only [absL,absK,List.map_map]
 rfl
theorem ieq600 (n:Nat):((n:Int) == 600)=decide (n=600):=by
 rw [Bool.eq_iff_iff];simp;omega
end Go.Proofs.Ytfcgcgmleogamaa.Ab
namespace Go.Proofs.Ytfcgcgmleogamaa.Ab
open Go
set_option maxRecDepth 10000
set_option maxHeartbeats 2000000
def byts (xs:List Int):List D:=xs.map fun x=>D.v (.int .u8 x)
@[simp] theorem byts_length (xs:List Int):(byts xs).length=xs.length:=by simp [byts]
def cur (xs:List Int) (i:Nat) (h:Int):D:=.bx [.sh 1 xs.length (byts xs),D.int i,D.int h]
attribute [local simp] cur
end Go.Proofs.Ytfcgcgmleogamaa.Ab
namespace Go.Proofs.Ytfcgcgmleogamaa.Ab
open Go
set_option maxRecDepth 10000
set_option maxHeartbeats 2000000
attribute [local simp] cur
def Drawn (n:Nat) (f:Lau):Prop:=Right f/\f.v=n/\f.ts.length<=4/\∀ t∈f.ts,(-16<=t.c/\t.c<=16)/\∀ x∈t.e,-2<=x/\x<=2
theorem co_at {K:Type} [DecidableEq K] {lt:K->K->Bool} (ho:Ord lt):∀ {l:List (K×Int)},Desc lt l->∀ x∈l,co x.1 l=x.2
 | y :: l,h,x,hx=>by
  rcases List.mem_cons.1 hx with rfl | hx
  ·simp only [co,if_true]
   rw [co_none x.1 l (desc_tail_ne ho h)]
   omega
  ·have hne:=desc_tail_ne ho h x hx
   simp only [co]
   rw [if_neg (fun e=>hne e.symm),co_at ho (List.pairwise_cons.1 h).2 x hx]
   omega
end Go.Proofs.Ytfcgcgmleogamaa.Ab
namespace Go.Proofs.Ytfcgcgmleogamaa.Ab
open Go
def plist (f:Lau):LS:=f.ts.map pr
structure LB (n K E:Nat) (f:Lau):Prop where
 right:Right f
 v:f.v=n
 ab:absK (plist f)<=K
 ex:ExB n E (plist f)
theorem LB.mono {n K E K' E':Nat} {f:Lau} (h:LB n K E f) (h1:K<=K') (h2:E<=E'):LB n K' E' f:=⟨h.right,h.v,Nat.le_trans h.ab h1,h.ex.mono h2⟩
theorem absK_nz {l:LS} (h:Nz l):l.length<=absK l:=by
 induction l with
 | nil=>simp
 | cons x l ih=>
  have h1:=ih fun y hy=>h y (by simp [hy])
  have h2:=h x (by simp)
  simp only [absK,List.map_cons,List.sum_cons,List.length_cons] at h1 ⊢
  omega
theorem absK_mem {l:LS} {x:List Int×Int} (h:x∈l):x.2.natAbs<=absK l:=by
 induction l with
 | nil=>simp at h
 | cons y l ih=>
  simp only [absK,List.map_cons,List.sum_cons] at ih ⊢
  rcases List.mem_cons.1 h with rfl | h
  ·omega
  ·have:=ih h
   omega
theorem tm_pr (l:LS):(l.map tm).map pr=l:=by
 rw [List.map_map]
 have:(pr ∘ tm)=id:=by funext x;rfl
 rw [this,List.map_id]
def PosL (l:LS):Prop:=l≠[]/\∀ x∈l,0 < x.2
theorem co_pos {l:LS} (h:∀ x∈l,0 < x.2) (k:List Int):0<=co k l/\((∃ x∈l,x.1=k)->0 < co k l):=by
 induction l with
 | nil=>exact ⟨by simp [co],fun ⟨x,hx,_⟩=>absurd hx (by simp)⟩
 | cons x l ih=>
  have h1:=ih fun y hy=>h y (by simp [hy])
  have h2:=h x (by simp)
  simp only [co]
  refine ⟨?_,?_⟩
  ·split <;> omega
  ·rintro ⟨y,hy,hk⟩
   rcases List.mem_cons.1 hy with rfl | hy
   ·rw [if_pos hk]
    omega
   ·have:=h1.2 ⟨y,hy,hk⟩
    split <;> omega
theorem PosL.nf {l:LS} (h:PosL l):PosL (nf lexlt l):=by
 have hd:=nf_desc lexOrd l
 refine ⟨fun e=>?_,fun x hx=>?_⟩
 ·cases l with
  | nil=>exact h.1 rfl
  | cons x l=>
   have h1:=(co_pos h.2 x.1).2 ⟨x,by simp,rfl⟩
   rw [<-nf_co (lt:=lexlt) x.1 (x :: l),e] at h1
   simp [co] at h1
 ·have h1:=co_at lexOrd hd x hx
  rw [nf_co] at h1
  obtain ⟨z,hz1,hz2⟩:=nf_mem hx
  have:=(co_pos h.2 x.1).2 ⟨z,hz1,hz2⟩
  omega
theorem PosL.prod {a b:LS} (ha:PosL a) (hb:PosL b):PosL (prodL a b):=by
 refine ⟨fun e=>?_,fun x hx=>?_⟩
 ·obtain ⟨x,a,rfl⟩:=List.exists_cons_of_ne_nil ha.1
  obtain ⟨y,b,rfl⟩:=List.exists_cons_of_ne_nil hb.1
  simp [prodL] at e
 ·simp only [prodL,List.mem_flatMap,List.mem_map] at hx
  obtain ⟨p,hp,q,hq,rfl⟩:=hx
  exact Int.mul_pos (ha.2 p hp) (hb.2 q hq)
theorem PosL.app {a b:LS} (ha:PosL a) (hb:PosL b):PosL (a ++ b):=⟨by simp [ha.1],fun x hx=>(List.mem_append.1 hx).elim (ha.2 x) (hb.2 x)⟩
theorem lb_shut {n K E:Nat} (hn:1<=n/\n<=8) {l:LS} (he:ExB n E l) (hk:absK l<=K) (hK:K<=600) (hE:E<=20) :
  ∃ h,shutF n l=(h,true)/\LB n K E h/\(∀ T,vT T n (plist h)=vT T n l)/\(PosL l->PosL (plist h)):=by
 have hd:=nf_desc lexOrd l
 have hz:=nf_nz (lt:=lexlt) l
 have ha:=(nf_abs (lt:=lexlt) l).1
 have hx:=he.nf
 have hlen:=absK_nz hz
 have hR:Right ⟨(n:Int),(nf lexlt l).map tm⟩:=by
  refine ⟨by dsimp only;omega,by dsimp only;rw [List.length_map];omega,fun t ht=>?_,?_⟩
  ·obtain ⟨x,hm,rfl⟩:=List.mem_map.1 ht
   have h1:=hx x hm
   have h2:=absK_mem hm
   refine ⟨by simp only [tm];omega,hz x hm,by simp only [tm];omega,fun y hy=>?_⟩
   have:=h1.2 y hy
   omega
  ·unfold DescT
   rw [List.pairwise_map]
   exact hd
 refine ⟨⟨n,(nf lexlt l).map tm⟩,by unfold shutF;rw [if_pos hR],⟨hR,rfl,?_,?_⟩,fun T=>?_,fun hp=>?_⟩
 ·simp only [plist,tm_pr]
  omega
 ·simp only [plist,tm_pr]
  exact hx
 ·simp only [plist,tm_pr]
  exact vT_nf T n l
 ·simp only [plist,tm_pr]
  exact hp.nf
theorem lb_sep {n K E K' E':Nat} {f g:Lau} (hf:LB n K E f) (hg:LB n K' E' g) (hE:E<=63) (hE':E'<=63) (h:∀ T,2<=T->vT T n (plist f)=vT T n (plist g)):f=g:=by
 have h1:=vT_sep (hf.ex.dig hE) (hg.ex.dig hE') h
 have key:∀ {f:Lau},Right f->nf lexlt (plist f)=plist f:=fun {f} hr=>by
  refine (nf_unique lexOrd ?_ ?_ fun _=>rfl).symm
  ·unfold Desc plist
   rw [List.pairwise_map]
   exact hr.2.2.2
  ·intro x hx
   obtain ⟨t,ht,rfl⟩:=List.mem_map.1 hx
   exact (hr.2.2.1 t ht).2.1
 rw [key hf.right,key hg.right] at h1
 have h2:f.ts=g.ts:=by
  have:=congrArg (List.map tm) h1
  simp only [plist,List.map_map] at this
  have e:(tm ∘ pr)=id:=by funext x;rfl
  rw [e,List.map_id,List.map_id] at this
  exact this
 have h3:f.v=g.v:=hf.v.trans hg.v.symm
 obtain ⟨a,b⟩:=f
 obtain ⟨c,d⟩:=g
 simp only at h2 h3
 rw [h2,h3]
theorem absK_app (a b:LS):absK (a ++ b)=absK a+absK b:=by simp [absK]
theorem absK_prod:∀ (a b:LS),absK (prodL a b)=absK a*absK b
 | [],b=>by simp [prodL,absK]
 | x :: a,b=>by
  have h:prodL (x :: a) b=(b.map fun y=>(addE 1 x.1 y.1,x.2*y.2)) ++ prodL a b:=rfl
  rw [h,absK_app,absK_prod a b]
  have h2:absK (b.map fun y=>(addE 1 x.1 y.1,x.2*y.2))=x.2.natAbs*absK b:=by
   induction b with
   | nil=>simp [absK]
   | cons y b ih=>
    simp only [absK,List.map_cons,List.sum_cons] at ih ⊢
    rw [ih (by rfl),Nat.mul_add,Int.natAbs_mul]
  rw [h2,show absK (x :: a)=x.2.natAbs+absK a by simp [absK],Nat.add_mul]
theorem absK_neg (k:Int) (l:LS):absK (l.map fun y=>(y.1,k*y.2))=k.natAbs*absK l:=by
 induction l with
 | nil=>simp [absK]
 | cons y l ih=>
  simp only [absK,List.map_cons,List.sum_cons] at ih ⊢
  rw [ih,Nat.mul_add,Int.natAbs_mul]
theorem ExB.scale {n E:Nat} {a:LS} (h:ExB n E a) (k:Int):ExB n E (a.map fun y=>(y.1,k*y.2)):=fun x hx=>by
 obtain ⟨y,hy,rfl⟩:=List.mem_map.1 hx
 exact h y hy
theorem lb_mul {n K E K' E':Nat} (hn:1<=n/\n<=8) {f g:Lau} (hf:LB n K E f) (hg:LB n K' E' g) (hK:K*K'<=600) (hE:E+E'<=20) :
  ∃ h,mulF f g=(h,true)/\LB n (K*K') (E+E') h/\(∀ T,2<=T->vT T n (plist h)=vT T n (plist f)*vT T n (plist g))/\(PosL (plist f)->PosL (plist g)->PosL (plist h)):=by
 obtain ⟨h,h1,h2,h3,h4⟩:=lb_shut hn (hf.ex.prod hg.ex) (by rw [absK_prod];exact Nat.mul_le_mul hf.ab hg.ab) hK hE
 refine ⟨h,?_,h2,fun T hT=>?_,fun p q=>h4 (p.prod q)⟩
 ·unfold mulF
  rw [if_pos ⟨hf.right,hg.right,hf.v.trans hg.v.symm⟩,hf.v]
  exact h1
 ·rw [h3,vT_prod hT hf.ex hg.ex (by omega)]
theorem lb_add {n K E K':Nat} (hn:1<=n/\n<=8) {f g:Lau} (hf:LB n K E f) (hg:LB n K' E g) (hK:K+K'<=600) (hE:E<=20) :
  ∃ h,addF f 1 g=(h,true)/\LB n (K+K') E h/\(∀ T,vT T n (plist h)=vT T n (plist f)+vT T n (plist g))/\(PosL (plist f)->PosL (plist g)->PosL (plist h)):=by
 have e:g.ts.map (prk 1)=plist g:=by
  unfold plist
  refine List.map_congr_left fun t _=>?_
  simp [prk,pr]
 obtain ⟨h,h1,h2,h3,h4⟩:=lb_shut hn (hf.ex.app hg.ex) (by rw [absK_app];exact Nat.add_le_add hf.ab hg.ab) hK hE
 refine ⟨h,?_,h2,fun T=>?_,fun p q=>h4 (p.app q)⟩
 ·unfold addF
  rw [if_pos ⟨⟨hf.right,hg.right,hf.v.trans hg.v.symm⟩,by omega⟩,hf.v,e]
  exact h1
 ·rw [h3,vT_app]
def unitF (n k:Nat):Lau:=⟨n,[⟨unitL n k,1⟩]⟩
theorem unitL_bd {n k:Nat}:(unitL n k).length=n/\∀ y∈unitL n k,-((1:Nat):Int)<=y/\y<=(1:Nat):=by
 unfold unitL
 refine ⟨by simp,fun y hy=>?_⟩
 rcases List.mem_or_eq_of_mem_set hy with hy | rfl
 ·have:=List.eq_of_mem_replicate hy
  omega
 ·omega
theorem lb_unit {n k:Nat} (hn:1<=n/\n<=8):LB n 1 1 (unitF n k):=by
 have hu:=unitL_bd (n:=n) (k:=k)
 refine ⟨⟨by simp only [unitF];omega,by simp [unitF],fun t ht=>?_,List.pairwise_singleton _ _⟩,rfl,by simp [plist,unitF,pr,absK],fun x hx=>?_⟩
 ·simp only [unitF,List.mem_singleton] at ht
  subst ht
  exact ⟨by simp only [unitF];omega,by simp,by simp,fun y hy=>by have:=hu.2 y hy;omega⟩
 ·simp only [plist,unitF,List.map_cons,List.map_nil,List.mem_singleton] at hx
  subst hx
  exact hu
theorem lb_one {n:Nat} (hn:1<=n/\n<=8):LB n 1 1 (oneF n):=by
 refine ⟨oneF_right hn,rfl,by simp [plist,oneF,pr,absK],fun x hx=>?_⟩
 simp only [plist,oneF,List.map_cons,List.map_nil,List.mem_singleton] at hx
 subst hx
 exact ⟨by simp [pr],fun y hy=>by have:=List.eq_of_mem_replicate hy;omega⟩
theorem phT_bs (T n:Nat):phT T (List.replicate n 0)=(T:Int) ^ bsN n:=rfl
theorem vT_one {T n:Nat} (hT:2<=T) (e:List Int):vT T n [(e,1)]≠0:=by
 unfold vT
 have hp:=powR_ne (m:=bsN n) hT
 have h1:((eT T [(e,1)]:Int):Rat)≠0:=by
  have:=phT_pos (T:=T) (by omega) e
  simp only [eT,vl,Int.add_zero,Int.one_mul]
  intro h
  have h2:phT T e=0:=by exact_mod_cast h
  omega
 generalize (T:Rat) ^ bsN n=P at *
 generalize ((eT T [(e,1)]:Int):Rat)=X at *
 grind
theorem vT_oneF {T n:Nat} (hT:2<=T):vT T n (plist (oneF n))=1:=by
 have hp:=powR_ne (m:=bsN n) hT
 have h1:plist (oneF n)=[(List.replicate n 0,1)]:=rfl
 rw [h1]
 unfold vT
 have h2:eT T [(List.replicate n 0,(1:Int))]=(T:Int) ^ bsN n:=by
  simp only [eT,vl,Int.add_zero,Int.one_mul,phT_bs]
 rw [h2,Rat.intCast_pow,Rat.intCast_natCast]
 grind
theorem addE_unit:∀ (e u:List Int),e.length=u.length->addE 1 (addE (-1) e u) u=e
 | [],[],_=>rfl
 | x :: e,y :: u,h=>by
  simp only [addE,addE_unit e u (by simpa using h)]
  congr 1
  omega
 | [],_ :: _,h=>by simp at h
 | _ :: _,[],h=>by simp at h
theorem addE_bndm:∀ {a b:List Int} {E F:Nat},a.length=b.length->(∀ y∈a,-(E:Int)<=y/\y<=E)->(∀ y∈b,-(F:Int)<=y/\y<=F)->∀ y∈addE (-1) a b,-((E+F:Nat):Int)<=y/\y<=(E+F:Nat)
 | [],[],E,F,_,_,_,y,hy=>by simp [addE] at hy
 | a :: aa,b :: bs,E,F,hl,ha,hb,y,hy=>by
  simp only [addE,List.mem_cons] at hy
  rcases hy with rfl | hy
  ·have:=ha a (by simp)
   have:=hb b (by simp)
   omega
  ·exact addE_bndm (by simpa using hl) (fun y hy=>ha y (by simp [hy])) (fun y hy=>hb y (by simp [hy])) y hy
theorem lb_div {n K E k:Nat} (hn:1<=n/\n<=8) {f:Lau} (hf:LB n K E f) (hK:K<=600) (hE:E+2<=20) :
  ∃ h,divF f (unitF n k)=(h,true)/\LB n K (E+1) h/\(∀ T,2<=T->vT T n (plist h)*vT T n (plist (unitF n k))=vT T n (plist f))/\(PosL (plist f)->PosL (plist h)):=by
 have hu:=unitL_bd (n:=n) (k:=k)
 obtain ⟨l,hl⟩:∃ l,l=(plist f).map fun x=>(addE (-1) x.1 (unitL n k),x.2):=⟨_,rfl⟩
 have hex:ExB n (E+1) l:=fun x hx=>by
  rw [hl] at hx
  obtain ⟨y,hy,rfl⟩:=List.mem_map.1 hx
  have h1:=hf.ex y hy
  exact ⟨by rw [addE_length _ _ _ (by omega)];exact h1.1,addE_bndm (by omega) h1.2 hu.2⟩
 have hab:absK l=absK (plist f):=by
  rw [hl]
  simp only [absK,List.map_map]
  rfl
 obtain ⟨h,h1,h2,h3,h4⟩:=lb_shut hn hex (by rw [hab];exact hf.ab) hK (by omega)
 have hun:=lb_unit (k:=k) hn
 have hprod:prodL l (plist (unitF n k))=plist f:=by
  have:plist (unitF n k)=[(unitL n k,1)]:=rfl
  rw [this,hl]
  have hall:=hf.ex
  generalize plist f=p at hall
  induction p with
  | nil=>rfl
  | cons x p ih=>
   have h5:=ih fun y hy=>hall y (by simp [hy])
   have h6:=hall x (by simp)
   simp only [prodL,List.map_cons,List.flatMap_cons,List.map_nil] at h5 ⊢
   rw [h5,addE_unit _ _ (by omega)]
   simp
 have hval:∀ T,2<=T->vT T n (plist h)*vT T n (plist (unitF n k))=vT T n (plist f):=fun T hT=>by
  rw [h3,<-vT_prod hT hex hun.ex (by omega),hprod]
 have hpos:PosL (plist f)->PosL l:=fun p=>by
  rw [hl]
  refine ⟨by simpa using p.1,fun x hx=>?_⟩
  obtain ⟨y,hy,rfl⟩:=List.mem_map.1 hx
  exact p.2 y hy
 obtain ⟨g,g1,g2,g3,-⟩:=lb_mul hn h2 hun (by omega) (by omega)
 have hg:g=f:=lb_sep g2 hf (by omega) (by omega) fun T hT=>by rw [g3 T hT,hval T hT]
 rw [hg] at g1
 exact ⟨h,div_mul h2.right hun.right (h2.v.trans hun.v.symm) (by simp [unitF]) g1,h2,hval,fun p=>h4 (hpos p)⟩
end Go.Proofs.Ytfcgcgmleogamaa.Ab
namespace Go.Proofs.Ytfcgcgmleogamaa.Ab
open Go
set_option maxRecDepth 10000
set_option maxHeartbeats 2000000
abbrev DI:=Int×Int
def agD (d:DI):FV:=.ag [.int d.1,.int d.2]
def besI (v a b:Int):Bool:=decide ((a+1).tmod v=b\/(b+1).tmod v=a)
def IsDg (v:Int) (d:DI):Prop:=(4<=v/\v<=8)/\0<=d.1/\d.1+2<=d.2/\d.2 < v/\¬ (d.1=0/\d.2=v - 1)
instance (v:Int) (d:DI):Decidable (IsDg v d):=by unfold IsDg;infer_instance
def CrI (d e:DI):Prop:=(d.1 < e.1/\e.1 < d.2/\d.2 < e.2)\/(e.1 < d.1/\d.1 < e.2/\e.2 < d.2)
instance (d e:DI):Decidable (CrI d e):=by unfold CrI;infer_instance
theorem besI_lt {v a b:Int} (hv:4<=v) (ha:0<=a) (hab:a < b) (hb:b < v):besI v a b=decide (a+1=b\/(a=0/\b=v - 1)):=by
 unfold besI
 rw [Int.tmod_eq_emod_of_nonneg (by omega),Int.tmod_eq_emod_of_nonneg (by omega),Int.emod_eq_of_lt (by omega) (by omega)]
 rw [Bool.eq_iff_iff,decide_eq_true_eq,decide_eq_true_eq]
 by_cases h:b+1 < v
 ·rw [Int.emod_eq_of_lt (by omega) (by omega)]
  omega
 ·rw [show b+1=v by omega,Int.emod_self]
  omega
theorem besI_com (v a b:Int):besI v a b=besI v b a:=by
 unfold besI
 rw [Bool.eq_iff_iff,decide_eq_true_eq,decide_eq_true_eq]
 exact ⟨fun h=>h.symm,fun h=>h.symm⟩
theorem impl_polygonOk_c (v:Int):ACalls Try.prog F.impl_polygonOk [.int v] [] true (fun outs res=>outs=[]/\res=[.one (D.bool (decide (4<=v/\v<=8)))]):=by
 refine ACalls.of_body (C:=C.impl_polygonOk) (n:=Try.f134.ntmps) tabT folT Try.func134 rfl (by kernel_rfl) rfl (Nat.le_of_ble_eq_true rfl) (by decide) (by kernel_rfl) (by kernel_rfl) rfl (by simp) (by simp) ?_
 simp only [Try.f134]
 refine wseq ?_
 refine wreg fun K hK=>?_
 simp [C.impl_polygonOk]
 refine hK _ ?_;clear hK K
 show AWp _ _ _ _ _
 refine wseq ?_
 refine wregI ([0,1] ++ ([2])) rfl fun K hK=>?_
 refine oSg fun L hL=>?_
 simp [C.impl_polygonOk]
 refine wcall1 (impl_within_c v 4 8) (by simp) (by simp) ?_
 simp [C.impl_polygonOk]
 refine hL _ ?_;clear hL L
 refine oEn fun L hL=>?_
 simp [C.impl_polygonOk]
 refine hL _ ?_;clear hL L
 simp [C.impl_polygonOk]
 refine hK _ ?_;clear hK K
 show AWp _ _ _ _ _
 refine wret ?_
 simp [C.impl_polygonOk]
theorem impl_beside_c (v a b:Int) (hv:4<=v/\v<=8) (ha:0<=a/\a < v) (hb:0<=b/\b < v):ACalls Try.prog F.impl_beside [.int v,.int a,.int b] [] true (fun outs res=>outs=[]/\res=[.one (D.bool (besI v a b))]):=by
 refine ACalls.of_body (C:=C.impl_beside) (n:=Try.f136.ntmps) tabT folT Try.func136 rfl (by kernel_rfl) rfl (Nat.le_of_ble_eq_true rfl) (by decide) (by kernel_rfl) (by kernel_rfl) rfl (by simp) (by simp) ?_
 simp only [Try.f136]
 refine wseq ?_
 refine wreg fun K hK=>?_
 simp [C.impl_beside,wrapOk (x:=a+1) (by omega) (by omega),wrapOk (x:=b+1) (by omega) (by omega),show ¬ v=0 by omega,besI]
 refine hK _ ?_;clear hK K
 show AWp _ _ _ _ _
 refine wseq ?_
 refine wregI ([0,1,2,3,4,5,6,7,8,9,10,11,12,13,14]) rfl fun K hK=>?_
 have hJ:K ⟨ofL [(6,.bool (decide ((a+1).tmod v=b\/(b+1).tmod v=a)))],ofRO []⟩:=by
  refine hK _ ?_;clear hK K
  show AWp _ _ _ _ _
  refine wret ?_
  simp [C.impl_beside,wrapOk (x:=a+1) (by omega) (by omega),wrapOk (x:=b+1) (by omega) (by omega),show ¬ v=0 by omega,besI]
 clear hK
 by_cases h:(a+1).tmod v=b
 ·refine oEn fun L hL=>?_
  simp [C.impl_beside,wrapOk (x:=a+1) (by omega) (by omega),wrapOk (x:=b+1) (by omega) (by omega),show ¬ v=0 by omega,besI,h]
  refine hL _ ?_;clear hL L
  simp [C.impl_beside,wrapOk (x:=a+1) (by omega) (by omega),wrapOk (x:=b+1) (by omega) (by omega),show ¬ v=0 by omega,besI,h]
  refine cast (congrArg K ?_) hJ
  simp [ibeq,wrapOk (x:=a+1) (by omega) (by omega),wrapOk (x:=b+1) (by omega) (by omega),show ¬ v=0 by omega,besI,h]
 ·refine oEn fun L hL=>?_
  simp [C.impl_beside,wrapOk (x:=a+1) (by omega) (by omega),wrapOk (x:=b+1) (by omega) (by omega),show ¬ v=0 by omega,besI,h]
  refine hL _ ?_;clear hL L
  simp [C.impl_beside,wrapOk (x:=a+1) (by omega) (by omega),wrapOk (x:=b+1) (by omega) (by omega),show ¬ v=0 by omega,besI,h]
  refine cast (congrArg K ?_) hJ
  simp [ibeq,wrapOk (x:=a+1) (by omega) (by omega),wrapOk (x:=b+1) (by omega) (by omega),show ¬ v=0 by omega,besI,h]
theorem impl_IsDiagonal_c (v:Int) (d:DI):ACalls Try.prog F.impl_IsDiagonal [.int v,agD d] [] true (fun outs res=>outs=[]/\res=[.one (D.bool (decide (IsDg v d)))]):=by
 refine ACalls.of_body (C:=C.impl_IsDiagonal) (n:=Try.f78.ntmps) tabT folT Try.func78 rfl (by kernel_rfl) rfl (Nat.le_of_ble_eq_true rfl) (by decide) (by kernel_rfl) (by kernel_rfl) rfl (by simp) (by simp) ?_
 simp only [Try.f78]
 refine wseq ?_
 refine wreg fun K hK=>?_
 simp [C.impl_IsDiagonal,agD]
 refine hK _ ?_;clear hK K
 show AWp _ _ _ _ _
 refine wseq ?_
 refine wregI ([0,1] ++ ([2,3,4,5,6,7,8,9,10,11,12,13,14,15,16,17,18,19,20,21,22,23,24,25,26] ++ ([27,28,29]))) rfl fun K hK=>?_
 have hJ:K ⟨ofL [(4,.bool (decide (IsDg v d)))],ofRO []⟩:=by
  refine hK _ ?_;clear hK K
  show AWp _ _ _ _ _
  refine wret ?_
  simp [C.impl_IsDiagonal,agD]
 clear hK
 by_cases h1:4<=v/\v<=8
 ·by_cases h2:0<=d.1
  ·by_cases h3:d.1 < d.2
   ·by_cases h4:d.2 < v
    ·refine oSg fun L hL=>?_
     simp [C.impl_IsDiagonal,agD,h1,h2,h3,h4]
     refine wcall1 (impl_polygonOk_c v) (by simp) (by simp) ?_
     simp [C.impl_IsDiagonal,agD,h1,h2,h3,h4]
     refine hL _ ?_;clear hL L
     refine oSg fun L hL=>?_
     simp [C.impl_IsDiagonal,agD,h1,h2,h3,h4]
     refine wcall1 (impl_beside_c v d.1 d.2 h1 ⟨h2,by omega⟩ ⟨by omega,h4⟩) (by simp [agD]) (by simp) ?_
     simp [C.impl_IsDiagonal,agD,h1,h2,h3,h4]
     refine hL _ ?_;clear hL L
     refine oEn fun L hL=>?_
     simp [C.impl_IsDiagonal,agD,h1,h2,h3,h4]
     refine hL _ ?_;clear hL L
     simp [C.impl_IsDiagonal,agD,h1,h2,h3,h4]
     refine cast (congrArg K ?_) hJ
     simp [IsDg,h1,h2,h3,h4,besI_lt h1.1 h2 h3 h4,show (d.1+2<=d.2)=¬ (d.1+1=d.2) from propext (by omega),agD,h1,h2,h3,h4]
    ·refine oSg fun L hL=>?_
     simp [C.impl_IsDiagonal,agD,h1,h2,h3,h4]
     refine wcall1 (impl_polygonOk_c v) (by simp) (by simp) ?_
     simp [C.impl_IsDiagonal,agD,h1,h2,h3,h4]
     refine hL _ ?_;clear hL L
     refine oSg fun L hL=>?_
     simp [C.impl_IsDiagonal,agD,h1,h2,h3,h4]
     refine hL _ ?_;clear hL L
     refine oEn fun L hL=>?_
     simp [C.impl_IsDiagonal,agD,h1,h2,h3,h4]
     refine hL _ ?_;clear hL L
     simp [C.impl_IsDiagonal,agD,h1,h2,h3,h4]
     refine cast (congrArg K ?_) hJ
     simp [IsDg,h1,h2,h4,agD,h1,h2,h3,h4]
   ·refine oSg fun L hL=>?_
    simp [C.impl_IsDiagonal,agD,h1,h2,h3]
    refine wcall1 (impl_polygonOk_c v) (by simp) (by simp) ?_
    simp [C.impl_IsDiagonal,agD,h1,h2,h3]
    refine hL _ ?_;clear hL L
    refine oSg fun L hL=>?_
    simp [C.impl_IsDiagonal,agD,h1,h2,h3]
    refine hL _ ?_;clear hL L
    refine oEn fun L hL=>?_
    simp [C.impl_IsDiagonal,agD,h1,h2,h3]
    refine hL _ ?_;clear hL L
    simp [C.impl_IsDiagonal,agD,h1,h2,h3]
    refine cast (congrArg K ?_) hJ
    simp [IsDg,h1,h2,show ¬ d.1+2<=d.2 by omega,agD,h1,h2,h3]
  ·refine oSg fun L hL=>?_
   simp [C.impl_IsDiagonal,agD,h1,h2]
   refine wcall1 (impl_polygonOk_c v) (by simp) (by simp) ?_
   simp [C.impl_IsDiagonal,agD,h1,h2]
   refine hL _ ?_;clear hL L
   refine oSg fun L hL=>?_
   simp [C.impl_IsDiagonal,agD,h1,h2]
   refine hL _ ?_;clear hL L
   refine oEn fun L hL=>?_
   simp [C.impl_IsDiagonal,agD,h1,h2]
   refine hL _ ?_;clear hL L
   simp [C.impl_IsDiagonal,agD,h1,h2]
   refine cast (congrArg K ?_) hJ
   simp [IsDg,h1,h2,agD,h1,h2]
 ·refine oSg fun L hL=>?_
  simp [C.impl_IsDiagonal,agD,h1]
  refine wcall1 (impl_polygonOk_c v) (by simp) (by simp) ?_
  simp [C.impl_IsDiagonal,agD,h1]
  refine hL _ ?_;clear hL L
  refine oSg fun L hL=>?_
  simp [C.impl_IsDiagonal,agD,h1]
  refine hL _ ?_;clear hL L
  refine oEn fun L hL=>?_
  simp [C.impl_IsDiagonal,agD,h1]
  refine hL _ ?_;clear hL L
  simp [C.impl_IsDiagonal,agD,h1]
  refine cast (congrArg K ?_) hJ
  simp [IsDg,h1,agD,h1]
theorem impl_DiagonalsCross_c (v x y z w:Int):ACalls Try.prog F.impl_DiagonalsCross [.int v,.ag [.int x,.int y],.ag [.int z,.int w]] [] true (fun outs res=>outs=[]/\res=[.one (D.bool (decide (IsDg v (x,y)/\IsDg v (z,w)/\CrI (x,y) (z,w))))]):=by
 have hd:=impl_IsDiagonal_c v (x,y)
 have he:=impl_IsDiagonal_c v (z,w)
 simp only [agD] at hd he
 refine ACalls.of_body (C:=C.impl_DiagonalsCross) (n:=Try.f31.ntmps) tabT folT Try.func31 rfl (by kernel_rfl) rfl (Nat.le_of_ble_eq_true rfl) (by decide) (by kernel_rfl) (by kernel_rfl) rfl (by simp) (by simp) ?_
 simp only [Try.f31]
 refine wseq ?_
 refine wreg fun K hK=>?_
 simp [C.impl_DiagonalsCross]
 refine hK _ ?_;clear hK K
 show AWp _ _ _ _ _
 refine wseq ?_
 refine wseq ?_
 refine wregI ([0,1,2] ++ ([3,4,5,6,7] ++ ([8,9,10,11,12,13,14,15,16,17,18,19,20,21,22,23,24,25,26,27,28,29,30,31,32,33,34,35,36,37]))) rfl fun K hK=>?_
 have hJ:K ⟨ofL [(4,.pt (4,0) [] 0),(5,.pt (5,0) [] 0),(44,.bool (!decide (IsDg v (x,y)/\IsDg v (z,w)/\¬ x=z/\¬ x=w/\¬ y=z/\¬ y=w)))],ofRO [((4,0),some (.bx [D.int x,D.int y])),((5,0),some (.bx [D.int z,D.int w]))]⟩:=by
  refine hK _ ?_;clear hK K
  show AWp _ _ _ _ _
  refine wcond _ rfl (fun hc1=>?_) (fun hc1=>?_)
  ·have hr:=nd_t hc1
   have hno:¬ (IsDg v (x,y)/\IsDg v (z,w)/\CrI (x,y) (z,w)):=fun h=>hr ⟨h.1,h.2.1,by have:=h.2.2;simp only [CrI] at this;omega⟩
   refine wseq ?_
   refine wreg fun K hK=>?_
   simp [C.impl_DiagonalsCross]
   refine hK _ ?_;clear hK K
   show AWp _ _ _ _ _
   refine wret ?_
   simp [C.impl_DiagonalsCross,hno]
  ·have hr:=nd_f hc1
   obtain ⟨g1,g2,g3,g4,g5,g6⟩:=hr
   have hX:decide (IsDg v (x,y)/\IsDg v (z,w)/\CrI (x,y) (z,w))=(decide (x<=z/\z<=y) != decide (x<=w/\w<=y)):=by
    have q1:=g1.2
    have q2:=g2.2
    dsimp only at q1 q2
    have:(CrI (x,y) (z,w))↔¬ ((x<=z/\z<=y)↔(x<=w/\w<=y)):=by simp only [CrI];omega
    by_cases a:(x<=z/\z<=y) <;> by_cases b:(x<=w/\w<=y) <;> simp only [g1,g2,this,a,b] <;> decide
   rw [hX]
   refine wskip ?_
   show AWp _ _ _ _ _
   refine wseq ?_
   refine wdrawI [(true,0),(true,1),(true,2),(true,3),(true,4),(true,5),(true,7),(true,8),(true,9),(true,10),(true,11),(true,12),(false,6),(false,13),(true,14),(true,15)] ⟨by kernel_rfl,by kernel_rfl⟩ ([0,1,2,3,4,5,7,8,9,10,11,12,6] ++ ([13] ++ ([14,15]))) rfl fun K hK=>?_
   have hJ:K ⟨ofL [(6,.bool (decide (x<=z/\z<=y) != decide (x<=w/\w<=y)))],ofRO []⟩:=by
    refine hK _ ?_;clear hK K
    show AWp _ _ _ _ _
    refine wret ?_
    simp [C.impl_DiagonalsCross]
   clear hK
   simp [C.impl_DiagonalsCross]
   repeat' first
    | (refine wcall1 (impl_within_c z x y) ?_ (by simp) ?_;(focus (simp;done));simp [C.impl_DiagonalsCross])
    | (refine wcall1 (impl_within_c w x y) ?_ (by simp) ?_;(focus (simp;done));simp [C.impl_DiagonalsCross])
    | (refine cast (congrArg K ?_) hJ;simp [bne];done)
    | refine And.intro ?_ ?_
 clear hK
 by_cases h1:IsDg v (x,y)
 ·by_cases h2:IsDg v (z,w)
  ·by_cases h3:x=z
   ·subst h3
    have h3:=trivial
    refine oSg fun L hL=>?_
    simp [C.impl_DiagonalsCross,h1,h2,h3]
    refine wcall1 (hd) (by simp) (by simp) ?_
    simp [C.impl_DiagonalsCross,h1,h2,h3]
    refine hL _ ?_;clear hL L
    refine oSg fun L hL=>?_
    simp [C.impl_DiagonalsCross,h1,h2,h3]
    refine wcall1 (he) (by simp) (by simp) ?_
    simp [C.impl_DiagonalsCross,h1,h2,h3]
    refine hL _ ?_;clear hL L
    refine oEn fun L hL=>?_
    simp [C.impl_DiagonalsCross,h1,h2,h3]
    refine hL _ ?_;clear hL L
    simp [C.impl_DiagonalsCross,h1,h2,h3]
    refine cast (congrArg K ?_) hJ
    simp [ibeq,h1,h2,h1,h2,h3]
   ·by_cases h4:x=w
    ·subst h4
     have h4:=trivial
     refine oSg fun L hL=>?_
     simp [C.impl_DiagonalsCross,h1,h2,h3,h4]
     refine wcall1 (hd) (by simp) (by simp) ?_
     simp [C.impl_DiagonalsCross,h1,h2,h3,h4]
     refine hL _ ?_;clear hL L
     refine oSg fun L hL=>?_
     simp [C.impl_DiagonalsCross,h1,h2,h3,h4]
     refine wcall1 (he) (by simp) (by simp) ?_
     simp [C.impl_DiagonalsCross,h1,h2,h3,h4]
     refine hL _ ?_;clear hL L
     refine oEn fun L hL=>?_
     simp [C.impl_DiagonalsCross,h1,h2,h3,h4]
     refine hL _ ?_;clear hL L
     simp [C.impl_DiagonalsCross,h1,h2,h3,h4]
     refine cast (congrArg K ?_) hJ
     simp [ibeq,h1,h2,h3,h1,h2,h3,h4]
    ·by_cases h5:y=z
     ·subst h5
      have h5:=trivial
      refine oSg fun L hL=>?_
      simp [C.impl_DiagonalsCross,h1,h2,h3,h4,h5]
      refine wcall1 (hd) (by simp) (by simp) ?_
      simp [C.impl_DiagonalsCross,h1,h2,h3,h4,h5]
      refine hL _ ?_;clear hL L
      refine oSg fun L hL=>?_
      simp [C.impl_DiagonalsCross,h1,h2,h3,h4,h5]
      refine wcall1 (he) (by simp) (by simp) ?_
      simp [C.impl_DiagonalsCross,h1,h2,h3,h4,h5]
      refine hL _ ?_;clear hL L
      refine oEn fun L hL=>?_
      simp [C.impl_DiagonalsCross,h1,h2,h3,h4,h5]
      refine hL _ ?_;clear hL L
      simp [C.impl_DiagonalsCross,h1,h2,h3,h4,h5]
      refine cast (congrArg K ?_) hJ
      simp [ibeq,h1,h2,h3,h4,h1,h2,h3,h4,h5]
     ·refine oSg fun L hL=>?_
      simp [C.impl_DiagonalsCross,h1,h2,h3,h4,h5]
      refine wcall1 (hd) (by simp) (by simp) ?_
      simp [C.impl_DiagonalsCross,h1,h2,h3,h4,h5]
      refine hL _ ?_;clear hL L
      refine oSg fun L hL=>?_
      simp [C.impl_DiagonalsCross,h1,h2,h3,h4,h5]
      refine wcall1 (he) (by simp) (by simp) ?_
      simp [C.impl_DiagonalsCross,h1,h2,h3,h4,h5]
      refine hL _ ?_;clear hL L
      refine oEn fun L hL=>?_
      simp [C.impl_DiagonalsCross,h1,h2,h3,h4,h5]
      refine hL _ ?_;clear hL L
      simp [C.impl_DiagonalsCross,h1,h2,h3,h4,h5]
      refine cast (congrArg K ?_) hJ
      simp [ibeq,h1,h2,h3,h4,h5,h1,h2,h3,h4,h5]
  ·refine oSg fun L hL=>?_
   simp [C.impl_DiagonalsCross,h1,h2]
   refine wcall1 (hd) (by simp) (by simp) ?_
   simp [C.impl_DiagonalsCross,h1,h2]
   refine hL _ ?_;clear hL L
   refine oSg fun L hL=>?_
   simp [C.impl_DiagonalsCross,h1,h2]
   refine wcall1 (he) (by simp) (by simp) ?_
   simp [C.impl_DiagonalsCross,h1,h2]
   refine hL _ ?_;clear hL L
   refine oEn fun L hL=>?_
   simp [C.impl_DiagonalsCross,h1,h2]
   refine hL _ ?_;clear hL L
   simp [C.impl_DiagonalsCross,h1,h2]
   refine cast (congrArg K ?_) hJ
   simp [ibeq,h1,h2,h1,h2]
 ·refine oSg fun L hL=>?_
  simp [C.impl_DiagonalsCross,h1]
  refine wcall1 (hd) (by simp) (by simp) ?_
  simp [C.impl_DiagonalsCross,h1]
  refine hL _ ?_;clear hL L
  refine oSg fun L hL=>?_
  simp [C.impl_DiagonalsCross,h1]
  refine hL _ ?_;clear hL L
  refine oEn fun L hL=>?_
  simp [C.impl_DiagonalsCross,h1]
  refine hL _ ?_;clear hL L
  simp [C.impl_DiagonalsCross,h1]
  refine cast (congrArg K ?_) hJ
  simp [ibeq,h1,h1]
theorem cross_c (v:Int) (d e:DI):ACalls Try.prog F.impl_DiagonalsCross [.int v,agD d,agD e] [] true (fun outs res=>outs=[]/\res=[.one (D.bool (decide (IsDg v d/\IsDg v e/\CrI d e)))]):=impl_DiagonalsCross_c v d.1 d.2 e.1 e.2
theorem slices_IndexFunc_impl_Diagonal_impl_Diagonal_c (xs:List DI) (g:Nat) (c1 c2:List D) (p:DI->Bool) (hx:xs.length < 4611686018427387904) (hM:aget [] MM g=[]) (hp:∀ x∈xs,ACalls Try.prog g [agD x,.d (.vp c1),.d (.vp c2)] [] true (fun outs res=>outs=[]/\res=[.one (D.bool (p x))])):ACalls Try.prog F.slices_IndexFunc_impl_Diagonal_impl_Diagonal [.d (.sh 2 xs.length (rows gM xs)),.cl g [.d (.vp c1),.d (.vp c2)]] [] true (fun outs res=>outs=[]/\∃ r:Int,res=[.one (D.int r)]/\decide (0<=r)=xs.any p):=by
 refine ACalls.of_body (C:=C.slices_IndexFunc_impl_Diagonal_impl_Diagonal) (n:=Try.f193.ntmps) tabT folT Try.func193 rfl (by kernel_rfl) rfl (Nat.le_of_ble_eq_true rfl) (by decide) (by kernel_rfl) (by kernel_rfl) rfl (by simp) (by simp) ?_
 simp only [Try.f193]
 refine wseq ?_
 refine wreg fun K hK=>?_
 simp [C.slices_IndexFunc_impl_Diagonal_impl_Diagonal]
 refine hK _ ?_;clear hK K
 show AWp _ _ _ _ _
 refine wseq ?_
 refine wseq ?_
 refine wreg fun K hK=>?_
 simp [C.slices_IndexFunc_impl_Diagonal_impl_Diagonal]
 refine hK _ ?_;clear hK K
 show AWp _ _ _ _ _
 refine wblock ?_
 refine wloop (fun k:Nat=>⟨ofL [(0,.d (.sh 2 xs.length (rows gM xs))),(1,.cl g [.d (.vp c1),.d (.vp c2)]),(7,.int xs.length),(8,FV.int k)],ofRO []⟩) (fun k=>k<=xs.length/\(xs.take k).any p=false) (fun k=>xs.length - k) 0 (by simp [C.slices_IndexFunc_impl_Diagonal_impl_Diagonal]) (by simp) ?_
 intro x1 hx1 R1 hR1
 obtain ⟨hk,ht⟩:=hx1
 refine wseq ?_
 refine wreg fun K hK=>?_
 simp [C.slices_IndexFunc_impl_Diagonal_impl_Diagonal]
 refine hK _ ?_;clear hK K
 show AWp _ _ _ _ _
 refine wseq ?_
 refine wcond _ rfl (fun hc1=>?_) (fun hc1=>?_)
 ·have h1:x1 < xs.length:=by have:=d_t hc1;omega
  refine wskip ?_
  show AWp _ _ _ _ _
  refine wseq ?_
  refine wblock ?_
  refine wseq ?_
  refine wreg fun K hK=>?_
  simp [C.slices_IndexFunc_impl_Diagonal_impl_Diagonal]
  refine hK _ ?_;clear hK K
  show AWp _ _ _ _ _
  refine wseq ?_
  refine wregI ([0,1,2,3,4,5] ++ ([])) rfl fun K hK=>?_
  refine oSg fun L hL=>?_
  simp [C.slices_IndexFunc_impl_Diagonal_impl_Diagonal,gM_0 h1,gM_1 h1,h1,hM,agD]
  refine wcall1 (hp xs[x1] (List.getElem_mem h1)) (by simp [gM_0 h1,gM_1 h1,h1,hM,agD]) (by simp) ?_
  simp [C.slices_IndexFunc_impl_Diagonal_impl_Diagonal,gM_0 h1,gM_1 h1,h1,hM,agD]
  refine hL _ ?_;clear hL L
  refine oEn fun L hL=>?_
  simp only [AOpsI]
  refine hL _ ?_;clear hL L
  simp [C.slices_IndexFunc_impl_Diagonal_impl_Diagonal,gM_0 h1,gM_1 h1,h1,hM,agD]
  refine hK _ ?_;clear hK K
  show AWp _ _ _ _ _
  refine wcond _ rfl (fun hc2=>?_) (fun hc2=>?_)
  ·have hpx:p xs[x1]=true:=by simpa using hc2
   refine wseq ?_
   refine wreg fun K hK=>?_
   simp [C.slices_IndexFunc_impl_Diagonal_impl_Diagonal]
   refine hK _ ?_;clear hK K
   show AWp _ _ _ _ _
   refine wret ?_
   simp [C.slices_IndexFunc_impl_Diagonal_impl_Diagonal]
   exact ⟨xs[x1].1,xs[x1].2,List.getElem_mem h1,hpx⟩
  ·have hpx:p xs[x1]=false:=by simpa using hc2
   refine wskip ?_
   show AWp _ _ _ _ _
   refine wreg fun K hK=>?_
   simp [C.slices_IndexFunc_impl_Diagonal_impl_Diagonal,wrap_succ (show x1 < 4611686018427387904 by omega)]
   refine hK _ ?_;clear hK K
   simp [C.slices_IndexFunc_impl_Diagonal_impl_Diagonal]
   refine hR1 (x1+1) ⟨h1,?_⟩ (by omega)
   rw [List.take_succ_eq_append_getElem h1,List.any_append,ht]
   simp [hpx]
 ·have h1:x1=xs.length:=by have:=d_f hc1;omega
  have ht2:xs.any p=false:=by rw [h1,List.take_length] at ht;exact ht
  refine wexit ?_
  show AWp _ _ _ _ _
  refine wseq ?_
  refine wreg fun K hK=>?_
  simp [C.slices_IndexFunc_impl_Diagonal_impl_Diagonal]
  refine hK _ ?_;clear hK K
  show AWp _ _ _ _ _
  refine wret ?_
  simp [C.slices_IndexFunc_impl_Diagonal_impl_Diagonal]
  intro a b hx
  have:=List.any_eq_false.1 ht2 (a,b) hx
  simpa using this
theorem slices_ContainsFunc_impl_Diagonal_impl_Diagonal_c (xs:List DI) (g:Nat) (c1 c2:List D) (p:DI->Bool) (hx:xs.length < 4611686018427387904) (hM:aget [] MM g=[]) (hp:∀ x∈xs,ACalls Try.prog g [agD x,.d (.vp c1),.d (.vp c2)] [] true (fun outs res=>outs=[]/\res=[.one (D.bool (p x))])):ACalls Try.prog F.slices_ContainsFunc_impl_Diagonal_impl_Diagonal [.d (.sh 2 xs.length (rows gM xs)),.cl g [.d (.vp c1),.d (.vp c2)]] [] true (fun outs res=>outs=[]/\res=[.one (D.bool (xs.any p))]):=by
 refine ACalls.of_body (C:=C.slices_ContainsFunc_impl_Diagonal_impl_Diagonal) (n:=Try.f176.ntmps) tabT folT Try.func176 rfl (by kernel_rfl) rfl (Nat.le_of_ble_eq_true rfl) (by decide) (by kernel_rfl) (by kernel_rfl) rfl (by simp) (by simp) ?_
 simp only [Try.f176]
 refine wseq ?_
 refine wreg fun K hK=>?_
 simp [C.slices_ContainsFunc_impl_Diagonal_impl_Diagonal]
 refine hK _ ?_;clear hK K
 show AWp _ _ _ _ _
 refine wseq ?_
 refine wregI ([0,1,2] ++ ([3,4])) rfl fun K hK=>?_
 refine oSg fun L hL=>?_
 simp [C.slices_ContainsFunc_impl_Diagonal_impl_Diagonal]
 refine wcall (slices_IndexFunc_impl_Diagonal_impl_Diagonal_c xs g c1 c2 p hx hM hp) (by simp) (by simp) (by simp) ?_
 rintro outs res ⟨rfl,r,rfl,hr⟩
 simp [C.slices_ContainsFunc_impl_Diagonal_impl_Diagonal]
 refine hL _ ?_;clear hL L
 refine oEn fun L hL=>?_
 simp [C.slices_ContainsFunc_impl_Diagonal_impl_Diagonal]
 refine hL _ ?_;clear hL L
 simp [C.slices_ContainsFunc_impl_Diagonal_impl_Diagonal]
 refine hK _ ?_;clear hK K
 show AWp _ _ _ _ _
 refine wret ?_
 simp [C.slices_ContainsFunc_impl_Diagonal_impl_Diagonal]
 exact hr
theorem impl_apart_1_c (e d:DI) (v:Int):ACalls Try.prog F.impl_apart_1 [agD e,.d (.vp [D.int d.1,D.int d.2]),.d (.vp [D.int v])] [] true (fun outs res=>outs=[]/\res=[.one (D.bool (decide ((e.1=d.1/\e.2=d.2)\/(IsDg v d/\IsDg v e/\CrI d e))))]):=by
 refine ACalls.of_body (C:=C.impl_apart_1) (n:=Try.f177.ntmps) tabT folT Try.func177 rfl (by kernel_rfl) rfl (Nat.le_of_ble_eq_true rfl) (by decide) (by kernel_rfl) (by kernel_rfl) rfl (by simp) (by simp) ?_
 simp only [Try.f177]
 refine wseq ?_
 refine wreg fun K hK=>?_
 simp [C.impl_apart_1,agD]
 refine hK _ ?_;clear hK K
 show AWp _ _ _ _ _
 refine wseq ?_
 refine wregI ([0,1,2,3,4,5,6,7] ++ ([8,9])) rfl fun K hK=>?_
 have hJ:K ⟨ofL [(4,.bool (decide ((e.1=d.1/\e.2=d.2)\/(IsDg v d/\IsDg v e/\CrI d e))))],ofRO []⟩:=by
  refine hK _ ?_;clear hK K
  show AWp _ _ _ _ _
  refine wret ?_
  simp [C.impl_apart_1,agD]
 clear hK
 by_cases h1:e.1=d.1/\e.2=d.2
 ·refine oSg fun L hL=>?_
  simp [C.impl_apart_1,agD,agD,h1]
  refine hL _ ?_;clear hL L
  refine oEn fun L hL=>?_
  simp [C.impl_apart_1,agD,agD,h1]
  refine hL _ ?_;clear hL L
  simp [C.impl_apart_1,agD,agD,h1]
  refine cast (congrArg K ?_) hJ
  simp [ibeq,agD,h1]
 ·have hb:(e.1 == d.1 && e.2 == d.2)=false:=by
   simp only [Bool.and_eq_false_iff,beq_eq_false_iff_ne]
   omega
  refine oSg fun L hL=>?_
  simp [C.impl_apart_1,agD,agD,hb,agD,h1]
  refine wcall1 (cross_c v d e) (by simp [agD,agD,hb,agD]) (by simp) ?_
  simp [C.impl_apart_1,agD,agD,hb,agD,h1]
  refine hL _ ?_;clear hL L
  refine oEn fun L hL=>?_
  simp [C.impl_apart_1,agD,agD,hb,agD,h1]
  refine hL _ ?_;clear hL L
  simp [C.impl_apart_1,agD,agD,hb,agD,h1]
  refine cast (congrArg K ?_) hJ
  simp [ibeq,agD,h1]
theorem impl_apart_c (v:Int) (l:List DI) (d:DI) (hx:l.length < 4611686018427387904):ACalls Try.prog F.impl_apart [.int v,.d (.sh 2 l.length (rows gM l)),agD d] [] true (fun outs res=>outs=[]/\res=[.one (D.bool (!l.any fun e=>decide ((e.1=d.1/\e.2=d.2)\/(IsDg v d/\IsDg v e/\CrI d e))))]):=by
 refine ACalls.of_body (C:=C.impl_apart) (n:=Try.f135.ntmps) tabT folT Try.func135 rfl (by kernel_rfl) rfl (Nat.le_of_ble_eq_true rfl) (by decide) (by kernel_rfl) (by kernel_rfl) rfl (by simp) (by simp) ?_
 simp only [Try.f135]
 refine wseq ?_
 refine wreg fun K hK=>?_
 simp [C.impl_apart,agD]
 refine hK _ ?_;clear hK K
 show AWp _ _ _ _ _
 refine wseq ?_
 refine wregI ([0,1,2] ++ ([3,4])) rfl fun K hK=>?_
 refine oSg fun L hL=>?_
 simp [C.impl_apart,agD,agD]
 refine wcall1 (slices_ContainsFunc_impl_Diagonal_impl_Diagonal_c l F.impl_apart_1 [D.int d.1,D.int d.2] [D.int v] _ hx rfl (fun e _=>impl_apart_1_c e d v)) (by simp [agD,agD]) (by simp) ?_
 simp [C.impl_apart,agD,agD]
 refine hL _ ?_;clear hL L
 refine oEn fun L hL=>?_
 simp [C.impl_apart,agD,agD]
 refine hL _ ?_;clear hL L
 simp [C.impl_apart,agD,agD]
 refine hK _ ?_;clear hK K
 show AWp _ _ _ _ _
 refine wret ?_
 simp [C.impl_apart,agD]
theorem slices_Index_impl_Diagonal_impl_Diagonal_c (xs:List DI) (d:DI) (hx:xs.length < 4611686018427387904):ACalls Try.prog F.slices_Index_impl_Diagonal_impl_Diagonal [.d (.sh 2 xs.length (rows gM xs)),agD d] [] true (fun outs res=>outs=[]/\∃ r:Int,res=[.one (D.int r)]/\((r=-1/\d ∉ xs)\/∃ k:Nat,r=k/\xs[k]? = some d)):=by
 refine ACalls.of_body (C:=C.slices_Index_impl_Diagonal_impl_Diagonal) (n:=Try.f95.ntmps) tabT folT Try.func95 rfl (by kernel_rfl) rfl (Nat.le_of_ble_eq_true rfl) (by decide) (by kernel_rfl) (by kernel_rfl) rfl (by simp) (by simp) ?_
 simp only [Try.f95]
 refine wseq ?_
 refine wreg fun K hK=>?_
 simp [C.slices_Index_impl_Diagonal_impl_Diagonal,agD]
 refine hK _ ?_;clear hK K
 show AWp _ _ _ _ _
 refine wseq ?_
 refine wseq ?_
 refine wreg fun K hK=>?_
 simp [C.slices_Index_impl_Diagonal_impl_Diagonal,agD]
 refine hK _ ?_;clear hK K
 show AWp _ _ _ _ _
 refine wblock ?_
 refine wloop (fun k:Nat=>⟨ofL [(0,.d (.sh 2 xs.length (rows gM xs))),(3,.pt (3,0) [] 0),(7,.int xs.length),(8,FV.int k)],ofRO [((3,0),some (.bx [D.int d.1,D.int d.2]))]⟩) (fun k=>k<=xs.length/\d ∉ xs.take k) (fun k=>xs.length - k) 0 (by simp [C.slices_Index_impl_Diagonal_impl_Diagonal,agD]) (by simp) ?_
 intro x1 hx1 R1 hR1
 obtain ⟨hk,ht⟩:=hx1
 refine wseq ?_
 refine wreg fun K hK=>?_
 simp [C.slices_Index_impl_Diagonal_impl_Diagonal,agD]
 refine hK _ ?_;clear hK K
 show AWp _ _ _ _ _
 refine wseq ?_
 refine wcond _ rfl (fun hc1=>?_) (fun hc1=>?_)
 ·have h1:x1 < xs.length:=by have:=d_t hc1;omega
  refine wskip ?_
  show AWp _ _ _ _ _
  refine wseq ?_
  refine wblock ?_
  refine wseq ?_
  refine wreg fun K hK=>?_
  simp [C.slices_Index_impl_Diagonal_impl_Diagonal,agD]
  refine hK _ ?_;clear hK K
  show AWp _ _ _ _ _
  refine wseq ?_
  refine wdraw (.take 0 (.take 1 (.take 2 (.take 3 (.take 4 (.take 5 (.done))))))) ⟨by kernel_rfl,by kernel_rfl⟩ fun K hK=>?_
  simp [C.slices_Index_impl_Diagonal_impl_Diagonal,agD,gM_0 h1,gM_1 h1,h1,agD]
  refine hK _ ?_;clear hK K
  show AWp _ _ _ _ _
  refine wcond _ rfl (fun hc2=>?_) (fun hc2=>?_)
  ·have he:d=xs[x1]:=by
    have:=hc2
    simp at this
    exact Prod.ext this.1 this.2
   refine wseq ?_
   refine wreg fun K hK=>?_
   simp [C.slices_Index_impl_Diagonal_impl_Diagonal,agD]
   refine hK _ ?_;clear hK K
   show AWp _ _ _ _ _
   refine wret ?_
   simp [C.slices_Index_impl_Diagonal_impl_Diagonal,agD]
   rw [he]
   exact ⟨x1,rfl,List.getElem?_eq_getElem h1⟩
  ·have he:¬ d=xs[x1]:=fun e=>by
    rw [e] at hc2
    simp at hc2
   refine wskip ?_
   show AWp _ _ _ _ _
   refine wreg fun K hK=>?_
   simp [C.slices_Index_impl_Diagonal_impl_Diagonal,agD,wrap_succ (show x1 < 4611686018427387904 by omega)]
   refine hK _ ?_;clear hK K
   simp [C.slices_Index_impl_Diagonal_impl_Diagonal,agD]
   refine cast (congrArg R1 ?_) (hR1 (x1+1) ⟨h1,?_⟩ (by omega))
   ·simp [agD]
   ·rw [List.take_succ_eq_append_getElem h1,List.mem_append,not_or]
    exact ⟨ht,by simpa using he⟩
 ·have h1:x1=xs.length:=by have:=d_f hc1;omega
  refine wexit ?_
  show AWp _ _ _ _ _
  refine wseq ?_
  refine wreg fun K hK=>?_
  simp [C.slices_Index_impl_Diagonal_impl_Diagonal,agD]
  refine hK _ ?_;clear hK K
  show AWp _ _ _ _ _
  refine wret ?_
  simp [C.slices_Index_impl_Diagonal_impl_Diagonal,agD]
  rw [h1,List.take_length] at ht
  exact ht
theorem slices_Contains_impl_Diagonal_impl_Diagonal_c (xs:List DI) (d:DI) (hx:xs.length < 4611686018427387904):ACalls Try.prog F.slices_Contains_impl_Diagonal_impl_Diagonal [.d (.sh 2 xs.length (rows gM xs)),agD d] [] true (fun outs res=>outs=[]/\res=[.one (D.bool (decide (d∈xs)))]):=by
 have hI:=slices_Index_impl_Diagonal_impl_Diagonal_c xs d hx
 simp only [agD] at hI
 refine ACalls.of_body (C:=C.slices_Contains_impl_Diagonal_impl_Diagonal) (n:=Try.f146.ntmps) tabT folT Try.func146 rfl (by kernel_rfl) rfl (Nat.le_of_ble_eq_true rfl) (by decide) (by kernel_rfl) (by kernel_rfl) rfl (by simp) (by simp) ?_
 simp only [Try.f146]
 refine wseq ?_
 refine wreg fun K hK=>?_
 simp [C.slices_Contains_impl_Diagonal_impl_Diagonal,agD]
 refine hK _ ?_;clear hK K
 show AWp _ _ _ _ _
 refine wseq ?_
 refine wregI ([0,1,2] ++ ([3,4])) rfl fun K hK=>?_
 refine oSg fun L hL=>?_
 simp [C.slices_Contains_impl_Diagonal_impl_Diagonal,agD]
 refine wcall (hI) (by simp) (by simp) (by simp) ?_
 rintro outs res ⟨rfl,r,rfl,hr⟩
 simp [C.slices_Contains_impl_Diagonal_impl_Diagonal,agD]
 refine hL _ ?_;clear hL L
 refine oEn fun L hL=>?_
 simp [C.slices_Contains_impl_Diagonal_impl_Diagonal,agD]
 refine hL _ ?_;clear hL L
 simp [C.slices_Contains_impl_Diagonal_impl_Diagonal,agD]
 refine hK _ ?_;clear hK K
 show AWp _ _ _ _ _
 refine wret ?_
 simp [C.slices_Contains_impl_Diagonal_impl_Diagonal,agD]
 rcases hr with ⟨h1,h2⟩ | ⟨k,h1,h2⟩
 ·simp [h1,h2]
 ·have:=List.mem_of_getElem? h2
  simp [h1,this]
end Go.Proofs.Ytfcgcgmleogamaa.Ab
namespace Go.Proofs.Ytfcgcgmleogamaa.Ab
open Go
set_option maxRecDepth 10000
set_option maxHeartbeats 2000000
def TriI (v:Int) (l:List DI):Prop:=(4<=v/\v<=8)/\(l.length:Int)=v - 3/\(∀ d∈l,IsDg v d)/\l.Pairwise fun e d=>¬ ((e.1=d.1/\e.2=d.2)\/CrI d e)
noncomputable instance (v:Int) (l:List DI):Decidable (TriI v l):=Classical.propDecidable _
def GdT (v:Int) (l:List DI):Prop:=(∀ d∈l,IsDg v d)/\l.Pairwise fun e d=>¬ ((e.1=d.1/\e.2=d.2)\/CrI d e)
theorem gdT_snoc {v:Int} {l:List DI} {d:DI}:GdT v (l ++ [d])↔GdT v l/\IsDg v d/\∀ e∈l,¬ ((e.1=d.1/\e.2=d.2)\/CrI d e):=by
 unfold GdT
 rw [List.pairwise_append]
 simp only [List.mem_append,List.mem_singleton,List.pairwise_singleton,true_and]
 refine ⟨fun ⟨h1,h2,h3⟩=>⟨⟨fun d hd=>h1 d (.inl hd),h2⟩,h1 d (.inr rfl),fun e he=>h3 e he d rfl⟩,fun ⟨⟨h1,h2⟩,h3,h4⟩=>⟨fun x hx=>?_,h2,fun e he x hx=>by subst hx;exact h4 e he⟩⟩
 rcases hx with hx | rfl
 ·exact h1 x hx
 ·exact h3
theorem gdT_take {v:Int} {l:List DI} {k:Nat} (h:GdT v l):GdT v (l.take k):=⟨fun d hd=>h.1 d (List.mem_of_mem_take hd),h.2.sublist (List.take_sublist _ _)⟩
theorem impl_IsTriangulation_c (v:Int) (l:List DI) (hx:l.length < 4611686018427387904):ACalls Try.prog F.impl_IsTriangulation [.int v,.d (.sh 2 l.length (rows gM l))] [] true (fun outs res=>outs=[]/\res=[.one (D.bool (decide (TriI v l)))]):=by
 refine ACalls.of_body (C:=C.impl_IsTriangulation) (n:=Try.f77.ntmps) tabT folT Try.func77 rfl (by kernel_rfl) rfl (Nat.le_of_ble_eq_true rfl) (by decide) (by kernel_rfl) (by kernel_rfl) rfl (by simp) (by simp) ?_
 simp only [Try.f77]
 refine wseq ?_
 refine wreg fun K hK=>?_
 simp [C.impl_IsTriangulation]
 refine hK _ ?_;clear hK K
 show AWp _ _ _ _ _
 refine wseq ?_
 refine wseq ?_
 refine wregI ([0,1] ++ ([2,3,4,5,6,7,8,9])) rfl fun K hK=>?_
 have hJ:K ⟨ofL [(0,.int v),(1,.d (.sh 2 l.length (rows gM l))),(16,.bool (!decide ((4<=v/\v<=8)/\(l.length:Int)=v - 3)))],ofRO []⟩:=by
  refine hK _ ?_;clear hK K
  show AWp _ _ _ _ _
  refine wcond _ rfl (fun hc1=>?_) (fun hc1=>?_)
  ·have hr:=nd_t hc1
   have hno:¬ TriI v l:=fun h=>hr ⟨h.1,h.2.1⟩
   refine wseq ?_
   refine wreg fun K hK=>?_
   simp [C.impl_IsTriangulation]
   refine hK _ ?_;clear hK K
   show AWp _ _ _ _ _
   refine wret ?_
   simp [C.impl_IsTriangulation,hno]
  ·have hr:=nd_f hc1
   refine wskip ?_
   show AWp _ _ _ _ _
   refine wseq ?_
   refine wseq ?_
   refine wreg fun K hK=>?_
   simp [C.impl_IsTriangulation]
   refine hK _ ?_;clear hK K
   show AWp _ _ _ _ _
   refine wblock ?_
   refine wloop (fun k:Nat=>⟨ofL [(0,.int v),(1,.d (.sh 2 l.length (rows gM l))),(17,.d (.sh 2 l.length (rows gM l))),(18,.int l.length),(19,FV.int k)],ofRO []⟩) (fun k=>k<=l.length/\GdT v (l.take k)) (fun k=>l.length - k) 0 (by simp [C.impl_IsTriangulation]) ⟨by simp,by simp [GdT]⟩ ?_
   intro x1 hx1 R1 hR1
   obtain ⟨hk,hg⟩:=hx1
   refine wseq ?_
   refine wreg fun K hK=>?_
   simp [C.impl_IsTriangulation]
   refine hK _ ?_;clear hK K
   show AWp _ _ _ _ _
   refine wseq ?_
   refine wcond _ rfl (fun hc2=>?_) (fun hc2=>?_)
   ·have h1:x1 < l.length:=by have:=d_t hc2;omega
    have hd:=impl_IsDiagonal_c v l[x1]
    have ha:=impl_apart_c v (l.take x1) l[x1] (by simp;omega)
    have hll:(l.take x1).length=x1:=by simp;omega
    have htk:(rows gM l).take (2*x1)=rows gM (l.take x1):=rows_take gM_two l x1
    rw [hll] at ha
    simp only [agD] at hd ha
    refine wskip ?_
    show AWp _ _ _ _ _
    refine wseq ?_
    refine wblock ?_
    refine wseq ?_
    refine wreg fun K hK=>?_
    simp [C.impl_IsTriangulation,gM_0 h1,gM_1 h1,h1]
    refine hK _ ?_;clear hK K
    show AWp _ _ _ _ _
    refine wseq ?_
    refine wdrawI [(true,0),(true,1),(false,2),(true,3),(true,4),(true,5),(true,6),(true,7),(true,8),(true,9),(false,10),(true,11),(true,12)] ⟨by kernel_rfl,by kernel_rfl⟩ ([0,1,2] ++ ([3,4,5,6,7,8,9,10] ++ ([11,12]))) rfl fun K hK=>?_
    have hJ:K ⟨ofL [(0,.int v),(1,.d (.sh 2 l.length (rows gM l))),(17,.d (.sh 2 l.length (rows gM l))),(18,.int l.length),(19,FV.int x1),(36,.bool (!(decide (IsDg v l[x1]) && !((l.take x1).any fun e=>decide ((e.1=l[x1].1/\e.2=l[x1].2)\/(IsDg v l[x1]/\IsDg v e/\CrI l[x1] e))))))],ofRO []⟩:=by
     refine hK _ ?_;clear hK K
     show AWp _ _ _ _ _
     refine wcond _ rfl (fun hc3=>?_) (fun hc3=>?_)
     ·have hno:¬ TriI v l:=fun h=>by
       have h2:=gdT_take (k:=x1+1) (l:=l) ⟨h.2.2.1,h.2.2.2⟩
       rw [List.take_succ_eq_append_getElem h1,gdT_snoc] at h2
       have h3:=h2.1.1
       simp only [Bool.not_eq_true',Bool.and_eq_false_iff,decide_eq_false_iff_not,Bool.not_eq_false',List.any_eq_true,decide_eq_true_eq] at hc3
       rcases hc3 with hc3 | ⟨e,he,hc3⟩
       ·exact hc3 h2.2.1
       ·exact h2.2.2 e he (hc3.imp id fun q=>q.2.2)
      refine wseq ?_
      refine wreg fun K hK=>?_
      simp [C.impl_IsTriangulation]
      refine hK _ ?_;clear hK K
      show AWp _ _ _ _ _
      refine wret ?_
      simp [C.impl_IsTriangulation,hno]
     ·have hnx:GdT v (l.take (x1+1)):=by
       rw [List.take_succ_eq_append_getElem h1,gdT_snoc]
       simp only [Bool.not_eq_false',Bool.and_eq_true,decide_eq_true_eq,Bool.not_eq_true',List.any_eq_false] at hc3
       exact ⟨hg,hc3.1,fun e he q=>hc3.2 e he (q.imp id fun q=>⟨hc3.1,hg.1 e he,q⟩)⟩
      refine wskip ?_
      show AWp _ _ _ _ _
      refine wreg fun K hK=>?_
      simp [C.impl_IsTriangulation,wrap_succ (show x1 < 4611686018427387904 by omega)]
      refine hK _ ?_;clear hK K
      simp [C.impl_IsTriangulation]
      exact hR1 (x1+1) ⟨h1,hnx⟩ (by omega)
    clear hK
    by_cases hdg:IsDg v l[x1]
    ·simp [C.impl_IsTriangulation,hdg]
     repeat' first
      | (refine wcall1 hd ?_ (by simp) ?_;(focus (simp;done));simp [C.impl_IsTriangulation,hdg,show (0:Int)<=x1 by omega,show (x1:Int)<=l.length by omega,htk])
      | (refine wcall1 ha ?_ (by simp) ?_;(focus (simp [htk];done));simp [C.impl_IsTriangulation,hdg])
      | (refine cast (congrArg K ?_) hJ;simp [hdg];done)
      | refine And.intro ?_ ?_
    ·simp [C.impl_IsTriangulation,hdg]
     repeat' first
      | (refine wcall1 hd ?_ (by simp) ?_;(focus (simp;done));simp [C.impl_IsTriangulation,hdg])
      | (refine cast (congrArg K ?_) hJ;simp [hdg];done)
      | refine And.intro ?_ ?_
   ·have h1:x1=l.length:=by have:=d_f hc2;omega
    have hyes:TriI v l:=by
     rw [h1,List.take_length] at hg
     exact ⟨hr.1,hr.2,hg.1,hg.2⟩
    refine wexit ?_
    show AWp _ _ _ _ _
    refine wseq ?_
    refine wreg fun K hK=>?_
    simp [C.impl_IsTriangulation]
    refine hK _ ?_;clear hK K
    show AWp _ _ _ _ _
    refine wret ?_
    simp [C.impl_IsTriangulation,hyes]
 clear hK
 by_cases h1:4<=v/\v<=8
 ·have hw:IntKind.i64.wrap (v - 3)=v - 3:=wrapOk (by omega) (by omega)
  refine oSg fun L hL=>?_
  simp [C.impl_IsTriangulation,hw,h1]
  refine wcall1 (impl_polygonOk_c v) (by simp) (by simp) ?_
  simp [C.impl_IsTriangulation,hw,h1]
  refine hL _ ?_;clear hL L
  refine oEn fun L hL=>?_
  simp [C.impl_IsTriangulation,hw,h1]
  refine hL _ ?_;clear hL L
  simp [C.impl_IsTriangulation,hw,h1]
  refine cast (congrArg K ?_) hJ
  simp [ibne,h1,h1]
 ·refine oSg fun L hL=>?_
  simp [C.impl_IsTriangulation,h1]
  refine wcall1 (impl_polygonOk_c v) (by simp) (by simp) ?_
  simp [C.impl_IsTriangulation,h1]
  refine hL _ ?_;clear hL L
  refine oEn fun L hL=>?_
  simp [C.impl_IsTriangulation,h1]
  refine hL _ ?_;clear hL L
  simp [C.impl_IsTriangulation,h1]
  refine cast (congrArg K ?_) hJ
  simp [ibne,h1,h1]
end Go.Proofs.Ytfcgcgmleogamaa.Ab
namespace Go.Proofs.Ytfcgcgmleogamaa.Ab
open Go
def toN (d:DI):Dg:=(d.1.toNat,d.2.toNat)
theorem allD_mem {v a b:Nat}:(a,b)∈allD v↔(a < v/\b < v)/\a+2<=b/\(0 < a\/b < v - 1):=by
 simp only [allD,List.mem_flatMap,List.mem_range,List.mem_map,List.mem_filter,Bool.and_eq_true,Bool.or_eq_true,Nat.blt_eq,Nat.ble_eq]
 constructor
 ·rintro ⟨x,hx,y,⟨hy,h1,h2⟩,h3⟩
  injection h3 with h4 h5
  subst h4 h5
  exact ⟨⟨hx,hy⟩,h1,h2⟩
 ·rintro ⟨⟨h1,h2⟩,h3,h4⟩
  exact ⟨a,h1,b,⟨h2,h3,h4⟩,rfl⟩
theorem crs_iff {d e:Dg}:crs d e=true↔(d.1 < e.1/\e.1 < d.2/\d.2 < e.2)\/(e.1 < d.1/\d.1 < e.2/\e.2 < d.2):=by
 simp only [crs,Bool.or_eq_true,Bool.and_eq_true,Nat.blt_eq]
theorem crI_toN {v:Int} {d e:DI} (hd:IsDg v d) (he:IsDg v e):CrI d e↔crs (toN d) (toN e)=true:=by
 rw [crs_iff]
 unfold CrI toN
 have h1:=hd.2
 have h2:=he.2
 dsimp only
 omega
theorem tri_of {v:Int} {l:List DI} (h:TriI v l):Tri v.toNat (l.map toN):=by
 have hv:=h.1
 refine ⟨by omega,by rw [List.length_map];have:=h.2.1;omega,fun d hd=>?_,?_⟩
 ·obtain ⟨x,hx,rfl⟩:=List.mem_map.1 hd
  have:=h.2.2.1 x hx
  refine allD_mem.2 ?_
  have h2:=this.2
  omega
 ·rw [List.pairwise_map]
  refine (List.Pairwise.and_mem.1 h.2.2.2).imp fun {a b} hh=>?_
  obtain ⟨ha,hb,hh⟩:=hh
  have g1:=h.2.2.1 a ha
  have g2:=h.2.2.1 b hb
  have q1:=g1.2
  have q2:=g2.2
  refine ⟨fun e=>hh (.inl ?_),?_⟩
  ·unfold toN at e
   injection e with e1 e2
   omega
  ·rw [Bool.eq_false_iff]
   intro e
   rw [crs_sym] at e
   exact hh (.inr ((crI_toN g2 g1).2 e))
def expD (v:Nat) (l:List Dg) (d:Dg):List Int:=if sd v d then List.replicate (v - 3) 0 else match l.findIdx? (dgq d) with
 | some k=>unitL (v - 3) k
 | none=>List.replicate (v - 3) 0
def lnT (v:Nat) (l:List Dg) (T:Nat) (d:Dg):Rat:=vT T (v - 3) [(expD v l d,1)]
def LenT (v:Nat) (l:List Dg) (T a c:Nat):Rat:=lenV (vecV v l (lnT v l T)) a c
structure LenP (v:Nat) (l:List Dg) (a c:Nat) (f:Lau):Prop where
 lb:LB (v - 3) (2 ^ cntD l a c) (2*cntD l a c+1) f
 val:∀ T,2<=T->vT T (v - 3) (plist f)=LenT v l T a c
 pos:PosL (plist f)
theorem cntD_le {v:Nat} {l:List Dg} (h:Tri v l) (a c:Nat):cntD l a c<=5:=by
 have:=List.countP_le_length (p:=crs (srt a c)) (l:=l)
 have h1:=h.len
 have h2:=h.vb
 unfold cntD
 omega
theorem LenP.uniq {v:Nat} {l:List Dg} (h:Tri v l) {a c:Nat} {f g:Lau} (hf:LenP v l a c f) (hg:LenP v l a c g):f=g:=by
 have:=cntD_le h a c
 exact lb_sep hf.lb hg.lb (by omega) (by omega) fun T hT=>by rw [hf.val T hT,hg.val T hT]
theorem len_known {v:Nat} {l:List Dg} (h:Tri v l) {T:Nat} (hT:2<=T) {a c:Nat} (hac:a≠c) (ha:a < v) (hc:c < v) (hk:kn v l a c=true):LenT v l T a c=lnT v l T (srt a c):=by
 unfold LenT lenV
 unfold kn at hk
 have hln:∀ d,lnT v l T d≠0:=fun d=>vT_one hT _
 rcases Nat.lt_or_gt_of_ne hac with g | g
 ·rw [srt_lt g] at hk ⊢
  exact vec_known h hln g hc hk
 ·rw [srt_gt g] at hk ⊢
  exact vec_known h hln g ha hk
theorem n_bd {v:Nat} {l:List Dg} (h:Tri v l):1<=v - 3/\v - 3<=8:=by have:=h.vb;omega
theorem len_side {v:Nat} {l:List Dg} (h:Tri v l) {a c:Nat} (hac:a≠c) (ha:a < v) (hc:c < v) (hs:sd v (srt a c)=true):LenP v l a c (oneF (v - 3)):=by
 refine ⟨(lb_one (n_bd h)).mono (Nat.pow_pos (by omega)) (by omega),fun T hT=>?_,by simp [PosL,plist,oneF,pr]⟩
 rw [len_known h hT hac ha hc (by unfold kn knD;rw [hs,Bool.true_or]),vT_oneF hT]
 unfold lnT expD
 rw [if_pos hs]
 exact (vT_oneF hT).symm
theorem diag_not_side {v:Nat} {l:List Dg} (h:Tri v l) {d:Dg} (hd:d∈l):sd v d=false:=by
 obtain ⟨a,b⟩:=d
 have h1:=allD_mem.1 (h.mem _ hd)
 have h2:=h.vb
 rw [Bool.eq_false_iff]
 intro hs
 simp only [sd,Bool.or_eq_true,Bool.and_eq_true] at hs
 rcases hs with hs | ⟨hs1,hs2⟩
 ·have:=Nat.eq_of_beq_eq_true hs
  omega
 ·have e1:=Nat.eq_of_beq_eq_true hs1
  have e2:=Nat.eq_of_beq_eq_true hs2
  omega
theorem find_at {l:List Dg} (hn:l.Nodup) {k:Nat} {d:Dg} (hk:l[k]? = some d):l.findIdx? (dgq d)=some k:=by
 obtain ⟨hkl,hkd⟩:=List.getElem?_eq_some_iff.1 hk
 rw [List.findIdx?_eq_some_iff_getElem]
 refine ⟨hkl,dgq_eq.2 hkd.symm,fun j hj=>?_⟩
 intro e
 rw [dgq_eq] at e
 have:=(List.nodup_iff_pairwise_ne.1 hn)
 rw [List.pairwise_iff_getElem] at this
 exact this j k (by omega) hkl hj (by rw [hkd,e])
theorem lnT_diag {v:Nat} {l:List Dg} (h:Tri v l) {T k:Nat} {d:Dg} (hk:l[k]? = some d):lnT v l T d=vT T (v - 3) (plist (unitF (v - 3) k)):=by
 unfold lnT expD
 rw [diag_not_side h (List.mem_of_getElem? hk),find_at h.nodup hk]
 rfl
theorem kn_diag {v:Nat} {l:List Dg} {a c:Nat} (hd:srt a c∈l):kn v l a c=true:=by
 unfold kn knD
 rw [Bool.or_eq_true]
 exact .inr (List.any_eq_true.2 ⟨_,hd,dgq_eq.2 rfl⟩)
theorem len_diag {v:Nat} {l:List Dg} (h:Tri v l) {a c k:Nat} (hac:a≠c) (ha:a < v) (hc:c < v) (hk:l[k]? = some (srt a c)):LenP v l a c (unitF (v - 3) k):=by
 refine ⟨(lb_unit (n_bd h)).mono (Nat.pow_pos (by omega)) (by omega),fun T hT=>?_,by simp [PosL,plist,unitF,pr]⟩
 rw [len_known h hT hac ha hc (kn_diag (List.mem_of_getElem? hk)),lnT_diag h hk]
theorem tri_mem {v:Nat} {l:List Dg} (h:Tri v l) {e:Dg} (he:e∈l):e.1 < e.2/\e.2 < v:=by
 obtain ⟨a,b⟩:=e
 have h1:=allD_mem.1 (h.mem _ he)
 dsimp only
 omega
theorem len_step {v:Nat} {l:List Dg} (h:Tri v l) {a c k:Nat} {e:Dg} (hac:a≠c) (ha:a < v) (hc:c < v) (hkn:kn v l a c=false) (hk:l[k]? = some e) (hg:good v l a c e=true) {f1 f2 f3 f4:Lau}
  (h1:LenP v l a e.1 f1) (h2:LenP v l c e.2 f2) (h3:LenP v l a e.2 f3) (h4:LenP v l c e.1 f4) :
  ∃ P R S Q,mulF f1 f2=(P,true)/\mulF f3 f4=(R,true)/\addF P 1 R=(S,true)/\divF S (unitF (v - 3) k)=(Q,true)/\LenP v l a c Q/\Right P/\Right R/\Right S:=by
 have he:=List.mem_of_getElem? hk
 obtain ⟨⟨c1,c3⟩,c4,c2⟩:=(tri_good h ha hc hac hkn).2 e he hg
 have b1:=h1.lb
 have b2:=h2.lb
 have b3:=h3.lb
 have b4:=h4.lb
 rw [c1] at b1
 rw [c3] at b3
 obtain ⟨q,hq⟩:∃ q,cntD l a c=q+1:=⟨cntD l a c - 1,by omega⟩
 have hq4:q<=4:=by have:=cntD_le h a c;omega
 have hp16:2 ^ q<=16:=Nat.pow_le_pow_right (n:=2) (by omega) hq4
 have b2':LB (v - 3) (2 ^ q) (2*q+1) f2:=b2.mono (Nat.pow_le_pow_right (by omega) (by omega)) (by omega)
 have b4':LB (v - 3) (2 ^ q) (2*q+1) f4:=b4.mono (Nat.pow_le_pow_right (by omega) (by omega)) (by omega)
 have hn:=n_bd h
 obtain ⟨P,p1,p2,p3,p4⟩:=lb_mul hn b1 b2' (by omega) (by omega)
 obtain ⟨R,r1,r2,r3,r4⟩:=lb_mul hn b3 b4' (by omega) (by omega)
 obtain ⟨S,s1,s2,s3,s4⟩:=lb_add hn p2 r2 (by omega) (by omega)
 obtain ⟨Q,q1,q2,q3,q4⟩:=lb_div (k:=k) hn s2 (by omega) (by omega)
 refine ⟨P,R,S,Q,p1,r1,s1,q1,⟨q2.mono ?_ (by omega),fun T hT=>?_,q4 (s4 (p4 h1.pos h2.pos) (r4 h3.pos h4.pos))⟩,p2.right,r2.right,s2.right⟩
 ·rw [hq,Nat.pow_succ]
  omega
 ·have hx:=vT_one (n:=v - 3) hT (unitL (v - 3) k)
  have hx2:plist (unitF (v - 3) k)=[(unitL (v - 3) k,1)]:=rfl
  have e1:=q3 T hT
  rw [s3,p3 T hT,r3 T hT,h1.val T hT,h2.val T hT,h3.val T hT,h4.val T hT] at e1
  have hcr:crs (srt a c) e=true:=by
   simp only [good,Bool.and_eq_true] at hg
   exact hg.1
  have e2:=lenV_cross (vecV v l (lnT v l T)) hcr
  have hm:=tri_mem h he
  have e3:=len_known h hT (a:=e.1) (c:=e.2) (by omega) (by omega) (by omega) (kn_diag (by rw [srt_lt hm.1];exact he))
  rw [srt_lt hm.1,lnT_diag h hk] at e3
  unfold LenT at e1 e3 ⊢
  rw [e3,<-e1,hx2] at e2
  generalize vT T (v - 3) [(unitL (v - 3) k,1)]=X at *
  generalize vT T (v - 3) (plist Q)=Y at *
  generalize lenV (vecV v l (lnT v l T)) a c=Z at *
  grind
theorem len_ex {v:Nat} {l:List Dg} (h:Tri v l):∀ (n a c:Nat),cntD l a c<=n->a≠c->a < v->c < v->∃ f,LenP v l a c f
 | n,a,c,hn,hac,ha,hc=>by
  cases hk:kn v l a c with
  | true=>
   unfold kn knD at hk
   rw [Bool.or_eq_true] at hk
   rcases hk with hk | hk
   ·exact ⟨_,len_side h hac ha hc hk⟩
   ·rw [List.any_eq_true] at hk
    obtain ⟨e,he,hq⟩:=hk
    rw [dgq_eq] at hq
    subst hq
    obtain ⟨k,hk⟩:=List.getElem?_of_mem he
    exact ⟨_,len_diag h hac ha hc hk⟩
  | false=>
   obtain ⟨⟨e,he,hg⟩,hall⟩:=tri_good h ha hc hac hk
   obtain ⟨⟨c1,c3⟩,c4,c2⟩:=hall e he hg
   have g1:crs (srt a c) e=true:=by
    simp only [good,Bool.and_eq_true] at hg
    exact hg.1
   have hm:=tri_mem h he
   have hne:a≠e.1/\a≠e.2/\c≠e.1/\c≠e.2:=by
    rw [crs_iff] at g1
    rcases Nat.lt_or_gt_of_ne hac with g | g <;> simp only [srt_lt,srt_gt,g] at g1 <;> omega
   match n with
   | 0=>omega
   | n+1=>
    obtain ⟨f1,h1⟩:=len_ex h n a e.1 (by omega) hne.1 ha (by omega)
    obtain ⟨f2,h2⟩:=len_ex h n c e.2 (by omega) hne.2.2.2 hc (by omega)
    obtain ⟨f3,h3⟩:=len_ex h n a e.2 (by omega) hne.2.1 ha (by omega)
    obtain ⟨f4,h4⟩:=len_ex h n c e.1 (by omega) hne.2.2.1 hc (by omega)
    obtain ⟨k,hk2⟩:=List.getElem?_of_mem he
    obtain ⟨P,R,S,Q,-,-,-,-,hQ,-⟩:=len_step h hac ha hc hk hk2 hg h1 h2 h3 h4
    exact ⟨Q,hQ⟩
end Go.Proofs.Ytfcgcgmleogamaa.Ab
namespace Go.Proofs.Ytfcgcgmleogamaa.Ab
open Go
set_option maxRecDepth 10000
set_option maxHeartbeats 2000000
attribute [local simp] cur
end Go.Proofs.Ytfcgcgmleogamaa.Ab
namespace Go.Proofs.Ytfcgcgmleogamaa.Ab
open Go
theorem lexlt_app:∀ (a b z:List Int),a.length=b.length->lexlt (a ++ z) (b ++ z)=lexlt a b
 | [],[],z,_=>by simp [lexlt_irr,lexlt]
 | x :: a,y :: b,z,h=>by simp [lexlt,lexlt_app a b z (by simpa using h)]
 | [],_ :: _,_,h=>by simp at h
 | _ :: _,[],_,h=>by simp at h
theorem lexlt_pad {a b:List Int} (h:a.length=b.length):lexlt (pad a) (pad b)=lexlt a b:=by
 unfold pad
 rw [<-h]
 exact lexlt_app a b _ h
theorem mget_some {k:List Int} {v:Int}:∀ {es:List (List Int×Int)},mget k es=some v->(k,v)∈es
 | [],h=>by simp [mget] at h
 | x :: es,h=>by
  simp only [mget] at h
  split at h
  ·rename_i e
   simp only [Option.some.injEq] at h
   subst h
   have:x=(k,x.2):=Prod.ext e rfl
   rw [<-this];simp
  ·exact List.mem_cons_of_mem _ (mget_some h)
theorem mget_mem {k:List Int} {v:Int}:∀ {es:List (List Int×Int)},(es.map (·.1)).Nodup->(k,v)∈es->mget k es=some v
 | [],_,h=>by simp at h
 | x :: es,hn,h=>by
  simp only [List.map_cons,List.nodup_cons] at hn
  simp only [mget]
  rcases List.mem_cons.1 h with e | h
  ·rw [<-e];simp
  ·rw [if_neg]
   ·exact mget_mem hn.2 h
   ·rintro e
    exact hn.1 (List.mem_map.2 ⟨(k,v),h,e.symm⟩)
structure TopJ (P:List (List Int×Int)) (top:List Int):Prop where
 len:top.length=8
 mem:P≠[]->∃ c,(top,c)∈P
 max:∀ y∈P,lexlt top y.1=false
theorem TopJ.keep {P:List (List Int×Int)} {top:List Int} (h:TopJ P top) {y:List Int×Int} (hne:P≠[]) (hy:lexlt top y.1=false):TopJ (P ++ [y]) top:=by
 obtain ⟨c,hc⟩:=h.mem hne
 refine ⟨h.len,fun _=>⟨c,by simp [hc]⟩,fun z hz=>?_⟩
 rcases List.mem_append.1 hz with hz | hz
 ·exact h.max z hz
 ·simp only [List.mem_singleton] at hz
  subst hz;exact hy
theorem TopJ.next {P:List (List Int×Int)} {top:List Int} (h:TopJ P top) {y:List Int×Int} (hl:y.1.length=8) (hy:P=[]\/lexlt top y.1=true):TopJ (P ++ [y]) y.1:=by
 refine ⟨hl,fun _=>⟨y.2,by simp⟩,fun z hz=>?_⟩
 rcases List.mem_append.1 hz with hz | hz
 ·rcases hy with rfl | hy
  ·simp at hz
  ·cases hq:lexlt y.1 z.1 with
   | false=>rfl
   | true=>
    have h1:=h.max z hz
    have h2:=lexlt_tr _ _ _ hy hq
    rw [h1] at h2;simp at h2
 ·simp only [List.mem_singleton] at hz
  subst hz;exact lexlt_irr _
theorem top_head {n:Nat} {es l P:List (List Int×Int)} {top:List Int} {a:List Int} {c:Int} {R:List (List Int×Int)} (h:MapR n es l) (hl:∀ x∈l,x.1.length=n) (hP:P.Perm es) (hT:TopJ P top) (hR:nf lexlt l=(a,c) :: R) :
  top=pad a/\mget top es=some c:=by
 have hal:a.length=n:=by
  obtain ⟨x,hx,e⟩:=nf_mem (y:=(a,c)) (by rw [hR];simp)
  have h9:=hl x hx
  rw [e] at h9
  exact h9
 have hd:=nf_desc lexOrd l
 have hc:=co_single lexOrd hd (x:=(a,c)) (by rw [hR];simp)
 rw [nf_co] at hc
 have hcz:c≠0:=nf_nz l (a,c) (by rw [hR];simp)
 have hva:=h.val a hal
 have hga:mget (pad a) es=some c:=by
  rw [hc] at hva
  cases hg:mget (pad a) es with
  | none=>rw [hg] at hva;simp at hva;exact absurd hva.symm hcz
  | some v=>rw [hg] at hva;simp at hva;rw [hva]
 have hmem:=mget_some hga
 have hmP:=hP.mem_iff.2 hmem
 obtain ⟨v,hv⟩:=hT.mem (by intro e;rw [e] at hmP;simp at hmP)
 have hvE:=hP.mem_iff.1 hv
 obtain ⟨hvz,e,hel,he⟩:=h.nz _ hvE
 simp only at he hvz
 have hlt:=hT.max _ hmP
 simp only at hlt
 rw [he,lexlt_pad (hel.trans hal.symm)] at hlt
 have hget:=mget_mem h.nod hvE
 have hve:=h.val e hel
 rw [<-he,hget] at hve
 simp only [Option.getD_some] at hve
 have hco:co e (nf lexlt l)≠0:=by rw [nf_co,<-hve];exact hvz
 obtain ⟨z,hz,ez⟩:=co_mem hco
 have hea:e=a:=by
  rw [hR] at hz hd
  rcases List.mem_cons.1 hz with rfl | hz
  ·exact ez.symm
  ·have h1:=List.rel_of_pairwise_cons hd hz
   simp only at h1
   rw [ez,hlt] at h1
   simp at h1
 subst hea
 exact ⟨he,by rw [he];exact hga⟩
theorem pad_bd60 {e:List Int} {B:Int} (hB:0<=B) (hB2:B<=1000000) (h:∀ x∈e,-B<=x/\x<=B):∀ x∈pad e,-1000000<=x/\x<=1000000:=fun x hx=>by
 unfold pad at hx
 rcases List.mem_append.1 hx with hx | hx
 ·have:=h x hx;omega
 ·have:=List.eq_of_mem_replicate hx;omega
def negT (e:List Int) (q:Int) (g:List Trm):List (List Int×Int):=g.map fun t=>(addE 1 e t.e,-q*t.c)
theorem negT_step {e:List Int} {q:Int} {g:List Trm} {i:Nat} (h:i < g.length):negT e q (g.take (i+1))=negT e q (g.take i) ++ [(addE 1 e g[i].e,-q*g[i].c)]:=by
 unfold negT
 rw [List.take_succ_eq_append_getElem h,List.map_append]
 rfl
theorem step_nf {g:Lau} {x:List Int×Int} {R l l2:List (List Int×Int)} (hR:nf lexlt l=x :: R) (hl2:l2.Perm (l ++ negT (addE (-1) x.1 (leadE g)) (x.2.tdiv (leadC g)) g.ts)):nf lexlt l2=nf lexlt (stepL g x R):=by
 refine nf_unique lexOrd (nf_desc lexOrd _) (nf_nz _) fun k=>?_
 rw [nf_co,co_perm k hl2,stepL,co_append,co_append,<-hR,nf_co]
 congr 1
 unfold negT mulT
 rw [List.map_map]
 rfl
end Go.Proofs.Ytfcgcgmleogamaa.Ab
namespace Go.Proofs.Ytfcgcgmleogamaa.Ab
open Go
theorem addE_dv2:∀ (a b:List Int),a.length=b.length->addE (-1) (addE 1 a b) b=a
 | [],[],_=>rfl
 | x :: a,y :: b,h=>by
  simp only [addE,addE_dv2 a b (by simpa using h)]
  congr 1
  omega
 | [],_ :: _,h=>by simp at h
 | _ :: _,[],h=>by simp at h
structure DivO (g:Lau) (n:Nat) (R O:List (List Int×Int)):Prop where
 od:Desc lexlt O
 oz:Nz O
 ol:∀ x∈O,x.1.length=n
 sep:∀ x∈O,∀ y∈R,lexlt y.1 (addE 1 x.1 (leadE g))=true
theorem DivO.step {g:Lau} {n:Nat} {x:List Int×Int} {R O:List (List Int×Int)} (h:DivO g n (x :: R) O) (hR:Desc lexlt (x :: R)) (hRl:∀ y∈x :: R,y.1.length=n) (hg:Right g) (hgn:g.v=n) (hne:g.ts≠[]) (hm:x.2.tmod (leadC g)=0) (hq:x.2.tdiv (leadC g)≠0) :
  DivO g n (nf lexlt (stepL g x R)) (O ++ [(addE (-1) x.1 (leadE g),x.2.tdiv (leadC g))]):=by
 have hgm:g.ts.map pr=(leadE g,leadC g) :: (g.ts.tail.map pr):=by
  unfold leadE leadC
  match hh:g.ts,hne with
  | t :: ts,_=>rfl
 have hgd:=pr_desc hg
 have hgD:=pr_dig hg hgn
 rw [hgm] at hgd hgD
 have hbl:(leadE g).length=n:=(hgD (leadE g,leadC g) (by simp)).1
 have hxl:=hRl x (by simp)
 have hless:=step_less lexOrd (lauAct n) hR hRl hgd (fun y hy=>(hgD y hy).1) hm
 rw [<-hgm] at hless
 have hel:(addE (-1) x.1 (leadE g)).length=n:=by rw [addE_length _ _ _ (hxl.trans hbl.symm)];exact hxl
 have hback:addE 1 (addE (-1) x.1 (leadE g)) (leadE g)=x.1:=addE_dv _ _ (hxl.trans hbl.symm)
 refine ⟨?_,fun y hy=>?_,fun y hy=>?_,fun y hy z hz=>?_⟩
 ·refine List.pairwise_append.2 ⟨h.od,List.pairwise_singleton ..,fun y hy z hz=>?_⟩
  simp only [List.mem_singleton] at hz
  subst hz
  have h1:=h.sep y hy x (by simp)
  have hyl:=h.ol y hy
  have h2:=lexlt_addE (-1) x.1 (addE 1 y.1 (leadE g)) (leadE g) (hxl.trans hbl.symm) (by rw [addE_length _ _ _ (hyl.trans hbl.symm)];exact hyl.trans hbl.symm)
  rw [addE_dv2 _ _ (hyl.trans hbl.symm)] at h2
  show lexlt (addE (-1) x.1 (leadE g)) y.1=true
  rw [h2]
  exact h1
 ·rcases List.mem_append.1 hy with hy | hy
  ·exact h.oz y hy
  ·simp only [List.mem_singleton] at hy
   subst hy;exact hq
 ·rcases List.mem_append.1 hy with hy | hy
  ·exact h.ol y hy
  ·simp only [List.mem_singleton] at hy
   subst hy;exact hel
 ·have h1:=(hless z hz).1
  rcases List.mem_append.1 hy with hy | hy
  ·exact lexlt_tr _ _ _ h1 (h.sep y hy x (by simp))
  ·simp only [List.mem_singleton] at hy
   subst hy
   show lexlt z.1 (addE 1 (addE (-1) x.1 (leadE g)) (leadE g))=true
   rw [hback]
   exact h1
theorem DivO.nf {g:Lau} {n:Nat} {R O:List (List Int×Int)} (h:DivO g n R O):Ab.nf lexlt O=O:=(nf_unique lexOrd h.od h.oz fun k=>rfl).symm
theorem DivO.shut {g:Lau} {n:Nat} {R O:List (List Int×Int)} (h:DivO g n R O) (v:Int):shutF v O=endF v (some O):=by
 unfold shutF endF
 rw [h.nf]
theorem cmpL_gt (a b:List Int):decide (0 < cmpL a b)=lexlt b a:=by
 have:=cmpL_pos a b
 by_cases h:cmpL a b<=0
 ·rw [decide_eq_true h] at this
  rw [decide_eq_false (by omega)]
  cases hh:lexlt b a with
  | false=>rfl
  | true=>rw [hh] at this;simp at this
 ·rw [decide_eq_false h] at this
  rw [decide_eq_true (by omega)]
  cases hh:lexlt b a with
  | true=>rfl
  | false=>rw [hh] at this;simp at this
end Go.Proofs.Ytfcgcgmleogamaa.Ab
namespace Go.Proofs.Ytfcgcgmleogamaa.Ab
open Go
set_option maxRecDepth 10000
set_option maxHeartbeats 2000000
end Go.Proofs.Ytfcgcgmleogamaa.Ab
namespace Go.Proofs.Ytfcgcgmleogamaa.Ab
open Go
set_option maxRecDepth 10000
set_option maxHeartbeats 2000000
attribute [local simp] mapKV flatInt tileB
structure LJ (n:Nat) (es l:List (List Int×Int)) (B:Nat):Prop where
 map:MapR n es l
 len:∀ x∈l,x.1.length=n
 abs:absE l<=B
theorem LJ.add {n:Nat} {es l:List (List Int×Int)} {B:Nat} (h:LJ n es l B) {e:List Int} (he:e.length=n) {c:Int} {X:Nat} (hc:c.natAbs<=X):LJ n (madd es (pad e) c) ((e,c) :: l) (B+X):=by
 refine ⟨h.map.add he c,fun x hx=>?_,?_⟩
 ·rcases List.mem_cons.1 hx with rfl | hx
  ·exact he
  ·exact h.len x hx
 ·have:=h.abs
  simp only [absE,List.map_cons,List.sum_cons] at *
  omega
theorem LJ.val {n:Nat} {es l:List (List Int×Int)} {B:Nat} (h:LJ n es l B) {e:List Int} (he:e.length=n) {c:Int} {X:Nat} (hc:c.natAbs<=X) (hB:B+X<=4000000000000000000):-9223372036854775808<=c+(mget (pad e) es).getD 0/\c+(mget (pad e) es).getD 0 < 9223372036854775808:=by
 have h1:=h.map.val e he
 have h2:=co_abs e l
 have h3:=h.abs
 rw [h1]
 omega
theorem LJ.mono {n:Nat} {es l:List (List Int×Int)} {B C:Nat} (h:LJ n es l B) (hB:B<=C):LJ n es l C:=⟨h.map,h.len,Nat.le_trans h.abs hB⟩
theorem divF_some {f g:Lau} {n:Nat} (hf:Right f) (hg:Right g) (hn:f.v=n) (hgn:g.v=n) (hne:g.ts≠[]):divF f g=endF n (divL chkI g 600 (f.ts.map pr)):=by
 unfold divF
 rw [if_pos ⟨⟨hf,hg,by omega⟩,hne⟩,hn]
theorem impl_DivideLaurents_l1 (f g:Lau) (n:Nat) (hn:f.v=n) (hv:n<=8) (hf:Right f) (hfl:f.ts.length<=600) (Q0:AEx->St->Prop) (hX0:∀ es l,LJ n es l 600000000->l.Perm (f.ts.map pr)->Q0 (.exit 0) ⟨ofL [(2,.pt (2,0) [] 0),(3,.pt (3,0) [] 0),(4,.pt (4,0) [] 0),(6,.pt (6,0) [] 0),(34,.d (.sh 2 f.ts.length (rows tS f.ts))),(35,.int f.ts.length),(36,.int f.ts.length),(37,.bool false)],ofRO [((2,0),some (.bx (fS f))),((3,0),some (.bx (fS g))),((4,0),some (.bx [D.int 0,.v (.slice none 0 0)])),((6,0),some (.bx [D.int n,.mp es]))]⟩):AWp C.impl_DivideLaurents (codeAt Try.f139 [1,1,1,0,1,0]) 0 Q0 ⟨ofL [(2,.pt (2,0) [] 0),(3,.pt (3,0) [] 0),(4,.pt (4,0) [] 0),(6,.pt (6,0) [] 0),(34,.d (.sh 2 f.ts.length (rows tS f.ts))),(35,.int f.ts.length),(36,.int 0)],ofRO [((2,0),some (.bx (fS f))),((3,0),some (.bx (fS g))),((4,0),some (.bx [D.int 0,.v (.slice none 0 0)])),((6,0),some (.bx [D.int n,.mp []]))]⟩:=by
 simp only [codeAt,Try.f139,walkCode]
 refine wloop (fun x:Nat×List (List Int×Int)×List (List Int×Int)=>⟨ofL [(2,.pt (2,0) [] 0),(3,.pt (3,0) [] 0),(4,.pt (4,0) [] 0),(6,.pt (6,0) [] 0),(34,.d (.sh 2 f.ts.length (rows tS f.ts))),(35,.int f.ts.length),(36,.int x.1)],ofRO [((2,0),some (.bx (fS f))),((3,0),some (.bx (fS g))),((4,0),some (.bx [D.int 0,.v (.slice none 0 0)])),((6,0),some (.bx [D.int n,.mp x.2.1]))]⟩) (fun x=>x.1<=f.ts.length/\LJ n x.2.1 x.2.2 (x.1*1000000)/\x.2.2.Perm ((f.ts.map pr).take x.1)) (fun x=>f.ts.length - x.1) (0,[],[]) (by simp [C.impl_DivideLaurents,fS,hn]) ⟨by simp,⟨MapR.nil n,by simp,by simp [absE]⟩,by simp⟩ ?_
 intro x1 hx1 R1 hR1
 obtain ⟨i,es,l⟩:=x1
 obtain ⟨hi,hLJ,hP⟩:=hx1
 dsimp only at hi hLJ hP ⊢
 refine wseq ?_
 refine wreg fun K hK=>?_
 simp [C.impl_DivideLaurents,fS]
 refine hK _ ?_;clear hK K
 show AWp _ _ _ _ _
 refine wseq ?_
 refine wcond _ rfl (fun hc2=>?_) (fun hc2=>?_)
 ·have hif:i < f.ts.length:=by have:=d_t hc2;omega
  have hT:=right_dig hf hn _ (List.getElem_mem hif)
  refine wskip ?_
  show AWp _ _ _ _ _
  refine wseq ?_
  refine wblock ?_
  refine wseq ?_
  refine wreg fun K hK=>?_
  simp [C.impl_DivideLaurents,fS,hif,tS_0 hif,tS_1 hif]
  refine hK _ ?_;clear hK K
  show AWp _ _ _ _ _
  obtain ⟨a0,a1,a2,a3,a4,a5,a6,a7,hpa⟩:=eight (pad_length (e:=f.ts[i].e) (by omega))
  have hval:=hLJ.val hT.1 (c:=f.ts[i].c) (X:=1000000) (by omega) (by omega)
  rw [hpa] at hval
  refine wdrawI [(true,0),(true,1),(true,2),(true,4),(true,5),(false,3),(false,6)] ⟨by kernel_rfl,by kernel_rfl⟩ ([0,1,2,4,5,3] ++ ([6] ++ ([]))) rfl fun K hK=>?_
  refine oSg fun L hL=>?_
  simp [C.impl_DivideLaurents,fS,tS]
  refine wcall1 (impl_keyOf_c f.ts[i].e (by omega) a0 a1 a2 a3 a4 a5 a6 a7 hpa) (by simp) (by simp) ?_
  simp [C.impl_DivideLaurents,fS,tS]
  refine hL _ ?_;clear hL L
  refine oSg fun L hL=>?_
  simp [C.impl_DivideLaurents,fS,tS]
  refine wcall1 (impl_building_add_c n f.ts[i].c es a0 a1 a2 a3 a4 a5 a6 a7 (hLJ.map.len8 hv) hval) (by simp) (by simp) ?_
  simp [C.impl_DivideLaurents,fS,tS]
  refine hL _ ?_;clear hL L
  refine oEn fun L hL=>?_
  simp only [AOpsI]
  refine hL _ ?_;clear hL L
  simp [C.impl_DivideLaurents,fS,tS]
  rw [<-hpa]
  refine hK _ ?_;clear hK K
  show AWp _ _ _ _ _
  refine wreg fun K hK=>?_
  simp [C.impl_DivideLaurents,fS,wrap_succ (show i < 4611686018427387904 by omega)]
  refine hK _ ?_;clear hK K
  simp [C.impl_DivideLaurents,fS]
  refine cast (congrArg R1 ?_) (hR1 (i+1,madd es (pad f.ts[i].e) f.ts[i].c,(f.ts[i].e,f.ts[i].c) :: l) ⟨hif,?_,?_⟩ (by dsimp only;omega))
  ·simp [fS,hn]
  ·have:=hLJ.add hT.1 (c:=f.ts[i].c) (X:=1000000) (by omega)
   dsimp only
   rwa [Nat.add_mul,Nat.one_mul]
  ·dsimp only
   rw [List.take_succ_eq_append_getElem (by simpa using hif)]
   refine (List.Perm.cons _ hP).trans ?_
   simp only [List.getElem_map,pr]
   exact (List.perm_append_singleton _ _).symm
 ·have hif:i=f.ts.length:=by have:=d_f hc2;omega
  have hall:l.Perm (f.ts.map pr):=by
   rw [List.take_of_length_le (by simp;omega)] at hP
   exact hP
  refine wexit ?_
  refine cast (congrArg (Q0 (.exit 0)) ?_) (hX0 es l (hLJ.mono (by rw [hif];omega)) hall)
  simp [fS,hn,hif]
theorem impl_DivideLaurents_r21 (f g:Lau) (n:Nat) (hn:f.v=n) (es eo P rest:List (List Int×Int)) (k0 k1 k2 k3 k4 k5 k6 k7 t0 t1 t2 t3 t4 t5 t6 t7 xc:Int) (i:Nat) (i0:Nat) (Q0:AEx->St->Prop) (hJ0:Q0 .normal ⟨ofL [(2,.pt (2,0) [] 0),(3,.pt (3,0) [] 0),(4,.pt (4,0) [] 0),(6,.pt (6,0) [] 0),(9,.pt (9,0) [] 0),(10,.pt (10,0) [] 0),(11,.pt (11,0) [] 0),(12,.bool (decide (P=[]))),(13,.pt (13,0) [] 0),(65,.it (65,0) (6,0) [1] (rest.eraseIdx i) (some ([k0,k1,k2,k3,k4,k5,k6,k7],xc))),(76,.bool (decide (P=[]\/lexlt [t0,t1,t2,t3,t4,t5,t6,t7] [k0,k1,k2,k3,k4,k5,k6,k7]=true)))],ofRO [((2,0),some (.bx (fS f))),((3,0),some (.bx (fS g))),((4,0),some (.bx [D.int 0,.v (.slice none 0 0)])),((6,0),some (.bx [D.int n,.mp es])),((9,0),some (.bx [D.int n,.mp eo])),((10,0),some (.bx [shI (leadE g),D.int (leadC g)])),((11,0),some (.bx [D.int t0,D.int t1,D.int t2,D.int t3,D.int t4,D.int t5,D.int t6,D.int t7])),((13,0),some (.bx [D.int k0,D.int k1,D.int k2,D.int k3,D.int k4,D.int k5,D.int k6,D.int k7])),((65,0),some .itr)]⟩):AWp C.impl_DivideLaurents (codeAt Try.f139 [1,1,1,1,1,1,0,0,0,1,0,1,1,0,1,0,0,1,1,0,1,0]) i0 Q0 ⟨ofL [(2,.pt (2,0) [] 0),(3,.pt (3,0) [] 0),(4,.pt (4,0) [] 0),(6,.pt (6,0) [] 0),(9,.pt (9,0) [] 0),(10,.pt (10,0) [] 0),(11,.pt (11,0) [] 0),(12,.bool (decide (P=[]))),(13,.pt (13,0) [] 0),(65,.it (65,0) (6,0) [1] (rest.eraseIdx i) (some ([k0,k1,k2,k3,k4,k5,k6,k7],xc)))],ofRO [((2,0),some (.bx (fS f))),((3,0),some (.bx (fS g))),((4,0),some (.bx [D.int 0,.v (.slice none 0 0)])),((6,0),some (.bx [D.int n,.mp es])),((9,0),some (.bx [D.int n,.mp eo])),((10,0),some (.bx [shI (leadE g),D.int (leadC g)])),((11,0),some (.bx [D.int t0,D.int t1,D.int t2,D.int t3,D.int t4,D.int t5,D.int t6,D.int t7])),((13,0),some (.bx [D.int k0,D.int k1,D.int k2,D.int k3,D.int k4,D.int k5,D.int k6,D.int k7])),((65,0),some .itr)]⟩:=by
 simp only [codeAt,Try.f139,walkCode]
 refine wdrawI [(true,0),(true,1),(true,2),(true,3),(false,4),(true,5),(true,6)] ⟨by kernel_rfl,by kernel_rfl⟩ ([0,1,2,3,4] ++ ([5,6])) rfl fun K hK=>?_
 have hJ:K ⟨ofL [(2,.pt (2,0) [] 0),(3,.pt (3,0) [] 0),(4,.pt (4,0) [] 0),(6,.pt (6,0) [] 0),(9,.pt (9,0) [] 0),(10,.pt (10,0) [] 0),(11,.pt (11,0) [] 0),(12,.bool (decide (P=[]))),(13,.pt (13,0) [] 0),(65,.it (65,0) (6,0) [1] (rest.eraseIdx i) (some ([k0,k1,k2,k3,k4,k5,k6,k7],xc))),(76,.bool (decide (P=[]\/lexlt [t0,t1,t2,t3,t4,t5,t6,t7] [k0,k1,k2,k3,k4,k5,k6,k7]=true)))],ofRO [((2,0),some (.bx (fS f))),((3,0),some (.bx (fS g))),((4,0),some (.bx [D.int 0,.v (.slice none 0 0)])),((6,0),some (.bx [D.int n,.mp es])),((9,0),some (.bx [D.int n,.mp eo])),((10,0),some (.bx [shI (leadE g),D.int (leadC g)])),((11,0),some (.bx [D.int t0,D.int t1,D.int t2,D.int t3,D.int t4,D.int t5,D.int t6,D.int t7])),((13,0),some (.bx [D.int k0,D.int k1,D.int k2,D.int k3,D.int k4,D.int k5,D.int k6,D.int k7])),((65,0),some .itr)]⟩:=by
  refine hK _ ?_;clear hK K
  exact hJ0
 clear hK
 by_cases hp:P=[]
 ·refine oSg fun L hL=>?_
  simp [C.impl_DivideLaurents,fS,ints,sh8,hp]
  refine hL _ ?_;clear hL L
  refine oEn fun L hL=>?_
  simp [C.impl_DivideLaurents,fS,ints,sh8,hp]
  refine hL _ ?_;clear hL L
  simp [C.impl_DivideLaurents,fS,ints,sh8,hp]
  refine cast (congrArg K ?_) hJ
  simp [cmpL_gt,hn,fS,hp]
 ·refine oSg fun L hL=>?_
  simp [C.impl_DivideLaurents,fS,ints,sh8,hp]
  refine wcall1 (slices_Compare_int_int_c [k0,k1,k2,k3,k4,k5,k6,k7] [t0,t1,t2,t3,t4,t5,t6,t7] (by simp)) (by simp [fS,ints,sh8]) (by simp) ?_
  simp [C.impl_DivideLaurents,fS,ints,sh8,hp]
  refine hL _ ?_;clear hL L
  refine oEn fun L hL=>?_
  simp [C.impl_DivideLaurents,fS,ints,sh8,hp]
  refine hL _ ?_;clear hL L
  simp [C.impl_DivideLaurents,fS,ints,sh8,hp]
  refine cast (congrArg K ?_) hJ
  simp [cmpL_gt,hn,fS,hp]
theorem impl_DivideLaurents_l3 (f g:Lau) (n:Nat) (hn:f.v=n) (es eo:List (List Int×Int)) (hm8:mapLen 8 es) (Q0:AEx->St->Prop) (hX0:∀ P top cur,P.Perm es->TopJ P top->Q0 (.exit 4) ⟨ofL [(2,.pt (2,0) [] 0),(3,.pt (3,0) [] 0),(4,.pt (4,0) [] 0),(6,.pt (6,0) [] 0),(9,.pt (9,0) [] 0),(10,.pt (10,0) [] 0),(11,.pt (11,0) [] 0),(12,.bool (decide (P=[]))),(65,.it (65,0) (6,0) [1] [] cur),(67,.bool false)],ofRO [((2,0),some (.bx (fS f))),((3,0),some (.bx (fS g))),((4,0),some (.bx [D.int 0,.v (.slice none 0 0)])),((6,0),some (.bx [D.int n,.mp es])),((9,0),some (.bx [D.int n,.mp eo])),((10,0),some (.bx [shI (leadE g),D.int (leadC g)])),((11,0),some (.bx (ints top))),((65,0),some .itr)]⟩):AWp C.impl_DivideLaurents (codeAt Try.f139 [1,1,1,1,1,1,0,0,0,1,0,1,1,0,1,0]) 4 Q0 ⟨ofL [(2,.pt (2,0) [] 0),(3,.pt (3,0) [] 0),(4,.pt (4,0) [] 0),(6,.pt (6,0) [] 0),(9,.pt (9,0) [] 0),(10,.pt (10,0) [] 0),(11,.pt (11,0) [] 0),(12,.bool (decide (([]:List (List Int×Int))=[]))),(65,.it (65,0) (6,0) [1] es none)],ofRO [((2,0),some (.bx (fS f))),((3,0),some (.bx (fS g))),((4,0),some (.bx [D.int 0,.v (.slice none 0 0)])),((6,0),some (.bx [D.int n,.mp es])),((9,0),some (.bx [D.int n,.mp eo])),((10,0),some (.bx [shI (leadE g),D.int (leadC g)])),((11,0),some (.bx (ints [0,0,0,0,0,0,0,0]))),((65,0),some .itr)]⟩:=by
 simp only [codeAt,Try.f139,walkCode]
 refine wloop (fun x:List (List Int×Int)×List Int×List (List Int×Int)×Option (List Int×Int)=>⟨ofL [(2,.pt (2,0) [] 0),(3,.pt (3,0) [] 0),(4,.pt (4,0) [] 0),(6,.pt (6,0) [] 0),(9,.pt (9,0) [] 0),(10,.pt (10,0) [] 0),(11,.pt (11,0) [] 0),(12,.bool (decide (x.1=[]))),(65,.it (65,0) (6,0) [1] x.2.2.1 x.2.2.2)],ofRO [((2,0),some (.bx (fS f))),((3,0),some (.bx (fS g))),((4,0),some (.bx [D.int 0,.v (.slice none 0 0)])),((6,0),some (.bx [D.int n,.mp es])),((9,0),some (.bx [D.int n,.mp eo])),((10,0),some (.bx [shI (leadE g),D.int (leadC g)])),((11,0),some (.bx (ints x.2.1))),((65,0),some .itr)]⟩) (fun x=>(x.1 ++ x.2.2.1).Perm es/\TopJ x.1 x.2.1) (fun x=>x.2.2.1.length) ([],[0,0,0,0,0,0,0,0],es,none) (by simp [C.impl_DivideLaurents,fS,hn,ints]) ⟨by simp,⟨rfl,by simp,by simp⟩⟩ ?_
 intro x3 hx3 R3 hR3
 obtain ⟨P,top,rest,cur⟩:=x3
 obtain ⟨hq,hT⟩:=hx3
 dsimp only at hq hT ⊢
 refine wseq ?_
 refine wreg fun K hK=>?_
 simp [C.impl_DivideLaurents,fS]
 refine ⟨fun hrest=>?_,fun i xk xc hxi=>?_⟩
 ·refine hK _ ?_;clear hK K
  show AWp _ _ _ _ _
  refine wseq ?_
  refine wcond _ rfl (fun hc4=>?_) (fun hc4=>?_)
  ·simp at hc4
  ·subst hrest
   have hqe:P.Perm es:=by simpa using hq
   refine wexit ?_
   refine cast (congrArg (Q0 (.exit 4)) ?_) (hX0 P top cur hqe hT)
   simp [fS,hn]
 ·refine hK _ ?_;clear hK K
  show AWp _ _ _ _ _
  refine wseq ?_
  refine wcond _ rfl (fun hc6=>?_) (fun hc6=>?_)
  ·have hxm:(xk,xc)∈rest:=List.mem_of_getElem? hxi
   have hxl:=hm8 _ (hq.subset (List.mem_append_right P hxm))
   dsimp only at hxl
   obtain ⟨k0,k1,k2,k3,k4,k5,k6,k7,rfl⟩:=eight hxl
   obtain ⟨t0,t1,t2,t3,t4,t5,t6,t7,rfl⟩:=eight hT.len
   have hil:i < rest.length:=by
    rcases Nat.lt_or_ge i rest.length with h | h
    ·exact h
    ·rw [List.getElem?_eq_none h] at hxi;simp at hxi
   have hper:(P ++ [([k0,k1,k2,k3,k4,k5,k6,k7],xc)] ++ rest.eraseIdx i).Perm es:=by
    have hget:rest[i]=([k0,k1,k2,k3,k4,k5,k6,k7],xc):=by
     rw [List.getElem?_eq_getElem hil] at hxi
     injection hxi
    have h9:=erase_perm rest i hil
    rw [hget] at h9
    refine List.Perm.trans ?_ hq
    rw [List.append_assoc]
    exact List.Perm.append_left _ h9
   refine wskip ?_
   show AWp _ _ _ _ _
   refine wblock ?_
   refine wseq ?_
   refine wreg fun K hK=>?_
   simp [C.impl_DivideLaurents,fS,ints]
   refine hK _ ?_;clear hK K
   show AWp _ _ _ _ _
   refine wseq ?_
   refine wcode (c':=codeAt Try.f139 [1,1,1,1,1,1,0,0,0,1,0,1,1,0,1,0,0,1,1,0,1,0]) (by kernel_rfl) ?_
   refine impl_DivideLaurents_r21 f g n hn es eo P rest k0 k1 k2 k3 k4 k5 k6 k7 t0 t1 t2 t3 t4 t5 t6 t7 xc i _ _ ?_
   show AWp _ _ _ _ _
   refine wcond _ rfl (fun hc7=>?_) (fun hc7=>?_)
   ·have hcm:=d_t hc7
    refine wreg fun K hK=>?_
    simp [C.impl_DivideLaurents,fS]
    refine hK _ ?_;clear hK K
    simp [C.impl_DivideLaurents,fS]
    refine cast (congrArg R3 ?_) (hR3 (P ++ [([k0,k1,k2,k3,k4,k5,k6,k7],xc)],[k0,k1,k2,k3,k4,k5,k6,k7],rest.eraseIdx i,some ([k0,k1,k2,k3,k4,k5,k6,k7],xc)) ⟨hper,hT.next rfl hcm⟩ (by dsimp only;rw [List.length_eraseIdx_of_lt hil];omega))
    simp [fS,hn,ints]
   ·have hcm:=d_f hc7
    have hPn:P≠[]:=fun e=>hcm (.inl e)
    have hlt:lexlt [t0,t1,t2,t3,t4,t5,t6,t7] [k0,k1,k2,k3,k4,k5,k6,k7]=false:=by
     cases hh:lexlt [t0,t1,t2,t3,t4,t5,t6,t7] [k0,k1,k2,k3,k4,k5,k6,k7] with
     | false=>rfl
     | true=>exact absurd (.inr hh) hcm
    refine wskip ?_
    simp [C.impl_DivideLaurents,fS]
    refine cast (congrArg R3 ?_) (hR3 (P ++ [([k0,k1,k2,k3,k4,k5,k6,k7],xc)],[t0,t1,t2,t3,t4,t5,t6,t7],rest.eraseIdx i,some ([k0,k1,k2,k3,k4,k5,k6,k7],xc)) ⟨hper,hT.keep hPn hlt⟩ (by dsimp only;rw [List.length_eraseIdx_of_lt hil];omega))
    simp [fS,hn,ints,hPn]
  ·simp at hc6
theorem impl_DivideLaurents_r24 (f g:Lau) (n:Nat) (es eo:List (List Int×Int)) (a0 a1 a2 a3 a4 a5 a6 a7 b0 b1 b2 b3 b4 b5 b6 b7 c:Int) (hgl8:(leadE g).length<=8) (hpb:pad (leadE g)=[b0,b1,b2,b3,b4,b5,b6,b7]) (hba:∀ x∈[a0,a1,a2,a3,a4,a5,a6,a7],-1000000<=x/\x<=1000000) (hbb:∀ x∈[b0,b1,b2,b3,b4,b5,b6,b7],-1000000<=x/\x<=1000000) (i0:Nat) (Q0:AEx->St->Prop) (hJ0:Q0 .normal ⟨ofL [(2,.pt (2,0) [] 0),(3,.pt (3,0) [] 0),(4,.pt (4,0) [] 0),(6,.pt (6,0) [] 0),(9,.pt (9,0) [] 0),(10,.pt (10,0) [] 0),(14,.int c),(15,.pt (15,0) [] 0)],ofRO [((2,0),some (.bx (fS f))),((3,0),some (.bx (fS g))),((4,0),some (.bx [D.int 0,.v (.slice none 0 0)])),((6,0),some (.bx [D.int n,.mp es])),((9,0),some (.bx [D.int n,.mp eo])),((10,0),some (.bx [shI (leadE g),D.int (leadC g)])),((15,0),some (.bx [D.int (a0 + -1*b0),D.int (a1 + -1*b1),D.int (a2 + -1*b2),D.int (a3 + -1*b3),D.int (a4 + -1*b4),D.int (a5 + -1*b5),D.int (a6 + -1*b6),D.int (a7 + -1*b7)]))]⟩):AWp C.impl_DivideLaurents (codeAt Try.f139 [1,1,1,1,1,1,0,0,0,1,0,1,1,1,1,0]) i0 Q0 ⟨ofL [(2,.pt (2,0) [] 0),(3,.pt (3,0) [] 0),(4,.pt (4,0) [] 0),(6,.pt (6,0) [] 0),(9,.pt (9,0) [] 0),(10,.pt (10,0) [] 0),(11,.pt (11,0) [] 0),(14,.int c)],ofRO [((2,0),some (.bx (fS f))),((3,0),some (.bx (fS g))),((4,0),some (.bx [D.int 0,.v (.slice none 0 0)])),((6,0),some (.bx [D.int n,.mp es])),((9,0),some (.bx [D.int n,.mp eo])),((10,0),some (.bx [shI (leadE g),D.int (leadC g)])),((11,0),some (.bx (ints [a0,a1,a2,a3,a4,a5,a6,a7])))]⟩:=by
 simp only [codeAt,Try.f139,walkCode]
 refine wdraw (.take 0 (.take 1 (.take 2 (.all [(3,.all [(4,.all [(5,.all [(6,.done)])]),(5,.all [(4,.all [(6,.done)])])]),(5,.all [(3,.all [(4,.all [(6,.done)])])])])))) ⟨by kernel_rfl,by kernel_rfl⟩ fun K hK=>?_
 have hJ:K ⟨ofL [(2,.pt (2,0) [] 0),(3,.pt (3,0) [] 0),(4,.pt (4,0) [] 0),(6,.pt (6,0) [] 0),(9,.pt (9,0) [] 0),(10,.pt (10,0) [] 0),(14,.int c),(15,.pt (15,0) [] 0)],ofRO [((2,0),some (.bx (fS f))),((3,0),some (.bx (fS g))),((4,0),some (.bx [D.int 0,.v (.slice none 0 0)])),((6,0),some (.bx [D.int n,.mp es])),((9,0),some (.bx [D.int n,.mp eo])),((10,0),some (.bx [shI (leadE g),D.int (leadC g)])),((15,0),some (.bx [D.int (a0 + -1*b0),D.int (a1 + -1*b1),D.int (a2 + -1*b2),D.int (a3 + -1*b3),D.int (a4 + -1*b4),D.int (a5 + -1*b5),D.int (a6 + -1*b6),D.int (a7 + -1*b7)]))]⟩:=by
  refine hK _ ?_;clear hK K
  exact hJ0
 clear hK
 have hk1:=impl_keyOf_c (leadE g) (by omega) b0 b1 b2 b3 b4 b5 b6 b7 hpb
 have hk2:=impl_plusExp_c (-1) a0 a1 a2 a3 a4 a5 a6 a7 b0 b1 b2 b3 b4 b5 b6 b7 (by omega) hba hbb
 simp [C.impl_DivideLaurents,fS,ints]
 repeat' first
  | (refine wcall1 hk1 (by simp) (by simp) ?_;simp [C.impl_DivideLaurents,fS])
  | (refine wcall1 hk2 (by simp) (by simp) ?_;simp [C.impl_DivideLaurents,fS])
  | (refine cast (congrArg K ?_) hJ;simp [fS];done)
  | refine ⟨?_,?_⟩
theorem impl_DivideLaurents_r26 (f g:Lau) (n:Nat) (hn:f.v=n) (hv:n<=8) (es eo O:List (List Int×Int)) (E:List Int) (e0 e1 e2 e3 e4 e5 e6 e7 c q:Int) (hgc0:leadC g≠0) (hsh:shareL (List.take n [D.v (.int .i64 e0),D.v (.int .i64 e1),D.v (.int .i64 e2),D.v (.int .i64 e3),D.v (.int .i64 e4),D.v (.int .i64 e5),D.v (.int .i64 e6),D.v (.int .i64 e7)])=ints E) (hEl:E.length=n) (heol:eo.length=O.length) (i0:Nat) (Q0:AEx->St->Prop) (hJ0:Q0 .normal ⟨ofL [(2,.pt (2,0) [] 0),(3,.pt (3,0) [] 0),(4,.pt (4,0) [] 0),(6,.pt (6,0) [] 0),(9,.pt (9,0) [] 0),(10,.pt (10,0) [] 0),(15,.pt (15,0) [] 0),(16,.int q),(119,.bool (!decide (((c.tmod (leadC g)=0/\okE E n=true)/\(q≠0/\-1000000<=q/\q<=1000000))/\¬ O.length=600)))],ofRO [((2,0),some (.bx (fS f))),((3,0),some (.bx (fS g))),((4,0),some (.bx [D.int 0,.v (.slice none 0 0)])),((6,0),some (.bx [D.int n,.mp es])),((9,0),some (.bx [D.int n,.mp eo])),((10,0),some (.bx [shI (leadE g),D.int (leadC g)])),((15,0),some (.bx [D.int e0,D.int e1,D.int e2,D.int e3,D.int e4,D.int e5,D.int e6,D.int e7]))]⟩):AWp C.impl_DivideLaurents (codeAt Try.f139 [1,1,1,1,1,1,0,0,0,1,0,1,1,1,1,1,1,0,0]) i0 Q0 ⟨ofL [(2,.pt (2,0) [] 0),(3,.pt (3,0) [] 0),(4,.pt (4,0) [] 0),(6,.pt (6,0) [] 0),(9,.pt (9,0) [] 0),(10,.pt (10,0) [] 0),(14,.int c),(15,.pt (15,0) [] 0),(16,.int q)],ofRO [((2,0),some (.bx (fS f))),((3,0),some (.bx (fS g))),((4,0),some (.bx [D.int 0,.v (.slice none 0 0)])),((6,0),some (.bx [D.int n,.mp es])),((9,0),some (.bx [D.int n,.mp eo])),((10,0),some (.bx [shI (leadE g),D.int (leadC g)])),((15,0),some (.bx [D.int e0,D.int e1,D.int e2,D.int e3,D.int e4,D.int e5,D.int e6,D.int e7]))]⟩:=by
 simp only [codeAt,Try.f139,walkCode]
 refine wdrawI [(true,0),(true,1),(true,2),(true,3),(true,4),(true,5),(true,6),(true,7),(true,8),(true,9),(true,10),(false,11),(true,12),(true,13),(true,14),(true,15),(false,16),(true,17),(true,18),(true,19),(true,20),(true,21),(true,22),(true,23),(true,24),(true,25),(true,26)] ⟨by kernel_rfl,by kernel_rfl⟩ ([0,1,2,3,4,5,6,7,8,9,10,11] ++ ([12,13,14,15,16] ++ ([17,18,19,20,21,22,23,24,25,26]))) rfl fun K hK=>?_
 have hJ:K ⟨ofL [(2,.pt (2,0) [] 0),(3,.pt (3,0) [] 0),(4,.pt (4,0) [] 0),(6,.pt (6,0) [] 0),(9,.pt (9,0) [] 0),(10,.pt (10,0) [] 0),(15,.pt (15,0) [] 0),(16,.int q),(119,.bool (!decide (((c.tmod (leadC g)=0/\okE E n=true)/\(q≠0/\-1000000<=q/\q<=1000000))/\¬ O.length=600)))],ofRO [((2,0),some (.bx (fS f))),((3,0),some (.bx (fS g))),((4,0),some (.bx [D.int 0,.v (.slice none 0 0)])),((6,0),some (.bx [D.int n,.mp es])),((9,0),some (.bx [D.int n,.mp eo])),((10,0),some (.bx [shI (leadE g),D.int (leadC g)])),((15,0),some (.bx [D.int e0,D.int e1,D.int e2,D.int e3,D.int e4,D.int e5,D.int e6,D.int e7]))]⟩:=by
  refine hK _ ?_;clear hK K
  exact hJ0
 clear hK
 by_cases g1:c.tmod (leadC g)=0
 ·by_cases g2:okE E n=true
  ·by_cases g3:(q≠0/\-1000000<=q/\q<=1000000)
   ·refine oSg fun L hL=>?_
    simp [C.impl_DivideLaurents,fS,hgc0,hn,show ((n:Int)<=8) by omega,hv,Nat.min_eq_left hv,hsh,hEl,heol,g1,g2,g3]
    refine wcall1 (impl_expOk_c E n (by omega)) (by simp [fS,hgc0,hn,show ((n:Int)<=8) by omega,hv,Nat.min_eq_left hv,hsh,hEl,heol]) (by simp) ?_
    simp [C.impl_DivideLaurents,fS,hgc0,hn,show ((n:Int)<=8) by omega,hv,Nat.min_eq_left hv,hsh,hEl,heol,g1,g2,g3]
    refine hL _ ?_;clear hL L
    refine oSg fun L hL=>?_
    simp [C.impl_DivideLaurents,fS,hgc0,hn,show ((n:Int)<=8) by omega,hv,Nat.min_eq_left hv,hsh,hEl,heol,g1,g2,g3]
    refine wcall1 (impl_coefOk_c q) (by simp) (by simp) ?_
    simp [C.impl_DivideLaurents,fS,hgc0,hn,show ((n:Int)<=8) by omega,hv,Nat.min_eq_left hv,hsh,hEl,heol,g1,g2,g3]
    refine hL _ ?_;clear hL L
    refine oEn fun L hL=>?_
    simp [C.impl_DivideLaurents,fS,hgc0,hn,show ((n:Int)<=8) by omega,hv,Nat.min_eq_left hv,hsh,hEl,heol,g1,g2,g3]
    refine hL _ ?_;clear hL L
    simp [C.impl_DivideLaurents,fS,hgc0,hn,show ((n:Int)<=8) by omega,hv,Nat.min_eq_left hv,hsh,hEl,heol,g1,g2,g3]
    refine cast (congrArg K ?_) hJ
    simp [ieq600,hn,fS,g1,g2,g3]
   ·refine oSg fun L hL=>?_
    simp [C.impl_DivideLaurents,fS,hgc0,hn,show ((n:Int)<=8) by omega,hv,Nat.min_eq_left hv,hsh,hEl,heol,g1,g2,g3]
    refine wcall1 (impl_expOk_c E n (by omega)) (by simp [fS,hgc0,hn,show ((n:Int)<=8) by omega,hv,Nat.min_eq_left hv,hsh,hEl,heol]) (by simp) ?_
    simp [C.impl_DivideLaurents,fS,hgc0,hn,show ((n:Int)<=8) by omega,hv,Nat.min_eq_left hv,hsh,hEl,heol,g1,g2,g3]
    refine hL _ ?_;clear hL L
    refine oSg fun L hL=>?_
    simp [C.impl_DivideLaurents,fS,hgc0,hn,show ((n:Int)<=8) by omega,hv,Nat.min_eq_left hv,hsh,hEl,heol,g1,g2,g3]
    refine wcall1 (impl_coefOk_c q) (by simp) (by simp) ?_
    simp [C.impl_DivideLaurents,fS,hgc0,hn,show ((n:Int)<=8) by omega,hv,Nat.min_eq_left hv,hsh,hEl,heol,g1,g2,g3]
    refine hL _ ?_;clear hL L
    refine oEn fun L hL=>?_
    simp [C.impl_DivideLaurents,fS,hgc0,hn,show ((n:Int)<=8) by omega,hv,Nat.min_eq_left hv,hsh,hEl,heol,g1,g2,g3]
    refine hL _ ?_;clear hL L
    simp [C.impl_DivideLaurents,fS,hgc0,hn,show ((n:Int)<=8) by omega,hv,Nat.min_eq_left hv,hsh,hEl,heol,g1,g2,g3]
    refine cast (congrArg K ?_) hJ
    simp [ieq600,hn,fS,g1,g2,g3]
  ·refine oSg fun L hL=>?_
   simp [C.impl_DivideLaurents,fS,hgc0,hn,show ((n:Int)<=8) by omega,hv,Nat.min_eq_left hv,hsh,hEl,heol,g1,g2]
   refine wcall1 (impl_expOk_c E n (by omega)) (by simp [fS,hgc0,hn,show ((n:Int)<=8) by omega,hv,Nat.min_eq_left hv,hsh,hEl,heol]) (by simp) ?_
   simp [C.impl_DivideLaurents,fS,hgc0,hn,show ((n:Int)<=8) by omega,hv,Nat.min_eq_left hv,hsh,hEl,heol,g1,g2]
   refine hL _ ?_;clear hL L
   refine oSg fun L hL=>?_
   simp [C.impl_DivideLaurents,fS,hgc0,hn,show ((n:Int)<=8) by omega,hv,Nat.min_eq_left hv,hsh,hEl,heol,g1,g2]
   refine hL _ ?_;clear hL L
   refine oEn fun L hL=>?_
   simp [C.impl_DivideLaurents,fS,hgc0,hn,show ((n:Int)<=8) by omega,hv,Nat.min_eq_left hv,hsh,hEl,heol,g1,g2]
   refine hL _ ?_;clear hL L
   simp [C.impl_DivideLaurents,fS,hgc0,hn,show ((n:Int)<=8) by omega,hv,Nat.min_eq_left hv,hsh,hEl,heol,g1,g2]
   refine cast (congrArg K ?_) hJ
   simp [ieq600,hn,fS,g1,g2]
 ·refine oSg fun L hL=>?_
  simp [C.impl_DivideLaurents,fS,hgc0,hn,show ((n:Int)<=8) by omega,hv,Nat.min_eq_left hv,hsh,hEl,heol,g1]
  refine hL _ ?_;clear hL L
  refine oSg fun L hL=>?_
  simp [C.impl_DivideLaurents,fS,hgc0,hn,show ((n:Int)<=8) by omega,hv,Nat.min_eq_left hv,hsh,hEl,heol,g1]
  refine hL _ ?_;clear hL L
  refine oEn fun L hL=>?_
  simp [C.impl_DivideLaurents,fS,hgc0,hn,show ((n:Int)<=8) by omega,hv,Nat.min_eq_left hv,hsh,hEl,heol,g1]
  refine hL _ ?_;clear hL L
  simp [C.impl_DivideLaurents,fS,hgc0,hn,show ((n:Int)<=8) by omega,hv,Nat.min_eq_left hv,hsh,hEl,heol,g1]
  refine cast (congrArg K ?_) hJ
  simp [ieq600,hn,fS,g1]
theorem impl_DivideLaurents_l4 (f g:Lau) (n:Nat) (hn:f.v=n) (hgn:g.v=n) (hv:n<=8) (hg:Right g) (hgl:g.ts.length<=600) (es l eo2 O:List (List Int×Int)) (hOl:O.length<=600) (hLr:LJ n es l (600000000+O.length*600000000000000)) (E:List Int) (hEl:E.length=n) (e0 e1 e2 e3 e4 e5 e6 e7 q:Int) (hpe:pad E=[e0,e1,e2,e3,e4,e5,e6,e7]) (hbe:∀ x∈[e0,e1,e2,e3,e4,e5,e6,e7],-1000000<=x/\x<=1000000) (g3:q≠0/\-1000000<=q/\q<=1000000) (Q0:AEx->St->Prop) (hX0:∀ es2 l2,LJ n es2 l2 (600000000+O.length*600000000000000+600000000000000)->l2.Perm (l ++ negT E q g.ts)->Q0 (.exit 6) ⟨ofL [(2,.pt (2,0) [] 0),(3,.pt (3,0) [] 0),(4,.pt (4,0) [] 0),(6,.pt (6,0) [] 0),(9,.pt (9,0) [] 0),(10,.pt (10,0) [] 0),(15,.pt (15,0) [] 0),(16,.int q),(126,.d (.sh 2 g.ts.length (rows tS g.ts))),(127,.int g.ts.length),(128,.int g.ts.length),(129,.bool false)],ofRO [((2,0),some (.bx (fS f))),((3,0),some (.bx (fS g))),((4,0),some (.bx [D.int 0,.v (.slice none 0 0)])),((6,0),some (.bx [D.int n,.mp es2])),((9,0),some (.bx [D.int n,.mp eo2])),((10,0),some (.bx [shI (leadE g),D.int (leadC g)])),((15,0),some (.bx [D.int e0,D.int e1,D.int e2,D.int e3,D.int e4,D.int e5,D.int e6,D.int e7]))]⟩):AWp C.impl_DivideLaurents (codeAt Try.f139 [1,1,1,1,1,1,0,0,0,1,0,1,1,1,1,1,1,1,1,1,0]) 6 Q0 ⟨ofL [(2,.pt (2,0) [] 0),(3,.pt (3,0) [] 0),(4,.pt (4,0) [] 0),(6,.pt (6,0) [] 0),(9,.pt (9,0) [] 0),(10,.pt (10,0) [] 0),(15,.pt (15,0) [] 0),(16,.int q),(126,.d (.sh 2 g.ts.length (rows tS g.ts))),(127,.int g.ts.length),(128,.int 0)],ofRO [((2,0),some (.bx (fS f))),((3,0),some (.bx (fS g))),((4,0),some (.bx [D.int 0,.v (.slice none 0 0)])),((6,0),some (.bx [D.int n,.mp es])),((9,0),some (.bx [D.int n,.mp eo2])),((10,0),some (.bx [shI (leadE g),D.int (leadC g)])),((15,0),some (.bx [D.int e0,D.int e1,D.int e2,D.int e3,D.int e4,D.int e5,D.int e6,D.int e7]))]⟩:=by
 simp only [codeAt,Try.f139,walkCode]
 refine wloop (fun x:Nat×List (List Int×Int)×List (List Int×Int)=>⟨ofL [(2,.pt (2,0) [] 0),(3,.pt (3,0) [] 0),(4,.pt (4,0) [] 0),(6,.pt (6,0) [] 0),(9,.pt (9,0) [] 0),(10,.pt (10,0) [] 0),(15,.pt (15,0) [] 0),(16,.int q),(126,.d (.sh 2 g.ts.length (rows tS g.ts))),(127,.int g.ts.length),(128,.int x.1)],ofRO [((2,0),some (.bx (fS f))),((3,0),some (.bx (fS g))),((4,0),some (.bx [D.int 0,.v (.slice none 0 0)])),((6,0),some (.bx [D.int n,.mp x.2.1])),((9,0),some (.bx [D.int n,.mp eo2])),((10,0),some (.bx [shI (leadE g),D.int (leadC g)])),((15,0),some (.bx [D.int e0,D.int e1,D.int e2,D.int e3,D.int e4,D.int e5,D.int e6,D.int e7]))]⟩) (fun x=>x.1<=g.ts.length/\LJ n x.2.1 x.2.2 (600000000+O.length*600000000000000+x.1*1000000000000)/\x.2.2.Perm (l ++ negT E q (g.ts.take x.1))) (fun x=>g.ts.length - x.1) (0,es,l) (by simp [C.impl_DivideLaurents,fS,hn,hgn,hpe]) ⟨by simp,hLr.mono (by dsimp only;omega),by simp [negT]⟩ ?_
 intro x4 hx4 R4 hR4
 obtain ⟨j,es2,l2⟩:=x4
 obtain ⟨hj,hL2,hP2⟩:=hx4
 dsimp only at hj hL2 hP2 ⊢
 refine wseq ?_
 refine wreg fun K hK=>?_
 simp [C.impl_DivideLaurents,fS]
 refine hK _ ?_;clear hK K
 show AWp _ _ _ _ _
 refine wseq ?_
 refine wcond _ rfl (fun hc9=>?_) (fun hc9=>?_)
 ·have hjg:j < g.ts.length:=by have:=d_t hc9;omega
  have hU:=right_dig hg hgn _ (List.getElem_mem hjg)
  refine wskip ?_
  show AWp _ _ _ _ _
  refine wseq ?_
  refine wblock ?_
  refine wseq ?_
  refine wreg fun K hK=>?_
  simp [C.impl_DivideLaurents,fS,hjg,tS_0 hjg,tS_1 hjg]
  refine hK _ ?_;clear hK K
  show AWp _ _ _ _ _
  obtain ⟨u0,u1,u2,u3,u4,u5,u6,u7,hpu⟩:=eight (pad_length (e:=g.ts[j].e) (by omega))
  have hbu:=pad_bd hU.2.2.1
  rw [hpu] at hbu
  have hadd:[e0+1*u0,e1+1*u1,e2+1*u2,e3+1*u3,e4+1*u4,e5+1*u5,e6+1*u6,e7+1*u7]=pad (addE 1 E g.ts[j].e):=by
   rw [<-pad_add (by omega),hpe,hpu]
   simp [addE]
  have hnl:(addE 1 E g.ts[j].e).length=n:=by rw [addE_length _ _ _ (by omega)];exact hEl
  have hcc:=mul_bd (x:=-q) (y:=g.ts[j].c) (by omega) hU.2.2.2
  have hvj:=hL2.val hnl (c:=-q*g.ts[j].c) (X:=1000000000000) (by omega) (by omega)
  rw [<-hadd] at hvj
  refine wdrawI [(true,0),(true,1),(true,2),(true,3),(true,6),(true,7),(true,8),(true,9),(true,10),(false,4),(false,5),(false,11)] ⟨by kernel_rfl,by kernel_rfl⟩ ([0,1,2,3,6,7,8,9,10,4] ++ ([5] ++ ([11] ++ ([])))) rfl fun K hK=>?_
  refine oSg fun L hL=>?_
  simp [C.impl_DivideLaurents,fS,tS,wrapOk (x:=-q) (by omega) (by omega),wrapOk (x:=-q*g.ts[j].c) (by omega) (by omega)]
  refine wcall1 (impl_keyOf_c g.ts[j].e (by omega) u0 u1 u2 u3 u4 u5 u6 u7 hpu) (by simp) (by simp) ?_
  simp [C.impl_DivideLaurents,fS,tS,wrapOk (x:=-q) (by omega) (by omega),wrapOk (x:=-q*g.ts[j].c) (by omega) (by omega)]
  refine hL _ ?_;clear hL L
  refine oSg fun L hL=>?_
  simp [C.impl_DivideLaurents,fS,tS,wrapOk (x:=-q) (by omega) (by omega),wrapOk (x:=-q*g.ts[j].c) (by omega) (by omega)]
  refine wcall1 (impl_plusExp_c 1 e0 e1 e2 e3 e4 e5 e6 e7 u0 u1 u2 u3 u4 u5 u6 u7 (by omega) hbe hbu) (by simp) (by simp) ?_
  simp [C.impl_DivideLaurents,fS,tS,wrapOk (x:=-q) (by omega) (by omega),wrapOk (x:=-q*g.ts[j].c) (by omega) (by omega)]
  refine hL _ ?_;clear hL L
  refine oSg fun L hL=>?_
  simp [C.impl_DivideLaurents,fS,tS,wrapOk (x:=-q) (by omega) (by omega),wrapOk (x:=-q*g.ts[j].c) (by omega) (by omega)]
  refine wcall1 (impl_building_add_c n (-q*g.ts[j].c) es2 (e0+1*u0) (e1+1*u1) (e2+1*u2) (e3+1*u3) (e4+1*u4) (e5+1*u5) (e6+1*u6) (e7+1*u7) (hL2.map.len8 hv) hvj) (by simp) (by simp) ?_
  simp [C.impl_DivideLaurents,fS,tS,wrapOk (x:=-q) (by omega) (by omega),wrapOk (x:=-q*g.ts[j].c) (by omega) (by omega)]
  refine hL _ ?_;clear hL L
  refine oEn fun L hL=>?_
  simp only [AOpsI]
  refine hL _ ?_;clear hL L
  simp [C.impl_DivideLaurents,fS,tS,wrapOk (x:=-q) (by omega) (by omega),wrapOk (x:=-q*g.ts[j].c) (by omega) (by omega)]
  simp only [Int.one_mul] at hadd
  rw [hadd]
  refine hK _ ?_;clear hK K
  show AWp _ _ _ _ _
  refine wreg fun K hK=>?_
  simp [C.impl_DivideLaurents,fS,wrap_succ (show j < 4611686018427387904 by omega)]
  refine hK _ ?_;clear hK K
  simp [C.impl_DivideLaurents,fS]
  refine cast (congrArg R4 ?_) (hR4 (j+1,madd es2 (pad (addE 1 E g.ts[j].e)) (-q*g.ts[j].c),(addE 1 E g.ts[j].e,-q*g.ts[j].c) :: l2) ⟨hjg,?_,?_⟩ (by dsimp only;omega))
  ·simp [fS,hn,hgn]
  ·have:=hL2.add hnl (c:=-q*g.ts[j].c) (X:=1000000000000) (by omega)
   exact this.mono (by dsimp only;omega)
  ·dsimp only
   rw [negT_step hjg,<-List.append_assoc]
   exact (List.Perm.cons _ hP2).trans (List.perm_append_singleton _ _).symm
 ·have hjg:j=g.ts.length:=by have:=d_f hc9;omega
  rw [hjg,List.take_length] at hP2
  refine wexit ?_
  refine cast (congrArg (Q0 (.exit 6)) ?_) (hX0 es2 l2 (hL2.mono (by omega)) hP2)
  simp [fS,hn,hgn,hjg]
theorem impl_DivideLaurents_c (hDone:DoneOk) (f g:Lau) (hx:f.ts.length < 4611686018427387904) (hxe:∀ t∈f.ts,t.e.length < 4611686018427387904) (hy:g.ts.length < 4611686018427387904) (hye:∀ t∈g.ts,t.e.length < 4611686018427387904):ACalls Try.prog F.impl_DivideLaurents [aF f,aF g] [] true (fun outs res=>outs=[]/\WkRs res [.ag (fO (divF f g).1),.one (D.bool (divF f g).2)]):=by
 have hcall:=impl_bothOk_c f g hx hxe hy hye
 generalize hB:decide (Right f/\Right g/\f.v=g.v)=B at hcall
 refine ACalls.of_body (C:=C.impl_DivideLaurents) (n:=Try.f139.ntmps) tabT folT Try.func139 rfl (by kernel_rfl) rfl (Nat.le_of_ble_eq_true rfl) (by decide) (by kernel_rfl) (by kernel_rfl) rfl (by simp) (by simp) ?_
 simp only [Try.f139]
 refine wseq ?_
 refine wreg fun K hK=>?_
 simp [C.impl_DivideLaurents,fS]
 refine hK _ ?_;clear hK K
 show AWp _ _ _ _ _
 refine wseq ?_
 refine wseq ?_
 refine wregI ([0,1,2] ++ ([3,4,5,6,7,8,9])) rfl fun K hK=>?_
 have hJ:K ⟨ofL [(2,.pt (2,0) [] 0),(3,.pt (3,0) [] 0),(4,.pt (4,0) [] 0),(28,.bool (!(B && !decide (g.ts=[]))))],ofRO [((2,0),some (.bx (fS f))),((3,0),some (.bx (fS g))),((4,0),some (.bx [D.int 0,.v (.slice none 0 0)]))]⟩:=by
  refine hK _ ?_;clear hK K
  show AWp _ _ _ _ _
  refine wcond _ rfl (fun hc1=>?_) (fun hc1=>?_)
  ·have hr:¬ ((Right f/\Right g/\f.v=g.v)/\g.ts≠[]):=by
    rintro ⟨h1,h2⟩
    rw [<-hB,decide_eq_true h1] at hc1
    simp [h2] at hc1
   have hm:divF f g=(zeroF,false):=if_neg hr
   refine wseq ?_
   refine wreg fun K hK=>?_
   simp [C.impl_DivideLaurents,fS]
   refine hK _ ?_;clear hK K
   show AWp _ _ _ _ _
   refine wret ?_
   simp [C.impl_DivideLaurents,fS,hm,fO,zeroF,rows]
  ·have hr:(Right f/\Right g/\f.v=g.v)/\g.ts≠[]:=by
    rw [<-hB] at hc1
    simpa using hc1
   obtain ⟨⟨hf,hg,hfg⟩,hgne⟩:=hr
   have hv0:=hf.1
   obtain ⟨n,hn⟩:∃ n:Nat,f.v=n:=⟨f.v.toNat,by omega⟩
   have hgn:g.v=n:=by omega
   have hv:n<=8:=by omega
   have hm:=divF_some hf hg hn hgn hgne
   have hfl:=hf.2.1
   have hgl:=hg.2.1
   have he:=right_he hf hn
   have heg:=right_he hg hgn
   have hG0:0 < g.ts.length:=List.length_pos_iff.2 hgne
   obtain ⟨hl1,hl2⟩:=lead_get hG0
   have hgood:=hg.2.2.1 _ (List.getElem_mem hG0)
   have hgle:=heg _ (List.getElem_mem hG0)
   rw [hl1] at hgle
   obtain ⟨hgle1,hgle2⟩:=hgle
   have hgc:leadC g≠0/\-1000000<=leadC g/\leadC g<=1000000:=by rw [<-hl2];exact ⟨hgood.2.1,hgood.2.2.1⟩
   obtain ⟨b0,b1,b2,b3,b4,b5,b6,b7,hpb⟩:=eight (pad_length (e:=leadE g) (by omega))
   have hbb:=pad_bd hgle2
   rw [hpb] at hbb
   refine wskip ?_
   show AWp _ _ _ _ _
   refine wseq ?_
   refine wregI ([0,1,2] ++ ([3])) rfl fun K hK=>?_
   refine oSg fun L hL=>?_
   simp [C.impl_DivideLaurents,fS,hn]
   refine wcall1 (impl_newBuilding_c n) (by simp) (by simp) ?_
   simp [C.impl_DivideLaurents,fS,hn]
   refine hL _ ?_;clear hL L
   refine oEn fun L hL=>?_
   simp [C.impl_DivideLaurents,fS,hn]
   refine hL _ ?_;clear hL L
   simp [C.impl_DivideLaurents,fS,hn]
   refine hK _ ?_;clear hK K
   show AWp _ _ _ _ _
   refine wseq ?_
   refine wseq ?_
   refine wreg fun K hK=>?_
   simp [C.impl_DivideLaurents,fS]
   refine hK _ ?_;clear hK K
   show AWp _ _ _ _ _
   refine wblock ?_
   refine wcode (c':=codeAt Try.f139 [1,1,1,0,1,0]) (by kernel_rfl) ?_
   refine wst (σ2:=⟨ofL [(2,.pt (2,0) [] 0),(3,.pt (3,0) [] 0),(4,.pt (4,0) [] 0),(6,.pt (6,0) [] 0),(34,.d (.sh 2 f.ts.length (rows tS f.ts))),(35,.int f.ts.length),(36,.int 0)],ofRO [((2,0),some (.bx (fS f))),((3,0),some (.bx (fS g))),((4,0),some (.bx [D.int 0,.v (.slice none 0 0)])),((6,0),some (.bx [D.int n,.mp []]))]⟩) (by simp [fS,hn]) ?_
   refine impl_DivideLaurents_l1 f g n hn hv hf hfl _ ?_
   intro es l hLJ hall
   have hnf0:nf lexlt l=f.ts.map pr:=by
    rw [nf_perm hall]
    exact (nf_unique lexOrd (pr_desc hf) (pr_nz hf) fun k=>rfl).symm
   show AWp _ _ _ _ _
   refine wseq ?_
   refine wregI ([0,1,2] ++ ([3])) rfl fun K hK=>?_
   refine oSg fun L hL=>?_
   simp [C.impl_DivideLaurents,fS,hn]
   refine wcall1 (impl_newBuilding_c n) (by simp) (by simp) ?_
   simp [C.impl_DivideLaurents,fS,hn]
   refine hL _ ?_;clear hL L
   refine oEn fun L hL=>?_
   simp [C.impl_DivideLaurents,fS,hn]
   refine hL _ ?_;clear hL L
   simp [C.impl_DivideLaurents,fS,hn]
   refine hK _ ?_;clear hK K
   show AWp _ _ _ _ _
   refine wseq ?_
   refine wreg fun K hK=>?_
   simp [C.impl_DivideLaurents,fS,hG0,tS_0 hG0,tS_1 hG0,hl1,hl2]
   refine hK _ ?_;clear hK K
   show AWp _ _ _ _ _
   refine wseq ?_
   refine wblock ?_
   refine wloop (fun x:(List (List Int×Int)×List (List Int×Int))×(List (List Int×Int)×List (List Int×Int))×List (List Int×Int)=>⟨ofL [(2,.pt (2,0) [] 0),(3,.pt (3,0) [] 0),(4,.pt (4,0) [] 0),(6,.pt (6,0) [] 0),(9,.pt (9,0) [] 0),(10,.pt (10,0) [] 0)],ofRO [((2,0),some (.bx (fS f))),((3,0),some (.bx (fS g))),((4,0),some (.bx [D.int 0,.v (.slice none 0 0)])),((6,0),some (.bx [D.int n,.mp x.1.1])),((9,0),some (.bx [D.int n,.mp x.2.1.1])),((10,0),some (.bx [shI (leadE g),D.int (leadC g)]))]⟩) (fun x=>LJ n x.1.1 x.1.2 (600000000+x.2.2.length*600000000000000)/\LJ n x.2.1.1 x.2.1.2 (x.2.2.length*1000000)/\x.2.1.2.Perm x.2.2/\DivJ chkI f g n (nf lexlt x.1.2) x.2.2/\DivO g n (nf lexlt x.1.2) x.2.2) (fun x=>600 - x.2.2.length) ((es,l),([],[]),[]) (by simp [C.impl_DivideLaurents,fS,hn]) ⟨hLJ.mono (by dsimp only [List.length_nil];omega),⟨MapR.nil n,by simp,by simp [absE]⟩,by simp,by dsimp only;rw [hnf0];exact DivJ.start _ hf hn,⟨List.Pairwise.nil,by simp [Nz],by simp,by simp⟩⟩ ?_
   intro x2 hx2 R2 hR2
   obtain ⟨⟨es,l⟩,⟨eo,lo⟩,O⟩:=x2
   obtain ⟨hLr,hLo,hPo,hJ1,hJ2⟩:=hx2
   dsimp only at hLr hLo hPo hJ1 hJ2 ⊢
   have hOl:=hJ1.ol
   have helen:=unpad_len hLr.map hLr.len
   have heol:eo.length=O.length:=by
    have h1:=unpad_len hLo.map hLo.len
    rw [nf_perm hPo,hJ2.nf] at h1
    exact h1.symm
   refine wseq ?_
   refine wseq ?_
   refine wreg fun K hK=>?_
   simp [C.impl_DivideLaurents,fS]
   refine hK _ ?_;clear hK K
   show AWp _ _ _ _ _
   refine wcond _ rfl (fun hc3=>?_) (fun hc3=>?_)
   ·have hes:0 < es.length:=by have:=d_t hc3;omega
    obtain ⟨⟨a,c⟩,R',hR⟩:∃ y R',nf lexlt l=y :: R':=by
     cases hh:nf lexlt l with
     | nil=>rw [hh] at helen;simp at helen;omega
     | cons y R'=>exact ⟨y,R',rfl⟩
    rw [hR] at hJ1 hJ2
    refine wskip ?_
    show AWp _ _ _ _ _
    refine wblock ?_
    refine wseq ?_
    refine wreg fun K hK=>?_
    simp [C.impl_DivideLaurents,fS]
    refine hK _ ?_;clear hK K
    show AWp _ _ _ _ _
    refine wseq ?_
    refine wreg fun K hK=>?_
    simp [C.impl_DivideLaurents,fS]
    refine hK _ ?_;clear hK K
    show AWp _ _ _ _ _
    refine wseq ?_
    refine wseq ?_
    refine wreg fun K hK=>?_
    simp [C.impl_DivideLaurents,fS]
    refine hK _ ?_;clear hK K
    show AWp _ _ _ _ _
    refine wblock ?_
    refine wcode (c':=codeAt Try.f139 [1,1,1,1,1,1,0,0,0,1,0,1,1,0,1,0]) (by kernel_rfl) ?_
    refine impl_DivideLaurents_l3 f g n hn es eo (hLr.map.len8 hv) _ ?_
    intro P top cur hqe hT
    have hPne:P≠[]:=by intro e;rw [e] at hqe;have:=hqe.length_eq;simp at this;omega
    obtain ⟨htop,hget⟩:=top_head hLr.map hLr.len hqe hT hR
    have ha:=hJ1.rl (a,c) (by simp)
    obtain ⟨hal,ha60⟩:=ha
    dsimp only at hal ha60
    obtain ⟨a0,a1,a2,a3,a4,a5,a6,a7,hpa⟩:=eight (pad_length (e:=a) (by omega))
    have hba:=pad_bd60 (B:=60) (by omega) (by omega) ha60
    rw [hpa] at hba htop
    subst htop
    have hcb:-1000000000000000000<=c/\c<=1000000000000000000:=by
     have h1:=hJ1.ra
     simp only [absK,List.map_cons,List.sum_cons] at h1
     omega
    have hEl:(addE (-1) a (leadE g)).length=n:=by rw [addE_length _ _ _ (by omega)];exact hal
    have hE80:=addE_bd (B:=60) (C:=20) (k:=-1) (.inr rfl) (hal.trans hgle1.symm) ha60 hgle2
    have hpe0:[a0 + -1*b0,a1 + -1*b1,a2 + -1*b2,a3 + -1*b3,a4 + -1*b4,a5 + -1*b5,a6 + -1*b6,a7 + -1*b7]=pad (addE (-1) a (leadE g)):=by
     rw [<-pad_add (by omega),hpa,hpb]
     simp [addE]
    show AWp _ _ _ _ _
    refine wseq ?_
    refine wdraw (.take 0 (.take 1 (.take 2 (.take 3 (.take 4 (.take 5 (.take 6 (.done)))))))) ⟨by kernel_rfl,by kernel_rfl⟩ fun K hK=>?_
    simp [C.impl_DivideLaurents,fS,hget,hLr.map.len8 hv]
    refine hK _ ?_;clear hK K
    show AWp _ _ _ _ _
    refine wseq ?_
    refine wcode (c':=codeAt Try.f139 [1,1,1,1,1,1,0,0,0,1,0,1,1,1,1,0]) (by kernel_rfl) ?_
    refine impl_DivideLaurents_r24 f g n es eo a0 a1 a2 a3 a4 a5 a6 a7 b0 b1 b2 b3 b4 b5 b6 b7 c (by omega) hpb hba hbb _ _ ?_
    show AWp _ _ _ _ _
    refine wseq ?_
    obtain ⟨e0,e1,e2,e3,e4,e5,e6,e7,hpe⟩:=eight (pad_length (e:=addE (-1) a (leadE g)) (by omega))
    rw [hpe] at hpe0
    simp only [List.cons.injEq,and_true] at hpe0
    obtain ⟨k0,k1,k2,k3,k4,k5,k6,k7⟩:=hpe0
    simp only [k0,k1,k2,k3,k4,k5,k6,k7]
    have hqb:-1000000000000000000<=c.tdiv (leadC g)/\c.tdiv (leadC g)<=1000000000000000000:=by
     have h1:(c.tdiv (leadC g)).natAbs<=c.natAbs:=by
      rw [Int.natAbs_tdiv]
      exact Nat.div_le_self _ _
     omega
    generalize hQ:c.tdiv (leadC g)=q at hqb
    have htkE:List.take n [e0,e1,e2,e3,e4,e5,e6,e7]=addE (-1) a (leadE g):=by
     rw [<-hpe]
     have:=pad_take (e:=addE (-1) a (leadE g))
     rwa [hEl] at this
    have hsh:=sh8 n e0 e1 e2 e3 e4 e5 e6 e7
    rw [htkE] at hsh
    refine wreg fun K hK=>?_
    simp [C.impl_DivideLaurents,fS,hgc.1,hQ,wrapOk (x:=q) (by omega) (by omega)]
    refine hK _ ?_;clear hK K
    show AWp _ _ _ _ _
    refine wseq ?_
    refine wseq ?_
    refine wcode (c':=codeAt Try.f139 [1,1,1,1,1,1,0,0,0,1,0,1,1,1,1,1,1,0,0]) (by kernel_rfl) ?_
    refine impl_DivideLaurents_r26 f g n hn hv es eo O (addE (-1) a (leadE g)) e0 e1 e2 e3 e4 e5 e6 e7 c q hgc.1 hsh hEl heol _ _ ?_
    show AWp _ _ _ _ _
    refine wcond _ rfl (fun hc8=>?_) (fun hc8=>?_)
    ·have hr:=nd_t hc8
     have hfail:=hJ1.fail (by
      rcases Classical.em (O.length=600) with h | h
      ·exact .inr h
      ·refine .inl fun h2=>hr ⟨?_,h⟩
       dsimp only at h2
       rw [hQ] at h2
       simp only [chkI,decide_eq_true_eq] at h2
       exact ⟨⟨h2.1,okE_iff.2 ⟨by omega,h2.2.1⟩⟩,h2.2.2⟩)
     refine wseq ?_
     refine wreg fun K hK=>?_
     simp [C.impl_DivideLaurents,fS]
     refine hK _ ?_;clear hK K
     show AWp _ _ _ _ _
     refine wret ?_
     simp [C.impl_DivideLaurents,fS,hm,hfail,endF,zeroF,fO,rows]
    ·obtain ⟨⟨⟨g1,g2⟩,g3⟩,g4⟩:=nd_f hc8
     have hE20:=(okE_iff.1 g2).2
     have hchk:chkI (addE (-1) a (leadE g)) q=true:=by simp only [chkI,decide_eq_true_eq];exact ⟨hE20,g3⟩
     have hJ1s:=hJ1.step hg hgn g1 (by dsimp only;rw [hQ];exact hchk) (by omega) hEl (fun z hz=>by have:=hE20 z hz;omega) (by dsimp only;rw [hQ];exact g3.2)
     have hJ2s:=hJ2.step hJ1.rd (fun y hy=>(hJ1.rl y hy).1) hg hgn hgne g1 (by dsimp only;rw [hQ];exact g3.1)
     dsimp only at hJ1s hJ2s
     rw [hQ] at hJ1s hJ2s
     have hvo:=hLo.val hEl (c:=q) (X:=1000000) (by omega) (by omega)
     rw [hpe] at hvo
     have hbe:=pad_bd hE20
     rw [hpe] at hbe
     refine wskip ?_
     show AWp _ _ _ _ _
     refine wseq ?_
     refine wregI ([0,1,2,3] ++ ([])) rfl fun K hK=>?_
     refine oSg fun L hL=>?_
     simp [C.impl_DivideLaurents,fS]
     refine wcall1 (impl_building_add_c n q eo e0 e1 e2 e3 e4 e5 e6 e7 (hLo.map.len8 hv) hvo) (by simp) (by simp) ?_
     simp [C.impl_DivideLaurents,fS]
     refine hL _ ?_;clear hL L
     refine oEn fun L hL=>?_
     simp only [AOpsI]
     refine hL _ ?_;clear hL L
     simp [C.impl_DivideLaurents,fS]
     rw [<-hpe]
     refine hK _ ?_;clear hK K
     show AWp _ _ _ _ _
     refine wseq ?_
     refine wreg fun K hK=>?_
     simp [C.impl_DivideLaurents,fS]
     refine hK _ ?_;clear hK K
     show AWp _ _ _ _ _
     refine wblock ?_
     refine wcode (c':=codeAt Try.f139 [1,1,1,1,1,1,0,0,0,1,0,1,1,1,1,1,1,1,1,1,0]) (by kernel_rfl) ?_
     refine impl_DivideLaurents_l4 f g n hn hgn hv hg hgl es l (madd eo (pad (addE (-1) a (leadE g))) q) O hOl hLr (addE (-1) a (leadE g)) hEl e0 e1 e2 e3 e4 e5 e6 e7 q hpe hbe g3 _ ?_
     intro es2 l2 hL2 hP2
     have hnf2:nf lexlt l2=nf lexlt (stepL g (a,c) R'):=step_nf hR (by dsimp only;rw [hQ];exact hP2)
     simp [C.impl_DivideLaurents,fS]
     refine cast (congrArg R2 ?_) (hR2 ((es2,l2),(madd eo (pad (addE (-1) a (leadE g))) q,(addE (-1) a (leadE g),q) :: lo),O ++ [(addE (-1) a (leadE g),q)]) ⟨?_,?_,?_,?_,?_⟩ (by simp;omega))
     ·simp [fS,hn,hgn]
     ·exact hL2.mono (by simp;omega)
     ·exact (hLo.add hEl (c:=q) (X:=1000000) (by omega)).mono (by simp;omega)
     ·exact (List.Perm.cons _ hPo).trans (List.perm_append_singleton _ _).symm
     ·dsimp only
      rw [hnf2]
      exact hJ1s
     ·dsimp only
      rw [hnf2]
      exact hJ2s
   ·have hes:es.length=0:=by have:=d_f hc3;omega
    have hR0:nf lexlt l=[]:=List.eq_nil_of_length_eq_zero (by omega)
    rw [hR0] at hJ1 hJ2
    have hdone:=hJ1.done
    have hsh0:=hJ2.shut n
    rw [<-shutF_perm hPo] at hsh0
    refine wexit ?_
    show AWp _ _ _ _ _
    refine wseq ?_
    refine wregI ([0,1] ++ ([2,3,4,5])) rfl fun K hK=>?_
    refine oSg fun L hL=>?_
    simp [C.impl_DivideLaurents,fS,hn]
    refine wcall1 (hDone n eo lo hLo.map hLo.len (by omega) hv (by have:=hPo.length_eq;omega)) (by simp) (by simp) ?_
    simp [C.impl_DivideLaurents,fS,hn]
    refine hL _ ?_;clear hL L
    refine oEn fun L hL=>?_
    simp [C.impl_DivideLaurents,fS,hn]
    refine hL _ ?_;clear hL L
    simp [C.impl_DivideLaurents,fS,hn]
    refine hK _ ?_;clear hK K
    show AWp _ _ _ _ _
    refine wret ?_
    simp [C.impl_DivideLaurents,fS,hm,hdone,hsh0,fO]
 clear hK
 by_cases hb:B=true
 ·refine oSg fun L hL=>?_
  simp [C.impl_DivideLaurents,fS,hb]
  refine wcall1 (hcall) (by simp) (by simp) ?_
  simp [C.impl_DivideLaurents,fS,hb]
  refine hL _ ?_;clear hL L
  refine oEn fun L hL=>?_
  simp [C.impl_DivideLaurents,fS,hb]
  refine hL _ ?_;clear hL L
  simp [C.impl_DivideLaurents,fS,hb]
  refine cast (congrArg K ?_) hJ
  simp [ieq0,fS,hb]
 ·refine oSg fun L hL=>?_
  simp [C.impl_DivideLaurents,fS,hb]
  refine wcall1 (hcall) (by simp) (by simp) ?_
  simp [C.impl_DivideLaurents,fS,hb]
  refine hL _ ?_;clear hL L
  refine oEn fun L hL=>?_
  simp [C.impl_DivideLaurents,fS,hb]
  refine hL _ ?_;clear hL L
  simp [C.impl_DivideLaurents,fS,hb]
  refine cast (congrArg K ?_) hJ
  simp [ieq0,fS,hb]
theorem iDiv_c (hDone:DoneOk) (f g:Lau) (hx:f.ts.length < 4611686018427387904) (hxe:∀ t∈f.ts,t.e.length < 4611686018427387904) (hy:g.ts.length < 4611686018427387904) (hye:∀ t∈g.ts,t.e.length < 4611686018427387904):ACalls Try.prog F.impl_DivideLaurents [aF f,aF g] [] true (fun outs res=>outs=[]/\res=[.ag (fO (divF f g).1),.one (D.bool (divF f g).2)]):=(impl_DivideLaurents_c hDone f g hx hxe hy hye).weak1
end Go.Proofs.Ytfcgcgmleogamaa.Ab
namespace Go.Proofs.Ytfcgcgmleogamaa.Ab
open Go
set_option maxRecDepth 10000
set_option maxHeartbeats 2000000
end Go.Proofs.Ytfcgcgmleogamaa.Ab
namespace Go.Proofs.Ytfcgcgmleogamaa.Ab
open Go
def g0 (l:List Int) (i:Nat):Int:=l.getD i 0
def bM (m:Mat) (i j:Nat):Int:=g0 m.d (i*m.n.toNat+j)
structure Sol (n:Nat) (b:Nat->Nat->Int) (d:Nat->Int):Prop where
 pos:∀ i,i < n->0 < d i
 rel:∀ i j,i < n->j < n->d i*b i j=-(d j*b j i)
def Edge (b:Nat->Nat->Int) (num den:List Int) (P:List Nat) (i j:Nat):Prop:=
 (b i j=0/\b j i=0)\/(j∈P/\g0 num i*g0 den j*b i j=-(g0 num j*g0 den i*b j i))
section
variable {n:Nat} {b:Nat->Nat->Int} {old:List Nat} {s:Nat} {num den out:List Int} {P:List Nat} {a j:Nat}
end
end Go.Proofs.Ytfcgcgmleogamaa.Ab
namespace Go.Proofs.Ytfcgcgmleogamaa.Ab
open Go
section
variable {n:Nat} {b:Nat->Nat->Int} {old:List Nat} {s:Nat} {d0 d:List Int} {L F:List Nat} {a j:Nat}
end
end Go.Proofs.Ytfcgcgmleogamaa.Ab
namespace Go.Proofs.Ytfcgcgmleogamaa.Ab
open Go
def ShM (m:Mat):Prop:=(1<=m.n/\m.n<=5)/\(m.n<=m.r/\m.r<=8)/\(m.d.length:Int)=m.n*m.r/\∀ x∈m.d,-99<=x/\x<=99
def MatOK (m:Mat):Prop:=ShM m/\∃ d,Sol m.n.toNat (bM m) d
noncomputable instance (m:Mat):Decidable (ShM m):=Classical.propDecidable _
noncomputable instance (m:Mat):Decidable (MatOK m):=Classical.propDecidable _
def muE (b:Nat->Nat->Int) (k i j:Nat):Int:=
 if i=k\/j=k then -b i j else if 0 < b i k/\0 < b k j then b i j+b i k*b k j else if b i k < 0/\b k j < 0 then b i j - b i k*b k j else b i j
def muD (m:Mat) (k:Nat):List Int:=(List.range m.d.length).map fun q=>muE (bM m) k (q / m.n.toNat) (q % m.n.toNat)
@[simp] theorem muD_length (m:Mat) (k:Nat):(muD m k).length=m.d.length:=by simp [muD]
end Go.Proofs.Ytfcgcgmleogamaa.Ab
namespace Go.Proofs.Ytfcgcgmleogamaa.Ab
open Go
set_option maxRecDepth 10000
set_option maxHeartbeats 2000000
def cN (P:List Nat):List Int:=P.map fun i=>((i:Nat):Int)
@[simp] theorem cN_length (P:List Nat):(cN P).length=P.length:=by simp [cN]
end Go.Proofs.Ytfcgcgmleogamaa.Ab
namespace Go.Proofs.Ytfcgcgmleogamaa.Ab
open Go
set_option maxRecDepth 10000
set_option maxHeartbeats 2000000
end Go.Proofs.Ytfcgcgmleogamaa.Ab
namespace Go.Proofs.Ytfcgcgmleogamaa.Ab
open Go
set_option maxRecDepth 10000
set_option maxHeartbeats 2000000
end Go.Proofs.Ytfcgcgmleogamaa.Ab
namespace Go.Proofs.Ytfcgcgmleogamaa.Ab
open Go
set_option maxRecDepth 10000
set_option maxHeartbeats 2000000
end Go.Proofs.Ytfcgcgmleogamaa.Ab
namespace Go.Proofs.Ytfcgcgmleogamaa.Ab
open Go
set_option maxRecDepth 10000
set_option maxHeartbeats 2000000
def VarOk (r:Int) (f:Lau):Prop:=Right f/\f.ts≠[]/\f.v=r
def SeedOK (s:Sed):Prop:=MatOK s.m/\(s.f.length:Int)=s.m.r/\∀ f∈s.f,VarOk s.m.r f
noncomputable instance (r:Int) (f:Lau):Decidable (VarOk r f):=Classical.propDecidable _
noncomputable instance (s:Sed):Decidable (SeedOK s):=Classical.propDecidable _
end Go.Proofs.Ytfcgcgmleogamaa.Ab
namespace Go.Proofs.Ytfcgcgmleogamaa.Ab
open Go
set_option maxRecDepth 10000
set_option maxHeartbeats 2000000
noncomputable def itM (f:Lau):Nat->Lau->Option Lau
 | 0,p=>some p
 | n+1,p=>if (mulF p f).2=true then itM f n (mulF p f).1 else none
noncomputable def prodE (sg:Int):List Lau->List Int->Lau->Option Lau
 | f :: fs,c :: cs,p=>(itM f (sg*c).toNat p).bind (prodE sg fs cs)
 | [],_,p=>some p
 | _ :: _,[],p=>some p
def colM (m:Mat) (r k:Nat):List Int:=(List.range r).map fun i=>bM m i k
@[simp] theorem colM_length (m:Mat) (r k:Nat):(colM m r k).length=r:=by simp [colM]
noncomputable def exF (fs:List Lau) (cs:List Int) (r:Nat) (old:Lau):Lau×Bool:=
 if ∀ c∈cs,-8<=c/\c<=8 then (match prodE 1 fs cs (oneF r),prodE (-1) fs cs (oneF r) with
  | some a,some b=>if (addF a 1 b).2=true then divF (addF a 1 b).1 old else (zeroF,false)
  | _,_=>(zeroF,false)) else (zeroF,false)
theorem SmallF.sm' {f:Lau} (h:SmallF f):f.ts.length < 4611686018427387904/\∀ t∈f.ts,t.e.length < 4611686018427387904:=⟨by have:=h.1;omega,fun t ht=>by have:=h.2.1 t ht;omega⟩
end Go.Proofs.Ytfcgcgmleogamaa.Ab
