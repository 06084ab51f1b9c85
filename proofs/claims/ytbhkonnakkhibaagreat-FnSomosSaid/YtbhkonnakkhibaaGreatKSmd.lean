/- Merging runs sorts; terms of one key that lie together are added. The reference's gathering: terms in order, those of one key added. The reference's products of coded terms. The reference's products and powers of sums. The reference's powers of sums. Keys of the program's sums, and their building. The program's powers of sums, over its products. A map of padded exponents as a sum. The program's products of sums, over the end of a building. Powers of sums: the program's are the reference's, fresh at each call. Least exponents, denominators, numerators. slices.SortFunc in the calculus: from a contract over worlds to a contract over trees. Matrices that are right, mutation of a matrix, by the program. Division of sums by their greatest terms, over any keys: what it finds, what it keeps, and that it does not matter which of two tests it makes. Division of sums in variables: two ways to test whether to go on lead to the same. What a division keeps from step to step. Greatest exponents, sums of coded terms, division: the reference's side. Printed by wip/tools/lay.py: the contracts of slices.SortFunc laid at this seat. The end of a building, over a sort. The sort of terms by their exponents, greatest first, at this program. The program's sums: all contracts without a premise left. The program's sums of sums. The reference's sums of sums. Division by maps: the greatest key, and what a step does. Division: both sides. No condition. -/
import Derived.Test.YtbhkonnakkhibaaGreatKSmc
import Derived.Shelf.SlSortCmp.InsertionK
import Derived.Shelf.SlSortFuncK.ComposeK
import Derived.Shelf.SlLaysF0
import Derived.Test.YtbhkonnakkhibaaGreatProg
import Derived.Shelf.SlSortCmp.NoneTotal
set_option linter.unusedVariables false
set_option linter.unusedSimpArgs false
namespace Go.Proofs.YtbhkonnakkhibaaGreat.Ab
open Go
set_option linter.unusedSectionVars false
section
variable {α:Type} {le:α->α->Bool}
def Runs (le:α->α->Bool) (n:Nat) (l:List α):Prop:=∀ k,((l.drop (n*k)).take n).Pairwise fun a b=>le a b=true
theorem runs_one (l:List α):Runs le 1 l:=fun k=>by
 rcases (l.drop (1*k)) with _ | ⟨x,r⟩
 ·simp
 ·simp
theorem runs_all {n:Nat} {l:List α} (h:Runs le n l) (hl:l.length<=n):l.Pairwise fun a b=>le a b=true:=by
 have:=h 0
 rw [Nat.mul_zero,List.drop_zero,List.take_of_length_le hl] at this
 exact this
theorem runs_snoc {b k:Nat} {n0 s:List α} (h:Runs le b n0) (hl:n0.length=b*k) (hs:s.Pairwise fun a b=>le a b=true) (hsl:s.length<=b):Runs le b (n0 ++ s):=fun j=>by
 rcases Nat.lt_trichotomy j k with hj | hj | hj
 ·have h1:b*j+b<=n0.length:=by
   rw [hl,← Nat.mul_succ]
   exact Nat.mul_le_mul_left b hj
  rw [List.drop_append_of_le_length (by omega),List.take_append_of_le_length (by rw [List.length_drop];omega)]
  exact h j
 ·subst hj
  rw [← hl,List.drop_left,List.take_of_length_le hsl]
  exact hs
 ·have h1:n0.length+s.length<=b*j:=by
   have:b*(k+1)<=b*j:=Nat.mul_le_mul_left b hj
   rw [Nat.mul_succ] at this
   omega
  rw [List.drop_of_length_le (by simp;omega)]
  simp
end
def kle (x y:Int×Int):Bool:=decide (y.1<=x.1)
theorem kle_trans (a b c:Int×Int) (h1:kle a b=true) (h2:kle b c=true):kle a c=true:=by
 simp only [kle,decide_eq_true_eq] at *
 omega
theorem kle_total (a b:Int×Int):(kle a b || kle b a)=true:=by
 simp only [kle,Bool.or_eq_true,decide_eq_true_eq]
 omega
theorem mrg_nil_left {α:Type} (le:α->α->Bool) (ys:List α):List.merge [] ys le=ys:=by simp
theorem mrg_nil_right {α:Type} (le:α->α->Bool) (xs:List α):List.merge xs [] le=xs:=by simp
theorem mrg_cons {α:Type} (le:α->α->Bool) (x y:α) (xs ys:List α):List.merge (x :: xs) (y :: ys) le=if le x y then x :: List.merge xs (y :: ys) le else y :: List.merge (x :: xs) ys le:=by
 rw [List.merge]
theorem mrg_sorted {xs ys:List (Int×Int)} (h1:xs.Pairwise fun a b=>kle a b=true) (h2:ys.Pairwise fun a b=>kle a b=true):(List.merge xs ys kle).Pairwise fun a b=>kle a b=true:=
 List.pairwise_merge kle_trans kle_total xs ys h1 h2
theorem mrg_perm (xs ys:List (Int×Int)):(List.merge xs ys kle).Perm (xs ++ ys):=List.merge_perm_append kle
def addLast (left:List (Int×Int)) (x:Int×Int):List (Int×Int):=
 match left.getLast? with
 | some z=>if z.1=x.1 then left.dropLast ++ [(z.1,z.2+x.2)] else left ++ [x]
 | none=>[x]
def cutLast (l:List (Int×Int)):List (Int×Int):=
 match l.getLast? with
 | some z=>if z.2=0 then l.dropLast else l
 | none=>l
def combR (left:List (Int×Int)):List (Int×Int)->List (Int×Int)
 | []=>left
 | x :: r=>combR (if r.head?.map (·.1)=some x.1 then addLast left x else cutLast (addLast left x)) r
theorem co_pair (q:Int) (x:Int×Int):co q [x]=if x.1=q then x.2 else 0:=by simp [co]
theorem addLast_co (q:Int) (left:List (Int×Int)) (x:Int×Int):co q (addLast left x)=co q left+co q [x]:=by
 rcases List.eq_nil_or_concat left with rfl | ⟨l,z,rfl⟩
 ·simp [addLast,co]
 ·simp only [addLast,List.concat_eq_append,List.getLast?_append,List.getLast?_singleton,Option.some_or,List.dropLast_concat]
  split
  ·rename_i e
   rw [co_append,co_append,co_pair,co_pair,co_pair]
   simp only
   rw [e]
   split <;> omega
  ·rw [co_append (l:=l ++ [z])]
theorem cutLast_co (q:Int) (l:List (Int×Int)):co q (cutLast l)=co q l:=by
 rcases List.eq_nil_or_concat l with rfl | ⟨l,z,rfl⟩
 ·simp [cutLast]
 ·simp only [cutLast,List.concat_eq_append,List.getLast?_append,List.getLast?_singleton,Option.some_or,List.dropLast_concat]
  split
  ·rename_i e
   rw [co_append,co_pair,e]
   simp
  ·rfl
theorem combR_co (q:Int):∀ (r left:List (Int×Int)),co q (combR left r)=co q left+co q r
 | [],left=>by simp [combR,co]
 | x :: r,left=>by
  simp only [combR]
  rw [combR_co q r]
  have hx:co q (x :: r)=co q [x]+co q r:=by simp [co]
  split
  ·rw [addLast_co,hx,Int.add_assoc]
  ·rw [cutLast_co,addLast_co,hx,Int.add_assoc]
theorem desc_snoc {l:List (Int×Int)} {x:Int×Int} (h:Desc ilt l) (hx:∀ y∈l,x.1 < y.1):Desc ilt (l ++ [x]):=by
 unfold Desc at *
 rw [List.pairwise_append]
 refine ⟨h,List.pairwise_singleton _ _,fun a ha b hb=>?_⟩
 simp only [List.mem_singleton] at hb
 subst hb
 simpa [ilt] using hx a ha
def CombP (left r:List (Int×Int)):Prop:=
 Desc ilt left/\((Nz left/\∀ x∈left,∀ y∈r,y.1 < x.1) \/
  ∃ l z x r',left=l ++ [z]/\r=x :: r'/\z.1=x.1/\Nz l/\∀ a∈l,∀ y∈r,y.1 < a.1)
theorem combR_spec:∀ (r left:List (Int×Int)),(r.Pairwise fun a b=>kle a b=true)->CombP left r->Desc ilt (combR left r)/\Nz (combR left r)
 | [],left,_,h=>by
  refine ⟨h.1,?_⟩
  rcases h.2 with h2 | ⟨l,z,x,r',_,e,_⟩
  ·exact h2.1
  ·simp at e
 | x :: r,left,hs,h=>by
  have hs1:=List.pairwise_cons.1 hs
  have hle:∀ y∈r,y.1<=x.1:=fun y hy=>by simpa [kle] using hs1.1 y hy
  -- the list behind addLast ends in the key of x
  have key:∃ l z,addLast left x=l ++ [z]/\z.1=x.1/\Nz l/\Desc ilt (l ++ [z])/\∀ a∈l,x.1 < a.1:=by
   rcases h.2 with ⟨h1,h2⟩ | ⟨l,z,x',r',e1,e2,e3,h1,h2⟩
   ·refine ⟨left,x,?_,rfl,h1,desc_snoc h.1 fun y hy=>h2 y hy x (by simp),fun a ha=>h2 a ha x (by simp)⟩
    unfold addLast
    split
    ·rename_i z hz
     have hm:=List.mem_of_getLast? hz
     have:=h2 z hm x (by simp)
     rw [if_neg (by omega)]
    ·rename_i hz
     have:left=[]:=by simpa using hz
     simp [this]
   ·injection e2 with e2 e4
    subst e2;subst e1
    refine ⟨l,(z.1,z.2+x.2),?_,e3,h1,?_,fun a ha=>h2 a ha x (by simp)⟩
    ·simp [addLast,e3]
    ·refine desc_snoc ?_ fun y hy=>?_
     ·have:=h.1
      unfold Desc at this ⊢
      rw [List.pairwise_append] at this
      exact this.1
     ·have:=h2 y hy x (by simp)
      simp only
      omega
  obtain ⟨l,z,e,ez,hn,hd,hlt⟩:=key
  simp only [combR]
  split
  ·rename_i hh
   rw [e]
   refine combR_spec r _ hs1.2 ⟨hd,.inr ?_⟩
   cases r with
   | nil=>simp at hh
   | cons y r=>
    simp only [List.head?_cons,Option.map_some,Option.some.injEq] at hh
    exact ⟨l,z,y,r,rfl,rfl,by rw [ez,hh],hn,fun a ha w hw=>by have:=hlt a ha;have:=hle w hw;omega⟩
  ·rename_i hh
   have hr:∀ y∈r,y.1 < x.1:=by
    cases r with
    | nil=>intro y hy;simp at hy
    | cons y r=>
     simp only [List.head?_cons,Option.map_some,Option.some.injEq] at hh
     have h3:=(List.pairwise_cons.1 hs1.2).1
     have h4:=hle y (by simp)
     intro w hw
     rcases List.mem_cons.1 hw with rfl | hw
     ·omega
     ·have:w.1<=y.1:=by simpa [kle] using h3 w hw
      omega
   rw [e]
   have hc:cutLast (l ++ [z])=if z.2=0 then l else l ++ [z]:=by simp [cutLast]
   rw [hc]
   split
   ·refine combR_spec r _ hs1.2 ⟨?_,.inl ⟨hn,fun a ha y hy=>by have:=hlt a ha;have:=hr y hy;omega⟩⟩
    unfold Desc at hd ⊢
    rw [List.pairwise_append] at hd
    exact hd.1
   ·rename_i hz
    refine combR_spec r _ hs1.2 ⟨hd,.inl ⟨fun a ha=>?_,fun a ha y hy=>?_⟩⟩
    ·rcases List.mem_append.1 ha with ha | ha
     ·exact hn a ha
     ·simp only [List.mem_singleton] at ha
      rw [ha];exact hz
    ·rcases List.mem_append.1 ha with ha | ha
     ·have:=hlt a ha;have:=hr y hy;omega
     ·simp only [List.mem_singleton] at ha
      rw [ha,ez]
      exact hr y hy
theorem combR_nf {out l:List (Int×Int)} (hp:out.Perm l) (hs:out.Pairwise fun a b=>kle a b=true):combR [] out=nf ilt l:=by
 obtain ⟨h1,h2⟩:=combR_spec out [] hs ⟨List.Pairwise.nil,.inl ⟨by intro x hx;simp at hx,by simp⟩⟩
 refine nf_unique ilt_ord h1 h2 fun k=>?_
 rw [combR_co,co_perm k hp]
 simp [co]
def absL (l:List (Int×Int)):Nat:=(l.map fun x=>x.2.natAbs).sum
theorem absL_append (l r:List (Int×Int)):absL (l ++ r)=absL l+absL r:=by simp [absL]
theorem absL_perm {l r:List (Int×Int)} (h:l.Perm r):absL l=absL r:=(h.map _).sum_nat
theorem absL_mem {l:List (Int×Int)} {x:Int×Int} (h:x∈l):x.2.natAbs<=absL l:=by
 induction l with
 | nil=>simp at h
 | cons y l ih=>
  simp only [absL,List.map_cons,List.sum_cons]
  rcases List.mem_cons.1 h with rfl | h
  ·omega
  ·have:=ih h
   unfold absL at this
   omega
theorem absL_addLast (left:List (Int×Int)) (x:Int×Int):absL (addLast left x)<=absL left+x.2.natAbs:=by
 rcases List.eq_nil_or_concat left with rfl | ⟨l,z,rfl⟩
 ·simp [addLast,absL]
 ·simp only [addLast,List.concat_eq_append,List.getLast?_append,List.getLast?_singleton,Option.some_or,List.dropLast_concat]
  split
  ·rw [absL_append,absL_append]
   simp only [absL,List.map_cons,List.map_nil,List.sum_cons,List.sum_nil]
   omega
  ·rw [absL_append]
   simp [absL]
theorem absL_cutLast (l:List (Int×Int)):absL (cutLast l)<=absL l:=by
 rcases List.eq_nil_or_concat l with rfl | ⟨l,z,rfl⟩
 ·simp [cutLast]
 ·simp only [cutLast,List.concat_eq_append,List.getLast?_append,List.getLast?_singleton,Option.some_or,List.dropLast_concat]
  split
  ·rw [absL_append];omega
  ·exact Nat.le_refl _
end Go.Proofs.YtbhkonnakkhibaaGreat.Ab
namespace Go.Proofs.YtbhkonnakkhibaaGreat.Ab
open Go
set_option maxRecDepth 10000
set_option maxHeartbeats 2000000
def sgm (out:List (Int×Int)) (a b:Nat):List (Int×Int):=(out.drop a).take (b - a)
theorem sgm_cons {out:List (Int×Int)} {a b:Nat} (h:a < b) (h2:a < out.length):sgm out a b=out[a] :: sgm out (a+1) b:=by
 unfold sgm
 rw [List.drop_eq_getElem_cons h2,show b - a=(b - (a+1))+1 by omega,List.take_succ_cons]
theorem sgm_nil {out:List (Int×Int)} {a b:Nat} (h:b<=a):sgm out a b=[]:=by
 unfold sgm
 rw [show b - a=0 by omega,List.take_zero]
theorem sgm_runs {out:List (Int×Int)} {size at_ k b:Nat} (hr:Runs kle size out) (ha:at_=size*k) (hb:b=min (at_+size) out.length):(sgm out at_ b).Pairwise fun a b=>kle a b=true:=by
 have:=hr k
 rw [← ha] at this
 have e:sgm out at_ b=(out.drop at_).take size:=by
  unfold sgm
  rw [hb]
  rcases Nat.le_total (at_+size) out.length with h | h
  ·rw [Nat.min_eq_left h,show at_+size - at_=size by omega]
  ·rw [Nat.min_eq_right h,List.take_of_length_le (by simp),List.take_of_length_le (by simp;omega)]
 rw [e]
 exact this
theorem sgm_take {out:List (Int×Int)} {a b c:Nat} (h1:a<=b) (h2:b<=c):out.take a ++ (sgm out a b ++ sgm out b c)=out.take c:=by
 unfold sgm
 have e1:out.take b=out.take a ++ (out.drop a).take (b - a):=by
  conv=>lhs;rw [show b=a+(b - a) by omega,List.take_add]
 have e2:out.take c=out.take b ++ (out.drop b).take (c - b):=by
  conv=>lhs;rw [show c=b+(c - b) by omega,List.take_add]
 rw [e2,e1,List.append_assoc]
theorem getD_at {out:List (Int×Int)} {i:Nat} (h:i < out.length):out.getD i (0,0)=out[i]:=by
 simp [List.getD_eq_getElem?_getD,h]
theorem tkM {G:List (Int×Int)} {m N:Nat} (hN:G.length=N) (hm:m<=N):takeCells 2 m N (rows gM G)=rows gM (G.take m):=by
 unfold takeCells
 split
 ·rename_i e
  rw [e,← hN,List.take_length]
 ·exact rows_take gM_two G m
theorem head_next {out:List (Int×Int)} {k:Nat} (hk:k < out.length):((out.drop (k+1)).head?.map (·.1)=some out[k].1)↔¬ (k+1=out.length\/(out.getD (k+1) (0,0)).1≠(out.getD k (0,0)).1):=by
 rw [List.head?_drop,getD_at hk]
 rcases Nat.lt_or_ge (k+1) out.length with h | h
 ·rw [getD_at h,List.getElem?_eq_getElem h]
  simp
  omega
 ·rw [List.getElem?_eq_none h]
  simp
  omega
theorem addLast_same {l:List (Int×Int)} {q:Nat} {x:Int×Int} (hq:q < l.length) (e:l[q].1=x.1):addLast (l.take (q+1)) x=(l.set q (l[q].1,l[q].2+x.2)).take (q+1):=by
 have h1:(l.set q (l[q].1,l[q].2+x.2)).take (q+1)=l.take q ++ [(l[q].1,l[q].2+x.2)]:=by
  rw [List.take_succ_eq_append_getElem (by simpa using hq),List.getElem_set_self,List.take_set_of_le (Nat.le_refl q)]
 rw [h1,List.take_succ_eq_append_getElem hq]
 unfold addLast
 rw [show (l.take q ++ [l[q]]).getLast? = some l[q] by simp only [List.getLast?_append,List.getLast?_singleton,Option.some_or]]
 simp only [if_pos e,List.dropLast_concat]
theorem addLast_new {l:List (Int×Int)} {m:Nat} {x:Int×Int} (hm:m<=l.length) (e:¬ (0 < m/\(l.getD (m - 1) (0,0)).1=x.1)):addLast (l.take m) x=l.take m ++ [x]:=by
 rcases Nat.eq_zero_or_pos m with rfl | h
 ·simp [addLast]
 ·obtain ⟨q,rfl⟩:∃ q,m=q+1:=⟨m - 1,by omega⟩
  have hq:q < l.length:=by omega
  rw [show q+1 - 1=q by omega,getD_at hq] at e
  rw [List.take_succ_eq_append_getElem hq]
  unfold addLast
  simp only [List.getLast?_append,List.getLast?_singleton,Option.some_or]
  rw [if_neg (fun h=>e ⟨by omega,h⟩)]
theorem cutLast_at {l:List (Int×Int)} {q:Nat} (hq:q < l.length):cutLast (l.take (q+1))=if l[q].2=0 then l.take q else l.take (q+1):=by
 have h1:=List.take_succ_eq_append_getElem hq
 unfold cutLast
 rw [h1,show (l.take q ++ [l[q]]).getLast? = some l[q] by simp only [List.getLast?_append,List.getLast?_singleton,Option.some_or]]
 simp only [List.dropLast_concat]
theorem ofL_pad3 (a b c:Nat×FV):ofL [a,b,c]=ofL [a,b,c,(0,.dead)]:=by
 funext t
 simp only [ofL]
 split
 ·rfl
 ·split
  ·rfl
  ·split
   ·rfl
   ·split <;> rfl
theorem pair_eta (x:Int×Int):(x.1,x.2)=x:=rfl
theorem spec_l2Gather_calls (l:List (Int×Int)) (hl:l.length<=1000000) (hc:absL l < 4611686018427387904):ACalls Tryz.prog F.spec_l2Gather [.d (.sh 2 l.length (rows gM l))] [] true (fun outs res=>outs=[]/\res=[.one (.ow 2 (nf ilt l).length (rows gM (nf ilt l)))]):=by
 refine ACalls.of_body (C:=C.spec_l2Gather) (n:=Tryz.f149.ntmps) tabT folT Tryz.func149 rfl (by kernel_rfl) rfl (Nat.le_of_ble_eq_true rfl) (by decide) (by kernel_rfl) (by kernel_rfl) rfl (by simp) (by simp) ?_
 simp only [Tryz.f149]
 refine wseq ?_
 refine wreg fun K hK=>?_
 simp [C.spec_l2Gather]
 refine hK _ ?_;clear hK K
 show AWp _ _ _ _ _
 refine wseq ?_
 refine wreg fun K hK=>?_
 simp [C.spec_l2Gather,show l.length*16<=140737488355328 by omega]
 refine hK _ ?_;clear hK K
 show AWp _ _ _ _ _
 refine wseq ?_
 refine wseq ?_
 refine wreg fun K hK=>?_
 simp [C.spec_l2Gather]
 refine hK _ ?_;clear hK K
 show AWp _ _ _ _ _
 refine wblock ?_
 refine wloop (fun x:Nat×List (Int×Int)=>⟨ofL [(3,.al (3,0) [] 0 l.length),(4,.int x.1)],ofRO [((3,0),some (.ow 2 l.length (rows gM x.2)))]⟩) (fun x=>x.2.Perm l/\Runs kle x.1 x.2/\1<=x.1/\x.1<=2*l.length+1) (fun x=>2*l.length+1 - x.1) (1,l) (by simp [C.spec_l2Gather]) ⟨List.Perm.refl _,runs_one _,by simp,by dsimp only;omega⟩ ?_
 intro x1 hx1 R1 hR1
 obtain ⟨size,out⟩:=x1
 obtain ⟨hperm,hruns,hs1,hs2⟩:=hx1
 dsimp only at hperm hruns hs1 hs2 ⊢
 have hol:out.length=l.length:=hperm.length_eq
 refine wseq ?_
 refine wseq ?_
 refine wreg fun K hK=>?_
 simp [C.spec_l2Gather]
 refine hK _ ?_;clear hK K
 show AWp _ _ _ _ _
 refine wcond _ rfl (fun hc1=>?_) (fun hc1=>?_)
 ·have hlt:size < l.length:=by have:=d_t hc1;omega
  refine wskip ?_
  show AWp _ _ _ _ _
  refine wseq ?_
  refine wblock ?_
  refine wseq ?_
  refine wreg fun K hK=>?_
  simp [C.spec_l2Gather,show (16:Int)*l.length<=281474976710656 by omega,show (l.length:Int)<=281474976710656 by omega]
  refine hK _ ?_;clear hK K
  show AWp _ _ _ _ _
  refine wseq ?_
  refine wseq ?_
  refine wreg fun K hK=>?_
  simp [C.spec_l2Gather]
  refine hK _ ?_;clear hK K
  show AWp _ _ _ _ _
  refine wblock ?_
  refine wloop (fun x:Nat×List (Int×Int)×Nat=>⟨ofL [(3,.al (3,0) [] 0 l.length),(4,.int size),(5,.al (5,0) [] 0 x.2.2),(6,.int x.1)],ofRO [((3,0),some (.ow 2 l.length (rows gM out))),((5,0),some (.ow 2 x.2.2 (rows gM x.2.1)))]⟩) (fun x=>(∃ k,x.1=2*size*k)/\x.2.2=x.2.1.length/\x.2.1.length=min x.1 l.length/\x.2.1.Perm (out.take x.1)/\Runs kle (2*size) x.2.1/\x.1<=l.length+2*size) (fun x=>l.length+2*size - x.1) (0,[],0) (by simp [C.spec_l2Gather,rows]) ⟨⟨0,rfl⟩,rfl,by simp,by simp,fun k=>by simp,by dsimp only;omega⟩ ?_
  intro x2 hx2 R2 hR2
  obtain ⟨at_,next,m⟩:=x2
  obtain ⟨⟨k,hk⟩,hm,hnl,hnp,hnr,hab⟩:=hx2
  dsimp only at hk hm hnl hnp hnr hab ⊢
  refine wseq ?_
  refine wseq ?_
  refine wreg fun K hK=>?_
  simp [C.spec_l2Gather]
  refine hK _ ?_;clear hK K
  show AWp _ _ _ _ _
  refine wcond _ rfl (fun hc2=>?_) (fun hc2=>?_)
  ·have hat:at_ < l.length:=by have:=d_t hc2;omega
   have hnl2:next.length=at_:=by omega
   obtain ⟨mid,hmid⟩:∃ mid,mid=min (at_+size) l.length:=⟨_,rfl⟩
   obtain ⟨en,hen⟩:∃ en,en=min (at_+2*size) l.length:=⟨_,rfl⟩
   have hmid2:min ((at_:Int)+size) l.length=(mid:Int):=by omega
   have hen2:min ((at_:Int)+2*size) l.length=(en:Int):=by omega
   refine wskip ?_
   show AWp _ _ _ _ _
   refine wseq ?_
   refine wblock ?_
   refine wseq ?_
   refine wreg fun K hK=>?_
   simp [C.spec_l2Gather]
   refine hK _ ?_;clear hK K
   show AWp _ _ _ _ _
   refine wseq ?_
   refine wreg fun K hK=>?_
   simp [C.spec_l2Gather]
   rw [wrapOk (x:=(at_:Int)+size) (by omega) (by omega),hmid2]
   refine hK _ ?_;clear hK K
   show AWp _ _ _ _ _
   refine wseq ?_
   refine wreg fun K hK=>?_
   simp [C.spec_l2Gather]
   refine hK _ ?_;clear hK K
   show AWp _ _ _ _ _
   refine wseq ?_
   refine wreg fun K hK=>?_
   simp [C.spec_l2Gather]
   rw [wrapOk (x:=2*(size:Int)) (by omega) (by omega),wrapOk (x:=(at_:Int)+2*size) (by omega) (by omega),hen2]
   refine hK _ ?_;clear hK K
   show AWp _ _ _ _ _
   refine wblock ?_
   refine wloop (fun x:Nat×Nat×List (Int×Int)×Nat=>⟨ofL [(3,.al (3,0) [] 0 l.length),(4,.int size),(5,.al (5,0) [] 0 x.2.2.2),(6,.int at_),(7,.int x.1),(8,.int mid),(9,.int x.2.1),(10,.int en)],ofRO [((3,0),some (.ow 2 l.length (rows gM out))),((5,0),some (.ow 2 x.2.2.2 (rows gM x.2.2.1)))]⟩) (fun x=>x.1<=mid/\x.2.1<=en/\mid<=x.2.1/\x.2.2.2=x.2.2.1.length/\x.2.2.2<=3000000 - ((mid - x.1)+(en - x.2.1))/\∃ M,x.2.2.1=next ++ M/\M ++ List.merge (sgm out x.1 mid) (sgm out x.2.1 en) kle=List.merge (sgm out at_ mid) (sgm out mid en) kle) (fun x=>(mid - x.1)+(en - x.2.1)) (at_,mid,next,m) (by simp [C.spec_l2Gather]) ⟨by dsimp only;omega,by dsimp only;omega,by dsimp only;omega,hm,by dsimp only;omega,[],by simp,by simp⟩ ?_
   intro x3 hx3 R3 hR3
   obtain ⟨i,j,nx,mm⟩:=x3
   obtain ⟨h1,h2,h3,h4,h5,M,h6,h7⟩:=hx3
   dsimp only at h1 h2 h3 h4 h5 h6 h7 ⊢
   refine wseq ?_
   refine wseq ?_
   refine wreg fun K hK=>?_
   have hJ:K ⟨ofL [(3,.al (3,0) [] 0 l.length),(4,.int size),(5,.al (5,0) [] 0 mm),(6,.int at_),(7,.int i),(8,.int mid),(9,.int j),(10,.int en),(55,.bool (decide (i < mid\/j < en)))],ofRO [((3,0),some (.ow 2 l.length (rows gM out))),((5,0),some (.ow 2 mm (rows gM nx)))]⟩:=by
    refine hK _ ?_;clear hK K
    show AWp _ _ _ _ _
    refine wcond _ rfl (fun hc3=>?_) (fun hc3=>?_)
    ·have hij:=d_t hc3
     refine wskip ?_
     show AWp _ _ _ _ _
     refine wblock ?_
     refine wseq ?_
     refine wdrawI [(true,0),(true,1),(true,2),(true,3),(true,4),(true,5),(true,6),(true,7),(true,8),(true,9),(true,10),(true,11),(true,12),(true,13),(true,14),(true,15),(true,16),(true,17),(true,18),(true,19),(true,20)] ⟨by kernel_rfl,by kernel_rfl⟩ ([0,1,2,3,4,5,6,7,8,9,10,11,12,13,14,15,16,17,18,19,20]) rfl fun K hK=>?_
     have hJ:K ⟨ofL [(3,.al (3,0) [] 0 l.length),(4,.int size),(5,.al (5,0) [] 0 mm),(6,.int at_),(7,.int i),(8,.int mid),(9,.int j),(10,.int en),(76,.bool (decide (en<=j\/(i < mid/\(out.getD j (0,0)).1<=(out.getD i (0,0)).1))))],ofRO [((3,0),some (.ow 2 l.length (rows gM out))),((5,0),some (.ow 2 mm (rows gM nx)))]⟩:=by
      refine hK _ ?_;clear hK K
      show AWp _ _ _ _ _
      refine wcond _ rfl (fun hc4=>?_) (fun hc4=>?_)
      ·have hcc:=d_t hc4
       have him:i < mid:=by omega
       have hi:i < out.length:=by omega
       have hi':i < l.length:=by omega
       refine wseq ?_
       refine wreg fun K hK=>?_
       simp [C.spec_l2Gather,hi',gM_0 hi,gM_1 hi,gM_snoc,pair_eta,show (mm+1)*16<=140737488355328 by omega]
       refine hK _ ?_;clear hK K
       show AWp _ _ _ _ _
       refine wreg fun K hK=>?_
       simp [C.spec_l2Gather,wrap_succ (show i < 4611686018427387904 by omega)]
       refine hK _ ?_;clear hK K
       simp [C.spec_l2Gather]
       refine hR3 (i+1,j,_,mm+1) ⟨him,h2,h3,by dsimp only;rw [h4];simp,by dsimp only;omega,M ++ [out[i]],by dsimp only;rw [h6,List.append_assoc],?_⟩ (by dsimp only;omega)
       dsimp only
       rw [← h7,List.append_assoc,sgm_cons him hi]
       rcases Nat.lt_or_ge j en with hje | hje
       ·have hj:j < out.length:=by omega
        rw [sgm_cons hje hj,mrg_cons]
        have hk':kle out[i] out[j]=true:=by
         rcases hcc with hcc | ⟨_,hcc⟩
         ·omega
         ·rw [getD_at hi,getD_at hj] at hcc
          simpa [kle] using hcc
        rw [if_pos hk']
        rfl
       ·rw [sgm_nil hje,mrg_nil_right,mrg_nil_right]
        rfl
      ·have hcc:=d_f hc4
       have hje:j < en:=by omega
       have hj:j < out.length:=by omega
       have hj':j < l.length:=by omega
       refine wseq ?_
       refine wreg fun K hK=>?_
       simp [C.spec_l2Gather,hj',gM_0 hj,gM_1 hj,gM_snoc,pair_eta,show (mm+1)*16<=140737488355328 by omega]
       refine hK _ ?_;clear hK K
       show AWp _ _ _ _ _
       refine wreg fun K hK=>?_
       simp [C.spec_l2Gather,wrap_succ (show j < 4611686018427387904 by omega)]
       refine hK _ ?_;clear hK K
       simp [C.spec_l2Gather]
       refine hR3 (i,j+1,_,mm+1) ⟨h1,hje,by dsimp only;omega,by dsimp only;rw [h4];simp,by dsimp only;omega,M ++ [out[j]],by dsimp only;rw [h6,List.append_assoc],?_⟩ (by dsimp only;omega)
       dsimp only
       rw [← h7,List.append_assoc,sgm_cons hje hj]
       rcases Nat.lt_or_ge i mid with him | him
       ·have hi:i < out.length:=by omega
        rw [sgm_cons him hi,mrg_cons]
        have hk':¬ kle out[i] out[j]=true:=by
         intro hk'
         refine hcc (.inr ⟨him,?_⟩)
         rw [getD_at hi,getD_at hj]
         simpa [kle] using hk'
        rw [if_neg hk']
        rfl
       ·rw [sgm_nil him,mrg_nil_left,mrg_nil_left]
        rfl
     clear hK
     by_cases ha:en<=j
     ·refine opsI_end fun L hL=>?_
      simp [C.spec_l2Gather,ha]
      refine hL _ ?_;clear hL L
      simp [C.spec_l2Gather,ha]
      refine cast (congrArg K ?_) hJ
      simp [ha]
     ·by_cases hb:i < mid
      ·have hi:i < out.length:=by omega
       have hj:j < out.length:=by omega
       have hi':i < l.length:=by omega
       have hj':j < l.length:=by omega
       refine opsI_end fun L hL=>?_
       simp [C.spec_l2Gather,hi',hj',gM_0 hi,gM_0 hj,ha,hb]
       refine hL _ ?_;clear hL L
       simp [C.spec_l2Gather,hi',hj',gM_0 hi,gM_0 hj,ha,hb]
       refine cast (congrArg K ?_) hJ
       simp [List.getD_eq_getElem?_getD,hi,hj,ha,hb]
      ·refine opsI_end fun L hL=>?_
       simp [C.spec_l2Gather,ha,hb]
       refine hL _ ?_;clear hL L
       simp [C.spec_l2Gather,ha,hb]
       refine cast (congrArg K ?_) hJ
       simp [ha,hb]
    ·have hij:=d_f hc3
     have ei:mid<=i:=by omega
     have ej:en<=j:=by omega
     rw [sgm_nil ei,sgm_nil ej,mrg_nil_left,List.append_nil] at h7
     refine wexit ?_
     show AWp _ _ _ _ _
     refine wreg fun K hK=>?_
     simp [C.spec_l2Gather]
     rw [wrapOk (x:=2*(size:Int)) (by omega) (by omega),wrapOk (x:=(at_:Int)+2*size) (by omega) (by omega)]
     refine hK _ ?_;clear hK K
     have hA:(sgm out at_ mid).Pairwise fun a b=>kle a b=true:=sgm_runs (k:=2*k) hruns (by rw [hk];rw [Nat.mul_comm 2 size,Nat.mul_assoc]) (by rw [hmid,hol])
     have hB:(sgm out mid en).Pairwise fun a b=>kle a b=true:=by
      rcases Nat.le_total (at_+size) l.length with hq | hq
      ·have e1:mid=at_+size:=by omega
       exact sgm_runs (k:=2*k+1) hruns (by rw [e1,hk,Nat.mul_succ,Nat.mul_comm 2 size,Nat.mul_assoc]) (by rw [hol,hen,e1];congr 1;omega)
      ·rw [sgm_nil (by omega)]
       exact List.Pairwise.nil
     have hM:=mrg_sorted hA hB
     have hMp:=mrg_perm (sgm out at_ mid) (sgm out mid en)
     rw [← h7] at hM hMp
     have hMl:M.length=en - at_:=by
      have:=hMp.length_eq
      have e2:=congrArg List.length (sgm_take (out:=out) (a:=at_) (b:=mid) (c:=en) (by omega) (by omega))
      simp only [List.length_append,List.length_take] at this e2
      omega
     simp [C.spec_l2Gather]
     rw [show (at_:Int)+2*size=((at_+2*size:Nat):Int) by omega]
     refine hR2 (at_+2*size,nx,mm) ⟨⟨k+1,by dsimp only;rw [hk,Nat.mul_succ]⟩,h4,?_,?_,?_,by dsimp only;omega⟩ (by dsimp only;omega)
     ·dsimp only
      rw [h6,List.length_append,hMl]
      omega
     ·dsimp only
      rw [h6]
      have e3:out.take (at_+2*size)=out.take en:=by
       rw [hen]
       rcases Nat.le_total (at_+2*size) l.length with hq | hq
       ·rw [Nat.min_eq_left hq]
       ·rw [Nat.min_eq_right hq,List.take_of_length_le (by omega),List.take_of_length_le (by omega)]
      rw [e3,← sgm_take (out:=out) (a:=at_) (b:=mid) (c:=en) (by omega) (by omega)]
      exact hnp.append hMp
     ·dsimp only
      rw [h6]
      exact runs_snoc hnr (by rw [hnl2,hk]) hM (by omega)
   clear hK
   by_cases ha:i < mid
   ·simp [C.spec_l2Gather,ha]
    refine cast (congrArg K ?_) hJ
    simp [ha]
   ·simp [C.spec_l2Gather,ha]
    refine cast (congrArg K ?_) hJ
    simp [ha]
  ·have hat:l.length<=at_:=by have:=d_f hc2;omega
   have hml:m=l.length:=by omega
   refine wexit ?_
   show AWp _ _ _ _ _
   refine wreg fun K hK=>?_
   simp [C.spec_l2Gather]
   refine hK _ ?_;clear hK K
   show AWp _ _ _ _ _
   refine wreg fun K hK=>?_
   simp [C.spec_l2Gather]
   rw [wrapOk (x:=(size:Int)*2) (by omega) (by omega)]
   refine hK _ ?_;clear hK K
   simp [C.spec_l2Gather]
   rw [show (size:Int)*2=((2*size:Nat):Int) by omega,hml]
   refine hR1 (2*size,next) ⟨?_,hnr,by dsimp only;omega,by dsimp only;omega⟩ (by dsimp only;omega)
   dsimp only
   rw [List.take_of_length_le (by omega)] at hnp
   exact hnp.trans hperm
 ·have hlt:l.length<=size:=by have:=d_f hc1;omega
  have hsort:=runs_all hruns (by omega)
  have hnf:=combR_nf hperm hsort
  have habs:=absL_perm hperm
  refine wexit ?_
  show AWp _ _ _ _ _
  refine wseq ?_
  refine wreg fun K hK=>?_
  simp [C.spec_l2Gather]
  refine hK _ ?_;clear hK K
  show AWp _ _ _ _ _
  refine wseq ?_
  refine wseq ?_
  refine wreg fun K hK=>?_
  simp [C.spec_l2Gather]
  refine hK _ ?_;clear hK K
  show AWp _ _ _ _ _
  refine wblock ?_
  refine wloop (fun x:Nat×List (Int×Int)×Nat×Nat=>⟨ofL [(3,.al (3,0) [] 0 l.length),(11,.al (11,0) [] 0 x.2.2.1),(12,.int x.1)],ofRO [((3,0),some (.ow 2 l.length (rows gM out))),((11,0),some (.ow 2 x.2.2.2 (rows gM x.2.1)))]⟩) (fun x=>x.1<=l.length/\x.2.1.length=x.2.2.2/\x.2.2.1<=x.2.2.2/\x.2.2.1<=x.1/\combR (x.2.1.take x.2.2.1) (out.drop x.1)=nf ilt l/\absL (x.2.1.take x.2.2.1)<=absL (out.take x.1)) (fun x=>l.length - x.1) (0,[],0,0) (by simp [C.spec_l2Gather,rows]) ⟨by simp,by simp,by simp,by simp,by simpa using hnf,by simp⟩ ?_
  intro x4 hx4 R4 hR4
  obtain ⟨k,G,m,N⟩:=x4
  obtain ⟨g1,g2,g3,g4,g5,g6⟩:=hx4
  dsimp only at g1 g2 g3 g4 g5 g6 ⊢
  refine wseq ?_
  refine wseq ?_
  refine wreg fun K hK=>?_
  simp [C.spec_l2Gather]
  refine hK _ ?_;clear hK K
  show AWp _ _ _ _ _
  refine wcond _ rfl (fun hc5=>?_) (fun hc5=>?_)
  ·have hk:k < l.length:=by have:=d_t hc5;omega
   have hko:k < out.length:=by omega
   have hokb:(out.take k) ++ [out[k]]=out.take (k+1):=(List.take_succ_eq_append_getElem hko).symm
   have hab1:absL (out.take (k+1))=absL (out.take k)+out[k].2.natAbs:=by rw [← hokb,absL_append];simp [absL]
   have hab2:absL (out.take (k+1))<=absL l:=by
    rw [← habs]
    conv=>rhs;rw [← List.take_append_drop (k+1) out,absL_append]
    omega
   refine wskip ?_
   show AWp _ _ _ _ _
   refine wseq ?_
   refine wblock ?_
   refine wseq ?_
   refine wseq ?_
   refine wdrawI [(true,0),(true,1),(true,2),(true,3),(true,4),(true,5),(true,6),(true,7),(true,8),(true,9),(true,10),(true,11),(true,12),(true,13),(true,14),(true,15),(true,16),(true,17)] ⟨by kernel_rfl,by kernel_rfl⟩ ([0,1,2,3,4,5,6,7,8,9,10,11,12,13,14,15,16,17]) rfl fun K hK=>?_
   have hJ:K ⟨ofL [(3,.al (3,0) [] 0 l.length),(11,.al (11,0) [] 0 m),(12,.int k),(120,.bool (decide (0 < m/\(G.getD (m - 1) (0,0)).1=(out.getD k (0,0)).1)))],ofRO [((3,0),some (.ow 2 l.length (rows gM out))),((11,0),some (.ow 2 N (rows gM G)))]⟩:=by
    refine hK _ ?_;clear hK K
    show AWp _ _ _ _ _
    refine wcondJ (fun σ'=>∃ G' m' N',(G'.length=N'/\m'<=N'/\0 < m'/\m'<=k+1/\G'.take m'=addLast (G.take m) out[k])/\σ'=⟨ofL [(3,.al (3,0) [] 0 l.length),(11,.al (11,0) [] 0 m'),(12,.int k)],ofRO [((3,0),some (.ow 2 l.length (rows gM out))),((11,0),some (.ow 2 N' (rows gM G')))]⟩) _ rfl ?_ (fun hc6 Qc6 hQc6=>?_) (fun hc6 Qc6 hQc6=>?_)
    ·rintro σc6 ⟨G',m',N',⟨f1,f2,f3,f4,f5⟩,rfl⟩
     have habG:absL (G'.take m')<=absL (out.take (k+1)):=by
      have:=absL_addLast (G.take m) out[k]
      rw [f5,hab1]
      omega
     obtain ⟨q,rfl⟩:∃ q,m'=q+1:=⟨m' - 1,by omega⟩
     have hq:q < G'.length:=by omega
     have hqN:q < N':=by omega
     show AWp _ _ _ _ _
     refine wseq ?_
     refine wdrawI [(true,0),(true,1),(true,2),(true,3),(true,4),(true,5),(true,6),(true,7),(true,8),(true,9),(true,10),(true,11),(true,12),(true,13),(true,14),(true,15),(true,16),(true,17),(true,18)] ⟨by kernel_rfl,by kernel_rfl⟩ ([0,1,2,3,4,5,6,7,8,9,10,11,12,13,14,15,16,17,18]) rfl fun K hK=>?_
     have hJ:K ⟨ofL [(3,.al (3,0) [] 0 l.length),(11,.al (11,0) [] 0 (q+1)),(12,.int k),(165,.bool (decide (k+1=l.length\/(out.getD (k+1) (0,0)).1≠(out.getD k (0,0)).1)))],ofRO [((3,0),some (.ow 2 l.length (rows gM out))),((11,0),some (.ow 2 N' (rows gM G')))]⟩:=by
      refine hK _ ?_;clear hK K
      show AWp _ _ _ _ _
      refine wcondJ (fun σ'=>∃ m' t f,(m'<=q+1/\G'.take m'=if (out.drop (k+1)).head?.map (·.1)=some out[k].1 then G'.take (q+1) else cutLast (G'.take (q+1)))/\σ'=⟨ofL [(3,.al (3,0) [] 0 l.length),(11,.al (11,0) [] 0 m'),(12,.int k),(t,f)],ofRO [((3,0),some (.ow 2 l.length (rows gM out))),((11,0),some (.ow 2 N' (rows gM G')))]⟩) _ rfl ?_ (fun hc7 Qc7 hQc7=>?_) (fun hc7 Qc7 hQc7=>?_)
      ·rintro σc7 ⟨m',tt,ff,⟨e1,e2⟩,rfl⟩
       show AWp _ _ _ _ _
       refine wreg fun K hK=>?_
       simp [C.spec_l2Gather,wrap_succ (show k < 4611686018427387904 by omega)]
       refine hK _ ?_;clear hK K
       simp [C.spec_l2Gather]
       refine hR4 (k+1,G',m',N') ⟨hk,f1,by dsimp only;omega,by dsimp only;omega,?_,?_⟩ (by dsimp only;omega)
       ·dsimp only
        rw [e2,f5,← g5,List.drop_eq_getElem_cons hko]
        rfl
       ·dsimp only
        rw [e2]
        split
        ·exact habG
        ·exact Nat.le_trans (absL_cutLast _) habG
      ·have hcc:=d_t hc7
       have hnx:¬ ((out.drop (k+1)).head?.map (·.1)=some out[k].1):=by rw [head_next hko];rw [hol];exact fun h=>h hcc
       refine wseq ?_
       refine wreg fun K hK=>?_
       simp [C.spec_l2Gather,show ((q:Int) < q+1) by omega,hqN,f1,gM_1 hq,wrap_nat (show q < 4611686018427387904 by omega)]
       refine hK _ ?_;clear hK K
       show AWp _ _ _ _ _
       refine wcond _ rfl (fun hc8=>?_) (fun hc8=>?_)
       ·have hz:G'[q].2=0:=by simpa using hc8
        refine wreg fun K hK=>?_
        simp [C.spec_l2Gather,show ((q:Int)<=q+1) by omega,hqN,wrap_nat (show q < 4611686018427387904 by omega)]
        refine hK _ ?_;clear hK K
        first
         | (rw [ofL_pad3];exact hQc7 _ ⟨q,0,.dead,⟨by omega,by rw [if_neg hnx,cutLast_at hq,if_pos hz]⟩,rfl⟩)
         | exact hQc7 _ ⟨q+1,_,_,⟨by omega,by rw [if_neg hnx,cutLast_at hq,if_neg hz]⟩,rfl⟩
       ·have hz:¬ G'[q].2=0:=by simpa using hc8
        refine wskip ?_
        first
         | (rw [ofL_pad3];exact hQc7 _ ⟨q,0,.dead,⟨by omega,by rw [if_neg hnx,cutLast_at hq,if_pos hz]⟩,rfl⟩)
         | exact hQc7 _ ⟨q+1,_,_,⟨by omega,by rw [if_neg hnx,cutLast_at hq,if_neg hz]⟩,rfl⟩
      ·have hcc:=d_f hc7
       have hnx:(out.drop (k+1)).head?.map (·.1)=some out[k].1:=by rw [head_next hko];rw [hol];exact hcc
       refine wskip ?_
       exact hQc7 _ ⟨q+1,_,_,⟨Nat.le_refl _,by rw [if_pos hnx]⟩,rfl⟩
     clear hK
     by_cases ha:k+1=l.length
     ·refine opsI_end fun L hL=>?_
      simp [C.spec_l2Gather,wrap_succ (show k < 4611686018427387904 by omega),wrap_nat (show l.length < 4611686018427387904 by omega),show ((k:Int)+1=l.length) by omega,ha]
      refine hL _ ?_;clear hL L
      simp [C.spec_l2Gather,wrap_succ (show k < 4611686018427387904 by omega),wrap_nat (show l.length < 4611686018427387904 by omega),show ((k:Int)+1=l.length) by omega,ha]
      refine cast (congrArg K ?_) hJ
      simp [ha,ha]
     ·have hk1:k+1 < l.length:=by omega
      have hko1:k+1 < out.length:=by omega
      refine opsI_end fun L hL=>?_
      simp [C.spec_l2Gather,wrap_succ (show k < 4611686018427387904 by omega),wrap_nat (show l.length < 4611686018427387904 by omega),show ¬ ((k:Int)+1=l.length) by omega,show (0<=(k:Int)+1) by omega,show ((k:Int)+1 < l.length) by omega,show ((k:Int)+1).toNat=k+1 by omega,hk1,hk,gM_0 hko1,gM_0 hko,ha]
      refine hL _ ?_;clear hL L
      simp [C.spec_l2Gather,wrap_succ (show k < 4611686018427387904 by omega),wrap_nat (show l.length < 4611686018427387904 by omega),show ¬ ((k:Int)+1=l.length) by omega,show (0<=(k:Int)+1) by omega,show ((k:Int)+1 < l.length) by omega,show ((k:Int)+1).toNat=k+1 by omega,hk1,hk,gM_0 hko1,gM_0 hko,ha]
      refine cast (congrArg K ?_) hJ
      simp [List.getD_eq_getElem?_getD,hko1,hko,ibne,show ¬ (k+1=l.length) by omega,ha]
    ·have hcc:=d_t hc6
     obtain ⟨q,rfl⟩:∃ q,m=q+1:=⟨m - 1,by omega⟩
     have hq:q < G.length:=by omega
     have hqN:q < N:=by omega
     have hek:G[q].1=out[k].1:=by
      have:=hcc.2
      rw [show q+1 - 1=q by omega,getD_at hq,getD_at hko] at this
      exact this
     have hGq:=absL_mem (l:=G.take (q+1)) (x:=G[q]) (by rw [List.take_succ_eq_append_getElem hq];exact List.mem_append_right _ (List.mem_singleton.2 rfl))
     refine wdrawI [(true,0),(true,1),(true,2),(true,3),(true,4),(true,5),(true,6),(true,7),(true,8),(true,9),(true,10),(true,11),(true,12),(true,13),(true,14),(true,15),(true,16),(true,17),(true,18),(false,19)] ⟨by kernel_rfl,by kernel_rfl⟩ ([0,1,2,3,4,5,6,7,8,9,10,11,12,13,14,15,16,17,18,19]) rfl fun K hK=>?_
     refine opsI_end fun L hL=>?_
     simp [C.spec_l2Gather,show ((q:Int) < q+1) by omega,hqN,g2,hk,gM_1 hq,gM_1 hko,gM_set1 hq,wrap_nat (show q < 4611686018427387904 by omega),wrapOk (x:=G[q].2+out[k].2) (by omega) (by omega)]
     refine hL _ ?_;clear hL L
     simp [C.spec_l2Gather,show ((q:Int) < q+1) by omega,hqN,g2,hk,gM_1 hq,gM_1 hko,gM_set1 hq,wrap_nat (show q < 4611686018427387904 by omega),wrapOk (x:=G[q].2+out[k].2) (by omega) (by omega)]
     refine hK _ ?_;clear hK K
     refine hQc6 _ ⟨_,q+1,N,⟨?_,g3,by omega,by omega,?_⟩,rfl⟩
     ·simpa using g2
     ·exact (addLast_same hq hek).symm
    ·have hcc:=d_f hc6
     have hnew:=addLast_new (l:=G) (m:=m) (x:=out[k]) (by omega) (by rw [getD_at hko] at hcc;exact hcc)
     refine wreg fun K hK=>?_
     simp [C.spec_l2Gather,hk,gM_0 hko,gM_1 hko,tkM g2 g3,gM_snoc,pair_eta,show (m+1)*16<=140737488355328 by omega]
     refine hK _ ?_;clear hK K
     refine hQc6 _ ⟨_,m+1,m+1,⟨?_,Nat.le_refl _,by omega,by omega,?_⟩,rfl⟩
     ·simp
      omega
     ·rw [hnew,List.take_of_length_le (by simp;omega)]
   clear hK
   by_cases ha:0 < m
   ·obtain ⟨q,rfl⟩:∃ q,m=q+1:=⟨m - 1,by omega⟩
    have hq:q < G.length:=by omega
    have hqN:q < N:=by omega
    refine opsI_end fun L hL=>?_
    simp [C.spec_l2Gather,show ((q:Int) < q+1) by omega,hk,hqN,g2,gM_0 hq,gM_0 hko,wrap_nat (show q < 4611686018427387904 by omega),ha]
    refine hL _ ?_;clear hL L
    simp [C.spec_l2Gather,show ((q:Int) < q+1) by omega,hk,hqN,g2,gM_0 hq,gM_0 hko,wrap_nat (show q < 4611686018427387904 by omega),ha]
    refine cast (congrArg K ?_) hJ
    simp [List.getD_eq_getElem?_getD,hq,hko,ibeq,ha]
   ·refine opsI_end fun L hL=>?_
    simp [C.spec_l2Gather,ha]
    refine hL _ ?_;clear hL L
    simp [C.spec_l2Gather,ha]
    refine cast (congrArg K ?_) hJ
    simp [ha]
  ·have hk:k=l.length:=by have:=d_f hc5;omega
   have hfin:G.take m=nf ilt l:=by
    rw [← g5,hk,← hol,List.drop_length]
    rfl
   have hml:m=(nf ilt l).length:=by rw [← hfin,List.length_take];omega
   refine wexit ?_
   show AWp _ _ _ _ _
   refine wseq ?_
   refine wreg fun K hK=>?_
   simp [C.spec_l2Gather]
   refine hK _ ?_;clear hK K
   show AWp _ _ _ _ _
   refine wret ?_
   simp [C.spec_l2Gather,tkM g2 g3,hfin]
   exact hml
end Go.Proofs.YtbhkonnakkhibaaGreat.Ab
namespace Go.Proofs.YtbhkonnakkhibaaGreat.Ab
open Go
set_option maxRecDepth 10000
set_option maxHeartbeats 2000000
def pM (base:Int) (x y:Int×Int):Int×Int:=(x.1+y.1 - base,x.2*y.2)
def prodM (base:Int) (a b:List (Int×Int)):List (Int×Int):=a.flatMap fun x=>b.map (pM base x)
theorem prodM_step {base:Int} {a b:List (Int×Int)} {i:Nat} (h:i < a.length):prodM base (a.take (i+1)) b=prodM base (a.take i) b ++ b.map (pM base a[i]):=by
 unfold prodM
 rw [List.take_succ_eq_append_getElem h,List.flatMap_append]
 simp
def MonOk (l:List (Int×Int)):Prop:=∀ x∈l,(0<=x.1/\x.1 < 72057594037927936)/\(-1000000<=x.2/\x.2<=1000000)
theorem mul_bd {x y:Int} (hx:-1000000<=x/\x<=1000000) (hy:-1000000<=y/\y<=1000000):-1000000000000<=x*y/\x*y<=1000000000000:=by
 have h1:(x*y).natAbs<=1000000*1000000:=by
  rw [Int.natAbs_mul]
  exact Nat.mul_le_mul (by omega) (by omega)
 omega
theorem absL_le {l:List (Int×Int)} {B:Nat} (h:∀ x∈l,x.2.natAbs<=B):absL l<=l.length*B:=by
 induction l with
 | nil=>simp [absL]
 | cons x l ih=>
  have h1:=h x (by simp)
  have h2:=ih fun y hy=>h y (by simp [hy])
  simp only [absL,List.map_cons,List.sum_cons,List.length_cons,Nat.add_mul,Nat.one_mul] at h2 ⊢
  omega
theorem prodM_len (base:Int) (a b:List (Int×Int)):(prodM base a b).length=a.length*b.length:=by
 unfold prodM
 induction a with
 | nil=>simp
 | cons x a ih=>simp [List.flatMap_cons,ih,Nat.add_mul];omega
theorem prodM_abs {base:Int} {a b:List (Int×Int)} (ha:MonOk a) (hb:MonOk b) (hla:a.length<=600) (hlb:b.length<=600):absL (prodM base a b) < 4611686018427387904:=by
 have h1:absL (prodM base a b)<=(prodM base a b).length*1000000000000:=absL_le fun x hx=>by
  unfold prodM at hx
  obtain ⟨u,hu,hx⟩:=List.mem_flatMap.1 hx
  obtain ⟨v,hv,rfl⟩:=List.mem_map.1 hx
  have:=mul_bd (ha u hu).2 (hb v hv).2
  simp only [pM]
  omega
 rw [prodM_len] at h1
 have h2:a.length*b.length<=600*600:=Nat.mul_le_mul hla hlb
 omega
theorem spec_l2Times_calls (a b:List (Int×Int)) (base:Int) (hbase:0<=base/\base < 72057594037927936) (ha:MonOk a) (hb:MonOk b) (hla:a.length<=600) (hlb:b.length<=600):ACalls Tryz.prog F.spec_l2Times [.d (.sh 2 a.length (rows gM a)),.d (.sh 2 b.length (rows gM b)),.int base] [] true (fun outs res=>outs=[]/\res=[.one (.ow 2 (nf ilt (prodM base a b)).length (rows gM (nf ilt (prodM base a b))))]):=by
 have hab:a.length*b.length<=600*600:=Nat.mul_le_mul hla hlb
 have habz:IntKind.i64.wrap ((a.length:Int)*b.length)=((a.length*b.length:Nat):Int):=by
  rw [show (a.length:Int)*b.length=((a.length*b.length:Nat):Int) by simp,wrapOk (by omega) (by omega)]
 generalize hq:a.length*b.length=q at hab habz
 refine ACalls.of_body (C:=C.spec_l2Times) (n:=Tryz.f196.ntmps) tabT folT Tryz.func196 rfl (by kernel_rfl) rfl (Nat.le_of_ble_eq_true rfl) (by decide) (by kernel_rfl) (by kernel_rfl) rfl (by simp) (by simp) ?_
 simp only [Tryz.f196]
 refine wseq ?_
 refine wreg fun K hK=>?_
 simp [C.spec_l2Times]
 refine hK _ ?_;clear hK K
 show AWp _ _ _ _ _
 refine wseq ?_
 refine wreg fun K hK=>?_
 simp [C.spec_l2Times,habz,show (16:Int)*q<=281474976710656 by omega,show (q:Int)<=281474976710656 by omega]
 refine hK _ ?_;clear hK K
 show AWp _ _ _ _ _
 refine wseq ?_
 refine wseq ?_
 refine wreg fun K hK=>?_
 simp [C.spec_l2Times]
 refine hK _ ?_;clear hK K
 show AWp _ _ _ _ _
 refine wblock ?_
 refine wloop (fun x:Nat×List (Int×Int)×Nat=>⟨ofL [(0,.d (.sh 2 a.length (rows gM a))),(1,.d (.sh 2 b.length (rows gM b))),(2,.int base),(7,.al (7,0) [] 0 x.2.2),(8,.int x.1)],ofRO [((7,0),some (.ow 2 x.2.2 (rows gM x.2.1)))]⟩) (fun x=>x.1<=a.length/\x.2.1=prodM base (a.take x.1) b/\x.2.2=x.2.1.length/\x.2.2<=x.1*600) (fun x=>a.length - x.1) (0,[],0) (by simp [C.spec_l2Times,rows]) (by simp [prodM]) ?_
 intro x1 hx1 R1 hR1
 obtain ⟨i,out,m⟩:=x1
 obtain ⟨hi,hout,hm,hmb⟩:=hx1
 dsimp only at hi hout hm hmb ⊢
 refine wseq ?_
 refine wseq ?_
 refine wreg fun K hK=>?_
 simp [C.spec_l2Times]
 refine hK _ ?_;clear hK K
 show AWp _ _ _ _ _
 refine wcond _ rfl (fun hc1=>?_) (fun hc1=>?_)
 ·have hia:i < a.length:=by have:=d_t hc1;omega
  refine wskip ?_
  show AWp _ _ _ _ _
  refine wseq ?_
  refine wblock ?_
  refine wseq ?_
  refine wreg fun K hK=>?_
  simp [C.spec_l2Times]
  refine hK _ ?_;clear hK K
  show AWp _ _ _ _ _
  refine wblock ?_
  refine wloop (fun x:Nat×List (Int×Int)×Nat=>⟨ofL [(0,.d (.sh 2 a.length (rows gM a))),(1,.d (.sh 2 b.length (rows gM b))),(2,.int base),(7,.al (7,0) [] 0 x.2.2),(8,.int i),(9,.int x.1)],ofRO [((7,0),some (.ow 2 x.2.2 (rows gM x.2.1)))]⟩) (fun x=>x.1<=b.length/\x.2.1=out ++ (b.take x.1).map (pM base a[i])/\x.2.2=x.2.1.length/\x.2.2<=i*600+x.1) (fun x=>b.length - x.1) (0,out,m) (by simp [C.spec_l2Times]) ⟨by simp,by simp,hm,by dsimp only;omega⟩ ?_
  intro x2 hx2 R2 hR2
  obtain ⟨j,o2,m2⟩:=x2
  obtain ⟨hj,ho2,hm2,hm2b⟩:=hx2
  dsimp only at hj ho2 hm2 hm2b ⊢
  refine wseq ?_
  refine wseq ?_
  refine wreg fun K hK=>?_
  simp [C.spec_l2Times]
  refine hK _ ?_;clear hK K
  show AWp _ _ _ _ _
  refine wcond _ rfl (fun hc2=>?_) (fun hc2=>?_)
  ·have hjb:j < b.length:=by have:=d_t hc2;omega
   have hA:=ha _ (List.getElem_mem hia)
   have hB:=hb _ (List.getElem_mem hjb)
   have hAB:=mul_bd hA.2 hB.2
   refine wskip ?_
   show AWp _ _ _ _ _
   refine wseq ?_
   refine wblock ?_
   refine wdrawI [(true,0),(true,1),(true,2),(true,3),(true,4),(true,5),(true,6),(true,7),(true,8),(true,9),(true,10),(true,11),(true,12),(true,13),(true,14),(true,15),(true,16),(true,17),(true,18),(true,19),(true,20),(true,21),(true,22),(true,23),(true,24),(true,25),(false,26),(false,27),(true,28)] ⟨by kernel_rfl,by kernel_rfl⟩ ([0,1,2,3,4,5,6,7,8,9,10,11,12,13,14,15,16,17,18,19,20,21,22,23,24,25,26,27,28]) rfl fun K hK=>?_
   refine opsI_end fun L hL=>?_
   simp [C.spec_l2Times,hia,hjb,gM_0 hia,gM_1 hia,gM_0 hjb,gM_1 hjb,gM_snoc,wrapOk (x:=a[i].1+b[j].1) (by omega) (by omega),wrapOk (x:=a[i].1+b[j].1 - base) (by omega) (by omega),wrapOk (x:=a[i].2*b[j].2) (by omega) (by omega),show (m2+1)*16<=140737488355328 by omega]
   refine hL _ ?_;clear hL L
   simp [C.spec_l2Times,hia,hjb,gM_0 hia,gM_1 hia,gM_0 hjb,gM_1 hjb,gM_snoc,wrapOk (x:=a[i].1+b[j].1) (by omega) (by omega),wrapOk (x:=a[i].1+b[j].1 - base) (by omega) (by omega),wrapOk (x:=a[i].2*b[j].2) (by omega) (by omega),show (m2+1)*16<=140737488355328 by omega]
   refine hK _ ?_;clear hK K
   show AWp _ _ _ _ _
   refine wreg fun K hK=>?_
   simp [C.spec_l2Times,wrap_succ (show j < 4611686018427387904 by omega)]
   refine hK _ ?_;clear hK K
   simp [C.spec_l2Times]
   refine hR2 (j+1,_,m2+1) ⟨hjb,?_,by dsimp only;rw [hm2];simp,by dsimp only;omega⟩ (by dsimp only;omega)
   dsimp only
   rw [ho2,List.take_succ_eq_append_getElem hjb,List.map_append,List.append_assoc]
   rfl
  ·have hjb:j=b.length:=by have:=d_f hc2;omega
   refine wexit ?_
   show AWp _ _ _ _ _
   refine wreg fun K hK=>?_
   simp [C.spec_l2Times,wrap_succ (show i < 4611686018427387904 by omega)]
   refine hK _ ?_;clear hK K
   simp [C.spec_l2Times]
   refine hR1 (i+1,o2,m2) ⟨hia,?_,hm2,by dsimp only;omega⟩ (by dsimp only;omega)
   dsimp only
   rw [prodM_step hia,← hout,ho2,hjb,List.take_length]
 ·have hia:i=a.length:=by have:=d_f hc1;omega
  have hfull:out=prodM base a b:=by rw [hout,hia,List.take_length]
  subst hfull
  subst hm
  refine wexit ?_
  show AWp _ _ _ _ _
  refine wseq ?_
  refine wregI ([0,1] ++ ([2])) rfl fun K hK=>?_
  refine opsI_seg fun L hL=>?_
  simp [C.spec_l2Times]
  refine wcall1 (spec_l2Gather_calls (prodM base a b) (by omega) (prodM_abs ha hb hla hlb)) (by simp) (by simp) ?_
  simp [C.spec_l2Times]
  refine hL _ ?_;clear hL L
  refine opsI_end fun L hL=>?_
  simp [C.spec_l2Times]
  refine hL _ ?_;clear hL L
  simp [C.spec_l2Times]
  refine hK _ ?_;clear hK K
  show AWp _ _ _ _ _
  refine wret ?_
  simp [C.spec_l2Times]
end Go.Proofs.YtbhkonnakkhibaaGreat.Ab
namespace Go.Proofs.YtbhkonnakkhibaaGreat.Ab
open Go
set_option maxRecDepth 10000
set_option maxHeartbeats 2000000
theorem insK_len {K:Type} [DecidableEq K] {lt:K->K->Bool} (k:K) (c:Int):∀ l:List (K×Int),(insK lt k c l).length<=l.length+1
 | []=>by simp only [insK];split <;> simp
 | x :: l=>by
  simp only [insK]
  split
  ·split <;> simp
   omega
  ·split
   ·split <;> simp
   ·simp only [List.length_cons]
    have:=insK_len (lt:=lt) k c l
    omega
theorem nf_len {K:Type} [DecidableEq K] {lt:K->K->Bool}:∀ l:List (K×Int),(nf lt l).length<=l.length
 | []=>by simp [nf]
 | x :: l=>by
  simp only [nf,List.length_cons]
  have:=insK_len (lt:=lt) x.1 x.2 (nf lt l)
  have:=nf_len (lt:=lt) l
  omega
theorem right_dig {f:Lau} (h:Right f) {n:Nat} (hn:f.v=n):∀ t∈f.ts,t.e.length=n/\Dig t.e/\(∀ x∈t.e,-20<=x/\x<=20)/\(-1000000<=t.c/\t.c<=1000000):=fun t ht=>by
 obtain ⟨h1,_,h2,h3⟩:=h.2.2.1 t ht
 exact ⟨by omega,fun x hx=>by have:=h3 x hx;omega,h3,h2⟩
theorem right_mon {f:Lau} (h:Right f) {n:Nat} (hn:f.v=n):MonOk (f.ts.map kt):=fun x hx=>by
 obtain ⟨t,ht,rfl⟩:=List.mem_map.1 hx
 obtain ⟨h1,h2,_,h3⟩:=right_dig h hn t ht
 have:=h.1
 exact ⟨keyA_key h2 (by omega),h3⟩
theorem addE_mem {a b:List Int} (hl:a.length=b.length) {p q:Int} (ha:∀ x∈a,-p<=x/\x<=p) (hb:∀ x∈b,-q<=x/\x<=q):∀ x∈addE 1 a b,-(p+q)<=x/\x<=p+q:=by
 induction a generalizing b with
 | nil=>cases b with
  | nil=>intro x hx;simp [addE] at hx
  | cons y b=>simp at hl
 | cons u a ih=>cases b with
  | nil=>simp at hl
  | cons v b=>
   intro x hx
   simp only [addE,List.mem_cons] at hx
   rcases hx with rfl | hx
   ·have:=ha u (by simp)
    have:=hb v (by simp)
    omega
   ·exact ih (by simpa using hl) (fun x hx=>ha x (by simp [hx])) (fun x hx=>hb x (by simp [hx])) x hx
theorem prodL_mem {a b:List (List Int×Int)} {z:List Int×Int} (h:z∈prodL a b):∃ x∈a,∃ y∈b,z=(addE 1 x.1 y.1,x.2*y.2):=by
 unfold prodL at h
 obtain ⟨x,hx,h⟩:=List.mem_flatMap.1 h
 obtain ⟨y,hy,rfl⟩:=List.mem_map.1 h
 exact ⟨x,hx,y,hy,rfl⟩
theorem prodL_exps {f g:Lau} (hf:Right f) (hg:Right g) {n:Nat} (h1:f.v=n) (h2:g.v=n):Exps n (prodL (f.ts.map pr) (g.ts.map pr)):=fun z hz=>by
 obtain ⟨x,hx,y,hy,rfl⟩:=prodL_mem hz
 obtain ⟨t,ht,rfl⟩:=List.mem_map.1 hx
 obtain ⟨u,hu,rfl⟩:=List.mem_map.1 hy
 obtain ⟨a1,_,a2,_⟩:=right_dig hf h1 t ht
 obtain ⟨b1,_,b2,_⟩:=right_dig hg h2 u hu
 refine ⟨by simp only [pr];rw [addE_length _ _ _ (by omega)];exact a1,fun x hx=>?_⟩
 have:=addE_mem (a:=t.e) (b:=u.e) (by omega) (p:=20) (q:=20) a2 b2 x hx
 omega
theorem flatMap_same {α β:Type} {f g:α->List β}:∀ (l:List α),(∀ x∈l,f x=g x)->l.flatMap f=l.flatMap g
 | [],_=>rfl
 | x :: l,h=>by
  simp only [List.flatMap_cons]
  rw [h x (by simp),flatMap_same l fun y hy=>h y (by simp [hy])]
theorem prodL_coded {f g:Lau} (hf:Right f) (hg:Right g) {n:Nat} (h1:f.v=n) (h2:g.v=n):prodM (keyA 0 (List.replicate n 0)) (f.ts.map kt) (g.ts.map kt)=(prodL (f.ts.map pr) (g.ts.map pr)).map kc:=by
 unfold prodM prodL
 rw [List.map_flatMap,List.flatMap_map,List.flatMap_map]
 refine flatMap_same _ fun t ht=>?_
 rw [List.map_map,List.map_map,List.map_map]
 refine List.map_congr_left fun u hu=>?_
 obtain ⟨a1,_⟩:=right_dig hf h1 t ht
 obtain ⟨b1,_⟩:=right_dig hg h2 u hu
 have:=keyA_add t.e u.e 0 0 0 (by omega)
 rw [a1] at this
 simp only [Function.comp,pM,kt,kc,pr]
 rw [← this]
 rfl
theorem kt_tm:kt ∘ tm=kc:=rfl
theorem prod_nf {f g:Lau} (hf:Right f) (hg:Right g) {n:Nat} (h1:f.v=n) (h2:g.v=n):nf ilt (prodM (keyA 0 (List.replicate n 0)) (f.ts.map kt) (g.ts.map kt))=((nf lexlt (prodL (f.ts.map pr) (g.ts.map pr))).map tm).map kt:=by
 rw [prodL_coded hf hg h1 h2,nf_key _ (prodL_exps hf hg h1 h2),List.map_map,kt_tm]
theorem prodL_len (a b:List (List Int×Int)):(prodL a b).length=a.length*b.length:=by
 unfold prodL
 induction a with
 | nil=>simp
 | cons x a ih=>simp [List.flatMap_cons,ih,Nat.add_mul];omega
theorem spec_MulLaurents_calls (f g:Lau) (hx:f.ts.length < 4611686018427387904) (hxe:∀ t∈f.ts,t.e.length < 4611686018427387904) (hy:g.ts.length < 4611686018427387904) (hye:∀ t∈g.ts,t.e.length < 4611686018427387904):ACalls Tryz.prog F.spec_MulLaurents [aF f,aF g] [] true (fun outs res=>outs=[]/\WkRs res [.ag (fO (mulF f g).1),.one (D.bool (mulF f g).2)]):=by
 refine ACalls.of_body (C:=C.spec_MulLaurents) (n:=Tryz.f119.ntmps) tabT folT Tryz.func119 rfl (by kernel_rfl) rfl (Nat.le_of_ble_eq_true rfl) (by decide) (by kernel_rfl) (by kernel_rfl) rfl (by simp) (by simp) ?_
 simp only [Tryz.f119]
 refine wseq ?_
 refine wreg fun K hK=>?_
 simp [C.spec_MulLaurents]
 refine hK _ ?_;clear hK K
 show AWp _ _ _ _ _
 refine wseq ?_
 refine wseq ?_
 refine wregI ([0,1,2] ++ ([3])) rfl fun K hK=>?_
 refine opsI_seg fun L hL=>?_
 simp [C.spec_MulLaurents]
 refine wcall1 (spec_l2Two_calls f g hx hxe hy hye) (by simp) (by simp) ?_
 simp [C.spec_MulLaurents]
 refine hL _ ?_;clear hL L
 refine opsI_end fun L hL=>?_
 simp [C.spec_MulLaurents]
 refine hL _ ?_;clear hL L
 simp [C.spec_MulLaurents]
 refine hK _ ?_;clear hK K
 show AWp _ _ _ _ _
 refine wcond _ rfl (fun hc1=>?_) (fun hc1=>?_)
 ·have hr:¬ (Right f/\Right g/\f.v=g.v):=by
   intro ⟨q1,q2,q3⟩
   simp [q1,q2,q3] at hc1
  have hm:mulF f g=(zeroF,false):=if_neg hr
  refine wseq ?_
  refine wreg fun K hK=>?_
  simp [C.spec_MulLaurents]
  refine hK _ ?_;clear hK K
  show AWp _ _ _ _ _
  refine wret ?_
  simp [C.spec_MulLaurents,hm,fO,zeroF,rows]
 ·have hr:Right f/\Right g/\f.v=g.v:=by simpa using hc1
  obtain ⟨hf,hg,hfg⟩:=hr
  have hv:=hf.1
  obtain ⟨n,hn⟩:∃ n:Nat,f.v=n:=⟨f.v.toNat,by omega⟩
  have hn2:g.v=n:=by omega
  have hn8:n<=8:=by omega
  have hfl:=hf.2.1
  have hgl:=hg.2.1
  have hnf:=prod_nf hf hg hn hn2
  obtain ⟨T,hT⟩:∃ T,T=(nf lexlt (prodL (f.ts.map pr) (g.ts.map pr))).map tm:=⟨_,rfl⟩
  rw [← hT] at hnf
  have hTl:T.length<=1000000:=by
   rw [hT,List.length_map]
   have h1:=nf_len (lt:=lexlt) (prodL (f.ts.map pr) (g.ts.map pr))
   rw [prodL_len,List.length_map,List.length_map] at h1
   have h2:f.ts.length*g.ts.length<=600*600:=Nat.mul_le_mul hfl hgl
   omega
  have hTe:∀ t∈T,Dig t.e/\t.e.length=n:=fun t ht=>by
   rw [hT] at ht
   obtain ⟨z,hz,rfl⟩:=List.mem_map.1 ht
   have:=nf_exps (prodL_exps hf hg hn hn2) z hz
   exact ⟨this.2,this.1⟩
  have hm:mulF f g=if Right ⟨f.v,T⟩ then (⟨f.v,T⟩,true) else (zeroF,false):=by
   unfold mulF
   rw [if_pos ⟨hf,hg,hfg⟩]
   unfold shutF
   rw [← hT]
  have hdf:∀ t∈f.ts,Dig t.e/\t.e.length<=8:=fun t ht=>by have:=right_dig hf hn t ht;exact ⟨this.2.1,by omega⟩
  have hdg:∀ t∈g.ts,Dig t.e/\t.e.length<=8:=fun t ht=>by have:=right_dig hg hn2 t ht;exact ⟨this.2.1,by omega⟩
  have hz8:=keyA_key (a:=List.replicate n 0) (fun x hx=>by have:=List.eq_of_mem_replicate hx;omega) (by simpa using hn8)
  have hTimes:=spec_l2Times_calls (f.ts.map kt) (g.ts.map kt) (keyA 0 (List.replicate n 0)) hz8 (right_mon hf hn) (right_mon hg hn2) (by simpa using hfl) (by simpa using hgl)
  rw [hnf] at hTimes
  simp only [List.length_map] at hTimes
  refine wskip ?_
  show AWp _ _ _ _ _
  refine wseq ?_
  refine wdrawI [(true,0),(true,2),(true,4),(true,5),(true,8),(true,9),(false,1),(false,3),(false,6),(false,7),(false,10),(true,11),(true,12),(false,13),(true,14)] ⟨by kernel_rfl,by kernel_rfl⟩ ([0,2,4,5,8,9,1] ++ ([3] ++ ([6] ++ ([7] ++ ([10] ++ ([11,12,13,14])))))) rfl fun K hK=>?_
  refine opsI_seg fun L hL=>?_
  simp [C.spec_MulLaurents]
  refine wcall1 (spec_l2Open_calls f (by omega) hdf) (by simp) (by simp) ?_
  simp [C.spec_MulLaurents]
  refine hL _ ?_;clear hL L
  refine opsI_seg fun L hL=>?_
  simp [C.spec_MulLaurents]
  refine wcall1 (spec_l2Open_calls g (by omega) hdg) (by simp) (by simp) ?_
  simp [C.spec_MulLaurents]
  refine hL _ ?_;clear hL L
  refine opsI_seg fun L hL=>?_
  simp [C.spec_MulLaurents]
  refine wcall1 (spec_l2Base_calls n hn8) (by simp;omega) (by simp) ?_
  simp [C.spec_MulLaurents]
  refine hL _ ?_;clear hL L
  refine opsI_seg fun L hL=>?_
  simp [C.spec_MulLaurents]
  refine wcall1 (hTimes) (by simp) (by simp) ?_
  simp [C.spec_MulLaurents]
  refine hL _ ?_;clear hL L
  refine opsI_seg fun L hL=>?_
  simp [C.spec_MulLaurents]
  refine wcall1 (l2Shut_calls T n hTl hTe hn8) (by simp;omega) (by simp) ?_
  simp [C.spec_MulLaurents]
  refine hL _ ?_;clear hL L
  refine opsI_end fun L hL=>?_
  simp [C.spec_MulLaurents]
  refine hL _ ?_;clear hL L
  simp [C.spec_MulLaurents]
  refine hK _ ?_;clear hK K
  show AWp _ _ _ _ _
  refine wret ?_
  simp [C.spec_MulLaurents]
  rw [hm,hn]
  by_cases hR:Right ⟨(n:Int),T⟩
  ·simp [hR,fO]
  ·simp [hR,fO]
theorem sMul_calls (f g:Lau) (hx:f.ts.length < 4611686018427387904) (hxe:∀ t∈f.ts,t.e.length < 4611686018427387904) (hy:g.ts.length < 4611686018427387904) (hye:∀ t∈g.ts,t.e.length < 4611686018427387904):ACalls Tryz.prog F.spec_MulLaurents [aF f,aF g] [] true (fun outs res=>outs=[]/\res=[.ag (fO (mulF f g).1),.one (D.bool (mulF f g).2)]):=(spec_MulLaurents_calls f g hx hxe hy hye).weak1
def oneF (n:Nat):Lau:=⟨n,[⟨List.replicate n 0,1⟩]⟩
theorem oneF_right {n:Nat} (h:1<=n/\n<=8):Right (oneF n):=by
 refine ⟨by simp only [oneF];omega,by simp [oneF],fun t ht=>?_,List.pairwise_singleton _ _⟩
 simp only [oneF,List.mem_singleton] at ht
 subst ht
 exact ⟨by simp [oneF],by simp,by simp,fun x hx=>by have:=List.eq_of_mem_replicate hx;omega⟩
end Go.Proofs.YtbhkonnakkhibaaGreat.Ab
namespace Go.Proofs.YtbhkonnakkhibaaGreat.Ab
open Go
set_option maxRecDepth 10000
set_option maxHeartbeats 2000000
end Go.Proofs.YtbhkonnakkhibaaGreat.Ab
namespace Go.Proofs.YtbhkonnakkhibaaGreat.Ab
open Go
set_option maxRecDepth 10000
set_option maxHeartbeats 2000000
attribute [local simp] mapKV flatInt tileB
def pad (e:List Int):List Int:=e ++ List.replicate (8 - e.length) 0
theorem pad_length {e:List Int} (h:e.length<=8):(pad e).length=8:=by
 unfold pad
 simp
 omega
theorem eight {l:List Int} (h:l.length=8):∃ a b c d e f g k,l=[a,b,c,d,e,f,g,k]:=by
 match l,h with
 | [a,b,c,d,e,f,g,k],_=>exact ⟨a,b,c,d,e,f,g,k,rfl⟩
def madd (es:List (List Int×Int)) (k:List Int) (c:Int):List (List Int×Int):=
 if c+(mget k es).getD 0=0 then mdel k es else mset k (c+(mget k es).getD 0) es
theorem impl_keyOf_calls (e:List Int) (he:e.length<=8) (k0 k1 k2 k3 k4 k5 k6 k7:Int) (hk:pad e=[k0,k1,k2,k3,k4,k5,k6,k7]):ACalls Tryz.prog F.impl_keyOf [.d (shI e)] [] true (fun outs res=>outs=[]/\res=[.ag [D.int k0,D.int k1,D.int k2,D.int k3,D.int k4,D.int k5,D.int k6,D.int k7]]):=by
 refine ACalls.of_body (C:=C.impl_keyOf) (n:=Tryz.f161.ntmps) tabT folT Tryz.func161 rfl (by kernel_rfl) rfl (Nat.le_of_ble_eq_true rfl) (by decide) (by kernel_rfl) (by kernel_rfl) rfl (by simp) (by simp) ?_
 simp only [Tryz.f161]
 refine wseq ?_
 refine wreg fun K hK=>?_
 simp [C.impl_keyOf]
 refine hK _ ?_;clear hK K
 show AWp _ _ _ _ _
 refine wseq ?_
 refine wreg fun K hK=>?_
 simp [C.impl_keyOf]
 refine hK _ ?_;clear hK K
 show AWp _ _ _ _ _
 refine wseq ?_
 have hcp:ints (e.take (min e.length 8)) ++ List.drop (min e.length 8) [D.int 0,D.int 0,D.int 0,D.int 0,D.int 0,D.int 0,D.int 0,D.int 0]=[D.int k0,D.int k1,D.int k2,D.int k3,D.int k4,D.int k5,D.int k6,D.int k7]:=by
  have hz:([D.int 0,D.int 0,D.int 0,D.int 0,D.int 0,D.int 0,D.int 0,D.int 0]:List D)=ints (List.replicate 8 0):=rfl
  rw [hz,Nat.min_eq_left he,List.take_length,ints_drop,ints_append,List.drop_replicate]
  show ints (pad e)=_
  rw [hk]
  rfl
 refine wreg fun K hK=>?_
 simp [C.impl_keyOf]
 rw [hcp]
 refine hK _ ?_;clear hK K
 show AWp _ _ _ _ _
 refine wseq ?_
 refine wreg fun K hK=>?_
 simp [C.impl_keyOf]
 refine hK _ ?_;clear hK K
 show AWp _ _ _ _ _
 refine wret ?_
 simp [C.impl_keyOf]
theorem impl_newBuilding_calls (v:Int):ACalls Tryz.prog F.impl_newBuilding [.int v] [] true (fun outs res=>outs=[]/\res=[.one (.bx [D.int v,.mp []])]):=by
 refine ACalls.of_body (C:=C.impl_newBuilding) (n:=Tryz.f92.ntmps) tabT folT Tryz.func92 rfl (by kernel_rfl) rfl (Nat.le_of_ble_eq_true rfl) (by decide) (by kernel_rfl) (by kernel_rfl) rfl (by simp) (by simp) ?_
 simp only [Tryz.f92]
 refine wseq ?_
 refine wreg fun K hK=>?_
 simp [C.impl_newBuilding]
 refine hK _ ?_;clear hK K
 show AWp _ _ _ _ _
 refine wseq ?_
 refine wreg fun K hK=>?_
 simp [C.impl_newBuilding]
 refine hK _ ?_;clear hK K
 show AWp _ _ _ _ _
 refine wret ?_
 simp [C.impl_newBuilding]
theorem impl_building_add_calls (v c:Int) (es:List (List Int×Int)) (k0 k1 k2 k3 k4 k5 k6 k7:Int) (hes:mapLen 8 es) (hw:-9223372036854775808<=c+(mget [k0,k1,k2,k3,k4,k5,k6,k7] es).getD 0/\c+(mget [k0,k1,k2,k3,k4,k5,k6,k7] es).getD 0 < 9223372036854775808):ACalls Tryz.prog F.impl_building_add [.pt (0,0) [] 0,.ag [.int k0,.int k1,.int k2,.int k3,.int k4,.int k5,.int k6,.int k7],.int c] [((0,0),.bx [D.int v,.mp es])] true (fun outs res=>outs=[.bx [D.int v,.mp (madd es [k0,k1,k2,k3,k4,k5,k6,k7] c)]]/\res=[]):=by
 refine ACalls.of_body (C:=C.impl_building_add) (n:=Tryz.f94.ntmps) tabT folT Tryz.func94 rfl (by kernel_rfl) rfl (Nat.le_of_ble_eq_true rfl) (by decide) (by kernel_rfl) (by kernel_rfl) rfl (by simp) (by simp) ?_
 simp only [Tryz.f94]
 refine wseq ?_
 refine wreg fun K hK=>?_
 simp [C.impl_building_add]
 refine hK _ ?_;clear hK K
 show AWp _ _ _ _ _
 refine wseq ?_
 refine wdraw (.take 0 (.take 1 (.take 2 (.take 3 (.take 4 (.take 5 (.take 6 (.take 7 (.take 8 (.done)))))))))) ⟨by kernel_rfl,by kernel_rfl⟩ fun K hK=>?_
 simp [C.impl_building_add,hes]
 rw [wrapOk (x:=c+(mget [k0,k1,k2,k3,k4,k5,k6,k7] es).getD 0) hw.1 hw.2]
 refine hK _ ?_;clear hK K
 show AWp _ _ _ _ _
 refine wseq ?_
 refine wreg fun K hK=>?_
 simp [C.impl_building_add]
 refine hK _ ?_;clear hK K
 show AWp _ _ _ _ _
 refine wcond _ rfl (fun hc1=>?_) (fun hc1=>?_)
 ·have hz:c+(mget [k0,k1,k2,k3,k4,k5,k6,k7] es).getD 0=0:=by simpa using hc1
  refine wdraw (.take 0 (.take 1 (.take 2 (.take 3 (.take 4 (.all [(5,.done)])))))) ⟨by kernel_rfl,by kernel_rfl⟩ fun K hK=>?_
  simp [C.impl_building_add,hes]
  refine hK _ ?_;clear hK K
  simp [C.impl_building_add,madd,hz]
 ·have hz:¬ c+(mget [k0,k1,k2,k3,k4,k5,k6,k7] es).getD 0=0:=by simpa using hc1
  refine wdraw (.take 0 (.take 1 (.take 2 (.take 3 (.take 4 (.take 5 (.all [(6,.done)]))))))) ⟨by kernel_rfl,by kernel_rfl⟩ fun K hK=>?_
  simp [C.impl_building_add,hes]
  refine hK _ ?_;clear hK K
  simp [C.impl_building_add,madd,hz]
theorem impl_plusExp_calls (t:Int) (a0 a1 a2 a3 a4 a5 a6 a7 b0 b1 b2 b3 b4 b5 b6 b7:Int) (ht:-1<=t/\t<=1) (ha:∀ x∈[a0,a1,a2,a3,a4,a5,a6,a7],-1000000<=x/\x<=1000000) (hb:∀ x∈[b0,b1,b2,b3,b4,b5,b6,b7],-1000000<=x/\x<=1000000):ACalls Tryz.prog F.impl_plusExp [.ag [.int a0,.int a1,.int a2,.int a3,.int a4,.int a5,.int a6,.int a7],.int t,.ag [.int b0,.int b1,.int b2,.int b3,.int b4,.int b5,.int b6,.int b7]] [] true (fun outs res=>outs=[]/\res=[.ag [D.int (a0+t*b0),D.int (a1+t*b1),D.int (a2+t*b2),D.int (a3+t*b3),D.int (a4+t*b4),D.int (a5+t*b5),D.int (a6+t*b6),D.int (a7+t*b7)]]):=by
 refine ACalls.of_body (C:=C.impl_plusExp) (n:=Tryz.f160.ntmps) tabT folT Tryz.func160 rfl (by kernel_rfl) rfl (Nat.le_of_ble_eq_true rfl) (by decide) (by kernel_rfl) (by kernel_rfl) rfl (by simp) (by simp) ?_
 simp only [Tryz.f160]
 refine wseq ?_
 refine wreg fun K hK=>?_
 simp [C.impl_plusExp]
 refine hK _ ?_;clear hK K
 show AWp _ _ _ _ _
 refine wseq ?_
 refine wseq ?_
 refine wreg fun K hK=>?_
 simp [C.impl_plusExp]
 refine hK _ ?_;clear hK K
 show AWp _ _ _ _ _
 refine wblock ?_
 refine wloop (fun x:Nat×List Int=>⟨ofL [(1,.int t),(3,.pt (3,0) [] 0),(5,.pt (5,0) [] 0),(6,.pt (6,0) [] 0),(8,.int x.1)],ofRO [((3,0),some (.bx (ints x.2))),((5,0),some (.bx (ints [b0,b1,b2,b3,b4,b5,b6,b7]))),((6,0),some (.bx (ints [0,0,0,0,0,0,0,0])))]⟩) (fun x=>x.1<=8/\x.2=addE t ([a0,a1,a2,a3,a4,a5,a6,a7].take x.1) ([b0,b1,b2,b3,b4,b5,b6,b7].take x.1) ++ [a0,a1,a2,a3,a4,a5,a6,a7].drop x.1) (fun x=>8 - x.1) (0,[a0,a1,a2,a3,a4,a5,a6,a7]) (by simp [C.impl_plusExp,ints]) (by simp [addE]) ?_
 intro x1 hx1 R1 hR1
 obtain ⟨i,gs⟩:=x1
 obtain ⟨hi,hg⟩:=hx1
 dsimp only at hi hg ⊢
 refine wseq ?_
 refine wreg fun K hK=>?_
 simp [C.impl_plusExp]
 refine hK _ ?_;clear hK K
 show AWp _ _ _ _ _
 refine wseq ?_
 refine wcond _ rfl (fun hc1=>?_) (fun hc1=>?_)
 ·have h1:i < 8:=by have:=d_t hc1;omega
  have hgl:gs.length=8:=by
   rw [hg]
   simp [addE_length]
   omega
  have h2:i < gs.length:=by omega
  have h3:i < [b0,b1,b2,b3,b4,b5,b6,b7].length:=by simpa using h1
  have h4:i < [a0,a1,a2,a3,a4,a5,a6,a7].length:=by simpa using h1
  have hge:gs[i]=[a0,a1,a2,a3,a4,a5,a6,a7][i]:=by
   have:=addE_get (t:=t) h4 (show [a0,a1,a2,a3,a4,a5,a6,a7].length=[b0,b1,b2,b3,b4,b5,b6,b7].length from rfl)
   rw [← hg,List.getElem?_eq_getElem h2] at this
   injection this
  have hA:=ha _ (List.getElem_mem h4)
  have hB:=hb _ (List.getElem_mem h3)
  generalize hbi:[b0,b1,b2,b3,b4,b5,b6,b7][i]=B at hB
  generalize hai:[a0,a1,a2,a3,a4,a5,a6,a7][i]=A at hA hge
  have htb:-1000000<=t*B/\t*B<=1000000:=by
   rcases (show t=-1\/t=0\/t=1 by omega) with rfl | rfl | rfl <;> omega
  refine wskip ?_
  show AWp _ _ _ _ _
  refine wseq ?_
  refine wblock ?_
  refine wseq ?_
  refine wreg fun K hK=>?_
  simp [C.impl_plusExp]
  refine hK _ ?_;clear hK K
  show AWp _ _ _ _ _
  refine wdraw (.take 0 (.take 1 (.take 2 (.take 3 (.take 4 (.take 5 (.take 6 (.take 7 (.take 8 (.take 9 (.all [(10,.done)]))))))))))) ⟨by kernel_rfl,by kernel_rfl⟩ fun K hK=>?_
  simp [C.impl_plusExp,show ((i:Int) < 8) by omega,h1,hgl,get_ints]
  rw [hbi,hge,wrapOk (x:=t*B) (by omega) (by omega),wrapOk (x:=A+t*B) (by omega) (by omega)]
  refine hK _ ?_;clear hK K
  show AWp _ _ _ _ _
  refine wreg fun K hK=>?_
  simp [C.impl_plusExp,wrap_succ (show i < 4611686018427387904 by omega)]
  refine hK _ ?_;clear hK K
  simp [C.impl_plusExp]
  refine hR1 (i+1,_) ⟨h1,?_⟩ (by dsimp only;omega)
  dsimp only
  rw [hg,← hai,← hbi]
  exact addE_step (bs:=[b0,b1,b2,b3,b4,b5,b6,b7]) h4 rfl
 ·have h1:i=8:=by have:=d_f hc1;omega
  subst h1
  have hg2:gs=[a0+t*b0,a1+t*b1,a2+t*b2,a3+t*b3,a4+t*b4,a5+t*b5,a6+t*b6,a7+t*b7]:=by rw [hg];rfl
  subst hg2
  refine wexit ?_
  show AWp _ _ _ _ _
  refine wseq ?_
  refine wreg fun K hK=>?_
  simp [C.impl_plusExp,ints]
  refine hK _ ?_;clear hK K
  show AWp _ _ _ _ _
  refine wret ?_
  simp [C.impl_plusExp]
end Go.Proofs.YtbhkonnakkhibaaGreat.Ab
namespace Go.Proofs.YtbhkonnakkhibaaGreat.Ab
open Go
set_option maxRecDepth 10000
set_option maxHeartbeats 2000000
def MulOk:Prop:=∀ f g:Lau,f.ts.length < 4611686018427387904->(∀ t∈f.ts,t.e.length < 4611686018427387904)->g.ts.length < 4611686018427387904->(∀ t∈g.ts,t.e.length < 4611686018427387904) ->
 ACalls Tryz.prog F.impl_MulLaurents [aF f,aF g] [] true (fun outs res=>outs=[]/\res=[.ag (fO (mulF f g).1),.one (D.bool (mulF f g).2)])
theorem impl_ConstantLaurent_calls (n:Nat) (hn:1<=n/\n<=8):ACalls Tryz.prog F.impl_ConstantLaurent [.int n,.int 1] [] true (fun outs res=>outs=[]/\res=[.ag (fO (oneF n))]):=by
 refine ACalls.of_body (C:=C.impl_ConstantLaurent) (n:=Tryz.f63.ntmps) tabT folT Tryz.func63 rfl (by kernel_rfl) rfl (Nat.le_of_ble_eq_true rfl) (by decide) (by kernel_rfl) (by kernel_rfl) rfl (by simp) (by simp) ?_
 simp only [Tryz.f63]
 refine wseq ?_
 refine wreg fun K hK=>?_
 simp [C.impl_ConstantLaurent]
 refine hK _ ?_;clear hK K
 show AWp _ _ _ _ _
 refine wseq ?_
 refine wseq ?_
 refine wregI ([0,1] ++ ([2,3,4,5] ++ ([6,7]))) rfl fun K hK=>?_
 refine opsI_seg fun L hL=>?_
 simp [C.impl_ConstantLaurent,show (1<=(n:Int)) by omega,show ((n:Int)<=8) by omega]
 refine wcall1 (impl_within_calls n 1 8) (by simp) (by simp) ?_
 simp [C.impl_ConstantLaurent,show (1<=(n:Int)) by omega,show ((n:Int)<=8) by omega]
 refine hL _ ?_;clear hL L
 refine opsI_seg fun L hL=>?_
 simp [C.impl_ConstantLaurent,show (1<=(n:Int)) by omega,show ((n:Int)<=8) by omega]
 refine wcall1 (impl_within_calls 1 (-1000000) 1000000) (by simp) (by simp) ?_
 simp [C.impl_ConstantLaurent,show (1<=(n:Int)) by omega,show ((n:Int)<=8) by omega]
 refine hL _ ?_;clear hL L
 refine opsI_end fun L hL=>?_
 simp [C.impl_ConstantLaurent,show (1<=(n:Int)) by omega,show ((n:Int)<=8) by omega]
 refine hL _ ?_;clear hL L
 simp [C.impl_ConstantLaurent,show (1<=(n:Int)) by omega,show ((n:Int)<=8) by omega]
 refine hK _ ?_;clear hK K
 show AWp _ _ _ _ _
 refine wcond _ rfl (fun hc1=>?_) (fun hc1=>?_)
 ·simp at hc1
 ·refine wskip ?_
  show AWp _ _ _ _ _
  refine wseq ?_
  refine wseq ?_
  refine wreg fun K hK=>?_
  simp [C.impl_ConstantLaurent]
  refine hK _ ?_;clear hK K
  show AWp _ _ _ _ _
  refine wcond _ rfl (fun hc2=>?_) (fun hc2=>?_)
  ·simp at hc2
  ·refine wskip ?_
   show AWp _ _ _ _ _
   refine wseq ?_
   refine wreg fun K hK=>?_
   simp [C.impl_ConstantLaurent,zeros_ints,show (8:Int)*n<=281474976710656 by omega,show (n:Int)<=281474976710656 by omega]
   refine hK _ ?_;clear hK K
   show AWp _ _ _ _ _
   refine wret ?_
   simp [C.impl_ConstantLaurent,fO,oneF,rows,tO]
end Go.Proofs.YtbhkonnakkhibaaGreat.Ab
namespace Go.Proofs.YtbhkonnakkhibaaGreat.Ab
open Go
set_option linter.unusedSectionVars false
theorem pad_inj {a b:List Int} (h:a.length=b.length) (e:pad a=pad b):a=b:=by
 unfold pad at e
 rw [h] at e
 exact List.append_cancel_right e
theorem pad_take {e:List Int}:(pad e).take e.length=e:=by
 unfold pad
 exact List.take_left
theorem mget_none {k:List Int}:∀ {es:List (List Int×Int)},(∀ x∈es,x.1≠k)->mget k es=none
 | [],_=>rfl
 | x :: es,h=>by
  simp only [mget]
  rw [if_neg (h x (by simp))]
  exact mget_none fun y hy=>h y (by simp [hy])
theorem mget_mset {k q:List Int} {v:Int}:∀ (es:List (List Int×Int)),mget q (mset k v es)=if k=q then some v else mget q es
 | []=>by simp [mset,mget]
 | x :: es=>by
  simp only [mset]
  split
  ·rename_i e
   subst e
   simp only [mget]
   split <;> rfl
  ·rename_i e
   simp only [mget,mget_mset es]
   by_cases h1:x.1=q
   ·rw [if_pos h1,if_neg (fun h2=>e (h1.trans h2.symm)),if_pos h1]
   ·rw [if_neg h1,if_neg h1]
theorem mget_mdel {k q:List Int}:∀ (es:List (List Int×Int)),(es.map (·.1)).Nodup->mget q (mdel k es)=if k=q then none else mget q es
 | [],_=>by simp [mdel,mget]
 | x :: es,h=>by
  simp only [List.map_cons,List.nodup_cons] at h
  simp only [mdel]
  split
  ·rename_i e
   subst e
   by_cases h1:x.1=q
   ·rw [if_pos h1]
    exact mget_none fun y hy e2=>h.1 (by rw [h1,← e2];exact List.mem_map.2 ⟨y,hy,rfl⟩)
   ·rw [if_neg h1]
    simp only [mget]
    rw [if_neg h1]
  ·rename_i e
   simp only [mget,mget_mdel es h.2]
   by_cases h1:x.1=q
   ·rw [if_pos h1,if_neg (fun h2=>e (h1.trans h2.symm)),if_pos h1]
   ·rw [if_neg h1,if_neg h1]
theorem mset_mem {k:List Int} {v:Int}:∀ {es:List (List Int×Int)} {x:List Int×Int},x∈mset k v es->x=(k,v)\/x∈es
 | [],x,h=>by
  simp only [mset,List.mem_singleton] at h
  exact .inl h
 | y :: es,x,h=>by
  simp only [mset] at h
  split at h
  ·rcases List.mem_cons.1 h with h | h
   ·exact .inl h
   ·exact .inr (by simp [h])
  ·rcases List.mem_cons.1 h with h | h
   ·exact .inr (by simp [h])
   ·rcases mset_mem h with h | h
    ·exact .inl h
    ·exact .inr (by simp [h])
theorem mdel_mem {k:List Int}:∀ {es:List (List Int×Int)} {x:List Int×Int},x∈mdel k es->x∈es
 | [],x,h=>by simp [mdel] at h
 | y :: es,x,h=>by
  simp only [mdel] at h
  split at h
  ·simp [h]
  ·rcases List.mem_cons.1 h with h | h
   ·simp [h]
   ·simp [mdel_mem h]
theorem mset_nodup {k:List Int} {v:Int}:∀ {es:List (List Int×Int)},(es.map (·.1)).Nodup->((mset k v es).map (·.1)).Nodup
 | [],_=>by simp [mset]
 | y :: es,h=>by
  simp only [List.map_cons,List.nodup_cons] at h
  simp only [mset]
  split
  ·rename_i e
   simp only [List.map_cons,List.nodup_cons]
   rw [← e]
   exact h
  ·rename_i e
   simp only [List.map_cons,List.nodup_cons]
   refine ⟨fun hm=>?_,mset_nodup h.2⟩
   obtain ⟨z,hz,e2⟩:=List.mem_map.1 hm
   rcases mset_mem hz with rfl | hz
   ·exact e e2.symm
   ·exact h.1 (List.mem_map.2 ⟨z,hz,e2⟩)
theorem mdel_nodup {k:List Int}:∀ {es:List (List Int×Int)},(es.map (·.1)).Nodup->((mdel k es).map (·.1)).Nodup
 | [],_=>by simp [mdel]
 | y :: es,h=>by
  simp only [List.map_cons,List.nodup_cons] at h
  simp only [mdel]
  split
  ·exact h.2
  ·simp only [List.map_cons,List.nodup_cons]
   refine ⟨fun hm=>?_,mdel_nodup h.2⟩
   obtain ⟨z,hz,e2⟩:=List.mem_map.1 hm
   exact h.1 (List.mem_map.2 ⟨z,mdel_mem hz,e2⟩)
structure MapR (n:Nat) (es l:List (List Int×Int)):Prop where
 nod:(es.map (·.1)).Nodup
 nz:∀ x∈es,x.2≠0/\∃ e,e.length=n/\x.1=pad e
 val:∀ e,e.length=n->(mget (pad e) es).getD 0=co e l
theorem MapR.nil (n:Nat):MapR n [] []:=⟨by simp,by simp,fun e _=>rfl⟩
theorem MapR.add {n:Nat} {es l:List (List Int×Int)} (h:MapR n es l) {e:List Int} (he:e.length=n) (c:Int):MapR n (madd es (pad e) c) ((e,c) :: l):=by
 have hv:=h.val e he
 unfold madd
 split
 ·rename_i hz
  refine ⟨mdel_nodup h.nod,fun x hx=>h.nz x (mdel_mem hx),fun q hq=>?_⟩
  rw [mget_mdel _ h.nod]
  by_cases e1:e=q
  ·subst e1
   rw [if_pos rfl]
   simp only [co,if_true,Option.getD_none]
   omega
  ·rw [if_neg (fun e2=>e1 (pad_inj (he.trans hq.symm) e2)),h.val q hq]
   simp [co,e1]
 ·rename_i hz
  refine ⟨mset_nodup h.nod,fun x hx=>?_,fun q hq=>?_⟩
  ·rcases mset_mem hx with rfl | hx
   ·exact ⟨hz,e,he,rfl⟩
   ·exact h.nz x hx
  ·rw [mget_mset]
   by_cases e1:e=q
   ·subst e1
    rw [if_pos rfl]
    simp only [co,if_true,Option.getD_some]
    omega
   ·rw [if_neg (fun e2=>e1 (pad_inj (he.trans hq.symm) e2)),h.val q hq]
    simp [co,e1]
theorem MapR.len8 {n:Nat} {es l:List (List Int×Int)} (h:MapR n es l) (hn:n<=8):mapLen 8 es:=fun x hx=>by
 obtain ⟨_,e,he,e2⟩:=h.nz x hx
 rw [e2]
 exact pad_length (by omega)
def unpadT (n:Nat) (x:List Int×Int):List Int×Int:=(x.1.take n,x.2)
theorem unpad_co {n:Nat} {es l:List (List Int×Int)} (h:MapR n es l) (hl:∀ x∈l,x.1.length=n):∀ q,co q (es.map (unpadT n))=co q l:=by
 intro q
 by_cases hq:q.length=n
 ·rw [← h.val q hq]
  have:∀ (es:List (List Int×Int)),(es.map (·.1)).Nodup->(∀ x∈es,∃ e,e.length=n/\x.1=pad e)->co q (es.map (unpadT n))=(mget (pad q) es).getD 0:=by
   intro es
   induction es with
   | nil=>intro _ _;rfl
   | cons x es ih=>
    intro hn hp
    simp only [List.map_cons,List.nodup_cons] at hn
    obtain ⟨e,he,e2⟩:=hp x (by simp)
    have ht:(unpadT n x).1=e:=by
     simp only [unpadT]
     rw [e2,← he]
     exact pad_take
    simp only [List.map_cons,co,mget]
    rw [ih hn.2 fun y hy=>hp y (by simp [hy]),ht]
    by_cases e3:e=q
    ·subst e3
     rw [if_pos rfl,if_pos e2,mget_none fun y hy e4=>hn.1 (by rw [e2,← e4];exact List.mem_map.2 ⟨y,hy,rfl⟩)]
     simp [unpadT]
    ·rw [if_neg e3,if_neg (fun e4=>e3 (pad_inj (he.trans hq.symm) (e2.symm.trans e4)))]
     simp
  exact this es h.nod fun x hx=>(h.nz x hx).2
 ·rw [co_none q l fun x hx e=>hq (e ▸ hl x hx),co_none q _ fun x hx e=>hq ?_]
  obtain ⟨y,hy,rfl⟩:=List.mem_map.1 hx
  obtain ⟨_,e',he',e2⟩:=h.nz y hy
  rw [← e]
  simp only [unpadT]
  rw [e2,← he',pad_take]
theorem unpad_nf {n:Nat} {es l t:List (List Int×Int)} (h:MapR n es l) (hl:∀ x∈l,x.1.length=n) (hp:t.Perm (es.map (unpadT n))) (hd:Desc lexlt t):t=nf lexlt l:=by
 refine nf_unique lexOrd hd (fun x hx=>?_) fun k=>by rw [co_perm k hp,unpad_co h hl]
 obtain ⟨y,hy,rfl⟩:=List.mem_map.1 (hp.mem_iff.1 hx)
 exact (h.nz y hy).1
end Go.Proofs.YtbhkonnakkhibaaGreat.Ab
namespace Go.Proofs.YtbhkonnakkhibaaGreat.Ab
open Go
set_option maxRecDepth 10000
set_option maxHeartbeats 2000000
def DoneOk:Prop:=∀ (n:Nat) (es l:List (List Int×Int)),MapR n es l->(∀ x∈l,x.1.length=n)->1<=n->n<=8->l.length<=1000000 ->
 ACalls Tryz.prog F.impl_building_done [.pt (0,0) [] 0] [((0,0),.bx [D.int n,.mp es])] true (fun outs res=>outs=[.bx [D.int n,.mp es]]/\res=[.ag (fO (shutF n l).1),.one (D.bool (shutF n l).2)])
theorem pad_add {a b:List Int} (h:a.length=b.length) (k:Int):addE k (pad a) (pad b)=pad (addE k a b):=by
 unfold pad
 rw [addE_length _ _ _ h,← h]
 generalize 8 - a.length=m
 induction a generalizing b with
 | nil=>cases b with
  | nil=>
   simp only [addE,List.nil_append]
   induction m with
   | zero=>rfl
   | succ m ih=>simp [List.replicate_succ,addE,ih]
  | cons y b=>simp at h
 | cons x a ih=>cases b with
  | nil=>simp at h
  | cons y b=>simp [addE,ih (by simpa using h)]
def absE (l:List (List Int×Int)):Nat:=(l.map fun x=>x.2.natAbs).sum
theorem co_abs (k:List Int):∀ l:List (List Int×Int),(co k l).natAbs<=absE l
 | []=>by simp [co]
 | x :: l=>by
  have:=co_abs k l
  simp only [co,absE,List.map_cons,List.sum_cons] at this ⊢
  split <;> omega
theorem nf_perm {l r:List (List Int×Int)} (h:l.Perm r):nf lexlt l=nf lexlt r:=
 nf_unique lexOrd (nf_desc lexOrd l) (nf_nz l) fun k=>by rw [nf_co,co_perm k h]
theorem shutF_perm {l r:List (List Int×Int)} (h:l.Perm r) (v:Int):shutF v l=shutF v r:=by
 unfold shutF
 rw [nf_perm h]
theorem prodL_step {a b:List (List Int×Int)} {i:Nat} (h:i < a.length):prodL (a.take (i+1)) b=prodL (a.take i) b ++ b.map fun y=>(addE 1 a[i].1 y.1,a[i].2*y.2):=by
 unfold prodL
 rw [List.take_succ_eq_append_getElem h,List.flatMap_append]
 simp
theorem absB {a i j:Nat} (h:a<=(i*600+j)*1000000000000) (hj:j<=600):a<=((i+1)*600)*1000000000000:=
 Nat.le_trans h (Nat.mul_le_mul_right _ (by omega))
theorem natAbs_bd {c:Int} (h:-1000000000000<=c/\c<=1000000000000):c.natAbs<=1000000000000:=by omega
theorem pad_bd {e:List Int} (h:∀ x∈e,-20<=x/\x<=20):∀ x∈pad e,-1000000<=x/\x<=1000000:=fun x hx=>by
 unfold pad at hx
 rcases List.mem_append.1 hx with hx | hx
 ·have:=h x hx;omega
 ·have:=List.eq_of_mem_replicate hx;omega
theorem impl_MulLaurents_calls (hDone:DoneOk) (f g:Lau) (hx:f.ts.length < 4611686018427387904) (hxe:∀ t∈f.ts,t.e.length < 4611686018427387904) (hy:g.ts.length < 4611686018427387904) (hye:∀ t∈g.ts,t.e.length < 4611686018427387904):ACalls Tryz.prog F.impl_MulLaurents [aF f,aF g] [] true (fun outs res=>outs=[]/\WkRs res [.ag (fO (mulF f g).1),.one (D.bool (mulF f g).2)]):=by
 refine ACalls.of_body (C:=C.impl_MulLaurents) (n:=Tryz.f85.ntmps) tabT folT Tryz.func85 rfl (by kernel_rfl) rfl (Nat.le_of_ble_eq_true rfl) (by decide) (by kernel_rfl) (by kernel_rfl) rfl (by simp) (by simp) ?_
 simp only [Tryz.f85]
 refine wseq ?_
 refine wreg fun K hK=>?_
 simp [C.impl_MulLaurents,fS]
 refine hK _ ?_;clear hK K
 show AWp _ _ _ _ _
 refine wseq ?_
 refine wseq ?_
 refine wregI ([0,1,2] ++ ([3])) rfl fun K hK=>?_
 refine opsI_seg fun L hL=>?_
 simp [C.impl_MulLaurents,fS]
 refine wcall1 (impl_bothOk_calls f g hx hxe hy hye) (by simp) (by simp) ?_
 simp [C.impl_MulLaurents,fS]
 refine hL _ ?_;clear hL L
 refine opsI_end fun L hL=>?_
 simp [C.impl_MulLaurents,fS]
 refine hL _ ?_;clear hL L
 simp [C.impl_MulLaurents,fS]
 refine hK _ ?_;clear hK K
 show AWp _ _ _ _ _
 refine wcond _ rfl (fun hc1=>?_) (fun hc1=>?_)
 ·have hr:¬ (Right f/\Right g/\f.v=g.v):=by
   intro ⟨q1,q2,q3⟩
   simp [q1,q2,q3] at hc1
  have hm:mulF f g=(zeroF,false):=if_neg hr
  refine wseq ?_
  refine wreg fun K hK=>?_
  simp [C.impl_MulLaurents,fS]
  refine hK _ ?_;clear hK K
  show AWp _ _ _ _ _
  refine wret ?_
  simp [C.impl_MulLaurents,fS,hm,fO,zeroF,rows]
 ·have hr:Right f/\Right g/\f.v=g.v:=by simpa using hc1
  obtain ⟨hf,hg,hfg⟩:=hr
  have hv:=hf.1
  obtain ⟨n,hn⟩:∃ n:Nat,f.v=n:=⟨f.v.toNat,by omega⟩
  have hn2:g.v=n:=by omega
  have hn8:n<=8:=by omega
  have hfl:=hf.2.1
  have hgl:=hg.2.1
  have hm:mulF f g=shutF n (prodL (f.ts.map pr) (g.ts.map pr)):=by
   unfold mulF
   rw [if_pos ⟨hf,hg,hfg⟩,hn]
  refine wskip ?_
  show AWp _ _ _ _ _
  refine wseq ?_
  refine wregI ([0,1,2] ++ ([3])) rfl fun K hK=>?_
  refine opsI_seg fun L hL=>?_
  simp [C.impl_MulLaurents,fS,hn]
  refine wcall1 (impl_newBuilding_calls n) (by simp) (by simp) ?_
  simp [C.impl_MulLaurents,fS,hn]
  refine hL _ ?_;clear hL L
  refine opsI_end fun L hL=>?_
  simp [C.impl_MulLaurents,fS,hn]
  refine hL _ ?_;clear hL L
  simp [C.impl_MulLaurents,fS,hn]
  refine hK _ ?_;clear hK K
  show AWp _ _ _ _ _
  refine wseq ?_
  refine wseq ?_
  refine wreg fun K hK=>?_
  simp [C.impl_MulLaurents,fS]
  refine hK _ ?_;clear hK K
  show AWp _ _ _ _ _
  refine wblock ?_
  refine wloop (fun x:Nat×List (List Int×Int)×List (List Int×Int)=>⟨ofL [(3,.pt (3,0) [] 0),(4,.pt (4,0) [] 0),(6,.pt (6,0) [] 0),(20,.d (.sh 2 f.ts.length (rows tS f.ts))),(21,.int f.ts.length),(22,.int x.1)],ofRO [((3,0),some (.bx (fS g))),((4,0),some (.bx [D.int 0,.v (.slice none 0 0)])),((6,0),some (.bx [D.int n,.mp x.2.1]))]⟩) (fun x=>x.1<=f.ts.length/\MapR n x.2.1 x.2.2/\x.2.2.Perm (prodL ((f.ts.map pr).take x.1) (g.ts.map pr))/\x.2.2.length<=x.1*600/\absE x.2.2<=(x.1*600)*1000000000000) (fun x=>f.ts.length - x.1) (0,[],[]) (by simp [C.impl_MulLaurents,fS]) ⟨by simp,MapR.nil n,by simp [prodL],by simp,by simp [absE]⟩ ?_
  intro x1 hx1 R1 hR1
  obtain ⟨i,es,l⟩:=x1
  obtain ⟨hi,hM,hP,hL,hA⟩:=hx1
  dsimp only at hi hM hP hL hA ⊢
  refine wseq ?_
  refine wreg fun K hK=>?_
  simp [C.impl_MulLaurents,fS]
  refine hK _ ?_;clear hK K
  show AWp _ _ _ _ _
  refine wseq ?_
  refine wcond _ rfl (fun hc2=>?_) (fun hc2=>?_)
  ·have hif:i < f.ts.length:=by have:=d_t hc2;omega
   have hT:=right_dig hf hn _ (List.getElem_mem hif)
   refine wskip ?_
   show AWp _ _ _ _ _
   refine wseq ?_
   refine wblock ?_
   refine wseq ?_
   refine wreg fun K hK=>?_
   simp [C.impl_MulLaurents,fS,hif,tS_0 hif,tS_1 hif]
   refine hK _ ?_;clear hK K
   show AWp _ _ _ _ _
   refine wseq ?_
   refine wreg fun K hK=>?_
   simp [C.impl_MulLaurents,fS]
   refine hK _ ?_;clear hK K
   show AWp _ _ _ _ _
   refine wblock ?_
   refine wloop (fun x:Nat×List (List Int×Int)×List (List Int×Int)=>⟨ofL [(3,.pt (3,0) [] 0),(4,.pt (4,0) [] 0),(6,.pt (6,0) [] 0),(8,.pt (8,0) [] 0),(20,.d (.sh 2 f.ts.length (rows tS f.ts))),(21,.int f.ts.length),(22,.int i),(27,.d (.sh 2 g.ts.length (rows tS g.ts))),(28,.int g.ts.length),(29,.int x.1)],ofRO [((3,0),some (.bx (fS g))),((4,0),some (.bx [D.int 0,.v (.slice none 0 0)])),((6,0),some (.bx [D.int n,.mp x.2.1])),((8,0),some (.bx (tS f.ts[i])))]⟩) (fun x=>x.1<=g.ts.length/\MapR n x.2.1 x.2.2/\x.2.2.Perm (prodL ((f.ts.map pr).take i) (g.ts.map pr) ++ ((g.ts.map pr).take x.1).map fun y=>(addE 1 f.ts[i].e y.1,f.ts[i].c*y.2))/\x.2.2.length<=i*600+x.1/\absE x.2.2<=(i*600+x.1)*1000000000000) (fun x=>g.ts.length - x.1) (0,es,l) (by simp [C.impl_MulLaurents,fS,tS]) ⟨by simp,hM,by simpa using hP,by dsimp only;omega,by dsimp only;omega⟩ ?_
   intro x2 hx2 R2 hR2
   obtain ⟨j,es2,l2⟩:=x2
   obtain ⟨hj,hM2,hP2,hL2,hA2⟩:=hx2
   dsimp only at hj hM2 hP2 hL2 hA2 ⊢
   refine wseq ?_
   refine wreg fun K hK=>?_
   simp [C.impl_MulLaurents,fS]
   refine hK _ ?_;clear hK K
   show AWp _ _ _ _ _
   refine wseq ?_
   refine wcond _ rfl (fun hc3=>?_) (fun hc3=>?_)
   ·have hjg:j < g.ts.length:=by have:=d_t hc3;omega
    have hU:=right_dig hg hn2 _ (List.getElem_mem hjg)
    refine wskip ?_
    show AWp _ _ _ _ _
    refine wseq ?_
    refine wblock ?_
    refine wseq ?_
    refine wreg fun K hK=>?_
    simp [C.impl_MulLaurents,fS,hjg,tS_0 hjg,tS_1 hjg]
    refine hK _ ?_;clear hK K
    show AWp _ _ _ _ _
    obtain ⟨a0,a1,a2,a3,a4,a5,a6,a7,hpa⟩:=eight (pad_length (e:=f.ts[i].e) (by omega))
    obtain ⟨b0,b1,b2,b3,b4,b5,b6,b7,hpb⟩:=eight (pad_length (e:=g.ts[j].e) (by omega))
    have hba:=pad_bd hT.2.2.1
    have hbb:=pad_bd hU.2.2.1
    rw [hpa] at hba
    rw [hpb] at hbb
    have hadd:[a0+b0,a1+b1,a2+b2,a3+b3,a4+b4,a5+b5,a6+b6,a7+b7]=pad (addE 1 f.ts[i].e g.ts[j].e):=by
     rw [← pad_add (by omega),hpa,hpb]
     simp [addE]
    have hel:(addE 1 f.ts[i].e g.ts[j].e).length=n:=by rw [addE_length _ _ _ (by omega)];omega
    have hcc:=mul_bd hT.2.2.2 hU.2.2.2
    have hval:=hM2.val _ hel
    have hco:=co_abs (addE 1 f.ts[i].e g.ts[j].e) l2
    refine wdrawI [(true,0),(true,1),(true,2),(true,4),(true,5),(true,8),(true,9),(true,10),(true,11),(true,12),(false,3),(false,6),(false,7),(false,13)] ⟨by kernel_rfl,by kernel_rfl⟩ ([0,1,2,4,5,8,9,10,11,12,3] ++ ([6] ++ ([7] ++ ([13] ++ ([]))))) rfl fun K hK=>?_
    refine opsI_seg fun L hL=>?_
    simp [C.impl_MulLaurents,fS,tS,wrapOk (x:=f.ts[i].c*g.ts[j].c) (by omega) (by omega)]
    refine wcall1 (impl_keyOf_calls f.ts[i].e (by omega) a0 a1 a2 a3 a4 a5 a6 a7 hpa) (by simp) (by simp) ?_
    simp [C.impl_MulLaurents,fS,tS,wrapOk (x:=f.ts[i].c*g.ts[j].c) (by omega) (by omega)]
    refine hL _ ?_;clear hL L
    refine opsI_seg fun L hL=>?_
    simp [C.impl_MulLaurents,fS,tS,wrapOk (x:=f.ts[i].c*g.ts[j].c) (by omega) (by omega)]
    refine wcall1 (impl_keyOf_calls g.ts[j].e (by omega) b0 b1 b2 b3 b4 b5 b6 b7 hpb) (by simp) (by simp) ?_
    simp [C.impl_MulLaurents,fS,tS,wrapOk (x:=f.ts[i].c*g.ts[j].c) (by omega) (by omega)]
    refine hL _ ?_;clear hL L
    refine opsI_seg fun L hL=>?_
    simp [C.impl_MulLaurents,fS,tS,wrapOk (x:=f.ts[i].c*g.ts[j].c) (by omega) (by omega)]
    refine wcall1 (impl_plusExp_calls 1 a0 a1 a2 a3 a4 a5 a6 a7 b0 b1 b2 b3 b4 b5 b6 b7 (by omega) hba hbb) (by simp) (by simp) ?_
    simp [C.impl_MulLaurents,fS,tS,wrapOk (x:=f.ts[i].c*g.ts[j].c) (by omega) (by omega)]
    refine hL _ ?_;clear hL L
    refine opsI_seg fun L hL=>?_
    simp [C.impl_MulLaurents,fS,tS,wrapOk (x:=f.ts[i].c*g.ts[j].c) (by omega) (by omega)]
    refine wcall1 (impl_building_add_calls n (f.ts[i].c*g.ts[j].c) es2 (a0+1*b0) (a1+1*b1) (a2+1*b2) (a3+1*b3) (a4+1*b4) (a5+1*b5) (a6+1*b6) (a7+1*b7) (hM2.len8 hn8) (by simp only [Int.one_mul];rw [hadd,hval];omega)) (by simp) (by simp) ?_
    simp [C.impl_MulLaurents,fS,tS,wrapOk (x:=f.ts[i].c*g.ts[j].c) (by omega) (by omega)]
    refine hL _ ?_;clear hL L
    refine opsI_end fun L hL=>?_
    simp only [AOpsI]
    refine hL _ ?_;clear hL L
    simp [C.impl_MulLaurents,fS,tS,wrapOk (x:=f.ts[i].c*g.ts[j].c) (by omega) (by omega)]
    rw [hadd]
    refine hK _ ?_;clear hK K
    show AWp _ _ _ _ _
    refine wreg fun K hK=>?_
    simp [C.impl_MulLaurents,fS,wrap_succ (show j < 4611686018427387904 by omega)]
    refine hK _ ?_;clear hK K
    simp [C.impl_MulLaurents,fS]
    refine hR2 (j+1,_,(addE 1 f.ts[i].e g.ts[j].e,f.ts[i].c*g.ts[j].c) :: l2) ⟨hjg,hM2.add hel _,?_,by dsimp only [List.length_cons];omega,?_⟩ (by dsimp only;omega)
    ·dsimp only
     rw [List.take_succ_eq_append_getElem (by simpa using hjg),List.map_append,← List.append_assoc]
     refine (List.Perm.cons _ hP2).trans ?_
     simp only [List.getElem_map,List.map_cons,List.map_nil,pr]
     exact (List.perm_append_singleton _ _).symm
    ·have:=natAbs_bd hcc
     simp only [absE,List.map_cons,List.sum_cons] at hA2 ⊢
     omega
   ·have hjg:j=g.ts.length:=by have:=d_f hc3;omega
    refine wexit ?_
    show AWp _ _ _ _ _
    refine wreg fun K hK=>?_
    simp [C.impl_MulLaurents,fS,wrap_succ (show i < 4611686018427387904 by omega)]
    refine hK _ ?_;clear hK K
    simp [C.impl_MulLaurents,fS]
    refine hR1 (i+1,es2,l2) ⟨hif,hM2,?_,by dsimp only;omega,absB hA2 (by omega)⟩ (by dsimp only;omega)
    dsimp only
    rw [prodL_step (by simpa using hif)]
    refine hP2.trans (List.Perm.of_eq ?_)
    rw [List.take_of_length_le (l:=g.ts.map pr) (by simp;omega)]
    simp [pr]
  ·have hif:i=f.ts.length:=by have:=d_f hc2;omega
   have hall:l.Perm (prodL (f.ts.map pr) (g.ts.map pr)):=by
    rw [List.take_of_length_le (l:=f.ts.map pr) (by simp;omega)] at hP
    exact hP
   have hlen:∀ x∈l,x.1.length=n:=fun x hx=>by
    have:=hall.subset hx
    simp only [prodL,List.mem_flatMap,List.mem_map] at this
    obtain ⟨a,⟨t,ht,rfl⟩,b,⟨u,hu,rfl⟩,rfl⟩:=this
    have h1:=right_dig hf hn t ht
    have h2:=right_dig hg hn2 u hu
    simp only [pr]
    rw [addE_length _ _ _ (by omega)]
    omega
   have hs:=shutF_perm hall n
   refine wexit ?_
   show AWp _ _ _ _ _
   refine wseq ?_
   refine wregI ([0,1] ++ ([2,3,4,5])) rfl fun K hK=>?_
   refine opsI_seg fun L hL=>?_
   simp [C.impl_MulLaurents,fS,fO]
   refine wcall1 (hDone n es l hM hlen (by omega) hn8 (by omega)) (by simp) (by simp) ?_
   simp [C.impl_MulLaurents,fS,fO]
   refine hL _ ?_;clear hL L
   refine opsI_end fun L hL=>?_
   simp [C.impl_MulLaurents,fS,fO]
   refine hL _ ?_;clear hL L
   simp [C.impl_MulLaurents,fS,fO]
   refine hK _ ?_;clear hK K
   show AWp _ _ _ _ _
   refine wret ?_
   simp [C.impl_MulLaurents,fS,hm,← hs,fO]
theorem iMul_calls (hDone:DoneOk):MulOk:=fun f g hx hxe hy hye=>(impl_MulLaurents_calls hDone f g hx hxe hy hye).weak1
end Go.Proofs.YtbhkonnakkhibaaGreat.Ab
namespace Go.Proofs.YtbhkonnakkhibaaGreat.Ab
open Go
set_option maxRecDepth 10000
set_option maxHeartbeats 2000000
def SmallF (g:Lau):Prop:=g.ts.length<=600/\(∀ t∈g.ts,t.e.length<=8)/\cntL cntT g.ts<=5400
theorem small_right {g:Lau} (h:Right g):SmallF g:=by
 have he:∀ t∈g.ts,t.e.length<=8:=fun t ht=>by have:=(h.2.2.1 t ht).1;have:=h.1;omega
 refine ⟨h.2.1,he,?_⟩
 have:∀ ts:List Trm,(∀ t∈ts,t.e.length<=8)->cntL cntT ts<=ts.length*9:=fun ts=>by
  induction ts with
  | nil=>intro _;simp [cntL]
  | cons x ts ih=>
   intro h
   have h1:=h x (by simp)
   have h2:=ih fun y hy=>h y (by simp [hy])
   simp only [cntL,cntT,List.length_cons]
   omega
 have h2:=this g.ts he
 have:=h.2.1
 omega
theorem small_zero:SmallF zeroF:=by simp [SmallF,zeroF,cntL]
end Go.Proofs.YtbhkonnakkhibaaGreat.Ab
namespace Go.Proofs.YtbhkonnakkhibaaGreat.Ab
open Go
set_option maxRecDepth 10000
set_option maxHeartbeats 2000000
def minF (x:Int) (ts:List Trm) (i:Nat):Int:=ts.foldl (fun m t=>min m (t.e.getD i 0)) x
theorem minF_snoc (x:Int) (ts:List Trm) (t:Trm) (i:Nat):minF x (ts ++ [t]) i=min (minF x ts i) (t.e.getD i 0):=by simp [minF,List.foldl_append]
theorem minF_le (x:Int) (i:Nat):∀ ts:List Trm,minF x ts i<=x/\(∀ t∈ts,minF x ts i<=t.e.getD i 0)/\(minF x ts i=x\/∃ t∈ts,minF x ts i=t.e.getD i 0):=by
 intro ts
 induction ts generalizing x with
 | nil=>simp [minF]
 | cons t ts ih=>
  obtain ⟨h1,h2,h3⟩:=ih (min x (t.e.getD i 0))
  have e:minF x (t :: ts) i=minF (min x (t.e.getD i 0)) ts i:=rfl
  rw [e]
  refine ⟨by omega,fun u hu=>?_,?_⟩
  ·rcases List.mem_cons.1 hu with rfl | hu
   ·omega
   ·exact h2 u hu
  ·rcases h3 with h3 | ⟨u,hu,h3⟩
   ·by_cases hle:x<=t.e.getD i 0
    ·exact .inl (by rw [h3];omega)
    ·exact .inr ⟨t,by simp,by rw [h3];omega⟩
   ·exact .inr ⟨u,by simp [hu],h3⟩
def lowA (x:Nat->Int) (ts:List Trm) (n:Nat):List Int:=(List.range n).map fun i=>minF (x i) ts i
@[simp] theorem lowA_length (x:Nat->Int) (ts:List Trm) (n:Nat):(lowA x ts n).length=n:=by simp [lowA]
theorem lowA_get (x:Nat->Int) (ts:List Trm) (n i:Nat) (h:i < n):(lowA x ts n)[i]'(by simpa using h)=minF (x i) ts i:=by simp [lowA]
theorem getD_eq {l:List Int} {i:Nat} (h:i < l.length):l.getD i 0=l[i]:=by simp [List.getD,h]
theorem mix_set {α:Type} (xs ys:List α) (i:Nat) (h:i < xs.length) (hl:xs.length=ys.length):(xs.take i ++ ys.drop i).set i xs[i]=xs.take (i+1) ++ ys.drop (i+1):=by
 rw [List.set_append_right _ _ (by simp;omega),List.take_succ_eq_append_getElem h]
 simp only [List.length_take,Nat.min_eq_left (Nat.le_of_lt h),Nat.sub_self]
 rw [List.drop_eq_getElem_cons (by omega),List.set_cons_zero,List.append_assoc]
 rfl
theorem mix_get {α:Type} (xs ys:List α) (i:Nat) (h:i < ys.length) (hl:xs.length=ys.length):(xs.take i ++ ys.drop i)[i]? = some ys[i]:=by
 rw [List.getElem?_append_right (by simp;omega)]
 simp [Nat.min_eq_left (show i<=xs.length by omega),h]
def headE (ts:List Trm) (i:Nat):Int:=match ts with | []=>0 | t :: _=>t.e.getD i 0
theorem lowA_start (ts:List Trm) (n:Nat) (h:0 < ts.length) (he:∀ t∈ts,t.e.length=n):lowA (headE ts) [] n=(ts[0]'h).e:=by
 match ts,h with
 | t :: ts,_=>
  have h1:=he t (by simp)
  apply List.ext_getElem
  ·simp [h1]
  ·intro i h2 h3
   rw [lowA_get _ _ _ _ (by simpa using h2)]
   simp only [minF,List.foldl_nil,headE,List.getElem_cons_zero]
   exact getD_eq h3
def lowL (ts:List Trm) (n:Nat):List Int:=lowA (headE ts) ts n
theorem spec_l2Least_calls (f:Lau) (n:Nat) (hn:f.v=n) (hn8:n<=8) (h0:0 < f.ts.length) (hl:f.ts.length<=600) (he:∀ t∈f.ts,t.e.length=n):ACalls Tryz.prog F.spec_l2Least [aF f] [] true (fun outs res=>outs=[]/\res=[.one (owI (lowL f.ts n))]):=by
 have h0e:=he _ (List.getElem_mem h0)
 refine ACalls.of_body (C:=C.spec_l2Least) (n:=Tryz.f233.ntmps) tabT folT Tryz.func233 rfl (by kernel_rfl) rfl (Nat.le_of_ble_eq_true rfl) (by decide) (by kernel_rfl) (by kernel_rfl) rfl (by simp) (by simp) ?_
 simp only [Tryz.f233]
 refine wseq ?_
 refine wreg fun K hK=>?_
 simp [C.spec_l2Least,fS,hn]
 refine hK _ ?_;clear hK K
 show AWp _ _ _ _ _
 refine wseq ?_
 refine wregI ([0,1,2,3,4,5] ++ ([6])) rfl fun K hK=>?_
 refine opsI_seg fun L hL=>?_
 simp [C.spec_l2Least,fS,hn,h0,tS_0 h0]
 refine wcall1 (spec_l1Ints_calls f.ts[0].e (by omega)) (by simp) (by simp) ?_
 simp [C.spec_l2Least,fS,hn,h0,tS_0 h0]
 refine hL _ ?_;clear hL L
 refine opsI_end fun L hL=>?_
 simp [C.spec_l2Least,fS,hn,h0,tS_0 h0]
 refine hL _ ?_;clear hL L
 simp [C.spec_l2Least,fS,hn,h0,tS_0 h0]
 refine hK _ ?_;clear hK K
 show AWp _ _ _ _ _
 refine wseq ?_
 refine wseq ?_
 refine wreg fun K hK=>?_
 simp [C.spec_l2Least,fS,hn]
 refine hK _ ?_;clear hK K
 show AWp _ _ _ _ _
 refine wblock ?_
 refine wloop (fun x:Nat=>⟨ofL [(1,.pt (1,0) [] 0),(3,.al (3,0) [] 0 n),(4,.int x)],ofRO [((1,0),some (.bx (fS f))),((3,0),some (.ow 1 n (ints (lowA (headE f.ts) (f.ts.take x) n))))]⟩) (fun x=>x<=f.ts.length) (fun x=>f.ts.length - x) 0 (by simp [C.spec_l2Least,fS,hn,lowA_start f.ts n h0 he,h0e]) (by simp) ?_
 intro x1 hx1 R1 hR1
 refine wseq ?_
 refine wseq ?_
 refine wreg fun K hK=>?_
 simp [C.spec_l2Least,fS,hn]
 refine hK _ ?_;clear hK K
 show AWp _ _ _ _ _
 refine wcond _ rfl (fun hc1=>?_) (fun hc1=>?_)
 ·have h1:x1 < f.ts.length:=d_t hc1
  have h1e:=he _ (List.getElem_mem h1)
  refine wskip ?_
  show AWp _ _ _ _ _
  refine wseq ?_
  refine wblock ?_
  refine wseq ?_
  refine wreg fun K hK=>?_
  simp [C.spec_l2Least,fS,hn]
  refine hK _ ?_;clear hK K
  show AWp _ _ _ _ _
  refine wblock ?_
  refine wloop (fun x:Nat=>⟨ofL [(1,.pt (1,0) [] 0),(3,.al (3,0) [] 0 n),(4,.int x1),(5,.int x)],ofRO [((1,0),some (.bx (fS f))),((3,0),some (.ow 1 n (ints ((lowA (headE f.ts) (f.ts.take (x1+1)) n).take x ++ (lowA (headE f.ts) (f.ts.take x1) n).drop x))))]⟩) (fun x=>x<=n) (fun x=>n - x) 0 (by simp [C.spec_l2Least,fS,hn]) (by simp) ?_
  intro x2 hx2 R2 hR2
  refine wseq ?_
  refine wseq ?_
  refine wreg fun K hK=>?_
  simp [C.spec_l2Least,fS,hn]
  refine hK _ ?_;clear hK K
  show AWp _ _ _ _ _
  refine wcond _ rfl (fun hc2=>?_) (fun hc2=>?_)
  ·have h2:x2 < n:=by have:=d_t hc2;omega
   have hg1:=mix_get (lowA (headE f.ts) (f.ts.take (x1+1)) n) (lowA (headE f.ts) (f.ts.take x1) n) x2 (by simpa using h2) (by simp)
   have hg2:minF (headE f.ts x2) (f.ts.take (x1+1)) x2=min (minF (headE f.ts x2) (f.ts.take x1) x2) (f.ts[x1].e[x2]'(by omega)):=by
    rw [List.take_succ_eq_append_getElem h1,minF_snoc,getD_eq (by omega)]
   have hset:=mix_set (lowA (headE f.ts) (f.ts.take (x1+1)) n) (lowA (headE f.ts) (f.ts.take x1) n) x2 (by simpa using h2) (by simp)
   rw [lowA_get _ _ _ _ h2] at hset hg1
   rw [hg2] at hset
   have hlen:((lowA (headE f.ts) (f.ts.take (x1+1)) n).take x2 ++ (lowA (headE f.ts) (f.ts.take x1) n).drop x2).length=n:=by simp;omega
   generalize hM:(lowA (headE f.ts) (f.ts.take (x1+1)) n).take x2 ++ (lowA (headE f.ts) (f.ts.take x1) n).drop x2=M at hset hg1 hlen
   have h2M:x2 < M.length:=by omega
   rw [List.getElem?_eq_getElem h2M] at hg1
   have hg3:M[x2]=minF (headE f.ts x2) (f.ts.take x1) x2:=by injection hg1
   rw [← hg3] at hset
   refine wskip ?_
   show AWp _ _ _ _ _
   refine wseq ?_
   refine wblock ?_
   refine wdrawI [(true,0),(true,1),(true,2),(true,3),(true,4),(true,5),(true,6),(true,7),(true,8),(true,9),(true,10),(true,11),(true,12),(true,13),(true,14),(true,15),(true,16),(false,17)] ⟨by kernel_rfl,by kernel_rfl⟩ ([0,1,2,3,4,5,6,7,8,9,10,11,12,13,14,15,16,17]) rfl fun K hK=>?_
   refine opsI_end fun L hL=>?_
   simp [C.spec_l2Least,fS,hn,h1,tS_0 h1,h1e,h2,hlen,get_ints,h2M]
   refine hL _ ?_;clear hL L
   simp [C.spec_l2Least,fS,hn,h1,tS_0 h1,h1e,h2,hlen,get_ints,h2M]
   refine hK _ ?_;clear hK K
   show AWp _ _ _ _ _
   refine wreg fun K hK=>?_
   simp [C.spec_l2Least,fS,hn,wrap_succ (show x2 < 4611686018427387904 by omega),hset,modify_const,ints_set]
   refine hK _ ?_;clear hK K
   simp [C.spec_l2Least,fS,hn]
   refine cast (congrArg R2 ?_) (hR2 (x2+1) h2 (by omega))
   simp [fS,hn]
  ·have h2:x2=n:=by have:=d_f hc2;omega
   refine wexit ?_
   show AWp _ _ _ _ _
   refine wreg fun K hK=>?_
   simp [C.spec_l2Least,fS,hn,wrap_succ (show x1 < 4611686018427387904 by omega)]
   refine hK _ ?_;clear hK K
   simp [C.spec_l2Least,fS,hn]
   refine cast (congrArg R1 ?_) (hR1 (x1+1) h1 (by omega))
   simp [fS,hn,h2,List.take_of_length_le,List.drop_of_length_le]
 ·have h1:x1=f.ts.length:=by have:=d_f hc1;omega
  refine wexit ?_
  show AWp _ _ _ _ _
  refine wseq ?_
  refine wreg fun K hK=>?_
  simp [C.spec_l2Least,fS,hn]
  refine hK _ ?_;clear hK K
  show AWp _ _ _ _ _
  refine wret ?_
  simp [C.spec_l2Least,fS,hn,h1,lowL]
def denL (f:Lau):List Int:=(lowL f.ts f.v.toNat).map fun x=>-x
@[simp] theorem denL_length (f:Lau):(denL f).length=f.v.toNat:=by simp [denL,lowL]
theorem right_he {f:Lau} {n:Nat} (h:Right f) (hn:f.v=n):∀ t∈f.ts,t.e.length=n/\∀ x∈t.e,-20<=x/\x<=20:=fun t ht=>by
 have:=h.2.2.1 t ht
 exact ⟨by have:=this.1;omega,this.2.2.2⟩
theorem ieq0 (n:Nat):((n:Int) == 0)=decide (n=0):=by
 rw [Bool.eq_iff_iff];simp
end Go.Proofs.YtbhkonnakkhibaaGreat.Ab
namespace Go.Proofs.YtbhkonnakkhibaaGreat.Ab
open Go
set_option linter.unusedSectionVars false
def SfOk (P:Program) (sf k:Nat):Prop:=
 (∀ (p:Option Addr) (cap:Nat) (fv:Value) (w:World),Calls P sf #[.slice p 0 cap,fv] w fun e w'=>e = .returned (.tuple #[])/\w'=w) /\
 ∀ (α:Type) [Inhabited α] (enc:α->List Value) (hk:∀ x,(enc x).length=k) (h1:∀ x,∀ v∈enc x,v.oneCell'=true) (cf:α->α->Int) (hO:Go.Sort.SWO (ltOf cf)) (g:Nat) (blk off cap:Nat) (d:Array α) (w:World)
  (eg:∀ args w,(callFunc g args).run P w = .ok (.enter g args) w) (hcmp:CmpLays P g #[] enc k cf blk off d.size w) (hH:Go.Sort.HoldsK enc k w blk off d) (hblk:blk < w.heap.size) (hsz:d.size < 4611686018427387904),
  Calls P sf #[.slice (some ⟨blk,off,none⟩) d.size cap,.func (.func g) #[] #[]] w fun e w'=>
   e = .returned (.tuple #[])/\∃ d' n os,Go.Sort.PermIn 0 d.size d d'/\Go.Sort.SortedIn (ltOf cf) 0 d.size d'/\w'=sortWorldK enc k w blk off n d' os
structure El (τ:Type) where
 us:List Value
 fp:List Nat
 t:τ
section
variable {τ:Type} {f:τ->List D} {k:Nat} {w:World} {ok:Nat->Prop}
theorem rows_els (hk:∀ t,(f t).length=k):∀ (ts:List τ) (us:List Value) (fp:List Nat),OwVs w ok (rows f ts) us fp ->
  ∃ els:List (El τ),els.map (·.t)=ts/\us=els.flatMap (·.us)/\fp=els.flatMap (·.fp)/\∀ x∈els,OwVs w ok (f x.t) x.us x.fp
 | [],us,fp,h=>by
  simp only [rows,OwVs] at h
  exact ⟨[],rfl,by simp [h.1],by simp [h.2],by simp⟩
 | t :: ts,us,fp,h=>by
  have hl:=OwVs_length h
  obtain ⟨f1,f2,e,h1,h2⟩:=OwVs_split k h
  have e1:(rows f (t :: ts)).take k=f t:=by
   simp only [rows]
   rw [List.take_append_of_le_length (by rw [hk];exact Nat.le_refl _),List.take_of_length_le (by rw [hk];exact Nat.le_refl _)]
  have e2:(rows f (t :: ts)).drop k=rows f ts:=by
   simp only [rows]
   rw [← hk t,List.drop_left]
  rw [e1] at h1
  rw [e2] at h2
  obtain ⟨els,g1,g2,g3,g4⟩:=rows_els hk ts _ _ h2
  refine ⟨⟨us.take k,f1,t⟩ :: els,by simp [g1],?_,?_,fun x hx=>?_⟩
  ·simp only [List.flatMap_cons]
   rw [← g2,List.take_append_drop]
  ·simp only [List.flatMap_cons]
   rw [← g3,e]
  ·rcases List.mem_cons.1 hx with rfl | hx
   ·exact h1
   ·exact g4 x hx
theorem els_rows:∀ (els:List (El τ)),(∀ x∈els,OwVs w ok (f x.t) x.us x.fp)->OwVs w ok (rows f (els.map (·.t))) (els.flatMap (·.us)) (els.flatMap (·.fp))
 | [],_=>by simp [rows,OwVs]
 | x :: els,h=>by
  simp only [List.map_cons,rows,List.flatMap_cons]
  exact OwVs_append (h x (by simp)) (els_rows els fun y hy=>h y (by simp [hy]))
end
theorem flat_get {α β:Type} {g:α->List β} {k:Nat} (hk:∀ x,(g x).length=k):∀ (l:List α) (j:Nat) (h:j / k < l.length) (h0:0 < k),(l.flatMap g)[j]? = (g (l[j / k]'h))[j % k]?
 | [],j,h,_=>by simp at h
 | x :: l,j,h,h0=>by
  simp only [List.flatMap_cons]
  rcases Nat.lt_or_ge j k with hj | hj
  ·rw [List.getElem?_append_left (by rw [hk];exact hj)]
   simp only [Nat.div_eq_of_lt hj,Nat.mod_eq_of_lt hj,List.getElem_cons_zero]
  ·rw [List.getElem?_append_right (by rw [hk];exact hj),hk]
   obtain ⟨m,rfl⟩:∃ m,j=m+k:=⟨j - k,by omega⟩
   simp only [Nat.add_sub_cancel,Nat.add_div_right _ h0,Nat.add_mod_right,Nat.succ_eq_add_one,List.getElem_cons_succ]
   exact flat_get hk l m (by rw [Nat.add_div_right _ h0] at h;simpa using h) h0
theorem flat_len {α β:Type} {g:α->List β} {k:Nat} (hk:∀ x,(g x).length=k):∀ l:List α,(l.flatMap g).length=l.length*k
 | []=>by simp
 | x :: l=>by simp only [List.flatMap_cons,List.length_append,hk,flat_len hk l,List.length_cons,Nat.add_mul,Nat.one_mul];omega
theorem flatK_get {α:Type} [Inhabited α] {enc:α->List Value} {k:Nat} (hk:∀ x,(enc x).length=k) (d:Array α) (j:Nat) (h:j < d.size*k):(d.toList.flatMap enc)[j]? = some ((Go.Sort.flatK enc k d)[j]!):=by
 have h0:0 < k:=by
  rcases Nat.eq_zero_or_pos k with e | e
  ·subst e;simp at h
  ·exact e
 have hd:j / k < d.size:=(Nat.div_lt_iff_lt_mul h0).2 h
 have hm:j % k < k:=Nat.mod_lt _ h0
 rw [flat_get hk d.toList j (by simpa using hd) h0,Go.Sort.get_flatK _ _ _ _ h]
 rw [getElem!_pos d (j / k) hd,List.getElem?_eq_getElem (by rw [hk];exact hm),getElem!_pos _ (j % k) (by rw [hk];exact hm)]
 simp
theorem done1 {w w':World} {ok:Nat->Prop} {ρ:Rn->Value} {fp0:List Nat} {d:D} {fp':List Nat} (hns:noSh d) (ho:Ow w' ok d (ρ (0,0)) fp') (hnd:fp'.Nodup)
  (hb:∀ b∈fp',¬ ok b/\(b∈fp0\/w.heap.size<=b)/\b < w'.heap.size) (hf:Keeps w fp0 w') (hok:∀ b,ok b->b < w.heap.size) :
  Done w ok ρ fp0 [(0,0)] true [d] [] (.tuple #[]) w' ok (fun _=>fp') []:=by
 have key:∀ {r:Rn} {e:D},ofR ([((0,0):Rn)].zip [d]) r=some e->r=(0,0)/\e=d:=fun {r e} h=>by
  simp only [List.zip_cons_cons,List.zip_nil_left,ofR] at h
  split at h
  ·rename_i e2
   simp only [Option.some.injEq] at h
   exact ⟨by first | exact e2 | exact e2.symm,h.symm⟩
  ·simp at h
 refine ⟨rfl,fun r e he=>?_,fun r r' e e' hne he he'=>?_,⟨[],rfl,by simp [OwRs]⟩,List.nodup_nil,by simp,by simp,hf,fun _ h=>h,fun b h=>⟨.inl h,Nat.lt_of_lt_of_le (hok b h) hf.size⟩⟩
 ·obtain ⟨rfl,rfl⟩:=key he
  exact ⟨by simpa using Ow_nosh _ _ _ hns ho,hnd,hb⟩
 ·exact absurd ((key he).1.trans (key he').1.symm) hne
theorem ShV_d {w:World} {ok:Nat->Prop} {σ:St} {ρ:Rn->Value}:∀ {ds:List D} {us:List Value},ShV w ok ds us->FRL w ok σ ρ (ds.map .d) us
 | [],us,h=>by simpa [ShV,FRL] using h
 | d :: ds,us,h=>by
  simp only [ShV] at h
  obtain ⟨u,vs,rfl,h1,h2⟩:=h
  simp only [List.map_cons,FRL]
  exact ⟨u,vs,rfl,by simpa [FR] using h1,ShV_d h2⟩
theorem ShV_share {w:World} {ok ok':Nat->Prop} (hk:∀ b,ok b->ok' b):∀ {ds:List D} {us:List Value} {fp:List Nat},OwVs w ok ds us fp->(∀ b∈fp,ok' b)->ShV w ok' (shareL ds) us
 | [],us,fp,h,_=>by
  simp only [OwVs] at h
  simp [shareL,ShV,h.1]
 | d :: ds,us,fp,h,hf=>by
  simp only [OwVs] at h
  obtain ⟨u,vs,f1,f2,rfl,rfl,h1,h2⟩:=h
  simp only [shareL,ShV]
  exact ⟨u,vs,rfl,Sh_share hk d u f1 (fun b hb=>hf b (by simp [hb])) h1,ShV_share hk h2 fun b hb=>hf b (by simp [hb])⟩
theorem OwVs_world {w w':World} {ok:Nat->Prop} (hk:∀ b,ok b->w'.heap[b]? = w.heap[b]?):∀ {ds:List D} {us:List Value} {fp:List Nat},OwVs w ok ds us fp->(∀ b∈fp,w'.heap[b]? = w.heap[b]?)->OwVs w' ok ds us fp
 | [],us,fp,h,_=>by simpa only [OwVs] using h
 | d :: ds,us,fp,h,hf=>by
  simp only [OwVs] at h ⊢
  obtain ⟨u,vs,f1,f2,rfl,rfl,h1,h2⟩:=h
  exact ⟨u,vs,f1,f2,rfl,rfl,Ow_mono (fun b hb=>⟨hb,hk b hb⟩) _ _ _ (fun b hb=>hf b (by simp [hb])) h1,OwVs_world hk h2 fun b hb=>hf b (by simp [hb])⟩
theorem grow_of_keeps {w w':World} (h:Keeps w [] w'):∃ q os',w'=Go.Sort.grow (w.drewN q) os':=by
 refine ⟨w'.drawn - w.drawn,w'.heap.extract w.heap.size w'.heap.size,?_⟩
 have hh:w'.heap=w.heap ++ w'.heap.extract w.heap.size w'.heap.size:=by
  apply Array.ext_getElem?
  intro i
  rw [Array.getElem?_append]
  split
  ·rename_i hi
   exact h.old i hi (by simp)
  ·rename_i hi
   rw [Array.getElem?_extract]
   have hs:=h.size
   rcases Nat.lt_or_ge i w'.heap.size with h1 | h1
   ·rw [if_pos (by omega),show w.heap.size+(i - w.heap.size)=i by omega]
   ·rw [if_neg (by omega),Array.getElem?_eq_none (by omega)]
 have h1:=h.os
 have h2:=h.out
 have h3:=h.tape
 have h4:=h.drawn
 cases w' with
 | mk heap tape drawn os output=>
  cases w with
  | mk heap2 tape2 drawn2 os2 output2=>
   simp only at h1 h2 h3 h4 hh
   subst h1;subst h2;subst h3
   simp only [Go.Sort.grow,World.drewN]
   congr 1
   omega
theorem cmp_call {P:Program} {g:Nat} {cx cy:List D} {c:Int} (h:ACalls P g [.ag ((shareL cx).map .d),.ag ((shareL cy).map .d)] [] true (fun outs res=>outs=[]/\res=[.one (D.int c)])) {w:World} {ok:Nat->Prop} {ux uy:List Value} {fx fy:List Nat}
  (hx:OwVs w ok cx ux fx) (hy:OwVs w ok cy uy fy) (hfx:∀ b∈fx,b < w.heap.size) (hfy:∀ b∈fy,b < w.heap.size) (hok:∀ b,ok b->b < w.heap.size) :
  Calls P g (#[.agg ux.toArray,.agg uy.toArray] ++ #[]) w fun e w'=>e = .returned (.int .i64 c)/\∃ q os',w'=Go.Sort.grow (w.drewN q) os':=by
 have h1:=ShV_share (ok':=fun b=>ok b\/b∈fx\/b∈fy) (fun b hb=>.inl hb) hx (fun b hb=>.inr (.inl hb))
 have h2:=ShV_share (ok':=fun b=>ok b\/b∈fx\/b∈fy) (fun b hb=>.inl hb) hy (fun b hb=>.inr (.inr hb))
 have:=h.2 w [] (fun b=>ok b\/b∈fx\/b∈fy) [.agg ux.toArray,.agg uy.toArray] (fun _=>undef) (fun _=>[]) rfl ⟨fun r d hd=>by simp [ofR] at hd,fun r r' d d' _ hd=>by simp [ofR] at hd,fun t=>by
  match t with
  | 0=>
   simp only [argEnv,List.getD_cons_zero,FR]
   exact ⟨_,rfl,ShV_d (by simpa using h1)⟩
  | 1=>
   simp only [argEnv,List.getD_cons_succ,List.getD_cons_zero,FR]
   exact ⟨_,rfl,ShV_d (by simpa using h2)⟩
  | t+2=>simp [argEnv,FR],fun b hb=>by rcases hb with hb | hb | hb;exact hok b hb;exact hfx b hb;exact hfy b hb,Keeps.refl w []⟩
 have e0:(#[.agg ux.toArray,.agg uy.toArray] ++ #[]:Array Value)=[Value.agg ux.toArray,Value.agg uy.toArray].toArray:=by simp
 rw [e0]
 refine Calls.mono this ?_
 rintro e w' ⟨v,outs,res,ok',φ',fr,rfl,⟨rfl,rfl⟩,hd⟩
 obtain ⟨vs,e1,e2⟩:=hd.res
 simp only [OwRs,OwRV,if_true] at e2
 obtain ⟨u,us,f1,f2,rfl,_,k1,k2,_⟩:=e2
 subst k2
 simp only [Ow] at k1
 refine ⟨?_,grow_of_keeps hd.frm⟩
 rw [e1,k1.2]
 rfl
section
variable {α:Type} [Inhabited α] {enc:α->List Value} {k:Nat} {w:World} {b o:Nat}
theorem srt_other (m:Nat) (d:Array α) (os:Array Obj) {c:Nat} (hc:c≠b) (hs:c < w.heap.size):(sortWorldK enc k w b o m d os).heap[c]? = w.heap[c]?:=by
 unfold sortWorldK
 rw [Go.Sort.heap_grow_old _ _ (by simpa [Go.Sort.putRowK] using hs)]
 simp [Go.Sort.putRowK,Go.Sort.putRow,Go.Sort.mapBlock,Array.getElem?_modify,Ne.symm hc]
theorem srt_blk (m:Nat) (d:Array α) (os:Array Obj) {arr:Array Value} {T:Nat} {fr:Nat×Nat} (h:w.heap[b]? = some (.cells arr T fr)):∃ arr',(sortWorldK enc k w b o m d os).heap[b]? = some (.cells arr' T fr)/\arr'.size=arr.size:=by
 have hb:b < w.heap.size:=by
  rcases Nat.lt_or_ge b w.heap.size with hh | hh
  ·exact hh
  ·rw [Array.getElem?_eq_none (by omega)] at h;simp at h
 refine ⟨Go.Sort.putCells id o (Go.Sort.flatK enc k d) arr,?_,by simp [Go.Sort.putCells]⟩
 unfold sortWorldK
 rw [Go.Sort.heap_grow_old _ _ (by simpa [Go.Sort.putRowK] using hb)]
 simp [Go.Sort.putRowK,Go.Sort.putRow,Go.Sort.mapBlock,Array.getElem?_modify,h,Go.Sort.onCells]
theorem srt_keeps (m:Nat) (d:Array α) (os:Array Obj) {fp0:List Nat} (hb:b∈fp0):Keeps w fp0 (sortWorldK enc k w b o m d os):=by
 refine ⟨rfl,rfl,rfl,?_,?_,fun c hc hn=>srt_other m d os (fun e=>hn (e ▸ hb)) hc⟩
 ·show w.drawn<=w.drawn+m
  omega
 ·simp [sortWorldK,Go.Sort.putRowK]
end
theorem permIn_all {α:Type} [Inhabited α] {d d':Array α} (h:Go.Sort.PermIn 0 d.size d d'):d'.toList.Perm d.toList:=by
 obtain ⟨h1,_,h3⟩:=h
 have e1:d'.extract 0 d.size=d':=by rw [← h1];exact Array.extract_size
 rwa [e1,Array.extract_size] at h3
theorem sortedIn_all {α:Type} [Inhabited α] {lt:α->α->Bool} {d d':Array α} (hs:d'.size=d.size) (h:Go.Sort.SortedIn lt 0 d.size d'):d'.toList.Pairwise fun a b=>lt b a=false:=by
 rw [List.pairwise_iff_getElem]
 intro i j hi hj hij
 simp only [Array.length_toList] at hi hj
 have:=h i j (Nat.zero_le _) hij (by omega)
 rwa [getElem!_pos d' i hi,getElem!_pos d' j hj] at this
theorem ACalls.mono {P:Program} {f:Nat} {args:List FV} {ros:List (Rn×D)} {pure:Bool} {Q Q':List D->List RV->Prop} (h:ACalls P f args ros pure Q) (hq:∀ outs res,Q outs res->Q' outs res):ACalls P f args ros pure Q':=
 ⟨h.1,fun w fp0 ok vs ρ φ hl hR=>(h.2 w fp0 ok vs ρ φ hl hR).mono fun e w' ⟨v,outs,res,ok',φ',fr,he,hQ,hD⟩=>⟨v,outs,res,ok',φ',fr,he,hq _ _ hQ,hD⟩⟩
theorem sort_calls {P:Program} {sf k g:Nat} (hcl:Callable P sf) (hS:SfOk P sf k) {τ:Type} {f:τ->List D} (hk:∀ t,(f t).length=k) (hk0:0 < k) (hns:∀ t,noShL (f t)) (hso:∀ ts,solidL (rows f ts)) (cf:τ->τ->Int)
  (hO:Go.Sort.SWO (ltOf cf)) (ts:List τ) (hlen:ts.length < 4611686018427387904)
  (hcmp:∀ x∈ts,∀ y∈ts,ACalls P g [.ag ((shareL (f x)).map .d),.ag ((shareL (f y)).map .d)] [] true (fun outs res=>outs=[]/\res=[.one (D.int (cf x y))])) :
  ACalls P sf [.al (0,0) [] 0 ts.length,.d (.fn g [])] [((0,0),.ow k ts.length (rows f ts))] true (fun outs res=>∃ r:List τ,r.Perm ts/\(r.Pairwise fun a b=>¬ cf b a < 0)/\outs=[.ow k ts.length (rows f r)]/\res=[]):=by
 refine ⟨hcl,fun w fp0 ok vs ρ φ hl hR=>?_⟩
 match vs,hl with
 | [u,fv],_=>
 have h0:=hR.env 0
 have h1:=hR.env 1
 simp only [argEnv,List.getD_cons_zero,List.getD_cons_succ,FR,Sh] at h0 h1
 obtain ⟨k1,N,cs,hv,ho,hh,hN,hsub⟩:=h0
 simp only [hdr,Option.some.injEq] at hh
 subst hh
 obtain ⟨lb,rfl,hlb⟩:=h1
 simp only [ShV] at hlb
 have hlb2:lb = #[]:=by
  apply Array.ext'
  simpa using hlb
 subst hlb2
 have hown:=hR.own (0,0) (.ow k ts.length (rows f ts)) (by simp [ofR])
 obtain ⟨how,hnd,hbl⟩:=hown
 have hsub2:∃ a M c,ρ (0,0) = .slice a M c/\u = .slice a ts.length c:=by
  rcases hsub with ⟨_,a,M,c,e1,e2⟩ | ⟨h,_⟩
  ·exact ⟨a,M,c,e1,e2⟩
  ·omega
 obtain ⟨a,M,c,e1,rfl⟩:=hsub2
 simp only [Ow] at how
 have hns2:∀ r:List τ,noSh (.ow k ts.length (rows f r)):=fun r=>by
  simp only [noSh]
  exact rows_noSh hns r
 rcases how with ⟨hn0,hcs,hfp,a',e2⟩ | ⟨b,o,c',arr,T,fp',e2,hfp,hheap,hcap,harr,hlc,hOL⟩
 ·-- nothing to sort
  have hts:ts=[]:=List.eq_nil_of_length_eq_zero hn0
  subst hts
  rw [e1] at e2
  refine Calls.mono (hS.1 a c (.func (.func g) #[] #[]) w) ?_
  rintro e w' ⟨rfl,rfl⟩
  refine ⟨_,[.ow k 0 (rows f [])],[],ok,fun _=>[],[],rfl,⟨[],List.Perm.nil,List.Pairwise.nil,rfl,rfl⟩,?_⟩
  refine done1 (hns2 []) ?_ List.nodup_nil (by simp) (Keeps.refl _ fp0) hR.okb
  simp only [Ow,rows]
  exact .inl ⟨trivial,trivial,trivial,a',by rw [e1];exact e2⟩
 ·obtain ⟨us,hul,hus,hov⟩:=OwL_read hOL
  obtain ⟨els,het,heu,hef,heo⟩:=rows_els hk ts us fp' hov
  have hnl:els.length=ts.length:=by rw [← het,List.length_map]
  rw [e1] at e2
  have e3:=Value.slice.inj e2
  obtain ⟨rfl,rfl,rfl⟩:=e3
  have hbm:=hbl b (by rw [hfp];simp)
  have hb0:b∈fp0:=by
   rcases hbm.2.1 with h | h
   ·exact h
   ·omega
  rcases Nat.eq_zero_or_pos ts.length with hz | hpos
  ·have hts:ts=[]:=List.eq_nil_of_length_eq_zero hz
   subst hts
   refine Calls.mono (hS.1 (some ⟨b,o,none⟩) c (.func (.func g) #[] #[]) w) ?_
   rintro e w' ⟨rfl,rfl⟩
   refine ⟨_,[.ow k 0 (rows f [])],[],ok,fun _=>φ (0,0),[],rfl,⟨[],List.Perm.nil,List.Pairwise.nil,rfl,rfl⟩,?_⟩
   refine done1 (hns2 []) ?_ hnd hbl (Keeps.refl _ fp0) hR.okb
   simp only [Ow]
   exact .inr ⟨b,o,c,arr,T,fp',by rw [e1];rfl,hfp,hheap,hcap,harr,hlc,hOL⟩
  ·have hinh:Inhabited (Fin els.length):=⟨⟨0,by omega⟩⟩
   let enc:Fin els.length->List Value:=fun i=>els[i].us
   have henc:∀ i,(enc i).length=k:=fun i=>by
    have:=OwVs_length (heo els[i] (List.getElem_mem i.2))
    show els[i].us.length=k
    rw [this,hk]
   let d:Array (Fin els.length):=Array.ofFn id
   have hds:d.size=ts.length:=by simp [d,hnl]
   have hdl:d.toList.flatMap enc=us:=by
    rw [heu]
    show (Array.ofFn id).toList.flatMap enc=_
    rw [Array.toList_ofFn]
    conv=>rhs;rw [← List.ofFn_getElem (xs:=els)]
    simp only [List.flatMap,List.map_ofFn]
    rfl
   have hco:∀ i:Fin els.length,cf els[i].t els[i].t=cf els[i].t els[i].t:=fun _=>rfl
   have hmem:∀ i:Fin els.length,els[i].t∈ts:=fun i=>by
    have h9:els[i].t∈els.map (·.t):=List.mem_map.2 ⟨_,List.getElem_mem i.2,rfl⟩
    rwa [het] at h9
   have hO2:Go.Sort.SWO (ltOf fun i j:Fin els.length=>cf els[i].t els[j].t):=⟨fun x=>hO.irrefl _,fun x y z=>hO.trans _ _ _,fun x y z=>hO.ntrans _ _ _⟩
   have hkk:us.length=d.size*k:=by rw [hul,hlc,hds,Nat.mul_comm]
   have hH:Go.Sort.HoldsK enc k w b o d:=fun j hj=>by
    rw [Go.Sort.size_flatK] at hj
    refine ⟨?_,not_frozen hheap⟩
    have:=flatK_get henc d j hj
    rw [hdl] at this
    exact hus j _ this
   have hfne:∀ x∈fp',x≠b:=fun x hx e=>by
    subst e
    rw [hfp] at hnd
    exact (List.nodup_cons.1 hnd).1 hx
   have hfb:∀ x∈fp',x < w.heap.size:=fun x hx=>(hbl x (by rw [hfp];simp [hx])).2.2
   have hC:CmpLays P g #[] enc k (fun i j:Fin els.length=>cf els[i].t els[j].t) b o d.size w:=fun m os dk hdk x y=>by
    have hw:∀ i:Fin els.length,OwVs (sortWorldK enc k w b o m dk os) ok (f els[i].t) (enc i) els[i].fp:=fun i=>by
     have hsub:∀ q∈els[i].fp,q∈fp':=fun q hq=>by rw [hef];exact List.mem_flatMap.2 ⟨_,List.getElem_mem i.2,hq⟩
     refine OwVs_world (fun q hq=>srt_other m dk os ?_ (hR.okb q hq)) (heo els[i] (List.getElem_mem i.2)) fun q hq=>srt_other m dk os (hfne q (hsub q hq)) (hfb q (hsub q hq))
     rintro rfl
     exact hbm.1 hq
    have hgs:=size_sortWorldK_c enc k w b o m dk os
    have hfi:∀ i:Fin els.length,∀ q∈els[i].fp,q < (sortWorldK enc k w b o m dk os).heap.size:=fun i q hq=>Nat.lt_of_lt_of_le (hfb q (by rw [hef];exact List.mem_flatMap.2 ⟨_,List.getElem_mem i.2,hq⟩)) hgs
    exact cmp_call (hcmp _ (hmem x) _ (hmem y)) (hw x) (hw y) (hfi x) (hfi y) fun q hq=>Nat.lt_of_lt_of_le (hR.okb q hq) hgs
   obtain ⟨fn,cd,hf1,hf2,hf3⟩:=(hcmp _ (hmem ⟨0,by omega⟩) _ (hmem ⟨0,by omega⟩)).1
   have h1c:∀ x,∀ v∈enc x,v.oneCell'=true:=fun x v hv=>by
    refine OwVs_solid ?_ (heo els[x] (List.getElem_mem x.2)) v hv
    have:=hso [els[x].t]
    simpa [rows] using this
   have hcall:=hS.2 (Fin els.length) enc henc h1c (fun i j=>cf els[i].t els[j].t) hO2 g b o c d w (enters_of hf1 hf3 hf2) hC hH hbm.2.2 (by omega)
   rw [hds] at hcall
   refine Calls.mono hcall ?_
   rintro e w' ⟨rfl,d',m,os,hp,hsd,rfl⟩
   have hpl:=permIn_all (d:=d) (by rw [hds];exact hp)
   have hdd:d.toList=List.finRange els.length:=by
    show (Array.ofFn id).toList=_
    rw [Array.toList_ofFn]
    rfl
   have hsz':d'.size=ts.length:=hp.1.trans hds
   let el2:List (El τ):=d'.toList.map fun i=>els[i]
   have hpe:el2.Perm els:=by
    have h2:=hpl.map fun i:Fin els.length=>els[i]
    refine h2.trans (List.Perm.of_eq ?_)
    show (Array.ofFn id).toList.map _=els
    rw [Array.toList_ofFn,List.map_ofFn]
    exact List.ofFn_getElem
   refine ⟨_,[.ow k ts.length (rows f (el2.map (·.t)))],[],ok,fun _=>b :: el2.flatMap (·.fp),[],rfl,⟨el2.map (·.t),by rw [← het];exact hpe.map _,?_,rfl,rfl⟩,?_⟩
   ·have:=sortedIn_all hp.1 (by rw [hds];exact hsd)
    rw [List.pairwise_map,List.pairwise_map]
    refine this.imp fun h=>?_
    simpa [ltOf] using h
   ·have hpf:(el2.flatMap (·.fp)).Perm fp':=by rw [hef];exact hpe.flatMap_right _
    obtain ⟨arr',hb',hsa⟩:=srt_blk (enc:=enc) (k:=k) (o:=o) m d' os hheap
    have hgs:=size_sortWorldK_c enc k w b o m d' os
    refine done1 (hns2 _) ?_ ?_ ?_ (srt_keeps m d' os hb0) hR.okb
    ·simp only [Ow]
     refine .inr ⟨b,o,c,arr',T,el2.flatMap (·.fp),e1,rfl,hb',hcap,by rw [hsa];exact harr,?_,?_⟩
     ·rw [rows_length hk,List.length_map,List.length_map,Array.length_toList,hsz']
     ·have hov2:OwVs w ok (rows f (el2.map (·.t))) (el2.flatMap (·.us)) (el2.flatMap (·.fp)):=els_rows el2 fun x hx=>heo x (hpe.subset hx)
      have hflat:el2.flatMap (·.us)=d'.toList.flatMap enc:=by
       show (d'.toList.map _).flatMap _=_
       rw [List.flatMap_map]
      refine OwL_lay (fun q hq=>srt_other m d' os ?_ (hR.okb q hq)) hov2 (fun j v hj=>?_) fun q hq=>srt_other m d' os (hfne q (hpf.subset hq)) (hfb q (hpf.subset hq))
      ·rintro rfl
       exact hbm.1 hq
      ·have hHs:=holdsK_sortWorldK_c enc k w b o d d' m os hH hbm.2.2 hp.1
       have hj2:j < d'.size*k:=by
        rcases Nat.lt_or_ge j (d'.toList.flatMap enc).length with h | h
        ·rwa [flat_len henc,Array.length_toList] at h
        ·rw [hflat,List.getElem?_eq_none h] at hj;simp at hj
       rw [hflat,flatK_get henc d' j hj2] at hj
       simp only [Option.some.injEq] at hj
       rw [← hj]
       exact (hHs j (by rw [Go.Sort.size_flatK];exact hj2)).1
    ·refine List.nodup_cons.2 ⟨fun h=>hfne b (hpf.subset h) rfl,hpf.nodup_iff.2 ?_⟩
     rw [hfp] at hnd
     exact (List.nodup_cons.1 hnd).2
    ·intro q hq
     rcases List.mem_cons.1 hq with rfl | hq
     ·exact ⟨hbm.1,.inl hb0,Nat.lt_of_lt_of_le hbm.2.2 hgs⟩
     ·have:=hbl q (by rw [hfp];simp [hpf.subset hq])
      exact ⟨this.1,this.2.1,Nat.lt_of_lt_of_le this.2.2 hgs⟩
end Go.Proofs.YtbhkonnakkhibaaGreat.Ab
namespace Go.Proofs.YtbhkonnakkhibaaGreat.Ab
open Go
set_option maxRecDepth 10000
set_option maxHeartbeats 2000000
theorem natbeq (a b:Nat):((a:Int) == (b:Int))=decide (a=b):=by rw [Bool.eq_iff_iff];simp <;> omega
theorem notAny (l:List Int):(!(l.any fun x=>!decide (-99<=x) || !decide (x<=99)))=decide (∀ x∈l,-99<=x/\x<=99):=by
 rw [Bool.eq_iff_iff];simp [List.any_eq_true]
theorem factors_some {m:Mat} (hS:ShM m) {l:List Int} (h:MinSol m.n.toNat (bM m) l):ACalls Tryz.prog F.impl_factors [aM m] [] true (fun outs res=>outs=[]/\res=[.one (owI l)]):=
 (factors_calls m hS).mono fun outs res ⟨h1,h2⟩=>by
  refine ⟨h1,?_⟩
  rcases h2 with ⟨k,hk,h2⟩ | ⟨hno,_⟩
  ·rw [h2,hk.uniq h]
  ·exact absurd h.2.1 (hno _)
theorem factors_none {m:Mat} (hS:ShM m) (h:∀ l,¬ MinSol m.n.toNat (bM m) l):ACalls Tryz.prog F.impl_factors [aM m] [] true (fun outs res=>outs=[]/\(∀ d,¬ Sol m.n.toNat (bM m) d)/\res=[.one (.v (.slice none 0 0))]):=
 (factors_calls m hS).mono fun outs res ⟨h1,h2⟩=>by
  rcases h2 with ⟨k,hk,h2⟩ | ⟨hno,h2⟩
  ·exact absurd hk (h k)
  ·exact ⟨h1,hno,h2⟩
theorem impl_shapedG_calls (m:Mat) (hx:m.d.length < 17592186044416):ACalls Tryz.prog F.impl_shaped [aM m] [] true (fun outs res=>outs=[]/\res=[.one (D.bool (decide (ShM m)))]):=by
 refine ACalls.of_body (C:=C.impl_shaped) (n:=Tryz.f154.ntmps) tabT folT Tryz.func154 rfl (by kernel_rfl) rfl (Nat.le_of_ble_eq_true rfl) (by decide) (by kernel_rfl) (by kernel_rfl) rfl (by simp) (by simp) ?_
 simp only [Tryz.f154]
 refine wseq ?_
 refine wreg fun K hK=>?_
 simp [C.impl_shaped]
 refine hK _ ?_;clear hK K
 show AWp _ _ _ _ _
 refine wseq ?_
 refine wregI ([0,1,2] ++ ([3,4,5,6,7,8] ++ ([9,10,11,12,13,14,15,16,17,18,19,20,21,22,23,24] ++ ([25,26,27])))) rfl fun K hK=>?_
 have hJ:K ⟨ofL [(2,.bool (decide (ShM m)))],ofRO []⟩:=by
  refine hK _ ?_;clear hK K
  show AWp _ _ _ _ _
  refine wret ?_
  simp [C.impl_shaped]
 clear hK
 by_cases h1:1<=m.n/\m.n<=5
 ·by_cases h2:m.n<=m.r/\m.r<=8
  ·by_cases h3:(m.d.length:Int)=m.n*m.r
   ·have hnr:IntKind.i64.wrap (m.n*m.r)=m.n*m.r:=by
     have h4:m.n*m.r<=5*8:=Int.mul_le_mul (by omega) (by omega) (by omega) (by omega)
     have h5:0<=m.n*m.r:=Int.mul_nonneg (by omega) (by omega)
     exact wrapOk (by omega) (by omega)
    refine opsI_seg fun L hL=>?_
    simp [C.impl_shaped,hnr,h1,h2,h3]
    refine wcall1 (impl_within_calls m.n 1 5) (by simp) (by simp) ?_
    simp [C.impl_shaped,hnr,h1,h2,h3]
    refine hL _ ?_;clear hL L
    refine opsI_seg fun L hL=>?_
    simp [C.impl_shaped,hnr,h1,h2,h3]
    refine wcall1 (impl_within_calls m.r m.n 8) (by simp) (by simp) ?_
    simp [C.impl_shaped,hnr,h1,h2,h3]
    refine hL _ ?_;clear hL L
    refine opsI_seg fun L hL=>?_
    simp [C.impl_shaped,hnr,h1,h2,h3]
    refine wcall1 (slices_ContainsFunc_int_int_calls m.d _ (fun x=>!decide (-99<=x/\x<=99)) (by omega) rfl (fun x _=>impl_shaped_1_calls x)) (by simp) (by simp) ?_
    simp [C.impl_shaped,hnr,h1,h2,h3]
    refine hL _ ?_;clear hL L
    refine opsI_end fun L hL=>?_
    simp [C.impl_shaped,hnr,h1,h2,h3]
    refine hL _ ?_;clear hL L
    simp [C.impl_shaped,hnr,h1,h2,h3]
    refine cast (congrArg K ?_) hJ
    simp [ShM,notAny,h1,h2,h3]
   ·have hnr:IntKind.i64.wrap (m.n*m.r)=m.n*m.r:=by
     have h4:m.n*m.r<=5*8:=Int.mul_le_mul (by omega) (by omega) (by omega) (by omega)
     have h5:0<=m.n*m.r:=Int.mul_nonneg (by omega) (by omega)
     exact wrapOk (by omega) (by omega)
    refine opsI_seg fun L hL=>?_
    simp [C.impl_shaped,hnr,h1,h2,h3]
    refine wcall1 (impl_within_calls m.n 1 5) (by simp) (by simp) ?_
    simp [C.impl_shaped,hnr,h1,h2,h3]
    refine hL _ ?_;clear hL L
    refine opsI_seg fun L hL=>?_
    simp [C.impl_shaped,hnr,h1,h2,h3]
    refine wcall1 (impl_within_calls m.r m.n 8) (by simp) (by simp) ?_
    simp [C.impl_shaped,hnr,h1,h2,h3]
    refine hL _ ?_;clear hL L
    refine opsI_seg fun L hL=>?_
    simp [C.impl_shaped,hnr,h1,h2,h3]
    refine hL _ ?_;clear hL L
    refine opsI_end fun L hL=>?_
    simp [C.impl_shaped,hnr,h1,h2,h3]
    refine hL _ ?_;clear hL L
    simp [C.impl_shaped,hnr,h1,h2,h3]
    refine cast (congrArg K ?_) hJ
    simp [ShM,h1,h2,h3]
  ·refine opsI_seg fun L hL=>?_
   simp [C.impl_shaped,h1,h2]
   refine wcall1 (impl_within_calls m.n 1 5) (by simp) (by simp) ?_
   simp [C.impl_shaped,h1,h2]
   refine hL _ ?_;clear hL L
   refine opsI_seg fun L hL=>?_
   simp [C.impl_shaped,h1,h2]
   refine wcall1 (impl_within_calls m.r m.n 8) (by simp) (by simp) ?_
   simp [C.impl_shaped,h1,h2]
   refine hL _ ?_;clear hL L
   refine opsI_seg fun L hL=>?_
   simp [C.impl_shaped,h1,h2]
   refine hL _ ?_;clear hL L
   refine opsI_end fun L hL=>?_
   simp [C.impl_shaped,h1,h2]
   refine hL _ ?_;clear hL L
   simp [C.impl_shaped,h1,h2]
   refine cast (congrArg K ?_) hJ
   simp [ShM,h1,h2]
 ·refine opsI_seg fun L hL=>?_
  simp [C.impl_shaped,h1]
  refine wcall1 (impl_within_calls m.n 1 5) (by simp) (by simp) ?_
  simp [C.impl_shaped,h1]
  refine hL _ ?_;clear hL L
  refine opsI_seg fun L hL=>?_
  simp [C.impl_shaped,h1]
  refine hL _ ?_;clear hL L
  refine opsI_seg fun L hL=>?_
  simp [C.impl_shaped,h1]
  refine hL _ ?_;clear hL L
  refine opsI_end fun L hL=>?_
  simp [C.impl_shaped,h1]
  refine hL _ ?_;clear hL L
  simp [C.impl_shaped,h1]
  refine cast (congrArg K ?_) hJ
  simp [ShM,h1]
theorem impl_MatrixOkG_calls (m:Mat) (hx:m.d.length < 17592186044416):ACalls Tryz.prog F.impl_MatrixOk [aM m] [] true (fun outs res=>outs=[]/\res=[.one (D.bool (decide (MatOK m)))]):=by
 refine ACalls.of_body (C:=C.impl_MatrixOk) (n:=Tryz.f81.ntmps) tabT folT Tryz.func81 rfl (by kernel_rfl) rfl (Nat.le_of_ble_eq_true rfl) (by decide) (by kernel_rfl) (by kernel_rfl) rfl (by simp) (by simp) ?_
 simp only [Tryz.f81]
 refine wseq ?_
 refine wreg fun K hK=>?_
 simp [C.impl_MatrixOk]
 refine hK _ ?_;clear hK K
 show AWp _ _ _ _ _
 refine wseq ?_
 refine wregI ([0,1] ++ ([2,3,4] ++ ([5,6,7]))) rfl fun K hK=>?_
 have hJ:K ⟨ofL [(2,.bool (decide (MatOK m)))],ofRO []⟩:=by
  refine hK _ ?_;clear hK K
  show AWp _ _ _ _ _
  refine wret ?_
  simp [C.impl_MatrixOk]
 clear hK
 by_cases h1:ShM m
 ·by_cases h2:∃ l,MinSol m.n.toNat (bM m) l
  ·obtain ⟨l,hl⟩:=h2
   have h2:∃ d,Sol m.n.toNat (bM m) d:=⟨_,hl.2.1⟩
   have hlne:l≠[]:=fun e=>by
    have h3:=hl.1
    rw [e] at h3
    have:=h1.1
    simp at h3
    omega
   refine opsI_seg fun L hL=>?_
   simp [C.impl_MatrixOk,hlne,h1,h2]
   refine wcall1 (impl_shapedG_calls m hx) (by simp) (by simp) ?_
   simp [C.impl_MatrixOk,hlne,h1,h2]
   refine hL _ ?_;clear hL L
   refine opsI_seg fun L hL=>?_
   simp [C.impl_MatrixOk,hlne,h1,h2]
   refine wcall1 (factors_some h1 hl) (by simp) (by simp) ?_
   simp [C.impl_MatrixOk,hlne,h1,h2]
   refine hL _ ?_;clear hL L
   refine opsI_end fun L hL=>?_
   simp [C.impl_MatrixOk,hlne,h1,h2]
   refine hL _ ?_;clear hL L
   simp [C.impl_MatrixOk,hlne,h1,h2]
   refine cast (congrArg K ?_) hJ
   simp [MatOK,h1,h2]
  ·refine opsI_seg fun L hL=>?_
   simp [C.impl_MatrixOk,h1,h2]
   refine wcall1 (impl_shapedG_calls m hx) (by simp) (by simp) ?_
   simp [C.impl_MatrixOk,h1,h2]
   refine hL _ ?_;clear hL L
   refine opsI_seg fun L hL=>?_
   simp [C.impl_MatrixOk,h1,h2]
   refine wcall (factors_none h1 (fun l hl=>h2 ⟨l,hl⟩)) (by simp) (by simp) (by simp) ?_
   rintro outs res ⟨rfl,hno,rfl⟩
   simp [C.impl_MatrixOk,h1,h2]
   refine hL _ ?_;clear hL L
   refine opsI_end fun L hL=>?_
   simp [C.impl_MatrixOk,h1,h2]
   refine hL _ ?_;clear hL L
   simp [C.impl_MatrixOk,h1,h2]
   refine cast (congrArg K ?_) hJ
   simp [MatOK,hno,h1,h2]
 ·refine opsI_seg fun L hL=>?_
  simp [C.impl_MatrixOk,h1]
  refine wcall1 (impl_shapedG_calls m hx) (by simp) (by simp) ?_
  simp [C.impl_MatrixOk,h1]
  refine hL _ ?_;clear hL L
  refine opsI_seg fun L hL=>?_
  simp [C.impl_MatrixOk,h1]
  refine hL _ ?_;clear hL L
  refine opsI_end fun L hL=>?_
  simp [C.impl_MatrixOk,h1]
  refine hL _ ?_;clear hL L
  simp [C.impl_MatrixOk,h1]
  refine cast (congrArg K ?_) hJ
  simp [MatOK,h1]
theorem impl_mutated_calls (m:Mat) (n r k:Nat) (hn:m.n=n) (hr:m.r=r) (hS:ShM m) (hk:k < n):ACalls Tryz.prog F.impl_mutated [.ag [.int n,.int r,.d (shI m.d)],.int k] [] true (fun outs res=>outs=[]/\res=[.ag (mO (muM m k))]):=by
 have hn5:1<=n/\n<=5:=by have:=hS.1;omega
 have hnr:n<=r/\r<=8:=by have:=hS.2.1;omega
 have hnn:m.n.toNat=n:=by omega
 have hL:m.d.length=r*n:=by
  have h1:=hS.2.2.1
  rw [hn,hr,← Int.natCast_mul,Nat.mul_comm] at h1
  omega
 have hL40:m.d.length<=40:=by
  rw [hL]
  exact Nat.le_trans (Nat.mul_le_mul hnr.2 hn5.2) (by omega)
 refine ACalls.of_body (C:=C.impl_mutated) (n:=Tryz.f129.ntmps) tabT folT Tryz.func129 rfl (by kernel_rfl) rfl (Nat.le_of_ble_eq_true rfl) (by decide) (by kernel_rfl) (by kernel_rfl) rfl (by simp) (by simp) ?_
 simp only [Tryz.f129]
 refine wseq ?_
 refine wreg fun K hK=>?_
 simp [C.impl_mutated]
 refine hK _ ?_;clear hK K
 show AWp _ _ _ _ _
 refine wseq ?_
 refine wdraw (.take 0 (.take 1 (.take 2 (.take 3 (.take 4 (.take 5 (.all [(6,.take 7 (.all [(8,.all [(9,.done)])])),(8,.all [(6,.take 7 (.all [(9,.done)]))])]))))))) ⟨by kernel_rfl,by kernel_rfl⟩ fun K hK=>?_
 have hJ:K ⟨ofL [(1,.int k),(2,.pt (2,0) [] 0),(4,.pt (4,0) [] 0),(5,.pt (5,0) [] 0)],ofRO [((2,0),some (.bx [D.int n,D.int r,shI m.d])),((4,0),some (.bx [D.int 0,D.int 0,.v (.slice none 0 0)])),((5,0),some (.bx [D.int n,D.int r,owI m.d]))]⟩:=by
  refine hK _ ?_;clear hK K
  show AWp _ _ _ _ _
  refine wseq ?_
  refine wseq ?_
  refine wreg fun K hK=>?_
  simp [C.impl_mutated]
  refine hK _ ?_;clear hK K
  show AWp _ _ _ _ _
  refine wblock ?_
  refine wloop (fun x:Nat=>⟨ofL [(1,.int k),(2,.pt (2,0) [] 0),(4,.pt (4,0) [] 0),(5,.pt (5,0) [] 0),(6,.int x)],ofRO [((2,0),some (.bx [D.int n,D.int r,shI m.d])),((4,0),some (.bx [D.int 0,D.int 0,.v (.slice none 0 0)])),((5,0),some (.bx [D.int n,D.int r,.ow 1 m.d.length (ints ((muD m k).take (x*n) ++ m.d.drop (x*n)))]))]⟩) (fun x=>x<=r) (fun x=>r - x) 0 (by simp [C.impl_mutated]) (by simp) ?_
  intro x1 hx1 R1 hR1
  refine wseq ?_
  refine wseq ?_
  refine wreg fun K hK=>?_
  simp [C.impl_mutated]
  refine hK _ ?_;clear hK K
  show AWp _ _ _ _ _
  refine wcond _ rfl (fun hc1=>?_) (fun hc1=>?_)
  ·have hi:x1 < r:=by have:=d_t hc1;omega
   refine wskip ?_
   show AWp _ _ _ _ _
   refine wseq ?_
   refine wblock ?_
   refine wseq ?_
   refine wreg fun K hK=>?_
   simp [C.impl_mutated]
   refine hK _ ?_;clear hK K
   show AWp _ _ _ _ _
   refine wblock ?_
   refine wloop (fun x:Nat=>⟨ofL [(1,.int k),(2,.pt (2,0) [] 0),(4,.pt (4,0) [] 0),(5,.pt (5,0) [] 0),(6,.int x1),(7,.int x)],ofRO [((2,0),some (.bx [D.int n,D.int r,shI m.d])),((4,0),some (.bx [D.int 0,D.int 0,.v (.slice none 0 0)])),((5,0),some (.bx [D.int n,D.int r,.ow 1 m.d.length (ints ((muD m k).take (x1*n+x) ++ m.d.drop (x1*n+x)))]))]⟩) (fun x=>x<=n) (fun x=>n - x) 0 (by simp [C.impl_mutated]) (by simp) ?_
   intro x2 hx2 R2 hR2
   refine wseq ?_
   refine wseq ?_
   refine wreg fun K hK=>?_
   simp [C.impl_mutated]
   refine hK _ ?_;clear hK K
   show AWp _ _ _ _ _
   refine wcond _ rfl (fun hc2=>?_) (fun hc2=>?_)
   ·have hj:x2 < n:=by have:=d_t hc2;omega
    obtain ⟨q,hq⟩:∃ q,q=x1*n+x2:=⟨_,rfl⟩
    have hqe:(x1:Int)*n+x2=(q:Int):=by rw [hq];simp
    have hqL:q < m.d.length:=by
     rw [hL,hq]
     have h1:(x1+1)*n<=r*n:=Nat.mul_le_mul_right _ (by omega)
     rw [Nat.add_mul] at h1
     omega
    have hq0:IntKind.i64.wrap ((x1:Int)*n)=(x1:Int)*n:=by
     have:(x1:Int)*n=((x1*n:Nat):Int):=by simp
     rw [this]
     exact wrapOk (by omega) (by omega)
    have hq1:IntKind.i64.wrap ((x1:Int)*n+x2)=(q:Int):=by rw [hqe];exact wrapOk (by omega) (by omega)
    have hg:=mix_get (muD m k) m.d q hqL (by simp)
    have hst:=mix_set (muD m k) m.d q (by simpa using hqL) (by simp)
    have hmu:(muD m k)[q]'(by simpa using hqL)=muE (bM m) k x1 x2:=by
     have:=muD_get m k x1 x2 (by omega) (by rw [hnn,← hq];exact hqL)
     simp only [hnn,← hq] at this
     exact this
    have hdq:m.d[q]=bM m x1 x2:=by
     obtain ⟨h1,h2⟩:=bM_get hS (i:=x1) (j:=x2) (by omega) (by omega)
     rw [← h2]
     congr 1
     rw [hnn,hq]
    rw [hmu] at hst
    rw [← hq]
    have hml:((muD m k).take q ++ m.d.drop q).length=m.d.length:=by simp;omega
    generalize hM:(muD m k).take q ++ m.d.drop q=M at hg hst hml
    have hMq:M[q]'(by omega)=bM m x1 x2:=by
     rw [List.getElem?_eq_getElem (by omega)] at hg
     injection hg with hg
     rw [hg,hdq]
    have b0:=bM_bd hS x1 x2
    have b1:=bM_bd hS x1 k
    have b2:=bM_bd hS k x2
    have hat1:=at_calls hn hS (i:=x1) (j:=k) (by omega) hk
    have hat2:=at_calls hn hS (i:=k) (j:=x2) (by omega) hj
    rw [hr] at hat1 hat2
    obtain ⟨A,hA⟩:∃ A,A=bM m x1 k:=⟨_,rfl⟩
    obtain ⟨B,hB⟩:∃ B,B=bM m k x2:=⟨_,rfl⟩
    obtain ⟨X,hX⟩:∃ X,X=bM m x1 x2:=⟨_,rfl⟩
    have hmuv:muE (bM m) k x1 x2=if x1=k\/x2=k then -X else if 0 < A/\0 < B then X+A*B else if A < 0/\B < 0 then X - A*B else X:=by rw [hA,hB,hX];rfl
    rw [hmuv] at hst
    rw [← hA] at hat1 b1
    rw [← hB] at hat2 b2
    rw [← hX] at hMq b0
    have hab:(A*B).natAbs<=99*99:=by rw [Int.natAbs_mul];exact Nat.mul_le_mul b1 b2
    clear hmuv hA hB hX hmu hdq hM
    have hwab:IntKind.i64.wrap (A*B)=A*B:=wrapOk (by omega) (by omega)
    refine wskip ?_
    show AWp _ _ _ _ _
    refine wseq ?_
    refine wblock ?_
    refine wseq ?_
    refine wreg fun K hK=>?_
    simp [C.impl_mutated,hq0,hq1,show (q:Int) < m.d.length by omega,hqL]
    refine hK _ ?_;clear hK K
    show AWp _ _ _ _ _
    refine wseq ?_
    refine wdrawI [(true,0),(true,1),(true,2),(true,4),(true,5),(true,6),(false,3),(false,7),(true,8),(true,9)] ⟨by kernel_rfl,by kernel_rfl⟩ ([0,1,2,4,5,6,3] ++ ([7] ++ ([8,9]))) rfl fun K hK=>?_
    refine opsI_seg fun L hL=>?_
    simp [C.impl_mutated]
    refine wcall1 (hat1) (by simp) (by simp) ?_
    simp [C.impl_mutated]
    refine hL _ ?_;clear hL L
    refine opsI_seg fun L hL=>?_
    simp [C.impl_mutated]
    refine wcall1 (hat2) (by simp) (by simp) ?_
    simp [C.impl_mutated]
    refine hL _ ?_;clear hL L
    refine opsI_end fun L hL=>?_
    simp [C.impl_mutated]
    refine hL _ ?_;clear hL L
    simp [C.impl_mutated]
    refine hK _ ?_;clear hK K
    show AWp _ _ _ _ _
    refine wblock ?_
    refine wseq ?_
    refine wreg fun K hK=>?_
    have hJ:K ⟨ofL [(1,.int k),(2,.pt (2,0) [] 0),(4,.pt (4,0) [] 0),(5,.pt (5,0) [] 0),(6,.int x1),(7,.int x2),(8,.pt (5,0) [2] q),(9,.int A),(10,.int B),(48,.bool (decide (x1=k\/x2=k)))],ofRO [((2,0),some (.bx [D.int n,D.int r,shI m.d])),((4,0),some (.bx [D.int 0,D.int 0,.v (.slice none 0 0)])),((5,0),some (.bx [D.int n,D.int r,.ow 1 m.d.length (ints M)]))]⟩:=by
     refine hK _ ?_;clear hK K
     show AWp _ _ _ _ _
     refine wcond _ rfl (fun hc3=>?_) (fun hc3=>?_)
     ·have h3:=d_t hc3
      rw [if_pos h3] at hst
      refine wreg fun K hK=>?_
      simp [C.impl_mutated,get_ints,hml,hqL,hMq,wrapOk (x:=-X) (by omega) (by omega),hst]
      refine hK _ ?_;clear hK K
      show AWp _ _ _ _ _
      refine wreg fun K hK=>?_
      simp [C.impl_mutated,wrap_succ (show x2 < 4611686018427387904 by omega)]
      refine hK _ ?_;clear hK K
      simp [C.impl_mutated]
      refine cast (congrArg R2 ?_) (hR2 (x2+1) hj (by omega))
      simp [← Nat.add_assoc,← hq]
     ·have h3:=d_f hc3
      rw [if_neg h3] at hst
      refine wseq ?_
      refine wreg fun K hK=>?_
      have hJ:K ⟨ofL [(1,.int k),(2,.pt (2,0) [] 0),(4,.pt (4,0) [] 0),(5,.pt (5,0) [] 0),(6,.int x1),(7,.int x2),(8,.pt (5,0) [2] q),(9,.int A),(10,.int B),(63,.bool (decide (0 < A/\0 < B)))],ofRO [((2,0),some (.bx [D.int n,D.int r,shI m.d])),((4,0),some (.bx [D.int 0,D.int 0,.v (.slice none 0 0)])),((5,0),some (.bx [D.int n,D.int r,.ow 1 m.d.length (ints M)]))]⟩:=by
       refine hK _ ?_;clear hK K
       show AWp _ _ _ _ _
       refine wcond _ rfl (fun hc4=>?_) (fun hc4=>?_)
       ·have h4:=d_t hc4
        rw [if_pos h4] at hst
        refine wreg fun K hK=>?_
        simp [C.impl_mutated,get_ints,hml,hqL,hMq,hwab,wrapOk (x:=X+A*B) (by omega) (by omega),hst]
        refine hK _ ?_;clear hK K
        show AWp _ _ _ _ _
        refine wreg fun K hK=>?_
        simp [C.impl_mutated,wrap_succ (show x2 < 4611686018427387904 by omega)]
        refine hK _ ?_;clear hK K
        simp [C.impl_mutated]
        refine cast (congrArg R2 ?_) (hR2 (x2+1) hj (by omega))
        simp [← Nat.add_assoc,← hq]
       ·have h4:=d_f hc4
        rw [if_neg h4] at hst
        refine wseq ?_
        refine wreg fun K hK=>?_
        have hJ:K ⟨ofL [(1,.int k),(2,.pt (2,0) [] 0),(4,.pt (4,0) [] 0),(5,.pt (5,0) [] 0),(6,.int x1),(7,.int x2),(8,.pt (5,0) [2] q),(9,.int A),(10,.int B),(78,.bool (decide (A < 0/\B < 0)))],ofRO [((2,0),some (.bx [D.int n,D.int r,shI m.d])),((4,0),some (.bx [D.int 0,D.int 0,.v (.slice none 0 0)])),((5,0),some (.bx [D.int n,D.int r,.ow 1 m.d.length (ints M)]))]⟩:=by
         refine hK _ ?_;clear hK K
         show AWp _ _ _ _ _
         refine wcond _ rfl (fun hc5=>?_) (fun hc5=>?_)
         ·have h5:=d_t hc5
          rw [if_pos h5] at hst
          refine wreg fun K hK=>?_
          simp [C.impl_mutated,get_ints,hml,hqL,hMq,hwab,wrapOk (x:=X - A*B) (by omega) (by omega),hst]
          refine hK _ ?_;clear hK K
          show AWp _ _ _ _ _
          refine wreg fun K hK=>?_
          simp [C.impl_mutated,wrap_succ (show x2 < 4611686018427387904 by omega)]
          refine hK _ ?_;clear hK K
          simp [C.impl_mutated]
          refine cast (congrArg R2 ?_) (hR2 (x2+1) hj (by omega))
          simp [← Nat.add_assoc,← hq]
         ·have h5:=d_f hc5
          rw [if_neg h5] at hst
          have hMM:M=(muD m k).take (q+1) ++ m.d.drop (q+1):=by
           rw [← hst]
           refine (List.ext_getElem? fun z=>?_)
           rw [List.getElem?_set]
           split
           ·rename_i e
            subst e
            rw [if_pos (by omega),List.getElem?_eq_getElem (by omega),hMq]
           ·rfl
          refine wskip ?_
          show AWp _ _ _ _ _
          refine wreg fun K hK=>?_
          simp [C.impl_mutated,wrap_succ (show x2 < 4611686018427387904 by omega)]
          refine hK _ ?_;clear hK K
          simp [C.impl_mutated]
          refine cast (congrArg R2 ?_) (hR2 (x2+1) hj (by omega))
          simp [← Nat.add_assoc,← hq,← hMM]
        clear hK
        by_cases h1:A < 0
        ·simp [C.impl_mutated,h1]
         refine cast (congrArg K ?_) hJ
         simp [h1]
        ·simp [C.impl_mutated,h1]
         refine cast (congrArg K ?_) hJ
         simp [h1]
      clear hK
      by_cases h1:0 < A
      ·simp [C.impl_mutated,h1]
       refine cast (congrArg K ?_) hJ
       simp [h1]
      ·simp [C.impl_mutated,h1]
       refine cast (congrArg K ?_) hJ
       simp [h1]
    clear hK
    by_cases h1:x1=k
    ·simp [C.impl_mutated,natbeq,h1]
     refine cast (congrArg K ?_) hJ
     simp [natbeq,h1]
    ·simp [C.impl_mutated,natbeq,h1]
     refine cast (congrArg K ?_) hJ
     simp [natbeq,h1]
   ·have hj:x2=n:=by have:=d_f hc2;omega
    refine wexit ?_
    show AWp _ _ _ _ _
    refine wreg fun K hK=>?_
    simp [C.impl_mutated,wrap_succ (show x1 < 4611686018427387904 by omega)]
    refine hK _ ?_;clear hK K
    simp [C.impl_mutated]
    refine cast (congrArg R1 ?_) (hR1 (x1+1) hi (by omega))
    simp [Nat.add_mul,hj]
  ·have hi:x1=r:=by have:=d_f hc1;omega
   have htk:List.take (x1*n) (muD m k) ++ List.drop (x1*n) m.d=muD m k:=by
    rw [hi,← hL,List.take_of_length_le (by simp),List.drop_length,List.append_nil]
   refine wexit ?_
   show AWp _ _ _ _ _
   refine wseq ?_
   refine wreg fun K hK=>?_
   simp [C.impl_mutated]
   refine hK _ ?_;clear hK K
   show AWp _ _ _ _ _
   refine wret ?_
   simp [C.impl_mutated,mO,muM,htk,hn,hr]
 clear hK
 simp [C.impl_mutated]
 repeat' first
  | (refine wcall1 (clone_calls m.d (by omega)) ?_ (by simp) ?_;(focus (simp;done));simp [C.impl_mutated])
  | (refine cast (congrArg K ?_) hJ;simp;done)
  | refine And.intro ?_ ?_
theorem impl_MutateMatrix_calls (m:Mat) (k:Int) (hx:m.d.length < 17592186044416):ACalls Tryz.prog F.impl_MutateMatrix [aM m,.int k] [] true (fun outs res=>outs=[]/\WkRs res [.ag (mO (muF m k).1),.one (D.bool (muF m k).2)]):=by
 refine ACalls.of_body (C:=C.impl_MutateMatrix) (n:=Tryz.f52.ntmps) tabT folT Tryz.func52 rfl (by kernel_rfl) rfl (Nat.le_of_ble_eq_true rfl) (by decide) (by kernel_rfl) (by kernel_rfl) rfl (by simp) (by simp) ?_
 simp only [Tryz.f52]
 refine wseq ?_
 refine wreg fun K hK=>?_
 simp [C.impl_MutateMatrix,mO]
 refine hK _ ?_;clear hK K
 show AWp _ _ _ _ _
 refine wseq ?_
 refine wseq ?_
 refine wregI ([0,1] ++ ([2,3,4,5,6,7,8] ++ ([9,10]))) rfl fun K hK=>?_
 have hJ:K ⟨ofL [(1,.int k),(2,.pt (2,0) [] 0),(4,.pt (4,0) [] 0),(17,.bool (!decide (MatOK m/\(0<=k/\k < m.n))))],ofRO [((2,0),some (.bx [D.int m.n,D.int m.r,shI m.d])),((4,0),some (.bx [D.int 0,D.int 0,.v (.slice none 0 0)]))]⟩:=by
  refine hK _ ?_;clear hK K
  show AWp _ _ _ _ _
  refine wcond _ rfl (fun hc1=>?_) (fun hc1=>?_)
  ·have hr:=nd_t hc1
   have hm:muF m k=(⟨0,0,[]⟩,false):=if_neg (fun h=>hr ⟨h.1,h.2.1⟩)
   refine wseq ?_
   refine wreg fun K hK=>?_
   simp [C.impl_MutateMatrix,mO]
   refine hK _ ?_;clear hK K
   show AWp _ _ _ _ _
   refine wret ?_
   simp [C.impl_MutateMatrix,mO,hm,ints]
  ·have hr:=nd_f hc1
   obtain ⟨hok,hk⟩:=hr
   have hS:=hok.1
   obtain ⟨n,hn⟩:∃ n:Nat,m.n=n:=⟨m.n.toNat,by have:=hS.1;omega⟩
   obtain ⟨r,hr⟩:∃ r:Nat,m.r=r:=⟨m.r.toNat,by have:=hS.1;have:=hS.2.1;omega⟩
   obtain ⟨k,rfl⟩:∃ j:Nat,k=j:=⟨k.toNat,by omega⟩
   have hcall:=impl_mutated_calls m n r k hn hr hS (by omega)
   have hm:muF m k=if MatOK (muM m k) then (muM m k,true) else (⟨0,0,[]⟩,false):=by
    unfold muF
    rw [Int.toNat_natCast]
    by_cases q:MatOK (muM m k)
    ·rw [if_pos ⟨hok,hk,q⟩,if_pos q]
    ·rw [if_neg (fun h=>q h.2.2),if_neg q]
   have hml:(muM m k).d.length < 17592186044416:=by
    show (muD m k).length < _
    simpa using hx
   refine wskip ?_
   show AWp _ _ _ _ _
   refine wseq ?_
   refine wregI ([0,1,2] ++ ([3,4])) rfl fun K hK=>?_
   refine opsI_seg fun L hL=>?_
   simp [C.impl_MutateMatrix,mO,hn,hr]
   refine wcall1 (hcall) (by simp) (by simp) ?_
   simp [C.impl_MutateMatrix,mO,hn,hr]
   refine hL _ ?_;clear hL L
   refine opsI_end fun L hL=>?_
   simp [C.impl_MutateMatrix,mO,hn,hr]
   refine hL _ ?_;clear hL L
   simp [C.impl_MutateMatrix,mO,hn,hr]
   refine hK _ ?_;clear hK K
   show AWp _ _ _ _ _
   refine wseq ?_
   refine wseq ?_
   refine wregI ([0,1] ++ ([2])) rfl fun K hK=>?_
   refine opsI_seg fun L hL=>?_
   simp [C.impl_MutateMatrix,mO]
   refine wcall1 (impl_MatrixOkG_calls (muM m k) hml) (by simp) (by simp) ?_
   simp [C.impl_MutateMatrix,mO]
   refine hL _ ?_;clear hL L
   refine opsI_end fun L hL=>?_
   simp [C.impl_MutateMatrix,mO]
   refine hL _ ?_;clear hL L
   simp [C.impl_MutateMatrix,mO]
   refine hK _ ?_;clear hK K
   show AWp _ _ _ _ _
   refine wcond _ rfl (fun hc2=>?_) (fun hc2=>?_)
   ·have hno:=nd_t hc2
    refine wseq ?_
    refine wreg fun K hK=>?_
    simp [C.impl_MutateMatrix,mO]
    refine hK _ ?_;clear hK K
    show AWp _ _ _ _ _
    refine wret ?_
    simp [C.impl_MutateMatrix,mO,hm,hno,ints]
   ·have hyes:=nd_f hc2
    refine wskip ?_
    show AWp _ _ _ _ _
    refine wseq ?_
    refine wreg fun K hK=>?_
    simp [C.impl_MutateMatrix,mO]
    refine hK _ ?_;clear hK K
    show AWp _ _ _ _ _
    refine wret ?_
    simp [C.impl_MutateMatrix,mO,hm,hyes]
 clear hK
 by_cases h1:MatOK m
 ·have hwn:IntKind.i64.wrap (m.n - 1)=m.n - 1:=by have:=h1.1.1;exact wrapOk (by omega) (by omega)
  have hle:∀ x:Int,(x<=m.n - 1)=(x < m.n):=fun x=>by rw [eq_iff_iff];omega
  refine opsI_seg fun L hL=>?_
  simp [C.impl_MutateMatrix,mO,hwn,hle,h1]
  refine wcall1 (impl_MatrixOkG_calls m hx) (by simp) (by simp) ?_
  simp [C.impl_MutateMatrix,mO,hwn,hle,h1]
  refine hL _ ?_;clear hL L
  refine opsI_seg fun L hL=>?_
  simp [C.impl_MutateMatrix,mO,hwn,hle,h1]
  refine wcall1 (impl_within_calls k 0 (m.n - 1)) (by simp) (by simp) ?_
  simp [C.impl_MutateMatrix,mO,hwn,hle,h1]
  refine hL _ ?_;clear hL L
  refine opsI_end fun L hL=>?_
  simp [C.impl_MutateMatrix,mO,hwn,hle,h1]
  refine hL _ ?_;clear hL L
  simp [C.impl_MutateMatrix,mO,hwn,hle,h1]
  refine cast (congrArg K ?_) hJ
  simp [Bool.not_and,mO,h1]
 ·refine opsI_seg fun L hL=>?_
  simp [C.impl_MutateMatrix,mO,h1]
  refine wcall1 (impl_MatrixOkG_calls m hx) (by simp) (by simp) ?_
  simp [C.impl_MutateMatrix,mO,h1]
  refine hL _ ?_;clear hL L
  refine opsI_seg fun L hL=>?_
  simp [C.impl_MutateMatrix,mO,h1]
  refine hL _ ?_;clear hL L
  refine opsI_end fun L hL=>?_
  simp [C.impl_MutateMatrix,mO,h1]
  refine hL _ ?_;clear hL L
  simp [C.impl_MutateMatrix,mO,h1]
  refine cast (congrArg K ?_) hJ
  simp [Bool.not_and,mO,h1]
theorem iMu_calls (m:Mat) (k:Int) (hx:m.d.length < 17592186044416):ACalls Tryz.prog F.impl_MutateMatrix [aM m,.int k] [] true (fun outs res=>outs=[]/\res=[.ag (mO (muF m k).1),.one (D.bool (muF m k).2)]):=(impl_MutateMatrix_calls m k hx).weak1
end Go.Proofs.YtbhkonnakkhibaaGreat.Ab
namespace Go.Proofs.YtbhkonnakkhibaaGreat.Ab
open Go
set_option linter.unusedSectionVars false
section
variable {K:Type} [DecidableEq K]
structure Act (lt:K->K->Bool) (mul dv:K->K->K) (D:K->Prop):Prop where
 mul_dv:∀ a b,D a->D b->mul (dv a b) b=a
 dv_lt:∀ x y b,D x->D y->D b->lt x y=true->lt (dv x b) (dv y b)=true
 mul_lt:∀ e x y,D e->D x->D y->lt x y=true->lt (mul e x) (mul e y)=true
 dmul:∀ a b,D a->D b->D (mul a b)
 ddv:∀ a b,D a->D b->D (dv a b)
def mulT (mul:K->K->K) (e:K) (q:Int) (g:List (K×Int)):List (K×Int):=g.map fun y=>(mul e y.1,q*y.2)
def prodK (mul:K->K->K) (a g:List (K×Int)):List (K×Int):=a.flatMap fun x=>mulT mul x.1 x.2 g
def divGo (lt:K->K->Bool) (mul dv:K->K->K) (chk:K->Int->Bool) (g:List (K×Int)) (b:K) (d:Int):Nat->List (K×Int)->Option (List (K×Int))
 | _,[]=>some []
 | 0,_ :: _=>none
 | k+1,x :: R=>if x.2.tmod d=0/\chk (dv x.1 b) (x.2.tdiv d)=true then
   (divGo lt mul dv chk g b d k (nf lt (x :: R ++ mulT mul (dv x.1 b) (-(x.2.tdiv d)) g))).map ((dv x.1 b,x.2.tdiv d) :: ·) else none
variable {lt:K->K->Bool} {mul dv:K->K->K} {D:K->Prop} {chk chk':K->Int->Bool} {g:List (K×Int)} {b:K} {d:Int}
theorem co_mulT_neg (mul:K->K->K) (k e:K) (q:Int):∀ g:List (K×Int),co k (mulT mul e (-q) g)=-co k (mulT mul e q g)
 | []=>rfl
 | y :: g=>by
  simp only [mulT,List.map_cons,co]
  have:=co_mulT_neg mul k e q g
  simp only [mulT] at this
  rw [this]
  split
  ·rw [Int.neg_mul];omega
  ·omega
theorem divGo_chk:∀ (k:Nat) (R O:List (K×Int)),divGo lt mul dv chk g b d k R=some O->(∀ x∈O,chk' x.1 x.2=true)->divGo lt mul dv chk' g b d k R=some O
 | k,[],O,h,_=>by cases k <;> exact h
 | 0,x :: R,O,h,_=>by simp [divGo] at h
 | k+1,x :: R,O,h,hc=>by
  simp only [divGo] at h ⊢
  split at h
  ·rename_i h1
   obtain ⟨O',h2,h3⟩:=Option.map_eq_some_iff.1 h
   subst h3
   rw [if_pos ⟨h1.1,hc (dv x.1 b,x.2.tdiv d) (List.mem_cons_self ..)⟩,divGo_chk k _ O' h2 fun y hy=>hc y (by simp [hy])]
   rfl
  ·simp at h
theorem divGo_all:∀ (k:Nat) (R O:List (K×Int)),divGo lt mul dv chk g b d k R=some O->(∀ x∈O,chk x.1 x.2=true)/\O.length<=k
 | k,[],O,h=>by
  cases k <;> simp [divGo] at h <;> subst h <;> simp
 | 0,x :: R,O,h=>by simp [divGo] at h
 | k+1,x :: R,O,h=>by
  simp only [divGo] at h
  split at h
  ·rename_i h1
   obtain ⟨O',h2,h3⟩:=Option.map_eq_some_iff.1 h
   subst h3
   obtain ⟨h4,h5⟩:=divGo_all k _ O' h2
   refine ⟨fun y hy=>?_,by simp;omega⟩
   rcases List.mem_cons.1 hy with rfl | hy
   ·exact h1.2
   ·exact h4 y hy
  ·simp at h
theorem divGo_exact:∀ (k:Nat) (R O:List (K×Int)),divGo lt mul dv chk g b d k R=some O->∀ q,co q R=co q (prodK mul O g)
 | k,[],O,h,q=>by
  cases k <;> simp [divGo] at h <;> subst h <;> rfl
 | 0,x :: R,O,h,_=>by simp [divGo] at h
 | k+1,x :: R,O,h,q=>by
  simp only [divGo] at h
  split at h
  ·obtain ⟨O',h2,h3⟩:=Option.map_eq_some_iff.1 h
   subst h3
   have h4:=divGo_exact k _ O' h2 q
   rw [nf_co,co_append,co_mulT_neg] at h4
   simp only [prodK,List.flatMap_cons,co_append]
   simp only [prodK] at h4
   omega
  ·simp at h
theorem tmod_tdiv {a d:Int} (h:a.tmod d=0):a.tdiv d*d=a:=by
 have:=Int.mul_tdiv_add_tmod a d
 rw [h,Int.mul_comm] at this
 omega
theorem step_less (ho:Ord lt) (ha:Act lt mul dv D) {x:K×Int} {R:List (K×Int)} {G:List (K×Int)} (hR:Desc lt (x :: R)) (hRD:∀ y∈x :: R,D y.1) (hg:Desc lt ((b,d) :: G)) (hgD:∀ y∈(b,d) :: G,D y.1) (hm:x.2.tmod d=0) :
  (∀ y∈nf lt (x :: R ++ mulT mul (dv x.1 b) (-(x.2.tdiv d)) ((b,d) :: G)),lt y.1 x.1=true/\D y.1):=by
 intro y hy
 have hb:=hgD (b,d) (by simp)
 have hx:=hRD x (by simp)
 have hdv:=ha.ddv x.1 b hx hb
 have key:D y.1/\(y.1=x.1\/lt y.1 x.1=true):=by
  obtain ⟨z,hz,e⟩:=nf_mem hy
  rw [← e]
  rcases List.mem_append.1 hz with hz | hz
  ·refine ⟨hRD z hz,?_⟩
   rcases List.mem_cons.1 hz with rfl | hz
   ·exact .inl rfl
   ·exact .inr (List.rel_of_pairwise_cons hR hz)
  ·obtain ⟨u,hu,rfl⟩:=List.mem_map.1 hz
   refine ⟨ha.dmul _ _ hdv (hgD u hu),?_⟩
   rcases List.mem_cons.1 hu with rfl | hu2
   ·exact .inl (ha.mul_dv _ _ hx hb)
   ·right
    have:=ha.mul_lt (dv x.1 b) u.1 b hdv (hgD u hu) hb (List.rel_of_pairwise_cons hg hu2)
    rwa [ha.mul_dv _ _ hx hb] at this
 refine ⟨?_,key.1⟩
 rcases key.2 with e | h
 ·exfalso
  have hz:=nf_nz _ y hy
  have h1:co y.1 (nf lt (x :: R ++ mulT mul (dv x.1 b) (-(x.2.tdiv d)) ((b,d) :: G)))=y.2:=by
   have hd:=nf_desc ho (x :: R ++ mulT mul (dv x.1 b) (-(x.2.tdiv d)) ((b,d) :: G))
   generalize nf lt (x :: R ++ mulT mul (dv x.1 b) (-(x.2.tdiv d)) ((b,d) :: G))=N at hy hd
   clear hz e key
   induction N with
   | nil=>simp at hy
   | cons z N ih=>
    simp only [co]
    rcases List.mem_cons.1 hy with rfl | hy2
    ·rw [if_pos rfl,co_none _ _ (desc_tail_ne ho hd)]
     omega
    ·rw [if_neg (fun e=>desc_tail_ne ho hd y hy2 e.symm),ih hy2 (List.Pairwise.of_cons hd)]
     omega
  rw [nf_co,co_append,co_mulT_neg,e] at h1
  simp only [co,if_pos,mulT,List.map_cons,ha.mul_dv _ _ hx hb] at h1
  rw [co_none _ R (desc_tail_ne ho hR),co_none x.1 _ (fun z hz=>?_),tmod_tdiv hm] at h1
  ·exact hz (by omega)
  ·obtain ⟨u,hu,rfl⟩:=List.mem_map.1 hz
   have h2:=ha.mul_lt (dv x.1 b) u.1 b hdv (hgD u (by simp [hu])) hb (List.rel_of_pairwise_cons hg hu)
   rw [ha.mul_dv _ _ hx hb] at h2
   intro e3
   simp only at e3
   rw [e3,ho.irr] at h2
   simp at h2
 ·exact h
theorem divGo_desc (ho:Ord lt) (ha:Act lt mul dv D) {G:List (K×Int)} (hg:Desc lt ((b,d) :: G)) (hgD:∀ y∈(b,d) :: G,D y.1):∀ (k:Nat) (R O:List (K×Int)),divGo lt mul dv chk ((b,d) :: G) b d k R=some O->Desc lt R->(∀ y∈R,D y.1) ->
  Desc lt O/\(∀ x∈O,D x.1)/\∀ u,D u->(∀ y∈R,lt y.1 u=true)->∀ x∈O,lt x.1 (dv u b)=true
 | k,[],O,h,_,_=>by
  have e:O=[]:=by cases k <;> simp [divGo] at h <;> exact h
  subst e
  exact ⟨List.Pairwise.nil,by simp,by simp⟩
 | 0,x :: R,O,h,_,_=>by simp [divGo] at h
 | k+1,x :: R,O,h,hR,hRD=>by
  simp only [divGo] at h
  split at h
  ·rename_i h1
   obtain ⟨O',h2,h3⟩:=Option.map_eq_some_iff.1 h
   subst h3
   have hl:=step_less ho ha hR hRD hg hgD h1.1
   have hb:=hgD (b,d) (by simp)
   have hx:=hRD x (by simp)
   obtain ⟨i1,i2,i3⟩:=divGo_desc ho ha hg hgD k _ O' h2 (nf_desc ho _) fun y hy=>(hl y hy).2
   have i4:=i3 x.1 hx fun y hy=>(hl y hy).1
   refine ⟨List.Pairwise.cons (fun y hy=>i4 y hy) i1,fun y hy=>?_,fun u hu hlu y hy=>?_⟩
   ·rcases List.mem_cons.1 hy with rfl | hy
    ·exact ha.ddv _ _ hx hb
    ·exact i2 y hy
   ·have h5:=ha.dv_lt x.1 u b hx hu hb (hlu x (by simp))
    rcases List.mem_cons.1 hy with rfl | hy
    ·exact h5
    ·exact ho.tr _ _ _ (i4 y hy) h5
  ·simp at h
theorem co_single (ho:Ord lt):∀ {l:List (K×Int)} {x:K×Int},Desc lt l->x∈l->co x.1 l=x.2
 | [],x,_,h=>by simp at h
 | z :: l,x,hd,h=>by
  simp only [co]
  rcases List.mem_cons.1 h with rfl | h2
  ·rw [if_pos rfl,co_none _ _ (desc_tail_ne ho hd)]
   omega
  ·rw [if_neg (fun e=>desc_tail_ne ho hd x h2 e.symm),co_single ho (List.Pairwise.of_cons hd) h2]
   omega
theorem co_pair2 (ho:Ord lt):∀ {O g:List (K×Int)} {x y:K×Int},Desc lt O->Desc lt g->x∈O->y∈g->(∀ u∈O,∀ v∈g,mul u.1 v.1=mul x.1 y.1->u=x/\v=y)->co (mul x.1 y.1) (prodK mul O g)=x.2*y.2:=by
 intro O g x y hO hg hx hy hu
 have row:∀ u∈O,co (mul x.1 y.1) (mulT mul u.1 u.2 g)=if u=x then x.2*y.2 else 0:=by
  intro u huO
  by_cases e:u=x
  ·rw [if_pos e]
   subst e
   have:∀ l:List (K×Int),Desc lt l->(∀ v∈l,v∈g)->co (mul u.1 y.1) (mulT mul u.1 u.2 l)=if y∈l then u.2*y.2 else 0:=by
    intro l
    induction l with
    | nil=>intro _ _;simp [mulT,co]
    | cons z l ih=>
     intro hd hs
     have h1:=ih (List.Pairwise.of_cons hd) fun v hv=>hs v (by simp [hv])
     simp only [mulT,List.map_cons,co] at h1 ⊢
     rw [h1]
     by_cases e2:z=y
     ·subst e2
      have:z ∉ l:=fun hz=>desc_tail_ne ho hd z hz rfl
      rw [if_pos rfl,if_neg this,if_pos (by simp)]
      omega
     ·rw [if_neg (fun e3=>e2 (hu u hx z (hs z (by simp)) e3).2)]
      by_cases e4:y∈l
      ·rw [if_pos e4,if_pos (by simp [e4])];omega
      ·rw [if_neg e4,if_neg (by simp [e4,Ne.symm e2])];rfl
   rw [this g hg fun _ h=>h,if_pos hy]
  ·rw [if_neg e]
   refine co_none _ _ fun z hz=>?_
   obtain ⟨v,hv,rfl⟩:=List.mem_map.1 hz
   exact fun e3=>e (hu u huO v hv e3).1
 have:∀ l:List (K×Int),Desc lt l->(∀ u∈l,u∈O)->co (mul x.1 y.1) (prodK mul l g)=if x∈l then x.2*y.2 else 0:=by
  intro l
  induction l with
  | nil=>intro _ _;simp [prodK,co]
  | cons z l ih=>
   intro hd hs
   have h1:=ih (List.Pairwise.of_cons hd) fun v hv=>hs v (by simp [hv])
   simp only [prodK,List.flatMap_cons,co_append] at h1 ⊢
   rw [h1,row z (hs z (by simp))]
   by_cases e2:z=x
   ·subst e2
    have:z ∉ l:=fun hz=>desc_tail_ne ho hd z hz rfl
    rw [if_pos rfl,if_neg this,if_pos (by simp)]
    omega
   ·rw [if_neg e2]
    by_cases e4:x∈l
    ·rw [if_pos e4,if_pos (by simp [e4])];omega
    ·rw [if_neg e4,if_neg (by simp [e4,Ne.symm e2])];rfl
 rw [this O hO fun _ h=>h,if_pos hx]
def absK (l:List (K×Int)):Nat:=(l.map fun x=>x.2.natAbs).sum
theorem absK_append (l r:List (K×Int)):absK (l ++ r)=absK l+absK r:=by simp [absK]
theorem insK_abs (k:K) (c:Int):∀ l:List (K×Int),absK (insK lt k c l)<=c.natAbs+absK l/\(insK lt k c l).length<=l.length+1
 | []=>by
  simp only [insK]
  split <;> simp [absK]
 | x :: l=>by
  have ih:=insK_abs k c l
  simp only [insK]
  split
  ·split
   ·simp [absK];omega
   ·simp [absK];omega
  ·split
   ·split
    ·simp [absK]
    ·simp [absK]
   ·simp only [absK,List.map_cons,List.sum_cons,List.length_cons] at ih ⊢
    omega
theorem nf_abs:∀ l:List (K×Int),absK (nf lt l)<=absK l/\(nf lt l).length<=l.length
 | []=>by simp [nf,absK]
 | x :: l=>by
  have ih:=nf_abs l
  have h:=insK_abs (lt:=lt) x.1 x.2 (nf lt l)
  simp only [nf]
  simp only [absK,List.map_cons,List.sum_cons,List.length_cons] at ih h ⊢
  omega
theorem mulT_abs (e:K) (q:Int):∀ g:List (K×Int),absK (mulT mul e q g)=q.natAbs*absK g
 | []=>rfl
 | y :: g=>by
  have:=mulT_abs e q g
  simp only [absK,mulT,List.map_cons,List.sum_cons,List.map_map] at this ⊢
  rw [Int.natAbs_mul,Nat.mul_add]
  omega
@[simp] theorem mulT_length (e:K) (q:Int) (g:List (K×Int)):(mulT mul e q g).length=g.length:=by simp [mulT]
end
end Go.Proofs.YtbhkonnakkhibaaGreat.Ab
namespace Go.Proofs.YtbhkonnakkhibaaGreat.Ab
open Go
theorem addE_dv:∀ (a b:List Int),a.length=b.length->addE 1 (addE (-1) a b) b=a
 | [],[],_=>rfl
 | x :: a,y :: b,h=>by
  simp only [addE,addE_dv a b (by simpa using h)]
  congr 1
  omega
 | [],_ :: _,h=>by simp at h
 | _ :: _,[],h=>by simp at h
theorem lexlt_addE (k:Int):∀ (x y b:List Int),x.length=b.length->y.length=b.length->lexlt (addE k x b) (addE k y b)=lexlt x y
 | [],[],[],_,_=>rfl
 | u :: x,v :: y,w :: b,h1,h2=>by
  simp only [addE,lexlt,lexlt_addE k x y b (by simpa using h1) (by simpa using h2)]
  by_cases e:u=v
  ·rw [if_pos e,if_pos (by omega)]
  ·rw [if_neg e,if_neg (by omega)]
   congr 1
   simp only [eq_iff_iff]
   omega
 | [],_ :: _,_,h1,h2=>by simp at h1 h2;omega
 | _ :: _,[],_,h1,h2=>by simp at h1 h2;omega
 | _ :: _,_ :: _,[],h1,_=>by simp at h1
 | [],[],_ :: _,h1,_=>by simp at h1
theorem lexlt_addE2:∀ (e x y:List Int),e.length=x.length->e.length=y.length->lexlt (addE 1 e x) (addE 1 e y)=lexlt x y
 | [],[],[],_,_=>rfl
 | w :: e,u :: x,v :: y,h1,h2=>by
  simp only [addE,lexlt,lexlt_addE2 e x y (by simpa using h1) (by simpa using h2)]
  by_cases e:u=v
  ·rw [if_pos e,if_pos (by omega)]
  ·rw [if_neg e,if_neg (by omega)]
   congr 1
   simp only [eq_iff_iff]
   omega
 | [],_ :: _,_,h1,_=>by simp at h1
 | _ :: _,[],_,h1,_=>by simp at h1
 | [],[],_ :: _,_,h2=>by simp at h2
 | _ :: _,_ :: _,[],_,h2=>by simp at h2
theorem lauAct (n:Nat):Act lexlt (addE 1) (addE (-1)) (fun e=>e.length=n) where
 mul_dv a b h1 h2:=addE_dv a b (h1.trans h2.symm)
 dv_lt x y b h1 h2 h3 h:=by rw [lexlt_addE _ _ _ _ (h1.trans h3.symm) (h2.trans h3.symm)];exact h
 mul_lt e x y h1 h2 h3 h:=by rw [lexlt_addE2 _ _ _ (h1.trans h2.symm) (h1.trans h3.symm)];exact h
 dmul a b h1 h2:=by rw [addE_length _ _ _ (h1.trans h2.symm)];exact h1
 ddv a b h1 h2:=by rw [addE_length _ _ _ (h1.trans h2.symm)];exact h1
theorem least_of {α:Type} (f:α->Int):∀ l:List α,l≠[]->∃ x∈l,∀ y∈l,f x<=f y
 | [],h=>absurd rfl h
 | [x],_=>⟨x,by simp,by simp⟩
 | x :: y :: l,_=>by
  obtain ⟨z,hz,hm⟩:=least_of f (y :: l) (by simp)
  by_cases h:f x<=f z
  ·refine ⟨x,by simp,fun u hu=>?_⟩
   rcases List.mem_cons.1 hu with rfl | hu
   ·omega
   ·have:=hm u hu;omega
  ·refine ⟨z,by simp [hz],fun u hu=>?_⟩
   rcases List.mem_cons.1 hu with rfl | hu
   ·omega
   ·exact hm u hu
theorem getD_addE (k:Int) (i:Nat):∀ (a b:List Int),a.length=b.length->(addE k a b).getD i 0=a.getD i 0+k*b.getD i 0:=by
 induction i with
 | zero=>
  intro a b h
  match a,b,h with
  | [],[],_=>simp [addE]
  | x :: a,y :: b,_=>simp [addE]
 | succ i ih=>
  intro a b h
  match a,b,h with
  | [],[],_=>simp [addE]
  | x :: a,y :: b,h=>
   have:=ih a b (by simpa using h)
   simpa [addE,List.getD_cons_succ] using this
def wei (s:Int) (i:Nat) (e:List Int):Int:=s*(e.getD i 0*144115188075855872+keyA 0 e)
theorem wei_add (s:Int) (i:Nat) (a b:List Int) (h:a.length=b.length):wei s i (addE 1 a b)=wei s i a+wei s i b - s*keyA 0 (List.replicate a.length 0):=by
 unfold wei
 have:=keyA_add a b 0 0 0 h
 simp only [Int.add_zero,Int.sub_zero] at this
 rw [this,getD_addE 1 i a b h,← Int.mul_add,← Int.mul_sub]
 congr 1
 omega
theorem wei_bd {e:List Int} (hd:Dig e) (h8:e.length<=8):0<=keyA 0 e/\keyA 0 e < 144115188075855872:=by
 have:=keyA_key hd h8
 omega
theorem wei_inj {s:Int} (hs:s=1\/s=-1) {i:Nat} {a b:List Int} (hl:a.length=b.length) (ha:Dig a) (hb:Dig b) (h8:a.length<=8) (h:wei s i a=wei s i b):a=b:=by
 have h1:=wei_bd ha h8
 have h2:=wei_bd hb (by omega)
 refine keyA_inj hl ha hb (p:=0) ?_
 unfold wei at h
 rcases hs with rfl | rfl <;> omega
theorem wei_le {s:Int} (hs:s=1\/s=-1) {i:Nat} {a b:List Int} (ha:Dig a) (hb:Dig b) (h8:a.length<=8) (h8b:b.length<=8) (h:wei s i a<=wei s i b):s*a.getD i 0<=s*b.getD i 0:=by
 have h1:=wei_bd ha h8
 have h2:=wei_bd hb h8b
 unfold wei at h
 rcases hs with rfl | rfl <;> omega
theorem outer {s:Int} (hs:s=1\/s=-1) {n i:Nat} (h8:n<=8) {F O g:List (List Int×Int)} (hO:Desc lexlt O) (hg:Desc lexlt g) (hOz:Nz O) (hgz:Nz g) (hne:g≠[]) (hOD:∀ x∈O,x.1.length=n/\Dig x.1) (hgD:∀ x∈g,x.1.length=n/\Dig x.1)
  (hF:∀ q,co q F=co q (prodK (addE 1) O g)):∀ x∈O,∃ t∈F,∃ y∈g,(∀ z∈g,s*y.1.getD i 0<=s*z.1.getD i 0)/\s*t.1.getD i 0<=s*x.1.getD i 0+s*y.1.getD i 0:=by
 intro x hx
 obtain ⟨a,haO,ham⟩:=least_of (fun u:List Int×Int=>wei s i u.1) O (fun e=>by rw [e] at hx;simp at hx)
 obtain ⟨y,hyg,hym⟩:=least_of (fun u:List Int×Int=>wei s i u.1) g hne
 have ha:=hOD a haO
 have hy:=hgD y hyg
 have huniq:∀ u∈O,∀ v∈g,addE 1 u.1 v.1=addE 1 a.1 y.1->u=a/\v=y:=by
  intro u hu v hv e
  have h1:=hOD u hu
  have h2:=hgD v hv
  have e1:=wei_add s i u.1 v.1 (h1.1.trans h2.1.symm)
  have e2:=wei_add s i a.1 y.1 (ha.1.trans hy.1.symm)
  rw [e,e2,h1.1,ha.1] at e1
  have m1:wei s i a.1<=wei s i u.1:=ham u hu
  have m2:wei s i y.1<=wei s i v.1:=hym v hv
  have k1:u.1=a.1:=wei_inj (i:=i) hs (h1.1.trans ha.1.symm) h1.2 ha.2 (by omega) (by omega)
  have k2:v.1=y.1:=wei_inj (i:=i) hs (h2.1.trans hy.1.symm) h2.2 hy.2 (by omega) (by omega)
  have c1:=co_single lexOrd hO hu
  have c2:=co_single lexOrd hO haO
  have c3:=co_single lexOrd hg hv
  have c4:=co_single lexOrd hg hyg
  rw [k1] at c1
  rw [k2] at c3
  exact ⟨Prod.ext k1 (c1.symm.trans c2),Prod.ext k2 (c3.symm.trans c4)⟩
 have hc:=co_pair2 (mul:=addE 1) lexOrd hO hg haO hyg huniq
 have hnz:co (addE 1 a.1 y.1) F≠0:=by
  rw [hF,hc]
  exact Int.mul_ne_zero (hOz a haO) (hgz y hyg)
 obtain ⟨t,ht,et⟩:=co_mem hnz
 refine ⟨t,ht,y,hyg,fun z hz=>wei_le hs hy.2 (hgD z hz).2 (by omega) (by have:=(hgD z hz).1;omega) (hym z hz),?_⟩
 rw [et,getD_addE 1 i _ _ (ha.1.trans hy.1.symm)]
 have:=wei_le hs ha.2 (hOD x hx).2 (by omega) (by have:=(hOD x hx).1;omega) (ham x hx)
 rw [Int.one_mul,Int.mul_add]
 omega
def maxF (x:Int) (ts:List Trm) (i:Nat):Int:=ts.foldl (fun m t=>max m (t.e.getD i 0)) x
theorem maxF_snoc (x:Int) (ts:List Trm) (t:Trm) (i:Nat):maxF x (ts ++ [t]) i=max (maxF x ts i) (t.e.getD i 0):=by simp [maxF,List.foldl_append]
theorem maxF_ge (x:Int) (i:Nat):∀ ts:List Trm,x<=maxF x ts i/\(∀ t∈ts,t.e.getD i 0<=maxF x ts i)/\(maxF x ts i=x\/∃ t∈ts,maxF x ts i=t.e.getD i 0):=by
 intro ts
 induction ts generalizing x with
 | nil=>simp [maxF]
 | cons t ts ih=>
  obtain ⟨h1,h2,h3⟩:=ih (max x (t.e.getD i 0))
  have e:maxF x (t :: ts) i=maxF (max x (t.e.getD i 0)) ts i:=rfl
  rw [e]
  refine ⟨by omega,fun u hu=>?_,?_⟩
  ·rcases List.mem_cons.1 hu with rfl | hu
   ·omega
   ·exact h2 u hu
  ·rcases h3 with h3 | ⟨u,hu,h3⟩
   ·by_cases hle:t.e.getD i 0<=x
    ·exact .inl (by rw [h3];omega)
    ·exact .inr ⟨t,by simp,by rw [h3];omega⟩
   ·exact .inr ⟨u,by simp [hu],h3⟩
def highA (x:Nat->Int) (ts:List Trm) (n:Nat):List Int:=(List.range n).map fun i=>maxF (x i) ts i
@[simp] theorem highA_length (x:Nat->Int) (ts:List Trm) (n:Nat):(highA x ts n).length=n:=by simp [highA]
theorem highA_get (x:Nat->Int) (ts:List Trm) (n i:Nat) (h:i < n):(highA x ts n)[i]'(by simpa using h)=maxF (x i) ts i:=by simp [highA]
theorem highA_start (ts:List Trm) (n:Nat) (h:0 < ts.length) (he:∀ t∈ts,t.e.length=n):highA (headE ts) [] n=(ts[0]'h).e:=by
 have:=lowA_start ts n h he
 rw [← this]
 unfold highA lowA minF maxF
 rfl
def highL (ts:List Trm) (n:Nat):List Int:=highA (headE ts) ts n
theorem headE_mem {ts:List Trm} (h:ts≠[]) (i:Nat):∃ t∈ts,headE ts i=t.e.getD i 0:=by
 match ts,h with
 | t :: ts,_=>exact ⟨t,by simp,rfl⟩
theorem lowL_at {ts:List Trm} (h:ts≠[]) {n i:Nat} (hi:i < n):(∀ t∈ts,(lowL ts n).getD i 0<=t.e.getD i 0)/\∃ t∈ts,(lowL ts n).getD i 0=t.e.getD i 0:=by
 have e:(lowL ts n).getD i 0=minF (headE ts i) ts i:=by
  rw [getD_eq (by simpa [lowL] using hi)]
  exact lowA_get _ _ _ _ hi
 rw [e]
 obtain ⟨_,h2,h3⟩:=minF_le (headE ts i) i ts
 refine ⟨h2,?_⟩
 rcases h3 with h3 | h3
 ·rw [h3];exact headE_mem h i
 ·exact h3
theorem highL_at {ts:List Trm} (h:ts≠[]) {n i:Nat} (hi:i < n):(∀ t∈ts,t.e.getD i 0<=(highL ts n).getD i 0)/\∃ t∈ts,(highL ts n).getD i 0=t.e.getD i 0:=by
 have e:(highL ts n).getD i 0=maxF (headE ts i) ts i:=by
  rw [getD_eq (by simpa [highL] using hi)]
  exact highA_get _ _ _ _ hi
 rw [e]
 obtain ⟨_,h2,h3⟩:=maxF_ge (headE ts i) i ts
 refine ⟨h2,?_⟩
 rcases h3 with h3 | h3
 ·rw [h3];exact headE_mem h i
 ·exact h3
def chkI (e:List Int) (q:Int):Bool:=decide ((∀ x∈e,-20<=x/\x<=20)/\q≠0/\-1000000<=q/\q<=1000000)
def inBox (f g:Lau) (n:Nat) (e:List Int):Prop:=∀ i,i < n->(lowL f.ts n).getD i 0 - (lowL g.ts n).getD i 0<=e.getD i 0/\e.getD i 0<=(highL f.ts n).getD i 0 - (highL g.ts n).getD i 0
instance (f g:Lau) (n:Nat) (e:List Int):Decidable (inBox f g n e):=Nat.decidableBallLT n _
def chkS (f g:Lau) (n:Nat) (e:List Int) (q:Int):Bool:=decide (inBox f g n e/\-1000000<=q/\q<=1000000)
def leadE (g:Lau):List Int:=match g.ts with | []=>[] | t :: _=>t.e
def leadC (g:Lau):Int:=match g.ts with | []=>1 | t :: _=>t.c
def divL (chk:List Int->Int->Bool) (g:Lau) (k:Nat) (R:List (List Int×Int)):Option (List (List Int×Int)):=divGo lexlt (addE 1) (addE (-1)) chk (g.ts.map pr) (leadE g) (leadC g) k R
noncomputable def endF (v:Int):Option (List (List Int×Int))->Lau×Bool
 | some O=>if Right ⟨v,O.map tm⟩ then (⟨v,O.map tm⟩,true) else (zeroF,false)
 | none=>(zeroF,false)
noncomputable def divF (f g:Lau):Lau×Bool:=if (Right f/\Right g/\f.v=g.v)/\g.ts≠[] then endF f.v (divL chkI g 600 (f.ts.map pr)) else (zeroF,false)
noncomputable def divS (f g:Lau):Lau×Bool:=if (Right f/\Right g/\f.v=g.v)/\g.ts≠[] then endF f.v (divL (chkS f g f.v.toNat) g 600 (f.ts.map pr)) else (zeroF,false)
theorem pr_desc {f:Lau} (h:Right f):Desc lexlt (f.ts.map pr):=by
 unfold Desc
 rw [List.pairwise_map]
 exact h.2.2.2
theorem pr_nz {f:Lau} (h:Right f):Nz (f.ts.map pr):=fun x hx=>by
 obtain ⟨t,ht,rfl⟩:=List.mem_map.1 hx
 exact (h.2.2.1 t ht).2.1
theorem pr_dig {f:Lau} {n:Nat} (h:Right f) (hn:f.v=n):∀ x∈f.ts.map pr,x.1.length=n/\Dig x.1:=fun x hx=>by
 obtain ⟨t,ht,rfl⟩:=List.mem_map.1 hx
 have:=right_he h hn t ht
 exact ⟨this.1,fun y hy=>by have:=this.2 y hy;omega⟩
theorem divS_eq (f g:Lau):divS f g=divF f g:=by
 unfold divS divF
 split
 ·rename_i hc
  obtain ⟨⟨hf,hg,hfg⟩,hne⟩:=hc
  obtain ⟨n,hn⟩:∃ n:Nat,f.v=n:=⟨f.v.toNat,by have:=hf.1;omega⟩
  have hgn:g.v=n:=by omega
  have hnt:f.v.toNat=n:=by omega
  have h8:n<=8:=by have:=hf.1;omega
  rw [hnt]
  have hgd:=pr_desc hg
  have hgm:g.ts.map pr=(leadE g,leadC g) :: (g.ts.tail.map pr):=by
   unfold leadE leadC
   match hh:g.ts,hne with
   | t :: ts,_=>rfl
  cases hI:divL chkI g 600 (f.ts.map pr) with
  | some O=>
   have hch:=(divGo_all _ _ _ hI).1
   have hOd:Desc lexlt O/\(∀ x∈O,x.1.length=n):=by
    unfold divL at hI
    rw [hgm] at hI hgd
    have:=divGo_desc (chk:=chkI) lexOrd (lauAct n) hgd (by rw [← hgm];exact fun y hy=>(pr_dig hg hgn y hy).1) 600 _ O hI (pr_desc hf) fun y hy=>(pr_dig hf hn y hy).1
    exact ⟨this.1,this.2.1⟩
   have hOz:Nz O:=fun x hx=>by
    have:=hch x hx
    simp only [chkI,decide_eq_true_eq] at this
    exact this.2.1
   have hex:=divGo_exact _ _ _ hI
   have hS:divL (chkS f g n) g 600 (f.ts.map pr)=some O:=by
    refine divGo_chk _ _ _ hI fun x hx=>?_
    have hcx:=hch x hx
    simp only [chkI,decide_eq_true_eq] at hcx
    simp only [chkS,decide_eq_true_eq]
    refine ⟨fun i hi=>?_,hcx.2.2⟩
    have hOD:∀ x∈O,x.1.length=n/\Dig x.1:=fun x hx=>⟨hOd.2 x hx,fun z hz=>by
     have:=hch x hx
     simp only [chkI,decide_eq_true_eq] at this
     have:=this.1 z hz
     omega⟩
    have hfne:f.ts≠[]:=by
     rintro e
     have:=outer (s:=1) (i:=i) (.inl rfl) h8 hOd.1 (pr_desc hg) hOz (pr_nz hg) (by simpa using hne) hOD (pr_dig hg hgn) hex x hx
     obtain ⟨t,ht,_⟩:=this
     rw [e] at ht
     simp at ht
    obtain ⟨lf1,_⟩:=lowL_at hfne hi
    obtain ⟨_,tl,htl,lg2⟩:=lowL_at hne hi
    obtain ⟨hf1,_⟩:=highL_at hfne hi
    obtain ⟨_,th,hth,hg2⟩:=highL_at hne hi
    obtain ⟨t,ht,y,hy,m1,m2⟩:=outer (s:=1) (i:=i) (.inl rfl) h8 hOd.1 (pr_desc hg) hOz (pr_nz hg) (by simpa using hne) hOD (pr_dig hg hgn) hex x hx
    obtain ⟨t',ht',y',hy',m1',m2'⟩:=outer (s:=-1) (i:=i) (.inr rfl) h8 hOd.1 (pr_desc hg) hOz (pr_nz hg) (by simpa using hne) hOD (pr_dig hg hgn) hex x hx
    obtain ⟨u,hu,rfl⟩:=List.mem_map.1 ht
    obtain ⟨u',hu',rfl⟩:=List.mem_map.1 ht'
    have a1:=lf1 u hu
    have a2:=m1 (pr tl) (List.mem_map.2 ⟨tl,htl,rfl⟩)
    have a3:=hf1 u' hu'
    have a4:=m1' (pr th) (List.mem_map.2 ⟨th,hth,rfl⟩)
    simp only [pr] at m2 m2' a2 a4
    constructor <;> omega
   rw [hS]
  | none=>
   cases hS:divL (chkS f g n) g 600 (f.ts.map pr) with
   | none=>rfl
   | some O=>
    simp only [endF]
    rw [if_neg]
    intro hr
    have:divL chkI g 600 (f.ts.map pr)=some O:=by
     refine divGo_chk _ _ _ hS fun x hx=>?_
     have:=hr.2.2.1 (tm x) (List.mem_map.2 ⟨x,hx,rfl⟩)
     simp only [chkI,decide_eq_true_eq]
     exact ⟨this.2.2.2,this.2.1,this.2.2.1⟩
    rw [hI] at this
    simp at this
 ·rfl
end Go.Proofs.YtbhkonnakkhibaaGreat.Ab
namespace Go.Proofs.YtbhkonnakkhibaaGreat.Ab
open Go
structure DivJ (chk:List Int->Int->Bool) (f g:Lau) (n:Nat) (R O:List (List Int×Int)):Prop where
 run:divL chk g 600 (f.ts.map pr)=(divL chk g (600 - O.length) R).map (O ++ ·)
 ol:O.length<=600
 rd:Desc lexlt R
 rl:∀ y∈R,y.1.length=n/\∀ z∈y.1,-60<=z/\z<=60
 ra:absK R<=600000000+O.length*600000000000000
 rn:R.length<=600+O.length*600
 od:∀ x∈O,x.1.length=n/\∀ z∈x.1,-40<=z/\z<=40
theorem absK_le {l:List (List Int×Int)} {B:Nat} (h:∀ x∈l,x.2.natAbs<=B):absK l<=l.length*B:=by
 induction l with
 | nil=>simp [absK]
 | cons x l ih=>
  have h1:=h x (by simp)
  have h2:=ih fun y hy=>h y (by simp [hy])
  simp only [absK,List.map_cons,List.sum_cons,List.length_cons,Nat.add_mul,Nat.one_mul] at h2 ⊢
  omega
theorem right_absK {f:Lau} (h:Right f):absK (f.ts.map pr)<=600000000:=by
 have h1:absK (f.ts.map pr)<=(f.ts.map pr).length*1000000:=absK_le fun x hx=>by
  obtain ⟨t,ht,rfl⟩:=List.mem_map.1 hx
  have:=(h.2.2.1 t ht).2.2.1
  simp only [pr]
  omega
 have h2:=h.2.1
 simp only [List.length_map] at h1
 exact Nat.le_trans h1 (by omega)
theorem DivJ.start (chk:List Int->Int->Bool) {f g:Lau} {n:Nat} (hf:Right f) (hn:f.v=n):DivJ chk f g n (f.ts.map pr) []:=by
 refine ⟨?_,by simp,pr_desc hf,fun y hy=>?_,by simpa using right_absK hf,by simpa using hf.2.1,by simp⟩
 ·simp only [List.length_nil,Nat.sub_zero,List.nil_append]
  cases divL chk g 600 (f.ts.map pr) <;> rfl
 ·obtain ⟨t,ht,rfl⟩:=List.mem_map.1 hy
  have:=right_he hf hn t ht
  exact ⟨this.1,fun z hz=>by have:=this.2 z hz;omega⟩
theorem DivJ.dig {chk:List Int->Int->Bool} {f g:Lau} {n:Nat} {R O:List (List Int×Int)} (h:DivJ chk f g n R O):∀ y∈R,y.1.length=n/\Dig y.1:=fun y hy=>⟨(h.rl y hy).1,fun z hz=>by have:=(h.rl y hy).2 z hz;omega⟩
theorem DivJ.done {chk:List Int->Int->Bool} {f g:Lau} {n:Nat} {O:List (List Int×Int)} (h:DivJ chk f g n [] O):divL chk g 600 (f.ts.map pr)=some O:=by
 rw [h.run]
 cases 600 - O.length <;> simp [divL,divGo]
theorem DivJ.fail {chk:List Int->Int->Bool} {f g:Lau} {n:Nat} {x:List Int×Int} {R O:List (List Int×Int)} (h:DivJ chk f g n (x :: R) O) (hc:¬ (x.2.tmod (leadC g)=0/\chk (addE (-1) x.1 (leadE g)) (x.2.tdiv (leadC g))=true)\/O.length=600):divL chk g 600 (f.ts.map pr)=none:=by
 rw [h.run]
 rcases Nat.eq_zero_or_pos (600 - O.length) with e | e
 ·rw [e];rfl
 ·obtain ⟨k,hk⟩:∃ k,600 - O.length=k+1:=⟨600 - O.length - 1,by omega⟩
  rw [hk]
  rcases hc with hc | hc
  ·simp only [divL,divGo]
   rw [if_neg hc]
   rfl
  ·omega
def stepL (g:Lau) (x:List Int×Int) (R:List (List Int×Int)):List (List Int×Int):=x :: R ++ mulT (addE 1) (addE (-1) x.1 (leadE g)) (-(x.2.tdiv (leadC g))) (g.ts.map pr)
theorem addE_bd {B C:Int}:∀ {a b:List Int} {k:Int},(k=1\/k=-1)->a.length=b.length->(∀ z∈a,-B<=z/\z<=B)->(∀ z∈b,-C<=z/\z<=C)->∀ z∈addE k a b,-(B+C)<=z/\z<=B+C
 | [],[],k,_,_,_,_=>by simp [addE]
 | x :: a,y :: b,k,hk,h,ha,hb=>by
  intro z hz
  have h1:=ha x (by simp)
  have h2:=hb y (by simp)
  simp only [addE,List.mem_cons] at hz
  rcases hz with rfl | hz
  ·rcases hk with rfl | rfl <;> omega
  ·exact addE_bd hk (by simpa using h) (fun z hz=>ha z (by simp [hz])) (fun z hz=>hb z (by simp [hz])) z hz
 | [],_ :: _,_,_,h,_,_=>by simp at h
 | _ :: _,[],_,_,h,_,_=>by simp at h
theorem DivJ.step {chk:List Int->Int->Bool} {f g:Lau} {n:Nat} {x:List Int×Int} {R O:List (List Int×Int)} (h:DivJ chk f g n (x :: R) O) (hg:Right g) (hgn:g.v=n) (hm:x.2.tmod (leadC g)=0) (hc:chk (addE (-1) x.1 (leadE g)) (x.2.tdiv (leadC g))=true) (h6:O.length < 600)
  (hel:(addE (-1) x.1 (leadE g)).length=n) (hb:∀ z∈addE (-1) x.1 (leadE g),-40<=z/\z<=40) (hq:-1000000<=x.2.tdiv (leadC g)/\x.2.tdiv (leadC g)<=1000000) :
  DivJ chk f g n (nf lexlt (stepL g x R)) (O ++ [(addE (-1) x.1 (leadE g),x.2.tdiv (leadC g))]):=by
 have hga:=right_absK hg
 have hgl:=hg.2.1
 have hab:=nf_abs (lt:=lexlt) (stepL g x R)
 have hlen:(O ++ [(addE (-1) x.1 (leadE g),x.2.tdiv (leadC g))]).length=O.length+1:=by simp
 refine ⟨?_,by omega,nf_desc lexOrd _,fun y hy=>?_,?_,?_,fun y hy=>?_⟩
 ·rw [h.run]
  obtain ⟨k,hk⟩:∃ k,600 - O.length=k+1:=⟨600 - O.length - 1,by omega⟩
  rw [hlen,hk,show 600 - (O.length+1)=k by omega]
  simp only [divL,divGo]
  rw [if_pos ⟨hm,hc⟩]
  simp only [Option.map_map,stepL]
  congr 1
  funext z
  simp
 ·obtain ⟨z,hz,e⟩:=nf_mem hy
  rw [← e]
  unfold stepL at hz
  rcases List.mem_append.1 hz with hz | hz
  ·exact h.rl z hz
  ·obtain ⟨u,hu,rfl⟩:=List.mem_map.1 hz
   obtain ⟨t,ht,rfl⟩:=List.mem_map.1 hu
   have ht2:=right_he hg hgn t ht
   refine ⟨by simp only [pr];rw [addE_length _ _ _ (hel.trans ht2.1.symm)];exact hel,?_⟩
   exact addE_bd (B:=40) (C:=20) (.inl rfl) (hel.trans ht2.1.symm) hb ht2.2
 ·refine Nat.le_trans hab.1 ?_
  unfold stepL
  rw [absK_append,mulT_abs,hlen]
  have h1:=h.ra
  have h2:(-(x.2.tdiv (leadC g))).natAbs*absK (g.ts.map pr)<=1000000*600000000:=Nat.mul_le_mul (by omega) hga
  omega
 ·refine Nat.le_trans hab.2 ?_
  unfold stepL
  rw [List.length_append,mulT_length,List.length_map,hlen]
  have h1:=h.rn
  omega
 ·rcases List.mem_append.1 hy with hy | hy
  ·exact h.od y hy
  ·simp only [List.mem_singleton] at hy
   subst hy
   exact ⟨hel,hb⟩
theorem inBox_bd {f g:Lau} {n:Nat} (hf:Right f) (hg:Right g) (hn:f.v=n) (hgn:g.v=n) (hfne:f.ts≠[]) (hgne:g.ts≠[]) {e:List Int} (hl:e.length=n) (hb:inBox f g n e):∀ z∈e,-40<=z/\z<=40:=by
 intro z hz
 obtain ⟨i,hi,rfl⟩:=List.getElem_of_mem hz
 have h1:=hb i (by omega)
 obtain ⟨_,t1,ht1,q1⟩:=lowL_at hfne (show i < n by omega)
 obtain ⟨_,t2,ht2,q2⟩:=lowL_at hgne (show i < n by omega)
 obtain ⟨_,t3,ht3,q3⟩:=highL_at hfne (show i < n by omega)
 obtain ⟨_,t4,ht4,q4⟩:=highL_at hgne (show i < n by omega)
 have b:∀ {u:Lau} (hu:Right u) (hun:u.v=n) {t:Trm} (ht:t∈u.ts),-20<=t.e.getD i 0/\t.e.getD i 0<=20:=fun {u} hu hun {t} ht=>by
  have:=right_he hu hun t ht
  rw [getD_eq (by omega)]
  exact this.2 _ (List.getElem_mem _)
 have b1:=b hf hn ht1
 have b2:=b hg hgn ht2
 have b3:=b hf hn ht3
 have b4:=b hg hgn ht4
 rw [q1,q2,q3,q4,getD_eq hi] at h1
 omega
theorem lowL_bd {f:Lau} {n:Nat} (hf:Right f) (hn:f.v=n) (hne:f.ts≠[]) {i:Nat} (hi:i < n):(-20<=(lowL f.ts n).getD i 0/\(lowL f.ts n).getD i 0<=20)/\-20<=(highL f.ts n).getD i 0/\(highL f.ts n).getD i 0<=20:=by
 obtain ⟨_,t1,ht1,q1⟩:=lowL_at hne hi
 obtain ⟨_,t3,ht3,q3⟩:=highL_at hne hi
 have b:∀ {t:Trm} (ht:t∈f.ts),-20<=t.e.getD i 0/\t.e.getD i 0<=20:=fun {t} ht=>by
  have:=right_he hf hn t ht
  rw [getD_eq (by omega)]
  exact this.2 _ (List.getElem_mem _)
 rw [q1,q3]
 exact ⟨b ht1,b ht3⟩
theorem lead_get {g:Lau} (h:0 < g.ts.length):(g.ts[0]'h).e=leadE g/\(g.ts[0]'h).c=leadC g:=by
 unfold leadE leadC
 match hh:g.ts,h with
 | t :: ts,_=>simp
theorem step_coded {g:Lau} {n:Nat} (hg:Right g) (hgn:g.v=n) {x:List Int×Int} {R:List (List Int×Int)} (hR:∀ y∈x :: R,y.1.length=n/\Dig y.1) (hel:(addE (-1) x.1 (leadE g)).length=n) (hb:∀ z∈addE (-1) x.1 (leadE g),-40<=z/\z<=40) :
  nf ilt ((x :: R).map kc ++ (nf ilt (prodM (keyA 0 (List.replicate n 0)) [(keyA 0 (addE (-1) x.1 (leadE g)),x.2.tdiv (leadC g))] (g.ts.map kt))).map (fun y=>(y.1,-1*y.2)))=(nf lexlt (stepL g x R)).map kc:=by
 generalize he:addE (-1) x.1 (leadE g)=e at hel hb
 generalize hq:x.2.tdiv (leadC g)=q
 have h1:prodM (keyA 0 (List.replicate n 0)) [(keyA 0 e,q)] (g.ts.map kt)=(mulT (addE 1) e q (g.ts.map pr)).map kc:=by
  simp only [prodM,List.flatMap_cons,List.flatMap_nil,List.append_nil,mulT,List.map_map]
  apply List.map_congr_left
  intro t ht
  have ht2:=right_he hg hgn t ht
  have hk:=keyA_add e t.e 0 0 0 (hel.trans ht2.1.symm)
  simp only [Int.add_zero,Int.sub_zero] at hk
  simp only [Function.comp,pM,kt,kc,pr]
  rw [hk,hel]
 have hM:Exps n (mulT (addE 1) e q (g.ts.map pr)):=fun y hy=>by
  obtain ⟨u,hu,rfl⟩:=List.mem_map.1 hy
  obtain ⟨t,ht,rfl⟩:=List.mem_map.1 hu
  have ht2:=right_he hg hgn t ht
  refine ⟨by simp only [pr];rw [addE_length _ _ _ (hel.trans ht2.1.symm)];exact hel,fun z hz=>?_⟩
  have:=addE_bd (B:=40) (C:=20) (.inl rfl) (hel.trans ht2.1.symm) hb ht2.2 z hz
  omega
 rw [h1,nf_key _ hM,List.map_map]
 have h2:(fun y:Int×Int=>(y.1,-1*y.2)) ∘ kc=kc ∘ fun y:List Int×Int=>(y.1,-1*y.2):=rfl
 rw [h2,← List.map_map,← List.map_append,nf_key]
 ·congr 1
  refine nf_unique lexOrd (nf_desc lexOrd _) (nf_nz _) fun k=>?_
  rw [nf_co,stepL,he,hq,co_append,co_append,co_mulT_neg]
  congr 1
  have:∀ l:List (List Int×Int),co k (l.map fun y=>(y.1,-1*y.2))=-co k l:=fun l=>by
   induction l with
   | nil=>rfl
   | cons y l ih=>
    simp only [List.map_cons,co,ih]
    split <;> omega
  rw [this,nf_co]
 ·intro y hy
  rcases List.mem_append.1 hy with hy | hy
  ·exact hR y hy
  ·obtain ⟨z,hz,rfl⟩:=List.mem_map.1 hy
   exact nf_exps hM z hz
end Go.Proofs.YtbhkonnakkhibaaGreat.Ab
namespace Go.Proofs.YtbhkonnakkhibaaGreat.Ab
open Go
set_option maxRecDepth 10000
set_option maxHeartbeats 2000000
theorem spec_l2Most_calls (f:Lau) (n:Nat) (hn:f.v=n) (hn8:n<=8) (h0:0 < f.ts.length) (hl:f.ts.length<=600) (he:∀ t∈f.ts,t.e.length=n):ACalls Tryz.prog F.spec_l2Most [aF f] [] true (fun outs res=>outs=[]/\res=[.one (owI (highL f.ts n))]):=by
 have h0e:=he _ (List.getElem_mem h0)
 refine ACalls.of_body (C:=C.spec_l2Most) (n:=Tryz.f234.ntmps) tabT folT Tryz.func234 rfl (by kernel_rfl) rfl (Nat.le_of_ble_eq_true rfl) (by decide) (by kernel_rfl) (by kernel_rfl) rfl (by simp) (by simp) ?_
 simp only [Tryz.f234]
 refine wseq ?_
 refine wreg fun K hK=>?_
 simp [C.spec_l2Most,fS,hn]
 refine hK _ ?_;clear hK K
 show AWp _ _ _ _ _
 refine wseq ?_
 refine wregI ([0,1,2,3,4,5] ++ ([6])) rfl fun K hK=>?_
 refine opsI_seg fun L hL=>?_
 simp [C.spec_l2Most,fS,hn,h0,tS_0 h0]
 refine wcall1 (spec_l1Ints_calls f.ts[0].e (by omega)) (by simp) (by simp) ?_
 simp [C.spec_l2Most,fS,hn,h0,tS_0 h0]
 refine hL _ ?_;clear hL L
 refine opsI_end fun L hL=>?_
 simp [C.spec_l2Most,fS,hn,h0,tS_0 h0]
 refine hL _ ?_;clear hL L
 simp [C.spec_l2Most,fS,hn,h0,tS_0 h0]
 refine hK _ ?_;clear hK K
 show AWp _ _ _ _ _
 refine wseq ?_
 refine wseq ?_
 refine wreg fun K hK=>?_
 simp [C.spec_l2Most,fS,hn]
 refine hK _ ?_;clear hK K
 show AWp _ _ _ _ _
 refine wblock ?_
 refine wloop (fun x:Nat=>⟨ofL [(1,.pt (1,0) [] 0),(3,.al (3,0) [] 0 n),(4,.int x)],ofRO [((1,0),some (.bx (fS f))),((3,0),some (.ow 1 n (ints (highA (headE f.ts) (f.ts.take x) n))))]⟩) (fun x=>x<=f.ts.length) (fun x=>f.ts.length - x) 0 (by simp [C.spec_l2Most,fS,hn,highA_start f.ts n h0 he,h0e]) (by simp) ?_
 intro x1 hx1 R1 hR1
 refine wseq ?_
 refine wseq ?_
 refine wreg fun K hK=>?_
 simp [C.spec_l2Most,fS,hn]
 refine hK _ ?_;clear hK K
 show AWp _ _ _ _ _
 refine wcond _ rfl (fun hc1=>?_) (fun hc1=>?_)
 ·have h1:x1 < f.ts.length:=d_t hc1
  have h1e:=he _ (List.getElem_mem h1)
  refine wskip ?_
  show AWp _ _ _ _ _
  refine wseq ?_
  refine wblock ?_
  refine wseq ?_
  refine wreg fun K hK=>?_
  simp [C.spec_l2Most,fS,hn]
  refine hK _ ?_;clear hK K
  show AWp _ _ _ _ _
  refine wblock ?_
  refine wloop (fun x:Nat=>⟨ofL [(1,.pt (1,0) [] 0),(3,.al (3,0) [] 0 n),(4,.int x1),(5,.int x)],ofRO [((1,0),some (.bx (fS f))),((3,0),some (.ow 1 n (ints ((highA (headE f.ts) (f.ts.take (x1+1)) n).take x ++ (highA (headE f.ts) (f.ts.take x1) n).drop x))))]⟩) (fun x=>x<=n) (fun x=>n - x) 0 (by simp [C.spec_l2Most,fS,hn]) (by simp) ?_
  intro x2 hx2 R2 hR2
  refine wseq ?_
  refine wseq ?_
  refine wreg fun K hK=>?_
  simp [C.spec_l2Most,fS,hn]
  refine hK _ ?_;clear hK K
  show AWp _ _ _ _ _
  refine wcond _ rfl (fun hc2=>?_) (fun hc2=>?_)
  ·have h2:x2 < n:=by have:=d_t hc2;omega
   have hg1:=mix_get (highA (headE f.ts) (f.ts.take (x1+1)) n) (highA (headE f.ts) (f.ts.take x1) n) x2 (by simpa using h2) (by simp)
   have hg2:maxF (headE f.ts x2) (f.ts.take (x1+1)) x2=max (maxF (headE f.ts x2) (f.ts.take x1) x2) (f.ts[x1].e[x2]'(by omega)):=by
    rw [List.take_succ_eq_append_getElem h1,maxF_snoc,getD_eq (by omega)]
   have hset:=mix_set (highA (headE f.ts) (f.ts.take (x1+1)) n) (highA (headE f.ts) (f.ts.take x1) n) x2 (by simpa using h2) (by simp)
   rw [highA_get _ _ _ _ h2] at hset hg1
   rw [hg2] at hset
   have hlen:((highA (headE f.ts) (f.ts.take (x1+1)) n).take x2 ++ (highA (headE f.ts) (f.ts.take x1) n).drop x2).length=n:=by simp;omega
   generalize hM:(highA (headE f.ts) (f.ts.take (x1+1)) n).take x2 ++ (highA (headE f.ts) (f.ts.take x1) n).drop x2=M at hset hg1 hlen
   have h2M:x2 < M.length:=by omega
   rw [List.getElem?_eq_getElem h2M] at hg1
   have hg3:M[x2]=maxF (headE f.ts x2) (f.ts.take x1) x2:=by injection hg1
   rw [← hg3] at hset
   refine wskip ?_
   show AWp _ _ _ _ _
   refine wseq ?_
   refine wblock ?_
   refine wdrawI [(true,0),(true,1),(true,2),(true,3),(true,4),(true,5),(true,6),(true,7),(true,8),(true,9),(true,10),(true,11),(true,12),(true,13),(true,14),(true,15),(true,16),(false,17)] ⟨by kernel_rfl,by kernel_rfl⟩ ([0,1,2,3,4,5,6,7,8,9,10,11,12,13,14,15,16,17]) rfl fun K hK=>?_
   refine opsI_end fun L hL=>?_
   simp [C.spec_l2Most,fS,hn,h1,tS_0 h1,h1e,h2,hlen,get_ints,h2M]
   refine hL _ ?_;clear hL L
   simp [C.spec_l2Most,fS,hn,h1,tS_0 h1,h1e,h2,hlen,get_ints,h2M]
   refine hK _ ?_;clear hK K
   show AWp _ _ _ _ _
   refine wreg fun K hK=>?_
   simp [C.spec_l2Most,fS,hn,wrap_succ (show x2 < 4611686018427387904 by omega),hset,modify_const,ints_set]
   refine hK _ ?_;clear hK K
   simp [C.spec_l2Most,fS,hn]
   refine cast (congrArg R2 ?_) (hR2 (x2+1) h2 (by omega))
   simp [fS,hn]
  ·have h2:x2=n:=by have:=d_f hc2;omega
   refine wexit ?_
   show AWp _ _ _ _ _
   refine wreg fun K hK=>?_
   simp [C.spec_l2Most,fS,hn,wrap_succ (show x1 < 4611686018427387904 by omega)]
   refine hK _ ?_;clear hK K
   simp [C.spec_l2Most,fS,hn]
   refine cast (congrArg R1 ?_) (hR1 (x1+1) h1 (by omega))
   simp [fS,hn,h2,List.take_of_length_le,List.drop_of_length_le]
 ·have h1:x1=f.ts.length:=by have:=d_f hc1;omega
  refine wexit ?_
  show AWp _ _ _ _ _
  refine wseq ?_
  refine wreg fun K hK=>?_
  simp [C.spec_l2Most,fS,hn]
  refine hK _ ?_;clear hK K
  show AWp _ _ _ _ _
  refine wret ?_
  simp [C.spec_l2Most,fS,hn,h1,highL]
def scM (k:Int) (x:Int×Int):Int×Int:=(x.1,k*x.2)
theorem scM_abs (k:Int):∀ b:List (Int×Int),absL (b.map (scM k))=k.natAbs*absL b
 | []=>rfl
 | x :: b=>by
  have:=scM_abs k b
  simp only [absL,List.map_cons,List.sum_cons,scM] at this ⊢
  rw [Int.natAbs_mul,Nat.mul_add]
  simp only [List.map_map] at this ⊢
  omega
theorem scM_bd {k:Int} {b:List (Int×Int)} {x:Int×Int} (hx:x∈b) {B:Nat} (h:k.natAbs*absL b < B):-(B:Int) < k*x.2/\k*x.2 < B:=by
 have h1:=absL_mem hx
 have h2:(k*x.2).natAbs<=k.natAbs*absL b:=by
  rw [Int.natAbs_mul]
  exact Nat.mul_le_mul_left _ h1
 omega
theorem spec_l2Plus_calls (a b:List (Int×Int)) (k:Int) (hl:a.length+b.length<=1000000) (hc:absL a+k.natAbs*absL b < 4611686018427387904):ACalls Tryz.prog F.spec_l2Plus [.d (.sh 2 a.length (rows gM a)),.int k,.d (.sh 2 b.length (rows gM b))] [] true (fun outs res=>outs=[]/\res=[.one (.ow 2 (nf ilt (a ++ b.map (scM k))).length (rows gM (nf ilt (a ++ b.map (scM k)))))]):=by
 refine ACalls.of_body (C:=C.spec_l2Plus) (n:=Tryz.f199.ntmps) tabT folT Tryz.func199 rfl (by kernel_rfl) rfl (Nat.le_of_ble_eq_true rfl) (by decide) (by kernel_rfl) (by kernel_rfl) rfl (by simp) (by simp) ?_
 simp only [Tryz.f199]
 refine wseq ?_
 refine wreg fun K hK=>?_
 simp [C.spec_l2Plus]
 refine hK _ ?_;clear hK K
 show AWp _ _ _ _ _
 refine wseq ?_
 refine wreg fun K hK=>?_
 simp [C.spec_l2Plus,show a.length*16<=140737488355328 by omega]
 refine hK _ ?_;clear hK K
 show AWp _ _ _ _ _
 refine wseq ?_
 refine wseq ?_
 refine wreg fun K hK=>?_
 simp [C.spec_l2Plus]
 refine hK _ ?_;clear hK K
 show AWp _ _ _ _ _
 refine wblock ?_
 refine wloop (fun x:Nat=>⟨ofL [(1,.int k),(2,.d (.sh 2 b.length (rows gM b))),(7,.al (7,0) [] 0 (a.length+x)),(8,.int x)],ofRO [((7,0),some (.ow 2 (a.length+x) (rows gM (a ++ (b.take x).map (scM k)))))]⟩) (fun x=>x<=b.length) (fun x=>b.length - x) 0 (by simp [C.spec_l2Plus]) (by simp) ?_
 intro x1 hx1 R1 hR1
 refine wseq ?_
 refine wseq ?_
 refine wreg fun K hK=>?_
 simp [C.spec_l2Plus]
 refine hK _ ?_;clear hK K
 show AWp _ _ _ _ _
 refine wcond _ rfl (fun hc1=>?_) (fun hc1=>?_)
 ·have h1:x1 < b.length:=by have:=d_t hc1;omega
  have hbd:=scM_bd (List.getElem_mem h1) (show k.natAbs*absL b < 4611686018427387904 by omega)
  refine wskip ?_
  show AWp _ _ _ _ _
  refine wseq ?_
  refine wblock ?_
  refine wdrawI [(true,0),(true,1),(true,2),(true,3),(true,4),(true,5),(true,6),(true,7),(true,8),(true,9),(true,10),(true,11),(true,12),(true,13),(false,14),(false,15),(true,16)] ⟨by kernel_rfl,by kernel_rfl⟩ ([0,1,2,3,4,5,6,7,8,9,10,11,12,13,14,15,16]) rfl fun K hK=>?_
  refine opsI_end fun L hL=>?_
  simp [C.spec_l2Plus,h1,gM_0 h1,gM_1 h1,gM_snoc,wrapOk (x:=k*b[x1].2) (by omega) (by omega),show (a.length+x1+1)*16<=140737488355328 by omega]
  refine hL _ ?_;clear hL L
  simp [C.spec_l2Plus,h1,gM_0 h1,gM_1 h1,gM_snoc,wrapOk (x:=k*b[x1].2) (by omega) (by omega),show (a.length+x1+1)*16<=140737488355328 by omega]
  refine hK _ ?_;clear hK K
  show AWp _ _ _ _ _
  refine wreg fun K hK=>?_
  simp [C.spec_l2Plus,wrap_succ (show x1 < 4611686018427387904 by omega)]
  refine hK _ ?_;clear hK K
  simp [C.spec_l2Plus]
  refine cast (congrArg R1 ?_) (hR1 (x1+1) h1 (by omega))
  rw [List.take_succ_eq_append_getElem h1,List.map_append]
  simp [scM,Nat.add_assoc]
 ·have h1:x1=b.length:=by have:=d_f hc1;omega
  have htk:List.take b.length (List.map (scM k) b)=List.map (scM k) b:=List.take_of_length_le (by simp)
  refine wexit ?_
  show AWp _ _ _ _ _
  refine wseq ?_
  refine wregI ([0,1] ++ ([2])) rfl fun K hK=>?_
  refine opsI_seg fun L hL=>?_
  simp [C.spec_l2Plus,h1,htk]
  refine wcall1 (spec_l2Gather_calls (a ++ b.map (scM k)) (by simp;omega) (by rw [absL_append,scM_abs];omega)) (by simp [h1,htk]) (by simp) ?_
  simp [C.spec_l2Plus,h1,htk]
  refine hL _ ?_;clear hL L
  refine opsI_end fun L hL=>?_
  simp [C.spec_l2Plus,h1,htk]
  refine hL _ ?_;clear hL L
  simp [C.spec_l2Plus,h1,htk]
  refine hK _ ?_;clear hK K
  show AWp _ _ _ _ _
  refine wret ?_
  simp [C.spec_l2Plus]
@[simp] theorem lowL_length (ts:List Trm) (n:Nat):(lowL ts n).length=n:=by simp [lowL]
@[simp] theorem highL_length (ts:List Trm) (n:Nat):(highL ts n).length=n:=by simp [highL]
theorem kt_abs (ts:List Trm):absL (ts.map kt)=absK (ts.map pr):=by
 simp only [absL,absK,List.map_map]
 rfl
theorem kc_abs (l:List (List Int×Int)):absL (l.map kc)=absK l:=by
 simp only [absL,absK,List.map_map]
 rfl
theorem prodM_one (base k q:Int):∀ G:List (Int×Int),(prodM base [(k,q)] G).length=G.length/\absL (prodM base [(k,q)] G)=q.natAbs*absL G:=by
 intro G
 refine ⟨by simp [prodM_len],?_⟩
 simp only [prodM,List.flatMap_cons,List.flatMap_nil,List.append_nil]
 induction G with
 | nil=>rfl
 | cons y G ih=>
  simp only [absL,List.map_cons,List.sum_cons,List.map_map] at ih ⊢
  rw [Nat.mul_add,← ih,pM,Int.natAbs_mul]
theorem ieq600 (n:Nat):((n:Int) == 600)=decide (n=600):=by
 rw [Bool.eq_iff_iff];simp;omega
theorem kc_pr:kc ∘ pr=kt:=rfl
theorem endF_some (v:Int) (O:List (List Int×Int)):endF v (some O)=((if Right ⟨v,O.map tm⟩ then ⟨v,O.map tm⟩ else zeroF),decide (Right ⟨v,O.map tm⟩)):=by
 simp only [endF]
 split <;> simp_all
theorem shut_coded (O:List (List Int×Int)) (n:Nat) (hl:O.length<=1000000) (he:∀ x∈O,Dig x.1/\x.1.length=n) (hv:n<=8):ACalls Tryz.prog F.spec_l2Shut [.d (.sh 2 O.length (rows gM (O.map kc))),.int n] [] true (fun outs res=>outs=[]/\res=[.ag (fO (endF n (some O)).1),.one (D.bool (endF n (some O)).2)]):=by
 have:=l2Shut_calls (O.map tm) n (by simpa using hl) (fun t ht=>by
  obtain ⟨x,hx,rfl⟩:=List.mem_map.1 ht
  exact he x hx) hv
 simp only [List.length_map,List.map_map,kt_tm] at this
 rw [endF_some]
 exact this
theorem right_open {f:Lau} (h:Right f) {n:Nat} (hn:f.v=n) (h8:n<=8):∀ t∈f.ts,Dig t.e/\t.e.length<=8:=fun t ht=>by
 have:=right_he h hn t ht
 exact ⟨fun z hz=>by have:=this.2 z hz;omega,by omega⟩
theorem spec_l2Divide_calls (f g:Lau) (n:Nat) (hf:Right f) (hg:Right g) (hn:f.v=n) (hgn:g.v=n) (hgne:g.ts≠[]):ACalls Tryz.prog F.spec_l2Divide [aF f,aF g] [] true (fun outs res=>outs=[]/\WkRs res [.ag (fO (endF f.v (divL (chkS f g n) g 600 (f.ts.map pr))).1),.one (D.bool (endF f.v (divL (chkS f g n) g 600 (f.ts.map pr))).2)]):=by
 have hv:n<=8:=by have:=hf.1;omega
 have hfl:=hf.2.1
 have hgl:=hg.2.1
 have he:=right_he hf hn
 have heg:=right_he hg hgn
 have hG0:0 < g.ts.length:=List.length_pos_iff.2 hgne
 obtain ⟨hl1,hl2⟩:=lead_get hG0
 have hgood:=hg.2.2.1 _ (List.getElem_mem hG0)
 have hgle:=heg _ (List.getElem_mem hG0)
 rw [hl1] at hgle
 have hgc:leadC g≠0/\-1000000<=leadC g/\leadC g<=1000000:=by rw [← hl2];exact ⟨hgood.2.1,hgood.2.2.1⟩
 refine ACalls.of_body (C:=C.spec_l2Divide) (n:=Tryz.f200.ntmps) tabT folT Tryz.func200 rfl (by kernel_rfl) rfl (Nat.le_of_ble_eq_true rfl) (by decide) (by kernel_rfl) (by kernel_rfl) rfl (by simp) (by simp) ?_
 simp only [Tryz.f200]
 refine wseq ?_
 refine wreg fun K hK=>?_
 simp [C.spec_l2Divide,fS,hn,hgn]
 refine hK _ ?_;clear hK K
 show AWp _ _ _ _ _
 refine wseq ?_
 refine wregI ([0,1,2] ++ ([3])) rfl fun K hK=>?_
 refine opsI_seg fun L hL=>?_
 simp [C.spec_l2Divide,fS,hn,hgn]
 refine wcall1 (spec_l2Base_calls n hv) (by simp [fS,hn,hgn]) (by simp) ?_
 simp [C.spec_l2Divide,fS,hn,hgn]
 refine hL _ ?_;clear hL L
 refine opsI_end fun L hL=>?_
 simp [C.spec_l2Divide,fS,hn,hgn]
 refine hL _ ?_;clear hL L
 simp [C.spec_l2Divide,fS,hn,hgn]
 refine hK _ ?_;clear hK K
 show AWp _ _ _ _ _
 refine wseq ?_
 refine wregI ([0,1] ++ ([2])) rfl fun K hK=>?_
 refine opsI_seg fun L hL=>?_
 simp [C.spec_l2Divide,fS,hn,hgn]
 refine wcall1 (spec_l2Open_calls f (by omega) (right_open hf hn hv)) (by simp [fS,hn,hgn]) (by simp) ?_
 simp [C.spec_l2Divide,fS,hn,hgn]
 refine hL _ ?_;clear hL L
 refine opsI_end fun L hL=>?_
 simp [C.spec_l2Divide,fS,hn,hgn]
 refine hL _ ?_;clear hL L
 simp [C.spec_l2Divide,fS,hn,hgn]
 refine hK _ ?_;clear hK K
 show AWp _ _ _ _ _
 refine wseq ?_
 refine wregI ([0,1] ++ ([2])) rfl fun K hK=>?_
 refine opsI_seg fun L hL=>?_
 simp [C.spec_l2Divide,fS,hn,hgn]
 refine wcall1 (spec_l2Open_calls g (by omega) (right_open hg hgn hv)) (by simp [fS,hn,hgn]) (by simp) ?_
 simp [C.spec_l2Divide,fS,hn,hgn]
 refine hL _ ?_;clear hL L
 refine opsI_end fun L hL=>?_
 simp [C.spec_l2Divide,fS,hn,hgn]
 refine hL _ ?_;clear hL L
 simp [C.spec_l2Divide,fS,hn,hgn]
 refine hK _ ?_;clear hK K
 show AWp _ _ _ _ _
 refine wseq ?_
 refine wreg fun K hK=>?_
 simp [C.spec_l2Divide,fS,hn,hgn]
 refine hK _ ?_;clear hK K
 show AWp _ _ _ _ _
 refine wseq ?_
 refine wseq ?_
 refine wreg fun K hK=>?_
 simp [C.spec_l2Divide,fS,hn,hgn]
 refine hK _ ?_;clear hK K
 show AWp _ _ _ _ _
 refine wcond _ rfl (fun hc1=>?_) (fun hc1=>?_)
 ·have hf0:f.ts=[]:=by simpa using hc1
  have hd0:divL (chkS f g n) g 600 (f.ts.map pr)=some []:=by rw [hf0];rfl
  refine wseq ?_
  refine wregI ([0,1,2,3] ++ ([4,5,6,7])) rfl fun K hK=>?_
  refine opsI_seg fun L hL=>?_
  simp [C.spec_l2Divide,fS,hn,hgn,rows]
  refine wcall1 (shut_coded [] n (by simp) (by simp) hv) (by simp [fS,hn,hgn,rows]) (by simp) ?_
  simp [C.spec_l2Divide,fS,hn,hgn,rows]
  refine hL _ ?_;clear hL L
  refine opsI_end fun L hL=>?_
  simp [C.spec_l2Divide,fS,hn,hgn,rows]
  refine hL _ ?_;clear hL L
  simp [C.spec_l2Divide,fS,hn,hgn,rows]
  refine hK _ ?_;clear hK K
  show AWp _ _ _ _ _
  refine wret ?_
  simp [C.spec_l2Divide,fS,hn,hgn,hd0,fO]
 ·have hfne:f.ts≠[]:=by intro e;simp [e] at hc1
  have hF0:0 < f.ts.length:=List.length_pos_iff.2 hfne
  refine wskip ?_
  show AWp _ _ _ _ _
  refine wseq ?_
  refine wdrawI [(true,0),(true,2),(false,1),(false,3),(true,4),(true,5)] ⟨by kernel_rfl,by kernel_rfl⟩ ([0,2,1] ++ ([3] ++ ([4,5]))) rfl fun K hK=>?_
  refine opsI_seg fun L hL=>?_
  simp [C.spec_l2Divide,fS,hn,hgn]
  refine wcall1 (spec_l2Least_calls f n hn hv hF0 hfl (fun t ht=>(he t ht).1)) (by simp [fS,hn,hgn]) (by simp) ?_
  simp [C.spec_l2Divide,fS,hn,hgn]
  refine hL _ ?_;clear hL L
  refine opsI_seg fun L hL=>?_
  simp [C.spec_l2Divide,fS,hn,hgn]
  refine wcall1 (spec_l2Most_calls f n hn hv hF0 hfl (fun t ht=>(he t ht).1)) (by simp [fS,hn,hgn]) (by simp) ?_
  simp [C.spec_l2Divide,fS,hn,hgn]
  refine hL _ ?_;clear hL L
  refine opsI_end fun L hL=>?_
  simp [C.spec_l2Divide,fS,hn,hgn]
  refine hL _ ?_;clear hL L
  simp [C.spec_l2Divide,fS,hn,hgn]
  refine hK _ ?_;clear hK K
  show AWp _ _ _ _ _
  refine wseq ?_
  refine wdrawI [(true,0),(true,2),(false,1),(false,3),(true,4),(true,5)] ⟨by kernel_rfl,by kernel_rfl⟩ ([0,2,1] ++ ([3] ++ ([4,5]))) rfl fun K hK=>?_
  refine opsI_seg fun L hL=>?_
  simp [C.spec_l2Divide,fS,hn,hgn]
  refine wcall1 (spec_l2Least_calls g n hgn hv hG0 hgl (fun t ht=>(heg t ht).1)) (by simp [fS,hn,hgn]) (by simp) ?_
  simp [C.spec_l2Divide,fS,hn,hgn]
  refine hL _ ?_;clear hL L
  refine opsI_seg fun L hL=>?_
  simp [C.spec_l2Divide,fS,hn,hgn]
  refine wcall1 (spec_l2Most_calls g n hgn hv hG0 hgl (fun t ht=>(heg t ht).1)) (by simp [fS,hn,hgn]) (by simp) ?_
  simp [C.spec_l2Divide,fS,hn,hgn]
  refine hL _ ?_;clear hL L
  refine opsI_end fun L hL=>?_
  simp [C.spec_l2Divide,fS,hn,hgn]
  refine hL _ ?_;clear hL L
  simp [C.spec_l2Divide,fS,hn,hgn]
  refine hK _ ?_;clear hK K
  show AWp _ _ _ _ _
  refine wseq ?_
  refine wblock ?_
  refine wloop (fun x:List (List Int×Int)×List (List Int×Int)=>⟨ofL [(2,.pt (2,0) [] 0),(3,.pt (3,0) [] 0),(4,.pt (4,0) [] 0),(6,.int (keyA 0 (List.replicate n 0))),(7,.al (7,0) [] 0 x.1.length),(8,.al (8,0) [] 0 g.ts.length),(9,.al (9,0) [] 0 x.2.length),(10,.al (10,0) [] 0 n),(11,.al (11,0) [] 0 n),(12,.al (12,0) [] 0 n),(13,.al (13,0) [] 0 n)],ofRO [((2,0),some (.bx (fS f))),((3,0),some (.bx (fS g))),((4,0),some (.bx [D.int 0,.v (.slice none 0 0)])),((7,0),some (.ow 2 x.1.length (rows gM (x.1.map kc)))),((8,0),some (.ow 2 g.ts.length (rows gM (g.ts.map kt)))),((9,0),some (.ow 2 x.2.length (rows gM (x.2.map kc)))),((10,0),some (.ow 1 n (ints (lowL f.ts n)))),((11,0),some (.ow 1 n (ints (highL f.ts n)))),((12,0),some (.ow 1 n (ints (lowL g.ts n)))),((13,0),some (.ow 1 n (ints (highL g.ts n))))]⟩) (fun x=>DivJ (chkS f g n) f g n x.1 x.2) (fun x=>600 - x.2.length) (f.ts.map pr,[]) (by simp [C.spec_l2Divide,fS,hn,hgn,rows,kc_pr]) (DivJ.start _ hf hn) ?_
  intro x1 hx1 R1 hR1
  obtain ⟨R,O⟩:=x1
  dsimp only at hx1 ⊢
  refine wseq ?_
  refine wseq ?_
  refine wreg fun K hK=>?_
  simp [C.spec_l2Divide,fS,hn,hgn]
  refine hK _ ?_;clear hK K
  show AWp _ _ _ _ _
  refine wcond _ rfl (fun hc2=>?_) (fun hc2=>?_)
  ·obtain ⟨⟨a,c⟩,R',rfl⟩:∃ y R',R=y :: R':=by
    cases R with
    | nil=>simp at hc2
    | cons y R'=>exact ⟨y,R',rfl⟩
   have ha:=hx1.dig (a,c) (by simp)
   have hc0:-1000000000000000000<=c/\c<=1000000000000000000:=by
    have h1:=hx1.ra
    have h2:=hx1.ol
    simp only [absK,List.map_cons,List.sum_cons] at h1
    omega
   have q0:=gM_0 (l:=(keyA 0 a,c) :: R'.map kc) (i:=0) (by simp)
   have q1:=gM_1 (l:=(keyA 0 a,c) :: R'.map kc) (i:=0) (by simp)
   have p0:=gM_0 (l:=g.ts.map kt) (i:=0) (by simpa using hG0)
   have p1:=gM_1 (l:=g.ts.map kt) (i:=0) (by simpa using hG0)
   simp only [List.getElem_map,kt,hl1,hl2,List.getElem_cons_zero] at p0 p1 q0 q1
   refine wskip ?_
   show AWp _ _ _ _ _
   refine wblock ?_
   refine wseq ?_
   refine wseq ?_
   refine wdraw (.take 0 (.take 1 (.take 2 (.take 3 (.take 4 (.take 5 (.take 6 (.take 7 (.take 8 (.take 9 (.done))))))))))) ⟨by kernel_rfl,by kernel_rfl⟩ fun K hK=>?_
   simp [C.spec_l2Divide,fS,hn,hgn,q1,p1,kc,hG0,hgc.1]
   refine hK _ ?_;clear hK K
   show AWp _ _ _ _ _
   refine wcond _ rfl (fun hc3=>?_) (fun hc3=>?_)
   ·have hcm:c.tmod (leadC g)≠0:=by simpa using hc3
    have hfail:=hx1.fail (.inl fun h=>hcm h.1)
    refine wseq ?_
    refine wreg fun K hK=>?_
    simp [C.spec_l2Divide,fS,hn,hgn]
    refine hK _ ?_;clear hK K
    show AWp _ _ _ _ _
    refine wret ?_
    simp [C.spec_l2Divide,fS,hn,hgn,hfail,endF,zeroF,fO,rows]
   ·have hcm:c.tmod (leadC g)=0:=by simpa using hc3
    have hcq:=tmod_tdiv hcm
    have hqb:-1000000000000000000<=c.tdiv (leadC g)/\c.tdiv (leadC g)<=1000000000000000000:=by
     have h1:(c.tdiv (leadC g)).natAbs<=c.natAbs:=by
      rw [Int.natAbs_tdiv]
      exact Nat.div_le_self _ _
     omega
    generalize hQ:c.tdiv (leadC g)=q at hcq hqb
    have hal:a.length=n:=ha.1
    have had:Dig a:=ha.2
    have hab:=(hx1.rl (a,c) (by simp)).2
    dsimp only at hab
    obtain ⟨hgle1,hgle2⟩:=hgle
    have hEl:(addE (-1) a (leadE g)).length=n:=by rw [addE_length _ _ _ (by omega)];exact hal
    have hEg:∀ (i:Nat) (h:i < n),(addE (-1) a (leadE g))[i]'(by omega)=a[i]'(by omega) - (leadE g)[i]'(by omega):=fun i h=>by
     have:=getD_addE (-1) i a (leadE g) (by omega)
     rw [getD_eq (by omega),getD_eq (by omega),getD_eq (by omega)] at this
     omega
    have hfailq:¬ chkS f g n (addE (-1) a (leadE g)) q=true\/O.length=600->divL (chkS f g n) g 600 (f.ts.map pr)=none:=fun h=>hx1.fail (h.imp (fun h1 h2=>h1 (by rw [← hQ];exact h2.2)) id)
    refine wskip ?_
    show AWp _ _ _ _ _
    refine wseq ?_
    refine wdraw (.take 0 (.take 1 (.take 2 (.take 3 (.take 4 (.take 5 (.take 6 (.take 7 (.take 8 (.take 9 (.all [(10,.all [(11,.done)])]))))))))))) ⟨by kernel_rfl,by kernel_rfl⟩ fun K hK=>?_
    simp [C.spec_l2Divide,fS,hn,hgn,q1,p1,kc,hG0,hgc.1,hQ,wrapOk (x:=q) (by omega) (by omega)]
    refine hK _ ?_;clear hK K
    show AWp _ _ _ _ _
    refine wseq ?_
    refine wdrawI [(true,0),(true,1),(true,2),(true,3),(true,4),(true,5),(false,6),(true,7)] ⟨by kernel_rfl,by kernel_rfl⟩ ([0,1,2,3,4,5,6] ++ ([7])) rfl fun K hK=>?_
    refine opsI_seg fun L hL=>?_
    simp [C.spec_l2Divide,fS,hn,hgn,q0,kc,hal]
    refine wcall1 (spec_l2Exp_calls a had (by omega)) (by simp [fS,hn,hgn,q0,kc,hal]) (by simp) ?_
    simp [C.spec_l2Divide,fS,hn,hgn,q0,kc,hal]
    refine hL _ ?_;clear hL L
    refine opsI_end fun L hL=>?_
    simp [C.spec_l2Divide,fS,hn,hgn,q0,kc,hal]
    refine hL _ ?_;clear hL L
    simp [C.spec_l2Divide,fS,hn,hgn,q0,kc,hal]
    refine hK _ ?_;clear hK K
    show AWp _ _ _ _ _
    refine wseq ?_
    refine wreg fun K hK=>?_
    simp [C.spec_l2Divide,fS,hn,hgn]
    refine hK _ ?_;clear hK K
    show AWp _ _ _ _ _
    refine wseq ?_
    refine wseq ?_
    refine wreg fun K hK=>?_
    simp [C.spec_l2Divide,fS,hn,hgn]
    refine hK _ ?_;clear hK K
    show AWp _ _ _ _ _
    refine wblock ?_
    refine wloop (fun x:Nat=>⟨ofL [(2,.pt (2,0) [] 0),(3,.pt (3,0) [] 0),(4,.pt (4,0) [] 0),(6,.int (keyA 0 (List.replicate n 0))),(7,.al (7,0) [] 0 (R'.length+1)),(8,.al (8,0) [] 0 g.ts.length),(9,.al (9,0) [] 0 O.length),(10,.al (10,0) [] 0 n),(11,.al (11,0) [] 0 n),(12,.al (12,0) [] 0 n),(13,.al (13,0) [] 0 n),(14,.pt (14,0) [] 0),(15,.al (15,0) [] 0 n),(16,.al (16,0) [] 0 x),(17,.int x)],ofRO [((2,0),some (.bx (fS f))),((3,0),some (.bx (fS g))),((4,0),some (.bx [D.int 0,.v (.slice none 0 0)])),((7,0),some (.ow 2 (R'.length+1) (rows gM ((keyA 0 a,c) :: R'.map kc)))),((8,0),some (.ow 2 g.ts.length (rows gM (g.ts.map kt)))),((9,0),some (.ow 2 O.length (rows gM (O.map kc)))),((10,0),some (.ow 1 n (ints (lowL f.ts n)))),((11,0),some (.ow 1 n (ints (highL f.ts n)))),((12,0),some (.ow 1 n (ints (lowL g.ts n)))),((13,0),some (.ow 1 n (ints (highL g.ts n)))),((14,0),some (.bx [D.int 0,D.int q])),((15,0),some (.ow 1 n (ints a))),((16,0),some (.ow 1 x (ints ((addE (-1) a (leadE g)).take x))))]⟩) (fun x=>x<=n/\∀ i,i < x->(lowL f.ts n).getD i 0 - (lowL g.ts n).getD i 0<=(addE (-1) a (leadE g)).getD i 0/\(addE (-1) a (leadE g)).getD i 0<=(highL f.ts n).getD i 0 - (highL g.ts n).getD i 0) (fun x=>n - x) 0 (by simp [C.spec_l2Divide,fS,hn,hgn,kc,hal,ints]) (by simp) ?_
    intro x2 hx2 R2 hR2
    obtain ⟨hj1,hj2⟩:=hx2
    refine wseq ?_
    refine wseq ?_
    refine wreg fun K hK=>?_
    simp [C.spec_l2Divide,fS,hn,hgn]
    refine hK _ ?_;clear hK K
    show AWp _ _ _ _ _
    refine wcond _ rfl (fun hc4=>?_) (fun hc4=>?_)
    ·have h4:x2 < n:=by have:=d_t hc4;omega
     have e1:=hEg x2 h4
     have bd1:=hab _ (List.getElem_mem (show x2 < a.length by omega))
     have bd2:=hgle2 _ (List.getElem_mem (show x2 < (leadE g).length by omega))
     have bd3:=lowL_bd hf hn hfne h4
     have bd4:=lowL_bd hg hgn hgne h4
     rw [getD_eq (by simpa using h4),getD_eq (by simpa using h4)] at bd3 bd4
     have hsn:ints ((addE (-1) a (leadE g)).take x2) ++ [D.v (.int .i64 (a[x2] - (leadE g)[x2]))]=ints ((addE (-1) a (leadE g)).take (x2+1)):=by
      rw [List.take_succ_eq_append_getElem (by omega),e1]
      simp [ints]
     have hln:((addE (-1) a (leadE g)).take (x2+1)).length=x2+1:=by simp;omega
     have hgt:((addE (-1) a (leadE g)).take (x2+1))[x2]'(by omega)=a[x2] - (leadE g)[x2]:=by rw [List.getElem_take];exact e1
     refine wskip ?_
     show AWp _ _ _ _ _
     refine wseq ?_
     refine wblock ?_
     refine wseq ?_
     refine wdrawI [(true,0),(true,1),(true,2),(true,3),(true,4),(true,5),(true,6),(true,7),(true,8),(true,9),(true,10),(true,11),(true,12),(true,13),(false,14),(false,15),(true,16)] ⟨by kernel_rfl,by kernel_rfl⟩ ([0,1,2,3,4,5,6,7,8,9,10,11,12,13,14,15,16]) rfl fun K hK=>?_
     refine opsI_end fun L hL=>?_
     simp [C.spec_l2Divide,fS,hn,hgn,h4,hal,hgle1,get_ints,hG0,tS_0 hG0,hl1,wrapOk (x:=a[x2] - (leadE g)[x2]) (by omega) (by omega),hsn,show (x2+1)*8<=140737488355328 by omega]
     refine hL _ ?_;clear hL L
     simp [C.spec_l2Divide,fS,hn,hgn,h4,hal,hgle1,get_ints,hG0,tS_0 hG0,hl1,wrapOk (x:=a[x2] - (leadE g)[x2]) (by omega) (by omega),hsn,show (x2+1)*8<=140737488355328 by omega]
     refine hK _ ?_;clear hK K
     show AWp _ _ _ _ _
     refine wseq ?_
     refine wdrawI [(true,0),(true,1),(true,2),(true,3),(true,4),(true,5),(true,6),(true,7),(true,8),(true,9),(true,10),(true,11),(true,12),(true,13),(true,14),(true,15),(true,16),(true,17),(true,18),(true,19),(true,20),(true,21),(false,22),(true,23)] ⟨by kernel_rfl,by kernel_rfl⟩ ([0,1,2,3,4,5,6,7,8,9,10,11,12,13,14,15,16,17,18,19,20,21,22] ++ ([23])) rfl fun K hK=>?_
     refine opsI_seg fun L hL=>?_
     simp [C.spec_l2Divide,fS,hn,hgn,show ((x2:Int) < (x2:Int)+1) by omega,h4,get_ints,hln,hgt,wrapOk (x:=(lowL f.ts n)[x2]'(by simpa using h4) - (lowL g.ts n)[x2]'(by simpa using h4)) (by omega) (by omega),wrapOk (x:=(highL f.ts n)[x2]'(by simpa using h4) - (highL g.ts n)[x2]'(by simpa using h4)) (by omega) (by omega)]
     refine wcall1 (spec_l1In_calls (a[x2] - (leadE g)[x2]) ((lowL f.ts n)[x2]'(by simpa using h4) - (lowL g.ts n)[x2]'(by simpa using h4)) ((highL f.ts n)[x2]'(by simpa using h4) - (highL g.ts n)[x2]'(by simpa using h4))) (by simp) (by simp) ?_
     simp [C.spec_l2Divide,fS,hn,hgn,show ((x2:Int) < (x2:Int)+1) by omega,h4,get_ints,hln,hgt,wrapOk (x:=(lowL f.ts n)[x2]'(by simpa using h4) - (lowL g.ts n)[x2]'(by simpa using h4)) (by omega) (by omega),wrapOk (x:=(highL f.ts n)[x2]'(by simpa using h4) - (highL g.ts n)[x2]'(by simpa using h4)) (by omega) (by omega)]
     refine hL _ ?_;clear hL L
     refine opsI_end fun L hL=>?_
     simp [C.spec_l2Divide,fS,hn,hgn,show ((x2:Int) < (x2:Int)+1) by omega,h4,get_ints,hln,hgt,wrapOk (x:=(lowL f.ts n)[x2]'(by simpa using h4) - (lowL g.ts n)[x2]'(by simpa using h4)) (by omega) (by omega),wrapOk (x:=(highL f.ts n)[x2]'(by simpa using h4) - (highL g.ts n)[x2]'(by simpa using h4)) (by omega) (by omega)]
     refine hL _ ?_;clear hL L
     simp [C.spec_l2Divide,fS,hn,hgn,show ((x2:Int) < (x2:Int)+1) by omega,h4,get_ints,hln,hgt,wrapOk (x:=(lowL f.ts n)[x2]'(by simpa using h4) - (lowL g.ts n)[x2]'(by simpa using h4)) (by omega) (by omega),wrapOk (x:=(highL f.ts n)[x2]'(by simpa using h4) - (highL g.ts n)[x2]'(by simpa using h4)) (by omega) (by omega)]
     refine hK _ ?_;clear hK K
     show AWp _ _ _ _ _
     refine wcond _ rfl (fun hc5=>?_) (fun hc5=>?_)
     ·have hfail:=hfailq (.inl fun h=>by
       simp only [chkS,decide_eq_true_eq] at h
       have:=h.1 x2 h4
       rw [getD_eq (by simpa using h4),getD_eq (by simpa using h4),getD_eq (by omega),getD_eq (by simpa using h4),getD_eq (by simpa using h4),e1] at this
       simp [this.1,this.2] at hc5)
      refine wseq ?_
      refine wreg fun K hK=>?_
      simp [C.spec_l2Divide,fS,hn,hgn]
      refine hK _ ?_;clear hK K
      show AWp _ _ _ _ _
      refine wret ?_
      simp [C.spec_l2Divide,fS,hn,hgn,hfail,endF,zeroF,fO,rows]
     ·have hbx:((lowL f.ts n)[x2]'(by simpa using h4) - (lowL g.ts n)[x2]'(by simpa using h4)<=a[x2] - (leadE g)[x2])/\(a[x2] - (leadE g)[x2]<=(highL f.ts n)[x2]'(by simpa using h4) - (highL g.ts n)[x2]'(by simpa using h4)):=by simpa using hc5
      refine wskip ?_
      show AWp _ _ _ _ _
      refine wreg fun K hK=>?_
      simp [C.spec_l2Divide,fS,hn,hgn,wrap_succ (show x2 < 4611686018427387904 by omega)]
      refine hK _ ?_;clear hK K
      simp [C.spec_l2Divide,fS,hn,hgn]
      refine cast (congrArg R2 ?_) (hR2 (x2+1) ⟨h4,fun i hi=>?_⟩ (by omega))
      ·simp [fS,hn,hgn]
      ·rcases Nat.lt_succ_iff_lt_or_eq.1 hi with h | rfl
       ·exact hj2 i h
       ·rw [getD_eq (by simpa using h4),getD_eq (by simpa using h4),getD_eq (by omega),getD_eq (by simpa using h4),getD_eq (by simpa using h4),e1]
        exact hbx
    ·have h4:x2=n:=by have:=d_f hc4;omega
     have hbox:inBox f g n (addE (-1) a (leadE g)):=fun i hi=>hj2 i (by omega)
     have hb40:=inBox_bd hf hg hn hgn hfne hgne hEl hbox
     have htk:(addE (-1) a (leadE g)).take n=addE (-1) a (leadE g):=List.take_of_length_le (by omega)
     refine wexit ?_
     show AWp _ _ _ _ _
     refine wseq ?_
     refine wregI ([0,1] ++ ([2,3])) rfl fun K hK=>?_
     refine opsI_seg fun L hL=>?_
     simp [C.spec_l2Divide,fS,hn,hgn,htk,h4,hEl]
     refine wcall1 (spec_l2Key_calls (addE (-1) a (leadE g)) (fun z hz=>by have:=hb40 z hz;omega) (by omega)) (by simp [fS,hn,hgn,htk,h4,hEl]) (by simp) ?_
     simp [C.spec_l2Divide,fS,hn,hgn,htk,h4,hEl]
     refine hL _ ?_;clear hL L
     refine opsI_end fun L hL=>?_
     simp [C.spec_l2Divide,fS,hn,hgn,htk,h4,hEl]
     refine hL _ ?_;clear hL L
     simp [C.spec_l2Divide,fS,hn,hgn,htk,h4,hEl]
     refine hK _ ?_;clear hK K
     show AWp _ _ _ _ _
     refine wseq ?_
     refine wseq ?_
     refine wregI ([0,1,2] ++ ([3,4,5,6,7,8])) rfl fun K hK=>?_
     have hJ:K ⟨ofL [(2,.pt (2,0) [] 0),(3,.pt (3,0) [] 0),(4,.pt (4,0) [] 0),(6,.int (keyA 0 (List.replicate n 0))),(7,.al (7,0) [] 0 (R'.length+1)),(8,.al (8,0) [] 0 g.ts.length),(9,.al (9,0) [] 0 O.length),(10,.al (10,0) [] 0 n),(11,.al (11,0) [] 0 n),(12,.al (12,0) [] 0 n),(13,.al (13,0) [] 0 n),(14,.pt (14,0) [] 0),(133,.bool (!decide ((-1000000<=q/\q<=1000000)/\¬ O.length=600)))],ofRO [((2,0),some (.bx (fS f))),((3,0),some (.bx (fS g))),((4,0),some (.bx [D.int 0,.v (.slice none 0 0)])),((7,0),some (.ow 2 (R'.length+1) (rows gM ((keyA 0 a,c) :: R'.map kc)))),((8,0),some (.ow 2 g.ts.length (rows gM (g.ts.map kt)))),((9,0),some (.ow 2 O.length (rows gM (O.map kc)))),((10,0),some (.ow 1 n (ints (lowL f.ts n)))),((11,0),some (.ow 1 n (ints (highL f.ts n)))),((12,0),some (.ow 1 n (ints (lowL g.ts n)))),((13,0),some (.ow 1 n (ints (highL g.ts n)))),((14,0),some (.bx [D.int (keyA 0 (addE (-1) a (leadE g))),D.int q]))]⟩:=by
      refine hK _ ?_;clear hK K
      show AWp _ _ _ _ _
      refine wcond _ rfl (fun hc6=>?_) (fun hc6=>?_)
      ·have hr:=nd_t hc6
       have hfail:=hfailq (by
        rcases Classical.em (O.length=600) with h | h
        ·exact .inr h
        ·refine .inl fun h2=>hr ⟨?_,h⟩
         simp only [chkS,decide_eq_true_eq] at h2
         exact h2.2)
       refine wseq ?_
       refine wreg fun K hK=>?_
       simp [C.spec_l2Divide,fS,hn,hgn]
       refine hK _ ?_;clear hK K
       show AWp _ _ _ _ _
       refine wret ?_
       simp [C.spec_l2Divide,fS,hn,hgn,hfail,endF,zeroF,fO,rows]
      ·obtain ⟨hq6,hO6⟩:=nd_f hc6
       have hE0:=keyA_key (a:=addE (-1) a (leadE g)) (fun z hz=>by have:=hb40 z hz;omega) (by omega)
       have hB0:=keyA_key (a:=List.replicate n 0) (fun z hz=>by have:=List.eq_of_mem_replicate hz;omega) (by simpa using hv)
       have hP:=prodM_one (keyA 0 (List.replicate n 0)) (keyA 0 (addE (-1) a (leadE g))) q (g.ts.map kt)
       have hPn:=nf_abs (lt:=ilt) (prodM (keyA 0 (List.replicate n 0)) [(keyA 0 (addE (-1) a (leadE g)),q)] (g.ts.map kt))
       have hgA:=right_absK hg
       have htm:=spec_l2Times_calls [(keyA 0 (addE (-1) a (leadE g)),q)] (g.ts.map kt) (keyA 0 (List.replicate n 0)) hB0 (fun y hy=>by simp only [List.mem_singleton] at hy;subst hy;exact ⟨hE0,hq6⟩) (right_mon hg hgn) (by simp) (by simpa using hgl)
       rw [kt_abs,List.length_map] at hP
       simp only [List.length_cons,List.length_nil,List.length_map,rows,gM,List.append_nil,List.nil_append,Nat.zero_add] at htm
       have hOl:=hx1.ol
       have hRn:=hx1.rn
       have hRa:=hx1.ra
       have hstep:=hx1.step hg hgn hcm (by rw [hQ];simp only [chkS,decide_eq_true_eq];exact ⟨hbox,hq6⟩) (by omega) hEl hb40 (by rw [hQ];exact hq6)
       have hcoded:=step_coded hg hgn hx1.dig hEl hb40
       rw [hQ] at hstep hcoded
       simp only [List.map_cons,kc] at hcoded
       have hsnO:rows gM (O.map kc) ++ [D.v (.int .i64 (keyA 0 (addE (-1) a (leadE g)))),D.v (.int .i64 q)]=rows gM ((O ++ [(addE (-1) a (leadE g),q)]).map kc):=by
        rw [gM_snoc]
        simp [kc]
       have hqA:q.natAbs*absK (g.ts.map pr)<=1000000*600000000:=Nat.mul_le_mul (by omega) hgA
       have hplus:=spec_l2Plus_calls ((keyA 0 a,c) :: R'.map kc) (nf ilt (prodM (keyA 0 (List.replicate n 0)) [(keyA 0 (addE (-1) a (leadE g)),q)] (g.ts.map kt))) (-1) (by
        simp only [List.length_cons,List.length_map] at hRn ⊢
        omega) (by
        have e1:absL ((keyA 0 a,c) :: R'.map kc)=absK ((a,c) :: R'):=kc_abs ((a,c) :: R')
        have e2:absL (nf ilt (prodM (keyA 0 (List.replicate n 0)) [(keyA 0 (addE (-1) a (leadE g)),q)] (g.ts.map kt)))<=absL (prodM (keyA 0 (List.replicate n 0)) [(keyA 0 (addE (-1) a (leadE g)),q)] (g.ts.map kt)):=hPn.1
        rw [e1]
        simp only [Int.natAbs_neg,Int.natAbs_one,Nat.one_mul]
        omega)
       rw [show scM (-1)=fun y:Int×Int=>(y.1,-1*y.2) from rfl,hcoded] at hplus
       simp only [List.length_cons,List.length_map] at hplus
       refine wskip ?_
       show AWp _ _ _ _ _
       refine wseq ?_
       refine wreg fun K hK=>?_
       simp [C.spec_l2Divide,fS,hn,hgn,hsnO,show (O.length+1)*16<=140737488355328 by omega]
       refine hK _ ?_;clear hK K
       show AWp _ _ _ _ _
       refine wregI ([0,1,2,3,4,5] ++ ([6] ++ ([7]))) rfl fun K hK=>?_
       refine opsI_seg fun L hL=>?_
       simp [C.spec_l2Divide,fS,hn,hgn]
       refine wcall1 (htm) (by simp) (by simp) ?_
       simp [C.spec_l2Divide,fS,hn,hgn]
       refine hL _ ?_;clear hL L
       refine opsI_seg fun L hL=>?_
       simp [C.spec_l2Divide,fS,hn,hgn]
       refine wcall1 (hplus) (by simp) (by simp) ?_
       simp [C.spec_l2Divide,fS,hn,hgn]
       refine hL _ ?_;clear hL L
       refine opsI_end fun L hL=>?_
       simp [C.spec_l2Divide,fS,hn,hgn]
       refine hL _ ?_;clear hL L
       simp [C.spec_l2Divide,fS,hn,hgn]
       refine hK _ ?_;clear hK K
       simp [C.spec_l2Divide,fS,hn,hgn]
       refine cast (congrArg R1 ?_) (hR1 (nf lexlt (stepL g (a,c) R'),O ++ [(addE (-1) a (leadE g),q)]) hstep (by simp;omega))
       simp [fS,hn,hgn]
     clear hK
     by_cases hqq:-1000000<=q/\q<=1000000
     ·refine opsI_seg fun L hL=>?_
      simp [C.spec_l2Divide,fS,hn,hgn,hqq]
      refine wcall1 (spec_l1In_calls q (-1000000) 1000000) (by simp) (by simp) ?_
      simp [C.spec_l2Divide,fS,hn,hgn,hqq]
      refine hL _ ?_;clear hL L
      refine opsI_end fun L hL=>?_
      simp [C.spec_l2Divide,fS,hn,hgn,hqq]
      refine hL _ ?_;clear hL L
      simp [C.spec_l2Divide,fS,hn,hgn,hqq]
      refine cast (congrArg K ?_) hJ
      simp [ieq600,fS,hn,hgn,hqq]
     ·refine opsI_seg fun L hL=>?_
      simp [C.spec_l2Divide,fS,hn,hgn,hqq]
      refine wcall1 (spec_l1In_calls q (-1000000) 1000000) (by simp) (by simp) ?_
      simp [C.spec_l2Divide,fS,hn,hgn,hqq]
      refine hL _ ?_;clear hL L
      refine opsI_end fun L hL=>?_
      simp [C.spec_l2Divide,fS,hn,hgn,hqq]
      refine hL _ ?_;clear hL L
      simp [C.spec_l2Divide,fS,hn,hgn,hqq]
      refine cast (congrArg K ?_) hJ
      simp [ieq600,fS,hn,hgn,hqq]
  ·have hR0:R=[]:=by
    cases R with
    | nil=>rfl
    | cons y R'=>simp at hc2
   subst hR0
   have hdone:=hx1.done
   have hOl:=hx1.ol
   refine wexit ?_
   show AWp _ _ _ _ _
   refine wseq ?_
   refine wregI ([0,1,2,3] ++ ([4,5,6,7])) rfl fun K hK=>?_
   refine opsI_seg fun L hL=>?_
   simp [C.spec_l2Divide,fS,hn,hgn]
   refine wcall1 (shut_coded O n (by omega) (fun x hx=>⟨fun z hz=>by have:=(hx1.od x hx).2 z hz;omega,(hx1.od x hx).1⟩) hv) (by simp) (by simp) ?_
   simp [C.spec_l2Divide,fS,hn,hgn]
   refine hL _ ?_;clear hL L
   refine opsI_end fun L hL=>?_
   simp [C.spec_l2Divide,fS,hn,hgn]
   refine hL _ ?_;clear hL L
   simp [C.spec_l2Divide,fS,hn,hgn]
   refine hK _ ?_;clear hK K
   show AWp _ _ _ _ _
   refine wret ?_
   simp [C.spec_l2Divide,fS,hn,hgn,hdone,fO]
end Go.Proofs.YtbhkonnakkhibaaGreat.Ab
namespace Go.Proofs.YtbhkonnakkhibaaGreat.Ab
open Go Go.Proofs
def sortTerm_ren:Go.Shelf.Ren:=⟨fun | 6=>164 | 15=>217 | 14=>216 | 28=>253 | 29=>254 | 20=>245 | 21=>246 | 22=>247 | 23=>248 | 24=>249 | 25=>250 | 26=>251 | 27=>252 | 46=>261 | 47=>262 | 48=>263 | 49=>264 | 50=>265 | 57=>276 | n=>n,fun | 22=>49 | 24=>107 | 25=>179 | 3=>3 | 39=>214 | 0=>0 | 53=>247 | 55=>249 | 4=>4 | 46=>240 | 45=>239 | 50=>244 | 5=>5 | 9=>9 | 66=>255 | 70=>209 | 76=>268 | 77=>269 | n=>n,fun | n=>n⟩
theorem sortTerm:Go.Proofs.SlLaysF0.n6 Tryz.prog sortTerm_ren:={
 mixed:=by kernel_rfl,
 f6:=⟨Tryz.f164.name,by decide,Tryz.func164.trans (congrArg some (by kernel_rfl))⟩,
 f14:=⟨Tryz.f216.name,by decide,Tryz.func216.trans (congrArg some (by kernel_rfl))⟩,
 f15:=Tryz.func217.trans (congrArg some (by kernel_rfl)),
 f20:=⟨Tryz.f245.name,by decide,Tryz.func245.trans (congrArg some (by kernel_rfl))⟩,
 f21:=⟨Tryz.f246.name,by decide,Tryz.func246.trans (congrArg some (by kernel_rfl))⟩,
 f22:=⟨Tryz.f247.name,by decide,Tryz.func247.trans (congrArg some (by kernel_rfl))⟩,
 f23:=⟨Tryz.f248.name,by decide,Tryz.func248.trans (congrArg some (by kernel_rfl))⟩,
 f24:=⟨Tryz.f249.name,by decide,Tryz.func249.trans (congrArg some (by kernel_rfl))⟩,
 f25:=⟨Tryz.f250.name,by decide,Tryz.func250.trans (congrArg some (by kernel_rfl))⟩,
 f26:=⟨Tryz.f251.name,by decide,Tryz.func251.trans (congrArg some (by kernel_rfl))⟩,
 f27:=⟨Tryz.f252.name,by decide,Tryz.func252.trans (congrArg some (by kernel_rfl))⟩,
 f28:=Tryz.func253.trans (congrArg some (by kernel_rfl)),
 f29:=Tryz.func254.trans (congrArg some (by kernel_rfl)),
 f46:=⟨Tryz.f261.name,by decide,Tryz.func261.trans (congrArg some (by kernel_rfl))⟩,
 f47:=Tryz.func262.trans (congrArg some (by kernel_rfl)),
 f48:=Tryz.func263.trans (congrArg some (by kernel_rfl)),
 f49:=⟨Tryz.f264.name,by decide,Tryz.func264.trans (congrArg some (by kernel_rfl))⟩,
 f50:=⟨Tryz.f265.name,by decide,Tryz.func265.trans (congrArg some (by kernel_rfl))⟩,
 f57:=⟨Tryz.f276.name,by decide,Tryz.func276.trans (congrArg some (by kernel_rfl))⟩,
 t0:=Tryz.underlying0,
 a0:=Tryz.isAgg0,
 z0:=Tryz.sizeOf0,
 v0:=Tryz.zeroValue0,
 t3:=Tryz.underlying3,
 a3:=Tryz.isAgg3,
 z3:=Tryz.sizeOf3,
 v3:=Tryz.zeroValue3,
 t4:=Tryz.underlying4,
 a4:=Tryz.isAgg4,
 z4:=Tryz.sizeOf4,
 v4:=Tryz.zeroValue4,
 t5:=Tryz.underlying5,
 a5:=Tryz.isAgg5,
 z5:=Tryz.sizeOf5,
 v5:=Tryz.zeroValue5,
 t9:=Tryz.underlying9,
 a9:=Tryz.isAgg9,
 z9:=Tryz.sizeOf9,
 v9:=Tryz.zeroValue9,
 t22:=Tryz.underlying49,
 a22:=Tryz.isAgg49,
 z22:=Tryz.sizeOf49,
 v22:=Tryz.zeroValue49,
 t25:=Tryz.underlying179,
 a25:=Tryz.isAgg179,
 z25:=Tryz.sizeOf179,
 v25:=Tryz.zeroValue179,
 t39:=Tryz.underlying214,
 a39:=Tryz.isAgg214,
 z39:=Tryz.sizeOf214,
 v39:=Tryz.zeroValue214,
 t45:=Tryz.underlying239,
 a45:=Tryz.isAgg239,
 z45:=Tryz.sizeOf239,
 v45:=Tryz.zeroValue239,
 t46:=Tryz.underlying240,
 a46:=Tryz.isAgg240,
 z46:=Tryz.sizeOf240,
 v46:=Tryz.zeroValue240,
 t50:=Tryz.underlying244,
 a50:=Tryz.isAgg244,
 z50:=Tryz.sizeOf244,
 v50:=Tryz.zeroValue244,
 t53:=Tryz.underlying247,
 a53:=Tryz.isAgg247,
 z53:=Tryz.sizeOf247,
 v53:=Tryz.zeroValue247,
 t55:=Tryz.underlying249,
 a55:=Tryz.isAgg249,
 z55:=Tryz.sizeOf249,
 v55:=Tryz.zeroValue249,
 t66:=Tryz.underlying255,
 a66:=Tryz.isAgg255,
 z66:=Tryz.sizeOf255,
 v66:=Tryz.zeroValue255,
 t70:=Tryz.underlying209,
 a70:=Tryz.isAgg209,
 z70:=Tryz.sizeOf209,
 v70:=Tryz.zeroValue209,
 t76:=Tryz.underlying268,
 a76:=Tryz.isAgg268,
 z76:=Tryz.sizeOf268,
 v76:=Tryz.zeroValue268,
 t77:=Tryz.underlying269,
 a77:=Tryz.isAgg269,
 z77:=Tryz.sizeOf269,
 v77:=Tryz.zeroValue269 }
theorem sortTerm_t24:sortTerm_ren.t 24=107:=by kernel_rfl
theorem sortTerm_f6:sortTerm_ren.f 6=164:=by kernel_rfl
theorem sortTerm_agg:∀ w,(isAgg (sortTerm_ren.t 24)).run Tryz.prog w = .ok true w:=fun w=>by rw [sortTerm_t24];exact Tryz.isAgg107 w
theorem sortTerm_size:∀ w,(Go.sizeOf (sortTerm_ren.t 24)).run Tryz.prog w = .ok 2 w:=fun w=>by rw [sortTerm_t24];exact Tryz.sizeOf107 w
end Go.Proofs.YtbhkonnakkhibaaGreat.Ab
namespace Go.Proofs.YtbhkonnakkhibaaGreat.Ab
open Go
set_option maxRecDepth 10000
set_option maxHeartbeats 2000000
attribute [local simp] mapKV flatInt tileB
def SortOk:Prop:=∀ (ts:List Trm),(∀ t∈ts,t.e.length < 4611686018427387904)->(ts.map (·.e)).Nodup->ts.length < 4611686018427387904 ->
 ACalls Tryz.prog F.slices_SortFunc_impl_Term_impl_Term [.al (0,0) [] 0 ts.length,.d (.fn F.impl_building_done_1 [])] [((0,0),.ow 2 ts.length (rows tO ts))] true (fun outs res=>∃ r:List Trm,r.Perm ts/\DescT r/\outs=[.ow 2 ts.length (rows tO r)]/\res=[])
theorem insK_len_eq {K:Type} [DecidableEq K] {lt:K->K->Bool} {k:K} {c:Int} (hc:c≠0):∀ l:List (K×Int),(∀ x∈l,x.1≠k)->(insK lt k c l).length=l.length+1
 | [],_=>by simp [insK,hc]
 | x :: l,h=>by
  simp only [insK]
  rw [if_neg (h x (by simp))]
  split
  ·first | rfl | (rw [if_neg hc];rfl)
  ·simp [insK_len_eq hc l fun y hy=>h y (by simp [hy])]
theorem nf_len_eq {K:Type} [DecidableEq K] {lt:K->K->Bool}:∀ l:List (K×Int),(l.map (·.1)).Nodup->(∀ x∈l,x.2≠0)->(nf lt l).length=l.length
 | [],_,_=>rfl
 | x :: l,h,hz=>by
  simp only [List.map_cons,List.nodup_cons] at h
  simp only [nf]
  rw [insK_len_eq (hz x (by simp)),nf_len_eq l h.2 fun y hy=>hz y (by simp [hy])]
  ·rfl
  ·intro y hy e
   obtain ⟨z,hz,e2⟩:=nf_mem hy
   exact h.1 (List.mem_map.2 ⟨z,hz,by rw [e2,e]⟩)
theorem unpad_inj {n:Nat} {es l:List (List Int×Int)} (h:MapR n es l):((es.map (unpadT n)).map (·.1)).Nodup:=by
 have:∀ es:List (List Int×Int),(es.map (·.1)).Nodup->(∀ x∈es,∃ e,e.length=n/\x.1=pad e)->((es.map (unpadT n)).map (·.1)).Nodup:=by
  intro es
  induction es with
  | nil=>intro _ _;simp
  | cons x es ih=>
   intro hn hp
   simp only [List.map_cons,List.nodup_cons] at hn ⊢
   refine ⟨fun hm=>?_,ih hn.2 fun y hy=>hp y (by simp [hy])⟩
   obtain ⟨y,hy,e⟩:=List.mem_map.1 hm
   obtain ⟨z,hz,rfl⟩:=List.mem_map.1 hy
   obtain ⟨a,ha,e1⟩:=hp x (by simp)
   obtain ⟨b,hb,e2⟩:=hp z (by simp [hz])
   refine hn.1 (List.mem_map.2 ⟨z,hz,?_⟩)
   simp only [unpadT] at e
   rw [e1,e2] at e ⊢
   have q1:(pad a).take n=a:=by rw [← ha];exact pad_take
   have q2:(pad b).take n=b:=by rw [← hb];exact pad_take
   rw [q1,q2] at e
   rw [e]
 exact this es h.nod fun x hx=>(h.nz x hx).2
theorem unpad_nf2 {n:Nat} {es l:List (List Int×Int)} (h:MapR n es l) (hl:∀ x∈l,x.1.length=n):nf lexlt (es.map (unpadT n))=nf lexlt l:=
 nf_unique lexOrd (nf_desc lexOrd _) (nf_nz _) fun k=>by rw [nf_co,unpad_co h hl]
theorem unpad_len {n:Nat} {es l:List (List Int×Int)} (h:MapR n es l) (hl:∀ x∈l,x.1.length=n):(nf lexlt l).length=es.length:=by
 rw [← unpad_nf2 h hl,nf_len_eq _ (unpad_inj h),List.length_map]
 intro x hx
 obtain ⟨y,hy,rfl⟩:=List.mem_map.1 hx
 exact (h.nz y hy).1
theorem shutF_many {n:Nat} {es l:List (List Int×Int)} (h:MapR n es l) (hl:∀ x∈l,x.1.length=n) (hm:600 < es.length):shutF n l=(zeroF,false):=by
 unfold shutF
 rw [if_neg]
 intro hr
 have:=hr.2.1
 simp only [List.length_map] at this
 rw [unpad_len h hl] at this
 omega
theorem erase_perm {α:Type}:∀ (l:List α) (i:Nat) (h:i < l.length),(l[i] :: l.eraseIdx i).Perm l
 | [],i,h=>by simp at h
 | x :: l,0,h=>by simp
 | x :: l,i+1,h=>by
  simp only [List.getElem_cons_succ,List.eraseIdx_cons_succ]
  exact (List.Perm.swap ..).trans (List.Perm.cons x (erase_perm l i (by simpa using h)))
theorem sh8 (n:Nat) (k0 k1 k2 k3 k4 k5 k6 k7:Int):shareL (List.take n [D.v (.int .i64 k0),D.v (.int .i64 k1),D.v (.int .i64 k2),D.v (.int .i64 k3),D.v (.int .i64 k4),D.v (.int .i64 k5),D.v (.int .i64 k6),D.v (.int .i64 k7)])=ints (List.take n [k0,k1,k2,k3,k4,k5,k6,k7]):=by
 rw [show ([D.v (.int .i64 k0),D.v (.int .i64 k1),D.v (.int .i64 k2),D.v (.int .i64 k3),D.v (.int .i64 k4),D.v (.int .i64 k5),D.v (.int .i64 k6),D.v (.int .i64 k7)]:List D)=ints [k0,k1,k2,k3,k4,k5,k6,k7] from rfl,ints_take,shareL_ints]
theorem impl_building_done_1_calls (x y:Trm) (hx:x.e.length < 4611686018427387904) (hy:y.e.length < 4611686018427387904):ACalls Tryz.prog F.impl_building_done_1 [.ag [.d (shI x.e),.int x.c],.ag [.d (shI y.e),.int y.c]] [] true (fun outs res=>outs=[]/\res=[.one (D.int (cmpL y.e x.e))]):=by
 refine ACalls.of_body (C:=C.impl_building_done_1) (n:=Tryz.f165.ntmps) tabT folT Tryz.func165 rfl (by kernel_rfl) rfl (Nat.le_of_ble_eq_true rfl) (by decide) (by kernel_rfl) (by kernel_rfl) rfl (by simp) (by simp) ?_
 simp only [Tryz.f165]
 refine wseq ?_
 refine wreg fun K hK=>?_
 simp [C.impl_building_done_1]
 refine hK _ ?_;clear hK K
 show AWp _ _ _ _ _
 refine wseq ?_
 refine wregI ([0,1,2,3,4] ++ ([5])) rfl fun K hK=>?_
 refine opsI_seg fun L hL=>?_
 simp [C.impl_building_done_1]
 refine wcall1 (slices_Compare_int_int_calls y.e x.e hy) (by simp) (by simp) ?_
 simp [C.impl_building_done_1]
 refine hL _ ?_;clear hL L
 refine opsI_end fun L hL=>?_
 simp [C.impl_building_done_1]
 refine hL _ ?_;clear hL L
 simp [C.impl_building_done_1]
 refine hK _ ?_;clear hK K
 show AWp _ _ _ _ _
 refine wret ?_
 simp [C.impl_building_done_1]
theorem impl_building_done_calls (hSort:SortOk) (n:Nat) (es l:List (List Int×Int)) (hM:MapR n es l) (hl:∀ x∈l,x.1.length=n) (h1:1<=n) (h8:n<=8) (hL:l.length<=1000000):ACalls Tryz.prog F.impl_building_done [.pt (0,0) [] 0] [((0,0),.bx [D.int n,.mp es])] true (fun outs res=>outs=[.bx [D.int n,.mp es]]/\WkRs res [.ag (fO (shutF n l).1),.one (D.bool (shutF n l).2)]):=by
 refine ACalls.of_body (C:=C.impl_building_done) (n:=Tryz.f95.ntmps) tabT folT Tryz.func95 rfl (by kernel_rfl) rfl (Nat.le_of_ble_eq_true rfl) (by decide) (by kernel_rfl) (by kernel_rfl) rfl (by simp) (by simp) ?_
 simp only [Tryz.f95]
 refine wseq ?_
 refine wreg fun K hK=>?_
 simp [C.impl_building_done]
 refine hK _ ?_;clear hK K
 show AWp _ _ _ _ _
 refine wseq ?_
 refine wreg fun K hK=>?_
 simp [C.impl_building_done]
 refine hK _ ?_;clear hK K
 show AWp _ _ _ _ _
 refine wseq ?_
 refine wseq ?_
 refine wreg fun K hK=>?_
 simp [C.impl_building_done]
 refine hK _ ?_;clear hK K
 show AWp _ _ _ _ _
 refine wcond _ rfl (fun hc1=>?_) (fun hc1=>?_)
 ·have hm:=shutF_many hM hl (by have:=d_t hc1;omega)
  refine wseq ?_
  refine wreg fun K hK=>?_
  simp [C.impl_building_done]
  refine hK _ ?_;clear hK K
  show AWp _ _ _ _ _
  refine wret ?_
  simp [C.impl_building_done,hm,fO,zeroF,rows]
 ·have h600:es.length<=600:=by have:=d_f hc1;omega
  refine wskip ?_
  show AWp _ _ _ _ _
  refine wseq ?_
  refine wseq ?_
  refine wreg fun K hK=>?_
  simp [C.impl_building_done]
  refine hK _ ?_;clear hK K
  show AWp _ _ _ _ _
  refine wblock ?_
  refine wloopW (fun x:List Trm×List (List Int×Int)×Option (List Int×Int)=>⟨ofL [(0,.pt (0,0) [] 0),(2,.pt (2,0) [] 0),(4,.pt (4,0) [] 0),(23,.it (23,0) (0,0) [1] x.2.1 x.2.2),(1000,.pt (0,0) [] 0)],ofRO [((0,0),some (.bx [D.int n,.mp es])),((2,0),some (.bx [D.int 0,.v (.slice none 0 0)])),((4,0),some (.bx [D.int n,.ow 2 x.1.length (rows tO x.1)])),((23,0),some .itr)]⟩) (fun x=>(x.1.map pr ++ x.2.1.map (unpadT n)).Perm (es.map (unpadT n))/\∀ y∈x.2.1,y∈es) (fun x=>x.2.1.length) ([],es,none) [.cell (4,0) [] 1 2] (by simp [C.impl_building_done,rows];funext q;by_cases e4:q=(4,0);(subst e4;rfl);by_cases e9:q=(9999,0);(subst e9;rfl);simp [ofRO,e4,e9,Ne.symm e4]) ⟨by simp,fun y hy=>hy⟩ ?_
  intro x1 hx1 R1 hR1
  obtain ⟨q,rest,cur⟩:=x1
  obtain ⟨hq,hin⟩:=hx1
  dsimp only at hq hin ⊢
  refine wseq ?_
  refine wreg fun K hK=>?_
  simp [C.impl_building_done]
  refine ⟨fun hrest=>?_,fun i xk xc hx=>?_⟩
  ·refine hK _ ?_;clear hK K
   show AWp _ _ _ _ _
   refine wseq ?_
   refine wcond _ rfl (fun hc2=>?_) (fun hc2=>?_)
   ·simp at hc2
   ·subst hrest
    have hq2:(q.map pr).Perm (es.map (unpadT n)):=by simpa using hq
    have hqe:∀ t∈q,t.e.length=n:=fun t ht=>by
     have h3:=hq2.subset (List.mem_map.2 ⟨t,ht,rfl⟩)
     obtain ⟨y,hy,e⟩:=List.mem_map.1 h3
     have e2:t.e=y.1.take n:=by
      have:=congrArg Prod.fst e
      simpa [pr,unpadT] using this.symm
     rw [e2,List.length_take,hM.len8 h8 y hy]
     omega
    have hqn:(q.map (·.e)).Nodup:=by
     have h3:=(hq2.map (·.1)).nodup_iff.2 (unpad_inj hM)
     rw [List.map_map] at h3
     exact h3
    have hql:q.length=es.length:=by simpa using hq2.length_eq
    refine wexit ?_
    show AWp _ _ _ _ _
    refine wseq ?_
    refine wregI ([0,1,2] ++ ([])) rfl fun K hK=>?_
    refine opsI_seg fun L hL=>?_
    simp [C.impl_building_done]
    refine wcall (hSort q (fun t ht=>by have:=hqe t ht;omega) hqn (by omega)) (by simp) (by simp) (by simp) ?_
    rintro outs res ⟨r,hr,hd,rfl,rfl⟩
    simp [C.impl_building_done]
    refine hL _ ?_;clear hL L
    refine opsI_end fun L hL=>?_
    simp only [AOpsI]
    refine hL _ ?_;clear hL L
    simp [C.impl_building_done]
    refine hK _ ?_;clear hK K
    show AWp _ _ _ _ _
    refine wseq ?_
    refine wseq ?_
    have hrl:r.length=q.length:=hr.length_eq
    have hrn:r.map pr=nf lexlt l:=unpad_nf hM hl ((hr.map pr).trans hq2) (by
     unfold Desc
     rw [List.pairwise_map]
     exact hd)
    have hrt:(nf lexlt l).map tm=r:=by
     rw [← hrn,List.map_map]
     have:tm ∘ pr=id:=rfl
     rw [this,List.map_id]
    refine wregI ([0,1] ++ ([2])) rfl fun K hK=>?_
    refine opsI_seg fun L hL=>?_
    simp [C.impl_building_done,hrl]
    refine wcall1 (impl_LaurentOk_calls ⟨n,r⟩ (by dsimp only;omega) (fun t ht=>by have:=hqe t (hr.subset ht);omega)) (by simp [hrl]) (by simp) ?_
    simp [C.impl_building_done,hrl]
    refine hL _ ?_;clear hL L
    refine opsI_end fun L hL=>?_
    simp [C.impl_building_done,hrl]
    refine hL _ ?_;clear hL L
    simp [C.impl_building_done,hrl]
    refine hK _ ?_;clear hK K
    show AWp _ _ _ _ _
    refine wcond _ rfl (fun hc3=>?_) (fun hc3=>?_)
    ·have hR:¬ Right ⟨n,r⟩:=by simpa using hc3
     have hm:shutF n l=(zeroF,false):=by unfold shutF;rw [hrt,if_neg hR]
     refine wseq ?_
     refine wreg fun K hK=>?_
     simp [C.impl_building_done]
     refine hK _ ?_;clear hK K
     show AWp _ _ _ _ _
     refine wret ?_
     simp [C.impl_building_done,hm,fO,zeroF,rows]
    ·have hR:Right ⟨n,r⟩:=by simpa using hc3
     have hm:shutF n l=(⟨n,r⟩,true):=by unfold shutF;rw [hrt,if_pos hR]
     refine wskip ?_
     show AWp _ _ _ _ _
     refine wseq ?_
     refine wreg fun K hK=>?_
     simp [C.impl_building_done]
     refine hK _ ?_;clear hK K
     show AWp _ _ _ _ _
     refine wret ?_
     simp [C.impl_building_done,hm,fO,hrl]
  ·refine hK _ ?_;clear hK K
   show AWp _ _ _ _ _
   refine wseq ?_
   refine wcond _ rfl (fun hc4=>?_) (fun hc4=>?_)
   ·have hxm:(xk,xc)∈rest:=List.mem_of_getElem? hx
    have hxl:=hM.len8 h8 _ (hin _ hxm)
    dsimp only at hxl
    obtain ⟨k0,k1,k2,k3,k4,k5,k6,k7,rfl⟩:=eight hxl
    have hql:q.length+rest.length=es.length:=by simpa using hq.length_eq
    have hil:i < rest.length:=by
     rcases Nat.lt_or_ge i rest.length with h | h
     ·exact h
     ·rw [List.getElem?_eq_none h] at hx;simp at hx
    refine wskip ?_
    show AWp _ _ _ _ _
    refine wblock ?_
    refine wseq ?_
    refine wreg fun K hK=>?_
    simp [C.impl_building_done]
    refine hK _ ?_;clear hK K
    show AWp _ _ _ _ _
    refine wdrawI [(true,0),(true,1),(true,2),(true,3),(true,4),(true,5),(true,6),(true,8),(false,7),(true,9),(false,10),(false,11),(true,12),(false,13)] ⟨by kernel_rfl,by kernel_rfl⟩ ([0,1,2,3,4,5,6,8,7] ++ ([9,10,11,12,13])) rfl fun K hK=>?_
    refine opsI_seg fun L hL=>?_
    simp [C.impl_building_done,tO_snoc,show ((n:Int)<=8) by omega,h8,Nat.min_eq_left h8,sh8,show (q.length+1)*32<=140737488355328 by omega]
    refine wcall1 (clone_calls ([k0,k1,k2,k3,k4,k5,k6,k7].take n) (by simp;omega)) (by simp [tO_snoc,show ((n:Int)<=8) by omega,h8,Nat.min_eq_left h8,sh8,show (q.length+1)*32<=140737488355328 by omega]) (by simp) ?_
    simp [C.impl_building_done,tO_snoc,show ((n:Int)<=8) by omega,h8,Nat.min_eq_left h8,sh8,show (q.length+1)*32<=140737488355328 by omega]
    refine hL _ ?_;clear hL L
    refine opsI_end fun L hL=>?_
    simp [C.impl_building_done,tO_snoc,show ((n:Int)<=8) by omega,h8,Nat.min_eq_left h8,sh8,show (q.length+1)*32<=140737488355328 by omega]
    refine hL _ ?_;clear hL L
    simp [C.impl_building_done,tO_snoc,show ((n:Int)<=8) by omega,h8,Nat.min_eq_left h8,sh8,show (q.length+1)*32<=140737488355328 by omega]
    refine hK _ ?_;clear hK K
    simp [C.impl_building_done]
    have htl:([k0,k1,k2,k3,k4,k5,k6,k7].take n).length=n:=by simp;omega
    have hrow:rows tO q ++ [D.ow 1 n (ints (List.take n [k0,k1,k2,k3,k4,k5,k6,k7])),D.v (.int .i64 xc)]=rows tO (q ++ [⟨List.take n [k0,k1,k2,k3,k4,k5,k6,k7],xc⟩]):=by
     rw [← tO_snoc]
     simp only [htl]
    refine cast (congrArg R1 ?_) (hR1 (q ++ [⟨List.take n [k0,k1,k2,k3,k4,k5,k6,k7],xc⟩],rest.eraseIdx i,some ([k0,k1,k2,k3,k4,k5,k6,k7],xc)) ⟨?_,?_⟩ ?_)
    ·simp [hrow]
    ·dsimp only
     have hget:rest[i]=([k0,k1,k2,k3,k4,k5,k6,k7],xc):=by
      rw [List.getElem?_eq_getElem hil] at hx
      injection hx
     have hper:=erase_perm rest i hil
     rw [hget] at hper
     refine List.Perm.trans ?_ hq
     rw [List.map_append,List.append_assoc]
     exact List.Perm.append_left _ (hper.map (unpadT n))
    ·exact fun y hy=>hin y (List.mem_of_mem_eraseIdx hy)
    ·dsimp only
     rw [List.length_eraseIdx_of_lt hil]
     omega
   ·simp at hc4
end Go.Proofs.YtbhkonnakkhibaaGreat.Ab
namespace Go.Proofs.YtbhkonnakkhibaaGreat.Ab
open Go
theorem sfTerm:SfOk Tryz.prog F.slices_SortFunc_impl_Term_impl_Term 2:=by
 refine ⟨fun p cap fv w=>?_,fun α _ enc hk h1 cf hO g blk off cap d w eg hcmp hH hblk hsz=>?_⟩
 ·have h:=AnyF.slices_SortFunc_none sortTerm p cap fv w
  rw [sortTerm_f6] at h
  exact h
 ·have h:=AnyQ.slices_SortFunc sortTerm 2 sortTerm_agg sortTerm_size enc hk h1 cf hO g #[] blk off cap d w eg hcmp hH hblk hsz
  rw [sortTerm_f6] at h
  exact h
theorem lexlt_ntrans (a b c:List Int) (h1:lexlt a b=false) (h2:lexlt b c=false):lexlt a c=false:=by
 cases h:lexlt a c with
 | false=>rfl
 | true=>
  exfalso
  rcases lexlt_tot a b with h3 | h3 | h3
  ·rw [h1] at h3;simp at h3
  ·subst h3
   rw [h2] at h;simp at h
  ·have:=lexlt_tr b a c h3 h
   rw [h2] at this;simp at this
theorem swoTerm:Go.Sort.SWO (ltOf fun x y:Trm=>cmpL y.e x.e) where
 irrefl x:=by unfold ltOf;rw [cmpL_neg];exact lexlt_irr _
 trans x y z h1 h2:=by
  unfold ltOf at *
  rw [cmpL_neg] at *
  exact lexlt_tr _ _ _ h2 h1
 ntrans x y z h1 h2:=by
  unfold ltOf at *
  rw [cmpL_neg] at *
  exact lexlt_ntrans _ _ _ h2 h1
theorem sortOk:SortOk:=by
 intro ts hts hnd hlen
 have h:=sort_calls (P:=Tryz.prog) (g:=F.impl_building_done_1) ⟨Tryz.f164,_,Tryz.func164,rfl,by kernel_rfl⟩ sfTerm tO_two (by omega) (fun t=>by simp [tO,noShL,noSh]) (fun l=>by
  induction l with
  | nil=>trivial
  | cons x l ih=>
   simp only [rows,tO,List.cons_append,List.nil_append,solidL]
   exact ⟨rfl,rfl,ih⟩) (fun x y:Trm=>cmpL y.e x.e) swoTerm ts hlen (fun x hx y hy=>by
  have:=impl_building_done_1_calls x y (hts x hx) (hts y hy)
  simpa [tO,shareL,share,shareL_ints] using this)
 refine ACalls.mono h ?_
 rintro outs res ⟨r,h1,h2,h3,h4⟩
 refine ⟨r,h1,?_,h3,h4⟩
 have hnr:(r.map (·.e)).Nodup:=(h1.map (·.e)).nodup_iff.2 hnd
 unfold DescT
 rw [List.Nodup,List.pairwise_map] at hnr
 refine (h2.and hnr).imp ?_
 rintro a b ⟨h5,h6⟩
 have h7:lexlt a.e b.e=false:=by
  rw [← cmpL_neg]
  simpa using h5
 rcases lexlt_tot a.e b.e with h8 | h8 | h8
 ·rw [h7] at h8;simp at h8
 ·exact absurd h8 h6
 ·exact h8
end Go.Proofs.YtbhkonnakkhibaaGreat.Ab
namespace Go.Proofs.YtbhkonnakkhibaaGreat.Ab
open Go
theorem doneOk:DoneOk:=fun n es l hM hl h1 h8 hL=>(impl_building_done_calls sortOk n es l hM hl h1 h8 hL).weak1
theorem mulOk:MulOk:=iMul_calls doneOk
end Go.Proofs.YtbhkonnakkhibaaGreat.Ab
namespace Go.Proofs.YtbhkonnakkhibaaGreat.Ab
open Go
set_option maxRecDepth 10000
set_option maxHeartbeats 2000000
def prk (k:Int) (t:Trm):List Int×Int:=(t.e,k*t.c)
noncomputable def addF (f:Lau) (k:Int) (g:Lau):Lau×Bool:=if (Right f/\Right g/\f.v=g.v)/\(-1000<=k/\k<=1000) then shutF f.v (f.ts.map pr ++ g.ts.map (prk k)) else (zeroF,false)
theorem impl_AddLaurents_calls (f:Lau) (k:Int) (g:Lau) (hx:f.ts.length < 4611686018427387904) (hxe:∀ t∈f.ts,t.e.length < 4611686018427387904) (hy:g.ts.length < 4611686018427387904) (hye:∀ t∈g.ts,t.e.length < 4611686018427387904):ACalls Tryz.prog F.impl_AddLaurents [aF f,.int k,aF g] [] true (fun outs res=>outs=[]/\WkRs res [.ag (fO (addF f k g).1),.one (D.bool (addF f k g).2)]):=by
 refine ACalls.of_body (C:=C.impl_AddLaurents) (n:=Tryz.f87.ntmps) tabT folT Tryz.func87 rfl (by kernel_rfl) rfl (Nat.le_of_ble_eq_true rfl) (by decide) (by kernel_rfl) (by kernel_rfl) rfl (by simp) (by simp) ?_
 simp only [Tryz.f87]
 refine wseq ?_
 refine wreg fun K hK=>?_
 simp [C.impl_AddLaurents,fS]
 refine hK _ ?_;clear hK K
 show AWp _ _ _ _ _
 refine wseq ?_
 refine wseq ?_
 refine wregI ([0,1,2] ++ ([3,4,5,6] ++ ([7,8]))) rfl fun K hK=>?_
 have hJ:K ⟨ofL [(1,.int k),(3,.pt (3,0) [] 0),(5,.pt (5,0) [] 0),(6,.pt (6,0) [] 0),(21,.bool (!decide ((Right f/\Right g/\f.v=g.v)/\(-1000<=k/\k<=1000))))],ofRO [((3,0),some (.bx (fS f))),((5,0),some (.bx (fS g))),((6,0),some (.bx [D.int 0,.v (.slice none 0 0)]))]⟩:=by
  refine hK _ ?_;clear hK K
  show AWp _ _ _ _ _
  refine wcond _ rfl (fun hc1=>?_) (fun hc1=>?_)
  ·have hr:=nd_t hc1
   have hm:addF f k g=(zeroF,false):=if_neg hr
   refine wseq ?_
   refine wreg fun K hK=>?_
   simp [C.impl_AddLaurents,fS]
   refine hK _ ?_;clear hK K
   show AWp _ _ _ _ _
   refine wret ?_
   simp [C.impl_AddLaurents,fS,hm,fO,zeroF,rows]
  ·have hr:=nd_f hc1
   obtain ⟨⟨hf,hg,hfg⟩,hk⟩:=hr
   have hv:=hf.1
   obtain ⟨n,hn⟩:∃ n:Nat,f.v=n:=⟨f.v.toNat,by omega⟩
   have hn2:g.v=n:=by omega
   have hn8:n<=8:=by omega
   have hfl:=hf.2.1
   have hgl:=hg.2.1
   have hm:addF f k g=shutF n (f.ts.map pr ++ g.ts.map (prk k)):=by
    unfold addF
    rw [if_pos ⟨⟨hf,hg,hfg⟩,hk⟩,hn]
   refine wskip ?_
   show AWp _ _ _ _ _
   refine wseq ?_
   refine wregI ([0,1,2] ++ ([3])) rfl fun K hK=>?_
   refine opsI_seg fun L hL=>?_
   simp [C.impl_AddLaurents,fS,hn]
   refine wcall1 (impl_newBuilding_calls n) (by simp) (by simp) ?_
   simp [C.impl_AddLaurents,fS,hn]
   refine hL _ ?_;clear hL L
   refine opsI_end fun L hL=>?_
   simp [C.impl_AddLaurents,fS,hn]
   refine hL _ ?_;clear hL L
   simp [C.impl_AddLaurents,fS,hn]
   refine hK _ ?_;clear hK K
   show AWp _ _ _ _ _
   refine wseq ?_
   refine wseq ?_
   refine wreg fun K hK=>?_
   simp [C.impl_AddLaurents,fS]
   refine hK _ ?_;clear hK K
   show AWp _ _ _ _ _
   refine wblock ?_
   refine wloop (fun x:Nat×List (List Int×Int)×List (List Int×Int)=>⟨ofL [(1,.int k),(5,.pt (5,0) [] 0),(6,.pt (6,0) [] 0),(8,.pt (8,0) [] 0),(27,.d (.sh 2 f.ts.length (rows tS f.ts))),(28,.int f.ts.length),(29,.int x.1)],ofRO [((5,0),some (.bx (fS g))),((6,0),some (.bx [D.int 0,.v (.slice none 0 0)])),((8,0),some (.bx [D.int n,.mp x.2.1]))]⟩) (fun x=>x.1<=f.ts.length/\MapR n x.2.1 x.2.2/\x.2.2.Perm ((f.ts.take x.1).map pr)/\absE x.2.2<=x.1*1000000) (fun x=>f.ts.length - x.1) (0,[],[]) (by simp [C.impl_AddLaurents,fS]) ⟨by simp,MapR.nil n,by simp,by simp [absE]⟩ ?_
   intro x1 hx1 R1 hR1
   obtain ⟨j,es,l⟩:=x1
   obtain ⟨hj,hM,hP,hA⟩:=hx1
   dsimp only at hj hM hP hA ⊢
   refine wseq ?_
   refine wreg fun K hK=>?_
   simp [C.impl_AddLaurents,fS]
   refine hK _ ?_;clear hK K
   show AWp _ _ _ _ _
   refine wseq ?_
   refine wcond _ rfl (fun hc2=>?_) (fun hc2=>?_)
   ·have h1:j < f.ts.length:=by have:=d_t hc2;omega
    have hT:=right_dig hf hn _ (List.getElem_mem h1)
    refine wskip ?_
    show AWp _ _ _ _ _
    refine wseq ?_
    refine wblock ?_
    refine wseq ?_
    refine wreg fun K hK=>?_
    simp [C.impl_AddLaurents,fS,h1,tS_0 h1,tS_1 h1]
    refine hK _ ?_;clear hK K
    show AWp _ _ _ _ _
    obtain ⟨a0,a1,a2,a3,a4,a5,a6,a7,hpa⟩:=eight (pad_length (e:=f.ts[j].e) (by omega))
    have hval:=hM.val _ hT.1
    have hco:=co_abs f.ts[j].e l
    refine wdrawI [(true,0),(true,1),(true,2),(true,4),(true,5),(false,3),(false,6)] ⟨by kernel_rfl,by kernel_rfl⟩ ([0,1,2,4,5,3] ++ ([6] ++ ([]))) rfl fun K hK=>?_
    refine opsI_seg fun L hL=>?_
    simp [C.impl_AddLaurents,fS,tS]
    refine wcall1 (impl_keyOf_calls f.ts[j].e (by omega) a0 a1 a2 a3 a4 a5 a6 a7 hpa) (by simp) (by simp) ?_
    simp [C.impl_AddLaurents,fS,tS]
    refine hL _ ?_;clear hL L
    refine opsI_seg fun L hL=>?_
    simp [C.impl_AddLaurents,fS,tS]
    refine wcall1 (impl_building_add_calls n f.ts[j].c es a0 a1 a2 a3 a4 a5 a6 a7 (hM.len8 hn8) (by rw [← hpa,hval];have:=hT.2.2.2;omega)) (by simp) (by simp) ?_
    simp [C.impl_AddLaurents,fS,tS]
    refine hL _ ?_;clear hL L
    refine opsI_end fun L hL=>?_
    simp only [AOpsI]
    refine hL _ ?_;clear hL L
    simp [C.impl_AddLaurents,fS,tS]
    rw [← hpa]
    refine hK _ ?_;clear hK K
    show AWp _ _ _ _ _
    refine wreg fun K hK=>?_
    simp [C.impl_AddLaurents,fS,wrap_succ (show j < 4611686018427387904 by omega)]
    refine hK _ ?_;clear hK K
    simp [C.impl_AddLaurents,fS]
    refine hR1 (j+1,_,(f.ts[j].e,f.ts[j].c) :: l) ⟨h1,hM.add hT.1 _,?_,?_⟩ (by dsimp only;omega)
    ·dsimp only
     rw [List.take_succ_eq_append_getElem h1,List.map_append]
     refine (List.Perm.cons _ hP).trans ?_
     exact (List.perm_append_singleton _ _).symm
    ·have:=hT.2.2.2
     have h3:f.ts[j].c.natAbs<=1000000:=by omega
     simp only [absE,List.map_cons,List.sum_cons] at hA ⊢
     omega
   ·have h1:j=f.ts.length:=by have:=d_f hc2;omega
    rw [h1,List.take_length] at hP
    refine wexit ?_
    show AWp _ _ _ _ _
    refine wseq ?_
    refine wseq ?_
    refine wreg fun K hK=>?_
    simp [C.impl_AddLaurents,fS]
    refine hK _ ?_;clear hK K
    show AWp _ _ _ _ _
    refine wblock ?_
    refine wloop (fun x:Nat×List (List Int×Int)×List (List Int×Int)=>⟨ofL [(1,.int k),(6,.pt (6,0) [] 0),(8,.pt (8,0) [] 0),(42,.d (.sh 2 g.ts.length (rows tS g.ts))),(43,.int g.ts.length),(44,.int x.1)],ofRO [((6,0),some (.bx [D.int 0,.v (.slice none 0 0)])),((8,0),some (.bx [D.int n,.mp x.2.1]))]⟩) (fun x=>x.1<=g.ts.length/\MapR n x.2.1 x.2.2/\x.2.2.Perm (f.ts.map pr ++ (g.ts.take x.1).map (prk k))/\absE x.2.2<=600000000+x.1*1000000000) (fun x=>g.ts.length - x.1) (0,es,l) (by simp [C.impl_AddLaurents,fS]) ⟨by simp,hM,by simpa using hP,by dsimp only;omega⟩ ?_
    intro x2 hx2 R2 hR2
    obtain ⟨i,es2,l2⟩:=x2
    obtain ⟨hi,hM2,hP2,hA2⟩:=hx2
    dsimp only at hi hM2 hP2 hA2 ⊢
    refine wseq ?_
    refine wreg fun K hK=>?_
    simp [C.impl_AddLaurents,fS]
    refine hK _ ?_;clear hK K
    show AWp _ _ _ _ _
    refine wseq ?_
    refine wcond _ rfl (fun hc3=>?_) (fun hc3=>?_)
    ·have h2:i < g.ts.length:=by have:=d_t hc3;omega
     have hU:=right_dig hg hn2 _ (List.getElem_mem h2)
     have hkc:(k*g.ts[i].c).natAbs<=1000*1000000:=by
      rw [Int.natAbs_mul]
      exact Nat.mul_le_mul (by omega) (by have:=hU.2.2.2;omega)
     refine wskip ?_
     show AWp _ _ _ _ _
     refine wseq ?_
     refine wblock ?_
     refine wseq ?_
     refine wreg fun K hK=>?_
     simp [C.impl_AddLaurents,fS,h2,tS_0 h2,tS_1 h2]
     refine hK _ ?_;clear hK K
     show AWp _ _ _ _ _
     obtain ⟨a0,a1,a2,a3,a4,a5,a6,a7,hpa⟩:=eight (pad_length (e:=g.ts[i].e) (by omega))
     have hval:=hM2.val _ hU.1
     have hco:=co_abs g.ts[i].e l2
     refine wdrawI [(true,0),(true,1),(true,2),(true,4),(true,5),(true,6),(true,7),(false,3),(false,8)] ⟨by kernel_rfl,by kernel_rfl⟩ ([0,1,2,4,5,6,7,3] ++ ([8] ++ ([]))) rfl fun K hK=>?_
     refine opsI_seg fun L hL=>?_
     simp [C.impl_AddLaurents,fS,tS,wrapOk (x:=k*g.ts[i].c) (by omega) (by omega)]
     refine wcall1 (impl_keyOf_calls g.ts[i].e (by omega) a0 a1 a2 a3 a4 a5 a6 a7 hpa) (by simp) (by simp) ?_
     simp [C.impl_AddLaurents,fS,tS,wrapOk (x:=k*g.ts[i].c) (by omega) (by omega)]
     refine hL _ ?_;clear hL L
     refine opsI_seg fun L hL=>?_
     simp [C.impl_AddLaurents,fS,tS,wrapOk (x:=k*g.ts[i].c) (by omega) (by omega)]
     refine wcall1 (impl_building_add_calls n (k*g.ts[i].c) es2 a0 a1 a2 a3 a4 a5 a6 a7 (hM2.len8 hn8) (by rw [← hpa,hval];omega)) (by simp) (by simp) ?_
     simp [C.impl_AddLaurents,fS,tS,wrapOk (x:=k*g.ts[i].c) (by omega) (by omega)]
     refine hL _ ?_;clear hL L
     refine opsI_end fun L hL=>?_
     simp only [AOpsI]
     refine hL _ ?_;clear hL L
     simp [C.impl_AddLaurents,fS,tS,wrapOk (x:=k*g.ts[i].c) (by omega) (by omega)]
     rw [← hpa]
     refine hK _ ?_;clear hK K
     show AWp _ _ _ _ _
     refine wreg fun K hK=>?_
     simp [C.impl_AddLaurents,fS,wrap_succ (show i < 4611686018427387904 by omega)]
     refine hK _ ?_;clear hK K
     simp [C.impl_AddLaurents,fS]
     refine hR2 (i+1,_,(g.ts[i].e,k*g.ts[i].c) :: l2) ⟨h2,hM2.add hU.1 _,?_,?_⟩ (by dsimp only;omega)
     ·dsimp only
      rw [List.take_succ_eq_append_getElem h2,List.map_append,← List.append_assoc]
      refine (List.Perm.cons _ hP2).trans ?_
      exact (List.perm_append_singleton _ _).symm
     ·simp only [absE,List.map_cons,List.sum_cons] at hA2 ⊢
      omega
    ·have h2:i=g.ts.length:=by have:=d_f hc3;omega
     have hall:l2.Perm (f.ts.map pr ++ g.ts.map (prk k)):=by
      rw [h2,List.take_length] at hP2
      exact hP2
     have hlen:∀ x∈l2,x.1.length=n:=fun x hx=>by
      rcases List.mem_append.1 (hall.subset hx) with h | h
      ·obtain ⟨t,ht,rfl⟩:=List.mem_map.1 h
       exact (right_dig hf hn t ht).1
      ·obtain ⟨t,ht,rfl⟩:=List.mem_map.1 h
       exact (right_dig hg hn2 t ht).1
     have hll:l2.length<=1000000:=by rw [hall.length_eq,List.length_append,List.length_map,List.length_map];omega
     have hs:=shutF_perm hall n
     refine wexit ?_
     show AWp _ _ _ _ _
     refine wseq ?_
     refine wregI ([0,1] ++ ([2,3,4,5])) rfl fun K hK=>?_
     refine opsI_seg fun L hL=>?_
     simp [C.impl_AddLaurents,fS,fO]
     refine wcall1 (doneOk n es2 l2 hM2 hlen (by omega) hn8 hll) (by simp) (by simp) ?_
     simp [C.impl_AddLaurents,fS,fO]
     refine hL _ ?_;clear hL L
     refine opsI_end fun L hL=>?_
     simp [C.impl_AddLaurents,fS,fO]
     refine hL _ ?_;clear hL L
     simp [C.impl_AddLaurents,fS,fO]
     refine hK _ ?_;clear hK K
     show AWp _ _ _ _ _
     refine wret ?_
     simp [C.impl_AddLaurents,fS,hm,← hs,fO]
 clear hK
 by_cases ha:Right f/\Right g/\f.v=g.v
 ·have hvv:=ha.2.2
  refine opsI_seg fun L hL=>?_
  simp [C.impl_AddLaurents,fS,ha]
  refine wcall1 (impl_bothOk_calls f g hx hxe hy hye) (by simp;omega) (by simp) ?_
  simp [C.impl_AddLaurents,fS,ha]
  refine hL _ ?_;clear hL L
  refine opsI_seg fun L hL=>?_
  simp [C.impl_AddLaurents,fS,ha]
  refine wcall1 (impl_within_calls k (-1000) 1000) (by simp) (by simp) ?_
  simp [C.impl_AddLaurents,fS,ha]
  refine hL _ ?_;clear hL L
  refine opsI_end fun L hL=>?_
  simp [C.impl_AddLaurents,fS,ha]
  refine hL _ ?_;clear hL L
  simp [C.impl_AddLaurents,fS,ha]
  refine cast (congrArg K ?_) hJ
  simp [fS,ha]
 ·refine opsI_seg fun L hL=>?_
  simp [C.impl_AddLaurents,fS,ha]
  refine wcall1 (impl_bothOk_calls f g hx hxe hy hye) (by simp) (by simp) ?_
  simp [C.impl_AddLaurents,fS,ha]
  refine hL _ ?_;clear hL L
  refine opsI_seg fun L hL=>?_
  simp [C.impl_AddLaurents,fS,ha]
  refine hL _ ?_;clear hL L
  refine opsI_end fun L hL=>?_
  simp [C.impl_AddLaurents,fS,ha]
  refine hL _ ?_;clear hL L
  simp [C.impl_AddLaurents,fS,ha]
  refine cast (congrArg K ?_) hJ
  simp [fS,ha]
theorem iAdd_calls (f:Lau) (k:Int) (g:Lau) (hx:f.ts.length < 4611686018427387904) (hxe:∀ t∈f.ts,t.e.length < 4611686018427387904) (hy:g.ts.length < 4611686018427387904) (hye:∀ t∈g.ts,t.e.length < 4611686018427387904):ACalls Tryz.prog F.impl_AddLaurents [aF f,.int k,aF g] [] true (fun outs res=>outs=[]/\res=[.ag (fO (addF f k g).1),.one (D.bool (addF f k g).2)]):=(impl_AddLaurents_calls f k g hx hxe hy hye).weak1
end Go.Proofs.YtbhkonnakkhibaaGreat.Ab
namespace Go.Proofs.YtbhkonnakkhibaaGreat.Ab
open Go
set_option maxRecDepth 10000
set_option maxHeartbeats 2000000
theorem sum_coded (f g:Lau) (k:Int):f.ts.map kt ++ (g.ts.map kt).map (scM k)=(f.ts.map pr ++ g.ts.map (prk k)).map kc:=by
 rw [List.map_append,List.map_map,List.map_map,List.map_map]
 rfl
theorem sum_exps {f g:Lau} (k:Int) (hf:Right f) (hg:Right g) {n:Nat} (h1:f.v=n) (h2:g.v=n):Exps n (f.ts.map pr ++ g.ts.map (prk k)):=fun z hz=>by
 rcases List.mem_append.1 hz with hz | hz
 ·obtain ⟨t,ht,rfl⟩:=List.mem_map.1 hz
  have:=right_dig hf h1 t ht
  exact ⟨this.1,this.2.1⟩
 ·obtain ⟨t,ht,rfl⟩:=List.mem_map.1 hz
  have:=right_dig hg h2 t ht
  exact ⟨this.1,this.2.1⟩
theorem mon_abs {l:List (Int×Int)} (h:MonOk l) (hl:l.length<=600):absL l<=600000000:=by
 have:=absL_le (l:=l) (B:=1000000) fun x hx=>by have:=(h x hx).2;omega
 omega
theorem spec_AddLaurents_calls (f:Lau) (k:Int) (g:Lau) (hx:f.ts.length < 4611686018427387904) (hxe:∀ t∈f.ts,t.e.length < 4611686018427387904) (hy:g.ts.length < 4611686018427387904) (hye:∀ t∈g.ts,t.e.length < 4611686018427387904):ACalls Tryz.prog F.spec_AddLaurents [aF f,.int k,aF g] [] true (fun outs res=>outs=[]/\WkRs res [.ag (fO (addF f k g).1),.one (D.bool (addF f k g).2)]):=by
 have hcall:=spec_l2Two_calls f g hx hxe hy hye
 generalize hB:decide (Right f/\Right g/\f.v=g.v)=B at hcall
 refine ACalls.of_body (C:=C.spec_AddLaurents) (n:=Tryz.f120.ntmps) tabT folT Tryz.func120 rfl (by kernel_rfl) rfl (Nat.le_of_ble_eq_true rfl) (by decide) (by kernel_rfl) (by kernel_rfl) rfl (by simp) (by simp) ?_
 simp only [Tryz.f120]
 refine wseq ?_
 refine wreg fun K hK=>?_
 simp [C.spec_AddLaurents,fS]
 refine hK _ ?_;clear hK K
 show AWp _ _ _ _ _
 refine wseq ?_
 refine wseq ?_
 refine wregI ([0,1,2] ++ ([3,4,5,6] ++ ([7,8]))) rfl fun K hK=>?_
 have hJ:K ⟨ofL [(1,.int k),(3,.pt (3,0) [] 0),(5,.pt (5,0) [] 0),(6,.pt (6,0) [] 0),(16,.bool (!(B && decide (-1000<=k/\k<=1000))))],ofRO [((3,0),some (.bx (fS f))),((5,0),some (.bx (fS g))),((6,0),some (.bx [D.int 0,.v (.slice none 0 0)]))]⟩:=by
  refine hK _ ?_;clear hK K
  show AWp _ _ _ _ _
  refine wcond _ rfl (fun hc1=>?_) (fun hc1=>?_)
  ·have hr:¬ ((Right f/\Right g/\f.v=g.v)/\(-1000<=k/\k<=1000)):=by
    rintro ⟨h1,h2⟩
    rw [← hB,decide_eq_true h1,decide_eq_true h2] at hc1
    simp at hc1
   have hm:addF f k g=(zeroF,false):=if_neg hr
   refine wseq ?_
   refine wreg fun K hK=>?_
   simp [C.spec_AddLaurents,fS]
   refine hK _ ?_;clear hK K
   show AWp _ _ _ _ _
   refine wret ?_
   simp [C.spec_AddLaurents,fS,hm,fO,zeroF,rows]
  ·have hr:(Right f/\Right g/\f.v=g.v)/\(-1000<=k/\k<=1000):=by
    rw [← hB] at hc1
    simpa using hc1
   obtain ⟨⟨hf,hg,hfg⟩,hk⟩:=hr
   have hv:=hf.1
   obtain ⟨n,hn⟩:∃ n:Nat,f.v=n:=⟨f.v.toNat,by omega⟩
   have hn2:g.v=n:=by omega
   have hn8:n<=8:=by omega
   have hfl:=hf.2.1
   have hgl:=hg.2.1
   have hE:=sum_exps k hf hg hn hn2
   have hnf:nf ilt (f.ts.map kt ++ (g.ts.map kt).map (scM k))=((nf lexlt (f.ts.map pr ++ g.ts.map (prk k))).map tm).map kt:=by
    rw [sum_coded,nf_key _ hE,List.map_map,kt_tm]
   obtain ⟨T,hT⟩:∃ T,T=(nf lexlt (f.ts.map pr ++ g.ts.map (prk k))).map tm:=⟨_,rfl⟩
   rw [← hT] at hnf
   have hTl:T.length<=1000000:=by
    rw [hT,List.length_map]
    have h1:=nf_len (lt:=lexlt) (f.ts.map pr ++ g.ts.map (prk k))
    rw [List.length_append,List.length_map,List.length_map] at h1
    omega
   have hTe:∀ t∈T,Dig t.e/\t.e.length=n:=fun t ht=>by
    rw [hT] at ht
    obtain ⟨z,hz,rfl⟩:=List.mem_map.1 ht
    have:=nf_exps hE z hz
    exact ⟨this.2,this.1⟩
   have hm:addF f k g=if Right ⟨f.v,T⟩ then (⟨f.v,T⟩,true) else (zeroF,false):=by
    unfold addF
    rw [if_pos ⟨⟨hf,hg,hfg⟩,hk⟩]
    unfold shutF
    rw [← hT]
   have hdf:∀ t∈f.ts,Dig t.e/\t.e.length<=8:=fun t ht=>by have:=right_dig hf hn t ht;exact ⟨this.2.1,by omega⟩
   have hdg:∀ t∈g.ts,Dig t.e/\t.e.length<=8:=fun t ht=>by have:=right_dig hg hn2 t ht;exact ⟨this.2.1,by omega⟩
   have hab1:=mon_abs (right_mon hf hn) (by simpa using hfl)
   have hab2:=mon_abs (right_mon hg hn2) (by simpa using hgl)
   have hab3:k.natAbs*absL (g.ts.map kt)<=1000*600000000:=Nat.mul_le_mul (by omega) hab2
   have hPlus:=spec_l2Plus_calls (f.ts.map kt) (g.ts.map kt) k (by simp only [List.length_map];omega) (by omega)
   rw [hnf] at hPlus
   simp only [List.length_map] at hPlus
   refine wskip ?_
   show AWp _ _ _ _ _
   refine wseq ?_
   refine wdrawI [(true,0),(true,2),(true,3),(true,6),(true,7),(false,1),(false,4),(false,5),(false,8),(true,9),(true,10),(false,11),(true,12)] ⟨by kernel_rfl,by kernel_rfl⟩ ([0,2,3,6,7,1] ++ ([4] ++ ([5] ++ ([8] ++ ([9,10,11,12]))))) rfl fun K hK=>?_
   refine opsI_seg fun L hL=>?_
   simp [C.spec_AddLaurents,fS]
   refine wcall1 (spec_l2Open_calls f (by omega) hdf) (by simp) (by simp) ?_
   simp [C.spec_AddLaurents,fS]
   refine hL _ ?_;clear hL L
   refine opsI_seg fun L hL=>?_
   simp [C.spec_AddLaurents,fS]
   refine wcall1 (spec_l2Open_calls g (by omega) hdg) (by simp) (by simp) ?_
   simp [C.spec_AddLaurents,fS]
   refine hL _ ?_;clear hL L
   refine opsI_seg fun L hL=>?_
   simp [C.spec_AddLaurents,fS]
   refine wcall1 (hPlus) (by simp) (by simp) ?_
   simp [C.spec_AddLaurents,fS]
   refine hL _ ?_;clear hL L
   refine opsI_seg fun L hL=>?_
   simp [C.spec_AddLaurents,fS]
   refine wcall1 (l2Shut_calls T n hTl hTe hn8) (by simp;omega) (by simp) ?_
   simp [C.spec_AddLaurents,fS]
   refine hL _ ?_;clear hL L
   refine opsI_end fun L hL=>?_
   simp [C.spec_AddLaurents,fS]
   refine hL _ ?_;clear hL L
   simp [C.spec_AddLaurents,fS]
   refine hK _ ?_;clear hK K
   show AWp _ _ _ _ _
   refine wret ?_
   simp [C.spec_AddLaurents,fS]
   rw [hm,hn]
   by_cases hR:Right ⟨(n:Int),T⟩
   ·simp [hR,fO]
   ·simp [hR,fO]
 clear hK
 by_cases ha:B=true
 ·refine opsI_seg fun L hL=>?_
  simp [C.spec_AddLaurents,fS,ha]
  refine wcall1 (hcall) (by simp) (by simp) ?_
  simp [C.spec_AddLaurents,fS,ha]
  refine hL _ ?_;clear hL L
  refine opsI_seg fun L hL=>?_
  simp [C.spec_AddLaurents,fS,ha]
  refine wcall1 (spec_l1In_calls k (-1000) 1000) (by simp) (by simp) ?_
  simp [C.spec_AddLaurents,fS,ha]
  refine hL _ ?_;clear hL L
  refine opsI_end fun L hL=>?_
  simp [C.spec_AddLaurents,fS,ha]
  refine hL _ ?_;clear hL L
  simp [C.spec_AddLaurents,fS,ha]
  refine cast (congrArg K ?_) hJ
  simp [fS,ha]
 ·refine opsI_seg fun L hL=>?_
  simp [C.spec_AddLaurents,fS,ha]
  refine wcall1 (hcall) (by simp) (by simp) ?_
  simp [C.spec_AddLaurents,fS,ha]
  refine hL _ ?_;clear hL L
  refine opsI_seg fun L hL=>?_
  simp [C.spec_AddLaurents,fS,ha]
  refine hL _ ?_;clear hL L
  refine opsI_end fun L hL=>?_
  simp [C.spec_AddLaurents,fS,ha]
  refine hL _ ?_;clear hL L
  simp [C.spec_AddLaurents,fS,ha]
  refine cast (congrArg K ?_) hJ
  simp [fS,ha]
theorem sAdd_calls (f:Lau) (k:Int) (g:Lau) (hx:f.ts.length < 4611686018427387904) (hxe:∀ t∈f.ts,t.e.length < 4611686018427387904) (hy:g.ts.length < 4611686018427387904) (hye:∀ t∈g.ts,t.e.length < 4611686018427387904):ACalls Tryz.prog F.spec_AddLaurents [aF f,.int k,aF g] [] true (fun outs res=>outs=[]/\res=[.ag (fO (addF f k g).1),.one (D.bool (addF f k g).2)]):=(spec_AddLaurents_calls f k g hx hxe hy hye).weak1
end Go.Proofs.YtbhkonnakkhibaaGreat.Ab
namespace Go.Proofs.YtbhkonnakkhibaaGreat.Ab
open Go
theorem lexlt_app:∀ (a b z:List Int),a.length=b.length->lexlt (a ++ z) (b ++ z)=lexlt a b
 | [],[],z,_=>by simp [lexlt_irr,lexlt]
 | x :: a,y :: b,z,h=>by simp [lexlt,lexlt_app a b z (by simpa using h)]
 | [],_ :: _,_,h=>by simp at h
 | _ :: _,[],_,h=>by simp at h
theorem lexlt_pad {a b:List Int} (h:a.length=b.length):lexlt (pad a) (pad b)=lexlt a b:=by
 unfold pad
 rw [← h]
 exact lexlt_app a b _ h
theorem mget_some {k:List Int} {v:Int}:∀ {es:List (List Int×Int)},mget k es=some v->(k,v)∈es
 | [],h=>by simp [mget] at h
 | x :: es,h=>by
  simp only [mget] at h
  split at h
  ·rename_i e
   simp only [Option.some.injEq] at h
   subst h
   have:x=(k,x.2):=Prod.ext e rfl
   rw [← this];simp
  ·exact List.mem_cons_of_mem _ (mget_some h)
theorem mget_mem {k:List Int} {v:Int}:∀ {es:List (List Int×Int)},(es.map (·.1)).Nodup->(k,v)∈es->mget k es=some v
 | [],_,h=>by simp at h
 | x :: es,hn,h=>by
  simp only [List.map_cons,List.nodup_cons] at hn
  simp only [mget]
  rcases List.mem_cons.1 h with e | h
  ·rw [← e];simp
  ·rw [if_neg]
   ·exact mget_mem hn.2 h
   ·rintro e
    exact hn.1 (List.mem_map.2 ⟨(k,v),h,e.symm⟩)
structure TopJ (P:List (List Int×Int)) (top:List Int):Prop where
 len:top.length=8
 mem:P≠[]->∃ c,(top,c)∈P
 max:∀ y∈P,lexlt top y.1=false
theorem TopJ.keep {P:List (List Int×Int)} {top:List Int} (h:TopJ P top) {y:List Int×Int} (hne:P≠[]) (hy:lexlt top y.1=false):TopJ (P ++ [y]) top:=by
 obtain ⟨c,hc⟩:=h.mem hne
 refine ⟨h.len,fun _=>⟨c,by simp [hc]⟩,fun z hz=>?_⟩
 rcases List.mem_append.1 hz with hz | hz
 ·exact h.max z hz
 ·simp only [List.mem_singleton] at hz
  subst hz;exact hy
theorem TopJ.next {P:List (List Int×Int)} {top:List Int} (h:TopJ P top) {y:List Int×Int} (hl:y.1.length=8) (hy:P=[]\/lexlt top y.1=true):TopJ (P ++ [y]) y.1:=by
 refine ⟨hl,fun _=>⟨y.2,by simp⟩,fun z hz=>?_⟩
 rcases List.mem_append.1 hz with hz | hz
 ·rcases hy with rfl | hy
  ·simp at hz
  ·cases hq:lexlt y.1 z.1 with
   | false=>rfl
   | true=>
    have h1:=h.max z hz
    have h2:=lexlt_tr _ _ _ hy hq
    rw [h1] at h2;simp at h2
 ·simp only [List.mem_singleton] at hz
  subst hz;exact lexlt_irr _
theorem top_head {n:Nat} {es l P:List (List Int×Int)} {top:List Int} {a:List Int} {c:Int} {R:List (List Int×Int)} (h:MapR n es l) (hl:∀ x∈l,x.1.length=n) (hP:P.Perm es) (hT:TopJ P top) (hR:nf lexlt l=(a,c) :: R) :
  top=pad a/\mget top es=some c:=by
 have hal:a.length=n:=by
  obtain ⟨x,hx,e⟩:=nf_mem (y:=(a,c)) (by rw [hR];simp)
  have h9:=hl x hx
  rw [e] at h9
  exact h9
 have hd:=nf_desc lexOrd l
 have hc:=co_single lexOrd hd (x:=(a,c)) (by rw [hR];simp)
 rw [nf_co] at hc
 have hcz:c≠0:=nf_nz l (a,c) (by rw [hR];simp)
 have hva:=h.val a hal
 have hga:mget (pad a) es=some c:=by
  rw [hc] at hva
  cases hg:mget (pad a) es with
  | none=>rw [hg] at hva;simp at hva;exact absurd hva.symm hcz
  | some v=>rw [hg] at hva;simp at hva;rw [hva]
 have hmem:=mget_some hga
 have hmP:=hP.mem_iff.2 hmem
 obtain ⟨v,hv⟩:=hT.mem (by intro e;rw [e] at hmP;simp at hmP)
 have hvE:=hP.mem_iff.1 hv
 obtain ⟨hvz,e,hel,he⟩:=h.nz _ hvE
 simp only at he hvz
 have hlt:=hT.max _ hmP
 simp only at hlt
 rw [he,lexlt_pad (hel.trans hal.symm)] at hlt
 have hget:=mget_mem h.nod hvE
 have hve:=h.val e hel
 rw [← he,hget] at hve
 simp only [Option.getD_some] at hve
 have hco:co e (nf lexlt l)≠0:=by rw [nf_co,← hve];exact hvz
 obtain ⟨z,hz,ez⟩:=co_mem hco
 have hea:e=a:=by
  rw [hR] at hz hd
  rcases List.mem_cons.1 hz with rfl | hz
  ·exact ez.symm
  ·have h1:=List.rel_of_pairwise_cons hd hz
   simp only at h1
   rw [ez,hlt] at h1
   simp at h1
 subst hea
 exact ⟨he,by rw [he];exact hga⟩
theorem pad_bd60 {e:List Int} {B:Int} (hB:0<=B) (hB2:B<=1000000) (h:∀ x∈e,-B<=x/\x<=B):∀ x∈pad e,-1000000<=x/\x<=1000000:=fun x hx=>by
 unfold pad at hx
 rcases List.mem_append.1 hx with hx | hx
 ·have:=h x hx;omega
 ·have:=List.eq_of_mem_replicate hx;omega
def negT (e:List Int) (q:Int) (g:List Trm):List (List Int×Int):=g.map fun t=>(addE 1 e t.e,-q*t.c)
theorem negT_step {e:List Int} {q:Int} {g:List Trm} {i:Nat} (h:i < g.length):negT e q (g.take (i+1))=negT e q (g.take i) ++ [(addE 1 e g[i].e,-q*g[i].c)]:=by
 unfold negT
 rw [List.take_succ_eq_append_getElem h,List.map_append]
 rfl
theorem step_nf {g:Lau} {x:List Int×Int} {R l l2:List (List Int×Int)} (hR:nf lexlt l=x :: R) (hl2:l2.Perm (l ++ negT (addE (-1) x.1 (leadE g)) (x.2.tdiv (leadC g)) g.ts)):nf lexlt l2=nf lexlt (stepL g x R):=by
 refine nf_unique lexOrd (nf_desc lexOrd _) (nf_nz _) fun k=>?_
 rw [nf_co,co_perm k hl2,stepL,co_append,co_append,← hR,nf_co]
 congr 1
 unfold negT mulT
 rw [List.map_map]
 rfl
end Go.Proofs.YtbhkonnakkhibaaGreat.Ab
namespace Go.Proofs.YtbhkonnakkhibaaGreat.Ab
open Go
theorem addE_dv2:∀ (a b:List Int),a.length=b.length->addE (-1) (addE 1 a b) b=a
 | [],[],_=>rfl
 | x :: a,y :: b,h=>by
  simp only [addE,addE_dv2 a b (by simpa using h)]
  congr 1
  omega
 | [],_ :: _,h=>by simp at h
 | _ :: _,[],h=>by simp at h
structure DivO (g:Lau) (n:Nat) (R O:List (List Int×Int)):Prop where
 od:Desc lexlt O
 oz:Nz O
 ol:∀ x∈O,x.1.length=n
 sep:∀ x∈O,∀ y∈R,lexlt y.1 (addE 1 x.1 (leadE g))=true
theorem DivO.step {g:Lau} {n:Nat} {x:List Int×Int} {R O:List (List Int×Int)} (h:DivO g n (x :: R) O) (hR:Desc lexlt (x :: R)) (hRl:∀ y∈x :: R,y.1.length=n) (hg:Right g) (hgn:g.v=n) (hne:g.ts≠[]) (hm:x.2.tmod (leadC g)=0) (hq:x.2.tdiv (leadC g)≠0) :
  DivO g n (nf lexlt (stepL g x R)) (O ++ [(addE (-1) x.1 (leadE g),x.2.tdiv (leadC g))]):=by
 have hgm:g.ts.map pr=(leadE g,leadC g) :: (g.ts.tail.map pr):=by
  unfold leadE leadC
  match hh:g.ts,hne with
  | t :: ts,_=>rfl
 have hgd:=pr_desc hg
 have hgD:=pr_dig hg hgn
 rw [hgm] at hgd hgD
 have hbl:(leadE g).length=n:=(hgD (leadE g,leadC g) (by simp)).1
 have hxl:=hRl x (by simp)
 have hless:=step_less lexOrd (lauAct n) hR hRl hgd (fun y hy=>(hgD y hy).1) hm
 rw [← hgm] at hless
 have hel:(addE (-1) x.1 (leadE g)).length=n:=by rw [addE_length _ _ _ (hxl.trans hbl.symm)];exact hxl
 have hback:addE 1 (addE (-1) x.1 (leadE g)) (leadE g)=x.1:=addE_dv _ _ (hxl.trans hbl.symm)
 refine ⟨?_,fun y hy=>?_,fun y hy=>?_,fun y hy z hz=>?_⟩
 ·refine List.pairwise_append.2 ⟨h.od,List.pairwise_singleton ..,fun y hy z hz=>?_⟩
  simp only [List.mem_singleton] at hz
  subst hz
  have h1:=h.sep y hy x (by simp)
  have hyl:=h.ol y hy
  have h2:=lexlt_addE (-1) x.1 (addE 1 y.1 (leadE g)) (leadE g) (hxl.trans hbl.symm) (by rw [addE_length _ _ _ (hyl.trans hbl.symm)];exact hyl.trans hbl.symm)
  rw [addE_dv2 _ _ (hyl.trans hbl.symm)] at h2
  show lexlt (addE (-1) x.1 (leadE g)) y.1=true
  rw [h2]
  exact h1
 ·rcases List.mem_append.1 hy with hy | hy
  ·exact h.oz y hy
  ·simp only [List.mem_singleton] at hy
   subst hy;exact hq
 ·rcases List.mem_append.1 hy with hy | hy
  ·exact h.ol y hy
  ·simp only [List.mem_singleton] at hy
   subst hy;exact hel
 ·have h1:=(hless z hz).1
  rcases List.mem_append.1 hy with hy | hy
  ·exact lexlt_tr _ _ _ h1 (h.sep y hy x (by simp))
  ·simp only [List.mem_singleton] at hy
   subst hy
   show lexlt z.1 (addE 1 (addE (-1) x.1 (leadE g)) (leadE g))=true
   rw [hback]
   exact h1
theorem DivO.nf {g:Lau} {n:Nat} {R O:List (List Int×Int)} (h:DivO g n R O):Ab.nf lexlt O=O:=(nf_unique lexOrd h.od h.oz fun k=>rfl).symm
theorem DivO.shut {g:Lau} {n:Nat} {R O:List (List Int×Int)} (h:DivO g n R O) (v:Int):shutF v O=endF v (some O):=by
 unfold shutF endF
 rw [h.nf]
theorem cmpL_gt (a b:List Int):decide (0 < cmpL a b)=lexlt b a:=by
 have:=cmpL_pos a b
 by_cases h:cmpL a b<=0
 ·rw [decide_eq_true h] at this
  rw [decide_eq_false (by omega)]
  cases hh:lexlt b a with
  | false=>rfl
  | true=>rw [hh] at this;simp at this
 ·rw [decide_eq_false h] at this
  rw [decide_eq_true (by omega)]
  cases hh:lexlt b a with
  | true=>rfl
  | false=>rw [hh] at this;simp at this
end Go.Proofs.YtbhkonnakkhibaaGreat.Ab
namespace Go.Proofs.YtbhkonnakkhibaaGreat.Ab
open Go
set_option maxRecDepth 10000
set_option maxHeartbeats 2000000
theorem spec_DivideLaurents_calls (f g:Lau) (hx:f.ts.length < 4611686018427387904) (hxe:∀ t∈f.ts,t.e.length < 4611686018427387904) (hy:g.ts.length < 4611686018427387904) (hye:∀ t∈g.ts,t.e.length < 4611686018427387904):ACalls Tryz.prog F.spec_DivideLaurents [aF f,aF g] [] true (fun outs res=>outs=[]/\WkRs res [.ag (fO (divF f g).1),.one (D.bool (divF f g).2)]):=by
 have hcall:=spec_l2Two_calls f g hx hxe hy hye
 generalize hB:decide (Right f/\Right g/\f.v=g.v)=B at hcall
 refine ACalls.of_body (C:=C.spec_DivideLaurents) (n:=Tryz.f121.ntmps) tabT folT Tryz.func121 rfl (by kernel_rfl) rfl (Nat.le_of_ble_eq_true rfl) (by decide) (by kernel_rfl) (by kernel_rfl) rfl (by simp) (by simp) ?_
 simp only [Tryz.f121]
 refine wseq ?_
 refine wreg fun K hK=>?_
 simp [C.spec_DivideLaurents,fS]
 refine hK _ ?_;clear hK K
 show AWp _ _ _ _ _
 refine wseq ?_
 refine wseq ?_
 refine wregI ([0,1,2] ++ ([3,4,5,6,7,8,9])) rfl fun K hK=>?_
 have hJ:K ⟨ofL [(2,.pt (2,0) [] 0),(3,.pt (3,0) [] 0),(4,.pt (4,0) [] 0),(15,.bool (!(B && !decide (g.ts=[]))))],ofRO [((2,0),some (.bx (fS f))),((3,0),some (.bx (fS g))),((4,0),some (.bx [D.int 0,.v (.slice none 0 0)]))]⟩:=by
  refine hK _ ?_;clear hK K
  show AWp _ _ _ _ _
  refine wcond _ rfl (fun hc1=>?_) (fun hc1=>?_)
  ·have hr:¬ ((Right f/\Right g/\f.v=g.v)/\g.ts≠[]):=by
    rintro ⟨h1,h2⟩
    rw [← hB,decide_eq_true h1] at hc1
    simp [h2] at hc1
   have hm:divF f g=(zeroF,false):=if_neg hr
   refine wseq ?_
   refine wreg fun K hK=>?_
   simp [C.spec_DivideLaurents,fS]
   refine hK _ ?_;clear hK K
   show AWp _ _ _ _ _
   refine wret ?_
   simp [C.spec_DivideLaurents,fS,hm,fO,zeroF,rows]
  ·have hr:(Right f/\Right g/\f.v=g.v)/\g.ts≠[]:=by
    rw [← hB] at hc1
    simpa using hc1
   obtain ⟨⟨hf,hg,hfg⟩,hne⟩:=hr
   obtain ⟨n,hn⟩:∃ n:Nat,f.v=n:=⟨f.v.toNat,by have:=hf.1;omega⟩
   have hgn:g.v=n:=by omega
   have hm:divF f g=endF f.v (divL (chkS f g n) g 600 (f.ts.map pr)):=by
    rw [← divS_eq]
    unfold divS
    rw [if_pos ⟨⟨hf,hg,hfg⟩,hne⟩,hn]
    rfl
   refine wskip ?_
   show AWp _ _ _ _ _
   refine wseq ?_
   refine wregI ([0,1,2] ++ ([3,4,5,6])) rfl fun K hK=>?_
   refine opsI_seg fun L hL=>?_
   simp [C.spec_DivideLaurents,fS]
   refine wcall1 ((spec_l2Divide_calls f g n hf hg hn hgn hne).weak1) (by simp) (by simp) ?_
   simp [C.spec_DivideLaurents,fS]
   refine hL _ ?_;clear hL L
   refine opsI_end fun L hL=>?_
   simp [C.spec_DivideLaurents,fS]
   refine hL _ ?_;clear hL L
   simp [C.spec_DivideLaurents,fS]
   refine hK _ ?_;clear hK K
   show AWp _ _ _ _ _
   refine wret ?_
   simp [C.spec_DivideLaurents,fS,hm,fO]
 clear hK
 by_cases hb:B=true
 ·refine opsI_seg fun L hL=>?_
  simp [C.spec_DivideLaurents,fS,hb]
  refine wcall1 (hcall) (by simp) (by simp) ?_
  simp [C.spec_DivideLaurents,fS,hb]
  refine hL _ ?_;clear hL L
  refine opsI_end fun L hL=>?_
  simp [C.spec_DivideLaurents,fS,hb]
  refine hL _ ?_;clear hL L
  simp [C.spec_DivideLaurents,fS,hb]
  refine cast (congrArg K ?_) hJ
  simp [ieq0,fS,hb]
 ·refine opsI_seg fun L hL=>?_
  simp [C.spec_DivideLaurents,fS,hb]
  refine wcall1 (hcall) (by simp) (by simp) ?_
  simp [C.spec_DivideLaurents,fS,hb]
  refine hL _ ?_;clear hL L
  refine opsI_end fun L hL=>?_
  simp [C.spec_DivideLaurents,fS,hb]
  refine hL _ ?_;clear hL L
  simp [C.spec_DivideLaurents,fS,hb]
  refine cast (congrArg K ?_) hJ
  simp [ieq0,fS,hb]
theorem sDiv_calls (f g:Lau) (hx:f.ts.length < 4611686018427387904) (hxe:∀ t∈f.ts,t.e.length < 4611686018427387904) (hy:g.ts.length < 4611686018427387904) (hye:∀ t∈g.ts,t.e.length < 4611686018427387904):ACalls Tryz.prog F.spec_DivideLaurents [aF f,aF g] [] true (fun outs res=>outs=[]/\res=[.ag (fO (divF f g).1),.one (D.bool (divF f g).2)]):=(spec_DivideLaurents_calls f g hx hxe hy hye).weak1
end Go.Proofs.YtbhkonnakkhibaaGreat.Ab
