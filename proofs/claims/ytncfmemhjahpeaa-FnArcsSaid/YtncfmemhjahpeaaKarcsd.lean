/- The end of a building, over a sort. The sort of terms by their exponents, greatest first, at this program. The program's sums: all contracts without a premise left. The program's sums of sums. What a division keeps from step to step. Greatest exponents, sums of coded terms, division: the reference's side. Drawing: the cursor, numbers, exponents, sums. Drawing sums: what is drawn is right and small. Bounded sums and their values: products, sums, quotients by a variable. Diagonals of polygons, the program's side: what is one, what crosses, what is a triangulation. Triangulations and lengths, the program's side. Lengths of a triangulation: what they are, and the step from triangle to triangle. Three drawn sums; what the laws compare. Division by maps: the greatest key, and what a step does. Division: both sides. Division of the program's sums. What a matrix of small entries is: its shape and its factors, at the first session's matrix. Factors of a matrix by fractions: what holds along the search. Factors of a matrix by pieces: what holds along the search. Matrices that are right, their least factors, mutation. The factors of a matrix, by the program. Matrices that are right, mutation of a matrix, by the program. The reference's sums of sums. Division: the law over both sides. Seeds that are right; what mutation of a seed is; the program's side. No condition. -/
import Derived.Test.YtncfmemhjahpeaaKarcsc
import Derived.Shelf.SlSortCmp.NoneTotal
set_option linter.unusedVariables false
set_option linter.unusedSimpArgs false
set_option linter.unusedSectionVars false
namespace Go.Proofs.Ytncfmemhjahpeaa.Ab
open Go
set_option maxRecDepth 10000
set_option maxHeartbeats 2000000
attribute [local simp] mapKV flatInt tileB
def SortOk:Prop:=∀ (ts:List Trm),(∀ t∈ts,t.e.length < 4611686018427387904)->(ts.map (·.e)).Nodup->ts.length < 4611686018427387904 ->
 ACalls Try.prog F.slices_SortFunc_impl_Term_impl_Term [.al (0,0) [] 0 ts.length,.d (.fn F.impl_building_done_1 [])] [((0,0),.ow 2 ts.length (rows tO ts))] true (fun outs res=>∃ r:List Trm,r.Perm ts/\DescT r/\outs=[.ow 2 ts.length (rows tO r)]/\res=[])
theorem insK_len_eq {K:Type} [DecidableEq K] {lt:K->K->Bool} {k:K} {c:Int} (hc:c≠0):∀ l:List (K×Int),(∀ x∈l,x.1≠k)->(insK lt k c l).length=l.length+1
 | [],_=>by simp [insK,hc]
 | x :: l,h=>by
  simp only [insK]
  rw [if_neg (h x (by simp))]
  split
  ·first | rfl | (rw [if_neg hc];rfl)
  ·simp [insK_len_eq hc l fun y hy=>h y (by simp [hy])]
theorem nf_len_eq {K:Type} [DecidableEq K] {lt:K->K->Bool}:∀ l:List (K×Int),(l.map (·.1)).Nodup->(∀ x∈l,x.2≠0)->(nf lt l).length=l.length
 | [],_,_=>rfl
 | x :: l,h,hz=>by
  simp only [List.map_cons,List.nodup_cons] at h
  simp only [nf]
  rw [insK_len_eq (hz x (by simp)),nf_len_eq l h.2 fun y hy=>hz y (by simp [hy])]
  ·rfl
  ·intro y hy e
   obtain ⟨z,hz,e2⟩:=nf_mem hy
   exact h.1 (List.mem_map.2 ⟨z,hz,by rw [e2,e]⟩)
theorem unpad_inj {n:Nat} {es l:List (List Int×Int)} (h:MapR n es l):((es.map (unpadT n)).map (·.1)).Nodup:=by
 have:∀ es:List (List Int×Int),(es.map (·.1)).Nodup->(∀ x∈es,∃ e,e.length=n/\x.1=pad e)->((es.map (unpadT n)).map (·.1)).Nodup:=by
  intro es
  induction es with
  | nil=>intro _ _;simp
  | cons x es ih=>
   intro hn hp
   simp only [List.map_cons,List.nodup_cons] at hn ⊢
   refine ⟨fun hm=>?_,ih hn.2 fun y hy=>hp y (by simp [hy])⟩
   obtain ⟨y,hy,e⟩:=List.mem_map.1 hm
   obtain ⟨z,hz,rfl⟩:=List.mem_map.1 hy
   obtain ⟨a,ha,e1⟩:=hp x (by simp)
   obtain ⟨b,hb,e2⟩:=hp z (by simp [hz])
   refine hn.1 (List.mem_map.2 ⟨z,hz,?_⟩)
   simp only [unpadT] at e
   rw [e1,e2] at e ⊢
   have q1:(pad a).take n=a:=by rw [<-ha];exact pad_take
   have q2:(pad b).take n=b:=by rw [<-hb];exact pad_take
   rw [q1,q2] at e
   rw [e]
 exact this es h.nod fun x hx=>(h.nz x hx).2
theorem unpad_nf2 {n:Nat} {es l:List (List Int×Int)} (h:MapR n es l) (hl:∀ x∈l,x.1.length=n):nf lexlt (es.map (unpadT n))=nf lexlt l:=
 nf_unique lexOrd (nf_desc lexOrd _) (nf_nz _) fun k=>by rw [nf_co,unpad_co h hl]
theorem unpad_len {n:Nat} {es l:List (List Int×Int)} (h:MapR n es l) (hl:∀ x∈l,x.1.length=n):(nf lexlt l).length=es.length:=by
 rw [<-unpad_nf2 h hl,nf_len_eq _ (unpad_inj h),List.length_map]
 intro x hx
 obtain ⟨y,hy,rfl⟩:=List.mem_map.1 hx
 exact (h.nz y hy).1
theorem shutF_many {n:Nat} {es l:List (List Int×Int)} (h:MapR n es l) (hl:∀ x∈l,x.1.length=n) (hm:600 < es.length):shutF n l=(zeroF,false):=by
 unfold shutF
 rw [if_neg]
 intro hr
 have:=hr.2.1
 simp only [List.length_map] at this
 rw [unpad_len h hl] at this
 omega
theorem erase_perm {α:Type}:∀ (l:List α) (i:Nat) (h:i < l.length),(l[i] :: l.eraseIdx i).Perm l
 | [],i,h=>by simp at h
 | x :: l,0,h=>by simp
 | x :: l,i+1,h=>by
  simp only [List.getElem_cons_succ,List.eraseIdx_cons_succ]
  exact (List.Perm.swap ..).trans (List.Perm.cons x (erase_perm l i (by simpa using h)))
theorem sh8 (n:Nat) (k0 k1 k2 k3 k4 k5 k6 k7:Int):shareL (List.take n [D.v (.int .i64 k0),D.v (.int .i64 k1),D.v (.int .i64 k2),D.v (.int .i64 k3),D.v (.int .i64 k4),D.v (.int .i64 k5),D.v (.int .i64 k6),D.v (.int .i64 k7)])=ints (List.take n [k0,k1,k2,k3,k4,k5,k6,k7]):=by
 rw [show ([D.v (.int .i64 k0),D.v (.int .i64 k1),D.v (.int .i64 k2),D.v (.int .i64 k3),D.v (.int .i64 k4),D.v (.int .i64 k5),D.v (.int .i64 k6),D.v (.int .i64 k7)]:List D)=ints [k0,k1,k2,k3,k4,k5,k6,k7] from rfl,ints_take,shareL_ints]
theorem impl_building_done_1_c (x y:Trm) (hx:x.e.length < 4611686018427387904) (hy:y.e.length < 4611686018427387904):ACalls Try.prog F.impl_building_done_1 [.ag [.d (shI x.e),.int x.c],.ag [.d (shI y.e),.int y.c]] [] true (fun outs res=>outs=[]/\res=[.one (D.int (cmpL y.e x.e))]):=by
 refine ACalls.of_body (C:=C.impl_building_done_1) (n:=Try.f99.ntmps) tabT folT Try.func99 rfl (by kernel_rfl) rfl (Nat.le_of_ble_eq_true rfl) (by decide) (by kernel_rfl) (by kernel_rfl) rfl (by simp) (by simp) ?_
 simp only [Try.f99]
 refine wseq ?_
 refine wreg fun K hK=>?_
 simp [C.impl_building_done_1]
 refine hK _ ?_;clear hK K
 show AWp _ _ _ _ _
 refine wseq ?_
 refine wregI ([0,1,2,3,4] ++ ([5])) rfl fun K hK=>?_
 refine oSg fun L hL=>?_
 simp [C.impl_building_done_1]
 refine wcall1 (slices_Compare_int_int_c y.e x.e hy) (by simp) (by simp) ?_
 simp [C.impl_building_done_1]
 refine hL _ ?_;clear hL L
 refine oEn fun L hL=>?_
 simp [C.impl_building_done_1]
 refine hL _ ?_;clear hL L
 simp [C.impl_building_done_1]
 refine hK _ ?_;clear hK K
 show AWp _ _ _ _ _
 refine wret ?_
 simp [C.impl_building_done_1]
theorem impl_building_done_c (hSort:SortOk) (n:Nat) (es l:List (List Int×Int)) (hM:MapR n es l) (hl:∀ x∈l,x.1.length=n) (h1:1<=n) (h8:n<=8) (hL:l.length<=1000000):ACalls Try.prog F.impl_building_done [.pt (0,0) [] 0] [((0,0),.bx [D.int n,.mp es])] true (fun outs res=>outs=[.bx [D.int n,.mp es]]/\WkRs res [.ag (fO (shutF n l).1),.one (D.bool (shutF n l).2)]):=by
 refine ACalls.of_body (C:=C.impl_building_done) (n:=Try.f88.ntmps) tabT folT Try.func88 rfl (by kernel_rfl) rfl (Nat.le_of_ble_eq_true rfl) (by decide) (by kernel_rfl) (by kernel_rfl) rfl (by simp) (by simp) ?_
 simp only [Try.f88]
 refine wseq ?_
 refine wreg fun K hK=>?_
 simp [C.impl_building_done]
 refine hK _ ?_;clear hK K
 show AWp _ _ _ _ _
 refine wseq ?_
 refine wreg fun K hK=>?_
 simp [C.impl_building_done]
 refine hK _ ?_;clear hK K
 show AWp _ _ _ _ _
 refine wseq ?_
 refine wseq ?_
 refine wreg fun K hK=>?_
 simp [C.impl_building_done]
 refine hK _ ?_;clear hK K
 show AWp _ _ _ _ _
 refine wcond _ rfl (fun hc1=>?_) (fun hc1=>?_)
 ·have hm:=shutF_many hM hl (by have:=d_t hc1;omega)
  refine wseq ?_
  refine wreg fun K hK=>?_
  simp [C.impl_building_done]
  refine hK _ ?_;clear hK K
  show AWp _ _ _ _ _
  refine wret ?_
  simp [C.impl_building_done,hm,fO,zeroF,rows]
 ·have h600:es.length<=600:=by have:=d_f hc1;omega
  refine wskip ?_
  show AWp _ _ _ _ _
  refine wseq ?_
  refine wseq ?_
  refine wreg fun K hK=>?_
  simp [C.impl_building_done]
  refine hK _ ?_;clear hK K
  show AWp _ _ _ _ _
  refine wblock ?_
  refine wloopW (fun x:List Trm×List (List Int×Int)×Option (List Int×Int)=>⟨ofL [(0,.pt (0,0) [] 0),(2,.pt (2,0) [] 0),(4,.pt (4,0) [] 0),(23,.it (23,0) (0,0) [1] x.2.1 x.2.2),(1000,.pt (0,0) [] 0)],ofRO [((0,0),some (.bx [D.int n,.mp es])),((2,0),some (.bx [D.int 0,.v (.slice none 0 0)])),((4,0),some (.bx [D.int n,.ow 2 x.1.length (rows tO x.1)])),((23,0),some .itr)]⟩) (fun x=>(x.1.map pr ++ x.2.1.map (unpadT n)).Perm (es.map (unpadT n))/\∀ y∈x.2.1,y∈es) (fun x=>x.2.1.length) ([],es,none) [.cell (4,0) [] 1 2] (by simp [C.impl_building_done,rows];funext q;by_cases e4:q=(4,0);(subst e4;rfl);by_cases e9:q=(9999,0);(subst e9;rfl);simp [ofRO,e4,e9,Ne.symm e4]) ⟨by simp,fun y hy=>hy⟩ ?_
  intro x1 hx1 R1 hR1
  obtain ⟨q,rest,cur⟩:=x1
  obtain ⟨hq,hin⟩:=hx1
  dsimp only at hq hin ⊢
  refine wseq ?_
  refine wreg fun K hK=>?_
  simp [C.impl_building_done]
  refine ⟨fun hrest=>?_,fun i xk xc hx=>?_⟩
  ·refine hK _ ?_;clear hK K
   show AWp _ _ _ _ _
   refine wseq ?_
   refine wcond _ rfl (fun hc2=>?_) (fun hc2=>?_)
   ·simp at hc2
   ·subst hrest
    have hq2:(q.map pr).Perm (es.map (unpadT n)):=by simpa using hq
    have hqe:∀ t∈q,t.e.length=n:=fun t ht=>by
     have h3:=hq2.subset (List.mem_map.2 ⟨t,ht,rfl⟩)
     obtain ⟨y,hy,e⟩:=List.mem_map.1 h3
     have e2:t.e=y.1.take n:=by
      have:=congrArg Prod.fst e
      simpa [pr,unpadT] using this.symm
     rw [e2,List.length_take,hM.len8 h8 y hy]
     omega
    have hqn:(q.map (·.e)).Nodup:=by
     have h3:=(hq2.map (·.1)).nodup_iff.2 (unpad_inj hM)
     rw [List.map_map] at h3
     exact h3
    have hql:q.length=es.length:=by simpa using hq2.length_eq
    refine wexit ?_
    show AWp _ _ _ _ _
    refine wseq ?_
    refine wregI ([0,1,2] ++ ([])) rfl fun K hK=>?_
    refine oSg fun L hL=>?_
    simp [C.impl_building_done]
    refine wcall (hSort q (fun t ht=>by have:=hqe t ht;omega) hqn (by omega)) (by simp) (by simp) (by simp) ?_
    rintro outs res ⟨r,hr,hd,rfl,rfl⟩
    simp [C.impl_building_done]
    refine hL _ ?_;clear hL L
    refine oEn fun L hL=>?_
    simp only [AOpsI]
    refine hL _ ?_;clear hL L
    simp [C.impl_building_done]
    refine hK _ ?_;clear hK K
    show AWp _ _ _ _ _
    refine wseq ?_
    refine wseq ?_
    have hrl:r.length=q.length:=hr.length_eq
    have hrn:r.map pr=nf lexlt l:=unpad_nf hM hl ((hr.map pr).trans hq2) (by
     unfold Desc
     rw [List.pairwise_map]
     exact hd)
    have hrt:(nf lexlt l).map tm=r:=by
     rw [<-hrn,List.map_map]
     have:tm ∘ pr=id:=rfl
     rw [this,List.map_id]
    refine wregI ([0,1] ++ ([2])) rfl fun K hK=>?_
    refine oSg fun L hL=>?_
    simp [C.impl_building_done,hrl]
    refine wcall1 (impl_LaurentOk_c ⟨n,r⟩ (by dsimp only;omega) (fun t ht=>by have:=hqe t (hr.subset ht);omega)) (by simp [hrl]) (by simp) ?_
    simp [C.impl_building_done,hrl]
    refine hL _ ?_;clear hL L
    refine oEn fun L hL=>?_
    simp [C.impl_building_done,hrl]
    refine hL _ ?_;clear hL L
    simp [C.impl_building_done,hrl]
    refine hK _ ?_;clear hK K
    show AWp _ _ _ _ _
    refine wcond _ rfl (fun hc3=>?_) (fun hc3=>?_)
    ·have hR:¬ Right ⟨n,r⟩:=by simpa using hc3
     have hm:shutF n l=(zeroF,false):=by unfold shutF;rw [hrt,if_neg hR]
     refine wseq ?_
     refine wreg fun K hK=>?_
     simp [C.impl_building_done]
     refine hK _ ?_;clear hK K
     show AWp _ _ _ _ _
     refine wret ?_
     simp [C.impl_building_done,hm,fO,zeroF,rows]
    ·have hR:Right ⟨n,r⟩:=by simpa using hc3
     have hm:shutF n l=(⟨n,r⟩,true):=by unfold shutF;rw [hrt,if_pos hR]
     refine wskip ?_
     show AWp _ _ _ _ _
     refine wseq ?_
     refine wreg fun K hK=>?_
     simp [C.impl_building_done]
     refine hK _ ?_;clear hK K
     show AWp _ _ _ _ _
     refine wret ?_
     simp [C.impl_building_done,hm,fO,hrl]
  ·refine hK _ ?_;clear hK K
   show AWp _ _ _ _ _
   refine wseq ?_
   refine wcond _ rfl (fun hc4=>?_) (fun hc4=>?_)
   ·have hxm:(xk,xc)∈rest:=List.mem_of_getElem? hx
    have hxl:=hM.len8 h8 _ (hin _ hxm)
    dsimp only at hxl
    obtain ⟨k0,k1,k2,k3,k4,k5,k6,k7,rfl⟩:=eight hxl
    have hql:q.length+rest.length=es.length:=by simpa using hq.length_eq
    have hil:i < rest.length:=by
     rcases Nat.lt_or_ge i rest.length with h | h
     ·exact h
     ·rw [List.getElem?_eq_none h] at hx;simp at hx
    refine wskip ?_
    show AWp _ _ _ _ _
    refine wblock ?_
    refine wseq ?_
    refine wreg fun K hK=>?_
    simp [C.impl_building_done]
    refine hK _ ?_;clear hK K
    show AWp _ _ _ _ _
    refine wdrawI [(true,0),(true,1),(true,2),(true,3),(true,4),(true,5),(true,6),(true,8),(false,7),(true,9),(false,10),(false,11),(true,12),(false,13)] ⟨by kernel_rfl,by kernel_rfl⟩ ([0,1,2,3,4,5,6,8,7] ++ ([9,10,11,12,13])) rfl fun K hK=>?_
    refine oSg fun L hL=>?_
    simp [C.impl_building_done,tO_snoc,show ((n:Int)<=8) by omega,h8,Nat.min_eq_left h8,sh8,show (q.length+1)*32<=140737488355328 by omega]
    refine wcall1 (clone_c ([k0,k1,k2,k3,k4,k5,k6,k7].take n) (by simp;omega)) (by simp [tO_snoc,show ((n:Int)<=8) by omega,h8,Nat.min_eq_left h8,sh8,show (q.length+1)*32<=140737488355328 by omega]) (by simp) ?_
    simp [C.impl_building_done,tO_snoc,show ((n:Int)<=8) by omega,h8,Nat.min_eq_left h8,sh8,show (q.length+1)*32<=140737488355328 by omega]
    refine hL _ ?_;clear hL L
    refine oEn fun L hL=>?_
    simp [C.impl_building_done,tO_snoc,show ((n:Int)<=8) by omega,h8,Nat.min_eq_left h8,sh8,show (q.length+1)*32<=140737488355328 by omega]
    refine hL _ ?_;clear hL L
    simp [C.impl_building_done,tO_snoc,show ((n:Int)<=8) by omega,h8,Nat.min_eq_left h8,sh8,show (q.length+1)*32<=140737488355328 by omega]
    refine hK _ ?_;clear hK K
    simp [C.impl_building_done]
    have htl:([k0,k1,k2,k3,k4,k5,k6,k7].take n).length=n:=by simp;omega
    have hrow:rows tO q ++ [D.ow 1 n (ints (List.take n [k0,k1,k2,k3,k4,k5,k6,k7])),D.v (.int .i64 xc)]=rows tO (q ++ [⟨List.take n [k0,k1,k2,k3,k4,k5,k6,k7],xc⟩]):=by
     rw [<-tO_snoc]
     simp only [htl]
    refine cast (congrArg R1 ?_) (hR1 (q ++ [⟨List.take n [k0,k1,k2,k3,k4,k5,k6,k7],xc⟩],rest.eraseIdx i,some ([k0,k1,k2,k3,k4,k5,k6,k7],xc)) ⟨?_,?_⟩ ?_)
    ·simp [hrow]
    ·dsimp only
     have hget:rest[i]=([k0,k1,k2,k3,k4,k5,k6,k7],xc):=by
      rw [List.getElem?_eq_getElem hil] at hx
      injection hx
     have hper:=erase_perm rest i hil
     rw [hget] at hper
     refine List.Perm.trans ?_ hq
     rw [List.map_append,List.append_assoc]
     exact List.Perm.append_left _ (hper.map (unpadT n))
    ·exact fun y hy=>hin y (List.mem_of_mem_eraseIdx hy)
    ·dsimp only
     rw [List.length_eraseIdx_of_lt hil]
     omega
   ·simp at hc4
end Go.Proofs.Ytncfmemhjahpeaa.Ab
namespace Go.Proofs.Ytncfmemhjahpeaa.Ab
open Go
theorem sfTerm:SfOk Try.prog F.slices_SortFunc_impl_Term_impl_Term 2:=by
 refine ⟨fun p cap fv w=>?_,fun α _ enc hk h1 cf hO g blk off cap d w eg hcmp hH hblk hsz=>?_⟩
 ·have h:=AnyF.slices_SortFunc_none sortTerm p cap fv w
  rw [sortTerm_f6] at h
  exact h
 ·have h:=AnyQ.slices_SortFunc sortTerm 2 sortTerm_agg sortTerm_size enc hk h1 cf hO g #[] blk off cap d w eg hcmp hH hblk hsz
  rw [sortTerm_f6] at h
  exact h
theorem lexlt_ntrans (a b c:List Int) (h1:lexlt a b=false) (h2:lexlt b c=false):lexlt a c=false:=by
 cases h:lexlt a c with
 | false=>rfl
 | true=>
  exfalso
  rcases lexlt_tot a b with h3 | h3 | h3
  ·rw [h1] at h3;simp at h3
  ·subst h3
   rw [h2] at h;simp at h
  ·have:=lexlt_tr b a c h3 h
   rw [h2] at this;simp at this
theorem swoTerm:Go.Sort.SWO (ltOf fun x y:Trm=>cmpL y.e x.e) where
 irrefl x:=by unfold ltOf;rw [cmpL_neg];exact lexlt_irr _
 trans x y z h1 h2:=by
  unfold ltOf at *
  rw [cmpL_neg] at *
  exact lexlt_tr _ _ _ h2 h1
 ntrans x y z h1 h2:=by
  unfold ltOf at *
  rw [cmpL_neg] at *
  exact lexlt_ntrans _ _ _ h2 h1
theorem sortOk:SortOk:=by
 intro ts hts hnd hlen
 have h:=sort_c (P:=Try.prog) (g:=F.impl_building_done_1) ⟨Try.f98,_,Try.func98,rfl,by kernel_rfl⟩ sfTerm tO_two (by omega) (fun t=>by simp [tO,noShL,noSh]) (fun l=>by
  induction l with
  | nil=>trivial
  | cons x l ih=>
   simp only [rows,tO,List.cons_append,List.nil_append,solidL]
   exact ⟨rfl,rfl,ih⟩) (fun x y:Trm=>cmpL y.e x.e) swoTerm ts hlen (fun x hx y hy=>by
  have:=impl_building_done_1_c x y (hts x hx) (hts y hy)
  simpa [tO,shareL,share,shareL_ints] using this)
 refine ACalls.mono h ?_
 rintro outs res ⟨r,h1,h2,h3,h4⟩
 refine ⟨r,h1,?_,h3,h4⟩
 have hnr:(r.map (·.e)).Nodup:=(h1.map (·.e)).nodup_iff.2 hnd
 unfold DescT
 rw [List.Nodup,List.pairwise_map] at hnr
 refine (h2.and hnr).imp ?_
 rintro a b ⟨h5,h6⟩
 have h7:lexlt a.e b.e=false:=by
  rw [<-cmpL_neg]
  simpa using h5
 rcases lexlt_tot a.e b.e with h8 | h8 | h8
 ·rw [h7] at h8;simp at h8
 ·exact absurd h8 h6
 ·exact h8
end Go.Proofs.Ytncfmemhjahpeaa.Ab
namespace Go.Proofs.Ytncfmemhjahpeaa.Ab
open Go
theorem doneOk:DoneOk:=fun n es l hM hl h1 h8 hL=>(impl_building_done_c sortOk n es l hM hl h1 h8 hL).weak1
theorem mulOk:MulOk:=iMul_c doneOk
end Go.Proofs.Ytncfmemhjahpeaa.Ab
namespace Go.Proofs.Ytncfmemhjahpeaa.Ab
open Go
set_option maxRecDepth 10000
set_option maxHeartbeats 2000000
def prk (k:Int) (t:Trm):List Int×Int:=(t.e,k*t.c)
noncomputable def addF (f:Lau) (k:Int) (g:Lau):Lau×Bool:=if (Right f/\Right g/\f.v=g.v)/\(-1000<=k/\k<=1000) then shutF f.v (f.ts.map pr ++ g.ts.map (prk k)) else (zeroF,false)
theorem impl_AddLaurents_c (f:Lau) (k:Int) (g:Lau) (hx:f.ts.length < 4611686018427387904) (hxe:∀ t∈f.ts,t.e.length < 4611686018427387904) (hy:g.ts.length < 4611686018427387904) (hye:∀ t∈g.ts,t.e.length < 4611686018427387904):ACalls Try.prog F.impl_AddLaurents [aF f,.int k,aF g] [] true (fun outs res=>outs=[]/\WkRs res [.ag (fO (addF f k g).1),.one (D.bool (addF f k g).2)]):=by
 refine ACalls.of_body (C:=C.impl_AddLaurents) (n:=Try.f62.ntmps) tabT folT Try.func62 rfl (by kernel_rfl) rfl (Nat.le_of_ble_eq_true rfl) (by decide) (by kernel_rfl) (by kernel_rfl) rfl (by simp) (by simp) ?_
 simp only [Try.f62]
 refine wseq ?_
 refine wreg fun K hK=>?_
 simp [C.impl_AddLaurents,fS]
 refine hK _ ?_;clear hK K
 show AWp _ _ _ _ _
 refine wseq ?_
 refine wseq ?_
 refine wregI ([0,1,2] ++ ([3,4,5,6] ++ ([7,8]))) rfl fun K hK=>?_
 have hJ:K ⟨ofL [(1,.int k),(3,.pt (3,0) [] 0),(5,.pt (5,0) [] 0),(6,.pt (6,0) [] 0),(21,.bool (!decide ((Right f/\Right g/\f.v=g.v)/\(-1000<=k/\k<=1000))))],ofRO [((3,0),some (.bx (fS f))),((5,0),some (.bx (fS g))),((6,0),some (.bx [D.int 0,.v (.slice none 0 0)]))]⟩:=by
  refine hK _ ?_;clear hK K
  show AWp _ _ _ _ _
  refine wcond _ rfl (fun hc1=>?_) (fun hc1=>?_)
  ·have hr:=nd_t hc1
   have hm:addF f k g=(zeroF,false):=if_neg hr
   refine wseq ?_
   refine wreg fun K hK=>?_
   simp [C.impl_AddLaurents,fS]
   refine hK _ ?_;clear hK K
   show AWp _ _ _ _ _
   refine wret ?_
   simp [C.impl_AddLaurents,fS,hm,fO,zeroF,rows]
  ·have hr:=nd_f hc1
   obtain ⟨⟨hf,hg,hfg⟩,hk⟩:=hr
   have hv:=hf.1
   obtain ⟨n,hn⟩:∃ n:Nat,f.v=n:=⟨f.v.toNat,by omega⟩
   have hn2:g.v=n:=by omega
   have hn8:n<=8:=by omega
   have hfl:=hf.2.1
   have hgl:=hg.2.1
   have hm:addF f k g=shutF n (f.ts.map pr ++ g.ts.map (prk k)):=by
    unfold addF
    rw [if_pos ⟨⟨hf,hg,hfg⟩,hk⟩,hn]
   refine wskip ?_
   show AWp _ _ _ _ _
   refine wseq ?_
   refine wregI ([0,1,2] ++ ([3])) rfl fun K hK=>?_
   refine oSg fun L hL=>?_
   simp [C.impl_AddLaurents,fS,hn]
   refine wcall1 (impl_newBuilding_c n) (by simp) (by simp) ?_
   simp [C.impl_AddLaurents,fS,hn]
   refine hL _ ?_;clear hL L
   refine oEn fun L hL=>?_
   simp [C.impl_AddLaurents,fS,hn]
   refine hL _ ?_;clear hL L
   simp [C.impl_AddLaurents,fS,hn]
   refine hK _ ?_;clear hK K
   show AWp _ _ _ _ _
   refine wseq ?_
   refine wseq ?_
   refine wreg fun K hK=>?_
   simp [C.impl_AddLaurents,fS]
   refine hK _ ?_;clear hK K
   show AWp _ _ _ _ _
   refine wblock ?_
   refine wloop (fun x:Nat×List (List Int×Int)×List (List Int×Int)=>⟨ofL [(1,.int k),(5,.pt (5,0) [] 0),(6,.pt (6,0) [] 0),(8,.pt (8,0) [] 0),(27,.d (.sh 2 f.ts.length (rows tS f.ts))),(28,.int f.ts.length),(29,.int x.1)],ofRO [((5,0),some (.bx (fS g))),((6,0),some (.bx [D.int 0,.v (.slice none 0 0)])),((8,0),some (.bx [D.int n,.mp x.2.1]))]⟩) (fun x=>x.1<=f.ts.length/\MapR n x.2.1 x.2.2/\x.2.2.Perm ((f.ts.take x.1).map pr)/\absE x.2.2<=x.1*1000000) (fun x=>f.ts.length - x.1) (0,[],[]) (by simp [C.impl_AddLaurents,fS]) ⟨by simp,MapR.nil n,by simp,by simp [absE]⟩ ?_
   intro x1 hx1 R1 hR1
   obtain ⟨j,es,l⟩:=x1
   obtain ⟨hj,hM,hP,hA⟩:=hx1
   dsimp only at hj hM hP hA ⊢
   refine wseq ?_
   refine wreg fun K hK=>?_
   simp [C.impl_AddLaurents,fS]
   refine hK _ ?_;clear hK K
   show AWp _ _ _ _ _
   refine wseq ?_
   refine wcond _ rfl (fun hc2=>?_) (fun hc2=>?_)
   ·have h1:j < f.ts.length:=by have:=d_t hc2;omega
    have hT:=right_dig hf hn _ (List.getElem_mem h1)
    refine wskip ?_
    show AWp _ _ _ _ _
    refine wseq ?_
    refine wblock ?_
    refine wseq ?_
    refine wreg fun K hK=>?_
    simp [C.impl_AddLaurents,fS,h1,tS_0 h1,tS_1 h1]
    refine hK _ ?_;clear hK K
    show AWp _ _ _ _ _
    obtain ⟨a0,a1,a2,a3,a4,a5,a6,a7,hpa⟩:=eight (pad_length (e:=f.ts[j].e) (by omega))
    have hval:=hM.val _ hT.1
    have hco:=co_abs f.ts[j].e l
    refine wdrawI [(true,0),(true,1),(true,2),(true,4),(true,5),(false,3),(false,6)] ⟨by kernel_rfl,by kernel_rfl⟩ ([0,1,2,4,5,3] ++ ([6] ++ ([]))) rfl fun K hK=>?_
    refine oSg fun L hL=>?_
    simp [C.impl_AddLaurents,fS,tS]
    refine wcall1 (impl_keyOf_c f.ts[j].e (by omega) a0 a1 a2 a3 a4 a5 a6 a7 hpa) (by simp) (by simp) ?_
    simp [C.impl_AddLaurents,fS,tS]
    refine hL _ ?_;clear hL L
    refine oSg fun L hL=>?_
    simp [C.impl_AddLaurents,fS,tS]
    refine wcall1 (impl_building_add_c n f.ts[j].c es a0 a1 a2 a3 a4 a5 a6 a7 (hM.len8 hn8) (by rw [<-hpa,hval];have:=hT.2.2.2;omega)) (by simp) (by simp) ?_
    simp [C.impl_AddLaurents,fS,tS]
    refine hL _ ?_;clear hL L
    refine oEn fun L hL=>?_
    simp only [AOpsI]
    refine hL _ ?_;clear hL L
    simp [C.impl_AddLaurents,fS,tS]
    rw [<-hpa]
    refine hK _ ?_;clear hK K
    show AWp _ _ _ _ _
    refine wreg fun K hK=>?_
    simp [C.impl_AddLaurents,fS,wrap_succ (show j < 4611686018427387904 by omega)]
    refine hK _ ?_;clear hK K
    simp [C.impl_AddLaurents,fS]
    refine hR1 (j+1,_,(f.ts[j].e,f.ts[j].c) :: l) ⟨h1,hM.add hT.1 _,?_,?_⟩ (by dsimp only;omega)
    ·dsimp only
     rw [List.take_succ_eq_append_getElem h1,List.map_append]
     refine (List.Perm.cons _ hP).trans ?_
     exact (List.perm_append_singleton _ _).symm
    ·have:=hT.2.2.2
     have h3:f.ts[j].c.natAbs<=1000000:=by omega
     simp only [absE,List.map_cons,List.sum_cons] at hA ⊢
     omega
   ·have h1:j=f.ts.length:=by have:=d_f hc2;omega
    rw [h1,List.take_length] at hP
    refine wexit ?_
    show AWp _ _ _ _ _
    refine wseq ?_
    refine wseq ?_
    refine wreg fun K hK=>?_
    simp [C.impl_AddLaurents,fS]
    refine hK _ ?_;clear hK K
    show AWp _ _ _ _ _
    refine wblock ?_
    refine wloop (fun x:Nat×List (List Int×Int)×List (List Int×Int)=>⟨ofL [(1,.int k),(6,.pt (6,0) [] 0),(8,.pt (8,0) [] 0),(42,.d (.sh 2 g.ts.length (rows tS g.ts))),(43,.int g.ts.length),(44,.int x.1)],ofRO [((6,0),some (.bx [D.int 0,.v (.slice none 0 0)])),((8,0),some (.bx [D.int n,.mp x.2.1]))]⟩) (fun x=>x.1<=g.ts.length/\MapR n x.2.1 x.2.2/\x.2.2.Perm (f.ts.map pr ++ (g.ts.take x.1).map (prk k))/\absE x.2.2<=600000000+x.1*1000000000) (fun x=>g.ts.length - x.1) (0,es,l) (by simp [C.impl_AddLaurents,fS]) ⟨by simp,hM,by simpa using hP,by dsimp only;omega⟩ ?_
    intro x2 hx2 R2 hR2
    obtain ⟨i,es2,l2⟩:=x2
    obtain ⟨hi,hM2,hP2,hA2⟩:=hx2
    dsimp only at hi hM2 hP2 hA2 ⊢
    refine wseq ?_
    refine wreg fun K hK=>?_
    simp [C.impl_AddLaurents,fS]
    refine hK _ ?_;clear hK K
    show AWp _ _ _ _ _
    refine wseq ?_
    refine wcond _ rfl (fun hc3=>?_) (fun hc3=>?_)
    ·have h2:i < g.ts.length:=by have:=d_t hc3;omega
     have hU:=right_dig hg hn2 _ (List.getElem_mem h2)
     have hkc:(k*g.ts[i].c).natAbs<=1000*1000000:=by
      rw [Int.natAbs_mul]
      exact Nat.mul_le_mul (by omega) (by have:=hU.2.2.2;omega)
     refine wskip ?_
     show AWp _ _ _ _ _
     refine wseq ?_
     refine wblock ?_
     refine wseq ?_
     refine wreg fun K hK=>?_
     simp [C.impl_AddLaurents,fS,h2,tS_0 h2,tS_1 h2]
     refine hK _ ?_;clear hK K
     show AWp _ _ _ _ _
     obtain ⟨a0,a1,a2,a3,a4,a5,a6,a7,hpa⟩:=eight (pad_length (e:=g.ts[i].e) (by omega))
     have hval:=hM2.val _ hU.1
     have hco:=co_abs g.ts[i].e l2
     refine wdrawI [(true,0),(true,1),(true,2),(true,4),(true,5),(true,6),(true,7),(false,3),(false,8)] ⟨by kernel_rfl,by kernel_rfl⟩ ([0,1,2,4,5,6,7,3] ++ ([8] ++ ([]))) rfl fun K hK=>?_
     refine oSg fun L hL=>?_
     simp [C.impl_AddLaurents,fS,tS,wrapOk (x:=k*g.ts[i].c) (by omega) (by omega)]
     refine wcall1 (impl_keyOf_c g.ts[i].e (by omega) a0 a1 a2 a3 a4 a5 a6 a7 hpa) (by simp) (by simp) ?_
     simp [C.impl_AddLaurents,fS,tS,wrapOk (x:=k*g.ts[i].c) (by omega) (by omega)]
     refine hL _ ?_;clear hL L
     refine oSg fun L hL=>?_
     simp [C.impl_AddLaurents,fS,tS,wrapOk (x:=k*g.ts[i].c) (by omega) (by omega)]
     refine wcall1 (impl_building_add_c n (k*g.ts[i].c) es2 a0 a1 a2 a3 a4 a5 a6 a7 (hM2.len8 hn8) (by rw [<-hpa,hval];omega)) (by simp) (by simp) ?_
     simp [C.impl_AddLaurents,fS,tS,wrapOk (x:=k*g.ts[i].c) (by omega) (by omega)]
     refine hL _ ?_;clear hL L
     refine oEn fun L hL=>?_
     simp only [AOpsI]
     refine hL _ ?_;clear hL L
     simp [C.impl_AddLaurents,fS,tS,wrapOk (x:=k*g.ts[i].c) (by omega) (by omega)]
     rw [<-hpa]
     refine hK _ ?_;clear hK K
     show AWp _ _ _ _ _
     refine wreg fun K hK=>?_
     simp [C.impl_AddLaurents,fS,wrap_succ (show i < 4611686018427387904 by omega)]
     refine hK _ ?_;clear hK K
     simp [C.impl_AddLaurents,fS]
     refine hR2 (i+1,_,(g.ts[i].e,k*g.ts[i].c) :: l2) ⟨h2,hM2.add hU.1 _,?_,?_⟩ (by dsimp only;omega)
     ·dsimp only
      rw [List.take_succ_eq_append_getElem h2,List.map_append,<-List.append_assoc]
      refine (List.Perm.cons _ hP2).trans ?_
      exact (List.perm_append_singleton _ _).symm
     ·simp only [absE,List.map_cons,List.sum_cons] at hA2 ⊢
      omega
    ·have h2:i=g.ts.length:=by have:=d_f hc3;omega
     have hall:l2.Perm (f.ts.map pr ++ g.ts.map (prk k)):=by
      rw [h2,List.take_length] at hP2
      exact hP2
     have hlen:∀ x∈l2,x.1.length=n:=fun x hx=>by
      rcases List.mem_append.1 (hall.subset hx) with h | h
      ·obtain ⟨t,ht,rfl⟩:=List.mem_map.1 h
       exact (right_dig hf hn t ht).1
      ·obtain ⟨t,ht,rfl⟩:=List.mem_map.1 h
       exact (right_dig hg hn2 t ht).1
     have hll:l2.length<=1000000:=by rw [hall.length_eq,List.length_append,List.length_map,List.length_map];omega
     have hs:=shutF_perm hall n
     refine wexit ?_
     show AWp _ _ _ _ _
     refine wseq ?_
     refine wregI ([0,1] ++ ([2,3,4,5])) rfl fun K hK=>?_
     refine oSg fun L hL=>?_
     simp [C.impl_AddLaurents,fS,fO]
     refine wcall1 (doneOk n es2 l2 hM2 hlen (by omega) hn8 hll) (by simp) (by simp) ?_
     simp [C.impl_AddLaurents,fS,fO]
     refine hL _ ?_;clear hL L
     refine oEn fun L hL=>?_
     simp [C.impl_AddLaurents,fS,fO]
     refine hL _ ?_;clear hL L
     simp [C.impl_AddLaurents,fS,fO]
     refine hK _ ?_;clear hK K
     show AWp _ _ _ _ _
     refine wret ?_
     simp [C.impl_AddLaurents,fS,hm,<-hs,fO]
 clear hK
 by_cases ha:Right f/\Right g/\f.v=g.v
 ·have hvv:=ha.2.2
  refine oSg fun L hL=>?_
  simp [C.impl_AddLaurents,fS,ha]
  refine wcall1 (impl_bothOk_c f g hx hxe hy hye) (by simp;omega) (by simp) ?_
  simp [C.impl_AddLaurents,fS,ha]
  refine hL _ ?_;clear hL L
  refine oSg fun L hL=>?_
  simp [C.impl_AddLaurents,fS,ha]
  refine wcall1 (impl_within_c k (-1000) 1000) (by simp) (by simp) ?_
  simp [C.impl_AddLaurents,fS,ha]
  refine hL _ ?_;clear hL L
  refine oEn fun L hL=>?_
  simp [C.impl_AddLaurents,fS,ha]
  refine hL _ ?_;clear hL L
  simp [C.impl_AddLaurents,fS,ha]
  refine cast (congrArg K ?_) hJ
  simp [fS,ha]
 ·refine oSg fun L hL=>?_
  simp [C.impl_AddLaurents,fS,ha]
  refine wcall1 (impl_bothOk_c f g hx hxe hy hye) (by simp) (by simp) ?_
  simp [C.impl_AddLaurents,fS,ha]
  refine hL _ ?_;clear hL L
  refine oSg fun L hL=>?_
  simp [C.impl_AddLaurents,fS,ha]
  refine hL _ ?_;clear hL L
  refine oEn fun L hL=>?_
  simp [C.impl_AddLaurents,fS,ha]
  refine hL _ ?_;clear hL L
  simp [C.impl_AddLaurents,fS,ha]
  refine cast (congrArg K ?_) hJ
  simp [fS,ha]
theorem iAdd_c (f:Lau) (k:Int) (g:Lau) (hx:f.ts.length < 4611686018427387904) (hxe:∀ t∈f.ts,t.e.length < 4611686018427387904) (hy:g.ts.length < 4611686018427387904) (hye:∀ t∈g.ts,t.e.length < 4611686018427387904):ACalls Try.prog F.impl_AddLaurents [aF f,.int k,aF g] [] true (fun outs res=>outs=[]/\res=[.ag (fO (addF f k g).1),.one (D.bool (addF f k g).2)]):=(impl_AddLaurents_c f k g hx hxe hy hye).weak1
end Go.Proofs.Ytncfmemhjahpeaa.Ab
namespace Go.Proofs.Ytncfmemhjahpeaa.Ab
open Go
structure DivJ (chk:List Int->Int->Bool) (f g:Lau) (n:Nat) (R O:List (List Int×Int)):Prop where
 run:divL chk g 600 (f.ts.map pr)=(divL chk g (600 - O.length) R).map (O ++ ·)
 ol:O.length<=600
 rd:Desc lexlt R
 rl:∀ y∈R,y.1.length=n/\∀ z∈y.1,-60<=z/\z<=60
 ra:absK R<=600000000+O.length*600000000000000
 rn:R.length<=600+O.length*600
 od:∀ x∈O,x.1.length=n/\∀ z∈x.1,-40<=z/\z<=40
theorem absK_le {l:List (List Int×Int)} {B:Nat} (h:∀ x∈l,x.2.natAbs<=B):absK l<=l.length*B:=by
 induction l with
 | nil=>simp [absK]
 | cons x l ih=>
  have h1:=h x (by simp)
  have h2:=ih fun y hy=>h y (by simp [hy])
  simp only [absK,List.map_cons,List.sum_cons,List.length_cons,Nat.add_mul,Nat.one_mul] at h2 ⊢
  omega
theorem right_absK {f:Lau} (h:Right f):absK (f.ts.map pr)<=600000000:=by
 have h1:absK (f.ts.map pr)<=(f.ts.map pr).length*1000000:=absK_le fun x hx=>by
  obtain ⟨t,ht,rfl⟩:=List.mem_map.1 hx
  have:=(h.2.2.1 t ht).2.2.1
  simp only [pr]
  omega
 have h2:=h.2.1
 simp only [List.length_map] at h1
 exact Nat.le_trans h1 (by omega)
theorem DivJ.start (chk:List Int->Int->Bool) {f g:Lau} {n:Nat} (hf:Right f) (hn:f.v=n):DivJ chk f g n (f.ts.map pr) []:=by
 refine ⟨?_,by simp,pr_desc hf,fun y hy=>?_,by simpa using right_absK hf,by simpa using hf.2.1,by simp⟩
 ·simp only [List.length_nil,Nat.sub_zero,List.nil_append]
  cases divL chk g 600 (f.ts.map pr) <;> rfl
 ·obtain ⟨t,ht,rfl⟩:=List.mem_map.1 hy
  have:=right_he hf hn t ht
  exact ⟨this.1,fun z hz=>by have:=this.2 z hz;omega⟩
theorem DivJ.done {chk:List Int->Int->Bool} {f g:Lau} {n:Nat} {O:List (List Int×Int)} (h:DivJ chk f g n [] O):divL chk g 600 (f.ts.map pr)=some O:=by
 rw [h.run]
 cases 600 - O.length <;> simp [divL,divGo]
theorem DivJ.fail {chk:List Int->Int->Bool} {f g:Lau} {n:Nat} {x:List Int×Int} {R O:List (List Int×Int)} (h:DivJ chk f g n (x :: R) O) (hc:¬ (x.2.tmod (leadC g)=0/\chk (addE (-1) x.1 (leadE g)) (x.2.tdiv (leadC g))=true)\/O.length=600):divL chk g 600 (f.ts.map pr)=none:=by
 rw [h.run]
 rcases Nat.eq_zero_or_pos (600 - O.length) with e | e
 ·rw [e];rfl
 ·obtain ⟨k,hk⟩:∃ k,600 - O.length=k+1:=⟨600 - O.length - 1,by omega⟩
  rw [hk]
  rcases hc with hc | hc
  ·simp only [divL,divGo]
   rw [if_neg hc]
   rfl
  ·omega
def stepL (g:Lau) (x:List Int×Int) (R:List (List Int×Int)):List (List Int×Int):=x :: R ++ mulT (addE 1) (addE (-1) x.1 (leadE g)) (-(x.2.tdiv (leadC g))) (g.ts.map pr)
theorem addE_bd {B C:Int}:∀ {a b:List Int} {k:Int},(k=1\/k=-1)->a.length=b.length->(∀ z∈a,-B<=z/\z<=B)->(∀ z∈b,-C<=z/\z<=C)->∀ z∈addE k a b,-(B+C)<=z/\z<=B+C
 | [],[],k,_,_,_,_=>by simp [addE]
 | x :: a,y :: b,k,hk,h,ha,hb=>by
  intro z hz
  have h1:=ha x (by simp)
  have h2:=hb y (by simp)
  simp only [addE,List.mem_cons] at hz
  rcases hz with rfl | hz
  ·rcases hk with rfl | rfl <;> omega
  ·exact addE_bd hk (by simpa using h) (fun z hz=>ha z (by simp [hz])) (fun z hz=>hb z (by simp [hz])) z hz
 | [],_ :: _,_,_,h,_,_=>by simp at h
 | _ :: _,[],_,_,h,_,_=>by simp at h
theorem DivJ.step {chk:List Int->Int->Bool} {f g:Lau} {n:Nat} {x:List Int×Int} {R O:List (List Int×Int)} (h:DivJ chk f g n (x :: R) O) (hg:Right g) (hgn:g.v=n) (hm:x.2.tmod (leadC g)=0) (hc:chk (addE (-1) x.1 (leadE g)) (x.2.tdiv (leadC g))=true) (h6:O.length < 600)
  (hel:(addE (-1) x.1 (leadE g)).length=n) (hb:∀ z∈addE (-1) x.1 (leadE g),-40<=z/\z<=40) (hq:-1000000<=x.2.tdiv (leadC g)/\x.2.tdiv (leadC g)<=1000000) :
  DivJ chk f g n (nf lexlt (stepL g x R)) (O ++ [(addE (-1) x.1 (leadE g),x.2.tdiv (leadC g))]):=by
 have hga:=right_absK hg
 have hgl:=hg.2.1
 have hab:=nf_abs (lt:=lexlt) (stepL g x R)
 have hlen:(O ++ [(addE (-1) x.1 (leadE g),x.2.tdiv (leadC g))]).length=O.length+1:=by simp
 refine ⟨?_,by omega,nf_desc lexOrd _,fun y hy=>?_,?_,?_,fun y hy=>?_⟩
 ·rw [h.run]
  obtain ⟨k,hk⟩:∃ k,600 - O.length=k+1:=⟨600 - O.length - 1,by omega⟩
  rw [hlen,hk,show 600 - (O.length+1)=k by omega]
  simp only [divL,divGo]
  rw [if_pos ⟨hm,hc⟩]
  simp only [Option.map_map,stepL]
  congr 1
  funext z
  simp
 ·obtain ⟨z,hz,e⟩:=nf_mem hy
  rw [<-e]
  unfold stepL at hz
  rcases List.mem_append.1 hz with hz | hz
  ·exact h.rl z hz
  ·obtain ⟨u,hu,rfl⟩:=List.mem_map.1 hz
   obtain ⟨t,ht,rfl⟩:=List.mem_map.1 hu
   have ht2:=right_he hg hgn t ht
   refine ⟨by simp only [pr];rw [addE_length _ _ _ (hel.trans ht2.1.symm)];exact hel,?_⟩
   exact addE_bd (B:=40) (C:=20) (.inl rfl) (hel.trans ht2.1.symm) hb ht2.2
 ·refine Nat.le_trans hab.1 ?_
  unfold stepL
  rw [absK_append,mulT_abs,hlen]
  have h1:=h.ra
  have h2:(-(x.2.tdiv (leadC g))).natAbs*absK (g.ts.map pr)<=1000000*600000000:=Nat.mul_le_mul (by omega) hga
  omega
 ·refine Nat.le_trans hab.2 ?_
  unfold stepL
  rw [List.length_append,mulT_length,List.length_map,hlen]
  have h1:=h.rn
  omega
 ·rcases List.mem_append.1 hy with hy | hy
  ·exact h.od y hy
  ·simp only [List.mem_singleton] at hy
   subst hy
   exact ⟨hel,hb⟩
theorem lead_get {g:Lau} (h:0 < g.ts.length):(g.ts[0]'h).e=leadE g/\(g.ts[0]'h).c=leadC g:=by
 unfold leadE leadC
 match hh:g.ts,h with
 | t :: ts,_=>simp
end Go.Proofs.Ytncfmemhjahpeaa.Ab
namespace Go.Proofs.Ytncfmemhjahpeaa.Ab
open Go
set_option maxRecDepth 10000
set_option maxHeartbeats 2000000
@[simp] theorem lowL_length (ts:List Trm) (n:Nat):(lowL ts n).length=n:=by simp [lowL]
@[simp] theorem highL_length (ts:List Trm) (n:Nat):(highL ts n).length=n:=by simp [highL]
theorem ieq600 (n:Nat):((n:Int) == 600)=decide (n=600):=by
 rw [Bool.eq_iff_iff];simp;omega
end Go.Proofs.Ytncfmemhjahpeaa.Ab
namespace Go.Proofs.Ytncfmemhjahpeaa.Ab
open Go
set_option maxRecDepth 10000
set_option maxHeartbeats 2000000
def byts (xs:List Int):List D:=xs.map fun x=>D.v (.int .u8 x)
@[simp] theorem byts_length (xs:List Int):(byts xs).length=xs.length:=by simp [byts]
theorem byts_0 {xs:List Int} {i:Nat} (h:i < xs.length):(byts xs)[i]? = some (D.v (.int .u8 xs[i]))/\∀ h',(byts xs)[i]'h'=D.v (.int .u8 xs[i]):=by
 unfold byts
 exact ⟨by simp [h],fun _=>by simp⟩
theorem and_bd (x:Int) {m:Int} {b:Nat} (hm:(BitVec.ofInt 64 m).toNat=b) (hb:b < 4611686018427387904):0<=IntKind.i64.wrap ((BitVec.ofInt 64 x &&& BitVec.ofInt 64 m).toNat:Int)/\IntKind.i64.wrap ((BitVec.ofInt 64 x &&& BitVec.ofInt 64 m).toNat:Int)<=b:=by
 have h1:(BitVec.ofInt 64 x &&& BitVec.ofInt 64 m).toNat<=b:=by
  rw [BitVec.toNat_and,hm]
  exact Nat.and_le_right
 rw [wrapOk (by omega) (by omega)]
 omega
theorem ints_snocA (xs:List Int) (x:Int):ints xs ++ [D.v (.int .i64 x)]=ints (xs ++ [x]):=by simp [ints]
def cur (xs:List Int) (i:Nat) (h:Int):D:=.bx [.sh 1 xs.length (byts xs),D.int i,D.int h]
attribute [local simp] cur
def DrawI (xs:List Int) (p:Int->Prop) (outs:List D) (res:List RV):Prop:=∃ (i':Nat) (h' r:Int),i'<=xs.length/\p r/\outs=[cur xs i' h']/\res=[.one (D.int r)]
def DrawE (xs:List Int) (p:List Int->Prop) (outs:List D) (res:List RV):Prop:=∃ (i':Nat) (h':Int) (e:List Int),i'<=xs.length/\p e/\outs=[cur xs i' h']/\res=[.one (owI e)]
theorem laws_big_c (xs:List Int):ACalls Try.prog F.laws_big [.d (.sh 1 xs.length (byts xs))] [] true (fun outs res=>outs=[]/\res=[.one (D.bool (decide (1048576 < (xs.length:Int))))]):=by
 refine ACalls.of_body (C:=C.laws_big) (n:=Try.f5.ntmps) tabT folT Try.func5 rfl (by kernel_rfl) rfl (Nat.le_of_ble_eq_true rfl) (by decide) (by kernel_rfl) (by kernel_rfl) rfl (by simp) (by simp) ?_
 simp only [Try.f5]
 refine wseq ?_
 refine wreg fun K hK=>?_
 simp [C.laws_big]
 refine hK _ ?_;clear hK K
 show AWp _ _ _ _ _
 refine wseq ?_
 refine wreg fun K hK=>?_
 simp [C.laws_big]
 refine hK _ ?_;clear hK K
 show AWp _ _ _ _ _
 refine wret ?_
 simp [C.laws_big]
theorem spec_l1New_c (xs:List Int) (hx:xs.length<=1048576):ACalls Try.prog F.spec_l1New [.d (.sh 1 xs.length (byts xs))] [] false (fun outs res=>outs=[]/\∃ h:Int,res=[.one (cur xs 0 h)]):=by
 refine ACalls.of_body (C:=C.spec_l1New) (n:=Try.f18.ntmps) tabT folT Try.func18 rfl (by kernel_rfl) rfl (Nat.le_of_ble_eq_true rfl) (by decide) (by kernel_rfl) (by kernel_rfl) rfl (by simp) (by simp) ?_
 simp only [Try.f18]
 refine wseq ?_
 refine wreg fun K hK=>?_
 simp [C.spec_l1New]
 refine hK _ ?_;clear hK K
 show AWp _ _ _ _ _
 refine wseq ?_
 refine wreg fun K hK=>?_
 simp [C.spec_l1New]
 rw [wrapOk (x:=124929+(xs.length:Int)) (by omega) (by omega)]
 refine hK _ ?_;clear hK K
 show AWp _ _ _ _ _
 refine wseq ?_
 refine wseq ?_
 refine wreg fun K hK=>?_
 simp [C.spec_l1New]
 refine hK _ ?_;clear hK K
 show AWp _ _ _ _ _
 refine wblock ?_
 refine wloop (fun x:Nat×Int=>⟨ofL [(0,.d (.sh 1 xs.length (byts xs))),(3,.int x.2),(4,.int x.1)],ofRO []⟩) (fun x=>x.1<=xs.length) (fun x=>xs.length - x.1) (0,124929+(xs.length:Int)) (by simp [C.spec_l1New]) (by simp) ?_
 intro x1 hx1 R1 hR1
 obtain ⟨j,h⟩:=x1
 dsimp only at hx1 ⊢
 refine wseq ?_
 refine wseq ?_
 refine wreg fun K hK=>?_
 have hJ:K ⟨ofL [(0,.d (.sh 1 xs.length (byts xs))),(3,.int h),(4,.int j),(15,.bool (decide (j < xs.length/\(j:Int) < 4000)))],ofRO []⟩:=by
  refine hK _ ?_;clear hK K
  show AWp _ _ _ _ _
  refine wcond _ rfl (fun hc1=>?_) (fun hc1=>?_)
  ·have hh:=d_t hc1
   have h1:j < xs.length:=hh.1
   refine wskip ?_
   show AWp _ _ _ _ _
   refine wseq ?_
   refine wblock ?_
   refine wreg fun K hK=>?_
   simp [C.spec_l1New,h1,byts_0 h1]
   refine hK _ ?_;clear hK K
   show AWp _ _ _ _ _
   refine wreg fun K hK=>?_
   simp [C.spec_l1New,wrap_succ (show j < 4611686018427387904 by omega)]
   refine hK _ ?_;clear hK K
   simp [C.spec_l1New]
   exact hR1 (j+1,_) h1 (by dsimp only;omega)
  ·refine wexit ?_
   show AWp _ _ _ _ _
   refine wseq ?_
   refine wreg fun K hK=>?_
   simp [C.spec_l1New]
   refine hK _ ?_;clear hK K
   show AWp _ _ _ _ _
   refine wret ?_
   simp [C.spec_l1New,cur]
 clear hK
 by_cases ha:j < xs.length
 ·simp [C.spec_l1New,ha]
  refine cast (congrArg K ?_) hJ
  simp [ha]
 ·simp [C.spec_l1New,ha]
  refine cast (congrArg K ?_) hJ
  simp [ha]
theorem spec_l1Byte_c (xs:List Int) (i:Nat) (h:Int) (hi:i<=xs.length) (hx:xs.length<=1048576):ACalls Try.prog F.spec_l1Byte [.pt (0,0) [] 0] [((0,0),cur xs i h)] false (DrawI xs (fun r=>0<=r/\r<=255)):=by
 refine ACalls.of_body (C:=C.spec_l1Byte) (n:=Try.f78.ntmps) tabT folT Try.func78 rfl (by kernel_rfl) rfl (Nat.le_of_ble_eq_true rfl) (by decide) (by kernel_rfl) (by kernel_rfl) rfl (by simp) (by simp) ?_
 simp only [Try.f78]
 refine wseq ?_
 refine wreg fun K hK=>?_
 simp [C.spec_l1Byte,cur]
 refine hK _ ?_;clear hK K
 show AWp _ _ _ _ _
 refine wseq ?_
 refine wreg fun K hK=>?_
 simp [C.spec_l1Byte,cur]
 refine hK _ ?_;clear hK K
 show AWp _ _ _ _ _
 refine wseq ?_
 refine wdrawI [(true,0),(true,1),(true,2),(true,3),(true,4),(true,5),(true,6),(true,7),(true,8),(true,9),(true,10),(true,11),(true,12)] ⟨by kernel_rfl,by kernel_rfl⟩ ([0,1,2,3,4,5,6,7,8,9,10,11,12]) rfl fun K hK=>?_
 refine oEn fun L hL=>?_
 simp [C.spec_l1Byte,cur]
 refine hL _ ?_;clear hL L
 simp [C.spec_l1Byte,cur]
 refine hK _ ?_;clear hK K
 show AWp _ _ _ _ _
 refine wseq ?_
 refine wseq ?_
 refine wdraw (.take 0 (.take 1 (.take 2 (.take 3 (.take 4 (.take 5 (.take 6 (.take 7 (.take 8 (.take 9 (.done))))))))))) ⟨by kernel_rfl,by kernel_rfl⟩ fun K hK=>?_
 simp [C.spec_l1Byte,cur]
 refine hK _ ?_;clear hK K
 show AWp _ _ _ _ _
 refine wcond _ rfl (fun hc1=>?_) (fun hc1=>?_)
 ·have h1:i < xs.length:=by have:=d_t hc1;omega
  refine wseq ?_
  refine wdrawI [(true,0),(true,1),(true,2),(true,3),(true,4),(true,5),(true,6),(true,7),(true,8),(true,9),(true,10),(true,11),(true,12),(true,13),(true,14)] ⟨by kernel_rfl,by kernel_rfl⟩ ([0,1,2,3,4,5,6,7,8,9,10,11,12,13,14]) rfl fun K hK=>?_
  refine oEn fun L hL=>?_
  simp [C.spec_l1Byte,cur,h1,byts_0 h1]
  refine hL _ ?_;clear hL L
  simp [C.spec_l1Byte,cur,h1,byts_0 h1]
  refine hK _ ?_;clear hK K
  show AWp _ _ _ _ _
  refine wreg fun K hK=>?_
  simp [C.spec_l1Byte,cur,wrap_succ (show i < 4611686018427387904 by omega)]
  refine hK _ ?_;clear hK K
  show AWp _ _ _ _ _
  refine wseq ?_
  refine wreg fun K hK=>?_
  simp [C.spec_l1Byte,cur]
  refine hK _ ?_;clear hK K
  show AWp _ _ _ _ _
  refine wret ?_
  simp [C.spec_l1Byte,cur,cur]
  exact ⟨i+1,_,_,h1,and_bd (m:=255) (b:=255) _ (by decide) (by decide),rfl,rfl⟩
 ·have h1:¬ i < xs.length:=by have:=d_f hc1;omega
  refine wskip ?_
  show AWp _ _ _ _ _
  refine wseq ?_
  refine wreg fun K hK=>?_
  simp [C.spec_l1Byte,cur]
  refine hK _ ?_;clear hK K
  show AWp _ _ _ _ _
  refine wret ?_
  simp [C.spec_l1Byte,cur,cur]
  exact ⟨i,_,_,hi,and_bd (m:=255) (b:=255) _ (by decide) (by decide),rfl,rfl⟩
theorem spec_l1Below_c (xs:List Int) (i:Nat) (h n:Int) (hi:i<=xs.length) (hx:xs.length<=1048576) (hn:0 < n/\n<=256):ACalls Try.prog F.spec_l1Below [.pt (0,0) [] 0,.int n] [((0,0),cur xs i h)] false (DrawI xs (fun r=>0<=r/\r < n)):=by
 refine ACalls.of_body (C:=C.spec_l1Below) (n:=Try.f49.ntmps) tabT folT Try.func49 rfl (by kernel_rfl) rfl (Nat.le_of_ble_eq_true rfl) (by decide) (by kernel_rfl) (by kernel_rfl) rfl (by simp) (by simp) ?_
 simp only [Try.f49]
 refine wseq ?_
 refine wreg fun K hK=>?_
 simp [C.spec_l1Below,cur]
 refine hK _ ?_;clear hK K
 show AWp _ _ _ _ _
 refine wseq ?_
 refine wseq ?_
 refine wreg fun K hK=>?_
 simp [C.spec_l1Below,cur]
 refine hK _ ?_;clear hK K
 show AWp _ _ _ _ _
 refine wcond _ rfl (fun hc1=>?_) (fun hc1=>?_)
 ·have:=d_t hc1;omega
 ·refine wskip ?_
  show AWp _ _ _ _ _
  refine wseq ?_
  refine wseq ?_
  refine wreg fun K hK=>?_
  simp [C.spec_l1Below,cur]
  refine hK _ ?_;clear hK K
  show AWp _ _ _ _ _
  refine wcond _ rfl (fun hc2=>?_) (fun hc2=>?_)
  ·refine wseq ?_
   refine wregI ([0,1] ++ ([2,3,4])) rfl fun K hK=>?_
   refine oSg fun L hL=>?_
   simp [C.spec_l1Below,cur,show ¬ n=0 by omega]
   refine wcall (spec_l1Byte_c xs i h hi hx) (by simp) (by simp) (by simp) ?_
   rintro outs res ⟨i',h',r,q1,q2,rfl,rfl⟩
   simp [C.spec_l1Below,cur,show ¬ n=0 by omega]
   refine hL _ ?_;clear hL L
   refine oEn fun L hL=>?_
   simp [C.spec_l1Below,cur,show ¬ n=0 by omega]
   refine hL _ ?_;clear hL L
   simp [C.spec_l1Below,cur,show ¬ n=0 by omega]
   refine hK _ ?_;clear hK K
   show AWp _ _ _ _ _
   refine wret ?_
   simp [C.spec_l1Below,cur]
   exact ⟨i',h',r.tmod n,q1,⟨Int.tmod_nonneg _ q2.1,Int.tmod_lt_of_pos _ hn.1⟩,rfl,rfl⟩
  ·have:=d_f hc2;omega
end Go.Proofs.Ytncfmemhjahpeaa.Ab
namespace Go.Proofs.Ytncfmemhjahpeaa.Ab
open Go
set_option maxRecDepth 10000
set_option maxHeartbeats 2000000
attribute [local simp] cur
def Drawn (n:Nat) (f:Lau):Prop:=Right f/\f.v=n/\f.ts.length<=4/\∀ t∈f.ts,(-16<=t.c/\t.c<=16)/\∀ x∈t.e,-2<=x/\x<=2
theorem co_at {K:Type} [DecidableEq K] {lt:K->K->Bool} (ho:Ord lt):∀ {l:List (K×Int)},Desc lt l->∀ x∈l,co x.1 l=x.2
 | y :: l,h,x,hx=>by
  rcases List.mem_cons.1 hx with rfl | hx
  ·simp only [co,if_true]
   rw [co_none x.1 l (desc_tail_ne ho h)]
   omega
  ·have hne:=desc_tail_ne ho h x hx
   simp only [co]
   rw [if_neg (fun e=>hne e.symm),co_at ho (List.pairwise_cons.1 h).2 x hx]
   omega
end Go.Proofs.Ytncfmemhjahpeaa.Ab
namespace Go.Proofs.Ytncfmemhjahpeaa.Ab
open Go
def plist (f:Lau):LS:=f.ts.map pr
structure LB (n K E:Nat) (f:Lau):Prop where
 right:Right f
 v:f.v=n
 ab:absK (plist f)<=K
 ex:ExB n E (plist f)
theorem LB.mono {n K E K' E':Nat} {f:Lau} (h:LB n K E f) (h1:K<=K') (h2:E<=E'):LB n K' E' f:=⟨h.right,h.v,Nat.le_trans h.ab h1,h.ex.mono h2⟩
theorem absK_nz {l:LS} (h:Nz l):l.length<=absK l:=by
 induction l with
 | nil=>simp
 | cons x l ih=>
  have h1:=ih fun y hy=>h y (by simp [hy])
  have h2:=h x (by simp)
  simp only [absK,List.map_cons,List.sum_cons,List.length_cons] at h1 ⊢
  omega
theorem absK_mem {l:LS} {x:List Int×Int} (h:x∈l):x.2.natAbs<=absK l:=by
 induction l with
 | nil=>simp at h
 | cons y l ih=>
  simp only [absK,List.map_cons,List.sum_cons] at ih ⊢
  rcases List.mem_cons.1 h with rfl | h
  ·omega
  ·have:=ih h
   omega
theorem tm_pr (l:LS):(l.map tm).map pr=l:=by
 rw [List.map_map]
 have:(pr ∘ tm)=id:=by funext x;rfl
 rw [this,List.map_id]
def PosL (l:LS):Prop:=l≠[]/\∀ x∈l,0 < x.2
theorem co_pos {l:LS} (h:∀ x∈l,0 < x.2) (k:List Int):0<=co k l/\((∃ x∈l,x.1=k)->0 < co k l):=by
 induction l with
 | nil=>exact ⟨by simp [co],fun ⟨x,hx,_⟩=>absurd hx (by simp)⟩
 | cons x l ih=>
  have h1:=ih fun y hy=>h y (by simp [hy])
  have h2:=h x (by simp)
  simp only [co]
  refine ⟨?_,?_⟩
  ·split <;> omega
  ·rintro ⟨y,hy,hk⟩
   rcases List.mem_cons.1 hy with rfl | hy
   ·rw [if_pos hk]
    omega
   ·have:=h1.2 ⟨y,hy,hk⟩
    split <;> omega
theorem PosL.nf {l:LS} (h:PosL l):PosL (nf lexlt l):=by
 have hd:=nf_desc lexOrd l
 refine ⟨fun e=>?_,fun x hx=>?_⟩
 ·cases l with
  | nil=>exact h.1 rfl
  | cons x l=>
   have h1:=(co_pos h.2 x.1).2 ⟨x,by simp,rfl⟩
   rw [<-nf_co (lt:=lexlt) x.1 (x :: l),e] at h1
   simp [co] at h1
 ·have h1:=co_at lexOrd hd x hx
  rw [nf_co] at h1
  obtain ⟨z,hz1,hz2⟩:=nf_mem hx
  have:=(co_pos h.2 x.1).2 ⟨z,hz1,hz2⟩
  omega
theorem PosL.prod {a b:LS} (ha:PosL a) (hb:PosL b):PosL (prodL a b):=by
 refine ⟨fun e=>?_,fun x hx=>?_⟩
 ·obtain ⟨x,a,rfl⟩:=List.exists_cons_of_ne_nil ha.1
  obtain ⟨y,b,rfl⟩:=List.exists_cons_of_ne_nil hb.1
  simp [prodL] at e
 ·simp only [prodL,List.mem_flatMap,List.mem_map] at hx
  obtain ⟨p,hp,q,hq,rfl⟩:=hx
  exact Int.mul_pos (ha.2 p hp) (hb.2 q hq)
theorem PosL.app {a b:LS} (ha:PosL a) (hb:PosL b):PosL (a ++ b):=⟨by simp [ha.1],fun x hx=>(List.mem_append.1 hx).elim (ha.2 x) (hb.2 x)⟩
theorem lb_shut {n K E:Nat} (hn:1<=n/\n<=8) {l:LS} (he:ExB n E l) (hk:absK l<=K) (hK:K<=600) (hE:E<=20) :
  ∃ h,shutF n l=(h,true)/\LB n K E h/\(∀ T,vT T n (plist h)=vT T n l)/\(PosL l->PosL (plist h)):=by
 have hd:=nf_desc lexOrd l
 have hz:=nf_nz (lt:=lexlt) l
 have ha:=(nf_abs (lt:=lexlt) l).1
 have hx:=he.nf
 have hlen:=absK_nz hz
 have hR:Right ⟨(n:Int),(nf lexlt l).map tm⟩:=by
  refine ⟨by dsimp only;omega,by dsimp only;rw [List.length_map];omega,fun t ht=>?_,?_⟩
  ·obtain ⟨x,hm,rfl⟩:=List.mem_map.1 ht
   have h1:=hx x hm
   have h2:=absK_mem hm
   refine ⟨by simp only [tm];omega,hz x hm,by simp only [tm];omega,fun y hy=>?_⟩
   have:=h1.2 y hy
   omega
  ·unfold DescT
   rw [List.pairwise_map]
   exact hd
 refine ⟨⟨n,(nf lexlt l).map tm⟩,by unfold shutF;rw [if_pos hR],⟨hR,rfl,?_,?_⟩,fun T=>?_,fun hp=>?_⟩
 ·simp only [plist,tm_pr]
  omega
 ·simp only [plist,tm_pr]
  exact hx
 ·simp only [plist,tm_pr]
  exact vT_nf T n l
 ·simp only [plist,tm_pr]
  exact hp.nf
theorem lb_sep {n K E K' E':Nat} {f g:Lau} (hf:LB n K E f) (hg:LB n K' E' g) (hE:E<=63) (hE':E'<=63) (h:∀ T,2<=T->vT T n (plist f)=vT T n (plist g)):f=g:=by
 have h1:=vT_sep (hf.ex.dig hE) (hg.ex.dig hE') h
 have key:∀ {f:Lau},Right f->nf lexlt (plist f)=plist f:=fun {f} hr=>by
  refine (nf_unique lexOrd ?_ ?_ fun _=>rfl).symm
  ·unfold Desc plist
   rw [List.pairwise_map]
   exact hr.2.2.2
  ·intro x hx
   obtain ⟨t,ht,rfl⟩:=List.mem_map.1 hx
   exact (hr.2.2.1 t ht).2.1
 rw [key hf.right,key hg.right] at h1
 have h2:f.ts=g.ts:=by
  have:=congrArg (List.map tm) h1
  simp only [plist,List.map_map] at this
  have e:(tm ∘ pr)=id:=by funext x;rfl
  rw [e,List.map_id,List.map_id] at this
  exact this
 have h3:f.v=g.v:=hf.v.trans hg.v.symm
 obtain ⟨a,b⟩:=f
 obtain ⟨c,d⟩:=g
 simp only at h2 h3
 rw [h2,h3]
theorem absK_app (a b:LS):absK (a ++ b)=absK a+absK b:=by simp [absK]
theorem absK_prod:∀ (a b:LS),absK (prodL a b)=absK a*absK b
 | [],b=>by simp [prodL,absK]
 | x :: a,b=>by
  have h:prodL (x :: a) b=(b.map fun y=>(addE 1 x.1 y.1,x.2*y.2)) ++ prodL a b:=rfl
  rw [h,absK_app,absK_prod a b]
  have h2:absK (b.map fun y=>(addE 1 x.1 y.1,x.2*y.2))=x.2.natAbs*absK b:=by
   induction b with
   | nil=>simp [absK]
   | cons y b ih=>
    simp only [absK,List.map_cons,List.sum_cons] at ih ⊢
    rw [ih (by rfl),Nat.mul_add,Int.natAbs_mul]
  rw [h2,show absK (x :: a)=x.2.natAbs+absK a by simp [absK],Nat.add_mul]
theorem lb_mul {n K E K' E':Nat} (hn:1<=n/\n<=8) {f g:Lau} (hf:LB n K E f) (hg:LB n K' E' g) (hK:K*K'<=600) (hE:E+E'<=20) :
  ∃ h,mulF f g=(h,true)/\LB n (K*K') (E+E') h/\(∀ T,2<=T->vT T n (plist h)=vT T n (plist f)*vT T n (plist g))/\(PosL (plist f)->PosL (plist g)->PosL (plist h)):=by
 obtain ⟨h,h1,h2,h3,h4⟩:=lb_shut hn (hf.ex.prod hg.ex) (by rw [absK_prod];exact Nat.mul_le_mul hf.ab hg.ab) hK hE
 refine ⟨h,?_,h2,fun T hT=>?_,fun p q=>h4 (p.prod q)⟩
 ·unfold mulF
  rw [if_pos ⟨hf.right,hg.right,hf.v.trans hg.v.symm⟩,hf.v]
  exact h1
 ·rw [h3,vT_prod hT hf.ex hg.ex (by omega)]
theorem lb_add {n K E K':Nat} (hn:1<=n/\n<=8) {f g:Lau} (hf:LB n K E f) (hg:LB n K' E g) (hK:K+K'<=600) (hE:E<=20) :
  ∃ h,addF f 1 g=(h,true)/\LB n (K+K') E h/\(∀ T,vT T n (plist h)=vT T n (plist f)+vT T n (plist g))/\(PosL (plist f)->PosL (plist g)->PosL (plist h)):=by
 have e:g.ts.map (prk 1)=plist g:=by
  unfold plist
  refine List.map_congr_left fun t _=>?_
  simp [prk,pr]
 obtain ⟨h,h1,h2,h3,h4⟩:=lb_shut hn (hf.ex.app hg.ex) (by rw [absK_app];exact Nat.add_le_add hf.ab hg.ab) hK hE
 refine ⟨h,?_,h2,fun T=>?_,fun p q=>h4 (p.app q)⟩
 ·unfold addF
  rw [if_pos ⟨⟨hf.right,hg.right,hf.v.trans hg.v.symm⟩,by omega⟩,hf.v,e]
  exact h1
 ·rw [h3,vT_app]
def unitF (n k:Nat):Lau:=⟨n,[⟨unitL n k,1⟩]⟩
theorem unitL_bd {n k:Nat}:(unitL n k).length=n/\∀ y∈unitL n k,-((1:Nat):Int)<=y/\y<=(1:Nat):=by
 unfold unitL
 refine ⟨by simp,fun y hy=>?_⟩
 rcases List.mem_or_eq_of_mem_set hy with hy | rfl
 ·have:=List.eq_of_mem_replicate hy
  omega
 ·omega
theorem lb_unit {n k:Nat} (hn:1<=n/\n<=8):LB n 1 1 (unitF n k):=by
 have hu:=unitL_bd (n:=n) (k:=k)
 refine ⟨⟨by simp only [unitF];omega,by simp [unitF],fun t ht=>?_,List.pairwise_singleton _ _⟩,rfl,by simp [plist,unitF,pr,absK],fun x hx=>?_⟩
 ·simp only [unitF,List.mem_singleton] at ht
  subst ht
  exact ⟨by simp only [unitF];omega,by simp,by simp,fun y hy=>by have:=hu.2 y hy;omega⟩
 ·simp only [plist,unitF,List.map_cons,List.map_nil,List.mem_singleton] at hx
  subst hx
  exact hu
theorem lb_one {n:Nat} (hn:1<=n/\n<=8):LB n 1 1 (oneF n):=by
 refine ⟨oneF_right hn,rfl,by simp [plist,oneF,pr,absK],fun x hx=>?_⟩
 simp only [plist,oneF,List.map_cons,List.map_nil,List.mem_singleton] at hx
 subst hx
 exact ⟨by simp [pr],fun y hy=>by have:=List.eq_of_mem_replicate hy;omega⟩
theorem phT_bs (T n:Nat):phT T (List.replicate n 0)=(T:Int) ^ bsN n:=rfl
theorem vT_one {T n:Nat} (hT:2<=T) (e:List Int):vT T n [(e,1)]≠0:=by
 unfold vT
 have hp:=powR_ne (m:=bsN n) hT
 have h1:((eT T [(e,1)]:Int):Rat)≠0:=by
  have:=phT_pos (T:=T) (by omega) e
  simp only [eT,vl,Int.add_zero,Int.one_mul]
  intro h
  have h2:phT T e=0:=by exact_mod_cast h
  omega
 generalize (T:Rat) ^ bsN n=P at *
 generalize ((eT T [(e,1)]:Int):Rat)=X at *
 grind
theorem vT_oneF {T n:Nat} (hT:2<=T):vT T n (plist (oneF n))=1:=by
 have hp:=powR_ne (m:=bsN n) hT
 have h1:plist (oneF n)=[(List.replicate n 0,1)]:=rfl
 rw [h1]
 unfold vT
 have h2:eT T [(List.replicate n 0,(1:Int))]=(T:Int) ^ bsN n:=by
  simp only [eT,vl,Int.add_zero,Int.one_mul,phT_bs]
 rw [h2,Rat.intCast_pow,Rat.intCast_natCast]
 grind
theorem addE_unit:∀ (e u:List Int),e.length=u.length->addE 1 (addE (-1) e u) u=e
 | [],[],_=>rfl
 | x :: e,y :: u,h=>by
  simp only [addE,addE_unit e u (by simpa using h)]
  congr 1
  omega
 | [],_ :: _,h=>by simp at h
 | _ :: _,[],h=>by simp at h
theorem addE_bndm:∀ {a b:List Int} {E F:Nat},a.length=b.length->(∀ y∈a,-(E:Int)<=y/\y<=E)->(∀ y∈b,-(F:Int)<=y/\y<=F)->∀ y∈addE (-1) a b,-((E+F:Nat):Int)<=y/\y<=(E+F:Nat)
 | [],[],E,F,_,_,_,y,hy=>by simp [addE] at hy
 | a :: aa,b :: bs,E,F,hl,ha,hb,y,hy=>by
  simp only [addE,List.mem_cons] at hy
  rcases hy with rfl | hy
  ·have:=ha a (by simp)
   have:=hb b (by simp)
   omega
  ·exact addE_bndm (by simpa using hl) (fun y hy=>ha y (by simp [hy])) (fun y hy=>hb y (by simp [hy])) y hy
theorem lb_div {n K E k:Nat} (hn:1<=n/\n<=8) {f:Lau} (hf:LB n K E f) (hK:K<=600) (hE:E+2<=20) :
  ∃ h,divF f (unitF n k)=(h,true)/\LB n K (E+1) h/\(∀ T,2<=T->vT T n (plist h)*vT T n (plist (unitF n k))=vT T n (plist f))/\(PosL (plist f)->PosL (plist h)):=by
 have hu:=unitL_bd (n:=n) (k:=k)
 obtain ⟨l,hl⟩:∃ l,l=(plist f).map fun x=>(addE (-1) x.1 (unitL n k),x.2):=⟨_,rfl⟩
 have hex:ExB n (E+1) l:=fun x hx=>by
  rw [hl] at hx
  obtain ⟨y,hy,rfl⟩:=List.mem_map.1 hx
  have h1:=hf.ex y hy
  exact ⟨by rw [addE_length _ _ _ (by omega)];exact h1.1,addE_bndm (by omega) h1.2 hu.2⟩
 have hab:absK l=absK (plist f):=by
  rw [hl]
  simp only [absK,List.map_map]
  rfl
 obtain ⟨h,h1,h2,h3,h4⟩:=lb_shut hn hex (by rw [hab];exact hf.ab) hK (by omega)
 have hun:=lb_unit (k:=k) hn
 have hprod:prodL l (plist (unitF n k))=plist f:=by
  have:plist (unitF n k)=[(unitL n k,1)]:=rfl
  rw [this,hl]
  have hall:=hf.ex
  generalize plist f=p at hall
  induction p with
  | nil=>rfl
  | cons x p ih=>
   have h5:=ih fun y hy=>hall y (by simp [hy])
   have h6:=hall x (by simp)
   simp only [prodL,List.map_cons,List.flatMap_cons,List.map_nil] at h5 ⊢
   rw [h5,addE_unit _ _ (by omega)]
   simp
 have hval:∀ T,2<=T->vT T n (plist h)*vT T n (plist (unitF n k))=vT T n (plist f):=fun T hT=>by
  rw [h3,<-vT_prod hT hex hun.ex (by omega),hprod]
 have hpos:PosL (plist f)->PosL l:=fun p=>by
  rw [hl]
  refine ⟨by simpa using p.1,fun x hx=>?_⟩
  obtain ⟨y,hy,rfl⟩:=List.mem_map.1 hx
  exact p.2 y hy
 obtain ⟨g,g1,g2,g3,-⟩:=lb_mul hn h2 hun (by omega) (by omega)
 have hg:g=f:=lb_sep g2 hf (by omega) (by omega) fun T hT=>by rw [g3 T hT,hval T hT]
 rw [hg] at g1
 exact ⟨h,div_mul h2.right hun.right (h2.v.trans hun.v.symm) (by simp [unitF]) g1,h2,hval,fun p=>h4 (hpos p)⟩
end Go.Proofs.Ytncfmemhjahpeaa.Ab
namespace Go.Proofs.Ytncfmemhjahpeaa.Ab
open Go
set_option maxRecDepth 10000
set_option maxHeartbeats 2000000
abbrev DI:=Int×Int
def agD (d:DI):FV:=.ag [.int d.1,.int d.2]
def besI (v a b:Int):Bool:=decide ((a+1).tmod v=b\/(b+1).tmod v=a)
def IsDg (v:Int) (d:DI):Prop:=(4<=v/\v<=8)/\0<=d.1/\d.1+2<=d.2/\d.2 < v/\¬ (d.1=0/\d.2=v - 1)
instance (v:Int) (d:DI):Decidable (IsDg v d):=by unfold IsDg;infer_instance
def CrI (d e:DI):Prop:=(d.1 < e.1/\e.1 < d.2/\d.2 < e.2)\/(e.1 < d.1/\d.1 < e.2/\e.2 < d.2)
instance (d e:DI):Decidable (CrI d e):=by unfold CrI;infer_instance
theorem besI_lt {v a b:Int} (hv:4<=v) (ha:0<=a) (hab:a < b) (hb:b < v):besI v a b=decide (a+1=b\/(a=0/\b=v - 1)):=by
 unfold besI
 rw [Int.tmod_eq_emod_of_nonneg (by omega),Int.tmod_eq_emod_of_nonneg (by omega),Int.emod_eq_of_lt (by omega) (by omega)]
 rw [Bool.eq_iff_iff,decide_eq_true_eq,decide_eq_true_eq]
 by_cases h:b+1 < v
 ·rw [Int.emod_eq_of_lt (by omega) (by omega)]
  omega
 ·rw [show b+1=v by omega,Int.emod_self]
  omega
theorem besI_com (v a b:Int):besI v a b=besI v b a:=by
 unfold besI
 rw [Bool.eq_iff_iff,decide_eq_true_eq,decide_eq_true_eq]
 exact ⟨fun h=>h.symm,fun h=>h.symm⟩
theorem impl_polygonOk_c (v:Int):ACalls Try.prog F.impl_polygonOk [.int v] [] true (fun outs res=>outs=[]/\res=[.one (D.bool (decide (4<=v/\v<=8)))]):=by
 refine ACalls.of_body (C:=C.impl_polygonOk) (n:=Try.f53.ntmps) tabT folT Try.func53 rfl (by kernel_rfl) rfl (Nat.le_of_ble_eq_true rfl) (by decide) (by kernel_rfl) (by kernel_rfl) rfl (by simp) (by simp) ?_
 simp only [Try.f53]
 refine wseq ?_
 refine wreg fun K hK=>?_
 simp [C.impl_polygonOk]
 refine hK _ ?_;clear hK K
 show AWp _ _ _ _ _
 refine wseq ?_
 refine wregI ([0,1] ++ ([2])) rfl fun K hK=>?_
 refine oSg fun L hL=>?_
 simp [C.impl_polygonOk]
 refine wcall1 (impl_within_c v 4 8) (by simp) (by simp) ?_
 simp [C.impl_polygonOk]
 refine hL _ ?_;clear hL L
 refine oEn fun L hL=>?_
 simp [C.impl_polygonOk]
 refine hL _ ?_;clear hL L
 simp [C.impl_polygonOk]
 refine hK _ ?_;clear hK K
 show AWp _ _ _ _ _
 refine wret ?_
 simp [C.impl_polygonOk]
theorem impl_beside_c (v a b:Int) (hv:4<=v/\v<=8) (ha:0<=a/\a < v) (hb:0<=b/\b < v):ACalls Try.prog F.impl_beside [.int v,.int a,.int b] [] true (fun outs res=>outs=[]/\res=[.one (D.bool (besI v a b))]):=by
 refine ACalls.of_body (C:=C.impl_beside) (n:=Try.f56.ntmps) tabT folT Try.func56 rfl (by kernel_rfl) rfl (Nat.le_of_ble_eq_true rfl) (by decide) (by kernel_rfl) (by kernel_rfl) rfl (by simp) (by simp) ?_
 simp only [Try.f56]
 refine wseq ?_
 refine wreg fun K hK=>?_
 simp [C.impl_beside,wrapOk (x:=a+1) (by omega) (by omega),wrapOk (x:=b+1) (by omega) (by omega),show ¬ v=0 by omega,besI]
 refine hK _ ?_;clear hK K
 show AWp _ _ _ _ _
 refine wseq ?_
 refine wregI ([0,1,2,3,4,5,6,7,8,9,10,11,12,13,14]) rfl fun K hK=>?_
 have hJ:K ⟨ofL [(6,.bool (decide ((a+1).tmod v=b\/(b+1).tmod v=a)))],ofRO []⟩:=by
  refine hK _ ?_;clear hK K
  show AWp _ _ _ _ _
  refine wret ?_
  simp [C.impl_beside,wrapOk (x:=a+1) (by omega) (by omega),wrapOk (x:=b+1) (by omega) (by omega),show ¬ v=0 by omega,besI]
 clear hK
 by_cases h:(a+1).tmod v=b
 ·refine oEn fun L hL=>?_
  simp [C.impl_beside,wrapOk (x:=a+1) (by omega) (by omega),wrapOk (x:=b+1) (by omega) (by omega),show ¬ v=0 by omega,besI,h]
  refine hL _ ?_;clear hL L
  simp [C.impl_beside,wrapOk (x:=a+1) (by omega) (by omega),wrapOk (x:=b+1) (by omega) (by omega),show ¬ v=0 by omega,besI,h]
  refine cast (congrArg K ?_) hJ
  simp [ibeq,wrapOk (x:=a+1) (by omega) (by omega),wrapOk (x:=b+1) (by omega) (by omega),show ¬ v=0 by omega,besI,h]
 ·refine oEn fun L hL=>?_
  simp [C.impl_beside,wrapOk (x:=a+1) (by omega) (by omega),wrapOk (x:=b+1) (by omega) (by omega),show ¬ v=0 by omega,besI,h]
  refine hL _ ?_;clear hL L
  simp [C.impl_beside,wrapOk (x:=a+1) (by omega) (by omega),wrapOk (x:=b+1) (by omega) (by omega),show ¬ v=0 by omega,besI,h]
  refine cast (congrArg K ?_) hJ
  simp [ibeq,wrapOk (x:=a+1) (by omega) (by omega),wrapOk (x:=b+1) (by omega) (by omega),show ¬ v=0 by omega,besI,h]
theorem impl_IsDiagonal_c (v:Int) (d:DI):ACalls Try.prog F.impl_IsDiagonal [.int v,agD d] [] true (fun outs res=>outs=[]/\res=[.one (D.bool (decide (IsDg v d)))]):=by
 refine ACalls.of_body (C:=C.impl_IsDiagonal) (n:=Try.f24.ntmps) tabT folT Try.func24 rfl (by kernel_rfl) rfl (Nat.le_of_ble_eq_true rfl) (by decide) (by kernel_rfl) (by kernel_rfl) rfl (by simp) (by simp) ?_
 simp only [Try.f24]
 refine wseq ?_
 refine wreg fun K hK=>?_
 simp [C.impl_IsDiagonal,agD]
 refine hK _ ?_;clear hK K
 show AWp _ _ _ _ _
 refine wseq ?_
 refine wregI ([0,1] ++ ([2,3,4,5,6,7,8,9,10,11,12,13,14,15,16,17,18,19,20,21,22,23,24,25,26] ++ ([27,28,29]))) rfl fun K hK=>?_
 have hJ:K ⟨ofL [(4,.bool (decide (IsDg v d)))],ofRO []⟩:=by
  refine hK _ ?_;clear hK K
  show AWp _ _ _ _ _
  refine wret ?_
  simp [C.impl_IsDiagonal,agD]
 clear hK
 by_cases h1:4<=v/\v<=8
 ·by_cases h2:0<=d.1
  ·by_cases h3:d.1 < d.2
   ·by_cases h4:d.2 < v
    ·refine oSg fun L hL=>?_
     simp [C.impl_IsDiagonal,agD,h1,h2,h3,h4]
     refine wcall1 (impl_polygonOk_c v) (by simp) (by simp) ?_
     simp [C.impl_IsDiagonal,agD,h1,h2,h3,h4]
     refine hL _ ?_;clear hL L
     refine oSg fun L hL=>?_
     simp [C.impl_IsDiagonal,agD,h1,h2,h3,h4]
     refine wcall1 (impl_beside_c v d.1 d.2 h1 ⟨h2,by omega⟩ ⟨by omega,h4⟩) (by simp [agD]) (by simp) ?_
     simp [C.impl_IsDiagonal,agD,h1,h2,h3,h4]
     refine hL _ ?_;clear hL L
     refine oEn fun L hL=>?_
     simp [C.impl_IsDiagonal,agD,h1,h2,h3,h4]
     refine hL _ ?_;clear hL L
     simp [C.impl_IsDiagonal,agD,h1,h2,h3,h4]
     refine cast (congrArg K ?_) hJ
     simp [IsDg,h1,h2,h3,h4,besI_lt h1.1 h2 h3 h4,show (d.1+2<=d.2)=¬ (d.1+1=d.2) from propext (by omega),agD,h1,h2,h3,h4]
    ·refine oSg fun L hL=>?_
     simp [C.impl_IsDiagonal,agD,h1,h2,h3,h4]
     refine wcall1 (impl_polygonOk_c v) (by simp) (by simp) ?_
     simp [C.impl_IsDiagonal,agD,h1,h2,h3,h4]
     refine hL _ ?_;clear hL L
     refine oSg fun L hL=>?_
     simp [C.impl_IsDiagonal,agD,h1,h2,h3,h4]
     refine hL _ ?_;clear hL L
     refine oEn fun L hL=>?_
     simp [C.impl_IsDiagonal,agD,h1,h2,h3,h4]
     refine hL _ ?_;clear hL L
     simp [C.impl_IsDiagonal,agD,h1,h2,h3,h4]
     refine cast (congrArg K ?_) hJ
     simp [IsDg,h1,h2,h4,agD,h1,h2,h3,h4]
   ·refine oSg fun L hL=>?_
    simp [C.impl_IsDiagonal,agD,h1,h2,h3]
    refine wcall1 (impl_polygonOk_c v) (by simp) (by simp) ?_
    simp [C.impl_IsDiagonal,agD,h1,h2,h3]
    refine hL _ ?_;clear hL L
    refine oSg fun L hL=>?_
    simp [C.impl_IsDiagonal,agD,h1,h2,h3]
    refine hL _ ?_;clear hL L
    refine oEn fun L hL=>?_
    simp [C.impl_IsDiagonal,agD,h1,h2,h3]
    refine hL _ ?_;clear hL L
    simp [C.impl_IsDiagonal,agD,h1,h2,h3]
    refine cast (congrArg K ?_) hJ
    simp [IsDg,h1,h2,show ¬ d.1+2<=d.2 by omega,agD,h1,h2,h3]
  ·refine oSg fun L hL=>?_
   simp [C.impl_IsDiagonal,agD,h1,h2]
   refine wcall1 (impl_polygonOk_c v) (by simp) (by simp) ?_
   simp [C.impl_IsDiagonal,agD,h1,h2]
   refine hL _ ?_;clear hL L
   refine oSg fun L hL=>?_
   simp [C.impl_IsDiagonal,agD,h1,h2]
   refine hL _ ?_;clear hL L
   refine oEn fun L hL=>?_
   simp [C.impl_IsDiagonal,agD,h1,h2]
   refine hL _ ?_;clear hL L
   simp [C.impl_IsDiagonal,agD,h1,h2]
   refine cast (congrArg K ?_) hJ
   simp [IsDg,h1,h2,agD,h1,h2]
 ·refine oSg fun L hL=>?_
  simp [C.impl_IsDiagonal,agD,h1]
  refine wcall1 (impl_polygonOk_c v) (by simp) (by simp) ?_
  simp [C.impl_IsDiagonal,agD,h1]
  refine hL _ ?_;clear hL L
  refine oSg fun L hL=>?_
  simp [C.impl_IsDiagonal,agD,h1]
  refine hL _ ?_;clear hL L
  refine oEn fun L hL=>?_
  simp [C.impl_IsDiagonal,agD,h1]
  refine hL _ ?_;clear hL L
  simp [C.impl_IsDiagonal,agD,h1]
  refine cast (congrArg K ?_) hJ
  simp [IsDg,h1,agD,h1]
theorem impl_DiagonalsCross_c (v x y z w:Int):ACalls Try.prog F.impl_DiagonalsCross [.int v,.ag [.int x,.int y],.ag [.int z,.int w]] [] true (fun outs res=>outs=[]/\res=[.one (D.bool (decide (IsDg v (x,y)/\IsDg v (z,w)/\CrI (x,y) (z,w))))]):=by
 have hd:=impl_IsDiagonal_c v (x,y)
 have he:=impl_IsDiagonal_c v (z,w)
 simp only [agD] at hd he
 refine ACalls.of_body (C:=C.impl_DiagonalsCross) (n:=Try.f59.ntmps) tabT folT Try.func59 rfl (by kernel_rfl) rfl (Nat.le_of_ble_eq_true rfl) (by decide) (by kernel_rfl) (by kernel_rfl) rfl (by simp) (by simp) ?_
 simp only [Try.f59]
 refine wseq ?_
 refine wreg fun K hK=>?_
 simp [C.impl_DiagonalsCross]
 refine hK _ ?_;clear hK K
 show AWp _ _ _ _ _
 refine wseq ?_
 refine wseq ?_
 refine wregI ([0,1,2] ++ ([3,4,5,6,7] ++ ([8,9,10,11,12,13,14,15,16,17,18,19,20,21,22,23,24,25,26,27,28,29,30,31,32,33,34,35,36,37]))) rfl fun K hK=>?_
 have hJ:K ⟨ofL [(4,.pt (4,0) [] 0),(5,.pt (5,0) [] 0),(44,.bool (!decide (IsDg v (x,y)/\IsDg v (z,w)/\¬ x=z/\¬ x=w/\¬ y=z/\¬ y=w)))],ofRO [((4,0),some (.bx [D.int x,D.int y])),((5,0),some (.bx [D.int z,D.int w]))]⟩:=by
  refine hK _ ?_;clear hK K
  show AWp _ _ _ _ _
  refine wcond _ rfl (fun hc1=>?_) (fun hc1=>?_)
  ·have hr:=nd_t hc1
   have hno:¬ (IsDg v (x,y)/\IsDg v (z,w)/\CrI (x,y) (z,w)):=fun h=>hr ⟨h.1,h.2.1,by have:=h.2.2;simp only [CrI] at this;omega⟩
   refine wseq ?_
   refine wreg fun K hK=>?_
   simp [C.impl_DiagonalsCross]
   refine hK _ ?_;clear hK K
   show AWp _ _ _ _ _
   refine wret ?_
   simp [C.impl_DiagonalsCross,hno]
  ·have hr:=nd_f hc1
   obtain ⟨g1,g2,g3,g4,g5,g6⟩:=hr
   have hX:decide (IsDg v (x,y)/\IsDg v (z,w)/\CrI (x,y) (z,w))=(decide (x<=z/\z<=y) != decide (x<=w/\w<=y)):=by
    have q1:=g1.2
    have q2:=g2.2
    dsimp only at q1 q2
    have:(CrI (x,y) (z,w))↔¬ ((x<=z/\z<=y)↔(x<=w/\w<=y)):=by simp only [CrI];omega
    by_cases a:(x<=z/\z<=y) <;> by_cases b:(x<=w/\w<=y) <;> simp only [g1,g2,this,a,b] <;> decide
   rw [hX]
   refine wskip ?_
   show AWp _ _ _ _ _
   refine wseq ?_
   refine wdrawI [(true,0),(true,1),(true,2),(true,3),(true,4),(true,5),(true,7),(true,8),(true,9),(true,10),(true,11),(true,12),(false,6),(false,13),(true,14),(true,15)] ⟨by kernel_rfl,by kernel_rfl⟩ ([0,1,2,3,4,5,7,8,9,10,11,12,6] ++ ([13] ++ ([14,15]))) rfl fun K hK=>?_
   have hJ:K ⟨ofL [(6,.bool (decide (x<=z/\z<=y) != decide (x<=w/\w<=y)))],ofRO []⟩:=by
    refine hK _ ?_;clear hK K
    show AWp _ _ _ _ _
    refine wret ?_
    simp [C.impl_DiagonalsCross]
   clear hK
   simp [C.impl_DiagonalsCross]
   repeat' first
    | (refine wcall1 (impl_within_c z x y) ?_ (by simp) ?_;(focus (simp;done));simp [C.impl_DiagonalsCross])
    | (refine wcall1 (impl_within_c w x y) ?_ (by simp) ?_;(focus (simp;done));simp [C.impl_DiagonalsCross])
    | (refine cast (congrArg K ?_) hJ;simp [bne];done)
    | refine And.intro ?_ ?_
 clear hK
 by_cases h1:IsDg v (x,y)
 ·by_cases h2:IsDg v (z,w)
  ·by_cases h3:x=z
   ·subst h3
    have h3:=trivial
    refine oSg fun L hL=>?_
    simp [C.impl_DiagonalsCross,h1,h2,h3]
    refine wcall1 (hd) (by simp) (by simp) ?_
    simp [C.impl_DiagonalsCross,h1,h2,h3]
    refine hL _ ?_;clear hL L
    refine oSg fun L hL=>?_
    simp [C.impl_DiagonalsCross,h1,h2,h3]
    refine wcall1 (he) (by simp) (by simp) ?_
    simp [C.impl_DiagonalsCross,h1,h2,h3]
    refine hL _ ?_;clear hL L
    refine oEn fun L hL=>?_
    simp [C.impl_DiagonalsCross,h1,h2,h3]
    refine hL _ ?_;clear hL L
    simp [C.impl_DiagonalsCross,h1,h2,h3]
    refine cast (congrArg K ?_) hJ
    simp [ibeq,h1,h2,h1,h2,h3]
   ·by_cases h4:x=w
    ·subst h4
     have h4:=trivial
     refine oSg fun L hL=>?_
     simp [C.impl_DiagonalsCross,h1,h2,h3,h4]
     refine wcall1 (hd) (by simp) (by simp) ?_
     simp [C.impl_DiagonalsCross,h1,h2,h3,h4]
     refine hL _ ?_;clear hL L
     refine oSg fun L hL=>?_
     simp [C.impl_DiagonalsCross,h1,h2,h3,h4]
     refine wcall1 (he) (by simp) (by simp) ?_
     simp [C.impl_DiagonalsCross,h1,h2,h3,h4]
     refine hL _ ?_;clear hL L
     refine oEn fun L hL=>?_
     simp [C.impl_DiagonalsCross,h1,h2,h3,h4]
     refine hL _ ?_;clear hL L
     simp [C.impl_DiagonalsCross,h1,h2,h3,h4]
     refine cast (congrArg K ?_) hJ
     simp [ibeq,h1,h2,h3,h1,h2,h3,h4]
    ·by_cases h5:y=z
     ·subst h5
      have h5:=trivial
      refine oSg fun L hL=>?_
      simp [C.impl_DiagonalsCross,h1,h2,h3,h4,h5]
      refine wcall1 (hd) (by simp) (by simp) ?_
      simp [C.impl_DiagonalsCross,h1,h2,h3,h4,h5]
      refine hL _ ?_;clear hL L
      refine oSg fun L hL=>?_
      simp [C.impl_DiagonalsCross,h1,h2,h3,h4,h5]
      refine wcall1 (he) (by simp) (by simp) ?_
      simp [C.impl_DiagonalsCross,h1,h2,h3,h4,h5]
      refine hL _ ?_;clear hL L
      refine oEn fun L hL=>?_
      simp [C.impl_DiagonalsCross,h1,h2,h3,h4,h5]
      refine hL _ ?_;clear hL L
      simp [C.impl_DiagonalsCross,h1,h2,h3,h4,h5]
      refine cast (congrArg K ?_) hJ
      simp [ibeq,h1,h2,h3,h4,h1,h2,h3,h4,h5]
     ·refine oSg fun L hL=>?_
      simp [C.impl_DiagonalsCross,h1,h2,h3,h4,h5]
      refine wcall1 (hd) (by simp) (by simp) ?_
      simp [C.impl_DiagonalsCross,h1,h2,h3,h4,h5]
      refine hL _ ?_;clear hL L
      refine oSg fun L hL=>?_
      simp [C.impl_DiagonalsCross,h1,h2,h3,h4,h5]
      refine wcall1 (he) (by simp) (by simp) ?_
      simp [C.impl_DiagonalsCross,h1,h2,h3,h4,h5]
      refine hL _ ?_;clear hL L
      refine oEn fun L hL=>?_
      simp [C.impl_DiagonalsCross,h1,h2,h3,h4,h5]
      refine hL _ ?_;clear hL L
      simp [C.impl_DiagonalsCross,h1,h2,h3,h4,h5]
      refine cast (congrArg K ?_) hJ
      simp [ibeq,h1,h2,h3,h4,h5,h1,h2,h3,h4,h5]
  ·refine oSg fun L hL=>?_
   simp [C.impl_DiagonalsCross,h1,h2]
   refine wcall1 (hd) (by simp) (by simp) ?_
   simp [C.impl_DiagonalsCross,h1,h2]
   refine hL _ ?_;clear hL L
   refine oSg fun L hL=>?_
   simp [C.impl_DiagonalsCross,h1,h2]
   refine wcall1 (he) (by simp) (by simp) ?_
   simp [C.impl_DiagonalsCross,h1,h2]
   refine hL _ ?_;clear hL L
   refine oEn fun L hL=>?_
   simp [C.impl_DiagonalsCross,h1,h2]
   refine hL _ ?_;clear hL L
   simp [C.impl_DiagonalsCross,h1,h2]
   refine cast (congrArg K ?_) hJ
   simp [ibeq,h1,h2,h1,h2]
 ·refine oSg fun L hL=>?_
  simp [C.impl_DiagonalsCross,h1]
  refine wcall1 (hd) (by simp) (by simp) ?_
  simp [C.impl_DiagonalsCross,h1]
  refine hL _ ?_;clear hL L
  refine oSg fun L hL=>?_
  simp [C.impl_DiagonalsCross,h1]
  refine hL _ ?_;clear hL L
  refine oEn fun L hL=>?_
  simp [C.impl_DiagonalsCross,h1]
  refine hL _ ?_;clear hL L
  simp [C.impl_DiagonalsCross,h1]
  refine cast (congrArg K ?_) hJ
  simp [ibeq,h1,h1]
theorem cross_c (v:Int) (d e:DI):ACalls Try.prog F.impl_DiagonalsCross [.int v,agD d,agD e] [] true (fun outs res=>outs=[]/\res=[.one (D.bool (decide (IsDg v d/\IsDg v e/\CrI d e)))]):=impl_DiagonalsCross_c v d.1 d.2 e.1 e.2
theorem slices_IndexFunc_impl_Diagonal_impl_Diagonal_c (xs:List DI) (g:Nat) (c1 c2:List D) (p:DI->Bool) (hx:xs.length < 4611686018427387904) (hM:aget [] MM g=[]) (hp:∀ x∈xs,ACalls Try.prog g [agD x,.d (.vp c1),.d (.vp c2)] [] true (fun outs res=>outs=[]/\res=[.one (D.bool (p x))])):ACalls Try.prog F.slices_IndexFunc_impl_Diagonal_impl_Diagonal [.d (.sh 2 xs.length (rows gM xs)),.cl g [.d (.vp c1),.d (.vp c2)]] [] true (fun outs res=>outs=[]/\∃ r:Int,res=[.one (D.int r)]/\decide (0<=r)=xs.any p):=by
 refine ACalls.of_body (C:=C.slices_IndexFunc_impl_Diagonal_impl_Diagonal) (n:=Try.f97.ntmps) tabT folT Try.func97 rfl (by kernel_rfl) rfl (Nat.le_of_ble_eq_true rfl) (by decide) (by kernel_rfl) (by kernel_rfl) rfl (by simp) (by simp) ?_
 simp only [Try.f97]
 refine wseq ?_
 refine wreg fun K hK=>?_
 simp [C.slices_IndexFunc_impl_Diagonal_impl_Diagonal]
 refine hK _ ?_;clear hK K
 show AWp _ _ _ _ _
 refine wseq ?_
 refine wseq ?_
 refine wreg fun K hK=>?_
 simp [C.slices_IndexFunc_impl_Diagonal_impl_Diagonal]
 refine hK _ ?_;clear hK K
 show AWp _ _ _ _ _
 refine wblock ?_
 refine wloop (fun k:Nat=>⟨ofL [(0,.d (.sh 2 xs.length (rows gM xs))),(1,.cl g [.d (.vp c1),.d (.vp c2)]),(7,.int xs.length),(8,FV.int k)],ofRO []⟩) (fun k=>k<=xs.length/\(xs.take k).any p=false) (fun k=>xs.length - k) 0 (by simp [C.slices_IndexFunc_impl_Diagonal_impl_Diagonal]) (by simp) ?_
 intro x1 hx1 R1 hR1
 obtain ⟨hk,ht⟩:=hx1
 refine wseq ?_
 refine wreg fun K hK=>?_
 simp [C.slices_IndexFunc_impl_Diagonal_impl_Diagonal]
 refine hK _ ?_;clear hK K
 show AWp _ _ _ _ _
 refine wseq ?_
 refine wcond _ rfl (fun hc1=>?_) (fun hc1=>?_)
 ·have h1:x1 < xs.length:=by have:=d_t hc1;omega
  refine wskip ?_
  show AWp _ _ _ _ _
  refine wseq ?_
  refine wblock ?_
  refine wseq ?_
  refine wreg fun K hK=>?_
  simp [C.slices_IndexFunc_impl_Diagonal_impl_Diagonal]
  refine hK _ ?_;clear hK K
  show AWp _ _ _ _ _
  refine wseq ?_
  refine wregI ([0,1,2,3,4,5] ++ ([])) rfl fun K hK=>?_
  refine oSg fun L hL=>?_
  simp [C.slices_IndexFunc_impl_Diagonal_impl_Diagonal,gM_0 h1,gM_1 h1,h1,hM,agD]
  refine wcall1 (hp xs[x1] (List.getElem_mem h1)) (by simp [gM_0 h1,gM_1 h1,h1,hM,agD]) (by simp) ?_
  simp [C.slices_IndexFunc_impl_Diagonal_impl_Diagonal,gM_0 h1,gM_1 h1,h1,hM,agD]
  refine hL _ ?_;clear hL L
  refine oEn fun L hL=>?_
  simp only [AOpsI]
  refine hL _ ?_;clear hL L
  simp [C.slices_IndexFunc_impl_Diagonal_impl_Diagonal,gM_0 h1,gM_1 h1,h1,hM,agD]
  refine hK _ ?_;clear hK K
  show AWp _ _ _ _ _
  refine wcond _ rfl (fun hc2=>?_) (fun hc2=>?_)
  ·have hpx:p xs[x1]=true:=by simpa using hc2
   refine wseq ?_
   refine wreg fun K hK=>?_
   simp [C.slices_IndexFunc_impl_Diagonal_impl_Diagonal]
   refine hK _ ?_;clear hK K
   show AWp _ _ _ _ _
   refine wret ?_
   simp [C.slices_IndexFunc_impl_Diagonal_impl_Diagonal]
   exact ⟨xs[x1].1,xs[x1].2,List.getElem_mem h1,hpx⟩
  ·have hpx:p xs[x1]=false:=by simpa using hc2
   refine wskip ?_
   show AWp _ _ _ _ _
   refine wreg fun K hK=>?_
   simp [C.slices_IndexFunc_impl_Diagonal_impl_Diagonal,wrap_succ (show x1 < 4611686018427387904 by omega)]
   refine hK _ ?_;clear hK K
   simp [C.slices_IndexFunc_impl_Diagonal_impl_Diagonal]
   refine hR1 (x1+1) ⟨h1,?_⟩ (by omega)
   rw [List.take_succ_eq_append_getElem h1,List.any_append,ht]
   simp [hpx]
 ·have h1:x1=xs.length:=by have:=d_f hc1;omega
  have ht2:xs.any p=false:=by rw [h1,List.take_length] at ht;exact ht
  refine wexit ?_
  show AWp _ _ _ _ _
  refine wseq ?_
  refine wreg fun K hK=>?_
  simp [C.slices_IndexFunc_impl_Diagonal_impl_Diagonal]
  refine hK _ ?_;clear hK K
  show AWp _ _ _ _ _
  refine wret ?_
  simp [C.slices_IndexFunc_impl_Diagonal_impl_Diagonal]
  intro a b hx
  have:=List.any_eq_false.1 ht2 (a,b) hx
  simpa using this
theorem slices_ContainsFunc_impl_Diagonal_impl_Diagonal_c (xs:List DI) (g:Nat) (c1 c2:List D) (p:DI->Bool) (hx:xs.length < 4611686018427387904) (hM:aget [] MM g=[]) (hp:∀ x∈xs,ACalls Try.prog g [agD x,.d (.vp c1),.d (.vp c2)] [] true (fun outs res=>outs=[]/\res=[.one (D.bool (p x))])):ACalls Try.prog F.slices_ContainsFunc_impl_Diagonal_impl_Diagonal [.d (.sh 2 xs.length (rows gM xs)),.cl g [.d (.vp c1),.d (.vp c2)]] [] true (fun outs res=>outs=[]/\res=[.one (D.bool (xs.any p))]):=by
 refine ACalls.of_body (C:=C.slices_ContainsFunc_impl_Diagonal_impl_Diagonal) (n:=Try.f81.ntmps) tabT folT Try.func81 rfl (by kernel_rfl) rfl (Nat.le_of_ble_eq_true rfl) (by decide) (by kernel_rfl) (by kernel_rfl) rfl (by simp) (by simp) ?_
 simp only [Try.f81]
 refine wseq ?_
 refine wreg fun K hK=>?_
 simp [C.slices_ContainsFunc_impl_Diagonal_impl_Diagonal]
 refine hK _ ?_;clear hK K
 show AWp _ _ _ _ _
 refine wseq ?_
 refine wregI ([0,1,2] ++ ([3,4])) rfl fun K hK=>?_
 refine oSg fun L hL=>?_
 simp [C.slices_ContainsFunc_impl_Diagonal_impl_Diagonal]
 refine wcall (slices_IndexFunc_impl_Diagonal_impl_Diagonal_c xs g c1 c2 p hx hM hp) (by simp) (by simp) (by simp) ?_
 rintro outs res ⟨rfl,r,rfl,hr⟩
 simp [C.slices_ContainsFunc_impl_Diagonal_impl_Diagonal]
 refine hL _ ?_;clear hL L
 refine oEn fun L hL=>?_
 simp [C.slices_ContainsFunc_impl_Diagonal_impl_Diagonal]
 refine hL _ ?_;clear hL L
 simp [C.slices_ContainsFunc_impl_Diagonal_impl_Diagonal]
 refine hK _ ?_;clear hK K
 show AWp _ _ _ _ _
 refine wret ?_
 simp [C.slices_ContainsFunc_impl_Diagonal_impl_Diagonal]
 exact hr
theorem impl_apart_1_c (e d:DI) (v:Int):ACalls Try.prog F.impl_apart_1 [agD e,.d (.vp [D.int d.1,D.int d.2]),.d (.vp [D.int v])] [] true (fun outs res=>outs=[]/\res=[.one (D.bool (decide ((e.1=d.1/\e.2=d.2)\/(IsDg v d/\IsDg v e/\CrI d e))))]):=by
 refine ACalls.of_body (C:=C.impl_apart_1) (n:=Try.f82.ntmps) tabT folT Try.func82 rfl (by kernel_rfl) rfl (Nat.le_of_ble_eq_true rfl) (by decide) (by kernel_rfl) (by kernel_rfl) rfl (by simp) (by simp) ?_
 simp only [Try.f82]
 refine wseq ?_
 refine wreg fun K hK=>?_
 simp [C.impl_apart_1,agD]
 refine hK _ ?_;clear hK K
 show AWp _ _ _ _ _
 refine wseq ?_
 refine wregI ([0,1,2,3,4,5,6,7] ++ ([8,9])) rfl fun K hK=>?_
 have hJ:K ⟨ofL [(4,.bool (decide ((e.1=d.1/\e.2=d.2)\/(IsDg v d/\IsDg v e/\CrI d e))))],ofRO []⟩:=by
  refine hK _ ?_;clear hK K
  show AWp _ _ _ _ _
  refine wret ?_
  simp [C.impl_apart_1,agD]
 clear hK
 by_cases h1:e.1=d.1/\e.2=d.2
 ·refine oSg fun L hL=>?_
  simp [C.impl_apart_1,agD,agD,h1]
  refine hL _ ?_;clear hL L
  refine oEn fun L hL=>?_
  simp [C.impl_apart_1,agD,agD,h1]
  refine hL _ ?_;clear hL L
  simp [C.impl_apart_1,agD,agD,h1]
  refine cast (congrArg K ?_) hJ
  simp [ibeq,agD,h1]
 ·have hb:(e.1 == d.1 && e.2 == d.2)=false:=by
   simp only [Bool.and_eq_false_iff,beq_eq_false_iff_ne]
   omega
  refine oSg fun L hL=>?_
  simp [C.impl_apart_1,agD,agD,hb,agD,h1]
  refine wcall1 (cross_c v d e) (by simp [agD,agD,hb,agD]) (by simp) ?_
  simp [C.impl_apart_1,agD,agD,hb,agD,h1]
  refine hL _ ?_;clear hL L
  refine oEn fun L hL=>?_
  simp [C.impl_apart_1,agD,agD,hb,agD,h1]
  refine hL _ ?_;clear hL L
  simp [C.impl_apart_1,agD,agD,hb,agD,h1]
  refine cast (congrArg K ?_) hJ
  simp [ibeq,agD,h1]
theorem impl_apart_c (v:Int) (l:List DI) (d:DI) (hx:l.length < 4611686018427387904):ACalls Try.prog F.impl_apart [.int v,.d (.sh 2 l.length (rows gM l)),agD d] [] true (fun outs res=>outs=[]/\res=[.one (D.bool (!l.any fun e=>decide ((e.1=d.1/\e.2=d.2)\/(IsDg v d/\IsDg v e/\CrI d e))))]):=by
 refine ACalls.of_body (C:=C.impl_apart) (n:=Try.f54.ntmps) tabT folT Try.func54 rfl (by kernel_rfl) rfl (Nat.le_of_ble_eq_true rfl) (by decide) (by kernel_rfl) (by kernel_rfl) rfl (by simp) (by simp) ?_
 simp only [Try.f54]
 refine wseq ?_
 refine wreg fun K hK=>?_
 simp [C.impl_apart,agD]
 refine hK _ ?_;clear hK K
 show AWp _ _ _ _ _
 refine wseq ?_
 refine wregI ([0,1,2] ++ ([3,4])) rfl fun K hK=>?_
 refine oSg fun L hL=>?_
 simp [C.impl_apart,agD,agD]
 refine wcall1 (slices_ContainsFunc_impl_Diagonal_impl_Diagonal_c l F.impl_apart_1 [D.int d.1,D.int d.2] [D.int v] _ hx rfl (fun e _=>impl_apart_1_c e d v)) (by simp [agD,agD]) (by simp) ?_
 simp [C.impl_apart,agD,agD]
 refine hL _ ?_;clear hL L
 refine oEn fun L hL=>?_
 simp [C.impl_apart,agD,agD]
 refine hL _ ?_;clear hL L
 simp [C.impl_apart,agD,agD]
 refine hK _ ?_;clear hK K
 show AWp _ _ _ _ _
 refine wret ?_
 simp [C.impl_apart,agD]
theorem slices_Index_impl_Diagonal_impl_Diagonal_c (xs:List DI) (d:DI) (hx:xs.length < 4611686018427387904):ACalls Try.prog F.slices_Index_impl_Diagonal_impl_Diagonal [.d (.sh 2 xs.length (rows gM xs)),agD d] [] true (fun outs res=>outs=[]/\∃ r:Int,res=[.one (D.int r)]/\((r=-1/\d ∉ xs)\/∃ k:Nat,r=k/\xs[k]? = some d)):=by
 refine ACalls.of_body (C:=C.slices_Index_impl_Diagonal_impl_Diagonal) (n:=Try.f37.ntmps) tabT folT Try.func37 rfl (by kernel_rfl) rfl (Nat.le_of_ble_eq_true rfl) (by decide) (by kernel_rfl) (by kernel_rfl) rfl (by simp) (by simp) ?_
 simp only [Try.f37]
 refine wseq ?_
 refine wreg fun K hK=>?_
 simp [C.slices_Index_impl_Diagonal_impl_Diagonal,agD]
 refine hK _ ?_;clear hK K
 show AWp _ _ _ _ _
 refine wseq ?_
 refine wseq ?_
 refine wreg fun K hK=>?_
 simp [C.slices_Index_impl_Diagonal_impl_Diagonal,agD]
 refine hK _ ?_;clear hK K
 show AWp _ _ _ _ _
 refine wblock ?_
 refine wloop (fun k:Nat=>⟨ofL [(0,.d (.sh 2 xs.length (rows gM xs))),(3,.pt (3,0) [] 0),(7,.int xs.length),(8,FV.int k)],ofRO [((3,0),some (.bx [D.int d.1,D.int d.2]))]⟩) (fun k=>k<=xs.length/\d ∉ xs.take k) (fun k=>xs.length - k) 0 (by simp [C.slices_Index_impl_Diagonal_impl_Diagonal,agD]) (by simp) ?_
 intro x1 hx1 R1 hR1
 obtain ⟨hk,ht⟩:=hx1
 refine wseq ?_
 refine wreg fun K hK=>?_
 simp [C.slices_Index_impl_Diagonal_impl_Diagonal,agD]
 refine hK _ ?_;clear hK K
 show AWp _ _ _ _ _
 refine wseq ?_
 refine wcond _ rfl (fun hc1=>?_) (fun hc1=>?_)
 ·have h1:x1 < xs.length:=by have:=d_t hc1;omega
  refine wskip ?_
  show AWp _ _ _ _ _
  refine wseq ?_
  refine wblock ?_
  refine wseq ?_
  refine wreg fun K hK=>?_
  simp [C.slices_Index_impl_Diagonal_impl_Diagonal,agD]
  refine hK _ ?_;clear hK K
  show AWp _ _ _ _ _
  refine wseq ?_
  refine wdraw (.take 0 (.take 1 (.take 2 (.take 3 (.take 4 (.take 5 (.done))))))) ⟨by kernel_rfl,by kernel_rfl⟩ fun K hK=>?_
  simp [C.slices_Index_impl_Diagonal_impl_Diagonal,agD,gM_0 h1,gM_1 h1,h1,agD]
  refine hK _ ?_;clear hK K
  show AWp _ _ _ _ _
  refine wcond _ rfl (fun hc2=>?_) (fun hc2=>?_)
  ·have he:d=xs[x1]:=by
    have:=hc2
    simp at this
    exact Prod.ext this.1 this.2
   refine wseq ?_
   refine wreg fun K hK=>?_
   simp [C.slices_Index_impl_Diagonal_impl_Diagonal,agD]
   refine hK _ ?_;clear hK K
   show AWp _ _ _ _ _
   refine wret ?_
   simp [C.slices_Index_impl_Diagonal_impl_Diagonal,agD]
   rw [he]
   exact ⟨x1,rfl,List.getElem?_eq_getElem h1⟩
  ·have he:¬ d=xs[x1]:=fun e=>by
    rw [e] at hc2
    simp at hc2
   refine wskip ?_
   show AWp _ _ _ _ _
   refine wreg fun K hK=>?_
   simp [C.slices_Index_impl_Diagonal_impl_Diagonal,agD,wrap_succ (show x1 < 4611686018427387904 by omega)]
   refine hK _ ?_;clear hK K
   simp [C.slices_Index_impl_Diagonal_impl_Diagonal,agD]
   refine cast (congrArg R1 ?_) (hR1 (x1+1) ⟨h1,?_⟩ (by omega))
   ·simp [agD]
   ·rw [List.take_succ_eq_append_getElem h1,List.mem_append,not_or]
    exact ⟨ht,by simpa using he⟩
 ·have h1:x1=xs.length:=by have:=d_f hc1;omega
  refine wexit ?_
  show AWp _ _ _ _ _
  refine wseq ?_
  refine wreg fun K hK=>?_
  simp [C.slices_Index_impl_Diagonal_impl_Diagonal,agD]
  refine hK _ ?_;clear hK K
  show AWp _ _ _ _ _
  refine wret ?_
  simp [C.slices_Index_impl_Diagonal_impl_Diagonal,agD]
  rw [h1,List.take_length] at ht
  exact ht
theorem slices_Contains_impl_Diagonal_impl_Diagonal_c (xs:List DI) (d:DI) (hx:xs.length < 4611686018427387904):ACalls Try.prog F.slices_Contains_impl_Diagonal_impl_Diagonal [.d (.sh 2 xs.length (rows gM xs)),agD d] [] true (fun outs res=>outs=[]/\res=[.one (D.bool (decide (d∈xs)))]):=by
 have hI:=slices_Index_impl_Diagonal_impl_Diagonal_c xs d hx
 simp only [agD] at hI
 refine ACalls.of_body (C:=C.slices_Contains_impl_Diagonal_impl_Diagonal) (n:=Try.f57.ntmps) tabT folT Try.func57 rfl (by kernel_rfl) rfl (Nat.le_of_ble_eq_true rfl) (by decide) (by kernel_rfl) (by kernel_rfl) rfl (by simp) (by simp) ?_
 simp only [Try.f57]
 refine wseq ?_
 refine wreg fun K hK=>?_
 simp [C.slices_Contains_impl_Diagonal_impl_Diagonal,agD]
 refine hK _ ?_;clear hK K
 show AWp _ _ _ _ _
 refine wseq ?_
 refine wregI ([0,1,2] ++ ([3,4])) rfl fun K hK=>?_
 refine oSg fun L hL=>?_
 simp [C.slices_Contains_impl_Diagonal_impl_Diagonal,agD]
 refine wcall (hI) (by simp) (by simp) (by simp) ?_
 rintro outs res ⟨rfl,r,rfl,hr⟩
 simp [C.slices_Contains_impl_Diagonal_impl_Diagonal,agD]
 refine hL _ ?_;clear hL L
 refine oEn fun L hL=>?_
 simp [C.slices_Contains_impl_Diagonal_impl_Diagonal,agD]
 refine hL _ ?_;clear hL L
 simp [C.slices_Contains_impl_Diagonal_impl_Diagonal,agD]
 refine hK _ ?_;clear hK K
 show AWp _ _ _ _ _
 refine wret ?_
 simp [C.slices_Contains_impl_Diagonal_impl_Diagonal,agD]
 rcases hr with ⟨h1,h2⟩ | ⟨k,h1,h2⟩
 ·simp [h1,h2]
 ·have:=List.mem_of_getElem? h2
  simp [h1,this]
end Go.Proofs.Ytncfmemhjahpeaa.Ab
namespace Go.Proofs.Ytncfmemhjahpeaa.Ab
open Go
set_option maxRecDepth 10000
set_option maxHeartbeats 2000000
def TriI (v:Int) (l:List DI):Prop:=(4<=v/\v<=8)/\(l.length:Int)=v - 3/\(∀ d∈l,IsDg v d)/\l.Pairwise fun e d=>¬ ((e.1=d.1/\e.2=d.2)\/CrI d e)
noncomputable instance (v:Int) (l:List DI):Decidable (TriI v l):=Classical.propDecidable _
def GdT (v:Int) (l:List DI):Prop:=(∀ d∈l,IsDg v d)/\l.Pairwise fun e d=>¬ ((e.1=d.1/\e.2=d.2)\/CrI d e)
theorem gdT_snoc {v:Int} {l:List DI} {d:DI}:GdT v (l ++ [d])↔GdT v l/\IsDg v d/\∀ e∈l,¬ ((e.1=d.1/\e.2=d.2)\/CrI d e):=by
 unfold GdT
 rw [List.pairwise_append]
 simp only [List.mem_append,List.mem_singleton,List.pairwise_singleton,true_and]
 refine ⟨fun ⟨h1,h2,h3⟩=>⟨⟨fun d hd=>h1 d (.inl hd),h2⟩,h1 d (.inr rfl),fun e he=>h3 e he d rfl⟩,fun ⟨⟨h1,h2⟩,h3,h4⟩=>⟨fun x hx=>?_,h2,fun e he x hx=>by subst hx;exact h4 e he⟩⟩
 rcases hx with hx | rfl
 ·exact h1 x hx
 ·exact h3
theorem gdT_take {v:Int} {l:List DI} {k:Nat} (h:GdT v l):GdT v (l.take k):=⟨fun d hd=>h.1 d (List.mem_of_mem_take hd),h.2.sublist (List.take_sublist _ _)⟩
theorem impl_IsTriangulation_c (v:Int) (l:List DI) (hx:l.length < 4611686018427387904):ACalls Try.prog F.impl_IsTriangulation [.int v,.d (.sh 2 l.length (rows gM l))] [] true (fun outs res=>outs=[]/\res=[.one (D.bool (decide (TriI v l)))]):=by
 refine ACalls.of_body (C:=C.impl_IsTriangulation) (n:=Try.f22.ntmps) tabT folT Try.func22 rfl (by kernel_rfl) rfl (Nat.le_of_ble_eq_true rfl) (by decide) (by kernel_rfl) (by kernel_rfl) rfl (by simp) (by simp) ?_
 simp only [Try.f22]
 refine wseq ?_
 refine wreg fun K hK=>?_
 simp [C.impl_IsTriangulation]
 refine hK _ ?_;clear hK K
 show AWp _ _ _ _ _
 refine wseq ?_
 refine wseq ?_
 refine wregI ([0,1] ++ ([2,3,4,5,6,7,8,9])) rfl fun K hK=>?_
 have hJ:K ⟨ofL [(0,.int v),(1,.d (.sh 2 l.length (rows gM l))),(16,.bool (!decide ((4<=v/\v<=8)/\(l.length:Int)=v - 3)))],ofRO []⟩:=by
  refine hK _ ?_;clear hK K
  show AWp _ _ _ _ _
  refine wcond _ rfl (fun hc1=>?_) (fun hc1=>?_)
  ·have hr:=nd_t hc1
   have hno:¬ TriI v l:=fun h=>hr ⟨h.1,h.2.1⟩
   refine wseq ?_
   refine wreg fun K hK=>?_
   simp [C.impl_IsTriangulation]
   refine hK _ ?_;clear hK K
   show AWp _ _ _ _ _
   refine wret ?_
   simp [C.impl_IsTriangulation,hno]
  ·have hr:=nd_f hc1
   refine wskip ?_
   show AWp _ _ _ _ _
   refine wseq ?_
   refine wseq ?_
   refine wreg fun K hK=>?_
   simp [C.impl_IsTriangulation]
   refine hK _ ?_;clear hK K
   show AWp _ _ _ _ _
   refine wblock ?_
   refine wloop (fun k:Nat=>⟨ofL [(0,.int v),(1,.d (.sh 2 l.length (rows gM l))),(17,.d (.sh 2 l.length (rows gM l))),(18,.int l.length),(19,FV.int k)],ofRO []⟩) (fun k=>k<=l.length/\GdT v (l.take k)) (fun k=>l.length - k) 0 (by simp [C.impl_IsTriangulation]) ⟨by simp,by simp [GdT]⟩ ?_
   intro x1 hx1 R1 hR1
   obtain ⟨hk,hg⟩:=hx1
   refine wseq ?_
   refine wreg fun K hK=>?_
   simp [C.impl_IsTriangulation]
   refine hK _ ?_;clear hK K
   show AWp _ _ _ _ _
   refine wseq ?_
   refine wcond _ rfl (fun hc2=>?_) (fun hc2=>?_)
   ·have h1:x1 < l.length:=by have:=d_t hc2;omega
    have hd:=impl_IsDiagonal_c v l[x1]
    have ha:=impl_apart_c v (l.take x1) l[x1] (by simp;omega)
    have hll:(l.take x1).length=x1:=by simp;omega
    have htk:(rows gM l).take (2*x1)=rows gM (l.take x1):=rows_take gM_two l x1
    rw [hll] at ha
    simp only [agD] at hd ha
    refine wskip ?_
    show AWp _ _ _ _ _
    refine wseq ?_
    refine wblock ?_
    refine wseq ?_
    refine wreg fun K hK=>?_
    simp [C.impl_IsTriangulation,gM_0 h1,gM_1 h1,h1]
    refine hK _ ?_;clear hK K
    show AWp _ _ _ _ _
    refine wseq ?_
    refine wdrawI [(true,0),(true,1),(false,2),(true,3),(true,4),(true,5),(true,6),(true,7),(true,8),(true,9),(false,10),(true,11),(true,12)] ⟨by kernel_rfl,by kernel_rfl⟩ ([0,1,2] ++ ([3,4,5,6,7,8,9,10] ++ ([11,12]))) rfl fun K hK=>?_
    have hJ:K ⟨ofL [(0,.int v),(1,.d (.sh 2 l.length (rows gM l))),(17,.d (.sh 2 l.length (rows gM l))),(18,.int l.length),(19,FV.int x1),(36,.bool (!(decide (IsDg v l[x1]) && !((l.take x1).any fun e=>decide ((e.1=l[x1].1/\e.2=l[x1].2)\/(IsDg v l[x1]/\IsDg v e/\CrI l[x1] e))))))],ofRO []⟩:=by
     refine hK _ ?_;clear hK K
     show AWp _ _ _ _ _
     refine wcond _ rfl (fun hc3=>?_) (fun hc3=>?_)
     ·have hno:¬ TriI v l:=fun h=>by
       have h2:=gdT_take (k:=x1+1) (l:=l) ⟨h.2.2.1,h.2.2.2⟩
       rw [List.take_succ_eq_append_getElem h1,gdT_snoc] at h2
       have h3:=h2.1.1
       simp only [Bool.not_eq_true',Bool.and_eq_false_iff,decide_eq_false_iff_not,Bool.not_eq_false',List.any_eq_true,decide_eq_true_eq] at hc3
       rcases hc3 with hc3 | ⟨e,he,hc3⟩
       ·exact hc3 h2.2.1
       ·exact h2.2.2 e he (hc3.imp id fun q=>q.2.2)
      refine wseq ?_
      refine wreg fun K hK=>?_
      simp [C.impl_IsTriangulation]
      refine hK _ ?_;clear hK K
      show AWp _ _ _ _ _
      refine wret ?_
      simp [C.impl_IsTriangulation,hno]
     ·have hnx:GdT v (l.take (x1+1)):=by
       rw [List.take_succ_eq_append_getElem h1,gdT_snoc]
       simp only [Bool.not_eq_false',Bool.and_eq_true,decide_eq_true_eq,Bool.not_eq_true',List.any_eq_false] at hc3
       exact ⟨hg,hc3.1,fun e he q=>hc3.2 e he (q.imp id fun q=>⟨hc3.1,hg.1 e he,q⟩)⟩
      refine wskip ?_
      show AWp _ _ _ _ _
      refine wreg fun K hK=>?_
      simp [C.impl_IsTriangulation,wrap_succ (show x1 < 4611686018427387904 by omega)]
      refine hK _ ?_;clear hK K
      simp [C.impl_IsTriangulation]
      exact hR1 (x1+1) ⟨h1,hnx⟩ (by omega)
    clear hK
    by_cases hdg:IsDg v l[x1]
    ·simp [C.impl_IsTriangulation,hdg]
     repeat' first
      | (refine wcall1 hd ?_ (by simp) ?_;(focus (simp;done));simp [C.impl_IsTriangulation,hdg,show (0:Int)<=x1 by omega,show (x1:Int)<=l.length by omega,htk])
      | (refine wcall1 ha ?_ (by simp) ?_;(focus (simp [htk];done));simp [C.impl_IsTriangulation,hdg])
      | (refine cast (congrArg K ?_) hJ;simp [hdg];done)
      | refine And.intro ?_ ?_
    ·simp [C.impl_IsTriangulation,hdg]
     repeat' first
      | (refine wcall1 hd ?_ (by simp) ?_;(focus (simp;done));simp [C.impl_IsTriangulation,hdg])
      | (refine cast (congrArg K ?_) hJ;simp [hdg];done)
      | refine And.intro ?_ ?_
   ·have h1:x1=l.length:=by have:=d_f hc2;omega
    have hyes:TriI v l:=by
     rw [h1,List.take_length] at hg
     exact ⟨hr.1,hr.2,hg.1,hg.2⟩
    refine wexit ?_
    show AWp _ _ _ _ _
    refine wseq ?_
    refine wreg fun K hK=>?_
    simp [C.impl_IsTriangulation]
    refine hK _ ?_;clear hK K
    show AWp _ _ _ _ _
    refine wret ?_
    simp [C.impl_IsTriangulation,hyes]
 clear hK
 by_cases h1:4<=v/\v<=8
 ·have hw:IntKind.i64.wrap (v - 3)=v - 3:=wrapOk (by omega) (by omega)
  refine oSg fun L hL=>?_
  simp [C.impl_IsTriangulation,hw,h1]
  refine wcall1 (impl_polygonOk_c v) (by simp) (by simp) ?_
  simp [C.impl_IsTriangulation,hw,h1]
  refine hL _ ?_;clear hL L
  refine oEn fun L hL=>?_
  simp [C.impl_IsTriangulation,hw,h1]
  refine hL _ ?_;clear hL L
  simp [C.impl_IsTriangulation,hw,h1]
  refine cast (congrArg K ?_) hJ
  simp [ibne,h1,h1]
 ·refine oSg fun L hL=>?_
  simp [C.impl_IsTriangulation,h1]
  refine wcall1 (impl_polygonOk_c v) (by simp) (by simp) ?_
  simp [C.impl_IsTriangulation,h1]
  refine hL _ ?_;clear hL L
  refine oEn fun L hL=>?_
  simp [C.impl_IsTriangulation,h1]
  refine hL _ ?_;clear hL L
  simp [C.impl_IsTriangulation,h1]
  refine cast (congrArg K ?_) hJ
  simp [ibne,h1,h1]
end Go.Proofs.Ytncfmemhjahpeaa.Ab
namespace Go.Proofs.Ytncfmemhjahpeaa.Ab
open Go
def toN (d:DI):Dg:=(d.1.toNat,d.2.toNat)
theorem allD_mem {v a b:Nat}:(a,b)∈allD v↔(a < v/\b < v)/\a+2<=b/\(0 < a\/b < v - 1):=by
 simp only [allD,List.mem_flatMap,List.mem_range,List.mem_map,List.mem_filter,Bool.and_eq_true,Bool.or_eq_true,Nat.blt_eq,Nat.ble_eq]
 constructor
 ·rintro ⟨x,hx,y,⟨hy,h1,h2⟩,h3⟩
  injection h3 with h4 h5
  subst h4 h5
  exact ⟨⟨hx,hy⟩,h1,h2⟩
 ·rintro ⟨⟨h1,h2⟩,h3,h4⟩
  exact ⟨a,h1,b,⟨h2,h3,h4⟩,rfl⟩
theorem crs_iff {d e:Dg}:crs d e=true↔(d.1 < e.1/\e.1 < d.2/\d.2 < e.2)\/(e.1 < d.1/\d.1 < e.2/\e.2 < d.2):=by
 simp only [crs,Bool.or_eq_true,Bool.and_eq_true,Nat.blt_eq]
theorem crI_toN {v:Int} {d e:DI} (hd:IsDg v d) (he:IsDg v e):CrI d e↔crs (toN d) (toN e)=true:=by
 rw [crs_iff]
 unfold CrI toN
 have h1:=hd.2
 have h2:=he.2
 dsimp only
 omega
theorem tri_of {v:Int} {l:List DI} (h:TriI v l):Tri v.toNat (l.map toN):=by
 have hv:=h.1
 refine ⟨by omega,by rw [List.length_map];have:=h.2.1;omega,fun d hd=>?_,?_⟩
 ·obtain ⟨x,hx,rfl⟩:=List.mem_map.1 hd
  have:=h.2.2.1 x hx
  refine allD_mem.2 ?_
  have h2:=this.2
  omega
 ·rw [List.pairwise_map]
  refine (List.Pairwise.and_mem.1 h.2.2.2).imp fun {a b} hh=>?_
  obtain ⟨ha,hb,hh⟩:=hh
  have g1:=h.2.2.1 a ha
  have g2:=h.2.2.1 b hb
  have q1:=g1.2
  have q2:=g2.2
  refine ⟨fun e=>hh (.inl ?_),?_⟩
  ·unfold toN at e
   injection e with e1 e2
   omega
  ·rw [Bool.eq_false_iff]
   intro e
   rw [crs_sym] at e
   exact hh (.inr ((crI_toN g2 g1).2 e))
def expD (v:Nat) (l:List Dg) (d:Dg):List Int:=if sd v d then List.replicate (v - 3) 0 else match l.findIdx? (dgq d) with
 | some k=>unitL (v - 3) k
 | none=>List.replicate (v - 3) 0
def lnT (v:Nat) (l:List Dg) (T:Nat) (d:Dg):Rat:=vT T (v - 3) [(expD v l d,1)]
def LenT (v:Nat) (l:List Dg) (T a c:Nat):Rat:=lenV (vecV v l (lnT v l T)) a c
structure LenP (v:Nat) (l:List Dg) (a c:Nat) (f:Lau):Prop where
 lb:LB (v - 3) (2 ^ cntD l a c) (2*cntD l a c+1) f
 val:∀ T,2<=T->vT T (v - 3) (plist f)=LenT v l T a c
 pos:PosL (plist f)
theorem cntD_le {v:Nat} {l:List Dg} (h:Tri v l) (a c:Nat):cntD l a c<=5:=by
 have:=List.countP_le_length (p:=crs (srt a c)) (l:=l)
 have h1:=h.len
 have h2:=h.vb
 unfold cntD
 omega
theorem LenP.uniq {v:Nat} {l:List Dg} (h:Tri v l) {a c:Nat} {f g:Lau} (hf:LenP v l a c f) (hg:LenP v l a c g):f=g:=by
 have:=cntD_le h a c
 exact lb_sep hf.lb hg.lb (by omega) (by omega) fun T hT=>by rw [hf.val T hT,hg.val T hT]
theorem len_known {v:Nat} {l:List Dg} (h:Tri v l) {T:Nat} (hT:2<=T) {a c:Nat} (hac:a≠c) (ha:a < v) (hc:c < v) (hk:kn v l a c=true):LenT v l T a c=lnT v l T (srt a c):=by
 unfold LenT lenV
 unfold kn at hk
 have hln:∀ d,lnT v l T d≠0:=fun d=>vT_one hT _
 rcases Nat.lt_or_gt_of_ne hac with g | g
 ·rw [srt_lt g] at hk ⊢
  exact vec_known h hln g hc hk
 ·rw [srt_gt g] at hk ⊢
  exact vec_known h hln g ha hk
theorem n_bd {v:Nat} {l:List Dg} (h:Tri v l):1<=v - 3/\v - 3<=8:=by have:=h.vb;omega
theorem len_side {v:Nat} {l:List Dg} (h:Tri v l) {a c:Nat} (hac:a≠c) (ha:a < v) (hc:c < v) (hs:sd v (srt a c)=true):LenP v l a c (oneF (v - 3)):=by
 refine ⟨(lb_one (n_bd h)).mono (Nat.pow_pos (by omega)) (by omega),fun T hT=>?_,by simp [PosL,plist,oneF,pr]⟩
 rw [len_known h hT hac ha hc (by unfold kn knD;rw [hs,Bool.true_or]),vT_oneF hT]
 unfold lnT expD
 rw [if_pos hs]
 exact (vT_oneF hT).symm
theorem diag_not_side {v:Nat} {l:List Dg} (h:Tri v l) {d:Dg} (hd:d∈l):sd v d=false:=by
 obtain ⟨a,b⟩:=d
 have h1:=allD_mem.1 (h.mem _ hd)
 have h2:=h.vb
 rw [Bool.eq_false_iff]
 intro hs
 simp only [sd,Bool.or_eq_true,Bool.and_eq_true] at hs
 rcases hs with hs | ⟨hs1,hs2⟩
 ·have:=Nat.eq_of_beq_eq_true hs
  omega
 ·have e1:=Nat.eq_of_beq_eq_true hs1
  have e2:=Nat.eq_of_beq_eq_true hs2
  omega
theorem find_at {l:List Dg} (hn:l.Nodup) {k:Nat} {d:Dg} (hk:l[k]? = some d):l.findIdx? (dgq d)=some k:=by
 obtain ⟨hkl,hkd⟩:=List.getElem?_eq_some_iff.1 hk
 rw [List.findIdx?_eq_some_iff_getElem]
 refine ⟨hkl,dgq_eq.2 hkd.symm,fun j hj=>?_⟩
 intro e
 rw [dgq_eq] at e
 have:=(List.nodup_iff_pairwise_ne.1 hn)
 rw [List.pairwise_iff_getElem] at this
 exact this j k (by omega) hkl hj (by rw [hkd,e])
theorem lnT_diag {v:Nat} {l:List Dg} (h:Tri v l) {T k:Nat} {d:Dg} (hk:l[k]? = some d):lnT v l T d=vT T (v - 3) (plist (unitF (v - 3) k)):=by
 unfold lnT expD
 rw [diag_not_side h (List.mem_of_getElem? hk),find_at h.nodup hk]
 rfl
theorem kn_diag {v:Nat} {l:List Dg} {a c:Nat} (hd:srt a c∈l):kn v l a c=true:=by
 unfold kn knD
 rw [Bool.or_eq_true]
 exact .inr (List.any_eq_true.2 ⟨_,hd,dgq_eq.2 rfl⟩)
theorem len_diag {v:Nat} {l:List Dg} (h:Tri v l) {a c k:Nat} (hac:a≠c) (ha:a < v) (hc:c < v) (hk:l[k]? = some (srt a c)):LenP v l a c (unitF (v - 3) k):=by
 refine ⟨(lb_unit (n_bd h)).mono (Nat.pow_pos (by omega)) (by omega),fun T hT=>?_,by simp [PosL,plist,unitF,pr]⟩
 rw [len_known h hT hac ha hc (kn_diag (List.mem_of_getElem? hk)),lnT_diag h hk]
theorem tri_mem {v:Nat} {l:List Dg} (h:Tri v l) {e:Dg} (he:e∈l):e.1 < e.2/\e.2 < v:=by
 obtain ⟨a,b⟩:=e
 have h1:=allD_mem.1 (h.mem _ he)
 dsimp only
 omega
theorem len_step {v:Nat} {l:List Dg} (h:Tri v l) {a c k:Nat} {e:Dg} (hac:a≠c) (ha:a < v) (hc:c < v) (hkn:kn v l a c=false) (hk:l[k]? = some e) (hg:good v l a c e=true) {f1 f2 f3 f4:Lau}
  (h1:LenP v l a e.1 f1) (h2:LenP v l c e.2 f2) (h3:LenP v l a e.2 f3) (h4:LenP v l c e.1 f4) :
  ∃ P R S Q,mulF f1 f2=(P,true)/\mulF f3 f4=(R,true)/\addF P 1 R=(S,true)/\divF S (unitF (v - 3) k)=(Q,true)/\LenP v l a c Q/\Right P/\Right R/\Right S:=by
 have he:=List.mem_of_getElem? hk
 obtain ⟨⟨c1,c3⟩,c4,c2⟩:=(tri_good h ha hc hac hkn).2 e he hg
 have b1:=h1.lb
 have b2:=h2.lb
 have b3:=h3.lb
 have b4:=h4.lb
 rw [c1] at b1
 rw [c3] at b3
 obtain ⟨q,hq⟩:∃ q,cntD l a c=q+1:=⟨cntD l a c - 1,by omega⟩
 have hq4:q<=4:=by have:=cntD_le h a c;omega
 have hp16:2 ^ q<=16:=Nat.pow_le_pow_right (n:=2) (by omega) hq4
 have b2':LB (v - 3) (2 ^ q) (2*q+1) f2:=b2.mono (Nat.pow_le_pow_right (by omega) (by omega)) (by omega)
 have b4':LB (v - 3) (2 ^ q) (2*q+1) f4:=b4.mono (Nat.pow_le_pow_right (by omega) (by omega)) (by omega)
 have hn:=n_bd h
 obtain ⟨P,p1,p2,p3,p4⟩:=lb_mul hn b1 b2' (by omega) (by omega)
 obtain ⟨R,r1,r2,r3,r4⟩:=lb_mul hn b3 b4' (by omega) (by omega)
 obtain ⟨S,s1,s2,s3,s4⟩:=lb_add hn p2 r2 (by omega) (by omega)
 obtain ⟨Q,q1,q2,q3,q4⟩:=lb_div (k:=k) hn s2 (by omega) (by omega)
 refine ⟨P,R,S,Q,p1,r1,s1,q1,⟨q2.mono ?_ (by omega),fun T hT=>?_,q4 (s4 (p4 h1.pos h2.pos) (r4 h3.pos h4.pos))⟩,p2.right,r2.right,s2.right⟩
 ·rw [hq,Nat.pow_succ]
  omega
 ·have hx:=vT_one (n:=v - 3) hT (unitL (v - 3) k)
  have hx2:plist (unitF (v - 3) k)=[(unitL (v - 3) k,1)]:=rfl
  have e1:=q3 T hT
  rw [s3,p3 T hT,r3 T hT,h1.val T hT,h2.val T hT,h3.val T hT,h4.val T hT] at e1
  have hcr:crs (srt a c) e=true:=by
   simp only [good,Bool.and_eq_true] at hg
   exact hg.1
  have e2:=lenV_cross (vecV v l (lnT v l T)) hcr
  have hm:=tri_mem h he
  have e3:=len_known h hT (a:=e.1) (c:=e.2) (by omega) (by omega) (by omega) (kn_diag (by rw [srt_lt hm.1];exact he))
  rw [srt_lt hm.1,lnT_diag h hk] at e3
  unfold LenT at e1 e3 ⊢
  rw [e3,<-e1,hx2] at e2
  generalize vT T (v - 3) [(unitL (v - 3) k,1)]=X at *
  generalize vT T (v - 3) (plist Q)=Y at *
  generalize lenV (vecV v l (lnT v l T)) a c=Z at *
  grind
theorem len_ex {v:Nat} {l:List Dg} (h:Tri v l):∀ (n a c:Nat),cntD l a c<=n->a≠c->a < v->c < v->∃ f,LenP v l a c f
 | n,a,c,hn,hac,ha,hc=>by
  cases hk:kn v l a c with
  | true=>
   unfold kn knD at hk
   rw [Bool.or_eq_true] at hk
   rcases hk with hk | hk
   ·exact ⟨_,len_side h hac ha hc hk⟩
   ·rw [List.any_eq_true] at hk
    obtain ⟨e,he,hq⟩:=hk
    rw [dgq_eq] at hq
    subst hq
    obtain ⟨k,hk⟩:=List.getElem?_of_mem he
    exact ⟨_,len_diag h hac ha hc hk⟩
  | false=>
   obtain ⟨⟨e,he,hg⟩,hall⟩:=tri_good h ha hc hac hk
   obtain ⟨⟨c1,c3⟩,c4,c2⟩:=hall e he hg
   have g1:crs (srt a c) e=true:=by
    simp only [good,Bool.and_eq_true] at hg
    exact hg.1
   have hm:=tri_mem h he
   have hne:a≠e.1/\a≠e.2/\c≠e.1/\c≠e.2:=by
    rw [crs_iff] at g1
    rcases Nat.lt_or_gt_of_ne hac with g | g <;> simp only [srt_lt,srt_gt,g] at g1 <;> omega
   match n with
   | 0=>omega
   | n+1=>
    obtain ⟨f1,h1⟩:=len_ex h n a e.1 (by omega) hne.1 ha (by omega)
    obtain ⟨f2,h2⟩:=len_ex h n c e.2 (by omega) hne.2.2.2 hc (by omega)
    obtain ⟨f3,h3⟩:=len_ex h n a e.2 (by omega) hne.2.1 ha (by omega)
    obtain ⟨f4,h4⟩:=len_ex h n c e.1 (by omega) hne.2.2.1 hc (by omega)
    obtain ⟨k,hk2⟩:=List.getElem?_of_mem he
    obtain ⟨P,R,S,Q,-,-,-,-,hQ,-⟩:=len_step h hac ha hc hk hk2 hg h1 h2 h3 h4
    exact ⟨Q,hQ⟩
end Go.Proofs.Ytncfmemhjahpeaa.Ab
namespace Go.Proofs.Ytncfmemhjahpeaa.Ab
open Go
set_option maxRecDepth 10000
set_option maxHeartbeats 2000000
attribute [local simp] cur
theorem laws_ints_c (a b:List Int) (hx:a.length < 4611686018427387904):ACalls Try.prog F.laws_ints [.d (shI a),.d (shI b)] [] true (fun outs res=>outs=[]/\res=[.one (D.bool (decide (a=b)))]):=by
 refine ACalls.of_body (C:=C.laws_ints) (n:=Try.f48.ntmps) tabT folT Try.func48 rfl (by kernel_rfl) rfl (Nat.le_of_ble_eq_true rfl) (by decide) (by kernel_rfl) (by kernel_rfl) rfl (by simp) (by simp) ?_
 simp only [Try.f48]
 refine wseq ?_
 refine wreg fun K hK=>?_
 simp [C.laws_ints]
 refine hK _ ?_;clear hK K
 show AWp _ _ _ _ _
 refine wseq ?_
 refine wseq ?_
 refine wreg fun K hK=>?_
 simp [C.laws_ints]
 refine hK _ ?_;clear hK K
 show AWp _ _ _ _ _
 refine wcond _ rfl (fun hc1=>?_) (fun hc1=>?_)
 ·refine wseq ?_
  refine wreg fun K hK=>?_
  simp [C.laws_ints]
  refine hK _ ?_;clear hK K
  show AWp _ _ _ _ _
  refine wret ?_
  have hc:¬ a.length=b.length:=by simp at hc1;omega
  simp [C.laws_ints]
  intro e;simp [e] at hc
 ·refine wskip ?_
  show AWp _ _ _ _ _
  refine wseq ?_
  refine wseq ?_
  refine wreg fun K hK=>?_
  simp [C.laws_ints]
  refine hK _ ?_;clear hK K
  show AWp _ _ _ _ _
  refine wblock ?_
  have e:a.length=b.length:=by simp at hc1;omega
  refine wloop (fun k:Nat=>⟨ofL [(0,.d (shI a)),(1,.d (shI b)),(5,FV.int k)],ofRO []⟩) (fun k=>k<=a.length/\a.take k=b.take k) (fun k=>a.length - k) 0 (by simp [C.laws_ints]) (by simp) ?_
  intro x1 hx1 R1 hR1
  obtain ⟨hk,ht⟩:=hx1
  refine wseq ?_
  refine wseq ?_
  refine wreg fun K hK=>?_
  simp [C.laws_ints]
  refine hK _ ?_;clear hK K
  show AWp _ _ _ _ _
  refine wcond _ rfl (fun hc2=>?_) (fun hc2=>?_)
  ·refine wskip ?_
   show AWp _ _ _ _ _
   refine wseq ?_
   refine wblock ?_
   refine wseq ?_
   have h1:x1 < a.length:=by simpa using hc2
   have h2:x1 < b.length:=by omega
   refine wdraw (.take 0 (.take 1 (.take 2 (.take 3 (.take 4 (.take 5 (.take 6 (.take 7 (.take 8 (.done)))))))))) ⟨by kernel_rfl,by kernel_rfl⟩ fun K hK=>?_
   simp [C.laws_ints,h1,h2,get_ints]
   refine hK _ ?_;clear hK K
   show AWp _ _ _ _ _
   refine wcond _ rfl (fun hc3=>?_) (fun hc3=>?_)
   ·refine wseq ?_
    refine wreg fun K hK=>?_
    simp [C.laws_ints]
    refine hK _ ?_;clear hK K
    show AWp _ _ _ _ _
    refine wret ?_
    have hc:¬ a[x1]=b[x1]:=by simpa using hc3
    simp [C.laws_ints]
    intro e2
    subst e2
    exact hc rfl
   ·refine wskip ?_
    show AWp _ _ _ _ _
    refine wreg fun K hK=>?_
    simp [C.laws_ints,wrap_succ (show x1 < 4611686018427387904 by omega)]
    refine hK _ ?_;clear hK K
    simp [C.laws_ints]
    have hc:a[x1]=b[x1]:=by simpa using hc3
    refine hR1 (x1+1) ⟨h1,?_⟩ (by omega)
    rw [List.take_succ_eq_append_getElem h1,List.take_succ_eq_append_getElem h2,ht,hc]
  ·refine wexit ?_
   show AWp _ _ _ _ _
   refine wseq ?_
   refine wreg fun K hK=>?_
   simp [C.laws_ints]
   refine hK _ ?_;clear hK K
   show AWp _ _ _ _ _
   refine wret ?_
   have hk2:x1=a.length:=by simp at hc2;omega
   simp [C.laws_ints]
   rw [hk2,List.take_length,e,List.take_length] at ht
   exact ht
theorem laws_laurents_c (f g:Lau) (hx:f.ts.length < 4611686018427387904) (hxe:∀ t∈f.ts,t.e.length < 4611686018427387904):ACalls Try.prog F.laws_laurents [aF f,aF g] [] true (fun outs res=>outs=[]/\res=[.one (D.bool (decide (f=g)))]):=by
 refine ACalls.of_body (C:=C.laws_laurents) (n:=Try.f17.ntmps) tabT folT Try.func17 rfl (by kernel_rfl) rfl (Nat.le_of_ble_eq_true rfl) (by decide) (by kernel_rfl) (by kernel_rfl) rfl (by simp) (by simp) ?_
 simp only [Try.f17]
 refine wseq ?_
 refine wreg fun K hK=>?_
 simp [C.laws_laurents,fS]
 refine hK _ ?_;clear hK K
 show AWp _ _ _ _ _
 refine wseq ?_
 refine wseq ?_
 refine wregI ([0,1,2,3,4,5,6,7,8,9,10,11,12,13]) rfl fun K hK=>?_
 have hJ:K ⟨ofL [(2,.pt (2,0) [] 0),(3,.pt (3,0) [] 0),(19,.bool (!decide (f.v=g.v/\(f.ts.length:Int)=g.ts.length)))],ofRO [((2,0),some (.bx (fS f))),((3,0),some (.bx (fS g)))]⟩:=by
  refine hK _ ?_;clear hK K
  show AWp _ _ _ _ _
  refine wcond _ rfl (fun hc1=>?_) (fun hc1=>?_)
  ·have hc:=nd_t hc1
   refine wseq ?_
   refine wreg fun K hK=>?_
   simp [C.laws_laurents,fS]
   refine hK _ ?_;clear hK K
   show AWp _ _ _ _ _
   refine wret ?_
   simp [C.laws_laurents,fS]
   intro e
   subst e
   exact hc ⟨rfl,rfl⟩
  ·have hc0:=nd_f hc1
   have hc:f.v=g.v/\f.ts.length=g.ts.length:=⟨hc0.1,by have:=hc0.2;omega⟩
   refine wskip ?_
   show AWp _ _ _ _ _
   refine wseq ?_
   refine wseq ?_
   refine wreg fun K hK=>?_
   simp [C.laws_laurents,fS]
   refine hK _ ?_;clear hK K
   show AWp _ _ _ _ _
   refine wblock ?_
   refine wloop (fun k:Nat=>⟨ofL [(2,.pt (2,0) [] 0),(3,.pt (3,0) [] 0),(5,FV.int k)],ofRO [((2,0),some (.bx (fS f))),((3,0),some (.bx (fS g)))]⟩) (fun k=>k<=f.ts.length/\f.ts.take k=g.ts.take k) (fun k=>f.ts.length - k) 0 (by simp [C.laws_laurents,fS]) (by simp) ?_
   intro x1 hx1 R1 hR1
   obtain ⟨hk,ht⟩:=hx1
   refine wseq ?_
   refine wseq ?_
   refine wreg fun K hK=>?_
   simp [C.laws_laurents,fS]
   refine hK _ ?_;clear hK K
   show AWp _ _ _ _ _
   refine wcond _ rfl (fun hc2=>?_) (fun hc2=>?_)
   ·have h1:x1 < f.ts.length:=by have:=d_t hc2;omega
    have h2:x1 < g.ts.length:=by omega
    refine wskip ?_
    show AWp _ _ _ _ _
    refine wseq ?_
    refine wblock ?_
    refine wseq ?_
    refine wdrawI [(true,0),(true,1),(true,2),(true,3),(true,4),(true,5),(true,6),(true,7),(true,8),(true,9),(true,10),(true,11),(true,12),(true,13),(true,14),(true,15),(true,16),(true,17),(true,18),(true,19),(true,20),(true,21),(true,22),(true,23),(true,24),(true,25),(false,26),(true,27),(true,28)] ⟨by kernel_rfl,by kernel_rfl⟩ ([0,1,2,3,4,5,6,7,8,9,10,11,12,13,14,15,16,17,18,19,20,21,22,23,24,25,26] ++ ([27,28])) rfl fun K hK=>?_
    have hJ:K ⟨ofL [(2,.pt (2,0) [] 0),(3,.pt (3,0) [] 0),(5,FV.int x1),(55,.bool (!decide (f.ts[x1].c=g.ts[x1].c/\f.ts[x1].e=g.ts[x1].e)))],ofRO [((2,0),some (.bx (fS f))),((3,0),some (.bx (fS g)))]⟩:=by
     refine hK _ ?_;clear hK K
     show AWp _ _ _ _ _
     refine wcond _ rfl (fun hc3=>?_) (fun hc3=>?_)
     ·have hb:=nd_t hc3
      refine wseq ?_
      refine wreg fun K hK=>?_
      simp [C.laws_laurents,fS]
      refine hK _ ?_;clear hK K
      show AWp _ _ _ _ _
      refine wret ?_
      simp [C.laws_laurents,fS]
      intro e
      subst e
      exact hb ⟨rfl,rfl⟩
     ·have hb:=nd_f hc3
      refine wskip ?_
      show AWp _ _ _ _ _
      refine wreg fun K hK=>?_
      simp [C.laws_laurents,fS,wrap_succ (show x1 < 4611686018427387904 by omega)]
      refine hK _ ?_;clear hK K
      simp [C.laws_laurents,fS]
      refine hR1 (x1+1) ⟨h1,?_⟩ (by omega)
      have he:f.ts[x1]=g.ts[x1]:=by
       cases hf:f.ts[x1]
       cases hg:g.ts[x1]
       simp only [hf,hg] at hb
       simp [hb.1,hb.2]
      rw [List.take_succ_eq_append_getElem h1,List.take_succ_eq_append_getElem h2,ht,he]
    clear hK
    by_cases ha:f.ts[x1].c=g.ts[x1].c
    ·refine oSg fun L hL=>?_
     simp [C.laws_laurents,fS,h1,h2,tS_0 h1,tS_1 h1,tS_0 h2,tS_1 h2,ha]
     refine wcall1 (laws_ints_c f.ts[x1].e g.ts[x1].e (hxe _ (List.getElem_mem h1))) (by simp) (by simp) ?_
     simp [C.laws_laurents,fS,h1,h2,tS_0 h1,tS_1 h1,tS_0 h2,tS_1 h2,ha]
     refine hL _ ?_;clear hL L
     refine oEn fun L hL=>?_
     simp [C.laws_laurents,fS,h1,h2,tS_0 h1,tS_1 h1,tS_0 h2,tS_1 h2,ha]
     refine hL _ ?_;clear hL L
     simp [C.laws_laurents,fS,h1,h2,tS_0 h1,tS_1 h1,tS_0 h2,tS_1 h2,ha]
     refine cast (congrArg K ?_) hJ
     simp [ibne,fS,ha]
    ·refine oSg fun L hL=>?_
     simp [C.laws_laurents,fS,h1,h2,tS_0 h1,tS_1 h1,tS_0 h2,tS_1 h2,ha]
     refine hL _ ?_;clear hL L
     refine oEn fun L hL=>?_
     simp [C.laws_laurents,fS,h1,h2,tS_0 h1,tS_1 h1,tS_0 h2,tS_1 h2,ha]
     refine hL _ ?_;clear hL L
     simp [C.laws_laurents,fS,h1,h2,tS_0 h1,tS_1 h1,tS_0 h2,tS_1 h2,ha]
     refine cast (congrArg K ?_) hJ
     simp [ibne,fS,ha]
   ·have h1:x1=f.ts.length:=by have:=d_f hc2;omega
    refine wexit ?_
    show AWp _ _ _ _ _
    refine wseq ?_
    refine wreg fun K hK=>?_
    simp [C.laws_laurents,fS]
    refine hK _ ?_;clear hK K
    show AWp _ _ _ _ _
    refine wret ?_
    simp [C.laws_laurents,fS]
    rw [h1,List.take_length,hc.2,List.take_length] at ht
    cases f
    cases g
    simp only at hc ht
    simp [hc.1,ht]
 clear hK
 by_cases ha:f.v=g.v
 ·refine oEn fun L hL=>?_
  simp [C.laws_laurents,fS,ha]
  refine hL _ ?_;clear hL L
  simp [C.laws_laurents,fS,ha]
  refine cast (congrArg K ?_) hJ
  simp [ibne,fS,ha]
 ·refine oEn fun L hL=>?_
  simp [C.laws_laurents,fS,ha]
  refine hL _ ?_;clear hL L
  simp [C.laws_laurents,fS,ha]
  refine cast (congrArg K ?_) hJ
  simp [ibne,fS,ha]
end Go.Proofs.Ytncfmemhjahpeaa.Ab
namespace Go.Proofs.Ytncfmemhjahpeaa.Ab
open Go
theorem lexlt_app:∀ (a b z:List Int),a.length=b.length->lexlt (a ++ z) (b ++ z)=lexlt a b
 | [],[],z,_=>by simp [lexlt_irr,lexlt]
 | x :: a,y :: b,z,h=>by simp [lexlt,lexlt_app a b z (by simpa using h)]
 | [],_ :: _,_,h=>by simp at h
 | _ :: _,[],_,h=>by simp at h
theorem lexlt_pad {a b:List Int} (h:a.length=b.length):lexlt (pad a) (pad b)=lexlt a b:=by
 unfold pad
 rw [<-h]
 exact lexlt_app a b _ h
theorem mget_some {k:List Int} {v:Int}:∀ {es:List (List Int×Int)},mget k es=some v->(k,v)∈es
 | [],h=>by simp [mget] at h
 | x :: es,h=>by
  simp only [mget] at h
  split at h
  ·rename_i e
   simp only [Option.some.injEq] at h
   subst h
   have:x=(k,x.2):=Prod.ext e rfl
   rw [<-this];simp
  ·exact List.mem_cons_of_mem _ (mget_some h)
theorem mget_mem {k:List Int} {v:Int}:∀ {es:List (List Int×Int)},(es.map (·.1)).Nodup->(k,v)∈es->mget k es=some v
 | [],_,h=>by simp at h
 | x :: es,hn,h=>by
  simp only [List.map_cons,List.nodup_cons] at hn
  simp only [mget]
  rcases List.mem_cons.1 h with e | h
  ·rw [<-e];simp
  ·rw [if_neg]
   ·exact mget_mem hn.2 h
   ·rintro e
    exact hn.1 (List.mem_map.2 ⟨(k,v),h,e.symm⟩)
structure TopJ (P:List (List Int×Int)) (top:List Int):Prop where
 len:top.length=8
 mem:P≠[]->∃ c,(top,c)∈P
 max:∀ y∈P,lexlt top y.1=false
theorem TopJ.keep {P:List (List Int×Int)} {top:List Int} (h:TopJ P top) {y:List Int×Int} (hne:P≠[]) (hy:lexlt top y.1=false):TopJ (P ++ [y]) top:=by
 obtain ⟨c,hc⟩:=h.mem hne
 refine ⟨h.len,fun _=>⟨c,by simp [hc]⟩,fun z hz=>?_⟩
 rcases List.mem_append.1 hz with hz | hz
 ·exact h.max z hz
 ·simp only [List.mem_singleton] at hz
  subst hz;exact hy
theorem TopJ.next {P:List (List Int×Int)} {top:List Int} (h:TopJ P top) {y:List Int×Int} (hl:y.1.length=8) (hy:P=[]\/lexlt top y.1=true):TopJ (P ++ [y]) y.1:=by
 refine ⟨hl,fun _=>⟨y.2,by simp⟩,fun z hz=>?_⟩
 rcases List.mem_append.1 hz with hz | hz
 ·rcases hy with rfl | hy
  ·simp at hz
  ·cases hq:lexlt y.1 z.1 with
   | false=>rfl
   | true=>
    have h1:=h.max z hz
    have h2:=lexlt_tr _ _ _ hy hq
    rw [h1] at h2;simp at h2
 ·simp only [List.mem_singleton] at hz
  subst hz;exact lexlt_irr _
theorem top_head {n:Nat} {es l P:List (List Int×Int)} {top:List Int} {a:List Int} {c:Int} {R:List (List Int×Int)} (h:MapR n es l) (hl:∀ x∈l,x.1.length=n) (hP:P.Perm es) (hT:TopJ P top) (hR:nf lexlt l=(a,c) :: R) :
  top=pad a/\mget top es=some c:=by
 have hal:a.length=n:=by
  obtain ⟨x,hx,e⟩:=nf_mem (y:=(a,c)) (by rw [hR];simp)
  have h9:=hl x hx
  rw [e] at h9
  exact h9
 have hd:=nf_desc lexOrd l
 have hc:=co_single lexOrd hd (x:=(a,c)) (by rw [hR];simp)
 rw [nf_co] at hc
 have hcz:c≠0:=nf_nz l (a,c) (by rw [hR];simp)
 have hva:=h.val a hal
 have hga:mget (pad a) es=some c:=by
  rw [hc] at hva
  cases hg:mget (pad a) es with
  | none=>rw [hg] at hva;simp at hva;exact absurd hva.symm hcz
  | some v=>rw [hg] at hva;simp at hva;rw [hva]
 have hmem:=mget_some hga
 have hmP:=hP.mem_iff.2 hmem
 obtain ⟨v,hv⟩:=hT.mem (by intro e;rw [e] at hmP;simp at hmP)
 have hvE:=hP.mem_iff.1 hv
 obtain ⟨hvz,e,hel,he⟩:=h.nz _ hvE
 simp only at he hvz
 have hlt:=hT.max _ hmP
 simp only at hlt
 rw [he,lexlt_pad (hel.trans hal.symm)] at hlt
 have hget:=mget_mem h.nod hvE
 have hve:=h.val e hel
 rw [<-he,hget] at hve
 simp only [Option.getD_some] at hve
 have hco:co e (nf lexlt l)≠0:=by rw [nf_co,<-hve];exact hvz
 obtain ⟨z,hz,ez⟩:=co_mem hco
 have hea:e=a:=by
  rw [hR] at hz hd
  rcases List.mem_cons.1 hz with rfl | hz
  ·exact ez.symm
  ·have h1:=List.rel_of_pairwise_cons hd hz
   simp only at h1
   rw [ez,hlt] at h1
   simp at h1
 subst hea
 exact ⟨he,by rw [he];exact hga⟩
theorem pad_bd60 {e:List Int} {B:Int} (hB:0<=B) (hB2:B<=1000000) (h:∀ x∈e,-B<=x/\x<=B):∀ x∈pad e,-1000000<=x/\x<=1000000:=fun x hx=>by
 unfold pad at hx
 rcases List.mem_append.1 hx with hx | hx
 ·have:=h x hx;omega
 ·have:=List.eq_of_mem_replicate hx;omega
def negT (e:List Int) (q:Int) (g:List Trm):List (List Int×Int):=g.map fun t=>(addE 1 e t.e,-q*t.c)
theorem negT_step {e:List Int} {q:Int} {g:List Trm} {i:Nat} (h:i < g.length):negT e q (g.take (i+1))=negT e q (g.take i) ++ [(addE 1 e g[i].e,-q*g[i].c)]:=by
 unfold negT
 rw [List.take_succ_eq_append_getElem h,List.map_append]
 rfl
theorem step_nf {g:Lau} {x:List Int×Int} {R l l2:List (List Int×Int)} (hR:nf lexlt l=x :: R) (hl2:l2.Perm (l ++ negT (addE (-1) x.1 (leadE g)) (x.2.tdiv (leadC g)) g.ts)):nf lexlt l2=nf lexlt (stepL g x R):=by
 refine nf_unique lexOrd (nf_desc lexOrd _) (nf_nz _) fun k=>?_
 rw [nf_co,co_perm k hl2,stepL,co_append,co_append,<-hR,nf_co]
 congr 1
 unfold negT mulT
 rw [List.map_map]
 rfl
end Go.Proofs.Ytncfmemhjahpeaa.Ab
namespace Go.Proofs.Ytncfmemhjahpeaa.Ab
open Go
theorem addE_dv2:∀ (a b:List Int),a.length=b.length->addE (-1) (addE 1 a b) b=a
 | [],[],_=>rfl
 | x :: a,y :: b,h=>by
  simp only [addE,addE_dv2 a b (by simpa using h)]
  congr 1
  omega
 | [],_ :: _,h=>by simp at h
 | _ :: _,[],h=>by simp at h
structure DivO (g:Lau) (n:Nat) (R O:List (List Int×Int)):Prop where
 od:Desc lexlt O
 oz:Nz O
 ol:∀ x∈O,x.1.length=n
 sep:∀ x∈O,∀ y∈R,lexlt y.1 (addE 1 x.1 (leadE g))=true
theorem DivO.step {g:Lau} {n:Nat} {x:List Int×Int} {R O:List (List Int×Int)} (h:DivO g n (x :: R) O) (hR:Desc lexlt (x :: R)) (hRl:∀ y∈x :: R,y.1.length=n) (hg:Right g) (hgn:g.v=n) (hne:g.ts≠[]) (hm:x.2.tmod (leadC g)=0) (hq:x.2.tdiv (leadC g)≠0) :
  DivO g n (nf lexlt (stepL g x R)) (O ++ [(addE (-1) x.1 (leadE g),x.2.tdiv (leadC g))]):=by
 have hgm:g.ts.map pr=(leadE g,leadC g) :: (g.ts.tail.map pr):=by
  unfold leadE leadC
  match hh:g.ts,hne with
  | t :: ts,_=>rfl
 have hgd:=pr_desc hg
 have hgD:=pr_dig hg hgn
 rw [hgm] at hgd hgD
 have hbl:(leadE g).length=n:=(hgD (leadE g,leadC g) (by simp)).1
 have hxl:=hRl x (by simp)
 have hless:=step_less lexOrd (lauAct n) hR hRl hgd (fun y hy=>(hgD y hy).1) hm
 rw [<-hgm] at hless
 have hel:(addE (-1) x.1 (leadE g)).length=n:=by rw [addE_length _ _ _ (hxl.trans hbl.symm)];exact hxl
 have hback:addE 1 (addE (-1) x.1 (leadE g)) (leadE g)=x.1:=addE_dv _ _ (hxl.trans hbl.symm)
 refine ⟨?_,fun y hy=>?_,fun y hy=>?_,fun y hy z hz=>?_⟩
 ·refine List.pairwise_append.2 ⟨h.od,List.pairwise_singleton ..,fun y hy z hz=>?_⟩
  simp only [List.mem_singleton] at hz
  subst hz
  have h1:=h.sep y hy x (by simp)
  have hyl:=h.ol y hy
  have h2:=lexlt_addE (-1) x.1 (addE 1 y.1 (leadE g)) (leadE g) (hxl.trans hbl.symm) (by rw [addE_length _ _ _ (hyl.trans hbl.symm)];exact hyl.trans hbl.symm)
  rw [addE_dv2 _ _ (hyl.trans hbl.symm)] at h2
  show lexlt (addE (-1) x.1 (leadE g)) y.1=true
  rw [h2]
  exact h1
 ·rcases List.mem_append.1 hy with hy | hy
  ·exact h.oz y hy
  ·simp only [List.mem_singleton] at hy
   subst hy;exact hq
 ·rcases List.mem_append.1 hy with hy | hy
  ·exact h.ol y hy
  ·simp only [List.mem_singleton] at hy
   subst hy;exact hel
 ·have h1:=(hless z hz).1
  rcases List.mem_append.1 hy with hy | hy
  ·exact lexlt_tr _ _ _ h1 (h.sep y hy x (by simp))
  ·simp only [List.mem_singleton] at hy
   subst hy
   show lexlt z.1 (addE 1 (addE (-1) x.1 (leadE g)) (leadE g))=true
   rw [hback]
   exact h1
theorem DivO.nf {g:Lau} {n:Nat} {R O:List (List Int×Int)} (h:DivO g n R O):Ab.nf lexlt O=O:=(nf_unique lexOrd h.od h.oz fun k=>rfl).symm
theorem DivO.shut {g:Lau} {n:Nat} {R O:List (List Int×Int)} (h:DivO g n R O) (v:Int):shutF v O=endF v (some O):=by
 unfold shutF endF
 rw [h.nf]
theorem cmpL_gt (a b:List Int):decide (0 < cmpL a b)=lexlt b a:=by
 have:=cmpL_pos a b
 by_cases h:cmpL a b<=0
 ·rw [decide_eq_true h] at this
  rw [decide_eq_false (by omega)]
  cases hh:lexlt b a with
  | false=>rfl
  | true=>rw [hh] at this;simp at this
 ·rw [decide_eq_false h] at this
  rw [decide_eq_true (by omega)]
  cases hh:lexlt b a with
  | true=>rfl
  | false=>rw [hh] at this;simp at this
end Go.Proofs.Ytncfmemhjahpeaa.Ab
namespace Go.Proofs.Ytncfmemhjahpeaa.Ab
open Go
set_option maxRecDepth 10000
set_option maxHeartbeats 2000000
end Go.Proofs.Ytncfmemhjahpeaa.Ab
namespace Go.Proofs.Ytncfmemhjahpeaa.Ab
open Go
set_option maxRecDepth 10000
set_option maxHeartbeats 2000000
attribute [local simp] mapKV flatInt tileB
structure LJ (n:Nat) (es l:List (List Int×Int)) (B:Nat):Prop where
 map:MapR n es l
 len:∀ x∈l,x.1.length=n
 abs:absE l<=B
theorem LJ.add {n:Nat} {es l:List (List Int×Int)} {B:Nat} (h:LJ n es l B) {e:List Int} (he:e.length=n) {c:Int} {X:Nat} (hc:c.natAbs<=X):LJ n (madd es (pad e) c) ((e,c) :: l) (B+X):=by
 refine ⟨h.map.add he c,fun x hx=>?_,?_⟩
 ·rcases List.mem_cons.1 hx with rfl | hx
  ·exact he
  ·exact h.len x hx
 ·have:=h.abs
  simp only [absE,List.map_cons,List.sum_cons] at *
  omega
theorem LJ.val {n:Nat} {es l:List (List Int×Int)} {B:Nat} (h:LJ n es l B) {e:List Int} (he:e.length=n) {c:Int} {X:Nat} (hc:c.natAbs<=X) (hB:B+X<=4000000000000000000):-9223372036854775808<=c+(mget (pad e) es).getD 0/\c+(mget (pad e) es).getD 0 < 9223372036854775808:=by
 have h1:=h.map.val e he
 have h2:=co_abs e l
 have h3:=h.abs
 rw [h1]
 omega
theorem LJ.mono {n:Nat} {es l:List (List Int×Int)} {B C:Nat} (h:LJ n es l B) (hB:B<=C):LJ n es l C:=⟨h.map,h.len,Nat.le_trans h.abs hB⟩
theorem divF_some {f g:Lau} {n:Nat} (hf:Right f) (hg:Right g) (hn:f.v=n) (hgn:g.v=n) (hne:g.ts≠[]):divF f g=endF n (divL chkI g 600 (f.ts.map pr)):=by
 unfold divF
 rw [if_pos ⟨⟨hf,hg,by omega⟩,hne⟩,hn]
theorem impl_DivideLaurents_l1 (f g:Lau) (n:Nat) (hn:f.v=n) (hv:n<=8) (hf:Right f) (hfl:f.ts.length<=600) (Q0:AEx->St->Prop) (hX0:∀ es l,LJ n es l 600000000->l.Perm (f.ts.map pr)->Q0 (.exit 0) ⟨ofL [(2,.pt (2,0) [] 0),(3,.pt (3,0) [] 0),(4,.pt (4,0) [] 0),(6,.pt (6,0) [] 0),(34,.d (.sh 2 f.ts.length (rows tS f.ts))),(35,.int f.ts.length),(36,.int f.ts.length),(37,.bool false)],ofRO [((2,0),some (.bx (fS f))),((3,0),some (.bx (fS g))),((4,0),some (.bx [D.int 0,.v (.slice none 0 0)])),((6,0),some (.bx [D.int n,.mp es]))]⟩):AWp C.impl_DivideLaurents (codeAt Try.f63 [1,1,1,0,1,0]) 0 Q0 ⟨ofL [(2,.pt (2,0) [] 0),(3,.pt (3,0) [] 0),(4,.pt (4,0) [] 0),(6,.pt (6,0) [] 0),(34,.d (.sh 2 f.ts.length (rows tS f.ts))),(35,.int f.ts.length),(36,.int 0)],ofRO [((2,0),some (.bx (fS f))),((3,0),some (.bx (fS g))),((4,0),some (.bx [D.int 0,.v (.slice none 0 0)])),((6,0),some (.bx [D.int n,.mp []]))]⟩:=by
 simp only [codeAt,Try.f63,walkCode]
 refine wloop (fun x:Nat×List (List Int×Int)×List (List Int×Int)=>⟨ofL [(2,.pt (2,0) [] 0),(3,.pt (3,0) [] 0),(4,.pt (4,0) [] 0),(6,.pt (6,0) [] 0),(34,.d (.sh 2 f.ts.length (rows tS f.ts))),(35,.int f.ts.length),(36,.int x.1)],ofRO [((2,0),some (.bx (fS f))),((3,0),some (.bx (fS g))),((4,0),some (.bx [D.int 0,.v (.slice none 0 0)])),((6,0),some (.bx [D.int n,.mp x.2.1]))]⟩) (fun x=>x.1<=f.ts.length/\LJ n x.2.1 x.2.2 (x.1*1000000)/\x.2.2.Perm ((f.ts.map pr).take x.1)) (fun x=>f.ts.length - x.1) (0,[],[]) (by simp [C.impl_DivideLaurents,fS,hn]) ⟨by simp,⟨MapR.nil n,by simp,by simp [absE]⟩,by simp⟩ ?_
 intro x1 hx1 R1 hR1
 obtain ⟨i,es,l⟩:=x1
 obtain ⟨hi,hLJ,hP⟩:=hx1
 dsimp only at hi hLJ hP ⊢
 refine wseq ?_
 refine wreg fun K hK=>?_
 simp [C.impl_DivideLaurents,fS]
 refine hK _ ?_;clear hK K
 show AWp _ _ _ _ _
 refine wseq ?_
 refine wcond _ rfl (fun hc2=>?_) (fun hc2=>?_)
 ·have hif:i < f.ts.length:=by have:=d_t hc2;omega
  have hT:=right_dig hf hn _ (List.getElem_mem hif)
  refine wskip ?_
  show AWp _ _ _ _ _
  refine wseq ?_
  refine wblock ?_
  refine wseq ?_
  refine wreg fun K hK=>?_
  simp [C.impl_DivideLaurents,fS,hif,tS_0 hif,tS_1 hif]
  refine hK _ ?_;clear hK K
  show AWp _ _ _ _ _
  obtain ⟨a0,a1,a2,a3,a4,a5,a6,a7,hpa⟩:=eight (pad_length (e:=f.ts[i].e) (by omega))
  have hval:=hLJ.val hT.1 (c:=f.ts[i].c) (X:=1000000) (by omega) (by omega)
  rw [hpa] at hval
  refine wdrawI [(true,0),(true,1),(true,2),(true,4),(true,5),(false,3),(false,6)] ⟨by kernel_rfl,by kernel_rfl⟩ ([0,1,2,4,5,3] ++ ([6] ++ ([]))) rfl fun K hK=>?_
  refine oSg fun L hL=>?_
  simp [C.impl_DivideLaurents,fS,tS]
  refine wcall1 (impl_keyOf_c f.ts[i].e (by omega) a0 a1 a2 a3 a4 a5 a6 a7 hpa) (by simp) (by simp) ?_
  simp [C.impl_DivideLaurents,fS,tS]
  refine hL _ ?_;clear hL L
  refine oSg fun L hL=>?_
  simp [C.impl_DivideLaurents,fS,tS]
  refine wcall1 (impl_building_add_c n f.ts[i].c es a0 a1 a2 a3 a4 a5 a6 a7 (hLJ.map.len8 hv) hval) (by simp) (by simp) ?_
  simp [C.impl_DivideLaurents,fS,tS]
  refine hL _ ?_;clear hL L
  refine oEn fun L hL=>?_
  simp only [AOpsI]
  refine hL _ ?_;clear hL L
  simp [C.impl_DivideLaurents,fS,tS]
  rw [<-hpa]
  refine hK _ ?_;clear hK K
  show AWp _ _ _ _ _
  refine wreg fun K hK=>?_
  simp [C.impl_DivideLaurents,fS,wrap_succ (show i < 4611686018427387904 by omega)]
  refine hK _ ?_;clear hK K
  simp [C.impl_DivideLaurents,fS]
  refine cast (congrArg R1 ?_) (hR1 (i+1,madd es (pad f.ts[i].e) f.ts[i].c,(f.ts[i].e,f.ts[i].c) :: l) ⟨hif,?_,?_⟩ (by dsimp only;omega))
  ·simp [fS,hn]
  ·have:=hLJ.add hT.1 (c:=f.ts[i].c) (X:=1000000) (by omega)
   dsimp only
   rwa [Nat.add_mul,Nat.one_mul]
  ·dsimp only
   rw [List.take_succ_eq_append_getElem (by simpa using hif)]
   refine (List.Perm.cons _ hP).trans ?_
   simp only [List.getElem_map,pr]
   exact (List.perm_append_singleton _ _).symm
 ·have hif:i=f.ts.length:=by have:=d_f hc2;omega
  have hall:l.Perm (f.ts.map pr):=by
   rw [List.take_of_length_le (by simp;omega)] at hP
   exact hP
  refine wexit ?_
  refine cast (congrArg (Q0 (.exit 0)) ?_) (hX0 es l (hLJ.mono (by rw [hif];omega)) hall)
  simp [fS,hn,hif]
theorem impl_DivideLaurents_r21 (f g:Lau) (n:Nat) (hn:f.v=n) (es eo P rest:List (List Int×Int)) (k0 k1 k2 k3 k4 k5 k6 k7 t0 t1 t2 t3 t4 t5 t6 t7 xc:Int) (i:Nat) (i0:Nat) (Q0:AEx->St->Prop) (hJ0:Q0 .normal ⟨ofL [(2,.pt (2,0) [] 0),(3,.pt (3,0) [] 0),(4,.pt (4,0) [] 0),(6,.pt (6,0) [] 0),(9,.pt (9,0) [] 0),(10,.pt (10,0) [] 0),(11,.pt (11,0) [] 0),(12,.bool (decide (P=[]))),(13,.pt (13,0) [] 0),(65,.it (65,0) (6,0) [1] (rest.eraseIdx i) (some ([k0,k1,k2,k3,k4,k5,k6,k7],xc))),(76,.bool (decide (P=[]\/lexlt [t0,t1,t2,t3,t4,t5,t6,t7] [k0,k1,k2,k3,k4,k5,k6,k7]=true)))],ofRO [((2,0),some (.bx (fS f))),((3,0),some (.bx (fS g))),((4,0),some (.bx [D.int 0,.v (.slice none 0 0)])),((6,0),some (.bx [D.int n,.mp es])),((9,0),some (.bx [D.int n,.mp eo])),((10,0),some (.bx [shI (leadE g),D.int (leadC g)])),((11,0),some (.bx [D.int t0,D.int t1,D.int t2,D.int t3,D.int t4,D.int t5,D.int t6,D.int t7])),((13,0),some (.bx [D.int k0,D.int k1,D.int k2,D.int k3,D.int k4,D.int k5,D.int k6,D.int k7])),((65,0),some .itr)]⟩):AWp C.impl_DivideLaurents (codeAt Try.f63 [1,1,1,1,1,1,0,0,0,1,0,1,1,0,1,0,0,1,1,0,1,0]) i0 Q0 ⟨ofL [(2,.pt (2,0) [] 0),(3,.pt (3,0) [] 0),(4,.pt (4,0) [] 0),(6,.pt (6,0) [] 0),(9,.pt (9,0) [] 0),(10,.pt (10,0) [] 0),(11,.pt (11,0) [] 0),(12,.bool (decide (P=[]))),(13,.pt (13,0) [] 0),(65,.it (65,0) (6,0) [1] (rest.eraseIdx i) (some ([k0,k1,k2,k3,k4,k5,k6,k7],xc)))],ofRO [((2,0),some (.bx (fS f))),((3,0),some (.bx (fS g))),((4,0),some (.bx [D.int 0,.v (.slice none 0 0)])),((6,0),some (.bx [D.int n,.mp es])),((9,0),some (.bx [D.int n,.mp eo])),((10,0),some (.bx [shI (leadE g),D.int (leadC g)])),((11,0),some (.bx [D.int t0,D.int t1,D.int t2,D.int t3,D.int t4,D.int t5,D.int t6,D.int t7])),((13,0),some (.bx [D.int k0,D.int k1,D.int k2,D.int k3,D.int k4,D.int k5,D.int k6,D.int k7])),((65,0),some .itr)]⟩:=by
 simp only [codeAt,Try.f63,walkCode]
 refine wdrawI [(true,0),(true,1),(true,2),(true,3),(false,4),(true,5),(true,6)] ⟨by kernel_rfl,by kernel_rfl⟩ ([0,1,2,3,4] ++ ([5,6])) rfl fun K hK=>?_
 have hJ:K ⟨ofL [(2,.pt (2,0) [] 0),(3,.pt (3,0) [] 0),(4,.pt (4,0) [] 0),(6,.pt (6,0) [] 0),(9,.pt (9,0) [] 0),(10,.pt (10,0) [] 0),(11,.pt (11,0) [] 0),(12,.bool (decide (P=[]))),(13,.pt (13,0) [] 0),(65,.it (65,0) (6,0) [1] (rest.eraseIdx i) (some ([k0,k1,k2,k3,k4,k5,k6,k7],xc))),(76,.bool (decide (P=[]\/lexlt [t0,t1,t2,t3,t4,t5,t6,t7] [k0,k1,k2,k3,k4,k5,k6,k7]=true)))],ofRO [((2,0),some (.bx (fS f))),((3,0),some (.bx (fS g))),((4,0),some (.bx [D.int 0,.v (.slice none 0 0)])),((6,0),some (.bx [D.int n,.mp es])),((9,0),some (.bx [D.int n,.mp eo])),((10,0),some (.bx [shI (leadE g),D.int (leadC g)])),((11,0),some (.bx [D.int t0,D.int t1,D.int t2,D.int t3,D.int t4,D.int t5,D.int t6,D.int t7])),((13,0),some (.bx [D.int k0,D.int k1,D.int k2,D.int k3,D.int k4,D.int k5,D.int k6,D.int k7])),((65,0),some .itr)]⟩:=by
  refine hK _ ?_;clear hK K
  exact hJ0
 clear hK
 by_cases hp:P=[]
 ·refine oSg fun L hL=>?_
  simp [C.impl_DivideLaurents,fS,ints,sh8,hp]
  refine hL _ ?_;clear hL L
  refine oEn fun L hL=>?_
  simp [C.impl_DivideLaurents,fS,ints,sh8,hp]
  refine hL _ ?_;clear hL L
  simp [C.impl_DivideLaurents,fS,ints,sh8,hp]
  refine cast (congrArg K ?_) hJ
  simp [cmpL_gt,hn,fS,hp]
 ·refine oSg fun L hL=>?_
  simp [C.impl_DivideLaurents,fS,ints,sh8,hp]
  refine wcall1 (slices_Compare_int_int_c [k0,k1,k2,k3,k4,k5,k6,k7] [t0,t1,t2,t3,t4,t5,t6,t7] (by simp)) (by simp [fS,ints,sh8]) (by simp) ?_
  simp [C.impl_DivideLaurents,fS,ints,sh8,hp]
  refine hL _ ?_;clear hL L
  refine oEn fun L hL=>?_
  simp [C.impl_DivideLaurents,fS,ints,sh8,hp]
  refine hL _ ?_;clear hL L
  simp [C.impl_DivideLaurents,fS,ints,sh8,hp]
  refine cast (congrArg K ?_) hJ
  simp [cmpL_gt,hn,fS,hp]
theorem impl_DivideLaurents_l3 (f g:Lau) (n:Nat) (hn:f.v=n) (es eo:List (List Int×Int)) (hm8:mapLen 8 es) (Q0:AEx->St->Prop) (hX0:∀ P top cur,P.Perm es->TopJ P top->Q0 (.exit 4) ⟨ofL [(2,.pt (2,0) [] 0),(3,.pt (3,0) [] 0),(4,.pt (4,0) [] 0),(6,.pt (6,0) [] 0),(9,.pt (9,0) [] 0),(10,.pt (10,0) [] 0),(11,.pt (11,0) [] 0),(12,.bool (decide (P=[]))),(65,.it (65,0) (6,0) [1] [] cur),(67,.bool false)],ofRO [((2,0),some (.bx (fS f))),((3,0),some (.bx (fS g))),((4,0),some (.bx [D.int 0,.v (.slice none 0 0)])),((6,0),some (.bx [D.int n,.mp es])),((9,0),some (.bx [D.int n,.mp eo])),((10,0),some (.bx [shI (leadE g),D.int (leadC g)])),((11,0),some (.bx (ints top))),((65,0),some .itr)]⟩):AWp C.impl_DivideLaurents (codeAt Try.f63 [1,1,1,1,1,1,0,0,0,1,0,1,1,0,1,0]) 4 Q0 ⟨ofL [(2,.pt (2,0) [] 0),(3,.pt (3,0) [] 0),(4,.pt (4,0) [] 0),(6,.pt (6,0) [] 0),(9,.pt (9,0) [] 0),(10,.pt (10,0) [] 0),(11,.pt (11,0) [] 0),(12,.bool (decide (([]:List (List Int×Int))=[]))),(65,.it (65,0) (6,0) [1] es none)],ofRO [((2,0),some (.bx (fS f))),((3,0),some (.bx (fS g))),((4,0),some (.bx [D.int 0,.v (.slice none 0 0)])),((6,0),some (.bx [D.int n,.mp es])),((9,0),some (.bx [D.int n,.mp eo])),((10,0),some (.bx [shI (leadE g),D.int (leadC g)])),((11,0),some (.bx (ints [0,0,0,0,0,0,0,0]))),((65,0),some .itr)]⟩:=by
 simp only [codeAt,Try.f63,walkCode]
 refine wloop (fun x:List (List Int×Int)×List Int×List (List Int×Int)×Option (List Int×Int)=>⟨ofL [(2,.pt (2,0) [] 0),(3,.pt (3,0) [] 0),(4,.pt (4,0) [] 0),(6,.pt (6,0) [] 0),(9,.pt (9,0) [] 0),(10,.pt (10,0) [] 0),(11,.pt (11,0) [] 0),(12,.bool (decide (x.1=[]))),(65,.it (65,0) (6,0) [1] x.2.2.1 x.2.2.2)],ofRO [((2,0),some (.bx (fS f))),((3,0),some (.bx (fS g))),((4,0),some (.bx [D.int 0,.v (.slice none 0 0)])),((6,0),some (.bx [D.int n,.mp es])),((9,0),some (.bx [D.int n,.mp eo])),((10,0),some (.bx [shI (leadE g),D.int (leadC g)])),((11,0),some (.bx (ints x.2.1))),((65,0),some .itr)]⟩) (fun x=>(x.1 ++ x.2.2.1).Perm es/\TopJ x.1 x.2.1) (fun x=>x.2.2.1.length) ([],[0,0,0,0,0,0,0,0],es,none) (by simp [C.impl_DivideLaurents,fS,hn,ints]) ⟨by simp,⟨rfl,by simp,by simp⟩⟩ ?_
 intro x3 hx3 R3 hR3
 obtain ⟨P,top,rest,cur⟩:=x3
 obtain ⟨hq,hT⟩:=hx3
 dsimp only at hq hT ⊢
 refine wseq ?_
 refine wreg fun K hK=>?_
 simp [C.impl_DivideLaurents,fS]
 refine ⟨fun hrest=>?_,fun i xk xc hxi=>?_⟩
 ·refine hK _ ?_;clear hK K
  show AWp _ _ _ _ _
  refine wseq ?_
  refine wcond _ rfl (fun hc4=>?_) (fun hc4=>?_)
  ·simp at hc4
  ·subst hrest
   have hqe:P.Perm es:=by simpa using hq
   refine wexit ?_
   refine cast (congrArg (Q0 (.exit 4)) ?_) (hX0 P top cur hqe hT)
   simp [fS,hn]
 ·refine hK _ ?_;clear hK K
  show AWp _ _ _ _ _
  refine wseq ?_
  refine wcond _ rfl (fun hc6=>?_) (fun hc6=>?_)
  ·have hxm:(xk,xc)∈rest:=List.mem_of_getElem? hxi
   have hxl:=hm8 _ (hq.subset (List.mem_append_right P hxm))
   dsimp only at hxl
   obtain ⟨k0,k1,k2,k3,k4,k5,k6,k7,rfl⟩:=eight hxl
   obtain ⟨t0,t1,t2,t3,t4,t5,t6,t7,rfl⟩:=eight hT.len
   have hil:i < rest.length:=by
    rcases Nat.lt_or_ge i rest.length with h | h
    ·exact h
    ·rw [List.getElem?_eq_none h] at hxi;simp at hxi
   have hper:(P ++ [([k0,k1,k2,k3,k4,k5,k6,k7],xc)] ++ rest.eraseIdx i).Perm es:=by
    have hget:rest[i]=([k0,k1,k2,k3,k4,k5,k6,k7],xc):=by
     rw [List.getElem?_eq_getElem hil] at hxi
     injection hxi
    have h9:=erase_perm rest i hil
    rw [hget] at h9
    refine List.Perm.trans ?_ hq
    rw [List.append_assoc]
    exact List.Perm.append_left _ h9
   refine wskip ?_
   show AWp _ _ _ _ _
   refine wblock ?_
   refine wseq ?_
   refine wreg fun K hK=>?_
   simp [C.impl_DivideLaurents,fS,ints]
   refine hK _ ?_;clear hK K
   show AWp _ _ _ _ _
   refine wseq ?_
   refine wcode (c':=codeAt Try.f63 [1,1,1,1,1,1,0,0,0,1,0,1,1,0,1,0,0,1,1,0,1,0]) (by kernel_rfl) ?_
   refine impl_DivideLaurents_r21 f g n hn es eo P rest k0 k1 k2 k3 k4 k5 k6 k7 t0 t1 t2 t3 t4 t5 t6 t7 xc i _ _ ?_
   show AWp _ _ _ _ _
   refine wcond _ rfl (fun hc7=>?_) (fun hc7=>?_)
   ·have hcm:=d_t hc7
    refine wreg fun K hK=>?_
    simp [C.impl_DivideLaurents,fS]
    refine hK _ ?_;clear hK K
    simp [C.impl_DivideLaurents,fS]
    refine cast (congrArg R3 ?_) (hR3 (P ++ [([k0,k1,k2,k3,k4,k5,k6,k7],xc)],[k0,k1,k2,k3,k4,k5,k6,k7],rest.eraseIdx i,some ([k0,k1,k2,k3,k4,k5,k6,k7],xc)) ⟨hper,hT.next rfl hcm⟩ (by dsimp only;rw [List.length_eraseIdx_of_lt hil];omega))
    simp [fS,hn,ints]
   ·have hcm:=d_f hc7
    have hPn:P≠[]:=fun e=>hcm (.inl e)
    have hlt:lexlt [t0,t1,t2,t3,t4,t5,t6,t7] [k0,k1,k2,k3,k4,k5,k6,k7]=false:=by
     cases hh:lexlt [t0,t1,t2,t3,t4,t5,t6,t7] [k0,k1,k2,k3,k4,k5,k6,k7] with
     | false=>rfl
     | true=>exact absurd (.inr hh) hcm
    refine wskip ?_
    simp [C.impl_DivideLaurents,fS]
    refine cast (congrArg R3 ?_) (hR3 (P ++ [([k0,k1,k2,k3,k4,k5,k6,k7],xc)],[t0,t1,t2,t3,t4,t5,t6,t7],rest.eraseIdx i,some ([k0,k1,k2,k3,k4,k5,k6,k7],xc)) ⟨hper,hT.keep hPn hlt⟩ (by dsimp only;rw [List.length_eraseIdx_of_lt hil];omega))
    simp [fS,hn,ints,hPn]
  ·simp at hc6
theorem impl_DivideLaurents_r24 (f g:Lau) (n:Nat) (es eo:List (List Int×Int)) (a0 a1 a2 a3 a4 a5 a6 a7 b0 b1 b2 b3 b4 b5 b6 b7 c:Int) (hgl8:(leadE g).length<=8) (hpb:pad (leadE g)=[b0,b1,b2,b3,b4,b5,b6,b7]) (hba:∀ x∈[a0,a1,a2,a3,a4,a5,a6,a7],-1000000<=x/\x<=1000000) (hbb:∀ x∈[b0,b1,b2,b3,b4,b5,b6,b7],-1000000<=x/\x<=1000000) (i0:Nat) (Q0:AEx->St->Prop) (hJ0:Q0 .normal ⟨ofL [(2,.pt (2,0) [] 0),(3,.pt (3,0) [] 0),(4,.pt (4,0) [] 0),(6,.pt (6,0) [] 0),(9,.pt (9,0) [] 0),(10,.pt (10,0) [] 0),(14,.int c),(15,.pt (15,0) [] 0)],ofRO [((2,0),some (.bx (fS f))),((3,0),some (.bx (fS g))),((4,0),some (.bx [D.int 0,.v (.slice none 0 0)])),((6,0),some (.bx [D.int n,.mp es])),((9,0),some (.bx [D.int n,.mp eo])),((10,0),some (.bx [shI (leadE g),D.int (leadC g)])),((15,0),some (.bx [D.int (a0 + -1*b0),D.int (a1 + -1*b1),D.int (a2 + -1*b2),D.int (a3 + -1*b3),D.int (a4 + -1*b4),D.int (a5 + -1*b5),D.int (a6 + -1*b6),D.int (a7 + -1*b7)]))]⟩):AWp C.impl_DivideLaurents (codeAt Try.f63 [1,1,1,1,1,1,0,0,0,1,0,1,1,1,1,0]) i0 Q0 ⟨ofL [(2,.pt (2,0) [] 0),(3,.pt (3,0) [] 0),(4,.pt (4,0) [] 0),(6,.pt (6,0) [] 0),(9,.pt (9,0) [] 0),(10,.pt (10,0) [] 0),(11,.pt (11,0) [] 0),(14,.int c)],ofRO [((2,0),some (.bx (fS f))),((3,0),some (.bx (fS g))),((4,0),some (.bx [D.int 0,.v (.slice none 0 0)])),((6,0),some (.bx [D.int n,.mp es])),((9,0),some (.bx [D.int n,.mp eo])),((10,0),some (.bx [shI (leadE g),D.int (leadC g)])),((11,0),some (.bx (ints [a0,a1,a2,a3,a4,a5,a6,a7])))]⟩:=by
 simp only [codeAt,Try.f63,walkCode]
 refine wdraw (.take 0 (.take 1 (.take 2 (.all [(3,.all [(4,.all [(5,.all [(6,.done)])]),(5,.all [(4,.all [(6,.done)])])]),(5,.all [(3,.all [(4,.all [(6,.done)])])])])))) ⟨by kernel_rfl,by kernel_rfl⟩ fun K hK=>?_
 have hJ:K ⟨ofL [(2,.pt (2,0) [] 0),(3,.pt (3,0) [] 0),(4,.pt (4,0) [] 0),(6,.pt (6,0) [] 0),(9,.pt (9,0) [] 0),(10,.pt (10,0) [] 0),(14,.int c),(15,.pt (15,0) [] 0)],ofRO [((2,0),some (.bx (fS f))),((3,0),some (.bx (fS g))),((4,0),some (.bx [D.int 0,.v (.slice none 0 0)])),((6,0),some (.bx [D.int n,.mp es])),((9,0),some (.bx [D.int n,.mp eo])),((10,0),some (.bx [shI (leadE g),D.int (leadC g)])),((15,0),some (.bx [D.int (a0 + -1*b0),D.int (a1 + -1*b1),D.int (a2 + -1*b2),D.int (a3 + -1*b3),D.int (a4 + -1*b4),D.int (a5 + -1*b5),D.int (a6 + -1*b6),D.int (a7 + -1*b7)]))]⟩:=by
  refine hK _ ?_;clear hK K
  exact hJ0
 clear hK
 have hk1:=impl_keyOf_c (leadE g) (by omega) b0 b1 b2 b3 b4 b5 b6 b7 hpb
 have hk2:=impl_plusExp_c (-1) a0 a1 a2 a3 a4 a5 a6 a7 b0 b1 b2 b3 b4 b5 b6 b7 (by omega) hba hbb
 simp [C.impl_DivideLaurents,fS,ints]
 repeat' first
  | (refine wcall1 hk1 (by simp) (by simp) ?_;simp [C.impl_DivideLaurents,fS])
  | (refine wcall1 hk2 (by simp) (by simp) ?_;simp [C.impl_DivideLaurents,fS])
  | (refine cast (congrArg K ?_) hJ;simp [fS];done)
  | refine ⟨?_,?_⟩
theorem impl_DivideLaurents_r26 (f g:Lau) (n:Nat) (hn:f.v=n) (hv:n<=8) (es eo O:List (List Int×Int)) (E:List Int) (e0 e1 e2 e3 e4 e5 e6 e7 c q:Int) (hgc0:leadC g≠0) (hsh:shareL (List.take n [D.v (.int .i64 e0),D.v (.int .i64 e1),D.v (.int .i64 e2),D.v (.int .i64 e3),D.v (.int .i64 e4),D.v (.int .i64 e5),D.v (.int .i64 e6),D.v (.int .i64 e7)])=ints E) (hEl:E.length=n) (heol:eo.length=O.length) (i0:Nat) (Q0:AEx->St->Prop) (hJ0:Q0 .normal ⟨ofL [(2,.pt (2,0) [] 0),(3,.pt (3,0) [] 0),(4,.pt (4,0) [] 0),(6,.pt (6,0) [] 0),(9,.pt (9,0) [] 0),(10,.pt (10,0) [] 0),(15,.pt (15,0) [] 0),(16,.int q),(119,.bool (!decide (((c.tmod (leadC g)=0/\okE E n=true)/\(q≠0/\-1000000<=q/\q<=1000000))/\¬ O.length=600)))],ofRO [((2,0),some (.bx (fS f))),((3,0),some (.bx (fS g))),((4,0),some (.bx [D.int 0,.v (.slice none 0 0)])),((6,0),some (.bx [D.int n,.mp es])),((9,0),some (.bx [D.int n,.mp eo])),((10,0),some (.bx [shI (leadE g),D.int (leadC g)])),((15,0),some (.bx [D.int e0,D.int e1,D.int e2,D.int e3,D.int e4,D.int e5,D.int e6,D.int e7]))]⟩):AWp C.impl_DivideLaurents (codeAt Try.f63 [1,1,1,1,1,1,0,0,0,1,0,1,1,1,1,1,1,0,0]) i0 Q0 ⟨ofL [(2,.pt (2,0) [] 0),(3,.pt (3,0) [] 0),(4,.pt (4,0) [] 0),(6,.pt (6,0) [] 0),(9,.pt (9,0) [] 0),(10,.pt (10,0) [] 0),(14,.int c),(15,.pt (15,0) [] 0),(16,.int q)],ofRO [((2,0),some (.bx (fS f))),((3,0),some (.bx (fS g))),((4,0),some (.bx [D.int 0,.v (.slice none 0 0)])),((6,0),some (.bx [D.int n,.mp es])),((9,0),some (.bx [D.int n,.mp eo])),((10,0),some (.bx [shI (leadE g),D.int (leadC g)])),((15,0),some (.bx [D.int e0,D.int e1,D.int e2,D.int e3,D.int e4,D.int e5,D.int e6,D.int e7]))]⟩:=by
 simp only [codeAt,Try.f63,walkCode]
 refine wdrawI [(true,0),(true,1),(true,2),(true,3),(true,4),(true,5),(true,6),(true,7),(true,8),(true,9),(true,10),(false,11),(true,12),(true,13),(true,14),(true,15),(false,16),(true,17),(true,18),(true,19),(true,20),(true,21),(true,22),(true,23),(true,24),(true,25),(true,26)] ⟨by kernel_rfl,by kernel_rfl⟩ ([0,1,2,3,4,5,6,7,8,9,10,11] ++ ([12,13,14,15,16] ++ ([17,18,19,20,21,22,23,24,25,26]))) rfl fun K hK=>?_
 have hJ:K ⟨ofL [(2,.pt (2,0) [] 0),(3,.pt (3,0) [] 0),(4,.pt (4,0) [] 0),(6,.pt (6,0) [] 0),(9,.pt (9,0) [] 0),(10,.pt (10,0) [] 0),(15,.pt (15,0) [] 0),(16,.int q),(119,.bool (!decide (((c.tmod (leadC g)=0/\okE E n=true)/\(q≠0/\-1000000<=q/\q<=1000000))/\¬ O.length=600)))],ofRO [((2,0),some (.bx (fS f))),((3,0),some (.bx (fS g))),((4,0),some (.bx [D.int 0,.v (.slice none 0 0)])),((6,0),some (.bx [D.int n,.mp es])),((9,0),some (.bx [D.int n,.mp eo])),((10,0),some (.bx [shI (leadE g),D.int (leadC g)])),((15,0),some (.bx [D.int e0,D.int e1,D.int e2,D.int e3,D.int e4,D.int e5,D.int e6,D.int e7]))]⟩:=by
  refine hK _ ?_;clear hK K
  exact hJ0
 clear hK
 by_cases g1:c.tmod (leadC g)=0
 ·by_cases g2:okE E n=true
  ·by_cases g3:(q≠0/\-1000000<=q/\q<=1000000)
   ·refine oSg fun L hL=>?_
    simp [C.impl_DivideLaurents,fS,hgc0,hn,show ((n:Int)<=8) by omega,hv,Nat.min_eq_left hv,hsh,hEl,heol,g1,g2,g3]
    refine wcall1 (impl_expOk_c E n (by omega)) (by simp [fS,hgc0,hn,show ((n:Int)<=8) by omega,hv,Nat.min_eq_left hv,hsh,hEl,heol]) (by simp) ?_
    simp [C.impl_DivideLaurents,fS,hgc0,hn,show ((n:Int)<=8) by omega,hv,Nat.min_eq_left hv,hsh,hEl,heol,g1,g2,g3]
    refine hL _ ?_;clear hL L
    refine oSg fun L hL=>?_
    simp [C.impl_DivideLaurents,fS,hgc0,hn,show ((n:Int)<=8) by omega,hv,Nat.min_eq_left hv,hsh,hEl,heol,g1,g2,g3]
    refine wcall1 (impl_coefOk_c q) (by simp) (by simp) ?_
    simp [C.impl_DivideLaurents,fS,hgc0,hn,show ((n:Int)<=8) by omega,hv,Nat.min_eq_left hv,hsh,hEl,heol,g1,g2,g3]
    refine hL _ ?_;clear hL L
    refine oEn fun L hL=>?_
    simp [C.impl_DivideLaurents,fS,hgc0,hn,show ((n:Int)<=8) by omega,hv,Nat.min_eq_left hv,hsh,hEl,heol,g1,g2,g3]
    refine hL _ ?_;clear hL L
    simp [C.impl_DivideLaurents,fS,hgc0,hn,show ((n:Int)<=8) by omega,hv,Nat.min_eq_left hv,hsh,hEl,heol,g1,g2,g3]
    refine cast (congrArg K ?_) hJ
    simp [ieq600,hn,fS,g1,g2,g3]
   ·refine oSg fun L hL=>?_
    simp [C.impl_DivideLaurents,fS,hgc0,hn,show ((n:Int)<=8) by omega,hv,Nat.min_eq_left hv,hsh,hEl,heol,g1,g2,g3]
    refine wcall1 (impl_expOk_c E n (by omega)) (by simp [fS,hgc0,hn,show ((n:Int)<=8) by omega,hv,Nat.min_eq_left hv,hsh,hEl,heol]) (by simp) ?_
    simp [C.impl_DivideLaurents,fS,hgc0,hn,show ((n:Int)<=8) by omega,hv,Nat.min_eq_left hv,hsh,hEl,heol,g1,g2,g3]
    refine hL _ ?_;clear hL L
    refine oSg fun L hL=>?_
    simp [C.impl_DivideLaurents,fS,hgc0,hn,show ((n:Int)<=8) by omega,hv,Nat.min_eq_left hv,hsh,hEl,heol,g1,g2,g3]
    refine wcall1 (impl_coefOk_c q) (by simp) (by simp) ?_
    simp [C.impl_DivideLaurents,fS,hgc0,hn,show ((n:Int)<=8) by omega,hv,Nat.min_eq_left hv,hsh,hEl,heol,g1,g2,g3]
    refine hL _ ?_;clear hL L
    refine oEn fun L hL=>?_
    simp [C.impl_DivideLaurents,fS,hgc0,hn,show ((n:Int)<=8) by omega,hv,Nat.min_eq_left hv,hsh,hEl,heol,g1,g2,g3]
    refine hL _ ?_;clear hL L
    simp [C.impl_DivideLaurents,fS,hgc0,hn,show ((n:Int)<=8) by omega,hv,Nat.min_eq_left hv,hsh,hEl,heol,g1,g2,g3]
    refine cast (congrArg K ?_) hJ
    simp [ieq600,hn,fS,g1,g2,g3]
  ·refine oSg fun L hL=>?_
   simp [C.impl_DivideLaurents,fS,hgc0,hn,show ((n:Int)<=8) by omega,hv,Nat.min_eq_left hv,hsh,hEl,heol,g1,g2]
   refine wcall1 (impl_expOk_c E n (by omega)) (by simp [fS,hgc0,hn,show ((n:Int)<=8) by omega,hv,Nat.min_eq_left hv,hsh,hEl,heol]) (by simp) ?_
   simp [C.impl_DivideLaurents,fS,hgc0,hn,show ((n:Int)<=8) by omega,hv,Nat.min_eq_left hv,hsh,hEl,heol,g1,g2]
   refine hL _ ?_;clear hL L
   refine oSg fun L hL=>?_
   simp [C.impl_DivideLaurents,fS,hgc0,hn,show ((n:Int)<=8) by omega,hv,Nat.min_eq_left hv,hsh,hEl,heol,g1,g2]
   refine hL _ ?_;clear hL L
   refine oEn fun L hL=>?_
   simp [C.impl_DivideLaurents,fS,hgc0,hn,show ((n:Int)<=8) by omega,hv,Nat.min_eq_left hv,hsh,hEl,heol,g1,g2]
   refine hL _ ?_;clear hL L
   simp [C.impl_DivideLaurents,fS,hgc0,hn,show ((n:Int)<=8) by omega,hv,Nat.min_eq_left hv,hsh,hEl,heol,g1,g2]
   refine cast (congrArg K ?_) hJ
   simp [ieq600,hn,fS,g1,g2]
 ·refine oSg fun L hL=>?_
  simp [C.impl_DivideLaurents,fS,hgc0,hn,show ((n:Int)<=8) by omega,hv,Nat.min_eq_left hv,hsh,hEl,heol,g1]
  refine hL _ ?_;clear hL L
  refine oSg fun L hL=>?_
  simp [C.impl_DivideLaurents,fS,hgc0,hn,show ((n:Int)<=8) by omega,hv,Nat.min_eq_left hv,hsh,hEl,heol,g1]
  refine hL _ ?_;clear hL L
  refine oEn fun L hL=>?_
  simp [C.impl_DivideLaurents,fS,hgc0,hn,show ((n:Int)<=8) by omega,hv,Nat.min_eq_left hv,hsh,hEl,heol,g1]
  refine hL _ ?_;clear hL L
  simp [C.impl_DivideLaurents,fS,hgc0,hn,show ((n:Int)<=8) by omega,hv,Nat.min_eq_left hv,hsh,hEl,heol,g1]
  refine cast (congrArg K ?_) hJ
  simp [ieq600,hn,fS,g1]
theorem impl_DivideLaurents_l4 (f g:Lau) (n:Nat) (hn:f.v=n) (hgn:g.v=n) (hv:n<=8) (hg:Right g) (hgl:g.ts.length<=600) (es l eo2 O:List (List Int×Int)) (hOl:O.length<=600) (hLr:LJ n es l (600000000+O.length*600000000000000)) (E:List Int) (hEl:E.length=n) (e0 e1 e2 e3 e4 e5 e6 e7 q:Int) (hpe:pad E=[e0,e1,e2,e3,e4,e5,e6,e7]) (hbe:∀ x∈[e0,e1,e2,e3,e4,e5,e6,e7],-1000000<=x/\x<=1000000) (g3:q≠0/\-1000000<=q/\q<=1000000) (Q0:AEx->St->Prop) (hX0:∀ es2 l2,LJ n es2 l2 (600000000+O.length*600000000000000+600000000000000)->l2.Perm (l ++ negT E q g.ts)->Q0 (.exit 6) ⟨ofL [(2,.pt (2,0) [] 0),(3,.pt (3,0) [] 0),(4,.pt (4,0) [] 0),(6,.pt (6,0) [] 0),(9,.pt (9,0) [] 0),(10,.pt (10,0) [] 0),(15,.pt (15,0) [] 0),(16,.int q),(126,.d (.sh 2 g.ts.length (rows tS g.ts))),(127,.int g.ts.length),(128,.int g.ts.length),(129,.bool false)],ofRO [((2,0),some (.bx (fS f))),((3,0),some (.bx (fS g))),((4,0),some (.bx [D.int 0,.v (.slice none 0 0)])),((6,0),some (.bx [D.int n,.mp es2])),((9,0),some (.bx [D.int n,.mp eo2])),((10,0),some (.bx [shI (leadE g),D.int (leadC g)])),((15,0),some (.bx [D.int e0,D.int e1,D.int e2,D.int e3,D.int e4,D.int e5,D.int e6,D.int e7]))]⟩):AWp C.impl_DivideLaurents (codeAt Try.f63 [1,1,1,1,1,1,0,0,0,1,0,1,1,1,1,1,1,1,1,1,0]) 6 Q0 ⟨ofL [(2,.pt (2,0) [] 0),(3,.pt (3,0) [] 0),(4,.pt (4,0) [] 0),(6,.pt (6,0) [] 0),(9,.pt (9,0) [] 0),(10,.pt (10,0) [] 0),(15,.pt (15,0) [] 0),(16,.int q),(126,.d (.sh 2 g.ts.length (rows tS g.ts))),(127,.int g.ts.length),(128,.int 0)],ofRO [((2,0),some (.bx (fS f))),((3,0),some (.bx (fS g))),((4,0),some (.bx [D.int 0,.v (.slice none 0 0)])),((6,0),some (.bx [D.int n,.mp es])),((9,0),some (.bx [D.int n,.mp eo2])),((10,0),some (.bx [shI (leadE g),D.int (leadC g)])),((15,0),some (.bx [D.int e0,D.int e1,D.int e2,D.int e3,D.int e4,D.int e5,D.int e6,D.int e7]))]⟩:=by
 simp only [codeAt,Try.f63,walkCode]
 refine wloop (fun x:Nat×List (List Int×Int)×List (List Int×Int)=>⟨ofL [(2,.pt (2,0) [] 0),(3,.pt (3,0) [] 0),(4,.pt (4,0) [] 0),(6,.pt (6,0) [] 0),(9,.pt (9,0) [] 0),(10,.pt (10,0) [] 0),(15,.pt (15,0) [] 0),(16,.int q),(126,.d (.sh 2 g.ts.length (rows tS g.ts))),(127,.int g.ts.length),(128,.int x.1)],ofRO [((2,0),some (.bx (fS f))),((3,0),some (.bx (fS g))),((4,0),some (.bx [D.int 0,.v (.slice none 0 0)])),((6,0),some (.bx [D.int n,.mp x.2.1])),((9,0),some (.bx [D.int n,.mp eo2])),((10,0),some (.bx [shI (leadE g),D.int (leadC g)])),((15,0),some (.bx [D.int e0,D.int e1,D.int e2,D.int e3,D.int e4,D.int e5,D.int e6,D.int e7]))]⟩) (fun x=>x.1<=g.ts.length/\LJ n x.2.1 x.2.2 (600000000+O.length*600000000000000+x.1*1000000000000)/\x.2.2.Perm (l ++ negT E q (g.ts.take x.1))) (fun x=>g.ts.length - x.1) (0,es,l) (by simp [C.impl_DivideLaurents,fS,hn,hgn,hpe]) ⟨by simp,hLr.mono (by dsimp only;omega),by simp [negT]⟩ ?_
 intro x4 hx4 R4 hR4
 obtain ⟨j,es2,l2⟩:=x4
 obtain ⟨hj,hL2,hP2⟩:=hx4
 dsimp only at hj hL2 hP2 ⊢
 refine wseq ?_
 refine wreg fun K hK=>?_
 simp [C.impl_DivideLaurents,fS]
 refine hK _ ?_;clear hK K
 show AWp _ _ _ _ _
 refine wseq ?_
 refine wcond _ rfl (fun hc9=>?_) (fun hc9=>?_)
 ·have hjg:j < g.ts.length:=by have:=d_t hc9;omega
  have hU:=right_dig hg hgn _ (List.getElem_mem hjg)
  refine wskip ?_
  show AWp _ _ _ _ _
  refine wseq ?_
  refine wblock ?_
  refine wseq ?_
  refine wreg fun K hK=>?_
  simp [C.impl_DivideLaurents,fS,hjg,tS_0 hjg,tS_1 hjg]
  refine hK _ ?_;clear hK K
  show AWp _ _ _ _ _
  obtain ⟨u0,u1,u2,u3,u4,u5,u6,u7,hpu⟩:=eight (pad_length (e:=g.ts[j].e) (by omega))
  have hbu:=pad_bd hU.2.2.1
  rw [hpu] at hbu
  have hadd:[e0+1*u0,e1+1*u1,e2+1*u2,e3+1*u3,e4+1*u4,e5+1*u5,e6+1*u6,e7+1*u7]=pad (addE 1 E g.ts[j].e):=by
   rw [<-pad_add (by omega),hpe,hpu]
   simp [addE]
  have hnl:(addE 1 E g.ts[j].e).length=n:=by rw [addE_length _ _ _ (by omega)];exact hEl
  have hcc:=mul_bd (x:=-q) (y:=g.ts[j].c) (by omega) hU.2.2.2
  have hvj:=hL2.val hnl (c:=-q*g.ts[j].c) (X:=1000000000000) (by omega) (by omega)
  rw [<-hadd] at hvj
  refine wdrawI [(true,0),(true,1),(true,2),(true,3),(true,6),(true,7),(true,8),(true,9),(true,10),(false,4),(false,5),(false,11)] ⟨by kernel_rfl,by kernel_rfl⟩ ([0,1,2,3,6,7,8,9,10,4] ++ ([5] ++ ([11] ++ ([])))) rfl fun K hK=>?_
  refine oSg fun L hL=>?_
  simp [C.impl_DivideLaurents,fS,tS,wrapOk (x:=-q) (by omega) (by omega),wrapOk (x:=-q*g.ts[j].c) (by omega) (by omega)]
  refine wcall1 (impl_keyOf_c g.ts[j].e (by omega) u0 u1 u2 u3 u4 u5 u6 u7 hpu) (by simp) (by simp) ?_
  simp [C.impl_DivideLaurents,fS,tS,wrapOk (x:=-q) (by omega) (by omega),wrapOk (x:=-q*g.ts[j].c) (by omega) (by omega)]
  refine hL _ ?_;clear hL L
  refine oSg fun L hL=>?_
  simp [C.impl_DivideLaurents,fS,tS,wrapOk (x:=-q) (by omega) (by omega),wrapOk (x:=-q*g.ts[j].c) (by omega) (by omega)]
  refine wcall1 (impl_plusExp_c 1 e0 e1 e2 e3 e4 e5 e6 e7 u0 u1 u2 u3 u4 u5 u6 u7 (by omega) hbe hbu) (by simp) (by simp) ?_
  simp [C.impl_DivideLaurents,fS,tS,wrapOk (x:=-q) (by omega) (by omega),wrapOk (x:=-q*g.ts[j].c) (by omega) (by omega)]
  refine hL _ ?_;clear hL L
  refine oSg fun L hL=>?_
  simp [C.impl_DivideLaurents,fS,tS,wrapOk (x:=-q) (by omega) (by omega),wrapOk (x:=-q*g.ts[j].c) (by omega) (by omega)]
  refine wcall1 (impl_building_add_c n (-q*g.ts[j].c) es2 (e0+1*u0) (e1+1*u1) (e2+1*u2) (e3+1*u3) (e4+1*u4) (e5+1*u5) (e6+1*u6) (e7+1*u7) (hL2.map.len8 hv) hvj) (by simp) (by simp) ?_
  simp [C.impl_DivideLaurents,fS,tS,wrapOk (x:=-q) (by omega) (by omega),wrapOk (x:=-q*g.ts[j].c) (by omega) (by omega)]
  refine hL _ ?_;clear hL L
  refine oEn fun L hL=>?_
  simp only [AOpsI]
  refine hL _ ?_;clear hL L
  simp [C.impl_DivideLaurents,fS,tS,wrapOk (x:=-q) (by omega) (by omega),wrapOk (x:=-q*g.ts[j].c) (by omega) (by omega)]
  simp only [Int.one_mul] at hadd
  rw [hadd]
  refine hK _ ?_;clear hK K
  show AWp _ _ _ _ _
  refine wreg fun K hK=>?_
  simp [C.impl_DivideLaurents,fS,wrap_succ (show j < 4611686018427387904 by omega)]
  refine hK _ ?_;clear hK K
  simp [C.impl_DivideLaurents,fS]
  refine cast (congrArg R4 ?_) (hR4 (j+1,madd es2 (pad (addE 1 E g.ts[j].e)) (-q*g.ts[j].c),(addE 1 E g.ts[j].e,-q*g.ts[j].c) :: l2) ⟨hjg,?_,?_⟩ (by dsimp only;omega))
  ·simp [fS,hn,hgn]
  ·have:=hL2.add hnl (c:=-q*g.ts[j].c) (X:=1000000000000) (by omega)
   exact this.mono (by dsimp only;omega)
  ·dsimp only
   rw [negT_step hjg,<-List.append_assoc]
   exact (List.Perm.cons _ hP2).trans (List.perm_append_singleton _ _).symm
 ·have hjg:j=g.ts.length:=by have:=d_f hc9;omega
  rw [hjg,List.take_length] at hP2
  refine wexit ?_
  refine cast (congrArg (Q0 (.exit 6)) ?_) (hX0 es2 l2 (hL2.mono (by omega)) hP2)
  simp [fS,hn,hgn,hjg]
theorem impl_DivideLaurents_c (hDone:DoneOk) (f g:Lau) (hx:f.ts.length < 4611686018427387904) (hxe:∀ t∈f.ts,t.e.length < 4611686018427387904) (hy:g.ts.length < 4611686018427387904) (hye:∀ t∈g.ts,t.e.length < 4611686018427387904):ACalls Try.prog F.impl_DivideLaurents [aF f,aF g] [] true (fun outs res=>outs=[]/\WkRs res [.ag (fO (divF f g).1),.one (D.bool (divF f g).2)]):=by
 have hcall:=impl_bothOk_c f g hx hxe hy hye
 generalize hB:decide (Right f/\Right g/\f.v=g.v)=B at hcall
 refine ACalls.of_body (C:=C.impl_DivideLaurents) (n:=Try.f63.ntmps) tabT folT Try.func63 rfl (by kernel_rfl) rfl (Nat.le_of_ble_eq_true rfl) (by decide) (by kernel_rfl) (by kernel_rfl) rfl (by simp) (by simp) ?_
 simp only [Try.f63]
 refine wseq ?_
 refine wreg fun K hK=>?_
 simp [C.impl_DivideLaurents,fS]
 refine hK _ ?_;clear hK K
 show AWp _ _ _ _ _
 refine wseq ?_
 refine wseq ?_
 refine wregI ([0,1,2] ++ ([3,4,5,6,7,8,9])) rfl fun K hK=>?_
 have hJ:K ⟨ofL [(2,.pt (2,0) [] 0),(3,.pt (3,0) [] 0),(4,.pt (4,0) [] 0),(28,.bool (!(B && !decide (g.ts=[]))))],ofRO [((2,0),some (.bx (fS f))),((3,0),some (.bx (fS g))),((4,0),some (.bx [D.int 0,.v (.slice none 0 0)]))]⟩:=by
  refine hK _ ?_;clear hK K
  show AWp _ _ _ _ _
  refine wcond _ rfl (fun hc1=>?_) (fun hc1=>?_)
  ·have hr:¬ ((Right f/\Right g/\f.v=g.v)/\g.ts≠[]):=by
    rintro ⟨h1,h2⟩
    rw [<-hB,decide_eq_true h1] at hc1
    simp [h2] at hc1
   have hm:divF f g=(zeroF,false):=if_neg hr
   refine wseq ?_
   refine wreg fun K hK=>?_
   simp [C.impl_DivideLaurents,fS]
   refine hK _ ?_;clear hK K
   show AWp _ _ _ _ _
   refine wret ?_
   simp [C.impl_DivideLaurents,fS,hm,fO,zeroF,rows]
  ·have hr:(Right f/\Right g/\f.v=g.v)/\g.ts≠[]:=by
    rw [<-hB] at hc1
    simpa using hc1
   obtain ⟨⟨hf,hg,hfg⟩,hgne⟩:=hr
   have hv0:=hf.1
   obtain ⟨n,hn⟩:∃ n:Nat,f.v=n:=⟨f.v.toNat,by omega⟩
   have hgn:g.v=n:=by omega
   have hv:n<=8:=by omega
   have hm:=divF_some hf hg hn hgn hgne
   have hfl:=hf.2.1
   have hgl:=hg.2.1
   have he:=right_he hf hn
   have heg:=right_he hg hgn
   have hG0:0 < g.ts.length:=List.length_pos_iff.2 hgne
   obtain ⟨hl1,hl2⟩:=lead_get hG0
   have hgood:=hg.2.2.1 _ (List.getElem_mem hG0)
   have hgle:=heg _ (List.getElem_mem hG0)
   rw [hl1] at hgle
   obtain ⟨hgle1,hgle2⟩:=hgle
   have hgc:leadC g≠0/\-1000000<=leadC g/\leadC g<=1000000:=by rw [<-hl2];exact ⟨hgood.2.1,hgood.2.2.1⟩
   obtain ⟨b0,b1,b2,b3,b4,b5,b6,b7,hpb⟩:=eight (pad_length (e:=leadE g) (by omega))
   have hbb:=pad_bd hgle2
   rw [hpb] at hbb
   refine wskip ?_
   show AWp _ _ _ _ _
   refine wseq ?_
   refine wregI ([0,1,2] ++ ([3])) rfl fun K hK=>?_
   refine oSg fun L hL=>?_
   simp [C.impl_DivideLaurents,fS,hn]
   refine wcall1 (impl_newBuilding_c n) (by simp) (by simp) ?_
   simp [C.impl_DivideLaurents,fS,hn]
   refine hL _ ?_;clear hL L
   refine oEn fun L hL=>?_
   simp [C.impl_DivideLaurents,fS,hn]
   refine hL _ ?_;clear hL L
   simp [C.impl_DivideLaurents,fS,hn]
   refine hK _ ?_;clear hK K
   show AWp _ _ _ _ _
   refine wseq ?_
   refine wseq ?_
   refine wreg fun K hK=>?_
   simp [C.impl_DivideLaurents,fS]
   refine hK _ ?_;clear hK K
   show AWp _ _ _ _ _
   refine wblock ?_
   refine wcode (c':=codeAt Try.f63 [1,1,1,0,1,0]) (by kernel_rfl) ?_
   refine wst (σ2:=⟨ofL [(2,.pt (2,0) [] 0),(3,.pt (3,0) [] 0),(4,.pt (4,0) [] 0),(6,.pt (6,0) [] 0),(34,.d (.sh 2 f.ts.length (rows tS f.ts))),(35,.int f.ts.length),(36,.int 0)],ofRO [((2,0),some (.bx (fS f))),((3,0),some (.bx (fS g))),((4,0),some (.bx [D.int 0,.v (.slice none 0 0)])),((6,0),some (.bx [D.int n,.mp []]))]⟩) (by simp [fS,hn]) ?_
   refine impl_DivideLaurents_l1 f g n hn hv hf hfl _ ?_
   intro es l hLJ hall
   have hnf0:nf lexlt l=f.ts.map pr:=by
    rw [nf_perm hall]
    exact (nf_unique lexOrd (pr_desc hf) (pr_nz hf) fun k=>rfl).symm
   show AWp _ _ _ _ _
   refine wseq ?_
   refine wregI ([0,1,2] ++ ([3])) rfl fun K hK=>?_
   refine oSg fun L hL=>?_
   simp [C.impl_DivideLaurents,fS,hn]
   refine wcall1 (impl_newBuilding_c n) (by simp) (by simp) ?_
   simp [C.impl_DivideLaurents,fS,hn]
   refine hL _ ?_;clear hL L
   refine oEn fun L hL=>?_
   simp [C.impl_DivideLaurents,fS,hn]
   refine hL _ ?_;clear hL L
   simp [C.impl_DivideLaurents,fS,hn]
   refine hK _ ?_;clear hK K
   show AWp _ _ _ _ _
   refine wseq ?_
   refine wreg fun K hK=>?_
   simp [C.impl_DivideLaurents,fS,hG0,tS_0 hG0,tS_1 hG0,hl1,hl2]
   refine hK _ ?_;clear hK K
   show AWp _ _ _ _ _
   refine wseq ?_
   refine wblock ?_
   refine wloop (fun x:(List (List Int×Int)×List (List Int×Int))×(List (List Int×Int)×List (List Int×Int))×List (List Int×Int)=>⟨ofL [(2,.pt (2,0) [] 0),(3,.pt (3,0) [] 0),(4,.pt (4,0) [] 0),(6,.pt (6,0) [] 0),(9,.pt (9,0) [] 0),(10,.pt (10,0) [] 0)],ofRO [((2,0),some (.bx (fS f))),((3,0),some (.bx (fS g))),((4,0),some (.bx [D.int 0,.v (.slice none 0 0)])),((6,0),some (.bx [D.int n,.mp x.1.1])),((9,0),some (.bx [D.int n,.mp x.2.1.1])),((10,0),some (.bx [shI (leadE g),D.int (leadC g)]))]⟩) (fun x=>LJ n x.1.1 x.1.2 (600000000+x.2.2.length*600000000000000)/\LJ n x.2.1.1 x.2.1.2 (x.2.2.length*1000000)/\x.2.1.2.Perm x.2.2/\DivJ chkI f g n (nf lexlt x.1.2) x.2.2/\DivO g n (nf lexlt x.1.2) x.2.2) (fun x=>600 - x.2.2.length) ((es,l),([],[]),[]) (by simp [C.impl_DivideLaurents,fS,hn]) ⟨hLJ.mono (by dsimp only [List.length_nil];omega),⟨MapR.nil n,by simp,by simp [absE]⟩,by simp,by dsimp only;rw [hnf0];exact DivJ.start _ hf hn,⟨List.Pairwise.nil,by simp [Nz],by simp,by simp⟩⟩ ?_
   intro x2 hx2 R2 hR2
   obtain ⟨⟨es,l⟩,⟨eo,lo⟩,O⟩:=x2
   obtain ⟨hLr,hLo,hPo,hJ1,hJ2⟩:=hx2
   dsimp only at hLr hLo hPo hJ1 hJ2 ⊢
   have hOl:=hJ1.ol
   have helen:=unpad_len hLr.map hLr.len
   have heol:eo.length=O.length:=by
    have h1:=unpad_len hLo.map hLo.len
    rw [nf_perm hPo,hJ2.nf] at h1
    exact h1.symm
   refine wseq ?_
   refine wseq ?_
   refine wreg fun K hK=>?_
   simp [C.impl_DivideLaurents,fS]
   refine hK _ ?_;clear hK K
   show AWp _ _ _ _ _
   refine wcond _ rfl (fun hc3=>?_) (fun hc3=>?_)
   ·have hes:0 < es.length:=by have:=d_t hc3;omega
    obtain ⟨⟨a,c⟩,R',hR⟩:∃ y R',nf lexlt l=y :: R':=by
     cases hh:nf lexlt l with
     | nil=>rw [hh] at helen;simp at helen;omega
     | cons y R'=>exact ⟨y,R',rfl⟩
    rw [hR] at hJ1 hJ2
    refine wskip ?_
    show AWp _ _ _ _ _
    refine wblock ?_
    refine wseq ?_
    refine wreg fun K hK=>?_
    simp [C.impl_DivideLaurents,fS]
    refine hK _ ?_;clear hK K
    show AWp _ _ _ _ _
    refine wseq ?_
    refine wreg fun K hK=>?_
    simp [C.impl_DivideLaurents,fS]
    refine hK _ ?_;clear hK K
    show AWp _ _ _ _ _
    refine wseq ?_
    refine wseq ?_
    refine wreg fun K hK=>?_
    simp [C.impl_DivideLaurents,fS]
    refine hK _ ?_;clear hK K
    show AWp _ _ _ _ _
    refine wblock ?_
    refine wcode (c':=codeAt Try.f63 [1,1,1,1,1,1,0,0,0,1,0,1,1,0,1,0]) (by kernel_rfl) ?_
    refine impl_DivideLaurents_l3 f g n hn es eo (hLr.map.len8 hv) _ ?_
    intro P top cur hqe hT
    have hPne:P≠[]:=by intro e;rw [e] at hqe;have:=hqe.length_eq;simp at this;omega
    obtain ⟨htop,hget⟩:=top_head hLr.map hLr.len hqe hT hR
    have ha:=hJ1.rl (a,c) (by simp)
    obtain ⟨hal,ha60⟩:=ha
    dsimp only at hal ha60
    obtain ⟨a0,a1,a2,a3,a4,a5,a6,a7,hpa⟩:=eight (pad_length (e:=a) (by omega))
    have hba:=pad_bd60 (B:=60) (by omega) (by omega) ha60
    rw [hpa] at hba htop
    subst htop
    have hcb:-1000000000000000000<=c/\c<=1000000000000000000:=by
     have h1:=hJ1.ra
     simp only [absK,List.map_cons,List.sum_cons] at h1
     omega
    have hEl:(addE (-1) a (leadE g)).length=n:=by rw [addE_length _ _ _ (by omega)];exact hal
    have hE80:=addE_bd (B:=60) (C:=20) (k:=-1) (.inr rfl) (hal.trans hgle1.symm) ha60 hgle2
    have hpe0:[a0 + -1*b0,a1 + -1*b1,a2 + -1*b2,a3 + -1*b3,a4 + -1*b4,a5 + -1*b5,a6 + -1*b6,a7 + -1*b7]=pad (addE (-1) a (leadE g)):=by
     rw [<-pad_add (by omega),hpa,hpb]
     simp [addE]
    show AWp _ _ _ _ _
    refine wseq ?_
    refine wdraw (.take 0 (.take 1 (.take 2 (.take 3 (.take 4 (.take 5 (.take 6 (.done)))))))) ⟨by kernel_rfl,by kernel_rfl⟩ fun K hK=>?_
    simp [C.impl_DivideLaurents,fS,hget,hLr.map.len8 hv]
    refine hK _ ?_;clear hK K
    show AWp _ _ _ _ _
    refine wseq ?_
    refine wcode (c':=codeAt Try.f63 [1,1,1,1,1,1,0,0,0,1,0,1,1,1,1,0]) (by kernel_rfl) ?_
    refine impl_DivideLaurents_r24 f g n es eo a0 a1 a2 a3 a4 a5 a6 a7 b0 b1 b2 b3 b4 b5 b6 b7 c (by omega) hpb hba hbb _ _ ?_
    show AWp _ _ _ _ _
    refine wseq ?_
    obtain ⟨e0,e1,e2,e3,e4,e5,e6,e7,hpe⟩:=eight (pad_length (e:=addE (-1) a (leadE g)) (by omega))
    rw [hpe] at hpe0
    simp only [List.cons.injEq,and_true] at hpe0
    obtain ⟨k0,k1,k2,k3,k4,k5,k6,k7⟩:=hpe0
    simp only [k0,k1,k2,k3,k4,k5,k6,k7]
    have hqb:-1000000000000000000<=c.tdiv (leadC g)/\c.tdiv (leadC g)<=1000000000000000000:=by
     have h1:(c.tdiv (leadC g)).natAbs<=c.natAbs:=by
      rw [Int.natAbs_tdiv]
      exact Nat.div_le_self _ _
     omega
    generalize hQ:c.tdiv (leadC g)=q at hqb
    have htkE:List.take n [e0,e1,e2,e3,e4,e5,e6,e7]=addE (-1) a (leadE g):=by
     rw [<-hpe]
     have:=pad_take (e:=addE (-1) a (leadE g))
     rwa [hEl] at this
    have hsh:=sh8 n e0 e1 e2 e3 e4 e5 e6 e7
    rw [htkE] at hsh
    refine wreg fun K hK=>?_
    simp [C.impl_DivideLaurents,fS,hgc.1,hQ,wrapOk (x:=q) (by omega) (by omega)]
    refine hK _ ?_;clear hK K
    show AWp _ _ _ _ _
    refine wseq ?_
    refine wseq ?_
    refine wcode (c':=codeAt Try.f63 [1,1,1,1,1,1,0,0,0,1,0,1,1,1,1,1,1,0,0]) (by kernel_rfl) ?_
    refine impl_DivideLaurents_r26 f g n hn hv es eo O (addE (-1) a (leadE g)) e0 e1 e2 e3 e4 e5 e6 e7 c q hgc.1 hsh hEl heol _ _ ?_
    show AWp _ _ _ _ _
    refine wcond _ rfl (fun hc8=>?_) (fun hc8=>?_)
    ·have hr:=nd_t hc8
     have hfail:=hJ1.fail (by
      rcases Classical.em (O.length=600) with h | h
      ·exact .inr h
      ·refine .inl fun h2=>hr ⟨?_,h⟩
       dsimp only at h2
       rw [hQ] at h2
       simp only [chkI,decide_eq_true_eq] at h2
       exact ⟨⟨h2.1,okE_iff.2 ⟨by omega,h2.2.1⟩⟩,h2.2.2⟩)
     refine wseq ?_
     refine wreg fun K hK=>?_
     simp [C.impl_DivideLaurents,fS]
     refine hK _ ?_;clear hK K
     show AWp _ _ _ _ _
     refine wret ?_
     simp [C.impl_DivideLaurents,fS,hm,hfail,endF,zeroF,fO,rows]
    ·obtain ⟨⟨⟨g1,g2⟩,g3⟩,g4⟩:=nd_f hc8
     have hE20:=(okE_iff.1 g2).2
     have hchk:chkI (addE (-1) a (leadE g)) q=true:=by simp only [chkI,decide_eq_true_eq];exact ⟨hE20,g3⟩
     have hJ1s:=hJ1.step hg hgn g1 (by dsimp only;rw [hQ];exact hchk) (by omega) hEl (fun z hz=>by have:=hE20 z hz;omega) (by dsimp only;rw [hQ];exact g3.2)
     have hJ2s:=hJ2.step hJ1.rd (fun y hy=>(hJ1.rl y hy).1) hg hgn hgne g1 (by dsimp only;rw [hQ];exact g3.1)
     dsimp only at hJ1s hJ2s
     rw [hQ] at hJ1s hJ2s
     have hvo:=hLo.val hEl (c:=q) (X:=1000000) (by omega) (by omega)
     rw [hpe] at hvo
     have hbe:=pad_bd hE20
     rw [hpe] at hbe
     refine wskip ?_
     show AWp _ _ _ _ _
     refine wseq ?_
     refine wregI ([0,1,2,3] ++ ([])) rfl fun K hK=>?_
     refine oSg fun L hL=>?_
     simp [C.impl_DivideLaurents,fS]
     refine wcall1 (impl_building_add_c n q eo e0 e1 e2 e3 e4 e5 e6 e7 (hLo.map.len8 hv) hvo) (by simp) (by simp) ?_
     simp [C.impl_DivideLaurents,fS]
     refine hL _ ?_;clear hL L
     refine oEn fun L hL=>?_
     simp only [AOpsI]
     refine hL _ ?_;clear hL L
     simp [C.impl_DivideLaurents,fS]
     rw [<-hpe]
     refine hK _ ?_;clear hK K
     show AWp _ _ _ _ _
     refine wseq ?_
     refine wreg fun K hK=>?_
     simp [C.impl_DivideLaurents,fS]
     refine hK _ ?_;clear hK K
     show AWp _ _ _ _ _
     refine wblock ?_
     refine wcode (c':=codeAt Try.f63 [1,1,1,1,1,1,0,0,0,1,0,1,1,1,1,1,1,1,1,1,0]) (by kernel_rfl) ?_
     refine impl_DivideLaurents_l4 f g n hn hgn hv hg hgl es l (madd eo (pad (addE (-1) a (leadE g))) q) O hOl hLr (addE (-1) a (leadE g)) hEl e0 e1 e2 e3 e4 e5 e6 e7 q hpe hbe g3 _ ?_
     intro es2 l2 hL2 hP2
     have hnf2:nf lexlt l2=nf lexlt (stepL g (a,c) R'):=step_nf hR (by dsimp only;rw [hQ];exact hP2)
     simp [C.impl_DivideLaurents,fS]
     refine cast (congrArg R2 ?_) (hR2 ((es2,l2),(madd eo (pad (addE (-1) a (leadE g))) q,(addE (-1) a (leadE g),q) :: lo),O ++ [(addE (-1) a (leadE g),q)]) ⟨?_,?_,?_,?_,?_⟩ (by simp;omega))
     ·simp [fS,hn,hgn]
     ·exact hL2.mono (by simp;omega)
     ·exact (hLo.add hEl (c:=q) (X:=1000000) (by omega)).mono (by simp;omega)
     ·exact (List.Perm.cons _ hPo).trans (List.perm_append_singleton _ _).symm
     ·dsimp only
      rw [hnf2]
      exact hJ1s
     ·dsimp only
      rw [hnf2]
      exact hJ2s
   ·have hes:es.length=0:=by have:=d_f hc3;omega
    have hR0:nf lexlt l=[]:=List.eq_nil_of_length_eq_zero (by omega)
    rw [hR0] at hJ1 hJ2
    have hdone:=hJ1.done
    have hsh0:=hJ2.shut n
    rw [<-shutF_perm hPo] at hsh0
    refine wexit ?_
    show AWp _ _ _ _ _
    refine wseq ?_
    refine wregI ([0,1] ++ ([2,3,4,5])) rfl fun K hK=>?_
    refine oSg fun L hL=>?_
    simp [C.impl_DivideLaurents,fS,hn]
    refine wcall1 (hDone n eo lo hLo.map hLo.len (by omega) hv (by have:=hPo.length_eq;omega)) (by simp) (by simp) ?_
    simp [C.impl_DivideLaurents,fS,hn]
    refine hL _ ?_;clear hL L
    refine oEn fun L hL=>?_
    simp [C.impl_DivideLaurents,fS,hn]
    refine hL _ ?_;clear hL L
    simp [C.impl_DivideLaurents,fS,hn]
    refine hK _ ?_;clear hK K
    show AWp _ _ _ _ _
    refine wret ?_
    simp [C.impl_DivideLaurents,fS,hm,hdone,hsh0,fO]
 clear hK
 by_cases hb:B=true
 ·refine oSg fun L hL=>?_
  simp [C.impl_DivideLaurents,fS,hb]
  refine wcall1 (hcall) (by simp) (by simp) ?_
  simp [C.impl_DivideLaurents,fS,hb]
  refine hL _ ?_;clear hL L
  refine oEn fun L hL=>?_
  simp [C.impl_DivideLaurents,fS,hb]
  refine hL _ ?_;clear hL L
  simp [C.impl_DivideLaurents,fS,hb]
  refine cast (congrArg K ?_) hJ
  simp [ieq0,fS,hb]
 ·refine oSg fun L hL=>?_
  simp [C.impl_DivideLaurents,fS,hb]
  refine wcall1 (hcall) (by simp) (by simp) ?_
  simp [C.impl_DivideLaurents,fS,hb]
  refine hL _ ?_;clear hL L
  refine oEn fun L hL=>?_
  simp [C.impl_DivideLaurents,fS,hb]
  refine hL _ ?_;clear hL L
  simp [C.impl_DivideLaurents,fS,hb]
  refine cast (congrArg K ?_) hJ
  simp [ieq0,fS,hb]
theorem iDiv_c (hDone:DoneOk) (f g:Lau) (hx:f.ts.length < 4611686018427387904) (hxe:∀ t∈f.ts,t.e.length < 4611686018427387904) (hy:g.ts.length < 4611686018427387904) (hye:∀ t∈g.ts,t.e.length < 4611686018427387904):ACalls Try.prog F.impl_DivideLaurents [aF f,aF g] [] true (fun outs res=>outs=[]/\res=[.ag (fO (divF f g).1),.one (D.bool (divF f g).2)]):=(impl_DivideLaurents_c hDone f g hx hxe hy hye).weak1
end Go.Proofs.Ytncfmemhjahpeaa.Ab
namespace Go.Proofs.Ytncfmemhjahpeaa.Ab
open Go
set_option maxRecDepth 10000
set_option maxHeartbeats 2000000
theorem impl_shaped_1_c (x:Int):ACalls Try.prog F.impl_shaped_1 [.int x] [] true (fun outs res=>outs=[]/\res=[.one (D.bool (!decide (-99<=x/\x<=99)))]):=by
 refine ACalls.of_body (C:=C.impl_shaped_1) (n:=Try.f92.ntmps) tabT folT Try.func92 rfl (by kernel_rfl) rfl (Nat.le_of_ble_eq_true rfl) (by decide) (by kernel_rfl) (by kernel_rfl) rfl (by simp) (by simp) ?_
 simp only [Try.f92]
 refine wseq ?_
 refine wreg fun K hK=>?_
 simp [C.impl_shaped_1]
 refine hK _ ?_;clear hK K
 show AWp _ _ _ _ _
 refine wseq ?_
 refine wregI ([0,1] ++ ([2,3])) rfl fun K hK=>?_
 refine oSg fun L hL=>?_
 simp [C.impl_shaped_1]
 refine wcall1 (impl_within_c x (-99) 99) (by simp) (by simp) ?_
 simp [C.impl_shaped_1]
 refine hL _ ?_;clear hL L
 refine oEn fun L hL=>?_
 simp [C.impl_shaped_1]
 refine hL _ ?_;clear hL L
 simp [C.impl_shaped_1]
 refine hK _ ?_;clear hK K
 show AWp _ _ _ _ _
 refine wret ?_
 simp [C.impl_shaped_1]
theorem impl_Matrix_at_c (m:Mat) (i j q:Nat) (n:Nat) (hn:m.n=n) (hq:q=i*n+j) (hlt:q < m.d.length) (hb:m.d.length < 1000000):ACalls Try.prog F.impl_Matrix_at [aM m,.int i,.int j] [] true (fun outs res=>outs=[]/\res=[.one (D.int (m.d[q]'hlt))]):=by
 refine ACalls.of_body (C:=C.impl_Matrix_at) (n:=Try.f75.ntmps) tabT folT Try.func75 rfl (by kernel_rfl) rfl (Nat.le_of_ble_eq_true rfl) (by decide) (by kernel_rfl) (by kernel_rfl) rfl (by simp) (by simp) ?_
 simp only [Try.f75]
 refine wseq ?_
 refine wreg fun K hK=>?_
 simp [C.impl_Matrix_at]
 refine hK _ ?_;clear hK K
 show AWp _ _ _ _ _
 refine wseq ?_
 have h0:((i:Int)*n)=((i*n:Nat):Int):=by simp
 have h1:IntKind.i64.wrap ((i:Int)*n)=(i:Int)*n:=by
  rw [h0,wrapOk (by omega) (by omega)]
 have h2:IntKind.i64.wrap ((i:Int)*n+j)=(q:Int):=by
  rw [h0,wrapOk (by omega) (by omega)]
  omega
 refine wreg fun K hK=>?_
 simp [C.impl_Matrix_at,hn,h1,h2,hlt,get_ints]
 refine hK _ ?_;clear hK K
 show AWp _ _ _ _ _
 refine wret ?_
 simp [C.impl_Matrix_at]
end Go.Proofs.Ytncfmemhjahpeaa.Ab
namespace Go.Proofs.Ytncfmemhjahpeaa.Ab
open Go
def g0 (l:List Int) (i:Nat):Int:=l.getD i 0
def bM (m:Mat) (i j:Nat):Int:=g0 m.d (i*m.n.toNat+j)
structure Sol (n:Nat) (b:Nat->Nat->Int) (d:Nat->Int):Prop where
 pos:∀ i,i < n->0 < d i
 rel:∀ i j,i < n->j < n->d i*b i j=-(d j*b j i)
theorem g0_set (l:List Int) (i j:Nat) (x:Int) (h:i < l.length):g0 (l.set i x) j=if i=j then x else g0 l j:=by
 simp only [g0,List.getD_eq_getElem?_getD,List.getElem?_set]
 split
 ·rename_i e;subst e;simp [h]
 ·rfl
theorem frac (A B:Int) (hA:0 < A) (hB:0 < B):∃ a b g:Int,0 < a/\0 < b/\0 < g/\(Int.gcd A B:Int)=g/\A=a*g/\B=b*g/\a.natAbs.Coprime b.natAbs:=by
 obtain ⟨A,rfl⟩:=Int.eq_ofNat_of_zero_le (Int.le_of_lt hA)
 obtain ⟨B,rfl⟩:=Int.eq_ofNat_of_zero_le (Int.le_of_lt hB)
 have hA':0 < A:=by omega
 have hB':0 < B:=by omega
 have hg:0 < A.gcd B:=Nat.gcd_pos_of_pos_left _ hA'
 have e1:=Nat.div_mul_cancel (Nat.gcd_dvd_left A B)
 have e2:=Nat.div_mul_cancel (Nat.gcd_dvd_right A B)
 refine ⟨(A / A.gcd B:Nat),(B / A.gcd B:Nat),A.gcd B,?_,?_,by omega,rfl,?_,?_,?_⟩
 ·have:=Nat.div_pos (Nat.le_of_dvd hA' (Nat.gcd_dvd_left A B)) hg;omega
 ·have:=Nat.div_pos (Nat.le_of_dvd hB' (Nat.gcd_dvd_right A B)) hg;omega
 ·rw [<-Int.natCast_mul,e1]
 ·rw [<-Int.natCast_mul,e2]
 ·rw [Int.natAbs_natCast,Int.natAbs_natCast];exact Nat.coprime_div_gcd_div_gcd hg
def Edge (b:Nat->Nat->Int) (num den:List Int) (P:List Nat) (i j:Nat):Prop:=
 (b i j=0/\b j i=0)\/(j∈P/\g0 num i*g0 den j*b i j=-(g0 num j*g0 den i*b j i))
structure BJ (n:Nat) (b:Nat->Nat->Int) (old:List Nat) (s:Nat) (num den:List Int) (P:List Nat) (a j:Nat):Prop where
 ln:num.length=n
 ld:den.length=n
 pn:P.Nodup
 pl:∀ i∈P,i < n
 mem:∀ i,i < n->(g0 num i≠0↔i∈old\/i∈P)
 pd:∀ i∈P,i ∉ old
 hd:P[0]? = some s
 s1:g0 num s=1/\g0 den s=1
 pos:∀ i∈P,0 < g0 num i/\0 < g0 den i/\(g0 num i).natAbs.Coprime (g0 den i).natAbs
 bd:∀ t (h:t < P.length),(g0 num P[t]).natAbs<=99 ^ t/\(g0 den P[t]).natAbs<=99 ^ t
 qd:∃ Q:Nat,0 < Q/\Q<=99 ^ (P.length - 1)/\∀ i∈P,(g0 den i).natAbs ∣ Q
 sol:∀ d,Sol n b d->∀ i∈P,d i*g0 den i=d s*g0 num i
 edge:∀ t (h:t < P.length),(t < a->∀ k,k < n->Edge b num den P P[t] k)/\(t=a->∀ k,k < j->Edge b num den P P[t] k)
structure OJ (n:Nat) (b:Nat->Nat->Int) (old:List Nat) (out:List Int):Prop where
 lo:out.length=n
 cl:∀ i∈old,i < n/\0 < g0 out i/\∀ j,j < n->(b i j=0/\b j i=0)\/(j∈old/\g0 out i*b i j=-(g0 out j*b j i))
 mn:∀ d,Sol n b d->∀ i∈old,g0 out i ∣ d i
 bd:∀ i∈old,g0 out i<=99 ^ 8
section
variable {n:Nat} {b:Nat->Nat->Int} {old:List Nat} {s:Nat} {num den out:List Int} {P:List Nat} {a j:Nat}
theorem BJ.start (ln:num.length=n) (ld:den.length=n) (hs:s < n) (hm:∀ i,i < n->(g0 num i≠0↔i∈old)) (h0:g0 num s=0):BJ n b old s (num.set s 1) (den.set s 1) [s] 0 0:=by
 have hso:s ∉ old:=fun h=>(hm s hs).2 h h0
 refine ⟨by simpa using ln,by simpa using ld,by simp,by simpa using hs,fun i hi=>?_,by simpa using hso,rfl,?_,?_,?_,⟨1,by simp,by simp,?_⟩,?_,?_⟩
 ·rw [g0_set _ _ _ _ (by omega)]
  by_cases e:s=i
  ·simp [e]
  ·rw [if_neg e,hm i hi]
   simp;omega
 ·rw [g0_set _ _ _ _ (by omega),g0_set _ _ _ _ (by omega)];simp
 ·intro i hi
  obtain rfl:i=s:=by simpa using hi
  rw [g0_set _ _ _ _ (by omega),g0_set _ _ _ _ (by omega)];simp
 ·intro t ht
  obtain rfl:t=0:=by simpa using ht
  simp only [List.getElem_cons_zero]
  rw [g0_set _ _ _ _ (by omega),g0_set _ _ _ _ (by omega)];simp
 ·intro i hi
  obtain rfl:i=s:=by simpa using hi
  rw [g0_set _ _ _ _ (by omega)];simp
 ·intro d _ i hi
  obtain rfl:i=s:=by simpa using hi
  rw [g0_set _ _ _ _ (by omega),g0_set _ _ _ _ (by omega)];simp
 ·intro t ht
  exact ⟨fun h=>absurd h (by omega),fun _ k h=>absurd h (by omega)⟩
theorem BJ.skip (h:BJ n b old s num den P a j) (ha:a < P.length) (h1:b P[a] j=0) (h2:b j P[a]=0):BJ n b old s num den P a (j+1):=
 { h with edge:=fun t ht=>⟨(h.edge t ht).1,fun e k hk=>by
   subst e
   by_cases q:k=j
   ·subst q;exact .inl ⟨h1,h2⟩
   ·exact (h.edge t ht).2 rfl k (by omega)⟩ }
theorem BJ.next (h:BJ n b old s num den P a n):BJ n b old s num den P (a+1) 0:=
 { h with edge:=fun t ht=>⟨fun e k hk=>by
   by_cases q:t=a
   ·exact (h.edge t ht).2 q k hk
   ·exact (h.edge t ht).1 (by omega) k hk,fun _ k h=>absurd h (by omega)⟩ }
theorem mul_sign {x y p q:Int} (hx:0 < x) (hy:0 < y) (e:x*p=y*q):(0 < p->0 < q)/\(p=0->q=0)/\(p < 0->q < 0):=by
 refine ⟨fun h=>?_,fun h=>?_,fun h=>?_⟩
 ·have h1:0 < y*q:=e ▸ Int.mul_pos hx h
  exact Int.pos_of_mul_pos_right h1 (by omega)
 ·rw [h,Int.mul_zero] at e
  rcases Int.mul_eq_zero.1 e.symm with h | h <;> omega
 ·have h1:0 < y * -q:=by rw [Int.mul_neg,<-e,<-Int.mul_neg];exact Int.mul_pos hx (by omega)
  have:=Int.pos_of_mul_pos_right h1 (by omega)
  omega
theorem sol_sign {d:Nat->Int} (hd:Sol n b d) {i:Nat} (hi:i < n) (hj:j < n):(0 < b i j↔0 < -b j i)/\(b i j=0↔b j i=0)/\(b i j < 0↔-b j i < 0):=by
 have h1:=hd.pos i hi
 have h2:=hd.pos j hj
 have h3:=hd.rel i j hi hj
 have e:d i*b i j=d j * -b j i:=by rw [h3,Int.mul_neg]
 have q1:=mul_sign h1 h2 e
 have q2:=mul_sign h2 h1 e.symm
 refine ⟨⟨q1.1,q2.1⟩,⟨fun h=>?_,fun h=>?_⟩,⟨q1.2.2,q2.2.2⟩⟩
 ·have:=q1.2.1 h;omega
 ·exact q2.2.1 (by omega)
theorem natAbs_same {p q:Int} (h:0 < p/\0 < q\/p < 0/\q < 0):∃ u v:Int,0 < u/\0 < v/\max p (-p)=u/\max q (-q)=v/\v*p=u*q/\u.natAbs=p.natAbs/\v.natAbs=q.natAbs/\(∀ x y:Int,x*p=y*q->x*u=y*v):=by
 rcases h with h | h
 ·refine ⟨p,q,h.1,h.2,by omega,by omega,Int.mul_comm _ _,rfl,rfl,fun x y e=>e⟩
 ·refine ⟨-p,-q,by omega,by omega,by omega,by omega,by grind,by omega,by omega,fun x y e=>by grind⟩
theorem BJ.new (h:BJ n b old s num den P a j) (hoc:∀ i∈old,∀ j,j < n->(b i j=0/\b j i=0)\/j∈old) (ha:a < P.length) (hj:j < n) (hB:∀ i j,i < n->j < n->(b i j).natAbs<=99)
  (hpq:0 < b P[a] j/\0 < -b j P[a]\/b P[a] j < 0/\-b j P[a] < 0) (hz:g0 num j=0) {u v x y g:Int}
  (hu:max (b P[a] j) (-b P[a] j)=u) (hv:max (-b j P[a]) (- -b j P[a])=v) (hg:0 < g) (hx0:0 < x) (hy0:0 < y) (hx:g0 num P[a]*u=x*g) (hy:g0 den P[a]*v=y*g) (hco:x.natAbs.Coprime y.natAbs) :
  BJ n b old s (num.set j x) (den.set j y) (P ++ [j]) a (j+1):=by
 have hin:P[a]∈P:=List.getElem_mem ha
 have hi:=h.pl _ hin
 have hjP:j ∉ old/\j ∉ P:=by
  have:=h.mem j hj
  simp only [hz,ne_eq,not_true_eq_false,false_iff,not_or] at this
  exact this
 have hne:∀ i∈P,j≠i:=fun i hi e=>hjP.2 (e ▸ hi)
 obtain ⟨u',v',hu0,hv0,hu',hv',hvp,hup,hvq,hrat⟩:=natAbs_same hpq
 obtain rfl:u=u':=by omega
 obtain rfl:v=v':=by omega
 have hpi:=h.pos _ hin
 have gn:∀ i∈P,g0 (num.set j x) i=g0 num i:=fun i hi=>by
  rw [g0_set _ _ _ _ (by have:=h.ln;omega),if_neg (hne i hi)]
 have gd:∀ i∈P,g0 (den.set j y) i=g0 den i:=fun i hi=>by
  rw [g0_set _ _ _ _ (by have:=h.ld;omega),if_neg (hne i hi)]
 have gnj:g0 (num.set j x) j=x:=by rw [g0_set _ _ _ _ (by have:=h.ln;omega),if_pos rfl]
 have gdj:g0 (den.set j y) j=y:=by rw [g0_set _ _ _ _ (by have:=h.ld;omega),if_pos rfl]
 have hs:s∈P:=List.mem_of_getElem? h.hd
 have hb1:u.natAbs<=99:=hup ▸ hB _ _ hi hj
 have hb2:v.natAbs<=99:=by have:=hB _ _ hj hi;omega
 have hxd:x.natAbs ∣ (g0 num P[a]).natAbs*u.natAbs:=by
  rw [<-Int.natAbs_mul,hx,Int.natAbs_mul];exact Nat.dvd_mul_right _ _
 have hyd:y.natAbs ∣ (g0 den P[a]).natAbs*v.natAbs:=by
  rw [<-Int.natAbs_mul,hy,Int.natAbs_mul];exact Nat.dvd_mul_right _ _
 have hbx:x.natAbs<=99 ^ P.length:=by
  have h1:=Nat.le_of_dvd (Nat.mul_pos (by omega) (by omega)) hxd
  have h2:=Nat.mul_le_mul (h.bd a ha).1 hb1
  rw [<-Nat.pow_succ] at h2
  have h3:99 ^ (a+1)<=99 ^ P.length:=Nat.pow_le_pow_right (by omega) (by omega)
  exact Nat.le_trans h1 (Nat.le_trans h2 h3)
 have hby:y.natAbs<=99 ^ P.length:=by
  have h1:=Nat.le_of_dvd (Nat.mul_pos (by omega) (by omega)) hyd
  have h2:=Nat.mul_le_mul (h.bd a ha).2 hb2
  rw [<-Nat.pow_succ] at h2
  have h3:99 ^ (a+1)<=99 ^ P.length:=Nat.pow_le_pow_right (by omega) (by omega)
  exact Nat.le_trans h1 (Nat.le_trans h2 h3)
 refine ⟨by simpa using h.ln,by simpa using h.ld,?_,?_,?_,?_,?_,?_,?_,?_,?_,?_,?_⟩
 ·rw [List.nodup_append]
  exact ⟨h.pn,by simp,fun i hi k hk=>by simp at hk;subst hk;exact (hne i hi).symm⟩
 ·intro i hi
  rcases List.mem_append.1 hi with hi | hi
  ·exact h.pl i hi
  ·simp at hi;omega
 ·intro i hi
  by_cases e:j=i
  ·subst e;rw [gnj];simp;omega
  ·rw [g0_set _ _ _ _ (by have:=h.ln;omega),if_neg e,h.mem i hi]
   simp only [List.mem_append,List.mem_singleton]
   constructor
   ·rintro (q | q)
    ·exact .inl q
    ·exact .inr (.inl q)
   ·rintro (q | q | q)
    ·exact .inl q
    ·exact .inr q
    ·omega
 ·intro i hi
  rcases List.mem_append.1 hi with hi | hi
  ·exact h.pd i hi
  ·simp at hi;subst hi;exact hjP.1
 ·rw [List.getElem?_append_left (by omega)];exact h.hd
 ·rw [gn s hs,gd s hs];exact h.s1
 ·intro i hi
  rcases List.mem_append.1 hi with hi | hi
  ·rw [gn i hi,gd i hi];exact h.pos i hi
  ·simp at hi;subst hi;rw [gnj,gdj];exact ⟨hx0,hy0,hco⟩
 ·intro t ht
  by_cases e:t < P.length
  ·have hm:=List.getElem_mem e
   rw [List.getElem_append_left e,gn _ hm,gd _ hm]
   exact h.bd t e
  ·have e2:t=P.length:=by simp at ht;omega
   subst e2
   simp only [List.getElem_concat_length]
   rw [gnj,gdj]
   exact ⟨hbx,hby⟩
 ·obtain ⟨Q,q1,q2,q3⟩:=h.qd
  refine ⟨Q*v.natAbs,Nat.mul_pos q1 (by omega),?_,?_⟩
  ·rw [List.length_append,List.length_singleton,Nat.add_sub_cancel]
   have h2:=Nat.mul_le_mul q2 hb2
   rw [<-Nat.pow_succ,show (P.length - 1).succ=P.length by omega] at h2
   exact h2
  ·intro i hi
   rcases List.mem_append.1 hi with hi | hi
   ·rw [gd i hi];exact Nat.dvd_trans (q3 i hi) (Nat.dvd_mul_right _ _)
   ·simp at hi;subst hi;rw [gdj]
    exact Nat.dvd_trans hyd (Nat.mul_dvd_mul_right (q3 _ hin) _)
 ·intro d hd i hi'
  rcases List.mem_append.1 hi' with hi' | hi'
  ·rw [gn i hi',gd i hi'];exact h.sol d hd i hi'
  ·simp at hi';subst hi';rw [gnj,gdj]
   have e1:=h.sol d hd _ hin
   have e2:=hrat (d P[a]) (d i) (by have:=hd.rel _ i hi hj;rw [this,Int.mul_neg])
   have:d i*y*g=d s*x*g:=by
    rw [Int.mul_assoc,<-hy,Int.mul_assoc,<-hx]
    calc d i*(g0 den P[a]*v)=(d i*v)*g0 den P[a]:=by grind
     _=(d P[a]*g0 den P[a])*u:=by rw [<-e2];grind
     _=d s*(g0 num P[a]*u):=by rw [e1];grind
   exact Int.eq_of_mul_eq_mul_right (by omega) this
 ·intro t ht
  have key:∀ i k,i∈P->Edge b num den P i k->Edge b (num.set j x) (den.set j y) (P ++ [j]) i k:=fun i k hi hk=>by
   rcases hk with hk | ⟨hk,e⟩
   ·exact .inl hk
   ·refine .inr ⟨by simp [hk],?_⟩
    rw [gn i hi,gd i hi,gn k hk,gd k hk];exact e
  by_cases e:t < P.length
  ·rw [List.getElem_append_left e]
   refine ⟨fun hta k hk=>key _ _ (List.getElem_mem e) ((h.edge t e).1 hta k hk),fun hta k hk=>?_⟩
   by_cases q:k=j
   ·obtain rfl:=hta;obtain rfl:=q
    refine .inr ⟨by simp,?_⟩
    rw [gn _ hin,gd _ hin,gnj,gdj]
    have:g0 num P[t]*y*b P[t] k*g=-(x*g0 den P[t]*b k P[t])*g:=by
     calc g0 num P[t]*y*b P[t] k*g=g0 num P[t]*(y*g)*b P[t] k:=by grind
      _=g0 num P[t]*g0 den P[t]*(v*b P[t] k):=by rw [<-hy];grind
      _=(g0 num P[t]*u)*g0 den P[t]*(-b k P[t]):=by rw [hvp];grind
      _=-(x*g0 den P[t]*b k P[t])*g:=by rw [hx];grind
    exact Int.eq_of_mul_eq_mul_right (by omega) this
   ·exact key _ _ (List.getElem_mem e) ((h.edge t e).2 hta k (by omega))
  ·have e2:t=P.length:=by simp at ht;omega
   exact ⟨fun h=>absurd h (by omega),fun h=>absurd h (by omega)⟩
theorem BJ.inP (h:BJ n b old s num den P a j) (hoc:∀ i∈old,∀ j,j < n->(b i j=0/\b j i=0)\/j∈old) (ha:a < P.length) (hj:j < n) (hne:b P[a] j≠0) (hz:g0 num j≠0):j∈P:=by
 have hin:P[a]∈P:=List.getElem_mem ha
 rcases (h.mem j hj).1 hz with q | q
 ·rcases hoc j q P[a] (h.pl _ hin) with e | e
  ·exact absurd e.2 hne
  ·exact absurd e (h.pd _ hin)
 ·exact q
theorem BJ.cmp (h:BJ n b old s num den P a j) (hoc:∀ i∈old,∀ j,j < n->(b i j=0/\b j i=0)\/j∈old) (ha:a < P.length) (hj:j < n)
  (hpq:0 < b P[a] j/\0 < -b j P[a]\/b P[a] j < 0/\-b j P[a] < 0) (hz:g0 num j≠0) {u v x y g:Int}
  (hu:max (b P[a] j) (-b P[a] j)=u) (hv:max (-b j P[a]) (- -b j P[a])=v) (hg:0 < g) (hx0:0 < x) (hy0:0 < y) (hx:g0 num P[a]*u=x*g) (hy:g0 den P[a]*v=y*g) (hco:x.natAbs.Coprime y.natAbs) :
  (g0 num j=x/\g0 den j=y->BJ n b old s num den P a (j+1))/\(¬ (g0 num j=x/\g0 den j=y)->∀ d,¬ Sol n b d):=by
 have hin:P[a]∈P:=List.getElem_mem ha
 have hjP:=h.inP hoc ha hj (by omega) hz
 obtain ⟨u',v',hu0,hv0,hu',hv',hvp,hup,hvq,hrat⟩:=natAbs_same hpq
 obtain rfl:u=u':=by omega
 obtain rfl:v=v':=by omega
 refine ⟨fun ⟨e1,e2⟩=>?_,fun hne d hd=>hne ?_⟩
 ·refine { h with edge:=fun t ht=>⟨(h.edge t ht).1,fun e k hk=>?_⟩ }
  subst e
  by_cases q:k=j
  ·subst q
   refine .inr ⟨hjP,?_⟩
   rw [e1,e2]
   have:g0 num P[t]*y*b P[t] k*g=-(x*g0 den P[t]*b k P[t])*g:=by
    calc g0 num P[t]*y*b P[t] k*g=g0 num P[t]*(y*g)*b P[t] k:=by grind
     _=g0 num P[t]*g0 den P[t]*(v*b P[t] k):=by rw [<-hy];grind
     _=(g0 num P[t]*u)*g0 den P[t]*(-b k P[t]):=by rw [hvp];grind
     _=-(x*g0 den P[t]*b k P[t])*g:=by rw [hx];grind
   exact Int.eq_of_mul_eq_mul_right (by omega) this
  ·exact (h.edge t ht).2 rfl k (by omega)
 ·have e1:=h.sol d hd _ hin
  have e3:=h.sol d hd _ hjP
  have e2:=hrat (d P[a]) (d j) (by have:=hd.rel _ j (h.pl _ hin) hj;rw [this,Int.mul_neg])
  have e4:d j*y=d s*x:=by
   have:d j*y*g=d s*x*g:=by
    rw [Int.mul_assoc,<-hy,Int.mul_assoc,<-hx]
    calc d j*(g0 den P[a]*v)=(d j*v)*g0 den P[a]:=by grind
     _=(d P[a]*g0 den P[a])*u:=by rw [<-e2];grind
     _=d s*(g0 num P[a]*u):=by rw [e1];grind
   exact Int.eq_of_mul_eq_mul_right (by omega) this
  have hp:=h.pos j hjP
  have hds:=hd.pos s (h.pl s (List.mem_of_getElem? h.hd))
  have e5:g0 num j*y=x*g0 den j:=by
   have h0:d s*(g0 num j*y)=d s*(x*g0 den j):=by
    calc d s*(g0 num j*y)=(d s*g0 num j)*y:=by grind
     _=(d j*y)*g0 den j:=by rw [<-e3];grind
     _=d s*(x*g0 den j):=by rw [e4];grind
   exact Int.eq_of_mul_eq_mul_left (by omega) h0
  have e6:(g0 num j).natAbs*y.natAbs=x.natAbs*(g0 den j).natAbs:=by rw [<-Int.natAbs_mul,e5,Int.natAbs_mul]
  have k1:(g0 num j).natAbs=x.natAbs:=by
   refine Nat.dvd_antisymm ?_ ?_
   ·exact hp.2.2.dvd_of_dvd_mul_right (e6 ▸ Nat.dvd_mul_right _ _)
   ·exact hco.dvd_of_dvd_mul_right (e6 ▸ Nat.dvd_mul_right _ _)
  have k2:(g0 den j).natAbs=y.natAbs:=by
   rw [k1] at e6
   exact (Nat.eq_of_mul_eq_mul_left (by omega) e6).symm
  omega
theorem sign_fail {i j:Nat} (hi:i < n) (hj:j < n) (h0:¬ (b i j=0/\-b j i=0)) (h:¬ (0 < b i j/\0 < -b j i\/b i j < 0/\-b j i < 0)\/i=j) (d:Nat->Int):¬ Sol n b d:=fun hd=>by
 obtain ⟨h1,h2,h3⟩:=sol_sign hd hi hj
 rcases h with h | h
 ·omega
 ·subst h
  omega
theorem BJ.den_dvd (h:BJ n b old s num den P a j) {d:Nat->Int} (hd:Sol n b d) {i:Nat} (hi:i∈P):g0 den i ∣ d s:=by
 have e:=h.sol d hd i hi
 have hp:=h.pos i hi
 have:(g0 den i).natAbs ∣ (d s).natAbs:=by
  refine hp.2.2.symm.dvd_of_dvd_mul_right (n:=(g0 num i).natAbs) ?_
  rw [<-Int.natAbs_mul,<-e,Int.natAbs_mul]
  exact Nat.dvd_mul_left _ _
 exact Int.natAbs_dvd_natAbs.1 this
structure CJ (n:Nat) (b:Nat->Nat->Int) (s:Nat) (den:List Int) (P:List Nat) (t:Nat) (c:Int):Prop where
 pos:0 < c
 dv:∀ i∈P.take t,g0 den i ∣ c
 qd:c<=99 ^ 4
 ex:∃ Q:Nat,Q<=99 ^ 4/\0 < Q/\c.natAbs ∣ Q/\∀ i∈P,(g0 den i).natAbs ∣ Q
 sol:∀ d,Sol n b d->c ∣ d s
theorem lcm_step {c e:Int} (hc:0 < c) (he:0 < e):∃ w:Nat,c.tdiv (Int.gcd c e:Int)=w/\w<=c/\(w:Int)*e=(Nat.lcm c.natAbs e.natAbs:Nat):=by
 obtain ⟨c,rfl⟩:=Int.eq_ofNat_of_zero_le (Int.le_of_lt hc)
 obtain ⟨e,rfl⟩:=Int.eq_ofNat_of_zero_le (Int.le_of_lt he)
 refine ⟨c / c.gcd e,?_,?_,?_⟩
 ·rw [Int.gcd_natCast_natCast,<-Int.ofNat_tdiv]
 ·have:=Nat.div_le_self c (c.gcd e);omega
 ·rw [Int.natAbs_natCast,Int.natAbs_natCast,<-Int.natCast_mul,Nat.lcm]
  congr 1
  rw [Nat.div_mul_right_comm (Nat.gcd_dvd_left c e)]
theorem CJ.start (h:BJ n b old s num den P a j) (hn:n<=5) (hPl:P.length<=n):CJ n b s den P 0 1:=by
 obtain ⟨Q,q1,q2,q3⟩:=h.qd
 refine ⟨by omega,by simp,by decide,⟨Q,Nat.le_trans q2 (Nat.pow_le_pow_right (by omega) (by omega)),q1,by simp,q3⟩,fun d _=>Int.one_dvd _⟩
theorem CJ.step {t:Nat} {c:Int} (h:CJ n b s den P t c) (hB:BJ n b old s num den P a j) (ht:t < P.length):CJ n b s den P (t+1) (c.tdiv (Int.gcd c (g0 den P[t]):Int)*g0 den P[t]):=by
 have hin:P[t]∈P:=List.getElem_mem ht
 obtain ⟨w,w1,_,w2⟩:=lcm_step h.pos (hB.pos _ hin).2.1
 rw [w1,w2]
 obtain ⟨Q,q1,q2,q3,q4⟩:=h.ex
 have hQ:Nat.lcm c.natAbs (g0 den P[t]).natAbs ∣ Q:=Nat.lcm_dvd q3 (q4 _ hin)
 have hp:0 < Nat.lcm c.natAbs (g0 den P[t]).natAbs:=Nat.pos_of_dvd_of_pos hQ q2
 have hl:=Nat.le_of_dvd q2 hQ
 refine ⟨by omega,fun i hi=>?_,?_,⟨Q,q1,q2,by simpa using hQ,q4⟩,fun d hd=>?_⟩
 ·rw [List.take_succ_eq_append_getElem ht] at hi
  rcases List.mem_append.1 hi with hi | hi
  ·exact Int.dvd_trans (h.dv i hi) (Int.natAbs_dvd.1 (Int.natCast_dvd_natCast.2 (Nat.dvd_lcm_left _ _)))
  ·obtain rfl:i=P[t]:=by simpa using hi
   exact Int.natAbs_dvd.1 (Int.natCast_dvd_natCast.2 (Nat.dvd_lcm_right _ _))
 ·have:(Nat.lcm c.natAbs (g0 den P[t]).natAbs:Int)<=((99 ^ 4:Nat):Int):=by omega
  exact this
 ·have h1:c.natAbs ∣ (d s).natAbs:=Int.natAbs_dvd_natAbs.2 (h.sol d hd)
  have h2:(g0 den P[t]).natAbs ∣ (d s).natAbs:=Int.natAbs_dvd_natAbs.2 (hB.den_dvd hd hin)
  exact Int.dvd_natAbs.1 (Int.natCast_dvd_natCast.2 (Nat.lcm_dvd h1 h2))
def wM (c:Int) (num den:List Int) (i:Nat):Int:=c.tdiv (g0 den i)*g0 num i
theorem pow4 {P:List Nat} {t n:Nat} (ht:t < P.length) (hn:n<=5) (hP:P.length<=n):99 ^ t<=99 ^ 4:=Nat.pow_le_pow_right (by omega) (by omega)
theorem wM_spec {c:Int} (h:CJ n b s den P P.length c) (hB:BJ n b old s num den P a j) (hn:n<=5) (hPl:P.length<=n) {i:Nat} (hi:i∈P) :
  0 < c.tdiv (g0 den i)/\c.tdiv (g0 den i)<=99 ^ 4/\0 < wM c num den i/\wM c num den i<=99 ^ 8/\wM c num den i*g0 den i=c*g0 num i/\(∀ d,Sol n b d->wM c num den i ∣ d i):=by
 obtain ⟨h1,h2,h3⟩:=hB.pos i hi
 have hd:=h.dv i (by rw [List.take_length];exact hi)
 obtain ⟨k,hk⟩:=hd
 have e1:c.tdiv (g0 den i)=k:=by rw [hk,Int.mul_comm,Int.mul_tdiv_cancel _ (by omega)]
 have hk0:0 < k:=Int.pos_of_mul_pos_right (hk ▸ h.pos) (by omega)
 have hkc:k<=c:=by
  rw [hk]
  have:1*k<=g0 den i*k:=Int.mul_le_mul_of_nonneg_right (by omega) (by omega)
  omega
 have hc:=h.qd
 obtain ⟨t,ht,rfl⟩:=List.getElem_of_mem hi
 have hb:=(hB.bd t ht).1
 have hb2:=pow4 ht hn hPl
 unfold wM
 rw [e1]
 refine ⟨hk0,by omega,Int.mul_pos hk0 h1,?_,?_,fun d hd=>?_⟩
 ·have h5:k.natAbs*(g0 num P[t]).natAbs<=99 ^ 4*99 ^ 4:=Nat.mul_le_mul (by omega) (by omega)
  rw [<-Int.natAbs_mul] at h5
  have h6:=Int.mul_pos hk0 h1
  generalize k*g0 num P[t]=z at *
  omega
 ·rw [hk];grind
 ·obtain ⟨z,hz⟩:=h.sol d hd
  have e:=hB.sol d hd _ hi
  refine ⟨z,?_⟩
  have:d P[t]*g0 den P[t]=k*g0 num P[t]*z*g0 den P[t]:=by rw [e,hz,hk];grind
  exact Int.eq_of_mul_eq_mul_right (by omega) this
theorem take_mem_snoc {P:List Nat} {t:Nat} (ht:t < P.length) (i:Nat):i∈P.take (t+1)↔i∈P.take t\/i=P[t]:=by
 rw [List.take_succ_eq_append_getElem ht];simp only [List.mem_append,List.mem_singleton]
theorem nodup_take {P:List Nat} (h:P.Nodup) {t:Nat} (ht:t < P.length):P[t] ∉ P.take t:=fun hm=>by
 have:(P.take t ++ P.drop t).Nodup:=by rw [List.take_append_drop];exact h
 rw [List.nodup_append] at this
 exact this.2.2 _ hm P[t] (by rw [List.drop_eq_getElem_cons ht];simp only [List.mem_cons,true_or]) rfl
structure WJ (c:Int) (num den:List Int) (P:List Nat) (o0:List Int) (t:Nat) (o:List Int) (g:Int):Prop where
 len:o.length=o0.length
 val:∀ i,g0 o i=if i∈P.take t then wM c num den i else g0 o0 i
 g0':0<=g/\(0 < t->0 < g)
 gd:∀ i∈P.take t,g ∣ wM c num den i
theorem WJ.start (c:Int) (num den:List Int) (P:List Nat) (o0:List Int):WJ c num den P o0 0 o0 0:=⟨rfl,by simp,by omega,by simp⟩
theorem WJ.step {c:Int} {o0 o:List Int} {t:Nat} {g:Int} (h:WJ c num den P o0 t o g) (ht:t < P.length) (hl:P[t] < o0.length) (hw:0 < wM c num den P[t]):WJ c num den P o0 (t+1) (o.set P[t] (wM c num den P[t])) (Int.gcd g (wM c num den P[t]):Int):=by
 refine ⟨by simpa using h.len,fun i=>?_,⟨by omega,fun _=>?_⟩,fun i hi=>?_⟩
 ·rw [g0_set _ _ _ _ (by have:=h.len;omega),h.val i]
  simp only [take_mem_snoc ht]
  by_cases e:P[t]=i
  ·subst e;simp
  ·rw [if_neg e]
   have:¬ i=P[t]:=fun q=>e q.symm
   simp [this]
 ·have:=Int.gcd_pos_of_ne_zero_right g (show wM c num den P[t]≠0 by omega)
  omega
 ·rcases (take_mem_snoc ht i).1 hi with hi | rfl
  ·exact Int.dvd_trans (Int.gcd_dvd_left _ _) (h.gd i hi)
  ·exact Int.gcd_dvd_right _ _
structure VJ (w:Nat->Int) (g:Int) (P:List Nat) (o0:List Int) (t:Nat) (o:List Int):Prop where
 len:o.length=o0.length
 val:∀ i,g0 o i=if i∈P.take t then (w i).tdiv g else if i∈P then w i else g0 o0 i
theorem VJ.start {c:Int} {o0 o:List Int} {g:Int} (h:WJ c num den P o0 P.length o g):VJ (wM c num den) g P o0 0 o:=⟨h.len,fun i=>by rw [h.val i,List.take_length];simp⟩
theorem VJ.step {w:Nat->Int} {g:Int} {o0 o:List Int} {t:Nat} (hP:P.Nodup) (h:VJ w g P o0 t o) (ht:t < P.length) (hl:P[t] < o0.length):g0 o P[t]=w P[t]/\VJ w g P o0 (t+1) (o.set P[t] ((w P[t]).tdiv g)):=by
 refine ⟨by rw [h.val,if_neg (nodup_take hP ht),if_pos (List.getElem_mem ht)],by simpa using h.len,fun i=>?_⟩
 rw [g0_set _ _ _ _ (by have:=h.len;omega),h.val i]
 simp only [take_mem_snoc ht]
 by_cases e:P[t]=i
 ·subst e;simp
 ·rw [if_neg e]
  have:¬ i=P[t]:=fun q=>e q.symm
  simp [this]
theorem OJ.grow {c g:Int} {o0 o1 o:List Int} (hO:OJ n b old o0) (hB:BJ n b old s num den P P.length j) (hn:n<=5) (hPl:P.length<=n) (hC:CJ n b s den P P.length c) (hW:WJ c num den P o0 P.length o1 g) (hV:VJ (wM c num den) g P o0 P.length o):OJ n b (old ++ P) o:=by
 have hgp:0 < g:=hW.g0'.2 (List.length_pos_of_mem (List.mem_of_getElem? hB.hd))
 have hv:∀ i∈P,∃ z,0 < z/\g0 o i=z/\wM c num den i=z*g:=fun i hi=>by
  obtain ⟨z,hz⟩:=hW.gd i (by rw [List.take_length];exact hi)
  have hp:=(wM_spec hC hB hn hPl hi).2.2.1
  refine ⟨z,Int.pos_of_mul_pos_right (hz ▸ hp) (by omega),?_,by rw [hz,Int.mul_comm]⟩
  rw [hV.val,List.take_length,if_pos hi,hz,Int.mul_comm,Int.mul_tdiv_cancel _ (by omega)]
 have hov:∀ i∈old,g0 o i=g0 o0 i:=fun i hi=>by
  have:i ∉ P:=fun q=>hB.pd i q hi
  rw [hV.val,List.take_length,if_neg this,if_neg this]
 refine ⟨hV.len.trans hO.lo,fun i hi=>?_,fun d hd i hi=>?_,fun i hi=>?_⟩
 ·rcases List.mem_append.1 hi with hi | hi
  ·obtain ⟨h1,h2,h3⟩:=hO.cl i hi
   refine ⟨h1,by rw [hov i hi];exact h2,fun k hk=>(h3 k hk).imp id fun ⟨e1,e2⟩=>⟨by simp [e1],by rw [hov i hi,hov k e1];exact e2⟩⟩
  ·obtain ⟨z,z0,z1,z2⟩:=hv i hi
   refine ⟨hB.pl i hi,by omega,fun k hk=>?_⟩
   obtain ⟨t,ht,rfl⟩:=List.getElem_of_mem hi
   rcases (hB.edge t ht).1 ht k hk with e | ⟨e1,e2⟩
   ·exact .inl e
   ·right
    obtain ⟨x,x0,x1,x2⟩:=hv k e1
    refine ⟨by simp [e1],?_⟩
    rw [z1,x1]
    have f1:=(wM_spec hC hB hn hPl hi).2.2.2.2.1
    have f2:=(wM_spec hC hB hn hPl e1).2.2.2.2.1
    rw [z2] at f1
    rw [x2] at f2
    have p1:=hB.pos _ hi
    have p2:=hB.pos _ e1
    have hc:=hC.pos
    have key:(z*b P[t] k)*(g*g0 den P[t]*g0 den k)=(-(x*b k P[t]))*(g*g0 den P[t]*g0 den k):=by
     calc (z*b P[t] k)*(g*g0 den P[t]*g0 den k)=(z*g*g0 den P[t])*g0 den k*b P[t] k:=by grind
      _=c*(g0 num P[t]*g0 den k*b P[t] k):=by rw [f1];grind
      _=-(c*g0 num k)*g0 den P[t]*b k P[t]:=by rw [e2];grind
      _=(-(x*b k P[t]))*(g*g0 den P[t]*g0 den k):=by rw [<-f2];grind
    exact Int.eq_of_mul_eq_mul_right (by have:=Int.mul_pos (Int.mul_pos hgp p1.2.1) p2.2.1;omega) key
 ·rcases List.mem_append.1 hi with hi | hi
  ·rw [hov i hi];exact hO.mn d hd i hi
  ·obtain ⟨z,z0,z1,z2⟩:=hv i hi
   rw [z1]
   have h1:=(wM_spec hC hB hn hPl hi).2.2.2.2.2 d hd
   rw [z2] at h1
   exact Int.dvd_trans (Int.dvd_mul_right _ _) h1
 ·rcases List.mem_append.1 hi with hi | hi
  ·rw [hov i hi];exact hO.bd i hi
  ·obtain ⟨z,z0,z1,z2⟩:=hv i hi
   rw [z1]
   have h1:=(wM_spec hC hB hn hPl hi).2.2.2.1
   rw [z2] at h1
   have h2:z*1<=z*g:=Int.mul_le_mul_of_nonneg_left (by omega) (by omega)
   omega
end
end Go.Proofs.Ytncfmemhjahpeaa.Ab
namespace Go.Proofs.Ytncfmemhjahpeaa.Ab
open Go
section
variable {n:Nat} {b:Nat->Nat->Int} {old:List Nat} {s:Nat} {d0 d:List Int} {L F:List Nat} {a j:Nat}
theorem nodup_len:∀ {n:Nat} {L:List Nat},L.Nodup->(∀ i∈L,i < n)->L.length<=n
 | 0,L,_,h2=>by
  cases L with
  | nil=>simp
  | cons x L=>exact absurd (h2 x (by simp)) (by omega)
 | n+1,L,h1,h2=>by
  have h3:=nodup_len (n:=n) (L:=L.erase n) (h1.erase n) fun i hi=>by
   have h4:=h2 i (List.mem_of_mem_erase hi)
   have h5:i≠n:=fun e=>by
    subst e
    exact (List.Nodup.not_mem_erase h1) hi
   omega
  by_cases e:n∈L
  ·rw [List.length_erase_of_mem e] at h3;omega
  ·rw [List.erase_of_not_mem e] at h3;omega
end
end Go.Proofs.Ytncfmemhjahpeaa.Ab
namespace Go.Proofs.Ytncfmemhjahpeaa.Ab
open Go
def ShM (m:Mat):Prop:=(1<=m.n/\m.n<=5)/\(m.n<=m.r/\m.r<=8)/\(m.d.length:Int)=m.n*m.r/\∀ x∈m.d,-99<=x/\x<=99
def MatOK (m:Mat):Prop:=ShM m/\∃ d,Sol m.n.toNat (bM m) d
noncomputable instance (m:Mat):Decidable (ShM m):=Classical.propDecidable _
noncomputable instance (m:Mat):Decidable (MatOK m):=Classical.propDecidable _
def MinSol (n:Nat) (b:Nat->Nat->Int) (l:List Int):Prop:=l.length=n/\Sol n b (g0 l)/\(∀ e,Sol n b e->∀ i,i < n->g0 l i ∣ e i)/\∀ i,i < n->g0 l i<=99 ^ 8
theorem MinSol.uniq {n:Nat} {b:Nat->Nat->Int} {l k:List Int} (h:MinSol n b l) (h':MinSol n b k):l=k:=by
 refine List.ext_getElem (by rw [h.1,h'.1]) fun i h1 h2=>?_
 have hi:i < n:=by have:=h.1;omega
 have e1:=h.2.2.1 _ h'.2.1 i hi
 have e2:=h'.2.2.1 _ h.2.1 i hi
 have p1:=h.2.1.pos i hi
 have p2:=h'.2.1.pos i hi
 have:g0 l i=g0 k i:=Int.dvd_antisymm (by omega) (by omega) e1 e2
 simpa [g0,List.getD_eq_getElem?_getD,h1,h2] using this
theorem OJ.min {n:Nat} {b:Nat->Nat->Int} {old:List Nat} {out:List Int} (h:OJ n b old out) (ha:∀ i,i < n->i∈old):MinSol n b out:=by
 refine ⟨h.lo,⟨fun i hi=>(h.cl i (ha i hi)).2.1,fun i j hi hj=>?_⟩,fun e he i hi=>h.mn e he i (ha i hi),fun i hi=>h.bd i (ha i hi)⟩
 rcases (h.cl i (ha i hi)).2.2 j hj with q | q
 ·rw [q.1,q.2];simp
 ·exact q.2
theorem bM_get {m:Mat} (h:ShM m) {i j:Nat} (hi:(i:Int) < m.r) (hj:(j:Int) < m.n):∃ hq:i*m.n.toNat+j < m.d.length,m.d[i*m.n.toNat+j]=bM m i j:=by
 obtain ⟨n,hn⟩:∃ n:Nat,m.n=n:=⟨m.n.toNat,by have:=h.1;omega⟩
 obtain ⟨r,hr⟩:∃ r:Nat,m.r=r:=⟨m.r.toNat,by have:=h.1;have:=h.2.1;omega⟩
 have hl:=h.2.2.1
 rw [hn,hr,<-Int.natCast_mul] at hl
 have hq:i*m.n.toNat+j < m.d.length:=by
  rw [hn,Int.toNat_natCast,show m.d.length=n*r by omega]
  have h1:(i+1)*n<=r*n:=Nat.mul_le_mul_right _ (by omega)
  rw [Nat.mul_comm n r]
  rw [Nat.add_mul] at h1
  omega
 exact ⟨hq,by simp [bM,g0,List.getD_eq_getElem?_getD,hq]⟩
theorem bM_bd {m:Mat} (h:ShM m) (i j:Nat):(bM m i j).natAbs<=99:=by
 unfold bM
 simp only [g0,List.getD_eq_getElem?_getD]
 by_cases q:i*m.n.toNat+j < m.d.length
 ·rw [List.getElem?_eq_getElem q]
  have:=h.2.2.2 _ (List.getElem_mem q)
  simp only [Option.getD_some]
  omega
 ·rw [List.getElem?_eq_none (by omega)];simp
def muE (b:Nat->Nat->Int) (k i j:Nat):Int:=
 if i=k\/j=k then -b i j else if 0 < b i k/\0 < b k j then b i j+b i k*b k j else if b i k < 0/\b k j < 0 then b i j - b i k*b k j else b i j
def muD (m:Mat) (k:Nat):List Int:=(List.range m.d.length).map fun q=>muE (bM m) k (q / m.n.toNat) (q % m.n.toNat)
def muM (m:Mat) (k:Nat):Mat:=⟨m.n,m.r,muD m k⟩
@[simp] theorem muD_length (m:Mat) (k:Nat):(muD m k).length=m.d.length:=by simp [muD]
theorem muD_get (m:Mat) (k i j:Nat) (hj:j < m.n.toNat) (h:i*m.n.toNat+j < m.d.length):(muD m k)[i*m.n.toNat+j]'(by simpa using h)=muE (bM m) k i j:=by
 simp only [muD,List.getElem_map,List.getElem_range]
 rw [Nat.mul_comm i,Nat.mul_add_div (by omega),Nat.div_eq_of_lt hj,Nat.mul_add_mod,Nat.mod_eq_of_lt hj,Nat.add_zero]
noncomputable def muF (m:Mat) (k:Int):Mat×Bool:=if MatOK m/\(0<=k/\k < m.n)/\MatOK (muM m k.toNat) then (muM m k.toNat,true) else (⟨0,0,[]⟩,false)
end Go.Proofs.Ytncfmemhjahpeaa.Ab
namespace Go.Proofs.Ytncfmemhjahpeaa.Ab
open Go
set_option maxRecDepth 10000
set_option maxHeartbeats 2000000
def cN (P:List Nat):List Int:=P.map fun i=>((i:Nat):Int)
@[simp] theorem cN_length (P:List Nat):(cN P).length=P.length:=by simp [cN]
theorem cN_get {P:List Nat} {t:Nat} (h:t < P.length):(cN P)[t]'(by simpa using h)=(P[t]:Int):=by simp [cN]
theorem cN_snoc (P:List Nat) (j:Nat):ints (cN P) ++ [D.v (.int .i64 j)]=ints (cN (P ++ [j])):=by simp [cN,ints]
theorem g0_get {l:List Int} {i:Nat} (h:i < l.length):l[i]=g0 l i:=by simp [g0,List.getD_eq_getElem?_getD,h]
theorem BJ.mul {n:Nat} {b:Nat->Nat->Int} {old:List Nat} {s:Nat} {num den:List Int} {P:List Nat} {a j:Nat} (h:BJ n b old s num den P a j) (hn:n<=5) (ha:a < P.length) {u:Int} (hu:0 < u) (hu9:u<=99) :
  (0 < g0 num P[a]*u/\g0 num P[a]*u<=9509900499)/\(0 < g0 den P[a]*u/\g0 den P[a]*u<=9509900499):=by
 have hp:=h.pos _ (List.getElem_mem ha)
 have hb:=h.bd a ha
 have h4:=pow4 ha hn (nodup_len h.pn h.pl)
 have e1:=Int.mul_pos hp.1 hu
 have e2:=Int.mul_pos hp.2.1 hu
 have f1:=Nat.mul_le_mul (show (g0 num P[a]).natAbs<=99 ^ 4 by omega) (show u.natAbs<=99 by omega)
 have f2:=Nat.mul_le_mul (show (g0 den P[a]).natAbs<=99 ^ 4 by omega) (show u.natAbs<=99 by omega)
 rw [<-Int.natAbs_mul] at f1 f2
 generalize g0 num P[a]*u=z1 at *
 generalize g0 den P[a]*u=z2 at *
 omega
theorem at_c {m:Mat} {n:Nat} (hn:m.n=n) (hS:ShM m) {i j:Nat} (hi:(i:Int) < m.r) (hj:j < n):ACalls Try.prog F.impl_Matrix_at [.ag [.int n,.int m.r,.d (shI m.d)],.int i,.int j] [] true (fun outs res=>outs=[]/\res=[.one (D.int (bM m i j))]):=by
 obtain ⟨hq,he⟩:=bM_get hS hi (show (j:Int) < m.n by omega)
 have hnn:m.n.toNat=n:=by omega
 have hl:m.d.length < 1000000:=by
  have h1:=hS.2.2.1
  have h2:=hS.1
  have h3:=hS.2.1
  have:m.n*m.r<=5*8:=Int.mul_le_mul (by omega) (by omega) (by omega) (by omega)
  omega
 have:=impl_Matrix_at_c m i j (i*m.n.toNat+j) n hn (by rw [hnn]) hq hl
 have e:aM m = .ag [.int n,.int m.r,.d (shI m.d)]:=by rw [<-hn]
 rw [e,he] at this
 exact this
theorem impl_factors_c (m:Mat) (n:Nat) (hn:m.n=n) (hS:ShM m):ACalls Try.prog F.impl_factors [.ag [.int n,.int m.r,.d (shI m.d)]] [] true (fun outs res=>outs=[]/\((∃ l,MinSol n (bM m) l/\res=[.one (owI l)])\/((∀ d,¬ Sol n (bM m) d)/\res=[.one (.v (.slice none 0 0))]))):=by
 have hn5:1<=n/\n<=5:=by have:=hS.1;omega
 have hnr:(n:Int)<=m.r:=by have:=hS.2.1;omega
 have hB:∀ i j,i < n->j < n->(bM m i j).natAbs<=99:=fun i j _ _=>bM_bd hS i j
 refine ACalls.of_body (C:=C.impl_factors) (n:=Try.f72.ntmps) tabT folT Try.func72 rfl (by kernel_rfl) rfl (Nat.le_of_ble_eq_true rfl) (by decide) (by kernel_rfl) (by kernel_rfl) rfl (by simp) (by simp) ?_
 simp only [Try.f72]
 refine wseq ?_
 refine wreg fun K hK=>?_
 simp [C.impl_factors]
 refine hK _ ?_;clear hK K
 show AWp _ _ _ _ _
 refine wseq ?_
 refine wdraw (.take 0 (.take 1 (.take 3 (.take 4 (.all [(2,.take 6 (.all [(5,.take 7 (.done))])),(5,.all [(2,.take 6 (.take 7 (.done)))])]))))) ⟨by kernel_rfl,by kernel_rfl⟩ fun K hK=>?_
 have hJ:K ⟨ofL [(1,.pt (1,0) [] 0),(3,.al (3,0) [] 0 n),(4,.al (4,0) [] 0 n)],ofRO [((1,0),some (.bx [D.int n,D.int m.r,shI m.d])),((3,0),some (.ow 1 n (ints (List.replicate n 0)))),((4,0),some (.ow 1 n (ints (List.replicate n 0))))]⟩:=by
  refine hK _ ?_;clear hK K
  show AWp _ _ _ _ _
  refine wseq ?_
  refine wreg fun K hK=>?_
  simp [C.impl_factors,zeros_ints,show (8:Int)*n<=281474976710656 by omega,show (n:Int)<=281474976710656 by omega]
  refine hK _ ?_;clear hK K
  show AWp _ _ _ _ _
  refine wseq ?_
  refine wseq ?_
  refine wreg fun K hK=>?_
  simp [C.impl_factors]
  refine hK _ ?_;clear hK K
  show AWp _ _ _ _ _
  refine wblock ?_
  refine wloop (fun x:Nat×List Int×List Int×List Int×List Nat=>⟨ofL [(1,.pt (1,0) [] 0),(3,.al (3,0) [] 0 n),(4,.al (4,0) [] 0 n),(5,.al (5,0) [] 0 n),(34,.int n),(35,.int (x.1:Nat))],ofRO [((1,0),some (.bx [D.int n,D.int m.r,shI m.d])),((3,0),some (.ow 1 n (ints x.2.1))),((4,0),some (.ow 1 n (ints x.2.2.1))),((5,0),some (.ow 1 n (ints x.2.2.2.1)))]⟩) (fun x=>x.1<=n/\(x.2.1.length=n/\x.2.2.1.length=n)/\(∀ i,i < n->(g0 x.2.1 i≠0↔i∈x.2.2.2.2))/\OJ n (bM m) x.2.2.2.2 x.2.2.2.1/\∀ i,i < x.1->i∈x.2.2.2.2) (fun x=>n - x.1) (0,List.replicate n 0,List.replicate n 0,List.replicate n 0,[]) (by simp [C.impl_factors]) ⟨by simp,by simp,fun i hi=>by simp [g0,List.getD_eq_getElem?_getD,hi],⟨by simp,by simp,by simp,by simp⟩,by simp⟩ ?_
  intro x1 hx1 R1 hR1
  obtain ⟨s,num,den,out,old⟩:=x1
  obtain ⟨hs,⟨hln,hld⟩,hmem,hO,hall⟩:=hx1
  dsimp only at hs hln hld hmem hO hall ⊢
  have hoc:∀ i∈old,∀ j,j < n->(bM m i j=0/\bM m j i=0)\/j∈old:=fun i hi j hj=>((hO.cl i hi).2.2 j hj).imp id fun q=>q.1
  refine wseq ?_
  refine wreg fun K hK=>?_
  simp [C.impl_factors]
  refine hK _ ?_;clear hK K
  show AWp _ _ _ _ _
  refine wseq ?_
  refine wcond _ rfl (fun hc1=>?_) (fun hc1=>?_)
  ·have h1:s < n:=by have:=d_t hc1;omega
   refine wskip ?_
   show AWp _ _ _ _ _
   refine wseq ?_
   refine wblock ?_
   refine wseq ?_
   refine wreg fun K hK=>?_
   simp [C.impl_factors]
   refine hK _ ?_;clear hK K
   show AWp _ _ _ _ _
   refine wseq ?_
   refine wseq ?_
   refine wreg fun K hK=>?_
   simp [C.impl_factors,show ((s:Int) < n) by omega,h1,hln,get_ints,g0_get]
   refine hK _ ?_;clear hK K
   show AWp _ _ _ _ _
   refine wcond _ rfl (fun hc2=>?_) (fun hc2=>?_)
   ·have hs1:g0 num s≠0:=by simpa using hc2
    refine wexit ?_
    show AWp _ _ _ _ _
    refine wreg fun K hK=>?_
    simp [C.impl_factors,wrap_succ (show s < 4611686018427387904 by omega)]
    refine hK _ ?_;clear hK K
    simp [C.impl_factors]
    refine hR1 (s+1,num,den,out,old) ⟨h1,⟨hln,hld⟩,hmem,hO,fun i hi=>?_⟩ (by dsimp only;omega)
    by_cases e:i=s
    ·exact (hmem i (by omega)).1 (e ▸ hs1)
    ·exact hall i (by dsimp only at hi;omega)
   ·have hs0:g0 num s=0:=by simpa using hc2
    have hBs:=BJ.start (b:=bM m) hln hld h1 hmem hs0
    refine wskip ?_
    show AWp _ _ _ _ _
    refine wseq ?_
    refine wreg fun K hK=>?_
    simp [C.impl_factors,show ((s:Int) < n) by omega,h1,hln,hld]
    refine hK _ ?_;clear hK K
    show AWp _ _ _ _ _
    refine wseq ?_
    refine wreg fun K hK=>?_
    simp [C.impl_factors]
    refine hK _ ?_;clear hK K
    show AWp _ _ _ _ _
    refine wseq ?_
    refine wseq ?_
    refine wreg fun K hK=>?_
    simp [C.impl_factors]
    refine hK _ ?_;clear hK K
    show AWp _ _ _ _ _
    refine wblock ?_
    refine wloop (fun x:Nat×List Int×List Int×List Nat=>⟨ofL [(1,.pt (1,0) [] 0),(3,.al (3,0) [] 0 n),(4,.al (4,0) [] 0 n),(5,.al (5,0) [] 0 n),(7,.al (7,0) [] 0 (x.2.2.2).length),(8,.int x.1),(34,.int n),(35,.int (s:Nat))],ofRO [((1,0),some (.bx [D.int n,D.int m.r,shI m.d])),((3,0),some (.ow 1 n (ints x.2.1))),((4,0),some (.ow 1 n (ints x.2.2.1))),((5,0),some (.ow 1 n (ints out))),((7,0),some (.ow 1 (x.2.2.2).length (ints (cN x.2.2.2))))]⟩) (fun x=>x.1<=x.2.2.2.length/\BJ n (bM m) old s x.2.1 x.2.2.1 x.2.2.2 x.1 0) (fun x=>n - x.1) (0,num.set s 1,den.set s 1,[s]) (by simp [C.impl_factors,cN,ints]) ⟨by simp,hBs⟩ ?_
    intro x2 hx2 R2 hR2
    clear hBs hs0 hc2 hln hld hmem
    obtain ⟨a,num,den,P⟩:=x2
    obtain ⟨haP,hBJ⟩:=hx2
    dsimp only at haP hBJ ⊢
    have hPn:=nodup_len hBJ.pn hBJ.pl
    refine wseq ?_
    refine wseq ?_
    refine wreg fun K hK=>?_
    simp [C.impl_factors]
    refine hK _ ?_;clear hK K
    show AWp _ _ _ _ _
    refine wcond _ rfl (fun hc3=>?_) (fun hc3=>?_)
    ·have ha:a < P.length:=by have:=d_t hc3;omega
     obtain ⟨i,hi⟩:∃ i,i=P[a]:=⟨_,rfl⟩
     have hiP:P[a]? = some i:=by rw [hi];exact List.getElem?_eq_getElem ha
     have hin:i < n:=by rw [hi];exact hBJ.pl _ (List.getElem_mem ha)
     refine wskip ?_
     show AWp _ _ _ _ _
     refine wseq ?_
     refine wblock ?_
     refine wseq ?_
     refine wreg fun K hK=>?_
     simp [C.impl_factors,show ((a:Int) < P.length) by omega,ha,get_ints,cN_get ha,<-hi]
     refine hK _ ?_;clear hK K
     show AWp _ _ _ _ _
     refine wseq ?_
     refine wreg fun K hK=>?_
     simp [C.impl_factors]
     refine hK _ ?_;clear hK K
     show AWp _ _ _ _ _
     refine wblock ?_
     refine wloop (fun x:Nat×List Int×List Int×List Nat=>⟨ofL [(1,.pt (1,0) [] 0),(3,.al (3,0) [] 0 n),(4,.al (4,0) [] 0 n),(5,.al (5,0) [] 0 n),(7,.al (7,0) [] 0 (x.2.2.2).length),(8,.int a),(9,.int i),(34,.int n),(35,.int (s:Nat)),(62,.int n),(63,.int x.1)],ofRO [((1,0),some (.bx [D.int n,D.int m.r,shI m.d])),((3,0),some (.ow 1 n (ints x.2.1))),((4,0),some (.ow 1 n (ints x.2.2.1))),((5,0),some (.ow 1 n (ints out))),((7,0),some (.ow 1 (x.2.2.2).length (ints (cN x.2.2.2))))]⟩) (fun x=>x.1<=n/\x.2.2.2[a]? = some i/\BJ n (bM m) old s x.2.1 x.2.2.1 x.2.2.2 a x.1) (fun x=>n - x.1) (0,num,den,P) (by simp [C.impl_factors,hBJ.ln]) ⟨by simp,hiP,hBJ⟩ ?_
     intro x3 hx3 R3 hR3
     clear hiP hi ha hBJ haP hPn hc3
     obtain ⟨j,num,den,P⟩:=x3
     obtain ⟨hj2,hiP,hBJ⟩:=hx3
     dsimp only at hj2 hiP hBJ ⊢
     have hPn:=nodup_len hBJ.pn hBJ.pl
     obtain ⟨ha,hi⟩:=List.getElem?_eq_some_iff.1 hiP
     have hln:=hBJ.ln
     have hld:=hBJ.ld
     refine wseq ?_
     refine wreg fun K hK=>?_
     simp [C.impl_factors]
     refine hK _ ?_;clear hK K
     show AWp _ _ _ _ _
     refine wseq ?_
     refine wcond _ rfl (fun hc4=>?_) (fun hc4=>?_)
     ·have hj:j < n:=by have:=d_t hc4;omega
      obtain ⟨p,hp⟩:∃ p,p=bM m i j:=⟨_,rfl⟩
      obtain ⟨q,hq⟩:∃ q,q=-bM m j i:=⟨_,rfl⟩
      have hpb:-99<=p/\p<=99:=by have:=hB i j hin hj;omega
      have hqb:-99<=q/\q<=99:=by have:=hB j i hj hin;omega
      have hwq:IntKind.i64.wrap (-bM m j i)=q:=by rw [<-hq];exact wrapOk (by omega) (by omega)
      refine wskip ?_
      show AWp _ _ _ _ _
      refine wseq ?_
      refine wblock ?_
      refine wseq ?_
      refine wreg fun K hK=>?_
      simp [C.impl_factors]
      refine hK _ ?_;clear hK K
      show AWp _ _ _ _ _
      refine wseq ?_
      refine wdrawI [(true,0),(true,1),(true,2),(true,4),(true,5),(true,6),(false,3),(false,7),(true,8),(true,9),(true,10)] ⟨by kernel_rfl,by kernel_rfl⟩ ([0,1,2,4,5,6,3] ++ ([7] ++ ([8,9,10]))) rfl fun K hK=>?_
      refine oSg fun L hL=>?_
      simp [C.impl_factors,hwq,<-hp]
      refine wcall1 (at_c hn hS (show (i:Int) < m.r by omega) hj) (by simp) (by simp) ?_
      simp [C.impl_factors,hwq,<-hp]
      refine hL _ ?_;clear hL L
      refine oSg fun L hL=>?_
      simp [C.impl_factors,hwq,<-hp]
      refine wcall1 (at_c hn hS (show (j:Int) < m.r by omega) hin) (by simp) (by simp) ?_
      simp [C.impl_factors,hwq,<-hp]
      refine hL _ ?_;clear hL L
      refine oEn fun L hL=>?_
      simp [C.impl_factors,hwq,<-hp]
      refine hL _ ?_;clear hL L
      simp [C.impl_factors,hwq,<-hp]
      refine hK _ ?_;clear hK K
      show AWp _ _ _ _ _
      refine wseq ?_
      refine wseq ?_
      refine wreg fun K hK=>?_
      have hJ:K ⟨ofL [(1,.pt (1,0) [] 0),(3,.al (3,0) [] 0 n),(4,.al (4,0) [] 0 n),(5,.al (5,0) [] 0 n),(7,.al (7,0) [] 0 (P).length),(8,.int a),(9,.int i),(10,.int j),(11,.int p),(12,.int q),(34,.int n),(35,.int (s:Nat)),(62,.int n),(63,.int j),(80,.bool (decide (p=0/\q=0)))],ofRO [((1,0),some (.bx [D.int n,D.int m.r,shI m.d])),((3,0),some (.ow 1 n (ints num))),((4,0),some (.ow 1 n (ints den))),((5,0),some (.ow 1 n (ints out))),((7,0),some (.ow 1 (P).length (ints (cN P))))]⟩:=by
       refine hK _ ?_;clear hK K
       show AWp _ _ _ _ _
       refine wcond _ rfl (fun hc5=>?_) (fun hc5=>?_)
       ·have hpq0:=d_t hc5
        refine wexit ?_
        show AWp _ _ _ _ _
        refine wreg fun K hK=>?_
        simp [C.impl_factors,wrap_succ (show j < 4611686018427387904 by omega)]
        refine hK _ ?_;clear hK K
        simp [C.impl_factors]
        refine hR3 (j+1,num,den,P) ⟨hj,hiP,?_⟩ (by dsimp only;omega)
        exact hBJ.skip ha (by rw [hi,<-hp];exact hpq0.1) (by rw [hi];omega)
       ·have hpq0:=d_f hc5
        refine wskip ?_
        show AWp _ _ _ _ _
        refine wseq ?_
        refine wseq ?_
        refine wregI ([0,1,2,3,4,5,6,7,8,9,10,11,12,13,14,15,16,17]) rfl fun K hK=>?_
        have hJ:K ⟨ofL [(1,.pt (1,0) [] 0),(3,.al (3,0) [] 0 n),(4,.al (4,0) [] 0 n),(5,.al (5,0) [] 0 n),(7,.al (7,0) [] 0 (P).length),(8,.int a),(9,.int i),(10,.int j),(11,.int p),(12,.int q),(34,.int n),(35,.int (s:Nat)),(62,.int n),(63,.int j),(98,.bool (decide (p=0\/q=0\/¬ (0 < p↔0 < q)\/i=j)))],ofRO [((1,0),some (.bx [D.int n,D.int m.r,shI m.d])),((3,0),some (.ow 1 n (ints num))),((4,0),some (.ow 1 n (ints den))),((5,0),some (.ow 1 n (ints out))),((7,0),some (.ow 1 (P).length (ints (cN P))))]⟩:=by
         refine hK _ ?_;clear hK K
         show AWp _ _ _ _ _
         refine wcond _ rfl (fun hc6=>?_) (fun hc6=>?_)
         ·have hfl:=d_t hc6
          have hno:=fun d=>sign_fail (b:=bM m) hin hj (by omega) (by omega) d
          refine wseq ?_
          refine wreg fun K hK=>?_
          simp [C.impl_factors]
          refine hK _ ?_;clear hK K
          show AWp _ _ _ _ _
          refine wret ?_
          simp [C.impl_factors]
          exact hno
         ·have hsg:=d_f hc6
          have hpq:0 < p/\0 < q\/p < 0/\q < 0:=by omega
          obtain ⟨u,hu⟩:∃ u,u=max p (-p):=⟨_,rfl⟩
          obtain ⟨v,hv⟩:∃ v,v=max q (-q):=⟨_,rfl⟩
          have hw1:IntKind.i64.wrap (-p)=-p:=wrapOk (by omega) (by omega)
          have hw2:IntKind.i64.wrap (-q)=-q:=wrapOk (by omega) (by omega)
          have hm1:=(hBJ.mul hn5.2 ha (u:=u) (by omega) (by omega)).1
          have hm2:=(hBJ.mul hn5.2 ha (u:=v) (by omega) (by omega)).2
          rw [hi] at hm1 hm2
          have hwA:IntKind.i64.wrap (g0 num i*u)=g0 num i*u:=wrapOk (by omega) (by omega)
          have hwB:IntKind.i64.wrap (g0 den i*v)=g0 den i*v:=wrapOk (by omega) (by omega)
          obtain ⟨x,y,g,hx0,hy0,hgp,hgg,hxA,hyB,hco⟩:=frac (g0 num i*u) (g0 den i*v) hm1.1 hm2.1
          have hqA:(g0 num i*u).tdiv g=x:=by rw [hxA,Int.mul_tdiv_cancel _ (by omega)]
          have hqB:(g0 den i*v).tdiv g=y:=by rw [hyB,Int.mul_tdiv_cancel _ (by omega)]
          have hxl:x<=9509900499:=by
           have h1:x*1<=x*g:=Int.mul_le_mul_of_nonneg_left (by omega) (by omega)
           rw [<-hxA] at h1
           omega
          have hyl:y<=9509900499:=by
           have h1:y*1<=y*g:=Int.mul_le_mul_of_nonneg_left (by omega) (by omega)
           rw [<-hyB] at h1
           omega
          have hcall:=impl_gcd_c (g0 num i*u) (g0 den i*v) (by omega) (by omega)
          rw [hgg] at hcall
          generalize hAA:g0 num i*u=A at *
          generalize hBB:g0 den i*v=Bb at *
          refine wskip ?_
          show AWp _ _ _ _ _
          refine wseq ?_
          refine wdrawI [(true,0),(true,1),(true,2),(true,3),(true,4),(true,5),(true,6),(true,7),(true,8),(true,9),(true,10),(true,11),(true,12),(true,13),(true,14),(true,15),(true,16),(true,17),(true,18),(true,19)] ⟨by kernel_rfl,by kernel_rfl⟩ ([0,1,2,3,4,5,6,7,8,9,10,11,12,13,14,15,16,17,18,19]) rfl fun K hK=>?_
          refine oEn fun L hL=>?_
          simp [C.impl_factors,show ((i:Int) < n) by omega,hin,hln,hld,get_ints,g0_get,hw1,hw2,<-hu,<-hv,hAA,hBB,hwA,hwB]
          refine hL _ ?_;clear hL L
          simp [C.impl_factors,show ((i:Int) < n) by omega,hin,hln,hld,get_ints,g0_get,hw1,hw2,<-hu,<-hv,hAA,hBB,hwA,hwB]
          refine hK _ ?_;clear hK K
          show AWp _ _ _ _ _
          refine wseq ?_
          refine wregI ([0,1,2] ++ ([3])) rfl fun K hK=>?_
          refine oSg fun L hL=>?_
          simp [C.impl_factors]
          refine wcall1 (hcall) (by simp) (by simp) ?_
          simp [C.impl_factors]
          refine hL _ ?_;clear hL L
          refine oEn fun L hL=>?_
          simp [C.impl_factors]
          refine hL _ ?_;clear hL L
          simp [C.impl_factors]
          refine hK _ ?_;clear hK K
          show AWp _ _ _ _ _
          refine wseq ?_
          refine wdraw (.take 0 (.take 1 (.take 2 (.take 3 (.take 4 (.take 5 (.take 6 (.take 7 (.done))))))))) ⟨by kernel_rfl,by kernel_rfl⟩ fun K hK=>?_
          simp [C.impl_factors,show g≠0 by omega,hqA,hqB,wrapOk (x:=x) (by omega) (by omega),wrapOk (x:=y) (by omega) (by omega)]
          refine hK _ ?_;clear hK K
          show AWp _ _ _ _ _
          refine wseq ?_
          refine wreg fun K hK=>?_
          simp [C.impl_factors,show ((j:Int) < n) by omega,hj,hln,get_ints,g0_get]
          refine hK _ ?_;clear hK K
          show AWp _ _ _ _ _
          refine wcond _ rfl (fun hc7=>?_) (fun hc7=>?_)
          ·have hz:g0 num j=0:=by simpa using hc7
           have hnew:=hBJ.new (x:=x) (y:=y) (g:=g) (u:=u) (v:=v) hoc ha hj hB (by rw [hi,<-hp,<-hq];exact hpq) hz (by rw [hi,<-hp];exact hu.symm) (by rw [hi,<-hq];exact hv.symm) hgp hx0 hy0 (by rw [hi,hAA];exact hxA) (by rw [hi,hBB];exact hyB) hco
           refine wseq ?_
           refine wreg fun K hK=>?_
           simp [C.impl_factors,show ((j:Int) < n) by omega,hj,hln,hld]
           refine hK _ ?_;clear hK K
           show AWp _ _ _ _ _
           refine wreg fun K hK=>?_
           simp [C.impl_factors,cN_snoc,show (P.length+1)*8<=140737488355328 by omega]
           refine hK _ ?_;clear hK K
           show AWp _ _ _ _ _
           refine wreg fun K hK=>?_
           simp [C.impl_factors,wrap_succ (show j < 4611686018427387904 by omega)]
           refine hK _ ?_;clear hK K
           simp [C.impl_factors]
           refine cast (congrArg R3 ?_) (hR3 (j+1,num.set j x,den.set j y,P ++ [j]) ⟨hj,by dsimp only;rw [List.getElem?_append_left ha];exact hiP,hnew⟩ (by dsimp only;omega))
           simp
          ·have hz:g0 num j≠0:=by simpa using hc7
           have hcmp:=hBJ.cmp (x:=x) (y:=y) (g:=g) (u:=u) (v:=v) hoc ha hj (by rw [hi,<-hp,<-hq];exact hpq) hz (by rw [hi,<-hp];exact hu.symm) (by rw [hi,<-hq];exact hv.symm) hgp hx0 hy0 (by rw [hi,hAA];exact hxA) (by rw [hi,hBB];exact hyB) hco
           refine wseq ?_
           refine wregI ([0,1,2,3,4,5,6,7,8,9,10,11,12,13]) rfl fun K hK=>?_
           have hJ:K ⟨ofL [(1,.pt (1,0) [] 0),(3,.al (3,0) [] 0 n),(4,.al (4,0) [] 0 n),(5,.al (5,0) [] 0 n),(7,.al (7,0) [] 0 (P).length),(8,.int a),(9,.int i),(34,.int n),(35,.int (s:Nat)),(62,.int n),(63,.int j),(156,.bool (!decide (g0 num j=x/\g0 den j=y)))],ofRO [((1,0),some (.bx [D.int n,D.int m.r,shI m.d])),((3,0),some (.ow 1 n (ints num))),((4,0),some (.ow 1 n (ints den))),((5,0),some (.ow 1 n (ints out))),((7,0),some (.ow 1 (P).length (ints (cN P))))]⟩:=by
            refine hK _ ?_;clear hK K
            show AWp _ _ _ _ _
            refine wcond _ rfl (fun hc8=>?_) (fun hc8=>?_)
            ·have hne:=nd_t hc8
             refine wseq ?_
             refine wreg fun K hK=>?_
             simp [C.impl_factors]
             refine hK _ ?_;clear hK K
             show AWp _ _ _ _ _
             refine wret ?_
             simp [C.impl_factors]
             exact hcmp.2 hne
            ·have heq:=nd_f hc8
             refine wskip ?_
             show AWp _ _ _ _ _
             refine wreg fun K hK=>?_
             simp [C.impl_factors,wrap_succ (show j < 4611686018427387904 by omega)]
             refine hK _ ?_;clear hK K
             simp [C.impl_factors]
             exact hR3 (j+1,num,den,P) ⟨hj,hiP,hcmp.1 heq⟩ (by dsimp only;omega)
           clear hK
           by_cases h1:g0 num j=x
           ·refine oEn fun L hL=>?_
            simp [C.impl_factors,show ((j:Int) < n) by omega,hj,hln,hld,get_ints,g0_get,h1]
            refine hL _ ?_;clear hL L
            simp [C.impl_factors,show ((j:Int) < n) by omega,hj,hln,hld,get_ints,g0_get,h1]
            refine cast (congrArg K ?_) hJ
            simp [ibne,h1]
           ·refine oEn fun L hL=>?_
            simp [C.impl_factors,show ((j:Int) < n) by omega,hj,hln,hld,get_ints,g0_get,h1]
            refine hL _ ?_;clear hL L
            simp [C.impl_factors,show ((j:Int) < n) by omega,hj,hln,hld,get_ints,g0_get,h1]
            refine cast (congrArg K ?_) hJ
            simp [ibne,h1]
        clear hK
        have hij:((i:Int) == (j:Int))=decide (i=j):=by rw [Bool.eq_iff_iff];simp <;> omega
        by_cases h1:p=0 <;> by_cases h2:q=0 <;> by_cases h3:0 < p <;> by_cases h4:0 < q <;> by_cases h5:i=j <;> first
         | (exfalso;omega)
         | (simp [C.impl_factors,h1,h2,h3,h4,h5];refine cast (congrArg K ?_) hJ;simp [hij,h1,h2,h3,h4,h5];done)
      clear hK
      by_cases hz:p=0
      ·simp [C.impl_factors,hz]
       refine cast (congrArg K ?_) hJ
       simp [ibeq,hz]
      ·simp [C.impl_factors,hz]
       refine cast (congrArg K ?_) hJ
       simp [ibeq,hz]
     ·have hjn:j=n:=by have:=d_f hc4;omega
      refine wexit ?_
      show AWp _ _ _ _ _
      refine wreg fun K hK=>?_
      simp [C.impl_factors,wrap_succ (show a < 4611686018427387904 by omega)]
      refine hK _ ?_;clear hK K
      simp [C.impl_factors]
      refine hR2 (a+1,num,den,P) ⟨ha,?_⟩ (by dsimp only;omega)
      rw [hjn] at hBJ
      exact hBJ.next
    ·have hap:a=P.length:=by have:=d_f hc3;omega
     rw [hap] at hBJ
     clear hap hc3 haP
     have hln:=hBJ.ln
     have hld:=hBJ.ld
     have hP9:P.length < 4611686018427387904:=by omega
     refine wexit ?_
     show AWp _ _ _ _ _
     refine wseq ?_
     refine wreg fun K hK=>?_
     simp [C.impl_factors]
     refine hK _ ?_;clear hK K
     show AWp _ _ _ _ _
     refine wseq ?_
     refine wseq ?_
     refine wreg fun K hK=>?_
     simp [C.impl_factors]
     refine hK _ ?_;clear hK K
     show AWp _ _ _ _ _
     refine wblock ?_
     refine wloop (fun x:Nat×Int=>⟨ofL [(1,.pt (1,0) [] 0),(3,.al (3,0) [] 0 n),(4,.al (4,0) [] 0 n),(5,.al (5,0) [] 0 n),(7,.al (7,0) [] 0 (P).length),(16,.int x.2),(34,.int n),(35,.int (s:Nat)),(158,.al (7,0) [] 0 P.length),(159,.int P.length),(160,.int x.1)],ofRO [((1,0),some (.bx [D.int n,D.int m.r,shI m.d])),((3,0),some (.ow 1 n (ints num))),((4,0),some (.ow 1 n (ints den))),((5,0),some (.ow 1 n (ints out))),((7,0),some (.ow 1 (P).length (ints (cN P))))]⟩) (fun x=>x.1<=P.length/\CJ n (bM m) s den P x.1 x.2) (fun x=>P.length - x.1) (0,1) (by simp [C.impl_factors]) ⟨by simp,CJ.start hBJ hn5.2 hPn⟩ ?_
     intro x4 hx4 R4 hR4
     obtain ⟨t,c⟩:=x4
     obtain ⟨ht0,hC⟩:=hx4
     dsimp only at ht0 hC ⊢
     refine wseq ?_
     refine wreg fun K hK=>?_
     simp [C.impl_factors]
     refine hK _ ?_;clear hK K
     show AWp _ _ _ _ _
     refine wseq ?_
     refine wcond _ rfl (fun hc9=>?_) (fun hc9=>?_)
     ·have ht:t < P.length:=by have:=d_t hc9;omega
      have hin:=hBJ.pl _ (List.getElem_mem ht)
      have hdp:=hBJ.pos _ (List.getElem_mem ht)
      have hdb:=(hBJ.bd t ht).2
      have hp4:=pow4 ht hn5.2 hPn
      have hcq:=hC.qd
      have hcp:=hC.pos
      obtain ⟨w,w1,w2,w3⟩:=lcm_step hC.pos hdp.2.1
      have hstep:=hC.step hBJ ht
      have hcall:=impl_gcd_c c (g0 den P[t]) (by omega) (by omega)
      have hgn:0 < Int.gcd c (g0 den P[t]):=Int.gcd_pos_of_ne_zero_left _ (by omega)
      have hdz:(Int.gcd c (g0 den P[t]):Int)≠0:=by omega
      have hsq:=hstep.qd
      have hsp:=hstep.pos
      rw [w1] at hstep hsq hsp
      generalize hG:(Int.gcd c (g0 den P[t]):Int)=G at *
      refine wskip ?_
      show AWp _ _ _ _ _
      refine wseq ?_
      refine wblock ?_
      refine wseq ?_
      refine wreg fun K hK=>?_
      simp [C.impl_factors,show ((t:Int) < P.length) by omega,ht,get_ints,cN_get ht]
      refine hK _ ?_;clear hK K
      show AWp _ _ _ _ _
      refine wdrawI [(true,0),(true,1),(true,2),(true,3),(true,4),(true,5),(true,8),(true,9),(true,10),(true,11),(false,6),(true,7),(true,12),(true,13)] ⟨by kernel_rfl,by kernel_rfl⟩ ([0,1,2,3,4,5,8,9,10,11,6] ++ ([7,12,13])) rfl fun K hK=>?_
      refine oSg fun L hL=>?_
      simp [C.impl_factors,show ((P[t]:Int) < n) by omega,hin,hld,get_ints,g0_get,hdz,w1,wrapOk (x:=(w:Int)) (by omega) (by omega),wrapOk (x:=(w:Int)*g0 den P[t]) (by omega) (by omega)]
      refine wcall1 (hcall) (by simp) (by simp) ?_
      simp [C.impl_factors,show ((P[t]:Int) < n) by omega,hin,hld,get_ints,g0_get,hdz,w1,wrapOk (x:=(w:Int)) (by omega) (by omega),wrapOk (x:=(w:Int)*g0 den P[t]) (by omega) (by omega)]
      refine hL _ ?_;clear hL L
      refine oEn fun L hL=>?_
      simp [C.impl_factors,show ((P[t]:Int) < n) by omega,hin,hld,get_ints,g0_get,hdz,w1,wrapOk (x:=(w:Int)) (by omega) (by omega),wrapOk (x:=(w:Int)*g0 den P[t]) (by omega) (by omega)]
      refine hL _ ?_;clear hL L
      simp [C.impl_factors,show ((P[t]:Int) < n) by omega,hin,hld,get_ints,g0_get,hdz,w1,wrapOk (x:=(w:Int)) (by omega) (by omega),wrapOk (x:=(w:Int)*g0 den P[t]) (by omega) (by omega)]
      refine hK _ ?_;clear hK K
      show AWp _ _ _ _ _
      refine wreg fun K hK=>?_
      simp [C.impl_factors,wrap_succ (show t < 4611686018427387904 by omega)]
      refine hK _ ?_;clear hK K
      simp [C.impl_factors]
      exact hR4 (t+1,(w:Int)*g0 den P[t]) ⟨ht,hstep⟩ (by dsimp only;omega)
     ·have htP:t=P.length:=by have:=d_f hc9;omega
      rw [htP] at hC
      refine wexit ?_
      show AWp _ _ _ _ _
      refine wseq ?_
      refine wreg fun K hK=>?_
      simp [C.impl_factors]
      refine hK _ ?_;clear hK K
      show AWp _ _ _ _ _
      refine wseq ?_
      refine wseq ?_
      refine wreg fun K hK=>?_
      simp [C.impl_factors]
      refine hK _ ?_;clear hK K
      show AWp _ _ _ _ _
      refine wblock ?_
      refine wloop (fun x:Nat×List Int×Int=>⟨ofL [(1,.pt (1,0) [] 0),(3,.al (3,0) [] 0 n),(4,.al (4,0) [] 0 n),(5,.al (5,0) [] 0 n),(7,.al (7,0) [] 0 (P).length),(16,.int c),(19,.int x.2.2),(34,.int n),(35,.int (s:Nat)),(178,.al (7,0) [] 0 P.length),(179,.int P.length),(180,.int x.1)],ofRO [((1,0),some (.bx [D.int n,D.int m.r,shI m.d])),((3,0),some (.ow 1 n (ints num))),((4,0),some (.ow 1 n (ints den))),((5,0),some (.ow 1 n (ints x.2.1))),((7,0),some (.ow 1 (P).length (ints (cN P))))]⟩) (fun x=>x.1<=P.length/\WJ c num den P out x.1 x.2.1 x.2.2/\x.2.2 < 4611686018427387904) (fun x=>P.length - x.1) (0,out,0) (by simp [C.impl_factors]) ⟨by simp,WJ.start c num den P out,by simp⟩ ?_
      intro x5 hx5 R5 hR5
      obtain ⟨t5,o,g⟩:=x5
      obtain ⟨ht0',hW,hgb⟩:=hx5
      dsimp only at ht0' hW hgb ⊢
      refine wseq ?_
      refine wreg fun K hK=>?_
      simp [C.impl_factors]
      refine hK _ ?_;clear hK K
      show AWp _ _ _ _ _
      refine wseq ?_
      refine wcond _ rfl (fun hc10=>?_) (fun hc10=>?_)
      ·have ht:t5 < P.length:=by have:=d_t hc10;omega
       have hin:=hBJ.pl _ (List.getElem_mem ht)
       have hws:=wM_spec hC hBJ hn5.2 hPn (List.getElem_mem ht)
       have hdp:=hBJ.pos _ (List.getElem_mem ht)
       have hol:o.length=n:=by rw [hW.len,hO.lo]
       have hwd:wM c num den P[t5]=c.tdiv (g0 den P[t5])*g0 num P[t5]:=rfl
       have hstep:=hW.step ht (by rw [hO.lo];exact hin) hws.2.2.1
       have hg0:=hW.g0'.1
       have hcall:=impl_gcd_c g (wM c num den P[t5]) (by omega) (by have:=hws.2.2.2.1;omega)
       have hgw:(Int.gcd g (wM c num den P[t5]):Int) < 4611686018427387904:=by
        have h1:Int.gcd g (wM c num den P[t5]) ∣ (wM c num den P[t5]).natAbs:=Nat.gcd_dvd_right _ _
        have h2:=Nat.le_of_dvd (by have:=hws.2.2.1;omega) h1
        have:=hws.2.2.2.1
        omega
       have hwA:IntKind.i64.wrap (c.tdiv (g0 den P[t5]))=c.tdiv (g0 den P[t5]):=by have:=hws.1;have:=hws.2.1;exact wrapOk (by omega) (by omega)
       have hwB:IntKind.i64.wrap (wM c num den P[t5])=wM c num den P[t5]:=by have:=hws.2.2.1;have:=hws.2.2.2.1;exact wrapOk (by omega) (by omega)
       have hog:g0 (o.set P[t5] (wM c num den P[t5])) P[t5]=wM c num den P[t5]:=by rw [g0_set _ _ _ _ (by omega),if_pos rfl]
       have hdz:g0 den P[t5]≠0:=by omega
       refine wskip ?_
       show AWp _ _ _ _ _
       refine wseq ?_
       refine wblock ?_
       refine wseq ?_
       refine wreg fun K hK=>?_
       simp [C.impl_factors,show ((t5:Int) < P.length) by omega,ht,get_ints,cN_get ht]
       refine hK _ ?_;clear hK K
       show AWp _ _ _ _ _
       refine wseq ?_
       refine wdrawI [(true,0),(true,1),(true,2),(true,3),(true,4),(true,5),(true,6),(true,7),(true,8),(true,9),(true,10),(true,11),(true,12),(true,13),(false,14)] ⟨by kernel_rfl,by kernel_rfl⟩ ([0,1,2,3,4,5,6,7,8,9,10,11,12,13,14]) rfl fun K hK=>?_
       refine oEn fun L hL=>?_
       simp [C.impl_factors,show ((P[t5]:Int) < n) by omega,hin,hln,hld,hol,get_ints,g0_get,hdz,hwA,<-hwd,hwB]
       refine hL _ ?_;clear hL L
       simp [C.impl_factors,show ((P[t5]:Int) < n) by omega,hin,hln,hld,hol,get_ints,g0_get,hdz,hwA,<-hwd,hwB]
       refine hK _ ?_;clear hK K
       show AWp _ _ _ _ _
       refine wregI ([0,1,2,3,4,5] ++ ([6])) rfl fun K hK=>?_
       refine oSg fun L hL=>?_
       simp [C.impl_factors,show ((P[t5]:Int) < n) by omega,hin,hol,get_ints,g0_get,hog]
       refine wcall1 (hcall) (by simp) (by simp) ?_
       simp [C.impl_factors,show ((P[t5]:Int) < n) by omega,hin,hol,get_ints,g0_get,hog]
       refine hL _ ?_;clear hL L
       refine oEn fun L hL=>?_
       simp [C.impl_factors,show ((P[t5]:Int) < n) by omega,hin,hol,get_ints,g0_get,hog]
       refine hL _ ?_;clear hL L
       simp [C.impl_factors,show ((P[t5]:Int) < n) by omega,hin,hol,get_ints,g0_get,hog]
       refine hK _ ?_;clear hK K
       show AWp _ _ _ _ _
       refine wreg fun K hK=>?_
       simp [C.impl_factors,wrap_succ (show t5 < 4611686018427387904 by omega)]
       refine hK _ ?_;clear hK K
       simp [C.impl_factors]
       exact hR5 (t5+1,o.set P[t5] (wM c num den P[t5]),_) ⟨ht,hstep,hgw⟩ (by dsimp only;omega)
      ·have ht5:t5=P.length:=by have:=d_f hc10;omega
       rw [ht5] at hW
       have hgp:0 < g:=hW.g0'.2 (List.length_pos_of_mem (List.mem_of_getElem? hBJ.hd))
       refine wexit ?_
       show AWp _ _ _ _ _
       refine wseq ?_
       refine wreg fun K hK=>?_
       simp [C.impl_factors]
       refine hK _ ?_;clear hK K
       show AWp _ _ _ _ _
       refine wblock ?_
       refine wloop (fun x:Nat×List Int=>⟨ofL [(1,.pt (1,0) [] 0),(3,.al (3,0) [] 0 n),(4,.al (4,0) [] 0 n),(5,.al (5,0) [] 0 n),(19,.int g),(34,.int n),(35,.int (s:Nat)),(205,.al (205,0) [] 0 P.length),(206,.int P.length),(207,.int x.1)],ofRO [((1,0),some (.bx [D.int n,D.int m.r,shI m.d])),((3,0),some (.ow 1 n (ints num))),((4,0),some (.ow 1 n (ints den))),((5,0),some (.ow 1 n (ints x.2))),((205,0),some (.ow 1 (P).length (ints (cN P))))]⟩) (fun x=>x.1<=P.length/\VJ (wM c num den) g P out x.1 x.2) (fun x=>P.length - x.1) (0,o) (by simp [C.impl_factors]) ⟨by simp,VJ.start hW⟩ ?_
       intro x6 hx6 R6 hR6
       obtain ⟨t6,o6⟩:=x6
       obtain ⟨ht0'',hV⟩:=hx6
       dsimp only at ht0'' hV ⊢
       refine wseq ?_
       refine wreg fun K hK=>?_
       simp [C.impl_factors]
       refine hK _ ?_;clear hK K
       show AWp _ _ _ _ _
       refine wseq ?_
       refine wcond _ rfl (fun hc11=>?_) (fun hc11=>?_)
       ·have ht:t6 < P.length:=by have:=d_t hc11;omega
        have hin:=hBJ.pl _ (List.getElem_mem ht)
        have hws:=wM_spec hC hBJ hn5.2 hPn (List.getElem_mem ht)
        obtain ⟨hv1,hv2⟩:=hV.step hBJ.pn ht (by rw [hO.lo];exact hin)
        have hol:o6.length=n:=by rw [hV.len,hO.lo]
        have hwd:IntKind.i64.wrap ((wM c num den P[t6]).tdiv g)=(wM c num den P[t6]).tdiv g:=by
         have h1:((wM c num den P[t6]).tdiv g).natAbs<=(wM c num den P[t6]).natAbs:=by
          rw [Int.natAbs_tdiv]
          exact Nat.div_le_self _ _
         have:=hws.2.2.1
         have:=hws.2.2.2.1
         exact wrapOk (by omega) (by omega)
        refine wskip ?_
        show AWp _ _ _ _ _
        refine wseq ?_
        refine wblock ?_
        refine wseq ?_
        refine wreg fun K hK=>?_
        simp [C.impl_factors,show ((t6:Int) < P.length) by omega,ht,get_ints,cN_get ht]
        refine hK _ ?_;clear hK K
        show AWp _ _ _ _ _
        refine wreg fun K hK=>?_
        simp [C.impl_factors,show ((P[t6]:Int) < n) by omega,hin,hol,get_ints,g0_get,hv1,show g≠0 by omega,hwd]
        refine hK _ ?_;clear hK K
        show AWp _ _ _ _ _
        refine wreg fun K hK=>?_
        simp [C.impl_factors,wrap_succ (show t6 < 4611686018427387904 by omega)]
        refine hK _ ?_;clear hK K
        simp [C.impl_factors]
        exact hR6 (t6+1,_) ⟨ht,hv2⟩ (by dsimp only;omega)
       ·have ht6:t6=P.length:=by have:=d_f hc11;omega
        rw [ht6] at hV
        have hgrow:=hO.grow hBJ hn5.2 hPn hC hW hV
        refine wexit ?_
        show AWp _ _ _ _ _
        refine wreg fun K hK=>?_
        simp [C.impl_factors,wrap_succ (show s < 4611686018427387904 by omega)]
        refine hK _ ?_;clear hK K
        simp [C.impl_factors]
        refine hR1 (s+1,num,den,o6,old ++ P) ⟨h1,⟨hln,hld⟩,fun i hi=>?_,hgrow,fun i hi=>?_⟩ (by dsimp only;omega)
        ·dsimp only
         rw [hBJ.mem i hi,List.mem_append]
        ·dsimp only at hi ⊢
         rw [List.mem_append]
         by_cases e:i=s
         ·right
          rw [e]
          exact List.mem_of_getElem? hBJ.hd
         ·exact .inl (hall i (by omega))
  ·have hsn:s=n:=by have:=d_f hc1;omega
   subst hsn
   have hmin:=hO.min hall
   have hol:=hO.lo
   refine wexit ?_
   show AWp _ _ _ _ _
   refine wseq ?_
   refine wreg fun K hK=>?_
   simp [C.impl_factors]
   refine hK _ ?_;clear hK K
   show AWp _ _ _ _ _
   refine wret ?_
   simp [C.impl_factors]
   exact ⟨out,hmin,hol.symm,rfl⟩
 clear hK
 simp [C.impl_factors,zeros_ints,show (8:Int)*n<=281474976710656 by omega,show (n:Int)<=281474976710656 by omega]
 exact hJ
theorem factors_c (m:Mat) (hS:ShM m):ACalls Try.prog F.impl_factors [aM m] [] true (fun outs res=>outs=[]/\((∃ l,MinSol m.n.toNat (bM m) l/\res=[.one (owI l)])\/((∀ d,¬ Sol m.n.toNat (bM m) d)/\res=[.one (.v (.slice none 0 0))]))):=by
 obtain ⟨n,hn⟩:∃ n:Nat,m.n=n:=⟨m.n.toNat,by have:=hS.1;omega⟩
 have h:=impl_factors_c m n hn hS
 have e:aM m = .ag [.int n,.int m.r,.d (shI m.d)]:=by rw [<-hn]
 rw [e,show m.n.toNat=n by omega]
 exact h
end Go.Proofs.Ytncfmemhjahpeaa.Ab
namespace Go.Proofs.Ytncfmemhjahpeaa.Ab
open Go
set_option maxRecDepth 10000
set_option maxHeartbeats 2000000
theorem natbeq (a b:Nat):((a:Int) == (b:Int))=decide (a=b):=by rw [Bool.eq_iff_iff];simp <;> omega
theorem notAny (l:List Int):(!(l.any fun x=>!decide (-99<=x) || !decide (x<=99)))=decide (∀ x∈l,-99<=x/\x<=99):=by
 rw [Bool.eq_iff_iff];simp [List.any_eq_true]
theorem factors_some {m:Mat} (hS:ShM m) {l:List Int} (h:MinSol m.n.toNat (bM m) l):ACalls Try.prog F.impl_factors [aM m] [] true (fun outs res=>outs=[]/\res=[.one (owI l)]):=
 (factors_c m hS).mono fun outs res ⟨h1,h2⟩=>by
  refine ⟨h1,?_⟩
  rcases h2 with ⟨k,hk,h2⟩ | ⟨hno,_⟩
  ·rw [h2,hk.uniq h]
  ·exact absurd h.2.1 (hno _)
theorem factors_none {m:Mat} (hS:ShM m) (h:∀ l,¬ MinSol m.n.toNat (bM m) l):ACalls Try.prog F.impl_factors [aM m] [] true (fun outs res=>outs=[]/\(∀ d,¬ Sol m.n.toNat (bM m) d)/\res=[.one (.v (.slice none 0 0))]):=
 (factors_c m hS).mono fun outs res ⟨h1,h2⟩=>by
  rcases h2 with ⟨k,hk,h2⟩ | ⟨hno,h2⟩
  ·exact absurd hk (h k)
  ·exact ⟨h1,hno,h2⟩
theorem impl_shapedG_c (m:Mat) (hx:m.d.length < 17592186044416):ACalls Try.prog F.impl_shaped [aM m] [] true (fun outs res=>outs=[]/\res=[.one (D.bool (decide (ShM m)))]):=by
 refine ACalls.of_body (C:=C.impl_shaped) (n:=Try.f71.ntmps) tabT folT Try.func71 rfl (by kernel_rfl) rfl (Nat.le_of_ble_eq_true rfl) (by decide) (by kernel_rfl) (by kernel_rfl) rfl (by simp) (by simp) ?_
 simp only [Try.f71]
 refine wseq ?_
 refine wreg fun K hK=>?_
 simp [C.impl_shaped]
 refine hK _ ?_;clear hK K
 show AWp _ _ _ _ _
 refine wseq ?_
 refine wregI ([0,1,2] ++ ([3,4,5,6,7,8] ++ ([9,10,11,12,13,14,15,16,17,18,19,20,21,22,23,24] ++ ([25,26,27])))) rfl fun K hK=>?_
 have hJ:K ⟨ofL [(2,.bool (decide (ShM m)))],ofRO []⟩:=by
  refine hK _ ?_;clear hK K
  show AWp _ _ _ _ _
  refine wret ?_
  simp [C.impl_shaped]
 clear hK
 by_cases h1:1<=m.n/\m.n<=5
 ·by_cases h2:m.n<=m.r/\m.r<=8
  ·by_cases h3:(m.d.length:Int)=m.n*m.r
   ·have hnr:IntKind.i64.wrap (m.n*m.r)=m.n*m.r:=by
     have h4:m.n*m.r<=5*8:=Int.mul_le_mul (by omega) (by omega) (by omega) (by omega)
     have h5:0<=m.n*m.r:=Int.mul_nonneg (by omega) (by omega)
     exact wrapOk (by omega) (by omega)
    refine oSg fun L hL=>?_
    simp [C.impl_shaped,hnr,h1,h2,h3]
    refine wcall1 (impl_within_c m.n 1 5) (by simp) (by simp) ?_
    simp [C.impl_shaped,hnr,h1,h2,h3]
    refine hL _ ?_;clear hL L
    refine oSg fun L hL=>?_
    simp [C.impl_shaped,hnr,h1,h2,h3]
    refine wcall1 (impl_within_c m.r m.n 8) (by simp) (by simp) ?_
    simp [C.impl_shaped,hnr,h1,h2,h3]
    refine hL _ ?_;clear hL L
    refine oSg fun L hL=>?_
    simp [C.impl_shaped,hnr,h1,h2,h3]
    refine wcall1 (slices_ContainsFunc_int_int_c m.d _ (fun x=>!decide (-99<=x/\x<=99)) (by omega) rfl (fun x _=>impl_shaped_1_c x)) (by simp) (by simp) ?_
    simp [C.impl_shaped,hnr,h1,h2,h3]
    refine hL _ ?_;clear hL L
    refine oEn fun L hL=>?_
    simp [C.impl_shaped,hnr,h1,h2,h3]
    refine hL _ ?_;clear hL L
    simp [C.impl_shaped,hnr,h1,h2,h3]
    refine cast (congrArg K ?_) hJ
    simp [ShM,notAny,h1,h2,h3]
   ·have hnr:IntKind.i64.wrap (m.n*m.r)=m.n*m.r:=by
     have h4:m.n*m.r<=5*8:=Int.mul_le_mul (by omega) (by omega) (by omega) (by omega)
     have h5:0<=m.n*m.r:=Int.mul_nonneg (by omega) (by omega)
     exact wrapOk (by omega) (by omega)
    refine oSg fun L hL=>?_
    simp [C.impl_shaped,hnr,h1,h2,h3]
    refine wcall1 (impl_within_c m.n 1 5) (by simp) (by simp) ?_
    simp [C.impl_shaped,hnr,h1,h2,h3]
    refine hL _ ?_;clear hL L
    refine oSg fun L hL=>?_
    simp [C.impl_shaped,hnr,h1,h2,h3]
    refine wcall1 (impl_within_c m.r m.n 8) (by simp) (by simp) ?_
    simp [C.impl_shaped,hnr,h1,h2,h3]
    refine hL _ ?_;clear hL L
    refine oSg fun L hL=>?_
    simp [C.impl_shaped,hnr,h1,h2,h3]
    refine hL _ ?_;clear hL L
    refine oEn fun L hL=>?_
    simp [C.impl_shaped,hnr,h1,h2,h3]
    refine hL _ ?_;clear hL L
    simp [C.impl_shaped,hnr,h1,h2,h3]
    refine cast (congrArg K ?_) hJ
    simp [ShM,h1,h2,h3]
  ·refine oSg fun L hL=>?_
   simp [C.impl_shaped,h1,h2]
   refine wcall1 (impl_within_c m.n 1 5) (by simp) (by simp) ?_
   simp [C.impl_shaped,h1,h2]
   refine hL _ ?_;clear hL L
   refine oSg fun L hL=>?_
   simp [C.impl_shaped,h1,h2]
   refine wcall1 (impl_within_c m.r m.n 8) (by simp) (by simp) ?_
   simp [C.impl_shaped,h1,h2]
   refine hL _ ?_;clear hL L
   refine oSg fun L hL=>?_
   simp [C.impl_shaped,h1,h2]
   refine hL _ ?_;clear hL L
   refine oEn fun L hL=>?_
   simp [C.impl_shaped,h1,h2]
   refine hL _ ?_;clear hL L
   simp [C.impl_shaped,h1,h2]
   refine cast (congrArg K ?_) hJ
   simp [ShM,h1,h2]
 ·refine oSg fun L hL=>?_
  simp [C.impl_shaped,h1]
  refine wcall1 (impl_within_c m.n 1 5) (by simp) (by simp) ?_
  simp [C.impl_shaped,h1]
  refine hL _ ?_;clear hL L
  refine oSg fun L hL=>?_
  simp [C.impl_shaped,h1]
  refine hL _ ?_;clear hL L
  refine oSg fun L hL=>?_
  simp [C.impl_shaped,h1]
  refine hL _ ?_;clear hL L
  refine oEn fun L hL=>?_
  simp [C.impl_shaped,h1]
  refine hL _ ?_;clear hL L
  simp [C.impl_shaped,h1]
  refine cast (congrArg K ?_) hJ
  simp [ShM,h1]
theorem impl_MatrixOkG_c (m:Mat) (hx:m.d.length < 17592186044416):ACalls Try.prog F.impl_MatrixOk [aM m] [] true (fun outs res=>outs=[]/\res=[.one (D.bool (decide (MatOK m)))]):=by
 refine ACalls.of_body (C:=C.impl_MatrixOk) (n:=Try.f38.ntmps) tabT folT Try.func38 rfl (by kernel_rfl) rfl (Nat.le_of_ble_eq_true rfl) (by decide) (by kernel_rfl) (by kernel_rfl) rfl (by simp) (by simp) ?_
 simp only [Try.f38]
 refine wseq ?_
 refine wreg fun K hK=>?_
 simp [C.impl_MatrixOk]
 refine hK _ ?_;clear hK K
 show AWp _ _ _ _ _
 refine wseq ?_
 refine wregI ([0,1] ++ ([2,3,4] ++ ([5,6,7]))) rfl fun K hK=>?_
 have hJ:K ⟨ofL [(2,.bool (decide (MatOK m)))],ofRO []⟩:=by
  refine hK _ ?_;clear hK K
  show AWp _ _ _ _ _
  refine wret ?_
  simp [C.impl_MatrixOk]
 clear hK
 by_cases h1:ShM m
 ·by_cases h2:∃ l,MinSol m.n.toNat (bM m) l
  ·obtain ⟨l,hl⟩:=h2
   have h2:∃ d,Sol m.n.toNat (bM m) d:=⟨_,hl.2.1⟩
   have hlne:l≠[]:=fun e=>by
    have h3:=hl.1
    rw [e] at h3
    have:=h1.1
    simp at h3
    omega
   refine oSg fun L hL=>?_
   simp [C.impl_MatrixOk,hlne,h1,h2]
   refine wcall1 (impl_shapedG_c m hx) (by simp) (by simp) ?_
   simp [C.impl_MatrixOk,hlne,h1,h2]
   refine hL _ ?_;clear hL L
   refine oSg fun L hL=>?_
   simp [C.impl_MatrixOk,hlne,h1,h2]
   refine wcall1 (factors_some h1 hl) (by simp) (by simp) ?_
   simp [C.impl_MatrixOk,hlne,h1,h2]
   refine hL _ ?_;clear hL L
   refine oEn fun L hL=>?_
   simp [C.impl_MatrixOk,hlne,h1,h2]
   refine hL _ ?_;clear hL L
   simp [C.impl_MatrixOk,hlne,h1,h2]
   refine cast (congrArg K ?_) hJ
   simp [MatOK,h1,h2]
  ·refine oSg fun L hL=>?_
   simp [C.impl_MatrixOk,h1,h2]
   refine wcall1 (impl_shapedG_c m hx) (by simp) (by simp) ?_
   simp [C.impl_MatrixOk,h1,h2]
   refine hL _ ?_;clear hL L
   refine oSg fun L hL=>?_
   simp [C.impl_MatrixOk,h1,h2]
   refine wcall (factors_none h1 (fun l hl=>h2 ⟨l,hl⟩)) (by simp) (by simp) (by simp) ?_
   rintro outs res ⟨rfl,hno,rfl⟩
   simp [C.impl_MatrixOk,h1,h2]
   refine hL _ ?_;clear hL L
   refine oEn fun L hL=>?_
   simp [C.impl_MatrixOk,h1,h2]
   refine hL _ ?_;clear hL L
   simp [C.impl_MatrixOk,h1,h2]
   refine cast (congrArg K ?_) hJ
   simp [MatOK,hno,h1,h2]
 ·refine oSg fun L hL=>?_
  simp [C.impl_MatrixOk,h1]
  refine wcall1 (impl_shapedG_c m hx) (by simp) (by simp) ?_
  simp [C.impl_MatrixOk,h1]
  refine hL _ ?_;clear hL L
  refine oSg fun L hL=>?_
  simp [C.impl_MatrixOk,h1]
  refine hL _ ?_;clear hL L
  refine oEn fun L hL=>?_
  simp [C.impl_MatrixOk,h1]
  refine hL _ ?_;clear hL L
  simp [C.impl_MatrixOk,h1]
  refine cast (congrArg K ?_) hJ
  simp [MatOK,h1]
theorem impl_mutated_c (m:Mat) (n r k:Nat) (hn:m.n=n) (hr:m.r=r) (hS:ShM m) (hk:k < n):ACalls Try.prog F.impl_mutated [.ag [.int n,.int r,.d (shI m.d)],.int k] [] true (fun outs res=>outs=[]/\res=[.ag (mO (muM m k))]):=by
 have hn5:1<=n/\n<=5:=by have:=hS.1;omega
 have hnr:n<=r/\r<=8:=by have:=hS.2.1;omega
 have hnn:m.n.toNat=n:=by omega
 have hL:m.d.length=r*n:=by
  have h1:=hS.2.2.1
  rw [hn,hr,<-Int.natCast_mul,Nat.mul_comm] at h1
  omega
 have hL40:m.d.length<=40:=by
  rw [hL]
  exact Nat.le_trans (Nat.mul_le_mul hnr.2 hn5.2) (by omega)
 refine ACalls.of_body (C:=C.impl_mutated) (n:=Try.f76.ntmps) tabT folT Try.func76 rfl (by kernel_rfl) rfl (Nat.le_of_ble_eq_true rfl) (by decide) (by kernel_rfl) (by kernel_rfl) rfl (by simp) (by simp) ?_
 simp only [Try.f76]
 refine wseq ?_
 refine wreg fun K hK=>?_
 simp [C.impl_mutated]
 refine hK _ ?_;clear hK K
 show AWp _ _ _ _ _
 refine wseq ?_
 refine wdraw (.take 0 (.take 1 (.take 2 (.take 3 (.take 4 (.take 5 (.all [(6,.take 7 (.all [(8,.all [(9,.done)])])),(8,.all [(6,.take 7 (.all [(9,.done)]))])]))))))) ⟨by kernel_rfl,by kernel_rfl⟩ fun K hK=>?_
 have hJ:K ⟨ofL [(1,.int k),(2,.pt (2,0) [] 0),(4,.pt (4,0) [] 0),(5,.pt (5,0) [] 0)],ofRO [((2,0),some (.bx [D.int n,D.int r,shI m.d])),((4,0),some (.bx [D.int 0,D.int 0,.v (.slice none 0 0)])),((5,0),some (.bx [D.int n,D.int r,owI m.d]))]⟩:=by
  refine hK _ ?_;clear hK K
  show AWp _ _ _ _ _
  refine wseq ?_
  refine wseq ?_
  refine wreg fun K hK=>?_
  simp [C.impl_mutated]
  refine hK _ ?_;clear hK K
  show AWp _ _ _ _ _
  refine wblock ?_
  refine wloop (fun x:Nat=>⟨ofL [(1,.int k),(2,.pt (2,0) [] 0),(4,.pt (4,0) [] 0),(5,.pt (5,0) [] 0),(6,.int x)],ofRO [((2,0),some (.bx [D.int n,D.int r,shI m.d])),((4,0),some (.bx [D.int 0,D.int 0,.v (.slice none 0 0)])),((5,0),some (.bx [D.int n,D.int r,.ow 1 m.d.length (ints ((muD m k).take (x*n) ++ m.d.drop (x*n)))]))]⟩) (fun x=>x<=r) (fun x=>r - x) 0 (by simp [C.impl_mutated]) (by simp) ?_
  intro x1 hx1 R1 hR1
  refine wseq ?_
  refine wseq ?_
  refine wreg fun K hK=>?_
  simp [C.impl_mutated]
  refine hK _ ?_;clear hK K
  show AWp _ _ _ _ _
  refine wcond _ rfl (fun hc1=>?_) (fun hc1=>?_)
  ·have hi:x1 < r:=by have:=d_t hc1;omega
   refine wskip ?_
   show AWp _ _ _ _ _
   refine wseq ?_
   refine wblock ?_
   refine wseq ?_
   refine wreg fun K hK=>?_
   simp [C.impl_mutated]
   refine hK _ ?_;clear hK K
   show AWp _ _ _ _ _
   refine wblock ?_
   refine wloop (fun x:Nat=>⟨ofL [(1,.int k),(2,.pt (2,0) [] 0),(4,.pt (4,0) [] 0),(5,.pt (5,0) [] 0),(6,.int x1),(7,.int x)],ofRO [((2,0),some (.bx [D.int n,D.int r,shI m.d])),((4,0),some (.bx [D.int 0,D.int 0,.v (.slice none 0 0)])),((5,0),some (.bx [D.int n,D.int r,.ow 1 m.d.length (ints ((muD m k).take (x1*n+x) ++ m.d.drop (x1*n+x)))]))]⟩) (fun x=>x<=n) (fun x=>n - x) 0 (by simp [C.impl_mutated]) (by simp) ?_
   intro x2 hx2 R2 hR2
   refine wseq ?_
   refine wseq ?_
   refine wreg fun K hK=>?_
   simp [C.impl_mutated]
   refine hK _ ?_;clear hK K
   show AWp _ _ _ _ _
   refine wcond _ rfl (fun hc2=>?_) (fun hc2=>?_)
   ·have hj:x2 < n:=by have:=d_t hc2;omega
    obtain ⟨q,hq⟩:∃ q,q=x1*n+x2:=⟨_,rfl⟩
    have hqe:(x1:Int)*n+x2=(q:Int):=by rw [hq];simp
    have hqL:q < m.d.length:=by
     rw [hL,hq]
     have h1:(x1+1)*n<=r*n:=Nat.mul_le_mul_right _ (by omega)
     rw [Nat.add_mul] at h1
     omega
    have hq0:IntKind.i64.wrap ((x1:Int)*n)=(x1:Int)*n:=by
     have:(x1:Int)*n=((x1*n:Nat):Int):=by simp
     rw [this]
     exact wrapOk (by omega) (by omega)
    have hq1:IntKind.i64.wrap ((x1:Int)*n+x2)=(q:Int):=by rw [hqe];exact wrapOk (by omega) (by omega)
    have hg:=mix_get (muD m k) m.d q hqL (by simp)
    have hst:=mix_set (muD m k) m.d q (by simpa using hqL) (by simp)
    have hmu:(muD m k)[q]'(by simpa using hqL)=muE (bM m) k x1 x2:=by
     have:=muD_get m k x1 x2 (by omega) (by rw [hnn,<-hq];exact hqL)
     simp only [hnn,<-hq] at this
     exact this
    have hdq:m.d[q]=bM m x1 x2:=by
     obtain ⟨h1,h2⟩:=bM_get hS (i:=x1) (j:=x2) (by omega) (by omega)
     rw [<-h2]
     congr 1
     rw [hnn,hq]
    rw [hmu] at hst
    rw [<-hq]
    have hml:((muD m k).take q ++ m.d.drop q).length=m.d.length:=by simp;omega
    generalize hM:(muD m k).take q ++ m.d.drop q=M at hg hst hml
    have hMq:M[q]'(by omega)=bM m x1 x2:=by
     rw [List.getElem?_eq_getElem (by omega)] at hg
     injection hg with hg
     rw [hg,hdq]
    have b0:=bM_bd hS x1 x2
    have b1:=bM_bd hS x1 k
    have b2:=bM_bd hS k x2
    have hat1:=at_c hn hS (i:=x1) (j:=k) (by omega) hk
    have hat2:=at_c hn hS (i:=k) (j:=x2) (by omega) hj
    rw [hr] at hat1 hat2
    obtain ⟨A,hA⟩:∃ A,A=bM m x1 k:=⟨_,rfl⟩
    obtain ⟨B,hB⟩:∃ B,B=bM m k x2:=⟨_,rfl⟩
    obtain ⟨X,hX⟩:∃ X,X=bM m x1 x2:=⟨_,rfl⟩
    have hmuv:muE (bM m) k x1 x2=if x1=k\/x2=k then -X else if 0 < A/\0 < B then X+A*B else if A < 0/\B < 0 then X - A*B else X:=by rw [hA,hB,hX];rfl
    rw [hmuv] at hst
    rw [<-hA] at hat1 b1
    rw [<-hB] at hat2 b2
    rw [<-hX] at hMq b0
    have hab:(A*B).natAbs<=99*99:=by rw [Int.natAbs_mul];exact Nat.mul_le_mul b1 b2
    clear hmuv hA hB hX hmu hdq hM
    have hwab:IntKind.i64.wrap (A*B)=A*B:=wrapOk (by omega) (by omega)
    refine wskip ?_
    show AWp _ _ _ _ _
    refine wseq ?_
    refine wblock ?_
    refine wseq ?_
    refine wreg fun K hK=>?_
    simp [C.impl_mutated,hq0,hq1,show (q:Int) < m.d.length by omega,hqL]
    refine hK _ ?_;clear hK K
    show AWp _ _ _ _ _
    refine wseq ?_
    refine wdrawI [(true,0),(true,1),(true,2),(true,4),(true,5),(true,6),(false,3),(false,7),(true,8),(true,9)] ⟨by kernel_rfl,by kernel_rfl⟩ ([0,1,2,4,5,6,3] ++ ([7] ++ ([8,9]))) rfl fun K hK=>?_
    refine oSg fun L hL=>?_
    simp [C.impl_mutated]
    refine wcall1 (hat1) (by simp) (by simp) ?_
    simp [C.impl_mutated]
    refine hL _ ?_;clear hL L
    refine oSg fun L hL=>?_
    simp [C.impl_mutated]
    refine wcall1 (hat2) (by simp) (by simp) ?_
    simp [C.impl_mutated]
    refine hL _ ?_;clear hL L
    refine oEn fun L hL=>?_
    simp [C.impl_mutated]
    refine hL _ ?_;clear hL L
    simp [C.impl_mutated]
    refine hK _ ?_;clear hK K
    show AWp _ _ _ _ _
    refine wblock ?_
    refine wseq ?_
    refine wreg fun K hK=>?_
    have hJ:K ⟨ofL [(1,.int k),(2,.pt (2,0) [] 0),(4,.pt (4,0) [] 0),(5,.pt (5,0) [] 0),(6,.int x1),(7,.int x2),(8,.pt (5,0) [2] q),(9,.int A),(10,.int B),(48,.bool (decide (x1=k\/x2=k)))],ofRO [((2,0),some (.bx [D.int n,D.int r,shI m.d])),((4,0),some (.bx [D.int 0,D.int 0,.v (.slice none 0 0)])),((5,0),some (.bx [D.int n,D.int r,.ow 1 m.d.length (ints M)]))]⟩:=by
     refine hK _ ?_;clear hK K
     show AWp _ _ _ _ _
     refine wcond _ rfl (fun hc3=>?_) (fun hc3=>?_)
     ·have h3:=d_t hc3
      rw [if_pos h3] at hst
      refine wreg fun K hK=>?_
      simp [C.impl_mutated,get_ints,hml,hqL,hMq,wrapOk (x:=-X) (by omega) (by omega),hst]
      refine hK _ ?_;clear hK K
      show AWp _ _ _ _ _
      refine wreg fun K hK=>?_
      simp [C.impl_mutated,wrap_succ (show x2 < 4611686018427387904 by omega)]
      refine hK _ ?_;clear hK K
      simp [C.impl_mutated]
      refine cast (congrArg R2 ?_) (hR2 (x2+1) hj (by omega))
      simp [<-Nat.add_assoc,<-hq]
     ·have h3:=d_f hc3
      rw [if_neg h3] at hst
      refine wseq ?_
      refine wreg fun K hK=>?_
      have hJ:K ⟨ofL [(1,.int k),(2,.pt (2,0) [] 0),(4,.pt (4,0) [] 0),(5,.pt (5,0) [] 0),(6,.int x1),(7,.int x2),(8,.pt (5,0) [2] q),(9,.int A),(10,.int B),(63,.bool (decide (0 < A/\0 < B)))],ofRO [((2,0),some (.bx [D.int n,D.int r,shI m.d])),((4,0),some (.bx [D.int 0,D.int 0,.v (.slice none 0 0)])),((5,0),some (.bx [D.int n,D.int r,.ow 1 m.d.length (ints M)]))]⟩:=by
       refine hK _ ?_;clear hK K
       show AWp _ _ _ _ _
       refine wcond _ rfl (fun hc4=>?_) (fun hc4=>?_)
       ·have h4:=d_t hc4
        rw [if_pos h4] at hst
        refine wreg fun K hK=>?_
        simp [C.impl_mutated,get_ints,hml,hqL,hMq,hwab,wrapOk (x:=X+A*B) (by omega) (by omega),hst]
        refine hK _ ?_;clear hK K
        show AWp _ _ _ _ _
        refine wreg fun K hK=>?_
        simp [C.impl_mutated,wrap_succ (show x2 < 4611686018427387904 by omega)]
        refine hK _ ?_;clear hK K
        simp [C.impl_mutated]
        refine cast (congrArg R2 ?_) (hR2 (x2+1) hj (by omega))
        simp [<-Nat.add_assoc,<-hq]
       ·have h4:=d_f hc4
        rw [if_neg h4] at hst
        refine wseq ?_
        refine wreg fun K hK=>?_
        have hJ:K ⟨ofL [(1,.int k),(2,.pt (2,0) [] 0),(4,.pt (4,0) [] 0),(5,.pt (5,0) [] 0),(6,.int x1),(7,.int x2),(8,.pt (5,0) [2] q),(9,.int A),(10,.int B),(78,.bool (decide (A < 0/\B < 0)))],ofRO [((2,0),some (.bx [D.int n,D.int r,shI m.d])),((4,0),some (.bx [D.int 0,D.int 0,.v (.slice none 0 0)])),((5,0),some (.bx [D.int n,D.int r,.ow 1 m.d.length (ints M)]))]⟩:=by
         refine hK _ ?_;clear hK K
         show AWp _ _ _ _ _
         refine wcond _ rfl (fun hc5=>?_) (fun hc5=>?_)
         ·have h5:=d_t hc5
          rw [if_pos h5] at hst
          refine wreg fun K hK=>?_
          simp [C.impl_mutated,get_ints,hml,hqL,hMq,hwab,wrapOk (x:=X - A*B) (by omega) (by omega),hst]
          refine hK _ ?_;clear hK K
          show AWp _ _ _ _ _
          refine wreg fun K hK=>?_
          simp [C.impl_mutated,wrap_succ (show x2 < 4611686018427387904 by omega)]
          refine hK _ ?_;clear hK K
          simp [C.impl_mutated]
          refine cast (congrArg R2 ?_) (hR2 (x2+1) hj (by omega))
          simp [<-Nat.add_assoc,<-hq]
         ·have h5:=d_f hc5
          rw [if_neg h5] at hst
          have hMM:M=(muD m k).take (q+1) ++ m.d.drop (q+1):=by
           rw [<-hst]
           refine (List.ext_getElem? fun z=>?_)
           rw [List.getElem?_set]
           split
           ·rename_i e
            subst e
            rw [if_pos (by omega),List.getElem?_eq_getElem (by omega),hMq]
           ·rfl
          refine wskip ?_
          show AWp _ _ _ _ _
          refine wreg fun K hK=>?_
          simp [C.impl_mutated,wrap_succ (show x2 < 4611686018427387904 by omega)]
          refine hK _ ?_;clear hK K
          simp [C.impl_mutated]
          refine cast (congrArg R2 ?_) (hR2 (x2+1) hj (by omega))
          simp [<-Nat.add_assoc,<-hq,<-hMM]
        clear hK
        by_cases h1:A < 0
        ·simp [C.impl_mutated,h1]
         refine cast (congrArg K ?_) hJ
         simp [h1]
        ·simp [C.impl_mutated,h1]
         refine cast (congrArg K ?_) hJ
         simp [h1]
      clear hK
      by_cases h1:0 < A
      ·simp [C.impl_mutated,h1]
       refine cast (congrArg K ?_) hJ
       simp [h1]
      ·simp [C.impl_mutated,h1]
       refine cast (congrArg K ?_) hJ
       simp [h1]
    clear hK
    by_cases h1:x1=k
    ·simp [C.impl_mutated,natbeq,h1]
     refine cast (congrArg K ?_) hJ
     simp [natbeq,h1]
    ·simp [C.impl_mutated,natbeq,h1]
     refine cast (congrArg K ?_) hJ
     simp [natbeq,h1]
   ·have hj:x2=n:=by have:=d_f hc2;omega
    refine wexit ?_
    show AWp _ _ _ _ _
    refine wreg fun K hK=>?_
    simp [C.impl_mutated,wrap_succ (show x1 < 4611686018427387904 by omega)]
    refine hK _ ?_;clear hK K
    simp [C.impl_mutated]
    refine cast (congrArg R1 ?_) (hR1 (x1+1) hi (by omega))
    simp [Nat.add_mul,hj]
  ·have hi:x1=r:=by have:=d_f hc1;omega
   have htk:List.take (x1*n) (muD m k) ++ List.drop (x1*n) m.d=muD m k:=by
    rw [hi,<-hL,List.take_of_length_le (by simp),List.drop_length,List.append_nil]
   refine wexit ?_
   show AWp _ _ _ _ _
   refine wseq ?_
   refine wreg fun K hK=>?_
   simp [C.impl_mutated]
   refine hK _ ?_;clear hK K
   show AWp _ _ _ _ _
   refine wret ?_
   simp [C.impl_mutated,mO,muM,htk,hn,hr]
 clear hK
 simp [C.impl_mutated]
 repeat' first
  | (refine wcall1 (clone_c m.d (by omega)) ?_ (by simp) ?_;(focus (simp;done));simp [C.impl_mutated])
  | (refine cast (congrArg K ?_) hJ;simp;done)
  | refine And.intro ?_ ?_
theorem impl_MutateMatrix_c (m:Mat) (k:Int) (hx:m.d.length < 17592186044416):ACalls Try.prog F.impl_MutateMatrix [aM m,.int k] [] true (fun outs res=>outs=[]/\WkRs res [.ag (mO (muF m k).1),.one (D.bool (muF m k).2)]):=by
 refine ACalls.of_body (C:=C.impl_MutateMatrix) (n:=Try.f46.ntmps) tabT folT Try.func46 rfl (by kernel_rfl) rfl (Nat.le_of_ble_eq_true rfl) (by decide) (by kernel_rfl) (by kernel_rfl) rfl (by simp) (by simp) ?_
 simp only [Try.f46]
 refine wseq ?_
 refine wreg fun K hK=>?_
 simp [C.impl_MutateMatrix,mO]
 refine hK _ ?_;clear hK K
 show AWp _ _ _ _ _
 refine wseq ?_
 refine wseq ?_
 refine wregI ([0,1] ++ ([2,3,4,5,6,7,8] ++ ([9,10]))) rfl fun K hK=>?_
 have hJ:K ⟨ofL [(1,.int k),(2,.pt (2,0) [] 0),(4,.pt (4,0) [] 0),(17,.bool (!decide (MatOK m/\(0<=k/\k < m.n))))],ofRO [((2,0),some (.bx [D.int m.n,D.int m.r,shI m.d])),((4,0),some (.bx [D.int 0,D.int 0,.v (.slice none 0 0)]))]⟩:=by
  refine hK _ ?_;clear hK K
  show AWp _ _ _ _ _
  refine wcond _ rfl (fun hc1=>?_) (fun hc1=>?_)
  ·have hr:=nd_t hc1
   have hm:muF m k=(⟨0,0,[]⟩,false):=if_neg (fun h=>hr ⟨h.1,h.2.1⟩)
   refine wseq ?_
   refine wreg fun K hK=>?_
   simp [C.impl_MutateMatrix,mO]
   refine hK _ ?_;clear hK K
   show AWp _ _ _ _ _
   refine wret ?_
   simp [C.impl_MutateMatrix,mO,hm,ints]
  ·have hr:=nd_f hc1
   obtain ⟨hok,hk⟩:=hr
   have hS:=hok.1
   obtain ⟨n,hn⟩:∃ n:Nat,m.n=n:=⟨m.n.toNat,by have:=hS.1;omega⟩
   obtain ⟨r,hr⟩:∃ r:Nat,m.r=r:=⟨m.r.toNat,by have:=hS.1;have:=hS.2.1;omega⟩
   obtain ⟨k,rfl⟩:∃ j:Nat,k=j:=⟨k.toNat,by omega⟩
   have hcall:=impl_mutated_c m n r k hn hr hS (by omega)
   have hm:muF m k=if MatOK (muM m k) then (muM m k,true) else (⟨0,0,[]⟩,false):=by
    unfold muF
    rw [Int.toNat_natCast]
    by_cases q:MatOK (muM m k)
    ·rw [if_pos ⟨hok,hk,q⟩,if_pos q]
    ·rw [if_neg (fun h=>q h.2.2),if_neg q]
   have hml:(muM m k).d.length < 17592186044416:=by
    show (muD m k).length < _
    simpa using hx
   refine wskip ?_
   show AWp _ _ _ _ _
   refine wseq ?_
   refine wregI ([0,1,2] ++ ([3,4])) rfl fun K hK=>?_
   refine oSg fun L hL=>?_
   simp [C.impl_MutateMatrix,mO,hn,hr]
   refine wcall1 (hcall) (by simp) (by simp) ?_
   simp [C.impl_MutateMatrix,mO,hn,hr]
   refine hL _ ?_;clear hL L
   refine oEn fun L hL=>?_
   simp [C.impl_MutateMatrix,mO,hn,hr]
   refine hL _ ?_;clear hL L
   simp [C.impl_MutateMatrix,mO,hn,hr]
   refine hK _ ?_;clear hK K
   show AWp _ _ _ _ _
   refine wseq ?_
   refine wseq ?_
   refine wregI ([0,1] ++ ([2])) rfl fun K hK=>?_
   refine oSg fun L hL=>?_
   simp [C.impl_MutateMatrix,mO]
   refine wcall1 (impl_MatrixOkG_c (muM m k) hml) (by simp) (by simp) ?_
   simp [C.impl_MutateMatrix,mO]
   refine hL _ ?_;clear hL L
   refine oEn fun L hL=>?_
   simp [C.impl_MutateMatrix,mO]
   refine hL _ ?_;clear hL L
   simp [C.impl_MutateMatrix,mO]
   refine hK _ ?_;clear hK K
   show AWp _ _ _ _ _
   refine wcond _ rfl (fun hc2=>?_) (fun hc2=>?_)
   ·have hno:=nd_t hc2
    refine wseq ?_
    refine wreg fun K hK=>?_
    simp [C.impl_MutateMatrix,mO]
    refine hK _ ?_;clear hK K
    show AWp _ _ _ _ _
    refine wret ?_
    simp [C.impl_MutateMatrix,mO,hm,hno,ints]
   ·have hyes:=nd_f hc2
    refine wskip ?_
    show AWp _ _ _ _ _
    refine wseq ?_
    refine wreg fun K hK=>?_
    simp [C.impl_MutateMatrix,mO]
    refine hK _ ?_;clear hK K
    show AWp _ _ _ _ _
    refine wret ?_
    simp [C.impl_MutateMatrix,mO,hm,hyes]
 clear hK
 by_cases h1:MatOK m
 ·have hwn:IntKind.i64.wrap (m.n - 1)=m.n - 1:=by have:=h1.1.1;exact wrapOk (by omega) (by omega)
  have hle:∀ x:Int,(x<=m.n - 1)=(x < m.n):=fun x=>by rw [eq_iff_iff];omega
  refine oSg fun L hL=>?_
  simp [C.impl_MutateMatrix,mO,hwn,hle,h1]
  refine wcall1 (impl_MatrixOkG_c m hx) (by simp) (by simp) ?_
  simp [C.impl_MutateMatrix,mO,hwn,hle,h1]
  refine hL _ ?_;clear hL L
  refine oSg fun L hL=>?_
  simp [C.impl_MutateMatrix,mO,hwn,hle,h1]
  refine wcall1 (impl_within_c k 0 (m.n - 1)) (by simp) (by simp) ?_
  simp [C.impl_MutateMatrix,mO,hwn,hle,h1]
  refine hL _ ?_;clear hL L
  refine oEn fun L hL=>?_
  simp [C.impl_MutateMatrix,mO,hwn,hle,h1]
  refine hL _ ?_;clear hL L
  simp [C.impl_MutateMatrix,mO,hwn,hle,h1]
  refine cast (congrArg K ?_) hJ
  simp [Bool.not_and,mO,h1]
 ·refine oSg fun L hL=>?_
  simp [C.impl_MutateMatrix,mO,h1]
  refine wcall1 (impl_MatrixOkG_c m hx) (by simp) (by simp) ?_
  simp [C.impl_MutateMatrix,mO,h1]
  refine hL _ ?_;clear hL L
  refine oSg fun L hL=>?_
  simp [C.impl_MutateMatrix,mO,h1]
  refine hL _ ?_;clear hL L
  refine oEn fun L hL=>?_
  simp [C.impl_MutateMatrix,mO,h1]
  refine hL _ ?_;clear hL L
  simp [C.impl_MutateMatrix,mO,h1]
  refine cast (congrArg K ?_) hJ
  simp [Bool.not_and,mO,h1]
theorem iMu_c (m:Mat) (k:Int) (hx:m.d.length < 17592186044416):ACalls Try.prog F.impl_MutateMatrix [aM m,.int k] [] true (fun outs res=>outs=[]/\res=[.ag (mO (muF m k).1),.one (D.bool (muF m k).2)]):=(impl_MutateMatrix_c m k hx).weak1
end Go.Proofs.Ytncfmemhjahpeaa.Ab
namespace Go.Proofs.Ytncfmemhjahpeaa.Ab
open Go
set_option maxRecDepth 10000
set_option maxHeartbeats 2000000
end Go.Proofs.Ytncfmemhjahpeaa.Ab
namespace Go.Proofs.Ytncfmemhjahpeaa.Ab
open Go
set_option maxRecDepth 10000
set_option maxHeartbeats 2000000
end Go.Proofs.Ytncfmemhjahpeaa.Ab
namespace Go.Proofs.Ytncfmemhjahpeaa.Ab
open Go
set_option maxRecDepth 10000
set_option maxHeartbeats 2000000
def VarOk (r:Int) (f:Lau):Prop:=Right f/\f.ts≠[]/\f.v=r
def SeedOK (s:Sed):Prop:=MatOK s.m/\(s.f.length:Int)=s.m.r/\∀ f∈s.f,VarOk s.m.r f
noncomputable instance (r:Int) (f:Lau):Decidable (VarOk r f):=Classical.propDecidable _
noncomputable instance (s:Sed):Decidable (SeedOK s):=Classical.propDecidable _
theorem impl_SeedOk_1_c (s:Sed) (f:Lau) (hx:f.ts.length < 4611686018427387904) (hxe:∀ t∈f.ts,t.e.length < 4611686018427387904):ACalls Try.prog F.impl_SeedOk_1 [aF f,.d (.vp (sS s))] [] true (fun outs res=>outs=[]/\res=[.one (D.bool (!decide (VarOk s.m.r f)))]):=by
 refine ACalls.of_body (C:=C.impl_SeedOk_1) (n:=Try.f74.ntmps) tabT folT Try.func74 rfl (by kernel_rfl) rfl (Nat.le_of_ble_eq_true rfl) (by decide) (by kernel_rfl) (by kernel_rfl) rfl (by simp) (by simp) ?_
 simp only [Try.f74]
 refine wseq ?_
 refine wreg fun K hK=>?_
 simp [C.impl_SeedOk_1,fS,sS]
 refine hK _ ?_;clear hK K
 show AWp _ _ _ _ _
 refine wseq ?_
 refine wregI ([0,1] ++ ([2,3,4,5,6,7,8,9,10,11,12,13,14,15,16,17])) rfl fun K hK=>?_
 have hJ:K ⟨ofL [(3,.bool (!decide (VarOk s.m.r f)))],ofRO []⟩:=by
  refine hK _ ?_;clear hK K
  show AWp _ _ _ _ _
  refine wret ?_
  simp [C.impl_SeedOk_1,fS,sS]
 clear hK
 by_cases h1:Right f
 ·by_cases h2:f.ts=[]
  ·refine oSg fun L hL=>?_
   simp [C.impl_SeedOk_1,fS,sS,h2,h1,h2]
   refine wcall1 (impl_LaurentOk_c f hx hxe) (by simp [fS,sS,h2]) (by simp) ?_
   simp [C.impl_SeedOk_1,fS,sS,h2,h1,h2]
   refine hL _ ?_;clear hL L
   refine oEn fun L hL=>?_
   simp [C.impl_SeedOk_1,fS,sS,h2,h1,h2]
   refine hL _ ?_;clear hL L
   simp [C.impl_SeedOk_1,fS,sS,h2,h1,h2]
   refine cast (congrArg K ?_) hJ
   simp [VarOk,ibne,fS,sS,h1,h2]
  ·refine oSg fun L hL=>?_
   simp [C.impl_SeedOk_1,fS,sS,h1,h2]
   refine wcall1 (impl_LaurentOk_c f hx hxe) (by simp) (by simp) ?_
   simp [C.impl_SeedOk_1,fS,sS,h1,h2]
   refine hL _ ?_;clear hL L
   refine oEn fun L hL=>?_
   simp [C.impl_SeedOk_1,fS,sS,h1,h2]
   refine hL _ ?_;clear hL L
   simp [C.impl_SeedOk_1,fS,sS,h1,h2]
   refine cast (congrArg K ?_) hJ
   simp [VarOk,ibne,fS,sS,h1,h2]
 ·refine oSg fun L hL=>?_
  simp [C.impl_SeedOk_1,fS,sS,h1]
  refine wcall1 (impl_LaurentOk_c f hx hxe) (by simp) (by simp) ?_
  simp [C.impl_SeedOk_1,fS,sS,h1]
  refine hL _ ?_;clear hL L
  refine oEn fun L hL=>?_
  simp [C.impl_SeedOk_1,fS,sS,h1]
  refine hL _ ?_;clear hL L
  simp [C.impl_SeedOk_1,fS,sS,h1]
  refine cast (congrArg K ?_) hJ
  simp [VarOk,ibne,fS,sS,h1]
theorem slices_IndexFunc_impl_Laurent_impl_Laurent_c (xs:List Lau) (g:Nat) (cs:List D) (p:Lau->Bool) (hx:xs.length < 4611686018427387904) (hM:aget [] MM g=[]) (hp:∀ x∈xs,ACalls Try.prog g [aF x,.d (.vp cs)] [] true (fun outs res=>outs=[]/\res=[.one (D.bool (p x))])):ACalls Try.prog F.slices_IndexFunc_impl_Laurent_impl_Laurent [.d (.sh 2 xs.length (rows fS xs)),.cl g [.d (.vp cs)]] [] true (fun outs res=>outs=[]/\∃ r:Int,res=[.one (D.int r)]/\decide (0<=r)=xs.any p):=by
 refine ACalls.of_body (C:=C.slices_IndexFunc_impl_Laurent_impl_Laurent) (n:=Try.f94.ntmps) tabT folT Try.func94 rfl (by kernel_rfl) rfl (Nat.le_of_ble_eq_true rfl) (by decide) (by kernel_rfl) (by kernel_rfl) rfl (by simp) (by simp) ?_
 simp only [Try.f94]
 refine wseq ?_
 refine wreg fun K hK=>?_
 simp [C.slices_IndexFunc_impl_Laurent_impl_Laurent]
 refine hK _ ?_;clear hK K
 show AWp _ _ _ _ _
 refine wseq ?_
 refine wseq ?_
 refine wreg fun K hK=>?_
 simp [C.slices_IndexFunc_impl_Laurent_impl_Laurent]
 refine hK _ ?_;clear hK K
 show AWp _ _ _ _ _
 refine wblock ?_
 refine wloop (fun k:Nat=>⟨ofL [(0,.d (.sh 2 xs.length (rows fS xs))),(1,.cl g [.d (.vp cs)]),(7,.int xs.length),(8,FV.int k)],ofRO []⟩) (fun k=>k<=xs.length/\(xs.take k).any p=false) (fun k=>xs.length - k) 0 (by simp [C.slices_IndexFunc_impl_Laurent_impl_Laurent]) (by simp) ?_
 intro x1 hx1 R1 hR1
 obtain ⟨hk,ht⟩:=hx1
 refine wseq ?_
 refine wreg fun K hK=>?_
 simp [C.slices_IndexFunc_impl_Laurent_impl_Laurent]
 refine hK _ ?_;clear hK K
 show AWp _ _ _ _ _
 refine wseq ?_
 refine wcond _ rfl (fun hc1=>?_) (fun hc1=>?_)
 ·have h1:x1 < xs.length:=by have:=d_t hc1;omega
  refine wskip ?_
  show AWp _ _ _ _ _
  refine wseq ?_
  refine wblock ?_
  refine wseq ?_
  refine wreg fun K hK=>?_
  simp [C.slices_IndexFunc_impl_Laurent_impl_Laurent]
  refine hK _ ?_;clear hK K
  show AWp _ _ _ _ _
  refine wseq ?_
  refine wregI ([0,1,2,3,4,5] ++ ([])) rfl fun K hK=>?_
  refine oSg fun L hL=>?_
  simp [C.slices_IndexFunc_impl_Laurent_impl_Laurent,fS_0 h1,fS_1 h1,h1,hM]
  refine wcall1 (hp xs[x1] (List.getElem_mem h1)) (by simp) (by simp) ?_
  simp [C.slices_IndexFunc_impl_Laurent_impl_Laurent,fS_0 h1,fS_1 h1,h1,hM]
  refine hL _ ?_;clear hL L
  refine oEn fun L hL=>?_
  simp only [AOpsI]
  refine hL _ ?_;clear hL L
  simp [C.slices_IndexFunc_impl_Laurent_impl_Laurent,fS_0 h1,fS_1 h1,h1,hM]
  refine hK _ ?_;clear hK K
  show AWp _ _ _ _ _
  refine wcond _ rfl (fun hc2=>?_) (fun hc2=>?_)
  ·have hpx:p xs[x1]=true:=by simpa using hc2
   refine wseq ?_
   refine wreg fun K hK=>?_
   simp [C.slices_IndexFunc_impl_Laurent_impl_Laurent]
   refine hK _ ?_;clear hK K
   show AWp _ _ _ _ _
   refine wret ?_
   simp [C.slices_IndexFunc_impl_Laurent_impl_Laurent]
   exact ⟨xs[x1],List.getElem_mem h1,hpx⟩
  ·have hpx:p xs[x1]=false:=by simpa using hc2
   refine wskip ?_
   show AWp _ _ _ _ _
   refine wreg fun K hK=>?_
   simp [C.slices_IndexFunc_impl_Laurent_impl_Laurent,wrap_succ (show x1 < 4611686018427387904 by omega)]
   refine hK _ ?_;clear hK K
   simp [C.slices_IndexFunc_impl_Laurent_impl_Laurent]
   refine hR1 (x1+1) ⟨h1,?_⟩ (by omega)
   rw [List.take_succ_eq_append_getElem h1,List.any_append,ht]
   simp [hpx]
 ·have h1:x1=xs.length:=by have:=d_f hc1;omega
  refine wexit ?_
  show AWp _ _ _ _ _
  refine wseq ?_
  refine wreg fun K hK=>?_
  simp [C.slices_IndexFunc_impl_Laurent_impl_Laurent]
  refine hK _ ?_;clear hK K
  show AWp _ _ _ _ _
  refine wret ?_
  simp [C.slices_IndexFunc_impl_Laurent_impl_Laurent]
  rw [h1,List.take_length] at ht
  simpa using ht
theorem slices_ContainsFunc_impl_Laurent_impl_Laurent_c (xs:List Lau) (g:Nat) (cs:List D) (p:Lau->Bool) (hx:xs.length < 4611686018427387904) (hM:aget [] MM g=[]) (hp:∀ x∈xs,ACalls Try.prog g [aF x,.d (.vp cs)] [] true (fun outs res=>outs=[]/\res=[.one (D.bool (p x))])):ACalls Try.prog F.slices_ContainsFunc_impl_Laurent_impl_Laurent [.d (.sh 2 xs.length (rows fS xs)),.cl g [.d (.vp cs)]] [] true (fun outs res=>outs=[]/\res=[.one (D.bool (xs.any p))]):=by
 refine ACalls.of_body (C:=C.slices_ContainsFunc_impl_Laurent_impl_Laurent) (n:=Try.f73.ntmps) tabT folT Try.func73 rfl (by kernel_rfl) rfl (Nat.le_of_ble_eq_true rfl) (by decide) (by kernel_rfl) (by kernel_rfl) rfl (by simp) (by simp) ?_
 simp only [Try.f73]
 refine wseq ?_
 refine wreg fun K hK=>?_
 simp [C.slices_ContainsFunc_impl_Laurent_impl_Laurent]
 refine hK _ ?_;clear hK K
 show AWp _ _ _ _ _
 refine wseq ?_
 refine wregI ([0,1,2] ++ ([3,4])) rfl fun K hK=>?_
 refine oSg fun L hL=>?_
 simp [C.slices_ContainsFunc_impl_Laurent_impl_Laurent]
 refine wcall (slices_IndexFunc_impl_Laurent_impl_Laurent_c xs g cs p hx hM hp) (by simp) (by simp) (by simp) ?_
 rintro outs res ⟨rfl,r,rfl,hr⟩
 simp [C.slices_ContainsFunc_impl_Laurent_impl_Laurent]
 refine hL _ ?_;clear hL L
 refine oEn fun L hL=>?_
 simp [C.slices_ContainsFunc_impl_Laurent_impl_Laurent]
 refine hL _ ?_;clear hL L
 simp [C.slices_ContainsFunc_impl_Laurent_impl_Laurent]
 refine hK _ ?_;clear hK K
 show AWp _ _ _ _ _
 refine wret ?_
 simp [C.slices_ContainsFunc_impl_Laurent_impl_Laurent]
 exact hr
theorem impl_SeedOk_c (s:Sed) (hx:s.m.d.length < 17592186044416) (hl:s.f.length < 4611686018427387904) (hf:∀ f∈s.f,SmF f):ACalls Try.prog F.impl_SeedOk [aS s] [] true (fun outs res=>outs=[]/\res=[.one (D.bool (decide (SeedOK s)))]):=by
 refine ACalls.of_body (C:=C.impl_SeedOk) (n:=Try.f44.ntmps) tabT folT Try.func44 rfl (by kernel_rfl) rfl (Nat.le_of_ble_eq_true rfl) (by decide) (by kernel_rfl) (by kernel_rfl) rfl (by simp) (by simp) ?_
 simp only [Try.f44]
 refine wseq ?_
 refine wreg fun K hK=>?_
 simp [C.impl_SeedOk,sS]
 refine hK _ ?_;clear hK K
 show AWp _ _ _ _ _
 refine wseq ?_
 refine wseq ?_
 refine wregI ([0,1,2] ++ ([3,4,5,6,7,8,9,10,11,12])) rfl fun K hK=>?_
 have hJ:K ⟨ofL [(1,.pt (1,0) [] 0),(15,.bool (!decide (MatOK s.m/\(s.f.length:Int)=s.m.r)))],ofRO [((1,0),some (.bx (sS s)))]⟩:=by
  refine hK _ ?_;clear hK K
  show AWp _ _ _ _ _
  refine wcond _ rfl (fun hc1=>?_) (fun hc1=>?_)
  ·have hr:=nd_t hc1
   have hno:¬ SeedOK s:=fun h=>hr ⟨h.1,h.2.1⟩
   refine wseq ?_
   refine wreg fun K hK=>?_
   simp [C.impl_SeedOk,sS]
   refine hK _ ?_;clear hK K
   show AWp _ _ _ _ _
   refine wret ?_
   simp [C.impl_SeedOk,sS,hno]
  ·have hr:=nd_f hc1
   have hany:(!(s.f.any fun f=>!decide (VarOk s.m.r f)))=decide (SeedOK s):=by
    rw [Bool.eq_iff_iff]
    simp only [Bool.not_eq_true',List.any_eq_false,decide_eq_true_eq]
    refine ⟨fun h=>⟨hr.1,hr.2,fun f hm=>?_⟩,fun h f hm=>?_⟩
    ·simpa using h f hm
    ·simpa using h.2.2 f hm
   have hcall:=slices_ContainsFunc_impl_Laurent_impl_Laurent_c s.f F.impl_SeedOk_1 (sS s) (fun f=>!decide (VarOk s.m.r f)) hl (by simp) (fun f hm=>impl_SeedOk_1_c s f (hf f hm).1 (hf f hm).2)
   simp only [sS] at hcall
   refine wskip ?_
   show AWp _ _ _ _ _
   refine wseq ?_
   refine wregI ([0,1,2,3] ++ ([4,5])) rfl fun K hK=>?_
   refine oSg fun L hL=>?_
   simp [C.impl_SeedOk,sS]
   refine wcall1 (hcall) (by simp) (by simp) ?_
   simp [C.impl_SeedOk,sS]
   refine hL _ ?_;clear hL L
   refine oEn fun L hL=>?_
   simp [C.impl_SeedOk,sS]
   refine hL _ ?_;clear hL L
   simp [C.impl_SeedOk,sS]
   refine hK _ ?_;clear hK K
   show AWp _ _ _ _ _
   refine wret ?_
   simp [C.impl_SeedOk,sS]
   rw [<-hany];simp
 clear hK
 by_cases h1:MatOK s.m
 ·refine oSg fun L hL=>?_
  simp [C.impl_SeedOk,sS,h1]
  refine wcall1 (impl_MatrixOkG_c s.m hx) (by simp) (by simp) ?_
  simp [C.impl_SeedOk,sS,h1]
  refine hL _ ?_;clear hL L
  refine oEn fun L hL=>?_
  simp [C.impl_SeedOk,sS,h1]
  refine hL _ ?_;clear hL L
  simp [C.impl_SeedOk,sS,h1]
  refine cast (congrArg K ?_) hJ
  simp [ibne,sS,h1]
 ·refine oSg fun L hL=>?_
  simp [C.impl_SeedOk,sS,h1]
  refine wcall1 (impl_MatrixOkG_c s.m hx) (by simp) (by simp) ?_
  simp [C.impl_SeedOk,sS,h1]
  refine hL _ ?_;clear hL L
  refine oEn fun L hL=>?_
  simp [C.impl_SeedOk,sS,h1]
  refine hL _ ?_;clear hL L
  simp [C.impl_SeedOk,sS,h1]
  refine cast (congrArg K ?_) hJ
  simp [ibne,sS,h1]
end Go.Proofs.Ytncfmemhjahpeaa.Ab
