/- Forms along steps. Drawing numbers to be put in place of variables. Drawing matrices: names, empty ones, joins. Sequences of rank two: both sides make the same. Sums that are computed: what is checked of them; their values at ones. Sequences of two variables are made by mutations in turn. Sequences of Somos in variables: both sides make the same. Sequences of Somos: what is computed of them. Factors of trees and of matrices under other names. Drawing a matrix that is a tree. Seeds as arguments of laws: their sizes, copies. Seeds of laws: how great they are. Mutation of a seed along a list: the program's is the reference's, fresh at each call. The first seed of any matrix; what is the same; whether a session is one. What the law of Somos' sequences calls. A matrix under other names, by the program. Drawing matrices: names, other names, mutations. An entry of a matrix. Drawing a matrix and steps. Sequences of two variables are made by mutations in turn, and come back: the law. Forms: the law. A code of bytes as an argument, read as a tree. Forms: the law, with its argument. No condition. -/
import Derived.Test.YtfcgcgmleogamaaKFmd
import Derived.Test.YtfcgcgmleogamaaKFmc
set_option linter.unusedVariables false
set_option linter.unusedSimpArgs false
set_option linter.unusedSectionVars false
namespace Go.Proofs.Ytfcgcgmleogamaa.Ab
open Go
set_option maxRecDepth 10000
set_option maxHeartbeats 4000000
theorem iFo_c (m:Mat) (hx:m.d.length < 17592186044416) (hS:ShM m):ACalls Try.prog F.impl_FormOf [aM m] [] true (fun outs res=>outs=[]/\res=[.one (.ow 1 (foF m).1.length (rows lO (foF m).1)),.one (D.bool (foF m).2)]):=(impl_FormOf_c m hx hS).weak1
theorem iMf_c (fm:List (List Int)) (m:Mat) (k:Int) (h0:fm.length < 4611686018427387904) (hI:I64 fm) (hx:m.d.length < 17592186044416):ACalls Try.prog F.impl_MutateForm [.d (.sh 1 fm.length (rows lS fm)),aM m,.int k] [] true (fun outs res=>outs=[]/\res=[.one (.ow 1 (mfF fm m k).1.length (rows lO (mfF fm m k).1)),.one (D.bool (mfF fm m k).2)]):=(impl_MutateForm_c fm m k h0 hI hx).weak1
theorem sFo_c (m:Mat) (hx:m.d.length < 17592186044416):ACalls Try.prog F.spec_FormOf [aM m] [] true (fun outs res=>outs=[]/\res=[.one (.ow 1 (foF m).1.length (rows lO (foF m).1)),.one (D.bool (foF m).2)]):=(spec_FormOf_c m hx).weak1
theorem sMf_c (fm:List (List Int)) (m:Mat) (k:Int) (h0:fm.length < 4611686018427387904) (hI:I64 fm) (hx:m.d.length < 17592186044416):ACalls Try.prog F.spec_MutateForm [.d (.sh 1 fm.length (rows lS fm)),aM m,.int k] [] true (fun outs res=>outs=[]/\res=[.one (.ow 1 (mfF fm m k).1.length (rows lO (mfF fm m k).1)),.one (D.bool (mfF fm m k).2)]):=(spec_MutateForm_c fm m k h0 hI hx).weak1
theorem sAl_c (m:Mat) (ks:List Int) (hx:m.d.length < 17592186044416) (hks:ks.length < 4611686018427387904):ACalls Try.prog F.spec_l4Along [aM m,.d (shI ks)] [] true (fun outs res=>outs=[]/\res=[.one (.ow 3 (wkR m ks).1.length (rows mO (wkR m ks).1)),.one (D.bool (wkR m ks).2)]):=(spec_l4Along_c m ks hx hks).weak1
theorem FormOk.i64 {fm:List (List Int)} (h:FormOk fm):I64 fm:=fun r hr x hx=>by
 obtain ⟨i,hi,rfl⟩:=List.getElem_of_mem hr
 obtain ⟨j,hj,rfl⟩:=List.getElem_of_mem hx
 have hl:=h.2.1 i hi
 rw [row_eq hi] at hl
 have:=(h.2.2 i hi j (by omega)).1
 rw [at2_eq hi hj] at this
 omega
theorem fcL_form {m:Mat} {ws:List Mat} {ks:List Int}:∀ {t:Nat} {f:List (List Int)},fcL m ws ks t=some f->FormOk f
 | 0,f,e=>by
  simp only [fcL] at e
  split at e
  ·injection e with e
   unfold foF at e
   split at e
   ·rename_i q
    subst e
    exact q.2
   ·rename_i q1 q
    unfold foF at q1
    rw [if_neg q] at q1
    simp at q1
  ·simp at e
 | t+1,f,e=>by
  simp only [fcL] at e
  split at e
  ·rename_i g hg
   split at e
   ·rename_i q
    injection e with e
    exact (mfF_ok (show mfF g (ws.getD t zM) (ks.getD t 0)=(f,true) from Prod.ext e q)).2.2.2.2.1
   ·simp at e
  ·simp at e
def fmS (fm:List (List Int)):List D:=[.sh 1 fm.length (rows lS fm)]
theorem fmS_one (t:List (List Int)):(fmS t).length=1:=rfl
section
variable {l:List (List (List Int))} {i:Nat}
theorem fmS_0 (h:i < l.length):(rows fmS l)[i]? = some (.sh 1 l[i].length (rows lS l[i]))/\∀ h',(rows fmS l)[i]'h' = .sh 1 l[i].length (rows lS l[i]):=twice (by
 have:=rows_get fmS_one l i 0 h (by omega)
 rw [Nat.one_mul,Nat.add_zero] at this
 exact this)
end
theorem fmS_snoc (l:List (List (List Int))) (f:List (List Int)):rows fmS l ++ [D.sh 1 f.length (rows lS f)]=rows fmS (l ++ [f]):=by
 rw [rows_append]
 simp [rows,fmS]
noncomputable def fcA (m:Mat) (ws:List Mat) (ks:List Int) (t:Nat):List (List (List Int)):=(List.range (t+1)).map fun i=>(fcL m ws ks i).getD []
noncomputable def foR (m:Mat) (ks:List Int):List (List (List Int))×List Mat×Bool:=
 match wkF m ks with
 | some ws=>(match fcL m ws ks ks.length with | some _=>(fcA m ws ks ks.length,ws,true) | none=>([],[],false))
 | none=>([],[],false)
theorem impl_forms_c (m:Mat) (ks:List Int) (hx:m.d.length < 17592186044416) (hks:ks.length < 4611686018427387904) (hS:ShM m):ACalls Try.prog F.impl_forms [aM m,.d (shI ks)] [] false (fun outs res=>outs=[]/\WkRs res [.one (.ow 1 (foR m ks).1.length (rows fmS (foR m ks).1)),.one (.ow 3 (foR m ks).2.1.length (rows mS (foR m ks).2.1)),.one (D.bool (foR m ks).2.2)]):=by
 have hwb:(wkR m ks).2=true↔∃ ws,wkF m ks=some ws/\wkR m ks=(ws,true):=by
  unfold wkR
  cases wkF m ks <;> simp
 refine ACalls.of_body (C:=C.impl_forms) (n:=Try.f55.ntmps) tabT folT Try.func55 rfl (by kernel_rfl) rfl (Nat.le_of_ble_eq_true rfl) (by decide) (by kernel_rfl) (by kernel_rfl) rfl (by simp) (by simp) ?_
 simp only [Try.f55]
 refine wseq ?_
 refine wreg fun K hK=>?_
 simp [C.impl_forms,mS]
 refine hK _ ?_;clear hK K
 show AWp _ _ _ _ _
 refine wseq ?_
 refine wregI ([0,1,2] ++ ([3,4,5,6,7])) rfl fun K hK=>?_
 refine oSg fun L hL=>?_
 simp [C.impl_forms,mS]
 refine wcall (iWk_c m ks hx hks) (by simp) (by simp) (by simp) ?_
 rintro outs res ⟨rfl,rfl⟩
 simp [C.impl_forms,mS]
 refine hL _ ?_;clear hL L
 refine oEn fun L hL=>?_
 simp [C.impl_forms,mS]
 refine hL _ ?_;clear hL L
 simp [C.impl_forms,mS]
 refine hK _ ?_;clear hK K
 show AWp _ _ _ _ _
 refine wseq ?_
 refine wregI ([0,1] ++ ([2,3,4,5,6])) rfl fun K hK=>?_
 refine oSg fun L hL=>?_
 simp [C.impl_forms,mS]
 refine wcall1 (iFo_c m hx hS) (by simp) (by simp) ?_
 simp [C.impl_forms,mS]
 refine hL _ ?_;clear hL L
 refine oEn fun L hL=>?_
 simp [C.impl_forms,mS]
 refine hL _ ?_;clear hL L
 simp [C.impl_forms,mS]
 refine hK _ ?_;clear hK K
 show AWp _ _ _ _ _
 refine wseq ?_
 refine wseq ?_
 refine wreg fun K hK=>?_
 have hJ:K ⟨ofL [(1,.d (shI ks)),(7,.al (7,0) [] 0 (wkR m ks).1.length),(9,.d (.sh 1 (foF m).1.length (rows lS (foF m).1))),(30,.bool (!((wkR m ks).2 && (foF m).2)))],ofRO [((7,0),some (.ow 3 (wkR m ks).1.length (rows mS (wkR m ks).1)))]⟩:=by
  refine hK _ ?_;clear hK K
  show AWp _ _ _ _ _
  refine wcond _ rfl (fun hc1=>?_) (fun hc1=>?_)
  ·have hr:((wkR m ks).2 && (foF m).2)=false:=by have h9:=hc1;rw [Bool.not_eq_true'] at h9;exact h9
   have hf:foR m ks=([],[],false):=by
    unfold foR
    split
    ·rename_i ws hws
     have h1:(wkR m ks).2=true:=hwb.2 ⟨ws,hws,by unfold wkR;rw [hws]⟩
     rw [h1,Bool.true_and] at hr
     have h0:fcL m ws ks 0=none:=by simp only [fcL,hr];simp
     rw [fcL_none h0 (by omega)]
    ·rfl
   refine wseq ?_
   refine wreg fun K hK=>?_
   simp [C.impl_forms,mS]
   refine hK _ ?_;clear hK K
   show AWp _ _ _ _ _
   refine wret ?_
   simp [C.impl_forms,mS,hf,rows]
  ·have hr:((wkR m ks).2 && (foF m).2)=true:=by simpa using hc1
   rw [Bool.and_eq_true] at hr
   obtain ⟨hr1,hr2⟩:=hr
   obtain ⟨ws,hws,hwr⟩:=hwb.1 hr1
   rw [hwr]
   dsimp only
   have hc0:fcL m ws ks 0=some (foF m).1:=by simp only [fcL,hr2];simp
   obtain ⟨w1,w2,w3,w4,w5⟩:=wkF_ok hws
   refine wskip ?_
   show AWp _ _ _ _ _
   refine wseq ?_
   refine wreg fun K hK=>?_
   simp [C.impl_forms,mS]
   refine hK _ ?_;clear hK K
   show AWp _ _ _ _ _
   refine wseq ?_
   refine wseq ?_
   refine wreg fun K hK=>?_
   simp [C.impl_forms,mS]
   refine hK _ ?_;clear hK K
   show AWp _ _ _ _ _
   refine wblock ?_
   refine wloop (fun x:Nat×List (List Int)×List (List (List Int))=>⟨ofL [(7,.al (7,0) [] 0 ws.length),(9,.d (.sh 1 x.2.1.length (rows lS x.2.1))),(11,.al (11,0) [] 0 x.2.2.length),(33,.d (shI ks)),(34,.int ks.length),(35,.int x.1)],ofRO [((7,0),some (.ow 3 ws.length (rows mS ws))),((11,0),some (.ow 1 x.2.2.length (rows fmS x.2.2)))]⟩) (fun x=>x.1<=ks.length/\fcL m ws ks x.1=some x.2.1/\x.2.2=fcA m ws ks x.1) (fun x=>ks.length - x.1) (0,(foF m).1,[(foF m).1]) (by simp [C.impl_forms,rows,fmS]) ⟨by simp,hc0,by simp [fcA,hc0]⟩ ?_
   intro x1 hx1 R1 hR1
   obtain ⟨i,f,L⟩:=x1
   obtain ⟨g1,g2,g3⟩:=hx1
   dsimp only at g1 g2 g3 ⊢
   have hfo:=fcL_form g2
   refine wseq ?_
   refine wreg fun K hK=>?_
   simp [C.impl_forms,mS]
   refine hK _ ?_;clear hK K
   show AWp _ _ _ _ _
   refine wseq ?_
   refine wcond _ rfl (fun hc2=>?_) (fun hc2=>?_)
   ·have hi:i < ks.length:=by have:=d_t hc2;omega
    have hiw:i < ws.length:=by omega
    have hwl:=wkM_len (w4 _ (List.getElem_mem hiw))
    have hwd:ws.getD i zM=ws[i]:=by simp [List.getD_eq_getElem?_getD,hiw]
    have hmf:=iMf_c f ws[i] ks[i] (by have:=hfo.1;omega) hfo.i64 (by omega)
    have hnx:fcL m ws ks (i+1)=if (mfF f ws[i] ks[i]).2=true then some (mfF f ws[i] ks[i]).1 else none:=by
     simp only [fcL,g2]
     rw [hwd,show ks.getD i 0=ks[i] by simp [List.getD_eq_getElem?_getD,hi]]
    obtain ⟨G,hG⟩:∃ G,G=mfF f ws[i] ks[i]:=⟨_,rfl⟩
    rw [<-hG] at hmf hnx
    refine wskip ?_
    show AWp _ _ _ _ _
    refine wseq ?_
    refine wblock ?_
    refine wseq ?_
    refine wreg fun K hK=>?_
    simp [C.impl_forms,mS,get_ints,hi,show (i:Int) < ks.length by omega]
    refine hK _ ?_;clear hK K
    show AWp _ _ _ _ _
    refine wseq ?_
    refine wregI ([0,1,2,3,4,5,6] ++ ([7,8,9,10,11])) rfl fun K hK=>?_
    refine oSg fun L hL=>?_
    simp [C.impl_forms,mS,hiw,mS_0 hiw,mS_1 hiw,mS_2 hiw,show (i:Int) < ws.length by omega]
    refine wcall1 (hmf) (by simp [mS,hiw,mS_0 hiw,mS_1 hiw,mS_2 hiw,show (i:Int) < ws.length by omega]) (by simp) ?_
    simp [C.impl_forms,mS,hiw,mS_0 hiw,mS_1 hiw,mS_2 hiw,show (i:Int) < ws.length by omega]
    refine hL _ ?_;clear hL L
    refine oEn fun L hL=>?_
    simp [C.impl_forms,mS,hiw,mS_0 hiw,mS_1 hiw,mS_2 hiw,show (i:Int) < ws.length by omega]
    refine hL _ ?_;clear hL L
    simp [C.impl_forms,mS,hiw,mS_0 hiw,mS_1 hiw,mS_2 hiw,show (i:Int) < ws.length by omega]
    refine hK _ ?_;clear hK K
    show AWp _ _ _ _ _
    refine wseq ?_
    refine wseq ?_
    refine wreg fun K hK=>?_
    simp [C.impl_forms,mS]
    refine hK _ ?_;clear hK K
    show AWp _ _ _ _ _
    refine wcond _ rfl (fun hc3=>?_) (fun hc3=>?_)
    ·have hb:G.2=false:=by simpa using hc3
     have hn0:fcL m ws ks (i+1)=none:=by rw [hnx,hb];rfl
     have hf:foR m ks=([],[],false):=by
      unfold foR
      rw [hws]
      dsimp only
      rw [fcL_none hn0 (by omega)]
     refine wseq ?_
     refine wreg fun K hK=>?_
     simp [C.impl_forms,mS]
     refine hK _ ?_;clear hK K
     show AWp _ _ _ _ _
     refine wret ?_
     simp [C.impl_forms,mS,hf,rows]
    ·have hb:G.2=true:=by simpa using hc3
     rw [if_pos hb] at hnx
     refine wskip ?_
     show AWp _ _ _ _ _
     refine wreg fun K hK=>?_
     simp [C.impl_forms,mS,fmS_snoc,show (L.length+1)*24<=140737488355328 by (have e:=g3;have:L.length=i+1:=by rw [e];simp [fcA]);omega]
     refine hK _ ?_;clear hK K
     show AWp _ _ _ _ _
     refine wreg fun K hK=>?_
     simp [C.impl_forms,mS,wrap_succ (show i < 4611686018427387904 by omega)]
     refine hK _ ?_;clear hK K
     simp [C.impl_forms,mS]
     refine cast (congrArg R1 ?_) (hR1 (i+1,G.1,L ++ [G.1]) ⟨hi,hnx,?_⟩ (by dsimp only;omega))
     ·simp
     ·dsimp only
      rw [g3]
      unfold fcA
      rw [List.range_succ (n:=i+1),List.map_append]
      simp [hnx]
   ·have hi:i=ks.length:=by have:=d_f hc2;omega
    have hf:foR m ks=(fcA m ws ks ks.length,ws,true):=by
     unfold foR
     rw [hws]
     dsimp only
     rw [<-hi,g2]
    rw [g3,hi]
    refine wexit ?_
    show AWp _ _ _ _ _
    refine wseq ?_
    refine wreg fun K hK=>?_
    simp [C.impl_forms,mS]
    refine hK _ ?_;clear hK K
    show AWp _ _ _ _ _
    refine wret ?_
    simp [C.impl_forms,mS,hf]
 clear hK
 by_cases h1:(wkR m ks).2=true
 ·simp [C.impl_forms,mS,h1]
  refine cast (congrArg K ?_) hJ
  simp [mS,h1]
 ·simp [C.impl_forms,mS,h1]
  refine cast (congrArg K ?_) hJ
  simp [mS,h1]
def shN (f:List (List Int)):D:=if f=[] then .v (.slice none 0 0) else .sh 1 f.length (rows lS f)
theorem iFs_c (m:Mat) (ks:List Int) (hx:m.d.length < 17592186044416) (hks:ks.length < 4611686018427387904) (hS:ShM m):ACalls Try.prog F.impl_forms [aM m,.d (shI ks)] [] false (fun outs res=>outs=[]/\res=[.one (.ow 1 (foR m ks).1.length (rows fmS (foR m ks).1)),.one (.ow 3 (foR m ks).2.1.length (rows mS (foR m ks).2.1)),.one (D.bool (foR m ks).2.2)]):=(impl_forms_c m ks hx hks hS).weak1
theorem foR_fa (m:Mat) (ks:List Int):((foR m ks).2.2=false/\faF m ks=([],false))\/∃ f,(foR m ks).2.2=true/\faF m ks=(f,true)/\FormOk f/\(foR m ks).1.length=ks.length+1/\(foR m ks).1[ks.length]? = some f/\ks.length<=40:=by
 unfold foR faF
 cases hws:wkF m ks with
 | none=>exact .inl ⟨rfl,rfl⟩
 | some ws=>
  cases hf:fcL m ws ks ks.length with
  | none=>
   simp only [hf]
   exact .inl ⟨trivial,trivial⟩
  | some f=>
   simp only [hf]
   exact .inr ⟨f,trivial,rfl,fcL_form hf,by simp [fcA],by simp [fcA,hf],(wkF_ok hws).2.1⟩
theorem impl_FormAlong_c (m:Mat) (ks:List Int) (hx:m.d.length < 17592186044416) (hks:ks.length < 4611686018427387904) (hS:ShM m):ACalls Try.prog F.impl_FormAlong [aM m,.d (shI ks)] [] false (fun outs res=>outs=[]/\res=[.one (shN (faF m ks).1),.one (D.bool (faF m ks).2)]):=by
 refine ACalls.of_body (C:=C.impl_FormAlong) (n:=Try.f11.ntmps) tabT folT Try.func11 rfl (by kernel_rfl) rfl (Nat.le_of_ble_eq_true rfl) (by decide) (by kernel_rfl) (by kernel_rfl) rfl (by simp) (by simp) ?_
 simp only [Try.f11]
 refine wseq ?_
 refine wreg fun K hK=>?_
 simp [C.impl_FormAlong,mS]
 refine hK _ ?_;clear hK K
 show AWp _ _ _ _ _
 refine wseq ?_
 refine wregI ([0,1,2] ++ ([3,4,5,6,7,8,9])) rfl fun K hK=>?_
 refine oSg fun L hL=>?_
 simp [C.impl_FormAlong,mS]
 refine wcall (iFs_c m ks hx hks hS) (by simp) (by simp) (by simp) ?_
 rintro outs res ⟨rfl,rfl⟩
 simp [C.impl_FormAlong,mS]
 refine hL _ ?_;clear hL L
 refine oEn fun L hL=>?_
 simp [C.impl_FormAlong,mS]
 refine hL _ ?_;clear hL L
 simp [C.impl_FormAlong,mS]
 refine hK _ ?_;clear hK K
 show AWp _ _ _ _ _
 refine wseq ?_
 refine wseq ?_
 refine wreg fun K hK=>?_
 simp [C.impl_FormAlong,mS]
 refine hK _ ?_;clear hK K
 show AWp _ _ _ _ _
 refine wcond _ rfl (fun hc1=>?_) (fun hc1=>?_)
 ·have hr:(foR m ks).2.2=false:=by simpa using hc1
  have hf:faF m ks=([],false):=by
   rcases foR_fa m ks with ⟨_,h⟩ | ⟨f,h,_⟩
   ·exact h
   ·rw [hr] at h;simp at h
  refine wseq ?_
  refine wreg fun K hK=>?_
  simp [C.impl_FormAlong,mS]
  refine hK _ ?_;clear hK K
  show AWp _ _ _ _ _
  refine wret ?_
  simp [C.impl_FormAlong,mS,hf,shN]
 ·have hr:(foR m ks).2.2=true:=by simpa using hc1
  obtain ⟨f,hf,hfo,hl,hg,hk40⟩:∃ f,faF m ks=(f,true)/\FormOk f/\(foR m ks).1.length=ks.length+1/\(foR m ks).1[ks.length]? = some f/\ks.length<=40:=by
   rcases foR_fa m ks with ⟨h,_⟩ | ⟨f,_,h1,h2,h3,h4,h5⟩
   ·rw [hr] at h;simp at h
   ·exact ⟨f,h1,h2,h3,h4,h5⟩
  obtain ⟨L,hL⟩:∃ L,L=(foR m ks).1:=⟨_,rfl⟩
  rw [<-hL] at hl hg
  rw [<-hL]
  have hkl:ks.length < L.length:=by omega
  have hge:L[ks.length]=f:=by
   rw [List.getElem?_eq_getElem hkl] at hg
   injection hg
  have hne:¬ f=[]:=fun e=>by
   have:=hfo.1
   rw [e] at this
   simp at this
  have hw:IntKind.i64.wrap ((L.length:Int) - 1)=(ks.length:Int):=by rw [wrapOk (by omega) (by omega)];omega
  have hfs:=fmS_0 hkl
  rw [hge] at hfs
  obtain ⟨K0,hK0⟩:∃ K0,K0=ks.length:=⟨_,rfl⟩
  rw [<-hK0] at hfs hw hkl
  refine wskip ?_
  show AWp _ _ _ _ _
  refine wseq ?_
  refine wreg fun K hK=>?_
  simp [C.impl_FormAlong,mS,hw,hfs,hkl,show (K0:Int) < L.length by omega]
  refine hK _ ?_;clear hK K
  show AWp _ _ _ _ _
  refine wret ?_
  simp [C.impl_FormAlong,mS,hf,shN,hne]
theorem spec_FormAlong_c (m:Mat) (ks:List Int) (hx:m.d.length < 17592186044416) (hks:ks.length < 4611686018427387904):ACalls Try.prog F.spec_FormAlong [aM m,.d (shI ks)] [] true (fun outs res=>outs=[]/\WkRs res [.one (.ow 1 (faF m ks).1.length (rows lO (faF m ks).1)),.one (D.bool (faF m ks).2)]):=by
 have hwb:(wkR m ks).2=true↔∃ ws,wkF m ks=some ws/\wkR m ks=(ws,true):=by
  unfold wkR
  cases wkF m ks <;> simp
 refine ACalls.of_body (C:=C.spec_FormAlong) (n:=Try.f16.ntmps) tabT folT Try.func16 rfl (by kernel_rfl) rfl (Nat.le_of_ble_eq_true rfl) (by decide) (by kernel_rfl) (by kernel_rfl) rfl (by simp) (by simp) ?_
 simp only [Try.f16]
 refine wseq ?_
 refine wreg fun K hK=>?_
 simp [C.spec_FormAlong,mS]
 refine hK _ ?_;clear hK K
 show AWp _ _ _ _ _
 refine wseq ?_
 refine wregI ([0,1] ++ ([2,3,4,5,6])) rfl fun K hK=>?_
 refine oSg fun L hL=>?_
 simp [C.spec_FormAlong,mS]
 refine wcall1 (sFo_c m hx) (by simp) (by simp) ?_
 simp [C.spec_FormAlong,mS]
 refine hL _ ?_;clear hL L
 refine oEn fun L hL=>?_
 simp [C.spec_FormAlong,mS]
 refine hL _ ?_;clear hL L
 simp [C.spec_FormAlong,mS]
 refine hK _ ?_;clear hK K
 show AWp _ _ _ _ _
 refine wseq ?_
 refine wregI ([0,1,2] ++ ([3,4,5,6,7])) rfl fun K hK=>?_
 refine oSg fun L hL=>?_
 simp [C.spec_FormAlong,mS]
 refine wcall1 (sAl_c m ks hx hks) (by simp) (by simp) ?_
 simp [C.spec_FormAlong,mS]
 refine hL _ ?_;clear hL L
 refine oEn fun L hL=>?_
 simp [C.spec_FormAlong,mS]
 refine hL _ ?_;clear hL L
 simp [C.spec_FormAlong,mS]
 refine hK _ ?_;clear hK K
 show AWp _ _ _ _ _
 refine wseq ?_
 refine wseq ?_
 refine wreg fun K hK=>?_
 have hJ:K ⟨ofL [(1,.d (shI ks)),(6,.al (6,0) [] 0 (foF m).1.length),(8,.al (8,0) [] 0 (wkR m ks).1.length),(29,.bool (!((foF m).2 && (wkR m ks).2)))],ofRO [((6,0),some (.ow 1 (foF m).1.length (rows lO (foF m).1))),((8,0),some (.ow 3 (wkR m ks).1.length (rows mO (wkR m ks).1)))]⟩:=by
  refine hK _ ?_;clear hK K
  show AWp _ _ _ _ _
  refine wcond _ rfl (fun hc1=>?_) (fun hc1=>?_)
  ·have hr:((foF m).2 && (wkR m ks).2)=false:=by have h9:=hc1;rw [Bool.not_eq_true'] at h9;exact h9
   have hf:faF m ks=([],false):=by
    unfold faF
    split
    ·rename_i ws hws
     have h1:(wkR m ks).2=true:=hwb.2 ⟨ws,hws,by unfold wkR;rw [hws]⟩
     rw [h1,Bool.and_true] at hr
     have h0:fcL m ws ks 0=none:=by simp only [fcL,hr];simp
     rw [fcL_none h0 (by omega)]
    ·rfl
   refine wseq ?_
   refine wreg fun K hK=>?_
   simp [C.spec_FormAlong,mS]
   refine hK _ ?_;clear hK K
   show AWp _ _ _ _ _
   refine wret ?_
   simp [C.spec_FormAlong,mS,hf,rows]
  ·have hr:((foF m).2 && (wkR m ks).2)=true:=by simpa using hc1
   rw [Bool.and_eq_true] at hr
   obtain ⟨hr2,hr1⟩:=hr
   obtain ⟨ws,hws,hwr⟩:=hwb.1 hr1
   rw [hwr]
   dsimp only
   have hc0:fcL m ws ks 0=some (foF m).1:=by simp only [fcL,hr2];simp
   obtain ⟨w1,w2,w3,w4,w5⟩:=wkF_ok hws
   refine wskip ?_
   show AWp _ _ _ _ _
   refine wseq ?_
   refine wseq ?_
   refine wreg fun K hK=>?_
   simp [C.spec_FormAlong,mS]
   refine hK _ ?_;clear hK K
   show AWp _ _ _ _ _
   refine wblock ?_
   refine wloop (fun x:Nat×List (List Int)=>⟨ofL [(1,.d (shI ks)),(6,.al (6,0) [] 0 x.2.length),(8,.al (8,0) [] 0 ws.length),(10,.int x.1)],ofRO [((6,0),some (.ow 1 x.2.length (rows lO x.2))),((8,0),some (.ow 3 ws.length (rows mO ws)))]⟩) (fun x=>x.1<=ks.length/\fcL m ws ks x.1=some x.2) (fun x=>ks.length - x.1) (0,(foF m).1) (by simp [C.spec_FormAlong]) ⟨by simp,hc0⟩ ?_
   intro x1 hx1 R1 hR1
   obtain ⟨i,f⟩:=x1
   obtain ⟨g1,g2⟩:=hx1
   dsimp only at g1 g2 ⊢
   have hfo:=fcL_form g2
   refine wseq ?_
   refine wseq ?_
   refine wreg fun K hK=>?_
   simp [C.spec_FormAlong,mS]
   refine hK _ ?_;clear hK K
   show AWp _ _ _ _ _
   refine wcond _ rfl (fun hc2=>?_) (fun hc2=>?_)
   ·have hi:i < ks.length:=by have:=d_t hc2;omega
    have hiw:i < ws.length:=by omega
    have hwl:=wkM_len (w4 _ (List.getElem_mem hiw))
    have hwd:ws.getD i zM=ws[i]:=by simp [List.getD_eq_getElem?_getD,hiw]
    have hmf:=sMf_c f ws[i] ks[i] (by have:=hfo.1;omega) hfo.i64 (by omega)
    have hnx:fcL m ws ks (i+1)=if (mfF f ws[i] ks[i]).2=true then some (mfF f ws[i] ks[i]).1 else none:=by
     simp only [fcL,g2]
     rw [hwd,show ks.getD i 0=ks[i] by simp [List.getD_eq_getElem?_getD,hi]]
    obtain ⟨G,hG⟩:∃ G,G=mfF f ws[i] ks[i]:=⟨_,rfl⟩
    rw [<-hG] at hmf hnx
    refine wskip ?_
    show AWp _ _ _ _ _
    refine wseq ?_
    refine wblock ?_
    refine wseq ?_
    refine wdrawI [(true,0),(true,1),(true,2),(true,3),(true,4),(true,5),(true,6),(true,7),(true,8),(false,9),(true,10),(true,11),(true,12),(true,13),(true,14)] ⟨by kernel_rfl,by kernel_rfl⟩ ([0,1,2,3,4,5,6,7,8,9] ++ ([10,11,12,13,14])) rfl fun K hK=>?_
    have hJ:K ⟨ofL [(1,.d (shI ks)),(8,.al (8,0) [] 0 ws.length),(10,.int i),(11,.al (11,0) [] 0 G.1.length),(12,.bool G.2)],ofRO [((8,0),some (.ow 3 ws.length (rows mO ws))),((11,0),some (.ow 1 G.1.length (rows lO G.1)))]⟩:=by
     refine hK _ ?_;clear hK K
     show AWp _ _ _ _ _
     refine wseq ?_
     refine wseq ?_
     refine wreg fun K hK=>?_
     simp [C.spec_FormAlong,mS]
     refine hK _ ?_;clear hK K
     show AWp _ _ _ _ _
     refine wcond _ rfl (fun hc3=>?_) (fun hc3=>?_)
     ·have hb:G.2=false:=by simpa using hc3
      have hn0:fcL m ws ks (i+1)=none:=by rw [hnx,hb];rfl
      have hf:faF m ks=([],false):=by
       unfold faF
       rw [hws]
       dsimp only
       rw [fcL_none hn0 (by omega)]
      refine wseq ?_
      refine wreg fun K hK=>?_
      simp [C.spec_FormAlong,mS]
      refine hK _ ?_;clear hK K
      show AWp _ _ _ _ _
      refine wret ?_
      simp [C.spec_FormAlong,mS,hf,rows]
     ·have hb:G.2=true:=by simpa using hc3
      rw [if_pos hb] at hnx
      refine wskip ?_
      show AWp _ _ _ _ _
      refine wreg fun K hK=>?_
      simp [C.spec_FormAlong,mS]
      refine hK _ ?_;clear hK K
      show AWp _ _ _ _ _
      refine wreg fun K hK=>?_
      simp [C.spec_FormAlong,mS,wrap_succ (show i < 4611686018427387904 by omega)]
      refine hK _ ?_;clear hK K
      simp [C.spec_FormAlong,mS]
      exact hR1 (i+1,G.1) ⟨hi,hnx⟩ (by dsimp only;omega)
    clear hK
    simp [C.spec_FormAlong,get_ints,hi,hiw,mO_0 hiw,mO_1 hiw,mO_2 hiw,show (i:Int) < ks.length by omega,show (i:Int) < ws.length by omega]
    repeat' first
     | (refine wcall1 (hmf) ?_ (by simp) ?_;(focus (simp [get_ints,hi,hiw,mO_0 hiw,mO_1 hiw,mO_2 hiw];done));simp [C.spec_FormAlong])
     | (refine cast (congrArg K ?_) hJ;simp;done)
     | refine And.intro ?_ ?_
   ·have hi:i=ks.length:=by have:=d_f hc2;omega
    have hf:faF m ks=(f,true):=by
     unfold faF
     rw [hws]
     dsimp only
     rw [<-hi,g2]
    refine wexit ?_
    show AWp _ _ _ _ _
    refine wseq ?_
    refine wreg fun K hK=>?_
    simp [C.spec_FormAlong,mS]
    refine hK _ ?_;clear hK K
    show AWp _ _ _ _ _
    refine wret ?_
    simp [C.spec_FormAlong,mS,hf]
 clear hK
 by_cases h1:(foF m).2=true
 ·simp [C.spec_FormAlong,mS,h1]
  refine cast (congrArg K ?_) hJ
  simp [mS,h1]
 ·simp [C.spec_FormAlong,mS,h1]
  refine cast (congrArg K ?_) hJ
  simp [mS,h1]
noncomputable def foldM:List Int->Mat->Option Mat
 | [],p=>some p
 | k :: ks,p=>if (muF p k).2=true then foldM ks (muF p k).1 else none
noncomputable def maF (p:Mat) (ks:List Int):Mat×Bool:=if MatOK p/\ks.length<=40 then (match foldM ks p with | some q=>(q,true) | none=>(zM,false)) else (zM,false)
theorem foldM_wk {ws:List Mat} {ks:List Int} (h:∀ t,t < ks.length->muF (ws.getD t zM) (ks.getD t 0)=(ws.getD (t+1) zM,true)):∀ t,t<=ks.length->foldM (ks.drop (ks.length - t)) (ws.getD (ks.length - t) zM)=some (ws.getD ks.length zM)
 | 0,_=>by simp [foldM]
 | t+1,ht=>by
  have hi:ks.length - (t+1) < ks.length:=by omega
  rw [List.drop_eq_getElem_cons hi]
  simp only [foldM]
  have e:=h _ hi
  rw [show ks.getD (ks.length - (t+1)) 0=ks[ks.length - (t+1)] by simp [List.getD_eq_getElem?_getD,hi]] at e
  rw [e,show ks.length - (t+1)+1=ks.length - t by omega]
  exact foldM_wk h t (by omega)
theorem maF_wk {m:Mat} {ks:List Int} {ws:List Mat} (hw:wkF m ks=some ws):maF (prinM m) ks=(ws.getD ks.length zM,true):=by
 have hq:=wkF_ok hw
 have hl:wkL m ks ks.length=some ws:=by
  unfold wkF at hw
  split at hw
  ·exact hw
  ·simp at hw
 obtain ⟨g0,g1⟩:=wkL_get hq.1 hl
 have:=foldM_wk g1 ks.length (Nat.le_refl _)
 rw [Nat.sub_self,g0,List.drop_zero] at this
 unfold maF
 rw [if_pos ⟨prin_ok hq.1,hq.2.1⟩,this]
theorem impl_MutateAlong_c (m:Mat) (ks:List Int) (hx:m.d.length < 17592186044416) (hks:ks.length < 4611686018427387904):ACalls Try.prog F.impl_MutateAlong [aM m,.d (shI ks)] [] true (fun outs res=>outs=[]/\WkRs res [.ag (mO (maF m ks).1),.one (D.bool (maF m ks).2)]):=by
 refine ACalls.of_body (C:=C.impl_MutateAlong) (n:=Try.f13.ntmps) tabT folT Try.func13 rfl (by kernel_rfl) rfl (Nat.le_of_ble_eq_true rfl) (by decide) (by kernel_rfl) (by kernel_rfl) rfl (by simp) (by simp) ?_
 simp only [Try.f13]
 refine wseq ?_
 refine wreg fun K hK=>?_
 simp [C.impl_MutateAlong,mS]
 refine hK _ ?_;clear hK K
 show AWp _ _ _ _ _
 refine wseq ?_
 refine wseq ?_
 refine wregI ([0,1] ++ ([2,3,4,5,6,7])) rfl fun K hK=>?_
 have hJ:K ⟨ofL [(1,.d (shI ks)),(2,.pt (2,0) [] 0),(4,.pt (4,0) [] 0),(17,.bool (!decide (MatOK m/\ks.length<=40)))],ofRO [((2,0),some (.bx (mS m))),((4,0),some (.bx [D.int 0,D.int 0,.v (.slice none 0 0)]))]⟩:=by
  refine hK _ ?_;clear hK K
  show AWp _ _ _ _ _
  refine wcond _ rfl (fun hc1=>?_) (fun hc1=>?_)
  ·have hr:=nd_t hc1
   have hm:maF m ks=(zM,false):=if_neg hr
   refine wseq ?_
   refine wreg fun K hK=>?_
   simp [C.impl_MutateAlong,mS]
   refine hK _ ?_;clear hK K
   show AWp _ _ _ _ _
   refine wret ?_
   simp [C.impl_MutateAlong,mS,hm,zM,mO,ints]
  ·have hr:=nd_f hc1
   obtain ⟨hok,hk40⟩:=hr
   have hm:maF m ks=(match foldM ks m with | some q=>(q,true) | none=>(zM,false)):=if_pos ⟨hok,hk40⟩
   obtain ⟨goal,hgoal⟩:∃ goal,goal=foldM ks m:=⟨_,rfl⟩
   rw [<-hgoal] at hm
   refine wskip ?_
   show AWp _ _ _ _ _
   refine wseq ?_
   refine wdraw (.take 0 (.take 1 (.take 2 (.take 3 (.take 4 (.take 5 (.all [(6,.take 7 (.all [(8,.all [(9,.done)])])),(8,.all [(6,.take 7 (.all [(9,.done)]))])]))))))) ⟨by kernel_rfl,by kernel_rfl⟩ fun K hK=>?_
   have hJ:K ⟨ofL [(1,.d (shI ks)),(4,.pt (4,0) [] 0),(6,.pt (6,0) [] 0)],ofRO [((4,0),some (.bx [D.int 0,D.int 0,.v (.slice none 0 0)])),((6,0),some (.bx (mO m)))]⟩:=by
    refine hK _ ?_;clear hK K
    show AWp _ _ _ _ _
    refine wseq ?_
    refine wreg fun K hK=>?_
    simp [C.impl_MutateAlong,mS]
    refine hK _ ?_;clear hK K
    show AWp _ _ _ _ _
    refine wseq ?_
    refine wseq ?_
    refine wreg fun K hK=>?_
    simp [C.impl_MutateAlong,mS]
    refine hK _ ?_;clear hK K
    show AWp _ _ _ _ _
    refine wblock ?_
    refine wloop (fun x:Nat×Mat=>⟨ofL [(4,.pt (4,0) [] 0),(6,.pt (6,0) [] 0),(27,.d (shI ks)),(28,.int ks.length),(29,.int x.1)],ofRO [((4,0),some (.bx [D.int 0,D.int 0,.v (.slice none 0 0)])),((6,0),some (.bx (mO x.2)))]⟩) (fun x=>x.1<=ks.length/\x.2.d.length<=m.d.length/\foldM (ks.drop x.1) x.2=goal) (fun x=>ks.length - x.1) (0,m) (by simp [C.impl_MutateAlong,mO]) ⟨by simp,by simp,by rw [hgoal];rfl⟩ ?_
    intro x1 hx1 R1 hR1
    obtain ⟨i,t⟩:=x1
    obtain ⟨hi0,htl,htf⟩:=hx1
    dsimp only at hi0 htl htf ⊢
    refine wseq ?_
    refine wreg fun K hK=>?_
    simp [C.impl_MutateAlong,mS]
    refine hK _ ?_;clear hK K
    show AWp _ _ _ _ _
    refine wseq ?_
    refine wcond _ rfl (fun hc2=>?_) (fun hc2=>?_)
    ·have hi:i < ks.length:=by have:=d_t hc2;omega
     rw [List.drop_eq_getElem_cons hi] at htf
     simp only [foldM] at htf
     have hms:=iMu_c t ks[i] (by omega)
     have hgs:=muF_len t ks[i]
     obtain ⟨P,hP⟩:∃ P,P=muF t ks[i]:=⟨_,rfl⟩
     rw [<-hP] at hms hgs htf
     refine wskip ?_
     show AWp _ _ _ _ _
     refine wseq ?_
     refine wblock ?_
     refine wseq ?_
     refine wreg fun K hK=>?_
     simp [C.impl_MutateAlong,mS,hi,get_ints]
     refine hK _ ?_;clear hK K
     show AWp _ _ _ _ _
     refine wseq ?_
     refine wregI ([0,1,2] ++ ([3,4,5,6,7])) rfl fun K hK=>?_
     refine oSg fun L hL=>?_
     simp [C.impl_MutateAlong,mS,mO]
     refine wcall1 (hms) (by simp) (by simp) ?_
     simp [C.impl_MutateAlong,mS,mO]
     refine hL _ ?_;clear hL L
     refine oEn fun L hL=>?_
     simp [C.impl_MutateAlong,mS,mO]
     refine hL _ ?_;clear hL L
     simp [C.impl_MutateAlong,mS,mO]
     refine hK _ ?_;clear hK K
     show AWp _ _ _ _ _
     refine wseq ?_
     refine wreg fun K hK=>?_
     simp [C.impl_MutateAlong,mS]
     refine hK _ ?_;clear hK K
     show AWp _ _ _ _ _
     refine wcond _ rfl (fun hc3=>?_) (fun hc3=>?_)
     ·have hb:P.2=false:=by simpa using hc3
      rw [hb] at htf
      rw [<-htf] at hm
      refine wseq ?_
      refine wreg fun K hK=>?_
      simp [C.impl_MutateAlong,mS]
      refine hK _ ?_;clear hK K
      show AWp _ _ _ _ _
      refine wret ?_
      simp [C.impl_MutateAlong,mS,hm,zM,mO,ints]
     ·have hb:P.2=true:=by simpa using hc3
      rw [if_pos hb] at htf
      refine wskip ?_
      show AWp _ _ _ _ _
      refine wreg fun K hK=>?_
      simp [C.impl_MutateAlong,mS,wrap_succ (show i < 4611686018427387904 by omega)]
      refine hK _ ?_;clear hK K
      simp [C.impl_MutateAlong,mS]
      refine cast (congrArg R1 ?_) (hR1 (i+1,P.1) ⟨hi,by dsimp only;omega,htf⟩ (by dsimp only;omega))
      simp [mO]
    ·have hi:i=ks.length:=by have:=d_f hc2;omega
     rw [hi,List.drop_length] at htf
     simp only [foldM] at htf
     rw [<-htf] at hm
     refine wexit ?_
     show AWp _ _ _ _ _
     refine wseq ?_
     refine wreg fun K hK=>?_
     simp [C.impl_MutateAlong,mS,mO]
     refine hK _ ?_;clear hK K
     show AWp _ _ _ _ _
     refine wret ?_
     simp [C.impl_MutateAlong,mS,hm,mO]
   clear hK
   simp [C.impl_MutateAlong,mS]
   repeat' first
    | (refine wcall1 (clone_c m.d hx) ?_ (by simp) ?_;(focus (simp;done));simp [C.impl_MutateAlong])
    | (refine cast (congrArg K ?_) hJ;simp [mO];done)
    | refine And.intro ?_ ?_
 clear hK
 by_cases h1:MatOK m
 ·refine oSg fun L hL=>?_
  simp [C.impl_MutateAlong,mS,show ((40:Int) < ks.length)=(40 < ks.length) by rw [eq_iff_iff];omega,h1]
  refine wcall1 (impl_MatrixOkG_c m hx) (by simp) (by simp) ?_
  simp [C.impl_MutateAlong,mS,show ((40:Int) < ks.length)=(40 < ks.length) by rw [eq_iff_iff];omega,h1]
  refine hL _ ?_;clear hL L
  refine oEn fun L hL=>?_
  simp [C.impl_MutateAlong,mS,show ((40:Int) < ks.length)=(40 < ks.length) by rw [eq_iff_iff];omega,h1]
  refine hL _ ?_;clear hL L
  simp [C.impl_MutateAlong,mS,show ((40:Int) < ks.length)=(40 < ks.length) by rw [eq_iff_iff];omega,h1]
  refine cast (congrArg K ?_) hJ
  simp [Bool.not_and,show (!decide (ks.length<=40))=decide (40 < ks.length) by rw [Bool.eq_iff_iff];simp,mS,h1]
 ·refine oSg fun L hL=>?_
  simp [C.impl_MutateAlong,mS,show ((40:Int) < ks.length)=(40 < ks.length) by rw [eq_iff_iff];omega,h1]
  refine wcall1 (impl_MatrixOkG_c m hx) (by simp) (by simp) ?_
  simp [C.impl_MutateAlong,mS,show ((40:Int) < ks.length)=(40 < ks.length) by rw [eq_iff_iff];omega,h1]
  refine hL _ ?_;clear hL L
  refine oEn fun L hL=>?_
  simp [C.impl_MutateAlong,mS,show ((40:Int) < ks.length)=(40 < ks.length) by rw [eq_iff_iff];omega,h1]
  refine hL _ ?_;clear hL L
  simp [C.impl_MutateAlong,mS,show ((40:Int) < ks.length)=(40 < ks.length) by rw [eq_iff_iff];omega,h1]
  refine cast (congrArg K ?_) hJ
  simp [Bool.not_and,show (!decide (ks.length<=40))=decide (40 < ks.length) by rw [Bool.eq_iff_iff];simp,mS,h1]
theorem laws_rows_c (a b:List (List Int)) (hx:a.length < 4611686018427387904) (hx2:∀ t∈a,t.length < 4611686018427387904):ACalls Try.prog F.laws_rows [.d (.sh 1 a.length (rows lS a)),.d (.sh 1 b.length (rows lS b))] [] true (fun outs res=>outs=[]/\res=[.one (D.bool (decide (a=b)))]):=by
 refine ACalls.of_body (C:=C.laws_rows) (n:=Try.f22.ntmps) tabT folT Try.func22 rfl (by kernel_rfl) rfl (Nat.le_of_ble_eq_true rfl) (by decide) (by kernel_rfl) (by kernel_rfl) rfl (by simp) (by simp) ?_
 simp only [Try.f22]
 refine wseq ?_
 refine wreg fun K hK=>?_
 simp [C.laws_rows]
 refine hK _ ?_;clear hK K
 show AWp _ _ _ _ _
 refine wseq ?_
 refine wseq ?_
 refine wreg fun K hK=>?_
 simp [C.laws_rows]
 refine hK _ ?_;clear hK K
 show AWp _ _ _ _ _
 refine wcond _ rfl (fun hc1=>?_) (fun hc1=>?_)
 ·refine wseq ?_
  refine wreg fun K hK=>?_
  simp [C.laws_rows]
  refine hK _ ?_;clear hK K
  show AWp _ _ _ _ _
  refine wret ?_
  simp at hc1
  simp [C.laws_rows]
  intro e;simp [e] at hc1
 ·refine wskip ?_
  show AWp _ _ _ _ _
  refine wseq ?_
  refine wseq ?_
  refine wreg fun K hK=>?_
  simp [C.laws_rows]
  refine hK _ ?_;clear hK K
  show AWp _ _ _ _ _
  refine wblock ?_
  have e:a.length=b.length:=by simp at hc1;omega
  refine wloop (fun k:Nat=>⟨ofL [(0,.d (.sh 1 a.length (rows lS a))),(1,.d (.sh 1 b.length (rows lS b))),(5,FV.int k)],ofRO []⟩) (fun k=>k<=a.length/\a.take k=b.take k) (fun k=>a.length - k) 0 (by simp [C.laws_rows]) (by simp) ?_
  intro x1 hx1 R1 hR1
  obtain ⟨hk,ht⟩:=hx1
  refine wseq ?_
  refine wseq ?_
  refine wreg fun K hK=>?_
  simp [C.laws_rows]
  refine hK _ ?_;clear hK K
  show AWp _ _ _ _ _
  refine wcond _ rfl (fun hc2=>?_) (fun hc2=>?_)
  ·refine wskip ?_
   show AWp _ _ _ _ _
   refine wseq ?_
   refine wblock ?_
   refine wseq ?_
   have h1:x1 < a.length:=by simpa using hc2
   have h2:x1 < b.length:=by omega
   refine wdrawI [(true,0),(true,1),(true,2),(true,3),(true,4),(true,5),(true,6),(true,7),(false,8),(true,9)] ⟨by kernel_rfl,by kernel_rfl⟩ ([0,1,2,3,4,5,6,7,8] ++ ([9])) rfl fun K hK=>?_
   have hJ:K ⟨ofL [(0,.d (.sh 1 a.length (rows lS a))),(1,.d (.sh 1 b.length (rows lS b))),(5,FV.int x1),(26,.bool (!decide (a[x1]=b[x1])))],ofRO []⟩:=by
    refine hK _ ?_;clear hK K
    show AWp _ _ _ _ _
    refine wcond _ rfl (fun hc3=>?_) (fun hc3=>?_)
    ·refine wseq ?_
     refine wreg fun K hK=>?_
     simp [C.laws_rows]
     refine hK _ ?_;clear hK K
     show AWp _ _ _ _ _
     refine wret ?_
     simp at hc3
     simp [C.laws_rows]
     intro e;simp [e] at hc3
    ·refine wskip ?_
     show AWp _ _ _ _ _
     refine wreg fun K hK=>?_
     simp [C.laws_rows,wrap_succ (show x1 < 4611686018427387904 by omega)]
     refine hK _ ?_;clear hK K
     simp [C.laws_rows]
     simp at hc3
     refine hR1 (x1+1) ⟨h1,?_⟩ (by omega)
     rw [List.take_succ_eq_append_getElem h1,List.take_succ_eq_append_getElem h2,ht,hc3]
   clear hK
   have hint:=laws_ints_c a[x1] b[x1] (hx2 _ (List.getElem_mem h1))
   simp [C.laws_rows,h1,h2,lS_0 h1,lS_0 h2]
   repeat' first
    | (refine wcall1 (hint) ?_ (by simp) ?_;(focus (simp;done));simp [C.laws_rows,h1,h2,lS_0 h1,lS_0 h2])
    | (refine cast (congrArg K ?_) hJ;simp;done)
    | refine And.intro ?_ ?_
  ·refine wexit ?_
   show AWp _ _ _ _ _
   refine wseq ?_
   refine wreg fun K hK=>?_
   simp [C.laws_rows]
   refine hK _ ?_;clear hK K
   show AWp _ _ _ _ _
   refine wret ?_
   have hk2:x1=a.length:=by simp at hc2;omega
   simp [C.laws_rows]
   rw [hk2,List.take_length,e,List.take_length] at ht
   exact ht
end Go.Proofs.Ytfcgcgmleogamaa.Ab
namespace Go.Proofs.Ytfcgcgmleogamaa.Ab
open Go
set_option maxRecDepth 10000
set_option maxHeartbeats 2000000
attribute [local simp] cur
def DrawBo (xs:List Int) (outs:List D) (res:List RV):Prop:=∃ (i':Nat) (h':Int) (b:Bool),i'<=xs.length/\outs=[cur xs i' h']/\res=[.one (D.bool b)]
theorem spec_l1Once_c (xs:List Int) (i:Nat) (h n:Int) (hi:i<=xs.length) (hx:xs.length<=1048576) (hn:0 < n/\n<=256):ACalls Try.prog F.spec_l1Once [.pt (0,0) [] 0,.int n] [((0,0),cur xs i h)] false (DrawBo xs):=by
 refine ACalls.of_body (C:=C.spec_l1Once) (n:=Try.f195.ntmps) tabT folT Try.func195 rfl (by kernel_rfl) rfl (Nat.le_of_ble_eq_true rfl) (by decide) (by kernel_rfl) (by kernel_rfl) rfl (by simp) (by simp) ?_
 simp only [Try.f195]
 refine wseq ?_
 refine wreg fun K hK=>?_
 simp [C.spec_l1Once,cur]
 refine hK _ ?_;clear hK K
 show AWp _ _ _ _ _
 refine wseq ?_
 refine wregI ([0,1,2] ++ ([3,4])) rfl fun K hK=>?_
 refine oSg fun L hL=>?_
 simp [C.spec_l1Once,cur]
 refine wcall (spec_l1Below_c xs i h n hi hx hn) (by simp) (by simp) (by simp) ?_
 rintro outs res ⟨i',h',r,q1,q2,rfl,rfl⟩
 simp [C.spec_l1Once,cur]
 refine hL _ ?_;clear hL L
 refine oEn fun L hL=>?_
 simp [C.spec_l1Once,cur]
 refine hL _ ?_;clear hL L
 simp [C.spec_l1Once,cur]
 refine hK _ ?_;clear hK K
 show AWp _ _ _ _ _
 refine wret ?_
 simp [C.spec_l1Once,cur]
 exact ⟨i',h',_,q1,rfl,rfl⟩
end Go.Proofs.Ytfcgcgmleogamaa.Ab
namespace Go.Proofs.Ytfcgcgmleogamaa.Ab
open Go
set_option maxRecDepth 10000
set_option maxHeartbeats 2000000
attribute [local simp] cur
theorem ofL_padE:∀ l:List (Nat×FV),ofL l=ofL (l ++ [(0,.dead)])
 | []=>by funext t;simp [ofL]
 | x :: l=>by
  funext t
  have:=congrFun (ofL_padE l) t
  simp only [List.cons_append,ofL] at this ⊢
  split
  ·rfl
  ·exact this
theorem ofL_swap {x y:Nat×FV} (h:x.1≠y.1):∀ l:List (Nat×FV),ofL (l ++ [x,y])=ofL (l ++ [y,x])
 | []=>by
  funext t
  simp only [List.nil_append,ofL]
  by_cases h1:x.1=t
  ·rw [if_pos h1,if_pos h1,if_neg (fun e=>h (h1.trans e.symm))]
  ·rw [if_neg h1,if_neg h1]
 | z :: l=>by
  funext t
  have:=congrFun (ofL_swap h l) t
  simp only [List.cons_append,ofL] at this ⊢
  rw [this]
theorem u8s_byts (xs:List Int):u8s (byts xs)=some xs:=by
 induction xs with
 | nil=>rfl
 | cons x xs ih=>
  simp only [byts,List.map_cons,u8s] at ih ⊢
  rw [ih]
theorem spec_FormatInt_c (n:Nat) (hn:1<=n/\n<=9):ACalls Try.prog F.spec_FormatInt [.int n] [] true (fun outs res=>outs=[]/\res=[.one (.v (.string (strOfNums [48+(n:Int)])))]):=by
 have hw:IntKind.u8.wrap (48+(n:Int))=48+n:=by
  obtain ⟨h1,h2⟩:=hn
  have:n=1\/n=2\/n=3\/n=4\/n=5\/n=6\/n=7\/n=8\/n=9:=by omega
  rcases this with rfl | rfl | rfl | rfl | rfl | rfl | rfl | rfl | rfl <;> decide
 have hmod:Int.tmod (n:Int) 10=n:=by rw [Int.tmod_eq_emod_of_nonneg (by omega)];omega
 have hdiv:Int.tdiv (n:Int) 10=0:=by rw [Int.tdiv_eq_ediv_of_nonneg (by omega)];omega
 refine ACalls.of_body (C:=C.spec_FormatInt) (n:=Try.f188.ntmps) tabT folT Try.func188 rfl (by kernel_rfl) rfl (Nat.le_of_ble_eq_true rfl) (by decide) (by kernel_rfl) (by kernel_rfl) rfl (by simp) (by simp) ?_
 simp only [Try.f188]
 refine wseq ?_
 refine wreg fun K hK=>?_
 simp [C.spec_FormatInt]
 refine hK _ ?_;clear hK K
 show AWp _ _ _ _ _
 refine wseq ?_
 refine wreg fun K hK=>?_
 simp [C.spec_FormatInt]
 refine hK _ ?_;clear hK K
 show AWp _ _ _ _ _
 refine wseq ?_
 refine wreg fun K hK=>?_
 simp [C.spec_FormatInt]
 refine hK _ ?_;clear hK K
 show AWp _ _ _ _ _
 refine wseq ?_
 refine wblock ?_
 refine wloop (fun x:Nat×List Int×Int=>⟨ofL [(0,.int n),(3,.al (3,0) [] 0 x.2.1.length),(4,.int x.2.2)],ofRO [((3,0),some (.ow 1 x.2.1.length (byts x.2.1)))]⟩) (fun x=>(x.1=0/\x.2.1=[]/\x.2.2=n)\/(x.1=1/\x.2.1=[48+(n:Int)]/\x.2.2=0)) (fun x=>1 - x.1) (0,[],n) (by simp [C.spec_FormatInt,byts]) (by simp) ?_
 intro x1 hx1 R1 hR1
 obtain ⟨p,ds,k⟩:=x1
 dsimp only at hx1 ⊢
 refine wseq ?_
 refine wseq ?_
 refine wreg fun K hK=>?_
 have hJ:K ⟨ofL [(0,.int n),(3,.al (3,0) [] 0 ds.length),(4,.int k),(16,.bool (decide (p=0)))],ofRO [((3,0),some (.ow 1 ds.length (byts ds)))]⟩:=by
  refine hK _ ?_;clear hK K
  show AWp _ _ _ _ _
  refine wcond _ rfl (fun hc1=>?_) (fun hc1=>?_)
  ·have hp:p=0:=d_t hc1
   obtain ⟨rfl,rfl⟩:ds=[]/\k=n:=by
    rcases hx1 with ⟨_,q1,q2⟩ | ⟨q,_⟩
    ·exact ⟨q1,q2⟩
    ·omega
   refine wskip ?_
   show AWp _ _ _ _ _
   refine wblock ?_
   refine wseq ?_
   refine wreg fun K hK=>?_
   simp [C.spec_FormatInt,hmod]
   refine hK _ ?_;clear hK K
   show AWp _ _ _ _ _
   refine wseq ?_
   refine wseq ?_
   refine wreg fun K hK=>?_
   simp [C.spec_FormatInt]
   refine hK _ ?_;clear hK K
   show AWp _ _ _ _ _
   refine wcond _ rfl (fun hc2=>?_) (fun hc2=>?_)
   ·have:=d_t hc2;omega
   ·refine wskip ?_
    show AWp _ _ _ _ _
    refine wseq ?_
    refine wreg fun K hK=>?_
    simp [C.spec_FormatInt,hw,wrapOk (x:=48+(n:Int)) (by omega) (by omega),byts]
    refine hK _ ?_;clear hK K
    show AWp _ _ _ _ _
    refine wreg fun K hK=>?_
    simp [C.spec_FormatInt,hdiv,wrapOk (x:=0) (by omega) (by omega)]
    refine hK _ ?_;clear hK K
    simp [C.spec_FormatInt]
    refine cast (congrArg R1 ?_) (hR1 (1,[48+(n:Int)],0) (.inr ⟨rfl,rfl,rfl⟩) (by dsimp only;omega))
    simp [byts]
  ·have hp:¬ p=0:=d_f hc1
   obtain ⟨rfl,rfl⟩:ds=[48+(n:Int)]/\k=0:=by
    rcases hx1 with ⟨q,_⟩ | ⟨_,q1,q2⟩
    ·omega
    ·exact ⟨q1,q2⟩
   refine wexit ?_
   show AWp _ _ _ _ _
   refine wseq ?_
   refine wreg fun K hK=>?_
   simp [C.spec_FormatInt]
   refine hK _ ?_;clear hK K
   show AWp _ _ _ _ _
   refine wseq ?_
   refine wseq ?_
   refine wreg fun K hK=>?_
   simp [C.spec_FormatInt]
   refine hK _ ?_;clear hK K
   show AWp _ _ _ _ _
   refine wcond _ rfl (fun hc3=>?_) (fun hc3=>?_)
   ·have:=d_t hc3;omega
   ·refine wskip ?_
    show AWp _ _ _ _ _
    refine wseq ?_
    refine wseq ?_
    refine wreg fun K hK=>?_
    simp [C.spec_FormatInt,wrapOk (x:=0) (by omega) (by omega)]
    refine hK _ ?_;clear hK K
    show AWp _ _ _ _ _
    refine wblock ?_
    refine wloop (fun x:Nat×List Int×Int=>⟨ofL [(3,.al (3,0) [] 0 1),(6,.al (6,0) [] 0 x.2.1.length),(7,.int x.2.2)],ofRO [((3,0),some (.ow 1 1 (byts [48+(n:Int)]))),((6,0),some (.ow 1 x.2.1.length (byts x.2.1)))]⟩) (fun x=>(x.1=0/\x.2.1=[]/\x.2.2=0)\/(x.1=1/\x.2.1=[48+(n:Int)]/\x.2.2=-1)) (fun x=>1 - x.1) (0,[],0) (by simp [C.spec_FormatInt,byts]) (by simp) ?_
    intro x3 hx3 R3 hR3
    obtain ⟨q,os,k2⟩:=x3
    dsimp only at hx3 ⊢
    refine wseq ?_
    refine wseq ?_
    refine wreg fun K hK=>?_
    have hJ:K ⟨ofL [(3,.al (3,0) [] 0 1),(6,.al (6,0) [] 0 os.length),(7,.int k2),(41,.bool (decide (q=0)))],ofRO [((3,0),some (.ow 1 1 (byts [48+(n:Int)]))),((6,0),some (.ow 1 os.length (byts os)))]⟩:=by
     refine hK _ ?_;clear hK K
     show AWp _ _ _ _ _
     refine wcond _ rfl (fun hc5=>?_) (fun hc5=>?_)
     ·have hq:q=0:=d_t hc5
      obtain ⟨rfl,rfl⟩:os=[]/\k2=0:=by
       rcases hx3 with ⟨_,q1,q2⟩ | ⟨q,_⟩
       ·exact ⟨q1,q2⟩
       ·omega
      refine wskip ?_
      show AWp _ _ _ _ _
      refine wseq ?_
      refine wblock ?_
      refine wreg fun K hK=>?_
      simp [C.spec_FormatInt,byts]
      refine hK _ ?_;clear hK K
      show AWp _ _ _ _ _
      refine wreg fun K hK=>?_
      simp [C.spec_FormatInt,byts,wrapOk (x:=-1) (by omega) (by omega)]
      refine hK _ ?_;clear hK K
      simp [C.spec_FormatInt]
      refine cast (congrArg R3 ?_) (hR3 (1,[48+(n:Int)],-1) (.inr ⟨rfl,rfl,rfl⟩) (by dsimp only;omega))
      simp [byts]
     ·have hq:¬ q=0:=d_f hc5
      obtain ⟨rfl,rfl⟩:os=[48+(n:Int)]/\k2=-1:=by
       rcases hx3 with ⟨q,_⟩ | ⟨_,q1,q2⟩
       ·omega
       ·exact ⟨q1,q2⟩
      refine wexit ?_
      show AWp _ _ _ _ _
      refine wseq ?_
      refine wreg fun K hK=>?_
      simp [C.spec_FormatInt,u8s_byts]
      refine hK _ ?_;clear hK K
      show AWp _ _ _ _ _
      refine wret ?_
      simp [C.spec_FormatInt]
    clear hK
    rcases hx3 with ⟨rfl,rfl,rfl⟩ | ⟨rfl,rfl,rfl⟩
    ·simp [C.spec_FormatInt]
     refine cast (congrArg K ?_) hJ
     simp
    ·simp [C.spec_FormatInt]
     refine cast (congrArg K ?_) hJ
     simp
 clear hK
 rcases hx1 with ⟨rfl,rfl,rfl⟩ | ⟨rfl,rfl,rfl⟩
 ·simp [C.spec_FormatInt,show ¬ (n:Int)=0 by omega,show ¬ n=0 by omega]
  refine cast (congrArg K ?_) hJ
  simp
 ·simp [C.spec_FormatInt]
  refine cast (congrArg K ?_) hJ
  simp
theorem spec_dZero_c (n:Nat) (hn:n<=5):ACalls Try.prog F.spec_dZero [.int n] [] true (fun outs res=>outs=[]/\res=[.ag (mO ⟨n,n,List.replicate (n*n) 0⟩)]):=by
 have h25:n*n<=25:=Nat.mul_le_mul hn hn
 have hw:IntKind.i64.wrap ((n:Int)*n)=((n*n:Nat):Int):=by
  have e:(n:Int)*n=((n*n:Nat):Int):=by simp
  rw [e]
  exact wrapOk (by omega) (by omega)
 obtain ⟨q,hq⟩:∃ q,q=n*n:=⟨_,rfl⟩
 rw [<-hq] at hw h25
 rw [<-hq]
 refine ACalls.of_body (C:=C.spec_dZero) (n:=Try.f186.ntmps) tabT folT Try.func186 rfl (by kernel_rfl) rfl (Nat.le_of_ble_eq_true rfl) (by decide) (by kernel_rfl) (by kernel_rfl) rfl (by simp) (by simp) ?_
 simp only [Try.f186]
 refine wseq ?_
 refine wreg fun K hK=>?_
 simp [C.spec_dZero]
 refine hK _ ?_;clear hK K
 show AWp _ _ _ _ _
 refine wseq ?_
 refine wreg fun K hK=>?_
 simp [C.spec_dZero,hw,zeros_ints,show (8:Int)*q<=281474976710656 by omega,show (q:Int)<=281474976710656 by omega]
 refine hK _ ?_;clear hK K
 show AWp _ _ _ _ _
 refine wret ?_
 simp [C.spec_dZero,mO]
def DrawJ (xs:List Int) (d:List Int) (p q:Nat) (a b:Int) (outs:List D) (res:List RV):Prop:=∃ (i':Nat) (h':Int) (d':List Int),i'<=xs.length/\(∃ s:Int,(s=1\/s=-1)/\d'=(d.set p (s*a)).set q (-(s*b)))/\outs=[cur xs i' h',.ow 1 d.length (ints d')]/\res=[]
theorem spec_dJoin_c (xs:List Int) (k:Nat) (h:Int) (n:Nat) (d:List Int) (i j:Nat) (a b:Int) (hk:k<=xs.length) (hx:xs.length<=1048576) (hn:n<=5) (hd:d.length=n*n) (hi:i < n) (hj:j < n) (ha:-3<=a/\a<=3) (hb:-3<=b/\b<=3):ACalls Try.prog F.spec_dJoin [.pt (0,0) [] 0,.ag [.int n,.int n,.al (1,2) [] 0 d.length],.int i,.int j,.int a,.int b] [((0,0),cur xs k h),((1,2),owI d)] false (DrawJ xs d (i*n+j) (j*n+i) a b):=by
 have idx:∀ u v:Nat,u < n->v < n->u*n+v < d.length/\IntKind.i64.wrap ((u:Int)*n)=((u*n:Nat):Int)/\IntKind.i64.wrap (((u*n:Nat):Int)+v)=((u*n+v:Nat):Int):=fun u v hu hv=>by
  have h1:(u+1)*n<=n*n:=Nat.mul_le_mul_right _ (by omega)
  rw [Nat.add_mul] at h1
  have h2:n*n<=5*5:=Nat.mul_le_mul hn hn
  have e:(u:Int)*n=((u*n:Nat):Int):=by simp
  refine ⟨by omega,?_,?_⟩
  ·rw [e];exact wrapOk (by omega) (by omega)
  ·rw [wrapOk (by omega) (by omega)];omega
 obtain ⟨p1,p2,p3⟩:=idx i j hi hj
 obtain ⟨q1',q2,q3⟩:=idx j i hj hi
 obtain ⟨P,hP⟩:∃ P,P=i*n+j:=⟨_,rfl⟩
 obtain ⟨Q,hQ⟩:∃ Q,Q=j*n+i:=⟨_,rfl⟩
 obtain ⟨P0,hP0⟩:∃ P,P=i*n:=⟨_,rfl⟩
 obtain ⟨Q0,hQ0⟩:∃ Q,Q=j*n:=⟨_,rfl⟩
 rw [<-hP] at p1 p3
 rw [<-hQ] at q1' q3
 rw [<-hP0] at p2 p3
 rw [<-hQ0] at q2 q3
 rw [<-hP,<-hQ]
 have hwa:IntKind.i64.wrap (-a)=-a:=wrapOk (by omega) (by omega)
 have hwb:IntKind.i64.wrap (-b)=-b:=wrapOk (by omega) (by omega)
 have hwb2:IntKind.i64.wrap b=b:=wrapOk (by omega) (by omega)
 refine ACalls.of_body (C:=C.spec_dJoin) (n:=Try.f187.ntmps) tabT folT Try.func187 rfl (by kernel_rfl) rfl (Nat.le_of_ble_eq_true rfl) (by decide) (by kernel_rfl) (by kernel_rfl) rfl (by simp) (by simp) ?_
 simp only [Try.f187]
 refine wseq ?_
 refine wreg fun K hK=>?_
 simp [C.spec_dJoin]
 refine hK _ ?_;clear hK K
 show AWp _ _ _ _ _
 refine wseq ?_
 refine wseq ?_
 refine wregI ([0,1] ++ ([])) rfl fun K hK=>?_
 refine oSg fun L hL=>?_
 simp [C.spec_dJoin]
 refine wcall (spec_l1Once_c xs k h 2 hk hx (by omega)) (by simp) (by simp) (by simp) ?_
 rintro outs res ⟨i1,h1,c,q1,rfl,rfl⟩
 simp [C.spec_dJoin]
 refine hL _ ?_;clear hL L
 refine oEn fun L hL=>?_
 simp only [AOpsI]
 refine hL _ ?_;clear hL L
 simp [C.spec_dJoin]
 refine hK _ ?_;clear hK K
 show AWp _ _ _ _ _
 refine wcond _ rfl (fun hc1=>?_) (fun hc1=>?_)
 ·refine wreg fun K hK=>?_
  simp [C.spec_dJoin,hwa,hwb]
  refine hK _ ?_;clear hK K
  show AWp _ _ _ _ _
  refine wseq ?_
  refine wreg fun K hK=>?_
  simp [C.spec_dJoin,p1,p2,p3,show (P:Int) < d.length by omega]
  refine hK _ ?_;clear hK K
  show AWp _ _ _ _ _
  refine wreg fun K hK=>?_
  simp [C.spec_dJoin,q1',q2,q3,hwb2,show (Q:Int) < d.length by omega]
  refine hK _ ?_;clear hK K
  simp [C.spec_dJoin]
  exact ⟨i1,h1,_,q1,⟨-1,.inr rfl,rfl⟩,by simp [owI],rfl⟩
 ·refine wskip ?_
  show AWp _ _ _ _ _
  refine wseq ?_
  refine wreg fun K hK=>?_
  simp [C.spec_dJoin,p1,p2,p3,show (P:Int) < d.length by omega]
  refine hK _ ?_;clear hK K
  show AWp _ _ _ _ _
  refine wreg fun K hK=>?_
  simp [C.spec_dJoin,q1',q2,q3,hwb,show (Q:Int) < d.length by omega]
  refine hK _ ?_;clear hK K
  simp [C.spec_dJoin]
  exact ⟨i1,h1,_,q1,⟨1,.inl rfl,rfl⟩,by simp [owI],rfl⟩
end Go.Proofs.Ytfcgcgmleogamaa.Ab
namespace Go.Proofs.Ytfcgcgmleogamaa.Ab
open Go
set_option maxRecDepth 10000
set_option maxHeartbeats 2000000
end Go.Proofs.Ytfcgcgmleogamaa.Ab
namespace Go.Proofs.Ytfcgcgmleogamaa.Ab
open Go
def goodB (v:Int) (t:Trm):Bool:=decide ((t.e.length:Int)=v/\t.c≠0/\(-1000000<=t.c/\t.c<=1000000)/\∀ x∈t.e,-20<=x/\x<=20)
def descB:List Trm->Bool
 | a :: b :: l=>lexlt b.e a.e && descB (b :: l)
 | _=>true
def rightB (f:Lau):Bool:=decide (1<=f.v/\f.v<=8) && decide (f.ts.length<=600) && f.ts.all (goodB f.v) && descB f.ts
def mulC (f g:Lau):Lau:=⟨f.v,(nf lexlt (prodL (f.ts.map pr) (g.ts.map pr))).map tm⟩
def addC (f g:Lau):Lau:=⟨f.v,(nf lexlt (f.ts.map pr ++ g.ts.map (prk 1))).map tm⟩
def mulB (f g:Lau):Bool:=rightB f && rightB g && decide (f.v=g.v) && rightB (mulC f g)
def addB (f g:Lau):Bool:=rightB f && rightB g && decide (f.v=g.v) && rightB (addC f g)
end Go.Proofs.Ytfcgcgmleogamaa.Ab
namespace Go.Proofs.Ytfcgcgmleogamaa.Ab
open Go
end Go.Proofs.Ytfcgcgmleogamaa.Ab
namespace Go.Proofs.Ytfcgcgmleogamaa.Ab
open Go
set_option maxRecDepth 10000
set_option maxHeartbeats 2000000
end Go.Proofs.Ytfcgcgmleogamaa.Ab
namespace Go.Proofs.Ytfcgcgmleogamaa.Ab
open Go
def smSC (k:Nat) (l:List Lau):Nat->Option Lau
 | 0=>some ⟨k,[]⟩
 | m+1=>match smSC k l m with
  | some s=>if mulB (l.getD (l.length - (m+1)) zeroF) (l.getD (l.length - k+(m+1)) zeroF) && addB s (mulC (l.getD (l.length - (m+1)) zeroF) (l.getD (l.length - k+(m+1)) zeroF)) then
    some (addC s (mulC (l.getD (l.length - (m+1)) zeroF) (l.getD (l.length - k+(m+1)) zeroF))) else none
  | none=>none
def rowN (n:Nat) (nm:List Int) (i:Nat):Int:=if i < n then nm.getD i 0 else i
def renL (base:List Int) (m:Mat) (nm:List Int):Nat->List Int
 | 0=>base
 | q+1=>(renL base m nm q).set ((rowN m.n.toNat nm (q / m.n.toNat)).toNat*m.n.toNat+(nm.getD (q % m.n.toNat) 0).toNat) (m.d.getD q 0)
@[simp] theorem renL_length (base:List Int) (m:Mat) (nm:List Int):∀ q,(renL base m nm q).length=base.length
 | 0=>rfl
 | q+1=>by simp [renL,renL_length base m nm q]
end Go.Proofs.Ytfcgcgmleogamaa.Ab
namespace Go.Proofs.Ytfcgcgmleogamaa.Ab
open Go
theorem idx_inj {n p q i k:Nat} (hq:q < n) (hk:k < n) (h:p*n+q=i*n+k):p=i/\q=k:=by
 rcases Nat.lt_trichotomy p i with g | g | g
 ·have h1:(p+1)*n<=i*n:=Nat.mul_le_mul_right _ g
  rw [Nat.add_mul] at h1
  omega
 ·subst g
  exact ⟨rfl,by omega⟩
 ·have h1:(i+1)*n<=p*n:=Nat.mul_le_mul_right _ g
  rw [Nat.add_mul] at h1
  omega
theorem idx_lt {n p q:Nat} (hp:p < n) (hq:q < n):p*n+q < n*n:=by
 have h1:(p+1)*n<=n*n:=Nat.mul_le_mul_right _ hp
 rw [Nat.add_mul] at h1
 omega
def bD (n:Nat) (d:List Int) (i j:Nat):Int:=g0 d (i*n+j)
theorem bD_join {n:Nat} {d:List Int} (hl:d.length=n*n) {i k:Nat} (hi:i < n) (hk:k < n) (x y:Int) {p q:Nat} (hp:p < n) (hq:q < n) :
  bD n ((d.set (i*n+k) x).set (k*n+i) y) p q=if p=k/\q=i then y else if p=i/\q=k then x else bD n d p q:=by
 have l1:=idx_lt hi hk
 have l2:=idx_lt hk hi
 unfold bD
 rw [g0_set _ _ _ _ (by simp;omega),g0_set _ _ _ _ (by omega)]
 by_cases h1:p=k/\q=i
 ·rw [if_pos h1,if_pos (by rw [h1.1,h1.2])]
 ·rw [if_neg h1,if_neg (fun e=>h1 (by have:=idx_inj hi hq e;omega))]
  by_cases h2:p=i/\q=k
  ·rw [if_pos h2,if_pos (by rw [h2.1,h2.2])]
  ·rw [if_neg h2,if_neg (fun e=>h2 (by have:=idx_inj hk hq e;omega))]
def TrF (n k:Nat) (d:List Int):Prop:=(∃ e,Sol n (bD n d) e)/\∀ i j,i < n->j < n->(k<=i\/k<=j)->bD n d i j=0
theorem TrF.zero (n:Nat):TrF n 1 (List.replicate (n*n) 0):=by
 have h:∀ i j,bD n (List.replicate (n*n) 0) i j=0:=fun i j=>by
  unfold bD g0
  rw [List.getD_eq_getElem?_getD,List.getElem?_replicate]
  split <;> rfl
 exact ⟨⟨fun _=>1,fun _ _=>by omega,fun i j _ _=>by rw [h,h];rfl⟩,fun i j _ _ _=>h i j⟩
theorem TrF.join {n k i:Nat} {d:List Int} (h:TrF n k d) (hl:d.length=n*n) (hi:i < k) (hk:k < n) {a b s:Int} (ha:1<=a) (hb:1<=b):TrF n (k+1) ((d.set (i*n+k) (s*a)).set (k*n+i) (-(s*b))):=by
 obtain ⟨⟨e,he⟩,h0⟩:=h
 have hin:i < n:=by omega
 have hB:=fun {p q:Nat} (hp:p < n) (hq:q < n)=>bD_join hl hin hk (s*a) (-(s*b)) hp hq
 refine ⟨⟨fun j=>if j=k then a*e i else b*e j,fun j hj=>?_,fun p q hp hq=>?_⟩,fun p q hp hq hpq=>?_⟩
 ·split
  ·exact Int.mul_pos (by omega) (he.pos i hin)
  ·exact Int.mul_pos (by omega) (he.pos j hj)
 ·rw [hB hp hq,hB hq hp]
  have hr:=he.rel p q hp hq
  have zero:(p=k/\q≠i)\/(q=k/\p≠i)->(if p=k/\q=i then -(s*b) else if p=i/\q=k then s*a else bD n d p q)=0/\(if q=k/\p=i then -(s*b) else if q=i/\p=k then s*a else bD n d q p)=0:=fun c=>by
   have z1:=h0 p q hp hq (by omega)
   have z2:=h0 q p hq hp (by omega)
   rw [if_neg (by omega),if_neg (by omega),if_neg (by omega),if_neg (by omega)]
   exact ⟨z1,z2⟩
  by_cases c1:p=k
  ·by_cases c2:q=i
   ·have n1:¬ q=k:=by omega
    rw [if_pos c1,if_pos (⟨c1,c2⟩:p=k/\q=i),if_neg n1,if_neg (fun e:q=k/\p=i=>n1 e.1),if_pos (⟨c2,c1⟩:q=i/\p=k),c2]
    grind
   ·obtain ⟨z1,z2⟩:=zero (.inl ⟨c1,c2⟩)
    rw [z1,z2]
    simp
  ·by_cases c2:q=k
   ·by_cases c3:p=i
    ·rw [if_neg c1,if_neg (fun e:p=k/\q=i=>c1 e.1),if_pos (⟨c3,c2⟩:p=i/\q=k),if_pos c2,if_pos (⟨c2,c3⟩:q=k/\p=i),c3]
     grind
    ·obtain ⟨z1,z2⟩:=zero (.inr ⟨c2,c3⟩)
     rw [z1,z2]
     simp
   ·rw [if_neg c1,if_neg (fun e:p=k/\q=i=>c1 e.1),if_neg (fun e:p=i/\q=k=>c2 e.2),if_neg c2,if_neg (fun e:q=k/\p=i=>c2 e.1),if_neg (fun e:q=i/\p=k=>c1 e.2)]
    grind
 ·rw [hB hp hq,if_neg (by omega),if_neg (by omega)]
  exact h0 p q hp hq (by omega)
theorem renL_get {m:Mat} {nm:List Int} {n:Nat} (hn:m.n=n) (hd:m.d.length=n*n) (hl:nm.length=n) (hb:∀ x∈nm,0<=x/\x < n) (hnd:nm.Nodup):∀ (q:Nat),q<=n*n->∀ i j,i < n->j < n->i*n+j < q->g0 (renL m.d m nm q) ((nm.getD i 0).toNat*n+(nm.getD j 0).toNat)=bM m i j
 | 0,_,i,j,_,_,h=>by omega
 | q+1,hq,i,j,hi,hj,h=>by
  have hg:∀ t,t < n->(nm.getD t 0).toNat < n/\nm.getD t 0=((nm.getD t 0).toNat:Nat):=fun t ht=>by
   have e:nm.getD t 0=nm[t]'(by omega):=by simp [List.getD_eq_getElem?_getD,show t < nm.length by omega]
   have:=hb _ (List.getElem_mem (show t < nm.length by omega))
   rw [e]
   omega
  have inj:∀ s t,s < n->t < n->(nm.getD s 0).toNat=(nm.getD t 0).toNat->s=t:=fun s t hs ht e=>by
   have e1:nm.getD s 0=nm[s]'(by omega):=by simp [List.getD_eq_getElem?_getD,show s < nm.length by omega]
   have e2:nm.getD t 0=nm[t]'(by omega):=by simp [List.getD_eq_getElem?_getD,show t < nm.length by omega]
   have h1:=(hg s hs).2
   have h2:=(hg t ht).2
   have e3:nm[s]'(by omega)=nm[t]'(by omega):=by rw [<-e1,<-e2];omega
   exact (List.getElem_inj hnd).1 e3
  have en:m.n.toNat=n:=by omega
  have hn0:0 < n:=by omega
  obtain ⟨u,v,hu,hv,huv⟩:∃ u v,u < n/\v < n/\q=u*n+v:=⟨q / n,q % n,by rw [Nat.div_lt_iff_lt_mul hn0];omega,Nat.mod_lt _ hn0,by rw [Nat.mul_comm];exact (Nat.div_add_mod q n).symm⟩
  have hs:renL m.d m nm (q+1)=(renL m.d m nm q).set ((nm.getD u 0).toNat*n+(nm.getD v 0).toNat) (bM m u v):=by
   have e1:q / n=u:=by rw [huv,Nat.mul_comm,Nat.mul_add_div hn0,Nat.div_eq_of_lt hv,Nat.add_zero]
   have e2:q % n=v:=by rw [huv,Nat.mul_comm,Nat.mul_add_mod,Nat.mod_eq_of_lt hv]
   simp only [renL,en,e1,e2]
   unfold rowN
   rw [if_pos hu]
   unfold bM g0
   rw [en,huv]
  rw [hs,g0_set _ _ _ _ (by rw [renL_length,hd];exact idx_lt (hg u hu).1 (hg v hv).1)]
  by_cases c:i=u/\j=v
  ·rw [c.1,c.2,if_pos rfl]
  ·rw [if_neg (fun e=>c (by
    obtain ⟨a1,a2⟩:=idx_inj (hg v hv).1 (hg j hj).1 e
    exact ⟨(inj u i hu hi a1).symm,(inj v j hv hj a2).symm⟩))]
   refine renL_get hn hd hl hb hnd q (by omega) i j hi hj ?_
   have:i*n+j≠u*n+v:=fun e=>c (by have:=idx_inj hj hv e;exact this)
   omega
theorem renL_ok {m:Mat} {nm:List Int} {n:Nat} (hn:m.n=n) (hr:m.r=n) (hok:MatOK m) (hbd:∀ x∈renL m.d m nm m.d.length,-99<=x/\x<=99) (hl:nm.length=n) (hb:∀ x∈nm,0<=x/\x < n) (hnd:nm.Nodup):MatOK ⟨n,n,renL m.d m nm m.d.length⟩:=by
 obtain ⟨hS,e,he⟩:=hok
 have en:m.n.toNat=n:=by omega
 have hd:m.d.length=n*n:=by
  have:=hS.2.2.1
  rw [hn,hr,<-Int.natCast_mul] at this
  omega
 rw [en] at he
 have hget:=fun i j hi hj=>renL_get hn hd hl hb hnd (n*n) (Nat.le_refl _) i j hi hj (idx_lt hi hj)
 rw [<-hd] at hget
 have h1:=hS.1
 have h2:=hS.2.1
 refine ⟨⟨by dsimp only;omega,by dsimp only;omega,?_,hbd⟩,?_⟩
 ·dsimp only
  rw [renL_length,hd]
  simp
 have sur:∀ p,p < n->∃ i,i < n/\nm.getD i 0=(p:Int):=fun p hp=>by
  by_cases c:(p:Int)∈nm
  ·obtain ⟨i,hi,h⟩:=List.getElem_of_mem c
   exact ⟨i,by omega,by simp [List.getD_eq_getElem?_getD,hi,h]⟩
  ·exfalso
   have hN:((p:Int) :: nm).Nodup:=List.nodup_cons.2 ⟨c,hnd⟩
   have hM:(((p:Int) :: nm).map Int.toNat).Nodup:=by
    refine List.Pairwise.map _ ?_ (List.Pairwise.and_mem.1 hN)
    intro a b ⟨ha,hb',hab⟩ h
    have ka:0<=a:=by
     rcases List.mem_cons.1 ha with rfl | ha
     ·omega
     ·exact (hb a ha).1
    have kb:0<=b:=by
     rcases List.mem_cons.1 hb' with rfl | hb'
     ·omega
     ·exact (hb b hb').1
    exact hab (by omega)
   have:=nodup_len (n:=n) hM fun i hi=>by
    obtain ⟨x,hx,rfl⟩:=List.mem_map.1 hi
    rcases List.mem_cons.1 hx with rfl | hx
    ·omega
    ·have:=hb x hx;omega
   simp at this
   omega
 have inj:∀ s t,s < n->t < n->nm.getD s 0=nm.getD t 0->s=t:=fun s t hs ht e=>by
  have e1:nm.getD s 0=nm[s]'(by omega):=by simp [List.getD_eq_getElem?_getD,show s < nm.length by omega]
  have e2:nm.getD t 0=nm[t]'(by omega):=by simp [List.getD_eq_getElem?_getD,show t < nm.length by omega]
  exact (List.getElem_inj hnd).1 (by rw [<-e1,<-e2];exact e)
 obtain ⟨g,hg⟩:∃ g:Nat->Nat,∀ p,p < n->g p < n/\nm.getD (g p) 0=(p:Int):=by
  refine ⟨fun p=>if h:p < n then Classical.choose (sur p h) else 0,fun p hp=>?_⟩
  simp only [hp,dif_pos]
  exact Classical.choose_spec (sur p hp)
 refine ⟨fun p=>e (g p),?_⟩
 show Sol n _ _
 have hv:∀ p q,p < n->q < n->bM ⟨n,n,renL m.d m nm m.d.length⟩ p q=bM m (g p) (g q):=fun p q hp hq=>by
  obtain ⟨p1,p2⟩:=hg p hp
  obtain ⟨q1,q2⟩:=hg q hq
  have:=hget (g p) (g q) p1 q1
  rw [p2,q2,Int.toNat_natCast,Int.toNat_natCast] at this
  exact this
 refine ⟨fun p hp=>he.pos _ (hg p hp).1,fun p q hp hq=>?_⟩
 rw [hv p q hp hq,hv q p hq hp]
 exact he.rel _ _ (hg p hp).1 (hg q hq).1
end Go.Proofs.Ytfcgcgmleogamaa.Ab
namespace Go.Proofs.Ytfcgcgmleogamaa.Ab
open Go
set_option maxRecDepth 10000
set_option maxHeartbeats 4000000
attribute [local simp] cur
def TrI (n k:Nat) (d:List Int):Prop:=d.length=n*n/\(∀ x∈d,-3<=x/\x<=3)/\TrF n k d
theorem TrI.zero (n:Nat):TrI n 1 (List.replicate (n*n) 0):=⟨by simp,fun x hx=>by rw [List.eq_of_mem_replicate hx];omega,TrF.zero n⟩
theorem TrI.join {n k i:Nat} {d d':List Int} (h:TrI n k d) (hi:i < k) (hk:k < n) {a b:Int} (ha:1<=a/\a<=3) (hb:1<=b/\b<=3) (hs:∃ s:Int,(s=1\/s=-1)/\d'=(d.set (i*n+k) (s*a)).set (k*n+i) (-(s*b))):TrI n (k+1) d':=by
 obtain ⟨s,hs,rfl⟩:=hs
 refine ⟨by simp [h.1],fun x hx=>?_,h.2.2.join h.1 hi hk (by omega) (by omega)⟩
 rcases List.mem_or_eq_of_mem_set hx with hx | rfl
 ·rcases List.mem_or_eq_of_mem_set hx with hx | rfl
  ·exact h.2.1 x hx
  ·rcases hs with rfl | rfl <;> omega
 ·rcases hs with rfl | rfl <;> omega
def TreeM (m:Mat):Prop:=∃ n k:Nat,m.n=n/\m.r=n/\(1<=n/\n<=3)/\TrI n k m.d
def DrawMS (xs:List Int) (outs:List D) (res:List RV):Prop:=∃ (i':Nat) (h':Int) (m:Mat) (s:ByteArray),i'<=xs.length/\TreeM m/\outs=[cur xs i' h']/\res=[.ag (mO m),.one (.v (.string s))]
theorem spec_dTree_c (xs:List Int) (i:Nat) (h:Int) (hi:i<=xs.length) (hx:xs.length<=1048576):ACalls Try.prog F.spec_dTree [.pt (0,0) [] 0,.int 3] [((0,0),cur xs i h)] false (DrawMS xs):=by
 refine ACalls.of_body (C:=C.spec_dTree) (n:=Try.f165.ntmps) tabT folT Try.func165 rfl (by kernel_rfl) rfl (Nat.le_of_ble_eq_true rfl) (by decide) (by kernel_rfl) (by kernel_rfl) rfl (by simp) (by simp) ?_
 simp only [Try.f165]
 refine wseq ?_
 refine wreg fun K hK=>?_
 simp [C.spec_dTree]
 refine hK _ ?_;clear hK K
 show AWp _ _ _ _ _
 refine wseq ?_
 refine wregI ([0,1] ++ ([2])) rfl fun K hK=>?_
 refine oSg fun L hL=>?_
 simp [C.spec_dTree]
 refine wcall (spec_l1Below_c xs i h 11 hi hx (by omega)) (by simp) (by simp) (by simp) ?_
 rintro outs res ⟨i1,h1,c1,p1,q1,rfl,rfl⟩
 simp [C.spec_dTree]
 refine hL _ ?_;clear hL L
 refine oEn fun L hL=>?_
 simp [C.spec_dTree]
 refine hL _ ?_;clear hL L
 simp [C.spec_dTree]
 refine hK _ ?_;clear hK K
 show AWp _ _ _ _ _
 refine wseq ?_
 refine wregI ([0,1,2] ++ ([3,4])) rfl fun K hK=>?_
 refine oSg fun L hL=>?_
 simp [C.spec_dTree]
 refine wcall (spec_l1Below_c xs i1 h1 3 p1 hx (by omega)) (by simp) (by simp) (by simp) ?_
 rintro outs res ⟨i2,h2,c2,p2,q2,rfl,rfl⟩
 simp [C.spec_dTree]
 refine hL _ ?_;clear hL L
 refine oEn fun L hL=>?_
 simp [C.spec_dTree]
 refine hL _ ?_;clear hL L
 simp [C.spec_dTree]
 refine hK _ ?_;clear hK K
 show AWp _ _ _ _ _
 refine wseq ?_
 refine wseq ?_
 obtain ⟨kd,hkd⟩:∃ kd:Nat,c1=kd:=⟨c1.toNat,by omega⟩
 obtain ⟨n,hnq,hn⟩:∃ n:Nat,IntKind.i64.wrap (1+c2)=n/\1<=n/\n<=3:=⟨(1+c2).toNat,by rw [wrapOk (by omega) (by omega)];omega,by omega,by omega⟩
 rw [hnq,hkd]
 refine wregI ([0,1,2,3,4,5,6,7,8,9,10,11,12,13,14,15,16,17]) rfl fun K hK=>?_
 have hJ:K ⟨ofL [(0,.pt (0,0) [] 0),(1,.int 3),(4,.pt (4,0) [] 0),(6,.int kd),(7,.int n),(41,.bool (decide (4<=kd/\kd<=6/\n < 2))),(1000,.pt (0,0) [] 0)],ofRO [((0,0),some (cur xs i2 h2)),((4,0),some (.bx [D.int 0,D.int 0,.v (.slice none 0 0)]))]⟩:=by
  refine hK _ ?_;clear hK K
  show AWp _ _ _ _ _
  refine wcondJ (fun σ'=>∃ (kd':Nat) (t:Nat) (f:FV),(kd'<=10/\(4<=kd'/\kd'<=6->2<=n))/\σ'=⟨ofL [(0,.pt (0,0) [] 0),(1,.int 3),(4,.pt (4,0) [] 0),(6,.int kd'),(7,.int n),(1000,.pt (0,0) [] 0),(t,f)],ofRO [((0,0),some (cur xs i2 h2)),((4,0),some (.bx [D.int 0,D.int 0,.v (.slice none 0 0)]))]⟩) _ rfl ?_ (fun hc1 Qc1 hQc1=>?_) (fun hc1 Qc1 hQc1=>?_)
  ·rintro σc1 ⟨ka,tt,ff,hka,rfl⟩
   show AWp _ _ _ _ _
   refine wseq ?_
   refine wseq ?_
   refine wregI ([0,1,2,3,4,5,6,7,8,9,10,11,12,13,14,15,16,17,18,19,20,21]) rfl fun K hK=>?_
   have hJ:K ⟨ofL [(0,.pt (0,0) [] 0),(4,.pt (4,0) [] 0),(6,.int ka),(7,.int n),(63,.bool (decide (ka=8\/ka=9))),(1000,.pt (0,0) [] 0)],ofRO [((0,0),some (cur xs i2 h2)),((4,0),some (.bx [D.int 0,D.int 0,.v (.slice none 0 0)]))]⟩:=by
    refine hK _ ?_;clear hK K
    show AWp _ _ _ _ _
    refine wcondJ (fun σ'=>∃ (kd':Nat) (t:Nat) (f:FV),(kd'<=10/\kd'≠8/\kd'≠9/\(4<=kd'/\kd'<=6->2<=n))/\σ'=⟨ofL [(0,.pt (0,0) [] 0),(4,.pt (4,0) [] 0),(6,.int kd'),(7,.int n),(1000,.pt (0,0) [] 0),(t,f)],ofRO [((0,0),some (cur xs i2 h2)),((4,0),some (.bx [D.int 0,D.int 0,.v (.slice none 0 0)]))]⟩) _ rfl ?_ (fun hc2 Qc2 hQc2=>?_) (fun hc2 Qc2 hQc2=>?_)
    ·rintro σc2 ⟨kb,tt2,ff2,hkb,rfl⟩
     show AWp _ _ _ _ _
     refine wseq ?_
     refine wseq ?_
     refine wreg fun K hK=>?_
     simp [C.spec_dTree]
     refine hK _ ?_;clear hK K
     show AWp _ _ _ _ _
     refine wblock ?_
     refine wseq ?_
     refine wseq ?_
     refine wreg fun K hK=>?_
     simp [C.spec_dTree,show ((kb:Int) == 4)=decide (kb=4) by rw [Bool.eq_iff_iff];simp <;> omega]
     refine hK _ ?_;clear hK K
     show AWp _ _ _ _ _
     refine wcondJ (fun σ'=>σ'=⟨ofL [(0,.pt (0,0) [] 0),(4,.pt (4,0) [] 0),(6,.int kb),(7,.int n),(64,.int kb),(65,.bool (decide (kb=4\/kb=5))),(1000,.pt (0,0) [] 0)],ofRO [((0,0),some (cur xs i2 h2)),((4,0),some (.bx [D.int 0,D.int 0,.v (.slice none 0 0)]))]⟩) _ rfl ?_ (fun hc3 Qc3 hQc3=>?_) (fun hc3 Qc3 hQc3=>?_)
     ·rintro σc3 rfl
      show AWp _ _ _ _ _
      refine wcond _ rfl (fun hc4=>?_) (fun hc4=>?_)
      ·have h45:=d_t hc4
       have hn2:2<=n:=by omega
       have hfmt:=spec_FormatInt_c n (by omega)
       have hsz:(strOfNums [48+(n:Int)]).size=1:=rfl
       refine wseq ?_
       refine wregI ([0,1] ++ ([2,3])) rfl fun K hK=>?_
       refine oSg fun L hL=>?_
       simp [C.spec_dTree,mO]
       refine wcall1 (spec_dZero_c n (by omega)) (by simp) (by simp) ?_
       simp [C.spec_dTree,mO]
       refine hL _ ?_;clear hL L
       refine oEn fun L hL=>?_
       simp [C.spec_dTree,mO]
       refine hL _ ?_;clear hL L
       simp [C.spec_dTree,mO]
       refine hK _ ?_;clear hK K
       show AWp _ _ _ _ _
       refine wseq ?_
       refine wseq ?_
       refine wreg fun K hK=>?_
       simp [C.spec_dTree]
       refine hK _ ?_;clear hK K
       show AWp _ _ _ _ _
       refine wblock ?_
       refine wloop (fun x:Nat×List Int×Nat×Int=>⟨ofL [(0,.pt (0,0) [] 0),(4,.pt (4,0) [] 0),(6,.int kb),(7,.int n),(8,.pt (8,0) [] 0),(9,.int x.1),(1000,.pt (0,0) [] 0)],ofRO [((0,0),some (cur xs x.2.2.1 x.2.2.2)),((4,0),some (.bx [D.int 0,D.int 0,.v (.slice none 0 0)])),((8,0),some (.bx [D.int n,D.int n,owI x.2.1]))]⟩) (fun x=>x.1+2<=n/\TrI n (x.1+1) x.2.1/\x.2.2.1<=xs.length) (fun x=>n - x.1) (0,List.replicate (n*n) 0,i2,h2) (by simp [C.spec_dTree,owI]) ⟨by omega,TrI.zero n,p2⟩ ?_
       intro x1 hx1 R1 hR1
       obtain ⟨j,d,i3,h3⟩:=x1
       obtain ⟨g1,g2,g3⟩:=hx1
       dsimp only at g1 g2 g3 ⊢
       have hw2:IntKind.i64.wrap ((j:Int)+2)=(j:Int)+2:=wrapOk (by omega) (by omega)
       have hw1:IntKind.i64.wrap ((j:Int)+1)=(j:Int)+1:=wrapOk (by omega) (by omega)
       refine wseq ?_
       refine wseq ?_
       refine wreg fun K hK=>?_
       simp [C.spec_dTree,hw2]
       refine hK _ ?_;clear hK K
       show AWp _ _ _ _ _
       refine wcond _ rfl (fun hc5=>?_) (fun hc5=>?_)
       ·have hj:j+2 < n:=by have:=hc5;simp at this;omega
        refine wskip ?_
        show AWp _ _ _ _ _
        refine wseq ?_
        refine wblock ?_
        refine wregI ([0,1,2,3,4,5] ++ ([])) rfl fun K hK=>?_
        refine oSg fun L hL=>?_
        simp [C.spec_dTree,hw1]
        refine wcall (spec_dJoin_c xs i3 h3 n d j (j+1) 1 1 g3 hx (by omega) g2.1 (by omega) (by omega) (by omega) (by omega)) (by simp) (by simp) (by simp) ?_
        rintro outs res ⟨i4,h4',d',qq,q2',rfl,rfl⟩
        simp [C.spec_dTree,hw1]
        refine hL _ ?_;clear hL L
        refine oEn fun L hL=>?_
        simp only [AOpsI]
        refine hL _ ?_;clear hL L
        simp [C.spec_dTree,hw1]
        refine hK _ ?_;clear hK K
        show AWp _ _ _ _ _
        refine wreg fun K hK=>?_
        simp [C.spec_dTree,hw1]
        refine hK _ ?_;clear hK K
        simp [C.spec_dTree]
        have hT:=g2.join (show j < j+1 by omega) (by omega) (by omega) (by omega) q2'
        refine cast (congrArg R1 ?_) (hR1 (j+1,d',i4,h4') ⟨by dsimp only;omega,hT,qq⟩ (by dsimp only;omega))
        simp [owI,hT.1,g2.1]
       ·have hj:j+2=n:=by have:=hc5;simp at this;omega
        have hm2:IntKind.i64.wrap ((n:Int) - 2)=(j:Int):=by rw [wrapOk (by omega) (by omega)];omega
        have hm1:IntKind.i64.wrap ((n:Int) - 1)=(j:Int)+1:=by rw [wrapOk (by omega) (by omega)];omega
        refine wexit ?_
        show AWp _ _ _ _ _
        refine wseq ?_
        refine wseq ?_
        refine wreg fun K hK=>?_
        have hJ:K ⟨ofL [(0,.pt (0,0) [] 0),(4,.pt (4,0) [] 0),(7,.int n),(8,.pt (8,0) [] 0),(87,.bool (decide (kb=4\/n=2))),(1000,.pt (0,0) [] 0)],ofRO [((0,0),some (cur xs i3 h3)),((4,0),some (.bx [D.int 0,D.int 0,.v (.slice none 0 0)])),((8,0),some (.bx [D.int n,D.int n,owI d]))]⟩:=by
         refine hK _ ?_;clear hK K
         show AWp _ _ _ _ _
         refine wcond _ rfl (fun hc6=>?_) (fun hc6=>?_)
         ·refine wseq ?_
          refine wregI ([0,1,2,3,4,5,6] ++ ([])) rfl fun K hK=>?_
          refine oSg fun L hL=>?_
          simp [C.spec_dTree,hm1,hm2]
          refine wcall (spec_dJoin_c xs i3 h3 n d j (j+1) 2 1 g3 hx (by omega) g2.1 (by omega) (by omega) (by omega) (by omega)) (by simp) (by simp) (by simp) ?_
          rintro outs res ⟨i4,h4',d',qq,q2',rfl,rfl⟩
          simp [C.spec_dTree,hm1,hm2]
          refine hL _ ?_;clear hL L
          refine oEn fun L hL=>?_
          simp only [AOpsI]
          refine hL _ ?_;clear hL L
          simp [C.spec_dTree,hm1,hm2]
          refine hK _ ?_;clear hK K
          show AWp _ _ _ _ _
          refine wseq ?_
          have hT:=g2.join (show j < j+1 by omega) (by omega) (by omega) (by omega) q2'
          refine wdrawI [(true,0),(true,1),(false,2),(true,3),(false,4),(true,5)] ⟨by kernel_rfl,by kernel_rfl⟩ ([0,1,2] ++ ([3,4,5])) rfl fun K hK=>?_
          have hJ:K ⟨ofL [(4,.pt (4,0) [] 0),(5,.d (.v (.string (⟨#[66]⟩ ++ strOfNums [48+(n:Int)])))),(1000,.pt (1000,0) [] 0)],ofRO [((4,0),some (.bx [D.int n,D.int n,owI d'])),((1000,0),some (cur xs i4 h4'))]⟩:=by
           refine hK _ ?_;clear hK K
           show AWp _ _ _ _ _
           refine wret ?_
           simp [C.spec_dTree]
           exact ⟨i4,h4',⟨n,n,d'⟩,⟨#[66]⟩ ++ strOfNums [48+(n:Int)],qq,⟨n,_,rfl,rfl,hn,hT⟩,rfl,by simp [mO]⟩
          clear hK
          simp [C.spec_dTree]
          repeat' first
           | (refine wcall1 (hfmt) ?_ (by simp) ?_;(focus (simp;done));simp [C.spec_dTree,hsz,show ByteArray.size ⟨#[66]⟩ = 1 from rfl])
           | (refine cast (congrArg K ?_) hJ;simp [owI,hT.1,g2.1];done)
           | refine And.intro ?_ ?_
         ·refine wskip ?_
          show AWp _ _ _ _ _
          refine wseq ?_
          refine wregI ([0,1,2,3,4,5,6] ++ ([])) rfl fun K hK=>?_
          refine oSg fun L hL=>?_
          simp [C.spec_dTree,hm1,hm2]
          refine wcall (spec_dJoin_c xs i3 h3 n d j (j+1) 1 2 g3 hx (by omega) g2.1 (by omega) (by omega) (by omega) (by omega)) (by simp) (by simp) (by simp) ?_
          rintro outs res ⟨i4,h4',d',qq,q2',rfl,rfl⟩
          simp [C.spec_dTree,hm1,hm2]
          refine hL _ ?_;clear hL L
          refine oEn fun L hL=>?_
          simp only [AOpsI]
          refine hL _ ?_;clear hL L
          simp [C.spec_dTree,hm1,hm2]
          refine hK _ ?_;clear hK K
          show AWp _ _ _ _ _
          refine wseq ?_
          have hT:=g2.join (show j < j+1 by omega) (by omega) (by omega) (by omega) q2'
          refine wdrawI [(true,0),(true,1),(false,2),(true,3),(false,4),(true,5)] ⟨by kernel_rfl,by kernel_rfl⟩ ([0,1,2] ++ ([3,4,5])) rfl fun K hK=>?_
          have hJ:K ⟨ofL [(4,.pt (4,0) [] 0),(5,.d (.v (.string (⟨#[67]⟩ ++ strOfNums [48+(n:Int)])))),(1000,.pt (1000,0) [] 0)],ofRO [((4,0),some (.bx [D.int n,D.int n,owI d'])),((1000,0),some (cur xs i4 h4'))]⟩:=by
           refine hK _ ?_;clear hK K
           show AWp _ _ _ _ _
           refine wret ?_
           simp [C.spec_dTree]
           exact ⟨i4,h4',⟨n,n,d'⟩,⟨#[67]⟩ ++ strOfNums [48+(n:Int)],qq,⟨n,_,rfl,rfl,hn,hT⟩,rfl,by simp [mO]⟩
          clear hK
          simp [C.spec_dTree]
          repeat' first
           | (refine wcall1 (hfmt) ?_ (by simp) ?_;(focus (simp;done));simp [C.spec_dTree,hsz,show ByteArray.size ⟨#[67]⟩ = 1 from rfl])
           | (refine cast (congrArg K ?_) hJ;simp [owI,hT.1,g2.1];done)
           | refine And.intro ?_ ?_
        clear hK
        have e4:((kb:Int) == 4)=decide (kb=4):=by rw [Bool.eq_iff_iff];simp <;> omega
        have e2:((n:Int) == 2)=decide (n=2):=by rw [Bool.eq_iff_iff];simp <;> omega
        by_cases z1:kb=4 <;> by_cases z2:n=2 <;> (simp [C.spec_dTree,z1,z2,e4,e2];refine cast (congrArg K ?_) hJ;simp [z1,z2];done)
      ·have h45:=d_f hc4
       refine wseq ?_
       refine wreg fun K hK=>?_
       simp [C.spec_dTree,show ((kb:Int) == 6)=decide (kb=6) by rw [Bool.eq_iff_iff];simp <;> omega]
       refine hK _ ?_;clear hK K
       show AWp _ _ _ _ _
       refine wcond _ rfl (fun hc7=>?_) (fun hc7=>?_)
       ·have h6:kb=6:=d_t hc7
        refine wseq ?_
        refine wregI ([0,1] ++ ([2,3])) rfl fun K hK=>?_
        refine oSg fun L hL=>?_
        simp [C.spec_dTree,mO]
        refine wcall1 (spec_dZero_c n (by omega)) (by simp) (by simp) ?_
        simp [C.spec_dTree,mO]
        refine hL _ ?_;clear hL L
        refine oEn fun L hL=>?_
        simp [C.spec_dTree,mO]
        refine hL _ ?_;clear hL L
        simp [C.spec_dTree,mO]
        refine hK _ ?_;clear hK K
        show AWp _ _ _ _ _
        refine wseq ?_
        refine wdraw (.take 0 (.take 2 (.all [(1,.take 3 (.all [(4,.all [(5,.take 6 (.done))]),(5,.take 4 (.take 6 (.done)))])),(5,.all [(1,.take 3 (.take 4 (.take 6 (.done))))])]))) ⟨by kernel_rfl,by kernel_rfl⟩ fun K hK=>?_
        have hJ:∀ (s0:ByteArray),K ⟨ofL [(4,.pt (4,0) [] 0),(5,.d (.v (.string s0))),(1000,.pt (1000,0) [] 0)],ofRO [((4,0),some (.bx [D.int n,D.int n,owI (List.replicate (n*n) 0)])),((1000,0),some (cur xs i2 h2))]⟩:=by
         intro s0
         refine hK _ ?_;clear hK K
         show AWp _ _ _ _ _
         refine wret ?_
         simp [C.spec_dTree]
         exact ⟨i2,h2,⟨n,n,List.replicate (n*n) 0⟩,s0,p2,⟨n,_,rfl,rfl,hn,TrI.zero n⟩,rfl,by simp [mO]⟩
        clear hK
        rcases (show n=1\/n=2\/n=3 by omega) with rfl | rfl | rfl <;> (simp [C.spec_dTree];repeat' first
         | exact hJ _
         | refine And.intro ?_ ?_)
       ·have h6:¬ kb=6:=d_f hc7
        refine wseq ?_
        refine wreg fun K hK=>?_
        simp [C.spec_dTree,show ((kb:Int) == 7)=decide (kb=7) by rw [Bool.eq_iff_iff];simp <;> omega]
        refine hK _ ?_;clear hK K
        show AWp _ _ _ _ _
        refine wcond _ rfl (fun hc8=>?_) (fun hc8=>?_)
        ·have h7:kb=7:=d_t hc8
         refine wseq ?_
         have hz:=TrI.zero 2
         have hdz:=spec_dZero_c 2 (by omega)
         obtain ⟨zz,hzz⟩:∃ z:List Int,z=List.replicate (2*2) 0:=⟨_,rfl⟩
         rw [<-hzz] at hz hdz
         have hzl:zz.length=4:=hz.1
         refine wregI ([0] ++ ([1,2])) rfl fun K hK=>?_
         refine oSg fun L hL=>?_
         simp [C.spec_dTree,mO]
         refine wcall1 (hdz) (by simp) (by simp) ?_
         simp [C.spec_dTree,mO]
         refine hL _ ?_;clear hL L
         refine oEn fun L hL=>?_
         simp [C.spec_dTree,mO]
         refine hL _ ?_;clear hL L
         simp [C.spec_dTree,mO]
         refine hK _ ?_;clear hK K
         show AWp _ _ _ _ _
         refine wseq ?_
         refine wregI ([0,1,2] ++ ([])) rfl fun K hK=>?_
         refine oSg fun L hL=>?_
         simp [C.spec_dTree]
         refine wcall (spec_dJoin_c xs i2 h2 2 zz 0 1 3 1 p2 hx (by omega) hz.1 (by omega) (by omega) (by omega) (by omega)) (by simp) (by simp) (by simp) ?_
         rintro outs res ⟨i4,h4',d',qq,q2',rfl,rfl⟩
         simp [C.spec_dTree]
         refine hL _ ?_;clear hL L
         refine oEn fun L hL=>?_
         simp only [AOpsI]
         refine hL _ ?_;clear hL L
         simp [C.spec_dTree]
         refine hK _ ?_;clear hK K
         show AWp _ _ _ _ _
         refine wseq ?_
         refine wreg fun K hK=>?_
         simp [C.spec_dTree]
         refine hK _ ?_;clear hK K
         show AWp _ _ _ _ _
         refine wret ?_
         simp [C.spec_dTree]
         exact ⟨i4,h4',⟨2,2,d'⟩,⟨#[71,50]⟩,qq,⟨2,_,rfl,rfl,by omega,hz.join (by omega) (by omega) (by omega) (by omega) q2'⟩,rfl,by
          have hT:=hz.join (i:=0) (by omega) (by omega) (by omega) (by omega) q2'
          simp [mO,owI,hT.1,hzl]⟩
        ·have h7:¬ kb=7:=d_f hc8
         refine wseq ?_
         refine wreg fun K hK=>?_
         simp [C.spec_dTree,show ((kb:Int) == 8)=decide (kb=8) by rw [Bool.eq_iff_iff];simp <;> omega]
         refine hK _ ?_;clear hK K
         show AWp _ _ _ _ _
         refine wcond _ rfl (fun hc9=>?_) (fun hc9=>?_)
         ·have:=d_t hc9
          omega
         ·refine wseq ?_
          refine wreg fun K hK=>?_
          simp [C.spec_dTree,show ((kb:Int) == 9)=decide (kb=9) by rw [Bool.eq_iff_iff];simp <;> omega]
          refine hK _ ?_;clear hK K
          show AWp _ _ _ _ _
          refine wcond _ rfl (fun hc11=>?_) (fun hc11=>?_)
          ·have:=d_t hc11
           omega
          ·refine wseq ?_
           refine wreg fun K hK=>?_
           simp [C.spec_dTree,show ((kb:Int) == 10)=decide (kb=10) by rw [Bool.eq_iff_iff];simp <;> omega]
           refine hK _ ?_;clear hK K
           show AWp _ _ _ _ _
           refine wcond _ rfl (fun hc12=>?_) (fun hc12=>?_)
           ·refine wseq ?_
            have hz:=TrI.zero 3
            have hdz:=spec_dZero_c 3 (by omega)
            obtain ⟨zz,hzz⟩:∃ z:List Int,z=List.replicate (3*3) 0:=⟨_,rfl⟩
            rw [<-hzz] at hz hdz
            have hzl:zz.length=9:=hz.1
            refine wregI ([0] ++ ([1,2])) rfl fun K hK=>?_
            refine oSg fun L hL=>?_
            simp [C.spec_dTree,mO]
            refine wcall1 (hdz) (by simp) (by simp) ?_
            simp [C.spec_dTree,mO]
            refine hL _ ?_;clear hL L
            refine oEn fun L hL=>?_
            simp [C.spec_dTree,mO]
            refine hL _ ?_;clear hL L
            simp [C.spec_dTree,mO]
            refine hK _ ?_;clear hK K
            show AWp _ _ _ _ _
            refine wseq ?_
            refine wregI ([0,1,2] ++ ([])) rfl fun K hK=>?_
            refine oSg fun L hL=>?_
            simp [C.spec_dTree]
            refine wcall (spec_dJoin_c xs i2 h2 3 zz 0 1 1 1 p2 hx (by omega) hz.1 (by omega) (by omega) (by omega) (by omega)) (by simp) (by simp) (by simp) ?_
            rintro outs res ⟨i4,h4',d',qq,q2',rfl,rfl⟩
            simp [C.spec_dTree]
            refine hL _ ?_;clear hL L
            refine oEn fun L hL=>?_
            simp only [AOpsI]
            refine hL _ ?_;clear hL L
            simp [C.spec_dTree]
            refine hK _ ?_;clear hK K
            show AWp _ _ _ _ _
            refine wseq ?_
            refine wreg fun K hK=>?_
            simp [C.spec_dTree]
            refine hK _ ?_;clear hK K
            show AWp _ _ _ _ _
            refine wret ?_
            simp [C.spec_dTree]
            exact ⟨i4,h4',⟨3,3,d'⟩,⟨#[65,49,32,65,50]⟩,qq,⟨3,_,rfl,rfl,by omega,hz.join (by omega) (by omega) (by omega) (by omega) q2'⟩,rfl,by
             have hT:=hz.join (i:=0) (by omega) (by omega) (by omega) (by omega) q2'
             simp [mO,owI,hT.1,hzl]⟩
           ·have hfmt:=spec_FormatInt_c n (by omega)
            have hsz:(strOfNums [48+(n:Int)]).size=1:=rfl
            refine wskip ?_
            show AWp _ _ _ _ _
            refine wseq ?_
            refine wregI ([0,1] ++ ([2,3])) rfl fun K hK=>?_
            refine oSg fun L hL=>?_
            simp [C.spec_dTree,mO]
            refine wcall1 (spec_dZero_c n (by omega)) (by simp) (by simp) ?_
            simp [C.spec_dTree,mO]
            refine hL _ ?_;clear hL L
            refine oEn fun L hL=>?_
            simp [C.spec_dTree,mO]
            refine hL _ ?_;clear hL L
            simp [C.spec_dTree,mO]
            refine hK _ ?_;clear hK K
            show AWp _ _ _ _ _
            refine wseq ?_
            refine wseq ?_
            refine wreg fun K hK=>?_
            simp [C.spec_dTree]
            refine hK _ ?_;clear hK K
            show AWp _ _ _ _ _
            refine wblock ?_
            refine wloop (fun x:Nat×List Int×Nat×Int=>⟨ofL [(0,.pt (0,0) [] 0),(4,.pt (4,0) [] 0),(7,.int n),(16,.pt (16,0) [] 0),(17,.int x.1),(1000,.pt (0,0) [] 0)],ofRO [((0,0),some (cur xs x.2.2.1 x.2.2.2)),((4,0),some (.bx [D.int 0,D.int 0,.v (.slice none 0 0)])),((16,0),some (.bx [D.int n,D.int n,owI x.2.1]))]⟩) (fun x=>x.1+1<=n/\TrI n (x.1+1) x.2.1/\x.2.2.1<=xs.length) (fun x=>n - x.1) (0,List.replicate (n*n) 0,i2,h2) (by simp [C.spec_dTree,owI]) ⟨by omega,TrI.zero n,p2⟩ ?_
            intro x3 hx3 R3 hR3
            obtain ⟨j,d,i3,h3⟩:=x3
            obtain ⟨g1,g2,g3⟩:=hx3
            dsimp only at g1 g2 g3 ⊢
            have hw1:IntKind.i64.wrap ((j:Int)+1)=(j:Int)+1:=wrapOk (by omega) (by omega)
            refine wseq ?_
            refine wseq ?_
            refine wreg fun K hK=>?_
            simp [C.spec_dTree,hw1]
            refine hK _ ?_;clear hK K
            show AWp _ _ _ _ _
            refine wcond _ rfl (fun hc13=>?_) (fun hc13=>?_)
            ·have hj:j+1 < n:=by have:=hc13;simp at this;omega
             refine wskip ?_
             show AWp _ _ _ _ _
             refine wseq ?_
             refine wblock ?_
             refine wregI ([0,1,2,3,4,5] ++ ([])) rfl fun K hK=>?_
             refine oSg fun L hL=>?_
             simp [C.spec_dTree,hw1]
             refine wcall (spec_dJoin_c xs i3 h3 n d j (j+1) 1 1 g3 hx (by omega) g2.1 (by omega) (by omega) (by omega) (by omega)) (by simp) (by simp) (by simp) ?_
             rintro outs res ⟨i4,h4',d',qq,q2',rfl,rfl⟩
             simp [C.spec_dTree,hw1]
             refine hL _ ?_;clear hL L
             refine oEn fun L hL=>?_
             simp only [AOpsI]
             refine hL _ ?_;clear hL L
             simp [C.spec_dTree,hw1]
             refine hK _ ?_;clear hK K
             show AWp _ _ _ _ _
             refine wreg fun K hK=>?_
             simp [C.spec_dTree,hw1]
             refine hK _ ?_;clear hK K
             simp [C.spec_dTree]
             have hT:=g2.join (show j < j+1 by omega) (by omega) (by omega) (by omega) q2'
             refine cast (congrArg R3 ?_) (hR3 (j+1,d',i4,h4') ⟨by dsimp only;omega,hT,qq⟩ (by dsimp only;omega))
             simp [owI,hT.1,g2.1]
            ·have qq:=g3
             have hT:=g2
             refine wexit ?_
             show AWp _ _ _ _ _
             refine wseq ?_
             refine wdrawI [(true,0),(true,1),(false,2),(true,3),(false,4),(true,5)] ⟨by kernel_rfl,by kernel_rfl⟩ ([0,1,2] ++ ([3,4,5])) rfl fun K hK=>?_
             have hJ:K ⟨ofL [(4,.pt (4,0) [] 0),(5,.d (.v (.string (⟨#[65]⟩ ++ strOfNums [48+(n:Int)])))),(1000,.pt (1000,0) [] 0)],ofRO [((4,0),some (.bx [D.int n,D.int n,owI d])),((1000,0),some (cur xs i3 h3))]⟩:=by
              refine hK _ ?_;clear hK K
              show AWp _ _ _ _ _
              refine wret ?_
              simp [C.spec_dTree]
              exact ⟨i3,h3,⟨n,n,d⟩,⟨#[65]⟩ ++ strOfNums [48+(n:Int)],qq,⟨n,_,rfl,rfl,hn,hT⟩,rfl,by simp [mO]⟩
             clear hK
             simp [C.spec_dTree]
             repeat' first
              | (refine wcall1 (hfmt) ?_ (by simp) ?_;(focus (simp;done));simp [C.spec_dTree,hsz,show ByteArray.size ⟨#[65]⟩ = 1 from rfl])
              | (refine cast (congrArg K ?_) hJ;simp [owI,hT.1,g2.1];done)
              | refine And.intro ?_ ?_
     ·have h4:kb=4:=by have:=hc3;simp at this;omega
      refine wskip ?_
      exact hQc3 _ (by simp [h4])
     ·have h4:¬ kb=4:=by have:=hc3;simp at this;omega
      refine wreg fun K hK=>?_
      simp [C.spec_dTree,show ((kb:Int) == 5)=decide (kb=5) by rw [Bool.eq_iff_iff];simp <;> omega]
      refine hK _ ?_;clear hK K
      exact hQc3 _ (by simp [h4])
    ·refine wreg fun K hK=>?_
     simp [C.spec_dTree]
     refine hK _ ?_;clear hK K
     rw [ofL_padE]
     exact hQc2 _ ⟨1,0,.dead,by omega,rfl⟩
    ·refine wskip ?_
     have hno:=d_f hc2
     exact hQc2 _ ⟨ka,63,_,by omega,congrArg (fun e=>St.mk e _) (ofL_swap (x:=(63,_)) (y:=(1000,_)) (by simp) [(0,.pt (0,0) [] 0),(4,.pt (4,0) [] 0),(6,.int ka),(7,.int n)])⟩
   clear hK
   have e8:((ka:Int) == 8)=decide (ka=8):=by rw [Bool.eq_iff_iff];simp <;> omega
   have e9:((ka:Int) == 9)=decide (ka=9):=by rw [Bool.eq_iff_iff];simp <;> omega
   have e10:((ka:Int) == 10)=decide (ka=10):=by rw [Bool.eq_iff_iff];simp <;> omega
   by_cases g1:ka=8 <;> by_cases g2:ka=9 <;> by_cases g3:ka=10 <;> first
    | (exfalso;omega)
    | (simp [C.spec_dTree,g1,g2,g3,e8,e9,e10];refine cast (congrArg K ?_) hJ;simp [g1,g2,g3];done)
  ·refine wreg fun K hK=>?_
   simp [C.spec_dTree]
   refine hK _ ?_;clear hK K
   rw [ofL_padE]
   exact hQc1 _ ⟨0,0,.dead,by omega,rfl⟩
  ·refine wskip ?_
   have hno:=d_f hc1
   exact hQc1 _ ⟨kd,41,_,by omega,congrArg (fun e=>St.mk e _) (ofL_swap (x:=(41,_)) (y:=(1000,_)) (by simp) [(0,.pt (0,0) [] 0),(1,.int 3),(4,.pt (4,0) [] 0),(6,.int kd),(7,.int n)])⟩
 clear hK
 have hij:((kd:Int) == 7)=decide (kd=7):=by rw [Bool.eq_iff_iff];simp <;> omega
 by_cases g1:4<=kd <;> by_cases g2:kd<=6 <;> by_cases g3:n < 2 <;> by_cases g4:kd=7 <;> first
  | (exfalso;omega)
  | (simp [C.spec_dTree,g1,g2,g3,g4,hij,show ((4:Int)<=kd)=(4<=kd) by rw [eq_iff_iff];omega,show ((kd:Int)<=6)=(kd<=6) by rw [eq_iff_iff];omega,show ((n:Int) < 2)=(n < 2) by rw [eq_iff_iff];omega];refine cast (congrArg K ?_) hJ;simp [g1,g2,g3,g4];done)
end Go.Proofs.Ytfcgcgmleogamaa.Ab
namespace Go.Proofs.Ytfcgcgmleogamaa.Ab
open Go
set_option maxRecDepth 10000
set_option maxHeartbeats 2000000
def fZ:Option Lau->List D
 | none=>[D.int 0,.v (.slice none 0 0)]
 | some f=>fO f
theorem fZ_two (t:Option Lau):(fZ t).length=2:=by cases t <;> rfl
@[simp] theorem fZ_length (l:List (Option Lau)):(rows fZ l).length=2*l.length:=rows_length fZ_two l
end Go.Proofs.Ytfcgcgmleogamaa.Ab
namespace Go.Proofs.Ytfcgcgmleogamaa.Ab
open Go
end Go.Proofs.Ytfcgcgmleogamaa.Ab
namespace Go.Proofs.Ytfcgcgmleogamaa.Ab
open Go
set_option maxRecDepth 10000
set_option maxHeartbeats 2000000
end Go.Proofs.Ytfcgcgmleogamaa.Ab
namespace Go.Proofs.Ytfcgcgmleogamaa.Ab
open Go
set_option maxRecDepth 10000
set_option maxHeartbeats 2000000
end Go.Proofs.Ytfcgcgmleogamaa.Ab
namespace Go.Proofs.Ytfcgcgmleogamaa.Ab
open Go
set_option maxRecDepth 10000
set_option maxHeartbeats 2000000
end Go.Proofs.Ytfcgcgmleogamaa.Ab
namespace Go.Proofs.Ytfcgcgmleogamaa.Ab
open Go
set_option maxRecDepth 10000
set_option maxHeartbeats 2000000
theorem renL_step {base:List Int} {m:Mat} {nm:List Int} {n i j rw y:Nat} (hn:m.n=n) (hj:j < n) (h1:(rowN n nm i).toNat=rw) (h2:nm.getD j 0=(y:Int)):renL base m nm (i*n+j+1)=(renL base m nm (i*n+j)).set (rw*n+y) (bM m i j):=by
 have en:m.n.toNat=n:=by omega
 have e1:(i*n+j) / n=i:=by rw [Nat.mul_comm,Nat.mul_add_div (by omega),Nat.div_eq_of_lt hj,Nat.add_zero]
 have e2:(i*n+j) % n=j:=by rw [Nat.mul_comm,Nat.mul_add_mod,Nat.mod_eq_of_lt hj]
 simp only [renL,en,e1,e2,h1,h2,Int.toNat_natCast]
 rw [show m.d.getD (i*n+j) 0=bM m i j by simp [bM,g0,en]]
theorem rowN_bd {n r:Nat} {nm:List Int} {i:Nat} (hl:nm.length=n) (hb:∀ x∈nm,0<=x/\x < n) (hnr:n<=r) (hi:i < r):rowN n nm i=(((rowN n nm i).toNat:Nat):Int)/\(rowN n nm i).toNat < r:=by
 unfold rowN
 split
 ·rename_i h
  have e:nm.getD i 0=nm[i]'(by omega):=by simp [List.getD_eq_getElem?_getD,show i < nm.length by omega]
  have:=hb _ (List.getElem_mem (show i < nm.length by omega))
  rw [e]
  omega
 ·omega
end Go.Proofs.Ytfcgcgmleogamaa.Ab
namespace Go.Proofs.Ytfcgcgmleogamaa.Ab
open Go
set_option maxRecDepth 10000
set_option maxHeartbeats 4000000
attribute [local simp] cur
theorem renL_bd {base:List Int} {m:Mat} {nm:List Int} (hb:∀ x∈base,-99<=x/\x<=99) (hm:∀ x∈m.d,-99<=x/\x<=99):∀ (q:Nat),∀ x∈renL base m nm q,-99<=x/\x<=99
 | 0,x,h=>hb x h
 | q+1,x,h=>by
  simp only [renL] at h
  rcases List.mem_or_eq_of_mem_set h with h | rfl
  ·exact renL_bd hb hm q x h
  ·rw [List.getD_eq_getElem?_getD]
   by_cases g:q < m.d.length
   ·rw [List.getElem?_eq_getElem g]
    exact hm _ (List.getElem_mem g)
   ·rw [List.getElem?_eq_none (by omega)]
    simp
theorem TreeM.sh {m:Mat} (h:TreeM m):∃ n:Nat,m.n=n/\m.r=n/\(1<=n/\n<=3)/\MatOK m:=by
 obtain ⟨n,k,h1,h2,h3,h4⟩:=h
 refine ⟨n,h1,h2,h3,⟨by omega,by omega,?_,fun x hx=>by have:=h4.2.1 x hx;omega⟩,?_⟩
 ·rw [h4.1,h1,h2]
  simp
 ·obtain ⟨e,he⟩:=h4.2.2.1
  have en:m.n.toNat=n:=by omega
  refine ⟨e,?_⟩
  rw [en]
  refine he.congr fun i j hi hj=>?_
  unfold bM bD
  rw [en]
def wX (b:Bool) (n:Nat):FV:=if b=true then .al (3,0) [2] 0 n else .dead
def SqM (m:Mat):Prop:=∃ n:Nat,m.n=n/\m.r=n/\(1<=n/\n<=3)/\MatOK m
def DrawMX (xs:List Int) (L:Nat) (outs:List D) (res:List RV):Prop:=∃ (i':Nat) (h':Int) (m:Mat) (o:D),i'<=xs.length/\SqM m/\(o = .gone\/∃ l:List Int,l.length=L/\o = .ow 1 L (ints l))/\outs=[cur xs i' h',o]/\res=[.ag (mO m)]
def DrawMT (xs:List Int) (outs:List D) (res:List RV):Prop:=∃ (i':Nat) (h':Int) (m:Mat) (s:ByteArray),i'<=xs.length/\SqM m/\outs=[cur xs i' h']/\res=[.ag (mO m),.one (.v (.string s))]
theorem spec_dNames_c (xs:List Int) (i:Nat) (h:Int) (n:Nat) (hi:i<=xs.length) (hx:xs.length<=1048576) (hn:n<=8):ACalls Try.prog F.spec_dNames [.pt (0,0) [] 0,.int n] [((0,0),cur xs i h)] false (DrawE xs (fun e=>e.length=n/\(∀ x∈e,0<=x/\x < n)/\e.Nodup)):=by
 refine ACalls.of_body (C:=C.spec_dNames) (n:=Try.f126.ntmps) tabT folT Try.func126 rfl (by kernel_rfl) rfl (Nat.le_of_ble_eq_true rfl) (by decide) (by kernel_rfl) (by kernel_rfl) rfl (by simp) (by simp) ?_
 simp only [Try.f126]
 refine wseq ?_
 refine wreg fun K hK=>?_
 simp [C.spec_dNames]
 refine hK _ ?_;clear hK K
 show AWp _ _ _ _ _
 refine wseq ?_
 refine wreg fun K hK=>?_
 simp [C.spec_dNames]
 refine hK _ ?_;clear hK K
 show AWp _ _ _ _ _
 refine wseq ?_
 refine wseq ?_
 refine wreg fun K hK=>?_
 simp [C.spec_dNames]
 refine hK _ ?_;clear hK K
 show AWp _ _ _ _ _
 refine wblock ?_
 refine wloop (fun x:Nat×List Int×Nat×Int=>⟨ofL [(0,.pt (0,0) [] 0),(1,.int n),(5,.al (5,0) [] 0 x.1),(6,.int x.1),(1000,.pt (0,0) [] 0)],ofRO [((0,0),some (cur xs x.2.2.1 x.2.2.2)),((5,0),some (.ow 1 x.1 (ints x.2.1)))]⟩) (fun x=>x.1<=n/\x.2.1.length=x.1/\((∀ y∈x.2.1,0<=y/\y < (x.1:Int))/\x.2.1.Nodup)/\x.2.2.1<=xs.length) (fun x=>n - x.1) (0,[],i,h) (by simp [C.spec_dNames,ints]) ⟨by simp,rfl,by simp,hi⟩ ?_
 intro x1 hx1 R1 hR1
 obtain ⟨j,e,i1,h1⟩:=x1
 obtain ⟨g1,g2,g3,g4⟩:=hx1
 dsimp only at g1 g2 g3 g4 ⊢
 refine wseq ?_
 refine wseq ?_
 refine wreg fun K hK=>?_
 simp [C.spec_dNames]
 refine hK _ ?_;clear hK K
 show AWp _ _ _ _ _
 refine wcond _ rfl (fun hc1=>?_) (fun hc1=>?_)
 ·have hj:j < n:=by have:=d_t hc1;omega
  refine wskip ?_
  show AWp _ _ _ _ _
  refine wseq ?_
  refine wblock ?_
  refine wseq ?_
  refine wregI ([0,1,2,3,4] ++ ([5])) rfl fun K hK=>?_
  refine oSg fun L hL=>?_
  simp [C.spec_dNames,wrapOk (x:=(j:Int)+1) (by omega) (by omega)]
  refine wcall (spec_l1Below_c xs i1 h1 ((j:Int)+1) g4 hx (by omega)) (by simp) (by simp) (by simp) ?_
  rintro outs res ⟨i2,h2,c,q1,q2,rfl,rfl⟩
  simp [C.spec_dNames,wrapOk (x:=(j:Int)+1) (by omega) (by omega)]
  refine hL _ ?_;clear hL L
  refine oEn fun L hL=>?_
  simp [C.spec_dNames,wrapOk (x:=(j:Int)+1) (by omega) (by omega)]
  refine hL _ ?_;clear hL L
  simp [C.spec_dNames,wrapOk (x:=(j:Int)+1) (by omega) (by omega)]
  refine hK _ ?_;clear hK K
  show AWp _ _ _ _ _
  obtain ⟨p,hp⟩:∃ p:Nat,c=p:=⟨c.toNat,by omega⟩
  rw [hp]
  have hpj:p<=j:=by omega
  have hlen:p+1+(j - p)=j+1:=by omega
  refine wdraw (.take 1 (.take 2 (.take 3 (.take 5 (.take 8 (.take 9 (.take 10 (.all [(0,.all [(4,.all [(6,.all [(7,.all [(11,.take 12 (.done))])])]),(6,.all [(4,.all [(7,.all [(11,.take 12 (.done))])])])]),(6,.all [(0,.all [(4,.all [(7,.all [(11,.take 12 (.done))])])])])])))))))) ⟨by kernel_rfl,by kernel_rfl⟩ fun K hK=>?_
  have hJ:K ⟨ofL [(0,.pt (0,0) [] 0),(1,.int n),(5,.al (5,0) [] 0 (j+1)),(6,.int j),(1000,.pt (0,0) [] 0)],ofRO [((0,0),some (cur xs i2 h2)),((5,0),some (.ow 1 (j+1) (ints (e.take p ++ (j:Int) :: e.drop p))))]⟩:=by
   refine hK _ ?_;clear hK K
   show AWp _ _ _ _ _
   refine wreg fun K hK=>?_
   simp [C.spec_dNames,wrap_succ (show j < 4611686018427387904 by omega)]
   refine hK _ ?_;clear hK K
   simp [C.spec_dNames]
   refine hR1 (j+1,e.take p ++ (j:Int) :: e.drop p,i2,h2) ⟨hj,?_,?_,q1⟩ (by dsimp only;omega)
   ·dsimp only
    simp [g2]
    omega
   ·dsimp only
    refine ⟨fun y hy=>?_,?_⟩
    ·rcases List.mem_append.1 hy with hy | hy
     ·have:=g3.1 y (List.mem_of_mem_take hy)
      omega
     ·rcases List.mem_cons.1 hy with rfl | hy
      ·omega
      ·have:=g3.1 y (List.mem_of_mem_drop hy)
       omega
    ·refine (List.perm_middle.nodup_iff).2 (List.nodup_cons.2 ⟨fun hm=>?_,?_⟩)
     ·rw [List.take_append_drop] at hm
      have:=g3.1 _ hm
      omega
     ·rw [List.take_append_drop]
      exact g3.2
  clear hK
  have hbig:(j+1)*8<=140737488355328:=by omega
  by_cases z1:p=j
  ·have t1:e.take p=e:=List.take_of_length_le (by omega)
   have t2:e.drop p=[]:=List.drop_of_length_le (by omega)
   rw [t1,t2] at hJ
   subst z1
   by_cases z2:p=0
   ·subst z2
    obtain rfl:e=[]:=List.eq_nil_of_length_eq_zero g2
    simp [C.spec_dNames,ints]
    refine cast (congrArg K ?_) hJ
    simp [ints]
   ·simp [C.spec_dNames,g2,t1,t2,z2,hbig,show p*8<=140737488355328 by omega]
    repeat' first
     | (refine cast (congrArg K ?_) hJ;simp [ints];done)
     | refine And.intro ?_ ?_
     | omega
  ·by_cases z2:p=0
   ·subst z2
    simp [C.spec_dNames,g2,z1,hbig,show ¬ 0=j by omega,show (0+1+j)*8<=140737488355328 by omega,show (1+j)*8<=140737488355328 by omega]
    repeat' first
     | (refine cast (congrArg K ?_) hJ;simp [ints,Nat.add_comm];done)
     | refine And.intro ?_ ?_
     | omega
   ·have e1:p+1+(j - p)=j+1:=by omega
    have t3:(e.drop p).take (j - p)=e.drop p:=List.take_of_length_le (by simp;omega)
    simp [C.spec_dNames,t3,g2,z1,z2,hpj,hbig,e1,show (p:Int)<=j by omega,show p*8<=140737488355328 by omega,show (p+1)*8<=140737488355328 by omega]
    repeat' first
     | (refine cast (congrArg K ?_) hJ;simp [ints,e1,t3];done)
     | refine And.intro ?_ ?_
     | omega
 ·have hj:j=n:=by have:=d_f hc1;omega
  refine wexit ?_
  show AWp _ _ _ _ _
  refine wseq ?_
  refine wreg fun K hK=>?_
  simp [C.spec_dNames]
  refine hK _ ?_;clear hK K
  show AWp _ _ _ _ _
  refine wret ?_
  simp [C.spec_dNames]
  exact ⟨i1,h1,e,g4,⟨by omega,fun x hx=>by have:=g3.1 x hx;omega,g3.2⟩,by simp [hj,g2,owI]⟩
theorem spec_l1Rename_c (m:Mat) (nm:List Int) (n r:Nat) (hn:m.n=n) (hr:m.r=r) (hS:ShM m) (hl:nm.length=n) (hb:∀ x∈nm,0<=x/\x < n):ACalls Try.prog F.spec_l1Rename [.ag [.int n,.int r,.d (shI m.d)],.d (shI nm)] [] true (fun outs res=>outs=[]/\res=[.ag (mO ⟨n,r,renL m.d m nm m.d.length⟩)]):=by
 have hd:=sh_dim hS
 have hn5:1<=n/\n<=5:=by omega
 have hnr:n<=r/\r<=8:=by omega
 have hL:m.d.length=r*n:=by rw [hd.2.2.2.2.1,show m.r.toNat=r by omega,show m.n.toNat=n by omega]
 have hL40:m.d.length<=40:=by rw [hL];exact Nat.mul_le_mul hnr.2 hn5.2
 have hcopy:=spec_l1CopyMatrix_c m (by omega)
 have haM:aM m = .ag [.int n,.int r,.d (shI m.d)]:=by rw [<-hn,<-hr]
 rw [haM] at hcopy
 refine ACalls.of_body (C:=C.spec_l1Rename) (n:=Try.f189.ntmps) tabT folT Try.func189 rfl (by kernel_rfl) rfl (Nat.le_of_ble_eq_true rfl) (by decide) (by kernel_rfl) (by kernel_rfl) rfl (by simp) (by simp) ?_
 simp only [Try.f189]
 refine wseq ?_
 refine wreg fun K hK=>?_
 simp [C.spec_l1Rename]
 refine hK _ ?_;clear hK K
 show AWp _ _ _ _ _
 refine wseq ?_
 refine wregI ([0,1] ++ ([2,3])) rfl fun K hK=>?_
 refine oSg fun L hL=>?_
 simp [C.spec_l1Rename,mO,hn,hr]
 refine wcall1 (hcopy) (by simp) (by simp) ?_
 simp [C.spec_l1Rename,mO,hn,hr]
 refine hL _ ?_;clear hL L
 refine oEn fun L hL=>?_
 simp [C.spec_l1Rename,mO,hn,hr]
 refine hL _ ?_;clear hL L
 simp [C.spec_l1Rename,mO,hn,hr]
 refine hK _ ?_;clear hK K
 show AWp _ _ _ _ _
 refine wseq ?_
 refine wseq ?_
 refine wreg fun K hK=>?_
 simp [C.spec_l1Rename]
 refine hK _ ?_;clear hK K
 show AWp _ _ _ _ _
 refine wblock ?_
 refine wloop (fun i:Nat=>⟨ofL [(1,.d (shI nm)),(2,.pt (2,0) [] 0),(4,.pt (4,0) [] 0),(5,.pt (5,0) [] 0),(6,.int i)],ofRO [((2,0),some (.bx [D.int n,D.int r,shI m.d])),((4,0),some (.bx [D.int 0,D.int 0,.v (.slice none 0 0)])),((5,0),some (.bx [D.int n,D.int r,owI (renL m.d m nm (i*n))]))]⟩) (fun i=>i<=r) (fun i=>r - i) 0 (by simp [C.spec_l1Rename,renL]) (by simp) ?_
 intro x1 hx1 R1 hR1
 refine wseq ?_
 refine wseq ?_
 refine wreg fun K hK=>?_
 simp [C.spec_l1Rename]
 refine hK _ ?_;clear hK K
 show AWp _ _ _ _ _
 refine wcond _ rfl (fun hc1=>?_) (fun hc1=>?_)
 ·have hi:x1 < r:=by have:=d_t hc1;omega
  obtain ⟨e1,e2⟩:=rowN_bd hl hb hnr.1 hi
  obtain ⟨rw',hrw⟩:∃ rw',rw'=(rowN n nm x1).toNat:=⟨_,rfl⟩
  rw [<-hrw] at e1 e2
  refine wskip ?_
  show AWp _ _ _ _ _
  refine wseq ?_
  refine wblock ?_
  refine wseq ?_
  refine wreg fun K hK=>?_
  simp [C.spec_l1Rename]
  refine hK _ ?_;clear hK K
  show AWp _ _ _ _ _
  refine wseq ?_
  refine wseq ?_
  refine wreg fun K hK=>?_
  simp [C.spec_l1Rename]
  refine hK _ ?_;clear hK K
  show AWp _ _ _ _ _
  refine wcondJ (fun σ'=>∃ t f,σ'=⟨ofL [(1,.d (shI nm)),(2,.pt (2,0) [] 0),(4,.pt (4,0) [] 0),(5,.pt (5,0) [] 0),(6,.int x1),(7,.int rw'),(t,f)],ofRO [((2,0),some (.bx [D.int n,D.int r,shI m.d])),((4,0),some (.bx [D.int 0,D.int 0,.v (.slice none 0 0)])),((5,0),some (.bx [D.int n,D.int r,owI (renL m.d m nm (x1*n))]))]⟩) _ rfl ?_ (fun hc2 Qc2 hQc2=>?_) (fun hc2 Qc2 hQc2=>?_)
  ·rintro σc2 ⟨tt,ff,rfl⟩
   show AWp _ _ _ _ _
   refine wseq ?_
   refine wreg fun K hK=>?_
   simp [C.spec_l1Rename]
   refine hK _ ?_;clear hK K
   show AWp _ _ _ _ _
   refine wblock ?_
   refine wloop (fun j:Nat=>⟨ofL [(1,.d (shI nm)),(2,.pt (2,0) [] 0),(4,.pt (4,0) [] 0),(5,.pt (5,0) [] 0),(6,.int x1),(7,.int rw'),(8,.int j)],ofRO [((2,0),some (.bx [D.int n,D.int r,shI m.d])),((4,0),some (.bx [D.int 0,D.int 0,.v (.slice none 0 0)])),((5,0),some (.bx [D.int n,D.int r,owI (renL m.d m nm (x1*n+j))]))]⟩) (fun j=>j<=n) (fun j=>n - j) 0 (by simp [C.spec_l1Rename]) (by simp) ?_
   intro x2 hx2 R2 hR2
   refine wseq ?_
   refine wseq ?_
   refine wreg fun K hK=>?_
   simp [C.spec_l1Rename]
   refine hK _ ?_;clear hK K
   show AWp _ _ _ _ _
   refine wcond _ rfl (fun hc3=>?_) (fun hc3=>?_)
   ·have hj:x2 < n:=by have:=d_t hc3;omega
    have hjn:x2 < nm.length:=by omega
    have hyb:=hb _ (List.getElem_mem hjn)
    obtain ⟨y,hy⟩:∃ y:Nat,nm[x2]=y:=⟨nm[x2].toNat,by omega⟩
    rw [hy] at hyb
    have hyd:nm.getD x2 0=(y:Int):=by rw [<-hy];simp [List.getD_eq_getElem?_getD,hjn]
    have hst:=renL_step (base:=m.d) hn hj hrw.symm hyd
    obtain ⟨q,hq⟩:∃ q,q=rw' * n+y:=⟨_,rfl⟩
    have hqL:q < m.d.length:=by
     rw [hL,hq]
     have h1:(rw' + 1)*n<=r*n:=Nat.mul_le_mul_right _ (by omega)
     rw [Nat.add_mul] at h1
     omega
    have hw1:IntKind.i64.wrap ((rw':Int)*n)=((rw' * n:Nat):Int):=by
     rw [wrapOk]
     ·simp
     ·have:(rw':Int)*n=((rw' * n:Nat):Int):=by simp
      omega
     ·have:(rw':Int)*n=((rw' * n:Nat):Int):=by simp
      omega
    have hw2:IntKind.i64.wrap (((rw' * n:Nat):Int)+y)=(q:Int):=by rw [wrapOk (by omega) (by omega)];omega
    have hat:=spec_l1At_c m n r x1 x2 hn hr hS hi hj
    have hAl:(renL m.d m nm (x1*n+x2)).length=m.d.length:=by rw [renL_length]
    rw [<-hq] at hst
    obtain ⟨A,hA⟩:∃ A,A=renL m.d m nm (x1*n+x2):=⟨_,rfl⟩
    rw [<-hA] at hst hAl
    rw [<-hA]
    obtain ⟨P,hP⟩:∃ P,P=rw' * n:=⟨_,rfl⟩
    rw [<-hP] at hw1 hw2
    refine wskip ?_
    show AWp _ _ _ _ _
    refine wseq ?_
    refine wblock ?_
    refine wdrawI [(true,0),(true,1),(true,2),(true,3),(true,4),(true,5),(true,6),(true,7),(true,8),(true,9),(true,10),(true,11),(true,12),(true,13),(false,14),(true,15),(false,16)] ⟨by kernel_rfl,by kernel_rfl⟩ ([0,1,2,3,4,5,6,7,8,9,10,11,12,13,14] ++ ([15,16])) rfl fun K hK=>?_
    have hJ:K ⟨ofL [(1,.d (shI nm)),(2,.pt (2,0) [] 0),(4,.pt (4,0) [] 0),(5,.pt (5,0) [] 0),(6,.int x1),(7,.int rw'),(8,.int x2)],ofRO [((2,0),some (.bx [D.int n,D.int r,shI m.d])),((4,0),some (.bx [D.int 0,D.int 0,.v (.slice none 0 0)])),((5,0),some (.bx [D.int n,D.int r,owI (renL m.d m nm (x1*n+x2+1))]))]⟩:=by
     refine hK _ ?_;clear hK K
     show AWp _ _ _ _ _
     refine wreg fun K hK=>?_
     simp [C.spec_l1Rename,wrap_succ (show x2 < 4611686018427387904 by omega)]
     refine hK _ ?_;clear hK K
     simp [C.spec_l1Rename]
     refine cast (congrArg R2 ?_) (hR2 (x2+1) hj (by omega))
     simp [<-Nat.add_assoc]
    clear hK
    simp [C.spec_l1Rename,hw1,hw2,get_ints,hjn,hy,hAl,hqL,show (x2:Int) < nm.length by omega,show (q:Int) < m.d.length by omega]
    repeat' first
     | (refine wcall1 (hat) ?_ (by simp) ?_;(focus (simp;done));simp [C.spec_l1Rename,hw1,hw2,get_ints,hjn,hy,hAl,hqL,show (x2:Int) < nm.length by omega,show (q:Int) < m.d.length by omega])
     | (refine cast (congrArg K ?_) hJ;simp [hst,hAl,owI];done)
     | refine And.intro ?_ ?_
   ·have hj:x2=n:=by have:=d_f hc3;omega
    refine wexit ?_
    show AWp _ _ _ _ _
    refine wreg fun K hK=>?_
    simp [C.spec_l1Rename,wrap_succ (show x1 < 4611686018427387904 by omega)]
    refine hK _ ?_;clear hK K
    simp [C.spec_l1Rename]
    refine cast (congrArg R1 ?_) (hR1 (x1+1) hi (by omega))
    simp [Nat.add_mul,hj]
  ·have hin:x1 < n:=by have:=d_t hc2;omega
   have hnx:nm[x1]'(by omega)=(rw':Int):=by
    rw [<-e1]
    unfold rowN
    rw [if_pos hin]
    simp [List.getD_eq_getElem?_getD,show x1 < nm.length by omega]
   refine wreg fun K hK=>?_
   simp [C.spec_l1Rename,get_ints,hnx,show x1 < nm.length by omega,show (x1:Int) < nm.length by omega]
   refine hK _ ?_;clear hK K
   rw [ofL_padE]
   exact hQc2 _ ⟨0,.dead,rfl⟩
  ·have hin:¬ x1 < n:=by have:=d_f hc2;omega
   have hnx:(x1:Int)=rw':=by
    rw [<-e1]
    unfold rowN
    rw [if_neg hin]
   refine wskip ?_
   rw [<-hnx] at hQc2
   exact hQc2 _ ⟨_,_,rfl⟩
 ·have hi:x1=r:=by have:=d_f hc1;omega
  refine wexit ?_
  show AWp _ _ _ _ _
  refine wseq ?_
  refine wreg fun K hK=>?_
  simp [C.spec_l1Rename]
  refine hK _ ?_;clear hK K
  show AWp _ _ _ _ _
  refine wret ?_
  simp [C.spec_l1Rename,mO,hi,<-hL]
theorem spec_dMoved_c (xs:List Int) (i:Nat) (h:Int) (m:Mat) (n:Nat) (hi:i<=xs.length) (hx:xs.length<=1048576) (hn:m.n=n) (hr:m.r=n) (hn3:1<=n/\n<=3) (hS:MatOK m):ACalls Try.prog F.spec_dMoved [.pt (0,0) [] 0,.ag [.int n,.int n,.al (1,2) [] 0 m.d.length]] [((0,0),cur xs i h),((1,2),owI m.d)] false (DrawMX xs m.d.length):=by
 refine ACalls.of_body (C:=C.spec_dMoved) (n:=Try.f166.ntmps) tabT folT Try.func166 rfl (by kernel_rfl) rfl (Nat.le_of_ble_eq_true rfl) (by decide) (by kernel_rfl) (by kernel_rfl) rfl (by simp) (by simp) ?_
 simp only [Try.f166]
 refine wseq ?_
 refine wreg fun K hK=>?_
 simp [C.spec_dMoved]
 refine hK _ ?_;clear hK K
 show AWp _ _ _ _ _
 refine wseq ?_
 refine wregI ([0,1] ++ ([2])) rfl fun K hK=>?_
 refine oSg fun L hL=>?_
 simp [C.spec_dMoved]
 refine wcall (spec_l1Below_c xs i h 4 hi hx (by omega)) (by simp) (by simp) (by simp) ?_
 rintro outs res ⟨i1,h1,c1,p1,q1,rfl,rfl⟩
 simp [C.spec_dMoved]
 refine hL _ ?_;clear hL L
 refine oEn fun L hL=>?_
 simp [C.spec_dMoved]
 refine hL _ ?_;clear hL L
 simp [C.spec_dMoved]
 refine hK _ ?_;clear hK K
 show AWp _ _ _ _ _
 refine wseq ?_
 refine wseq ?_
 obtain ⟨cc,hcc⟩:∃ cc:Nat,c1=cc:=⟨c1.toNat,by omega⟩
 rw [hcc]
 refine wreg fun K hK=>?_
 simp [C.spec_dMoved]
 refine hK _ ?_;clear hK K
 show AWp _ _ _ _ _
 refine wblock ?_
 refine wloop (fun x:Nat×Mat×Nat×Int×Bool=>⟨ofL [(0,.pt (0,0) [] 0),(3,.pt (3,0) [] 0),(4,.pt (4,0) [] 0),(5,.int cc),(6,.int x.1),(1000,.pt (0,0) [] 0),(1001,wX x.2.2.2.2 m.d.length)],ofRO [((0,0),some (cur xs x.2.2.1 x.2.2.2.1)),((3,0),some (.bx [D.int n,D.int n,owI x.2.1.d])),((4,0),some (.bx [D.int 0,D.int 0,.v (.slice none 0 0)]))]⟩) (fun x=>x.1<=cc/\(x.2.1.n=n/\x.2.1.r=n/\MatOK x.2.1)/\x.2.2.1<=xs.length/\(x.2.2.2.2=true->x.2.1.d.length=m.d.length)) (fun x=>cc - x.1) (0,m,i1,h1,true) (by simp [C.spec_dMoved,wX]) ⟨by simp,⟨hn,hr,hS⟩,p1,fun _=>rfl⟩ ?_
 intro x1 hx1 R1 hR1
 obtain ⟨j,m2,i2,h2,b⟩:=x1
 obtain ⟨g1,⟨g2,g3,g4⟩,g5,g6⟩:=hx1
 dsimp only at g1 g2 g3 g4 g5 g6 ⊢
 have haM:aM m2 = .ag [.int n,.int n,.d (shI m2.d)]:=by rw [<-g2];simp only [aM,g2,g3]
 have hml:m2.d.length<=40:=by
  have hd:=sh_dim g4.1
  rw [hd.2.2.2.2.1]
  exact Nat.le_trans (Nat.mul_le_mul hd.2.2.2.1 hd.2.1) (by omega)
 refine wseq ?_
 refine wseq ?_
 refine wreg fun K hK=>?_
 simp [C.spec_dMoved]
 refine hK _ ?_;clear hK K
 show AWp _ _ _ _ _
 refine wcond _ rfl (fun hc1=>?_) (fun hc1=>?_)
 ·have hj:j < cc:=by have:=d_t hc1;omega
  refine wskip ?_
  show AWp _ _ _ _ _
  refine wseq ?_
  refine wblock ?_
  refine wseq ?_
  refine wdraw (.take 1 (.take 2 (.take 3 (.all [(0,.all [(4,.all [(5,.take 6 (.take 7 (.take 8 (.all [(9,.all [(10,.take 11 (.done))])])))),(9,.all [(5,.take 6 (.take 7 (.take 8 (.all [(10,.take 11 (.done))]))))])]),(9,.all [(4,.all [(5,.take 6 (.take 7 (.take 8 (.all [(10,.take 11 (.done))]))))])])]),(4,.take 0 (.all [(5,.take 6 (.take 7 (.take 8 (.all [(9,.all [(10,.take 11 (.done))])])))),(9,.all [(5,.take 6 (.take 7 (.take 8 (.all [(10,.take 11 (.done))]))))])])),(9,.all [(0,.all [(4,.all [(5,.take 6 (.take 7 (.take 8 (.all [(10,.take 11 (.done))]))))])]),(4,.take 0 (.all [(5,.take 6 (.take 7 (.take 8 (.all [(10,.take 11 (.done))]))))]))])])))) ⟨by kernel_rfl,by kernel_rfl⟩ fun K hK=>?_
  have hJ:∀ (i3:Nat) (h3:Int) (M:Mat×Bool) (hi3:i3<=xs.length) (hM:∃ k:Int,M=muF m2 k),K ⟨ofL [(0,.pt (0,0) [] 0),(3,.pt (3,0) [] 0),(4,.pt (4,0) [] 0),(5,.int cc),(6,.int j),(7,.pt (7,0) [] 0),(8,.bool M.2),(1000,.pt (0,0) [] 0),(1001,wX b m.d.length)],ofRO [((0,0),some (cur xs i3 h3)),((3,0),some (.bx [D.int n,D.int n,owI m2.d])),((4,0),some (.bx [D.int 0,D.int 0,.v (.slice none 0 0)])),((7,0),some (.bx [D.int M.1.n,D.int M.1.r,owI M.1.d]))]⟩:=by
   intro i3 h3 M hi3 hM
   refine hK _ ?_;clear hK K
   show AWp _ _ _ _ _
   refine wseq ?_
   refine wreg fun K hK=>?_
   have hJ:K ⟨ofL [(0,.pt (0,0) [] 0),(3,.pt (3,0) [] 0),(4,.pt (4,0) [] 0),(5,.int cc),(6,.int j),(7,.pt (7,0) [] 0),(25,.bool M.2),(1000,.pt (0,0) [] 0),(1001,wX b m.d.length)],ofRO [((0,0),some (cur xs i3 h3)),((3,0),some (.bx [D.int n,D.int n,owI m2.d])),((4,0),some (.bx [D.int 0,D.int 0,.v (.slice none 0 0)])),((7,0),some (.bx [D.int M.1.n,D.int M.1.r,owI M.1.d]))]⟩:=by
    refine hK _ ?_;clear hK K
    show AWp _ _ _ _ _
    refine wcond _ rfl (fun hc2=>?_) (fun hc2=>?_)
    ·obtain ⟨kk,hM⟩:=hM
     have hb:M.2=true:=by simpa using hc2
     obtain ⟨o1,o2,o3,o4⟩:=muF_ok (m:=m2) (m':=M.1) (k:=kk) (by rw [<-hM,<-hb])
     have hMn:M.1.n=n:=by rw [o4];exact g2
     have hMr:M.1.r=n:=by rw [o4];exact g3
     refine wreg fun K hK=>?_
     have hJ:K ⟨ofL [(0,.pt (0,0) [] 0),(3,.pt (3,0) [] 0),(4,.pt (4,0) [] 0),(5,.int cc),(6,.int j),(1000,.pt (0,0) [] 0),(1001,wX false m.d.length)],ofRO [((0,0),some (cur xs i3 h3)),((3,0),some (.bx [D.int n,D.int n,owI M.1.d])),((4,0),some (.bx [D.int 0,D.int 0,.v (.slice none 0 0)]))]⟩:=by
      refine hK _ ?_;clear hK K
      show AWp _ _ _ _ _
      refine wreg fun K hK=>?_
      simp [C.spec_dMoved,wrap_succ (show j < 4611686018427387904 by omega),wX,wX]
      refine hK _ ?_;clear hK K
      simp [C.spec_dMoved]
      refine cast (congrArg R1 ?_) (hR1 (j+1,M.1,i3,h3,false) ⟨hj,⟨hMn,hMr,o3⟩,hi3,fun h=>by simp at h⟩ (by dsimp only;omega))
      simp [wX]
     clear hK
     cases b <;> (simp [C.spec_dMoved,wX];refine cast (congrArg K ?_) hJ;simp [wX,hMn,hMr])
    ·refine wskip ?_
     show AWp _ _ _ _ _
     refine wreg fun K hK=>?_
     have hJ:K ⟨ofL [(0,.pt (0,0) [] 0),(3,.pt (3,0) [] 0),(4,.pt (4,0) [] 0),(5,.int cc),(6,.int ((j:Int)+1)),(1000,.pt (0,0) [] 0),(1001,wX b m.d.length)],ofRO [((0,0),some (cur xs i3 h3)),((3,0),some (.bx [D.int n,D.int n,owI m2.d])),((4,0),some (.bx [D.int 0,D.int 0,.v (.slice none 0 0)]))]⟩:=by
      refine hK _ ?_;clear hK K
      simp [C.spec_dMoved]
      refine cast (congrArg R1 ?_) (hR1 (j+1,m2,i3,h3,b) ⟨hj,⟨g2,g3,g4⟩,hi3,g6⟩ (by dsimp only;omega))
      cases b <;> simp [wX]
     clear hK
     cases b <;> (simp [C.spec_dMoved,wX,wrap_succ (show j < 4611686018427387904 by omega)];refine cast (congrArg K ?_) hJ;simp [wX])
   clear hK
   cases b <;> (simp [C.spec_dMoved,wX];refine cast (congrArg K ?_) hJ;simp [wX])
  clear hK
  have hmu:=fun k=>sMu_c m2 k (by omega)
  rw [haM] at hmu
  cases b <;> simp [C.spec_dMoved,wX]
  all_goals repeat' first
   | (refine wcall (spec_l1Below_c xs i2 h2 n g5 hx (by omega)) (by simp) (by simp) (by simp) ?_;rintro outs res ⟨i3,h3,kk,q1,q2,rfl,rfl⟩;simp [C.spec_dMoved])
   | (refine wcall1 (hmu kk) ?_ (by simp) ?_;(focus (simp;done));simp [C.spec_dMoved,mO])
   | (refine cast (congrArg K ?_) (hJ i3 h3 (muF m2 kk) q1 ⟨kk,rfl⟩);simp [mO,wX];done)
   | refine And.intro ?_ ?_
 ·refine wexit ?_
  show AWp _ _ _ _ _
  refine wseq ?_
  refine wdraw (.take 1 (.take 2 (.take 3 (.all [(0,.all [(4,.all [(5,.all [(6,.done)])])]),(4,.take 0 (.all [(5,.all [(6,.done)])]))])))) ⟨by kernel_rfl,by kernel_rfl⟩ fun K hK=>?_
  have hsq:∀ e:List Int,e.length=n->(∀ x∈e,0<=x/\x < n)->e.Nodup->SqM ⟨n,n,renL m2.d m2 e m2.d.length⟩:=fun e e1 e2 e3=>⟨n,rfl,rfl,hn3,renL_ok g2 g3 g4 (renL_bd g4.1.2.2.2 g4.1.2.2.2 _) e1 e2 e3⟩
  cases b
  ·simp [C.spec_dMoved,wX]
   repeat' first
    | (refine wcall (spec_dNames_c xs i2 h2 n g5 hx (by omega)) (by simp) (by simp) (by simp) ?_;rintro outs res ⟨i3,h3,e,q1,⟨q2,q3,q4⟩,rfl,rfl⟩;simp [C.spec_dMoved])
    | (refine wcall1 (spec_l1Rename_c m2 e n n g2 g3 g4.1 q2 q3) ?_ (by simp) ?_;(focus (simp [q2];done));simp [C.spec_dMoved,mO])
    | (refine hK _ ?_;show AWp _ _ _ _ _;refine wret ?_;simp [C.spec_dMoved];exact ⟨i3,h3,⟨n,n,renL m2.d m2 e m2.d.length⟩,.gone,q1,hsq e q2 q3 q4,.inl rfl,by simp,by simp [mO,owI]⟩)
    | refine And.intro ?_ ?_
  ·have g7:=g6 rfl
   simp [C.spec_dMoved,wX,<-g7]
   repeat' first
    | (refine wcall (spec_dNames_c xs i2 h2 n g5 hx (by omega)) (by simp) (by simp) (by simp) ?_;rintro outs res ⟨i3,h3,e,q1,⟨q2,q3,q4⟩,rfl,rfl⟩;simp [C.spec_dMoved])
    | (refine wcall1 (spec_l1Rename_c m2 e n n g2 g3 g4.1 q2 q3) ?_ (by simp) ?_;(focus (simp [q2];done));simp [C.spec_dMoved,mO])
    | (refine hK _ ?_;show AWp _ _ _ _ _;refine wret ?_;simp [C.spec_dMoved];exact ⟨i3,h3,⟨n,n,renL m2.d m2 e m2.d.length⟩,owI m2.d,q1,hsq e q2 q3 q4,.inr ⟨m2.d,g7,by simp [owI,g7]⟩,by simp [owI],by simp [mO,owI]⟩)
    | refine And.intro ?_ ?_
theorem spec_dFinite_c (xs:List Int) (i:Nat) (h:Int) (hi:i<=xs.length) (hx:xs.length<=1048576):ACalls Try.prog F.spec_dFinite [.pt (0,0) [] 0,.int 3] [((0,0),cur xs i h)] false (DrawMT xs):=by
 refine ACalls.of_body (C:=C.spec_dFinite) (n:=Try.f110.ntmps) tabT folT Try.func110 rfl (by kernel_rfl) rfl (Nat.le_of_ble_eq_true rfl) (by decide) (by kernel_rfl) (by kernel_rfl) rfl (by simp) (by simp) ?_
 simp only [Try.f110]
 refine wseq ?_
 refine wreg fun K hK=>?_
 simp [C.spec_dFinite]
 refine hK _ ?_;clear hK K
 show AWp _ _ _ _ _
 refine wseq ?_
 refine wregI ([0,1,2] ++ ([3,4,5,6,7,8])) rfl fun K hK=>?_
 refine oSg fun L hL=>?_
 simp [C.spec_dFinite,mO]
 refine wcall (spec_dTree_c xs i h hi hx) (by simp) (by simp) (by simp) ?_
 rintro outs res ⟨i1,h1,m,s,q1,q2,rfl,rfl⟩
 simp [C.spec_dFinite,mO]
 refine hL _ ?_;clear hL L
 refine oEn fun L hL=>?_
 simp [C.spec_dFinite,mO]
 refine hL _ ?_;clear hL L
 simp [C.spec_dFinite,mO]
 refine hK _ ?_;clear hK K
 show AWp _ _ _ _ _
 refine wseq ?_
 obtain ⟨n,m1,m2,m3,m4⟩:=q2.sh
 refine wregI ([0,1,2] ++ ([3,4,5])) rfl fun K hK=>?_
 simp [C.spec_dFinite,m1,m2,mO]
 refine wcall (spec_dMoved_c xs i1 h1 m n q1 hx m1 m2 m3 m4) (by simp) (by simp) (by simp) ?_
 rintro outs res ⟨i2,h2,mm,o,p1,p2,rfl | ⟨l,hl,rfl⟩,rfl,rfl⟩
 all_goals
  simp [C.spec_dFinite,mO]
  refine hK _ ?_
  show AWp _ _ _ _ _
  refine wret ?_
  simp [C.spec_dFinite]
  exact ⟨i2,h2,mm,s,p1,p2,rfl,by simp [mO]⟩
end Go.Proofs.Ytfcgcgmleogamaa.Ab
namespace Go.Proofs.Ytfcgcgmleogamaa.Ab
open Go
set_option maxRecDepth 10000
set_option maxHeartbeats 2000000
theorem laws_entry_c (m:Mat) (n r i k:Nat) (hn:m.n=n) (hr:m.r=r) (hS:ShM m) (hi:i < r) (hk:k < n):ACalls Try.prog F.laws_entry [.ag [.int n,.int r,.d (shI m.d)],.int i,.int k] [] true (fun outs res=>outs=[]/\res=[.one (D.int (bM m i k))]):=by
 obtain ⟨hq,hv⟩:=bM_get hS (i:=i) (j:=k) (by omega) (by omega)
 have en:m.n.toNat=n:=by omega
 simp only [en] at hq hv
 have hd:=sh_dim hS
 have h1:i*n<=8*5:=Nat.mul_le_mul (by omega) (by omega)
 have e:(i:Int)*n=((i*n:Nat):Int):=by simp
 have hw1:IntKind.i64.wrap ((i:Int)*n)=((i*n:Nat):Int):=by rw [e];exact wrapOk (by omega) (by omega)
 have hw2:IntKind.i64.wrap (((i*n:Nat):Int)+k)=((i*n+k:Nat):Int):=by rw [wrapOk (by omega) (by omega)];omega
 obtain ⟨P,hP⟩:∃ P,P=i*n:=⟨_,rfl⟩
 rw [<-hP] at hw1 hw2 hq
 simp only [<-hP] at hv
 obtain ⟨Q,hQ⟩:∃ Q,Q=P+k:=⟨_,rfl⟩
 rw [<-hQ] at hw2 hq
 simp only [<-hQ] at hv
 refine ACalls.of_body (C:=C.laws_entry) (n:=Try.f17.ntmps) tabT folT Try.func17 rfl (by kernel_rfl) rfl (Nat.le_of_ble_eq_true rfl) (by decide) (by kernel_rfl) (by kernel_rfl) rfl (by simp) (by simp) ?_
 simp only [Try.f17]
 refine wseq ?_
 refine wreg fun K hK=>?_
 simp [C.laws_entry]
 refine hK _ ?_;clear hK K
 show AWp _ _ _ _ _
 refine wseq ?_
 refine wseq ?_
 refine wreg fun K hK=>?_
 simp [C.laws_entry,hw1,hw2]
 refine hK _ ?_;clear hK K
 show AWp _ _ _ _ _
 refine wcond _ rfl (fun hc1=>?_) (fun hc1=>?_)
 ·have:=d_t hc1
  omega
 ·refine wskip ?_
  show AWp _ _ _ _ _
  refine wseq ?_
  refine wreg fun K hK=>?_
  simp [C.laws_entry,hw1,hw2,get_ints,hq,hv,show (Q:Int) < m.d.length by omega]
  refine hK _ ?_;clear hK K
  show AWp _ _ _ _ _
  refine wret ?_
  simp [C.laws_entry]
end Go.Proofs.Ytfcgcgmleogamaa.Ab
namespace Go.Proofs.Ytfcgcgmleogamaa.Ab
open Go
set_option maxRecDepth 10000
set_option maxHeartbeats 4000000
attribute [local simp] cur
def DrawnQW (m:Mat) (ks:List Int):Prop:=SqM m/\ks.length<=5/\∀ x∈ks,0<=x/\x < m.n
def DrawQ (xs:List Int) (outs:List D) (res:List RV):Prop:=∃ (i':Nat) (h':Int) (m:Mat) (ks:List Int),i'<=xs.length/\DrawnQW m ks/\outs=[cur xs i' h']/\res=[.ag (mO m),.one (owI ks)]
def DrawQW (outs:List D) (res:List RV):Prop:=∃ (m:Mat) (ks:List Int),DrawnQW m ks/\outs=[]/\res=[.ag (mO m),.one (shI ks)]
theorem spec_dSteps_c (xs:List Int) (i:Nat) (h:Int) (n:Nat) (hi:i<=xs.length) (hx:xs.length<=1048576) (hn:1<=n/\n<=5):ACalls Try.prog F.spec_dSteps [.pt (0,0) [] 0,.int n,.int 5] [((0,0),cur xs i h)] false (DrawE xs (fun e=>e.length<=5/\∀ x∈e,0<=x/\x < n)):=by
 refine ACalls.of_body (C:=C.spec_dSteps) (n:=Try.f72.ntmps) tabT folT Try.func72 rfl (by kernel_rfl) rfl (Nat.le_of_ble_eq_true rfl) (by decide) (by kernel_rfl) (by kernel_rfl) rfl (by simp) (by simp) ?_
 simp only [Try.f72]
 refine wseq ?_
 refine wreg fun K hK=>?_
 simp [C.spec_dSteps]
 refine hK _ ?_;clear hK K
 show AWp _ _ _ _ _
 refine wseq ?_
 refine wreg fun K hK=>?_
 simp [C.spec_dSteps]
 refine hK _ ?_;clear hK K
 show AWp _ _ _ _ _
 refine wseq ?_
 refine wregI ([0,1,2,3] ++ ([4])) rfl fun K hK=>?_
 refine oSg fun L hL=>?_
 simp [C.spec_dSteps,wrapOk (x:=(6:Int)) (by omega) (by omega)]
 refine wcall (spec_l1Below_c xs i h 6 hi hx (by omega)) (by simp) (by simp) (by simp) ?_
 rintro outs res ⟨i1,h1,c1,p1,q1,rfl,rfl⟩
 simp [C.spec_dSteps,wrapOk (x:=(6:Int)) (by omega) (by omega)]
 refine hL _ ?_;clear hL L
 refine oEn fun L hL=>?_
 simp [C.spec_dSteps,wrapOk (x:=(6:Int)) (by omega) (by omega)]
 refine hL _ ?_;clear hL L
 simp [C.spec_dSteps,wrapOk (x:=(6:Int)) (by omega) (by omega)]
 refine hK _ ?_;clear hK K
 show AWp _ _ _ _ _
 refine wseq ?_
 refine wseq ?_
 obtain ⟨cc,hcc⟩:∃ cc:Nat,c1=cc:=⟨c1.toNat,by omega⟩
 rw [hcc]
 refine wreg fun K hK=>?_
 simp [C.spec_dSteps]
 refine hK _ ?_;clear hK K
 show AWp _ _ _ _ _
 refine wblock ?_
 refine wloop (fun x:Nat×List Int×Nat×Int=>⟨ofL [(0,.pt (0,0) [] 0),(1,.int n),(7,.al (7,0) [] 0 x.1),(8,.int cc),(9,.int x.1),(1000,.pt (0,0) [] 0)],ofRO [((0,0),some (cur xs x.2.2.1 x.2.2.2)),((7,0),some (.ow 1 x.1 (ints x.2.1)))]⟩) (fun x=>x.1<=cc/\x.2.1.length=x.1/\(∀ y∈x.2.1,0<=y/\y < n)/\x.2.2.1<=xs.length) (fun x=>cc - x.1) (0,[],i1,h1) (by simp [C.spec_dSteps,ints]) ⟨by simp,rfl,by simp,p1⟩ ?_
 intro x1 hx1 R1 hR1
 obtain ⟨j,e,i2,h2⟩:=x1
 obtain ⟨g1,g2,g3,g4⟩:=hx1
 dsimp only at g1 g2 g3 g4 ⊢
 refine wseq ?_
 refine wseq ?_
 refine wreg fun K hK=>?_
 simp [C.spec_dSteps]
 refine hK _ ?_;clear hK K
 show AWp _ _ _ _ _
 refine wcond _ rfl (fun hc1=>?_) (fun hc1=>?_)
 ·have hj:j < cc:=by have:=d_t hc1;omega
  refine wskip ?_
  show AWp _ _ _ _ _
  refine wseq ?_
  refine wblock ?_
  refine wregI ([0,1,2,3] ++ ([4,5,6])) rfl fun K hK=>?_
  refine oSg fun L hL=>?_
  simp [C.spec_dSteps,ints_snocA,show (j+1)*8<=140737488355328 by omega]
  refine wcall (spec_l1Below_c xs i2 h2 n g4 hx (by omega)) (by simp) (by simp) (by simp) ?_
  rintro outs res ⟨i3,h3,c,p2,q2,rfl,rfl⟩
  simp [C.spec_dSteps,ints_snocA,show (j+1)*8<=140737488355328 by omega]
  refine hL _ ?_;clear hL L
  refine oEn fun L hL=>?_
  simp [C.spec_dSteps,ints_snocA,show (j+1)*8<=140737488355328 by omega]
  refine hL _ ?_;clear hL L
  simp [C.spec_dSteps,ints_snocA,show (j+1)*8<=140737488355328 by omega]
  refine hK _ ?_;clear hK K
  show AWp _ _ _ _ _
  refine wreg fun K hK=>?_
  simp [C.spec_dSteps,wrap_succ (show j < 4611686018427387904 by omega)]
  refine hK _ ?_;clear hK K
  simp [C.spec_dSteps]
  refine hR1 (j+1,e ++ [c],i3,h3) ⟨hj,?_,?_,p2⟩ (by dsimp only;omega)
  ·dsimp only
   simp [g2]
  ·dsimp only
   intro y hy
   rcases List.mem_append.1 hy with hy | hy
   ·exact g3 y hy
   ·rw [List.mem_singleton] at hy
    subst hy
    exact q2
 ·have hj:j=cc:=by have:=d_f hc1;omega
  refine wexit ?_
  show AWp _ _ _ _ _
  refine wseq ?_
  refine wreg fun K hK=>?_
  simp [C.spec_dSteps]
  refine hK _ ?_;clear hK K
  show AWp _ _ _ _ _
  refine wret ?_
  simp [C.spec_dSteps]
  exact ⟨i2,h2,e,g4,⟨by omega,g3⟩,by simp,by simp [g2,owI]⟩
theorem spec_dQuantum_c (xs:List Int) (i:Nat) (h:Int) (hi:i<=xs.length) (hx:xs.length<=1048576):ACalls Try.prog F.spec_dQuantum [.pt (0,0) [] 0] [((0,0),cur xs i h)] false (DrawQ xs):=by
 refine ACalls.of_body (C:=C.spec_dQuantum) (n:=Try.f54.ntmps) tabT folT Try.func54 rfl (by kernel_rfl) rfl (Nat.le_of_ble_eq_true rfl) (by decide) (by kernel_rfl) (by kernel_rfl) rfl (by simp) (by simp) ?_
 simp only [Try.f54]
 refine wseq ?_
 refine wreg fun K hK=>?_
 simp [C.spec_dQuantum]
 refine hK _ ?_;clear hK K
 show AWp _ _ _ _ _
 refine wseq ?_
 refine wregI ([0,1] ++ ([2,3,4,5,6,7])) rfl fun K hK=>?_
 refine oSg fun L hL=>?_
 simp [C.spec_dQuantum,mO]
 refine wcall (spec_dFinite_c xs i h hi hx) (by simp) (by simp) (by simp) ?_
 rintro outs res ⟨i1,h1,m,st,p1,p2,rfl,rfl⟩
 simp [C.spec_dQuantum,mO]
 refine hL _ ?_;clear hL L
 refine oEn fun L hL=>?_
 simp [C.spec_dQuantum,mO]
 refine hL _ ?_;clear hL L
 simp [C.spec_dQuantum,mO]
 refine hK _ ?_;clear hK K
 show AWp _ _ _ _ _
 refine wseq ?_
 obtain ⟨n,m1,m2,m3,m4⟩:=id p2
 refine wdraw (.take 1 (.take 2 (.take 3 (.all [(0,.all [(4,.all [(5,.take 6 (.done))])]),(4,.take 0 (.all [(5,.take 6 (.done))]))])))) ⟨by kernel_rfl,by kernel_rfl⟩ fun K hK=>?_
 simp [C.spec_dQuantum,m1,m2,mO]
 repeat' first
  | (refine wcall (spec_dSteps_c xs i1 h1 n p1 hx (by omega)) (by simp) (by simp) (by simp) ?_;rintro outs res ⟨i2,h2,e,q1,⟨q2,q3⟩,rfl,rfl⟩;simp [C.spec_dQuantum])
  | (refine hK _ ?_;show AWp _ _ _ _ _;refine wret ?_;simp [C.spec_dQuantum];exact ⟨i2,h2,m,e,q1,⟨p2,q2,fun x hx=>by have:=q3 x hx;omega⟩,by simp,by simp [mO,owI,m1,m2]⟩)
  | refine And.intro ?_ ?_
theorem spec_DrawQuantumWalk_c (xs:List Int) (hx:xs.length<=1048576):ACalls Try.prog F.spec_DrawQuantumWalk [.d (.sh 1 xs.length (byts xs))] [] false DrawQW:=by
 refine ACalls.of_body (C:=C.spec_DrawQuantumWalk) (n:=Try.f10.ntmps) tabT folT Try.func10 rfl (by kernel_rfl) rfl (Nat.le_of_ble_eq_true rfl) (by decide) (by kernel_rfl) (by kernel_rfl) rfl (by simp) (by simp) ?_
 simp only [Try.f10]
 refine wseq ?_
 refine wreg fun K hK=>?_
 simp [C.spec_DrawQuantumWalk]
 refine hK _ ?_;clear hK K
 show AWp _ _ _ _ _
 refine wseq ?_
 refine wregI ([0,1] ++ ([2])) rfl fun K hK=>?_
 refine oSg fun L hL=>?_
 simp [C.spec_DrawQuantumWalk]
 refine wcall (spec_l1New_c xs hx) (by simp) (by simp) (by simp) ?_
 rintro outs res ⟨rfl,h0,rfl⟩
 simp [C.spec_DrawQuantumWalk]
 refine hL _ ?_;clear hL L
 refine oEn fun L hL=>?_
 simp [C.spec_DrawQuantumWalk]
 refine hL _ ?_;clear hL L
 simp [C.spec_DrawQuantumWalk]
 refine hK _ ?_;clear hK K
 show AWp _ _ _ _ _
 refine wseq ?_
 refine wregI ([0,1] ++ ([2,3,4,5,6,7])) rfl fun K hK=>?_
 refine oSg fun L hL=>?_
 simp [C.spec_DrawQuantumWalk,mO]
 refine wcall (spec_dQuantum_c xs 0 h0 (by omega) hx) (by simp) (by simp) (by simp) ?_
 rintro outs res ⟨i1,h1,m,ks,p1,p2,rfl,rfl⟩
 simp [C.spec_DrawQuantumWalk,mO]
 refine hL _ ?_;clear hL L
 refine oEn fun L hL=>?_
 simp [C.spec_DrawQuantumWalk,mO]
 refine hL _ ?_;clear hL L
 simp [C.spec_DrawQuantumWalk,mO]
 refine hK _ ?_;clear hK K
 show AWp _ _ _ _ _
 refine wseq ?_
 refine wreg fun K hK=>?_
 simp [C.spec_DrawQuantumWalk,mO]
 refine hK _ ?_;clear hK K
 show AWp _ _ _ _ _
 refine wret ?_
 simp [C.spec_DrawQuantumWalk]
 exact ⟨m,ks,p2,by simp [mO,owI]⟩
end Go.Proofs.Ytfcgcgmleogamaa.Ab
namespace Go.Proofs.Ytfcgcgmleogamaa.Ab
open Go
set_option maxRecDepth 10000
set_option maxHeartbeats 2000000
theorem laws_at0_c (xs:List Int) (i:Nat) (hx:xs.length<=1048576) (hb:∀ x∈xs,0<=x/\x<=255) (hi:i<=100):ACalls Try.prog F.laws_at0 [.d (.sh 1 xs.length (byts xs)),.int i] [] true (fun outs res=>outs=[]/\∃ r:Int,res=[.one (D.int r)]/\0<=r/\r < 256):=by
 refine ACalls.of_body (C:=C.laws_at0) (n:=Try.f18.ntmps) tabT folT Try.func18 rfl (by kernel_rfl) rfl (Nat.le_of_ble_eq_true rfl) (by decide) (by kernel_rfl) (by kernel_rfl) rfl (by simp) (by simp) ?_
 simp only [Try.f18]
 refine wseq ?_
 refine wreg fun K hK=>?_
 simp [C.laws_at0]
 refine hK _ ?_;clear hK K
 show AWp _ _ _ _ _
 refine wseq ?_
 refine wseq ?_
 refine wreg fun K hK=>?_
 simp [C.laws_at0]
 refine hK _ ?_;clear hK K
 show AWp _ _ _ _ _
 refine wcond _ rfl (fun hc1=>?_) (fun hc1=>?_)
 ·have h1:i < xs.length:=by have:=d_t hc1;omega
  have hv:=hb _ (List.getElem_mem h1)
  refine wseq ?_
  refine wreg fun K hK=>?_
  simp [C.laws_at0,h1,byts_0 h1,show (i:Int) < xs.length by omega,wrapOk (x:=xs[i]) (by omega) (by omega)]
  refine hK _ ?_;clear hK K
  show AWp _ _ _ _ _
  refine wret ?_
  simp [C.laws_at0]
  exact ⟨by omega,by omega⟩
 ·refine wskip ?_
  show AWp _ _ _ _ _
  refine wseq ?_
  refine wreg fun K hK=>?_
  simp [C.laws_at0,wrapOk (x:=(i:Int)*7) (by omega) (by omega),wrapOk (x:=(i:Int)*7+xs.length) (by omega) (by omega)]
  refine hK _ ?_;clear hK K
  show AWp _ _ _ _ _
  refine wret ?_
  simp [C.laws_at0]
  exact ⟨Int.tmod_nonneg _ (by omega),Int.tmod_lt_of_pos _ (by omega)⟩
end Go.Proofs.Ytfcgcgmleogamaa.Ab
namespace Go.Proofs.Ytfcgcgmleogamaa.Ab
open Go
set_option maxRecDepth 10000
set_option maxHeartbeats 4000000
theorem sym_ok (m:Mat) (hx:m.d.length < 17592186044416) (hok:MatOK m):ACalls Try.prog F.impl_SymmetrizerOf [aM m] [] true (fun outs res=>outs=[]/\∃ l,MinSol m.n.toNat (bM m) l/\res=[.one (owI l)]):=by
 by_cases h:∃ l,MinSol m.n.toNat (bM m) l
 ·obtain ⟨l,hl⟩:=h
  exact (impl_SymmetrizerOf_c m hx hok.1 l hl).mono fun outs res ⟨h1,h2⟩=>⟨h1,l,hl,h2⟩
 ·exact (impl_SymmetrizerOfN_c m hx h).mono fun outs res ⟨_,h2,_⟩=>absurd hok h2
theorem iMa_c (m:Mat) (ks:List Int) (hx:m.d.length < 17592186044416) (hks:ks.length < 4611686018427387904):ACalls Try.prog F.impl_MutateAlong [aM m,.d (shI ks)] [] true (fun outs res=>outs=[]/\res=[.ag (mO (maF m ks).1),.one (D.bool (maF m ks).2)]):=(impl_MutateAlong_c m ks hx hks).weak1
theorem sFa_c (m:Mat) (ks:List Int) (hx:m.d.length < 17592186044416) (hks:ks.length < 4611686018427387904):ACalls Try.prog F.spec_FormAlong [aM m,.d (shI ks)] [] true (fun outs res=>outs=[]/\res=[.one (.ow 1 (faF m ks).1.length (rows lO (faF m ks).1)),.one (D.bool (faF m ks).2)]):=(spec_FormAlong_c m ks hx hks).weak1
theorem faF_yes {m:Mat} {ks:List Int} {f:List (List Int)} (hm:MinSol m.n.toNat (bM m) (dsM m)) (h:faF m ks=(f,true)):∃ q,maF (prinM m) ks=(q,true)/\FmJ m q f:=by
 unfold faF at h
 cases hw:wkF m ks with
 | none=>
  rw [hw] at h
  simp at h
 | some ws=>
  rw [hw] at h
  dsimp only at h
  cases hf:fcL m ws ks ks.length with
  | none=>
   rw [hf] at h
   simp at h
  | some g=>
   rw [hf] at h
   injection h with h _
   subst h
   exact ⟨_,maF_wk hw,fcL_ok hw hm (Nat.le_refl _) hf⟩
theorem sm_step (f:Nat->Int) (n:Nat):sm f (n+1)=sm f n+f n:=rfl
theorem laws_FnForms_c (xs:List Int) (hb:∀ x∈xs,0<=x/\x<=255):ACalls Try.prog F.laws_FnForms [.d (.sh 1 xs.length (byts xs))] [] true (fun outs res=>outs=[]/\res=[.one (D.bool true)]):=by
 refine ACalls.of_body (C:=C.laws_FnForms) (n:=Try.f3.ntmps) tabT folT Try.func3 rfl (by kernel_rfl) rfl (Nat.le_of_ble_eq_true rfl) (by decide) (by kernel_rfl) (by kernel_rfl) rfl (by simp) (by simp) ?_
 simp only [Try.f3]
 refine wseq ?_
 refine wreg fun K hK=>?_
 simp [C.laws_FnForms]
 refine hK _ ?_;clear hK K
 show AWp _ _ _ _ _
 refine wseq ?_
 refine wseq ?_
 refine wregI ([0,1] ++ ([])) rfl fun K hK=>?_
 refine oSg fun L hL=>?_
 simp [C.laws_FnForms]
 refine wcall1 (laws_big_c xs) (by simp) (by simp) ?_
 simp [C.laws_FnForms]
 refine hL _ ?_;clear hL L
 refine oEn fun L hL=>?_
 simp only [AOpsI]
 refine hL _ ?_;clear hL L
 simp [C.laws_FnForms]
 refine hK _ ?_;clear hK K
 show AWp _ _ _ _ _
 refine wcond _ rfl (fun hc1=>?_) (fun hc1=>?_)
 ·refine wseq ?_
  refine wreg fun K hK=>?_
  simp [C.laws_FnForms]
  refine hK _ ?_;clear hK K
  show AWp _ _ _ _ _
  refine wret ?_
  simp [C.laws_FnForms]
 ·have hx:xs.length<=1048576:=by have:=d_f hc1;omega
  refine wskip ?_
  show AWp _ _ _ _ _
  refine wseq ?_
  refine wregI ([0,1] ++ ([2,3,4,5,6,7])) rfl fun K hK=>?_
  refine oSg fun L hL=>?_
  simp [C.laws_FnForms,mO]
  refine wcall (spec_DrawQuantumWalk_c xs hx) (by simp) (by simp) (by simp) ?_
  rintro outs res ⟨m,ks,⟨hsq,hk5,hkb⟩,rfl,rfl⟩
  simp [C.laws_FnForms,mO]
  refine hL _ ?_;clear hL L
  refine oEn fun L hL=>?_
  simp [C.laws_FnForms,mO]
  refine hL _ ?_;clear hL L
  simp [C.laws_FnForms,mO]
  refine hK _ ?_;clear hK K
  show AWp _ _ _ _ _
  refine wseq ?_
  obtain ⟨n,hn,hr,hn3,hok⟩:=hsq
  have hS:=hok.1
  have hd40:m.d.length<=40:=by
   have hd:=sh_dim hS
   rw [hd.2.2.2.2.1]
   exact Nat.le_trans (Nat.mul_le_mul hd.2.2.2.1 hd.2.1) (by omega)
  have hq:SqOK m:=⟨hok,by omega,by omega⟩
  have hfa:=impl_FormAlong_c m ks (by omega) (by omega) hS
  have hsf:=sFa_c m ks (by omega) (by omega)
  have hpr:=iPr_c m (by omega)
  have hprm:prF m=(prinM m,true):=if_pos hq
  rw [hprm] at hpr
  have hpw:WkM m (prinM m):=⟨prin_ok hq,rfl,rfl⟩
  have hpl:=wkM_len hpw
  have hma:=iMa_c (prinM m) ks (by omega) (by omega)
  have hsy:=sym_ok m (by omega) hok
  have hyes0:=@faF_yes m ks
  obtain ⟨A,hA⟩:∃ A,A=faF m ks:=⟨_,rfl⟩
  rw [<-hA] at hfa hsf
  simp only [<-hA] at hyes0
  have haM:aM m = .ag [.int n,.int n,.d (shI m.d)]:=by simp only [aM,hn,hr]
  rw [haM] at hfa hsf hpr hsy
  refine wregI ([0,1,2] ++ ([3,4,5,6,7])) rfl fun K hK=>?_
  have hJ:K ⟨ofL [(0,.d (.sh 1 xs.length (byts xs))),(3,.pt (3,0) [] 0),(4,.d (shI ks)),(5,.d (shN A.1)),(6,.bool A.2)],ofRO [((3,0),some (.bx [D.int n,D.int n,shI m.d]))]⟩:=by
   refine hK _ ?_;clear hK K
   show AWp _ _ _ _ _
   refine wseq ?_
   refine wregI ([0,1] ++ ([2,3,4,5,6,7])) rfl fun K hK=>?_
   refine oSg fun L hL=>?_
   simp [C.laws_FnForms,mO]
   refine wcall1 (hpr) (by simp) (by simp) ?_
   simp [C.laws_FnForms,mO]
   refine hL _ ?_;clear hL L
   refine oEn fun L hL=>?_
   simp [C.laws_FnForms,mO]
   refine hL _ ?_;clear hL L
   simp [C.laws_FnForms,mO]
   refine hK _ ?_;clear hK K
   show AWp _ _ _ _ _
   refine wseq ?_
   refine wregI ([0,1,2] ++ ([3,4,5,6,7,8])) rfl fun K hK=>?_
   refine oSg fun L hL=>?_
   simp [C.laws_FnForms,mO]
   refine wcall1 (hma) (by simp) (by simp) ?_
   simp [C.laws_FnForms,mO]
   refine hL _ ?_;clear hL L
   refine oEn fun L hL=>?_
   simp [C.laws_FnForms,mO]
   refine hL _ ?_;clear hL L
   simp [C.laws_FnForms,mO]
   refine hK _ ?_;clear hK K
   show AWp _ _ _ _ _
   refine wseq ?_
   refine wregI ([0,1] ++ ([2])) rfl fun K hK=>?_
   refine oSg fun L hL=>?_
   simp [C.laws_FnForms]
   refine wcall (hsy) (by simp) (by simp) (by simp) ?_
   rintro outs res ⟨rfl,l,hl,rfl⟩
   simp [C.laws_FnForms]
   refine hL _ ?_;clear hL L
   refine oEn fun L hL=>?_
   simp [C.laws_FnForms]
   refine hL _ ?_;clear hL L
   simp [C.laws_FnForms]
   refine hK _ ?_;clear hK K
   show AWp _ _ _ _ _
   refine wseq ?_
   refine wseq ?_
   have hm:MinSol m.n.toNat (bM m) (dsM m):=by rw [dsM_eq hl];exact hl
   have hdl:dsM m=l:=dsM_eq hl
   have hll:l.length=n:=by rw [<-show m.n.toNat=n by omega];exact hl.1
   have hyes:A.2=true->∃ q,maF (prinM m) ks=(q,true)/\FmJ m q A.1:=fun h=>hyes0 (f:=A.1) hm (Prod.ext rfl h)
   obtain ⟨N,hN⟩:∃ N:Nat,N=2*n:=⟨_,rfl⟩
   have hwn:IntKind.i64.wrap (2*(n:Int))=(N:Int):=by rw [wrapOk (by omega) (by omega)];omega
   refine wregI ([0,1,2,3,4,5,6,7,8,9,10,11,12] ++ ([13,14,15,16,17,18,19,20,21,22,23,24,25,26,27,28,29])) rfl fun K hK=>?_
   have hJ:K ⟨ofL [(0,.d (.sh 1 xs.length (byts xs))),(3,.pt (3,0) [] 0),(4,.d (shI ks)),(5,.d (shN A.1)),(6,.bool A.2),(8,.bool true),(9,.pt (9,0) [] 0),(11,.al (11,0) [] 0 l.length),(82,.bool (!A.2))],ofRO [((3,0),some (.bx [D.int n,D.int n,shI m.d])),((9,0),some (.bx (mO (maF (prinM m) ks).1))),((11,0),some (owI l))]⟩:=by
    refine hK _ ?_;clear hK K
    show AWp _ _ _ _ _
    refine wcond _ rfl (fun hc2=>?_) (fun hc2=>?_)
    ·have hb2:A.2=false:=by simpa using hc2
     refine wseq ?_
     refine wregI ([0,1,2] ++ ([3,4,5,6,7])) rfl fun K hK=>?_
     refine oSg fun L hL=>?_
     simp [C.laws_FnForms]
     refine wcall1 (hsf) (by simp) (by simp) ?_
     simp [C.laws_FnForms]
     refine hL _ ?_;clear hL L
     refine oEn fun L hL=>?_
     simp [C.laws_FnForms]
     refine hL _ ?_;clear hL L
     simp [C.laws_FnForms]
     refine hK _ ?_;clear hK K
     show AWp _ _ _ _ _
     refine wseq ?_
     refine wreg fun K hK=>?_
     simp [C.laws_FnForms,hb2]
     refine hK _ ?_;clear hK K
     show AWp _ _ _ _ _
     refine wret ?_
     simp [C.laws_FnForms,hb2]
    ·have hb2:A.2=true:=by simpa using hc2
     obtain ⟨q,hq1,hJ1⟩:=hyes hb2
     have hfl:A.1.length=N:=by rw [hJ1.len];omega
     have hne:¬ A.1=[]:=fun e=>by rw [e] at hfl;simp at hfl;omega
     have hfo:=hJ1.ok
     obtain ⟨f,hf⟩:∃ f,f=A.1:=⟨_,rfl⟩
     rw [<-hf] at hJ1 hfl hne hfo
     have hshn:shN A.1 = .sh 1 N (rows lS f):=by rw [<-hf];unfold shN;rw [if_neg hne,hfl]
     rw [hshn,hq1]
     dsimp only
     have hqn:q.n=n:=by rw [hJ1.pn,hn]
     have hqr:q.r=N:=by rw [hJ1.pr,hn,hN];omega
     have hqS:=hJ1.pok.1
     have hcmp:=hJ1.cmp
     rw [hfl,show m.n.toNat=n by omega,hdl] at hcmp
     have hN8:N<=6:=by omega
     have hrl:∀ i (h:i < f.length),f[i].length=N:=fun i h=>by
      have:=hfo.2.1 i h
      rw [row_eq h,hfl] at this
      exact this
     have hent:∀ r i,r < N->i < N->(at2 f r i).natAbs<=99:=fun r i hr hi=>by
      have:=(hfo.2.2 r (by omega) i (by omega)).1
      omega
     have hsmb:∀ i j k,i < N->k<=N->(sm (fun r=>bM q r j*at2 f r i) k).natAbs<=8*9801:=fun i j k hi hk=>by
      have h1:=sm_bd (f:=fun r=>bM q r j*at2 f r i) (M:=9801) k fun r hr=>by
       rw [Int.natAbs_mul]
       exact Nat.le_trans (Nat.mul_le_mul (bM_bd hqS r j) (hent r i (by omega) hi)) (by decide)
      exact Nat.le_trans h1 (Nat.mul_le_mul_right _ (by omega))
     refine wskip ?_
     show AWp _ _ _ _ _
     refine wseq ?_
     refine wseq ?_
     refine wreg fun K hK=>?_
     simp [C.laws_FnForms]
     refine hK _ ?_;clear hK K
     show AWp _ _ _ _ _
     refine wblock ?_
     refine wloop (fun j:Nat=>⟨ofL [(0,.d (.sh 1 xs.length (byts xs))),(3,.pt (3,0) [] 0),(5,.d (.sh 1 N (rows lS f))),(9,.pt (9,0) [] 0),(11,.al (11,0) [] 0 l.length),(14,.int j)],ofRO [((3,0),some (.bx [D.int n,D.int n,shI m.d])),((9,0),some (.bx [D.int n,D.int N,owI q.d])),((11,0),some (owI l))]⟩) (fun j=>j<=n) (fun j=>n - j) 0 (by simp [C.laws_FnForms,mO,hqn,hqr]) (by simp) ?_
     intro x1 hx1 R1 hR1
     refine wseq ?_
     refine wseq ?_
     refine wreg fun K hK=>?_
     simp [C.laws_FnForms]
     refine hK _ ?_;clear hK K
     show AWp _ _ _ _ _
     refine wcond _ rfl (fun hc3=>?_) (fun hc3=>?_)
     ·have hj:x1 < n:=by have:=d_t hc3;omega
      have hjl:x1 < l.length:=by omega
      have hlv:l[x1]=g0 l x1:=by simp [g0,List.getD_eq_getElem?_getD,hjl]
      refine wskip ?_
      show AWp _ _ _ _ _
      refine wseq ?_
      refine wblock ?_
      refine wseq ?_
      refine wreg fun K hK=>?_
      simp [C.laws_FnForms]
      refine hK _ ?_;clear hK K
      show AWp _ _ _ _ _
      refine wblock ?_
      refine wloop (fun i:Nat=>⟨ofL [(0,.d (.sh 1 xs.length (byts xs))),(3,.pt (3,0) [] 0),(5,.d (.sh 1 N (rows lS f))),(9,.pt (9,0) [] 0),(11,.al (11,0) [] 0 l.length),(14,.int x1),(15,.int i)],ofRO [((3,0),some (.bx [D.int n,D.int n,shI m.d])),((9,0),some (.bx [D.int n,D.int N,owI q.d])),((11,0),some (owI l))]⟩) (fun i=>i<=N) (fun i=>N - i) 0 (by simp [C.laws_FnForms]) (by simp) ?_
      intro x2 hx2 R2 hR2
      refine wseq ?_
      refine wseq ?_
      refine wreg fun K hK=>?_
      simp [C.laws_FnForms,hwn]
      refine hK _ ?_;clear hK K
      show AWp _ _ _ _ _
      refine wcond _ rfl (fun hc4=>?_) (fun hc4=>?_)
      ·have hi:x2 < N:=by have:=d_t hc4;omega
       refine wskip ?_
       show AWp _ _ _ _ _
       refine wseq ?_
       refine wblock ?_
       refine wseq ?_
       refine wreg fun K hK=>?_
       simp [C.laws_FnForms]
       refine hK _ ?_;clear hK K
       show AWp _ _ _ _ _
       refine wseq ?_
       refine wseq ?_
       refine wreg fun K hK=>?_
       simp [C.laws_FnForms]
       refine hK _ ?_;clear hK K
       show AWp _ _ _ _ _
       refine wblock ?_
       refine wloop (fun k:Nat=>⟨ofL [(0,.d (.sh 1 xs.length (byts xs))),(3,.pt (3,0) [] 0),(5,.d (.sh 1 N (rows lS f))),(9,.pt (9,0) [] 0),(11,.al (11,0) [] 0 l.length),(14,.int x1),(15,.int x2),(16,.int (sm (fun r=>bM q r x1*at2 f r x2) k)),(17,.int k)],ofRO [((3,0),some (.bx [D.int n,D.int n,shI m.d])),((9,0),some (.bx [D.int n,D.int N,owI q.d])),((11,0),some (owI l))]⟩) (fun k=>k<=N) (fun k=>N - k) 0 (by simp [C.laws_FnForms,sm]) (by simp) ?_
       intro x3 hx3 R3 hR3
       refine wseq ?_
       refine wseq ?_
       refine wreg fun K hK=>?_
       simp [C.laws_FnForms,hwn]
       refine hK _ ?_;clear hK K
       show AWp _ _ _ _ _
       refine wcond _ rfl (fun hc5=>?_) (fun hc5=>?_)
       ·have hk:x3 < N:=by have:=d_t hc5;omega
        have hkf:x3 < f.length:=by omega
        have hif2:x2 < f[x3].length:=by rw [hrl x3 hkf];exact hi
        have hen:=laws_entry_c q n N x3 x1 hqn hqr hqS hk hj
        have hb1:=bM_bd hqS x3 x1
        have hb3:=hent x3 x2 hk hi
        have hs1:=hsmb x2 x1 x3 hi (by omega)
        have hs2:=hsmb x2 x1 (x3+1) hi hk
        rw [sm_step] at hs2
        have hst:=sm_step (fun r=>bM q r x1*at2 f r x2) x3
        have hpb:(bM q x3 x1*at2 f x3 x2).natAbs<=99*99:=by rw [Int.natAbs_mul];exact Nat.mul_le_mul hb1 hb3
        have hav:at2 f x3 x2=f[x3][x2]:=at2_eq hkf hif2
        obtain ⟨S,hSe⟩:∃ S,S=sm (fun r=>bM q r x1*at2 f r x2) x3:=⟨_,rfl⟩
        obtain ⟨bb,hbb⟩:∃ bb,bb=bM q x3 x1:=⟨_,rfl⟩
        rw [hav] at hst hs2 hpb
        rw [<-hSe] at hst hs1 hs2
        rw [<-hbb] at hst hpb hen hs2
        rw [<-hSe]
        have hw1:IntKind.i64.wrap (bb*f[x3][x2])=bb*f[x3][x2]:=wrapOk (by omega) (by omega)
        have hw2:IntKind.i64.wrap (S+bb*f[x3][x2])=S+bb*f[x3][x2]:=wrapOk (by omega) (by omega)
        refine wskip ?_
        show AWp _ _ _ _ _
        refine wseq ?_
        refine wblock ?_
        refine wdrawI [(true,0),(true,1),(true,2),(true,3),(true,5),(true,6),(true,7),(true,8),(true,9),(true,10),(true,11),(false,4),(true,12),(true,13),(true,14)] ⟨by kernel_rfl,by kernel_rfl⟩ ([0,1,2,3,5,6,7,8,9,10,11,4] ++ ([12,13,14])) rfl fun K hK=>?_
        have hJ:K ⟨ofL [(0,.d (.sh 1 xs.length (byts xs))),(3,.pt (3,0) [] 0),(5,.d (.sh 1 N (rows lS f))),(9,.pt (9,0) [] 0),(11,.al (11,0) [] 0 l.length),(14,.int x1),(15,.int x2),(16,.int (S+bb*f[x3][x2])),(17,.int x3)],ofRO [((3,0),some (.bx [D.int n,D.int n,shI m.d])),((9,0),some (.bx [D.int n,D.int N,owI q.d])),((11,0),some (owI l))]⟩:=by
         refine hK _ ?_;clear hK K
         show AWp _ _ _ _ _
         refine wreg fun K hK=>?_
         simp [C.laws_FnForms,wrap_succ (show x3 < 4611686018427387904 by omega)]
         refine hK _ ?_;clear hK K
         simp [C.laws_FnForms]
         refine cast (congrArg R3 ?_) (hR3 (x3+1) hk (by omega))
         simp [hst]
        clear hK
        simp [C.laws_FnForms,get_ints,hk,hkf,hfl,hi,hif2,lS_0 hkf,hrl x3 hkf,hw1,hw2,show (x3:Int) < N by omega,show (x2:Int) < N by omega]
        repeat' first
         | (refine wcall1 (hen) ?_ (by simp) ?_;(focus (simp;done));simp [C.laws_FnForms,get_ints,hk,hkf,hfl,hi,hif2,lS_0 hkf,hrl x3 hkf,hw1,hw2,show (x3:Int) < N by omega,show (x2:Int) < N by omega])
         | (refine cast (congrArg K ?_) hJ;simp;done)
         | refine And.intro ?_ ?_
       ·have hk:x3=N:=by have:=d_f hc5;omega
        have hcv:=hcmp x1 hj x2 hi
        rw [hk,hcv]
        refine wexit ?_
        show AWp _ _ _ _ _
        refine wseq ?_
        refine wregI ([0,1,2,3,4,5,6,7,8,9,10,11,12,13,14,15,16,17,18,19]) rfl fun K hK=>?_
        have hJ:K ⟨ofL [(0,.d (.sh 1 xs.length (byts xs))),(3,.pt (3,0) [] 0),(5,.d (.sh 1 N (rows lS f))),(9,.pt (9,0) [] 0),(11,.al (11,0) [] 0 l.length),(14,.int x1),(15,.int x2),(151,.bool false)],ofRO [((3,0),some (.bx [D.int n,D.int n,shI m.d])),((9,0),some (.bx [D.int n,D.int N,owI q.d])),((11,0),some (owI l))]⟩:=by
         refine hK _ ?_;clear hK K
         show AWp _ _ _ _ _
         refine wcond _ rfl (fun hc6=>?_) (fun hc6=>?_)
         ·simp at hc6
         ·refine wskip ?_
          show AWp _ _ _ _ _
          refine wreg fun K hK=>?_
          simp [C.laws_FnForms,wrap_succ (show x2 < 4611686018427387904 by omega)]
          refine hK _ ?_;clear hK K
          simp [C.laws_FnForms]
          exact hR2 (x2+1) hi (by omega)
        clear hK
        by_cases e:x2=x1
        ·have e2:((x2:Int) == (x1:Int))=true:=by simp [e]
         simp [C.laws_FnForms,e,hjl,get_ints,hlv,hll,hj,show (x1:Int) < n by omega]
         refine cast (congrArg K ?_) hJ
         simp [e,hll]
        ·have e2:((x2:Int) == (x1:Int))=false:=by simp;omega
         have e3:((x2:Int) != (x1:Int))=true:=by simp;omega
         simp [C.laws_FnForms,e,e2,e3]
         refine cast (congrArg K ?_) hJ
         simp [e]
      ·have hi:x2=N:=by have:=d_f hc4;omega
       refine wexit ?_
       show AWp _ _ _ _ _
       refine wreg fun K hK=>?_
       simp [C.laws_FnForms,wrap_succ (show x1 < 4611686018427387904 by omega)]
       refine hK _ ?_;clear hK K
       simp [C.laws_FnForms]
       exact hR1 (x1+1) hj (by omega)
     ·have hj:x1=n:=by have:=d_f hc3;omega
      refine wexit ?_
      show AWp _ _ _ _ _
      refine wseq ?_
      refine wdrawI [(true,0),(true,2),(true,3),(false,1),(true,4),(true,5)] ⟨by kernel_rfl,by kernel_rfl⟩ ([0,2,3,1] ++ ([4,5])) rfl fun K hK=>?_
      have hJ:∀ (k:Nat) (hk:k < n),K ⟨ofL [(5,.d (.sh 1 N (rows lS f))),(9,.pt (9,0) [] 0),(18,.int k)],ofRO [((9,0),some (.bx [D.int n,D.int N,owI q.d]))]⟩:=by
       intro k hk
       refine hK _ ?_;clear hK K
       show AWp _ _ _ _ _
       refine wseq ?_
       have hql:=wkM_len (m:=m) (p:=q) ⟨hJ1.pok,hJ1.pn,hJ1.pr⟩
       have hmf:=iMf_c f q k (by omega) hfo.i64 (by omega)
       have hmu:=iMu_c q k (by omega)
       have hsm:=sMf_c f q k (by omega) hfo.i64 (by omega)
       have hback:∀ g p,mfF f q k=(g,true)->muF q k=(p,true)->mfF g p k=(f,true):=fun g p e1 e2=>hJ1.back (by omega) e1 e2
       have hgok:∀ g,mfF f q k=(g,true)->FormOk g:=fun g e=>(mfF_ok e).2.2.2.2.1
       have hml:=muF_len q k
       rw [hfl] at hmf hsm
       have haq:aM q = .ag [.int n,.int N,.d (shI q.d)]:=by simp only [aM,hqn,hqr]
       rw [haq] at hmf hmu hsm
       obtain ⟨G,hG⟩:∃ G,G=mfF f q k:=⟨_,rfl⟩
       obtain ⟨M,hM⟩:∃ M,M=muF q k:=⟨_,rfl⟩
       rw [<-hG] at hmf hsm
       rw [<-hM] at hmu hml
       simp only [<-hG,<-hM] at hback hgok
       refine wregI ([0,1,2,3] ++ ([4,5,6,7,8])) rfl fun K hK=>?_
       refine oSg fun L hL=>?_
       simp [C.laws_FnForms]
       refine wcall1 (hmf) (by simp) (by simp) ?_
       simp [C.laws_FnForms]
       refine hL _ ?_;clear hL L
       refine oEn fun L hL=>?_
       simp [C.laws_FnForms]
       refine hL _ ?_;clear hL L
       simp [C.laws_FnForms]
       refine hK _ ?_;clear hK K
       show AWp _ _ _ _ _
       refine wseq ?_
       refine wregI ([0,1,2] ++ ([3,4,5,6,7,8])) rfl fun K hK=>?_
       refine oSg fun L hL=>?_
       simp [C.laws_FnForms,mO]
       refine wcall1 (hmu) (by simp) (by simp) ?_
       simp [C.laws_FnForms,mO]
       refine hL _ ?_;clear hL L
       refine oEn fun L hL=>?_
       simp [C.laws_FnForms,mO]
       refine hL _ ?_;clear hL L
       simp [C.laws_FnForms,mO]
       refine hK _ ?_;clear hK K
       show AWp _ _ _ _ _
       refine wseq ?_
       refine wseq ?_
       refine wreg fun K hK=>?_
       have hJ:K ⟨ofL [(5,.d (.sh 1 N (rows lS f))),(9,.pt (9,0) [] 0),(18,.int k),(19,.al (19,0) [] 0 G.1.length),(20,.bool G.2),(21,.pt (21,0) [] 0),(175,.bool (!(G.2 && M.2)))],ofRO [((9,0),some (.bx [D.int n,D.int N,owI q.d])),((19,0),some (.ow 1 G.1.length (rows lO G.1))),((21,0),some (.bx (mO M.1)))]⟩:=by
        refine hK _ ?_;clear hK K
        show AWp _ _ _ _ _
        refine wcond _ rfl (fun hc7=>?_) (fun hc7=>?_)
        ·skip
         refine wseq ?_
         refine wregI ([0,1,2,3] ++ ([4,5,6,7,8])) rfl fun K hK=>?_
         refine oSg fun L hL=>?_
         simp [C.laws_FnForms]
         refine wcall1 (hsm) (by simp) (by simp) ?_
         simp [C.laws_FnForms]
         refine hL _ ?_;clear hL L
         refine oEn fun L hL=>?_
         simp [C.laws_FnForms]
         refine hL _ ?_;clear hL L
         simp [C.laws_FnForms]
         refine hK _ ?_;clear hK K
         show AWp _ _ _ _ _
         refine wseq ?_
         refine wreg fun K hK=>?_
         simp [C.laws_FnForms]
         refine hK _ ?_;clear hK K
         show AWp _ _ _ _ _
         refine wret ?_
         simp [C.laws_FnForms]
        ·have hr:(G.2 && M.2)=true:=by have h9:=hc7;rw [Bool.not_eq_false'] at h9;exact h9
         rw [Bool.and_eq_true] at hr
         obtain ⟨g1,g2⟩:=hr
         have hbk:=hback G.1 M.1 (Prod.ext rfl g1) (Prod.ext rfl g2)
         have hgo:=hgok G.1 (Prod.ext rfl g1)
         have hmf2:=iMf_c G.1 M.1 k (by have:=hgo.1;omega) hgo.i64 (by omega)
         rw [hbk] at hmf2
         dsimp only at hmf2
         rw [hfl] at hmf2
         have hrw:=laws_rows_c f f (by omega) (fun t ht=>by
          obtain ⟨i,hi,rfl⟩:=List.getElem_of_mem ht
          rw [hrl i hi]
          omega)
         rw [hfl] at hrw
         refine wskip ?_
         show AWp _ _ _ _ _
         refine wseq ?_
         refine wregI ([0,1,2,3] ++ ([4,5,6,7,8])) rfl fun K hK=>?_
         refine oSg fun L hL=>?_
         simp [C.laws_FnForms,mO]
         refine wcall1 (hmf2) (by simp) (by simp) ?_
         simp [C.laws_FnForms,mO]
         refine hL _ ?_;clear hL L
         refine oEn fun L hL=>?_
         simp [C.laws_FnForms,mO]
         refine hL _ ?_;clear hL L
         simp [C.laws_FnForms,mO]
         refine hK _ ?_;clear hK K
         show AWp _ _ _ _ _
         refine wseq ?_
         refine wregI ([0,1,2,3,4] ++ ([5,6])) rfl fun K hK=>?_
         refine oSg fun L hL=>?_
         simp [C.laws_FnForms]
         refine wcall1 (hrw) (by simp) (by simp) ?_
         simp [C.laws_FnForms]
         refine hL _ ?_;clear hL L
         refine oEn fun L hL=>?_
         simp [C.laws_FnForms]
         refine hL _ ?_;clear hL L
         simp [C.laws_FnForms]
         refine hK _ ?_;clear hK K
         show AWp _ _ _ _ _
         refine wret ?_
         simp [C.laws_FnForms]
       clear hK
       by_cases h1:G.2=true
       ·simp [C.laws_FnForms,h1]
        refine cast (congrArg K ?_) hJ
        simp [mO,h1]
       ·simp [C.laws_FnForms,h1]
        refine cast (congrArg K ?_) hJ
        simp [mO,h1]
      clear hK
      have hmd:∀ r:Int,0<=r->∃ k:Nat,r.tmod n=k/\k < n:=fun r h0=>by
       refine ⟨(r % n).toNat,?_,?_⟩
       ·rw [Int.tmod_eq_emod_of_nonneg h0]
        have:=Int.emod_nonneg r (show (n:Int)≠0 by omega)
        omega
       ·have:=Int.emod_nonneg r (show (n:Int)≠0 by omega)
        have:=Int.emod_lt_of_pos r (show (0:Int) < n by omega)
        omega
      simp [C.laws_FnForms]
      repeat' first
       | (refine wcall (laws_at0_c xs 0 hx hb (by omega)) (by simp) (by simp) (by simp) ?_;rintro outs res ⟨rfl,r,rfl,r1,r2⟩;obtain ⟨k,hk1,hk2⟩:=hmd r r1;simp [C.laws_FnForms,hk1,show ¬ n=0 by omega,show ¬ (n:Int)=0 by omega,show (n:Int)≠-1 by omega])
       | (refine cast (congrArg K ?_) (hJ k hk2);simp;done)
       | refine And.intro ?_ ?_
   clear hK
   by_cases h1:A.2=true
   ·obtain ⟨q,hq1,hJ1⟩:=hyes h1
    have hfl:A.1.length=N:=by rw [hJ1.len];omega
    have hne:¬ A.1=[]:=fun e=>by rw [e] at hfl;simp at hfl;omega
    have hfo:=hJ1.ok
    have hif:=impl_IsForm_c A.1 (by omega) hfo.i64
    refine oSg fun L hL=>?_
    simp [C.laws_FnForms,hwn,hfl,hll,hne,shN,hq1,hfo,h1]
    refine wcall1 (hif) (by simp [hwn,hfl,hll,hne,shN,hq1,hfo]) (by simp) ?_
    simp [C.laws_FnForms,hwn,hfl,hll,hne,shN,hq1,hfo,h1]
    refine hL _ ?_;clear hL L
    refine oEn fun L hL=>?_
    simp [C.laws_FnForms,hwn,hfl,hll,hne,shN,hq1,hfo,h1]
    refine hL _ ?_;clear hL L
    simp [C.laws_FnForms,hwn,hfl,hll,hne,shN,hq1,hfo,h1]
    refine cast (congrArg K ?_) hJ
    simp [mO,hq1,shN,hne,hfl,hll,owI,h1]
   ·refine oSg fun L hL=>?_
    simp [C.laws_FnForms,h1]
    refine hL _ ?_;clear hL L
    refine oEn fun L hL=>?_
    simp [C.laws_FnForms,h1]
    refine hL _ ?_;clear hL L
    simp [C.laws_FnForms,h1]
    refine cast (congrArg K ?_) hJ
    simp [mO,h1]
  clear hK
  by_cases hA0:A.1=[]
  ·simp [C.laws_FnForms,hn,hr]
   refine wcall hfa (by simp) (by simp) (by simp) ?_
   rintro outs res ⟨rfl,rfl⟩
   simp [C.laws_FnForms,shN,hA0]
   refine cast (congrArg K ?_) hJ
   simp [shN,hA0,hn,hr]
  ·simp [C.laws_FnForms,hn,hr]
   refine wcall hfa (by simp) (by simp) (by simp) ?_
   rintro outs res ⟨rfl,rfl⟩
   simp [C.laws_FnForms,shN,hA0]
   refine cast (congrArg K ?_) hJ
   simp [shN,hA0,hn,hr]
end Go.Proofs.Ytfcgcgmleogamaa.Ab
namespace Go.Proofs.Ytfcgcgmleogamaa.Ab
open Go Go.ChangeShapes Go.WideShapes Go.ChangeAt Go.RowKit
set_option maxRecDepth 100000
section
variable {H:Type} {enc:TypeId×Value->H} {W:World}
theorem rows_byts (l:List Int):rows (fun n=>[D.v (.int .u8 n)]) l=byts l:=by
 induction l with
 | nil=>rfl
 | cons x l ih=>simp [rows,ih,byts]
def CodeB (l:List Int):Prop:=(∀ x∈l,0<=x/\x<=255)/\l.length*1<=140737488351232
theorem opCode:Opens enc Try.prog W 22 1 (List Int) (fun l=>[.sh 1 l.length (byts l)]) CodeB:=
 (Opens.slice (Opens.byte Try.underlying5 (by kernel_rfl)) (by omega) Try.underlying22 (by kernel_rfl) (by kernel_rfl)).to id (fun l=>by simp [rows_byts]) (fun _=>rfl) (fun _ h=>h)
theorem argCode:Arg enc Try.prog W 22 (List Int) (fun l=>.d (.sh 1 l.length (byts l))) CodeB:=Arg.one opCode (by kernel_rfl) (of_decide_eq_true (by kernel_rfl)) (by kernel_rfl)
end
end Go.Proofs.Ytfcgcgmleogamaa.Ab
namespace Go.Proofs.Ytfcgcgmleogamaa.Ab
open Go
theorem lawFm (xs:List Int) (h:CodeB xs):ACalls Try.prog F.laws_FnForms [.d (.sh 1 xs.length (byts xs))] [] true (fun outs res=>outs=[]/\res=[.one (D.bool true)]):=laws_FnForms_c xs h.1
end Go.Proofs.Ytfcgcgmleogamaa.Ab
