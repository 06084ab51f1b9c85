/- Mutation of seeds, by the reference. Mutation of a seed and along a list, by the reference. Seeds as arguments of laws: their sizes, copies. Seeds of laws: how great they are. Mutation of a seed along a list: the program's is the reference's, fresh at each call. Division finds the factor of a product again, over any keys. Laurent sums: what was multiplied is found again by division; what is divided is multiplied again. Sums as linear maps: what a function on keys makes of a sum. Values of Laurent sums modulo a prime: they go with sums and products. Drawing: the cursor, numbers, exponents, sums. Drawing sums: what is drawn is right and small. Three drawn sums; what the laws compare. What was multiplied is found again by division: the law. Drawn sums are a ring; values go with sums and products. A seed that is mutated twice at one place. Principal matrices along steps; what the polynomials are. The first seed of any matrix; what is the same; whether a session is one. Whether a session is one: the program's answer is the reference's. Matrices and seeds as arguments of laws, read as trees. Sessions as arguments of laws, read as trees. Whether a session is one: the law, with its argument. No condition. -/
import Derived.Test.YtbhkonnakkhibaaGreatKSee
import Derived.Test.YtbhkonnakkhibaaGreatKSec
import Derived.Test.YtbhkonnakkhibaaGreatKSed
set_option linter.unusedVariables false
set_option linter.unusedSimpArgs false
namespace Go.Proofs.YtbhkonnakkhibaaGreat.Ab
open Go
set_option maxRecDepth 10000
set_option maxHeartbeats 2000000
theorem spec_SeedOk_calls (s:Sed) (hx:s.m.d.length < 17592186044416) (hl:s.f.length < 4611686018427387904) (hf:∀ f∈s.f,SmF f):ACalls Tryz.prog F.spec_SeedOk [aS s] [] true (fun outs res=>outs=[]/\res=[.one (D.bool (decide (SeedOK s)))]):=by
 refine ACalls.of_body (C:=C.spec_SeedOk) (n:=Tryz.f77.ntmps) tabT folT Tryz.func77 rfl (by kernel_rfl) rfl (Nat.le_of_ble_eq_true rfl) (by decide) (by kernel_rfl) (by kernel_rfl) rfl (by simp) (by simp) ?_
 simp only [Tryz.f77]
 refine wseq ?_
 refine wreg fun K hK=>?_
 simp [C.spec_SeedOk,sS]
 refine hK _ ?_;clear hK K
 show AWp _ _ _ _ _
 refine wseq ?_
 refine wseq ?_
 refine wregI ([0,1,2] ++ ([3,4,5,6,7,8,9,10,11,12])) rfl fun K hK=>?_
 have hJ:K ⟨ofL [(1,.pt (1,0) [] 0),(16,.bool (!decide (MatOK s.m/\(s.f.length:Int)=s.m.r)))],ofRO [((1,0),some (.bx (sS s)))]⟩:=by
  refine hK _ ?_;clear hK K
  show AWp _ _ _ _ _
  refine wcond _ rfl (fun hc1=>?_) (fun hc1=>?_)
  ·have hr:=nd_t hc1
   have hno:¬ SeedOK s:=fun h=>hr ⟨h.1,h.2.1⟩
   refine wseq ?_
   refine wreg fun K hK=>?_
   simp [C.spec_SeedOk,sS]
   refine hK _ ?_;clear hK K
   show AWp _ _ _ _ _
   refine wret ?_
   simp [C.spec_SeedOk,sS,hno]
  ·have hr:=nd_f hc1
   refine wskip ?_
   show AWp _ _ _ _ _
   refine wseq ?_
   refine wseq ?_
   refine wreg fun K hK=>?_
   simp [C.spec_SeedOk,sS]
   refine hK _ ?_;clear hK K
   show AWp _ _ _ _ _
   refine wblock ?_
   refine wloop (fun x:Nat=>⟨ofL [(1,.pt (1,0) [] 0),(3,.int x)],ofRO [((1,0),some (.bx (sS s)))]⟩) (fun x=>x<=s.f.length/\∀ f∈s.f.take x,VarOk s.m.r f) (fun x=>s.f.length - x) 0 (by simp [C.spec_SeedOk,sS]) (by simp) ?_
   intro x1 hx1 R1 hR1
   obtain ⟨hi0,hall⟩:=hx1
   refine wseq ?_
   refine wseq ?_
   refine wreg fun K hK=>?_
   simp [C.spec_SeedOk,sS]
   refine hK _ ?_;clear hK K
   show AWp _ _ _ _ _
   refine wcond _ rfl (fun hc2=>?_) (fun hc2=>?_)
   ·have hi:x1 < s.f.length:=by have:=d_t hc2;omega
    obtain ⟨f,hfi⟩:∃ f,f=s.f[x1]:=⟨_,rfl⟩
    have hfs:=hf _ (List.getElem_mem hi)
    rw [← hfi] at hfs
    refine wskip ?_
    show AWp _ _ _ _ _
    refine wseq ?_
    refine wblock ?_
    refine wseq ?_
    refine wdrawI [(true,0),(true,1),(true,2),(true,3),(true,4),(false,5),(true,6),(true,7),(true,8),(true,9),(true,10),(true,11),(true,12),(true,13),(true,14),(true,15),(true,16),(true,17),(true,18),(true,19),(true,20),(true,21),(true,22),(true,23),(true,24),(true,25),(true,26),(true,27),(true,28)] ⟨by kernel_rfl,by kernel_rfl⟩ ([0,1,2,3,4,5] ++ ([6,7,8,9,10,11,12,13,14,15,16,17,18,19,20,21,22,23,24,25,26,27,28])) rfl fun K hK=>?_
    have hJ:K ⟨ofL [(1,.pt (1,0) [] 0),(3,.int x1),(52,.bool (!decide (VarOk s.m.r f)))],ofRO [((1,0),some (.bx (sS s)))]⟩:=by
     refine hK _ ?_;clear hK K
     show AWp _ _ _ _ _
     refine wcond _ rfl (fun hc3=>?_) (fun hc3=>?_)
     ·have hbad:=nd_t hc3
      have hno:¬ SeedOK s:=fun h=>hbad (by rw [hfi];exact h.2.2 _ (List.getElem_mem hi))
      refine wseq ?_
      refine wreg fun K hK=>?_
      simp [C.spec_SeedOk,sS]
      refine hK _ ?_;clear hK K
      show AWp _ _ _ _ _
      refine wret ?_
      simp [C.spec_SeedOk,sS,hno]
     ·have hgood:=nd_f hc3
      refine wskip ?_
      show AWp _ _ _ _ _
      refine wreg fun K hK=>?_
      simp [C.spec_SeedOk,sS,wrap_succ (show x1 < 4611686018427387904 by omega)]
      refine hK _ ?_;clear hK K
      simp [C.spec_SeedOk,sS]
      refine cast (congrArg R1 ?_) (hR1 (x1+1) ⟨hi,fun g hg=>?_⟩ (by omega))
      ·simp [sS]
      ·rw [List.take_succ_eq_append_getElem hi] at hg
       rcases List.mem_append.1 hg with hg | hg
       ·exact hall g hg
       ·rw [List.mem_singleton,← hfi] at hg
        rw [hg]
        exact hgood
    clear hK
    by_cases h1:Right f
    ·by_cases h2:f.v=s.m.r
     ·refine opsI_seg fun L hL=>?_
      simp [C.spec_SeedOk,sS,hi,fS_0 hi,fS_1 hi,← hfi,h2,h1,h2]
      refine wcall1 (spec_l2Right_calls f hfs.1 hfs.2) (by simp [sS,hi,fS_0 hi,fS_1 hi,← hfi,h2]) (by simp) ?_
      simp [C.spec_SeedOk,sS,hi,fS_0 hi,fS_1 hi,← hfi,h2,h1,h2]
      refine hL _ ?_;clear hL L
      refine opsI_end fun L hL=>?_
      simp [C.spec_SeedOk,sS,hi,fS_0 hi,fS_1 hi,← hfi,h2,h1,h2]
      refine hL _ ?_;clear hL L
      simp [C.spec_SeedOk,sS,hi,fS_0 hi,fS_1 hi,← hfi,h2,h1,h2]
      refine cast (congrArg K ?_) hJ
      simp [VarOk,ieq0',sS,h1,h2]
     ·refine opsI_seg fun L hL=>?_
      simp [C.spec_SeedOk,sS,hi,fS_0 hi,fS_1 hi,← hfi,h1,h2]
      refine wcall1 (spec_l2Right_calls f hfs.1 hfs.2) (by simp) (by simp) ?_
      simp [C.spec_SeedOk,sS,hi,fS_0 hi,fS_1 hi,← hfi,h1,h2]
      refine hL _ ?_;clear hL L
      refine opsI_end fun L hL=>?_
      simp [C.spec_SeedOk,sS,hi,fS_0 hi,fS_1 hi,← hfi,h1,h2]
      refine hL _ ?_;clear hL L
      simp [C.spec_SeedOk,sS,hi,fS_0 hi,fS_1 hi,← hfi,h1,h2]
      refine cast (congrArg K ?_) hJ
      simp [VarOk,ieq0',sS,h1,h2]
    ·refine opsI_seg fun L hL=>?_
     simp [C.spec_SeedOk,sS,hi,fS_0 hi,fS_1 hi,← hfi,h1]
     refine wcall1 (spec_l2Right_calls f hfs.1 hfs.2) (by simp) (by simp) ?_
     simp [C.spec_SeedOk,sS,hi,fS_0 hi,fS_1 hi,← hfi,h1]
     refine hL _ ?_;clear hL L
     refine opsI_end fun L hL=>?_
     simp [C.spec_SeedOk,sS,hi,fS_0 hi,fS_1 hi,← hfi,h1]
     refine hL _ ?_;clear hL L
     simp [C.spec_SeedOk,sS,hi,fS_0 hi,fS_1 hi,← hfi,h1]
     refine cast (congrArg K ?_) hJ
     simp [VarOk,ieq0',sS,h1]
   ·have hi:x1=s.f.length:=by have:=d_f hc2;omega
    rw [hi,List.take_length] at hall
    have hyes:SeedOK s:=⟨hr.1,hr.2,hall⟩
    refine wexit ?_
    show AWp _ _ _ _ _
    refine wseq ?_
    refine wreg fun K hK=>?_
    simp [C.spec_SeedOk,sS]
    refine hK _ ?_;clear hK K
    show AWp _ _ _ _ _
    refine wret ?_
    simp [C.spec_SeedOk,sS,hyes]
 clear hK
 by_cases h1:MatOK s.m
 ·refine opsI_seg fun L hL=>?_
  simp [C.spec_SeedOk,sS,h1]
  refine wcall1 (spec_MatrixOk_calls s.m hx) (by simp) (by simp) ?_
  simp [C.spec_SeedOk,sS,h1]
  refine hL _ ?_;clear hL L
  refine opsI_end fun L hL=>?_
  simp [C.spec_SeedOk,sS,h1]
  refine hL _ ?_;clear hL L
  simp [C.spec_SeedOk,sS,h1]
  refine cast (congrArg K ?_) hJ
  simp [ibne,sS,h1]
 ·refine opsI_seg fun L hL=>?_
  simp [C.spec_SeedOk,sS,h1]
  refine wcall1 (spec_MatrixOk_calls s.m hx) (by simp) (by simp) ?_
  simp [C.spec_SeedOk,sS,h1]
  refine hL _ ?_;clear hL L
  refine opsI_end fun L hL=>?_
  simp [C.spec_SeedOk,sS,h1]
  refine hL _ ?_;clear hL L
  simp [C.spec_SeedOk,sS,h1]
  refine cast (congrArg K ?_) hJ
  simp [ibne,sS,h1]
theorem spec_l3Column_calls (m:Mat) (n r k:Nat) (hn:m.n=n) (hr:m.r=r) (hS:ShM m) (hk:k < n):ACalls Tryz.prog F.spec_l3Column [.ag [.int n,.int r,.d (shI m.d)],.int k] [] true (fun outs res=>outs=[]/\res=[.one (.ow 1 r (ints (colM m r k)))]):=by
 have hnr:n<=r/\r<=8:=by have:=hS.2.1;omega
 refine ACalls.of_body (C:=C.spec_l3Column) (n:=Tryz.f61.ntmps) tabT folT Tryz.func61 rfl (by kernel_rfl) rfl (Nat.le_of_ble_eq_true rfl) (by decide) (by kernel_rfl) (by kernel_rfl) rfl (by simp) (by simp) ?_
 simp only [Tryz.f61]
 refine wseq ?_
 refine wreg fun K hK=>?_
 simp [C.spec_l3Column]
 refine hK _ ?_;clear hK K
 show AWp _ _ _ _ _
 refine wseq ?_
 refine wreg fun K hK=>?_
 simp [C.spec_l3Column]
 refine hK _ ?_;clear hK K
 show AWp _ _ _ _ _
 refine wseq ?_
 refine wseq ?_
 refine wreg fun K hK=>?_
 simp [C.spec_l3Column]
 refine hK _ ?_;clear hK K
 show AWp _ _ _ _ _
 refine wblock ?_
 refine wloop (fun x:Nat=>⟨ofL [(1,.int k),(2,.pt (2,0) [] 0),(5,.al (5,0) [] 0 x),(6,.int x)],ofRO [((2,0),some (.bx [D.int n,D.int r,shI m.d])),((5,0),some (.ow 1 x (ints (colM m x k))))]⟩) (fun x=>x<=r) (fun x=>r - x) 0 (by simp [C.spec_l3Column,colM,ints]) (by simp) ?_
 intro x1 hx1 R1 hR1
 refine wseq ?_
 refine wseq ?_
 refine wreg fun K hK=>?_
 simp [C.spec_l3Column]
 refine hK _ ?_;clear hK K
 show AWp _ _ _ _ _
 refine wcond _ rfl (fun hc1=>?_) (fun hc1=>?_)
 ·have hi:x1 < r:=by have:=d_t hc1;omega
  have hat:=spec_l1At_calls m n r x1 k hn hr hS hi hk
  have hsn:ints (colM m x1 k) ++ [D.v (.int .i64 (bM m x1 k))]=ints (colM m (x1+1) k):=by simp [colM,ints,List.range_succ]
  refine wskip ?_
  show AWp _ _ _ _ _
  refine wseq ?_
  refine wblock ?_
  refine wregI ([0,1,2,3,4] ++ ([5,6,7])) rfl fun K hK=>?_
  refine opsI_seg fun L hL=>?_
  simp [C.spec_l3Column,hsn,show (x1+1)*8<=140737488355328 by omega]
  refine wcall1 (hat) (by simp) (by simp) ?_
  simp [C.spec_l3Column,hsn,show (x1+1)*8<=140737488355328 by omega]
  refine hL _ ?_;clear hL L
  refine opsI_end fun L hL=>?_
  simp [C.spec_l3Column,hsn,show (x1+1)*8<=140737488355328 by omega]
  refine hL _ ?_;clear hL L
  simp [C.spec_l3Column,hsn,show (x1+1)*8<=140737488355328 by omega]
  refine hK _ ?_;clear hK K
  show AWp _ _ _ _ _
  refine wreg fun K hK=>?_
  simp [C.spec_l3Column,wrap_succ (show x1 < 4611686018427387904 by omega)]
  refine hK _ ?_;clear hK K
  simp [C.spec_l3Column]
  exact hR1 (x1+1) hi (by omega)
 ·have hi:x1=r:=by have:=d_f hc1;omega
  refine wexit ?_
  show AWp _ _ _ _ _
  refine wseq ?_
  refine wreg fun K hK=>?_
  simp [C.spec_l3Column]
  refine hK _ ?_;clear hK K
  show AWp _ _ _ _ _
  refine wret ?_
  simp [C.spec_l3Column,hi]
theorem spec_l3CopyLaurent_calls (f:Lau) (hl:f.ts.length<=1000000) (he:∀ t∈f.ts,t.e.length < 17592186044416):ACalls Tryz.prog F.spec_l3CopyLaurent [aF f] [] true (fun outs res=>outs=[]/\res=[.ag (fO f)]):=by
 refine ACalls.of_body (C:=C.spec_l3CopyLaurent) (n:=Tryz.f153.ntmps) tabT folT Tryz.func153 rfl (by kernel_rfl) rfl (Nat.le_of_ble_eq_true rfl) (by decide) (by kernel_rfl) (by kernel_rfl) rfl (by simp) (by simp) ?_
 simp only [Tryz.f153]
 refine wseq ?_
 refine wreg fun K hK=>?_
 simp [C.spec_l3CopyLaurent,fS]
 refine hK _ ?_;clear hK K
 show AWp _ _ _ _ _
 refine wseq ?_
 refine wreg fun K hK=>?_
 simp [C.spec_l3CopyLaurent,fS]
 refine hK _ ?_;clear hK K
 show AWp _ _ _ _ _
 refine wseq ?_
 refine wseq ?_
 refine wreg fun K hK=>?_
 simp [C.spec_l3CopyLaurent,fS]
 refine hK _ ?_;clear hK K
 show AWp _ _ _ _ _
 refine wblock ?_
 refine wloop (fun x:Nat×List Trm=>⟨ofL [(1,.pt (1,0) [] 0),(2,.pt (2,0) [] 0),(3,.pt (3,0) [] 0),(4,.int x.1)],ofRO [((1,0),some (.bx (fS f))),((2,0),some (.bx [D.int 0,.v (.slice none 0 0)])),((3,0),some (.bx [D.int f.v,.ow 2 x.1 (rows tO x.2)]))]⟩) (fun x=>x.1<=f.ts.length/\x.2=f.ts.take x.1) (fun x=>f.ts.length - x.1) (0,[]) (by simp [C.spec_l3CopyLaurent,fS,rows]) (by simp) ?_
 intro x1 hx1 R1 hR1
 obtain ⟨j,gs⟩:=x1
 obtain ⟨hj,hg⟩:=hx1
 dsimp only at hj hg ⊢
 refine wseq ?_
 refine wseq ?_
 refine wreg fun K hK=>?_
 simp [C.spec_l3CopyLaurent,fS]
 refine hK _ ?_;clear hK K
 show AWp _ _ _ _ _
 refine wcond _ rfl (fun hc1=>?_) (fun hc1=>?_)
 ·have h1:j < f.ts.length:=by have:=d_t hc1;omega
  have hgl:gs.length=j:=by rw [hg];simp;omega
  refine wskip ?_
  show AWp _ _ _ _ _
  refine wseq ?_
  refine wblock ?_
  refine wdrawI [(true,0),(true,1),(true,2),(true,3),(true,4),(true,5),(true,6),(true,7),(true,9),(true,10),(true,11),(true,12),(true,13),(true,14),(false,8),(true,15),(false,16),(false,17),(true,18),(false,19)] ⟨by kernel_rfl,by kernel_rfl⟩ ([0,1,2,3,4,5,6,7,9,10,11,12,13,14,8] ++ ([15,16,17,18,19])) rfl fun K hK=>?_
  refine opsI_seg fun L hL=>?_
  simp [C.spec_l3CopyLaurent,fS,h1,tS_0 h1,tS_1 h1,tO_snoc,show (j+1)*32<=140737488355328 by omega]
  refine wcall1 (spec_l1Ints_calls f.ts[j].e (he _ (List.getElem_mem h1))) (by simp) (by simp) ?_
  simp [C.spec_l3CopyLaurent,fS,h1,tS_0 h1,tS_1 h1,tO_snoc,show (j+1)*32<=140737488355328 by omega]
  refine hL _ ?_;clear hL L
  refine opsI_end fun L hL=>?_
  simp [C.spec_l3CopyLaurent,fS,h1,tS_0 h1,tS_1 h1,tO_snoc,show (j+1)*32<=140737488355328 by omega]
  refine hL _ ?_;clear hL L
  simp [C.spec_l3CopyLaurent,fS,h1,tS_0 h1,tS_1 h1,tO_snoc,show (j+1)*32<=140737488355328 by omega]
  refine hK _ ?_;clear hK K
  show AWp _ _ _ _ _
  refine wreg fun K hK=>?_
  simp [C.spec_l3CopyLaurent,fS,wrap_succ (show j < 4611686018427387904 by omega)]
  refine hK _ ?_;clear hK K
  simp [C.spec_l3CopyLaurent,fS]
  refine cast (congrArg R1 ?_) (hR1 (j+1,gs ++ [f.ts[j]]) ⟨h1,?_⟩ (by dsimp only;omega))
  ·simp [fS]
  ·dsimp only
   rw [hg,List.take_succ_eq_append_getElem h1]
 ·have h1:j=f.ts.length:=by have:=d_f hc1;omega
  refine wexit ?_
  show AWp _ _ _ _ _
  refine wseq ?_
  refine wreg fun K hK=>?_
  simp [C.spec_l3CopyLaurent,fS]
  refine hK _ ?_;clear hK K
  show AWp _ _ _ _ _
  refine wret ?_
  simp [C.spec_l3CopyLaurent,fS,hg,h1,fO]
def optF:Option Lau->Lau×Bool
 | some p=>(p,true)
 | none=>(zeroF,false)
noncomputable def prodF (sg:Int) (fs:List Lau) (cs:List Int) (r:Nat):Lau×Bool:=optF (prodE sg fs cs (oneF r))
theorem spec_l3Product_calls (fs:List Lau) (cs:List Int) (sg:Int) (r:Nat) (hsg:sg=1\/sg=-1) (hr:1<=r/\r<=8) (v:Nat) (hv8:1<=v/\v<=8) (hl:fs.length=r) (hcl:cs.length=r) (hf:∀ f∈fs,SmF f) (hv:∀ f∈fs,f.v=v) (hc8:∀ c∈cs,-8<=c/\c<=8):ACalls Tryz.prog F.spec_l3Product [.d (.sh 2 fs.length (rows fS fs)),.d (.sh 1 r (ints cs)),.int sg] [] true (fun outs res=>outs=[]/\WkRs res [.ag (fO (prodF sg fs cs v).1),.one (D.bool (prodF sg fs cs v).2)]):=by
 have h0:0 < fs.length:=by omega
 have h0v:fs[0].v=v:=hv _ (List.getElem_mem h0)
 have hos:SmallF (oneF v):=small_right (oneF_right (by omega))
 obtain ⟨goal,hgoal⟩:∃ goal,goal=prodE sg fs cs (oneF v):=⟨_,rfl⟩
 have hm:prodF sg fs cs v=optF goal:=by rw [hgoal];rfl
 refine ACalls.of_body (C:=C.spec_l3Product) (n:=Tryz.f137.ntmps) tabT folT Tryz.func137 rfl (by kernel_rfl) rfl (Nat.le_of_ble_eq_true rfl) (by decide) (by kernel_rfl) (by kernel_rfl) rfl (by simp) (by simp) ?_
 simp only [Tryz.f137]
 refine wseq ?_
 refine wreg fun K hK=>?_
 simp [C.spec_l3Product]
 refine hK _ ?_;clear hK K
 show AWp _ _ _ _ _
 refine wseq ?_
 refine wregI ([0,1,2,3,4] ++ ([5,6])) rfl fun K hK=>?_
 refine opsI_seg fun L hL=>?_
 simp [C.spec_l3Product,h0,fS_0 h0,h0v,show (0:Int) < fs.length by omega,fO]
 refine wcall1 (spec_ConstantLaurent_calls v hv8) (by simp) (by simp) ?_
 simp [C.spec_l3Product,h0,fS_0 h0,h0v,show (0:Int) < fs.length by omega,fO]
 refine hL _ ?_;clear hL L
 refine opsI_end fun L hL=>?_
 simp [C.spec_l3Product,h0,fS_0 h0,h0v,show (0:Int) < fs.length by omega,fO]
 refine hL _ ?_;clear hL L
 simp [C.spec_l3Product,h0,fS_0 h0,h0v,show (0:Int) < fs.length by omega,fO]
 refine hK _ ?_;clear hK K
 show AWp _ _ _ _ _
 refine wseq ?_
 refine wseq ?_
 refine wreg fun K hK=>?_
 simp [C.spec_l3Product]
 refine hK _ ?_;clear hK K
 show AWp _ _ _ _ _
 refine wblock ?_
 refine wloop (fun x:Nat×Lau=>⟨ofL [(0,.d (.sh 2 fs.length (rows fS fs))),(1,.d (.sh 1 r (ints cs))),(2,.int sg),(6,.pt (6,0) [] 0),(8,.pt (8,0) [] 0),(9,.int x.1)],ofRO [((6,0),some (.bx [D.int 0,.v (.slice none 0 0)])),((8,0),some (.bx (fO x.2)))]⟩) (fun x=>x.1<=r/\SmallF x.2/\prodE sg (fs.drop x.1) (cs.drop x.1) x.2=goal) (fun x=>r - x.1) (0,oneF v) (by simp [C.spec_l3Product,fO]) ⟨by simp,hos,by rw [hgoal];rfl⟩ ?_
 intro x1 hx1 R1 hR1
 obtain ⟨i,p⟩:=x1
 obtain ⟨hi0,hps,hpg⟩:=hx1
 dsimp only at hi0 hps hpg ⊢
 refine wseq ?_
 refine wseq ?_
 refine wreg fun K hK=>?_
 simp [C.spec_l3Product]
 refine hK _ ?_;clear hK K
 show AWp _ _ _ _ _
 refine wcond _ rfl (fun hc1=>?_) (fun hc1=>?_)
 ·have hi:i < r:=by have:=d_t hc1;omega
  have hif:i < fs.length:=by omega
  have hic:i < cs.length:=by omega
  have hstep:=prodE_step (sg:=sg) hif hic p
  rw [hpg] at hstep
  obtain ⟨f,hfi⟩:∃ f,f=fs[i]:=⟨_,rfl⟩
  obtain ⟨c,hci⟩:∃ c,c=cs[i]:=⟨_,rfl⟩
  have hfs:=hf _ (List.getElem_mem hif)
  have hcb:=hc8 _ (List.getElem_mem hic)
  rw [← hfi] at hstep hfs
  rw [← hci] at hstep hcb
  have hscb:-8<=sg*c/\sg*c<=8:=by rcases hsg with rfl | rfl <;> omega
  have hsc:IntKind.i64.wrap (sg*c)=sg*c:=wrapOk (by omega) (by omega)
  refine wskip ?_
  show AWp _ _ _ _ _
  refine wseq ?_
  refine wblock ?_
  refine wseq ?_
  refine wreg fun K hK=>?_
  simp [C.spec_l3Product]
  refine hK _ ?_;clear hK K
  show AWp _ _ _ _ _
  refine wblock ?_
  refine wloop (fun x:Nat×Lau=>⟨ofL [(0,.d (.sh 2 fs.length (rows fS fs))),(1,.d (.sh 1 r (ints cs))),(2,.int sg),(6,.pt (6,0) [] 0),(8,.pt (8,0) [] 0),(9,.int i),(10,.int x.1)],ofRO [((6,0),some (.bx [D.int 0,.v (.slice none 0 0)])),((8,0),some (.bx (fO x.2)))]⟩) (fun x=>x.1<=(sg*c).toNat/\SmallF x.2/\(itM f ((sg*c).toNat - x.1) x.2).bind (prodE sg (fs.drop (i+1)) (cs.drop (i+1)))=goal) (fun x=>8 - x.1) (0,p) (by simp [C.spec_l3Product,fO]) ⟨by simp,hps,hstep.symm⟩ ?_
  intro x2 hx2 R2 hR2
  obtain ⟨j,q⟩:=x2
  obtain ⟨hj0,hqs,hqg⟩:=hx2
  dsimp only at hj0 hqs hqg ⊢
  refine wseq ?_
  refine wseq ?_
  refine wreg fun K hK=>?_
  simp [C.spec_l3Product,hi,hic,hcl,get_ints,← hci,hsc]
  refine hK _ ?_;clear hK K
  show AWp _ _ _ _ _
  refine wcond _ rfl (fun hc2=>?_) (fun hc2=>?_)
  ·have hj:(j:Int) < sg*c:=d_t hc2
   obtain ⟨t,ht⟩:∃ t,(sg*c).toNat - j=t+1:=⟨(sg*c).toNat - j - 1,by omega⟩
   rw [ht] at hqg
   simp only [itM] at hqg
   have hmul:=sMul_calls q f hqs.sm'.1 hqs.sm'.2 hfs.1 hfs.2
   have hmulS:=mulF_small' q f
   obtain ⟨P,hP⟩:∃ P,P=mulF q f:=⟨_,rfl⟩
   rw [← hP] at hqg hmul hmulS
   refine wskip ?_
   show AWp _ _ _ _ _
   refine wseq ?_
   refine wblock ?_
   refine wseq ?_
   refine wdraw (.take 0 (.take 1 (.take 2 (.take 3 (.take 4 (.all [(5,.take 6 (.take 7 (.take 8 (.all [(9,.all [(10,.take 11 (.done))])])))),(9,.all [(5,.take 6 (.take 7 (.take 8 (.all [(10,.take 11 (.done))]))))])])))))) ⟨by kernel_rfl,by kernel_rfl⟩ fun K hK=>?_
   have hJ:K ⟨ofL [(0,.d (.sh 2 fs.length (rows fS fs))),(1,.d (.sh 1 r (ints cs))),(2,.int sg),(6,.pt (6,0) [] 0),(8,.pt (8,0) [] 0),(9,.int i),(10,.int j),(11,.pt (11,0) [] 0),(12,.bool P.2)],ofRO [((6,0),some (.bx [D.int 0,.v (.slice none 0 0)])),((8,0),some (.bx (fO q))),((11,0),some (.bx (fO P.1)))]⟩:=by
    refine hK _ ?_;clear hK K
    show AWp _ _ _ _ _
    refine wseq ?_
    refine wseq ?_
    refine wreg fun K hK=>?_
    simp [C.spec_l3Product]
    refine hK _ ?_;clear hK K
    show AWp _ _ _ _ _
    refine wcond _ rfl (fun hc3=>?_) (fun hc3=>?_)
    ·have hb:P.2=false:=by simpa using hc3
     rw [hb] at hqg
     rw [← hqg] at hm
     have hm2:prodF sg fs cs v=(zeroF,false):=hm
     refine wseq ?_
     refine wreg fun K hK=>?_
     simp [C.spec_l3Product]
     refine hK _ ?_;clear hK K
     show AWp _ _ _ _ _
     refine wret ?_
     simp [C.spec_l3Product,hm2,fO,zeroF,rows]
    ·have hb:P.2=true:=by simpa using hc3
     rw [if_pos hb] at hqg
     refine wskip ?_
     show AWp _ _ _ _ _
     refine wreg fun K hK=>?_
     simp [C.spec_l3Product,fO]
     refine hK _ ?_;clear hK K
     show AWp _ _ _ _ _
     refine wreg fun K hK=>?_
     simp [C.spec_l3Product,wrap_succ (show j < 4611686018427387904 by omega)]
     refine hK _ ?_;clear hK K
     simp [C.spec_l3Product]
     refine cast (congrArg R2 ?_) (hR2 (j+1,P.1) ⟨by dsimp only;omega,hmulS,by dsimp only;rw [show (sg*c).toNat - (j+1)=t by omega];exact hqg⟩ (by dsimp only;omega))
     simp [fO]
   clear hK
   simp [C.spec_l3Product,fO,hif,fS_0 hif,fS_1 hif,← hfi,show (i:Int) < fs.length by omega]
   repeat' first
    | (refine wcall1 (hmul) ?_ (by simp) ?_;(focus (simp;done));simp [C.spec_l3Product,fO])
    | (refine cast (congrArg K ?_) hJ;simp [fO];done)
    | refine And.intro ?_ ?_
  ·have hj:¬ (j:Int) < sg*c:=d_f hc2
   rw [show (sg*c).toNat - j=0 by omega] at hqg
   have hqg2:prodE sg (fs.drop (i+1)) (cs.drop (i+1)) q=goal:=hqg
   refine wexit ?_
   show AWp _ _ _ _ _
   refine wreg fun K hK=>?_
   simp [C.spec_l3Product,wrap_succ (show i < 4611686018427387904 by omega)]
   refine hK _ ?_;clear hK K
   simp [C.spec_l3Product]
   exact hR1 (i+1,q) ⟨hi,hqs,hqg2⟩ (by dsimp only;omega)
 ·have hi:i=r:=by have:=d_f hc1;omega
  rw [hi,List.drop_of_length_le (by omega),List.drop_of_length_le (by omega)] at hpg
  have hm2:prodF sg fs cs v=(p,true):=by rw [hm,← hpg];rfl
  refine wexit ?_
  show AWp _ _ _ _ _
  refine wseq ?_
  refine wreg fun K hK=>?_
  simp [C.spec_l3Product,fO]
  refine hK _ ?_;clear hK K
  show AWp _ _ _ _ _
  refine wret ?_
  simp [C.spec_l3Product,hm2,fO]
theorem sProd_calls (fs:List Lau) (cs:List Int) (sg:Int) (r:Nat) (hsg:sg=1\/sg=-1) (hr:1<=r/\r<=8) (v:Nat) (hv8:1<=v/\v<=8) (hl:fs.length=r) (hcl:cs.length=r) (hf:∀ f∈fs,SmF f) (hv:∀ f∈fs,f.v=v) (hc8:∀ c∈cs,-8<=c/\c<=8):ACalls Tryz.prog F.spec_l3Product [.d (.sh 2 fs.length (rows fS fs)),.d (.sh 1 r (ints cs)),.int sg] [] true (fun outs res=>outs=[]/\res=[.ag (fO (prodF sg fs cs v).1),.one (D.bool (prodF sg fs cs v).2)]):=(spec_l3Product_calls fs cs sg r hsg hr v hv8 hl hcl hf hv hc8).weak1
theorem prodE_small {sg:Int}:∀ {fs:List Lau} {cs:List Int} {p q:Lau},SmallF p->prodE sg fs cs p=some q->SmallF q
 | [],_,p,q,h,e=>by simp only [prodE,Option.some.injEq] at e;exact e ▸ h
 | _ :: _,[],p,q,h,e=>by simp only [prodE,Option.some.injEq] at e;exact e ▸ h
 | f :: fs,c :: cs,p,q,h,e=>by
  simp only [prodE] at e
  obtain ⟨z,hz,e2⟩:=Option.bind_eq_some_iff.1 e
  refine prodE_small ?_ e2
  clear e e2
  generalize (sg*c).toNat=n at hz
  induction n generalizing p with
  | zero=>simp only [itM,Option.some.injEq] at hz;exact hz ▸ h
  | succ n ih=>
   simp only [itM] at hz
   split at hz
   ·exact ih _ (mulF_small' p f) hz
   ·simp at hz
theorem prodF_small (sg:Int) (fs:List Lau) (cs:List Int) {r:Nat} (hr:1<=r/\r<=8):SmallF (prodF sg fs cs r).1:=by
 unfold prodF
 cases hp:prodE sg fs cs (oneF r) with
 | some p=>exact prodE_small (small_right (oneF_right hr)) hp
 | none=>exact small_zero
theorem spec_l3Exchange_calls (fs:List Lau) (cs:List Int) (old:Lau) (r:Nat) (hr:1<=r/\r<=8) (v:Nat) (hv8:1<=v/\v<=8) (hl:fs.length=r) (hcl:cs.length=r) (hf:∀ f∈fs,SmF f) (hv:∀ f∈fs,f.v=v) (ho:SmF old):ACalls Tryz.prog F.spec_l3Exchange [.d (.sh 2 fs.length (rows fS fs)),.d (.sh 1 r (ints cs)),aF old] [] true (fun outs res=>outs=[]/\WkRs res [.ag (fO (exF fs cs v old).1),.one (D.bool (exF fs cs v old).2)]):=by
 refine ACalls.of_body (C:=C.spec_l3Exchange) (n:=Tryz.f60.ntmps) tabT folT Tryz.func60 rfl (by kernel_rfl) rfl (Nat.le_of_ble_eq_true rfl) (by decide) (by kernel_rfl) (by kernel_rfl) rfl (by simp) (by simp) ?_
 simp only [Tryz.f60]
 refine wseq ?_
 refine wreg fun K hK=>?_
 simp [C.spec_l3Exchange,fO,fS]
 refine hK _ ?_;clear hK K
 show AWp _ _ _ _ _
 refine wseq ?_
 refine wseq ?_
 refine wreg fun K hK=>?_
 simp [C.spec_l3Exchange,fO,fS]
 refine hK _ ?_;clear hK K
 show AWp _ _ _ _ _
 refine wblock ?_
 refine wloop (fun x:Nat=>⟨ofL [(0,.d (.sh 2 fs.length (rows fS fs))),(1,.d (.sh 1 r (ints cs))),(5,.pt (5,0) [] 0),(6,.pt (6,0) [] 0),(8,.int x)],ofRO [((5,0),some (.bx (fS old))),((6,0),some (.bx [D.int 0,.v (.slice none 0 0)]))]⟩) (fun x=>x<=r/\∀ c∈cs.take x,-8<=c/\c<=8) (fun x=>r - x) 0 (by simp [C.spec_l3Exchange,fS]) (by simp) ?_
 intro x1 hx1 R1 hR1
 obtain ⟨hi0,hall⟩:=hx1
 refine wseq ?_
 refine wseq ?_
 refine wreg fun K hK=>?_
 simp [C.spec_l3Exchange,fO,fS]
 refine hK _ ?_;clear hK K
 show AWp _ _ _ _ _
 refine wcond _ rfl (fun hc1=>?_) (fun hc1=>?_)
 ·have hi:x1 < r:=by have:=d_t hc1;omega
  have hic:x1 < cs.length:=by omega
  refine wskip ?_
  show AWp _ _ _ _ _
  refine wseq ?_
  refine wblock ?_
  refine wseq ?_
  refine wregI ([0,1,2,3,4] ++ ([5])) rfl fun K hK=>?_
  refine opsI_seg fun L hL=>?_
  simp [C.spec_l3Exchange,fO,fS,hi,hic,hcl,get_ints]
  refine wcall1 (spec_l1In_calls cs[x1] (-8) 8) (by simp) (by simp) ?_
  simp [C.spec_l3Exchange,fO,fS,hi,hic,hcl,get_ints]
  refine hL _ ?_;clear hL L
  refine opsI_end fun L hL=>?_
  simp [C.spec_l3Exchange,fO,fS,hi,hic,hcl,get_ints]
  refine hL _ ?_;clear hL L
  simp [C.spec_l3Exchange,fO,fS,hi,hic,hcl,get_ints]
  refine hK _ ?_;clear hK K
  show AWp _ _ _ _ _
  refine wcond _ rfl (fun hc2=>?_) (fun hc2=>?_)
  ·have hbad:¬ (-8<=cs[x1]/\cs[x1]<=8):=by simp at hc2;omega
   have hm:exF fs cs v old=(zeroF,false):=exF_big (List.getElem_mem hic) hbad
   refine wseq ?_
   refine wreg fun K hK=>?_
   simp [C.spec_l3Exchange,fO,fS]
   refine hK _ ?_;clear hK K
   show AWp _ _ _ _ _
   refine wret ?_
   simp [C.spec_l3Exchange,fO,fS,hm,zeroF,rows]
  ·have hgood:-8<=cs[x1]/\cs[x1]<=8:=by simp at hc2;omega
   refine wskip ?_
   show AWp _ _ _ _ _
   refine wreg fun K hK=>?_
   simp [C.spec_l3Exchange,fO,fS,wrap_succ (show x1 < 4611686018427387904 by omega)]
   refine hK _ ?_;clear hK K
   simp [C.spec_l3Exchange,fO,fS]
   refine cast (congrArg R1 ?_) (hR1 (x1+1) ⟨hi,fun c hc=>?_⟩ (by omega))
   ·simp [fS]
   ·rw [List.take_succ_eq_append_getElem hic] at hc
    rcases List.mem_append.1 hc with hc | hc
    ·exact hall c hc
    ·rw [List.mem_singleton] at hc
     rw [hc]
     exact hgood
 ·have hi:x1=r:=by have:=d_f hc1;omega
  rw [hi,List.take_of_length_le (by omega)] at hall
  have hp1:=sProd_calls fs cs 1 r (.inl rfl) hr v hv8 hl hcl hf hv hall
  have hp2:=sProd_calls fs cs (-1) r (.inr rfl) hr v hv8 hl hcl hf hv hall
  have hs1:=prodF_small 1 fs cs hv8
  have hs2:=prodF_small (-1) fs cs hv8
  have hm:exF fs cs v old=if (prodF 1 fs cs v).2=true/\(prodF (-1) fs cs v).2=true then (if (addF (prodF 1 fs cs v).1 1 (prodF (-1) fs cs v).1).2=true then divF (addF (prodF 1 fs cs v).1 1 (prodF (-1) fs cs v).1).1 old else (zeroF,false)) else (zeroF,false):=by
   unfold exF prodF
   rw [if_pos hall]
   cases prodE 1 fs cs (oneF v) with
   | none=>simp [optF]
   | some a=>
    cases prodE (-1) fs cs (oneF v) with
    | none=>simp [optF]
    | some b=>
     rw [if_pos (show (optF (some a)).2=true/\(optF (some b)).2=true from ⟨rfl,rfl⟩)]
     by_cases q:(addF a 1 b).2=true
     ·exact (if_pos q).trans (if_pos q).symm
     ·exact (if_neg q).trans (if_neg q).symm
  obtain ⟨P1,hP1⟩:∃ P,P=prodF 1 fs cs v:=⟨_,rfl⟩
  obtain ⟨P2,hP2⟩:∃ P,P=prodF (-1) fs cs v:=⟨_,rfl⟩
  rw [← hP1] at hp1 hs1 hm
  rw [← hP2] at hp2 hs2 hm
  have hadd:=sAdd_calls P1.1 1 P2.1 hs1.sm'.1 hs1.sm'.2 hs2.sm'.1 hs2.sm'.2
  have hadds:=addF_small' P1.1 1 P2.1
  obtain ⟨A,hA⟩:∃ A,A=addF P1.1 1 P2.1:=⟨_,rfl⟩
  rw [← hA] at hm hadd hadds
  have hdiv:=sDiv_calls A.1 old hadds.sm'.1 hadds.sm'.2 ho.1 ho.2
  refine wexit ?_
  show AWp _ _ _ _ _
  refine wseq ?_
  refine wregI ([0,1,2] ++ ([3,4,5,6,7,8])) rfl fun K hK=>?_
  refine opsI_seg fun L hL=>?_
  simp [C.spec_l3Exchange,fO,fS]
  refine wcall1 (hp1) (by simp) (by simp) ?_
  simp [C.spec_l3Exchange,fO,fS]
  refine hL _ ?_;clear hL L
  refine opsI_end fun L hL=>?_
  simp [C.spec_l3Exchange,fO,fS]
  refine hL _ ?_;clear hL L
  simp [C.spec_l3Exchange,fO,fS]
  refine hK _ ?_;clear hK K
  show AWp _ _ _ _ _
  refine wseq ?_
  refine wregI ([0,1,2] ++ ([3,4,5,6,7,8])) rfl fun K hK=>?_
  refine opsI_seg fun L hL=>?_
  simp [C.spec_l3Exchange,fO,fS]
  refine wcall1 (hp2) (by simp) (by simp) ?_
  simp [C.spec_l3Exchange,fO,fS]
  refine hL _ ?_;clear hL L
  refine opsI_end fun L hL=>?_
  simp [C.spec_l3Exchange,fO,fS]
  refine hL _ ?_;clear hL L
  simp [C.spec_l3Exchange,fO,fS]
  refine hK _ ?_;clear hK K
  show AWp _ _ _ _ _
  refine wseq ?_
  refine wseq ?_
  refine wreg fun K hK=>?_
  have hJ:K ⟨ofL [(5,.pt (5,0) [] 0),(6,.pt (6,0) [] 0),(9,.pt (9,0) [] 0),(11,.pt (11,0) [] 0),(45,.bool (!(P1.2 && P2.2)))],ofRO [((5,0),some (.bx (fS old))),((6,0),some (.bx [D.int 0,.v (.slice none 0 0)])),((9,0),some (.bx (fO P1.1))),((11,0),some (.bx (fO P2.1)))]⟩:=by
   refine hK _ ?_;clear hK K
   show AWp _ _ _ _ _
   refine wcond _ rfl (fun hc3=>?_) (fun hc3=>?_)
   ·have hno:¬ (P1.2=true/\P2.2=true):=by
     rintro ⟨q1,q2⟩
     rw [q1,q2] at hc3
     simp at hc3
    rw [if_neg hno] at hm
    refine wseq ?_
    refine wreg fun K hK=>?_
    simp [C.spec_l3Exchange,fO,fS]
    refine hK _ ?_;clear hK K
    show AWp _ _ _ _ _
    refine wret ?_
    simp [C.spec_l3Exchange,fO,fS,hm,zeroF,rows]
   ·have hyes:P1.2=true/\P2.2=true:=by simpa using hc3
    rw [if_pos hyes] at hm
    refine wskip ?_
    show AWp _ _ _ _ _
    refine wseq ?_
    refine wregI ([0,1,2] ++ ([3,4,5,6,7,8])) rfl fun K hK=>?_
    refine opsI_seg fun L hL=>?_
    simp [C.spec_l3Exchange,fO,fS]
    refine wcall1 (hadd) (by simp) (by simp) ?_
    simp [C.spec_l3Exchange,fO,fS]
    refine hL _ ?_;clear hL L
    refine opsI_end fun L hL=>?_
    simp [C.spec_l3Exchange,fO,fS]
    refine hL _ ?_;clear hL L
    simp [C.spec_l3Exchange,fO,fS]
    refine hK _ ?_;clear hK K
    show AWp _ _ _ _ _
    refine wseq ?_
    refine wseq ?_
    refine wreg fun K hK=>?_
    simp [C.spec_l3Exchange,fO,fS]
    refine hK _ ?_;clear hK K
    show AWp _ _ _ _ _
    refine wcond _ rfl (fun hc4=>?_) (fun hc4=>?_)
    ·have hno:¬ A.2=true:=by simpa using hc4
     rw [if_neg hno] at hm
     refine wseq ?_
     refine wreg fun K hK=>?_
     simp [C.spec_l3Exchange,fO,fS]
     refine hK _ ?_;clear hK K
     show AWp _ _ _ _ _
     refine wret ?_
     simp [C.spec_l3Exchange,fO,fS,hm,zeroF,rows]
    ·have hyesA:A.2=true:=by simpa using hc4
     rw [if_pos hyesA] at hm
     refine wskip ?_
     show AWp _ _ _ _ _
     refine wseq ?_
     refine wregI ([0,1,2] ++ ([3,4,5,6])) rfl fun K hK=>?_
     refine opsI_seg fun L hL=>?_
     simp [C.spec_l3Exchange,fO,fS]
     refine wcall1 (hdiv) (by simp) (by simp) ?_
     simp [C.spec_l3Exchange,fO,fS]
     refine hL _ ?_;clear hL L
     refine opsI_end fun L hL=>?_
     simp [C.spec_l3Exchange,fO,fS]
     refine hL _ ?_;clear hL L
     simp [C.spec_l3Exchange,fO,fS]
     refine hK _ ?_;clear hK K
     show AWp _ _ _ _ _
     refine wret ?_
     simp [C.spec_l3Exchange,fO,fS,hm]
  clear hK
  by_cases h1:P1.2=true
  ·simp [C.spec_l3Exchange,fO,fS,h1]
   refine cast (congrArg K ?_) hJ
   simp [fO,fS,fO,fS,h1]
  ·simp [C.spec_l3Exchange,fO,fS,h1]
   refine cast (congrArg K ?_) hJ
   simp [fO,fS,fO,fS,h1]
theorem sEx_calls (fs:List Lau) (cs:List Int) (old:Lau) (r:Nat) (hr:1<=r/\r<=8) (v:Nat) (hv8:1<=v/\v<=8) (hl:fs.length=r) (hcl:cs.length=r) (hf:∀ f∈fs,SmF f) (hv:∀ f∈fs,f.v=v) (ho:SmF old):ACalls Tryz.prog F.spec_l3Exchange [.d (.sh 2 fs.length (rows fS fs)),.d (.sh 1 r (ints cs)),aF old] [] true (fun outs res=>outs=[]/\res=[.ag (fO (exF fs cs v old).1),.one (D.bool (exF fs cs v old).2)]):=(spec_l3Exchange_calls fs cs old r hr v hv8 hl hcl hf hv ho).weak1
end Go.Proofs.YtbhkonnakkhibaaGreat.Ab
namespace Go.Proofs.YtbhkonnakkhibaaGreat.Ab
open Go
set_option maxRecDepth 10000
set_option maxHeartbeats 2000000
theorem seedF_eq {s:Sed} {k n r:Nat} (hok:SeedOK s) (hn:s.m.n=n) (hr:s.m.r=r) (hk:k < n):seedF s k=if (exF s.f (colM s.m r k) r (s.f.getD k zeroF)).2=true/\(muF s.m k).2=true then
  (⟨(muF s.m k).1,s.f.set k (exF s.f (colM s.m r k) r (s.f.getD k zeroF)).1⟩,true) else (zeroS,false):=by
 unfold seedF
 rw [show s.m.r.toNat=r by omega,Int.toNat_natCast]
 by_cases q:(exF s.f (colM s.m r k) r (s.f.getD k zeroF)).2=true/\(muF s.m k).2=true
 ·rw [if_pos ⟨hok,by omega,q⟩,if_pos q]
 ·rw [if_neg (fun h=>q h.2.2),if_neg q]
  rfl
theorem spec_l3Mutate_calls (s:Sed) (k:Nat) (hx:s.m.d.length < 17592186044416) (hok:SeedOK s) (hk:(k:Int) < s.m.n):ACalls Tryz.prog F.spec_l3Mutate [aS s,.int k] [] true (fun outs res=>outs=[]/\WkRs res [.ag (sO (seedF s k).1),.one (D.bool (seedF s k).2)]):=by
 have hS:=hok.1.1
 obtain ⟨n,hn⟩:∃ n:Nat,s.m.n=n:=⟨s.m.n.toNat,by have:=hS.1;omega⟩
 obtain ⟨r,hr⟩:∃ r:Nat,s.m.r=r:=⟨s.m.r.toNat,by have:=hS.1;have:=hS.2.1;omega⟩
 have hn5:1<=n/\n<=5:=by have:=hS.1;omega
 have hnr:n<=r/\r<=8:=by have:=hS.2.1;omega
 have hfl:s.f.length=r:=by have:=hok.2.1;omega
 have hkn:k < n:=by omega
 have hkl:k < s.f.length:=by omega
 have hgd:=GdS.ok hok
 have hkg:s.f[k]=s.f.getD k zeroF:=by simp [List.getD_eq_getElem?_getD,hkl]
 have hold:=hgd.sm.2.2 _ (List.getElem_mem hkl)
 rw [hkg] at hold
 have hcol:=spec_l3Column_calls s.m n r k hn hr hS hkn
 have hex:=sEx_calls s.f (colM s.m r k) (s.f.getD k zeroF) r (by omega) r (by omega) hfl (by simp) hgd.sm.2.2 (fun f hm=>by rw [(hok.2.2 f hm).2.2,hr]) hold
 have hmu:=sMu_calls s.m k hx
 have hm:=seedF_eq hok hn hr hkn
 obtain ⟨E,hE⟩:∃ E,E=exF s.f (colM s.m r k) r (s.f.getD k zeroF):=⟨_,rfl⟩
 obtain ⟨M,hM⟩:∃ M,M=muF s.m k:=⟨_,rfl⟩
 rw [← hE] at hex hm
 rw [← hM] at hmu hm
 clear hE hM
 obtain ⟨old,holde⟩:∃ old,old=s.f.getD k zeroF:=⟨_,rfl⟩
 rw [← holde] at hex hkg
 have haM:aM s.m = .ag [.int n,.int r,.d (shI s.m.d)]:=by rw [← hn,← hr]
 rw [haM] at hmu
 refine ACalls.of_body (C:=C.spec_l3Mutate) (n:=Tryz.f79.ntmps) tabT folT Tryz.func79 rfl (by kernel_rfl) rfl (Nat.le_of_ble_eq_true rfl) (by decide) (by kernel_rfl) (by kernel_rfl) rfl (by simp) (by simp) ?_
 simp only [Tryz.f79]
 refine wseq ?_
 refine wreg fun K hK=>?_
 simp [C.spec_l3Mutate,sS]
 refine hK _ ?_;clear hK K
 show AWp _ _ _ _ _
 refine wseq ?_
 refine wregI ([0,1,2,3] ++ ([4,5,6,7,8,9])) rfl fun K hK=>?_
 refine opsI_seg fun L hL=>?_
 simp [C.spec_l3Mutate,sS,hn,hr,mO]
 refine wcall1 (hmu) (by simp) (by simp) ?_
 simp [C.spec_l3Mutate,sS,hn,hr,mO]
 refine hL _ ?_;clear hL L
 refine opsI_end fun L hL=>?_
 simp [C.spec_l3Mutate,sS,hn,hr,mO]
 refine hL _ ?_;clear hL L
 simp [C.spec_l3Mutate,sS,hn,hr,mO]
 refine hK _ ?_;clear hK K
 show AWp _ _ _ _ _
 refine wseq ?_
 refine wdraw (.take 0 (.take 1 (.take 2 (.take 3 (.take 4 (.take 6 (.take 7 (.take 8 (.take 9 (.take 10 (.all [(5,.all [(11,.take 12 (.take 13 (.take 14 (.all [(15,.all [(16,.take 17 (.done))])])))),(15,.all [(11,.take 12 (.take 13 (.take 14 (.all [(16,.take 17 (.done))]))))])]),(15,.all [(5,.all [(11,.take 12 (.take 13 (.take 14 (.all [(16,.take 17 (.done))]))))])])]))))))))))) ⟨by kernel_rfl,by kernel_rfl⟩ fun K hK=>?_
 have hJ:K ⟨ofL [(1,.int k),(2,.pt (2,0) [] 0),(4,.pt (4,0) [] 0),(6,.pt (6,0) [] 0),(7,.bool M.2),(8,.pt (8,0) [] 0),(9,.bool E.2)],ofRO [((2,0),some (.bx (sS s))),((4,0),some (.bx [D.int 0,D.int 0,.v (.slice none 0 0),.v (.slice none 0 0)])),((6,0),some (.bx (mO M.1))),((8,0),some (.bx (fO E.1)))]⟩:=by
  refine hK _ ?_;clear hK K
  show AWp _ _ _ _ _
  refine wseq ?_
  refine wseq ?_
  refine wreg fun K hK=>?_
  have hJ:K ⟨ofL [(1,.int k),(2,.pt (2,0) [] 0),(4,.pt (4,0) [] 0),(6,.pt (6,0) [] 0),(8,.pt (8,0) [] 0),(39,.bool (!(M.2 && E.2)))],ofRO [((2,0),some (.bx (sS s))),((4,0),some (.bx [D.int 0,D.int 0,.v (.slice none 0 0),.v (.slice none 0 0)])),((6,0),some (.bx (mO M.1))),((8,0),some (.bx (fO E.1)))]⟩:=by
   refine hK _ ?_;clear hK K
   show AWp _ _ _ _ _
   refine wcond _ rfl (fun hc1=>?_) (fun hc1=>?_)
   ·have hno:¬ (E.2=true/\M.2=true):=by
     rintro ⟨q1,q2⟩
     rw [q1,q2] at hc1
     simp at hc1
    rw [if_neg hno] at hm
    refine wseq ?_
    refine wreg fun K hK=>?_
    simp [C.spec_l3Mutate,sS]
    refine hK _ ?_;clear hK K
    show AWp _ _ _ _ _
    refine wret ?_
    simp [C.spec_l3Mutate,sS,hm,sO,zeroS,ints,rows]
   ·have hyes:E.2=true/\M.2=true:=by have:=hc1;simp at this;exact ⟨this.2,this.1⟩
    rw [if_pos hyes] at hm
    refine wskip ?_
    show AWp _ _ _ _ _
    refine wseq ?_
    refine wreg fun K hK=>?_
    simp [C.spec_l3Mutate,sS,mO]
    refine hK _ ?_;clear hK K
    show AWp _ _ _ _ _
    refine wseq ?_
    refine wseq ?_
    refine wreg fun K hK=>?_
    simp [C.spec_l3Mutate,sS]
    refine hK _ ?_;clear hK K
    show AWp _ _ _ _ _
    refine wblock ?_
    refine wloopW (fun x:Nat×List Lau=>⟨ofL [(1,.int k),(2,.pt (2,0) [] 0),(4,.pt (4,0) [] 0),(8,.pt (8,0) [] 0),(10,.pt (10,0) [] 0),(11,.int x.1)],ofRO [((2,0),some (.bx (sS s))),((4,0),some (.bx [D.int 0,D.int 0,.v (.slice none 0 0),.v (.slice none 0 0)])),((8,0),some (.bx (fO E.1))),((10,0),some (.bx [D.int M.1.n,D.int M.1.r,owI M.1.d,.ow 2 x.1 (rows fO x.2)]))]⟩) (fun x=>x.1<=s.f.length/\x.2=s.f.take x.1) (fun x=>s.f.length - x.1) (0,[]) [.cell (10,0) [] 3 2] (by simp [C.spec_l3Mutate,rows,sS,fO];(first | (constructor <;> funext t) | funext t) <;> simp only [ofL,ofRO] <;> (repeat' (first | rfl | split)) <;> simp_all) (by simp) ?_
    intro x1 hx1 R1 hR1
    obtain ⟨j,gs⟩:=x1
    obtain ⟨hj,hg⟩:=hx1
    dsimp only at hj hg ⊢
    refine wseq ?_
    refine wseq ?_
    refine wreg fun K hK=>?_
    simp [C.spec_l3Mutate,sS]
    refine hK _ ?_;clear hK K
    show AWp _ _ _ _ _
    refine wcond _ rfl (fun hc2=>?_) (fun hc2=>?_)
    ·have h1:j < s.f.length:=by have:=d_t hc2;omega
     have hgl:gs.length=j:=by rw [hg];simp;omega
     have hcj:=hgd.2.2 _ (List.getElem_mem h1)
     refine wskip ?_
     show AWp _ _ _ _ _
     refine wseq ?_
     refine wblock ?_
     refine wdrawI [(true,0),(true,1),(true,2),(true,3),(true,4),(true,5),(true,6),(false,7),(false,8),(false,9),(true,10),(false,11)] ⟨by kernel_rfl,by kernel_rfl⟩ ([0,1,2,3,4,5,6,7] ++ ([8,9,10,11])) rfl fun K hK=>?_
     refine opsI_seg fun L hL=>?_
     simp [C.spec_l3Mutate,sS,h1,fS_0 h1,fS_1 h1,fO,fO_snoc,show (j:Int) < s.f.length by omega,show (j+1)*32<=140737488355328 by omega]
     refine wcall1 (spec_l3CopyLaurent_calls s.f[j] (by have:=hcj.1;omega) (fun t ht=>by have:=hcj.2.1 t ht;omega)) (by simp) (by simp) ?_
     simp [C.spec_l3Mutate,sS,h1,fS_0 h1,fS_1 h1,fO,fO_snoc,show (j:Int) < s.f.length by omega,show (j+1)*32<=140737488355328 by omega]
     refine hL _ ?_;clear hL L
     refine opsI_end fun L hL=>?_
     simp [C.spec_l3Mutate,sS,h1,fS_0 h1,fS_1 h1,fO,fO_snoc,show (j:Int) < s.f.length by omega,show (j+1)*32<=140737488355328 by omega]
     refine hL _ ?_;clear hL L
     simp [C.spec_l3Mutate,sS,h1,fS_0 h1,fS_1 h1,fO,fO_snoc,show (j:Int) < s.f.length by omega,show (j+1)*32<=140737488355328 by omega]
     refine hK _ ?_;clear hK K
     show AWp _ _ _ _ _
     refine wreg fun K hK=>?_
     simp [C.spec_l3Mutate,sS,wrap_succ (show j < 4611686018427387904 by omega)]
     refine hK _ ?_;clear hK K
     simp [C.spec_l3Mutate,sS]
     refine cast (congrArg R1 ?_) (hR1 (j+1,gs ++ [s.f[j]]) ⟨h1,?_⟩ (by dsimp only;omega))
     ·simp [sS,fO]
     ·dsimp only
      rw [hg,List.take_succ_eq_append_getElem h1]
    ·have h1:j=s.f.length:=by have:=d_f hc2;omega
     rw [h1,List.take_length] at hg
     refine wexit ?_
     show AWp _ _ _ _ _
     refine wseq ?_
     refine wreg fun K hK=>?_
     simp [C.spec_l3Mutate,sS,fO,hg,h1,hkl,show (k:Int) < s.f.length by omega,fO_0 hkl,fO_1 hkl,fO_set2]
     refine hK _ ?_;clear hK K
     show AWp _ _ _ _ _
     refine wseq ?_
     refine wreg fun K hK=>?_
     simp [C.spec_l3Mutate,sS,h1,hg]
     refine hK _ ?_;clear hK K
     show AWp _ _ _ _ _
     refine wret ?_
     simp [C.spec_l3Mutate,sS,hm,sO]
  clear hK
  by_cases h1:M.2=true
  ·simp [C.spec_l3Mutate,sS,h1]
   refine cast (congrArg K ?_) hJ
   simp [fO,mO,sS,sS,h1]
  ·simp [C.spec_l3Mutate,sS,h1]
   refine cast (congrArg K ?_) hJ
   simp [fO,mO,sS,sS,h1]
 clear hK
 simp [C.spec_l3Mutate,hn,hr,sS,fS_0 hkl,fS_1 hkl,hkl,hkg,show (k:Int) < s.f.length by omega]
 repeat' first
  | (refine wcall1 (hcol) ?_ (by simp) ?_;(focus (simp;done));simp [C.spec_l3Mutate,fO])
  | (refine wcall1 (hex) ?_ (by simp) ?_;(focus (simp;done));simp [C.spec_l3Mutate,fO])
  | (refine cast (congrArg K ?_) hJ;simp [fO,mO,sS,hn,hr];done)
  | refine And.intro ?_ ?_
theorem sMt_calls (s:Sed) (k:Nat) (hx:s.m.d.length < 17592186044416) (hok:SeedOK s) (hk:(k:Int) < s.m.n):ACalls Tryz.prog F.spec_l3Mutate [aS s,.int k] [] true (fun outs res=>outs=[]/\res=[.ag (sO (seedF s k).1),.one (D.bool (seedF s k).2)]):=(spec_l3Mutate_calls s k hx hok hk).weak1
theorem spec_MutateSeed_calls (s:Sed) (k:Int) (hx:s.m.d.length < 17592186044416) (hl:s.f.length < 4611686018427387904) (hf:∀ f∈s.f,SmF f):ACalls Tryz.prog F.spec_MutateSeed [aS s,.int k] [] true (fun outs res=>outs=[]/\WkRs res [.ag (sO (seedF s k).1),.one (D.bool (seedF s k).2)]):=by
 refine ACalls.of_body (C:=C.spec_MutateSeed) (n:=Tryz.f24.ntmps) tabT folT Tryz.func24 rfl (by kernel_rfl) rfl (Nat.le_of_ble_eq_true rfl) (by decide) (by kernel_rfl) (by kernel_rfl) rfl (by simp) (by simp) ?_
 simp only [Tryz.f24]
 refine wseq ?_
 refine wreg fun K hK=>?_
 simp [C.spec_MutateSeed,sS]
 refine hK _ ?_;clear hK K
 show AWp _ _ _ _ _
 refine wseq ?_
 refine wseq ?_
 refine wregI ([0,1] ++ ([2,3,4,5,6,7,8,9] ++ ([10,11]))) rfl fun K hK=>?_
 have hJ:K ⟨ofL [(1,.int k),(2,.pt (2,0) [] 0),(4,.pt (4,0) [] 0),(17,.bool (!decide (SeedOK s/\(0<=k/\k < s.m.n))))],ofRO [((2,0),some (.bx (sS s))),((4,0),some (.bx [D.int 0,D.int 0,.v (.slice none 0 0),.v (.slice none 0 0)]))]⟩:=by
  refine hK _ ?_;clear hK K
  show AWp _ _ _ _ _
  refine wcond _ rfl (fun hc1=>?_) (fun hc1=>?_)
  ·have hr:=nd_t hc1
   have hm:seedF s k=(⟨⟨0,0,[]⟩,[]⟩,false):=if_neg (fun h=>hr ⟨h.1,h.2.1⟩)
   refine wseq ?_
   refine wreg fun K hK=>?_
   simp [C.spec_MutateSeed,sS]
   refine hK _ ?_;clear hK K
   show AWp _ _ _ _ _
   refine wret ?_
   simp [C.spec_MutateSeed,sS,hm,sO,ints,rows]
  ·have hr:=nd_f hc1
   obtain ⟨hok,hk⟩:=hr
   obtain ⟨k,rfl⟩:∃ j:Nat,k=j:=⟨k.toNat,by omega⟩
   refine wskip ?_
   show AWp _ _ _ _ _
   refine wseq ?_
   refine wregI ([0,1,2] ++ ([3,4,5,6])) rfl fun K hK=>?_
   refine opsI_seg fun L hL=>?_
   simp [C.spec_MutateSeed,sS,sO]
   refine wcall1 (sMt_calls s k hx hok hk.2) (by simp) (by simp) ?_
   simp [C.spec_MutateSeed,sS,sO]
   refine hL _ ?_;clear hL L
   refine opsI_end fun L hL=>?_
   simp [C.spec_MutateSeed,sS,sO]
   refine hL _ ?_;clear hL L
   simp [C.spec_MutateSeed,sS,sO]
   refine hK _ ?_;clear hK K
   show AWp _ _ _ _ _
   refine wret ?_
   simp [C.spec_MutateSeed,sS,sO]
 clear hK
 by_cases h1:SeedOK s
 ·have hwn:IntKind.i64.wrap (s.m.n - 1)=s.m.n - 1:=by have:=h1.1.1.1;exact wrapOk (by omega) (by omega)
  have hle:∀ x:Int,(x<=s.m.n - 1)=(x < s.m.n):=fun x=>by rw [eq_iff_iff];omega
  refine opsI_seg fun L hL=>?_
  simp [C.spec_MutateSeed,sS,hwn,hle,h1]
  refine wcall1 (spec_SeedOk_calls s hx hl hf) (by simp) (by simp) ?_
  simp [C.spec_MutateSeed,sS,hwn,hle,h1]
  refine hL _ ?_;clear hL L
  refine opsI_seg fun L hL=>?_
  simp [C.spec_MutateSeed,sS,hwn,hle,h1]
  refine wcall1 (spec_l1In_calls k 0 (s.m.n - 1)) (by simp) (by simp) ?_
  simp [C.spec_MutateSeed,sS,hwn,hle,h1]
  refine hL _ ?_;clear hL L
  refine opsI_end fun L hL=>?_
  simp [C.spec_MutateSeed,sS,hwn,hle,h1]
  refine hL _ ?_;clear hL L
  simp [C.spec_MutateSeed,sS,hwn,hle,h1]
  refine cast (congrArg K ?_) hJ
  simp [Bool.not_and,sS,h1]
 ·refine opsI_seg fun L hL=>?_
  simp [C.spec_MutateSeed,sS,h1]
  refine wcall1 (spec_SeedOk_calls s hx hl hf) (by simp) (by simp) ?_
  simp [C.spec_MutateSeed,sS,h1]
  refine hL _ ?_;clear hL L
  refine opsI_seg fun L hL=>?_
  simp [C.spec_MutateSeed,sS,h1]
  refine hL _ ?_;clear hL L
  refine opsI_end fun L hL=>?_
  simp [C.spec_MutateSeed,sS,h1]
  refine hL _ ?_;clear hL L
  simp [C.spec_MutateSeed,sS,h1]
  refine cast (congrArg K ?_) hJ
  simp [Bool.not_and,sS,h1]
theorem sMs_calls (s:Sed) (k:Int) (hx:s.m.d.length < 17592186044416) (hl:s.f.length < 4611686018427387904) (hf:∀ f∈s.f,SmF f):ACalls Tryz.prog F.spec_MutateSeed [aS s,.int k] [] true (fun outs res=>outs=[]/\res=[.ag (sO (seedF s k).1),.one (D.bool (seedF s k).2)]):=(spec_MutateSeed_calls s k hx hl hf).weak1
theorem spec_MutateSeedAlong_calls (s:Sed) (ks:List Int) (hx:s.m.d.length < 17592186044416) (hl:s.f.length < 4611686018427387904) (hf:∀ f∈s.f,SmF f) (hks:ks.length < 4611686018427387904):ACalls Tryz.prog F.spec_MutateSeedAlong [aS s,.d (shI ks)] [] true (fun outs res=>outs=[]/\WkRs res [.ag (sO (alongF s ks).1),.one (D.bool (alongF s ks).2)]):=by
 refine ACalls.of_body (C:=C.spec_MutateSeedAlong) (n:=Tryz.f98.ntmps) tabT folT Tryz.func98 rfl (by kernel_rfl) rfl (Nat.le_of_ble_eq_true rfl) (by decide) (by kernel_rfl) (by kernel_rfl) rfl (by simp) (by simp) ?_
 simp only [Tryz.f98]
 refine wseq ?_
 refine wreg fun K hK=>?_
 simp [C.spec_MutateSeedAlong,sS]
 refine hK _ ?_;clear hK K
 show AWp _ _ _ _ _
 refine wseq ?_
 refine wseq ?_
 refine wregI ([0,1] ++ ([2,3,4,5,6,7])) rfl fun K hK=>?_
 have hJ:K ⟨ofL [(1,.d (shI ks)),(2,.pt (2,0) [] 0),(4,.pt (4,0) [] 0),(18,.bool (!decide (SeedOK s/\ks.length<=40)))],ofRO [((2,0),some (.bx (sS s))),((4,0),some (.bx [D.int 0,D.int 0,.v (.slice none 0 0),.v (.slice none 0 0)]))]⟩:=by
  refine hK _ ?_;clear hK K
  show AWp _ _ _ _ _
  refine wcond _ rfl (fun hc1=>?_) (fun hc1=>?_)
  ·have hr:=nd_t hc1
   have hm:alongF s ks=(zeroS,false):=if_neg hr
   refine wseq ?_
   refine wreg fun K hK=>?_
   simp [C.spec_MutateSeedAlong,sS]
   refine hK _ ?_;clear hK K
   show AWp _ _ _ _ _
   refine wret ?_
   simp [C.spec_MutateSeedAlong,sS,hm,zeroS,sO,ints,rows]
  ·have hr:=nd_f hc1
   obtain ⟨hok,hk40⟩:=hr
   have hgd:=GdS.ok hok
   have hm:alongF s ks=(match foldS ks s with | some t=>(t,true) | none=>(zeroS,false)):=if_pos ⟨hok,hk40⟩
   obtain ⟨goal,hgoal⟩:∃ goal,goal=foldS ks s:=⟨_,rfl⟩
   rw [← hgoal] at hm
   have hcopy:=spec_l1CopyMatrix_calls s.m hx
   refine wskip ?_
   show AWp _ _ _ _ _
   refine wseq ?_
   refine wregI ([0,1,2] ++ ([3,4,5])) rfl fun K hK=>?_
   refine opsI_seg fun L hL=>?_
   simp [C.spec_MutateSeedAlong,sS,mO]
   refine wcall1 (hcopy) (by simp) (by simp) ?_
   simp [C.spec_MutateSeedAlong,sS,mO]
   refine hL _ ?_;clear hL L
   refine opsI_end fun L hL=>?_
   simp [C.spec_MutateSeedAlong,sS,mO]
   refine hL _ ?_;clear hL L
   simp [C.spec_MutateSeedAlong,sS,mO]
   refine hK _ ?_;clear hK K
   show AWp _ _ _ _ _
   refine wseq ?_
   refine wseq ?_
   refine wreg fun K hK=>?_
   simp [C.spec_MutateSeedAlong,sS]
   refine hK _ ?_;clear hK K
   show AWp _ _ _ _ _
   refine wblock ?_
   refine wloopW (fun x:Nat×List Lau=>⟨ofL [(1,.d (shI ks)),(2,.pt (2,0) [] 0),(4,.pt (4,0) [] 0),(6,.pt (6,0) [] 0),(7,.int x.1)],ofRO [((2,0),some (.bx (sS s))),((4,0),some (.bx [D.int 0,D.int 0,.v (.slice none 0 0),.v (.slice none 0 0)])),((6,0),some (.bx [D.int s.m.n,D.int s.m.r,owI s.m.d,.ow 2 x.1 (rows fO x.2)]))]⟩) (fun x=>x.1<=s.f.length/\x.2=s.f.take x.1) (fun x=>s.f.length - x.1) (0,[]) [.cell (6,0) [] 3 2] (by simp [C.spec_MutateSeedAlong,rows,sS];(first | (constructor <;> funext t) | funext t) <;> simp only [ofL,ofRO] <;> (repeat' (first | rfl | split)) <;> simp_all) (by simp) ?_
   intro x1 hx1 R1 hR1
   obtain ⟨j,gs⟩:=x1
   obtain ⟨hj,hg⟩:=hx1
   dsimp only at hj hg ⊢
   refine wseq ?_
   refine wseq ?_
   refine wreg fun K hK=>?_
   simp [C.spec_MutateSeedAlong,sS]
   refine hK _ ?_;clear hK K
   show AWp _ _ _ _ _
   refine wcond _ rfl (fun hc2=>?_) (fun hc2=>?_)
   ·have h1:j < s.f.length:=by have:=d_t hc2;omega
    have hgl:gs.length=j:=by rw [hg];simp;omega
    have hcj:=hgd.2.2 _ (List.getElem_mem h1)
    have hfl8:=hgd.2.1
    refine wskip ?_
    show AWp _ _ _ _ _
    refine wseq ?_
    refine wblock ?_
    refine wdrawI [(true,0),(true,1),(true,2),(true,3),(true,4),(true,5),(true,6),(false,7),(false,8),(false,9),(true,10),(false,11)] ⟨by kernel_rfl,by kernel_rfl⟩ ([0,1,2,3,4,5,6,7] ++ ([8,9,10,11])) rfl fun K hK=>?_
    refine opsI_seg fun L hL=>?_
    simp [C.spec_MutateSeedAlong,sS,h1,fS_0 h1,fS_1 h1,fO,fO_snoc,show (j:Int) < s.f.length by omega,show (j+1)*32<=140737488355328 by omega]
    refine wcall1 (spec_l3CopyLaurent_calls s.f[j] (by have:=hcj.1;omega) (fun t ht=>by have:=hcj.2.1 t ht;omega)) (by simp) (by simp) ?_
    simp [C.spec_MutateSeedAlong,sS,h1,fS_0 h1,fS_1 h1,fO,fO_snoc,show (j:Int) < s.f.length by omega,show (j+1)*32<=140737488355328 by omega]
    refine hL _ ?_;clear hL L
    refine opsI_end fun L hL=>?_
    simp [C.spec_MutateSeedAlong,sS,h1,fS_0 h1,fS_1 h1,fO,fO_snoc,show (j:Int) < s.f.length by omega,show (j+1)*32<=140737488355328 by omega]
    refine hL _ ?_;clear hL L
    simp [C.spec_MutateSeedAlong,sS,h1,fS_0 h1,fS_1 h1,fO,fO_snoc,show (j:Int) < s.f.length by omega,show (j+1)*32<=140737488355328 by omega]
    refine hK _ ?_;clear hK K
    show AWp _ _ _ _ _
    refine wreg fun K hK=>?_
    simp [C.spec_MutateSeedAlong,sS,wrap_succ (show j < 4611686018427387904 by omega)]
    refine hK _ ?_;clear hK K
    simp [C.spec_MutateSeedAlong,sS]
    refine cast (congrArg R1 ?_) (hR1 (j+1,gs ++ [s.f[j]]) ⟨h1,?_⟩ (by dsimp only;omega))
    ·simp [sS]
    ·dsimp only
     rw [hg,List.take_succ_eq_append_getElem h1]
   ·have h1:j=s.f.length:=by have:=d_f hc2;omega
    rw [h1,List.take_length] at hg
    refine wexit ?_
    show AWp _ _ _ _ _
    refine wseq ?_
    refine wseq ?_
    refine wreg fun K hK=>?_
    simp [C.spec_MutateSeedAlong,sS]
    refine hK _ ?_;clear hK K
    show AWp _ _ _ _ _
    refine wblock ?_
    refine wloop (fun x:Nat×Sed=>⟨ofL [(1,.d (shI ks)),(4,.pt (4,0) [] 0),(6,.pt (6,0) [] 0),(8,.int x.1)],ofRO [((4,0),some (.bx [D.int 0,D.int 0,.v (.slice none 0 0),.v (.slice none 0 0)])),((6,0),some (.bx (sO x.2)))]⟩) (fun x=>x.1<=ks.length/\GdS x.2/\foldS (ks.drop x.1) x.2=goal) (fun x=>ks.length - x.1) (0,s) (by simp [C.spec_MutateSeedAlong,sO,hg,h1]) ⟨by simp,hgd,by rw [hgoal];rfl⟩ ?_
    intro x2 hx2 R2 hR2
    obtain ⟨i,t⟩:=x2
    obtain ⟨hi0,htg,htf⟩:=hx2
    dsimp only at hi0 htg htf ⊢
    refine wseq ?_
    refine wseq ?_
    refine wreg fun K hK=>?_
    simp [C.spec_MutateSeedAlong,sS]
    refine hK _ ?_;clear hK K
    show AWp _ _ _ _ _
    refine wcond _ rfl (fun hc3=>?_) (fun hc3=>?_)
    ·have hi:i < ks.length:=by have:=d_t hc3;omega
     rw [List.drop_eq_getElem_cons hi] at htf
     simp only [foldS] at htf
     have hms:=sMs_calls t ks[i] htg.sm.1 htg.sm.2.1 htg.sm.2.2
     have hgs:=GdS.seedF t ks[i]
     obtain ⟨P,hP⟩:∃ P,P=seedF t ks[i]:=⟨_,rfl⟩
     rw [← hP] at hms hgs htf
     refine wskip ?_
     show AWp _ _ _ _ _
     refine wseq ?_
     refine wblock ?_
     refine wseq ?_
     refine wdraw (.take 0 (.take 1 (.take 2 (.take 3 (.take 4 (.all [(5,.take 6 (.take 7 (.take 8 (.all [(9,.all [(10,.take 11 (.done))])])))),(9,.all [(5,.take 6 (.take 7 (.take 8 (.all [(10,.take 11 (.done))]))))])])))))) ⟨by kernel_rfl,by kernel_rfl⟩ fun K hK=>?_
     have hJ:K ⟨ofL [(1,.d (shI ks)),(4,.pt (4,0) [] 0),(6,.pt (6,0) [] 0),(8,.int i),(9,.pt (9,0) [] 0),(10,.bool P.2)],ofRO [((4,0),some (.bx [D.int 0,D.int 0,.v (.slice none 0 0),.v (.slice none 0 0)])),((6,0),some (.bx (sO t))),((9,0),some (.bx (sO P.1)))]⟩:=by
      refine hK _ ?_;clear hK K
      show AWp _ _ _ _ _
      refine wseq ?_
      refine wseq ?_
      refine wreg fun K hK=>?_
      simp [C.spec_MutateSeedAlong,sS]
      refine hK _ ?_;clear hK K
      show AWp _ _ _ _ _
      refine wcond _ rfl (fun hc4=>?_) (fun hc4=>?_)
      ·have hb:P.2=false:=by simpa using hc4
       rw [hb] at htf
       rw [← htf] at hm
       refine wseq ?_
       refine wreg fun K hK=>?_
       simp [C.spec_MutateSeedAlong,sS]
       refine hK _ ?_;clear hK K
       show AWp _ _ _ _ _
       refine wret ?_
       simp [C.spec_MutateSeedAlong,sS,hm,zeroS,sO,ints,rows]
      ·have hb:P.2=true:=by simpa using hc4
       rw [if_pos hb] at htf
       refine wskip ?_
       show AWp _ _ _ _ _
       refine wreg fun K hK=>?_
       simp [C.spec_MutateSeedAlong,sS,sO]
       refine hK _ ?_;clear hK K
       show AWp _ _ _ _ _
       refine wreg fun K hK=>?_
       simp [C.spec_MutateSeedAlong,sS,wrap_succ (show i < 4611686018427387904 by omega)]
       refine hK _ ?_;clear hK K
       simp [C.spec_MutateSeedAlong,sS]
       refine cast (congrArg R2 ?_) (hR2 (i+1,P.1) ⟨hi,hgs,htf⟩ (by dsimp only;omega))
       simp [sO]
     clear hK
     simp [C.spec_MutateSeedAlong,sO,hi,get_ints]
     repeat' first
      | (refine wcall1 (hms) ?_ (by simp) ?_;(focus (simp;done));simp [C.spec_MutateSeedAlong,sO])
      | (refine cast (congrArg K ?_) hJ;simp [sO];done)
      | refine And.intro ?_ ?_
    ·have hi:i=ks.length:=by have:=d_f hc3;omega
     rw [hi,List.drop_length] at htf
     simp only [foldS] at htf
     rw [← htf] at hm
     refine wexit ?_
     show AWp _ _ _ _ _
     refine wseq ?_
     refine wreg fun K hK=>?_
     simp [C.spec_MutateSeedAlong,sS,sO]
     refine hK _ ?_;clear hK K
     show AWp _ _ _ _ _
     refine wret ?_
     simp [C.spec_MutateSeedAlong,sS,hm,sO]
 clear hK
 by_cases h1:SeedOK s
 ·refine opsI_seg fun L hL=>?_
  simp [C.spec_MutateSeedAlong,sS,show ((40:Int) < ks.length)=(40 < ks.length) by rw [eq_iff_iff];omega,h1]
  refine wcall1 (spec_SeedOk_calls s hx hl hf) (by simp) (by simp) ?_
  simp [C.spec_MutateSeedAlong,sS,show ((40:Int) < ks.length)=(40 < ks.length) by rw [eq_iff_iff];omega,h1]
  refine hL _ ?_;clear hL L
  refine opsI_end fun L hL=>?_
  simp [C.spec_MutateSeedAlong,sS,show ((40:Int) < ks.length)=(40 < ks.length) by rw [eq_iff_iff];omega,h1]
  refine hL _ ?_;clear hL L
  simp [C.spec_MutateSeedAlong,sS,show ((40:Int) < ks.length)=(40 < ks.length) by rw [eq_iff_iff];omega,h1]
  refine cast (congrArg K ?_) hJ
  simp [Bool.not_and,show (!decide (ks.length<=40))=decide (40 < ks.length) by rw [Bool.eq_iff_iff];simp,sS,h1]
 ·refine opsI_seg fun L hL=>?_
  simp [C.spec_MutateSeedAlong,sS,show ((40:Int) < ks.length)=(40 < ks.length) by rw [eq_iff_iff];omega,h1]
  refine wcall1 (spec_SeedOk_calls s hx hl hf) (by simp) (by simp) ?_
  simp [C.spec_MutateSeedAlong,sS,show ((40:Int) < ks.length)=(40 < ks.length) by rw [eq_iff_iff];omega,h1]
  refine hL _ ?_;clear hL L
  refine opsI_end fun L hL=>?_
  simp [C.spec_MutateSeedAlong,sS,show ((40:Int) < ks.length)=(40 < ks.length) by rw [eq_iff_iff];omega,h1]
  refine hL _ ?_;clear hL L
  simp [C.spec_MutateSeedAlong,sS,show ((40:Int) < ks.length)=(40 < ks.length) by rw [eq_iff_iff];omega,h1]
  refine cast (congrArg K ?_) hJ
  simp [Bool.not_and,show (!decide (ks.length<=40))=decide (40 < ks.length) by rw [Bool.eq_iff_iff];simp,sS,h1]
theorem sAl_calls (s:Sed) (ks:List Int) (hx:s.m.d.length < 17592186044416) (hl:s.f.length < 4611686018427387904) (hf:∀ f∈s.f,SmF f) (hks:ks.length < 4611686018427387904):ACalls Tryz.prog F.spec_MutateSeedAlong [aS s,.d (shI ks)] [] true (fun outs res=>outs=[]/\res=[.ag (sO (alongF s ks).1),.one (D.bool (alongF s ks).2)]):=(spec_MutateSeedAlong_calls s ks hx hl hf hks).weak1
end Go.Proofs.YtbhkonnakkhibaaGreat.Ab
namespace Go.Proofs.YtbhkonnakkhibaaGreat.Ab
open Go
set_option maxRecDepth 10000
set_option maxHeartbeats 2000000
def szFs (fs:List Lau):Nat:=fs.length+cntL (fun f:Lau=>szT f.ts) fs
def szSd (s:Sed):Nat:=s.m.d.length+szFs s.f
def fZ:Option Lau->List D
 | none=>[D.int 0,.v (.slice none 0 0)]
 | some f=>fO f
theorem fZ_two (t:Option Lau):(fZ t).length=2:=by cases t <;> rfl
@[simp] theorem fZ_length (l:List (Option Lau)):(rows fZ l).length=2*l.length:=rows_length fZ_two l
theorem fZ_zero:∀ n:Nat,zerosD [.int .i64 0,.slice none 0 0] n=rows fZ (List.replicate n none)
 | 0=>rfl
 | n+1=>by
  simp only [zerosD,fZ_zero n,List.replicate_succ]
  rfl
theorem fZ_some (l:List Lau):rows fZ (l.map some)=rows fO l:=by
 induction l with
 | nil=>rfl
 | cons x l ih=>simp [rows,ih,fZ]
theorem fZ_none0 {l:List (Option Lau)} {i:Nat} (h:l[i]? = some none):(rows fZ l)[2*i]? = some (D.int 0)/\∀ h',(rows fZ l)[2*i]'h'=D.int 0:=by
 refine twice ?_
 obtain ⟨h1,h2⟩:=List.getElem?_eq_some_iff.1 h
 rw [show 2*i=2*i+0 from rfl,rows_get fZ_two l i 0 h1 (by omega),h2]
 rfl
theorem fZ_none1 {l:List (Option Lau)} {i:Nat} (h:l[i]? = some none):(rows fZ l)[2*i+1]? = some (.v (.slice none 0 0))/\∀ h',(rows fZ l)[2*i+1]'h' = .v (.slice none 0 0):=by
 refine twice ?_
 obtain ⟨h1,h2⟩:=List.getElem?_eq_some_iff.1 h
 rw [rows_get fZ_two l i 1 h1 (by omega),h2]
 rfl
theorem fZ_set2 {l:List (Option Lau)} {i:Nat} (h:i < l.length) (f:Lau):((rows fZ l).set (2*i) (.v (.int .i64 f.v))).set (2*i+1) (.ow 2 f.ts.length (rows tO f.ts))=rows fZ (l.set i (some f)):=
 rows_set2 fZ_two l i _ _ _ h rfl
theorem laws_szMatrix_calls (m:Mat) (left:Int) (h0:0<=left) (h1:left<=1048576) (hx:m.d.length < 4611686018427387904):ACalls Tryz.prog F.laws_szMatrix [aM m,.int left] [] true (fun outs res=>outs=[]/\∃ r:Int,res=[.one (D.int r)]/\(r=-1\/(0<=r/\r+m.d.length=left))):=by
 refine ACalls.of_body (C:=C.laws_szMatrix) (n:=Tryz.f9.ntmps) tabT folT Tryz.func9 rfl (by kernel_rfl) rfl (Nat.le_of_ble_eq_true rfl) (by decide) (by kernel_rfl) (by kernel_rfl) rfl (by simp) (by simp) ?_
 simp only [Tryz.f9]
 refine wseq ?_
 refine wreg fun K hK=>?_
 simp [C.laws_szMatrix]
 refine hK _ ?_;clear hK K
 show AWp _ _ _ _ _
 refine wseq ?_
 refine wregI ([0,1,2,3] ++ ([4])) rfl fun K hK=>?_
 refine opsI_seg fun L hL=>?_
 simp [C.laws_szMatrix]
 refine wcall (laws_szIntS_calls m.d left h0 h1 hx) (by simp) (by simp) (by simp) ?_
 rintro outs res ⟨rfl,r,rfl,hr⟩
 simp [C.laws_szMatrix]
 refine hL _ ?_;clear hL L
 refine opsI_end fun L hL=>?_
 simp [C.laws_szMatrix]
 refine hL _ ?_;clear hL L
 simp [C.laws_szMatrix]
 refine hK _ ?_;clear hK K
 show AWp _ _ _ _ _
 refine wseq ?_
 refine wseq ?_
 refine wreg fun K hK=>?_
 simp [C.laws_szMatrix]
 refine hK _ ?_;clear hK K
 show AWp _ _ _ _ _
 refine wcond _ rfl (fun hc1=>?_) (fun hc1=>?_)
 ·refine wseq ?_
  refine wreg fun K hK=>?_
  simp [C.laws_szMatrix]
  refine hK _ ?_;clear hK K
  show AWp _ _ _ _ _
  refine wret ?_
  simp [C.laws_szMatrix]
 ·refine wskip ?_
  show AWp _ _ _ _ _
  refine wseq ?_
  refine wreg fun K hK=>?_
  simp [C.laws_szMatrix]
  refine hK _ ?_;clear hK K
  show AWp _ _ _ _ _
  refine wret ?_
  simp at hc1
  simp [C.laws_szMatrix]
  omega
theorem laws_szLaurentS_calls (fs:List Lau) (left:Int) (h0:0<=left) (h1:left<=1048576) (hx:fs.length < 4611686018427387904) (hx2:∀ f∈fs,SmF f):ACalls Tryz.prog F.laws_szLaurentS [.d (.sh 2 fs.length (rows fS fs)),.int left] [] true (fun outs res=>outs=[]/\∃ r:Int,res=[.one (D.int r)]/\(r=-1\/(0<=r/\r+szFs fs=left))):=by
 refine ACalls.of_body (C:=C.laws_szLaurentS) (n:=Tryz.f166.ntmps) tabT folT Tryz.func166 rfl (by kernel_rfl) rfl (Nat.le_of_ble_eq_true rfl) (by decide) (by kernel_rfl) (by kernel_rfl) rfl (by simp) (by simp) ?_
 simp only [Tryz.f166]
 refine wseq ?_
 refine wreg fun K hK=>?_
 simp [C.laws_szLaurentS]
 refine hK _ ?_;clear hK K
 show AWp _ _ _ _ _
 refine wseq ?_
 refine wreg fun K hK=>?_
 simp [C.laws_szLaurentS]
 rw [wrapOk (x:=left - fs.length) (by omega) (by omega)]
 refine hK _ ?_;clear hK K
 show AWp _ _ _ _ _
 refine wseq ?_
 refine wseq ?_
 refine wreg fun K hK=>?_
 simp [C.laws_szLaurentS]
 refine hK _ ?_;clear hK K
 show AWp _ _ _ _ _
 refine wcond _ rfl (fun hc1=>?_) (fun hc1=>?_)
 ·refine wseq ?_
  refine wreg fun K hK=>?_
  simp [C.laws_szLaurentS]
  refine hK _ ?_;clear hK K
  show AWp _ _ _ _ _
  refine wret ?_
  simp [C.laws_szLaurentS]
 ·refine wskip ?_
  show AWp _ _ _ _ _
  refine wseq ?_
  refine wseq ?_
  refine wreg fun K hK=>?_
  simp [C.laws_szLaurentS]
  refine hK _ ?_;clear hK K
  show AWp _ _ _ _ _
  refine wblock ?_
  refine wloop (fun x:Nat×Int=>⟨ofL [(0,.d (.sh 2 fs.length (rows fS fs))),(1,.int x.2),(5,.int x.1)],ofRO []⟩) (fun x=>x.1<=fs.length/\0<=x.2/\x.2+fs.length+cntL (fun f:Lau=>szT f.ts) (fs.take x.1)=left) (fun x=>fs.length - x.1) (0,left - fs.length) (by simp [C.laws_szLaurentS]) (by simp at hc1;simp [cntL];omega) ?_
  intro x1 hx1 R1 hR1
  obtain ⟨j,r⟩:=x1
  obtain ⟨hj,hr0,hr⟩:=hx1
  dsimp only at hj hr0 hr ⊢
  refine wseq ?_
  refine wseq ?_
  refine wreg fun K hK=>?_
  simp [C.laws_szLaurentS]
  refine hK _ ?_;clear hK K
  show AWp _ _ _ _ _
  refine wcond _ rfl (fun hc2=>?_) (fun hc2=>?_)
  ·refine wskip ?_
   show AWp _ _ _ _ _
   refine wseq ?_
   refine wblock ?_
   refine wseq ?_
   have h2:j < fs.length:=by simpa using hc2
   refine wregI ([0,1,2,3,4,5] ++ ([6])) rfl fun K hK=>?_
   refine opsI_seg fun L hL=>?_
   simp [C.laws_szLaurentS,h2,fS_0 h2,fS_1 h2]
   refine wcall (laws_szLaurent_calls fs[j] r (by omega) (by omega) (hx2 _ (List.getElem_mem h2)).1 (hx2 _ (List.getElem_mem h2)).2) (by simp) (by simp) (by simp) ?_
   rintro outs res ⟨rfl,r2,rfl,hr2⟩
   simp [C.laws_szLaurentS,h2,fS_0 h2,fS_1 h2]
   refine hL _ ?_;clear hL L
   refine opsI_end fun L hL=>?_
   simp [C.laws_szLaurentS,h2,fS_0 h2,fS_1 h2]
   refine hL _ ?_;clear hL L
   simp [C.laws_szLaurentS,h2,fS_0 h2,fS_1 h2]
   refine hK _ ?_;clear hK K
   show AWp _ _ _ _ _
   refine wseq ?_
   refine wreg fun K hK=>?_
   simp [C.laws_szLaurentS]
   refine hK _ ?_;clear hK K
   show AWp _ _ _ _ _
   refine wcond _ rfl (fun hc3=>?_) (fun hc3=>?_)
   ·refine wseq ?_
    refine wreg fun K hK=>?_
    simp [C.laws_szLaurentS]
    refine hK _ ?_;clear hK K
    show AWp _ _ _ _ _
    refine wret ?_
    simp [C.laws_szLaurentS]
   ·refine wskip ?_
    show AWp _ _ _ _ _
    refine wreg fun K hK=>?_
    simp [C.laws_szLaurentS,wrap_succ (show j < 4611686018427387904 by omega)]
    refine hK _ ?_;clear hK K
    simp [C.laws_szLaurentS]
    have hc3':0<=r2:=by simpa using hc3
    refine hR1 (j+1,r2) ⟨h2,hc3',?_⟩ (by dsimp only;omega)
    dsimp only
    rw [cntL_step _ _ _ h2]
    omega
  ·refine wexit ?_
   show AWp _ _ _ _ _
   refine wseq ?_
   refine wreg fun K hK=>?_
   simp [C.laws_szLaurentS]
   refine hK _ ?_;clear hK K
   show AWp _ _ _ _ _
   refine wret ?_
   have hj2:j=fs.length:=by simp at hc2;omega
   simp [C.laws_szLaurentS]
   right
   refine ⟨hr0,?_⟩
   rw [hj2,List.take_length] at hr
   unfold szFs
   omega
theorem laws_szSeed_calls (s:Sed) (left:Int) (h0:0<=left) (h1:left<=1048576) (hx:SmS s):ACalls Tryz.prog F.laws_szSeed [aS s,.int left] [] true (fun outs res=>outs=[]/\∃ r:Int,res=[.one (D.int r)]/\(r=-1\/(0<=r/\r+szSd s=left))):=by
 refine ACalls.of_body (C:=C.laws_szSeed) (n:=Tryz.f96.ntmps) tabT folT Tryz.func96 rfl (by kernel_rfl) rfl (Nat.le_of_ble_eq_true rfl) (by decide) (by kernel_rfl) (by kernel_rfl) rfl (by simp) (by simp) ?_
 simp only [Tryz.f96]
 refine wseq ?_
 refine wreg fun K hK=>?_
 simp [C.laws_szSeed]
 refine hK _ ?_;clear hK K
 show AWp _ _ _ _ _
 refine wseq ?_
 refine wregI ([0,1,2,3] ++ ([4])) rfl fun K hK=>?_
 refine opsI_seg fun L hL=>?_
 simp [C.laws_szSeed]
 refine wcall (laws_szMatrix_calls s.m left h0 h1 hx.1) (by simp) (by simp) (by simp) ?_
 rintro outs res ⟨rfl,r,rfl,hr⟩
 simp [C.laws_szSeed]
 refine hL _ ?_;clear hL L
 refine opsI_end fun L hL=>?_
 simp [C.laws_szSeed]
 refine hL _ ?_;clear hL L
 simp [C.laws_szSeed]
 refine hK _ ?_;clear hK K
 show AWp _ _ _ _ _
 refine wseq ?_
 refine wseq ?_
 refine wreg fun K hK=>?_
 simp [C.laws_szSeed]
 refine hK _ ?_;clear hK K
 show AWp _ _ _ _ _
 refine wcond _ rfl (fun hc1=>?_) (fun hc1=>?_)
 ·refine wseq ?_
  refine wreg fun K hK=>?_
  simp [C.laws_szSeed]
  refine hK _ ?_;clear hK K
  show AWp _ _ _ _ _
  refine wret ?_
  simp [C.laws_szSeed]
 ·have q1:0<=r:=by have:=d_f hc1;omega
  refine wskip ?_
  show AWp _ _ _ _ _
  refine wseq ?_
  refine wregI ([0,1,2,3] ++ ([4])) rfl fun K hK=>?_
  refine opsI_seg fun L hL=>?_
  simp [C.laws_szSeed]
  refine wcall (laws_szLaurentS_calls s.f r (by omega) (by omega) hx.2.1 hx.2.2) (by simp) (by simp) (by simp) ?_
  rintro outs res ⟨rfl,r2,rfl,hr2⟩
  simp [C.laws_szSeed]
  refine hL _ ?_;clear hL L
  refine opsI_end fun L hL=>?_
  simp [C.laws_szSeed]
  refine hL _ ?_;clear hL L
  simp [C.laws_szSeed]
  refine hK _ ?_;clear hK K
  show AWp _ _ _ _ _
  refine wseq ?_
  refine wseq ?_
  refine wreg fun K hK=>?_
  simp [C.laws_szSeed]
  refine hK _ ?_;clear hK K
  show AWp _ _ _ _ _
  refine wcond _ rfl (fun hc2=>?_) (fun hc2=>?_)
  ·refine wseq ?_
   refine wreg fun K hK=>?_
   simp [C.laws_szSeed]
   refine hK _ ?_;clear hK K
   show AWp _ _ _ _ _
   refine wret ?_
   simp [C.laws_szSeed]
  ·refine wskip ?_
   show AWp _ _ _ _ _
   refine wseq ?_
   refine wreg fun K hK=>?_
   simp [C.laws_szSeed]
   refine hK _ ?_;clear hK K
   show AWp _ _ _ _ _
   refine wret ?_
   simp at hc2
   simp [C.laws_szSeed]
   unfold szSd
   omega
theorem laws_toMatrix_calls (m:Mat) (hx:m.d.length<=1048576):ACalls Tryz.prog F.laws_toMatrix [aM m] [] true (fun outs res=>outs=[]/\res=[.ag (mO m)]):=by
 refine ACalls.of_body (C:=C.laws_toMatrix) (n:=Tryz.f11.ntmps) tabT folT Tryz.func11 rfl (by kernel_rfl) rfl (Nat.le_of_ble_eq_true rfl) (by decide) (by kernel_rfl) (by kernel_rfl) rfl (by simp) (by simp) ?_
 simp only [Tryz.f11]
 refine wseq ?_
 refine wreg fun K hK=>?_
 simp [C.laws_toMatrix]
 refine hK _ ?_;clear hK K
 show AWp _ _ _ _ _
 refine wseq ?_
 refine wreg fun K hK=>?_
 simp [C.laws_toMatrix]
 refine hK _ ?_;clear hK K
 show AWp _ _ _ _ _
 refine wseq ?_
 refine wreg fun K hK=>?_
 simp [C.laws_toMatrix]
 refine hK _ ?_;clear hK K
 show AWp _ _ _ _ _
 refine wseq ?_
 refine wreg fun K hK=>?_
 simp [C.laws_toMatrix]
 refine hK _ ?_;clear hK K
 show AWp _ _ _ _ _
 refine wseq ?_
 refine wregI ([0,1,2] ++ ([3,4])) rfl fun K hK=>?_
 refine opsI_seg fun L hL=>?_
 simp [C.laws_toMatrix]
 refine wcall1 (laws_toIntS_calls m.d hx) (by simp) (by simp) ?_
 simp [C.laws_toMatrix]
 refine hL _ ?_;clear hL L
 refine opsI_end fun L hL=>?_
 simp [C.laws_toMatrix]
 refine hL _ ?_;clear hL L
 simp [C.laws_toMatrix]
 refine hK _ ?_;clear hK K
 show AWp _ _ _ _ _
 refine wseq ?_
 refine wreg fun K hK=>?_
 simp [C.laws_toMatrix]
 refine hK _ ?_;clear hK K
 show AWp _ _ _ _ _
 refine wret ?_
 simp [C.laws_toMatrix,mO]
theorem laws_toLaurentS_calls (fs:List Lau) (hx:fs.length<=1048576) (hx2:∀ f∈fs,f.ts.length<=1048576/\∀ t∈f.ts,t.e.length<=1048576):ACalls Tryz.prog F.laws_toLaurentS [.d (.sh 2 fs.length (rows fS fs))] [] true (fun outs res=>outs=[]/\res=[.one (.ow 2 fs.length (rows fO fs))]):=by
 refine ACalls.of_body (C:=C.laws_toLaurentS) (n:=Tryz.f170.ntmps) tabT folT Tryz.func170 rfl (by kernel_rfl) rfl (Nat.le_of_ble_eq_true rfl) (by decide) (by kernel_rfl) (by kernel_rfl) rfl (by simp) (by simp) ?_
 simp only [Tryz.f170]
 refine wseq ?_
 refine wreg fun K hK=>?_
 simp [C.laws_toLaurentS]
 refine hK _ ?_;clear hK K
 show AWp _ _ _ _ _
 refine wseq ?_
 refine wreg fun K hK=>?_
 simp [C.laws_toLaurentS,fZ_zero,show (32:Int)*fs.length<=281474976710656 by omega,show (fs.length:Int)<=281474976710656 by omega]
 refine hK _ ?_;clear hK K
 show AWp _ _ _ _ _
 refine wseq ?_
 refine wseq ?_
 refine wreg fun K hK=>?_
 simp [C.laws_toLaurentS]
 refine hK _ ?_;clear hK K
 show AWp _ _ _ _ _
 refine wblock ?_
 refine wloop (fun x:Nat×List (Option Lau)=>⟨ofL [(0,.d (.sh 2 fs.length (rows fS fs))),(3,.al (3,0) [] 0 fs.length),(4,.int x.1)],ofRO [((3,0),some (.ow 2 fs.length (rows fZ x.2)))]⟩) (fun x=>x.1<=fs.length/\x.2=(fs.take x.1).map some ++ List.replicate (fs.length - x.1) none) (fun x=>fs.length - x.1) (0,List.replicate fs.length none) (by simp [C.laws_toLaurentS]) (by simp) ?_
 intro x1 hx1 R1 hR1
 obtain ⟨j,gs⟩:=x1
 obtain ⟨hj,hg⟩:=hx1
 dsimp only at hj hg ⊢
 refine wseq ?_
 refine wseq ?_
 refine wreg fun K hK=>?_
 simp [C.laws_toLaurentS]
 refine hK _ ?_;clear hK K
 show AWp _ _ _ _ _
 refine wcond _ rfl (fun hc1=>?_) (fun hc1=>?_)
 ·refine wskip ?_
  show AWp _ _ _ _ _
  refine wseq ?_
  refine wblock ?_
  have h1:j < fs.length:=by simpa using hc1
  have hl:gs.length=fs.length:=by rw [hg];simp;omega
  have hn:gs[j]? = some none:=by
   rw [hg,List.getElem?_append_right (by simp;omega)]
   simp [Nat.min_eq_left hj,List.getElem?_replicate]
   omega
  have hxj:=hx2 _ (List.getElem_mem h1)
  refine wregI ([0,1,2,3,4,5,6] ++ ([7,8])) rfl fun K hK=>?_
  refine opsI_seg fun L hL=>?_
  simp [C.laws_toLaurentS,hl,h1,fS_0 h1,fS_1 h1,fO,fZ_none0 hn,fZ_none1 hn,fZ_set2 (show j < gs.length by omega)]
  refine wcall1 (laws_toLaurent_calls fs[j] hxj.1 hxj.2) (by simp) (by simp) ?_
  simp [C.laws_toLaurentS,hl,h1,fS_0 h1,fS_1 h1,fO,fZ_none0 hn,fZ_none1 hn,fZ_set2 (show j < gs.length by omega)]
  refine hL _ ?_;clear hL L
  refine opsI_end fun L hL=>?_
  simp [C.laws_toLaurentS,hl,h1,fS_0 h1,fS_1 h1,fO,fZ_none0 hn,fZ_none1 hn,fZ_set2 (show j < gs.length by omega)]
  refine hL _ ?_;clear hL L
  simp [C.laws_toLaurentS,hl,h1,fS_0 h1,fS_1 h1,fO,fZ_none0 hn,fZ_none1 hn,fZ_set2 (show j < gs.length by omega)]
  refine hK _ ?_;clear hK K
  show AWp _ _ _ _ _
  refine wreg fun K hK=>?_
  simp [C.laws_toLaurentS,wrap_succ (show j < 4611686018427387904 by omega)]
  refine hK _ ?_;clear hK K
  simp [C.laws_toLaurentS]
  refine hR1 (j+1,_) ⟨h1,?_⟩ (by dsimp only;omega)
  dsimp only
  have:=fill_step (fs.map some) j (by simpa using h1) none
  simp only [List.length_map,List.getElem_map,← List.map_take] at this
  rw [hg,← this]
 ·refine wexit ?_
  show AWp _ _ _ _ _
  refine wseq ?_
  refine wreg fun K hK=>?_
  simp [C.laws_toLaurentS]
  refine hK _ ?_;clear hK K
  show AWp _ _ _ _ _
  refine wret ?_
  have hj2:j=fs.length:=by simp at hc1;omega
  have hz:rows fZ gs=rows fO fs:=by rw [hg,hj2];simp [fZ_some]
  simp [C.laws_toLaurentS,hz,hj2]
theorem laws_toSeed_calls (s:Sed) (hx:s.m.d.length<=1048576) (hl:s.f.length<=1048576) (hx2:∀ f∈s.f,f.ts.length<=1048576/\∀ t∈f.ts,t.e.length<=1048576):ACalls Tryz.prog F.laws_toSeed [aS s] [] true (fun outs res=>outs=[]/\res=[.ag (sO s)]):=by
 refine ACalls.of_body (C:=C.laws_toSeed) (n:=Tryz.f100.ntmps) tabT folT Tryz.func100 rfl (by kernel_rfl) rfl (Nat.le_of_ble_eq_true rfl) (by decide) (by kernel_rfl) (by kernel_rfl) rfl (by simp) (by simp) ?_
 simp only [Tryz.f100]
 refine wseq ?_
 refine wreg fun K hK=>?_
 simp [C.laws_toSeed]
 refine hK _ ?_;clear hK K
 show AWp _ _ _ _ _
 refine wseq ?_
 refine wreg fun K hK=>?_
 simp [C.laws_toSeed]
 refine hK _ ?_;clear hK K
 show AWp _ _ _ _ _
 refine wseq ?_
 refine wregI ([0,1,2] ++ ([3,4])) rfl fun K hK=>?_
 refine opsI_seg fun L hL=>?_
 simp [C.laws_toSeed,mO]
 refine wcall1 (laws_toMatrix_calls s.m hx) (by simp) (by simp) ?_
 simp [C.laws_toSeed,mO]
 refine hL _ ?_;clear hL L
 refine opsI_end fun L hL=>?_
 simp [C.laws_toSeed,mO]
 refine hL _ ?_;clear hL L
 simp [C.laws_toSeed,mO]
 refine hK _ ?_;clear hK K
 show AWp _ _ _ _ _
 refine wseq ?_
 refine wregI ([0,1,2] ++ ([3,4])) rfl fun K hK=>?_
 refine opsI_seg fun L hL=>?_
 simp [C.laws_toSeed]
 refine wcall1 (laws_toLaurentS_calls s.f hl hx2) (by simp) (by simp) ?_
 simp [C.laws_toSeed]
 refine hL _ ?_;clear hL L
 refine opsI_end fun L hL=>?_
 simp [C.laws_toSeed]
 refine hL _ ?_;clear hL L
 simp [C.laws_toSeed]
 refine hK _ ?_;clear hK K
 show AWp _ _ _ _ _
 refine wseq ?_
 refine wreg fun K hK=>?_
 simp [C.laws_toSeed]
 refine hK _ ?_;clear hK K
 show AWp _ _ _ _ _
 refine wret ?_
 simp [C.laws_toSeed,sO]
end Go.Proofs.YtbhkonnakkhibaaGreat.Ab
namespace Go.Proofs.YtbhkonnakkhibaaGreat.Ab
open Go
theorem cntL_mem {α:Type} {f:α->Nat}:∀ {l:List α} {x:α},x∈l->f x<=cntL f l
 | [],_,h=>by simp at h
 | y :: l,x,h=>by
  simp only [cntL]
  rcases List.mem_cons.1 h with rfl | h
  ·omega
  ·have:=cntL_mem (f:=f) h
   omega
theorem szSd_small {s:Sed} {r:Int} (h0:0<=r) (h:r+szSd s<=1048576):s.m.d.length<=1048576/\s.f.length<=1048576/\∀ f∈s.f,f.ts.length<=1048576/\∀ t∈f.ts,t.e.length<=1048576:=by
 unfold szSd szFs at h
 refine ⟨by omega,by omega,fun f hf=>?_⟩
 have h1:=cntL_mem (f:=fun f:Lau=>szT f.ts) hf
 have h2:szT f.ts<=1048576:=by omega
 unfold szT at h2
 refine ⟨by omega,fun t ht=>?_⟩
 have h3:=cntL_mem (f:=fun t:Trm=>t.e.length) ht
 omega
theorem gds_sms {s:Sed} (h:GdS s):SmS s:=⟨by have:=h.1;omega,by have:=h.2.1;omega,fun f hf=>(h.2.2 f hf).sm'⟩
end Go.Proofs.YtbhkonnakkhibaaGreat.Ab
namespace Go.Proofs.YtbhkonnakkhibaaGreat.Ab
open Go
set_option maxRecDepth 10000
set_option maxHeartbeats 2000000
end Go.Proofs.YtbhkonnakkhibaaGreat.Ab
namespace Go.Proofs.YtbhkonnakkhibaaGreat.Ab
open Go
set_option linter.unusedSectionVars false
section
variable {K:Type} [DecidableEq K] {lt:K->K->Bool} {mul dv:K->K->K} {D:K->Prop} {chk:K->Int->Bool}
end
end Go.Proofs.YtbhkonnakkhibaaGreat.Ab
namespace Go.Proofs.YtbhkonnakkhibaaGreat.Ab
open Go
theorem lau_eta (f:Lau):(⟨f.v,(f.ts.map pr).map tm⟩:Lau)=f:=by
 rw [List.map_map]
 have:tm ∘ pr=id:=rfl
 rw [this,List.map_id]
end Go.Proofs.YtbhkonnakkhibaaGreat.Ab
namespace Go.Proofs.YtbhkonnakkhibaaGreat.Ab
open Go
section
variable {K:Type} [DecidableEq K] {lt:K->K->Bool} {mul:K->K->K}
def vl (φ:K->Int):List (K×Int)->Int
 | []=>0
 | x :: l=>x.2*φ x.1+vl φ l
omit [DecidableEq K] in
theorem vl_app (φ:K->Int):∀ l r:List (K×Int),vl φ (l ++ r)=vl φ l+vl φ r
 | [],r=>by simp [vl]
 | x :: l,r=>by simp only [List.cons_append,vl,vl_app φ l r];omega
theorem co_vl (k:K):∀ l:List (K×Int),co k l=vl (fun e=>if e=k then 1 else 0) l
 | []=>rfl
 | x :: l=>by
  simp only [co,vl,co_vl k l]
  split <;> simp
theorem nf_vl (ho:Ord lt) {l r:List (K×Int)} (h:∀ φ,vl φ l=vl φ r):nf lt l=nf lt r:=
 nf_unique ho (nf_desc ho _) (nf_nz _) fun k=>by rw [nf_co,co_vl,co_vl,h]
omit [DecidableEq K] in
theorem vl_congr {φ ψ:K->Int}:∀ {l:List (K×Int)},(∀ x∈l,φ x.1=ψ x.1)->vl φ l=vl ψ l
 | [],_=>rfl
 | x :: l,h=>by
  simp only [vl,h x (by simp),vl_congr (l:=l) fun y hy=>h y (by simp [hy])]
omit [DecidableEq K] in
theorem vl_add (φ ψ:K->Int):∀ l:List (K×Int),vl (fun e=>φ e+ψ e) l=vl φ l+vl ψ l
 | []=>rfl
 | x :: l=>by
  simp only [vl,vl_add φ ψ l,Int.mul_add]
  omega
omit [DecidableEq K] in
theorem vl_mul (c:Int) (φ:K->Int):∀ l:List (K×Int),vl (fun e=>c*φ e) l=c*vl φ l
 | []=>by simp [vl]
 | x :: l=>by
  simp only [vl,vl_mul c φ l,Int.mul_add]
  rw [Int.mul_left_comm]
omit [DecidableEq K] in
theorem vl_zero:∀ l:List (K×Int),vl (fun _=>0) l=0
 | []=>rfl
 | x :: l=>by simp [vl,vl_zero l]
omit [DecidableEq K] in
theorem vl_fub {J:Type} (φ:K->J->Int) (b:List (J×Int)):∀ a:List (K×Int),vl (fun e=>vl (fun e'=>φ e e') b) a=vl (fun e'=>vl (fun e=>φ e e') a) b
 | []=>by
  simp only [vl]
  rw [vl_zero]
 | x :: a=>by
  simp only [vl]
  rw [vl_add,vl_mul,vl_fub φ b a]
omit [DecidableEq K] in
theorem vl_map (g:K->K) (q:Int) (φ:K->Int):∀ l:List (K×Int),vl φ (l.map fun y=>(g y.1,q*y.2))=q*vl (fun e=>φ (g e)) l
 | []=>by simp [vl]
 | x :: l=>by
  simp only [List.map_cons,vl,vl_map g q φ l,Int.mul_add,Int.mul_assoc]
omit [DecidableEq K] in
theorem vl_prodK (φ:K->Int) (g:List (K×Int)):∀ a:List (K×Int),vl φ (prodK mul a g)=vl (fun e=>vl (fun e'=>φ (mul e e')) g) a
 | []=>rfl
 | x :: a=>by
  have:=vl_prodK φ g a
  unfold prodK at this ⊢
  simp only [List.flatMap_cons,vl_app,vl,this]
  unfold mulT
  rw [vl_map]
omit [DecidableEq K] in
theorem vl_prod_com {D:K->Prop} (hc:∀ a b,D a->D b->mul a b=mul b a) (φ:K->Int) {a b:List (K×Int)} (ha:∀ x∈a,D x.1) (hb:∀ x∈b,D x.1):vl φ (prodK mul a b)=vl φ (prodK mul b a):=by
 rw [vl_prodK,vl_prodK,vl_fub]
 exact vl_congr fun x hx=>vl_congr fun y hy=>by rw [hc _ _ (ha y hy) (hb x hx)]
omit [DecidableEq K] in
omit [DecidableEq K] in
end
end Go.Proofs.YtbhkonnakkhibaaGreat.Ab
namespace Go.Proofs.YtbhkonnakkhibaaGreat.Ab
open Go
def ValOk (f:Lau) (ys:List Int):Prop:=Right f/\(ys.length:Int)=f.v/\∀ y∈ys,y % 32003≠0
noncomputable instance (f:Lau) (ys:List Int):Decidable (ValOk f ys):=Classical.propDecidable _
end Go.Proofs.YtbhkonnakkhibaaGreat.Ab
namespace Go.Proofs.YtbhkonnakkhibaaGreat.Ab
open Go
set_option maxRecDepth 10000
set_option maxHeartbeats 2000000
def byts (xs:List Int):List D:=xs.map fun x=>D.v (.int .u8 x)
@[simp] theorem byts_length (xs:List Int):(byts xs).length=xs.length:=by simp [byts]
def cur (xs:List Int) (i:Nat) (h:Int):D:=.bx [.sh 1 xs.length (byts xs),D.int i,D.int h]
attribute [local simp] cur
end Go.Proofs.YtbhkonnakkhibaaGreat.Ab
namespace Go.Proofs.YtbhkonnakkhibaaGreat.Ab
open Go
set_option maxRecDepth 10000
set_option maxHeartbeats 2000000
attribute [local simp] cur
def Drawn (n:Nat) (f:Lau):Prop:=Right f/\f.v=n/\f.ts.length<=4/\∀ t∈f.ts,(-16<=t.c/\t.c<=16)/\∀ x∈t.e,-2<=x/\x<=2
end Go.Proofs.YtbhkonnakkhibaaGreat.Ab
namespace Go.Proofs.YtbhkonnakkhibaaGreat.Ab
open Go
set_option maxRecDepth 10000
set_option maxHeartbeats 2000000
attribute [local simp] cur
end Go.Proofs.YtbhkonnakkhibaaGreat.Ab
namespace Go.Proofs.YtbhkonnakkhibaaGreat.Ab
open Go
set_option maxRecDepth 10000
set_option maxHeartbeats 2000000
end Go.Proofs.YtbhkonnakkhibaaGreat.Ab
namespace Go.Proofs.YtbhkonnakkhibaaGreat.Ab
open Go
theorem addE_comm1:∀ (a b:List Int),a.length=b.length->addE 1 a b=addE 1 b a
 | [],[],_=>rfl
 | x :: a,y :: b,h=>by
  simp only [addE,addE_comm1 a b (by simpa using h),Int.one_mul]
  rw [Int.add_comm]
theorem prodL_eq (a b:List (List Int×Int)):prodL a b=prodK (addE 1) a b:=rfl
theorem ring_com {n:Nat} {f g:Lau} (hf:∀ x∈f.ts.map pr,x.1.length=n) (hg:∀ x∈g.ts.map pr,x.1.length=n):nf lexlt (prodL (f.ts.map pr) (g.ts.map pr))=nf lexlt (prodL (g.ts.map pr) (f.ts.map pr)):=
 nf_vl lexOrd fun φ=>by
  rw [prodL_eq,prodL_eq]
  exact vl_prod_com (D:=fun e=>e.length=n) (fun a b h1 h2=>addE_comm1 a b (h1.trans h2.symm)) φ hf hg
theorem addE_zero1:∀ (n:Nat) (a:List Int),a.length=n->addE 1 (List.replicate n 0) a=a
 | 0,[],_=>rfl
 | n+1,x :: a,h=>by
  simp only [List.replicate_succ,addE,addE_zero1 n a (by simpa using h)]
  simp
theorem one_mul {n:Nat} {f:Lau} (hf:Right f) (hn:f.v=n):mulF (oneF n) f=(f,true)/\mulF f (oneF n)=(f,true):=by
 have hn8:1<=n/\n<=8:=by have:=hf.1;omega
 have h1:=oneF_right hn8
 have hl:∀ x∈f.ts.map pr,x.1.length=n:=fun x hx=>by
  obtain ⟨t,ht,rfl⟩:=List.mem_map.1 hx
  exact (right_dig hf hn t ht).1
 have h1l:∀ x∈(oneF n).ts.map pr,x.1.length=n:=fun x hx=>by
  simp only [oneF,List.map_cons,List.map_nil,List.mem_singleton] at hx
  subst hx
  simp [pr]
 have e:prodL ((oneF n).ts.map pr) (f.ts.map pr)=f.ts.map pr:=by
  simp only [oneF,List.map_cons,List.map_nil,prodL,List.flatMap_cons,List.flatMap_nil,List.append_nil]
  have:∀ l:List (List Int×Int),(∀ x∈l,x.1.length=n)->l.map (fun y=>(addE 1 (pr ⟨List.replicate n 0,1⟩).1 y.1,(pr ⟨List.replicate n 0,1⟩).2*y.2))=l:=fun l hl=>by
   refine (List.map_congr_left fun x hx=>?_).trans (List.map_id l)
   simp only [pr,addE_zero1 n x.1 (hl x hx),Int.one_mul,id]
  exact this _ hl
 have enf:nf lexlt (f.ts.map pr)=f.ts.map pr:=(nf_unique lexOrd (pr_desc hf) (pr_nz hf) fun k=>rfl).symm
 constructor
 ·unfold mulF
  rw [if_pos ⟨h1,hf,hn.symm⟩,e]
  unfold shutF
  rw [enf]
  have:(⟨(oneF n).v,(f.ts.map pr).map tm⟩:Lau)=f:=by
   rw [show (oneF n).v=f.v from hn.symm]
   exact lau_eta f
  rw [this,if_pos hf]
 ·unfold mulF
  rw [if_pos ⟨hf,h1,hn⟩]
  unfold shutF
  rw [ring_com hl h1l,e,enf,lau_eta,if_pos hf]
end Go.Proofs.YtbhkonnakkhibaaGreat.Ab
namespace Go.Proofs.YtbhkonnakkhibaaGreat.Ab
open Go
theorem sh_dim {m:Mat} (h:ShM m):1<=m.n.toNat/\m.n.toNat<=5/\m.n.toNat<=m.r.toNat/\m.r.toNat<=8/\m.d.length=m.r.toNat*m.n.toNat/\(m.n.toNat:Int)=m.n/\(m.r.toNat:Int)=m.r:=by
 have h1:=h.1
 have h2:=h.2.1
 have h3:=h.2.2.1
 have e1:(m.n.toNat:Int)=m.n:=by omega
 have e2:(m.r.toNat:Int)=m.r:=by omega
 refine ⟨by omega,by omega,by omega,by omega,?_,e1,e2⟩
 rw [← e1,← e2,← Int.natCast_mul,Nat.mul_comm] at h3
 omega
end Go.Proofs.YtbhkonnakkhibaaGreat.Ab
namespace Go.Proofs.YtbhkonnakkhibaaGreat.Ab
open Go
def zM:Mat:=⟨0,0,[]⟩
def idP (n i:Nat):List Int:=(List.range i).flatMap fun j=>unitL n j
theorem idP_succ (n i:Nat):idP n (i+1)=idP n i ++ unitL n i:=by simp [idP,List.range_succ]
@[simp] theorem idP_length (n:Nat):∀ i,(idP n i).length=i*n
 | 0=>by simp [idP]
 | i+1=>by rw [idP_succ,List.length_append,idP_length n i,unitL_length,Nat.add_mul,Nat.one_mul]
theorem unitL_mem {n i:Nat} {x:Int} (h:x∈unitL n i):x=0\/x=1:=by
 rcases List.mem_or_eq_of_mem_set h with h | h
 ·exact .inl (List.eq_of_mem_replicate h)
 ·exact .inr h
def SqOK (m:Mat):Prop:=MatOK m/\m.r=m.n/\2*m.n<=8
noncomputable instance (m:Mat):Decidable (SqOK m):=Classical.propDecidable _
noncomputable def fpL (m:Mat) (ws:List Mat) (ks:List Int):Nat->Option (List Lau)
 | 0=>some (List.replicate m.n.toNat (oneF m.n.toNat) ++ varsL m.n.toNat)
 | t+1=>match fpL m ws ks t with
  | some fs=>if (exF fs (colM (ws.getD t zM) (2*m.n.toNat) (ks.getD t 0).toNat) m.n.toNat (fs.getD (ks.getD t 0).toNat zeroF)).2=true then
    some (fs.set (ks.getD t 0).toNat (exF fs (colM (ws.getD t zM) (2*m.n.toNat) (ks.getD t 0).toNat) m.n.toNat (fs.getD (ks.getD t 0).toNat zeroF)).1) else none
  | none=>none
end Go.Proofs.YtbhkonnakkhibaaGreat.Ab
namespace Go.Proofs.YtbhkonnakkhibaaGreat.Ab
open Go
set_option maxRecDepth 10000
set_option maxHeartbeats 2000000
noncomputable def iniF (m:Mat):Sed×Bool:=if MatOK m then (⟨m,varsL m.r.toNat⟩,true) else (zeroS,false)
theorem vars_fpv {n:Nat} (hn:1<=n/\n<=8):∀ f∈varsL n,VarOk n f:=by
 intro f hf
 simp only [varsL,List.mem_map,List.mem_range] at hf
 obtain ⟨i,hi,rfl⟩:=hf
 have hl:=unitL_length n i
 have hr:Right ⟨(unitL n i).length,[⟨unitL n i,1⟩]⟩:=mono_right.2 ⟨by rw [hl];omega,by
  rw [okE_iff]
  exact ⟨rfl,fun x hx=>by rcases unitL_mem hx with rfl | rfl <;> omega⟩⟩
 unfold monoF
 rw [if_pos hr]
 exact ⟨hr,by simp,by simp [hl]⟩
theorem ini_ok {m:Mat} (h:MatOK m):SeedOK ⟨m,varsL m.r.toNat⟩:=by
 have hd:=sh_dim h.1
 refine ⟨h,by simp only [varsL,List.length_map,List.length_range];omega,fun f hf=>?_⟩
 have:=vars_fpv (n:=m.r.toNat) (by omega) f hf
 rw [hd.2.2.2.2.2.2] at this
 exact this
theorem ini_gd (m:Mat):GdS (iniF m).1:=by
 unfold iniF
 split
 ·exact GdS.ok (ini_ok (by assumption))
 ·exact GdS.zero
theorem spec_InitialSeed_calls (m:Mat) (hx:m.d.length < 17592186044416):ACalls Tryz.prog F.spec_InitialSeed [aM m] [] true (fun outs res=>outs=[]/\WkRs res [.ag (sO (iniF m).1),.one (D.bool (iniF m).2)]):=by
 refine ACalls.of_body (C:=C.spec_InitialSeed) (n:=Tryz.f97.ntmps) tabT folT Tryz.func97 rfl (by kernel_rfl) rfl (Nat.le_of_ble_eq_true rfl) (by decide) (by kernel_rfl) (by kernel_rfl) rfl (by simp) (by simp) ?_
 simp only [Tryz.f97]
 refine wseq ?_
 refine wreg fun K hK=>?_
 simp [C.spec_InitialSeed]
 refine hK _ ?_;clear hK K
 show AWp _ _ _ _ _
 refine wseq ?_
 refine wseq ?_
 refine wregI ([0,1] ++ ([2])) rfl fun K hK=>?_
 refine opsI_seg fun L hL=>?_
 simp [C.spec_InitialSeed]
 refine wcall1 (spec_MatrixOk_calls m hx) (by simp) (by simp) ?_
 simp [C.spec_InitialSeed]
 refine hL _ ?_;clear hL L
 refine opsI_end fun L hL=>?_
 simp [C.spec_InitialSeed]
 refine hL _ ?_;clear hL L
 simp [C.spec_InitialSeed]
 refine hK _ ?_;clear hK K
 show AWp _ _ _ _ _
 refine wcond _ rfl (fun hc1=>?_) (fun hc1=>?_)
 ·have hr:=nd_t hc1
  have hm:iniF m=(zeroS,false):=if_neg hr
  refine wseq ?_
  refine wreg fun K hK=>?_
  simp [C.spec_InitialSeed]
  refine hK _ ?_;clear hK K
  show AWp _ _ _ _ _
  refine wret ?_
  simp [C.spec_InitialSeed,hm,zeroS,sO,ints,rows]
 ·have hr:=nd_f hc1
  have hm:iniF m=(⟨m,varsL m.r.toNat⟩,true):=if_pos hr
  have hd:=sh_dim hr.1
  have hini:=spec_l3Initial_calls m.n m.r.toNat m.d (by omega) hx
  rw [hd.2.2.2.2.2.2] at hini
  have em:(⟨m.n,m.r,m.d⟩:Mat)=m:=by cases m;rfl
  rw [em] at hini
  refine wskip ?_
  show AWp _ _ _ _ _
  refine wseq ?_
  refine wregI ([0,1] ++ ([2,3])) rfl fun K hK=>?_
  refine opsI_seg fun L hL=>?_
  simp [C.spec_InitialSeed,sO]
  refine wcall1 (hini) (by simp) (by simp) ?_
  simp [C.spec_InitialSeed,sO]
  refine hL _ ?_;clear hL L
  refine opsI_end fun L hL=>?_
  simp [C.spec_InitialSeed,sO]
  refine hL _ ?_;clear hL L
  simp [C.spec_InitialSeed,sO]
  refine hK _ ?_;clear hK K
  show AWp _ _ _ _ _
  refine wret ?_
  simp [C.spec_InitialSeed,hm,sO]
theorem sIni_calls (m:Mat) (hx:m.d.length < 17592186044416):ACalls Tryz.prog F.spec_InitialSeed [aM m] [] true (fun outs res=>outs=[]/\res=[.ag (sO (iniF m).1),.one (D.bool (iniF m).2)]):=(spec_InitialSeed_calls m hx).weak1
theorem impl_InitialSeedN_calls (m:Mat) (hx:m.d.length < 17592186044416) (hno:¬ MatOK m):ACalls Tryz.prog F.impl_InitialSeed [aM m] [] true (fun outs res=>outs=[]/\WkRs res [.ag (sO zeroS),.one (D.bool false)]):=by
 refine ACalls.of_body (C:=C.impl_InitialSeed) (n:=Tryz.f54.ntmps) tabT folT Tryz.func54 rfl (by kernel_rfl) rfl (Nat.le_of_ble_eq_true rfl) (by decide) (by kernel_rfl) (by kernel_rfl) rfl (by simp) (by simp) ?_
 simp only [Tryz.f54]
 refine wseq ?_
 refine wreg fun K hK=>?_
 simp [C.impl_InitialSeed]
 refine hK _ ?_;clear hK K
 show AWp _ _ _ _ _
 refine wseq ?_
 refine wseq ?_
 refine wregI ([0,1] ++ ([2])) rfl fun K hK=>?_
 refine opsI_seg fun L hL=>?_
 simp [C.impl_InitialSeed]
 refine wcall1 (impl_MatrixOkG_calls m hx) (by simp) (by simp) ?_
 simp [C.impl_InitialSeed]
 refine hL _ ?_;clear hL L
 refine opsI_end fun L hL=>?_
 simp [C.impl_InitialSeed]
 refine hL _ ?_;clear hL L
 simp [C.impl_InitialSeed]
 refine hK _ ?_;clear hK K
 show AWp _ _ _ _ _
 refine wcond _ rfl (fun hc1=>?_) (fun hc1=>?_)
 ·refine wseq ?_
  refine wreg fun K hK=>?_
  simp [C.impl_InitialSeed]
  refine hK _ ?_;clear hK K
  show AWp _ _ _ _ _
  refine wret ?_
  simp [C.impl_InitialSeed,zeroS,sO,ints,rows]
 ·exact absurd (nd_f hc1) hno
theorem iIni_calls (m:Mat) (hx:m.d.length < 17592186044416):ACalls Tryz.prog F.impl_InitialSeed [aM m] [] true (fun outs res=>outs=[]/\res=[.ag (sO (iniF m).1),.one (D.bool (iniF m).2)]):=by
 by_cases h:MatOK m
 ·have hm:iniF m=(⟨m,varsL m.r.toNat⟩,true):=if_pos h
  have hd:=sh_dim h.1
  have hok:=impl_MatrixOkG_calls m hx
  rw [decide_eq_true h] at hok
  have hini:=impl_InitialSeed_calls m.n m.r.toNat m.d (by omega) hx
  rw [hd.2.2.2.2.2.2] at hini
  have em:(⟨m.n,m.r,m.d⟩:Mat)=m:=by cases m;rfl
  rw [em] at hini
  rw [hm]
  exact hini hok
 ·have hm:iniF m=(zeroS,false):=if_neg h
  rw [hm]
  exact (impl_InitialSeedN_calls m hx h).weak1
noncomputable def seedByF (m:Mat) (ks:List Int):Sed×Bool:=if (iniF m).2=true then alongF (iniF m).1 ks else (zeroS,false)
theorem impl_seedBy_calls (m:Mat) (ks:List Int) (hx:m.d.length < 17592186044416) (hks:ks.length < 4611686018427387904):ACalls Tryz.prog F.impl_seedBy [aM m,.d (shI ks)] [] true (fun outs res=>outs=[]/\WkRs res [.ag (sO (seedByF m ks).1),.one (D.bool (seedByF m ks).2)]):=by
 have hgd:=ini_gd m
 have hini:=iIni_calls m hx
 have hm0:seedByF m ks=if (iniF m).2=true then alongF (iniF m).1 ks else (zeroS,false):=rfl
 generalize iniF m=I at hgd hini hm0
 refine ACalls.of_body (C:=C.impl_seedBy) (n:=Tryz.f101.ntmps) tabT folT Tryz.func101 rfl (by kernel_rfl) rfl (Nat.le_of_ble_eq_true rfl) (by decide) (by kernel_rfl) (by kernel_rfl) rfl (by simp) (by simp) ?_
 simp only [Tryz.f101]
 refine wseq ?_
 refine wreg fun K hK=>?_
 simp [C.impl_seedBy]
 refine hK _ ?_;clear hK K
 show AWp _ _ _ _ _
 refine wseq ?_
 refine wregI ([0,1] ++ ([2,3,4,5,6,7])) rfl fun K hK=>?_
 refine opsI_seg fun L hL=>?_
 simp [C.impl_seedBy,sO]
 refine wcall1 (hini) (by simp) (by simp) ?_
 simp [C.impl_seedBy,sO]
 refine hL _ ?_;clear hL L
 refine opsI_end fun L hL=>?_
 simp [C.impl_seedBy,sO]
 refine hL _ ?_;clear hL L
 simp [C.impl_seedBy,sO]
 refine hK _ ?_;clear hK K
 show AWp _ _ _ _ _
 refine wseq ?_
 refine wseq ?_
 refine wreg fun K hK=>?_
 simp [C.impl_seedBy]
 refine hK _ ?_;clear hK K
 show AWp _ _ _ _ _
 refine wcond _ rfl (fun hc1=>?_) (fun hc1=>?_)
 ·have hb:I.2=false:=by simpa using hc1
  have hm:seedByF m ks=(zeroS,false):=by rw [hm0,hb];rfl
  refine wseq ?_
  refine wreg fun K hK=>?_
  simp [C.impl_seedBy]
  refine hK _ ?_;clear hK K
  show AWp _ _ _ _ _
  refine wret ?_
  simp [C.impl_seedBy,hm,zeroS,sO,ints,rows]
 ·have hb:I.2=true:=by simpa using hc1
  have hm:seedByF m ks=alongF I.1 ks:=by rw [hm0,if_pos hb]
  refine wskip ?_
  show AWp _ _ _ _ _
  refine wseq ?_
  refine wregI ([0,1,2] ++ ([3,4,5,6])) rfl fun K hK=>?_
  refine opsI_seg fun L hL=>?_
  simp [C.impl_seedBy,sO]
  refine wcall1 (iAl_calls I.1 ks hgd.sm.1 hgd.sm.2.1 hgd.sm.2.2 hks) (by simp) (by simp) ?_
  simp [C.impl_seedBy,sO]
  refine hL _ ?_;clear hL L
  refine opsI_end fun L hL=>?_
  simp [C.impl_seedBy,sO]
  refine hL _ ?_;clear hL L
  simp [C.impl_seedBy,sO]
  refine hK _ ?_;clear hK K
  show AWp _ _ _ _ _
  refine wret ?_
  simp [C.impl_seedBy,hm,sO]
theorem iBy_calls (m:Mat) (ks:List Int) (hx:m.d.length < 17592186044416) (hks:ks.length < 4611686018427387904):ACalls Tryz.prog F.impl_seedBy [aM m,.d (shI ks)] [] true (fun outs res=>outs=[]/\res=[.ag (sO (seedByF m ks).1),.one (D.bool (seedByF m ks).2)]):=(impl_seedBy_calls m ks hx hks).weak1
theorem seedBy_gd (m:Mat) (ks:List Int):GdS (seedByF m ks).1:=by
 unfold seedByF
 split
 ·exact GdS.along _ _
 ·exact GdS.zero
theorem slices_Equal_int_int_calls (a b:List Int) (hx:a.length < 4611686018427387904):ACalls Tryz.prog F.slices_Equal_int_int [.d (shI a),.d (shI b)] [] true (fun outs res=>outs=[]/\res=[.one (D.bool (decide (a=b)))]):=by
 refine ACalls.of_body (C:=C.slices_Equal_int_int) (n:=Tryz.f172.ntmps) tabT folT Tryz.func172 rfl (by kernel_rfl) rfl (Nat.le_of_ble_eq_true rfl) (by decide) (by kernel_rfl) (by kernel_rfl) rfl (by simp) (by simp) ?_
 simp only [Tryz.f172]
 refine wseq ?_
 refine wreg fun K hK=>?_
 simp [C.slices_Equal_int_int]
 refine hK _ ?_;clear hK K
 show AWp _ _ _ _ _
 refine wseq ?_
 refine wseq ?_
 refine wreg fun K hK=>?_
 simp [C.slices_Equal_int_int]
 refine hK _ ?_;clear hK K
 show AWp _ _ _ _ _
 refine wcond _ rfl (fun hc1=>?_) (fun hc1=>?_)
 ·refine wseq ?_
  refine wreg fun K hK=>?_
  simp [C.slices_Equal_int_int]
  refine hK _ ?_;clear hK K
  show AWp _ _ _ _ _
  refine wret ?_
  have hc:¬ a.length=b.length:=by simp at hc1;omega
  simp [C.slices_Equal_int_int]
  intro e;simp [e] at hc
 ·refine wskip ?_
  show AWp _ _ _ _ _
  refine wseq ?_
  refine wseq ?_
  refine wreg fun K hK=>?_
  simp [C.slices_Equal_int_int]
  refine hK _ ?_;clear hK K
  show AWp _ _ _ _ _
  refine wblock ?_
  have e:a.length=b.length:=by simp at hc1;omega
  refine wloop (fun k:Nat=>⟨ofL [(0,.d (shI a)),(1,.d (shI b)),(12,.int a.length),(13,FV.int k)],ofRO []⟩) (fun k=>k<=a.length/\a.take k=b.take k) (fun k=>a.length - k) 0 (by simp [C.slices_Equal_int_int]) (by simp) ?_
  intro x1 hx1 R1 hR1
  obtain ⟨hk,ht⟩:=hx1
  refine wseq ?_
  refine wreg fun K hK=>?_
  simp [C.slices_Equal_int_int]
  refine hK _ ?_;clear hK K
  show AWp _ _ _ _ _
  refine wseq ?_
  refine wcond _ rfl (fun hc2=>?_) (fun hc2=>?_)
  ·have h1:x1 < a.length:=by have:=d_t hc2;omega
   have h2:x1 < b.length:=by omega
   refine wskip ?_
   show AWp _ _ _ _ _
   refine wseq ?_
   refine wblock ?_
   refine wseq ?_
   refine wreg fun K hK=>?_
   simp [C.slices_Equal_int_int]
   refine hK _ ?_;clear hK K
   show AWp _ _ _ _ _
   refine wseq ?_
   refine wdraw (.take 0 (.take 1 (.take 2 (.take 3 (.take 4 (.take 5 (.take 6 (.take 7 (.take 8 (.done)))))))))) ⟨by kernel_rfl,by kernel_rfl⟩ fun K hK=>?_
   simp [C.slices_Equal_int_int,h1,h2,get_ints,show (x1:Int) < a.length by omega,show (x1:Int) < b.length by omega]
   refine hK _ ?_;clear hK K
   show AWp _ _ _ _ _
   refine wcond _ rfl (fun hc3=>?_) (fun hc3=>?_)
   ·have hc:¬ a[x1]=b[x1]:=by simpa using hc3
    refine wseq ?_
    refine wreg fun K hK=>?_
    simp [C.slices_Equal_int_int]
    refine hK _ ?_;clear hK K
    show AWp _ _ _ _ _
    refine wret ?_
    simp [C.slices_Equal_int_int]
    intro e2
    subst e2
    exact hc rfl
   ·have hc:a[x1]=b[x1]:=by simpa using hc3
    refine wskip ?_
    show AWp _ _ _ _ _
    refine wreg fun K hK=>?_
    simp [C.slices_Equal_int_int,wrap_succ (show x1 < 4611686018427387904 by omega)]
    refine hK _ ?_;clear hK K
    simp [C.slices_Equal_int_int]
    refine hR1 (x1+1) ⟨h1,?_⟩ (by omega)
    rw [List.take_succ_eq_append_getElem h1,List.take_succ_eq_append_getElem h2,ht,hc]
  ·have hk2:x1=a.length:=by have:=d_f hc2;omega
   refine wexit ?_
   show AWp _ _ _ _ _
   refine wseq ?_
   refine wreg fun K hK=>?_
   simp [C.slices_Equal_int_int]
   refine hK _ ?_;clear hK K
   show AWp _ _ _ _ _
   refine wret ?_
   simp [C.slices_Equal_int_int]
   rw [hk2,List.take_length,e,List.take_length] at ht
   exact ht
theorem impl_sameMatrix_calls (a b:Mat) (hx:a.d.length < 4611686018427387904):ACalls Tryz.prog F.impl_sameMatrix [aM a,aM b] [] true (fun outs res=>outs=[]/\res=[.one (D.bool (decide (a=b)))]):=by
 refine ACalls.of_body (C:=C.impl_sameMatrix) (n:=Tryz.f102.ntmps) tabT folT Tryz.func102 rfl (by kernel_rfl) rfl (Nat.le_of_ble_eq_true rfl) (by decide) (by kernel_rfl) (by kernel_rfl) rfl (by simp) (by simp) ?_
 simp only [Tryz.f102]
 refine wseq ?_
 refine wreg fun K hK=>?_
 simp [C.impl_sameMatrix]
 refine hK _ ?_;clear hK K
 show AWp _ _ _ _ _
 refine wseq ?_
 refine wregI ([0,1,2,3,4,5,6,7,8,9,10,11,12,13,14,15,16,17] ++ ([18,19])) rfl fun K hK=>?_
 have hJ:K ⟨ofL [(4,.bool (decide (a=b)))],ofRO []⟩:=by
  refine hK _ ?_;clear hK K
  show AWp _ _ _ _ _
  refine wret ?_
  simp [C.impl_sameMatrix]
 clear hK
 by_cases h1:a.n=b.n
 ·by_cases h2:a.r=b.r
  ·refine opsI_seg fun L hL=>?_
   simp [C.impl_sameMatrix,h1,h2]
   refine wcall1 (slices_Equal_int_int_calls a.d b.d hx) (by simp) (by simp) ?_
   simp [C.impl_sameMatrix,h1,h2]
   refine hL _ ?_;clear hL L
   refine opsI_end fun L hL=>?_
   simp [C.impl_sameMatrix,h1,h2]
   refine hL _ ?_;clear hL L
   simp [C.impl_sameMatrix,h1,h2]
   refine cast (congrArg K ?_) hJ
   simp [mat_eq,h1,h2]
  ·refine opsI_seg fun L hL=>?_
   simp [C.impl_sameMatrix,h1,h2]
   refine hL _ ?_;clear hL L
   refine opsI_end fun L hL=>?_
   simp [C.impl_sameMatrix,h1,h2]
   refine hL _ ?_;clear hL L
   simp [C.impl_sameMatrix,h1,h2]
   refine cast (congrArg K ?_) hJ
   simp [mat_eq,h1,h2]
 ·refine opsI_seg fun L hL=>?_
  simp [C.impl_sameMatrix,h1]
  refine hL _ ?_;clear hL L
  refine opsI_end fun L hL=>?_
  simp [C.impl_sameMatrix,h1]
  refine hL _ ?_;clear hL L
  simp [C.impl_sameMatrix,h1]
  refine cast (congrArg K ?_) hJ
  simp [mat_eq,h1]
theorem impl_sameLaurent_1_calls (a b:Trm) (hx:a.e.length < 4611686018427387904):ACalls Tryz.prog F.impl_sameLaurent_1 [.ag [.d (shI a.e),.int a.c],.ag [.d (shI b.e),.int b.c]] [] true (fun outs res=>outs=[]/\res=[.one (D.bool (decide (a=b)))]):=by
 have he:decide (a=b)=(decide (a.c=b.c) && decide (a.e=b.e)):=by
  cases a;cases b
  rw [Bool.eq_iff_iff]
  simp [and_comm]
 refine ACalls.of_body (C:=C.impl_sameLaurent_1) (n:=Tryz.f174.ntmps) tabT folT Tryz.func174 rfl (by kernel_rfl) rfl (Nat.le_of_ble_eq_true rfl) (by decide) (by kernel_rfl) (by kernel_rfl) rfl (by simp) (by simp) ?_
 simp only [Tryz.f174]
 refine wseq ?_
 refine wreg fun K hK=>?_
 simp [C.impl_sameLaurent_1,tS]
 refine hK _ ?_;clear hK K
 show AWp _ _ _ _ _
 refine wseq ?_
 refine wregI ([0,1,2,3,4,5,6,7,8,9,10] ++ ([11,12])) rfl fun K hK=>?_
 have hJ:K ⟨ofL [(4,.bool (decide (a=b)))],ofRO []⟩:=by
  refine hK _ ?_;clear hK K
  show AWp _ _ _ _ _
  refine wret ?_
  simp [C.impl_sameLaurent_1,tS]
 clear hK
 by_cases h1:a.c=b.c
 ·refine opsI_seg fun L hL=>?_
  simp [C.impl_sameLaurent_1,tS,h1]
  refine wcall1 (slices_Equal_int_int_calls a.e b.e hx) (by simp) (by simp) ?_
  simp [C.impl_sameLaurent_1,tS,h1]
  refine hL _ ?_;clear hL L
  refine opsI_end fun L hL=>?_
  simp [C.impl_sameLaurent_1,tS,h1]
  refine hL _ ?_;clear hL L
  simp [C.impl_sameLaurent_1,tS,h1]
  refine cast (congrArg K ?_) hJ
  simp [he,tS,h1]
 ·refine opsI_seg fun L hL=>?_
  simp [C.impl_sameLaurent_1,tS,h1]
  refine hL _ ?_;clear hL L
  refine opsI_end fun L hL=>?_
  simp [C.impl_sameLaurent_1,tS,h1]
  refine hL _ ?_;clear hL L
  simp [C.impl_sameLaurent_1,tS,h1]
  refine cast (congrArg K ?_) hJ
  simp [he,tS,h1]
theorem slices_EqualFunc_impl_Term_impl_Term_impl_Term_impl_Term_calls (xs ys:List Trm) (hx:xs.length < 4611686018427387904) (hx2:∀ t∈xs,t.e.length < 4611686018427387904):ACalls Tryz.prog F.slices_EqualFunc_impl_Term_impl_Term_impl_Term_impl_Term [.d (.sh 2 xs.length (rows tS xs)),.d (.sh 2 ys.length (rows tS ys)),.d (.fn F.impl_sameLaurent_1 [])] [] true (fun outs res=>outs=[]/\res=[.one (D.bool (decide (xs=ys)))]):=by
 refine ACalls.of_body (C:=C.slices_EqualFunc_impl_Term_impl_Term_impl_Term_impl_Term) (n:=Tryz.f173.ntmps) tabT folT Tryz.func173 rfl (by kernel_rfl) rfl (Nat.le_of_ble_eq_true rfl) (by decide) (by kernel_rfl) (by kernel_rfl) rfl (by simp) (by simp) ?_
 simp only [Tryz.f173]
 refine wseq ?_
 refine wreg fun K hK=>?_
 simp [C.slices_EqualFunc_impl_Term_impl_Term_impl_Term_impl_Term]
 refine hK _ ?_;clear hK K
 show AWp _ _ _ _ _
 refine wseq ?_
 refine wseq ?_
 refine wreg fun K hK=>?_
 simp [C.slices_EqualFunc_impl_Term_impl_Term_impl_Term_impl_Term]
 refine hK _ ?_;clear hK K
 show AWp _ _ _ _ _
 refine wcond _ rfl (fun hc1=>?_) (fun hc1=>?_)
 ·refine wseq ?_
  refine wreg fun K hK=>?_
  simp [C.slices_EqualFunc_impl_Term_impl_Term_impl_Term_impl_Term]
  refine hK _ ?_;clear hK K
  show AWp _ _ _ _ _
  refine wret ?_
  have hc:¬ xs.length=ys.length:=by simp at hc1;omega
  simp [C.slices_EqualFunc_impl_Term_impl_Term_impl_Term_impl_Term]
  intro e;simp [e] at hc
 ·refine wskip ?_
  show AWp _ _ _ _ _
  refine wseq ?_
  refine wseq ?_
  refine wreg fun K hK=>?_
  simp [C.slices_EqualFunc_impl_Term_impl_Term_impl_Term_impl_Term]
  refine hK _ ?_;clear hK K
  show AWp _ _ _ _ _
  refine wblock ?_
  have e:xs.length=ys.length:=by simp at hc1;omega
  refine wloop (fun k:Nat=>⟨ofL [(1,.d (.sh 2 ys.length (rows tS ys))),(2,.d (.fn F.impl_sameLaurent_1 [])),(15,.d (.sh 2 xs.length (rows tS xs))),(16,.int xs.length),(17,FV.int k)],ofRO []⟩) (fun k=>k<=xs.length/\xs.take k=ys.take k) (fun k=>xs.length - k) 0 (by simp [C.slices_EqualFunc_impl_Term_impl_Term_impl_Term_impl_Term]) (by simp) ?_
  intro x1 hx1 R1 hR1
  obtain ⟨hk,ht⟩:=hx1
  refine wseq ?_
  refine wreg fun K hK=>?_
  simp [C.slices_EqualFunc_impl_Term_impl_Term_impl_Term_impl_Term]
  refine hK _ ?_;clear hK K
  show AWp _ _ _ _ _
  refine wseq ?_
  refine wcond _ rfl (fun hc2=>?_) (fun hc2=>?_)
  ·have h1:x1 < xs.length:=by have:=d_t hc2;omega
   have h2:x1 < ys.length:=by omega
   have hcall:=impl_sameLaurent_1_calls xs[x1] ys[x1] (hx2 _ (List.getElem_mem h1))
   refine wskip ?_
   show AWp _ _ _ _ _
   refine wseq ?_
   refine wblock ?_
   refine wseq ?_
   refine wreg fun K hK=>?_
   simp [C.slices_EqualFunc_impl_Term_impl_Term_impl_Term_impl_Term,h1,tS_0 h1,tS_1 h1,show (x1:Int) < xs.length by omega]
   refine hK _ ?_;clear hK K
   show AWp _ _ _ _ _
   refine wseq ?_
   refine wreg fun K hK=>?_
   simp [C.slices_EqualFunc_impl_Term_impl_Term_impl_Term_impl_Term,h2,tS_0 h2,tS_1 h2,show (x1:Int) < ys.length by omega]
   refine hK _ ?_;clear hK K
   show AWp _ _ _ _ _
   refine wseq ?_
   refine wregI ([0,1,2,3] ++ ([4])) rfl fun K hK=>?_
   refine opsI_seg fun L hL=>?_
   simp [C.slices_EqualFunc_impl_Term_impl_Term_impl_Term_impl_Term,tS]
   refine wcall1 (hcall) (by simp) (by simp) ?_
   simp [C.slices_EqualFunc_impl_Term_impl_Term_impl_Term_impl_Term,tS]
   refine hL _ ?_;clear hL L
   refine opsI_end fun L hL=>?_
   simp [C.slices_EqualFunc_impl_Term_impl_Term_impl_Term_impl_Term,tS]
   refine hL _ ?_;clear hL L
   simp [C.slices_EqualFunc_impl_Term_impl_Term_impl_Term_impl_Term,tS]
   refine hK _ ?_;clear hK K
   show AWp _ _ _ _ _
   refine wcond _ rfl (fun hc3=>?_) (fun hc3=>?_)
   ·have hc:¬ xs[x1]=ys[x1]:=nd_t hc3
    refine wseq ?_
    refine wreg fun K hK=>?_
    simp [C.slices_EqualFunc_impl_Term_impl_Term_impl_Term_impl_Term]
    refine hK _ ?_;clear hK K
    show AWp _ _ _ _ _
    refine wret ?_
    simp [C.slices_EqualFunc_impl_Term_impl_Term_impl_Term_impl_Term]
    intro e2
    subst e2
    exact hc rfl
   ·have hc:xs[x1]=ys[x1]:=nd_f hc3
    refine wskip ?_
    show AWp _ _ _ _ _
    refine wreg fun K hK=>?_
    simp [C.slices_EqualFunc_impl_Term_impl_Term_impl_Term_impl_Term,wrap_succ (show x1 < 4611686018427387904 by omega)]
    refine hK _ ?_;clear hK K
    simp [C.slices_EqualFunc_impl_Term_impl_Term_impl_Term_impl_Term]
    refine hR1 (x1+1) ⟨h1,?_⟩ (by omega)
    rw [List.take_succ_eq_append_getElem h1,List.take_succ_eq_append_getElem h2,ht,hc]
  ·have hk2:x1=xs.length:=by have:=d_f hc2;omega
   refine wexit ?_
   show AWp _ _ _ _ _
   refine wseq ?_
   refine wreg fun K hK=>?_
   simp [C.slices_EqualFunc_impl_Term_impl_Term_impl_Term_impl_Term]
   refine hK _ ?_;clear hK K
   show AWp _ _ _ _ _
   refine wret ?_
   simp [C.slices_EqualFunc_impl_Term_impl_Term_impl_Term_impl_Term]
   rw [hk2,List.take_length,e,List.take_length] at ht
   exact ht
theorem impl_sameLaurent_calls (a b:Lau) (hx:SmF a):ACalls Tryz.prog F.impl_sameLaurent [aF a,aF b] [] true (fun outs res=>outs=[]/\res=[.one (D.bool (decide (a=b)))]):=by
 have he:decide (a=b)=(decide (a.v=b.v) && decide (a.ts=b.ts)):=by
  cases a;cases b
  rw [Bool.eq_iff_iff]
  simp
 refine ACalls.of_body (C:=C.impl_sameLaurent) (n:=Tryz.f104.ntmps) tabT folT Tryz.func104 rfl (by kernel_rfl) rfl (Nat.le_of_ble_eq_true rfl) (by decide) (by kernel_rfl) (by kernel_rfl) rfl (by simp) (by simp) ?_
 simp only [Tryz.f104]
 refine wseq ?_
 refine wreg fun K hK=>?_
 simp [C.impl_sameLaurent,fS]
 refine hK _ ?_;clear hK K
 show AWp _ _ _ _ _
 refine wseq ?_
 refine wregI ([0,1,2,3,4,5,6,7,8,9,10] ++ ([11,12])) rfl fun K hK=>?_
 have hJ:K ⟨ofL [(4,.bool (decide (a=b)))],ofRO []⟩:=by
  refine hK _ ?_;clear hK K
  show AWp _ _ _ _ _
  refine wret ?_
  simp [C.impl_sameLaurent,fS]
 clear hK
 by_cases h1:a.v=b.v
 ·refine opsI_seg fun L hL=>?_
  simp [C.impl_sameLaurent,fS,h1]
  refine wcall1 (slices_EqualFunc_impl_Term_impl_Term_impl_Term_impl_Term_calls a.ts b.ts hx.1 hx.2) (by simp) (by simp) ?_
  simp [C.impl_sameLaurent,fS,h1]
  refine hL _ ?_;clear hL L
  refine opsI_end fun L hL=>?_
  simp [C.impl_sameLaurent,fS,h1]
  refine hL _ ?_;clear hL L
  simp [C.impl_sameLaurent,fS,h1]
  refine cast (congrArg K ?_) hJ
  simp [he,fS,h1]
 ·refine opsI_seg fun L hL=>?_
  simp [C.impl_sameLaurent,fS,h1]
  refine hL _ ?_;clear hL L
  refine opsI_end fun L hL=>?_
  simp [C.impl_sameLaurent,fS,h1]
  refine hL _ ?_;clear hL L
  simp [C.impl_sameLaurent,fS,h1]
  refine cast (congrArg K ?_) hJ
  simp [he,fS,h1]
theorem slices_EqualFunc_impl_Laurent_impl_Laurent_impl_Laurent_impl_Laurent_calls (xs ys:List Lau) (hx:xs.length < 4611686018427387904) (hx2:∀ t∈xs,SmF t):ACalls Tryz.prog F.slices_EqualFunc_impl_Laurent_impl_Laurent_impl_Laurent_impl_Laurent [.d (.sh 2 xs.length (rows fS xs)),.d (.sh 2 ys.length (rows fS ys)),.d (.fn F.impl_sameLaurent [])] [] true (fun outs res=>outs=[]/\res=[.one (D.bool (decide (xs=ys)))]):=by
 refine ACalls.of_body (C:=C.slices_EqualFunc_impl_Laurent_impl_Laurent_impl_Laurent_impl_Laurent) (n:=Tryz.f103.ntmps) tabT folT Tryz.func103 rfl (by kernel_rfl) rfl (Nat.le_of_ble_eq_true rfl) (by decide) (by kernel_rfl) (by kernel_rfl) rfl (by simp) (by simp) ?_
 simp only [Tryz.f103]
 refine wseq ?_
 refine wreg fun K hK=>?_
 simp [C.slices_EqualFunc_impl_Laurent_impl_Laurent_impl_Laurent_impl_Laurent]
 refine hK _ ?_;clear hK K
 show AWp _ _ _ _ _
 refine wseq ?_
 refine wseq ?_
 refine wreg fun K hK=>?_
 simp [C.slices_EqualFunc_impl_Laurent_impl_Laurent_impl_Laurent_impl_Laurent]
 refine hK _ ?_;clear hK K
 show AWp _ _ _ _ _
 refine wcond _ rfl (fun hc1=>?_) (fun hc1=>?_)
 ·refine wseq ?_
  refine wreg fun K hK=>?_
  simp [C.slices_EqualFunc_impl_Laurent_impl_Laurent_impl_Laurent_impl_Laurent]
  refine hK _ ?_;clear hK K
  show AWp _ _ _ _ _
  refine wret ?_
  have hc:¬ xs.length=ys.length:=by simp at hc1;omega
  simp [C.slices_EqualFunc_impl_Laurent_impl_Laurent_impl_Laurent_impl_Laurent]
  intro e;simp [e] at hc
 ·refine wskip ?_
  show AWp _ _ _ _ _
  refine wseq ?_
  refine wseq ?_
  refine wreg fun K hK=>?_
  simp [C.slices_EqualFunc_impl_Laurent_impl_Laurent_impl_Laurent_impl_Laurent]
  refine hK _ ?_;clear hK K
  show AWp _ _ _ _ _
  refine wblock ?_
  have e:xs.length=ys.length:=by simp at hc1;omega
  refine wloop (fun k:Nat=>⟨ofL [(1,.d (.sh 2 ys.length (rows fS ys))),(2,.d (.fn F.impl_sameLaurent [])),(15,.d (.sh 2 xs.length (rows fS xs))),(16,.int xs.length),(17,FV.int k)],ofRO []⟩) (fun k=>k<=xs.length/\xs.take k=ys.take k) (fun k=>xs.length - k) 0 (by simp [C.slices_EqualFunc_impl_Laurent_impl_Laurent_impl_Laurent_impl_Laurent]) (by simp) ?_
  intro x1 hx1 R1 hR1
  obtain ⟨hk,ht⟩:=hx1
  refine wseq ?_
  refine wreg fun K hK=>?_
  simp [C.slices_EqualFunc_impl_Laurent_impl_Laurent_impl_Laurent_impl_Laurent]
  refine hK _ ?_;clear hK K
  show AWp _ _ _ _ _
  refine wseq ?_
  refine wcond _ rfl (fun hc2=>?_) (fun hc2=>?_)
  ·have h1:x1 < xs.length:=by have:=d_t hc2;omega
   have h2:x1 < ys.length:=by omega
   have hcall:=impl_sameLaurent_calls xs[x1] ys[x1] (hx2 _ (List.getElem_mem h1))
   refine wskip ?_
   show AWp _ _ _ _ _
   refine wseq ?_
   refine wblock ?_
   refine wseq ?_
   refine wreg fun K hK=>?_
   simp [C.slices_EqualFunc_impl_Laurent_impl_Laurent_impl_Laurent_impl_Laurent,h1,fS_0 h1,fS_1 h1,show (x1:Int) < xs.length by omega]
   refine hK _ ?_;clear hK K
   show AWp _ _ _ _ _
   refine wseq ?_
   refine wreg fun K hK=>?_
   simp [C.slices_EqualFunc_impl_Laurent_impl_Laurent_impl_Laurent_impl_Laurent,h2,fS_0 h2,fS_1 h2,show (x1:Int) < ys.length by omega]
   refine hK _ ?_;clear hK K
   show AWp _ _ _ _ _
   refine wseq ?_
   refine wregI ([0,1,2,3] ++ ([4])) rfl fun K hK=>?_
   refine opsI_seg fun L hL=>?_
   simp [C.slices_EqualFunc_impl_Laurent_impl_Laurent_impl_Laurent_impl_Laurent,fS]
   refine wcall1 (hcall) (by simp) (by simp) ?_
   simp [C.slices_EqualFunc_impl_Laurent_impl_Laurent_impl_Laurent_impl_Laurent,fS]
   refine hL _ ?_;clear hL L
   refine opsI_end fun L hL=>?_
   simp [C.slices_EqualFunc_impl_Laurent_impl_Laurent_impl_Laurent_impl_Laurent,fS]
   refine hL _ ?_;clear hL L
   simp [C.slices_EqualFunc_impl_Laurent_impl_Laurent_impl_Laurent_impl_Laurent,fS]
   refine hK _ ?_;clear hK K
   show AWp _ _ _ _ _
   refine wcond _ rfl (fun hc3=>?_) (fun hc3=>?_)
   ·have hc:¬ xs[x1]=ys[x1]:=nd_t hc3
    refine wseq ?_
    refine wreg fun K hK=>?_
    simp [C.slices_EqualFunc_impl_Laurent_impl_Laurent_impl_Laurent_impl_Laurent]
    refine hK _ ?_;clear hK K
    show AWp _ _ _ _ _
    refine wret ?_
    simp [C.slices_EqualFunc_impl_Laurent_impl_Laurent_impl_Laurent_impl_Laurent]
    intro e2
    subst e2
    exact hc rfl
   ·have hc:xs[x1]=ys[x1]:=nd_f hc3
    refine wskip ?_
    show AWp _ _ _ _ _
    refine wreg fun K hK=>?_
    simp [C.slices_EqualFunc_impl_Laurent_impl_Laurent_impl_Laurent_impl_Laurent,wrap_succ (show x1 < 4611686018427387904 by omega)]
    refine hK _ ?_;clear hK K
    simp [C.slices_EqualFunc_impl_Laurent_impl_Laurent_impl_Laurent_impl_Laurent]
    refine hR1 (x1+1) ⟨h1,?_⟩ (by omega)
    rw [List.take_succ_eq_append_getElem h1,List.take_succ_eq_append_getElem h2,ht,hc]
  ·have hk2:x1=xs.length:=by have:=d_f hc2;omega
   refine wexit ?_
   show AWp _ _ _ _ _
   refine wseq ?_
   refine wreg fun K hK=>?_
   simp [C.slices_EqualFunc_impl_Laurent_impl_Laurent_impl_Laurent_impl_Laurent]
   refine hK _ ?_;clear hK K
   show AWp _ _ _ _ _
   refine wret ?_
   simp [C.slices_EqualFunc_impl_Laurent_impl_Laurent_impl_Laurent_impl_Laurent]
   rw [hk2,List.take_length,e,List.take_length] at ht
   exact ht
theorem spec_l3Same_calls (f g:Lau) (hx:SmF f):ACalls Tryz.prog F.spec_l3Same [aF f,aF g] [] true (fun outs res=>outs=[]/\res=[.one (D.bool (decide (f=g)))]):=by
 refine ACalls.of_body (C:=C.spec_l3Same) (n:=Tryz.f169.ntmps) tabT folT Tryz.func169 rfl (by kernel_rfl) rfl (Nat.le_of_ble_eq_true rfl) (by decide) (by kernel_rfl) (by kernel_rfl) rfl (by simp) (by simp) ?_
 simp only [Tryz.f169]
 refine wseq ?_
 refine wreg fun K hK=>?_
 simp [C.spec_l3Same,fS]
 refine hK _ ?_;clear hK K
 show AWp _ _ _ _ _
 refine wseq ?_
 refine wseq ?_
 refine wregI ([0,1,2,3,4,5,6,7,8,9,10,11,12,13]) rfl fun K hK=>?_
 have hJ:K ⟨ofL [(2,.pt (2,0) [] 0),(3,.pt (3,0) [] 0),(19,.bool (!decide (f.v=g.v/\(f.ts.length:Int)=g.ts.length)))],ofRO [((2,0),some (.bx (fS f))),((3,0),some (.bx (fS g)))]⟩:=by
  refine hK _ ?_;clear hK K
  show AWp _ _ _ _ _
  refine wcond _ rfl (fun hc1=>?_) (fun hc1=>?_)
  ·have hc:=nd_t hc1
   refine wseq ?_
   refine wreg fun K hK=>?_
   simp [C.spec_l3Same,fS]
   refine hK _ ?_;clear hK K
   show AWp _ _ _ _ _
   refine wret ?_
   simp [C.spec_l3Same,fS]
   intro e
   subst e
   exact hc ⟨rfl,rfl⟩
  ·have hc0:=nd_f hc1
   have hc:f.v=g.v/\f.ts.length=g.ts.length:=⟨hc0.1,by have:=hc0.2;omega⟩
   have hxe:=hx.2
   have hx:=hx.1
   refine wskip ?_
   show AWp _ _ _ _ _
   refine wseq ?_
   refine wseq ?_
   refine wreg fun K hK=>?_
   simp [C.spec_l3Same,fS]
   refine hK _ ?_;clear hK K
   show AWp _ _ _ _ _
   refine wblock ?_
   refine wloop (fun k:Nat=>⟨ofL [(2,.pt (2,0) [] 0),(3,.pt (3,0) [] 0),(5,FV.int k)],ofRO [((2,0),some (.bx (fS f))),((3,0),some (.bx (fS g)))]⟩) (fun k=>k<=f.ts.length/\f.ts.take k=g.ts.take k) (fun k=>f.ts.length - k) 0 (by simp [C.spec_l3Same,fS]) (by simp) ?_
   intro x1 hx1 R1 hR1
   obtain ⟨hk,ht⟩:=hx1
   refine wseq ?_
   refine wseq ?_
   refine wreg fun K hK=>?_
   simp [C.spec_l3Same,fS]
   refine hK _ ?_;clear hK K
   show AWp _ _ _ _ _
   refine wcond _ rfl (fun hc2=>?_) (fun hc2=>?_)
   ·have h1:x1 < f.ts.length:=by have:=d_t hc2;omega
    have h2:x1 < g.ts.length:=by omega
    refine wskip ?_
    show AWp _ _ _ _ _
    refine wseq ?_
    refine wblock ?_
    refine wseq ?_
    refine wdrawI [(true,0),(true,1),(true,2),(true,3),(true,4),(true,5),(true,6),(true,7),(true,8),(true,9),(true,10),(true,11),(true,12),(true,13),(true,14),(true,15),(true,16),(true,17),(true,18),(true,19),(true,20),(true,21),(true,22),(true,23),(true,24),(true,25),(false,26),(true,27),(true,28)] ⟨by kernel_rfl,by kernel_rfl⟩ ([0,1,2,3,4,5,6,7,8,9,10,11,12,13,14,15,16,17,18,19,20,21,22,23,24,25,26] ++ ([27,28])) rfl fun K hK=>?_
    have hJ:K ⟨ofL [(2,.pt (2,0) [] 0),(3,.pt (3,0) [] 0),(5,FV.int x1),(55,.bool (!decide (f.ts[x1].c=g.ts[x1].c/\f.ts[x1].e=g.ts[x1].e)))],ofRO [((2,0),some (.bx (fS f))),((3,0),some (.bx (fS g)))]⟩:=by
     refine hK _ ?_;clear hK K
     show AWp _ _ _ _ _
     refine wcond _ rfl (fun hc3=>?_) (fun hc3=>?_)
     ·have hb:=nd_t hc3
      refine wseq ?_
      refine wreg fun K hK=>?_
      simp [C.spec_l3Same,fS]
      refine hK _ ?_;clear hK K
      show AWp _ _ _ _ _
      refine wret ?_
      simp [C.spec_l3Same,fS]
      intro e
      subst e
      exact hb ⟨rfl,rfl⟩
     ·have hb:=nd_f hc3
      refine wskip ?_
      show AWp _ _ _ _ _
      refine wreg fun K hK=>?_
      simp [C.spec_l3Same,fS,wrap_succ (show x1 < 4611686018427387904 by omega)]
      refine hK _ ?_;clear hK K
      simp [C.spec_l3Same,fS]
      refine hR1 (x1+1) ⟨h1,?_⟩ (by omega)
      have he:f.ts[x1]=g.ts[x1]:=by
       cases hf:f.ts[x1]
       cases hg:g.ts[x1]
       simp only [hf,hg] at hb
       simp [hb.1,hb.2]
      rw [List.take_succ_eq_append_getElem h1,List.take_succ_eq_append_getElem h2,ht,he]
    clear hK
    by_cases ha:f.ts[x1].c=g.ts[x1].c
    ·refine opsI_seg fun L hL=>?_
     simp [C.spec_l3Same,fS,h1,h2,tS_0 h1,tS_1 h1,tS_0 h2,tS_1 h2,ha]
     refine wcall1 (spec_l1Same_calls f.ts[x1].e g.ts[x1].e (hxe _ (List.getElem_mem h1))) (by simp) (by simp) ?_
     simp [C.spec_l3Same,fS,h1,h2,tS_0 h1,tS_1 h1,tS_0 h2,tS_1 h2,ha]
     refine hL _ ?_;clear hL L
     refine opsI_end fun L hL=>?_
     simp [C.spec_l3Same,fS,h1,h2,tS_0 h1,tS_1 h1,tS_0 h2,tS_1 h2,ha]
     refine hL _ ?_;clear hL L
     simp [C.spec_l3Same,fS,h1,h2,tS_0 h1,tS_1 h1,tS_0 h2,tS_1 h2,ha]
     refine cast (congrArg K ?_) hJ
     simp [ibne,fS,ha]
    ·refine opsI_seg fun L hL=>?_
     simp [C.spec_l3Same,fS,h1,h2,tS_0 h1,tS_1 h1,tS_0 h2,tS_1 h2,ha]
     refine hL _ ?_;clear hL L
     refine opsI_end fun L hL=>?_
     simp [C.spec_l3Same,fS,h1,h2,tS_0 h1,tS_1 h1,tS_0 h2,tS_1 h2,ha]
     refine hL _ ?_;clear hL L
     simp [C.spec_l3Same,fS,h1,h2,tS_0 h1,tS_1 h1,tS_0 h2,tS_1 h2,ha]
     refine cast (congrArg K ?_) hJ
     simp [ibne,fS,ha]
   ·have hk2:x1=f.ts.length:=by have:=d_f hc2;omega
    refine wexit ?_
    show AWp _ _ _ _ _
    refine wseq ?_
    refine wreg fun K hK=>?_
    simp [C.spec_l3Same,fS]
    refine hK _ ?_;clear hK K
    show AWp _ _ _ _ _
    refine wret ?_
    simp [C.spec_l3Same,fS]
    rw [hk2,List.take_length,hc.2,List.take_length] at ht
    cases f
    cases g
    simp_all
 clear hK
 by_cases ha:f.v=g.v
 ·refine opsI_end fun L hL=>?_
  simp [C.spec_l3Same,fS,ha]
  refine hL _ ?_;clear hL L
  simp [C.spec_l3Same,fS,ha]
  refine cast (congrArg K ?_) hJ
  simp [ibne,fS,ha]
 ·refine opsI_end fun L hL=>?_
  simp [C.spec_l3Same,fS,ha]
  refine hL _ ?_;clear hL L
  simp [C.spec_l3Same,fS,ha]
  refine cast (congrArg K ?_) hJ
  simp [ibne,fS,ha]
theorem spec_l9SameSeed_calls (a b:Sed) (hx:SmS a):ACalls Tryz.prog F.spec_l9SameSeed [aS a,aS b] [] true (fun outs res=>outs=[]/\res=[.one (D.bool (decide (a=b)))]):=by
 have hx1:=hx.1
 have hx3:=hx.2.2
 refine ACalls.of_body (C:=C.spec_l9SameSeed) (n:=Tryz.f99.ntmps) tabT folT Tryz.func99 rfl (by kernel_rfl) rfl (Nat.le_of_ble_eq_true rfl) (by decide) (by kernel_rfl) (by kernel_rfl) rfl (by simp) (by simp) ?_
 simp only [Tryz.f99]
 refine wseq ?_
 refine wreg fun K hK=>?_
 simp [C.spec_l9SameSeed,sS]
 refine hK _ ?_;clear hK K
 show AWp _ _ _ _ _
 refine wseq ?_
 refine wseq ?_
 refine wregI ([0,1,2,3,4,5,6,7,8,9,10,11,12,13,14,15,16,17,18,19,20,21,22,23] ++ ([24,25,26,27,28,29,30,31,32,33,34])) rfl fun K hK=>?_
 have hJ:K ⟨ofL [(2,.pt (2,0) [] 0),(3,.pt (3,0) [] 0),(40,.bool (!decide (a.m=b.m/\(a.f.length:Int)=b.f.length)))],ofRO [((2,0),some (.bx (sS a))),((3,0),some (.bx (sS b)))]⟩:=by
  refine hK _ ?_;clear hK K
  show AWp _ _ _ _ _
  refine wcond _ rfl (fun hc1=>?_) (fun hc1=>?_)
  ·have hc:=nd_t hc1
   refine wseq ?_
   refine wreg fun K hK=>?_
   simp [C.spec_l9SameSeed,sS]
   refine hK _ ?_;clear hK K
   show AWp _ _ _ _ _
   refine wret ?_
   simp [C.spec_l9SameSeed,sS]
   intro e
   subst e
   exact hc ⟨rfl,rfl⟩
  ·have hc0:=nd_f hc1
   have hc:a.m=b.m/\a.f.length=b.f.length:=⟨hc0.1,by have:=hc0.2;omega⟩
   refine wskip ?_
   show AWp _ _ _ _ _
   refine wseq ?_
   refine wseq ?_
   refine wreg fun K hK=>?_
   simp [C.spec_l9SameSeed,sS]
   refine hK _ ?_;clear hK K
   show AWp _ _ _ _ _
   refine wblock ?_
   refine wloop (fun k:Nat=>⟨ofL [(2,.pt (2,0) [] 0),(3,.pt (3,0) [] 0),(5,FV.int k)],ofRO [((2,0),some (.bx (sS a))),((3,0),some (.bx (sS b)))]⟩) (fun k=>k<=a.f.length/\a.f.take k=b.f.take k) (fun k=>a.f.length - k) 0 (by simp [C.spec_l9SameSeed,sS]) (by simp) ?_
   intro x1 hx1 R1 hR1
   obtain ⟨hk,ht⟩:=hx1
   refine wseq ?_
   refine wseq ?_
   refine wreg fun K hK=>?_
   simp [C.spec_l9SameSeed,sS]
   refine hK _ ?_;clear hK K
   show AWp _ _ _ _ _
   refine wcond _ rfl (fun hc2=>?_) (fun hc2=>?_)
   ·have h1:x1 < a.f.length:=by have:=d_t hc2;omega
    have h2:x1 < b.f.length:=by omega
    refine wskip ?_
    show AWp _ _ _ _ _
    refine wseq ?_
    refine wblock ?_
    refine wseq ?_
    refine wdrawI [(true,0),(true,1),(true,2),(true,3),(true,4),(true,5),(true,6),(true,7),(true,8),(true,9),(false,10),(true,11)] ⟨by kernel_rfl,by kernel_rfl⟩ ([0,1,2,3,4,5,6,7,8,9,10] ++ ([11])) rfl fun K hK=>?_
    refine opsI_seg fun L hL=>?_
    simp [C.spec_l9SameSeed,sS,h1,h2,fS_0 h1,fS_1 h1,fS_0 h2,fS_1 h2,show (x1:Int) < a.f.length by omega,show (x1:Int) < b.f.length by omega]
    refine wcall1 (spec_l3Same_calls a.f[x1] b.f[x1] (hx.2.2 _ (List.getElem_mem h1))) (by simp) (by simp) ?_
    simp [C.spec_l9SameSeed,sS,h1,h2,fS_0 h1,fS_1 h1,fS_0 h2,fS_1 h2,show (x1:Int) < a.f.length by omega,show (x1:Int) < b.f.length by omega]
    refine hL _ ?_;clear hL L
    refine opsI_end fun L hL=>?_
    simp [C.spec_l9SameSeed,sS,h1,h2,fS_0 h1,fS_1 h1,fS_0 h2,fS_1 h2,show (x1:Int) < a.f.length by omega,show (x1:Int) < b.f.length by omega]
    refine hL _ ?_;clear hL L
    simp [C.spec_l9SameSeed,sS,h1,h2,fS_0 h1,fS_1 h1,fS_0 h2,fS_1 h2,show (x1:Int) < a.f.length by omega,show (x1:Int) < b.f.length by omega]
    refine hK _ ?_;clear hK K
    show AWp _ _ _ _ _
    refine wcond _ rfl (fun hc3=>?_) (fun hc3=>?_)
    ·have hb:=nd_t hc3
     refine wseq ?_
     refine wreg fun K hK=>?_
     simp [C.spec_l9SameSeed,sS]
     refine hK _ ?_;clear hK K
     show AWp _ _ _ _ _
     refine wret ?_
     simp [C.spec_l9SameSeed,sS]
     intro e
     subst e
     exact hb rfl
    ·have hb:=nd_f hc3
     have hl1:=hx.2.1
     refine wskip ?_
     show AWp _ _ _ _ _
     refine wreg fun K hK=>?_
     simp [C.spec_l9SameSeed,sS,wrap_succ (show x1 < 4611686018427387904 by omega)]
     refine hK _ ?_;clear hK K
     simp [C.spec_l9SameSeed,sS]
     refine hR1 (x1+1) ⟨h1,?_⟩ (by omega)
     rw [List.take_succ_eq_append_getElem h1,List.take_succ_eq_append_getElem h2,ht,hb]
   ·have hk2:x1=a.f.length:=by have:=d_f hc2;omega
    refine wexit ?_
    show AWp _ _ _ _ _
    refine wseq ?_
    refine wreg fun K hK=>?_
    simp [C.spec_l9SameSeed,sS]
    refine hK _ ?_;clear hK K
    show AWp _ _ _ _ _
    refine wret ?_
    simp [C.spec_l9SameSeed,sS]
    rw [hk2,List.take_length,hc.2,List.take_length] at ht
    rw [sed_eq]
    exact ⟨hc.1,ht⟩
 clear hK
 by_cases h1:a.m.n=b.m.n
 ·by_cases h2:a.m.r=b.m.r
  ·by_cases h3:a.m.d=b.m.d
   ·refine opsI_seg fun L hL=>?_
    simp [C.spec_l9SameSeed,sS,h3,h1,h2,h3]
    refine wcall1 (spec_l1Same_calls a.m.d b.m.d hx.1) (by simp [sS,h3]) (by simp) ?_
    simp [C.spec_l9SameSeed,sS,h3,h1,h2,h3]
    refine hL _ ?_;clear hL L
    refine opsI_end fun L hL=>?_
    simp [C.spec_l9SameSeed,sS,h3,h1,h2,h3]
    refine hL _ ?_;clear hL L
    simp [C.spec_l9SameSeed,sS,h3,h1,h2,h3]
    refine cast (congrArg K ?_) hJ
    simp [ibne,mat_eq,sS,h1,h2,h3]
   ·refine opsI_seg fun L hL=>?_
    simp [C.spec_l9SameSeed,sS,h1,h2,h3]
    refine wcall1 (spec_l1Same_calls a.m.d b.m.d hx.1) (by simp) (by simp) ?_
    simp [C.spec_l9SameSeed,sS,h1,h2,h3]
    refine hL _ ?_;clear hL L
    refine opsI_end fun L hL=>?_
    simp [C.spec_l9SameSeed,sS,h1,h2,h3]
    refine hL _ ?_;clear hL L
    simp [C.spec_l9SameSeed,sS,h1,h2,h3]
    refine cast (congrArg K ?_) hJ
    simp [ibne,mat_eq,sS,h1,h2,h3]
  ·refine opsI_seg fun L hL=>?_
   simp [C.spec_l9SameSeed,sS,h1,h2]
   refine hL _ ?_;clear hL L
   refine opsI_end fun L hL=>?_
   simp [C.spec_l9SameSeed,sS,h1,h2]
   refine hL _ ?_;clear hL L
   simp [C.spec_l9SameSeed,sS,h1,h2]
   refine cast (congrArg K ?_) hJ
   simp [ibne,mat_eq,sS,h1,h2]
 ·refine opsI_seg fun L hL=>?_
  simp [C.spec_l9SameSeed,sS,h1]
  refine hL _ ?_;clear hL L
  refine opsI_end fun L hL=>?_
  simp [C.spec_l9SameSeed,sS,h1]
  refine hL _ ?_;clear hL L
  simp [C.spec_l9SameSeed,sS,h1]
  refine cast (congrArg K ?_) hJ
  simp [ibne,mat_eq,sS,h1]
noncomputable def sesB (z:Ses):Bool:=(seedByF z.a z.k).2 && decide ((seedByF z.a z.k).1=z.s)
theorem impl_SessionOk_calls (z:Ses) (hx:z.a.d.length < 17592186044416) (hk:z.k.length < 4611686018427387904):ACalls Tryz.prog F.impl_SessionOk [aZ z] [] true (fun outs res=>outs=[]/\res=[.one (D.bool (sesB z))]):=by
 have hgd:=seedBy_gd z.a z.k
 have hby:=iBy_calls z.a z.k hx hk
 have hB:sesB z=((seedByF z.a z.k).2 && decide ((seedByF z.a z.k).1=z.s)):=rfl
 generalize seedByF z.a z.k=I at hgd hby hB
 have he:decide (I.1=z.s)=(decide (I.1.m=z.s.m) && decide (I.1.f=z.s.f)):=by
  rw [Bool.eq_iff_iff]
  simp [sed_eq]
 rw [he] at hB
 refine ACalls.of_body (C:=C.impl_SessionOk) (n:=Tryz.f37.ntmps) tabT folT Tryz.func37 rfl (by kernel_rfl) rfl (Nat.le_of_ble_eq_true rfl) (by decide) (by kernel_rfl) (by kernel_rfl) rfl (by simp) (by simp) ?_
 simp only [Tryz.f37]
 refine wseq ?_
 refine wreg fun K hK=>?_
 simp [C.impl_SessionOk,zS,sO]
 refine hK _ ?_;clear hK K
 show AWp _ _ _ _ _
 refine wseq ?_
 refine wregI ([0,1,2,3,4] ++ ([5,6,7,8,9,10])) rfl fun K hK=>?_
 refine opsI_seg fun L hL=>?_
 simp [C.impl_SessionOk,zS,sO]
 refine wcall1 (hby) (by simp) (by simp) ?_
 simp [C.impl_SessionOk,zS,sO]
 refine hL _ ?_;clear hL L
 refine opsI_end fun L hL=>?_
 simp [C.impl_SessionOk,zS,sO]
 refine hL _ ?_;clear hL L
 simp [C.impl_SessionOk,zS,sO]
 refine hK _ ?_;clear hK K
 show AWp _ _ _ _ _
 refine wseq ?_
 refine wregI ([0,1,2,3,4,5,6,7] ++ ([8,9,10,11,12,13,14,15] ++ ([16,17]))) rfl fun K hK=>?_
 have hJ:K ⟨ofL [(2,.bool (sesB z))],ofRO []⟩:=by
  refine hK _ ?_;clear hK K
  show AWp _ _ _ _ _
  refine wret ?_
  simp [C.impl_SessionOk,zS,sO]
 clear hK
 by_cases h1:I.2=true
 ·by_cases h2:I.1.m=z.s.m
  ·refine opsI_seg fun L hL=>?_
   simp [C.impl_SessionOk,zS,sO,h2,h1,h2]
   refine wcall1 (impl_sameMatrix_calls I.1.m z.s.m (by have:=hgd.sm.1;omega)) (by simp [zS,sO,h2]) (by simp) ?_
   simp [C.impl_SessionOk,zS,sO,h2,h1,h2]
   refine hL _ ?_;clear hL L
   refine opsI_seg fun L hL=>?_
   simp [C.impl_SessionOk,zS,sO,h2,h1,h2]
   refine wcall1 (slices_EqualFunc_impl_Laurent_impl_Laurent_impl_Laurent_impl_Laurent_calls I.1.f z.s.f hgd.sm.2.1 hgd.sm.2.2) (by simp) (by simp) ?_
   simp [C.impl_SessionOk,zS,sO,h2,h1,h2]
   refine hL _ ?_;clear hL L
   refine opsI_end fun L hL=>?_
   simp [C.impl_SessionOk,zS,sO,h2,h1,h2]
   refine hL _ ?_;clear hL L
   simp [C.impl_SessionOk,zS,sO,h2,h1,h2]
   refine cast (congrArg K ?_) hJ
   simp [hB,zS,sO,h1,h2]
  ·refine opsI_seg fun L hL=>?_
   simp [C.impl_SessionOk,zS,sO,h1,h2]
   refine wcall1 (impl_sameMatrix_calls I.1.m z.s.m (by have:=hgd.sm.1;omega)) (by simp) (by simp) ?_
   simp [C.impl_SessionOk,zS,sO,h1,h2]
   refine hL _ ?_;clear hL L
   refine opsI_seg fun L hL=>?_
   simp [C.impl_SessionOk,zS,sO,h1,h2]
   refine hL _ ?_;clear hL L
   refine opsI_end fun L hL=>?_
   simp [C.impl_SessionOk,zS,sO,h1,h2]
   refine hL _ ?_;clear hL L
   simp [C.impl_SessionOk,zS,sO,h1,h2]
   refine cast (congrArg K ?_) hJ
   simp [hB,zS,sO,h1,h2]
 ·refine opsI_seg fun L hL=>?_
  simp [C.impl_SessionOk,zS,sO,h1]
  refine hL _ ?_;clear hL L
  refine opsI_seg fun L hL=>?_
  simp [C.impl_SessionOk,zS,sO,h1]
  refine hL _ ?_;clear hL L
  refine opsI_end fun L hL=>?_
  simp [C.impl_SessionOk,zS,sO,h1]
  refine hL _ ?_;clear hL L
  simp [C.impl_SessionOk,zS,sO,h1]
  refine cast (congrArg K ?_) hJ
  simp [hB,zS,sO,h1]
theorem spec_SessionOk_calls (z:Ses) (hx:z.a.d.length < 17592186044416) (hk:z.k.length < 4611686018427387904):ACalls Tryz.prog F.spec_SessionOk [aZ z] [] true (fun outs res=>outs=[]/\res=[.one (D.bool (sesB z))]):=by
 have hgd:=ini_gd z.a
 have hini:=sIni_calls z.a hx
 have hal:=sAl_calls (iniF z.a).1 z.k hgd.sm.1 hgd.sm.2.1 hgd.sm.2.2 hk
 have hgd2:=GdS.along (iniF z.a).1 z.k
 have hz:(iniF z.a).2=false->(iniF z.a).1=zeroS:=by
  unfold iniF
  split <;> simp
 have hB:sesB z=((iniF z.a).2 && (alongF (iniF z.a).1 z.k).2 && decide ((alongF (iniF z.a).1 z.k).1=z.s)):=by
  unfold sesB seedByF
  cases h:(iniF z.a).2 <;> simp
 generalize alongF (iniF z.a).1 z.k=J at hal hgd2 hB
 generalize iniF z.a=I at hgd hini hal hB hz
 refine ACalls.of_body (C:=C.spec_SessionOk) (n:=Tryz.f35.ntmps) tabT folT Tryz.func35 rfl (by kernel_rfl) rfl (Nat.le_of_ble_eq_true rfl) (by decide) (by kernel_rfl) (by kernel_rfl) rfl (by simp) (by simp) ?_
 simp only [Tryz.f35]
 refine wseq ?_
 refine wreg fun K hK=>?_
 simp [C.spec_SessionOk,zS,sO]
 refine hK _ ?_;clear hK K
 show AWp _ _ _ _ _
 refine wseq ?_
 refine wregI ([0,1,2] ++ ([3,4,5,6,7,8])) rfl fun K hK=>?_
 refine opsI_seg fun L hL=>?_
 simp [C.spec_SessionOk,zS,sO]
 refine wcall1 (hini) (by simp) (by simp) ?_
 simp [C.spec_SessionOk,zS,sO]
 refine hL _ ?_;clear hL L
 refine opsI_end fun L hL=>?_
 simp [C.spec_SessionOk,zS,sO]
 refine hL _ ?_;clear hL L
 simp [C.spec_SessionOk,zS,sO]
 refine hK _ ?_;clear hK K
 show AWp _ _ _ _ _
 refine wseq ?_
 refine wregI ([0,1,2,3] ++ ([4,5,6,7,8,9])) rfl fun K hK=>?_
 refine opsI_seg fun L hL=>?_
 simp [C.spec_SessionOk,zS,sO]
 refine wcall1 (hal) (by simp) (by simp) ?_
 simp [C.spec_SessionOk,zS,sO]
 refine hL _ ?_;clear hL L
 refine opsI_end fun L hL=>?_
 simp [C.spec_SessionOk,zS,sO]
 refine hL _ ?_;clear hL L
 simp [C.spec_SessionOk,zS,sO]
 refine hK _ ?_;clear hK K
 show AWp _ _ _ _ _
 refine wseq ?_
 refine wregI ([0,1,2,3,4,5,6,7,8] ++ ([9,10])) rfl fun K hK=>?_
 have hJ:K ⟨ofL [(2,.bool (sesB z))],ofRO []⟩:=by
  refine hK _ ?_;clear hK K
  show AWp _ _ _ _ _
  refine wret ?_
  simp [C.spec_SessionOk,zS,sO]
 clear hK
 by_cases h1:I.2=true
 ·by_cases h2:J.2=true
  ·refine opsI_seg fun L hL=>?_
   simp [C.spec_SessionOk,zS,sO,h1,h2]
   refine wcall1 (spec_l9SameSeed_calls J.1 z.s (gds_sms hgd2)) (by simp) (by simp) ?_
   simp [C.spec_SessionOk,zS,sO,h1,h2]
   refine hL _ ?_;clear hL L
   refine opsI_end fun L hL=>?_
   simp [C.spec_SessionOk,zS,sO,h1,h2]
   refine hL _ ?_;clear hL L
   simp [C.spec_SessionOk,zS,sO,h1,h2]
   refine cast (congrArg K ?_) hJ
   simp [hB,zS,sO,h1,h2]
  ·refine opsI_seg fun L hL=>?_
   simp [C.spec_SessionOk,zS,sO,h1,h2]
   refine hL _ ?_;clear hL L
   refine opsI_end fun L hL=>?_
   simp [C.spec_SessionOk,zS,sO,h1,h2]
   refine hL _ ?_;clear hL L
   simp [C.spec_SessionOk,zS,sO,h1,h2]
   refine cast (congrArg K ?_) hJ
   simp [hB,zS,sO,h1,h2]
 ·refine opsI_seg fun L hL=>?_
  simp [C.spec_SessionOk,zS,sO,h1]
  refine hL _ ?_;clear hL L
  refine opsI_end fun L hL=>?_
  simp [C.spec_SessionOk,zS,sO,h1]
  refine hL _ ?_;clear hL L
  simp [C.spec_SessionOk,zS,sO,h1]
  refine cast (congrArg K ?_) hJ
  simp [hB,zS,sO,h1]
end Go.Proofs.YtbhkonnakkhibaaGreat.Ab
namespace Go.Proofs.YtbhkonnakkhibaaGreat.Ab
open Go
set_option maxRecDepth 10000
set_option maxHeartbeats 2000000
def szZ (z:Ses):Nat:=z.a.d.length+z.k.length+szSd z.s
theorem laws_szSession_calls (z:Ses) (left:Int) (h0:0<=left) (h1:left<=1048576) (hx:SmZ z):ACalls Tryz.prog F.laws_szSession [aZ z,.int left] [] true (fun outs res=>outs=[]/\∃ r:Int,res=[.one (D.int r)]/\(r=-1\/(0<=r/\r+szZ z=left))):=by
 refine ACalls.of_body (C:=C.laws_szSession) (n:=Tryz.f34.ntmps) tabT folT Tryz.func34 rfl (by kernel_rfl) rfl (Nat.le_of_ble_eq_true rfl) (by decide) (by kernel_rfl) (by kernel_rfl) rfl (by simp) (by simp) ?_
 simp only [Tryz.f34]
 refine wseq ?_
 refine wreg fun K hK=>?_
 simp [C.laws_szSession,zS]
 refine hK _ ?_;clear hK K
 show AWp _ _ _ _ _
 refine wseq ?_
 refine wregI ([0,1,2,3] ++ ([4])) rfl fun K hK=>?_
 refine opsI_seg fun L hL=>?_
 simp [C.laws_szSession,zS]
 refine wcall (laws_szMatrix_calls z.a left h0 h1 hx.1) (by simp) (by simp) (by simp) ?_
 rintro outs res ⟨rfl,r,rfl,hr⟩
 simp [C.laws_szSession,zS]
 refine hL _ ?_;clear hL L
 refine opsI_end fun L hL=>?_
 simp [C.laws_szSession,zS]
 refine hL _ ?_;clear hL L
 simp [C.laws_szSession,zS]
 refine hK _ ?_;clear hK K
 show AWp _ _ _ _ _
 refine wseq ?_
 refine wseq ?_
 refine wreg fun K hK=>?_
 simp [C.laws_szSession,zS]
 refine hK _ ?_;clear hK K
 show AWp _ _ _ _ _
 refine wcond _ rfl (fun hc1=>?_) (fun hc1=>?_)
 ·refine wseq ?_
  refine wreg fun K hK=>?_
  simp [C.laws_szSession,zS]
  refine hK _ ?_;clear hK K
  show AWp _ _ _ _ _
  refine wret ?_
  simp [C.laws_szSession,zS]
 ·have q1:0<=r:=by have:=d_f hc1;omega
  refine wskip ?_
  show AWp _ _ _ _ _
  refine wseq ?_
  refine wregI ([0,1,2,3] ++ ([4])) rfl fun K hK=>?_
  refine opsI_seg fun L hL=>?_
  simp [C.laws_szSession,zS]
  refine wcall (laws_szIntS_calls z.k r (by omega) (by omega) hx.2.1) (by simp) (by simp) (by simp) ?_
  rintro outs res ⟨rfl,r2,rfl,hr2⟩
  simp [C.laws_szSession,zS]
  refine hL _ ?_;clear hL L
  refine opsI_end fun L hL=>?_
  simp [C.laws_szSession,zS]
  refine hL _ ?_;clear hL L
  simp [C.laws_szSession,zS]
  refine hK _ ?_;clear hK K
  show AWp _ _ _ _ _
  refine wseq ?_
  refine wseq ?_
  refine wreg fun K hK=>?_
  simp [C.laws_szSession,zS]
  refine hK _ ?_;clear hK K
  show AWp _ _ _ _ _
  refine wcond _ rfl (fun hc2=>?_) (fun hc2=>?_)
  ·refine wseq ?_
   refine wreg fun K hK=>?_
   simp [C.laws_szSession,zS]
   refine hK _ ?_;clear hK K
   show AWp _ _ _ _ _
   refine wret ?_
   simp [C.laws_szSession,zS]
  ·have q2:0<=r2:=by have:=d_f hc2;omega
   refine wskip ?_
   show AWp _ _ _ _ _
   refine wseq ?_
   refine wregI ([0,1,2,3] ++ ([4])) rfl fun K hK=>?_
   refine opsI_seg fun L hL=>?_
   simp [C.laws_szSession,zS]
   refine wcall (laws_szSeed_calls z.s r2 (by omega) (by omega) hx.2.2) (by simp) (by simp) (by simp) ?_
   rintro outs res ⟨rfl,r3,rfl,hr3⟩
   simp [C.laws_szSession,zS]
   refine hL _ ?_;clear hL L
   refine opsI_end fun L hL=>?_
   simp [C.laws_szSession,zS]
   refine hL _ ?_;clear hL L
   simp [C.laws_szSession,zS]
   refine hK _ ?_;clear hK K
   show AWp _ _ _ _ _
   refine wseq ?_
   refine wseq ?_
   refine wreg fun K hK=>?_
   simp [C.laws_szSession,zS]
   refine hK _ ?_;clear hK K
   show AWp _ _ _ _ _
   refine wcond _ rfl (fun hc3=>?_) (fun hc3=>?_)
   ·refine wseq ?_
    refine wreg fun K hK=>?_
    simp [C.laws_szSession,zS]
    refine hK _ ?_;clear hK K
    show AWp _ _ _ _ _
    refine wret ?_
    simp [C.laws_szSession,zS]
   ·refine wskip ?_
    show AWp _ _ _ _ _
    refine wseq ?_
    refine wreg fun K hK=>?_
    simp [C.laws_szSession,zS]
    refine hK _ ?_;clear hK K
    show AWp _ _ _ _ _
    refine wret ?_
    simp at hc3
    simp [C.laws_szSession,zS]
    unfold szZ
    omega
theorem laws_toSession_calls (z:Ses) (hx:z.a.d.length<=1048576) (hk:z.k.length<=1048576) (hy:z.s.m.d.length<=1048576) (hl:z.s.f.length<=1048576) (hx2:∀ f∈z.s.f,f.ts.length<=1048576/\∀ t∈f.ts,t.e.length<=1048576):ACalls Tryz.prog F.laws_toSession [aZ z] [] true (fun outs res=>outs=[]/\res=[.ag (zO z)]):=by
 refine ACalls.of_body (C:=C.laws_toSession) (n:=Tryz.f36.ntmps) tabT folT Tryz.func36 rfl (by kernel_rfl) rfl (Nat.le_of_ble_eq_true rfl) (by decide) (by kernel_rfl) (by kernel_rfl) rfl (by simp) (by simp) ?_
 simp only [Tryz.f36]
 refine wseq ?_
 refine wreg fun K hK=>?_
 simp [C.laws_toSession,zS]
 refine hK _ ?_;clear hK K
 show AWp _ _ _ _ _
 refine wseq ?_
 refine wreg fun K hK=>?_
 simp [C.laws_toSession,zS]
 refine hK _ ?_;clear hK K
 show AWp _ _ _ _ _
 refine wseq ?_
 refine wregI ([0,1,2] ++ ([3,4])) rfl fun K hK=>?_
 refine opsI_seg fun L hL=>?_
 simp [C.laws_toSession,zS,mO]
 refine wcall1 (laws_toMatrix_calls z.a hx) (by simp) (by simp) ?_
 simp [C.laws_toSession,zS,mO]
 refine hL _ ?_;clear hL L
 refine opsI_end fun L hL=>?_
 simp [C.laws_toSession,zS,mO]
 refine hL _ ?_;clear hL L
 simp [C.laws_toSession,zS,mO]
 refine hK _ ?_;clear hK K
 show AWp _ _ _ _ _
 refine wseq ?_
 refine wregI ([0,1,2] ++ ([3,4])) rfl fun K hK=>?_
 refine opsI_seg fun L hL=>?_
 simp [C.laws_toSession,zS]
 refine wcall1 (laws_toIntS_calls z.k hk) (by simp) (by simp) ?_
 simp [C.laws_toSession,zS]
 refine hL _ ?_;clear hL L
 refine opsI_end fun L hL=>?_
 simp [C.laws_toSession,zS]
 refine hL _ ?_;clear hL L
 simp [C.laws_toSession,zS]
 refine hK _ ?_;clear hK K
 show AWp _ _ _ _ _
 refine wseq ?_
 refine wregI ([0,1,2] ++ ([3,4])) rfl fun K hK=>?_
 refine opsI_seg fun L hL=>?_
 simp [C.laws_toSession,zS,sO]
 refine wcall1 (laws_toSeed_calls z.s hy hl hx2) (by simp) (by simp) ?_
 simp [C.laws_toSession,zS,sO]
 refine hL _ ?_;clear hL L
 refine opsI_end fun L hL=>?_
 simp [C.laws_toSession,zS,sO]
 refine hL _ ?_;clear hL L
 simp [C.laws_toSession,zS,sO]
 refine hK _ ?_;clear hK K
 show AWp _ _ _ _ _
 refine wseq ?_
 refine wreg fun K hK=>?_
 simp [C.laws_toSession,zS]
 refine hK _ ?_;clear hK K
 show AWp _ _ _ _ _
 refine wret ?_
 simp [C.laws_toSession,zS,zO]
theorem laws_FnExactSessionOk_calls (z:Ses) (hs:SmZ z):ACalls Tryz.prog F.laws_FnExactSessionOk [aZ z] [] true (fun outs res=>outs=[]/\res=[.one (D.bool true)]):=by
 refine ACalls.of_body (C:=C.laws_FnExactSessionOk) (n:=Tryz.f6.ntmps) tabT folT Tryz.func6 rfl (by kernel_rfl) rfl (Nat.le_of_ble_eq_true rfl) (by decide) (by kernel_rfl) (by kernel_rfl) rfl (by simp) (by simp) ?_
 simp only [Tryz.f6]
 refine wseq ?_
 refine wreg fun K hK=>?_
 simp [C.laws_FnExactSessionOk,zS,zO]
 refine hK _ ?_;clear hK K
 show AWp _ _ _ _ _
 refine wseq ?_
 refine wreg fun K hK=>?_
 simp [C.laws_FnExactSessionOk,zS,zO]
 refine hK _ ?_;clear hK K
 show AWp _ _ _ _ _
 refine wseq ?_
 refine wregI ([0,1,2] ++ ([3])) rfl fun K hK=>?_
 refine opsI_seg fun L hL=>?_
 simp [C.laws_FnExactSessionOk,zS,zO]
 refine wcall (laws_szSession_calls z 1048576 (by omega) (by omega) hs) (by simp) (by simp) (by simp) ?_
 rintro outs res ⟨rfl,r1,rfl,hr1⟩
 simp [C.laws_FnExactSessionOk,zS,zO]
 refine hL _ ?_;clear hL L
 refine opsI_end fun L hL=>?_
 simp [C.laws_FnExactSessionOk,zS,zO]
 refine hL _ ?_;clear hL L
 simp [C.laws_FnExactSessionOk,zS,zO]
 refine hK _ ?_;clear hK K
 show AWp _ _ _ _ _
 refine wseq ?_
 refine wseq ?_
 refine wreg fun K hK=>?_
 simp [C.laws_FnExactSessionOk,zS,zO]
 refine hK _ ?_;clear hK K
 show AWp _ _ _ _ _
 refine wcond _ rfl (fun hc1=>?_) (fun hc1=>?_)
 ·refine wseq ?_
  refine wreg fun K hK=>?_
  simp [C.laws_FnExactSessionOk,zS,zO]
  refine hK _ ?_;clear hK K
  show AWp _ _ _ _ _
  refine wret ?_
  simp [C.laws_FnExactSessionOk,zS,zO]
 ·have q1:0<=r1:=by have:=d_f hc1;omega
  have q2:r1+szZ z=1048576:=by omega
  have ql:z.a.d.length<=1048576/\z.k.length<=1048576:=by unfold szZ at q2;omega
  have sl:=szSd_small (s:=z.s) (r:=0) (by omega) (by unfold szZ at q2;omega)
  have hto:=laws_toSession_calls z ql.1 ql.2 sl.1 sl.2.1 sl.2.2
  refine wskip ?_
  show AWp _ _ _ _ _
  refine wseq ?_
  refine wregI ([0,1] ++ ([2] ++ ([3]))) rfl fun K hK=>?_
  refine opsI_seg fun L hL=>?_
  simp [C.laws_FnExactSessionOk,zS,zO]
  refine wcall1 (hto) (by simp) (by simp) ?_
  simp [C.laws_FnExactSessionOk,zS,zO]
  refine hL _ ?_;clear hL L
  refine opsI_seg fun L hL=>?_
  simp [C.laws_FnExactSessionOk,zS,zO]
  refine wcall1 (spec_SessionOk_calls z (by omega) (by omega)) (by simp) (by simp) ?_
  simp [C.laws_FnExactSessionOk,zS,zO]
  refine hL _ ?_;clear hL L
  refine opsI_end fun L hL=>?_
  simp [C.laws_FnExactSessionOk,zS,zO]
  refine hL _ ?_;clear hL L
  simp [C.laws_FnExactSessionOk,zS,zO]
  refine hK _ ?_;clear hK K
  show AWp _ _ _ _ _
  refine wseq ?_
  refine wregI ([0,1] ++ ([2,3])) rfl fun K hK=>?_
  refine opsI_seg fun L hL=>?_
  simp [C.laws_FnExactSessionOk,zS,zO]
  refine wcall1 (hto) (by simp) (by simp) ?_
  simp [C.laws_FnExactSessionOk,zS,zO]
  refine hL _ ?_;clear hL L
  refine opsI_end fun L hL=>?_
  simp [C.laws_FnExactSessionOk,zS,zO]
  refine hL _ ?_;clear hL L
  simp [C.laws_FnExactSessionOk,zS,zO]
  refine hK _ ?_;clear hK K
  show AWp _ _ _ _ _
  refine wseq ?_
  refine wregI ([0,1] ++ ([2])) rfl fun K hK=>?_
  refine opsI_seg fun L hL=>?_
  simp [C.laws_FnExactSessionOk,zS,zO]
  refine wcall1 (impl_SessionOk_calls z (by omega) (by omega)) (by simp) (by simp) ?_
  simp [C.laws_FnExactSessionOk,zS,zO]
  refine hL _ ?_;clear hL L
  refine opsI_end fun L hL=>?_
  simp [C.laws_FnExactSessionOk,zS,zO]
  refine hL _ ?_;clear hL L
  simp [C.laws_FnExactSessionOk,zS,zO]
  refine hK _ ?_;clear hK K
  show AWp _ _ _ _ _
  refine wseq ?_
  refine wseq ?_
  refine wreg fun K hK=>?_
  simp [C.laws_FnExactSessionOk,zS,zO]
  refine hK _ ?_;clear hK K
  show AWp _ _ _ _ _
  refine wcond _ rfl (fun hc2=>?_) (fun hc2=>?_)
  ·simp at hc2
  ·refine wskip ?_
   show AWp _ _ _ _ _
   refine wseq ?_
   refine wseq ?_
   refine wdrawI [(true,0),(true,1),(false,2),(false,3),(true,4)] ⟨by kernel_rfl,by kernel_rfl⟩ ([0,1,2] ++ ([3] ++ ([4]))) rfl fun K hK=>?_
   refine opsI_seg fun L hL=>?_
   simp [C.laws_FnExactSessionOk,zS,zO]
   refine wcall1 (hto) (by simp) (by simp) ?_
   simp [C.laws_FnExactSessionOk,zS,zO]
   refine hL _ ?_;clear hL L
   refine opsI_seg fun L hL=>?_
   simp [C.laws_FnExactSessionOk,zS,zO]
   refine wcall1 (laws_eqSession_calls z z hs) (by simp) (by simp) ?_
   simp [C.laws_FnExactSessionOk,zS,zO]
   refine hL _ ?_;clear hL L
   refine opsI_end fun L hL=>?_
   simp [C.laws_FnExactSessionOk,zS,zO]
   refine hL _ ?_;clear hL L
   simp [C.laws_FnExactSessionOk,zS,zO]
   refine hK _ ?_;clear hK K
   show AWp _ _ _ _ _
   refine wcond _ rfl (fun hc3=>?_) (fun hc3=>?_)
   ·simp at hc3
   ·refine wskip ?_
    show AWp _ _ _ _ _
    refine wseq ?_
    refine wreg fun K hK=>?_
    simp [C.laws_FnExactSessionOk,zS,zO]
    refine hK _ ?_;clear hK K
    show AWp _ _ _ _ _
    refine wret ?_
    simp [C.laws_FnExactSessionOk,zS,zO]
end Go.Proofs.YtbhkonnakkhibaaGreat.Ab
namespace Go.Proofs.YtbhkonnakkhibaaGreat.Ab
open Go Go.ChangeShapes Go.WideShapes Go.ChangeAt Go.RowKit
set_option maxRecDepth 100000
section
variable {H:Type} {enc:TypeId×Value->H} {W:World}
def MatB (m:Mat):Prop:=i64b m.n/\i64b m.r/\IntsB m.d
theorem opMat:Opens enc Tryz.prog W 24 3 Mat mS MatB:=
 (Opens.struct3 opInt opInt opInts Tryz.underlying24 ⟨rfl,rfl⟩ ⟨rfl,rfl⟩ ⟨rfl,rfl⟩ (by kernel_rfl)).to (fun a=>⟨a.1,a.2.1,a.2.2⟩) (fun a=>rfl) (fun _=>rfl) (fun _ h=>⟨h.1,h.2.1,h.2.2⟩)
theorem MatB.small {m:Mat} (h:MatB m):m.d.length < 17592186044416:=by
 have:=h.2.2.2
 omega
def LausB (l:List Lau):Prop:=(∀ x∈l,LauB x)/\l.length*32<=140737488351232
theorem opLaus:Opens enc Tryz.prog W 57 1 (List Lau) (fun l=>[.sh 2 l.length (rows fS l)]) LausB:=
 Opens.slice opLau (by omega) Tryz.underlying57 (by kernel_rfl) (by kernel_rfl)
def SedB (s:Sed):Prop:=MatB s.m/\LausB s.f
theorem opSed:Opens enc Tryz.prog W 59 4 Sed sS SedB:=
 (Opens.struct2 opMat opLaus Tryz.underlying59 ⟨rfl,rfl⟩ ⟨rfl,rfl⟩ (by kernel_rfl)).to (fun a=>⟨a.1,a.2⟩) (fun a=>rfl) (fun _=>rfl) (fun _ h=>⟨h.1,h.2⟩)
theorem SedB.small {s:Sed} (h:SedB s):SmS s:=⟨by have:=h.1.small;omega,by have:=h.2.2;omega,fun f hf=>(h.2.1 f hf).small⟩
end
end Go.Proofs.YtbhkonnakkhibaaGreat.Ab
namespace Go.Proofs.YtbhkonnakkhibaaGreat.Ab
open Go Go.ChangeShapes Go.WideShapes Go.ChangeAt Go.RowKit
set_option maxRecDepth 100000
section
variable {H:Type} {enc:TypeId×Value->H} {W:World}
def SesB (z:Ses):Prop:=MatB z.a/\IntsB z.k/\SedB z.s
theorem opSes:Opens enc Tryz.prog W 61 8 Ses zS SesB:=
 (Opens.struct3 opMat opInts opSed Tryz.underlying61 ⟨rfl,rfl⟩ ⟨rfl,rfl⟩ ⟨rfl,rfl⟩ (by kernel_rfl)).to (fun a=>⟨a.1,a.2.1,a.2.2⟩) (fun a=>rfl) (fun _=>rfl) (fun _ h=>⟨h.1,h.2.1,h.2.2⟩)
theorem argSes:Arg enc Tryz.prog W 61 Ses (fun z=>.ag ((zS z).map .d)) SesB:=Arg.agg opSes (by kernel_rfl) (of_decide_eq_true (by kernel_rfl)) Tryz.underlying61
theorem SesB.small {z:Ses} (h:SesB z):SmZ z:=⟨by have:=h.1.small;omega,by have:=h.2.1.2;omega,h.2.2.small⟩
end
end Go.Proofs.YtbhkonnakkhibaaGreat.Ab
namespace Go.Proofs.YtbhkonnakkhibaaGreat.Ab
open Go
theorem lawSe (z:Ses) (h:SesB z):ACalls Tryz.prog F.laws_FnExactSessionOk [aZ z] [] true (fun outs res=>outs=[]/\res=[.one (D.bool true)]):=laws_FnExactSessionOk_calls z h.small
end Go.Proofs.YtbhkonnakkhibaaGreat.Ab
