/- Lengths of a triangulation: the program's recursion. The length of a diagonal, the program's side. All triangulations: what the choice of diagonals makes. Drawing a triangulation: all diagonals, all choices. Lists of lists of numbers as trees. Triangulations and their sides, the reference's side. Triangulations, triangles and lengths, the reference's side. Drawing a triangulation: the choices. Values of Laurent sums modulo a prime: they go with sums and products. What was multiplied is found again by division: the law. Drawn sums are a ring; values go with sums and products. The reference's vectors of vertices: what its lists of coded terms are. Sizes, pieces and factors of a matrix, by the reference. The reference's factors of a matrix. Matrices that are right, mutation of a matrix, by the reference. Mutation of a seed along a list, by the program. A seed that is mutated twice at one place. Principal matrices along steps; what the polynomials are. Principal matrices and their walks, on both sides. Lists of lists of numbers: their size, copies, what is equal, marks. Quantum sums as trees. Quantum sums: their size, copies, what is equal, marks. Quantum sums: the order of terms, which sums are right. Quantum sums: which are right, for the reference and for the program. Skew forms: which are right; what a form makes of two lists of exponents. What a form makes of two lists of exponents; what fits a form. Sums of numbers. Forms that belong to matrices: how both mutate. Forms as lists; forms along steps. The first form of a matrix. Drawing a triangulation: the choices from none. Mutation of seeds, by the reference. Mutation of a seed and along a list, by the reference. The first form of a matrix, spec; the next form. The next form. Forms along steps. Drawing numbers to be put in place of variables. Drawing matrices: names, empty ones, joins. Sequences of rank two: both sides make the same. Sums that are computed: what is checked of them; their values at ones. Sequences of two variables are made by mutations in turn. Sequences of Somos in variables: both sides make the same. Sequences of Somos: what is computed of them. Factors of trees and of matrices under other names. Drawing a matrix that is a tree. Seeds as arguments of laws: their sizes, copies. Seeds of laws: how great they are. Mutation of a seed along a list: the program's is the reference's, fresh at each call. The first seed of any matrix; what is the same; whether a session is one. What the law of Somos' sequences calls. A matrix under other names, by the program. Drawing matrices: names, other names, mutations. An entry of a matrix. Drawing a matrix and steps. Sequences of two variables are made by mutations in turn, and come back: the law. Values of sums: the program's, and the reference's where there is none. Values of sums: the program's, and the reference's where there is none. Drawing a triangulation, flips and a diagonal. Ptolemy: the law. The reference's run from triangle to triangle, and what its last determinant is. The length between two vertices, the reference's way. The length of a diagonal, the reference's side. Diagonals as arguments of the law: copies, marks. The length of a diagonal: the law. Diagonals as arguments of laws, read as trees. The length of a diagonal: the law, with its arguments. No condition. -/
import Derived.Test.YtfcgcgmleogamaaKAld
import Derived.Test.YtfcgcgmleogamaaKAlc
set_option linter.unusedVariables false
set_option linter.unusedSimpArgs false
set_option linter.unusedSectionVars false
namespace Go.Proofs.Ytfcgcgmleogamaa.Ab
open Go
set_option maxRecDepth 10000
set_option maxHeartbeats 4000000
def agL (v:Nat) (l:List DI):FV:=.ag [.int v,.d (.sh 2 l.length (rows gM l))]
def dgI (d:Dg):DI:=(d.1,d.2)
theorem toN_dgI (d:Dg):toN (dgI d)=d:=rfl
theorem dgI_toN {v:Int} {d:DI} (h:IsDg v d):dgI (toN d)=d:=by
 have:=h.2
 unfold dgI toN
 exact Prod.ext (by dsimp only;omega) (by dsimp only;omega)
theorem besI_sd {v a b:Nat} (hv:4<=v) (ha:a < v) (hb:b < v) (hab:a≠b):besI v a b=sd v (srt a b):=by
 have key:∀ a b:Nat,a < b->b < v->besI v a b=sd v (a,b):=fun a b h1 h2=>by
  rw [besI_lt (by omega) (by omega) (by omega) (by omega),Bool.eq_iff_iff]
  simp only [sd,decide_eq_true_eq,Bool.or_eq_true,Bool.and_eq_true]
  constructor
  ·rintro (h | ⟨h3,h4⟩)
   ·exact .inl (by rw [show a+1=b by omega];exact Nat.beq_refl b)
   ·exact .inr ⟨by rw [show a=0 by omega];rfl,by rw [show b+1=v by omega];exact Nat.beq_refl v⟩
  ·rintro (h | ⟨h3,h4⟩)
   ·have:=Nat.eq_of_beq_eq_true h
    omega
   ·have:=Nat.eq_of_beq_eq_true h3
    have:=Nat.eq_of_beq_eq_true h4
    omega
 rcases Nat.lt_or_gt_of_ne hab with g | g
 ·rw [srt_lt g]
  exact key a b g hb
 ·rw [srt_gt g,besI_com]
  exact key b a g ha
theorem srt_min (a b:Nat):dgI (srt a b)=(((min a b:Nat):Int),((max a b:Nat):Int)):=by
 unfold dgI
 rcases Nat.lt_trichotomy a b with h | h | h
 ·rw [srt_lt h,Nat.min_eq_left (by omega),Nat.max_eq_right (by omega)]
 ·subst h
  rw [show srt a a=(a,a) by unfold srt;split <;> rfl,Nat.min_self,Nat.max_self]
 ·rw [srt_gt h,Nat.min_eq_right (by omega),Nat.max_eq_left (by omega)]
theorem mem_toN {v:Int} {l:List DI} (h:∀ d∈l,IsDg v d) (d:Dg):dgI d∈l↔d∈l.map toN:=by
 rw [List.mem_map]
 constructor
 ·exact fun hm=>⟨_,hm,toN_dgI d⟩
 ·rintro ⟨x,hx,rfl⟩
  rw [dgI_toN (h x hx)]
  exact hx
theorem kn_eq {v:Nat} {l:List DI} (h:∀ d∈l,IsDg v d) (a b:Nat):kn v (l.map toN) a b=(sd v (srt a b) || decide (dgI (srt a b)∈l)):=by
 unfold kn knD
 congr 1
 rw [Bool.eq_iff_iff,List.any_eq_true,decide_eq_true_eq,mem_toN h]
 constructor
 ·rintro ⟨x,hx,hq⟩
  rw [dgq_eq] at hq
  rw [hq]
  exact hx
 ·exact fun hm=>⟨_,hm,dgq_eq.2 rfl⟩
theorem impl_lengths_known_c (v:Nat) (l:List DI) (hx:l.length < 4611686018427387904) (hv:4<=v/\v<=8) (hl:∀ d∈l,IsDg v d) (a b:Nat) (ha:a < v) (hb:b < v) (hab:a≠b):ACalls Try.prog F.impl_lengths_known [agL v l,.int a,.int b] [] true (fun outs res=>outs=[]/\res=[.one (D.bool (kn v (l.map toN) a b))]):=by
 have hbs:=impl_beside_c v a b (by omega) (by omega) (by omega)
 have hct:=slices_Contains_impl_Diagonal_impl_Diagonal_c l (dgI (srt a b)) hx
 rw [besI_sd hv.1 ha hb hab] at hbs
 rw [srt_min] at hct
 simp only [agD] at hct
 have hmin:min (a:Int) b=((min a b:Nat):Int):=by omega
 have hmax:max (a:Int) b=((max a b:Nat):Int):=by omega
 rw [kn_eq hl,srt_min]
 refine ACalls.of_body (C:=C.impl_lengths_known) (n:=Try.f138.ntmps) tabT folT Try.func138 rfl (by kernel_rfl) rfl (Nat.le_of_ble_eq_true rfl) (by decide) (by kernel_rfl) (by kernel_rfl) rfl (by simp) (by simp) ?_
 simp only [Try.f138]
 refine wseq ?_
 refine wreg fun K hK=>?_
 simp [C.impl_lengths_known,agL]
 refine hK _ ?_;clear hK K
 show AWp _ _ _ _ _
 refine wseq ?_
 refine wregI ([0,1,2,3,4] ++ ([5,6,7,8,9,10,11,12,13,14,15] ++ ([16,17]))) rfl fun K hK=>?_
 have hJ:K ⟨ofL [(6,.bool (sd v (srt a b) || decide ((((min a b:Nat):Int),((max a b:Nat):Int))∈l)))],ofRO []⟩:=by
  refine hK _ ?_;clear hK K
  show AWp _ _ _ _ _
  refine wret ?_
  simp [C.impl_lengths_known,agL]
 clear hK
 by_cases h1:sd v (srt a b)=true
 ·refine oSg fun L hL=>?_
  simp [C.impl_lengths_known,agL,hmin,hmax,h1]
  refine wcall1 (hbs) (by simp) (by simp) ?_
  simp [C.impl_lengths_known,agL,hmin,hmax,h1]
  refine hL _ ?_;clear hL L
  refine oSg fun L hL=>?_
  simp [C.impl_lengths_known,agL,hmin,hmax,h1]
  refine hL _ ?_;clear hL L
  refine oEn fun L hL=>?_
  simp [C.impl_lengths_known,agL,hmin,hmax,h1]
  refine hL _ ?_;clear hL L
  simp [C.impl_lengths_known,agL,hmin,hmax,h1]
  refine cast (congrArg K ?_) hJ
  simp [h1,agL,h1]
 ·refine oSg fun L hL=>?_
  simp [C.impl_lengths_known,agL,hmin,hmax,h1]
  refine wcall1 (hbs) (by simp) (by simp) ?_
  simp [C.impl_lengths_known,agL,hmin,hmax,h1]
  refine hL _ ?_;clear hL L
  refine oSg fun L hL=>?_
  simp [C.impl_lengths_known,agL,hmin,hmax,h1]
  refine wcall1 (hct) (by simp) (by simp) ?_
  simp [C.impl_lengths_known,agL,hmin,hmax,h1]
  refine hL _ ?_;clear hL L
  refine oEn fun L hL=>?_
  simp [C.impl_lengths_known,agL,hmin,hmax,h1]
  refine hL _ ?_;clear hL L
  simp [C.impl_lengths_known,agL,hmin,hmax,h1]
  refine cast (congrArg K ?_) hJ
  simp [h1,agL,h1]
theorem monoF_unit {n k:Nat} (hn:1<=n/\n<=8):monoF (unitL n k)=unitF n k:=by
 have h:=(lb_unit (k:=k) hn).right
 have hl:=(unitL_bd (n:=n) (k:=k)).1
 unfold monoF
 rw [hl]
 exact if_pos h
theorem LenP.sm {v:Nat} {l:List Dg} {a c:Nat} {f:Lau} (h:LenP v l a c f):SmF f:=(small_right h.lb.right).sm'
theorem isDg_srt {v a c:Nat} (hv:4<=v/\v<=8) (hac:a≠c) (ha:a < v) (hc:c < v) (hs:sd v (srt a c)=false):IsDg v (dgI (srt a c)):=by
 rw [<-besI_sd hv.1 ha hc hac] at hs
 have key:∀ a c:Nat,a < c->c < v->besI v a c=false->IsDg v (dgI (srt a c)):=fun a c h1 h2 h3=>by
  rw [besI_lt (by omega) (by omega) (by omega) (by omega)] at h3
  have:=of_decide_eq_false h3
  rw [srt_lt h1]
  unfold IsDg dgI
  dsimp only
  omega
 rcases Nat.lt_or_gt_of_ne hac with g | g
 ·exact key a c g hc hs
 ·rw [srt_com]
  exact key c a g ha (by rw [besI_com];exact hs)
def OfC (v:Nat) (l:List DI) (a c:Nat):Prop:=ACalls Try.prog F.impl_lengths_of [agL v l,.int a,.int c] [] true (fun outs res=>outs=[]/\∃ f,LenP v (l.map toN) a c f/\res=[.ag (fO f),.one (D.bool true)])
theorem impl_lengths_of_c (v:Nat) (l:List DI) (hT:TriI v l) (a c:Nat) (ha:a < v) (hc:c < v) (hac:a≠c) (ih:∀ a' c',a' < v->c' < v->a'≠c'->cntD (l.map toN) a' c' < cntD (l.map toN) a c->OfC v l a' c'):OfC v l a c:=by
 have hv:4<=v/\v<=8:=by have:=hT.1;omega
 have hll:l.length=v - 3:=by have:=hT.2.1;omega
 have hx:l.length < 4611686018427387904:=by omega
 have hTr:=tri_of hT
 rw [Int.toNat_natCast] at hTr
 have hdg:=hT.2.2.1
 have hn8:1<=v - 3/\v - 3<=8:=by omega
 have hw3:IntKind.i64.wrap ((v:Int) - 3)=((v - 3:Nat):Int):=by rw [wrapOk (by omega) (by omega)];omega
 have hmin:min (a:Int) c=((min a c:Nat):Int):=by omega
 have hmax:max (a:Int) c=((max a c:Nat):Int):=by omega
 have hbs:=impl_beside_c v a c (by omega) (by omega) (by omega)
 rw [besI_sd hv.1 ha hc hac] at hbs
 have hIx:=slices_Index_impl_Diagonal_impl_Diagonal_c l (dgI (srt a c)) hx
 have hsm:=srt_min a c
 rw [hsm] at hIx
 simp only [agD] at hIx
 unfold OfC
 refine ACalls.of_body (C:=C.impl_lengths_of) (n:=Try.f79.ntmps) tabT folT Try.func79 rfl (by kernel_rfl) rfl (Nat.le_of_ble_eq_true rfl) (by decide) (by kernel_rfl) (by kernel_rfl) rfl (by simp) (by simp) ?_
 simp only [Try.f79]
 refine wseq ?_
 refine wreg fun K hK=>?_
 simp [C.impl_lengths_of,agL]
 refine hK _ ?_;clear hK K
 show AWp _ _ _ _ _
 refine wseq ?_
 refine wreg fun K hK=>?_
 simp [C.impl_lengths_of,agL,hmin,hmax]
 refine hK _ ?_;clear hK K
 show AWp _ _ _ _ _
 refine wseq ?_
 refine wseq ?_
 refine wregI ([0,1,2,3,4] ++ ([])) rfl fun K hK=>?_
 refine oSg fun L hL=>?_
 simp [C.impl_lengths_of,agL]
 refine wcall1 (hbs) (by simp) (by simp) ?_
 simp [C.impl_lengths_of,agL]
 refine hL _ ?_;clear hL L
 refine oEn fun L hL=>?_
 simp only [AOpsI]
 refine hL _ ?_;clear hL L
 simp [C.impl_lengths_of,agL]
 refine hK _ ?_;clear hK K
 show AWp _ _ _ _ _
 refine wcond _ rfl (fun hc1=>?_) (fun hc1=>?_)
 ·have hsd:sd v (srt a c)=true:=by simpa using hc1
  refine wseq ?_
  refine wregI ([0,1,2,3] ++ ([4,5])) rfl fun K hK=>?_
  refine oSg fun L hL=>?_
  simp [C.impl_lengths_of,agL,hw3]
  refine wcall1 (impl_ConstantLaurent_c (v - 3) hn8) (by simp) (by simp) ?_
  simp [C.impl_lengths_of,agL,hw3]
  refine hL _ ?_;clear hL L
  refine oEn fun L hL=>?_
  simp [C.impl_lengths_of,agL,hw3]
  refine hL _ ?_;clear hL L
  simp [C.impl_lengths_of,agL,hw3]
  refine hK _ ?_;clear hK K
  show AWp _ _ _ _ _
  refine wret ?_
  simp [C.impl_lengths_of,agL]
  exact ⟨oneF (v - 3),len_side hTr hac ha hc hsd,rfl⟩
 ·have hsd:sd v (srt a c)=false:=by simpa using hc1
  have hisd:=isDg_srt hv hac ha hc hsd
  refine wskip ?_
  show AWp _ _ _ _ _
  refine wseq ?_
  refine wseq ?_
  refine wregI ([0,1,2,3] ++ ([4])) rfl fun K hK=>?_
  refine oSg fun L hL=>?_
  simp [C.impl_lengths_of,agL]
  refine wcall (hIx) (by simp) (by simp) (by simp) ?_
  rintro outs res ⟨rfl,r,rfl,hr⟩
  simp [C.impl_lengths_of,agL]
  refine hL _ ?_;clear hL L
  refine oEn fun L hL=>?_
  simp [C.impl_lengths_of,agL]
  refine hL _ ?_;clear hL L
  simp [C.impl_lengths_of,agL]
  refine hK _ ?_;clear hK K
  show AWp _ _ _ _ _
  refine wseq ?_
  refine wreg fun K hK=>?_
  simp [C.impl_lengths_of,agL]
  refine hK _ ?_;clear hK K
  show AWp _ _ _ _ _
  refine wcond _ rfl (fun hc2=>?_) (fun hc2=>?_)
  ·obtain ⟨k,rfl,hk⟩:∃ k:Nat,r=k/\l[k]? = some (((min a c:Nat):Int),((max a c:Nat):Int)):=by
    rcases hr with ⟨h1,h2⟩ | h
    ·subst h1
     simp at hc2
    ·exact h
   have hkl:k < l.length:=(List.getElem?_eq_some_iff.1 hk).1
   have hkN:(l.map toN)[k]? = some (srt a c):=by rw [List.getElem?_map,hk,<-hsm];rfl
   have hmo:=iMono_c (unitL (v - 3) k) (by rw [(unitL_bd (n:=v - 3) (k:=k)).1];omega)
   rw [monoF_unit hn8] at hmo
   refine wseq ?_
   refine wregI ([0,1,2,3,4] ++ ([5] ++ ([6,7]))) rfl fun K hK=>?_
   refine oSg fun L hL=>?_
   simp [C.impl_lengths_of,agL,hw3]
   refine wcall1 (impl_unit_c (v - 3) k (by omega) (by omega)) (by simp) (by simp) ?_
   simp [C.impl_lengths_of,agL,hw3]
   refine hL _ ?_;clear hL L
   refine oSg fun L hL=>?_
   simp [C.impl_lengths_of,agL,hw3]
   refine wcall1 (hmo) (by simp [agL,hw3]) (by simp) ?_
   simp [C.impl_lengths_of,agL,hw3]
   refine hL _ ?_;clear hL L
   refine oEn fun L hL=>?_
   simp [C.impl_lengths_of,agL,hw3]
   refine hL _ ?_;clear hL L
   simp [C.impl_lengths_of,agL,hw3]
   refine hK _ ?_;clear hK K
   show AWp _ _ _ _ _
   refine wret ?_
   simp [C.impl_lengths_of,agL]
   exact ⟨unitF (v - 3) k,len_diag hTr hac ha hc hkN,rfl⟩
  ·have hnm:dgI (srt a c) ∉ l:=by
    rcases hr with ⟨h1,h2⟩ | ⟨k,h1,h2⟩
    ·rw [hsm]
     exact h2
    ·subst h1
     simp at hc2
   have hkn:kn v (l.map toN) a c=false:=by
    rw [kn_eq hdg,hsd]
    simpa using hnm
   obtain ⟨⟨e0,he0,hg0⟩,hall⟩:=tri_good hTr ha hc hac hkn
   refine wskip ?_
   show AWp _ _ _ _ _
   refine wseq ?_
   refine wseq ?_
   refine wreg fun K hK=>?_
   simp [C.impl_lengths_of,agL]
   refine hK _ ?_;clear hK K
   show AWp _ _ _ _ _
   refine wblock ?_
   refine wloop (fun k:Nat=>⟨ofL [(1,.int a),(2,.int c),(3,.pt (3,0) [] 0),(6,.pt (6,0) [] 0),(8,.pt (8,0) [] 0),(55,.d (.sh 2 l.length (rows gM l))),(56,.int l.length),(57,FV.int k)],ofRO [((3,0),some (.bx [D.int v,.sh 2 l.length (rows gM l)])),((6,0),some (.bx [D.int 0,.v (.slice none 0 0)])),((8,0),some (.bx [D.int (min a c:Nat),D.int (max a c:Nat)]))]⟩) (fun k=>k<=l.length/\∀ e∈(l.map toN).take k,good v (l.map toN) a c e=false) (fun k=>l.length - k) 0 (by simp [C.impl_lengths_of,agL]) (by simp) ?_
   intro x1 hx1 R1 hR1
   obtain ⟨hk,hno⟩:=hx1
   refine wseq ?_
   refine wreg fun K hK=>?_
   simp [C.impl_lengths_of,agL]
   refine hK _ ?_;clear hK K
   show AWp _ _ _ _ _
   refine wseq ?_
   refine wcond _ rfl (fun hc3=>?_) (fun hc3=>?_)
   ·have h1:x1 < l.length:=by have:=d_t hc3;omega
    obtain ⟨e,he⟩:∃ e,e=toN l[x1]:=⟨_,rfl⟩
    have hed:l[x1]=dgI e:=by rw [he];exact (dgI_toN (hdg _ (List.getElem_mem h1))).symm
    have he1:l[x1].1=(e.1:Int):=by rw [hed];rfl
    have he2:l[x1].2=(e.2:Int):=by rw [hed];rfl
    have hkN:(l.map toN)[x1]? = some e:=by rw [List.getElem?_map,List.getElem?_eq_getElem h1,he];rfl
    have heM:=List.mem_of_getElem? hkN
    have hem:=tri_mem hTr heM
    have hcx:=cross_c v (dgI (srt a c)) l[x1]
    have hcd:decide (IsDg v (dgI (srt a c))/\IsDg v l[x1]/\CrI (dgI (srt a c)) l[x1])=crs (srt a c) e:=by
     rw [Bool.eq_iff_iff,decide_eq_true_eq]
     have h2:=crI_toN hisd (hdg _ (List.getElem_mem h1))
     rw [toN_dgI,<-he] at h2
     rw [<-h2]
     exact ⟨fun h=>h.2.2,fun h=>⟨hisd,hdg _ (List.getElem_mem h1),h⟩⟩
    rw [hcd,hsm] at hcx
    simp only [agD,he1,he2] at hcx
    refine wskip ?_
    show AWp _ _ _ _ _
    refine wseq ?_
    refine wblock ?_
    refine wseq ?_
    refine wreg fun K hK=>?_
    simp [C.impl_lengths_of,agL,gM_0 h1,gM_1 h1,h1,he1,he2]
    refine hK _ ?_;clear hK K
    show AWp _ _ _ _ _
    refine wseq ?_
    refine wseq ?_
    refine wregI ([0,1,2,3,4] ++ ([5,6,7,8,9,10,11] ++ ([12,13,14,15,16,17,18,19] ++ ([20,21])))) rfl fun K hK=>?_
    have hJ:K ⟨ofL [(1,.int a),(2,.int c),(3,.pt (3,0) [] 0),(6,.pt (6,0) [] 0),(8,.pt (8,0) [] 0),(10,.int x1),(11,.pt (11,0) [] 0),(55,.d (.sh 2 l.length (rows gM l))),(56,.int l.length),(57,FV.int x1),(83,.bool (!good v (l.map toN) a c e))],ofRO [((3,0),some (.bx [D.int v,.sh 2 l.length (rows gM l)])),((6,0),some (.bx [D.int 0,.v (.slice none 0 0)])),((8,0),some (.bx [D.int (min a c:Nat),D.int (max a c:Nat)])),((11,0),some (.bx [D.int e.1,D.int e.2]))]⟩:=by
     refine hK _ ?_;clear hK K
     show AWp _ _ _ _ _
     refine wcond _ rfl (fun hc4=>?_) (fun hc4=>?_)
     ·have hgf:good v (l.map toN) a c e=false:=by simpa using hc4
      refine wexit ?_
      show AWp _ _ _ _ _
      refine wreg fun K hK=>?_
      simp [C.impl_lengths_of,agL,wrap_succ (show x1 < 4611686018427387904 by omega)]
      refine hK _ ?_;clear hK K
      simp [C.impl_lengths_of,agL]
      refine hR1 (x1+1) ⟨h1,fun y hy=>?_⟩ (by omega)
      rw [List.take_succ_eq_append_getElem (by simpa using h1)] at hy
      rcases List.mem_append.1 hy with hy | hy
      ·exact hno y hy
      ·rw [List.mem_singleton,List.getElem_map] at hy
       rw [hy,<-he]
       exact hgf
     ·have hgt:good v (l.map toN) a c e=true:=by simpa using hc4
      obtain ⟨⟨q1,q2⟩,q3,q4⟩:=hall e heM hgt
      have g1:crs (srt a c) e=true:=by
       simp only [good,Bool.and_eq_true] at hgt
       exact hgt.1
      have hne1:a≠e.1/\a≠e.2/\c≠e.1/\c≠e.2:=by rw [crs_iff] at g1;rcases Nat.lt_or_gt_of_ne hac with g | g <;> simp only [srt_lt,srt_gt,g] at g1 <;> omega
      have i1:=ih a e.1 ha (by omega) hne1.1 (by omega)
      have i2:=ih c e.2 hc (by omega) hne1.2.2.2 (by omega)
      have i3:=ih a e.2 ha (by omega) hne1.2.1 (by omega)
      have i4:=ih c e.1 hc (by omega) hne1.2.2.1 (by omega)
      unfold OfC at i1 i2 i3 i4
      simp only [agL] at i1 i2 i3 i4
      refine wskip ?_
      show AWp _ _ _ _ _
      refine wseq ?_
      refine wregI ([0,1,2,3,4] ++ ([5,6,7,8,9,10])) rfl fun K hK=>?_
      refine oSg fun L hL=>?_
      simp [C.impl_lengths_of,agL]
      refine wcall (i1) (by simp) (by simp) (by simp) ?_
      rintro outs res ⟨rfl,f1,p1,rfl⟩
      simp [C.impl_lengths_of,agL]
      refine hL _ ?_;clear hL L
      refine oEn fun L hL=>?_
      simp [C.impl_lengths_of,agL]
      refine hL _ ?_;clear hL L
      simp [C.impl_lengths_of,agL]
      refine hK _ ?_;clear hK K
      show AWp _ _ _ _ _
      refine wseq ?_
      refine wregI ([0,1,2,3,4] ++ ([5,6,7,8,9,10])) rfl fun K hK=>?_
      refine oSg fun L hL=>?_
      simp [C.impl_lengths_of,agL]
      refine wcall (i2) (by simp) (by simp) (by simp) ?_
      rintro outs res ⟨rfl,f2,p2,rfl⟩
      simp [C.impl_lengths_of,agL]
      refine hL _ ?_;clear hL L
      refine oEn fun L hL=>?_
      simp [C.impl_lengths_of,agL]
      refine hL _ ?_;clear hL L
      simp [C.impl_lengths_of,agL]
      refine hK _ ?_;clear hK K
      show AWp _ _ _ _ _
      refine wseq ?_
      refine wregI ([0,1,2,3,4] ++ ([5,6,7,8,9,10])) rfl fun K hK=>?_
      refine oSg fun L hL=>?_
      simp [C.impl_lengths_of,agL]
      refine wcall (i3) (by simp) (by simp) (by simp) ?_
      rintro outs res ⟨rfl,f3,p3,rfl⟩
      simp [C.impl_lengths_of,agL]
      refine hL _ ?_;clear hL L
      refine oEn fun L hL=>?_
      simp [C.impl_lengths_of,agL]
      refine hL _ ?_;clear hL L
      simp [C.impl_lengths_of,agL]
      refine hK _ ?_;clear hK K
      show AWp _ _ _ _ _
      refine wseq ?_
      refine wregI ([0,1,2,3,4] ++ ([5,6,7,8,9,10])) rfl fun K hK=>?_
      refine oSg fun L hL=>?_
      simp [C.impl_lengths_of,agL]
      refine wcall (i4) (by simp) (by simp) (by simp) ?_
      rintro outs res ⟨rfl,f4,p4,rfl⟩
      simp [C.impl_lengths_of,agL]
      refine hL _ ?_;clear hL L
      refine oEn fun L hL=>?_
      simp [C.impl_lengths_of,agL]
      refine hL _ ?_;clear hL L
      simp [C.impl_lengths_of,agL]
      refine hK _ ?_;clear hK K
      show AWp _ _ _ _ _
      refine wseq ?_
      obtain ⟨P,R,S,Q,w1,w2,w3,w4,w5,wP,wR,wS⟩:=len_step hTr hac ha hc hkn hkN hgt p1 p2 p3 p4
      have m1:=mulOk f1 f2 p1.sm.1 p1.sm.2 p2.sm.1 p2.sm.2
      have m2:=mulOk f3 f4 p3.sm.1 p3.sm.2 p4.sm.1 p4.sm.2
      have hsP:=(small_right wP).sm'
      have hsR:=(small_right wR).sm'
      have hsS:=(small_right wS).sm'
      have hun:=(lb_unit (k:=x1) hn8).right
      have hsU:=(small_right hun).sm'
      have m3:=iAdd_c P 1 R hsP.1 hsP.2 hsR.1 hsR.2
      have m4:=iDiv_c doneOk S (unitF (v - 3) x1) hsS.1 hsS.2 hsU.1 hsU.2
      rw [w1] at m1
      rw [w2] at m2
      rw [w3] at m3
      rw [w4] at m4
      have hmo:=iMono_c (unitL (v - 3) x1) (by rw [(unitL_bd (n:=v - 3) (k:=x1)).1];omega)
      rw [monoF_unit hn8] at hmo
      have hut:=impl_unit_c (v - 3) x1 (by omega) (by omega)
      refine wregI ([0,1,2] ++ ([3,4,5,6,7,8])) rfl fun K hK=>?_
      refine oSg fun L hL=>?_
      simp [C.impl_lengths_of,agL,fO]
      refine wcall1 (m1) (by simp [agL,fO]) (by simp) ?_
      simp [C.impl_lengths_of,agL,fO]
      refine hL _ ?_;clear hL L
      refine oEn fun L hL=>?_
      simp [C.impl_lengths_of,agL,fO]
      refine hL _ ?_;clear hL L
      simp [C.impl_lengths_of,agL,fO]
      refine hK _ ?_;clear hK K
      show AWp _ _ _ _ _
      refine wseq ?_
      refine wregI ([0,1,2] ++ ([3,4,5,6,7,8])) rfl fun K hK=>?_
      refine oSg fun L hL=>?_
      simp [C.impl_lengths_of,agL,fO]
      refine wcall1 (m2) (by simp [agL,fO]) (by simp) ?_
      simp [C.impl_lengths_of,agL,fO]
      refine hL _ ?_;clear hL L
      refine oEn fun L hL=>?_
      simp [C.impl_lengths_of,agL,fO]
      refine hL _ ?_;clear hL L
      simp [C.impl_lengths_of,agL,fO]
      refine hK _ ?_;clear hK K
      show AWp _ _ _ _ _
      refine wseq ?_
      refine wregI ([0,1,2] ++ ([3,4,5,6,7,8])) rfl fun K hK=>?_
      refine oSg fun L hL=>?_
      simp [C.impl_lengths_of,agL,fO]
      refine wcall1 (m3) (by simp [agL,fO]) (by simp) ?_
      simp [C.impl_lengths_of,agL,fO]
      refine hL _ ?_;clear hL L
      refine oEn fun L hL=>?_
      simp [C.impl_lengths_of,agL,fO]
      refine hL _ ?_;clear hL L
      simp [C.impl_lengths_of,agL,fO]
      refine hK _ ?_;clear hK K
      show AWp _ _ _ _ _
      refine wseq ?_
      refine wseq ?_
      refine wregI ([0,1,2,3,4,5,6,7,8,9,10,11,12,13,14,15,16,17,18,19,20,21,22,23,24,25]) rfl fun K hK=>?_
      refine oEn fun L hL=>?_
      simp [C.impl_lengths_of,agL]
      refine hL _ ?_;clear hL L
      simp [C.impl_lengths_of,agL]
      refine hK _ ?_;clear hK K
      show AWp _ _ _ _ _
      refine wcond _ rfl (fun hc5=>?_) (fun hc5=>?_)
      ·simp at hc5
      ·refine wskip ?_
       show AWp _ _ _ _ _
       refine wseq ?_
       refine wdrawI [(true,0),(true,1),(true,2),(true,3),(true,4),(false,5),(false,6),(false,7),(true,8),(true,9),(false,10),(true,11)] ⟨by kernel_rfl,by kernel_rfl⟩ ([0,1,2,3,4,5] ++ ([6] ++ ([7] ++ ([8,9,10,11])))) rfl fun K hK=>?_
       have hJ:K ⟨ofL [(6,.pt (6,0) [] 0),(7,.bool true)],ofRO [((6,0),some (.bx [D.int Q.v,.ow 2 Q.ts.length (rows tO Q.ts)]))]⟩:=by
        refine hK _ ?_;clear hK K
        show AWp _ _ _ _ _
        refine wret ?_
        simp [C.impl_lengths_of,agL]
        exact ⟨Q,w5,by simp [fO]⟩
       clear hK
       simp [C.impl_lengths_of,hw3]
       repeat' first
        | (refine wcall1 hut ?_ (by simp) ?_;(focus (simp;done));simp [C.impl_lengths_of,hw3])
        | (refine wcall1 hmo ?_ (by simp) ?_;(focus (simp;done));simp [C.impl_lengths_of,fO])
        | (refine wcall1 m4 ?_ (by simp) ?_;(focus (simp [fO];done));simp [C.impl_lengths_of,fO])
        | (refine cast (congrArg K ?_) hJ;simp [fO];done)
        | refine And.intro ?_ ?_
    clear hK
    by_cases g1:crs (srt a c) e=true
    ·by_cases g2:kn v (l.map toN) a e.1=true
     ·have hne1:a≠e.1:=fun q=>by rw [crs_iff] at g1;rcases Nat.lt_or_gt_of_ne hac with g | g <;> simp only [srt_lt,srt_gt,g] at g1 <;> omega
      have hne2:a≠e.2:=fun q=>by rw [crs_iff] at g1;rcases Nat.lt_or_gt_of_ne hac with g | g <;> simp only [srt_lt,srt_gt,g] at g1 <;> omega
      refine oSg fun L hL=>?_
      simp [C.impl_lengths_of,agL,agL,g1,g2]
      refine wcall1 (hcx) (by simp) (by simp) ?_
      simp [C.impl_lengths_of,agL,agL,g1,g2]
      refine hL _ ?_;clear hL L
      refine oSg fun L hL=>?_
      simp [C.impl_lengths_of,agL,agL,g1,g2]
      refine wcall1 (impl_lengths_known_c v l hx hv hdg a e.1 ha (by omega) hne1) (by simp [agL,agL]) (by simp) ?_
      simp [C.impl_lengths_of,agL,agL,g1,g2]
      refine hL _ ?_;clear hL L
      refine oSg fun L hL=>?_
      simp [C.impl_lengths_of,agL,agL,g1,g2]
      refine wcall1 (impl_lengths_known_c v l hx hv hdg a e.2 ha (by omega) hne2) (by simp [agL,agL]) (by simp) ?_
      simp [C.impl_lengths_of,agL,agL,g1,g2]
      refine hL _ ?_;clear hL L
      refine oEn fun L hL=>?_
      simp [C.impl_lengths_of,agL,agL,g1,g2]
      refine hL _ ?_;clear hL L
      simp [C.impl_lengths_of,agL,agL,g1,g2]
      refine cast (congrArg K ?_) hJ
      simp [g1,g2,good,agL,g1,g2]
     ·have hne1:a≠e.1:=fun q=>by rw [crs_iff] at g1;rcases Nat.lt_or_gt_of_ne hac with g | g <;> simp only [srt_lt,srt_gt,g] at g1 <;> omega
      refine oSg fun L hL=>?_
      simp [C.impl_lengths_of,agL,agL,g1,g2]
      refine wcall1 (hcx) (by simp) (by simp) ?_
      simp [C.impl_lengths_of,agL,agL,g1,g2]
      refine hL _ ?_;clear hL L
      refine oSg fun L hL=>?_
      simp [C.impl_lengths_of,agL,agL,g1,g2]
      refine wcall1 (impl_lengths_known_c v l hx hv hdg a e.1 ha (by omega) hne1) (by simp [agL,agL]) (by simp) ?_
      simp [C.impl_lengths_of,agL,agL,g1,g2]
      refine hL _ ?_;clear hL L
      refine oSg fun L hL=>?_
      simp [C.impl_lengths_of,agL,agL,g1,g2]
      refine hL _ ?_;clear hL L
      refine oEn fun L hL=>?_
      simp [C.impl_lengths_of,agL,agL,g1,g2]
      refine hL _ ?_;clear hL L
      simp [C.impl_lengths_of,agL,agL,g1,g2]
      refine cast (congrArg K ?_) hJ
      simp [g1,g2,good,agL,g1,g2]
    ·refine oSg fun L hL=>?_
     simp [C.impl_lengths_of,agL,agL,g1]
     refine wcall1 (hcx) (by simp) (by simp) ?_
     simp [C.impl_lengths_of,agL,agL,g1]
     refine hL _ ?_;clear hL L
     refine oSg fun L hL=>?_
     simp [C.impl_lengths_of,agL,agL,g1]
     refine hL _ ?_;clear hL L
     refine oSg fun L hL=>?_
     simp [C.impl_lengths_of,agL,agL,g1]
     refine hL _ ?_;clear hL L
     refine oEn fun L hL=>?_
     simp [C.impl_lengths_of,agL,agL,g1]
     refine hL _ ?_;clear hL L
     simp [C.impl_lengths_of,agL,agL,g1]
     refine cast (congrArg K ?_) hJ
     simp [g1,good,agL,g1]
   ·have h1:x1=l.length:=by have:=d_f hc3;omega
    refine wexit ?_
    show AWp _ _ _ _ _
    refine wseq ?_
    refine wreg fun K hK=>?_
    rw [h1,List.take_of_length_le (by simp)] at hno
    rw [hno e0 he0] at hg0
    exact absurd hg0 (by simp)
theorem of_c (v:Nat) (l:List DI) (hT:TriI v l):∀ (n a c:Nat),cntD (l.map toN) a c<=n->a < v->c < v->a≠c->OfC v l a c
 | n,a,c,hn,ha,hc,hac=>by
  refine impl_lengths_of_c v l hT a c ha hc hac fun a' c' h1 h2 h3 h4=>?_
  match n with
  | 0=>omega
  | n+1=>exact of_c v l hT n a' c' (by omega) h1 h2 h3
end Go.Proofs.Ytfcgcgmleogamaa.Ab
namespace Go.Proofs.Ytfcgcgmleogamaa.Ab
open Go
set_option maxRecDepth 10000
set_option maxHeartbeats 4000000
noncomputable def lnL (v:Nat) (l:List Dg) (a c:Nat):Lau:=open Classical in if h:∃ f,LenP v l a c f then Classical.choose h else zeroF
theorem lnL_eq {v:Nat} {l:List Dg} (h:Tri v l) {a c:Nat} {f:Lau} (hf:LenP v l a c f):lnL v l a c=f:=by
 unfold lnL
 rw [dif_pos ⟨f,hf⟩]
 exact LenP.uniq h (Classical.choose_spec (⟨f,hf⟩:∃ f,LenP v l a c f)) hf
noncomputable def arcF (v:Int) (l:List DI) (d:DI):Lau×Bool:=open Classical in if TriI v l/\IsDg v d then (lnL v.toNat (l.map toN) d.1.toNat d.2.toNat,true) else (zeroF,false)
theorem impl_ArcLaurent_c (v:Int) (l:List DI) (d:DI) (hx:l.length < 4611686018427387904):ACalls Try.prog F.impl_ArcLaurent [.int v,.d (.sh 2 l.length (rows gM l)),agD d] [] true (fun outs res=>outs=[]/\WkRs res [.ag (fO (arcF v l d).1),.one (D.bool (arcF v l d).2)]/\(TriI v l->IsDg v d->LenP v.toNat (l.map toN) d.1.toNat d.2.toNat (arcF v l d).1)):=by
 have hit:=impl_IsTriangulation_c v l hx
 have hid:=impl_IsDiagonal_c v d
 simp only [agD] at hid
 refine ACalls.of_body (C:=C.impl_ArcLaurent) (n:=Try.f28.ntmps) tabT folT Try.func28 rfl (by kernel_rfl) rfl (Nat.le_of_ble_eq_true rfl) (by decide) (by kernel_rfl) (by kernel_rfl) rfl (by simp) (by simp) ?_
 simp only [Try.f28]
 refine wseq ?_
 refine wreg fun K hK=>?_
 simp [C.impl_ArcLaurent,agD]
 refine hK _ ?_;clear hK K
 show AWp _ _ _ _ _
 refine wseq ?_
 refine wseq ?_
 refine wregI ([0,1,2] ++ ([3,4,5,6,7] ++ ([8,9]))) rfl fun K hK=>?_
 have hJ:K ⟨ofL [(0,.int v),(1,.d (.sh 2 l.length (rows gM l))),(5,.pt (5,0) [] 0),(6,.pt (6,0) [] 0),(17,.bool (!decide (TriI v l/\IsDg v d)))],ofRO [((5,0),some (.bx [D.int d.1,D.int d.2])),((6,0),some (.bx [D.int 0,.v (.slice none 0 0)]))]⟩:=by
  refine hK _ ?_;clear hK K
  show AWp _ _ _ _ _
  refine wcond _ rfl (fun hc1=>?_) (fun hc1=>?_)
  ·have hno:=nd_t hc1
   have hA:arcF v l d=(zeroF,false):=if_neg hno
   refine wseq ?_
   refine wreg fun K hK=>?_
   simp [C.impl_ArcLaurent,agD]
   refine hK _ ?_;clear hK K
   show AWp _ _ _ _ _
   refine wret ?_
   simp [C.impl_ArcLaurent,agD]
   rw [hA]
   simp [fO,zeroF,rows]
   exact fun h1 h2=>absurd ⟨h1,h2⟩ hno
  ·have hy:=nd_f hc1
   obtain ⟨hT,hD⟩:=hy
   have hDD:=hD.2
   obtain ⟨V,rfl⟩:∃ V:Nat,v=V:=⟨v.toNat,by have:=hT.1;omega⟩
   have hof:=of_c V l hT _ d.1.toNat d.2.toNat (Nat.le_refl _) (by omega) (by omega) (by omega)
   unfold OfC at hof
   simp only [agL] at hof
   rw [Int.toNat_of_nonneg (show 0<=d.1 by omega),Int.toNat_of_nonneg (show 0<=d.2 by omega)] at hof
   have hTr:=tri_of hT
   refine wskip ?_
   show AWp _ _ _ _ _
   refine wseq ?_
   refine wregI ([0,1,2,3,4,5,6,7] ++ ([8,9,10,11])) rfl fun K hK=>?_
   refine oSg fun L hL=>?_
   simp [C.impl_ArcLaurent,agD]
   refine wcall (hof) (by simp) (by simp) (by simp) ?_
   rintro outs res ⟨rfl,f,hf,rfl⟩
   simp [C.impl_ArcLaurent,agD]
   refine hL _ ?_;clear hL L
   refine oEn fun L hL=>?_
   simp [C.impl_ArcLaurent,agD]
   refine hL _ ?_;clear hL L
   simp [C.impl_ArcLaurent,agD]
   refine hK _ ?_;clear hK K
   show AWp _ _ _ _ _
   refine wret ?_
   rw [Int.toNat_natCast] at hTr
   have hA:arcF V l d=(f,true):=by
    unfold arcF
    rw [if_pos ⟨hT,hD⟩,Int.toNat_natCast,lnL_eq hTr hf]
   simp [C.impl_ArcLaurent,agD]
   rw [hA]
   exact ⟨by simp [fO],fun _ _=>hf⟩
 clear hK
 by_cases h1:TriI v l
 ·refine oSg fun L hL=>?_
  simp [C.impl_ArcLaurent,agD,h1]
  refine wcall1 (hit) (by simp) (by simp) ?_
  simp [C.impl_ArcLaurent,agD,h1]
  refine hL _ ?_;clear hL L
  refine oSg fun L hL=>?_
  simp [C.impl_ArcLaurent,agD,h1]
  refine wcall1 (hid) (by simp) (by simp) ?_
  simp [C.impl_ArcLaurent,agD,h1]
  refine hL _ ?_;clear hL L
  refine oEn fun L hL=>?_
  simp [C.impl_ArcLaurent,agD,h1]
  refine hL _ ?_;clear hL L
  simp [C.impl_ArcLaurent,agD,h1]
  refine cast (congrArg K ?_) hJ
  simp [h1,agD,h1]
 ·refine oSg fun L hL=>?_
  simp [C.impl_ArcLaurent,agD,h1]
  refine wcall1 (hit) (by simp) (by simp) ?_
  simp [C.impl_ArcLaurent,agD,h1]
  refine hL _ ?_;clear hL L
  refine oSg fun L hL=>?_
  simp [C.impl_ArcLaurent,agD,h1]
  refine hL _ ?_;clear hL L
  refine oEn fun L hL=>?_
  simp [C.impl_ArcLaurent,agD,h1]
  refine hL _ ?_;clear hL L
  simp [C.impl_ArcLaurent,agD,h1]
  refine cast (congrArg K ?_) hJ
  simp [h1,agD,h1]
end Go.Proofs.Ytfcgcgmleogamaa.Ab
namespace Go.Proofs.Ytfcgcgmleogamaa.Ab
open Go
set_option maxRecDepth 100000
end Go.Proofs.Ytfcgcgmleogamaa.Ab
namespace Go.Proofs.Ytfcgcgmleogamaa.Ab
open Go
set_option maxRecDepth 10000
set_option maxHeartbeats 4000000
def lDD (t:List Dg):List D:=[.ow 2 t.length (rows gM (t.map dgI))]
theorem lDD_one (t:List Dg):(lDD t).length=1:=rfl
@[simp] theorem lDD_length (l:List (List Dg)):(rows lDD l).length=l.length:=by rw [rows_length lDD_one l,Nat.one_mul]
@[simp] theorem lDD_noSh (l:List (List Dg)):noShL (rows lDD l):=rows_noSh (fun t=>by simp [lDD,noShL,noSh,gM_noSh]) l
theorem spec_l5Polygon_c (v:Int):ACalls Try.prog F.spec_l5Polygon [.int v] [] true (fun outs res=>outs=[]/\res=[.one (D.bool (decide (4<=v/\v<=8)))]):=by
 refine ACalls.of_body (C:=C.spec_l5Polygon) (n:=Try.f154.ntmps) tabT folT Try.func154 rfl (by kernel_rfl) rfl (Nat.le_of_ble_eq_true rfl) (by decide) (by kernel_rfl) (by kernel_rfl) rfl (by simp) (by simp) ?_
 simp only [Try.f154]
 refine wseq ?_
 refine wreg fun K hK=>?_
 simp [C.spec_l5Polygon]
 refine hK _ ?_;clear hK K
 show AWp _ _ _ _ _
 refine wseq ?_
 refine wregI ([0,1] ++ ([2])) rfl fun K hK=>?_
 refine oSg fun L hL=>?_
 simp [C.spec_l5Polygon]
 refine wcall1 (spec_l1In_c v 4 8) (by simp) (by simp) ?_
 simp [C.spec_l5Polygon]
 refine hL _ ?_;clear hL L
 refine oEn fun L hL=>?_
 simp [C.spec_l5Polygon]
 refine hL _ ?_;clear hL L
 simp [C.spec_l5Polygon]
 refine hK _ ?_;clear hK K
 show AWp _ _ _ _ _
 refine wret ?_
 simp [C.spec_l5Polygon]
theorem spec_l5Cross_c (x y z w:Int):ACalls Try.prog F.spec_l5Cross [.ag [.int x,.int y],.ag [.int z,.int w]] [] true (fun outs res=>outs=[]/\res=[.one (D.bool (decide (CrI (x,y) (z,w))))]):=by
 refine ACalls.of_body (C:=C.spec_l5Cross) (n:=Try.f155.ntmps) tabT folT Try.func155 rfl (by kernel_rfl) rfl (Nat.le_of_ble_eq_true rfl) (by decide) (by kernel_rfl) (by kernel_rfl) rfl (by simp) (by simp) ?_
 simp only [Try.f155]
 refine wseq ?_
 refine wreg fun K hK=>?_
 simp [C.spec_l5Cross]
 refine hK _ ?_;clear hK K
 show AWp _ _ _ _ _
 refine wseq ?_
 refine wregI ([0,1,2,3,4,5,6,7,8,9,10,11,12,13,14,15,16,17,18,19,20,21,22,23,24,25,26,27,28,29,30,31,32,33,34,35,36,37,38,39,40]) rfl fun K hK=>?_
 have hJ:K ⟨ofL [(4,.bool (decide (CrI (x,y) (z,w))))],ofRO []⟩:=by
  refine hK _ ?_;clear hK K
  show AWp _ _ _ _ _
  refine wret ?_
  simp [C.spec_l5Cross]
 clear hK
 by_cases h1:x < z <;> by_cases h2:z < y <;> by_cases h3:y < w <;> by_cases h4:z < x <;> by_cases h5:x < w <;> by_cases h6:w < y <;> first
  | (exfalso;omega)
  | (simp [C.spec_l5Cross,h1,h2,h3,h4,h5,h6];refine cast (congrArg K ?_) hJ;simp [CrI,h1,h2,h3,h4,h5,h6])
end Go.Proofs.Ytfcgcgmleogamaa.Ab
namespace Go.Proofs.Ytfcgcgmleogamaa.Ab
open Go
def lS (l:List Int):List D:=[shI l]
def lO (l:List Int):List D:=[owI l]
theorem lS_one (l:List Int):(lS l).length=1:=rfl
theorem lO_one (l:List Int):(lO l).length=1:=rfl
@[simp] theorem lS_length (l:List (List Int)):(rows lS l).length=l.length:=by rw [rows_length lS_one l,Nat.one_mul]
@[simp] theorem lO_length (l:List (List Int)):(rows lO l).length=l.length:=by rw [rows_length lO_one l,Nat.one_mul]
@[simp] theorem lS_share (l:List (List Int)):shareL (rows lO l)=rows lS l:=by
 rw [rows_share]
 congr 1
 funext t
 simp [lO,lS,shareL,share,shareL_ints]
section
variable {l:List (List Int)} {i:Nat}
theorem lO_0 (h:i < l.length):(rows lO l)[i]? = some (owI l[i])/\∀ h',(rows lO l)[i]'h'=owI l[i]:=twice (by
 have:=rows_get lO_one l i 0 h (by omega)
 simpa [lO] using this)
end
def lZ:Option (List Int)->List D
 | none=>[.v (.slice none 0 0)]
 | some t=>lO t
theorem lZ_one (t:Option (List Int)):(lZ t).length=1:=by cases t <;> rfl
@[simp] theorem lZ_length (l:List (Option (List Int))):(rows lZ l).length=l.length:=by rw [rows_length lZ_one l,Nat.one_mul]
@[simp] theorem lO_noSh (l:List (List Int)):noShL (rows lO l):=rows_noSh (fun t=>by simp [lO,noShL,noSh,noShL_ints]) l
end Go.Proofs.Ytfcgcgmleogamaa.Ab
namespace Go.Proofs.Ytfcgcgmleogamaa.Ab
open Go
set_option maxRecDepth 10000
set_option maxHeartbeats 4000000
def sideF (v:Nat) (l:List Dg) (a b:Nat):Int:=if b=a+1\/(a=0/\b+1=v) then -1 else match l.findIdx? (dgq (a,b)) with
 | some k=>k
 | none=>-2
theorem sideF_kn {v:Nat} {l:List Dg} {a b:Nat}:decide (-2 < sideF v l a b)=knD v l (a,b):=by
 unfold sideF knD
 have hs:sd v (a,b)=decide (b=a+1\/(a=0/\b+1=v)):=by
  rw [Bool.eq_iff_iff]
  simp only [sd,Bool.or_eq_true,Bool.and_eq_true,Nat.beq_eq,decide_eq_true_eq]
  omega
 rw [hs]
 by_cases h:b=a+1\/(a=0/\b+1=v)
 ·rw [if_pos h,decide_eq_true h]
  rfl
 ·rw [if_neg h,decide_eq_false h,Bool.false_or]
  cases hf:l.findIdx? (dgq (a,b)) with
  | none=>
   rw [List.findIdx?_eq_none_iff] at hf
   dsimp only
   symm
   rw [show decide ((-2:Int) < -2)=false from rfl,List.any_eq_false]
   intro x hx
   rw [hf x hx]
   simp
  | some k=>
   obtain ⟨hk,h1,-⟩:=List.findIdx?_eq_some_iff_getElem.1 hf
   dsimp only
   symm
   rw [decide_eq_true (by omega),List.any_eq_true]
   exact ⟨_,List.getElem_mem hk,h1⟩
theorem spec_IsDiagonal_c (v x y:Int):ACalls Try.prog F.spec_IsDiagonal [.int v,.ag [.int x,.int y]] [] true (fun outs res=>outs=[]/\res=[.one (D.bool (decide (IsDg v (x,y))))]):=by
 refine ACalls.of_body (C:=C.spec_IsDiagonal) (n:=Try.f103.ntmps) tabT folT Try.func103 rfl (by kernel_rfl) rfl (Nat.le_of_ble_eq_true rfl) (by decide) (by kernel_rfl) (by kernel_rfl) rfl (by simp) (by simp) ?_
 simp only [Try.f103]
 refine wseq ?_
 refine wreg fun K hK=>?_
 simp [C.spec_IsDiagonal]
 refine hK _ ?_;clear hK K
 show AWp _ _ _ _ _
 refine wseq ?_
 refine wregI ([0,1] ++ ([2,3,4,5,6,7] ++ ([8,9,10,11,12,13,14,15,16,17] ++ ([18,19,20,21,22,23,24,25,26,27,28,29,30,31])))) rfl fun K hK=>?_
 have hJ:K ⟨ofL [(4,.bool (decide (IsDg v (x,y))))],ofRO []⟩:=by
  refine hK _ ?_;clear hK K
  show AWp _ _ _ _ _
  refine wret ?_
  simp [C.spec_IsDiagonal]
 clear hK
 by_cases h1:4<=v/\v<=8
 ·by_cases h2:0<=x/\x<=v - 1
  ·by_cases h3:x+2<=y/\y<=v - 1
   ·by_cases h4:x=0
    ·subst h4
     have h4:=trivial
     refine oSg fun L hL=>?_
     simp [C.spec_IsDiagonal,wrapOk (x:=v - 1) (by omega) (by omega),wrapOk (x:=(2:Int)) (by omega) (by omega),show (0:Int)<=v - 1 by omega,show (1:Int)<=v by omega,show (2:Int)<=y by omega,show y<=v - 1 by omega,h1,h2,h3,h4]
     refine wcall1 (spec_l5Polygon_c v) (by simp) (by simp) ?_
     simp [C.spec_IsDiagonal,wrapOk (x:=v - 1) (by omega) (by omega),wrapOk (x:=(2:Int)) (by omega) (by omega),show (0:Int)<=v - 1 by omega,show (1:Int)<=v by omega,show (2:Int)<=y by omega,show y<=v - 1 by omega,h1,h2,h3,h4]
     refine hL _ ?_;clear hL L
     refine oSg fun L hL=>?_
     simp [C.spec_IsDiagonal,wrapOk (x:=v - 1) (by omega) (by omega),wrapOk (x:=(2:Int)) (by omega) (by omega),show (0:Int)<=v - 1 by omega,show (1:Int)<=v by omega,show (2:Int)<=y by omega,show y<=v - 1 by omega,h1,h2,h3,h4]
     refine wcall1 (spec_l1In_c 0 0 (v - 1)) (by simp [wrapOk (x:=v - 1) (by omega) (by omega),wrapOk (x:=(2:Int)) (by omega) (by omega),show (0:Int)<=v - 1 by omega,show (1:Int)<=v by omega,show (2:Int)<=y by omega,show y<=v - 1 by omega]) (by simp) ?_
     simp [C.spec_IsDiagonal,wrapOk (x:=v - 1) (by omega) (by omega),wrapOk (x:=(2:Int)) (by omega) (by omega),show (0:Int)<=v - 1 by omega,show (1:Int)<=v by omega,show (2:Int)<=y by omega,show y<=v - 1 by omega,h1,h2,h3,h4]
     refine hL _ ?_;clear hL L
     refine oSg fun L hL=>?_
     simp [C.spec_IsDiagonal,wrapOk (x:=v - 1) (by omega) (by omega),wrapOk (x:=(2:Int)) (by omega) (by omega),show (0:Int)<=v - 1 by omega,show (1:Int)<=v by omega,show (2:Int)<=y by omega,show y<=v - 1 by omega,h1,h2,h3,h4]
     refine wcall1 (spec_l1In_c y 2 (v - 1)) (by simp [wrapOk (x:=v - 1) (by omega) (by omega),wrapOk (x:=(2:Int)) (by omega) (by omega),show (0:Int)<=v - 1 by omega,show (1:Int)<=v by omega,show (2:Int)<=y by omega,show y<=v - 1 by omega]) (by simp) ?_
     simp [C.spec_IsDiagonal,wrapOk (x:=v - 1) (by omega) (by omega),wrapOk (x:=(2:Int)) (by omega) (by omega),show (0:Int)<=v - 1 by omega,show (1:Int)<=v by omega,show (2:Int)<=y by omega,show y<=v - 1 by omega,h1,h2,h3,h4]
     refine hL _ ?_;clear hL L
     refine oEn fun L hL=>?_
     simp [C.spec_IsDiagonal,wrapOk (x:=v - 1) (by omega) (by omega),wrapOk (x:=(2:Int)) (by omega) (by omega),show (0:Int)<=v - 1 by omega,show (1:Int)<=v by omega,show (2:Int)<=y by omega,show y<=v - 1 by omega,h1,h2,h3,h4]
     refine hL _ ?_;clear hL L
     simp [C.spec_IsDiagonal,wrapOk (x:=v - 1) (by omega) (by omega),wrapOk (x:=(2:Int)) (by omega) (by omega),show (0:Int)<=v - 1 by omega,show (1:Int)<=v by omega,show (2:Int)<=y by omega,show y<=v - 1 by omega,h1,h2,h3,h4]
     refine cast (congrArg K ?_) hJ
     simp [ibne,IsDg,h1,h3.1,show y < v by omega,show 2<=y by omega,h1,h2,h3,h4]
    ·refine oSg fun L hL=>?_
     simp [C.spec_IsDiagonal,wrapOk (x:=v - 1) (by omega) (by omega),wrapOk (x:=x+2) (by omega) (by omega),h1,h2,h3,h4]
     refine wcall1 (spec_l5Polygon_c v) (by simp) (by simp) ?_
     simp [C.spec_IsDiagonal,wrapOk (x:=v - 1) (by omega) (by omega),wrapOk (x:=x+2) (by omega) (by omega),h1,h2,h3,h4]
     refine hL _ ?_;clear hL L
     refine oSg fun L hL=>?_
     simp [C.spec_IsDiagonal,wrapOk (x:=v - 1) (by omega) (by omega),wrapOk (x:=x+2) (by omega) (by omega),h1,h2,h3,h4]
     refine wcall1 (spec_l1In_c x 0 (v - 1)) (by simp) (by simp) ?_
     simp [C.spec_IsDiagonal,wrapOk (x:=v - 1) (by omega) (by omega),wrapOk (x:=x+2) (by omega) (by omega),h1,h2,h3,h4]
     refine hL _ ?_;clear hL L
     refine oSg fun L hL=>?_
     simp [C.spec_IsDiagonal,wrapOk (x:=v - 1) (by omega) (by omega),wrapOk (x:=x+2) (by omega) (by omega),h1,h2,h3,h4]
     refine wcall1 (spec_l1In_c y (x+2) (v - 1)) (by simp) (by simp) ?_
     simp [C.spec_IsDiagonal,wrapOk (x:=v - 1) (by omega) (by omega),wrapOk (x:=x+2) (by omega) (by omega),h1,h2,h3,h4]
     refine hL _ ?_;clear hL L
     refine oEn fun L hL=>?_
     simp [C.spec_IsDiagonal,wrapOk (x:=v - 1) (by omega) (by omega),wrapOk (x:=x+2) (by omega) (by omega),h1,h2,h3,h4]
     refine hL _ ?_;clear hL L
     simp [C.spec_IsDiagonal,wrapOk (x:=v - 1) (by omega) (by omega),wrapOk (x:=x+2) (by omega) (by omega),h1,h2,h3,h4]
     refine cast (congrArg K ?_) hJ
     simp [IsDg,h1,h2.1,h3.1,h4,show y < v by omega,h1,h2,h3,h4]
   ·refine oSg fun L hL=>?_
    simp [C.spec_IsDiagonal,wrapOk (x:=v - 1) (by omega) (by omega),wrapOk (x:=x+2) (by omega) (by omega),h1,h2,h3]
    refine wcall1 (spec_l5Polygon_c v) (by simp) (by simp) ?_
    simp [C.spec_IsDiagonal,wrapOk (x:=v - 1) (by omega) (by omega),wrapOk (x:=x+2) (by omega) (by omega),h1,h2,h3]
    refine hL _ ?_;clear hL L
    refine oSg fun L hL=>?_
    simp [C.spec_IsDiagonal,wrapOk (x:=v - 1) (by omega) (by omega),wrapOk (x:=x+2) (by omega) (by omega),h1,h2,h3]
    refine wcall1 (spec_l1In_c x 0 (v - 1)) (by simp) (by simp) ?_
    simp [C.spec_IsDiagonal,wrapOk (x:=v - 1) (by omega) (by omega),wrapOk (x:=x+2) (by omega) (by omega),h1,h2,h3]
    refine hL _ ?_;clear hL L
    refine oSg fun L hL=>?_
    simp [C.spec_IsDiagonal,wrapOk (x:=v - 1) (by omega) (by omega),wrapOk (x:=x+2) (by omega) (by omega),h1,h2,h3]
    refine wcall1 (spec_l1In_c y (x+2) (v - 1)) (by simp) (by simp) ?_
    simp [C.spec_IsDiagonal,wrapOk (x:=v - 1) (by omega) (by omega),wrapOk (x:=x+2) (by omega) (by omega),h1,h2,h3]
    refine hL _ ?_;clear hL L
    refine oEn fun L hL=>?_
    simp [C.spec_IsDiagonal,wrapOk (x:=v - 1) (by omega) (by omega),wrapOk (x:=x+2) (by omega) (by omega),h1,h2,h3]
    refine hL _ ?_;clear hL L
    simp [C.spec_IsDiagonal,wrapOk (x:=v - 1) (by omega) (by omega),wrapOk (x:=x+2) (by omega) (by omega),h1,h2,h3]
    refine cast (congrArg K ?_) hJ
    simp [IsDg,h1,h2.1,show ¬ (x+2<=y/\y < v/\(x=0->¬ y=v - 1)) by omega,h1,h2,h3]
  ·refine oSg fun L hL=>?_
   simp [C.spec_IsDiagonal,wrapOk (x:=v - 1) (by omega) (by omega),h1,h2]
   refine wcall1 (spec_l5Polygon_c v) (by simp) (by simp) ?_
   simp [C.spec_IsDiagonal,wrapOk (x:=v - 1) (by omega) (by omega),h1,h2]
   refine hL _ ?_;clear hL L
   refine oSg fun L hL=>?_
   simp [C.spec_IsDiagonal,wrapOk (x:=v - 1) (by omega) (by omega),h1,h2]
   refine wcall1 (spec_l1In_c x 0 (v - 1)) (by simp) (by simp) ?_
   simp [C.spec_IsDiagonal,wrapOk (x:=v - 1) (by omega) (by omega),h1,h2]
   refine hL _ ?_;clear hL L
   refine oSg fun L hL=>?_
   simp [C.spec_IsDiagonal,wrapOk (x:=v - 1) (by omega) (by omega),h1,h2]
   refine hL _ ?_;clear hL L
   refine oEn fun L hL=>?_
   simp [C.spec_IsDiagonal,wrapOk (x:=v - 1) (by omega) (by omega),h1,h2]
   refine hL _ ?_;clear hL L
   simp [C.spec_IsDiagonal,wrapOk (x:=v - 1) (by omega) (by omega),h1,h2]
   refine cast (congrArg K ?_) hJ
   simp [IsDg,h1,show ¬ (0<=x/\x+2<=y/\y < v/\(x=0->¬ y=v - 1)) by omega,h1,h2]
 ·refine oSg fun L hL=>?_
  simp [C.spec_IsDiagonal,h1]
  refine wcall1 (spec_l5Polygon_c v) (by simp) (by simp) ?_
  simp [C.spec_IsDiagonal,h1]
  refine hL _ ?_;clear hL L
  refine oSg fun L hL=>?_
  simp [C.spec_IsDiagonal,h1]
  refine hL _ ?_;clear hL L
  refine oSg fun L hL=>?_
  simp [C.spec_IsDiagonal,h1]
  refine hL _ ?_;clear hL L
  refine oEn fun L hL=>?_
  simp [C.spec_IsDiagonal,h1]
  refine hL _ ?_;clear hL L
  simp [C.spec_IsDiagonal,h1]
  refine cast (congrArg K ?_) hJ
  simp [IsDg,h1,h1]
theorem spec_l5Side_c (v:Nat) (l:List Dg) (a b:Nat) (hv:v<=8/\4<=v) (ha:a<=8) (hb:b<=8) (hl:l.length<=8):ACalls Try.prog F.spec_l5Side [.int v,.d (.sh 2 l.length (rows gM (l.map dgI))),.int a,.int b] [] true (fun outs res=>outs=[]/\res=[.one (D.int (sideF v l a b))]):=by
 refine ACalls.of_body (C:=C.spec_l5Side) (n:=Try.f183.ntmps) tabT folT Try.func183 rfl (by kernel_rfl) rfl (Nat.le_of_ble_eq_true rfl) (by decide) (by kernel_rfl) (by kernel_rfl) rfl (by simp) (by simp) ?_
 simp only [Try.f183]
 refine wseq ?_
 refine wreg fun K hK=>?_
 simp [C.spec_l5Side]
 refine hK _ ?_;clear hK K
 show AWp _ _ _ _ _
 refine wseq ?_
 refine wseq ?_
 refine wregI ([0,1,2,3,4,5,6,7,8,9,10,11,12,13]) rfl fun K hK=>?_
 have hJ:K ⟨ofL [(1,.d (.sh 2 l.length (rows gM (l.map dgI)))),(2,.int a),(3,.int b),(23,.bool (decide (b=a+1\/(a=0/\(b:Int)=(v:Int) - 1))))],ofRO []⟩:=by
  refine hK _ ?_;clear hK K
  show AWp _ _ _ _ _
  refine wcond _ rfl (fun hc1=>?_) (fun hc1=>?_)
  ·have hcc:=d_t hc1
   have hS:sideF v l a b=-1:=by unfold sideF;rw [if_pos (by omega)]
   refine wseq ?_
   refine wreg fun K hK=>?_
   simp [C.spec_l5Side]
   refine hK _ ?_;clear hK K
   show AWp _ _ _ _ _
   refine wret ?_
   simp [C.spec_l5Side]
   rw [hS]
  ·have hcc:=d_f hc1
   refine wskip ?_
   show AWp _ _ _ _ _
   refine wseq ?_
   refine wseq ?_
   refine wreg fun K hK=>?_
   simp [C.spec_l5Side]
   refine hK _ ?_;clear hK K
   show AWp _ _ _ _ _
   refine wblock ?_
   refine wloop (fun k:Nat=>⟨ofL [(1,.d (.sh 2 l.length (rows gM (l.map dgI)))),(2,.int a),(3,.int b),(9,.int k)],ofRO []⟩) (fun k=>k<=l.length/\∀ (j:Nat) (h:j < l.length),j < k->¬ l[j]=(a,b)) (fun k=>l.length - k) 0 (by simp [C.spec_l5Side]) ⟨by simp,fun j _ h=>absurd h (by omega)⟩ ?_
   intro x1 hx1 R1 hR1
   obtain ⟨hk0,hno⟩:=hx1
   refine wseq ?_
   refine wseq ?_
   refine wreg fun K hK=>?_
   simp [C.spec_l5Side]
   refine hK _ ?_;clear hK K
   show AWp _ _ _ _ _
   refine wcond _ rfl (fun hc2=>?_) (fun hc2=>?_)
   ·have h1:x1 < l.length:=by have:=d_t hc2;simpa using this
    have hm:x1 < (l.map dgI).length:=by simpa using h1
    have e1:(l.map dgI)[x1].1=(l[x1].1:Int):=by rw [List.getElem_map];rfl
    have e2:(l.map dgI)[x1].2=(l[x1].2:Int):=by rw [List.getElem_map];rfl
    have hs0:=gM_0 hm
    have hs1:=gM_1 hm
    rw [e1] at hs0
    rw [e2] at hs1
    refine wskip ?_
    show AWp _ _ _ _ _
    refine wseq ?_
    refine wblock ?_
    refine wseq ?_
    refine wregI ([0,1,2,3,4,5,6,7,8,9,10,11,12,13,14,15]) rfl fun K hK=>?_
    have hJ:K ⟨ofL [(1,.d (.sh 2 l.length (rows gM (l.map dgI)))),(2,.int a),(3,.int b),(9,.int x1),(45,.bool (decide (l[x1].1=a/\l[x1].2=b)))],ofRO []⟩:=by
     refine hK _ ?_;clear hK K
     show AWp _ _ _ _ _
     refine wcond _ rfl (fun hc3=>?_) (fun hc3=>?_)
     ·have hcc3:=d_t hc3
      have he:l[x1]=(a,b):=Prod.ext hcc3.1 hcc3.2
      have hS:sideF v l a b=(x1:Int):=by
       unfold sideF
       rw [if_neg (by omega),List.findIdx?_eq_some_iff_getElem.2 ⟨h1,dgq_eq.2 he.symm,fun j hj=>by
        intro q
        exact hno j (by omega) hj (dgq_eq.1 q).symm⟩]
      refine wseq ?_
      refine wreg fun K hK=>?_
      simp [C.spec_l5Side]
      refine hK _ ?_;clear hK K
      show AWp _ _ _ _ _
      refine wret ?_
      simp [C.spec_l5Side]
      rw [hS]
     ·have hcc3:=d_f hc3
      refine wskip ?_
      show AWp _ _ _ _ _
      refine wreg fun K hK=>?_
      simp [C.spec_l5Side,wrap_succ (show x1 < 4611686018427387904 by omega)]
      refine hK _ ?_;clear hK K
      simp [C.spec_l5Side]
      refine hR1 (x1+1) ⟨h1,fun j h hj e=>?_⟩ (by omega)
      by_cases hjx:j=x1
      ·subst hjx
       exact hcc3 ⟨by rw [e],by rw [e]⟩
      ·exact hno j h (by omega) e
    clear hK
    by_cases g1:l[x1].1=a
    ·refine oEn fun L hL=>?_
     simp [C.spec_l5Side,hs0,hs1,h1,hs0,hs1,h1,g1,g1]
     refine hL _ ?_;clear hL L
     simp [C.spec_l5Side,hs0,hs1,h1,hs0,hs1,h1,g1,g1]
     refine cast (congrArg K ?_) hJ
     simp [g1,g1,ibeq,show ((l[x1].2:Int)=(b:Int))=(l[x1].2=b) from propext (by omega),g1]
    ·refine oEn fun L hL=>?_
     simp [C.spec_l5Side,hs0,hs1,h1,hs0,hs1,h1,show ¬ ((l[x1].1:Int)=(a:Int)) by omega,g1]
     refine hL _ ?_;clear hL L
     simp [C.spec_l5Side,hs0,hs1,h1,hs0,hs1,h1,show ¬ ((l[x1].1:Int)=(a:Int)) by omega,g1]
     refine cast (congrArg K ?_) hJ
     simp [g1,g1]
   ·have h1:x1=l.length:=by have:=d_f hc2;simp at this;omega
    have hS:sideF v l a b=-2:=by
     unfold sideF
     rw [if_neg (by omega),List.findIdx?_eq_none_iff.2 fun x hx=>by
      obtain ⟨j,hj,rfl⟩:=List.getElem_of_mem hx
      rw [Bool.eq_false_iff]
      intro q
      exact hno j hj (by omega) (dgq_eq.1 q).symm]
    refine wexit ?_
    show AWp _ _ _ _ _
    refine wseq ?_
    refine wreg fun K hK=>?_
    simp [C.spec_l5Side]
    refine hK _ ?_;clear hK K
    show AWp _ _ _ _ _
    refine wret ?_
    simp [C.spec_l5Side]
    rw [hS]
 clear hK
 by_cases h1:b=a+1
 ·refine oEn fun L hL=>?_
  simp [C.spec_l5Side,wrap_succ (show a < 4611686018427387904 by omega),wrapOk (x:=(v:Int) - 1) (by omega) (by omega),show ((b:Int)=(a:Int)+1) by omega,h1]
  refine hL _ ?_;clear hL L
  simp [C.spec_l5Side,wrap_succ (show a < 4611686018427387904 by omega),wrapOk (x:=(v:Int) - 1) (by omega) (by omega),show ((b:Int)=(a:Int)+1) by omega,h1]
  refine cast (congrArg K ?_) hJ
  simp [ibeq,h1,h1]
 ·by_cases h2:a=0
  ·refine oEn fun L hL=>?_
   simp [C.spec_l5Side,wrap_succ (show a < 4611686018427387904 by omega),wrapOk (x:=(v:Int) - 1) (by omega) (by omega),show ¬ ((b:Int)=(a:Int)+1) by omega,show ¬ ((b:Int)=1) by omega,wrapOk (x:=(1:Int)) (by omega) (by omega),h2,h1,h2]
   refine hL _ ?_;clear hL L
   simp [C.spec_l5Side,wrap_succ (show a < 4611686018427387904 by omega),wrapOk (x:=(v:Int) - 1) (by omega) (by omega),show ¬ ((b:Int)=(a:Int)+1) by omega,show ¬ ((b:Int)=1) by omega,wrapOk (x:=(1:Int)) (by omega) (by omega),h2,h1,h2]
   refine cast (congrArg K ?_) hJ
   simp [ibeq,h1,h2,show ¬ (b=1) by omega,h1,h2]
  ·refine oEn fun L hL=>?_
   simp [C.spec_l5Side,wrap_succ (show a < 4611686018427387904 by omega),wrapOk (x:=(v:Int) - 1) (by omega) (by omega),show ¬ ((b:Int)=(a:Int)+1) by omega,show ¬ ((a:Int)=0) by omega,h1,h2]
   refine hL _ ?_;clear hL L
   simp [C.spec_l5Side,wrap_succ (show a < 4611686018427387904 by omega),wrapOk (x:=(v:Int) - 1) (by omega) (by omega),show ¬ ((b:Int)=(a:Int)+1) by omega,show ¬ ((a:Int)=0) by omega,h1,h2]
   refine cast (congrArg K ?_) hJ
   simp [ibeq,h1,h2,h1,h2]
end Go.Proofs.Ytfcgcgmleogamaa.Ab
namespace Go.Proofs.Ytfcgcgmleogamaa.Ab
open Go
set_option maxRecDepth 10000
set_option maxHeartbeats 4000000
theorem spec_IsTriangulation_c (v:Int) (l:List DI) (hx:l.length < 4611686018427387904):ACalls Try.prog F.spec_IsTriangulation [.int v,.d (.sh 2 l.length (rows gM l))] [] true (fun outs res=>outs=[]/\res=[.one (D.bool (decide (TriI v l)))]):=by
 refine ACalls.of_body (C:=C.spec_IsTriangulation) (n:=Try.f102.ntmps) tabT folT Try.func102 rfl (by kernel_rfl) rfl (Nat.le_of_ble_eq_true rfl) (by decide) (by kernel_rfl) (by kernel_rfl) rfl (by simp) (by simp) ?_
 simp only [Try.f102]
 refine wseq ?_
 refine wreg fun K hK=>?_
 simp [C.spec_IsTriangulation]
 refine hK _ ?_;clear hK K
 show AWp _ _ _ _ _
 refine wseq ?_
 refine wseq ?_
 refine wregI ([0,1] ++ ([2,3,4,5,6,7,8,9])) rfl fun K hK=>?_
 have hJ:K ⟨ofL [(0,.int v),(1,.d (.sh 2 l.length (rows gM l))),(16,.bool (!decide ((4<=v/\v<=8)/\(l.length:Int)=v - 3)))],ofRO []⟩:=by
  refine hK _ ?_;clear hK K
  show AWp _ _ _ _ _
  refine wcond _ rfl (fun hc1=>?_) (fun hc1=>?_)
  ·have hr:=nd_t hc1
   have hno:¬ TriI v l:=fun h=>hr ⟨h.1,h.2.1⟩
   refine wseq ?_
   refine wreg fun K hK=>?_
   simp [C.spec_IsTriangulation]
   refine hK _ ?_;clear hK K
   show AWp _ _ _ _ _
   refine wret ?_
   simp [C.spec_IsTriangulation,hno]
  ·have hr:=nd_f hc1
   refine wskip ?_
   show AWp _ _ _ _ _
   refine wseq ?_
   refine wseq ?_
   refine wreg fun K hK=>?_
   simp [C.spec_IsTriangulation]
   refine hK _ ?_;clear hK K
   show AWp _ _ _ _ _
   refine wblock ?_
   refine wloop (fun k:Nat=>⟨ofL [(0,.int v),(1,.d (.sh 2 l.length (rows gM l))),(5,FV.int k)],ofRO []⟩) (fun k=>k<=l.length/\GdT v (l.take k)) (fun k=>l.length - k) 0 (by simp [C.spec_IsTriangulation]) ⟨by simp,by simp [GdT]⟩ ?_
   intro x1 hx1 R1 hR1
   obtain ⟨hk,hg⟩:=hx1
   refine wseq ?_
   refine wseq ?_
   refine wreg fun K hK=>?_
   simp [C.spec_IsTriangulation]
   refine hK _ ?_;clear hK K
   show AWp _ _ _ _ _
   refine wcond _ rfl (fun hc2=>?_) (fun hc2=>?_)
   ·have h1:x1 < l.length:=by have:=d_t hc2;omega
    have hd:=spec_IsDiagonal_c v l[x1].1 l[x1].2
    refine wskip ?_
    show AWp _ _ _ _ _
    refine wseq ?_
    refine wblock ?_
    refine wseq ?_
    refine wseq ?_
    refine wregI ([0,1,2,3,4,5] ++ ([6])) rfl fun K hK=>?_
    refine oSg fun L hL=>?_
    simp [C.spec_IsTriangulation,gM_0 h1,gM_1 h1,h1]
    refine wcall1 (hd) (by simp) (by simp) ?_
    simp [C.spec_IsTriangulation,gM_0 h1,gM_1 h1,h1]
    refine hL _ ?_;clear hL L
    refine oEn fun L hL=>?_
    simp [C.spec_IsTriangulation,gM_0 h1,gM_1 h1,h1]
    refine hL _ ?_;clear hL L
    simp [C.spec_IsTriangulation,gM_0 h1,gM_1 h1,h1]
    refine hK _ ?_;clear hK K
    show AWp _ _ _ _ _
    refine wcond _ rfl (fun hc3=>?_) (fun hc3=>?_)
    ·have hno:¬ TriI v l:=fun h=>by
      have h2:=h.2.2.1 _ (List.getElem_mem h1)
      have:decide (IsDg v (l[x1].1,l[x1].2))=true:=decide_eq_true h2
      rw [this] at hc3
      simp at hc3
     refine wseq ?_
     refine wreg fun K hK=>?_
     simp [C.spec_IsTriangulation]
     refine hK _ ?_;clear hK K
     show AWp _ _ _ _ _
     refine wret ?_
     simp [C.spec_IsTriangulation,hno]
    ·have hdg:IsDg v l[x1]:=by
      have:=hc3
      simp at this
      exact this
     refine wskip ?_
     show AWp _ _ _ _ _
     refine wseq ?_
     refine wreg fun K hK=>?_
     simp [C.spec_IsTriangulation]
     refine hK _ ?_;clear hK K
     show AWp _ _ _ _ _
     refine wblock ?_
     refine wloop (fun j:Nat=>⟨ofL [(0,.int v),(1,.d (.sh 2 l.length (rows gM l))),(5,FV.int x1),(6,FV.int j)],ofRO []⟩) (fun j=>j<=x1/\∀ e∈l.take j,¬ ((e.1=l[x1].1/\e.2=l[x1].2)\/CrI l[x1] e)) (fun j=>x1 - j) 0 (by simp [C.spec_IsTriangulation]) ⟨by simp,by simp⟩ ?_
     intro x2 hx2 R2 hR2
     obtain ⟨hj0,hjn⟩:=hx2
     refine wseq ?_
     refine wseq ?_
     refine wreg fun K hK=>?_
     simp [C.spec_IsTriangulation]
     refine hK _ ?_;clear hK K
     show AWp _ _ _ _ _
     refine wcond _ rfl (fun hc4=>?_) (fun hc4=>?_)
     ·have h2:x2 < x1:=by have:=d_t hc4;omega
      have h2l:x2 < l.length:=by omega
      have hcr:=spec_l5Cross_c l[x1].1 l[x1].2 l[x2].1 l[x2].2
      refine wskip ?_
      show AWp _ _ _ _ _
      refine wseq ?_
      refine wblock ?_
      refine wseq ?_
      refine wdrawI [(true,0),(true,1),(true,2),(true,3),(true,4),(true,5),(true,6),(true,7),(true,8),(true,9),(true,10),(true,11),(true,12),(true,13),(true,14),(true,15),(true,16),(true,17),(false,18),(true,19)] ⟨by kernel_rfl,by kernel_rfl⟩ ([0,1,2,3,4,5,6,7,8,9,10,11,12,13,14,15,16,17,18] ++ ([19])) rfl fun K hK=>?_
      have hJ:K ⟨ofL [(0,.int v),(1,.d (.sh 2 l.length (rows gM l))),(5,FV.int x1),(6,FV.int x2),(54,.bool (decide ((l[x1].1=l[x2].1/\l[x1].2=l[x2].2)\/CrI l[x1] l[x2])))],ofRO []⟩:=by
       refine hK _ ?_;clear hK K
       show AWp _ _ _ _ _
       refine wcond _ rfl (fun hc5=>?_) (fun hc5=>?_)
       ·have hcc:=d_t hc5
        have hno:¬ TriI v l:=fun h=>by
         have h3:=h.2.2.2
         rw [List.pairwise_iff_getElem] at h3
         exact h3 x2 x1 h2l h1 h2 (hcc.imp (fun q=>⟨q.1.symm,q.2.symm⟩) id)
        refine wseq ?_
        refine wreg fun K hK=>?_
        simp [C.spec_IsTriangulation]
        refine hK _ ?_;clear hK K
        show AWp _ _ _ _ _
        refine wret ?_
        simp [C.spec_IsTriangulation,hno]
       ·have hcc:=d_f hc5
        refine wskip ?_
        show AWp _ _ _ _ _
        refine wreg fun K hK=>?_
        simp [C.spec_IsTriangulation,wrap_succ (show x2 < 4611686018427387904 by omega)]
        refine hK _ ?_;clear hK K
        simp [C.spec_IsTriangulation]
        refine hR2 (x2+1) ⟨h2,fun e he=>?_⟩ (by omega)
        rw [List.take_succ_eq_append_getElem h2l] at he
        rcases List.mem_append.1 he with he | he
        ·exact hjn e he
        ·rw [List.mem_singleton] at he
         rw [he]
         exact fun q=>hcc (q.imp (fun q=>⟨q.1.symm,q.2.symm⟩) id)
      clear hK
      by_cases hq:l[x1].1=l[x2].1/\l[x1].2=l[x2].2
      ·have hb:(l[x1].1 == l[x2].1 && l[x1].2 == l[x2].2)=true:=by simp [hq]
       simp [C.spec_IsTriangulation,gM_0 h1,gM_1 h1,h1,gM_0 h2l,gM_1 h2l,h2l,hb,hq.1,hq.2]
       repeat' first
        | (refine cast (congrArg K ?_) hJ;simp [hq.1,hq.2];done)
        | refine And.intro ?_ ?_
      ·have hb:(l[x1].1 == l[x2].1 && l[x1].2 == l[x2].2)=false:=by
        simp only [Bool.and_eq_false_iff,beq_eq_false_iff_ne]
        omega
       simp [C.spec_IsTriangulation,gM_0 h1,gM_1 h1,h1,gM_0 h2l,gM_1 h2l,h2l,hb]
       repeat' first
        | (refine wcall1 hcr ?_ (by simp) ?_;(focus (simp;done));simp [C.spec_IsTriangulation,hb])
        | (refine cast (congrArg K ?_) hJ;simp [hq];done)
        | refine And.intro ?_ ?_
     ·have h2:x2=x1:=by have:=d_f hc4;omega
      have hnx:GdT v (l.take (x1+1)):=by
       rw [List.take_succ_eq_append_getElem h1,gdT_snoc]
       rw [h2] at hjn
       exact ⟨hg,hdg,hjn⟩
      refine wexit ?_
      show AWp _ _ _ _ _
      refine wreg fun K hK=>?_
      simp [C.spec_IsTriangulation,wrap_succ (show x1 < 4611686018427387904 by omega)]
      refine hK _ ?_;clear hK K
      simp [C.spec_IsTriangulation]
      exact hR1 (x1+1) ⟨h1,hnx⟩ (by omega)
   ·have h1:x1=l.length:=by have:=d_f hc2;omega
    have hyes:TriI v l:=by
     rw [h1,List.take_length] at hg
     exact ⟨hr.1,hr.2,hg.1,hg.2⟩
    refine wexit ?_
    show AWp _ _ _ _ _
    refine wseq ?_
    refine wreg fun K hK=>?_
    simp [C.spec_IsTriangulation]
    refine hK _ ?_;clear hK K
    show AWp _ _ _ _ _
    refine wret ?_
    simp [C.spec_IsTriangulation,hyes]
 clear hK
 by_cases h1:4<=v/\v<=8
 ·have hw:IntKind.i64.wrap (v - 3)=v - 3:=wrapOk (by omega) (by omega)
  refine oSg fun L hL=>?_
  simp [C.spec_IsTriangulation,hw,h1]
  refine wcall1 (spec_l5Polygon_c v) (by simp) (by simp) ?_
  simp [C.spec_IsTriangulation,hw,h1]
  refine hL _ ?_;clear hL L
  refine oEn fun L hL=>?_
  simp [C.spec_IsTriangulation,hw,h1]
  refine hL _ ?_;clear hL L
  simp [C.spec_IsTriangulation,hw,h1]
  refine cast (congrArg K ?_) hJ
  simp [ibne,h1,h1]
 ·refine oSg fun L hL=>?_
  simp [C.spec_IsTriangulation,h1]
  refine wcall1 (spec_l5Polygon_c v) (by simp) (by simp) ?_
  simp [C.spec_IsTriangulation,h1]
  refine hL _ ?_;clear hL L
  refine oEn fun L hL=>?_
  simp [C.spec_IsTriangulation,h1]
  refine hL _ ?_;clear hL L
  simp [C.spec_IsTriangulation,h1]
  refine cast (congrArg K ?_) hJ
  simp [ibne,h1,h1]
def tcon (v:Nat) (l:List Dg) (a b c:Nat):Bool:=Nat.blt a b && (Nat.blt b c && (knD v l (a,b) && (knD v l (b,c) && knD v l (a,c))))
def trC (v:Nat) (l:List Dg) (a b c:Nat):List N3:=((List.range c).filter (tcon v l a b)).map fun c'=>(a,b,c')
def trB (v:Nat) (l:List Dg) (a b:Nat):List N3:=(List.range b).flatMap fun b'=>trC v l a b' v
def trA (v:Nat) (l:List Dg) (a:Nat):List N3:=(List.range a).flatMap fun a'=>trB v l a' v
theorem trA_all (v:Nat) (l:List Dg):trA v l v=tris v l:=rfl
theorem trC_succ (v:Nat) (l:List Dg) (a b c:Nat):trC v l a b (c+1)=if tcon v l a b c=true then trC v l a b c ++ [(a,b,c)] else trC v l a b c:=by
 unfold trC
 rw [List.range_succ,List.filter_append,List.map_append]
 by_cases h:tcon v l a b c=true
 ·simp [h]
 ·simp [h]
theorem trB_succ (v:Nat) (l:List Dg) (a b:Nat):trB v l a (b+1)=trB v l a b ++ trC v l a b v:=by
 unfold trB
 rw [List.range_succ,List.flatMap_append]
 simp
theorem trA_succ (v:Nat) (l:List Dg) (a:Nat):trA v l (a+1)=trA v l a ++ trB v l a v:=by
 unfold trA
 rw [List.range_succ,List.flatMap_append]
 simp
theorem trC_low {v:Nat} {l:List Dg} {a b c:Nat} (h:c<=b+1\/b<=a):trC v l a b c=[]:=by
 unfold trC
 rw [List.map_eq_nil_iff,List.filter_eq_nil_iff]
 intro x hx
 rw [List.mem_range] at hx
 simp only [tcon,Bool.and_eq_true,Nat.blt_eq]
 omega
theorem trB_low {v:Nat} {l:List Dg} {a b:Nat} (h:b<=a+1):trB v l a b=[]:=by
 unfold trB
 rw [List.flatMap_eq_nil_iff]
 intro x hx
 rw [List.mem_range] at hx
 exact trC_low (.inr (by omega))
def ls3 (v:Nat) (l:List Dg) (a b c:Nat):List N3:=trA v l a ++ trB v l a b ++ trC v l a b c
theorem ls3_succ (v:Nat) (l:List Dg) (a b c:Nat):ls3 v l a b (c+1)=if tcon v l a b c=true then ls3 v l a b c ++ [(a,b,c)] else ls3 v l a b c:=by
 unfold ls3
 rw [trC_succ]
 split
 ·simp only [List.append_assoc]
 ·rfl
theorem trC_len (v:Nat) (l:List Dg) (a b c:Nat):(trC v l a b c).length<=c:=by
 unfold trC
 rw [List.length_map]
 exact Nat.le_trans (List.length_filter_le _ _) (by simp)
theorem trB_len (v:Nat) (l:List Dg) (a b:Nat):(trB v l a b).length<=b*v:=by
 induction b with
 | zero=>simp [trB]
 | succ b ih=>
  rw [trB_succ,List.length_append,Nat.succ_mul]
  have:=trC_len v l a b v
  omega
theorem trA_len (v:Nat) (l:List Dg) (a:Nat):(trA v l a).length<=a*(v*v):=by
 induction a with
 | zero=>simp [trA]
 | succ a ih=>
  rw [trA_succ,List.length_append,Nat.succ_mul]
  have:=trB_len v l a v
  omega
def t3L (t:N3):List Int:=[(t.1:Int),(t.2.1:Int),(t.2.2:Int)]
theorem t3_snoc (T:List N3) (a b c:Nat):rows lO (T.map t3L) ++ [D.ow 1 3 [D.v (.int .i64 a),D.v (.int .i64 b),D.v (.int .i64 c)]]=rows lO ((T ++ [(a,b,c)]).map t3L):=by
 rw [List.map_append,rows_append]
 simp [rows,lO,t3L,owI,ints]
theorem spec_l5Triangles_c (v:Nat) (l:List Dg) (hv:v<=8/\4<=v) (hl:l.length<=8):ACalls Try.prog F.spec_l5Triangles [.int v,.d (.sh 2 l.length (rows gM (l.map dgI)))] [] true (fun outs res=>outs=[]/\res=[.one (.ow 1 (tris v l).length (rows lO ((tris v l).map t3L)))]):=by
 refine ACalls.of_body (C:=C.spec_l5Triangles) (n:=Try.f158.ntmps) tabT folT Try.func158 rfl (by kernel_rfl) rfl (Nat.le_of_ble_eq_true rfl) (by decide) (by kernel_rfl) (by kernel_rfl) rfl (by simp) (by simp) ?_
 simp only [Try.f158]
 refine wseq ?_
 refine wreg fun K hK=>?_
 simp [C.spec_l5Triangles]
 refine hK _ ?_;clear hK K
 show AWp _ _ _ _ _
 refine wseq ?_
 refine wreg fun K hK=>?_
 simp [C.spec_l5Triangles]
 refine hK _ ?_;clear hK K
 show AWp _ _ _ _ _
 refine wseq ?_
 refine wseq ?_
 refine wreg fun K hK=>?_
 simp [C.spec_l5Triangles]
 refine hK _ ?_;clear hK K
 show AWp _ _ _ _ _
 refine wblock ?_
 refine wloop (fun a:Nat=>⟨ofL [(0,.int v),(1,.d (.sh 2 l.length (rows gM (l.map dgI)))),(5,.al (5,0) [] 0 (trA v l a).length),(6,.int a)],ofRO [((5,0),some (.ow 1 (trA v l a).length (rows lO ((trA v l a).map t3L))))]⟩) (fun a=>a<=v) (fun a=>v - a) 0 (by simp [C.spec_l5Triangles,rows,trA]) (by simp) ?_
 intro x1 hx1 R1 hR1
 refine wseq ?_
 refine wseq ?_
 refine wreg fun K hK=>?_
 simp [C.spec_l5Triangles]
 refine hK _ ?_;clear hK K
 show AWp _ _ _ _ _
 refine wcond _ rfl (fun hc1=>?_) (fun hc1=>?_)
 ·have h1:x1 < v:=by have:=d_t hc1;omega
  have hA:=trA_len v l x1
  have hA2:x1*(v*v)<=8*(8*8):=Nat.mul_le_mul (by omega) (Nat.mul_le_mul hv.1 hv.1)
  refine wskip ?_
  show AWp _ _ _ _ _
  refine wseq ?_
  refine wblock ?_
  refine wseq ?_
  refine wreg fun K hK=>?_
  simp [C.spec_l5Triangles,wrap_succ (show x1 < 4611686018427387904 by omega)]
  refine hK _ ?_;clear hK K
  show AWp _ _ _ _ _
  refine wblock ?_
  refine wloop (fun b:Nat=>⟨ofL [(0,.int v),(1,.d (.sh 2 l.length (rows gM (l.map dgI)))),(5,.al (5,0) [] 0 (ls3 v l x1 b 0).length),(6,.int x1),(7,.int b)],ofRO [((5,0),some (.ow 1 (ls3 v l x1 b 0).length (rows lO ((ls3 v l x1 b 0).map t3L))))]⟩) (fun b=>x1+1<=b/\b<=v) (fun b=>v - b) (x1+1) (by simp [C.spec_l5Triangles,ls3,trB_low,trC]) ⟨by omega,by omega⟩ ?_
  intro x2 hx2 R2 hR2
  refine wseq ?_
  refine wseq ?_
  refine wreg fun K hK=>?_
  simp [C.spec_l5Triangles]
  refine hK _ ?_;clear hK K
  show AWp _ _ _ _ _
  refine wcond _ rfl (fun hc2=>?_) (fun hc2=>?_)
  ·have h2:x2 < v:=by have:=d_t hc2;omega
   have hB:=trB_len v l x1 x2
   have hB2:x2*v<=8*8:=Nat.mul_le_mul (by omega) hv.1
   have hst3:ls3 v l x1 x2 (x2+1)=ls3 v l x1 x2 0:=by
    unfold ls3
    rw [trC_low (.inl (Nat.le_refl _)),show trC v l x1 x2 0=[] from rfl]
   refine wskip ?_
   show AWp _ _ _ _ _
   refine wseq ?_
   refine wblock ?_
   refine wseq ?_
   refine wreg fun K hK=>?_
   simp [C.spec_l5Triangles,wrap_succ (show x2 < 4611686018427387904 by omega)]
   refine hK _ ?_;clear hK K
   show AWp _ _ _ _ _
   refine wblock ?_
   refine wloop (fun c:Nat=>⟨ofL [(0,.int v),(1,.d (.sh 2 l.length (rows gM (l.map dgI)))),(5,.al (5,0) [] 0 (ls3 v l x1 x2 c).length),(6,.int x1),(7,.int x2),(8,.int c)],ofRO [((5,0),some (.ow 1 (ls3 v l x1 x2 c).length (rows lO ((ls3 v l x1 x2 c).map t3L))))]⟩) (fun c=>x2+1<=c/\c<=v) (fun c=>v - c) (x2+1) (by simp [C.spec_l5Triangles,hst3]) ⟨by omega,by omega⟩ ?_
   intro x3 hx3 R3 hR3
   refine wseq ?_
   refine wseq ?_
   refine wreg fun K hK=>?_
   simp [C.spec_l5Triangles]
   refine hK _ ?_;clear hK K
   show AWp _ _ _ _ _
   refine wcond _ rfl (fun hc3=>?_) (fun hc3=>?_)
   ·have h3:x3 < v:=by have:=d_t hc3;omega
    have hC:=trC_len v l x1 x2 x3
    have hlen:(ls3 v l x1 x2 x3).length<=600:=by unfold ls3;rw [List.length_append,List.length_append];omega
    have hsu:=ls3_succ v l x1 x2 x3
    obtain ⟨Q,hQ⟩:∃ Q,Q=ls3 v l x1 x2 x3:=⟨_,rfl⟩
    rw [<-hQ] at hlen hsu
    rw [<-hQ]
    have s1:=spec_l5Side_c v l x1 x2 hv (by omega) (by omega) hl
    have s2:=spec_l5Side_c v l x2 x3 hv (by omega) (by omega) hl
    have s3:=spec_l5Side_c v l x1 x3 hv (by omega) (by omega) hl
    have k1:=@sideF_kn v l x1 x2
    have k2:=@sideF_kn v l x2 x3
    have k3:=@sideF_kn v l x1 x3
    have htc:tcon v l x1 x2 x3=decide ((-2 < sideF v l x1 x2/\-2 < sideF v l x2 x3)/\-2 < sideF v l x1 x3):=by
     unfold tcon
     rw [<-k1,<-k2,<-k3,Bool.eq_iff_iff]
     simp only [Bool.and_eq_true,Nat.blt_eq,decide_eq_true_eq]
     omega
    refine wskip ?_
    show AWp _ _ _ _ _
    refine wseq ?_
    refine wblock ?_
    refine wseq ?_
    refine wregI ([0,1,2,3,4] ++ ([5,6,7,8,9,10,11] ++ ([12,13,14,15,16,17,18,19] ++ ([20,21])))) rfl fun K hK=>?_
    have hJ:K ⟨ofL [(0,.int v),(1,.d (.sh 2 l.length (rows gM (l.map dgI)))),(5,.al (5,0) [] 0 Q.length),(6,.int x1),(7,.int x2),(8,.int x3),(50,.bool (decide ((-2 < sideF v l x1 x2/\-2 < sideF v l x2 x3)/\-2 < sideF v l x1 x3)))],ofRO [((5,0),some (.ow 1 Q.length (rows lO (Q.map t3L))))]⟩:=by
     refine hK _ ?_;clear hK K
     show AWp _ _ _ _ _
     refine wcond _ rfl (fun hc4=>?_) (fun hc4=>?_)
     ·have ht:tcon v l x1 x2 x3=true:=by rw [htc];exact hc4
      rw [if_pos ht] at hsu
      have hsn:=t3_snoc Q x1 x2 x3
      refine wreg fun K hK=>?_
      simp [C.spec_l5Triangles,show (Q.length+1)*24<=140737488355328 by omega,hsn]
      refine hK _ ?_;clear hK K
      show AWp _ _ _ _ _
      refine wreg fun K hK=>?_
      simp [C.spec_l5Triangles,wrap_succ (show x3 < 4611686018427387904 by omega)]
      refine hK _ ?_;clear hK K
      simp [C.spec_l5Triangles]
      refine cast (congrArg R3 ?_) (hR3 (x3+1) ⟨by omega,h3⟩ (by omega))
      rw [hsu]
      simp
     ·have ht:¬ tcon v l x1 x2 x3=true:=by rw [htc];simpa using hc4
      rw [if_neg ht] at hsu
      refine wskip ?_
      show AWp _ _ _ _ _
      refine wreg fun K hK=>?_
      simp [C.spec_l5Triangles,wrap_succ (show x3 < 4611686018427387904 by omega)]
      refine hK _ ?_;clear hK K
      simp [C.spec_l5Triangles]
      refine cast (congrArg R3 ?_) (hR3 (x3+1) ⟨by omega,h3⟩ (by omega))
      rw [hsu]
      simp
    clear hK
    by_cases g1:-2 < sideF v l x1 x2
    ·by_cases g2:-2 < sideF v l x2 x3
     ·refine oSg fun L hL=>?_
      simp [C.spec_l5Triangles,g1,g2]
      refine wcall1 (s1) (by simp) (by simp) ?_
      simp [C.spec_l5Triangles,g1,g2]
      refine hL _ ?_;clear hL L
      refine oSg fun L hL=>?_
      simp [C.spec_l5Triangles,g1,g2]
      refine wcall1 (s2) (by simp) (by simp) ?_
      simp [C.spec_l5Triangles,g1,g2]
      refine hL _ ?_;clear hL L
      refine oSg fun L hL=>?_
      simp [C.spec_l5Triangles,g1,g2]
      refine wcall1 (s3) (by simp) (by simp) ?_
      simp [C.spec_l5Triangles,g1,g2]
      refine hL _ ?_;clear hL L
      refine oEn fun L hL=>?_
      simp [C.spec_l5Triangles,g1,g2]
      refine hL _ ?_;clear hL L
      simp [C.spec_l5Triangles,g1,g2]
      refine cast (congrArg K ?_) hJ
      simp [g1,g2,g1,g2]
     ·refine oSg fun L hL=>?_
      simp [C.spec_l5Triangles,g1,g2]
      refine wcall1 (s1) (by simp) (by simp) ?_
      simp [C.spec_l5Triangles,g1,g2]
      refine hL _ ?_;clear hL L
      refine oSg fun L hL=>?_
      simp [C.spec_l5Triangles,g1,g2]
      refine wcall1 (s2) (by simp) (by simp) ?_
      simp [C.spec_l5Triangles,g1,g2]
      refine hL _ ?_;clear hL L
      refine oSg fun L hL=>?_
      simp [C.spec_l5Triangles,g1,g2]
      refine hL _ ?_;clear hL L
      refine oEn fun L hL=>?_
      simp [C.spec_l5Triangles,g1,g2]
      refine hL _ ?_;clear hL L
      simp [C.spec_l5Triangles,g1,g2]
      refine cast (congrArg K ?_) hJ
      simp [g1,g2,g1,g2]
    ·refine oSg fun L hL=>?_
     simp [C.spec_l5Triangles,g1]
     refine wcall1 (s1) (by simp) (by simp) ?_
     simp [C.spec_l5Triangles,g1]
     refine hL _ ?_;clear hL L
     refine oSg fun L hL=>?_
     simp [C.spec_l5Triangles,g1]
     refine hL _ ?_;clear hL L
     refine oSg fun L hL=>?_
     simp [C.spec_l5Triangles,g1]
     refine hL _ ?_;clear hL L
     refine oEn fun L hL=>?_
     simp [C.spec_l5Triangles,g1]
     refine hL _ ?_;clear hL L
     simp [C.spec_l5Triangles,g1]
     refine cast (congrArg K ?_) hJ
     simp [g1,g1]
   ·have h3:x3=v:=by have:=d_f hc3;omega
    have he:ls3 v l x1 x2 x3=ls3 v l x1 (x2+1) 0:=by
     unfold ls3
     rw [trB_succ,h3,show trC v l x1 (x2+1) 0=[] from rfl,List.append_nil,List.append_assoc]
    refine wexit ?_
    show AWp _ _ _ _ _
    refine wreg fun K hK=>?_
    simp [C.spec_l5Triangles,wrap_succ (show x2 < 4611686018427387904 by omega)]
    refine hK _ ?_;clear hK K
    simp [C.spec_l5Triangles]
    refine cast (congrArg R2 ?_) (hR2 (x2+1) ⟨by omega,h2⟩ (by omega))
    rw [he]
    simp
  ·have h2:x2=v:=by have:=d_f hc2;omega
   have he:ls3 v l x1 x2 0=trA v l (x1+1):=by
    unfold ls3
    rw [trA_succ,h2,show trC v l x1 v 0=[] from rfl,List.append_nil]
   refine wexit ?_
   show AWp _ _ _ _ _
   refine wreg fun K hK=>?_
   simp [C.spec_l5Triangles,wrap_succ (show x1 < 4611686018427387904 by omega)]
   refine hK _ ?_;clear hK K
   simp [C.spec_l5Triangles]
   refine cast (congrArg R1 ?_) (hR1 (x1+1) h1 (by omega))
   rw [he]
   simp
 ·have h1:x1=v:=by have:=d_f hc1;omega
  refine wexit ?_
  show AWp _ _ _ _ _
  refine wseq ?_
  refine wreg fun K hK=>?_
  simp [C.spec_l5Triangles]
  refine hK _ ?_;clear hK K
  show AWp _ _ _ _ _
  refine wret ?_
  simp [C.spec_l5Triangles]
  rw [h1,trA_all]
  exact ⟨rfl,rfl⟩
theorem spec_l5Length_c (v:Nat) (l:List Dg) (a b:Nat) (hT:Tri v l) (ha:a < v) (hb:b < v):ACalls Try.prog F.spec_l5Length [.int v,.d (.sh 2 l.length (rows gM (l.map dgI))),.int a,.int b] [] true (fun outs res=>outs=[]/\res=[.one (.ow 2 1 [D.int (keyA 0 (expD v l (srt a b))),D.int 1])]):=by
 have hv:=hT.vb
 have hll:=hT.len
 have hw3:IntKind.i64.wrap ((v:Int) - 3)=((v - 3:Nat):Int):=by rw [wrapOk (by omega) (by omega)];omega
 have hmin:min (a:Int) b=((min a b:Nat):Int):=by omega
 have hmax:max (a:Int) b=((max a b:Nat):Int):=by omega
 have hsr:srt a b=(min a b,max a b):=by
  have:=srt_min a b
  unfold dgI at this
  injection this with h1 h2
  exact Prod.ext (by omega) (by omega)
 have hS:=spec_l5Side_c v l (min a b) (max a b) ⟨hv.2,hv.1⟩ (by omega) (by omega) (by omega)
 have hE:expD v l (srt a b)=match sideF v l (min a b) (max a b) with
  | .ofNat k=>unitL (v - 3) k
  | _=>List.replicate (v - 3) 0:=by
  rw [hsr]
  unfold expD sideF
  have hs:sd v (min a b,max a b)=decide (max a b=min a b+1\/(min a b=0/\max a b+1=v)):=by
   rw [Bool.eq_iff_iff]
   simp only [sd,Bool.or_eq_true,Bool.and_eq_true,Nat.beq_eq,decide_eq_true_eq]
   omega
  rw [hs]
  by_cases h:max a b=min a b+1\/(min a b=0/\max a b+1=v)
  ·rw [if_pos h,if_pos (decide_eq_true h)]
   rfl
  ·rw [if_neg h,if_neg (by simpa using h)]
   cases l.findIdx? (dgq (min a b,max a b)) <;> rfl
 have hSb:sideF v l (min a b) (max a b) < (l.length:Int):=by
  unfold sideF
  split
  ·omega
  ·split
   ·rename_i k hk
    obtain ⟨h1,-⟩:=List.findIdx?_eq_some_iff_getElem.1 hk
    omega
   ·omega
 obtain ⟨E,hEe⟩:∃ E,E=expD v l (srt a b):=⟨_,rfl⟩
 rw [<-hEe] at hE
 rw [<-hEe]
 have hEd:Dig E/\E.length=v - 3:=by
  rw [hE]
  split
  ·exact ⟨fun x hx=>by have:=(unitL_bd (n:=v - 3)).2 x hx;omega,(unitL_bd (n:=v - 3)).1⟩
  ·exact ⟨dig_rep _,by simp⟩
 have hKey:=spec_l2Key_c E hEd.1 (by omega)
 obtain ⟨S,hSe⟩:∃ S,S=sideF v l (min a b) (max a b):=⟨_,rfl⟩
 rw [<-hSe] at hS hE hSb
 refine ACalls.of_body (C:=C.spec_l5Length) (n:=Try.f159.ntmps) tabT folT Try.func159 rfl (by kernel_rfl) rfl (Nat.le_of_ble_eq_true rfl) (by decide) (by kernel_rfl) (by kernel_rfl) rfl (by simp) (by simp) ?_
 simp only [Try.f159]
 refine wseq ?_
 refine wreg fun K hK=>?_
 simp [C.spec_l5Length]
 refine hK _ ?_;clear hK K
 show AWp _ _ _ _ _
 refine wseq ?_
 refine wregI ([0,1,2,3,4,5,6,7,8] ++ ([9])) rfl fun K hK=>?_
 refine oSg fun L hL=>?_
 simp [C.spec_l5Length,hmin,hmax]
 refine wcall1 (hS) (by simp) (by simp) ?_
 simp [C.spec_l5Length,hmin,hmax]
 refine hL _ ?_;clear hL L
 refine oEn fun L hL=>?_
 simp [C.spec_l5Length,hmin,hmax]
 refine hL _ ?_;clear hL L
 simp [C.spec_l5Length,hmin,hmax]
 refine hK _ ?_;clear hK K
 show AWp _ _ _ _ _
 refine wseq ?_
 refine wreg fun K hK=>?_
 simp [C.spec_l5Length,hw3,zeros_ints,show (8:Int)*(v - 3:Nat)<=281474976710656 by omega,show ((v - 3:Nat):Int)<=281474976710656 by omega]
 refine hK _ ?_;clear hK K
 show AWp _ _ _ _ _
 refine wseq ?_
 refine wseq ?_
 refine wreg fun K hK=>?_
 simp [C.spec_l5Length]
 refine hK _ ?_;clear hK K
 show AWp _ _ _ _ _
 refine wcond _ rfl (fun hc1=>?_) (fun hc1=>?_)
 ·obtain ⟨k,rfl⟩:∃ k:Nat,S=k:=⟨S.toNat,by have:=d_t hc1;omega⟩
  have hk3:k < v - 3:=by omega
  have hEk:(List.replicate (v - 3) 0).set k 1=E:=hE.symm
  refine wreg fun K hK=>?_
  simp [C.spec_l5Length,show (k:Int) < ((v - 3:Nat):Int) by omega,hk3,hEk]
  refine hK _ ?_;clear hK K
  show AWp _ _ _ _ _
  refine wseq ?_
  refine wregI ([0,1] ++ ([2,3,4])) rfl fun K hK=>?_
  refine oSg fun L hL=>?_
  simp [C.spec_l5Length,hEd.2]
  refine wcall1 (hKey) (by simp [hEd.2]) (by simp) ?_
  simp [C.spec_l5Length,hEd.2]
  refine hL _ ?_;clear hL L
  refine oEn fun L hL=>?_
  simp [C.spec_l5Length,hEd.2]
  refine hL _ ?_;clear hL L
  simp [C.spec_l5Length,hEd.2]
  refine hK _ ?_;clear hK K
  show AWp _ _ _ _ _
  refine wret ?_
  simp [C.spec_l5Length]
 ·have hEr:List.replicate (v - 3) 0=E:=by
   rw [hE]
   cases S with
   | ofNat k=>
    have:=of_decide_eq_false hc1
    exact absurd (Int.natCast_nonneg k) this
   | negSucc n=>rfl
  rw [hEr]
  refine wskip ?_
  show AWp _ _ _ _ _
  refine wseq ?_
  refine wregI ([0,1] ++ ([2,3,4])) rfl fun K hK=>?_
  refine oSg fun L hL=>?_
  simp [C.spec_l5Length,hEd.2]
  refine wcall1 (hKey) (by simp [hEd.2]) (by simp) ?_
  simp [C.spec_l5Length,hEd.2]
  refine hL _ ?_;clear hL L
  refine oEn fun L hL=>?_
  simp [C.spec_l5Length,hEd.2]
  refine hL _ ?_;clear hL L
  simp [C.spec_l5Length,hEd.2]
  refine hK _ ?_;clear hK K
  show AWp _ _ _ _ _
  refine wret ?_
  simp [C.spec_l5Length]
end Go.Proofs.Ytfcgcgmleogamaa.Ab
namespace Go.Proofs.Ytfcgcgmleogamaa.Ab
open Go
set_option maxRecDepth 10000
set_option maxHeartbeats 4000000
def replE (t:Nat) (f:FV):List (Nat×FV)->List (Nat×FV)
 | []=>[(t,f)]
 | (i,g) :: r=>if i=t then (i,f) :: r else (i,g) :: replE t f r
theorem upd_ofL (t:Nat) (f:FV):∀ l:List (Nat×FV),upd (ofL l) t f=ofL (replE t f l)
 | []=>by
  funext s
  simp only [upd,replE,ofL]
  by_cases h:s=t
  ·simp [h]
  ·simp [h,Ne.symm h]
 | (i,g) :: r=>by
  have ih:=upd_ofL t f r
  funext s
  have h2:=congrFun ih s
  simp only [upd] at h2 ⊢
  by_cases h:i=t
  ·subst h
   simp only [replE,if_pos,ofL]
   by_cases hs:s=i
   ·simp [hs]
   ·simp [hs,Ne.symm hs]
  ·simp only [replE,if_neg h,ofL]
   rw [<-h2]
   by_cases hs:s=t
   ·subst hs
    simp [h]
   ·simp [hs]
def killL (r:Rn) (p:List Nat):List (Nat×FV)->List (Nat×FV)
 | []=>[]
 | (i,f) :: l=>(i,if f.under r p=true then .dead else f) :: killL r p l
def deepL' (r:Rn) (p:List Nat):List (Nat×FV)->List (Nat×FV)
 | []=>[]
 | (i,f) :: l=>(i,if f.deep r p=true then .dead else f) :: deepL' r p l
def killE (r:Rn) (p:List Nat) (e:Nat->FV):Nat->FV:=fun t=>if (e t).under r p=true then .dead else e t
def deepE (r:Rn) (p:List Nat) (e:Nat->FV):Nat->FV:=fun t=>if (e t).deep r p=true then .dead else e t
theorem kill_env (σ:St) (r:Rn) (p:List Nat):(St.kill σ r p).env=killE r p σ.env:=rfl
theorem kill_rts (σ:St) (r:Rn) (p:List Nat):(St.kill σ r p).rts=σ.rts:=rfl
theorem deep_env (σ:St) (r:Rn) (p:List Nat):(St.killBelow σ r p).env=deepE r p σ.env:=rfl
theorem deep_rts (σ:St) (r:Rn) (p:List Nat):(St.killBelow σ r p).rts=σ.rts:=rfl
theorem take_env (σ:St) (r:Rn):(St.take σ r []).env=σ.env:=rfl
theorem put_env (σ:St) (r:Rn) (p:List Nat) (e:D):(St.put σ r p e).env=σ.env:=by
 unfold St.put
 split <;> rfl
theorem killE_at (r:Rn) (p:List Nat) (e:Nat->FV) (t:Nat):killE r p e t=if (e t).under r p=true then .dead else e t:=rfl
theorem deepE_at (r:Rn) (p:List Nat) (e:Nat->FV) (t:Nat):deepE r p e t=if (e t).deep r p=true then .dead else e t:=rfl
theorem killE_ofL (r:Rn) (p:List Nat) (l:List (Nat×FV)):killE r p (ofL l)=ofL (killL r p l):=by
 funext t
 unfold killE
 induction l with
 | nil=>simp [ofL,killL,FV.under]
 | cons x l ih=>
  obtain ⟨i,f⟩:=x
  simp only [ofL,killL] at ih ⊢
  by_cases h:i=t
  ·simp only [if_pos h]
  ·simp only [if_neg h]
   exact ih
theorem deepE_ofL (r:Rn) (p:List Nat) (l:List (Nat×FV)):deepE r p (ofL l)=ofL (deepL' r p l):=by
 funext t
 unfold deepE
 induction l with
 | nil=>simp [ofL,deepL',FV.deep]
 | cons x l ih=>
  obtain ⟨i,f⟩:=x
  simp only [ofL,deepL'] at ih ⊢
  by_cases h:i=t
  ·simp only [if_pos h]
  ·simp only [if_neg h]
   exact ih
attribute [local simp ↓] kill_env kill_rts deep_env deep_rts take_env put_env
attribute [local simp high] upd_ofL
attribute [local simp] replE killL deepL' killE_ofL deepE_ofL killE_at deepE_at
end Go.Proofs.Ytfcgcgmleogamaa.Ab
namespace Go.Proofs.Ytfcgcgmleogamaa.Ab
open Go
def ValOk (f:Lau) (ys:List Int):Prop:=Right f/\(ys.length:Int)=f.v/\∀ y∈ys,y % 32003≠0
noncomputable instance (f:Lau) (ys:List Int):Decidable (ValOk f ys):=Classical.propDecidable _
end Go.Proofs.Ytfcgcgmleogamaa.Ab
namespace Go.Proofs.Ytfcgcgmleogamaa.Ab
open Go
set_option maxRecDepth 10000
set_option maxHeartbeats 2000000
end Go.Proofs.Ytfcgcgmleogamaa.Ab
namespace Go.Proofs.Ytfcgcgmleogamaa.Ab
open Go
theorem addE_comm1:∀ (a b:List Int),a.length=b.length->addE 1 a b=addE 1 b a
 | [],[],_=>rfl
 | x :: a,y :: b,h=>by
  simp only [addE,addE_comm1 a b (by simpa using h),Int.one_mul]
  rw [Int.add_comm]
theorem prodL_eq (a b:List (List Int×Int)):prodL a b=prodK (addE 1) a b:=rfl
theorem ring_com {n:Nat} {f g:Lau} (hf:∀ x∈f.ts.map pr,x.1.length=n) (hg:∀ x∈g.ts.map pr,x.1.length=n):nf lexlt (prodL (f.ts.map pr) (g.ts.map pr))=nf lexlt (prodL (g.ts.map pr) (f.ts.map pr)):=
 nf_vl lexOrd fun φ=>by
  rw [prodL_eq,prodL_eq]
  exact vl_prod_com (D:=fun e=>e.length=n) (fun a b h1 h2=>addE_comm1 a b (h1.trans h2.symm)) φ hf hg
theorem addE_zero1:∀ (n:Nat) (a:List Int),a.length=n->addE 1 (List.replicate n 0) a=a
 | 0,[],_=>rfl
 | n+1,x :: a,h=>by
  simp only [List.replicate_succ,addE,addE_zero1 n a (by simpa using h)]
  simp
theorem one_mul {n:Nat} {f:Lau} (hf:Right f) (hn:f.v=n):mulF (oneF n) f=(f,true)/\mulF f (oneF n)=(f,true):=by
 have hn8:1<=n/\n<=8:=by have:=hf.1;omega
 have h1:=oneF_right hn8
 have hl:∀ x∈f.ts.map pr,x.1.length=n:=fun x hx=>by
  obtain ⟨t,ht,rfl⟩:=List.mem_map.1 hx
  exact (right_dig hf hn t ht).1
 have h1l:∀ x∈(oneF n).ts.map pr,x.1.length=n:=fun x hx=>by
  simp only [oneF,List.map_cons,List.map_nil,List.mem_singleton] at hx
  subst hx
  simp [pr]
 have e:prodL ((oneF n).ts.map pr) (f.ts.map pr)=f.ts.map pr:=by
  simp only [oneF,List.map_cons,List.map_nil,prodL,List.flatMap_cons,List.flatMap_nil,List.append_nil]
  have:∀ l:List (List Int×Int),(∀ x∈l,x.1.length=n)->l.map (fun y=>(addE 1 (pr ⟨List.replicate n 0,1⟩).1 y.1,(pr ⟨List.replicate n 0,1⟩).2*y.2))=l:=fun l hl=>by
   refine (List.map_congr_left fun x hx=>?_).trans (List.map_id l)
   simp only [pr,addE_zero1 n x.1 (hl x hx),Int.one_mul,id]
  exact this _ hl
 have enf:nf lexlt (f.ts.map pr)=f.ts.map pr:=(nf_unique lexOrd (pr_desc hf) (pr_nz hf) fun k=>rfl).symm
 constructor
 ·unfold mulF
  rw [if_pos ⟨h1,hf,hn.symm⟩,e]
  unfold shutF
  rw [enf]
  have:(⟨(oneF n).v,(f.ts.map pr).map tm⟩:Lau)=f:=by
   rw [show (oneF n).v=f.v from hn.symm]
   exact lau_eta f
  rw [this,if_pos hf]
 ·unfold mulF
  rw [if_pos ⟨hf,h1,hn⟩]
  unfold shutF
  rw [ring_com hl h1l,e,enf,lau_eta,if_pos hf]
end Go.Proofs.Ytfcgcgmleogamaa.Ab
namespace Go.Proofs.Ytfcgcgmleogamaa.Ab
open Go
structure Bb (n E K:Nat) (l:LS):Prop where
 ex:ExB n E l
 ab:absK l<=K
 ln:l.length<=K
theorem Bb.mono {n E K E' K':Nat} {l:LS} (h:Bb n E K l) (h1:E<=E') (h2:K<=K'):Bb n E' K' l:=⟨h.ex.mono h1,Nat.le_trans h.ab h2,Nat.le_trans h.ln h2⟩
theorem Bb.nrm {n E K:Nat} {l:LS} (h:Bb n E K l):Bb n E K (nf lexlt l):=⟨h.ex.nf,Nat.le_trans (nf_abs (lt:=lexlt) l).1 h.ab,Nat.le_trans (nf_abs (lt:=lexlt) l).2 h.ln⟩
theorem Bb.prod {n E K E' K':Nat} {a b:LS} (ha:Bb n E K a) (hb:Bb n E' K' b):Bb n (E+E') (K*K') (prodL a b):=⟨ha.ex.prod hb.ex,by rw [absK_prod];exact Nat.mul_le_mul ha.ab hb.ab,by rw [prodL_len];exact Nat.mul_le_mul ha.ln hb.ln⟩
theorem Bb.add {n E K K':Nat} {a b:LS} (ha:Bb n E K a) (hb:Bb n E K' b):Bb n E (K+K') (a ++ b):=⟨ha.ex.app hb.ex,by rw [absK_app];exact Nat.add_le_add ha.ab hb.ab,by rw [List.length_append];exact Nat.add_le_add ha.ln hb.ln⟩
def scL (k:Int) (l:LS):LS:=l.map fun y=>(y.1,k*y.2)
theorem Bb.scale {n E K:Nat} {a:LS} (ha:Bb n E K a) {k:Int} (hk:k.natAbs=1):Bb n E K (scL k a):=⟨ha.ex.scale k,by unfold scL;rw [absK_neg,hk,Nat.one_mul];exact ha.ab,by unfold scL;rw [List.length_map];exact ha.ln⟩
theorem scL_kc (k:Int) (l:LS):(l.map kc).map (scM k)=(scL k l).map kc:=by
 unfold scL
 rw [List.map_map,List.map_map]
 rfl
theorem prodM_kc {n E F:Nat} {a b:LS} (ha:ExB n E a) (hb:ExB n F b):prodM (keyA 0 (List.replicate n 0)) (a.map kc) (b.map kc)=(prodL a b).map kc:=by
 unfold prodM prodL
 rw [List.map_flatMap,List.flatMap_map]
 refine flatMap_same _ fun t ht=>?_
 rw [List.map_map,List.map_map]
 refine List.map_congr_left fun u hu=>?_
 have a1:=(ha t ht).1
 have b1:=(hb u hu).1
 have:=keyA_add t.1 u.1 0 0 0 (by omega)
 rw [a1] at this
 simp only [Function.comp,pM,kc]
 rw [<-this]
 rfl
theorem timesK {n E F:Nat} {a b:LS} (ha:ExB n E a) (hb:ExB n F b) (h:E+F<=63):nf ilt (prodM (keyA 0 (List.replicate n 0)) (a.map kc) (b.map kc))=(nf lexlt (prodL a b)).map kc:=by
 rw [prodM_kc ha hb,nf_key _ ((ha.prod hb).dig h)]
theorem plusK {n E:Nat} {a b:LS} (ha:ExB n E a) (hb:ExB n E b) (k:Int) (h:E<=63):nf ilt (a.map kc ++ (b.map kc).map (scM k))=(nf lexlt (a ++ scL k b)).map kc:=by
 have he:Exps n (a ++ scL k b):=(ha.app (hb.scale k)).dig h
 rw [scL_kc,<-List.map_append,nf_key _ he]
theorem monK {n E K:Nat} (hn:n<=8) {l:LS} (h:Bb n E K l) (hE:E<=63) (hK:K<=1000000):MonOk (l.map kc):=fun x hx=>by
 obtain ⟨y,hy,rfl⟩:=List.mem_map.1 hx
 have h1:=h.ex y hy
 have h2:=absK_mem hy
 have h3:=h.ab
 have h4:=keyA_key (a:=y.1) (fun z hz=>by have:=h1.2 z hz;omega) (by omega)
 refine ⟨h4,?_⟩
 simp only [kc]
 omega
def negE (e:List Int):List Int:=e.map fun x=>-x
theorem addE_neg:∀ e:List Int,addE 1 e (negE e)=List.replicate e.length 0
 | []=>rfl
 | x :: e=>by
  have:=addE_neg e
  simp only [negE,List.map_cons,addE,List.length_cons,List.replicate_succ] at this ⊢
  rw [this]
  congr 1
  omega
theorem key_neg (e:List Int):keyA 0 (negE e)=2*keyA 0 (List.replicate e.length 0) - keyA 0 e:=by
 have:=keyA_add e (negE e) 0 0 0 (by simp [negE])
 rw [addE_neg,show (0:Int)+0 - 0=0 from rfl] at this
 omega
abbrev XY:=List (Option LS)×List (Option LS)
def gX (xs:List (Option LS)) (i:Nat):LS:=(xs.getD i none).getD []
def moL (v:Nat) (l:List Dg) (d:Dg):LS:=[(expD v l d,1)]
def inL (v:Nat) (l:List Dg) (d:Dg):LS:=[(negE (expD v l d),1)]
def aL (v:Nat) (l:List Dg) (d:Dg) (s:Nat):LS:=let A:=nf lexlt (prodL (moL v l (srt d.2 s)) (inL v l d));if d.2 < s then nf lexlt ([] ++ scL (-1) A) else A
def bL (v:Nat) (l:List Dg) (d:Dg) (s:Nat):LS:=let A:=nf lexlt (prodL (moL v l (srt d.1 s)) (inL v l d));if s < d.1 then nf lexlt ([] ++ scL (-1) A) else A
def newL (v:Nat) (l:List Dg) (d:Dg) (s:Nat) (xs:List (Option LS)):LS:=nf lexlt (nf lexlt (prodL (aL v l d s) (gX xs d.1)) ++ scL 1 (nf lexlt (prodL (bL v l d s) (gX xs d.2))))
def updX (v:Nat) (l:List Dg) (st:XY) (t:N3):XY:=(st.1.set t.1 (some (newL v l (srt t.2.1 t.2.2) t.1 st.1)),st.2.set t.1 (some (newL v l (srt t.2.1 t.2.2) t.1 st.2)))
theorem expD_bd (v:Nat) (l:List Dg) (d:Dg):(expD v l d).length=v - 3/\∀ y∈expD v l d,-((1:Nat):Int)<=y/\y<=(1:Nat):=by
 unfold expD
 split
 ·exact ⟨by simp,fun y hy=>by have:=List.eq_of_mem_replicate hy;omega⟩
 ·split
  ·exact unitL_bd
  ·exact ⟨by simp,fun y hy=>by have:=List.eq_of_mem_replicate hy;omega⟩
theorem moL_bb (v:Nat) (l:List Dg) (d:Dg):Bb (v - 3) 1 1 (moL v l d):=⟨fun x hx=>by
 unfold moL at hx
 rw [List.mem_singleton] at hx
 subst hx
 exact expD_bd v l d,by simp [moL,absK],by simp [moL]⟩
theorem inL_bb (v:Nat) (l:List Dg) (d:Dg):Bb (v - 3) 1 1 (inL v l d):=⟨fun x hx=>by
 unfold inL at hx
 rw [List.mem_singleton] at hx
 subst hx
 have h:=expD_bd v l d
 refine ⟨by simp [negE,h.1],fun y hy=>?_⟩
 simp only [negE,List.mem_map] at hy
 obtain ⟨z,hz,rfl⟩:=hy
 have:=h.2 z hz
 omega,by simp [inL,absK],by simp [inL]⟩
theorem sg_bb {n E K:Nat} {A:LS} (h:Bb n E K A) (c:Prop) [Decidable c]:Bb n E K (if c then nf lexlt ([] ++ scL (-1) A) else A):=by
 split
 ·rw [List.nil_append]
  exact (h.scale rfl).nrm
 ·exact h
theorem aL_bb (v:Nat) (l:List Dg) (d:Dg) (s:Nat):Bb (v - 3) 2 1 (aL v l d s):=sg_bb (((moL_bb v l _).prod (inL_bb v l d)).nrm) _
theorem bL_bb (v:Nat) (l:List Dg) (d:Dg) (s:Nat):Bb (v - 3) 2 1 (bL v l d s):=sg_bb (((moL_bb v l _).prod (inL_bb v l d)).nrm) _
theorem newL_bb {v:Nat} {l:List Dg} {d:Dg} {s E K:Nat} {xs:List (Option LS)} (h1:Bb (v - 3) E K (gX xs d.1)) (h2:Bb (v - 3) E K (gX xs d.2)):Bb (v - 3) (E+2) (2*K) (newL v l d s xs):=by
 have p:=((aL_bb v l d s).prod h1).nrm
 have q:=((bL_bb v l d s).prod h2).nrm
 have:=(p.add (q.scale (k:=1) rfl)).nrm
 exact this.mono (by omega) (by omega)
section
variable {v T:Nat} {l:List Dg}
theorem vT_nil (T n:Nat):vT T n []=0:=by
 unfold vT
 simp [eT,vl]
 grind
theorem vT_scL (T n:Nat) (k:Int) (L:LS):vT T n (scL k L)=(k:Rat)*vT T n L:=vT_scale T n k L
theorem vT_inL (hT:2<=T) (d:Dg):vT T (v - 3) (inL v l d)*lnT v l T d=1:=by
 have h:=vT_prod hT (inL_bb v l d).ex (moL_bb v l d).ex (by omega)
 have e:prodL (inL v l d) (moL v l d)=[(List.replicate (v - 3) 0,1)]:=by
  have hb:=(expD_bd v l d).1
  have hc:addE 1 (negE (expD v l d)) (expD v l d)=List.replicate (v - 3) 0:=by
   rw [addE_comm1 _ _ (by simp [negE]),addE_neg,hb]
  simp only [inL,moL,prodL,List.flatMap_cons,List.flatMap_nil,List.map_cons,List.map_nil,List.append_nil,hc]
  rfl
 rw [e] at h
 have h1:vT T (v - 3) [(List.replicate (v - 3) 0,(1:Int))]=1:=vT_oneF hT
 rw [h1] at h
 exact h.symm
theorem vT_sg (n:Nat) (A:LS) (c:Prop) [Decidable c]:vT T n (if c then nf lexlt ([] ++ scL (-1) A) else A)=vT T n A*(if c then -1 else 1):=by
 split
 ·rw [List.nil_append,vT_nf,vT_scL]
  have:(((-1:Int)):Rat)=-1:=by rfl
  rw [this]
  grind
 ·grind
theorem vT_aL (hT:2<=T) (d:Dg) (s:Nat):vT T (v - 3) (aL v l d s)=lnT v l T (srt d.2 s) / lnT v l T d*(if d.2 < s then -1 else 1):=by
 have h1:=vT_inL (v:=v) (l:=l) hT d
 have h2:lnT v l T d≠0:=vT_one hT _
 show vT T (v - 3) (if d.2 < s then nf lexlt ([] ++ scL (-1) (nf lexlt (prodL (moL v l (srt d.2 s)) (inL v l d)))) else nf lexlt (prodL (moL v l (srt d.2 s)) (inL v l d)))=_
 rw [vT_sg,vT_nf,vT_prod hT (moL_bb v l _).ex (inL_bb v l d).ex (by omega)]
 have h3:vT T (v - 3) (moL v l (srt d.2 s))=lnT v l T (srt d.2 s):=rfl
 rw [h3]
 generalize vT T (v - 3) (inL v l d)=I at *
 generalize lnT v l T d=D at *
 generalize (if d.2 < s then (-1:Rat) else 1)=S
 grind
theorem vT_bL (hT:2<=T) (d:Dg) (s:Nat):vT T (v - 3) (bL v l d s)=lnT v l T (srt d.1 s) / lnT v l T d*(if s < d.1 then -1 else 1):=by
 have h1:=vT_inL (v:=v) (l:=l) hT d
 have h2:lnT v l T d≠0:=vT_one hT _
 show vT T (v - 3) (if s < d.1 then nf lexlt ([] ++ scL (-1) (nf lexlt (prodL (moL v l (srt d.1 s)) (inL v l d)))) else nf lexlt (prodL (moL v l (srt d.1 s)) (inL v l d)))=_
 rw [vT_sg,vT_nf,vT_prod hT (moL_bb v l _).ex (inL_bb v l d).ex (by omega)]
 have h3:vT T (v - 3) (moL v l (srt d.1 s))=lnT v l T (srt d.1 s):=rfl
 rw [h3]
 generalize vT T (v - 3) (inL v l d)=I at *
 generalize lnT v l T d=D at *
 generalize (if s < d.1 then (-1:Rat) else 1)=S
 grind
structure XR (v:Nat) (l:List Dg) (T c:Nat) (st:XY) (X:Nat->V2):Prop where
 l1:st.1.length=v
 l2:st.2.length=v
 b1:∀ i,Bb (v - 3) (2*c) (2 ^ c) (gX st.1 i)
 b2:∀ i,Bb (v - 3) (2*c) (2 ^ c) (gX st.2 i)
 v1:∀ i,vT T (v - 3) (gX st.1 i)=(X i).1
 v2:∀ i,vT T (v - 3) (gX st.2 i)=(X i).2
theorem gX_set {xs:List (Option LS)} {s i:Nat} {L:LS} (h:s < xs.length):gX (xs.set s (some L)) i=if i=s then L else gX xs i:=by
 unfold gX
 rw [List.getD_eq_getElem?_getD,List.getElem?_set]
 by_cases e:s=i
 ·subst e
  simp [h]
 ·rw [if_neg e,if_neg (fun q=>e q.symm),<-List.getD_eq_getElem?_getD]
theorem vT_newL (hT:2<=T) {d:Dg} {s E K:Nat} {xs:List (Option LS)} (h1:Bb (v - 3) E K (gX xs d.1)) (h2:Bb (v - 3) E K (gX xs d.2)) (hE:E<=50) :
  vT T (v - 3) (newL v l d s xs)=lnT v l T (srt d.2 s) / lnT v l T d*(if d.2 < s then -1 else 1)*vT T (v - 3) (gX xs d.1)+lnT v l T (srt d.1 s) / lnT v l T d*(if s < d.1 then -1 else 1)*vT T (v - 3) (gX xs d.2):=by
 unfold newL
 rw [vT_nf,vT_app,vT_nf,vT_scL,vT_nf,vT_prod hT (aL_bb v l d s).ex h1.ex (by omega),vT_prod hT (bL_bb v l d s).ex h2.ex (by omega),vT_aL hT,vT_bL hT]
 have:((1:Int):Rat)=1:=by rfl
 rw [this]
 generalize lnT v l T (srt d.2 s) / lnT v l T d*(if d.2 < s then (-1:Rat) else 1)=A
 generalize lnT v l T (srt d.1 s) / lnT v l T d*(if s < d.1 then (-1:Rat) else 1)=B
 grind
theorem XR.step (hT:2<=T) {c:Nat} {st:XY} {X:Nat->V2} (h:XR v l T c st X) (hc:c<=8) {s p q:Nat} (hs:s < v):XR v l T (c+1) (updX v l st (s,p,q)) (updV (lnT v l T) X (s,p,q)):=by
 have m1:2*c<=2*(c+1):=by omega
 have m2:2 ^ c<=2 ^ (c+1):=Nat.pow_le_pow_right (by omega) (by omega)
 have e2:2*2 ^ c=2 ^ (c+1):=by rw [Nat.pow_succ,Nat.mul_comm]
 obtain ⟨d,hd⟩:∃ d,d=srt p q:=⟨_,rfl⟩
 have n1:=newL_bb (v:=v) (l:=l) (d:=d) (s:=s) (h.b1 d.1) (h.b1 d.2)
 have n2:=newL_bb (v:=v) (l:=l) (d:=d) (s:=s) (h.b2 d.1) (h.b2 d.2)
 have w1:=vT_newL (v:=v) (l:=l) (s:=s) hT (h.b1 d.1) (h.b1 d.2) (by omega)
 have w2:=vT_newL (v:=v) (l:=l) (s:=s) hT (h.b2 d.1) (h.b2 d.2) (by omega)
 refine ⟨by simp only [updX,List.length_set];exact h.l1,by simp only [updX,List.length_set];exact h.l2,fun i=>?_,fun i=>?_,fun i=>?_,fun i=>?_⟩
 ·simp only [updX]
  rw [gX_set (by rw [h.l1];exact hs),<-hd]
  split
  ·exact n1.mono (by omega) (by omega)
  ·exact (h.b1 i).mono m1 m2
 ·simp only [updX]
  rw [gX_set (by rw [h.l2];exact hs),<-hd]
  split
  ·exact n2.mono (by omega) (by omega)
  ·exact (h.b2 i).mono m1 m2
 ·simp only [updX,updV]
  rw [gX_set (by rw [h.l1];exact hs),<-hd]
  split
  ·rw [w1,h.v1,h.v1]
  ·exact h.v1 i
 ·simp only [updX,updV]
  rw [gX_set (by rw [h.l2];exact hs),<-hd]
  split
  ·rw [w2,h.v2,h.v2]
  ·exact h.v2 i
end
end Go.Proofs.Ytfcgcgmleogamaa.Ab
namespace Go.Proofs.Ytfcgcgmleogamaa.Ab
open Go
set_option maxRecDepth 10000
set_option maxHeartbeats 2000000
def SgM (m:Mat) (i j:Nat):Prop:=(0 < bM m i j↔bM m j i < 0)/\(bM m i j=0↔bM m j i=0)
def SzM (m:Mat):Prop:=ShM m/\∀ i j,i < m.n.toNat->j < m.n.toNat->SgM m i j
noncomputable instance (m:Mat):Decidable (SzM m):=Classical.propDecidable _
end Go.Proofs.Ytfcgcgmleogamaa.Ab
namespace Go.Proofs.Ytfcgcgmleogamaa.Ab
open Go
set_option maxRecDepth 10000
set_option maxHeartbeats 2000000
end Go.Proofs.Ytfcgcgmleogamaa.Ab
namespace Go.Proofs.Ytfcgcgmleogamaa.Ab
open Go
set_option maxRecDepth 10000
set_option maxHeartbeats 2000000
end Go.Proofs.Ytfcgcgmleogamaa.Ab
namespace Go.Proofs.Ytfcgcgmleogamaa.Ab
open Go
set_option maxRecDepth 10000
set_option maxHeartbeats 2000000
end Go.Proofs.Ytfcgcgmleogamaa.Ab
namespace Go.Proofs.Ytfcgcgmleogamaa.Ab
open Go
end Go.Proofs.Ytfcgcgmleogamaa.Ab
namespace Go.Proofs.Ytfcgcgmleogamaa.Ab
open Go
def zM:Mat:=⟨0,0,[]⟩
def idP (n i:Nat):List Int:=(List.range i).flatMap fun j=>unitL n j
theorem idP_succ (n i:Nat):idP n (i+1)=idP n i ++ unitL n i:=by simp [idP,List.range_succ]
@[simp] theorem idP_length (n:Nat):∀ i,(idP n i).length=i*n
 | 0=>by simp [idP]
 | i+1=>by rw [idP_succ,List.length_append,idP_length n i,unitL_length,Nat.add_mul,Nat.one_mul]
def SqOK (m:Mat):Prop:=MatOK m/\m.r=m.n/\2*m.n<=8
noncomputable instance (m:Mat):Decidable (SqOK m):=Classical.propDecidable _
noncomputable def fpL (m:Mat) (ws:List Mat) (ks:List Int):Nat->Option (List Lau)
 | 0=>some (List.replicate m.n.toNat (oneF m.n.toNat) ++ varsL m.n.toNat)
 | t+1=>match fpL m ws ks t with
  | some fs=>if (exF fs (colM (ws.getD t zM) (2*m.n.toNat) (ks.getD t 0).toNat) m.n.toNat (fs.getD (ks.getD t 0).toNat zeroF)).2=true then
    some (fs.set (ks.getD t 0).toNat (exF fs (colM (ws.getD t zM) (2*m.n.toNat) (ks.getD t 0).toNat) m.n.toNat (fs.getD (ks.getD t 0).toNat zeroF)).1) else none
  | none=>none
end Go.Proofs.Ytfcgcgmleogamaa.Ab
namespace Go.Proofs.Ytfcgcgmleogamaa.Ab
open Go
set_option maxRecDepth 10000
set_option maxHeartbeats 2000000
theorem mS_three (t:Mat):(mS t).length=3:=rfl
theorem mO_three (t:Mat):(mO t).length=3:=rfl
@[simp] theorem mS_length (l:List Mat):(rows mS l).length=3*l.length:=rows_length mS_three l
@[simp] theorem mO_length (l:List Mat):(rows mO l).length=3*l.length:=rows_length mO_three l
@[simp] theorem mO_noSh (l:List Mat):noShL (rows mO l):=rows_noSh (fun t=>by simp [mO,noShL,noSh]) l
@[simp] theorem mS_share (l:List Mat):shareL (rows mO l)=rows mS l:=by
 induction l with
 | nil=>rfl
 | cons x l ih=>simp [rows,mO,mS,shareL,share,ih]
@[simp] theorem mS_share2 (l:List Mat):shareL (rows mS l)=rows mS l:=by
 induction l with
 | nil=>rfl
 | cons x l ih=>simp [rows,mS,shareL,share,ih]
end Go.Proofs.Ytfcgcgmleogamaa.Ab
namespace Go.Proofs.Ytfcgcgmleogamaa.Ab
open Go
set_option maxRecDepth 10000
end Go.Proofs.Ytfcgcgmleogamaa.Ab
namespace Go.Proofs.Ytfcgcgmleogamaa.Ab
open Go
structure Qtm where
 e:List Int
 h:Int
 c:Int
deriving DecidableEq
structure Qsm where
 v:Int
 ts:List Qtm
deriving DecidableEq
def qtS (t:Qtm):List D:=[shI t.e,D.int t.h,D.int t.c]
def qtO (t:Qtm):List D:=[owI t.e,D.int t.h,D.int t.c]
theorem qtS_three (t:Qtm):(qtS t).length=3:=rfl
theorem qtO_three (t:Qtm):(qtO t).length=3:=rfl
@[simp] theorem qtS_length (l:List Qtm):(rows qtS l).length=3*l.length:=rows_length qtS_three l
@[simp] theorem qtO_length (l:List Qtm):(rows qtO l).length=3*l.length:=rows_length qtO_three l
@[simp] theorem qtS_share (l:List Qtm):shareL (rows qtO l)=rows qtS l:=by
 rw [rows_share]
 congr 1
 funext t
 simp [qtO,qtS,shareL,share,shareL_ints]
@[simp] theorem qtO_noSh (l:List Qtm):noShL (rows qtO l):=rows_noSh (fun t=>by simp [qtO,noShL,noSh,noShL_ints]) l
section
variable {l:List Qtm} {i:Nat}
end
def qtZ:Option Qtm->List D
 | none=>[.v (.slice none 0 0),D.int 0,D.int 0]
 | some t=>qtO t
theorem qtZ_three (t:Option Qtm):(qtZ t).length=3:=by cases t <;> rfl
@[simp] theorem qtZ_length (l:List (Option Qtm)):(rows qtZ l).length=3*l.length:=rows_length qtZ_three l
end Go.Proofs.Ytfcgcgmleogamaa.Ab
namespace Go.Proofs.Ytfcgcgmleogamaa.Ab
open Go
set_option maxRecDepth 10000
end Go.Proofs.Ytfcgcgmleogamaa.Ab
namespace Go.Proofs.Ytfcgcgmleogamaa.Ab
open Go
set_option maxRecDepth 10000
set_option maxHeartbeats 2000000
def qk (t:Qtm):List Int×Int:=(t.e,t.h)
def QGood (v:Int) (t:Qtm):Prop:=(t.e.length:Int)=v/\t.c≠0/\(-1000000<=t.c/\t.c<=1000000)/\(-200<=t.h/\t.h<=200)/\∀ x∈t.e,-20<=x/\x<=20
def DescQ (ts:List Qtm):Prop:=ts.Pairwise fun a b=>qlt (qk b) (qk a)=true
def QRight (f:Qsm):Prop:=(1<=f.v/\f.v<=8)/\f.ts.length<=600/\(∀ t∈f.ts,QGood f.v t)/\DescQ f.ts
noncomputable instance (f:Qsm):Decidable (QRight f):=Classical.propDecidable _
end Go.Proofs.Ytfcgcgmleogamaa.Ab
namespace Go.Proofs.Ytfcgcgmleogamaa.Ab
open Go
set_option maxRecDepth 10000
set_option maxHeartbeats 2000000
end Go.Proofs.Ytfcgcgmleogamaa.Ab
namespace Go.Proofs.Ytfcgcgmleogamaa.Ab
open Go
set_option maxRecDepth 10000
set_option maxHeartbeats 2000000
def at2 (fm:List (List Int)) (i j:Nat):Int:=(fm.getD i []).getD j 0
def Skp (fm:List (List Int)) (i j:Nat):Prop:=(-99<=at2 fm i j/\at2 fm i j<=99)/\at2 fm i j+at2 fm j i=0
def FormOk (fm:List (List Int)):Prop:=(1<=(fm.length:Int)/\(fm.length:Int)<=8)/\(∀ i,i < fm.length->(fm.getD i []).length=fm.length)/\∀ i,i < fm.length->∀ j,j < fm.length->Skp fm i j
noncomputable instance (fm:List (List Int)):Decidable (FormOk fm):=Classical.propDecidable _
end Go.Proofs.Ytfcgcgmleogamaa.Ab
namespace Go.Proofs.Ytfcgcgmleogamaa.Ab
open Go
set_option maxRecDepth 10000
set_option maxHeartbeats 2000000
def sm (f:Nat->Int):Nat->Int
 | 0=>0
 | n+1=>sm f n+f n
section
variable {fm:List (List Int)} {a b:List Int}
end
end Go.Proofs.Ytfcgcgmleogamaa.Ab
namespace Go.Proofs.Ytfcgcgmleogamaa.Ab
open Go
end Go.Proofs.Ytfcgcgmleogamaa.Ab
namespace Go.Proofs.Ytfcgcgmleogamaa.Ab
open Go
end Go.Proofs.Ytfcgcgmleogamaa.Ab
namespace Go.Proofs.Ytfcgcgmleogamaa.Ab
open Go
def tbR (N:Nat) (g:Nat->Int):List Int:=(List.range N).map g
def tbL (N:Nat) (f:Nat->Nat->Int):List (List Int):=(List.range N).map fun i=>tbR N (f i)
@[simp] theorem tbR_length (N:Nat) (g:Nat->Int):(tbR N g).length=N:=by simp [tbR]
@[simp] theorem tbL_length (N:Nat) (f:Nat->Nat->Int):(tbL N f).length=N:=by simp [tbL]
noncomputable instance (fm:List (List Int)):Decidable (FormOk fm):=Classical.propDecidable _
end Go.Proofs.Ytfcgcgmleogamaa.Ab
namespace Go.Proofs.Ytfcgcgmleogamaa.Ab
open Go
set_option maxRecDepth 10000
set_option maxHeartbeats 4000000
end Go.Proofs.Ytfcgcgmleogamaa.Ab
namespace Go.Proofs.Ytfcgcgmleogamaa.Ab
open Go
set_option maxRecDepth 10000
set_option maxHeartbeats 4000000
attribute [local simp ↓] kill_env kill_rts deep_env deep_rts take_env put_env
attribute [local simp high] upd_ofL
attribute [local simp] replE killL deepL' killE_ofL deepE_ofL killE_at deepE_at
end Go.Proofs.Ytfcgcgmleogamaa.Ab
namespace Go.Proofs.Ytfcgcgmleogamaa.Ab
open Go
set_option maxRecDepth 10000
set_option maxHeartbeats 2000000
end Go.Proofs.Ytfcgcgmleogamaa.Ab
namespace Go.Proofs.Ytfcgcgmleogamaa.Ab
open Go
set_option maxRecDepth 10000
set_option maxHeartbeats 2000000
end Go.Proofs.Ytfcgcgmleogamaa.Ab
namespace Go.Proofs.Ytfcgcgmleogamaa.Ab
open Go
set_option maxRecDepth 10000
set_option maxHeartbeats 4000000
end Go.Proofs.Ytfcgcgmleogamaa.Ab
namespace Go.Proofs.Ytfcgcgmleogamaa.Ab
open Go
set_option maxRecDepth 10000
set_option maxHeartbeats 4000000
def MfOk (fm:List (List Int)) (m:Mat) (k:Int):Prop:=FormOk fm/\MatOK m/\m.r=fm.length/\(0<=k/\k < m.n)
noncomputable instance (fm:List (List Int)) (m:Mat) (k:Int):Decidable (MfOk fm m k):=Classical.propDecidable _
end Go.Proofs.Ytfcgcgmleogamaa.Ab
namespace Go.Proofs.Ytfcgcgmleogamaa.Ab
open Go
set_option maxRecDepth 10000
set_option maxHeartbeats 4000000
section
variable {l:List (List (List Int))} {i:Nat}
end
end Go.Proofs.Ytfcgcgmleogamaa.Ab
namespace Go.Proofs.Ytfcgcgmleogamaa.Ab
open Go
set_option maxRecDepth 10000
set_option maxHeartbeats 2000000
attribute [local simp] cur
end Go.Proofs.Ytfcgcgmleogamaa.Ab
namespace Go.Proofs.Ytfcgcgmleogamaa.Ab
open Go
set_option maxRecDepth 10000
set_option maxHeartbeats 2000000
attribute [local simp] cur
end Go.Proofs.Ytfcgcgmleogamaa.Ab
namespace Go.Proofs.Ytfcgcgmleogamaa.Ab
open Go
set_option maxRecDepth 10000
set_option maxHeartbeats 2000000
end Go.Proofs.Ytfcgcgmleogamaa.Ab
namespace Go.Proofs.Ytfcgcgmleogamaa.Ab
open Go
end Go.Proofs.Ytfcgcgmleogamaa.Ab
namespace Go.Proofs.Ytfcgcgmleogamaa.Ab
open Go
end Go.Proofs.Ytfcgcgmleogamaa.Ab
namespace Go.Proofs.Ytfcgcgmleogamaa.Ab
open Go
set_option maxRecDepth 10000
set_option maxHeartbeats 2000000
end Go.Proofs.Ytfcgcgmleogamaa.Ab
namespace Go.Proofs.Ytfcgcgmleogamaa.Ab
open Go
def rowN (n:Nat) (nm:List Int) (i:Nat):Int:=if i < n then nm.getD i 0 else i
def renL (base:List Int) (m:Mat) (nm:List Int):Nat->List Int
 | 0=>base
 | q+1=>(renL base m nm q).set ((rowN m.n.toNat nm (q / m.n.toNat)).toNat*m.n.toNat+(nm.getD (q % m.n.toNat) 0).toNat) (m.d.getD q 0)
@[simp] theorem renL_length (base:List Int) (m:Mat) (nm:List Int):∀ q,(renL base m nm q).length=base.length
 | 0=>rfl
 | q+1=>by simp [renL,renL_length base m nm q]
end Go.Proofs.Ytfcgcgmleogamaa.Ab
namespace Go.Proofs.Ytfcgcgmleogamaa.Ab
open Go
end Go.Proofs.Ytfcgcgmleogamaa.Ab
namespace Go.Proofs.Ytfcgcgmleogamaa.Ab
open Go
set_option maxRecDepth 10000
set_option maxHeartbeats 4000000
attribute [local simp] cur
end Go.Proofs.Ytfcgcgmleogamaa.Ab
namespace Go.Proofs.Ytfcgcgmleogamaa.Ab
open Go
set_option maxRecDepth 10000
set_option maxHeartbeats 2000000
def fZ:Option Lau->List D
 | none=>[D.int 0,.v (.slice none 0 0)]
 | some f=>fO f
theorem fZ_two (t:Option Lau):(fZ t).length=2:=by cases t <;> rfl
@[simp] theorem fZ_length (l:List (Option Lau)):(rows fZ l).length=2*l.length:=rows_length fZ_two l
end Go.Proofs.Ytfcgcgmleogamaa.Ab
namespace Go.Proofs.Ytfcgcgmleogamaa.Ab
open Go
end Go.Proofs.Ytfcgcgmleogamaa.Ab
namespace Go.Proofs.Ytfcgcgmleogamaa.Ab
open Go
set_option maxRecDepth 10000
set_option maxHeartbeats 2000000
end Go.Proofs.Ytfcgcgmleogamaa.Ab
namespace Go.Proofs.Ytfcgcgmleogamaa.Ab
open Go
set_option maxRecDepth 10000
set_option maxHeartbeats 2000000
end Go.Proofs.Ytfcgcgmleogamaa.Ab
namespace Go.Proofs.Ytfcgcgmleogamaa.Ab
open Go
set_option maxRecDepth 10000
set_option maxHeartbeats 2000000
end Go.Proofs.Ytfcgcgmleogamaa.Ab
namespace Go.Proofs.Ytfcgcgmleogamaa.Ab
open Go
set_option maxRecDepth 10000
set_option maxHeartbeats 2000000
end Go.Proofs.Ytfcgcgmleogamaa.Ab
namespace Go.Proofs.Ytfcgcgmleogamaa.Ab
open Go
set_option maxRecDepth 10000
set_option maxHeartbeats 4000000
attribute [local simp] cur
end Go.Proofs.Ytfcgcgmleogamaa.Ab
namespace Go.Proofs.Ytfcgcgmleogamaa.Ab
open Go
set_option maxRecDepth 10000
set_option maxHeartbeats 2000000
end Go.Proofs.Ytfcgcgmleogamaa.Ab
namespace Go.Proofs.Ytfcgcgmleogamaa.Ab
open Go
set_option maxRecDepth 10000
set_option maxHeartbeats 4000000
attribute [local simp] cur
end Go.Proofs.Ytfcgcgmleogamaa.Ab
namespace Go.Proofs.Ytfcgcgmleogamaa.Ab
open Go
set_option maxRecDepth 10000
set_option maxHeartbeats 2000000
end Go.Proofs.Ytfcgcgmleogamaa.Ab
namespace Go.Proofs.Ytfcgcgmleogamaa.Ab
open Go
set_option maxRecDepth 10000
set_option maxHeartbeats 2000000
end Go.Proofs.Ytfcgcgmleogamaa.Ab
namespace Go.Proofs.Ytfcgcgmleogamaa.Ab
open Go
set_option maxRecDepth 10000
set_option maxHeartbeats 2000000
end Go.Proofs.Ytfcgcgmleogamaa.Ab
namespace Go.Proofs.Ytfcgcgmleogamaa.Ab
open Go
set_option maxRecDepth 10000
set_option maxHeartbeats 4000000
attribute [local simp] cur
end Go.Proofs.Ytfcgcgmleogamaa.Ab
namespace Go.Proofs.Ytfcgcgmleogamaa.Ab
open Go
set_option maxRecDepth 10000
set_option maxHeartbeats 4000000
theorem iArc_c (v:Int) (l:List DI) (d:DI) (hx:l.length < 4611686018427387904):ACalls Try.prog F.impl_ArcLaurent [.int v,.d (.sh 2 l.length (rows gM l)),agD d] [] true (fun outs res=>outs=[]/\res=[.ag (fO (arcF v l d).1),.one (D.bool (arcF v l d).2)]):=((impl_ArcLaurent_c v l d hx).mono fun outs res h=>⟨h.1,h.2.1⟩).weak1
theorem lnL_ok {v:Nat} {l:List Dg} (h:Tri v l) {a c:Nat} (hac:a≠c) (ha:a < v) (hc:c < v):LenP v l a c (lnL v l a c):=by
 obtain ⟨f,hf⟩:=len_ex h _ a c (Nat.le_refl _) hac ha hc
 rw [lnL_eq h hf]
 exact hf
end Go.Proofs.Ytfcgcgmleogamaa.Ab
namespace Go.Proofs.Ytfcgcgmleogamaa.Ab
open Go
theorem grunN_last {σ:Type} (upd:σ->N3->σ) (T:List N3):∀ (n:Nat) (k:List Bool×σ),grunN upd T (n+1) k=grun1 upd (grunN upd T n k) T
 | 0,k=>rfl
 | n+1,k=>grunN_last upd T n (grun1 upd k T)
def tn (t:N3) (i:Nat):Nat:=match i % 3 with
 | 0=>t.1
 | 1=>t.2.1
 | _=>t.2.2
def stg {σ:Type} (upd:σ->N3->σ) (t:N3) (i:Nat) (k:List Bool×σ):List Bool×σ:=gatt upd k (tn t i) (tn t (i+1)) (tn t (i+2))
def g3 {σ:Type} (upd:σ->N3->σ) (t:N3):Nat->List Bool×σ->List Bool×σ
 | 0,k=>k
 | i+1,k=>stg upd t i (g3 upd t i k)
theorem grun1_snoc {σ:Type} (upd:σ->N3->σ):∀ (T:List N3) (t:N3) (k:List Bool×σ),grun1 upd k (T ++ [t])=g3 upd t 3 (grun1 upd k T)
 | [],t,k=>rfl
 | x :: T,t,k=>grun1_snoc upd T t _
section
variable {v:Nat} {l:List Dg} {t:N3}
def stX (v:Nat) (l:List Dg) (t:N3):XY:=(((List.replicate v none).set t.1 (some [(List.replicate (v - 3) 0,1)])).set t.2.1 (some []),((List.replicate v none).set t.2.1 (some (moL v l (t.1,t.2.1)))).set t.1 (some []))
def GSt (v:Nat) (l:List Dg) (t:N3) (K:List Bool×XY):Prop:=∃ A,OkA (kn0 v t) A K.1/\(∀ x∈A,x.1 < v)/\K.2=A.foldl (updX v l) (stX v l t)
theorem GSt.start:GSt v l t (kn0 v t,stX v l t):=⟨[],.nil _,by simp,rfl⟩
theorem GSt.att {K:List Bool×XY} (h:GSt v l t K) {s p q:Nat} (hs:s < v):GSt v l t (gatt (updX v l) K s p q):=by
 obtain ⟨A,h1,h2,h3⟩:=h
 unfold gatt
 split
 ·rename_i hc
  simp only [Bool.and_eq_true,Bool.not_eq_true'] at hc
  refine ⟨A ++ [(s,p,q)],h1.app (.cons hc.1 hc.2.1 hc.2.2 (.nil _)),fun x hx=>?_,by rw [List.foldl_append,<-h3];rfl⟩
  rcases List.mem_append.1 hx with hx | hx
  ·exact h2 x hx
  ·rw [List.mem_singleton] at hx
   rw [hx]
   exact hs
 ·exact ⟨A,h1,h2,h3⟩
def TrB (v:Nat) (u:N3):Prop:=u.1 < v/\u.2.1 < v/\u.2.2 < v
theorem tn_lt {u:N3} (h:TrB v u) (i:Nat):tn u i < v:=by
 unfold tn
 split
 ·exact h.1
 ·exact h.2.1
 ·exact h.2.2
theorem GSt.g3 {K:List Bool×XY} (h:GSt v l t K) {u:N3} (hu:TrB v u):∀ i,GSt v l t (g3 (updX v l) u i K)
 | 0=>h
 | i+1=>(GSt.g3 h hu i).att (tn_lt hu i)
theorem GSt.run1:∀ {T:List N3} {K:List Bool×XY},GSt v l t K->(∀ u∈T,TrB v u)->GSt v l t (grun1 (updX v l) K T)
 | [],K,h,_=>h
 | u :: T,K,h,hT=>GSt.run1 (T:=T) (h.g3 (hT u (by simp)) 3) fun x hx=>hT x (by simp [hx])
theorem GSt.runN {T:List N3} (hT:∀ u∈T,TrB v u):∀ (n:Nat) {K:List Bool×XY},GSt v l t K->GSt v l t (grunN (updX v l) T n K)
 | 0,K,h=>h
 | n+1,K,h=>GSt.runN hT n (h.run1 hT)
theorem okA_count {k k':List Bool} {A:List N3} (h:OkA k A k'):(∀ x∈A,x.1 < k.length)->k'.countP id=k.countP id+A.length:=by
 induction h with
 | nil=>exact fun _=>rfl
 | @cons k k' s p q A h1 h2 h3 _ ih=>
  intro hl
  have hs:s < k.length:=hl (s,p,q) (by simp)
  rw [ih fun x hx=>by rw [List.length_set];exact hl x (by simp [hx])]
  have:(k.set s true).countP id=k.countP id+1:=by
   rw [List.countP_set hs]
   have:k[s]=false:=by
    rw [List.getD_eq_getElem?_getD,List.getElem?_eq_getElem hs] at h1
    exact h1
   simp [this]
  rw [this,List.length_cons]
  omega
theorem fold_XR {T:Nat} (hT:2<=T):∀ (A:List N3) {c:Nat} {st:XY} {X:Nat->V2},XR v l T c st X->c+A.length<=9->(∀ x∈A,x.1 < v)->XR v l T (c+A.length) (A.foldl (updX v l) st) (A.foldl (updV (lnT v l T)) X)
 | [],c,st,X,h,_,_=>h
 | (s,p,q) :: A,c,st,X,h,hc,hA=>by
  simp only [List.length_cons] at hc
  have:=fold_XR hT A (h.step hT (s:=s) (p:=p) (q:=q) (by omega) (hA (s,p,q) (by simp))) (by omega) fun x hx=>hA x (by simp [hx])
  simp only [List.foldl_cons,List.length_cons]
  rw [show c+(A.length+1)=c+1+A.length by omega]
  exact this
theorem start_XR {T:Nat} (hT:2<=T) (ht:t.1 < t.2.1/\t.2.1 < v):XR v l T 1 (stX v l t) (initV (lnT v l T) t):=by
 have hne:¬ t.1=t.2.1:=by omega
 have hne2:¬ t.2.1=t.1:=by omega
 have g0:∀ i,gX (List.replicate v none) i=[]:=fun i=>by
  unfold gX
  rw [List.getD_eq_getElem?_getD,List.getElem?_replicate]
  split <;> rfl
 have gx:∀ i,gX (stX v l t).1 i=if i=t.2.1 then [] else if i=t.1 then [(List.replicate (v - 3) 0,1)] else []:=fun i=>by
  unfold stX
  rw [gX_set (by simp;omega),gX_set (by simp;omega),g0]
 have gy:∀ i,gX (stX v l t).2 i=if i=t.1 then [] else if i=t.2.1 then moL v l (t.1,t.2.1) else []:=fun i=>by
  unfold stX
  rw [gX_set (by simp;omega),gX_set (by simp;omega),g0]
 have bn:Bb (v - 3) 2 2 ([]:LS):=⟨fun x hx=>absurd hx (by simp),by simp [absK],by simp⟩
 have bo:Bb (v - 3) 2 2 [(List.replicate (v - 3) 0,1)]:=⟨fun x hx=>by
  rw [List.mem_singleton] at hx
  rw [hx]
  exact ⟨by simp,fun y hy=>by have:=List.eq_of_mem_replicate hy;omega⟩,by simp [absK],by simp⟩
 have bm:Bb (v - 3) 2 2 (moL v l (t.1,t.2.1)):=(moL_bb v l _).mono (by omega) (by omega)
 have one:vT T (v - 3) [(List.replicate (v - 3) 0,(1:Int))]=1:=vT_oneF hT
 refine ⟨by simp [stX],by simp [stX],fun i=>?_,fun i=>?_,fun i=>?_,fun i=>?_⟩
 ·rw [gx]
  split
  ·exact bn
  ·split
   ·exact bo
   ·exact bn
 ·rw [gy]
  split
  ·exact bn
  ·split
   ·exact bm
   ·exact bn
 ·rw [gx]
  unfold initV
  by_cases h1:i=t.2.1
  ·rw [if_pos h1,if_pos h1,vT_nil]
  ·by_cases h2:i=t.1
   ·rw [if_neg h1,if_neg h1,if_pos h2,if_pos h2,one]
   ·rw [if_neg h1,if_neg h1,if_neg h2,if_neg h2,vT_nil]
 ·rw [gy]
  unfold initV
  by_cases h1:i=t.2.1
  ·rw [if_neg (fun e=>hne (e.symm.trans h1)),if_pos h1,if_pos h1]
   rfl
  ·by_cases h2:i=t.1
   ·rw [if_pos h2,if_neg h1,if_pos h2,vT_nil]
   ·rw [if_neg h2,if_neg h1,if_neg h1,if_neg h2,vT_nil]
theorem kn0_count (h1:t.1 < t.2.1) (h2:t.2.1 < v):(kn0 v t).countP id=2:=by
 unfold kn0
 rw [List.countP_set (by simp;omega),List.countP_set (by simp;omega)]
 have a:((List.replicate v false).set t.1 true)[t.2.1]'(by simp;omega)=false:=by
  rw [List.getElem_set_ne (by omega),List.getElem_replicate]
 simp [a,List.countP_replicate]
theorem GSt.bd {K:List Bool×XY} (h:GSt v l t K) (hv:v<=8) (ht:t.1 < t.2.1/\t.2.1 < v):K.1.length=v/\(K.2.1.length=v/\K.2.2.length=v)/\∀ i,Bb (v - 3) 16 256 (gX K.2.1 i)/\Bb (v - 3) 16 256 (gX K.2.2 i):=by
 obtain ⟨A,h1,h2,h3⟩:=h
 have hl:(kn0 v t).length=v:=by simp [kn0]
 have hc:=okA_count h1 fun x hx=>by rw [hl];exact h2 x hx
 rw [kn0_count ht.1 ht.2] at hc
 have hl2:=okA_len h1
 have hle:=List.countP_le_length (p:=id) (l:=K.1)
 have hX:=fold_XR (T:=2) (by omega) A (start_XR (l:=l) (by omega) ht) (by omega) h2
 rw [<-h3] at hX
 have e:2 ^ (1+A.length)<=256:=Nat.pow_le_pow_right (n:=2) (i:=1+A.length) (j:=8) (by omega) (by omega)
 exact ⟨by omega,⟨hX.l1,hX.l2⟩,fun i=>⟨(hX.b1 i).mono (by omega) e,(hX.b2 i).mono (by omega) e⟩⟩
theorem known_fold:∀ {A:List N3} {k k':List Bool} {st:XY},OkA k A k'->(∀ x∈A,x.1 < st.1.length/\x.1 < st.2.length)->(∀ i,k.getD i false=true->(∃ L,st.1[i]? = some (some L))/\∃ L,st.2[i]? = some (some L))->∀ i,k'.getD i false=true->(∃ L,(A.foldl (updX v l) st).1[i]? = some (some L))/\∃ L,(A.foldl (updX v l) st).2[i]? = some (some L)
 | [],k,k',st,h,_,hk=>by
  cases h
  exact hk
 | (s,p,q) :: A,k,k',st,h,hl,hk=>by
  cases h with
  | cons h1 h2 h3 h=>
   have hs:=hl (s,p,q) (by simp)
   refine known_fold (A:=A) h (fun x hx=>?_) fun i hi=>?_
   ·have:=hl x (by simp [hx])
    simp only [updX,List.length_set]
    exact this
   ·simp only [updX,List.getElem?_set]
    by_cases e:s=i
    ·subst e
     simp [hs.1,hs.2]
    ·rw [if_neg e,if_neg e]
     refine hk i ?_
     rw [List.getD_eq_getElem?_getD,List.getElem?_set,if_neg e,<-List.getD_eq_getElem?_getD] at hi
     exact hi
theorem GSt.known {K:List Bool×XY} (h:GSt v l t K) (ht:t.1 < t.2.1/\t.2.1 < v) {i:Nat} (hi:K.1.getD i false=true):K.2.1[i]? = some (some (gX K.2.1 i))/\K.2.2[i]? = some (some (gX K.2.2 i)):=by
 obtain ⟨A,h1,h2,h3⟩:=h
 have:=known_fold (v:=v) (l:=l) (st:=stX v l t) h1 (fun x hx=>by have:=h2 x hx;simp [stX];omega) (fun j hj=>by
  have hjj:j=t.1\/j=t.2.1:=by
   unfold kn0 at hj
   rw [List.getD_eq_getElem?_getD,List.getElem?_set,List.getElem?_set,List.getElem?_replicate] at hj
   by_cases e1:t.2.1=j
   ·exact .inr e1.symm
   ·by_cases e2:t.1=j
    ·exact .inl e2.symm
    ·rw [if_neg e1,if_neg e2] at hj
     split at hj <;> simp at hj
  have hne:¬ t.1=t.2.1:=by omega
  have hne2:¬ t.2.1=t.1:=by omega
  have hv1:t.1 < v:=by omega
  rcases hjj with rfl | rfl
  ·exact ⟨⟨[(List.replicate (v - 3) 0,1)],by simp [stX,List.getElem?_set,hne2,hv1]⟩,⟨[],by simp [stX,List.getElem?_set,hv1]⟩⟩
  ·exact ⟨⟨[],by simp [stX,List.getElem?_set,ht.2]⟩,⟨moL v l (t.1,t.2.1),by simp [stX,List.getElem?_set,hne,ht.2]⟩⟩) i hi
 rw [<-h3] at this
 obtain ⟨⟨L,hL⟩,⟨M,hM⟩⟩:=this
 refine ⟨?_,?_⟩
 ·rw [hL]
  unfold gX
  rw [List.getD_eq_getElem?_getD,hL]
  rfl
 ·rw [hM]
  unfold gX
  rw [List.getD_eq_getElem?_getD,hM]
  rfl
theorem unknown_fold:∀ {A:List N3} {k k':List Bool} {st:XY},OkA k A k'->(∀ x∈A,x.1 < k.length)->(∀ i,i < v->k.getD i false=false->st.1[i]? = some none/\st.2[i]? = some none)->∀ i,i < v->k'.getD i false=false->(A.foldl (updX v l) st).1[i]? = some none/\(A.foldl (updX v l) st).2[i]? = some none
 | [],k,k',st,h,_,hk=>by
  cases h
  exact hk
 | (s,p,q) :: A,k,k',st,h,hl,hk=>by
  cases h with
  | cons h1 h2 h3 h=>
   have hs:=hl (s,p,q) (by simp)
   refine unknown_fold (A:=A) h (fun x hx=>by rw [List.length_set];exact hl x (by simp [hx])) fun i hi hki=>?_
   have hne:s≠i:=by
    rintro rfl
    rw [getD_setS hs] at hki
    exact absurd hki (by simp)
   rw [List.getD_eq_getElem?_getD,List.getElem?_set,if_neg hne,<-List.getD_eq_getElem?_getD] at hki
   have:=hk i hi hki
   simp only [updX,List.getElem?_set,if_neg hne]
   exact this
theorem GSt.unknown {K:List Bool×XY} (h:GSt v l t K) (ht:t.1 < t.2.1/\t.2.1 < v) {i:Nat} (hiv:i < v) (hi:K.1.getD i false=false):K.2.1[i]? = some none/\K.2.2[i]? = some none:=by
 obtain ⟨A,h1,h2,h3⟩:=h
 have:=unknown_fold (v:=v) (l:=l) (st:=stX v l t) h1 (fun x hx=>by have:=h2 x hx;simp [kn0];omega) (fun j hj hjk=>by
  have n1:¬ t.1=j:=fun e=>by
   subst e
   rw [(kn0_at (v:=v) (t:=t) (by omega) ht.2).1] at hjk
   exact absurd hjk (by simp)
  have n2:¬ t.2.1=j:=fun e=>by
   subst e
   rw [(kn0_at (v:=v) (t:=t) (by omega) ht.2).2] at hjk
   exact absurd hjk (by simp)
  simp [stX,List.getElem?_set,n1,n2,hj,List.getElem?_replicate]) i hiv hi
 rw [<-h3] at this
 exact this
end
def detL (xy:XY) (a c:Nat):LS:=nf lexlt (nf lexlt (prodL (gX xy.1 a) (gX xy.2 c)) ++ scL (-1) (nf lexlt (prodL (gX xy.2 a) (gX xy.1 c))))
theorem right_nf {f:Lau} (hr:Right f):nf lexlt (plist f)=plist f:=by
 refine (nf_unique lexOrd ?_ ?_ fun _=>rfl).symm
 ·unfold Desc plist
  rw [List.pairwise_map]
  exact hr.2.2.2
 ·intro x hx
  obtain ⟨t,ht,rfl⟩:=List.mem_map.1 hx
  exact (hr.2.2.1 t ht).2.1
theorem det_len {v:Nat} {l:List Dg} (h:Tri v l) {t:N3} {ts:List N3} (htr:tris v l=t :: ts) {a c:Nat} (hac:a < c) (hc:c < v):detL (grunN (updX v l) (t :: ts) v (kn0 v t,stX v l t)).2 a c=plist (lnL v l a c):=by
 have htb:=tris_bd (v:=v) (l:=l) (t:=t) (by rw [htr];simp)
 have hv:=h.vb
 have ht:t.1 < t.2.1/\t.2.1 < v:=by omega
 have hTB:∀ u∈t :: ts,TrB v u:=fun u hu=>by
  have:=tris_bd (v:=v) (l:=l) (t:=u) (by rw [htr];exact hu)
  exact ⟨by omega,by omega,by omega⟩
 obtain ⟨k',A,e1,e2,e3⟩:=same_runN (updX v l) (t :: ts) v (kn0 v t) (stX v l t) []
 have hG:=GSt.runN hTB v (GSt.start (v:=v) (l:=l) (t:=t))
 have hbd:=(hG.bd hv.2 ht).2.2
 have hL:=lnL_ok h (a:=a) (c:=c) (by omega) (by omega) hc
 have hmem:=runN_mem (t :: ts) v (kn0 v t) [] (by simp)
 rw [e1] at hmem
 simp only [List.nil_append] at hmem
 have hAv:∀ x∈A,x.1 < v:=fun x hx=>by
  obtain ⟨u,hu,hx⟩:=hmem x hx
  have:=hTB u hu
  rcases hx with rfl | rfl | rfl
  ·exact this.1
  ·exact this.2.1
  ·exact this.2.2
 have hlen:A.length<=7:=by
  have hl:(kn0 v t).length=v:=by simp [kn0]
  have h1:=okA_count e3 fun x hx=>by rw [hl];exact hAv x hx
  have h2:=okA_len e3
  have h3:=List.countP_le_length (p:=id) (l:=k')
  rw [kn0_count ht.1 ht.2] at h1
  omega
 have c5:=cntD_le h a c
 have hin:=(hbd a).1.prod (hbd c).2
 have hin2:=(hbd a).2.prod (hbd c).1
 have hb:=hin.nrm.add (hin2.nrm.scale (k:=-1) rfl)
 rw [<-right_nf hL.lb.right]
 refine vT_sep (n:=v - 3) (hb.ex.dig (by omega)) (hL.lb.ex.dig (by omega)) fun T hT=>?_
 rw [hL.val T hT,vT_app,vT_nf,vT_scL,vT_nf,vT_prod hT (hbd a).1.ex (hbd c).2.ex (by omega),vT_prod hT (hbd a).2.ex (hbd c).1.ex (by omega)]
 have hX:=fold_XR hT A (start_XR (l:=l) hT ht) (by omega) hAv
 have he2:(grunN (updX v l) (t :: ts) v (kn0 v t,stX v l t)).2=A.foldl (updX v l) (stX v l t):=by rw [e2]
 rw [he2,hX.v1,hX.v2,hX.v1,hX.v2]
 have hvec:vecV v l (lnT v l T)=A.foldl (updV (lnT v l T)) (initV (lnT v l T) t):=by
  obtain ⟨k2,A2,f1,f2,f3⟩:=same_runN (updV (lnT v l T)) (t :: ts) v (kn0 v t) (initV (lnT v l T) t) []
  rw [e1] at f1
  simp only [List.nil_append,Prod.mk.injEq] at f1
  unfold vecV
  rw [htr]
  show (grunN (updV (lnT v l T)) (t :: ts) v (kn0 v t,initV (lnT v l T) t)).2=_
  rw [f2,f1.2]
 unfold LenT
 rw [lenV_lt _ hac,hvec]
 unfold detV
 have:(((-1:Int)):Rat)=-1:=by rfl
 rw [this]
 grind
end Go.Proofs.Ytfcgcgmleogamaa.Ab
namespace Go.Proofs.Ytfcgcgmleogamaa.Ab
open Go
set_option maxRecDepth 10000
set_option maxHeartbeats 4000000
attribute [local simp ↓] kill_env kill_rts deep_env deep_rts take_env put_env
attribute [local simp high] upd_ofL
attribute [local simp] replE killL deepL' killE_ofL deepE_ofL killE_at deepE_at
def lM:Option LS->List D
 | none=>[.v (.slice none 0 0)]
 | some L=>[.ow 2 L.length (rows gM (L.map kc))]
theorem lM_one (o:Option LS):(lM o).length=1:=by cases o <;> rfl
@[simp] theorem lM_length (l:List (Option LS)):(rows lM l).length=l.length:=by rw [rows_length lM_one l,Nat.one_mul]
@[simp] theorem lM_noSh (l:List (Option LS)):noShL (rows lM l):=rows_noSh (fun t=>by cases t <;> simp [lM,noShL,noSh,gM_noSh]) l
theorem lM_zero:∀ n:Nat,zerosD [.slice none 0 0] n=rows lM (List.replicate n none)
 | 0=>rfl
 | n+1=>by
  simp only [zerosD,lM_zero n,List.replicate_succ]
  rfl
theorem lM_some {X:List (Option LS)} {i:Nat} {L:LS} (h:X[i]? = some (some L)):(rows lM X)[i]? = some (.ow 2 L.length (rows gM (L.map kc)))/\∀ h',(rows lM X)[i]'h' = .ow 2 L.length (rows gM (L.map kc)):=twice (by
 obtain ⟨h1,h2⟩:=List.getElem?_eq_some_iff.1 h
 have:=rows_get lM_one X i 0 h1 (by omega)
 rw [h2] at this
 simpa [lM] using this)
theorem lM_none {X:List (Option LS)} {i:Nat} (h:X[i]? = some none):(rows lM X)[i]? = some (.v (.slice none 0 0))/\∀ h',(rows lM X)[i]'h' = .v (.slice none 0 0):=twice (by
 obtain ⟨h1,h2⟩:=List.getElem?_eq_some_iff.1 h
 have:=rows_get lM_one X i 0 h1 (by omega)
 rw [h2] at this
 simpa [lM] using this)
theorem lM_set {X:List (Option LS)} {i:Nat} (h:i < X.length) (L:LS):(rows lM X).set i (.ow 2 L.length (rows gM (L.map kc)))=rows lM (X.set i (some L)):=by
 have:=rows_set lM_one X i 0 (.ow 2 L.length (rows gM (L.map kc))) (some L) h (by omega) (by cases X[i] <;> rfl)
 simpa [lM] using this
theorem lM_set0 {X:List (Option LS)} {i:Nat} (h:i < X.length):(rows lM X).set i (.ow 2 0 [])=rows lM (X.set i (some [])):=lM_set h []
theorem lM_set1 {X:List (Option LS)} {i:Nat} (h:i < X.length) (e:List Int):(rows lM X).set i (.ow 2 1 [D.v (.int .i64 (keyA 0 e)),D.v (.int .i64 1)])=rows lM (X.set i (some [(e,1)])):=lM_set h [(e,1)]
def bls (k:List Bool):List D:=k.map fun b=>D.v (.bool b)
@[simp] theorem bls_length (k:List Bool):(bls k).length=k.length:=by simp [bls]
@[simp] theorem bls_noSh (k:List Bool):noShL (bls k):=by
 induction k with
 | nil=>simp [bls,noShL]
 | cons x k ih=>simp only [bls,List.map_cons,noShL] at ih ⊢;exact ⟨by simp [noSh],ih⟩
@[simp] theorem bls_leaf (k:List Bool):leafL (bls k):=by
 induction k with
 | nil=>simp [bls,leafL]
 | cons x k ih=>simp [bls,leafL,D.leaf] at ih ⊢;exact ih
theorem bls_zero:∀ n:Nat,zerosD [.bool false] n=bls (List.replicate n false)
 | 0=>rfl
 | n+1=>by
  simp only [zerosD,bls_zero n,List.replicate_succ]
  rfl
theorem bls_0 {k:List Bool} {i:Nat} (h:i < k.length):(bls k)[i]? = some (D.v (.bool (k.getD i false)))/\∀ h',(bls k)[i]'h'=D.v (.bool (k.getD i false)):=twice (by
 simp [bls,List.getD_eq_getElem?_getD,h])
theorem bls_set (k:List Bool) (i:Nat) (b:Bool):(bls k).set i (D.v (.bool b))=bls (k.set i b):=by
 unfold bls
 rw [List.map_set]
theorem t3_get {u:N3} {i:Nat} (h:i < 3):∃ h2:i < (t3L u).length,(t3L u)[i]=(tn u i:Int):=by
 refine ⟨by simpa [t3L] using h,?_⟩
 obtain rfl | rfl | rfl:i=0\/i=1\/i=2:=by omega
 all_goals rfl
theorem tn_mod (u:N3) (i:Nat):tn u (i % 3)=tn u i:=by
 unfold tn
 rw [Nat.mod_mod]
theorem ofL_padK (k:Nat):∀ l:List (Nat×FV),ofL l=ofL (l ++ [(k,.dead)])
 | []=>by funext t;simp [ofL]
 | (i,f) :: l=>by
  have h:=ofL_padK k l
  funext t
  have h2:=congrFun h t
  simp only [List.cons_append,ofL]
  split
  ·rfl
  ·exact h2
theorem times_c {n E K E' K':Nat} (hn:n<=8) {x y:LS} (hx:Bb n E K x) (hy:Bb n E' K' y) (h1:E+E'<=40) (h2:K<=600) (h3:K'<=600):ACalls Try.prog F.spec_l2Times [.d (.sh 2 x.length (rows gM (x.map kc))),.d (.sh 2 y.length (rows gM (y.map kc))),.int (keyA 0 (List.replicate n 0))] [] true (fun outs res=>outs=[]/\res=[.one (.ow 2 (nf lexlt (prodL x y)).length (rows gM ((nf lexlt (prodL x y)).map kc)))]):=by
 have lx:=hx.ln
 have ly:=hy.ln
 have:=spec_l2Times_c (x.map kc) (y.map kc) (keyA 0 (List.replicate n 0)) (keyA_key (dig_rep _) (by simpa using hn)) (monK hn hx (by omega) (by omega)) (monK hn hy (by omega) (by omega)) (by rw [List.length_map];omega) (by rw [List.length_map];omega)
 rw [timesK hx.ex hy.ex (by omega)] at this
 simp only [List.length_map] at this
 exact this
theorem plus_c {n E K:Nat} {x y:LS} {k:Int} (hx:Bb n E K x) (hy:Bb n E K y) (h1:E<=63) (h2:K<=100000) (hk:k.natAbs=1):ACalls Try.prog F.spec_l2Plus [.d (.sh 2 x.length (rows gM (x.map kc))),.int k,.d (.sh 2 y.length (rows gM (y.map kc)))] [] true (fun outs res=>outs=[]/\res=[.one (.ow 2 (nf lexlt (x ++ scL k y)).length (rows gM ((nf lexlt (x ++ scL k y)).map kc)))]):=by
 have lx:=hx.ln
 have ly:=hy.ln
 have ax:=hx.ab
 have ay:=hy.ab
 have:=spec_l2Plus_c (x.map kc) (y.map kc) k (by rw [List.length_map,List.length_map];omega) (by rw [kc_abs,kc_abs,hk];omega)
 rw [plusK hx.ex hy.ex k h1] at this
 simp only [List.length_map] at this
 exact this
theorem ro_step (d12 d13 d14 d15 e12 e13:D):(fun q:Rn=>if q=(13,0) then some e13 else if q=(9999,0) then none else if q=(9999,0) then some (D.ow 2 0 []) else if q=(12,0) then some e12 else if q=(9999,0) then none else if q=(9999,0) then some (D.ow 2 0 []) else if (12,0)=q then some d12 else if (13,0)=q then some d13 else if (14,0)=q then some d14 else if (15,0)=q then some d15 else none)=ofRO [((12,0),some e12),((13,0),some e13),((14,0),some d14),((15,0),some d15)]:=by
 funext q
 simp only [ofRO]
 by_cases h1:q=(13,0)
 ·subst h1;simp
 ·by_cases h2:q=(12,0)
  ·subst h2;simp
  ·by_cases h3:q=(9999,0)
   ·subst h3;simp
   ·simp [h1,h2,h3,Ne.symm h1,Ne.symm h2]
theorem spec_l5Arc_c (v:Nat) (l:List Dg) (hT:Tri v l) (a c:Nat) (hac:a < c) (hc:c < v):ACalls Try.prog F.spec_l5Arc [.int v,.d (.sh 2 l.length (rows gM (l.map dgI))),.int a,.int c] [] true (fun outs res=>outs=[]/\res=[.one (.ow 2 (plist (lnL v l a c)).length (rows gM ((plist (lnL v l a c)).map kc)))]):=by
 have hv:=hT.vb
 have hll:=hT.len
 have hw3:IntKind.i64.wrap ((v:Int) - 3)=((v - 3:Nat):Int):=by rw [wrapOk (by omega) (by omega)];omega
 have hBs:=spec_l2Base_c (v - 3) (by omega)
 obtain ⟨B,hB⟩:∃ B,B=keyA 0 (List.replicate (v - 3) 0):=⟨_,rfl⟩
 have hB8:0<=B/\B < 72057594037927936:=by rw [hB];exact keyA_key (dig_rep _) (by simp;omega)
 rw [<-hB] at hBs
 have hTr:=spec_l5Triangles_c v l ⟨hv.2,hv.1⟩ (by omega)
 obtain ⟨t,ts,M,htr,htm⟩:=tri_made hT
 have htb:=tris_bd (v:=v) (l:=l) (t:=t) (by rw [htr];simp)
 have ht:t.1 < t.2.1/\t.2.1 < v:=by omega
 have hTB:∀ u∈t :: ts,TrB v u:=fun u hu=>by
  have:=tris_bd (v:=v) (l:=l) (t:=u) (by rw [htr];exact hu)
  exact ⟨by omega,by omega,by omega⟩
 obtain ⟨T,hTe⟩:∃ T,T=t :: ts:=⟨_,rfl⟩
 rw [htr,<-hTe] at hTr
 rw [<-hTe] at hTB
 obtain ⟨N,hN⟩:∃ N,N=T.length:=⟨_,rfl⟩
 rw [<-hN] at hTr
 have hN0:0 < N:=by rw [hN,hTe];simp
 have hNb:N<=512:=by
  rw [hN,hTe,<-htr,<-trA_all]
  exact Nat.le_trans (trA_len v l v) (Nat.mul_le_mul hv.2 (Nat.mul_le_mul hv.2 hv.2))
 have hm0:0 < (T.map t3L).length:=by simp;omega
 have hl0:=lO_0 hm0
 have hT0:(T.map t3L)[0]=t3L t:=by simp only [hTe,List.map_cons,List.getElem_cons_zero]
 rw [hT0] at hl0
 have hp0:t.1 < v:=by omega
 have hLn:=spec_l5Length_c v l t.1 t.2.1 hT hp0 ht.2
 rw [srt_lt ht.1] at hLn
 have q1:=@t3_get t 0 (by omega)
 have q2:=@t3_get t 1 (by omega)
 obtain ⟨z1,q1⟩:=q1
 obtain ⟨z2,q2⟩:=q2
 have hdet:=det_len hT htr hac hc
 rw [<-hTe] at hdet
 obtain ⟨G0,hG0⟩:∃ G0:List Bool×XY,G0=(kn0 v t,stX v l t):=⟨_,rfl⟩
 have z10:=lM_none (X:=List.replicate v none) (i:=t.1) (by simp [hp0])
 have z11:=lM_none (X:=List.replicate v none) (i:=t.2.1) (by simp [ht.2])
 have s10:(rows lM (List.replicate v none)).set t.1 (.ow 2 1 [D.v (.int .i64 B),D.v (.int .i64 1)])=rows lM ((List.replicate v none).set t.1 (some [(List.replicate (v - 3) 0,1)])):=by rw [hB];exact lM_set1 (by simpa using hp0) _
 have s11:(rows lM (List.replicate v none)).set t.2.1 (.ow 2 1 [D.v (.int .i64 (keyA 0 (expD v l (t.1,t.2.1)))),D.v (.int .i64 1)])=rows lM ((List.replicate v none).set t.2.1 (some (moL v l (t.1,t.2.1)))):=lM_set1 (by simpa using ht.2) _
 have z12:=bls_0 (k:=List.replicate v false) (i:=t.1) (by simpa using hp0)
 have z13:=bls_0 (k:=(List.replicate v false).set t.1 true) (i:=t.2.1) (by simpa using ht.2)
 have hne:¬ t.2.1=t.1:=by omega
 have hne2:¬ t.1=t.2.1:=by omega
 have z14:=lM_none (X:=(List.replicate v none).set t.1 (some [(List.replicate (v - 3) 0,1)])) (i:=t.2.1) (by simp [List.getElem?_set,hne2,ht.2])
 have z15:=lM_none (X:=(List.replicate v none).set t.2.1 (some (moL v l (t.1,t.2.1)))) (i:=t.1) (by simp [List.getElem?_set,hne,hp0])
 have s14:=lM_set0 (X:=(List.replicate v none).set t.1 (some [(List.replicate (v - 3) 0,1)])) (i:=t.2.1) (by simpa using ht.2)
 have s15:=lM_set0 (X:=(List.replicate v none).set t.2.1 (some (moL v l (t.1,t.2.1)))) (i:=t.1) (by simpa using hp0)
 have hGS0:GSt v l t G0:=by rw [hG0];exact GSt.start
 rw [<-hG0] at hdet
 refine ACalls.of_body (C:=C.spec_l5Arc) (n:=Try.f105.ntmps) tabT folT Try.func105 rfl (by kernel_rfl) rfl (Nat.le_of_ble_eq_true rfl) (by decide) (by kernel_rfl) (by kernel_rfl) rfl (by simp) (by simp) ?_
 simp only [Try.f105]
 refine wseq ?_
 refine wreg fun K hK=>?_
 simp [C.spec_l5Arc]
 refine hK _ ?_;clear hK K
 show AWp _ _ _ _ _
 refine wseq ?_
 refine wreg fun K hK=>?_
 simp [C.spec_l5Arc,hw3]
 refine hK _ ?_;clear hK K
 show AWp _ _ _ _ _
 refine wseq ?_
 refine wregI ([0,1] ++ ([2])) rfl fun K hK=>?_
 refine oSg fun L hL=>?_
 simp [C.spec_l5Arc]
 refine wcall1 (hBs) (by simp) (by simp) ?_
 simp [C.spec_l5Arc]
 refine hL _ ?_;clear hL L
 refine oEn fun L hL=>?_
 simp [C.spec_l5Arc]
 refine hL _ ?_;clear hL L
 simp [C.spec_l5Arc]
 refine hK _ ?_;clear hK K
 show AWp _ _ _ _ _
 refine wseq ?_
 refine wreg fun K hK=>?_
 simp [C.spec_l5Arc]
 refine hK _ ?_;clear hK K
 show AWp _ _ _ _ _
 refine wseq ?_
 refine wreg fun K hK=>?_
 simp [C.spec_l5Arc,lM_zero,show (24:Int)*v<=281474976710656 by omega,show (v:Int)<=281474976710656 by omega]
 refine hK _ ?_;clear hK K
 show AWp _ _ _ _ _
 refine wseq ?_
 refine wreg fun K hK=>?_
 simp [C.spec_l5Arc,lM_zero,show (24:Int)*v<=281474976710656 by omega,show (v:Int)<=281474976710656 by omega]
 refine hK _ ?_;clear hK K
 show AWp _ _ _ _ _
 refine wseq ?_
 refine wreg fun K hK=>?_
 simp [C.spec_l5Arc,bls_zero,show (v:Int)<=281474976710656 by omega]
 refine hK _ ?_;clear hK K
 show AWp _ _ _ _ _
 refine wseq ?_
 refine wregI ([0,1,2] ++ ([3])) rfl fun K hK=>?_
 refine oSg fun L hL=>?_
 simp [C.spec_l5Arc]
 refine wcall1 (hTr) (by simp) (by simp) ?_
 simp [C.spec_l5Arc]
 refine hL _ ?_;clear hL L
 refine oEn fun L hL=>?_
 simp [C.spec_l5Arc]
 refine hL _ ?_;clear hL L
 simp [C.spec_l5Arc]
 refine hK _ ?_;clear hK K
 show AWp _ _ _ _ _
 refine wseq ?_
 refine wdraw (.take 0 (.take 1 (.take 2 (.take 3 (.take 4 (.take 5 (.take 6 (.take 7 (.take 8 (.take 9 (.take 10 (.take 11 (.done))))))))))))) ⟨by kernel_rfl,by kernel_rfl⟩ fun K hK=>?_
 simp [C.spec_l5Arc,hl0,hN0,get_ints,z1,z2,q1,q2,tn,t3L,lO,owI]
 refine hK _ ?_;clear hK K
 show AWp _ _ _ _ _
 refine wseq ?_
 refine wreg fun K hK=>?_
 simp [C.spec_l5Arc,hp0,z10,s10]
 refine hK _ ?_;clear hK K
 show AWp _ _ _ _ _
 refine wseq ?_
 refine wregI ([0,1,2,3,4,5,6] ++ ([7,8])) rfl fun K hK=>?_
 refine oSg fun L hL=>?_
 simp [C.spec_l5Arc,ht.2,z11,s11]
 refine wcall1 (hLn) (by simp) (by simp) ?_
 simp [C.spec_l5Arc,ht.2,z11,s11]
 refine hL _ ?_;clear hL L
 refine oEn fun L hL=>?_
 simp [C.spec_l5Arc,ht.2,z11,s11]
 refine hL _ ?_;clear hL L
 simp [C.spec_l5Arc,ht.2,z11,s11]
 refine hK _ ?_;clear hK K
 show AWp _ _ _ _ _
 refine wseq ?_
 refine wreg fun K hK=>?_
 simp [C.spec_l5Arc,hp0,z12,bls_set]
 refine hK _ ?_;clear hK K
 show AWp _ _ _ _ _
 refine wseq ?_
 refine wreg fun K hK=>?_
 simp [C.spec_l5Arc,ht.2,z13,bls_set]
 refine hK _ ?_;clear hK K
 show AWp _ _ _ _ _
 refine wseq ?_
 refine wseq ?_
 refine wreg fun K hK=>?_
 simp [C.spec_l5Arc]
 refine hK _ ?_;clear hK K
 show AWp _ _ _ _ _
 refine wblock ?_
 refine wloopW (fun n:Nat=>⟨ofL [(0,.int v),(1,.d (.sh 2 l.length (rows gM (l.map dgI)))),(2,.int a),(3,.int c),(10,.int B),(12,.al (12,0) [] 0 v),(13,.al (13,0) [] 0 v),(14,.al (14,0) [] 0 v),(15,.al (15,0) [] 0 N),(18,.int n)],ofRO [((12,0),some (.ow 1 v (rows lM (grunN (updX v l) T n G0).2.1))),((13,0),some (.ow 1 v (rows lM (grunN (updX v l) T n G0).2.2))),((14,0),some (.ow 1 v (bls (grunN (updX v l) T n G0).1))),((15,0),some (.ow 1 N (rows lO (T.map t3L))))]⟩) (fun n=>n<=v) (fun n=>v - n) 0 [.cell (12,0) [] t.2.1 2,.cell (13,0) [] t.1 2] (by simp [C.spec_l5Arc,z14,z15,s14,s15,ht.2,hp0,grunN,hG0,kn0,stX];exact ro_step _ _ _ _ _ _) (by simp) ?_
 intro x1 hx1 R1 hR1
 have hn1:x1<=v:=hx1
 refine wseq ?_
 refine wseq ?_
 refine wreg fun K hK=>?_
 simp [C.spec_l5Arc]
 refine hK _ ?_;clear hK K
 show AWp _ _ _ _ _
 refine wcond _ rfl (fun hc1=>?_) (fun hc1=>?_)
 ·have h1:x1 < v:=by have:=d_t hc1;omega
  obtain ⟨P1,hP1⟩:∃ P1,P1=grunN (updX v l) T x1 G0:=⟨_,rfl⟩
  have hGP1:GSt v l t P1:=by rw [hP1];exact GSt.runN hTB x1 hGS0
  have hlast:=grunN_last (updX v l) T x1 G0
  rw [<-hP1] at hlast
  rw [<-hP1]
  refine wskip ?_
  show AWp _ _ _ _ _
  refine wseq ?_
  refine wblock ?_
  refine wseq ?_
  refine wreg fun K hK=>?_
  simp [C.spec_l5Arc]
  refine hK _ ?_;clear hK K
  show AWp _ _ _ _ _
  refine wblock ?_
  refine wloop (fun k:Nat=>⟨ofL [(0,.int v),(1,.d (.sh 2 l.length (rows gM (l.map dgI)))),(2,.int a),(3,.int c),(10,.int B),(12,.al (12,0) [] 0 v),(13,.al (13,0) [] 0 v),(14,.al (14,0) [] 0 v),(15,.al (15,0) [] 0 N),(18,.int x1),(19,.int k)],ofRO [((12,0),some (.ow 1 v (rows lM (grun1 (updX v l) P1 (T.take k)).2.1))),((13,0),some (.ow 1 v (rows lM (grun1 (updX v l) P1 (T.take k)).2.2))),((14,0),some (.ow 1 v (bls (grun1 (updX v l) P1 (T.take k)).1))),((15,0),some (.ow 1 N (rows lO (T.map t3L))))]⟩) (fun k=>k<=N) (fun k=>N - k) 0 (by simp [C.spec_l5Arc,grun1]) (by simp) ?_
  intro x2 hx2 R2 hR2
  refine wseq ?_
  refine wseq ?_
  refine wreg fun K hK=>?_
  simp [C.spec_l5Arc]
  refine hK _ ?_;clear hK K
  show AWp _ _ _ _ _
  refine wcond _ rfl (fun hc2=>?_) (fun hc2=>?_)
  ·have h2:x2 < N:=by have:=d_t hc2;omega
   have h2T:x2 < T.length:=by omega
   obtain ⟨u,hu⟩:∃ u,u=T[x2]:=⟨_,rfl⟩
   have huB:TrB v u:=by rw [hu];exact hTB _ (List.getElem_mem h2T)
   have hut:=tris_bd (v:=v) (l:=l) (t:=u) (by rw [htr,<-hTe,hu];exact List.getElem_mem h2T)
   obtain ⟨P2,hP2⟩:∃ P2,P2=grun1 (updX v l) P1 (T.take x2):=⟨_,rfl⟩
   have hGP2:GSt v l t P2:=by rw [hP2];exact hGP1.run1 fun x hx=>hTB x (List.mem_of_mem_take hx)
   have hsnoc:grun1 (updX v l) P1 (T.take (x2+1))=g3 (updX v l) u 3 P2:=by rw [List.take_succ_eq_append_getElem h2T,grun1_snoc,<-hu,<-hP2]
   rw [<-hP2]
   have hm2:x2 < (T.map t3L).length:=by simpa using h2T
   have hlu:=lO_0 hm2
   have hTu:(T.map t3L)[x2]=t3L u:=by rw [List.getElem_map,<-hu]
   rw [hTu] at hlu
   refine wskip ?_
   show AWp _ _ _ _ _
   refine wseq ?_
   refine wblock ?_
   refine wseq ?_
   refine wreg fun K hK=>?_
   simp [C.spec_l5Arc]
   refine hK _ ?_;clear hK K
   show AWp _ _ _ _ _
   refine wblock ?_
   refine wloop (fun i:Nat=>⟨ofL [(0,.int v),(1,.d (.sh 2 l.length (rows gM (l.map dgI)))),(2,.int a),(3,.int c),(10,.int B),(12,.al (12,0) [] 0 v),(13,.al (13,0) [] 0 v),(14,.al (14,0) [] 0 v),(15,.al (15,0) [] 0 N),(18,.int x1),(19,.int x2),(20,.int i)],ofRO [((12,0),some (.ow 1 v (rows lM (g3 (updX v l) u i P2).2.1))),((13,0),some (.ow 1 v (rows lM (g3 (updX v l) u i P2).2.2))),((14,0),some (.ow 1 v (bls (g3 (updX v l) u i P2).1))),((15,0),some (.ow 1 N (rows lO (T.map t3L))))]⟩) (fun i=>i<=3) (fun i=>3 - i) 0 (by simp [C.spec_l5Arc,g3]) (by simp) ?_
   intro x3 hx3 R3 hR3
   refine wseq ?_
   refine wseq ?_
   refine wreg fun K hK=>?_
   simp [C.spec_l5Arc]
   refine hK _ ?_;clear hK K
   show AWp _ _ _ _ _
   refine wcond _ rfl (fun hc3=>?_) (fun hc3=>?_)
   ·have h3:x3 < 3:=by have:=d_t hc3;omega
    obtain ⟨P3,hP3⟩:∃ P3,P3=g3 (updX v l) u x3 P2:=⟨_,rfl⟩
    have hGP3:GSt v l t P3:=by rw [hP3];exact hGP2.g3 huB x3
    have hnext:g3 (updX v l) u (x3+1) P2=gatt (updX v l) P3 (tn u x3) (tn u (x3+1)) (tn u (x3+2)):=by rw [hP3];rfl
    rw [<-hP3]
    obtain ⟨y0,w0⟩:=@t3_get u x3 h3
    obtain ⟨y1,w1⟩:=@t3_get u ((x3+1) % 3) (Nat.mod_lt _ (by omega))
    obtain ⟨y2,w2⟩:=@t3_get u ((x3+2) % 3) (Nat.mod_lt _ (by omega))
    rw [tn_mod] at w1 w2
    have t3n:(t3L u).length=3:=rfl
    have e1:IntKind.i64.wrap ((x3:Int)+1)=(x3:Int)+1:=wrapOk (by omega) (by omega)
    have e2:IntKind.i64.wrap ((x3:Int)+2)=(x3:Int)+2:=wrapOk (by omega) (by omega)
    have f1:((x3:Int)+1).tmod 3=(((x3+1) % 3:Nat):Int):=by rw [Int.tmod_eq_emod_of_nonneg (by omega)];omega
    have f2:((x3:Int)+2).tmod 3=(((x3+2) % 3:Nat):Int):=by rw [Int.tmod_eq_emod_of_nonneg (by omega)];omega
    have m1:(x3+1) % 3 < 3:=Nat.mod_lt _ (by omega)
    have m2:(x3+2) % 3 < 3:=Nat.mod_lt _ (by omega)
    generalize (x3+1) % 3=j1 at y1 w1 f1 m1
    generalize (x3+2) % 3=j2 at y2 w2 f2 m2
    have hsv:=tn_lt huB x3
    have hpv:=tn_lt huB (x3+1)
    have hqv:=tn_lt huB (x3+2)
    obtain ⟨s,hs⟩:∃ s,s=tn u x3:=⟨_,rfl⟩
    obtain ⟨p,hp⟩:∃ p,p=tn u (x3+1):=⟨_,rfl⟩
    obtain ⟨q,hq⟩:∃ q,q=tn u (x3+2):=⟨_,rfl⟩
    rw [<-hs] at w0 hsv hnext
    rw [<-hp] at w1 hpv hnext
    rw [<-hq] at w2 hqv hnext
    have hpq:p≠q:=by
     rw [hp,hq]
     obtain rfl | rfl | rfl:x3=0\/x3=1\/x3=2:=by omega
     ·show u.2.1≠u.2.2
      omega
     ·show u.2.2≠u.1
      omega
     ·show u.1≠u.2.1
      omega
    obtain ⟨bl,⟨bx,by_⟩,bb⟩:=hGP3.bd hv.2 ht
    have ks:=bls_0 (k:=P3.1) (i:=s) (by omega)
    have kp:=bls_0 (k:=P3.1) (i:=p) (by omega)
    have kq:=bls_0 (k:=P3.1) (i:=q) (by omega)
    obtain ⟨k1,hk1⟩:∃ b,b=P3.1.getD s false:=⟨_,rfl⟩
    obtain ⟨k2,hk2⟩:∃ b,b=P3.1.getD p false:=⟨_,rfl⟩
    obtain ⟨k3,hk3⟩:∃ b,b=P3.1.getD q false:=⟨_,rfl⟩
    rw [<-hk1] at ks
    rw [<-hk2] at kp
    rw [<-hk3] at kq
    refine wskip ?_
    show AWp _ _ _ _ _
    refine wseq ?_
    refine wblock ?_
    refine wseq ?_
    refine wreg fun K hK=>?_
    simp [C.spec_l5Arc,hlu,h2,owI,get_ints,y0,w0,t3n,h3,show (x3:Int) < 3 by omega]
    refine hK _ ?_;clear hK K
    show AWp _ _ _ _ _
    refine wseq ?_
    refine wreg fun K hK=>?_
    simp [C.spec_l5Arc,hlu,h2,owI,get_ints,y1,w1,t3n,e1,f1,m1,show ((j1:Nat):Int) < 3 by omega]
    refine hK _ ?_;clear hK K
    show AWp _ _ _ _ _
    refine wseq ?_
    refine wreg fun K hK=>?_
    simp [C.spec_l5Arc,hlu,h2,owI,get_ints,y2,w2,t3n,e2,f2,m2,show ((j2:Nat):Int) < 3 by omega]
    refine hK _ ?_;clear hK K
    show AWp _ _ _ _ _
    refine wseq ?_
    refine wseq ?_
    refine wregI ([0,1,2,3,4,5,6,7,8,9,10,11,12,13,14,15,16,17]) rfl fun K hK=>?_
    have hJ:K ⟨ofL [(0,.int v),(1,.d (.sh 2 l.length (rows gM (l.map dgI)))),(2,.int a),(3,.int c),(10,.int B),(12,.al (12,0) [] 0 v),(13,.al (13,0) [] 0 v),(14,.al (14,0) [] 0 v),(15,.al (15,0) [] 0 N),(16,.int p),(17,.int q),(18,.int x1),(19,.int x2),(20,.int x3),(21,.int s),(127,.bool (!(!k1 && (k2 && k3))))],ofRO [((12,0),some (.ow 1 v (rows lM P3.2.1))),((13,0),some (.ow 1 v (rows lM P3.2.2))),((14,0),some (.ow 1 v (bls P3.1))),((15,0),some (.ow 1 N (rows lO (T.map t3L))))]⟩:=by
     refine hK _ ?_;clear hK K
     show AWp _ _ _ _ _
     refine wcond _ rfl (fun hc4=>?_) (fun hc4=>?_)
     ·have hsk:gatt (updX v l) P3 s p q=P3:=by
       have:(!k1 && (k2 && k3))=false:=by
        revert hc4
        cases k1 <;> cases k2 <;> cases k3 <;> simp
       unfold gatt
       rw [<-hk1,<-hk2,<-hk3,this]
      refine wexit ?_
      show AWp _ _ _ _ _
      refine wreg fun K hK=>?_
      simp [C.spec_l5Arc,wrap_succ (show x3 < 4611686018427387904 by omega)]
      refine hK _ ?_;clear hK K
      simp [C.spec_l5Arc]
      refine cast (congrArg R3 ?_) (hR3 (x3+1) h3 (by omega))
      rw [hnext,hsk]
      simp
     ·have hcc:k1=false/\k2=true/\k3=true:=by
       revert hc4
       cases k1 <;> cases k2 <;> cases k3 <;> simp
      obtain ⟨hc1,hc2',hc3'⟩:=hcc
      rw [hc1] at hk1
      rw [hc2'] at hk2
      rw [hc3'] at hk3
      obtain ⟨d,hd⟩:∃ d,d=srt p q:=⟨_,rfl⟩
      have hdv:d.1 < d.2/\d.2 < v:=by
       rcases Nat.lt_or_gt_of_ne hpq with g | g
       ·rw [hd,srt_lt g]
        exact ⟨g,hqv⟩
       ·rw [hd,srt_gt g]
        exact ⟨g,hpv⟩
      have hkd:P3.1.getD d.1 false=true/\P3.1.getD d.2 false=true:=by
       rcases Nat.lt_or_gt_of_ne hpq with g | g
       ·rw [hd,srt_lt g]
        exact ⟨hk2.symm,hk3.symm⟩
       ·rw [hd,srt_gt g]
        exact ⟨hk3.symm,hk2.symm⟩
      have hyes:gatt (updX v l) P3 s p q=(P3.1.set s true,updX v l P3.2 (s,p,q)):=by
       unfold gatt
       rw [<-hk1,<-hk2,<-hk3]
       rfl
      refine wskip ?_
      show AWp _ _ _ _ _
      refine wseq ?_
      refine wseq ?_
      refine wreg fun K hK=>?_
      simp [C.spec_l5Arc]
      refine hK _ ?_;clear hK K
      show AWp _ _ _ _ _
      refine wcondJ (fun σ'=>∃ ff,σ'=⟨ofL [(0,.int v),(1,.d (.sh 2 l.length (rows gM (l.map dgI)))),(2,.int a),(3,.int c),(10,.int B),(12,.al (12,0) [] 0 v),(13,.al (13,0) [] 0 v),(14,.al (14,0) [] 0 v),(15,.al (15,0) [] 0 N),(16,.int d.1),(17,.int d.2),(18,.int x1),(19,.int x2),(20,.int x3),(21,.int s),(130,ff)],ofRO [((12,0),some (.ow 1 v (rows lM P3.2.1))),((13,0),some (.ow 1 v (rows lM P3.2.2))),((14,0),some (.ow 1 v (bls P3.1))),((15,0),some (.ow 1 N (rows lO (T.map t3L))))]⟩) _ rfl ?_ (fun hc5 Qc5 hQc5=>?_) (fun hc5 Qc5 hQc5=>?_)
      ·rintro σc5 ⟨ff,rfl⟩
       have hLd:=spec_l5Length_c v l d.1 d.2 hT (by omega) hdv.2
       rw [srt_lt hdv.1,show ((d.1,d.2):Dg)=d from rfl] at hLd
       have hkey:=keyA_key (a:=expD v l d) (fun x hx=>by have:=(expD_bd v l d).2 x hx;omega) (by have:=(expD_bd v l d).1;omega)
       have hneg:=key_neg (expD v l d)
       rw [(expD_bd v l d).1,<-hB] at hneg
       have hi1:IntKind.i64.wrap (2*B)=2*B:=wrapOk (by omega) (by omega)
       have hi2:IntKind.i64.wrap (2*B - keyA 0 (expD v l d))=keyA 0 (negE (expD v l d)):=by rw [wrapOk (by omega) (by omega)];omega
       have hLa:=spec_l5Length_c v l d.2 s hT hdv.2 hsv
       have hLb:=spec_l5Length_c v l d.1 s hT (by omega) hsv
       have hn8:v - 3<=8:=by omega
       obtain ⟨A0,hA0⟩:∃ A0,A0=nf lexlt (prodL (moL v l (srt d.2 s)) (inL v l d)):=⟨_,rfl⟩
       obtain ⟨B0,hB0⟩:∃ B0,B0=nf lexlt (prodL (moL v l (srt d.1 s)) (inL v l d)):=⟨_,rfl⟩
       have hA0b:Bb (v - 3) 2 1 A0:=by rw [hA0];exact ((moL_bb v l _).prod (inL_bb v l d)).nrm
       have hB0b:Bb (v - 3) 2 1 B0:=by rw [hB0];exact ((moL_bb v l _).prod (inL_bb v l d)).nrm
       have hTa:=times_c hn8 (moL_bb v l (srt d.2 s)) (inL_bb v l d) (by omega) (by omega) (by omega)
       have hTb:=times_c hn8 (moL_bb v l (srt d.1 s)) (inL_bb v l d) (by omega) (by omega) (by omega)
       rw [<-hB,<-hA0] at hTa
       rw [<-hB,<-hB0] at hTb
       have hPa:=plus_c (n:=v - 3) (E:=2) (K:=1) (x:=[]) (k:=-1) ⟨fun x hx=>absurd hx (by simp),by simp [absK],by simp⟩ hA0b (by omega) (by omega) rfl
       have hPb:=plus_c (n:=v - 3) (E:=2) (K:=1) (x:=[]) (k:=-1) ⟨fun x hx=>absurd hx (by simp),by simp [absK],by simp⟩ hB0b (by omega) (by omega) rfl
       obtain ⟨AL,hAL⟩:∃ AL,AL=aL v l d s:=⟨_,rfl⟩
       obtain ⟨BL,hBL⟩:∃ BL,BL=bL v l d s:=⟨_,rfl⟩
       have hALe:AL=if d.2 < s then nf lexlt ([] ++ scL (-1) A0) else A0:=by rw [hAL,hA0];rfl
       have hBLe:BL=if s < d.1 then nf lexlt ([] ++ scL (-1) B0) else B0:=by rw [hBL,hB0];rfl
       have hALb:Bb (v - 3) 2 1 AL:=by rw [hAL];exact aL_bb v l d s
       have hBLb:Bb (v - 3) 2 1 BL:=by rw [hBL];exact bL_bb v l d s
       have hkn1:=hGP3.known ht hkd.1
       have hkn2:=hGP3.known ht hkd.2
       have hunk:=hGP3.unknown ht hsv hk1.symm
       have xd1:=lM_some hkn1.1
       have xd2:=lM_some hkn2.1
       have yd1:=lM_some hkn1.2
       have yd2:=lM_some hkn2.2
       have xs0:=lM_none hunk.1
       have ys0:=lM_none hunk.2
       have T1:=times_c hn8 hALb (bb d.1).1 (by omega) (by omega) (by omega)
       have T2:=times_c hn8 hBLb (bb d.2).1 (by omega) (by omega) (by omega)
       have T3:=times_c hn8 hALb (bb d.1).2 (by omega) (by omega) (by omega)
       have T4:=times_c hn8 hBLb (bb d.2).2 (by omega) (by omega) (by omega)
       have U1:=plus_c (k:=1) ((hALb.prod (bb d.1).1).nrm) ((hBLb.prod (bb d.2).1).nrm) (by omega) (by omega) rfl
       have U2:=plus_c (k:=1) ((hALb.prod (bb d.1).2).nrm) ((hBLb.prod (bb d.2).2).nrm) (by omega) (by omega) rfl
       rw [<-hB] at T1 T2 T3 T4
       have N1:newL v l d s P3.2.1=nf lexlt (nf lexlt (prodL AL (gX P3.2.1 d.1)) ++ scL 1 (nf lexlt (prodL BL (gX P3.2.1 d.2)))):=by rw [hAL,hBL];rfl
       have N2:newL v l d s P3.2.2=nf lexlt (nf lexlt (prodL AL (gX P3.2.2 d.1)) ++ scL 1 (nf lexlt (prodL BL (gX P3.2.2 d.2)))):=by rw [hAL,hBL];rfl
       rw [<-N1] at U1
       rw [<-N2] at U2
       have sx:=lM_set (X:=P3.2.1) (i:=s) (by omega) (newL v l d s P3.2.1)
       have sy:=lM_set (X:=P3.2.2) (i:=s) (by omega) (newL v l d s P3.2.2)
       have hTa2:ACalls Try.prog F.spec_l2Times [.d (.sh 2 1 [D.int (keyA 0 (expD v l (srt d.2 s))),D.int 1]),.d (.sh 2 1 [D.int (keyA 0 (negE (expD v l d))),D.int 1]),.int B] [] true (fun outs res=>outs=[]/\res=[.one (.ow 2 A0.length (rows gM (A0.map kc)))]):=hTa
       have hTb2:ACalls Try.prog F.spec_l2Times [.d (.sh 2 1 [D.int (keyA 0 (expD v l (srt d.1 s))),D.int 1]),.d (.sh 2 1 [D.int (keyA 0 (negE (expD v l d))),D.int 1]),.int B] [] true (fun outs res=>outs=[]/\res=[.one (.ow 2 B0.length (rows gM (B0.map kc)))]):=hTb
       have hPa2:ACalls Try.prog F.spec_l2Plus [.d (.sh 2 0 []),.int (-1),.d (.sh 2 A0.length (rows gM (A0.map kc)))] [] true (fun outs res=>outs=[]/\res=[.one (.ow 2 (nf lexlt ([] ++ scL (-1) A0)).length (rows gM ((nf lexlt ([] ++ scL (-1) A0)).map kc)))]):=hPa
       have hPb2:ACalls Try.prog F.spec_l2Plus [.d (.sh 2 0 []),.int (-1),.d (.sh 2 B0.length (rows gM (B0.map kc)))] [] true (fun outs res=>outs=[]/\res=[.one (.ow 2 (nf lexlt ([] ++ scL (-1) B0)).length (rows gM ((nf lexlt ([] ++ scL (-1) B0)).map kc)))]):=hPb
       obtain ⟨An,hAn⟩:∃ An,An=nf lexlt ([] ++ scL (-1) A0):=⟨_,rfl⟩
       obtain ⟨Bn,hBn⟩:∃ Bn,Bn=nf lexlt ([] ++ scL (-1) B0):=⟨_,rfl⟩
       rw [<-hAn] at hPa2 hALe
       rw [<-hBn] at hPb2 hBLe
       obtain ⟨NX,hNX⟩:∃ NX,NX=newL v l d s P3.2.1:=⟨_,rfl⟩
       obtain ⟨NY,hNY⟩:∃ NY,NY=newL v l d s P3.2.2:=⟨_,rfl⟩
       rw [<-hNX] at U1 sx
       rw [<-hNY] at U2 sy
       obtain ⟨ke,hke⟩:∃ ke,ke=keyA 0 (expD v l d):=⟨_,rfl⟩
       obtain ⟨ki,hki⟩:∃ ki,ki=keyA 0 (negE (expD v l d)):=⟨_,rfl⟩
       rw [<-hke] at hLd hi2
       rw [<-hki] at hi2 hTa2 hTb2
       show AWp _ _ _ _ _
       refine wseq ?_
       refine wregI ([0,1,2,3,4] ++ ([5])) rfl fun K hK=>?_
       refine oSg fun L hL=>?_
       simp [C.spec_l5Arc]
       refine wcall1 (hLd) (by simp []) (by simp) ?_
       simp [C.spec_l5Arc]
       refine hL _ ?_;clear hL L
       refine oEn fun L hL=>?_
       simp [C.spec_l5Arc]
       refine hL _ ?_;clear hL L
       simp [C.spec_l5Arc]
       refine hK _ ?_;clear hK K
       show AWp _ _ _ _ _
       refine wseq ?_
       refine wreg fun K hK=>?_
       simp [C.spec_l5Arc,hi1,hi2]
       refine hK _ ?_;clear hK K
       show AWp _ _ _ _ _
       refine wseq ?_
       refine wregI ([0,1,2,3,4] ++ ([5,6,7] ++ ([8]))) rfl fun K hK=>?_
       refine oSg fun L hL=>?_
       simp [C.spec_l5Arc]
       refine wcall1 (hLa) (by simp []) (by simp) ?_
       simp [C.spec_l5Arc]
       refine hL _ ?_;clear hL L
       refine oSg fun L hL=>?_
       simp [C.spec_l5Arc]
       refine wcall1 (hTa2) (by simp []) (by simp) ?_
       simp [C.spec_l5Arc]
       refine hL _ ?_;clear hL L
       refine oEn fun L hL=>?_
       simp [C.spec_l5Arc]
       refine hL _ ?_;clear hL L
       simp [C.spec_l5Arc]
       refine hK _ ?_;clear hK K
       show AWp _ _ _ _ _
       refine wseq ?_
       refine wregI ([0,1,2,3,4] ++ ([5,6,7] ++ ([8]))) rfl fun K hK=>?_
       refine oSg fun L hL=>?_
       simp [C.spec_l5Arc]
       refine wcall1 (hLb) (by simp []) (by simp) ?_
       simp [C.spec_l5Arc]
       refine hL _ ?_;clear hL L
       refine oSg fun L hL=>?_
       simp [C.spec_l5Arc]
       refine wcall1 (hTb2) (by simp []) (by simp) ?_
       simp [C.spec_l5Arc]
       refine hL _ ?_;clear hL L
       refine oEn fun L hL=>?_
       simp [C.spec_l5Arc]
       refine hL _ ?_;clear hL L
       simp [C.spec_l5Arc]
       refine hK _ ?_;clear hK K
       show AWp _ _ _ _ _
       refine wseq ?_
       refine wseq ?_
       refine wreg fun K hK=>?_
       simp [C.spec_l5Arc]
       refine hK _ ?_;clear hK K
       show AWp _ _ _ _ _
       refine wcondJ (fun σ'=>∃ ff,σ'=⟨ofL [(0,.int v),(1,.d (.sh 2 l.length (rows gM (l.map dgI)))),(2,.int a),(3,.int c),(10,.int B),(12,.al (12,0) [] 0 v),(13,.al (13,0) [] 0 v),(14,.al (14,0) [] 0 v),(15,.al (15,0) [] 0 N),(16,.int d.1),(17,.int d.2),(18,.int x1),(19,.int x2),(20,.int x3),(21,.int s),(24,.al (24,0) [] 0 AL.length),(25,.al (25,0) [] 0 B0.length),(165,ff)],ofRO [((12,0),some (.ow 1 v (rows lM P3.2.1))),((13,0),some (.ow 1 v (rows lM P3.2.2))),((14,0),some (.ow 1 v (bls P3.1))),((15,0),some (.ow 1 N (rows lO (T.map t3L)))),((24,0),some (.ow 2 AL.length (rows gM (AL.map kc)))),((25,0),some (.ow 2 B0.length (rows gM (B0.map kc))))]⟩) _ rfl ?_ (fun hc6 Qc6 hQc6=>?_) (fun hc6 Qc6 hQc6=>?_)
       ·rintro σc6 ⟨ff6,rfl⟩
        show AWp _ _ _ _ _
        refine wseq ?_
        refine wseq ?_
        refine wreg fun K hK=>?_
        simp [C.spec_l5Arc]
        refine hK _ ?_;clear hK K
        show AWp _ _ _ _ _
        refine wcondJ (fun σ'=>∃ ff,σ'=⟨ofL [(0,.int v),(1,.d (.sh 2 l.length (rows gM (l.map dgI)))),(2,.int a),(3,.int c),(10,.int B),(12,.al (12,0) [] 0 v),(13,.al (13,0) [] 0 v),(14,.al (14,0) [] 0 v),(15,.al (15,0) [] 0 N),(16,.int d.1),(17,.int d.2),(18,.int x1),(19,.int x2),(20,.int x3),(21,.int s),(24,.al (24,0) [] 0 AL.length),(25,.al (25,0) [] 0 BL.length),(171,ff)],ofRO [((12,0),some (.ow 1 v (rows lM P3.2.1))),((13,0),some (.ow 1 v (rows lM P3.2.2))),((14,0),some (.ow 1 v (bls P3.1))),((15,0),some (.ow 1 N (rows lO (T.map t3L)))),((24,0),some (.ow 2 AL.length (rows gM (AL.map kc)))),((25,0),some (.ow 2 BL.length (rows gM (BL.map kc))))]⟩) _ rfl ?_ (fun hc7 Qc7 hQc7=>?_) (fun hc7 Qc7 hQc7=>?_)
        ·rintro σc7 ⟨ff7,rfl⟩
         show AWp _ _ _ _ _
         refine wseq ?_
         refine wdrawI [(true,0),(true,1),(true,2),(true,3),(true,4),(true,5),(true,6),(true,7),(true,9),(true,10),(true,11),(true,12),(true,13),(true,14),(false,8),(false,15),(false,16),(true,17),(false,18)] ⟨by kernel_rfl,by kernel_rfl⟩ ([0,1,2,3,4,5,6,7,9,10,11,12,13,14,8] ++ ([15] ++ ([16] ++ ([17,18])))) rfl fun K hK=>?_
         have hJ:K ⟨ofL [(0,.int v),(1,.d (.sh 2 l.length (rows gM (l.map dgI)))),(2,.int a),(3,.int c),(10,.int B),(12,.al (12,0) [] 0 v),(13,.al (13,0) [] 0 v),(14,.al (14,0) [] 0 v),(15,.al (15,0) [] 0 N),(16,.int d.1),(17,.int d.2),(18,.int x1),(19,.int x2),(20,.int x3),(21,.int s),(24,.al (24,0) [] 0 AL.length),(25,.al (25,0) [] 0 BL.length)],ofRO [((12,0),some (.ow 1 v (rows lM (P3.2.1.set s (some NX))))),((13,0),some (.ow 1 v (rows lM P3.2.2))),((14,0),some (.ow 1 v (bls P3.1))),((15,0),some (.ow 1 N (rows lO (T.map t3L)))),((24,0),some (.ow 2 AL.length (rows gM (AL.map kc)))),((25,0),some (.ow 2 BL.length (rows gM (BL.map kc))))]⟩:=by
          refine hK _ ?_;clear hK K
          show AWp _ _ _ _ _
          refine wseq ?_
          refine wdrawI [(true,0),(true,1),(true,2),(true,3),(true,4),(true,5),(true,6),(true,7),(true,9),(true,10),(true,11),(true,12),(true,13),(true,14),(false,8),(false,15),(false,16),(true,17),(false,18)] ⟨by kernel_rfl,by kernel_rfl⟩ ([0,1,2,3,4,5,6,7,9,10,11,12,13,14,8] ++ ([15] ++ ([16] ++ ([17,18])))) rfl fun K hK=>?_
          have hJ:K ⟨ofL [(0,.int v),(1,.d (.sh 2 l.length (rows gM (l.map dgI)))),(2,.int a),(3,.int c),(10,.int B),(12,.al (12,0) [] 0 v),(13,.al (13,0) [] 0 v),(14,.al (14,0) [] 0 v),(15,.al (15,0) [] 0 N),(18,.int x1),(19,.int x2),(20,.int x3),(21,.int s)],ofRO [((12,0),some (.ow 1 v (rows lM (P3.2.1.set s (some NX))))),((13,0),some (.ow 1 v (rows lM (P3.2.2.set s (some NY))))),((14,0),some (.ow 1 v (bls P3.1))),((15,0),some (.ow 1 N (rows lO (T.map t3L))))]⟩:=by
           refine hK _ ?_;clear hK K
           show AWp _ _ _ _ _
           refine wreg fun K hK=>?_
           simp [C.spec_l5Arc,hsv,ks,bls_set]
           refine hK _ ?_;clear hK K
           show AWp _ _ _ _ _
           refine wreg fun K hK=>?_
           simp [C.spec_l5Arc,wrap_succ (show x3 < 4611686018427387904 by omega)]
           refine hK _ ?_;clear hK K
           simp [C.spec_l5Arc]
           refine cast (congrArg R3 ?_) (hR3 (x3+1) h3 (by omega))
           rw [hnext,hyes]
           simp only [updX,<-hd,<-hNX,<-hNY]
           simp
          clear hK
          simp [C.spec_l5Arc,hsv,show d.1 < v by omega,hdv.2,yd1,yd2,ys0,by_]
          repeat' first
           | (refine wcall1 T3 ?_ (by simp) ?_;(focus (simp;done));simp [C.spec_l5Arc,yd1,yd2,ys0,sy,hsv,hdv.2,show d.1 < v by omega])
           | (refine wcall1 T4 ?_ (by simp) ?_;(focus (simp;done));simp [C.spec_l5Arc,yd1,yd2,ys0,sy,hsv,hdv.2,show d.1 < v by omega])
           | (refine wcall1 U2 ?_ (by simp) ?_;(focus (simp;done));simp [C.spec_l5Arc,ys0,sy,hsv])
           | (refine cast (congrArg K ?_) hJ;simp;done)
           | refine And.intro ?_ ?_
         clear hK
         simp [C.spec_l5Arc,hsv,show d.1 < v by omega,hdv.2,xd1,xd2,xs0,bx]
         repeat' first
          | (refine wcall1 T1 ?_ (by simp) ?_;(focus (simp;done));simp [C.spec_l5Arc,xd1,xd2,xs0,sx,hsv,hdv.2,show d.1 < v by omega])
          | (refine wcall1 T2 ?_ (by simp) ?_;(focus (simp;done));simp [C.spec_l5Arc,xd1,xd2,xs0,sx,hsv,hdv.2,show d.1 < v by omega])
          | (refine wcall1 U1 ?_ (by simp) ?_;(focus (simp;done));simp [C.spec_l5Arc,xs0,sx,hsv])
          | (refine cast (congrArg K ?_) hJ;simp;done)
          | refine And.intro ?_ ?_
        ·have hlt:s < d.1:=by have:=of_decide_eq_true hc7;omega
         have hBL2:Bn=BL:=by rw [hBLe,if_pos hlt]
         refine wregI ([0,1,2] ++ ([3])) rfl fun K hK=>?_
         refine oSg fun L hL=>?_
         simp [C.spec_l5Arc]
         refine wcall1 (hPb2) (by simp []) (by simp) ?_
         simp [C.spec_l5Arc]
         refine hL _ ?_;clear hL L
         refine oEn fun L hL=>?_
         simp [C.spec_l5Arc]
         refine hL _ ?_;clear hL L
         simp [C.spec_l5Arc]
         refine hK _ ?_;clear hK K
         refine hQc7 _ ?_
         rw [hBL2,ofL_padK 171]
         exact ⟨.dead,rfl⟩
        ·have hlt:¬ s < d.1:=by have:=of_decide_eq_false hc7;omega
         have hBL2:B0=BL:=by rw [hBLe,if_neg hlt]
         refine wskip ?_
         refine hQc7 _ ?_
         rw [hBL2]
         exact ⟨_,rfl⟩
       ·have hlt:d.2 < s:=by have:=of_decide_eq_true hc6;omega
        have hAL2:An=AL:=by rw [hALe,if_pos hlt]
        refine wregI ([0,1,2] ++ ([3])) rfl fun K hK=>?_
        refine oSg fun L hL=>?_
        simp [C.spec_l5Arc]
        refine wcall1 (hPa2) (by simp []) (by simp) ?_
        simp [C.spec_l5Arc]
        refine hL _ ?_;clear hL L
        refine oEn fun L hL=>?_
        simp [C.spec_l5Arc]
        refine hL _ ?_;clear hL L
        simp [C.spec_l5Arc]
        refine hK _ ?_;clear hK K
        refine hQc6 _ ?_
        rw [hAL2,ofL_padK 165]
        exact ⟨.dead,rfl⟩
       ·have hlt:¬ d.2 < s:=by have:=of_decide_eq_false hc6;omega
        have hAL2:A0=AL:=by rw [hALe,if_neg hlt]
        refine wskip ?_
        refine hQc6 _ ?_
        rw [hAL2]
        exact ⟨_,rfl⟩
      ·have hgt:q < p:=by have:=of_decide_eq_true hc5;omega
       have hd2:d=(q,p):=by rw [hd,srt_gt hgt]
       refine wreg fun K hK=>?_
       simp [C.spec_l5Arc]
       refine hK _ ?_;clear hK K
       refine hQc5 _ ?_
       rw [hd2,ofL_padK 130]
       exact ⟨.dead,rfl⟩
      ·have hgt:p < q:=by have:=of_decide_eq_false hc5;omega
       have hd2:d=(p,q):=by rw [hd,srt_lt hgt]
       refine wskip ?_
       refine hQc5 _ ?_
       rw [hd2]
       exact ⟨_,rfl⟩
    clear hK
    by_cases g1:k1=true
    ·refine oEn fun L hL=>?_
     simp [C.spec_l5Arc,ks,kp,kq,hsv,hpv,hqv,bl,g1]
     refine hL _ ?_;clear hL L
     simp [C.spec_l5Arc,ks,kp,kq,hsv,hpv,hqv,bl,g1]
     refine cast (congrArg K ?_) hJ
     simp [g1,g1]
    ·by_cases g2:k2=true
     ·refine oEn fun L hL=>?_
      simp [C.spec_l5Arc,ks,kp,kq,hsv,hpv,hqv,bl,g1,g2]
      refine hL _ ?_;clear hL L
      simp [C.spec_l5Arc,ks,kp,kq,hsv,hpv,hqv,bl,g1,g2]
      refine cast (congrArg K ?_) hJ
      simp [g1,g2,g1,g2]
     ·refine oEn fun L hL=>?_
      simp [C.spec_l5Arc,ks,kp,kq,hsv,hpv,hqv,bl,g1,g2]
      refine hL _ ?_;clear hL L
      simp [C.spec_l5Arc,ks,kp,kq,hsv,hpv,hqv,bl,g1,g2]
      refine cast (congrArg K ?_) hJ
      simp [g1,g2,g1,g2]
   ·have h3:x3=3:=by have:=d_f hc3;omega
    rw [h3,<-hsnoc]
    refine wexit ?_
    show AWp _ _ _ _ _
    refine wreg fun K hK=>?_
    simp [C.spec_l5Arc,wrap_succ (show x2 < 4611686018427387904 by omega)]
    refine hK _ ?_;clear hK K
    simp [C.spec_l5Arc]
    refine cast (congrArg R2 ?_) (hR2 (x2+1) h2 (by omega))
    simp
  ·have h2:x2=N:=by have:=d_f hc2;omega
   rw [h2,hN,List.take_length,<-hlast]
   refine wexit ?_
   show AWp _ _ _ _ _
   refine wreg fun K hK=>?_
   simp [C.spec_l5Arc,wrap_succ (show x1 < 4611686018427387904 by omega)]
   refine hK _ ?_;clear hK K
   simp [C.spec_l5Arc]
   refine cast (congrArg R1 ?_) (hR1 (x1+1) h1 (by omega))
   simp [hN]
 ·have h1:x1=v:=by have:=d_f hc1;omega
  rw [h1]
  obtain ⟨P,hP⟩:∃ P,P=grunN (updX v l) T v G0:=⟨_,rfl⟩
  have hGP:GSt v l t P:=by rw [hP];exact GSt.runN hTB v hGS0
  rw [<-hP] at hdet
  rw [<-hP]
  have hall:∀ i,i < v->P.1.getD i false=true:=fun i hi=>by
   obtain ⟨k',A,z1,z2,z3⟩:=same_runN (updX v l) (t :: ts) v (kn0 v t) (stX v l t) []
   have hk':P.1=(runN (t :: ts) v (kn0 v t,[])).1:=by rw [hP,hTe,hG0,z1,z2]
   rw [hk',List.getD_eq_getElem?_getD,List.getElem?_eq_getElem (by rw [htm.2.2.1];exact hi)]
   exact htm.2.1 _ (List.getElem_mem _)
  obtain ⟨bl,⟨bx,by_⟩,bb⟩:=hGP.bd hv.2 ht
  have hka:=hGP.known ht (hall a (by omega))
  have hkc:=hGP.known ht (hall c hc)
  have xa:=lM_some hka.1
  have ya:=lM_some hka.2
  have xc:=lM_some hkc.1
  have yc:=lM_some hkc.2
  have Q1:=times_c (n:=v - 3) (by omega) (bb a).1 (bb c).2 (by omega) (by omega) (by omega)
  have Q2:=times_c (n:=v - 3) (by omega) (bb a).2 (bb c).1 (by omega) (by omega) (by omega)
  have Q3:=plus_c (k:=-1) (((bb a).1.prod (bb c).2).nrm) (((bb a).2.prod (bb c).1).nrm) (by omega) (by omega) rfl
  rw [<-hB] at Q1 Q2
  rw [show nf lexlt (nf lexlt (prodL (gX P.2.1 a) (gX P.2.2 c)) ++ scL (-1) (nf lexlt (prodL (gX P.2.2 a) (gX P.2.1 c))))=detL P.2 a c from rfl,hdet] at Q3
  obtain ⟨DD,hDD⟩:∃ DD,DD=plist (lnL v l a c):=⟨_,rfl⟩
  rw [<-hDD] at Q3
  rw [<-hDD]
  refine wexit ?_
  show AWp _ _ _ _ _
  refine wseq ?_
  refine wdrawI [(true,0),(true,1),(true,2),(true,3),(true,4),(true,5),(true,6),(true,7),(true,8),(true,10),(true,11),(true,12),(true,13),(true,14),(true,15),(true,16),(true,17),(true,18),(false,9),(false,19),(false,20),(true,21)] ⟨by kernel_rfl,by kernel_rfl⟩ ([0,1,2,3,4,5,6,7,8,10,11,12,13,14,15,16,17,18,9] ++ ([19] ++ ([20] ++ ([21])))) rfl fun K hK=>?_
  have hJ:K ⟨ofL [(8,.al (8,0) [] 0 DD.length)],ofRO [((8,0),some (.ow 2 DD.length (rows gM (DD.map kc))))]⟩:=by
   refine hK _ ?_;clear hK K
   show AWp _ _ _ _ _
   refine wret ?_
   simp [C.spec_l5Arc]
  clear hK
  simp [C.spec_l5Arc,show a < v by omega,hc,xa,ya,xc,yc]
  repeat' first
   | (refine wcall1 Q1 ?_ (by simp) ?_;(focus (simp;done));simp [C.spec_l5Arc,xa,ya,xc,yc,hc,show a < v by omega])
   | (refine wcall1 Q2 ?_ (by simp) ?_;(focus (simp;done));simp [C.spec_l5Arc,xa,ya,xc,yc,hc,show a < v by omega])
   | (refine wcall1 Q3 ?_ (by simp) ?_;(focus (simp;done));simp [C.spec_l5Arc])
   | (refine cast (congrArg K ?_) hJ;simp;done)
   | refine And.intro ?_ ?_
end Go.Proofs.Ytfcgcgmleogamaa.Ab
namespace Go.Proofs.Ytfcgcgmleogamaa.Ab
open Go
set_option maxRecDepth 10000
set_option maxHeartbeats 4000000
theorem dgs_back {v:Int} {l:List DI} (h:∀ d∈l,IsDg v d):(l.map toN).map dgI=l:=by
 rw [List.map_map]
 have:∀ x∈l,(dgI ∘ toN) x=id x:=fun x hx=>dgI_toN (h x hx)
 rw [List.map_congr_left this,List.map_id]
theorem plist_kt (f:Lau):(plist f).map kc=f.ts.map kt:=by
 unfold plist
 rw [List.map_map]
 rfl
theorem spec_ArcLaurent_c (v:Int) (l:List DI) (d:DI) (hx:l.length < 4611686018427387904):ACalls Try.prog F.spec_ArcLaurent [.int v,.d (.sh 2 l.length (rows gM l)),agD d] [] true (fun outs res=>outs=[]/\WkRs res [.ag (fO (arcF v l d).1),.one (D.bool (arcF v l d).2)]):=by
 have hit:=spec_IsTriangulation_c v l hx
 have hid:=spec_IsDiagonal_c v d.1 d.2
 refine ACalls.of_body (C:=C.spec_ArcLaurent) (n:=Try.f45.ntmps) tabT folT Try.func45 rfl (by kernel_rfl) rfl (Nat.le_of_ble_eq_true rfl) (by decide) (by kernel_rfl) (by kernel_rfl) rfl (by simp) (by simp) ?_
 simp only [Try.f45]
 refine wseq ?_
 refine wreg fun K hK=>?_
 simp [C.spec_ArcLaurent,agD]
 refine hK _ ?_;clear hK K
 show AWp _ _ _ _ _
 refine wseq ?_
 refine wseq ?_
 refine wregI ([0,1,2] ++ ([3,4,5,6,7] ++ ([8,9]))) rfl fun K hK=>?_
 have hJ:K ⟨ofL [(0,.int v),(1,.d (.sh 2 l.length (rows gM l))),(5,.pt (5,0) [] 0),(6,.pt (6,0) [] 0),(17,.bool (!decide (TriI v l/\IsDg v d)))],ofRO [((5,0),some (.bx [D.int d.1,D.int d.2])),((6,0),some (.bx [D.int 0,.v (.slice none 0 0)]))]⟩:=by
  refine hK _ ?_;clear hK K
  show AWp _ _ _ _ _
  refine wcond _ rfl (fun hc1=>?_) (fun hc1=>?_)
  ·have hno:=nd_t hc1
   have hA:arcF v l d=(zeroF,false):=if_neg hno
   refine wseq ?_
   refine wreg fun K hK=>?_
   simp [C.spec_ArcLaurent,agD]
   refine hK _ ?_;clear hK K
   show AWp _ _ _ _ _
   refine wret ?_
   simp [C.spec_ArcLaurent,agD]
   rw [hA]
   simp [fO,zeroF,rows]
  ·have hy:=nd_f hc1
   obtain ⟨hT,hD⟩:=hy
   have hDD:=hD.2
   obtain ⟨V,rfl⟩:∃ V:Nat,v=V:=⟨v.toNat,by have:=hT.1;omega⟩
   have hTr:=tri_of hT
   rw [Int.toNat_natCast] at hTr
   have hvb:=hTr.vb
   obtain ⟨a,ha⟩:∃ a,a=d.1.toNat:=⟨_,rfl⟩
   obtain ⟨c,hc⟩:∃ c,c=d.2.toNat:=⟨_,rfl⟩
   have e1:d.1=(a:Int):=by omega
   have e2:d.2=(c:Int):=by omega
   have hL:=lnL_ok hTr (a:=a) (c:=c) (by omega) (by omega) (by omega)
   have hA:arcF V l d=(lnL V (l.map toN) a c,true):=by
    unfold arcF
    rw [if_pos ⟨hT,hD⟩,Int.toNat_natCast,ha,hc]
   have hArc:=spec_l5Arc_c V (l.map toN) hTr a c (by omega) (by omega)
   rw [dgs_back hT.2.2.1,plist_kt,List.length_map] at hArc
   have hv:=hL.lb.v
   obtain ⟨f,hf⟩:∃ f,f=lnL V (l.map toN) a c:=⟨_,rfl⟩
   rw [<-hf] at hL hA hArc hv
   have hw3:IntKind.i64.wrap ((V:Int) - 3)=((V - 3:Nat):Int):=by rw [wrapOk (by omega) (by omega)];omega
   have hpl:(plist f).length=f.ts.length:=by simp [plist]
   rw [hpl] at hArc
   have hfe:(⟨((V - 3:Nat):Int),f.ts⟩:Lau)=f:=by rw [<-hv]
   have hSh:=l2Shut_c f.ts (V - 3) (by have:=hL.lb.right.2.1;omega) (fun t ht=>by
    have:=hL.lb.ex (pr t) (List.mem_map.2 ⟨t,ht,rfl⟩)
    have h5:=cntD_le hTr a c
    exact ⟨fun z hz=>by have:=this.2 z hz;omega,this.1⟩) (by omega)
   rw [hfe,if_pos hL.lb.right,decide_eq_true hL.lb.right] at hSh
   refine wskip ?_
   show AWp _ _ _ _ _
   refine wseq ?_
   refine wregI ([0,1,2,3,4,5,6] ++ ([7,8,9] ++ ([10,11,12,13]))) rfl fun K hK=>?_
   refine oSg fun L hL=>?_
   simp [C.spec_ArcLaurent,agD,e1,e2,hw3]
   refine wcall1 (hArc) (by simp [agD,e1,e2,hw3]) (by simp) ?_
   simp [C.spec_ArcLaurent,agD,e1,e2,hw3]
   refine hL _ ?_;clear hL L
   refine oSg fun L hL=>?_
   simp [C.spec_ArcLaurent,agD,e1,e2,hw3]
   refine wcall1 (hSh) (by simp [agD,e1,e2,hw3]) (by simp) ?_
   simp [C.spec_ArcLaurent,agD,e1,e2,hw3]
   refine hL _ ?_;clear hL L
   refine oEn fun L hL=>?_
   simp [C.spec_ArcLaurent,agD,e1,e2,hw3]
   refine hL _ ?_;clear hL L
   simp [C.spec_ArcLaurent,agD,e1,e2,hw3]
   refine hK _ ?_;clear hK K
   show AWp _ _ _ _ _
   refine wret ?_
   simp [C.spec_ArcLaurent,agD]
   rw [hA]
   simp [fO]
 clear hK
 by_cases h1:TriI v l
 ·refine oSg fun L hL=>?_
  simp [C.spec_ArcLaurent,agD,h1]
  refine wcall1 (hit) (by simp) (by simp) ?_
  simp [C.spec_ArcLaurent,agD,h1]
  refine hL _ ?_;clear hL L
  refine oSg fun L hL=>?_
  simp [C.spec_ArcLaurent,agD,h1]
  refine wcall1 (hid) (by simp) (by simp) ?_
  simp [C.spec_ArcLaurent,agD,h1]
  refine hL _ ?_;clear hL L
  refine oEn fun L hL=>?_
  simp [C.spec_ArcLaurent,agD,h1]
  refine hL _ ?_;clear hL L
  simp [C.spec_ArcLaurent,agD,h1]
  refine cast (congrArg K ?_) hJ
  simp [h1,agD,h1]
 ·refine oSg fun L hL=>?_
  simp [C.spec_ArcLaurent,agD,h1]
  refine wcall1 (hit) (by simp) (by simp) ?_
  simp [C.spec_ArcLaurent,agD,h1]
  refine hL _ ?_;clear hL L
  refine oSg fun L hL=>?_
  simp [C.spec_ArcLaurent,agD,h1]
  refine hL _ ?_;clear hL L
  refine oEn fun L hL=>?_
  simp [C.spec_ArcLaurent,agD,h1]
  refine hL _ ?_;clear hL L
  simp [C.spec_ArcLaurent,agD,h1]
  refine cast (congrArg K ?_) hJ
  simp [h1,agD,h1]
end Go.Proofs.Ytfcgcgmleogamaa.Ab
namespace Go.Proofs.Ytfcgcgmleogamaa.Ab
open Go
set_option maxRecDepth 10000
set_option maxHeartbeats 4000000
theorem laws_szDiagonalS_c (xs:List DI) (left:Int) (h0:0<=left) (h1:left<=1048576) (hx:xs.length < 4611686018427387904):ACalls Try.prog F.laws_szDiagonalS [.d (.sh 2 xs.length (rows gM xs)),.int left] [] true (fun outs res=>outs=[]/\∃ r:Int,res=[.one (D.int r)]/\(r=-1\/(0<=r/\r+xs.length=left))):=by
 refine ACalls.of_body (C:=C.laws_szDiagonalS) (n:=Try.f44.ntmps) tabT folT Try.func44 rfl (by kernel_rfl) rfl (Nat.le_of_ble_eq_true rfl) (by decide) (by kernel_rfl) (by kernel_rfl) rfl (by simp) (by simp) ?_
 simp only [Try.f44]
 refine wseq ?_
 refine wreg fun K hK=>?_
 simp [C.laws_szDiagonalS]
 refine hK _ ?_;clear hK K
 show AWp _ _ _ _ _
 refine wseq ?_
 refine wreg fun K hK=>?_
 simp [C.laws_szDiagonalS,wrapOk (x:=left - xs.length) (by omega) (by omega)]
 refine hK _ ?_;clear hK K
 show AWp _ _ _ _ _
 refine wseq ?_
 refine wseq ?_
 refine wreg fun K hK=>?_
 simp [C.laws_szDiagonalS]
 refine hK _ ?_;clear hK K
 show AWp _ _ _ _ _
 refine wcond _ rfl (fun hc1=>?_) (fun hc1=>?_)
 ·refine wseq ?_
  refine wreg fun K hK=>?_
  simp [C.laws_szDiagonalS]
  refine hK _ ?_;clear hK K
  show AWp _ _ _ _ _
  refine wret ?_
  simp [C.laws_szDiagonalS]
 ·have hc:=of_decide_eq_false hc1
  refine wskip ?_
  show AWp _ _ _ _ _
  refine wseq ?_
  refine wreg fun K hK=>?_
  simp [C.laws_szDiagonalS]
  refine hK _ ?_;clear hK K
  show AWp _ _ _ _ _
  refine wret ?_
  simp [C.laws_szDiagonalS]
  omega
theorem laws_toDiagonal_c (x y:Int):ACalls Try.prog F.laws_toDiagonal [.ag [.int x,.int y]] [] true (fun outs res=>outs=[]/\res=[.ag [D.int x,D.int y]]):=by
 refine ACalls.of_body (C:=C.laws_toDiagonal) (n:=Try.f47.ntmps) tabT folT Try.func47 rfl (by kernel_rfl) rfl (Nat.le_of_ble_eq_true rfl) (by decide) (by kernel_rfl) (by kernel_rfl) rfl (by simp) (by simp) ?_
 simp only [Try.f47]
 refine wseq ?_
 refine wreg fun K hK=>?_
 simp [C.laws_toDiagonal]
 refine hK _ ?_;clear hK K
 show AWp _ _ _ _ _
 refine wseq ?_
 refine wreg fun K hK=>?_
 simp [C.laws_toDiagonal]
 refine hK _ ?_;clear hK K
 show AWp _ _ _ _ _
 refine wseq ?_
 refine wreg fun K hK=>?_
 simp [C.laws_toDiagonal]
 refine hK _ ?_;clear hK K
 show AWp _ _ _ _ _
 refine wseq ?_
 refine wreg fun K hK=>?_
 simp [C.laws_toDiagonal]
 refine hK _ ?_;clear hK K
 show AWp _ _ _ _ _
 refine wseq ?_
 refine wreg fun K hK=>?_
 simp [C.laws_toDiagonal]
 refine hK _ ?_;clear hK K
 show AWp _ _ _ _ _
 refine wret ?_
 simp [C.laws_toDiagonal]
theorem gM_zero:∀ n:Nat,zerosD [.int .i64 0,.int .i64 0] n=rows gM (List.replicate n ((0:Int),(0:Int)))
 | 0=>rfl
 | n+1=>by
  simp only [zerosD,gM_zero n,List.replicate_succ]
  rfl
theorem laws_toDiagonalS_c (xs:List DI) (hx:xs.length<=1048576):ACalls Try.prog F.laws_toDiagonalS [.d (.sh 2 xs.length (rows gM xs))] [] true (fun outs res=>outs=[]/\res=[.one (.ow 2 xs.length (rows gM xs))]):=by
 refine ACalls.of_body (C:=C.laws_toDiagonalS) (n:=Try.f46.ntmps) tabT folT Try.func46 rfl (by kernel_rfl) rfl (Nat.le_of_ble_eq_true rfl) (by decide) (by kernel_rfl) (by kernel_rfl) rfl (by simp) (by simp) ?_
 simp only [Try.f46]
 refine wseq ?_
 refine wreg fun K hK=>?_
 simp [C.laws_toDiagonalS]
 refine hK _ ?_;clear hK K
 show AWp _ _ _ _ _
 refine wseq ?_
 refine wreg fun K hK=>?_
 simp [C.laws_toDiagonalS,gM_zero,show (16:Int)*xs.length<=281474976710656 by omega,show (xs.length:Int)<=281474976710656 by omega]
 refine hK _ ?_;clear hK K
 show AWp _ _ _ _ _
 refine wseq ?_
 refine wseq ?_
 refine wreg fun K hK=>?_
 simp [C.laws_toDiagonalS]
 refine hK _ ?_;clear hK K
 show AWp _ _ _ _ _
 refine wblock ?_
 refine wloop (fun k:Nat=>⟨ofL [(0,.d (.sh 2 xs.length (rows gM xs))),(3,.al (3,0) [] 0 xs.length),(4,.int k)],ofRO [((3,0),some (.ow 2 xs.length (rows gM (xs.take k ++ List.replicate (xs.length - k) (0,0)))))]⟩) (fun k=>k<=xs.length) (fun k=>xs.length - k) 0 (by simp [C.laws_toDiagonalS]) (by simp) ?_
 intro x1 hx1 R1 hR1
 refine wseq ?_
 refine wseq ?_
 refine wreg fun K hK=>?_
 simp [C.laws_toDiagonalS]
 refine hK _ ?_;clear hK K
 show AWp _ _ _ _ _
 refine wcond _ rfl (fun hc1=>?_) (fun hc1=>?_)
 ·have h1:x1 < xs.length:=by have:=d_t hc1;omega
  obtain ⟨Q,hQ⟩:∃ Q,Q=xs.take x1 ++ List.replicate (xs.length - x1) ((0:Int),(0:Int)):=⟨_,rfl⟩
  have hQl:Q.length=xs.length:=by rw [hQ];simp;omega
  have h2:x1 < Q.length:=by omega
  have hQs:Q.set x1 xs[x1]=xs.take (x1+1) ++ List.replicate (xs.length - (x1+1)) ((0:Int),(0:Int)):=by
   rw [hQ,List.set_append_right _ _ (by simp;omega),show xs.length - x1=(xs.length - (x1+1))+1 by omega,List.replicate_succ,List.take_succ_eq_append_getElem h1]
   simp only [List.length_take,Nat.min_eq_left (Nat.le_of_lt h1),Nat.sub_self,List.set_cons_zero,List.append_assoc]
   rfl
  have hst:((rows gM Q).set (2*x1) (D.v (.int .i64 xs[x1].1))).set (2*x1+1) (D.v (.int .i64 xs[x1].2))=rows gM (Q.set x1 xs[x1]):=by
   have e0:=rows_set gM_two Q x1 0 (D.v (.int .i64 xs[x1].1)) (xs[x1].1,Q[x1].2) h2 (by omega) rfl
   rw [Nat.add_zero] at e0
   rw [e0]
   have h3:x1 < (Q.set x1 (xs[x1].1,Q[x1].2)).length:=by simpa using h2
   have e1:=gM_set1 h3 xs[x1].2
   rw [e1,List.set_set]
   congr 1
   simp
  rw [<-hQ]
  have tD:=laws_toDiagonal_c xs[x1].1 xs[x1].2
  refine wskip ?_
  show AWp _ _ _ _ _
  refine wseq ?_
  refine wblock ?_
  refine wregI ([0,1,2,3,4,5,6] ++ ([7,8])) rfl fun K hK=>?_
  refine oSg fun L hL=>?_
  simp [C.laws_toDiagonalS,gM_0 h1,gM_1 h1,h1,gM_0 h2,gM_1 h2,hst,hQs]
  refine wcall1 (tD) (by simp) (by simp) ?_
  simp [C.laws_toDiagonalS,gM_0 h1,gM_1 h1,h1,gM_0 h2,gM_1 h2,hst,hQs]
  refine hL _ ?_;clear hL L
  refine oEn fun L hL=>?_
  simp [C.laws_toDiagonalS,gM_0 h1,gM_1 h1,h1,gM_0 h2,gM_1 h2,hst,hQs]
  refine hL _ ?_;clear hL L
  simp [C.laws_toDiagonalS,gM_0 h1,gM_1 h1,h1,gM_0 h2,gM_1 h2,hst,hQs]
  refine hK _ ?_;clear hK K
  show AWp _ _ _ _ _
  refine wreg fun K hK=>?_
  simp [C.laws_toDiagonalS,wrap_succ (show x1 < 4611686018427387904 by omega)]
  refine hK _ ?_;clear hK K
  simp [C.laws_toDiagonalS]
  exact hR1 (x1+1) h1 (by omega)
 ·have h1:x1=xs.length:=by have:=d_f hc1;omega
  refine wexit ?_
  show AWp _ _ _ _ _
  refine wseq ?_
  refine wreg fun K hK=>?_
  simp [C.laws_toDiagonalS]
  refine hK _ ?_;clear hK K
  show AWp _ _ _ _ _
  refine wret ?_
  simp [C.laws_toDiagonalS]
  rw [h1,List.take_length]
  simp
theorem laws_eqDiagonal_c (x y:Int):ACalls Try.prog F.laws_eqDiagonal [.ag [.int x,.int y],.ag [.int x,.int y]] [] true (fun outs res=>outs=[]/\res=[.one (D.bool true)]):=by
 refine ACalls.of_body (C:=C.laws_eqDiagonal) (n:=Try.f107.ntmps) tabT folT Try.func107 rfl (by kernel_rfl) rfl (Nat.le_of_ble_eq_true rfl) (by decide) (by kernel_rfl) (by kernel_rfl) rfl (by simp) (by simp) ?_
 simp only [Try.f107]
 refine wseq ?_
 refine wreg fun K hK=>?_
 simp [C.laws_eqDiagonal]
 refine hK _ ?_;clear hK K
 show AWp _ _ _ _ _
 refine wseq ?_
 refine wseq ?_
 refine wreg fun K hK=>?_
 simp [C.laws_eqDiagonal]
 refine hK _ ?_;clear hK K
 show AWp _ _ _ _ _
 refine wcond _ rfl (fun hc1=>?_) (fun hc1=>?_)
 ·simp at hc1
 ·refine wskip ?_
  show AWp _ _ _ _ _
  refine wseq ?_
  refine wseq ?_
  refine wreg fun K hK=>?_
  simp [C.laws_eqDiagonal]
  refine hK _ ?_;clear hK K
  show AWp _ _ _ _ _
  refine wcond _ rfl (fun hc2=>?_) (fun hc2=>?_)
  ·simp at hc2
  ·refine wskip ?_
   show AWp _ _ _ _ _
   refine wseq ?_
   refine wreg fun K hK=>?_
   simp [C.laws_eqDiagonal]
   refine hK _ ?_;clear hK K
   show AWp _ _ _ _ _
   refine wret ?_
   simp [C.laws_eqDiagonal]
theorem laws_eqDiagonalS_c (xs:List DI) (hx:xs.length < 4611686018427387904):ACalls Try.prog F.laws_eqDiagonalS [.d (.sh 2 xs.length (rows gM xs)),.d (.sh 2 xs.length (rows gM xs))] [] true (fun outs res=>outs=[]/\res=[.one (D.bool true)]):=by
 refine ACalls.of_body (C:=C.laws_eqDiagonalS) (n:=Try.f49.ntmps) tabT folT Try.func49 rfl (by kernel_rfl) rfl (Nat.le_of_ble_eq_true rfl) (by decide) (by kernel_rfl) (by kernel_rfl) rfl (by simp) (by simp) ?_
 simp only [Try.f49]
 refine wseq ?_
 refine wreg fun K hK=>?_
 simp [C.laws_eqDiagonalS]
 refine hK _ ?_;clear hK K
 show AWp _ _ _ _ _
 refine wseq ?_
 refine wseq ?_
 refine wreg fun K hK=>?_
 simp [C.laws_eqDiagonalS]
 refine hK _ ?_;clear hK K
 show AWp _ _ _ _ _
 refine wcond _ rfl (fun hc1=>?_) (fun hc1=>?_)
 ·simp at hc1
 ·refine wskip ?_
  show AWp _ _ _ _ _
  refine wseq ?_
  refine wseq ?_
  refine wreg fun K hK=>?_
  simp [C.laws_eqDiagonalS]
  refine hK _ ?_;clear hK K
  show AWp _ _ _ _ _
  refine wblock ?_
  refine wloop (fun k:Nat=>⟨ofL [(0,.d (.sh 2 xs.length (rows gM xs))),(1,.d (.sh 2 xs.length (rows gM xs))),(5,.int k)],ofRO []⟩) (fun k=>k<=xs.length) (fun k=>xs.length - k) 0 (by simp [C.laws_eqDiagonalS]) (by simp) ?_
  intro x1 hx1 R1 hR1
  refine wseq ?_
  refine wseq ?_
  refine wreg fun K hK=>?_
  simp [C.laws_eqDiagonalS]
  refine hK _ ?_;clear hK K
  show AWp _ _ _ _ _
  refine wcond _ rfl (fun hc2=>?_) (fun hc2=>?_)
  ·have h1:x1 < xs.length:=by have:=d_t hc2;omega
   have eD:=laws_eqDiagonal_c xs[x1].1 xs[x1].2
   refine wskip ?_
   show AWp _ _ _ _ _
   refine wseq ?_
   refine wblock ?_
   refine wseq ?_
   refine wdrawI [(true,0),(true,1),(true,2),(true,3),(true,4),(true,5),(true,6),(true,7),(false,8),(true,9)] ⟨by kernel_rfl,by kernel_rfl⟩ ([0,1,2,3,4,5,6,7,8] ++ ([9])) rfl fun K hK=>?_
   have hJ:K ⟨ofL [(0,.d (.sh 2 xs.length (rows gM xs))),(1,.d (.sh 2 xs.length (rows gM xs))),(5,.int x1),(26,.bool false)],ofRO []⟩:=by
    refine hK _ ?_;clear hK K
    show AWp _ _ _ _ _
    refine wcond _ rfl (fun hc3=>?_) (fun hc3=>?_)
    ·simp at hc3
    ·refine wskip ?_
     show AWp _ _ _ _ _
     refine wreg fun K hK=>?_
     simp [C.laws_eqDiagonalS,wrap_succ (show x1 < 4611686018427387904 by omega)]
     refine hK _ ?_;clear hK K
     simp [C.laws_eqDiagonalS]
     exact hR1 (x1+1) h1 (by omega)
   clear hK
   simp [C.laws_eqDiagonalS,gM_0 h1,gM_1 h1,h1]
   repeat' first
    | (refine wcall1 eD ?_ (by simp) ?_;(focus (simp;done));simp [C.laws_eqDiagonalS])
    | (refine cast (congrArg K ?_) hJ;simp;done)
    | refine And.intro ?_ ?_
  ·refine wexit ?_
   show AWp _ _ _ _ _
   refine wseq ?_
   refine wreg fun K hK=>?_
   simp [C.laws_eqDiagonalS]
   refine hK _ ?_;clear hK K
   show AWp _ _ _ _ _
   refine wret ?_
   simp [C.laws_eqDiagonalS]
theorem laws_markDiagonalS_c (xs:List DI) (k:Int) (hk0:0<=k) (hk:k+2*xs.length < 4611686018427387904) (hx:xs.length < 4611686018427387904):ACalls Try.prog F.laws_markDiagonalS [.al (0,0) [] 0 xs.length,.int k] [((0,0),.ow 2 xs.length (rows gM xs))] true (fun outs res=>(∃ ys:List DI,ys.length=xs.length/\outs=[.ow 2 xs.length (rows gM ys)])/\res=[.one (D.int (k+2*xs.length))]):=by
 refine ACalls.of_body (C:=C.laws_markDiagonalS) (n:=Try.f50.ntmps) tabT folT Try.func50 rfl (by kernel_rfl) rfl (Nat.le_of_ble_eq_true rfl) (by decide) (by kernel_rfl) (by kernel_rfl) rfl (by simp) (by simp) ?_
 simp only [Try.f50]
 refine wseq ?_
 refine wreg fun K hK=>?_
 simp [C.laws_markDiagonalS]
 refine hK _ ?_;clear hK K
 show AWp _ _ _ _ _
 refine wseq ?_
 refine wseq ?_
 refine wreg fun K hK=>?_
 simp [C.laws_markDiagonalS]
 refine hK _ ?_;clear hK K
 show AWp _ _ _ _ _
 refine wblock ?_
 refine wloop (fun x:Nat×List DI=>⟨ofL [(0,.al (0,0) [] 0 xs.length),(1,.int (k+2*x.1)),(5,.int x.1),(1000,.al (0,0) [] 0 xs.length)],ofRO [((0,0),some (.ow 2 xs.length (rows gM x.2)))]⟩) (fun x=>x.1<=xs.length/\x.2.length=xs.length) (fun x=>xs.length - x.1) (0,xs) (by simp [C.laws_markDiagonalS]) (by simp) ?_
 intro x1 hx1 R1 hR1
 obtain ⟨j,gs⟩:=x1
 obtain ⟨h0,hl⟩:=hx1
 dsimp only at h0 hl ⊢
 refine wseq ?_
 refine wseq ?_
 refine wreg fun K hK=>?_
 simp [C.laws_markDiagonalS]
 refine hK _ ?_;clear hK K
 show AWp _ _ _ _ _
 refine wcond _ rfl (fun hc1=>?_) (fun hc1=>?_)
 ·have h1:j < xs.length:=by simpa using hc1
  have h2:j < gs.length:=by omega
  have e0:∀ z:Int,(rows gM gs).set (2*j) (D.v (.int .i64 z))=rows gM (gs.set j (z,gs[j].2)):=fun z=>by
   have e0:=rows_set gM_two gs j 0 (D.v (.int .i64 z)) (z,gs[j].2) h2 (by omega) rfl
   rw [Nat.add_zero] at e0
   exact e0
  obtain ⟨g1,hg1⟩:∃ g1,g1=gs.set j (k+2*(j:Int),gs[j].2):=⟨_,rfl⟩
  have hl1:g1.length=xs.length:=by rw [hg1,List.length_set];exact hl
  have h3:j < g1.length:=by omega
  have e1:=e0 (k+2*(j:Int))
  rw [<-hg1] at e1
  have e2:=gM_set1 h3 (k+2*(j:Int)+1)
  refine wskip ?_
  show AWp _ _ _ _ _
  refine wseq ?_
  refine wblock ?_
  refine wseq ?_
  refine wreg fun K hK=>?_
  simp [C.laws_markDiagonalS,h1,hl,h2,gM_0 h2,gM_1 h2,e1]
  refine hK _ ?_;clear hK K
  show AWp _ _ _ _ _
  refine wseq ?_
  refine wreg fun K hK=>?_
  simp [C.laws_markDiagonalS,wrapOk (x:=k+2*(j:Int)+1) (by omega) (by omega)]
  refine hK _ ?_;clear hK K
  show AWp _ _ _ _ _
  refine wseq ?_
  refine wreg fun K hK=>?_
  simp [C.laws_markDiagonalS,h1,hl1,h3,gM_0 h3,gM_1 h3,e2]
  refine hK _ ?_;clear hK K
  show AWp _ _ _ _ _
  refine wreg fun K hK=>?_
  simp [C.laws_markDiagonalS]
  rw [wrapOk (x:=k+2*(j:Int)+1+1) (by omega) (by omega),show k+2*(j:Int)+1+1=k+2*((j+1:Nat):Int) by omega]
  refine hK _ ?_;clear hK K
  show AWp _ _ _ _ _
  refine wreg fun K hK=>?_
  simp [C.laws_markDiagonalS,wrap_succ (show j < 4611686018427387904 by omega)]
  refine hK _ ?_;clear hK K
  simp [C.laws_markDiagonalS]
  exact hR1 (j+1,_) ⟨h1,by simp only [List.length_set];exact hl1⟩ (by dsimp only;omega)
 ·have h1:j=xs.length:=by simp at hc1;omega
  refine wexit ?_
  show AWp _ _ _ _ _
  refine wseq ?_
  refine wreg fun K hK=>?_
  simp [C.laws_markDiagonalS]
  refine hK _ ?_;clear hK K
  show AWp _ _ _ _ _
  refine wret ?_
  simp [C.laws_markDiagonalS]
  exact ⟨⟨gs,hl,by simp⟩,by simp [h1]⟩
end Go.Proofs.Ytfcgcgmleogamaa.Ab
namespace Go.Proofs.Ytfcgcgmleogamaa.Ab
open Go
set_option maxRecDepth 10000
set_option maxHeartbeats 4000000
theorem sArc_c (v:Int) (l:List DI) (d:DI) (hx:l.length < 4611686018427387904):ACalls Try.prog F.spec_ArcLaurent [.int v,.d (.sh 2 l.length (rows gM l)),agD d] [] true (fun outs res=>outs=[]/\res=[.ag (fO (arcF v l d).1),.one (D.bool (arcF v l d).2)]):=(spec_ArcLaurent_c v l d hx).weak1
theorem arcF_small (v:Int) (l:List DI) (d:DI):SmallF (arcF v l d).1:=by
 unfold arcF
 split
 ·rename_i h
  obtain ⟨hT,hD⟩:=h
  have hTr:=tri_of hT
  have hv:=hT.1
  have h2:=hD.2
  exact small_right (lnL_ok hTr (by omega) (by omega) (by omega)).lb.right
 ·exact ⟨by simp [zeroF],by simp [zeroF],by simp [zeroF,cntL]⟩
theorem laws_FnExactArcLaurent_c (v:Int) (l:List DI) (d:DI) (hx:l.length < 4611686018427387904):ACalls Try.prog F.laws_FnExactArcLaurent [.int v,.d (.sh 2 l.length (rows gM l)),.ag [.int d.1,.int d.2]] [] true (fun outs res=>outs=[]/\res=[.one (D.bool true)]):=by
 have hgs:=arcF_small v l d
 have hw:=sArc_c v l d hx
 have hg:=iArc_c v l d hx
 generalize arcF v l d=g at hgs hw hg
 obtain ⟨g,b⟩:=g
 obtain ⟨hg1,hg2,hg3⟩:=hgs
 dsimp only at hg1 hg2 hg3 hw hg
 simp only [agD] at hw hg
 have tD:=laws_toDiagonal_c d.1 d.2
 refine ACalls.of_body (C:=C.laws_FnExactArcLaurent) (n:=Try.f8.ntmps) tabT folT Try.func8 rfl (by kernel_rfl) rfl (Nat.le_of_ble_eq_true rfl) (by decide) (by kernel_rfl) (by kernel_rfl) rfl (by simp) (by simp) ?_
 simp only [Try.f8]
 refine wseq ?_
 refine wreg fun K hK=>?_
 simp [C.laws_FnExactArcLaurent,fO]
 refine hK _ ?_;clear hK K
 show AWp _ _ _ _ _
 refine wseq ?_
 refine wreg fun K hK=>?_
 simp [C.laws_FnExactArcLaurent,fO]
 refine hK _ ?_;clear hK K
 show AWp _ _ _ _ _
 refine wseq ?_
 refine wregI ([0,1,2] ++ ([3])) rfl fun K hK=>?_
 refine oSg fun L hL=>?_
 simp [C.laws_FnExactArcLaurent,fO]
 refine wcall (laws_szDiagonalS_c l 1048576 (by omega) (by omega) hx) (by simp) (by simp) (by simp) ?_
 rintro outs res ⟨rfl,r,rfl,hr⟩
 simp [C.laws_FnExactArcLaurent,fO]
 refine hL _ ?_;clear hL L
 refine oEn fun L hL=>?_
 simp [C.laws_FnExactArcLaurent,fO]
 refine hL _ ?_;clear hL L
 simp [C.laws_FnExactArcLaurent,fO]
 refine hK _ ?_;clear hK K
 show AWp _ _ _ _ _
 refine wseq ?_
 refine wseq ?_
 refine wreg fun K hK=>?_
 simp [C.laws_FnExactArcLaurent,fO]
 refine hK _ ?_;clear hK K
 show AWp _ _ _ _ _
 refine wcond _ rfl (fun hc1=>?_) (fun hc1=>?_)
 ·refine wseq ?_
  refine wreg fun K hK=>?_
  simp [C.laws_FnExactArcLaurent,fO]
  refine hK _ ?_;clear hK K
  show AWp _ _ _ _ _
  refine wret ?_
  simp [C.laws_FnExactArcLaurent,fO]
 ·have hr0:0<=r:=by have:=d_f hc1;omega
  have hl:l.length<=1048576:=by omega
  have tS:=laws_toDiagonalS_c l hl
  refine wskip ?_
  show AWp _ _ _ _ _
  refine wseq ?_
  refine wdraw (.take 0 (.take 1 (.take 3 (.all [(2,.all [(4,.all [(5,.take 6 (.take 7 (.take 8 (.all [(9,.all [(10,.take 11 (.done))])])))),(9,.all [(5,.take 6 (.take 7 (.take 8 (.all [(10,.take 11 (.done))]))))])]),(9,.all [(4,.all [(5,.take 6 (.take 7 (.take 8 (.all [(10,.take 11 (.done))]))))])])]),(9,.all [(2,.all [(4,.all [(5,.take 6 (.take 7 (.take 8 (.all [(10,.take 11 (.done))]))))])])])])))) ⟨by kernel_rfl,by kernel_rfl⟩ fun K hK=>?_
  have hJ:K ⟨ofL [(0,.int v),(1,.d (.sh 2 l.length (rows gM l))),(5,.pt (5,0) [] 0),(8,.pt (8,0) [] 0),(9,.bool b)],ofRO [((5,0),some (.bx [D.int d.1,D.int d.2])),((8,0),some (.bx (fO g)))]⟩:=by
   refine hK _ ?_;clear hK K
   show AWp _ _ _ _ _
   refine wseq ?_
   refine wregI ([0,1] ++ ([2])) rfl fun K hK=>?_
   refine oSg fun L hL=>?_
   simp [C.laws_FnExactArcLaurent,fO]
   refine wcall1 (tS) (by simp) (by simp) ?_
   simp [C.laws_FnExactArcLaurent,fO]
   refine hL _ ?_;clear hL L
   refine oEn fun L hL=>?_
   simp [C.laws_FnExactArcLaurent,fO]
   refine hL _ ?_;clear hL L
   simp [C.laws_FnExactArcLaurent,fO]
   refine hK _ ?_;clear hK K
   show AWp _ _ _ _ _
   refine wseq ?_
   refine wregI ([0,1,2,3] ++ ([4] ++ ([5,6,7,8,9,10]))) rfl fun K hK=>?_
   refine oSg fun L hL=>?_
   simp [C.laws_FnExactArcLaurent,fO]
   refine wcall1 (tD) (by simp) (by simp) ?_
   simp [C.laws_FnExactArcLaurent,fO]
   refine hL _ ?_;clear hL L
   refine oSg fun L hL=>?_
   simp [C.laws_FnExactArcLaurent,fO]
   refine wcall1 (hg) (by simp [fO]) (by simp) ?_
   simp [C.laws_FnExactArcLaurent,fO]
   refine hL _ ?_;clear hL L
   refine oEn fun L hL=>?_
   simp [C.laws_FnExactArcLaurent,fO]
   refine hL _ ?_;clear hL L
   simp [C.laws_FnExactArcLaurent,fO]
   refine hK _ ?_;clear hK K
   show AWp _ _ _ _ _
   refine wseq ?_
   refine wseq ?_
   refine wregI ([0,1,2] ++ ([3,4,5,6,7,8])) rfl fun K hK=>?_
   refine oSg fun L hL=>?_
   simp [C.laws_FnExactArcLaurent,fO]
   refine wcall1 (laws_eqLaurent_c g g (by omega) (fun t ht=>by have:=hg2 t ht;omega)) (by simp) (by simp) ?_
   simp [C.laws_FnExactArcLaurent,fO]
   refine hL _ ?_;clear hL L
   refine oEn fun L hL=>?_
   simp [C.laws_FnExactArcLaurent,fO]
   refine hL _ ?_;clear hL L
   simp [C.laws_FnExactArcLaurent,fO]
   refine hK _ ?_;clear hK K
   show AWp _ _ _ _ _
   refine wcond _ rfl (fun hc2=>?_) (fun hc2=>?_)
   ·simp at hc2
   ·refine wskip ?_
    show AWp _ _ _ _ _
    refine wseq ?_
    refine wseq ?_
    refine wregI ([0,1,2] ++ ([3] ++ ([4]))) rfl fun K hK=>?_
    refine oSg fun L hL=>?_
    simp [C.laws_FnExactArcLaurent,fO]
    refine wcall1 (tS) (by simp) (by simp) ?_
    simp [C.laws_FnExactArcLaurent,fO]
    refine hL _ ?_;clear hL L
    refine oSg fun L hL=>?_
    simp [C.laws_FnExactArcLaurent,fO]
    refine wcall1 (laws_eqDiagonalS_c l hx) (by simp) (by simp) ?_
    simp [C.laws_FnExactArcLaurent,fO]
    refine hL _ ?_;clear hL L
    refine oEn fun L hL=>?_
    simp [C.laws_FnExactArcLaurent,fO]
    refine hL _ ?_;clear hL L
    simp [C.laws_FnExactArcLaurent,fO]
    refine hK _ ?_;clear hK K
    show AWp _ _ _ _ _
    refine wcond _ rfl (fun hc3=>?_) (fun hc3=>?_)
    ·simp at hc3
    ·refine wskip ?_
     show AWp _ _ _ _ _
     refine wseq ?_
     refine wreg fun K hK=>?_
     simp [C.laws_FnExactArcLaurent,fO]
     refine hK _ ?_;clear hK K
     show AWp _ _ _ _ _
     refine wseq ?_
     refine wregI ([0,1,2] ++ ([3])) rfl fun K hK=>?_
     refine oSg fun L hL=>?_
     simp [C.laws_FnExactArcLaurent,fO]
     refine wcall (laws_markDiagonalS_c l 1 (by omega) (by omega) hx) (by simp) (by simp) (by simp) ?_
     rintro outs res ⟨⟨ys,hy,rfl⟩,rfl⟩
     simp [C.laws_FnExactArcLaurent,fO]
     refine hL _ ?_;clear hL L
     refine oEn fun L hL=>?_
     simp [C.laws_FnExactArcLaurent,fO]
     refine hL _ ?_;clear hL L
     simp [C.laws_FnExactArcLaurent,fO]
     refine hK _ ?_;clear hK K
     show AWp _ _ _ _ _
     refine wseq ?_
     refine wseq ?_
     refine wregI ([0,1,2,3,4,5] ++ ([6,7,8,9,10,11,12])) rfl fun K hK=>?_
     refine oSg fun L hL=>?_
     simp [C.laws_FnExactArcLaurent,fO,show (0:Int)<=1+2*(l.length:Int) by omega,show ¬ ((1:Int)+2*(l.length:Int) < 0) by omega]
     refine wcall1 (laws_eqLaurent_c g g (by omega) (fun t ht=>by have:=hg2 t ht;omega)) (by simp) (by simp) ?_
     simp [C.laws_FnExactArcLaurent,fO,show (0:Int)<=1+2*(l.length:Int) by omega,show ¬ ((1:Int)+2*(l.length:Int) < 0) by omega]
     refine hL _ ?_;clear hL L
     refine oEn fun L hL=>?_
     simp [C.laws_FnExactArcLaurent,fO,show (0:Int)<=1+2*(l.length:Int) by omega,show ¬ ((1:Int)+2*(l.length:Int) < 0) by omega]
     refine hL _ ?_;clear hL L
     simp [C.laws_FnExactArcLaurent,fO,show (0:Int)<=1+2*(l.length:Int) by omega,show ¬ ((1:Int)+2*(l.length:Int) < 0) by omega]
     refine hK _ ?_;clear hK K
     show AWp _ _ _ _ _
     refine wcond _ rfl (fun hc4=>?_) (fun hc4=>?_)
     ·simp at hc4
     ·refine wskip ?_
      show AWp _ _ _ _ _
      refine wseq ?_
      refine wreg fun K hK=>?_
      simp [C.laws_FnExactArcLaurent,fO]
      refine hK _ ?_;clear hK K
      show AWp _ _ _ _ _
      refine wseq ?_
      refine wregI ([0,1,2] ++ ([3])) rfl fun K hK=>?_
      refine oSg fun L hL=>?_
      simp [C.laws_FnExactArcLaurent,fO]
      refine wcall1 (laws_markLaurent_c g 1 (by omega) (by omega) (by omega)) (by simp) (by simp) ?_
      simp [C.laws_FnExactArcLaurent,fO]
      refine hL _ ?_;clear hL L
      refine oEn fun L hL=>?_
      simp [C.laws_FnExactArcLaurent,fO]
      refine hL _ ?_;clear hL L
      simp [C.laws_FnExactArcLaurent,fO]
      refine hK _ ?_;clear hK K
      show AWp _ _ _ _ _
      refine wseq ?_
      refine wreg fun K hK=>?_
      simp [C.laws_FnExactArcLaurent,fO]
      refine hK _ ?_;clear hK K
      show AWp _ _ _ _ _
      refine wseq ?_
      refine wregI ([0,1,2] ++ ([3])) rfl fun K hK=>?_
      refine oSg fun L hL=>?_
      simp [C.laws_FnExactArcLaurent,fO]
      refine wcall1 (laws_heldLaurent_c g.v g.ts 1 (by omega) (by omega) (by omega)) (by simp) (by simp) ?_
      simp [C.laws_FnExactArcLaurent,fO]
      refine hL _ ?_;clear hL L
      refine oEn fun L hL=>?_
      simp [C.laws_FnExactArcLaurent,fO]
      refine hL _ ?_;clear hL L
      simp [C.laws_FnExactArcLaurent,fO]
      refine hK _ ?_;clear hK K
      show AWp _ _ _ _ _
      refine wseq ?_
      refine wseq ?_
      refine wreg fun K hK=>?_
      simp [C.laws_FnExactArcLaurent,fO]
      refine hK _ ?_;clear hK K
      show AWp _ _ _ _ _
      refine wcond _ rfl (fun hc5=>?_) (fun hc5=>?_)
      ·have:=d_t hc5;omega
      ·refine wskip ?_
       show AWp _ _ _ _ _
       refine wseq ?_
       refine wseq ?_
       refine wreg fun K hK=>?_
       simp [C.laws_FnExactArcLaurent,fO]
       refine hK _ ?_;clear hK K
       show AWp _ _ _ _ _
       refine wcond _ rfl (fun hc6=>?_) (fun hc6=>?_)
       ·simp at hc6
       ·refine wskip ?_
        show AWp _ _ _ _ _
        refine wseq ?_
        refine wdraw (.take 0 (.take 1 (.take 3 (.all [(2,.all [(4,.all [(5,.take 6 (.take 7 (.take 8 (.all [(9,.all [(10,.take 11 (.done))])])))),(9,.all [(5,.take 6 (.take 7 (.take 8 (.all [(10,.take 11 (.done))]))))])]),(9,.all [(4,.all [(5,.take 6 (.take 7 (.take 8 (.all [(10,.take 11 (.done))]))))])])]),(9,.all [(2,.all [(4,.all [(5,.take 6 (.take 7 (.take 8 (.all [(10,.take 11 (.done))]))))])])])])))) ⟨by kernel_rfl,by kernel_rfl⟩ fun K hK=>?_
        have hJ:K ⟨ofL [(8,.pt (8,0) [] 0),(9,.bool b),(11,.pt (11,0) [] 0),(14,.int (1+(cntL cntT g.ts:Nat))),(16,.pt (16,0) [] 0),(17,.bool b)],ofRO [((8,0),some (.bx (fO g))),((11,0),some (.bx [D.int g.v,.ow 2 g.ts.length (rows tO (mkL cntT mkT g.ts 1))])),((16,0),some (.bx (fO g)))]⟩:=by
         refine hK _ ?_;clear hK K
         show AWp _ _ _ _ _
         refine wseq ?_
         refine wseq ?_
         refine wregI ([0,1,2] ++ ([3,4,5,6,7,8])) rfl fun K hK=>?_
         refine oSg fun L hL=>?_
         simp [C.laws_FnExactArcLaurent,fO]
         refine wcall1 (laws_eqLaurent_c g g (by omega) (fun t ht=>by have:=hg2 t ht;omega)) (by simp) (by simp) ?_
         simp [C.laws_FnExactArcLaurent,fO]
         refine hL _ ?_;clear hL L
         refine oEn fun L hL=>?_
         simp [C.laws_FnExactArcLaurent,fO]
         refine hL _ ?_;clear hL L
         simp [C.laws_FnExactArcLaurent,fO]
         refine hK _ ?_;clear hK K
         show AWp _ _ _ _ _
         refine wcond _ rfl (fun hc7=>?_) (fun hc7=>?_)
         ·simp at hc7
         ·refine wskip ?_
          show AWp _ _ _ _ _
          refine wseq ?_
          refine wreg fun K hK=>?_
          simp [C.laws_FnExactArcLaurent,fO]
          refine hK _ ?_;clear hK K
          show AWp _ _ _ _ _
          refine wseq ?_
          refine wregI ([0,1,2] ++ ([3])) rfl fun K hK=>?_
          refine oSg fun L hL=>?_
          simp [C.laws_FnExactArcLaurent,fO]
          refine wcall1 (laws_heldLaurent_c g.v g.ts 1 (by omega) (by omega) (by omega)) (by simp) (by simp) ?_
          simp [C.laws_FnExactArcLaurent,fO]
          refine hL _ ?_;clear hL L
          refine oEn fun L hL=>?_
          simp [C.laws_FnExactArcLaurent,fO]
          refine hL _ ?_;clear hL L
          simp [C.laws_FnExactArcLaurent,fO]
          refine hK _ ?_;clear hK K
          show AWp _ _ _ _ _
          refine wseq ?_
          refine wseq ?_
          refine wreg fun K hK=>?_
          simp [C.laws_FnExactArcLaurent,fO]
          refine hK _ ?_;clear hK K
          show AWp _ _ _ _ _
          refine wcond _ rfl (fun hc8=>?_) (fun hc8=>?_)
          ·have:=d_t hc8;omega
          ·refine wskip ?_
           show AWp _ _ _ _ _
           refine wseq ?_
           refine wseq ?_
           refine wreg fun K hK=>?_
           simp [C.laws_FnExactArcLaurent,fO]
           refine hK _ ?_;clear hK K
           show AWp _ _ _ _ _
           refine wcond _ rfl (fun hc9=>?_) (fun hc9=>?_)
           ·simp at hc9
           ·refine wskip ?_
            show AWp _ _ _ _ _
            refine wseq ?_
            refine wreg fun K hK=>?_
            simp [C.laws_FnExactArcLaurent,fO]
            refine hK _ ?_;clear hK K
            show AWp _ _ _ _ _
            refine wret ?_
            simp [C.laws_FnExactArcLaurent,fO]
        clear hK
        simp [C.laws_FnExactArcLaurent,fO]
        repeat' first
         | (refine wcall1 (tS) ?_ (by simp) ?_;(focus (simp;done));simp [C.laws_FnExactArcLaurent,fO])
         | (refine wcall1 (tD) ?_ (by simp) ?_;(focus (simp;done));simp [C.laws_FnExactArcLaurent,fO])
         | (refine wcall1 (hg) ?_ (by simp) ?_;(focus (simp;done));simp [C.laws_FnExactArcLaurent,fO])
         | (refine cast (congrArg K ?_) hJ;simp [fO];done)
         | refine And.intro ?_ ?_
  clear hK
  simp [C.laws_FnExactArcLaurent,fO]
  repeat' first
   | (refine wcall1 (tS) ?_ (by simp) ?_;(focus (simp;done));simp [C.laws_FnExactArcLaurent,fO])
   | (refine wcall1 (tD) ?_ (by simp) ?_;(focus (simp;done));simp [C.laws_FnExactArcLaurent,fO])
   | (refine wcall1 (hw) ?_ (by simp) ?_;(focus (simp;done));simp [C.laws_FnExactArcLaurent,fO])
   | (refine cast (congrArg K ?_) hJ;simp [fO];done)
   | refine And.intro ?_ ?_
end Go.Proofs.Ytfcgcgmleogamaa.Ab
namespace Go.Proofs.Ytfcgcgmleogamaa.Ab
open Go Go.ChangeShapes Go.WideShapes Go.ChangeAt Go.RowKit
set_option maxRecDepth 100000
section
variable {H:Type} {enc:TypeId×Value->H} {W:World}
def DgB (d:Int×Int):Prop:=i64b d.1/\i64b d.2
theorem opDg:Opens enc Try.prog W 78 2 (Int×Int) gM DgB:=
 (Opens.struct2 opInt opInt Try.underlying78 ⟨rfl,rfl⟩ ⟨rfl,rfl⟩ (by kernel_rfl)).to (fun a=>(a.1,a.2)) (fun a=>rfl) (fun _=>rfl) (fun _ h=>⟨h.1,h.2⟩)
theorem argDg:Arg enc Try.prog W 78 (Int×Int) (fun d=>.ag ((gM d).map .d)) DgB:=Arg.agg opDg (by kernel_rfl) (of_decide_eq_true (by kernel_rfl)) Try.underlying78
def DgsB (l:List (Int×Int)):Prop:=(∀ x∈l,DgB x)/\l.length*16<=140737488351232
theorem opDgs:Opens enc Try.prog W 77 1 (List (Int×Int)) (fun l=>[.sh 2 l.length (rows gM l)]) DgsB:=
 Opens.slice opDg (by omega) Try.underlying77 (by kernel_rfl) (by kernel_rfl)
theorem argDgs:Arg enc Try.prog W 77 (List (Int×Int)) (fun l=>.d (.sh 2 l.length (rows gM l))) DgsB:=Arg.one opDgs (by kernel_rfl) (of_decide_eq_true (by kernel_rfl)) (by kernel_rfl)
theorem DgsB.small {l:List (Int×Int)} (h:DgsB l):l.length < 4611686018427387904:=by
 have:=h.2
 omega
end
end Go.Proofs.Ytfcgcgmleogamaa.Ab
namespace Go.Proofs.Ytfcgcgmleogamaa.Ab
open Go
theorem lawAl (v:Int) (l:List (Int×Int)) (hl:DgsB l) (d:Int×Int):ACalls Try.prog F.laws_FnExactArcLaurent [.int v,.d (.sh 2 l.length (rows gM l)),.ag ((gM d).map .d)] [] true (fun outs res=>outs=[]/\res=[.one (D.bool true)]):=laws_FnExactArcLaurent_c v l d hl.small
end Go.Proofs.Ytfcgcgmleogamaa.Ab
