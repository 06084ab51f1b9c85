/- Division of quantum sums: the reference's, the steps. Division of quantum sums: the reference's. The exchange of quantum variables, by the reference. slices.Grow of the nil slice in the calculus. Printed by wip/tools/lay.py: the contracts of slices.Grow laid at this seat. The program's sums of quantum sums. Sums of quantum sums: both sides' contracts, their common result is small. Division of quantum sums: the program's. Forms of any matrix; quantum variables, by the program. Quantum variables, by the reference. Seeds as arguments of laws: their sizes, copies. Seeds of laws: how great they are. Quantum variables: the law. Matrices and seeds as arguments of laws, read as trees. Quantum variables: the law, with its arguments. No condition. -/
import Derived.Test.YtncfmemhjahpeaaGreatKqve
import Derived.Shelf.Spec.SlicesGrow
import Derived.Test.YtncfmemhjahpeaaGreatKqvb
import Derived.Shelf.Lays8
import Derived.Test.YtncfmemhjahpeaaGreatProg
import Derived.Test.YtncfmemhjahpeaaGreatKqvd
import Derived.Test.YtncfmemhjahpeaaGreatKqvc
set_option linter.unusedVariables false
set_option linter.unusedSimpArgs false
set_option linter.unusedSectionVars false
namespace Go.Proofs.YtncfmemhjahpeaaGreat.Ab
open Go
set_option maxRecDepth 10000
set_option maxHeartbeats 2000000
def tE:Option (List (QK×Int))->List RV
 | some O=>[.one (.ow 3 O.length (rows qtS (O.map qt))),.one (D.bool true)]
 | none=>[.one (.v (.slice none 0 0)),.one (D.bool false)]
theorem iQ:∀ a b:List D,shareL (a ++ b)=shareL a ++ shareL b
 | [],_=>rfl
 | x :: a,b=>by simp only[List.cons_append,shareL,iQ a b]
def ngT (t:Qtm):Qtm:=⟨t.e,t.h,-t.c⟩
theorem A5 (l:List (QK×Int)):dG (l.map qt)=gu l:=by
 simp only[dG,gu,List.map_map];rfl
theorem Fw (l:List Qtm):dG l=gu (l.map qp):=by
 simp only[dG,gu,List.map_map];rfl
theorem FD (l:List Qtm):dG (gaQ l)<=dG l:=by
 unfold gaQ;rw[A5,Fw];exact (zQ _).1
theorem FP (l:List Qtm):dG (l.map ngT)=dG l:=by
 simp only[dG,List.map_map];congr 1;refine List.map_congr_left fun t _=>?_;simp[ngT]
theorem iU:∀ l:List Qtm,jQ (rows qtO l)
 | []=>trivial
 | t :: l=>by
  simp only[rows,qtO,List.cons_append,List.nil_append,jQ];exact⟨rfl,rfl,rfl,iU l⟩
theorem Bc (k:QK):∀ l:List Qtm,(co k (l.map qp)).natAbs<=dG l
 | []=>by simp[co,dG]
 | x :: l=>by
  have:=Bc k l;simp only[List.map_cons,co,dG,List.sum_cons] at this ⊢;have e:(qp x).2=x.c:=rfl;rw[e];split <;> omega
theorem GU {lt:QK->QK->Bool} (ho:Ord lt):∀ {l:List (QK×Int)},dY lt l->∀ x∈l,co x.1 l=x.2:=fun hd x hx=>jt ho hd hx
theorem J9 {l:List Qtm} {t:Qtm} (h:t∈gaQ l):t.c.natAbs<=dG l:=by
 unfold gaQ at h;obtain⟨x,hx,rfl⟩:=List.mem_map.1 h;have h1:=GU c7 (fa c7 _) x hx;rw[gU] at h1;have h2:=Bc x.1 l;simp only[qt];omega
theorem Fv (P:List Qtm) (x:Nat) (h:x < P.length):∃ M:List Qtm,(P.map ngT).take x ++ P.drop x=M/\M.length=P.length/\(∀ h':x < M.length,M[x]=P[x])/\M.set x (ngT P[x])=(P.map ngT).take (x+1) ++ P.drop (x+1):=by
 refine⟨_,rfl,by simp;omega,fun h'=>?_,?_⟩
 ·have:=oq (P.map ngT) P x h (by simp);rw[List.getElem?_eq_getElem h'] at this;injection this
 ·have:=ko (P.map ngT) P x (by simpa using h) (by simp);rw[List.getElem_map] at this;exact this
theorem vD (fm:List (List Int)) (f g:Qsm) (hok:bp fm) (hf:aL f) (hg:aL g) (hn:f.v=fm.length) (hgn:g.v=fm.length) (hgne:g.ts≠[]):af Tryz.prog F.aB [.d (.sh 1 fm.length (rows lS fm)),.d (.sh 3 g.ts.length (rows qtS g.ts)),.d (.sh 3 f.ts.length (rows qtS f.ts))] [] false (fun outs res=>outs=[]/\res=tE (gr fm (ir f g fm.length) g 600 (f.ts.map qp))):=by
 obtain⟨n,hnn⟩:∃ n:Nat,fm.length=n:=⟨_,rfl⟩;rw[hnn] at hn hgn ⊢;have hv:n<=8:=by have:=hf.1;omega
 have hfl:=hf.2.1;have hgl:=hg.2.1;have he:=gD hf hn;have heg:=gD hg hgn;have hG0:0 < g.ts.length:=List.length_pos_iff.2 hgne;obtain⟨hl1,hl2⟩:=xd hG0;have hgle:=heg _ (List.getElem_mem hG0);generalize hlq:ey g=lk at hl1;obtain⟨le,lh⟩:=lk;generalize hlc:ev g=lc at hl2;have hl1e:g.ts[0].e=le:=congrArg Prod.fst hl1;have hl1h:g.ts[0].h=lh:=congrArg Prod.snd hl1;rw[hl1e,hl1h,hl2] at hgle;obtain⟨hgle1,hgle2,hgle3,hgle4,hgle6,hgle5⟩:=hgle;refine af.ob (C:=C.aB) (n:=Tryz.f148.ntmps) bC bD Tryz.func148 rfl rfl ?_;simp only[Tryz.f148];apply aa;refine ab fun K hK=>?_;simp[C.aB];apply hK;clear hK K;show AWp _ _ _ _ _;apply aa;refine ab fun K hK=>?_;simp[C.aB];apply hK;clear hK K;show AWp _ _ _ _ _;apply aa;apply aa;refine ab fun K hK=>?_;simp[C.aB];apply hK;clear hK K;show AWp _ _ _ _ _;refine ap _ rfl (fun hc1=>?_) (fun hc1=>?_)
 ·have hf0:f.ts=[]:=by simpa using hc1
  have hd0:gr fm (ir f g n) g 600 (f.ts.map qp)=some []:=by rw[hf0];rfl
  apply aa;refine ab fun K hK=>?_;simp[C.aB];apply hK;clear hK K;show AWp _ _ _ _ _;apply aI;simp[C.aB,hd0,tE,rows]
 ·have hfne:f.ts≠[]:=by intro e;simp[e] at hc1
  have hF0:0 < f.ts.length:=List.length_pos_iff.2 hfne;apply au;show AWp _ _ _ _ _;apply aa;refine aK ([0,1] ++ ([2,3,4,5,6])) rfl fun K hK=>?_;refine oSg fun L hL=>?_;simp[C.aB];refine ae (nK f.ts n hv hF0 (by omega) (fun t ht=>(he t ht).1)) (by simp) (by simp) ?_;simp[C.aB];apply hL;clear hL L;refine oEn fun L hL=>?_;simp[C.aB];apply hL;clear hL L;simp[C.aB];apply hK;clear hK K;show AWp _ _ _ _ _;apply aa;refine aK ([0,1] ++ ([2,3,4,5,6])) rfl fun K hK=>?_;refine oSg fun L hL=>?_;simp[C.aB];refine ae (nK g.ts n hv hG0 (by omega) (fun t ht=>(heg t ht).1)) (by simp) (by simp) ?_;simp[C.aB];apply hL;clear hL L;refine oEn fun L hL=>?_;simp[C.aB];apply hL;clear hL L;simp[C.aB];apply hK;clear hK K;show AWp _ _ _ _ _;apply aa;apply ak;refine bm (fun x:List (QK×Int)×List (QK×Int)=>⟨ofL [(0,.d (.sh 1 n (rows lS fm))),(1,.d (.sh 3 g.ts.length (rows qtS g.ts))),(2,.d (.sh 3 x.1.length (rows qtS (x.1.map qt)))),(8,.al (8,0) [] 0 x.2.length),(9,.al (9,0) [] 0 n),(10,.al (10,0) [] 0 n),(11,.al (11,0) [] 0 n),(12,.al (12,0) [] 0 n)],aF [((8,0),some (.ow 3 x.2.length (rows qtS (x.2.map qt)))),((9,0),some (.ow 1 n (ints (dH (f.ts.map tT) n)))),((10,0),some (.ow 1 n (ints (c6 (f.ts.map tT) n)))),((11,0),some (.ow 1 n (ints (dH (g.ts.map tT) n)))),((12,0),some (.ow 1 n (ints (c6 (g.ts.map tT) n))))]⟩) (fun x=>jG fm (ir f g n) f g n x.1 x.2) (fun x=>600 - x.2.length) (f.ts.map qp,[]) (by simp[C.aB,rows,show qt ∘ qp=id from rfl]) (jG.start _ _ hf hn) ?_;intro x1 hx1 R1 hR1;obtain⟨R,O⟩:=x1;dsimp only at hx1 ⊢;apply aa;apply aa;refine ab fun K hK=>?_;simp[C.aB];apply hK;clear hK K;show AWp _ _ _ _ _;refine ap _ rfl (fun hc2=>?_) (fun hc2=>?_)
  ·obtain⟨⟨⟨a,ah⟩,c⟩,R',rfl⟩:∃ y R',R=y :: R':=by
    cases R with
    | nil=>simp at hc2
    | cons y R'=>exact⟨y,R',rfl⟩
   have ha:=hx1.rl ((a,ah),c) (by simp);obtain⟨⟨hal,hab⟩,hah⟩:=ha;dsimp only at hal hab hah;have hOl:=hx1.ol;have hcb:-1000000000000000000<=c/\c<=1000000000000000000:=by
    have h1:=hx1.ra;simp only[iK,List.map_cons,List.sum_cons] at h1;omega
   have q0:=bI (l:=qt ((a,ah),c) :: R'.map qt) (i:=0) (by simp);have q1:=bY (l:=qt ((a,ah),c) :: R'.map qt) (i:=0) (by simp);have q2:=bW (l:=qt ((a,ah),c) :: R'.map qt) (i:=0) (by simp);simp only[List.getElem_cons_zero,Nat.mul_zero,Nat.zero_add] at q0 q1 q2;rw[show (qt ((a,ah),c)).e=a from rfl] at q0;rw[show (qt ((a,ah),c)).h=ah from rfl] at q1;rw[show (qt ((a,ah),c)).c=c from rfl] at q2;have g0:=bI hG0;have g1:=bY hG0;have g2:=bW hG0;rw[hl1e] at g0;rw[hl1h] at g1;rw[hl2] at g2;simp only[Nat.mul_zero,Nat.zero_add] at g0 g1 g2;have hEl:(bc (-1) a le).length=n:=by rw[dh _ _ _ (by omega)];exact hal
   have hEg:∀ (i:Nat) (h:i < n),(bc (-1) a le)[i]'(by omega)=a[i]'(by omega) - le[i]'(by omega):=fun i h=>by
    have:=rA (-1) i a le (by omega);rw[dZ (by omega),dZ (by omega),dZ (by omega)] at this;omega
   apply au;show AWp _ _ _ _ _;apply ak;apply aa;refine ab fun K hK=>?_;simp[C.aB];apply hK;clear hK K;show AWp _ _ _ _ _;apply aa;apply aa;refine ab fun K hK=>?_;simp[C.aB];apply hK;clear hK K;show AWp _ _ _ _ _;apply ak;refine bm (fun x:Nat=>⟨ofL [(0,.d (.sh 1 n (rows lS fm))),(1,.d (.sh 3 g.ts.length (rows qtS g.ts))),(2,.d (.sh 3 (R'.length+1) (rows qtS ((((a,ah),c) :: R').map qt)))),(8,.al (8,0) [] 0 O.length),(9,.al (9,0) [] 0 n),(10,.al (10,0) [] 0 n),(11,.al (11,0) [] 0 n),(12,.al (12,0) [] 0 n),(13,.al (13,0) [] 0 x),(14,.int x)],aF [((8,0),some (.ow 3 O.length (rows qtS (O.map qt)))),((9,0),some (.ow 1 n (ints (dH (f.ts.map tT) n)))),((10,0),some (.ow 1 n (ints (c6 (f.ts.map tT) n)))),((11,0),some (.ow 1 n (ints (dH (g.ts.map tT) n)))),((12,0),some (.ow 1 n (ints (c6 (g.ts.map tT) n)))),((13,0),some (.ow 1 x (ints ((bc (-1) a le).take x))))]⟩) (fun x=>x<=n/\∀ i,i < x->(dH (f.ts.map tT) n).getD i 0 - (dH (g.ts.map tT) n).getD i 0<=(bc (-1) a le).getD i 0/\(bc (-1) a le).getD i 0<=(c6 (f.ts.map tT) n).getD i 0 - (c6 (g.ts.map tT) n).getD i 0) (fun x=>n - x) 0 (by simp[C.aB,ints]) (by simp) ?_;intro x2 hx2 R2 hR2;obtain⟨hj1,hj2⟩:=hx2;apply aa;apply aa;refine ab fun K hK=>?_;simp[C.aB];apply hK;clear hK K;show AWp _ _ _ _ _;refine ap _ rfl (fun hc3=>?_) (fun hc3=>?_)
   ·have h4:x2 < n:=by have:=d_t hc3;omega
    have e1:=hEg x2 h4;have bd1:=hab _ (List.getElem_mem (show x2 < a.length by omega));have bd2:=hgle2 _ (List.getElem_mem (show x2 < le.length by omega));have bd3:=pf hf hn hfne h4;have bd4:=pf hg hgn hgne h4;rw[dZ (by simpa using h4),dZ (by simpa using h4)] at bd3 bd4;have hsn:ints ((bc (-1) a le).take x2) ++ [D.v (.int .i64 (a[x2] - le[x2]))]=ints ((bc (-1) a le).take (x2+1)):=by
     rw[List.take_succ_eq_append_getElem (by omega),e1];simp[ints]
    have hln:((bc (-1) a le).take (x2+1)).length=x2+1:=by simp;omega
    have hgt:((bc (-1) a le).take (x2+1))[x2]'(by omega)=a[x2] - le[x2]:=by rw[List.getElem_take];exact e1
    apply au;show AWp _ _ _ _ _;apply aa;apply ak;apply aa;refine bR [(true,0),(true,1),(true,2),(true,3),(true,4),(true,5),(true,6),(true,7),(true,8),(true,9),(true,10),(true,11),(true,12),(true,13),(true,14),(true,15),(false,16),(false,17),(true,18)] ⟨by kernel_rfl,by kernel_rfl⟩ ([0,1,2,3,4,5,6,7,8,9,10,11,12,13,14,15,16,17,18]) rfl fun K hK=>?_;refine oEn fun L hL=>?_;simp[C.aB,h4,hal,hgle1,ao,hG0,q0,g0,aj (x:=a[x2] - le[x2]) (by omega) (by omega),hsn,show (x2+1)*8<=140737488355328 by omega];apply hL;clear hL L;simp[C.aB,h4,hal,hgle1,ao,hG0,q0,g0,aj (x:=a[x2] - le[x2]) (by omega) (by omega),hsn,show (x2+1)*8<=140737488355328 by omega];apply hK;clear hK K;show AWp _ _ _ _ _;apply aa;refine bR [(true,0),(true,1),(true,2),(true,3),(true,4),(true,5),(true,6),(true,7),(true,8),(true,9),(true,10),(true,11),(true,12),(true,13),(true,14),(true,15),(true,16),(true,17),(true,18),(true,19),(true,20),(true,21),(false,22),(true,23)] ⟨by kernel_rfl,by kernel_rfl⟩ ([0,1,2,3,4,5,6,7,8,9,10,11,12,13,14,15,16,17,18,19,20,21,22] ++ ([23])) rfl fun K hK=>?_;refine oSg fun L hL=>?_;simp[C.aB,show ((x2:Int) < (x2:Int)+1) by omega,h4,ao,hln,hgt,aj (x:=(dH (f.ts.map tT) n)[x2]'(by simpa using h4) - (dH (g.ts.map tT) n)[x2]'(by simpa using h4)) (by omega) (by omega),aj (x:=(c6 (f.ts.map tT) n)[x2]'(by simpa using h4) - (c6 (g.ts.map tT) n)[x2]'(by simpa using h4)) (by omega) (by omega)];refine ae (ca (a[x2] - le[x2]) ((dH (f.ts.map tT) n)[x2]'(by simpa using h4) - (dH (g.ts.map tT) n)[x2]'(by simpa using h4)) ((c6 (f.ts.map tT) n)[x2]'(by simpa using h4) - (c6 (g.ts.map tT) n)[x2]'(by simpa using h4))) (by simp) (by simp) ?_;simp[C.aB,show ((x2:Int) < (x2:Int)+1) by omega,h4,ao,hln,hgt,aj (x:=(dH (f.ts.map tT) n)[x2]'(by simpa using h4) - (dH (g.ts.map tT) n)[x2]'(by simpa using h4)) (by omega) (by omega),aj (x:=(c6 (f.ts.map tT) n)[x2]'(by simpa using h4) - (c6 (g.ts.map tT) n)[x2]'(by simpa using h4)) (by omega) (by omega)];apply hL;clear hL L;refine oEn fun L hL=>?_;simp[C.aB,show ((x2:Int) < (x2:Int)+1) by omega,h4,ao,hln,hgt,aj (x:=(dH (f.ts.map tT) n)[x2]'(by simpa using h4) - (dH (g.ts.map tT) n)[x2]'(by simpa using h4)) (by omega) (by omega),aj (x:=(c6 (f.ts.map tT) n)[x2]'(by simpa using h4) - (c6 (g.ts.map tT) n)[x2]'(by simpa using h4)) (by omega) (by omega)];apply hL;clear hL L;simp[C.aB,show ((x2:Int) < (x2:Int)+1) by omega,h4,ao,hln,hgt,aj (x:=(dH (f.ts.map tT) n)[x2]'(by simpa using h4) - (dH (g.ts.map tT) n)[x2]'(by simpa using h4)) (by omega) (by omega),aj (x:=(c6 (f.ts.map tT) n)[x2]'(by simpa using h4) - (c6 (g.ts.map tT) n)[x2]'(by simpa using h4)) (by omega) (by omega)];apply hK;clear hK K;show AWp _ _ _ _ _;refine ap _ rfl (fun hc4=>?_) (fun hc4=>?_)
    ·have hfail:=hx1.fail (.inl fun h=>by
      have h5:=h.2;rw[hlq] at h5;simp only[ir,qdv] at h5;have h6:=of_decide_eq_true h5;have:=h6.1 x2 h4;rw[dZ (by simpa using h4),dZ (by simpa using h4),dZ (by omega),dZ (by simpa using h4),dZ (by simpa using h4),e1] at this;simp[this.1,this.2] at hc4)
     apply aa;refine ab fun K hK=>?_;simp[C.aB];apply hK;clear hK K;show AWp _ _ _ _ _;apply aI;simp[C.aB,hfail,tE]
    ·have hbx:((dH (f.ts.map tT) n)[x2]'(by simpa using h4) - (dH (g.ts.map tT) n)[x2]'(by simpa using h4)<=a[x2] - le[x2])/\(a[x2] - le[x2]<=(c6 (f.ts.map tT) n)[x2]'(by simpa using h4) - (c6 (g.ts.map tT) n)[x2]'(by simpa using h4)):=by simpa using hc4
     apply au;show AWp _ _ _ _ _;refine ab fun K hK=>?_;simp[C.aB,ay (show x2 < 4611686018427387904 by omega)];apply hK;clear hK K;simp[C.aB];refine cast (congrArg R2 ?_) (hR2 (x2+1) ⟨h4,fun i hi=>?_⟩ (by omega))
     ·simp
     ·rcases Nat.lt_succ_iff_lt_or_eq.1 hi with h | rfl
      ·exact hj2 i h
      ·rw[dZ (by simpa using h4),dZ (by simpa using h4),dZ (by omega),dZ (by simpa using h4),dZ (by simpa using h4),e1];exact hbx
   ·have h4:x2=n:=by have:=d_f hc3;omega
    have hbox:uA f g n (bc (-1) a le):=fun i hi=>hj2 i (by omega);have hb40:=C7 hf hg hn hgn hfne hgne hEl hbox;have htk:(bc (-1) a le).take n=bc (-1) a le:=List.take_of_length_le (by omega);have hqb:-1000000000000000000<=c.tdiv lc/\c.tdiv lc<=1000000000000000000:=by
     have h1:(c.tdiv lc).natAbs<=c.natAbs:=by
      rw[Int.natAbs_tdiv];exact Nat.div_le_self _ _
     omega
    generalize hQ:c.tdiv lc=q at hqb;have hSk:eJ fm le (bc (-1) a le):=eJ.mk' (p:=20) (q:=40) hok ⟨by omega,hgle2⟩ ⟨by omega,hb40⟩ (by omega) (by omega);have hSb:=hSk.bd;have hpair:=jY fm le (bc (-1) a le) hSk;rw[hnn] at hpair;obtain⟨H,hH⟩:∃ H,H=ah - lh - skw fm le (bc (-1) a le):=⟨_,rfl⟩;have hw1:IntKind.i64.wrap (ah - lh)=ah - lh:=aj (by omega) (by omega);have hw2:IntKind.i64.wrap (ah - lh - skw fm le (bc (-1) a le))=H:=by rw[hH];exact aj (by omega) (by omega)
    have hqd:qdv fm (a,ah) (le,lh)=(bc (-1) a le,H):=by rw[hH];rfl
    apply aZ;show AWp _ _ _ _ _;apply aa;refine eG (.take 0 (.take 1 (.take 2 (.take 3 (.take 4 (.take 5 (.take 6 (.take 7 (.take 8 (.take 9 (.take 10 (.take 11 (.take 12 (.take 13 (.take 14 (.take 15 (.take 18 (.take 19 (.take 20 (.take 21 (.take 22 (.take 23 (.take 24 (.take 25 (.take 26 (.all [(16,.take 17 (.take 27 (.all [(28,.all [(29,.done)])]))),(28,.all [(16,.take 17 (.take 27 (.all [(29,.done)])))])])))))))))))))))))))))))))) ⟨by kernel_rfl,by kernel_rfl⟩ fun K hK=>?_;have hJ:K ⟨ofL [(0,.d (.sh 1 n (rows lS fm))),(1,.d (.sh 3 g.ts.length (rows qtS g.ts))),(2,.d (.sh 3 (R'.length+1) (rows qtS ((((a,ah),c) :: R').map qt)))),(8,.al (8,0) [] 0 O.length),(9,.al (9,0) [] 0 n),(10,.al (10,0) [] 0 n),(11,.al (11,0) [] 0 n),(12,.al (12,0) [] 0 n),(15,.pt (15,0) [] 0)],aF [((8,0),some (.ow 3 O.length (rows qtS (O.map qt)))),((9,0),some (.ow 1 n (ints (dH (f.ts.map tT) n)))),((10,0),some (.ow 1 n (ints (c6 (f.ts.map tT) n)))),((11,0),some (.ow 1 n (ints (dH (g.ts.map tT) n)))),((12,0),some (.ow 1 n (ints (c6 (g.ts.map tT) n)))),((15,0),some (.bx [shI (bc (-1) a le),D.int H,D.int q]))]⟩:=by
     apply hK;clear hK K;show AWp _ _ _ _ _;apply aa;apply aa;refine bR [(true,0),(true,1),(true,2),(true,3),(true,4),(true,5),(true,6),(true,7),(true,8),(true,9),(true,10),(true,11),(true,12),(false,13),(true,14),(true,15),(true,16),(true,17),(true,18),(false,19),(true,20),(true,21),(true,22),(true,23),(true,24),(true,25),(true,26)] ⟨by kernel_rfl,by kernel_rfl⟩ ([0,1,2,3,4,5,6,7,8,9,10,11,12,13] ++ ([14,15,16,17,18,19] ++ ([20,21,22,23,24,25,26]))) rfl fun K hK=>?_;have hJ:K ⟨ofL [(0,.d (.sh 1 n (rows lS fm))),(1,.d (.sh 3 g.ts.length (rows qtS g.ts))),(2,.d (.sh 3 (R'.length+1) (rows qtS ((((a,ah),c) :: R').map qt)))),(8,.al (8,0) [] 0 O.length),(9,.al (9,0) [] 0 n),(10,.al (10,0) [] 0 n),(11,.al (11,0) [] 0 n),(12,.al (12,0) [] 0 n),(15,.pt (15,0) [] 0),(139,.bool (!decide (((c.tmod lc=0/\(-1000000<=q/\q<=1000000))/\(-200<=H/\H<=200))/\¬ O.length=600)))],aF [((8,0),some (.ow 3 O.length (rows qtS (O.map qt)))),((9,0),some (.ow 1 n (ints (dH (f.ts.map tT) n)))),((10,0),some (.ow 1 n (ints (c6 (f.ts.map tT) n)))),((11,0),some (.ow 1 n (ints (dH (g.ts.map tT) n)))),((12,0),some (.ow 1 n (ints (c6 (g.ts.map tT) n)))),((15,0),some (.bx [shI (bc (-1) a le),D.int H,D.int q]))]⟩:=by
      apply hK;clear hK K;show AWp _ _ _ _ _;refine ap _ rfl (fun hc5=>?_) (fun hc5=>?_)
      ·have hr:=gk hc5;have hfail:=hx1.fail (by
        rcases Classical.em (O.length=600) with h | h
        ·exact .inr h
        ·refine .inl fun h2=>hr ⟨?_,h⟩;dsimp only at h2;rw[hlq,hlc,hQ,hqd] at h2;simp only[ir,decide_eq_true_eq] at h2;exact⟨⟨h2.1,h2.2.2.2⟩,h2.2.2.1⟩)
       apply aa;refine ab fun K hK=>?_;simp[C.aB];apply hK;clear hK K;show AWp _ _ _ _ _;apply aI;simp[C.aB,hfail,tE]
      ·obtain⟨⟨⟨k1,k2⟩,k3⟩,k4⟩:=gw hc5;have hchk:ir f g n (bc (-1) a le,H) q=true:=by simp only[ir,decide_eq_true_eq];exact⟨hbox,k3,k2⟩
       have hstep:=hx1.step hok hnn hg hgn (by dsimp only;rw[hlc];exact k1) (by dsimp only;rw[hlq,hlc,hQ,hqd];exact hchk) (by omega) (by dsimp only;rw[hlq,hqd];exact hEl) (by dsimp only;rw[hlq,hqd];exact hb40) (by dsimp only;rw[hlq,hqd];exact k3) (by dsimp only;rw[hlc,hQ];exact k2);dsimp only at hstep;rw[hlq,hlc,hQ,hqd] at hstep;have hga:=EG (fm:=fm) (g:=g) (x:=((a,ah),c)) (R:=R');dsimp only at hga;rw[hlq,hlc,hQ,hqd] at hga;dsimp only at hga;have hQg:QL fm.length g.ts:=lU hg (by omega);have hQ1:QL fm.length [⟨bc (-1) a le,H,q⟩]:=⟨by simp,fun t ht=>by
        simp only[List.mem_singleton] at ht;subst ht;exact⟨by dsimp only;omega,fun z hz=>by have:=hb40 z hz;omega,⟨by dsimp only;omega,by dsimp only;omega⟩,k2⟩⟩
       have htm:=oF fm g.ts [⟨bc (-1) a le,H,q⟩] hok hQg hQ1;have hPA:=xp (fm:=fm) hQg hQ1;have hPE:=sb (fm:=fm) hQg hQ1;have hPL:=nB fm g.ts [⟨bc (-1) a le,H,q⟩];generalize hPR:dW fm g.ts [⟨bc (-1) a le,H,q⟩]=PP at htm hPA hPE hPL hga;simp only[List.length_cons,List.length_nil,rows,qtS,List.append_nil,Nat.zero_add] at htm;rw[hnn] at htm;have hsnO:rows qtS (O.map qt) ++ [shI (bc (-1) a le),D.v (.int .i64 H),D.v (.int .i64 q)]=rows qtS ((O ++ [((bc (-1) a le,H),q)]).map qt):=by
        have:=ua (O.map qt) ⟨bc (-1) a le,H,q⟩;rw[this,List.map_append];rfl
       apply au;show AWp _ _ _ _ _;apply aa;refine ab fun K hK=>?_;simp[C.aB,hsnO,show (O.length+1)*40<=140737488355328 by omega];apply hK;clear hK K;show AWp _ _ _ _ _;apply aa;refine aK ([0,1,2,3,4] ++ ([5])) rfl fun K hK=>?_;refine oSg fun L hL=>?_;simp[C.aB,hEl];refine ae (htm) (by simp[hEl]) (by simp) ?_;simp[C.aB,hEl];apply hL;clear hL L;refine oEn fun L hL=>?_;simp[C.aB,hEl];apply hL;clear hL L;simp[C.aB,hEl];apply hK;clear hK K;show AWp _ _ _ _ _;apply aa;apply aa;refine ab fun K hK=>?_;simp[C.aB];apply hK;clear hK K;show AWp _ _ _ _ _;apply ak;have hPl:(gaQ PP).length<=600:=by
        have h1:=ss PP;simp only[List.length_cons,List.length_nil] at hPL;omega
       have hPA2:dG PP<=600000000000000:=by
        have h1:=rS (l:=PP) (B:=1000000000000) fun t ht=>by
         rw[<-hPR] at ht;obtain⟨x,hx,y,hy,rfl⟩:=rq ht;simp only[List.mem_singleton] at hy;subst hy;have:=rh (hQg.2 x hx).2.2.2 k2;simp only[gi];omega
        simp only[List.length_cons,List.length_nil] at hPL;have h2:PP.length*1000000000000<=600*1000000000000:=Nat.mul_le_mul_right _ (by omega);omega
       have hrn:=hx1.rn;simp only[List.length_cons] at hrn;refine bm (fun x:Nat=>⟨ofL [(0,.d (.sh 1 n (rows lS fm))),(1,.d (.sh 3 g.ts.length (rows qtS g.ts))),(2,.d (.sh 3 (R'.length+1) (rows qtS ((((a,ah),c) :: R').map qt)))),(8,.al (8,0) [] 0 (O.length+1)),(9,.al (9,0) [] 0 n),(10,.al (10,0) [] 0 n),(11,.al (11,0) [] 0 n),(12,.al (12,0) [] 0 n),(16,.al (16,0) [] 0 (gaQ PP).length),(17,.int x)],aF [((8,0),some (.ow 3 (O.length+1) (rows qtS ((O ++ [((bc (-1) a le,H),q)]).map qt)))),((9,0),some (.ow 1 n (ints (dH (f.ts.map tT) n)))),((10,0),some (.ow 1 n (ints (c6 (f.ts.map tT) n)))),((11,0),some (.ow 1 n (ints (dH (g.ts.map tT) n)))),((12,0),some (.ow 1 n (ints (c6 (g.ts.map tT) n)))),((16,0),some (.ow 3 (gaQ PP).length (rows qtO (((gaQ PP).map ngT).take x ++ (gaQ PP).drop x))))]⟩) (fun x=>x<=(gaQ PP).length) (fun x=>(gaQ PP).length - x) 0 (by simp[C.aB]) (by simp) ?_;intro x3 hx3 R3 hR3;apply aa;apply aa;refine ab fun K hK=>?_;simp[C.aB];apply hK;clear hK K;show AWp _ _ _ _ _;refine ap _ rfl (fun hc6=>?_) (fun hc6=>?_)
       ·have h6:x3 < (gaQ PP).length:=by have:=d_t hc6;omega
        obtain⟨M,m1,m2,m3,m4⟩:=Fv (gaQ PP) x3 h6;rw[m1];have hM:x3 < M.length:=by omega
        have hcm:(gaQ PP)[x3].c.natAbs < 4611686018427387904:=Nat.lt_of_le_of_lt (J9 (List.getElem_mem h6)) hPA;have hwc:IntKind.i64.wrap (-(gaQ PP)[x3].c)=-(gaQ PP)[x3].c:=aj (by omega) (by omega);have hset:(rows qtO M).set (3*x3+2) (.v (.int .i64 (-(gaQ PP)[x3].c)))=rows qtO (((gaQ PP).map ngT).take (x3+1) ++ (gaQ PP).drop (x3+1)):=by
         rw[tK hM,m3 hM,<-m4];rfl
        apply au;show AWp _ _ _ _ _;apply aa;apply ak;refine ab fun K hK=>?_;simp[C.aB,h6,nC hM,m3 hM,m2,hwc,hset,cB];apply hK;clear hK K;show AWp _ _ _ _ _;refine ab fun K hK=>?_;simp[C.aB,ay (show x3 < 4611686018427387904 by omega)];apply hK;clear hK K;simp[C.aB];refine cast (congrArg R3 ?_) (hR3 (x3+1) h6 (by omega));simp
       ·have h6:x3=(gaQ PP).length:=by have:=d_f hc6;omega
        have hall:((gaQ PP).map ngT).take x3 ++ (gaQ PP).drop x3=(gaQ PP).map ngT:=by rw[h6,List.drop_length,List.append_nil,List.take_of_length_le (by simp)]
        rw[hall];have hng:(gaQ PP).map (fun t=>(⟨t.e,t.h,0 - t.c⟩:Qtm))=(gaQ PP).map ngT:=List.map_congr_left fun t _=>by simp[ngT]
        rw[hng] at hga;have hgt:=jh ((((a,ah),c) :: R').map qt ++ (gaQ PP).map ngT) (by simp;omega) (by
         rw[jc,FP,A5];have h1:=hx1.ra;rw[wK] at h1;have h2:=FD PP;omega) (fun t ht=>by
         rcases List.mem_append.1 ht with ht | ht
         ·obtain⟨x,hx,rfl⟩:=List.mem_map.1 ht;have:=(hx1.rl x hx).1.1;simp only[qt];omega
         ·obtain⟨u,hu,rfl⟩:=List.mem_map.1 ht;have:=ye (p:=fun e=>e.length=fm.length) (fun t ht=>hPE t ht) u hu;simp only[ngT];omega)
        rw[hga] at hgt;have hgl3:((((a,ah),c) :: R').map qt ++ (gaQ PP).map ngT).length=R'.length+1+(gaQ PP).length:=by simp;omega
        rw[hgl3,dT] at hgt;apply aZ;show AWp _ _ _ _ _;refine aK ([0,1,2,3,4,5] ++ ([6])) rfl fun K hK=>?_;have hJ:K ⟨ofL [(0,.d (.sh 1 n (rows lS fm))),(1,.d (.sh 3 g.ts.length (rows qtS g.ts))),(2,.d (.sh 3 (nf qlt (iH fm g ((a,ah),c) R')).length (rows qtS ((nf qlt (iH fm g ((a,ah),c) R')).map qt)))),(8,.al (8,0) [] 0 (O.length+1)),(9,.al (9,0) [] 0 n),(10,.al (10,0) [] 0 n),(11,.al (11,0) [] 0 n),(12,.al (12,0) [] 0 n)],aF [((8,0),some (.ow 3 (O.length+1) (rows qtS ((O ++ [((bc (-1) a le,H),q)]).map qt)))),((9,0),some (.ow 1 n (ints (dH (f.ts.map tT) n)))),((10,0),some (.ow 1 n (ints (c6 (f.ts.map tT) n)))),((11,0),some (.ow 1 n (ints (dH (g.ts.map tT) n)))),((12,0),some (.ow 1 n (ints (c6 (g.ts.map tT) n))))]⟩:=by
         apply hK;clear hK K;simp[C.aB];refine cast (congrArg R1 ?_) (hR1 (nf qlt (iH fm g ((a,ah),c) R'),O ++ [((bc (-1) a le,H),q)]) hstep (by simp;omega));simp
        clear hK;refine oSg fun L hL=>?_;simp[C.aB,iQ,jC,iU,show (R'.length+1)*40<=140737488355328 by omega,show (R'.length+1+(gaQ PP).length)*40<=140737488355328 by omega];refine⟨fun hlf=>?_,fun hlf=>?_⟩
        all_goals try simp only[if_true,true_and]
        all_goals
         refine ae hgt (by simp[C.aB,iQ,jC,iU,show (R'.length+1)*40<=140737488355328 by omega,show (R'.length+1+(gaQ PP).length)*40<=140737488355328 by omega]) (by simp) ?_;simp[C.aB,iQ,jC,iU,show (R'.length+1)*40<=140737488355328 by omega,show (R'.length+1+(gaQ PP).length)*40<=140737488355328 by omega];apply hL;refine oEn fun L2 hL2=>?_;simp[C.aB,iQ,jC,iU,show (R'.length+1)*40<=140737488355328 by omega,show (R'.length+1+(gaQ PP).length)*40<=140737488355328 by omega];refine hL2 _ ?_;simp[C.aB,iQ,jC,iU,show (R'.length+1)*40<=140737488355328 by omega,show (R'.length+1+(gaQ PP).length)*40<=140737488355328 by omega];refine cast (congrArg K ?_) hJ;simp[C.aB,iQ,jC,iU,show (R'.length+1)*40<=140737488355328 by omega,show (R'.length+1+(gaQ PP).length)*40<=140737488355328 by omega]
     clear hK
     by_cases k1:c.tmod lc=0
     ·by_cases k2:(-1000000<=q/\q<=1000000)
      ·by_cases k3:(-200<=H/\H<=200)
       ·refine oSg fun L hL=>?_;simp[C.aB,q2,g2,hgle5,hG0,k1,k2,k3];refine ae (ca q (-1000000) 1000000) (by simp) (by simp) ?_;simp[C.aB,q2,g2,hgle5,hG0,k1,k2,k3];apply hL;clear hL L;refine oSg fun L hL=>?_;simp[C.aB,q2,g2,hgle5,hG0,k1,k2,k3];refine ae (ca H (-200) 200) (by simp) (by simp) ?_;simp[C.aB,q2,g2,hgle5,hG0,k1,k2,k3];apply hL;clear hL L;refine oEn fun L hL=>?_;simp[C.aB,q2,g2,hgle5,hG0,k1,k2,k3];apply hL;clear hL L;simp[C.aB,q2,g2,hgle5,hG0,k1,k2,k3];refine cast (congrArg K ?_) hJ;simp[kE,k1,k2,k3]
       ·refine oSg fun L hL=>?_;simp[C.aB,q2,g2,hgle5,hG0,k1,k2,k3];refine ae (ca q (-1000000) 1000000) (by simp) (by simp) ?_;simp[C.aB,q2,g2,hgle5,hG0,k1,k2,k3];apply hL;clear hL L;refine oSg fun L hL=>?_;simp[C.aB,q2,g2,hgle5,hG0,k1,k2,k3];refine ae (ca H (-200) 200) (by simp) (by simp) ?_;simp[C.aB,q2,g2,hgle5,hG0,k1,k2,k3];apply hL;clear hL L;refine oEn fun L hL=>?_;simp[C.aB,q2,g2,hgle5,hG0,k1,k2,k3];apply hL;clear hL L;simp[C.aB,q2,g2,hgle5,hG0,k1,k2,k3];refine cast (congrArg K ?_) hJ;simp[kE,k1,k2,k3]
      ·refine oSg fun L hL=>?_;simp[C.aB,q2,g2,hgle5,hG0,k1,k2];refine ae (ca q (-1000000) 1000000) (by simp) (by simp) ?_;simp[C.aB,q2,g2,hgle5,hG0,k1,k2];apply hL;clear hL L;refine oSg fun L hL=>?_;simp[C.aB,q2,g2,hgle5,hG0,k1,k2];apply hL;clear hL L;refine oEn fun L hL=>?_;simp[C.aB,q2,g2,hgle5,hG0,k1,k2];apply hL;clear hL L;simp[C.aB,q2,g2,hgle5,hG0,k1,k2];refine cast (congrArg K ?_) hJ;simp[kE,k1,k2]
     ·refine oSg fun L hL=>?_;simp[C.aB,q2,g2,hgle5,hG0,k1];apply hL;clear hL L;refine oSg fun L hL=>?_;simp[C.aB,q2,g2,hgle5,hG0,k1];apply hL;clear hL L;refine oEn fun L hL=>?_;simp[C.aB,q2,g2,hgle5,hG0,k1];apply hL;clear hL L;simp[C.aB,q2,g2,hgle5,hG0,k1];refine cast (congrArg K ?_) hJ;simp[kE,k1]
    clear hK;simp[C.aB,q0,q1,q2,g0,g1,g2,hw1,hw2,hgle5,hQ,aj (x:=q) (by omega) (by omega),htk,hEl,hG0,h4]
    repeat' first
     | (refine ae hpair (by simp[hEl]) (by simp) ?_;simp[C.aB,q0,q1,q2,g0,g1,g2,hw1,hw2,hgle5,hQ,aj (x:=q) (by omega) (by omega),htk,hEl,hG0,h4])
     | exact hJ
     | (refine cast (congrArg K ?_) hJ;simp;done)
     | (refine cast (congrArg K ?_) hJ;simp[hEl];done)
     | (refine cast (congrArg K ?_) hJ;simp[shI,hEl];done)
     | (refine cast (congrArg K ?_) hJ;simp[shI,hEl];trace_state;fail)
     | refine And.intro ?_ ?_
  ·have hR0:R=[]:=by
    cases R with
    | nil=>rfl
    | cons y R'=>simp at hc2
   subst hR0;have hdone:=hx1.done;apply aZ;show AWp _ _ _ _ _;apply aa;refine ab fun K hK=>?_;simp[C.aB];apply hK;clear hK K;show AWp _ _ _ _ _;apply aI;simp[C.aB,hdone,tE]
set_option maxRecDepth 10000
set_option maxHeartbeats 2000000
theorem E1 (fm:List (List Int)) (f g:Qsm) (hok:bp fm) (hf:aL f) (hg:aL g) (hn:f.v=fm.length) (hgn:g.v=fm.length) (hgne:g.ts≠[]) (o:Option (List (QK×Int))) (ho:gr fm (ir f g fm.length) g 600 (f.ts.map qp)=o):af Tryz.prog F.aB [.d (.sh 1 fm.length (rows lS fm)),.d (.sh 3 g.ts.length (rows qtS g.ts)),.d (.sh 3 f.ts.length (rows qtS f.ts))] [] false (fun outs res=>outs=[]/\res=[.one (.ow 3 ((o.getD []).map qt).length (rows qtS ((o.getD []).map qt))),.one (D.bool o.isSome)]):=by
 refine af.weak1 (af.mono (vD fm f g hok hf hg hn hgn hgne) ?_);rintro outs res ⟨h1,h2⟩;refine⟨h1,?_⟩;rw[h2,ho]
 cases o with
 | none=>simp[tE,rows]
 | some O=>simp[tE]
theorem rD (fm:List (List Int)) (f g:Qsm) (h0:fm.length < 4611686018427387904) (hI:I64 fm) (hx:f.ts.length < 4611686018427387904) (hxe:∀ t∈f.ts,t.e.length < 4611686018427387904) (hy:g.ts.length < 4611686018427387904) (hye:∀ t∈g.ts,t.e.length < 4611686018427387904):af Tryz.prog F.bv [.d (.sh 1 fm.length (rows lS fm)),aQ f,aQ g] [] true (fun outs res=>outs=[]/\eb res [.ag (qO (dm fm f g).1),.one (D.bool (dm fm f g).2)]):=by
 have hcall:=ru fm f g h0 hI hx hxe hy hye;generalize hB:decide (bp fm/\aL f/\aL g/\f.v=fm.length/\g.v=fm.length)=B at hcall;refine af.ob (C:=C.bv) (n:=Tryz.f111.ntmps) bC bD Tryz.func111 rfl rfl ?_;simp only[Tryz.f111];apply aa;refine ab fun K hK=>?_;simp[C.bv,qS];apply hK;clear hK K;show AWp _ _ _ _ _;apply aa;apply aa;refine aK ([0,1,2,3] ++ ([4,5,6,7,8,9,10])) rfl fun K hK=>?_;have hJ:K ⟨ofL [(0,.d (.sh 1 fm.length (rows lS fm))),(4,.pt (4,0) [] 0),(5,.pt (5,0) [] 0),(6,.pt (6,0) [] 0),(20,.bool (!(B && !decide (g.ts=[]))))],aF [((4,0),some (.bx (qS f))),((5,0),some (.bx (qS g))),((6,0),some (.bx [D.int 0,.v (.slice none 0 0)]))]⟩:=by
  apply hK;clear hK K;show AWp _ _ _ _ _;refine ap _ rfl (fun hc1=>?_) (fun hc1=>?_)
  ·have hr:¬ s0 fm f g:=by
    rintro⟨h1,h2⟩;rw[<-hB,decide_eq_true h1] at hc1;simp[h2] at hc1
   have hm:dm fm f g=(cM,false):=if_neg hr;apply aa;refine ab fun K hK=>?_;simp[C.bv,qS];apply hK;clear hK K;show AWp _ _ _ _ _;apply aI;simp[C.bv,qS,hm,qO,cM,rows]
  ·have hr:(bp fm/\aL f/\aL g/\f.v=fm.length/\g.v=fm.length)/\g.ts≠[]:=by
    rw[<-hB] at hc1;simpa using hc1
   have hfit:s0 fm f g:=hr;obtain⟨⟨hok,hf,hg,hn,hgn⟩,hgne⟩:=hr;have hm:dm fm f g=kP f.v (gr fm (ir f g fm.length) g 600 (f.ts.map qp)):=by
    rw[<-Ea];exact if_pos hfit
   have hgood:=fun O (ho:gr fm (ir f g fm.length) g 600 (f.ts.map qp)=some O)=>qz hfit ho;obtain⟨o,ho⟩:∃ o,gr fm (ir f g fm.length) g 600 (f.ts.map qp)=o:=⟨_,rfl⟩;have hDiv:=E1 fm f g hok hf hg hn hgn hgne o ho;rw[ho] at hm hgood;apply au;show AWp _ _ _ _ _;apply aa;refine aK ([0,1,2,3,4,5] ++ ([6,7,8,9,10])) rfl fun K hK=>?_;refine oSg fun L hL=>?_;simp[C.bv,qS];refine fh (hDiv) (by simp) (by simp) (by simp) ?_;rintro outs res ⟨rfl,rfl⟩;simp[C.bv,qS];apply hL;clear hL L;refine oEn fun L hL=>?_;simp[C.bv,qS];apply hL;clear hL L;simp[C.bv,qS];apply hK;clear hK K;show AWp _ _ _ _ _;apply aa;apply aa;refine ab fun K hK=>?_;simp[C.bv,qS];apply hK;clear hK K;show AWp _ _ _ _ _;refine ap _ rfl (fun hc2=>?_) (fun hc2=>?_)
   ·have hno:o=none:=by
     cases o with
     | none=>rfl
     | some O=>simp at hc2
    subst hno;apply aa;refine ab fun K hK=>?_;simp[C.bv,qS];apply hK;clear hK K;show AWp _ _ _ _ _;apply aI;simp[C.bv,qS,hm,kP,cM,qO,rows]
   ·obtain⟨O,rfl⟩:∃ O,o=some O:=by
     cases o with
     | none=>simp at hc2
     | some O=>exact⟨O,rfl⟩
    obtain⟨hd,hz,hl,hch,hO,_⟩:=hgood O rfl;have hn8:fm.length<=8:=by have:=hok.1;omega
    have hcb:∀ t∈O.map qt,t.c.natAbs<=1000000:=fun t ht=>by
     obtain⟨x,hx,rfl⟩:=List.mem_map.1 ht;have h1:=hch x hx;simp only[ir] at h1;have h2:=(of_decide_eq_true h1).2.2;simp only[qt];omega
    have hel:∀ t∈O.map qt,t.e.length=fm.length:=fun t ht=>by
     obtain⟨x,hx,rfl⟩:=List.mem_map.1 ht;exact hl x hx
    have hab:=rS hcb;have hll:(O.map qt).length<=600:=by simpa using hO
    have hga:=GB (v:=f.v) hd hz;rw[<-hm] at hga;have hgl:=ss (O.map qt);have hgat:=jh (O.map qt) (by omega) (by have h9:(O.map qt).length*1000000<=600*1000000:=Nat.mul_le_mul_right _ hll;omega) (fun t ht=>by have:=hel t ht;omega);simp only[List.length_map] at hgat
    apply au;show AWp _ _ _ _ _;apply aa;refine bR [(true,0),(true,2),(true,3),(false,1),(false,4),(true,5),(true,6),(false,7),(true,8)] ⟨by kernel_rfl,by kernel_rfl⟩ ([0,2,3,1] ++ ([4] ++ ([5,6,7,8]))) rfl fun K hK=>?_;refine oSg fun L hL=>?_;simp[C.bv,qS,hO];refine ae (hgat) (by simp[qS,hO]) (by simp) ?_;simp[C.bv,qS,hO];apply hL;clear hL L;refine oSg fun L hL=>?_;simp[C.bv,qS,hO];refine ae (s9 (gaQ (O.map qt)) f.v (by omega) (ye (p:=fun e=>e.length < 4611686018427387904) fun t ht=>by have:=hel t ht;omega)) (by simp) (by simp) ?_;simp[C.bv,qS,hO];apply hL;clear hL L;refine oEn fun L hL=>?_;simp[C.bv,qS,hO];apply hL;clear hL L;simp[C.bv,qS,hO];apply hK;clear hK K;show AWp _ _ _ _ _;apply aI;simp[C.bv,qS,hga,qO]
 clear hK
 by_cases hb:B=true
 ·refine oSg fun L hL=>?_;simp[C.bv,qS,hb];refine ae (hcall) (by simp) (by simp) ?_;simp[C.bv,qS,hb];apply hL;clear hL L;refine oEn fun L hL=>?_;simp[C.bv,qS,hb];apply hL;clear hL L;simp[C.bv,qS,hb];refine cast (congrArg K ?_) hJ;simp[BX,qS,hb]
 ·refine oSg fun L hL=>?_;simp[C.bv,qS,hb];refine ae (hcall) (by simp) (by simp) ?_;simp[C.bv,qS,hb];apply hL;clear hL L;refine oEn fun L hL=>?_;simp[C.bv,qS,hb];apply hL;clear hL L;simp[C.bv,qS,hb];refine cast (congrArg K ?_) hJ;simp[BX,qS,hb]
theorem FY (fm:List (List Int)) (f g:Qsm) (h0:fm.length < 4611686018427387904) (hI:I64 fm) (hx:f.ts.length < 4611686018427387904) (hxe:∀ t∈f.ts,t.e.length < 4611686018427387904) (hy:g.ts.length < 4611686018427387904) (hye:∀ t∈g.ts,t.e.length < 4611686018427387904):af Tryz.prog F.bv [.d (.sh 1 fm.length (rows lS fm)),aQ f,aQ g] [] true (fun outs res=>outs=[]/\res=[.ag (qO (dm fm f g).1),.one (D.bool (dm fm f g).2)]):=(rD fm f g h0 hI hx hxe hy hye).weak1
set_option maxRecDepth 10000
set_option maxHeartbeats 4000000
theorem AM (v:Int) (ts:List Qtm):SmQ (enQ v ts).1:=by
 unfold enQ;split
 ·rename_i h;exact gF h
 ·exact ne
theorem Di (fm:List (List Int)) (f g:Qsm):SmQ (dm fm f g).1:=by
 unfold dm;split
 ·cases gr fm jB g 600 (f.ts.map qp) with
  | none=>exact ne
  | some O=>exact AM _ _
 ·exact ne
theorem xf (f g:Qsm):SmQ (dJ f g).1:=by
 unfold dJ;split
 ·exact AM _ _
 ·exact ne
theorem OrW.div {o:Option Qsm} {fm:List (List Int)} {u f:Qsm} (h:o=if (dm fm u f).2=true then some (dm fm u f).1 else none):OrW o [] [.ag (qO (dm fm u f).1),.one (D.bool (dm fm u f).2)]:=by
 refine⟨rfl,(dm fm u f).1,Di _ _ _,?_,fun q hq=>?_⟩
 ·rw[h]
  cases (dm fm u f).2 <;> simp[qO]
 ·rw[h] at hq;split at hq
  ·injection hq
  ·simp at hq
def sgL (sg:Int) (b:List Int):List Int:=b.map fun x=>max 0 (sg*x)
@[simp] theorem IE (sg:Int) (b:List Int):(sgL sg b).length=b.length:=by simp[sgL]
theorem F4 {sg:Int} {b:List Int} {i:Nat} (h:i < b.length):(sgL sg b)[i]'(by simpa using h)=max 0 (sg*b[i]):=by simp[sgL]
theorem C4 (b:List Int):mnL b=sgL (-1) b:=List.map_congr_left fun x _=>by rw[Int.neg_mul,Int.one_mul]
theorem CT (b:List Int):plL b=sgL 1 b:=List.map_congr_left fun x _=>by rw[Int.one_mul]
def qK (fm0 fm:List (List Int)) (b:List Int) (vs:List Qsm) (k x:Nat) (s:Qsm):Prop:=(x=0/\s=⟨fm0.length,[]⟩)\/(x=1/\exH fm0 fm (mnL b) vs k ⟨fm0.length,[]⟩ = some s)\/(x=2/\(exH fm0 fm (mnL b) vs k ⟨fm0.length,[]⟩).bind (exH fm0 fm (plL b) vs k)=some s)
theorem qK.nope {fm0 fm:List (List Int)} {b:List Int} {vs:List Qsm} {k x:Nat} {s:Qsm} (h:qK fm0 fm b vs k x s) (hx:x < 2) (hn:exH fm0 fm (sgL (2*(x:Int) - 1) b) vs k s=none):exS fm0 fm b vs k=none:=by
 unfold exS;rcases h with ⟨rfl,rfl⟩ | ⟨rfl,h⟩ | ⟨rfl,_⟩
 ·rw[C4];have:exH fm0 fm (sgL (-1) b) vs k ⟨fm0.length,[]⟩ = Option.none:=hn;rw[this];rfl
 ·rw[h];dsimp only[Option.bind_some];rw[CT];have:exH fm0 fm (sgL 1 b) vs k s=Option.none:=hn;rw[this];rfl
 ·omega
theorem qK.next {fm0 fm:List (List Int)} {b:List Int} {vs:List Qsm} {k x:Nat} {s u:Qsm} (h:qK fm0 fm b vs k x s) (hx:x < 2) (hn:exH fm0 fm (sgL (2*(x:Int) - 1) b) vs k s=some u):qK fm0 fm b vs k (x+1) u:=by
 rcases h with ⟨rfl,rfl⟩ | ⟨rfl,h⟩ | ⟨rfl,_⟩
 ·refine .inr (.inl ⟨rfl,?_⟩);rw[C4];exact hn
 ·refine .inr (.inr ⟨rfl,?_⟩);rw[h];dsimp only[Option.bind_some];rw[CT];exact hn
 ·omega
theorem qK.last {fm0 fm:List (List Int)} {b:List Int} {vs:List Qsm} {k:Nat} {s:Qsm} (h:qK fm0 fm b vs k 2 s):exS fm0 fm b vs k=if (dm fm0 s (vs.getD k cM)).2=true then some (dm fm0 s (vs.getD k cM)).1 else none:=by
 rcases h with ⟨h,_⟩ | ⟨h,_⟩ | ⟨_,h⟩
 ·omega
 ·omega
 ·unfold exS
  cases h1:exH fm0 fm (mnL b) vs k ⟨fm0.length,[]⟩ with
  | none=>rw[h1] at h;simp at h
  | some t=>
   rw[h1] at h;dsimp only[Option.bind_some] at h ⊢;rw[h];rfl
theorem JZ (f g:Qsm) (hx:f.ts.length < 4611686018427387904) (hxe:∀ t∈f.ts,t.e.length < 4611686018427387904) (hy:g.ts.length < 4611686018427387904) (hye:∀ t∈g.ts,t.e.length < 4611686018427387904):af Tryz.prog F.bL [aQ f,aQ g] [] true (fun outs res=>outs=[]/\res=[.ag (qO (dJ f g).1),.one (D.bool (dJ f g).2)]):=(uo f g hx hxe hy hye).weak1
theorem sB (fm0 fm:List (List Int)) (p:Mat) (n r k:Nat) (vs:List Qsm) (hok0:bp fm0) (hok:bp fm) (hlen:fm.length=fm0.length) (hv:jR fm0 vs) (hn:p.n=n) (hr:p.r=r) (hS:ShM p) (hrl:r=fm0.length) (hk:k < n):af Tryz.prog F.aH [.d (.sh 1 fm0.length (rows lS fm0)),.d (.sh 1 fm.length (rows lS fm)),.ag [.int n,.int r,.d (shI p.d)],.d (.sh 2 vs.length (rows qS vs)),.int k] [] true (OrW (exS fm0 fm (kb p r k) vs k)):=by
 have h8:1<=fm0.length/\fm0.length<=8:=by have:=hok0.1;omega
 have hnr:n<=r/\r<=8:=by have:=hS.2.1;omega
 have hvl:=hv.len;have hkl:k < vs.length:=by omega
 obtain⟨b,hb⟩:∃ b,b=kb p r k:=⟨_,rfl⟩;have hbl:b.length=r:=by rw[hb];simp
 have hbg:∀ (i:Nat) (h:i < r),b[i]'(by omega)=bM p i k:=fun i h=>by simp only[hb];exact tq p r k i h
 rw[<-hb];obtain⟨O,hO⟩:∃ O,O=exS fm0 fm b vs k:=⟨_,rfl⟩;have hgk:vs.getD k cM=vs[k]:=by simp[List.getD_eq_getElem?_getD,hkl]
 rw[<-hO];refine af.ob (C:=C.aH) (n:=Tryz.f56.ntmps) bC bD Tryz.func56 rfl rfl ?_;simp only[Tryz.f56];apply aa;refine ab fun K hK=>?_;simp[C.aH];apply hK;clear hK K;show AWp _ _ _ _ _;apply aa;refine ab fun K hK=>?_;simp[C.aH];apply hK;clear hK K;show AWp _ _ _ _ _;apply aa;apply aa;refine ab fun K hK=>?_;simp[C.aH];apply hK;clear hK K;show AWp _ _ _ _ _;apply ak;refine lY (fun x:Nat×Qsm=>⟨ofL [(0,.d (.sh 1 fm0.length (rows lS fm0))),(1,.d (.sh 1 fm.length (rows lS fm))),(3,.d (.sh 2 vs.length (rows qS vs))),(4,.int k),(7,.pt (7,0) [] 0),(10,.pt (10,0) [] 0),(12,.pt (12,0) [] 0),(13,.int (2*(x.1:Int) - 1))],aF [((7,0),some (.bx [D.int n,D.int r,shI p.d])),((10,0),some (.bx [D.int 0,.v (.slice none 0 0)])),((12,0),some (.bx [D.int x.2.v,.ow 3 x.2.ts.length (rows qtO x.2.ts)]))]⟩) (fun x=>qK fm0 fm b vs k x.1 x.2/\SmQ x.2) (fun x=>2 - x.1) (0,⟨fm0.length,[]⟩) [.cell (12,0) [] 1 3] (by simp[C.aH,rows];(first | (constructor <;> funext t) | funext t) <;> simp only[ofL,aF] <;> (repeat' (first | rfl | split)) <;> simp_all) ⟨.inl ⟨rfl,rfl⟩,by simp,by simp⟩ ?_;intro x1 hx1 R1 hR1;obtain⟨x,s⟩:=x1;obtain⟨hE,hss⟩:=hx1;dsimp only at hE hss ⊢;have hxle:x<=2:=by rcases hE with ⟨h,_⟩ | ⟨h,_⟩ | ⟨h,_⟩ <;> omega
 apply aa;apply aa;refine ab fun K hK=>?_;simp[C.aH];apply hK;clear hK K;show AWp _ _ _ _ _;refine ap _ rfl (fun hc1=>?_) (fun hc1=>?_)
 ·have hx2:x < 2:=by have:=d_t hc1;omega
  obtain⟨sg,hsg⟩:∃ sg:Int,sg=2*(x:Int) - 1:=⟨_,rfl⟩;have hsg2:sg=1\/sg=-1:=by omega
  obtain⟨e,he⟩:∃ e,e=sgL sg b:=⟨_,rfl⟩;have hel:e.length=r:=by rw[he];simp[hbl]
  have heg:∀ (i:Nat) (h:i < r),e[i]'(by omega)=max 0 (sg*bM p i k):=fun i h=>by
   simp only[he];rw[F4 (by omega),hbg i h]
  have hnone:=hE.nope hx2;have hnext:=fun u=>hE.next (u:=u) hx2;rw[<-hsg,<-he] at hnone;simp only[<-hsg,<-he] at hnext;rw[<-hO] at hnone;have heb:∀ z∈e,0<=z/\z<=99:=fun z hz=>by
   obtain⟨i,hi,rfl⟩:=List.getElem_of_mem hz;rw[heg i (by omega)];have:=gV hS i k;rcases hsg2 with h | h <;> rw[h] <;> omega
  rw[<-hsg];apply au;show AWp _ _ _ _ _;apply aa;apply ak;apply aa;refine ab fun K hK=>?_;simp[C.aH,cL,show (r:Int)<=281474976710656 by omega,show (8:Int)*r<=281474976710656 by omega];apply hK;clear hK K;show AWp _ _ _ _ _;apply aa;apply aa;refine ab fun K hK=>?_;simp[C.aH];apply hK;clear hK K;show AWp _ _ _ _ _;apply ak;refine bm (fun i:Nat=>⟨ofL [(0,.d (.sh 1 fm0.length (rows lS fm0))),(1,.d (.sh 1 fm.length (rows lS fm))),(3,.d (.sh 2 vs.length (rows qS vs))),(4,.int k),(7,.pt (7,0) [] 0),(10,.pt (10,0) [] 0),(12,.pt (12,0) [] 0),(13,.int sg),(14,.al (14,0) [] 0 r),(15,.int i)],aF [((7,0),some (.bx [D.int n,D.int r,shI p.d])),((10,0),some (.bx [D.int 0,.v (.slice none 0 0)])),((12,0),some (.bx [D.int s.v,.ow 3 s.ts.length (rows qtO s.ts)])),((14,0),some (.ow 1 r (ints (e.take i ++ List.replicate (r - i) 0))))]⟩) (fun i=>i<=r/\∀ z∈e.take i,z<=8) (fun i=>r - i) 0 (by simp[C.aH]) ⟨by simp,by simp⟩ ?_;intro x2 hx2 R2 hR2;obtain⟨hi0,hcb⟩:=hx2;apply aa;apply aa;refine ab fun K hK=>?_;simp[C.aH];apply hK;clear hK K;show AWp _ _ _ _ _;refine ap _ rfl (fun hc2=>?_) (fun hc2=>?_)
  ·have hi:x2 < r:=by have:=d_t hc2;omega
   have hie:x2 < e.length:=by omega
   have hat:=dU p n r x2 k hn hr hS hi hk;have hbd:=gV hS x2 k;have hev:=heg x2 hi;obtain⟨c,hc⟩:∃ c,c=bM p x2 k:=⟨_,rfl⟩;rw[<-hc] at hat hbd hev;have hsc:IntKind.i64.wrap (sg*c)=sg*c:=by rcases hsg2 with h | h <;> rw[h] <;> exact aj (by omega) (by omega)
   have hms:=ko e (List.replicate r 0) x2 hie (by simp[hel]);rw[List.drop_replicate,List.drop_replicate] at hms;rw[hev] at hms;have hml:(e.take x2 ++ List.replicate (r - x2) (0:Int)).length=r:=by simp;omega
   obtain⟨M,hM⟩:∃ M,M=e.take x2 ++ List.replicate (r - x2) (0:Int):=⟨_,rfl⟩;obtain⟨M2,hM2⟩:∃ M,M=e.take (x2+1) ++ List.replicate (r - (x2+1)) (0:Int):=⟨_,rfl⟩;have hM2g:M2[x2]? = some (max 0 (sg*c)):=by
    rw[hM2,List.getElem?_append_left (by simp;omega),List.getElem?_take_of_lt (by omega),List.getElem?_eq_getElem hie,hev]
   have hM2l:M2.length=r:=by rw[hM2];simp;omega
   rw[<-hM,<-hM2] at hms;rw[<-hM] at hml;rw[<-hM];have hM2v:M2[x2]'(by omega)=max 0 (sg*c):=by
    rw[List.getElem?_eq_getElem (by omega)] at hM2g;injection hM2g
   apply au;show AWp _ _ _ _ _;apply aa;apply ak;apply aa;refine aK ([0,1,2,3,4,5,6] ++ ([7,8,9,10])) rfl fun K hK=>?_;refine oSg fun L hL=>?_;simp[C.aH,hsc,hml,hi,show (x2:Int) < r by omega,hms];refine ae (hat) (by simp) (by simp) ?_;simp[C.aH,hsc,hml,hi,show (x2:Int) < r by omega,hms];apply hL;clear hL L;refine oEn fun L hL=>?_;simp[C.aH,hsc,hml,hi,show (x2:Int) < r by omega,hms];apply hL;clear hL L;simp[C.aH,hsc,hml,hi,show (x2:Int) < r by omega,hms];apply hK;clear hK K;show AWp _ _ _ _ _;apply aa;refine ab fun K hK=>?_;simp[C.aH,ao,hM2l,hi,show (x2:Int) < r by omega,hM2v];apply hK;clear hK K;show AWp _ _ _ _ _;refine ap _ rfl (fun hc3=>?_) (fun hc3=>?_)
   ·have hbig:8 < max 0 (sg*c):=by simpa using hc3
    have hno:O=none:=hnone (by
     unfold exH;rw[if_neg fun q=>by have:=q _ (List.getElem_mem hie);rw[hev] at this;omega])
    apply aa;refine ab fun K hK=>?_;simp[C.aH];apply hK;clear hK K;show AWp _ _ _ _ _;apply aI;simp[C.aH];exact OrW.no hno
   ·have hle:max 0 (sg*c)<=8:=by
     have:¬ 8 < max 0 (sg*c):=by simpa using hc3
     omega
    apply au;show AWp _ _ _ _ _;refine ab fun K hK=>?_;simp[C.aH,ay (show x2 < 4611686018427387904 by omega)];apply hK;clear hK K;simp[C.aH];refine cast (congrArg R2 ?_) (hR2 (x2+1) ⟨hi,fun z hz=>?_⟩ (by omega))
    ·simp[hM2]
    ·rw[List.take_succ_eq_append_getElem hie] at hz;rcases List.mem_append.1 hz with hz | hz
     ·exact hcb z hz
     ·rw[List.mem_singleton] at hz;rw[hz,hev];exact hle
  ·have hi:x2=r:=by have:=d_f hc2;omega
   have htk:e.take x2 ++ List.replicate (r - x2) (0:Int)=e:=by
    rw[hi,List.take_of_length_le (by omega),show r - r=0 by omega,List.replicate_zero,List.append_nil]
   rw[htk];rw[hi,List.take_of_length_le (by omega)] at hcb;have hod:=tL fm0 fm vs e hok0 hok hlen hv (by omega) heb;rw[show shI e = .sh 1 r (ints e) by unfold shI;rw[hel]] at hod;have hexh:∀ s,exH fm0 fm e vs k s=(spF fm0 fm vs e).bind fun x=>if (dJ s (shT (fP fm e k) x)).2=true then some (dJ s (shT (fP fm e k) x)).1 else none:=fun s=>by
    unfold exH;rw[if_pos hcb]
   rw[hexh] at hnone;simp only[hexh] at hnext;have hspr:∀ q,spF fm0 fm vs e=some q->aL q:=fun q hq=>by
    unfold spF at hq
    cases ho:gy fm0 vs e (iJ fm0.length) with
    | none=>rw[ho] at hq;simp at hq
    | some P=>
     rw[ho] at hq;obtain⟨g1,g2⟩:=oV hq;rw[g2];exact g1
   obtain⟨o,ho⟩:∃ o,o=spF fm0 fm vs e:=⟨_,rfl⟩;rw[<-ho] at hod hnone;simp only[<-ho] at hnext hspr;obtain⟨H,hH⟩:∃ H,H=fP fm e k:=⟨_,rfl⟩;have hHb:=Bs hok (by omega) heb (k:=k) (by omega);have hun:=jT r k (by omega) (by omega);have hsk:=jY fm (ci r k) e ⟨hok,by rw[bq];omega,by omega,fun x hx=>by rcases kn hx with rfl | rfl <;> omega,fun x hx=>by have:=heb x hx;omega⟩;rw[show skw fm (ci r k) e=H by rw[hH];unfold fP;rw[hlen,hrl]] at hsk;rw[show shI e = .sh 1 r (ints e) by unfold shI;rw[hel]] at hsk;rw[<-hH] at hHb hnone;simp only[<-hH] at hnext;apply aZ;show AWp _ _ _ _ _;apply aa;refine aK ([0,1,2,3,4] ++ ([5,6,7,8,9,10])) rfl fun K hK=>?_;refine oSg fun L hL=>?_;simp[C.aH];refine fh (OrW.weak hod) (by simp) (by simp) (by simp) ?_;rintro outs res ⟨rfl,X,hX,rfl,hXq⟩;simp[C.aH];apply hL;clear hL L;refine oEn fun L hL=>?_;simp[C.aH];apply hL;clear hL L;simp[C.aH];apply hK;clear hK K;show AWp _ _ _ _ _;apply aa;obtain⟨okb,hokb⟩:∃ z,z=o.isSome:=⟨_,rfl⟩;rw[<-hokb];refine aK ([0,1,2,3,4] ++ ([5,6] ++ ([7]))) rfl fun K hK=>?_;refine oSg fun L hL=>?_;simp[C.aH,qO];refine ae (hun) (by simp[qO]) (by simp) ?_;simp[C.aH,qO];apply hL;clear hL L;refine oSg fun L hL=>?_;simp[C.aH,qO];refine ae (hsk) (by simp[qO]) (by simp) ?_;simp[C.aH,qO];apply hL;clear hL L;refine oEn fun L hL=>?_;simp[C.aH,qO];apply hL;clear hL L;simp[C.aH,qO];apply hK;clear hK K;show AWp _ _ _ _ _;apply aa;apply aa;refine ab fun K hK=>?_;simp[C.aH];apply hK;clear hK K;show AWp _ _ _ _ _;apply ak;refine bm (fun j:Nat=>⟨ofL [(0,.d (.sh 1 fm0.length (rows lS fm0))),(1,.d (.sh 1 fm.length (rows lS fm))),(3,.d (.sh 2 vs.length (rows qS vs))),(4,.int k),(7,.pt (7,0) [] 0),(10,.pt (10,0) [] 0),(12,.pt (12,0) [] 0),(13,.int sg),(16,.pt (16,0) [] 0),(17,.bool okb),(18,.int H),(19,.int j)],aF [((7,0),some (.bx [D.int n,D.int r,shI p.d])),((10,0),some (.bx [D.int 0,.v (.slice none 0 0)])),((12,0),some (.bx [D.int s.v,.ow 3 s.ts.length (rows qtO s.ts)])),((16,0),some (.bx [D.int X.v,.ow 3 X.ts.length (rows qtO (iu H X.ts j))]))]⟩) (fun j=>j<=X.ts.length/\(okb=false->j=0)) (fun j=>X.ts.length - j) 0 (by simp[C.aH,nv,qO]) ⟨by simp,fun _=>rfl⟩ ?_;intro x3 hx3 R3 hR3;obtain⟨hj0,hjo⟩:=hx3;apply aa;apply aa;refine ab fun K hK=>?_;have hJ:K ⟨ofL [(0,.d (.sh 1 fm0.length (rows lS fm0))),(1,.d (.sh 1 fm.length (rows lS fm))),(3,.d (.sh 2 vs.length (rows qS vs))),(4,.int k),(7,.pt (7,0) [] 0),(10,.pt (10,0) [] 0),(12,.pt (12,0) [] 0),(13,.int sg),(16,.pt (16,0) [] 0),(17,.bool okb),(18,.int H),(19,.int x3),(76,.bool (decide (x3 < X.ts.length) && okb))],aF [((7,0),some (.bx [D.int n,D.int r,shI p.d])),((10,0),some (.bx [D.int 0,.v (.slice none 0 0)])),((12,0),some (.bx [D.int s.v,.ow 3 s.ts.length (rows qtO s.ts)])),((16,0),some (.bx [D.int X.v,.ow 3 X.ts.length (rows qtO (iu H X.ts x3))]))]⟩:=by
    apply hK;clear hK K;show AWp _ _ _ _ _;refine ap _ rfl (fun hc4=>?_) (fun hc4=>?_)
    ·have hcc:x3 < X.ts.length/\okb=true:=by
      simp only[Bool.and_eq_true,decide_eq_true_eq] at hc4;exact hc4
     obtain⟨h5,hot⟩:=hcc;obtain⟨q,hq⟩:∃ q,o=some q:=Option.isSome_iff_exists.1 (hokb ▸ hot);have hXr:aL X:=by rw[hXq q hq];exact hspr q hq
     have hpl:=hXr.2.1;obtain⟨hm1,hm2⟩:=sY (s:=H) h5;have hms:=tQ (s:=H) h5;have hth:=(hXr.2.2.1 _ (List.getElem_mem h5)).2.2.2.1;obtain⟨tt,htt⟩:∃ z,z=X.ts[x3]:=⟨_,rfl⟩;rw[<-htt] at hm2 hms hth;obtain⟨L5,hL5⟩:∃ z,z=iu H X.ts x3:=⟨_,rfl⟩;have hL5l:L5.length=X.ts.length:=by rw[hL5];exact lM _ _ _ (by omega)
     simp only[<-hL5] at hm1 hm2 hms;rw[<-hL5];have q1:=iP hm1;have q2:=uc hm1 (tt.h+H);rw[hm2] at q1 q2;rw[show (⟨tt.e,tt.h+H,tt.c⟩:Qtm)=sh1 H tt from rfl,hms] at q2;apply au;show AWp _ _ _ _ _;apply aa;apply ak;refine bR [(true,0),(true,1),(true,2),(true,3),(true,4),(true,5),(true,6),(true,7),(true,8),(true,9),(true,10),(true,11),(true,12),(false,13)] ⟨by kernel_rfl,by kernel_rfl⟩ ([0,1,2,3,4,5,6,7,8,9,10,11,12,13]) rfl fun K hK=>?_;refine oEn fun L hL=>?_;simp[C.aH,h5,show (x3:Int) < X.ts.length by omega,q1,aj (x:=tt.h+H) (by omega) (by omega),q2];apply hL;clear hL L;simp[C.aH,h5,show (x3:Int) < X.ts.length by omega,q1,aj (x:=tt.h+H) (by omega) (by omega),q2];apply hK;clear hK K;show AWp _ _ _ _ _;refine ab fun K hK=>?_;simp[C.aH,ay (show x3 < 4611686018427387904 by omega)];apply hK;clear hK K;simp[C.aH];exact hR3 (x3+1) ⟨h5,fun h=>by rw[hot] at h;simp at h⟩ (by omega)
    ·have hU:∃ U:Qsm,SmQ U/\U.v=X.v/\U.ts=iu H X.ts x3/\U.ts.length=X.ts.length/\∀ q,o=some q->U=shT H q:=by
      cases hb3:okb with
      | false=>
       refine⟨X,hX,rfl,?_,rfl,fun q hq=>?_⟩
       ·rw[hjo hb3,nv]
       ·rw[hokb,hq] at hb3;simp at hb3
      | true=>
       have h5:x3=X.ts.length:=by
        have:¬ (x3 < X.ts.length):=fun q=>by
         rw[decide_eq_true q,hb3] at hc4;simp at hc4
        omega
       refine⟨shT H X,wG hX H,rfl,?_,by simp[shT],fun q hq=>by rw[hXq q hq]⟩;rw[h5,tI];rfl
     obtain⟨U,u1,u2,u3,u4,u5⟩:=hU;rw[<-u3,<-u2,<-u4];have had:=JZ s U hss.1 hss.2 u1.1 u1.2;have hAs:=xf s U;obtain⟨A,hA⟩:∃ A,A=dJ s U:=⟨_,rfl⟩;rw[<-hA] at had hAs;apply aZ;show AWp _ _ _ _ _;apply aa;refine aK ([0,1,2] ++ ([3,4,5,6,7,8])) rfl fun K hK=>?_;refine oSg fun L hL=>?_;simp[C.aH,qO];refine ae (had) (by simp[qO]) (by simp) ?_;simp[C.aH,qO];apply hL;clear hL L;refine oEn fun L hL=>?_;simp[C.aH,qO];apply hL;clear hL L;simp[C.aH,qO];apply hK;clear hK K;show AWp _ _ _ _ _;apply aa;apply aa;refine ab fun K hK=>?_;have hJ:K ⟨ofL [(0,.d (.sh 1 fm0.length (rows lS fm0))),(1,.d (.sh 1 fm.length (rows lS fm))),(3,.d (.sh 2 vs.length (rows qS vs))),(4,.int k),(7,.pt (7,0) [] 0),(10,.pt (10,0) [] 0),(12,.pt (12,0) [] 0),(13,.int sg),(20,.pt (20,0) [] 0),(103,.bool (!(okb && A.2)))],aF [((7,0),some (.bx [D.int n,D.int r,shI p.d])),((10,0),some (.bx [D.int 0,.v (.slice none 0 0)])),((12,0),some (.bx [D.int s.v,.ow 3 s.ts.length (rows qtO s.ts)])),((20,0),some (.bx [D.int A.1.v,.ow 3 A.1.ts.length (rows qtO A.1.ts)]))]⟩:=by
      apply hK;clear hK K;show AWp _ _ _ _ _;refine ap _ rfl (fun hc5=>?_) (fun hc5=>?_)
      ·have hno:O=none:=hnone (by
        cases ho2:o with
        | none=>rfl
        | some q=>
         have hb3:okb=true:=by rw[hokb,ho2];rfl
         have hA2:A.2=false:=by rw[hb3] at hc5;simpa using hc5
         dsimp only[Option.bind_some];rw[<-u5 q ho2,<-hA,hA2];rfl)
       apply aa;refine ab fun K hK=>?_;simp[C.aH];apply hK;clear hK K;show AWp _ _ _ _ _;apply aI;simp[C.aH];exact OrW.no hno
      ·have hcc:okb=true/\A.2=true:=by
        rw[Bool.not_eq_false',Bool.and_eq_true] at hc5;exact hc5
       obtain⟨q,hq⟩:∃ q,o=some q:=Option.isSome_iff_exists.1 (hokb ▸ hcc.1);have hEn:=hnext A.1 (by
        rw[hq];dsimp only[Option.bind_some];rw[<-u5 q hq,<-hA,if_pos hcc.2])
       apply au;show AWp _ _ _ _ _;refine ab fun K hK=>?_;simp[C.aH];apply hK;clear hK K;show AWp _ _ _ _ _;refine ab fun K hK=>?_;simp[C.aH,show IntKind.i64.wrap (sg+2)=2*((x+1:Nat):Int) - 1 by rw[aj (by omega) (by omega)];omega];apply hK;clear hK K;simp[C.aH];exact hR1 (x+1,A.1) ⟨hEn,hAs⟩ (by dsimp only;omega)
     clear hK
     by_cases h1:okb=true
     ·simp[C.aH,h1];refine cast (congrArg K ?_) hJ;simp[h1]
     ·simp[C.aH,h1,h1];refine cast (congrArg K ?_) hJ;simp[h1]
   clear hK
   by_cases h3:x3 < X.ts.length
   ·simp[C.aH,h3];refine cast (congrArg K ?_) hJ;simp[h3]
   ·simp[C.aH,h3];refine cast (congrArg K ?_) hJ;simp[h3]
 ·have hx2:x=2:=by have:=d_f hc1;omega
  subst hx2;have hlast:=hE.last;rw[<-hO,hgk] at hlast;have hvr:=hv.ok _ (List.getElem_mem hkl);have hsv:=gF hvr.1;have hdv:=FY fm0 s vs[k] (by omega) hok0.i64 hss.1 hss.2 hsv.1 hsv.2;have hfin:=OrW.div hlast;obtain⟨W,hW⟩:∃ W,W=dm fm0 s vs[k]:=⟨_,rfl⟩;rw[<-hW] at hdv hfin;apply aZ;show AWp _ _ _ _ _;apply aa;refine bR [(true,0),(true,1),(true,2),(true,3),(true,4),(true,5),(false,6),(true,7),(true,8),(false,9),(true,10)] ⟨by kernel_rfl,by kernel_rfl⟩ ([0,1,2,3,4,5,6] ++ ([7,8,9,10])) rfl fun K hK=>?_;refine oSg fun L hL=>?_;simp[C.aH,hkl,gL hkl,gJ hkl,show (k:Int) < vs.length by omega,qO];refine ae (hdv) (by simp[hkl,gL hkl,gJ hkl,show (k:Int) < vs.length by omega,qO]) (by simp) ?_;simp[C.aH,hkl,gL hkl,gJ hkl,show (k:Int) < vs.length by omega,qO];apply hL;clear hL L;refine oEn fun L hL=>?_;simp[C.aH,hkl,gL hkl,gJ hkl,show (k:Int) < vs.length by omega,qO];apply hL;clear hL L;simp[C.aH,hkl,gL hkl,gJ hkl,show (k:Int) < vs.length by omega,qO];apply hK;clear hK K;show AWp _ _ _ _ _;apply aI;simp[C.aH];exact hfin
open Go Go.Shelf
theorem Gy {P:Program} {r:Ren} (L:Lays8.n4 P r) (hcb:ng P (r.f 4)) {i:TI} (hrow:fB P (r.t 25) i) (hs0:0 < i.size) (n:Nat) (hb:n*i.bytes<=140737488355328) (hn:n<=1000000) :
  af P (r.f 4) [.d (.v (.slice none 0 0)),.int n] [] true (fun outs res=>outs=[]/\res=[.one (.ow i.size 0 [])]):=by
 refine⟨hcb,fun w fp0 ok vs ρ φ hlen hrel=>?_⟩;have e0:=hrel.env 0;have e1:=hrel.env 1
 match vs,hlen with
 | [v0,v1],_=>
 have e0':v0 = .slice none 0 0:=by simpa[fL,FR,Sh] using e0
 have e1':v1 = .int .i64 n:=by simpa[fL,FR,Sh] using e1
 subst e0';subst e1';rcases Nat.eq_zero_or_pos n with rfl | hp
 ·refine Calls.mono (Any8.slices_Grow_room L none 0 0 0 w (by omega) (by omega) (by omega) (by omega)) ?_;rintro e w' ⟨rfl,rfl⟩;exact⟨_,[],[.one (.ow i.size 0 [])],ok,φ,[],rfl,⟨rfl,rfl⟩,
   { len:=rfl,out:=by simp[ofR],dis:=by simp[ofR],res:=⟨[.slice none 0 0],rfl,by simp only[fj,j9,Ow];exact⟨_,_,[],[],rfl,rfl,.inl ⟨trivial,trivial,rfl,_,rfl⟩,rfl,rfl⟩⟩,nod:=List.nodup_nil,bl:=by simp,disr:=by simp[ofR],frm:=de.refl _ _,okm:=fun _ h=>h,okn:=fun b hb=>⟨.inl hb,hrel.okb b hb⟩ }⟩
 ·obtain⟨ti,h1,h2,h3,z,h4,h5,h6⟩:=hrow.info;have hzs:z.cells.size=i.size:=by rw[<-Array.length_toList,h5,hrow.len]
  refine Calls.mono (Any8.slices_Grow_grow L ti z h1 h4 (by omega) none 0 0 n [] w (by omega) (by omega) (by rw[h3,Nat.zero_add];exact hb) (by omega) (by simp) (fun _=>rfl) (by simp)) ?_;rintro e w' ⟨rfl,rfl⟩;have hG:0+n<=grownCap w (0+n) 0 (r.t 25):=grownCap_ge w _ _ _;generalize grownCap w (0+n) 0 (r.t 25)=G at hG ⊢;have hnew:∀ (B:Array Value) (ty:TypeId),(w.drew.alloc (.cells B ty)).heap[w.heap.size]? = some (.cells B ty (0,0)):=fun B ty=>heap_alloc_new w.drew _;refine⟨_,[],[.one (.ow i.size 0 [])],ok,φ,[w.heap.size],rfl,⟨rfl,rfl⟩,
   { len:=rfl,out:=by simp[ofR],dis:=by simp[ofR],res:=⟨[_],rfl,?_⟩,nod:=by simp,bl:=fun b hb=>?_,disr:=by simp[ofR],frm:=(de.refl _ _).drew.alloc _,okm:=fun _ h=>h,okn:=fun b hb=>⟨.inl hb,?_⟩ }⟩
  ·simp only[fj,j9,Ow,OwL];refine⟨_,_,[w.heap.size],[],rfl,by simp,.inr ⟨_,_,_,_,_,[],rfl,rfl,hnew _ _,⟨by omega,by omega⟩,?_,by simp,rfl⟩,by simp⟩;simp only[Array.size_append,List.size_toArray,size_zeroCells,hzs,List.length_nil,Nat.zero_add,Nat.sub_zero,<-Nat.add_mul];rw[Nat.mul_comm];exact Nat.mul_le_mul_right _ (by omega)
  ·simp only[List.mem_singleton] at hb;subst hb;refine⟨fun h=>Nat.lt_irrefl _ (hrel.okb _ h),.inr (Nat.le_refl _),?_⟩;show w.heap.size < (w.drew.alloc _).heap.size;simp
  ·refine Nat.lt_of_lt_of_le (hrel.okb b hb) ?_;show w.heap.size<=(w.drew.alloc _).heap.size;simp
end Go.Proofs.YtncfmemhjahpeaaGreat.Ab
namespace Go.Proofs.YtncfmemhjahpeaaGreat.Ab
open Go Go.Proofs
def jX:Go.Shelf.Ren:=⟨fun | 4=>127 | n=>n,fun | 22=>45 | 25=>100 | 3=>3 | 4=>4 | 9=>9 | 20=>20 | 0=>0 | n=>n,fun | n=>n⟩
theorem Dt:Go.Proofs.Lays8.n4 Tryz.prog jX:={
 mixed:=by kernel_rfl,
 f4:=⟨Tryz.f127.name,by decide,Tryz.func127.trans (congrArg some (by kernel_rfl))⟩,
 t0:=Tryz.underlying0,
 a0:=Tryz.isAgg0,
 z0:=Tryz.sizeOf0,
 v0:=Tryz.zeroValue0,
 t3:=Tryz.underlying3,
 a3:=Tryz.isAgg3,
 z3:=Tryz.sizeOf3,
 v3:=Tryz.zeroValue3,
 t4:=Tryz.underlying4,
 a4:=Tryz.isAgg4,
 z4:=Tryz.sizeOf4,
 v4:=Tryz.zeroValue4,
 t9:=Tryz.underlying9,
 a9:=Tryz.isAgg9,
 z9:=Tryz.sizeOf9,
 v9:=Tryz.zeroValue9,
 t20:=Tryz.underlying20,
 a20:=Tryz.isAgg20,
 z20:=Tryz.sizeOf20,
 v20:=Tryz.zeroValue20,
 t22:=Tryz.underlying45,
 a22:=Tryz.isAgg45,
 z22:=Tryz.sizeOf45,
 v22:=Tryz.zeroValue45 }
theorem x7:jX.t 25=100:=by kernel_rfl
theorem rj:jX.f 4=127:=by kernel_rfl
end Go.Proofs.YtncfmemhjahpeaaGreat.Ab
namespace Go.Proofs.YtncfmemhjahpeaaGreat.Ab
open Go
set_option maxRecDepth 10000
set_option maxHeartbeats 2000000
def fT (ls:List (List Qtm)):List Qtm:=ls.flatten
theorem yJ:fT []=[]:=rfl
def gQ (l:List Qtm):List D:=[.sh 3 l.length (rows qtS l)]
theorem C0 (l:List Qtm):(gQ l).length=1:=rfl
@[simp] theorem Ks (l:List (List Qtm)):(rows gQ l).length=l.length:=by rw[cn C0 l,Nat.one_mul]
theorem GQ {l:List (List Qtm)} {i:Nat} (h:i < l.length):(rows gQ l)[i]? = some (.sh 3 l[i].length (rows qtS l[i]))/\∀ h',(rows gQ l)[i]'h' = .sh 3 l[i].length (rows qtS l[i]):=fi (by
 have:=dp C0 l i 0 h (by omega);simpa[gQ] using this)
theorem Js (n:Nat) (hn:n<=1000000):af Tryz.prog F.gC [.d (.v (.slice none 0 0)),.int n] [] true (fun outs res=>outs=[]/\res=[.one (.ow 3 0 [])]):=by
 have hr:∃ i,bH C.aC.T (jX.t 25)=some i/\i.size=3/\i.bytes=40:=by
  rw[x7];exact⟨_,rfl,rfl,rfl⟩
 obtain⟨i,h1,h2,h3⟩:=hr;have h:=Gy (P:=Tryz.prog) Dt ⟨Tryz.f127,_,by rw[rj];exact Tryz.func127,rfl,by kernel_rfl⟩ (b9 bC h1) (by omega) n (by rw[h3];omega) hn;rw[h2,rj] at h;exact h
theorem jj (ls:List (List Qtm)) (hn:ls.length<=1000000) (hl:(fT ls).length<=1000000):af Tryz.prog F.aC [.d (.sh 1 ls.length (rows gQ ls))] [] false (fun outs res=>outs=[]/\res=[.one (.ow 3 (fT ls).length (rows qtS (fT ls)))]):=by
 have hstep:∀ k (h:k < ls.length),fT (ls.take (k+1))=fT (ls.take k) ++ ls[k]:=fun k h=>by unfold fT;rw[List.take_succ_eq_append_getElem h,List.flatten_append];simp
 have hmono:∀ k,(fT (ls.take k)).length<=(fT ls).length:=fun k=>by
  unfold fT
  conv=>rhs;rw[<-List.take_append_drop k ls,List.flatten_append,List.length_append]
  omega
 refine af.ob (C:=C.aC) (n:=Tryz.f85.ntmps) bC bD Tryz.func85 rfl rfl ?_;simp only[Tryz.f85];apply aa;refine ab fun K hK=>?_;simp[C.aC];apply hK;clear hK K;show AWp _ _ _ _ _;apply aa;refine ab fun K hK=>?_;simp[C.aC];apply hK;clear hK K;show AWp _ _ _ _ _;apply aa;apply aa;refine ab fun K hK=>?_;simp[C.aC];apply hK;clear hK K;show AWp _ _ _ _ _;apply ak;refine bm (fun x:Nat=>⟨ofL [(0,.d (.sh 1 ls.length (rows gQ ls))),(3,.int (fT (ls.take x)).length),(9,.d (.sh 1 ls.length (rows gQ ls))),(10,.int ls.length),(11,.int x)],aF []⟩) (fun x=>x<=ls.length) (fun x=>ls.length - x) 0 (by simp[C.aC,yJ]) (by simp) ?_;intro x1 hx1 R1 hR1;apply aa;refine ab fun K hK=>?_;simp[C.aC];apply hK;clear hK K;show AWp _ _ _ _ _;apply aa;refine ap _ rfl (fun hc1=>?_) (fun hc1=>?_)
 ·have h1:x1 < ls.length:=by have:=d_t hc1;omega
  have hs:=hstep x1 h1;have hm1:=hmono (x1+1);have hls:(fT (ls.take (x1+1))).length=(fT (ls.take x1)).length+ls[x1].length:=by rw[hs,List.length_append]
  apply au;show AWp _ _ _ _ _;apply aa;apply ak;apply aa;refine ab fun K hK=>?_;simp[C.aC,h1,GQ h1];apply hK;clear hK K;show AWp _ _ _ _ _;apply aa;refine ab fun K hK=>?_;simp[C.aC];rw[aj (x:=((fT (ls.take x1)).length:Int)+ls[x1].length) (by omega) (by omega),show ((fT (ls.take x1)).length:Int)+ls[x1].length=((fT (ls.take (x1+1))).length:Int) by omega];apply hK;clear hK K;show AWp _ _ _ _ _;apply aa;refine ab fun K hK=>?_;simp[C.aC];apply hK;clear hK K;show AWp _ _ _ _ _;refine ap _ rfl (fun hc2=>?_) (fun hc2=>?_)
  ·simp at hc2;omega
  ·apply au;show AWp _ _ _ _ _;refine ab fun K hK=>?_;simp[C.aC,ay (show x1 < 4611686018427387904 by omega)];apply hK;clear hK K;simp[C.aC];exact hR1 (x1+1) h1 (by omega)
 ·have h1:x1=ls.length:=by have:=d_f hc1;omega
  have htk:fT (ls.take x1)=fT ls:=by rw[h1,List.take_length]
  apply aZ;show AWp _ _ _ _ _;apply aa;refine aK ([0,1] ++ ([2])) rfl fun K hK=>?_;refine oSg fun L hL=>?_;simp[C.aC,htk];refine ae (Js (fT ls).length hl) (by simp) (by simp) ?_;simp[C.aC,htk];apply hL;clear hL L;refine oEn fun L hL=>?_;simp[C.aC,htk];apply hL;clear hL L;simp[C.aC,htk];apply hK;clear hK K;show AWp _ _ _ _ _;apply aa;apply aa;refine ab fun K hK=>?_;simp[C.aC];apply hK;clear hK K;show AWp _ _ _ _ _;apply ak;refine bm (fun x:Nat=>⟨ofL [(6,.al (6,0) [] 0 (fT (ls.take x)).length),(25,.d (.sh 1 ls.length (rows gQ ls))),(26,.int ls.length),(27,.int x)],aF [((6,0),some (.ow 3 (fT (ls.take x)).length (rows qtS (fT (ls.take x)))))]⟩) (fun x=>x<=ls.length) (fun x=>ls.length - x) 0 (by simp[C.aC,rows,yJ]) (by simp) ?_;intro x2 hx2 R2 hR2;apply aa;refine ab fun K hK=>?_;simp[C.aC];apply hK;clear hK K;show AWp _ _ _ _ _;apply aa;refine ap _ rfl (fun hc3=>?_) (fun hc3=>?_)
  ·have h2:x2 < ls.length:=by have:=d_t hc3;omega
   have hs:=hstep x2 h2;have hm1:=hmono (x2+1);have hls:(fT (ls.take (x2+1))).length=(fT (ls.take x2)).length+ls[x2].length:=by rw[hs,List.length_append]
   apply au;show AWp _ _ _ _ _;apply aa;apply ak;apply aa;refine ab fun K hK=>?_;simp[C.aC,h2,GQ h2];apply hK;clear hK K;show AWp _ _ _ _ _;refine ab fun K hK=>?_;simp[C.aC,<-dT,<-hs,<-hls,show (fT (ls.take (x2+1))).length*40<=140737488355328 by omega];apply hK;clear hK K;show AWp _ _ _ _ _;refine ab fun K hK=>?_;simp[C.aC,ay (show x2 < 4611686018427387904 by omega)];apply hK;clear hK K;simp[C.aC];exact hR2 (x2+1) h2 (by omega)
  ·have h2:x2=ls.length:=by have:=d_f hc3;omega
   apply aZ;show AWp _ _ _ _ _;apply aa;refine ab fun K hK=>?_;simp[C.aC];apply hK;clear hK K;show AWp _ _ _ _ _;apply aI;simp[C.aC,h2]
theorem Fo (xs ys:List Qtm) (h:xs.length+ys.length<=1000000):af Tryz.prog F.aC [.d (.sh 1 2 [.sh 3 xs.length (rows qtS xs),.sh 3 ys.length (rows qtS ys)])] [] false (fun outs res=>outs=[]/\res=[.one (.ow 3 (xs ++ ys).length (rows qtS (xs ++ ys)))]):=by
 have:=jj [xs,ys] (by simp) (by simpa[fT] using h);simpa[gQ,rows,fT] using this
def mo (l:List (QK×Int)):Nat:=(l.map fun x=>x.2.natAbs).sum
theorem tw (k:QK):∀ l:List (QK×Int),(co k l).natAbs<=mo l
 | []=>by simp[co]
 | x :: l=>by
  have:=tw k l;simp only[co,mo,List.map_cons,List.sum_cons] at this ⊢;split <;> omega
theorem DD {l r:List (QK×Int)} (h:l.Perm r):nf qlt l=nf qlt r:=
 eq c7 (fa c7 l) (iq l) fun k=>by rw[gU,lu k h]
theorem uw (hDone:rN) (f g:Qsm) (hx:f.ts.length < 4611686018427387904) (hxe:∀ t∈f.ts,t.e.length < 4611686018427387904) (hy:g.ts.length < 4611686018427387904) (hye:∀ t∈g.ts,t.e.length < 4611686018427387904):af Tryz.prog F.aW [aQ f,aQ g] [] true (fun outs res=>outs=[]/\eb res [.ag (qO (dJ f g).1),.one (D.bool (dJ f g).2)]):=by
 refine af.ob (C:=C.aW) (n:=Tryz.f44.ntmps) bC bD Tryz.func44 rfl rfl ?_;simp only[Tryz.f44];apply aa;refine ab fun K hK=>?_;simp[C.aW,qS];apply hK;clear hK K;show AWp _ _ _ _ _;apply aa;apply aa;refine aK ([0,1] ++ ([2,3,4,5] ++ ([6,7,8,9,10,11,12,13,14]))) rfl fun K hK=>?_;have hJ:K ⟨ofL [(2,.pt (2,0) [] 0),(3,.pt (3,0) [] 0),(4,.pt (4,0) [] 0),(23,.bool (!decide (aL f/\aL g/\f.v=g.v)))],aF [((2,0),some (.bx (qS f))),((3,0),some (.bx (qS g))),((4,0),some (.bx [D.int 0,.v (.slice none 0 0)]))]⟩:=by
  apply hK;clear hK K;show AWp _ _ _ _ _;refine ap _ rfl (fun hc1=>?_) (fun hc1=>?_)
  ·have hr:=gk hc1;have hm:dJ f g=(cM,false):=if_neg hr;apply aa;refine ab fun K hK=>?_;simp[C.aW,qS];apply hK;clear hK K;show AWp _ _ _ _ _;apply aI;simp[C.aW,qS,hm,qO,cM,rows]
  ·have hr:=gw hc1;obtain⟨hf,hg,hfg⟩:=hr;have hv:=hf.1;have hfl:=hf.2.1;have hgl:=hg.2.1;obtain⟨n,hn⟩:∃ n:Nat,f.v=n:=⟨f.v.toNat,by omega⟩;have hn2:g.v=n:=by omega
   have hn8:n<=8:=by omega
   have hm:dJ f g=enQ n (gaQ (f.ts ++ g.ts)):=by
    rw[<-hn];exact if_pos ⟨hf,hg,hfg⟩
   have hD:∀ t∈f.ts ++ g.ts,t.e.length=n/\(-1000000<=t.c/\t.c<=1000000):=fun t ht=>by
    rcases List.mem_append.1 ht with ht | ht
    ·have:=vt hf hn t ht;exact⟨this.1,this.2.2.2⟩
    ·have:=vt hg hn2 t ht;exact⟨this.1,this.2.2.2⟩
   have hlen:(f.ts ++ g.ts).length=f.ts.length+g.ts.length:=by simp
   apply au;show AWp _ _ _ _ _;apply aa;refine aK ([0,1,2] ++ ([3])) rfl fun K hK=>?_;refine oSg fun L hL=>?_;simp[C.aW,qS,hn];refine ae (gR n) (by simp) (by simp) ?_;simp[C.aW,qS,hn];apply hL;clear hL L;refine oEn fun L hL=>?_;simp[C.aW,qS,hn];apply hL;clear hL L;simp[C.aW,qS,hn];apply hK;clear hK K;show AWp _ _ _ _ _;apply aa;apply aa;refine aK ([0,1,2,3,4,5] ++ ([6,7])) rfl fun K hK=>?_;refine oSg fun L hL=>?_;simp[C.aW,qS];refine fh (Fo f.ts g.ts (by omega)) (by simp) (by simp) (by simp) ?_;rintro outs res ⟨rfl,rfl⟩;simp[C.aW,qS];apply hL;clear hL L;refine oEn fun L hL=>?_;simp[C.aW,qS];apply hL;clear hL L;simp[C.aW,qS];generalize hT:f.ts ++ g.ts=ts at hD hlen hm ⊢;apply hK;clear hK K;show AWp _ _ _ _ _;apply ak;refine bm (fun x:Nat×List (List Int×Int)×List (QK×Int)=>⟨ofL [(4,.pt (4,0) [] 0),(6,.pt (6,0) [] 0),(33,.al (33,0) [] 0 ts.length),(34,.int ts.length),(35,.int x.1)],aF [((4,0),some (.bx [D.int 0,.v (.slice none 0 0)])),((6,0),some (.bx [D.int n,.mp x.2.1])),((33,0),some (.ow 3 ts.length (rows qtS ts)))]⟩) (fun x=>x.1<=ts.length/\gB n x.2.1 x.2.2/\x.2.2.Perm ((ts.take x.1).map qp)/\mo x.2.2<=x.1*1000000) (fun x=>ts.length - x.1) (0,[],[]) (by simp[C.aW,qS,hlen]) ⟨by simp,gB.nil n,by simp,by simp[mo]⟩ ?_;intro x1 hx1 R1 hR1;obtain⟨j,es,l⟩:=x1;obtain⟨hj,hM,hP,hA⟩:=hx1;dsimp only at hj hM hP hA ⊢;apply aa;refine ab fun K hK=>?_;simp[C.aW,qS];apply hK;clear hK K;show AWp _ _ _ _ _;apply aa;refine ap _ rfl (fun hc2=>?_) (fun hc2=>?_)
   ·have h1:j < ts.length:=by have:=d_t hc2;omega
    have hT1:=hD _ (List.getElem_mem h1);apply au;show AWp _ _ _ _ _;apply aa;apply ak;apply aa;refine ab fun K hK=>?_;simp[C.aW,qS,h1,bI h1,bY h1,bW h1];apply hK;clear hK K;show AWp _ _ _ _ _;obtain⟨a0,a1,a2,a3,a4,a5,a6,a7,hpa⟩:=nI (fC (e:=ts[j].e) (by omega));have hk:[a0,a1,a2,a3,a4,a5,a6,a7,ts[j].h]=kq (qk ts[j]):=by
     simp only[kq,qk,hpa];rfl
    have hval:=hM.val (qk ts[j]) hT1.1;have hco:=tw (qk ts[j]) l;refine bR [(true,0),(true,1),(true,2),(true,4),(true,5),(true,7),(true,8),(false,3),(true,6),(false,9)] ⟨by kernel_rfl,by kernel_rfl⟩ ([0,1,2,4,5,7,8,3] ++ ([6,9] ++ ([]))) rfl fun K hK=>?_;refine oSg fun L hL=>?_;simp[C.aW,qS,qtS];refine ae (iC ts[j].e (by omega) a0 a1 a2 a3 a4 a5 a6 a7 hpa) (by simp) (by simp) ?_;simp[C.aW,qS,qtS];apply hL;clear hL L;refine oSg fun L hL=>?_;simp[C.aW,qS,qtS];refine ae (fF n ts[j].c es a0 a1 a2 a3 a4 a5 a6 a7 ts[j].h (hM.len9 hn8) (by rw[hk,hval];omega)) (by simp) (by simp) ?_;simp[C.aW,qS,qtS];apply hL;clear hL L;refine oEn fun L hL=>?_;simp only[d7];apply hL;clear hL L;simp[C.aW,qS,qtS];rw[hk];apply hK;clear hK K;show AWp _ _ _ _ _;refine ab fun K hK=>?_;simp[C.aW,qS,ay (show j < 4611686018427387904 by omega)];apply hK;clear hK K;simp[C.aW,qS];refine hR1 (j+1,_,(qk ts[j],ts[j].c) :: l) ⟨h1,hM.add hT1.1 _,?_,?_⟩ (by dsimp only;omega)
    ·dsimp only;rw[List.take_succ_eq_append_getElem h1,List.map_append];refine (List.Perm.cons _ hP).trans ?_;exact (List.perm_append_singleton _ _).symm
    ·have h3:ts[j].c.natAbs<=1000000:=by omega
     simp only[mo,List.map_cons,List.sum_cons] at hA ⊢;omega
   ·have h1:j=ts.length:=by have:=d_f hc2;omega
    have hall:l.Perm (ts.map qp):=by
     rw[h1,List.take_length] at hP;exact hP
    have hle:∀ x∈l,x.1.1.length=n:=fun x hx=>by
     have:=hall.subset hx;obtain⟨t,ht,rfl⟩:=List.mem_map.1 this;exact (hD t ht).1
    have hll:l.length<=1000000:=by rw[hall.length_eq,List.length_map];omega
    have hs:(nf qlt l).map qt=gaQ ts:=by
     unfold gaQ;rw[DD hall]
    apply aZ;show AWp _ _ _ _ _;apply aa;refine aK ([0,1] ++ ([2,3,4,5])) rfl fun K hK=>?_;refine oSg fun L hL=>?_;simp[C.aW,qS];refine ae (hDone n es l hM hle (by omega) hn8 hll) (by simp) (by simp) ?_;simp[C.aW,qS];apply hL;clear hL L;refine oEn fun L hL=>?_;simp[C.aW,qS];apply hL;clear hL L;simp[C.aW,qS];apply hK;clear hK K;show AWp _ _ _ _ _;apply aI;simp[C.aW,qS,hm,<-hs,qO]
 clear hK
 by_cases ha:aL f
 ·by_cases hb:aL g
  ·refine oSg fun L hL=>?_;simp[C.aW,qS,ha,hb];refine ae (cZ f hx hxe) (by simp) (by simp) ?_;simp[C.aW,qS,ha,hb];apply hL;clear hL L;refine oSg fun L hL=>?_;simp[C.aW,qS,ha,hb];refine ae (cZ g hy hye) (by simp) (by simp) ?_;simp[C.aW,qS,ha,hb];apply hL;clear hL L;refine oEn fun L hL=>?_;simp[C.aW,qS,ha,hb];apply hL;clear hL L;simp[C.aW,qS,ha,hb];refine cast (congrArg K ?_) hJ;simp[il,qS,ha,hb]
  ·refine oSg fun L hL=>?_;simp[C.aW,qS,ha,hb];refine ae (cZ f hx hxe) (by simp) (by simp) ?_;simp[C.aW,qS,ha,hb];apply hL;clear hL L;refine oSg fun L hL=>?_;simp[C.aW,qS,ha,hb];refine ae (cZ g hy hye) (by simp) (by simp) ?_;simp[C.aW,qS,ha,hb];apply hL;clear hL L;refine oEn fun L hL=>?_;simp[C.aW,qS,ha,hb];apply hL;clear hL L;simp[C.aW,qS,ha,hb];refine cast (congrArg K ?_) hJ;simp[il,qS,ha,hb]
 ·refine oSg fun L hL=>?_;simp[C.aW,qS,ha];refine ae (cZ f hx hxe) (by simp) (by simp) ?_;simp[C.aW,qS,ha];apply hL;clear hL L;refine oSg fun L hL=>?_;simp[C.aW,qS,ha];apply hL;clear hL L;refine oEn fun L hL=>?_;simp[C.aW,qS,ha];apply hL;clear hL L;simp[C.aW,qS,ha];refine cast (congrArg K ?_) hJ;simp[il,qS,ha]
theorem FS (f g:Qsm) (hx:f.ts.length < 4611686018427387904) (hxe:∀ t∈f.ts,t.e.length < 4611686018427387904) (hy:g.ts.length < 4611686018427387904) (hye:∀ t∈g.ts,t.e.length < 4611686018427387904):af Tryz.prog F.aW [aQ f,aQ g] [] true (fun outs res=>outs=[]/\res=[.ag (qO (dJ f g).1),.one (D.bool (dJ f g).2)]):=(uw wH f g hx hxe hy hye).weak1
set_option maxRecDepth 10000
set_option maxHeartbeats 2000000
attribute [local simp] jV dP jE
structure LJQ (n:Nat) (es:List (List Int×Int)) (l:List (QK×Int)) (B:Nat):Prop where
 map:gB n es l
 len:∀ x∈l,x.1.1.length=n
 abs:mo l<=B
theorem LJQ.add {n:Nat} {es:List (List Int×Int)} {l:List (QK×Int)} {B:Nat} (h:LJQ n es l B) {e:QK} (he:e.1.length=n) {c:Int} {X:Nat} (hc:c.natAbs<=X):LJQ n (nY es (kq e) c) ((e,c) :: l) (B+X):=by
 refine⟨h.map.add he c,fun x hx=>?_,?_⟩
 ·rcases List.mem_cons.1 hx with rfl | hx
  ·exact he
  ·exact h.len x hx
 ·have:=h.abs;simp only[mo,List.map_cons,List.sum_cons] at *
  omega
theorem LJQ.val {n:Nat} {es:List (List Int×Int)} {l:List (QK×Int)} {B:Nat} (h:LJQ n es l B) {e:QK} (he:e.1.length=n) {c:Int} {X:Nat} (hc:c.natAbs<=X) (hB:B+X<=4000000000000000000):-9223372036854775808<=c+(dQ (kq e) es).getD 0/\c+(dQ (kq e) es).getD 0 < 9223372036854775808:=by
 have h1:=h.map.val e he;have h2:=tw e l;have h3:=h.abs;rw[h1];omega
theorem LJQ.mono {n:Nat} {es:List (List Int×Int)} {l:List (QK×Int)} {B C:Nat} (h:LJQ n es l B) (hB:B<=C):LJQ n es l C:=⟨h.map,h.len,Nat.le_trans h.abs hB⟩
theorem Cf {fm:List (List Int)} {f g:Qsm} (h:bp fm/\aL f/\aL g/\f.v=fm.length/\g.v=fm.length) (hne:g.ts≠[]):dm fm f g=kP fm.length (gr fm jB g 600 (f.ts.map qp)):=by
 unfold dm;rw[if_pos ⟨h,hne⟩,h.2.2.2.1]
theorem qg (fm:List (List Int)) (f g:Qsm) (n:Nat) (hn:f.v=n) (hv:n<=8) (hf:aL f) (hfl:f.ts.length<=600) (Q0:AEx->St->Prop) (hX0:∀ es l,LJQ n es l 600000000->l.Perm (f.ts.map qp)->Q0 (.exit 0) ⟨ofL [(0,.d (.sh 1 fm.length (rows lS fm))),(4,.pt (4,0) [] 0),(5,.pt (5,0) [] 0),(6,.pt (6,0) [] 0),(8,.pt (8,0) [] 0),(38,.d (.sh 3 f.ts.length (rows qtS f.ts))),(39,.int f.ts.length),(40,.int f.ts.length),(41,.bool false)],aF [((4,0),some (.bx (qS f))),((5,0),some (.bx (qS g))),((6,0),some (.bx [D.int 0,.v (.slice none 0 0)])),((8,0),some (.bx [D.int n,.mp es]))]⟩):AWp C.ad (fM Tryz.f45 [1,1,1,0,1,0]) 0 Q0 ⟨ofL [(0,.d (.sh 1 fm.length (rows lS fm))),(4,.pt (4,0) [] 0),(5,.pt (5,0) [] 0),(6,.pt (6,0) [] 0),(8,.pt (8,0) [] 0),(38,.d (.sh 3 f.ts.length (rows qtS f.ts))),(39,.int f.ts.length),(40,.int 0)],aF [((4,0),some (.bx (qS f))),((5,0),some (.bx (qS g))),((6,0),some (.bx [D.int 0,.v (.slice none 0 0)])),((8,0),some (.bx [D.int n,.mp []]))]⟩:=by
 simp only[fM,Tryz.f45,fQ];refine bm (fun x:Nat×List (List Int×Int)×List (QK×Int)=>⟨ofL [(0,.d (.sh 1 fm.length (rows lS fm))),(4,.pt (4,0) [] 0),(5,.pt (5,0) [] 0),(6,.pt (6,0) [] 0),(8,.pt (8,0) [] 0),(38,.d (.sh 3 f.ts.length (rows qtS f.ts))),(39,.int f.ts.length),(40,.int x.1)],aF [((4,0),some (.bx (qS f))),((5,0),some (.bx (qS g))),((6,0),some (.bx [D.int 0,.v (.slice none 0 0)])),((8,0),some (.bx [D.int n,.mp x.2.1]))]⟩) (fun x=>x.1<=f.ts.length/\LJQ n x.2.1 x.2.2 (x.1*1000000)/\x.2.2.Perm ((f.ts.map qp).take x.1)) (fun x=>f.ts.length - x.1) (0,[],[]) (by simp[C.ad,qS,hn]) ⟨by simp,⟨gB.nil n,by simp,by simp[mo]⟩,by simp⟩ ?_;intro x1 hx1 R1 hR1;obtain⟨i,es,l⟩:=x1;obtain⟨hi,hLJ,hP⟩:=hx1;dsimp only at hi hLJ hP ⊢;apply aa;refine ab fun K hK=>?_;simp[C.ad,qS];apply hK;clear hK K;show AWp _ _ _ _ _;apply aa;refine ap _ rfl (fun hc2=>?_) (fun hc2=>?_)
 ·have hif:i < f.ts.length:=by have:=d_t hc2;omega
  have hT:=gD hf hn _ (List.getElem_mem hif);apply au;show AWp _ _ _ _ _;apply aa;apply ak;apply aa;refine ab fun K hK=>?_;simp[C.ad,qS,hif,bI hif,bY hif,bW hif];apply hK;clear hK K;show AWp _ _ _ _ _;obtain⟨a0,a1,a2,a3,a4,a5,a6,a7,hpa⟩:=nI (fC (e:=f.ts[i].e) (by omega));have hk:[a0,a1,a2,a3,a4,a5,a6,a7,f.ts[i].h]=kq (qk f.ts[i]):=by
   simp only[kq,qk,hpa];rfl
  have hval:=hLJ.val (e:=qk f.ts[i]) hT.1 (c:=f.ts[i].c) (X:=1000000) (by omega) (by omega);rw[<-hk] at hval;refine bR [(true,0),(true,1),(true,2),(true,4),(true,5),(true,7),(true,8),(false,3),(true,6),(false,9)] ⟨by kernel_rfl,by kernel_rfl⟩ ([0,1,2,4,5,7,8,3] ++ ([6,9] ++ ([]))) rfl fun K hK=>?_;refine oSg fun L hL=>?_;simp[C.ad,qS,qtS];refine ae (iC f.ts[i].e (by omega) a0 a1 a2 a3 a4 a5 a6 a7 hpa) (by simp) (by simp) ?_;simp[C.ad,qS,qtS];apply hL;clear hL L;refine oSg fun L hL=>?_;simp[C.ad,qS,qtS];refine ae (fF n f.ts[i].c es a0 a1 a2 a3 a4 a5 a6 a7 f.ts[i].h (hLJ.map.len9 hv) hval) (by simp) (by simp) ?_;simp[C.ad,qS,qtS];apply hL;clear hL L;refine oEn fun L hL=>?_;simp only[d7];apply hL;clear hL L;simp[C.ad,qS,qtS];rw[hk];apply hK;clear hK K;show AWp _ _ _ _ _;refine ab fun K hK=>?_;simp[C.ad,qS,ay (show i < 4611686018427387904 by omega)];apply hK;clear hK K;simp[C.ad,qS];refine cast (congrArg R1 ?_) (hR1 (i+1,nY es (kq (qk f.ts[i])) f.ts[i].c,(qk f.ts[i],f.ts[i].c) :: l) ⟨hif,?_,?_⟩ (by dsimp only;omega))
  ·simp[qS,hn]
  ·have:=hLJ.add (e:=qk f.ts[i]) hT.1 (c:=f.ts[i].c) (X:=1000000) (by omega);dsimp only
   rwa [Nat.add_mul,Nat.one_mul]
  ·dsimp only;rw[List.take_succ_eq_append_getElem (by simpa using hif)];refine (List.Perm.cons _ hP).trans ?_;simp only[List.getElem_map,qp];exact (List.perm_append_singleton _ _).symm
 ·have hif:i=f.ts.length:=by have:=d_f hc2;omega
  have hall:l.Perm (f.ts.map qp):=by
   rw[List.take_of_length_le (by simp;omega)] at hP;exact hP
  apply aZ;refine cast (congrArg (Q0 (.exit 0)) ?_) (hX0 es l (hLJ.mono (by rw[hif];omega)) hall);simp[qS,hn,hif]
theorem o5 (fm:List (List Int)) (f g:Qsm) (n:Nat) (hn:f.v=n) (es eo P rest:List (List Int×Int)) (le:List Int) (lh lc:Int) (k0 k1 k2 k3 k4 k5 k6 k7 k8 t0 t1 t2 t3 t4 t5 t6 t7 t8 xc:Int) (i:Nat) (i0:Nat) (Q0:AEx->St->Prop) (hJ0:Q0 .normal ⟨ofL [(0,.d (.sh 1 fm.length (rows lS fm))),(4,.pt (4,0) [] 0),(5,.pt (5,0) [] 0),(6,.pt (6,0) [] 0),(8,.pt (8,0) [] 0),(11,.pt (11,0) [] 0),(12,.pt (12,0) [] 0),(13,.pt (13,0) [] 0),(14,.bool (decide (P=[]))),(15,.pt (15,0) [] 0),(72,.it (72,0) (8,0) [1] (rest.eraseIdx i) (some ([k0,k1,k2,k3,k4,k5,k6,k7,k8],xc))),(89,.bool (decide (P=[]\/qlt (q9 [t0,t1,t2,t3,t4,t5,t6,t7,t8]) (q9 [k0,k1,k2,k3,k4,k5,k6,k7,k8])=true)))],aF [((4,0),some (.bx (qS f))),((5,0),some (.bx (qS g))),((6,0),some (.bx [D.int 0,.v (.slice none 0 0)])),((8,0),some (.bx [D.int n,.mp es])),((11,0),some (.bx [D.int n,.mp eo])),((12,0),some (.bx [shI le,D.int lh,D.int lc])),((13,0),some (.bx [D.int t0,D.int t1,D.int t2,D.int t3,D.int t4,D.int t5,D.int t6,D.int t7,D.int t8])),((15,0),some (.bx [D.int k0,D.int k1,D.int k2,D.int k3,D.int k4,D.int k5,D.int k6,D.int k7,D.int k8])),((72,0),some .itr)]⟩):AWp C.ad (fM Tryz.f45 [1,1,1,1,1,1,0,0,0,1,0,1,1,0,1,0,0,1,1,0,1,0]) i0 Q0 ⟨ofL [(0,.d (.sh 1 fm.length (rows lS fm))),(4,.pt (4,0) [] 0),(5,.pt (5,0) [] 0),(6,.pt (6,0) [] 0),(8,.pt (8,0) [] 0),(11,.pt (11,0) [] 0),(12,.pt (12,0) [] 0),(13,.pt (13,0) [] 0),(14,.bool (decide (P=[]))),(15,.pt (15,0) [] 0),(72,.it (72,0) (8,0) [1] (rest.eraseIdx i) (some ([k0,k1,k2,k3,k4,k5,k6,k7,k8],xc)))],aF [((4,0),some (.bx (qS f))),((5,0),some (.bx (qS g))),((6,0),some (.bx [D.int 0,.v (.slice none 0 0)])),((8,0),some (.bx [D.int n,.mp es])),((11,0),some (.bx [D.int n,.mp eo])),((12,0),some (.bx [shI le,D.int lh,D.int lc])),((13,0),some (.bx [D.int t0,D.int t1,D.int t2,D.int t3,D.int t4,D.int t5,D.int t6,D.int t7,D.int t8])),((15,0),some (.bx [D.int k0,D.int k1,D.int k2,D.int k3,D.int k4,D.int k5,D.int k6,D.int k7,D.int k8])),((72,0),some .itr)]⟩:=by
 simp only[fM,Tryz.f45,fQ];refine bR [(true,0),(true,1),(true,2),(true,3),(true,4),(true,5),(true,6),(true,7),(true,8),(true,9),(false,10),(true,11),(true,12)] ⟨by kernel_rfl,by kernel_rfl⟩ ([0,1,2,3,4,5,6,7,8,9,10] ++ ([11,12])) rfl fun K hK=>?_;have hJ:K ⟨ofL [(0,.d (.sh 1 fm.length (rows lS fm))),(4,.pt (4,0) [] 0),(5,.pt (5,0) [] 0),(6,.pt (6,0) [] 0),(8,.pt (8,0) [] 0),(11,.pt (11,0) [] 0),(12,.pt (12,0) [] 0),(13,.pt (13,0) [] 0),(14,.bool (decide (P=[]))),(15,.pt (15,0) [] 0),(72,.it (72,0) (8,0) [1] (rest.eraseIdx i) (some ([k0,k1,k2,k3,k4,k5,k6,k7,k8],xc))),(89,.bool (decide (P=[]\/qlt (q9 [t0,t1,t2,t3,t4,t5,t6,t7,t8]) (q9 [k0,k1,k2,k3,k4,k5,k6,k7,k8])=true)))],aF [((4,0),some (.bx (qS f))),((5,0),some (.bx (qS g))),((6,0),some (.bx [D.int 0,.v (.slice none 0 0)])),((8,0),some (.bx [D.int n,.mp es])),((11,0),some (.bx [D.int n,.mp eo])),((12,0),some (.bx [shI le,D.int lh,D.int lc])),((13,0),some (.bx [D.int t0,D.int t1,D.int t2,D.int t3,D.int t4,D.int t5,D.int t6,D.int t7,D.int t8])),((15,0),some (.bx [D.int k0,D.int k1,D.int k2,D.int k3,D.int k4,D.int k5,D.int k6,D.int k7,D.int k8])),((72,0),some .itr)]⟩:=by
  apply hK;clear hK K;exact hJ0
 clear hK
 by_cases hp:P=[]
 ·refine oSg fun L hL=>?_;simp[C.ad,qS,ints,sh8,hp];apply hL;clear hL L;refine oEn fun L hL=>?_;simp[C.ad,qS,ints,sh8,hp];apply hL;clear hL L;simp[C.ad,qS,ints,sh8,hp];refine cast (congrArg K ?_) hJ;simp[lA,q9,hn,qS,hp]
 ·refine oSg fun L hL=>?_;simp[C.ad,qS,ints,sh8,hp];refine ae (jJ [k0,k1,k2,k3,k4,k5,k6,k7] k8 [t0,t1,t2,t3,t4,t5,t6,t7] t8 (by simp)) (by simp[qS,ints,sh8]) (by simp) ?_;simp[C.ad,qS,ints,sh8,hp];apply hL;clear hL L;refine oEn fun L hL=>?_;simp[C.ad,qS,ints,sh8,hp];apply hL;clear hL L;simp[C.ad,qS,ints,sh8,hp];refine cast (congrArg K ?_) hJ;simp[lA,q9,hn,qS,hp]
theorem qj (fm:List (List Int)) (f g:Qsm) (n:Nat) (hn:f.v=n) (es eo:List (List Int×Int)) (le:List Int) (lh lc:Int) (hm9:kB 9 es) (Q0:AEx->St->Prop) (hX0:∀ P top cur,P.Perm es->oP P top->Q0 (.exit 4) ⟨ofL [(0,.d (.sh 1 fm.length (rows lS fm))),(4,.pt (4,0) [] 0),(5,.pt (5,0) [] 0),(6,.pt (6,0) [] 0),(8,.pt (8,0) [] 0),(11,.pt (11,0) [] 0),(12,.pt (12,0) [] 0),(13,.pt (13,0) [] 0),(14,.bool (decide (P=[]))),(72,.it (72,0) (8,0) [1] [] cur),(74,.bool false)],aF [((4,0),some (.bx (qS f))),((5,0),some (.bx (qS g))),((6,0),some (.bx [D.int 0,.v (.slice none 0 0)])),((8,0),some (.bx [D.int n,.mp es])),((11,0),some (.bx [D.int n,.mp eo])),((12,0),some (.bx [shI le,D.int lh,D.int lc])),((13,0),some (.bx (ints top))),((72,0),some .itr)]⟩):AWp C.ad (fM Tryz.f45 [1,1,1,1,1,1,0,0,0,1,0,1,1,0,1,0]) 4 Q0 ⟨ofL [(0,.d (.sh 1 fm.length (rows lS fm))),(4,.pt (4,0) [] 0),(5,.pt (5,0) [] 0),(6,.pt (6,0) [] 0),(8,.pt (8,0) [] 0),(11,.pt (11,0) [] 0),(12,.pt (12,0) [] 0),(13,.pt (13,0) [] 0),(14,.bool (decide (([]:List (List Int×Int))=[]))),(72,.it (72,0) (8,0) [1] es none)],aF [((4,0),some (.bx (qS f))),((5,0),some (.bx (qS g))),((6,0),some (.bx [D.int 0,.v (.slice none 0 0)])),((8,0),some (.bx [D.int n,.mp es])),((11,0),some (.bx [D.int n,.mp eo])),((12,0),some (.bx [shI le,D.int lh,D.int lc])),((13,0),some (.bx (ints [0,0,0,0,0,0,0,0,0]))),((72,0),some .itr)]⟩:=by
 simp only[fM,Tryz.f45,fQ];refine bm (fun x:List (List Int×Int)×List Int×List (List Int×Int)×Option (List Int×Int)=>⟨ofL [(0,.d (.sh 1 fm.length (rows lS fm))),(4,.pt (4,0) [] 0),(5,.pt (5,0) [] 0),(6,.pt (6,0) [] 0),(8,.pt (8,0) [] 0),(11,.pt (11,0) [] 0),(12,.pt (12,0) [] 0),(13,.pt (13,0) [] 0),(14,.bool (decide (x.1=[]))),(72,.it (72,0) (8,0) [1] x.2.2.1 x.2.2.2)],aF [((4,0),some (.bx (qS f))),((5,0),some (.bx (qS g))),((6,0),some (.bx [D.int 0,.v (.slice none 0 0)])),((8,0),some (.bx [D.int n,.mp es])),((11,0),some (.bx [D.int n,.mp eo])),((12,0),some (.bx [shI le,D.int lh,D.int lc])),((13,0),some (.bx (ints x.2.1))),((72,0),some .itr)]⟩) (fun x=>(x.1 ++ x.2.2.1).Perm es/\oP x.1 x.2.1) (fun x=>x.2.2.1.length) ([],[0,0,0,0,0,0,0,0,0],es,none) (by simp[C.ad,qS,hn,ints]) ⟨by simp,⟨rfl,by simp,by simp⟩⟩ ?_;intro x3 hx3 R3 hR3;obtain⟨P,top,rest,cur⟩:=x3;obtain⟨hq,hT⟩:=hx3;dsimp only at hq hT ⊢;apply aa;refine ab fun K hK=>?_;simp[C.ad,qS];refine⟨fun hrest=>?_,fun i xk xc hxi=>?_⟩
 ·apply hK;clear hK K;show AWp _ _ _ _ _;apply aa;refine ap _ rfl (fun hc4=>?_) (fun hc4=>?_)
  ·simp at hc4
  ·subst hrest;have hqe:P.Perm es:=by simpa using hq
   apply aZ;refine cast (congrArg (Q0 (.exit 4)) ?_) (hX0 P top cur hqe hT);simp[qS,hn]
 ·apply hK;clear hK K;show AWp _ _ _ _ _;apply aa;refine ap _ rfl (fun hc6=>?_) (fun hc6=>?_)
  ·have hxm:(xk,xc)∈rest:=List.mem_of_getElem? hxi;have hxl:=hm9 _ (hq.subset (List.mem_append_right P hxm));dsimp only at hxl;obtain⟨k0,k1,k2,k3,k4,k5,k6,k7,k8,rfl⟩:=nine hxl;obtain⟨t0,t1,t2,t3,t4,t5,t6,t7,t8,rfl⟩:=nine hT.len;have hil:i < rest.length:=by
    rcases Nat.lt_or_ge i rest.length with h | h
    ·exact h
    ·rw[List.getElem?_eq_none h] at hxi;simp at hxi
   have hper:(P ++ [([k0,k1,k2,k3,k4,k5,k6,k7,k8],xc)] ++ rest.eraseIdx i).Perm es:=by
    have hget:rest[i]=([k0,k1,k2,k3,k4,k5,k6,k7,k8],xc):=by
     rw[List.getElem?_eq_getElem hil] at hxi;injection hxi
    have h9:=po rest i hil;rw[hget] at h9;refine List.Perm.trans ?_ hq;rw[List.append_assoc];exact List.Perm.append_left _ h9
   apply au;show AWp _ _ _ _ _;apply ak;apply aa;refine ab fun K hK=>?_;simp[C.ad,qS,ints];apply hK;clear hK K;show AWp _ _ _ _ _;apply aa;refine sx (c':=fM Tryz.f45 [1,1,1,1,1,1,0,0,0,1,0,1,1,0,1,0,0,1,1,0,1,0]) (by kernel_rfl) ?_;refine o5 fm f g n hn es eo P rest le lh lc k0 k1 k2 k3 k4 k5 k6 k7 k8 t0 t1 t2 t3 t4 t5 t6 t7 t8 xc i _ _ ?_;show AWp _ _ _ _ _;refine ap _ rfl (fun hc7=>?_) (fun hc7=>?_)
   ·have hcm:=d_t hc7;refine ab fun K hK=>?_;simp[C.ad,qS];apply hK;clear hK K;simp[C.ad,qS];refine cast (congrArg R3 ?_) (hR3 (P ++ [([k0,k1,k2,k3,k4,k5,k6,k7,k8],xc)],[k0,k1,k2,k3,k4,k5,k6,k7,k8],rest.eraseIdx i,some ([k0,k1,k2,k3,k4,k5,k6,k7,k8],xc)) ⟨hper,hT.next rfl hcm⟩ (by dsimp only;rw[List.length_eraseIdx_of_lt hil];omega));simp[qS,hn,ints]
   ·have hcm:=d_f hc7;have hPn:P≠[]:=fun e=>hcm (.inl e);have hlt:qlt (q9 [t0,t1,t2,t3,t4,t5,t6,t7,t8]) (q9 [k0,k1,k2,k3,k4,k5,k6,k7,k8])=false:=by
     cases hh:qlt (q9 [t0,t1,t2,t3,t4,t5,t6,t7,t8]) (q9 [k0,k1,k2,k3,k4,k5,k6,k7,k8]) with
     | false=>rfl
     | true=>exact absurd (.inr hh) hcm
    apply au;simp[C.ad,qS];refine cast (congrArg R3 ?_) (hR3 (P ++ [([k0,k1,k2,k3,k4,k5,k6,k7,k8],xc)],[t0,t1,t2,t3,t4,t5,t6,t7,t8],rest.eraseIdx i,some ([k0,k1,k2,k3,k4,k5,k6,k7,k8],xc)) ⟨hper,hT.keep hPn hlt⟩ (by dsimp only;rw[List.length_eraseIdx_of_lt hil];omega));simp[qS,hn,ints,hPn]
  ·simp at hc6
theorem pc (fm:List (List Int)) (f g:Qsm) (n:Nat) (es eo:List (List Int×Int)) (le:List Int) (lh lc:Int) (a0 a1 a2 a3 a4 a5 a6 a7 b0 b1 b2 b3 b4 b5 b6 b7 ah c:Int) (hgl8:le.length<=8) (hpb:pad le=[b0,b1,b2,b3,b4,b5,b6,b7]) (hba:∀ x∈[a0,a1,a2,a3,a4,a5,a6,a7],-1000000<=x/\x<=1000000) (hbb:∀ x∈[b0,b1,b2,b3,b4,b5,b6,b7],-1000000<=x/\x<=1000000) (i0:Nat) (Q0:AEx->St->Prop) (hJ0:Q0 .normal ⟨ofL [(0,.d (.sh 1 fm.length (rows lS fm))),(4,.pt (4,0) [] 0),(5,.pt (5,0) [] 0),(6,.pt (6,0) [] 0),(8,.pt (8,0) [] 0),(11,.pt (11,0) [] 0),(12,.pt (12,0) [] 0),(13,.pt (13,0) [] 0),(16,.int c),(17,.pt (17,0) [] 0)],aF [((4,0),some (.bx (qS f))),((5,0),some (.bx (qS g))),((6,0),some (.bx [D.int 0,.v (.slice none 0 0)])),((8,0),some (.bx [D.int n,.mp es])),((11,0),some (.bx [D.int n,.mp eo])),((12,0),some (.bx [shI le,D.int lh,D.int lc])),((13,0),some (.bx (ints [a0,a1,a2,a3,a4,a5,a6,a7,ah]))),((17,0),some (.bx [D.int (a0 + -1*b0),D.int (a1 + -1*b1),D.int (a2 + -1*b2),D.int (a3 + -1*b3),D.int (a4 + -1*b4),D.int (a5 + -1*b5),D.int (a6 + -1*b6),D.int (a7 + -1*b7)]))]⟩):AWp C.ad (fM Tryz.f45 [1,1,1,1,1,1,0,0,0,1,0,1,1,1,1,0]) i0 Q0 ⟨ofL [(0,.d (.sh 1 fm.length (rows lS fm))),(4,.pt (4,0) [] 0),(5,.pt (5,0) [] 0),(6,.pt (6,0) [] 0),(8,.pt (8,0) [] 0),(11,.pt (11,0) [] 0),(12,.pt (12,0) [] 0),(13,.pt (13,0) [] 0),(16,.int c)],aF [((4,0),some (.bx (qS f))),((5,0),some (.bx (qS g))),((6,0),some (.bx [D.int 0,.v (.slice none 0 0)])),((8,0),some (.bx [D.int n,.mp es])),((11,0),some (.bx [D.int n,.mp eo])),((12,0),some (.bx [shI le,D.int lh,D.int lc])),((13,0),some (.bx (ints [a0,a1,a2,a3,a4,a5,a6,a7,ah])))]⟩:=by
 simp only[fM,Tryz.f45,fQ];refine eG (.take 0 (.take 1 (.take 2 (.take 3 (.all [(4,.all [(5,.all [(6,.all [(7,.done)])]),(6,.all [(5,.all [(7,.done)])])]),(6,.all [(4,.all [(5,.all [(7,.done)])])])]))))) ⟨by kernel_rfl,by kernel_rfl⟩ fun K hK=>?_;have hJ:K ⟨ofL [(0,.d (.sh 1 fm.length (rows lS fm))),(4,.pt (4,0) [] 0),(5,.pt (5,0) [] 0),(6,.pt (6,0) [] 0),(8,.pt (8,0) [] 0),(11,.pt (11,0) [] 0),(12,.pt (12,0) [] 0),(13,.pt (13,0) [] 0),(16,.int c),(17,.pt (17,0) [] 0)],aF [((4,0),some (.bx (qS f))),((5,0),some (.bx (qS g))),((6,0),some (.bx [D.int 0,.v (.slice none 0 0)])),((8,0),some (.bx [D.int n,.mp es])),((11,0),some (.bx [D.int n,.mp eo])),((12,0),some (.bx [shI le,D.int lh,D.int lc])),((13,0),some (.bx (ints [a0,a1,a2,a3,a4,a5,a6,a7,ah]))),((17,0),some (.bx [D.int (a0 + -1*b0),D.int (a1 + -1*b1),D.int (a2 + -1*b2),D.int (a3 + -1*b3),D.int (a4 + -1*b4),D.int (a5 + -1*b5),D.int (a6 + -1*b6),D.int (a7 + -1*b7)]))]⟩:=by
  apply hK;clear hK K;exact hJ0
 clear hK;have hk1:=iC le (by omega) b0 b1 b2 b3 b4 b5 b6 b7 hpb;have hk2:=lm (-1) a0 a1 a2 a3 a4 a5 a6 a7 b0 b1 b2 b3 b4 b5 b6 b7 (by omega) hba hbb;simp[C.ad,qS,ints]
 repeat' first
  | (refine ae hk1 (by simp) (by simp) ?_;simp[C.ad,qS])
  | (refine ae hk2 (by simp) (by simp) ?_;simp[C.ad,qS])
  | (refine cast (congrArg K ?_) hJ;simp[qS,ints];done)
  | refine⟨?_,?_⟩
theorem oO (fm:List (List Int)) (f g:Qsm) (n:Nat) (hn:f.v=n) (hv:n<=8) (es eo:List (List Int×Int)) (O:List (QK×Int)) (le:List Int) (lh lc:Int) (E:List Int) (e0 e1 e2 e3 e4 e5 e6 e7 c q H:Int) (hgc0:lc≠0) (hsh:shareL (List.take n [D.v (.int .i64 e0),D.v (.int .i64 e1),D.v (.int .i64 e2),D.v (.int .i64 e3),D.v (.int .i64 e4),D.v (.int .i64 e5),D.v (.int .i64 e6),D.v (.int .i64 e7)])=ints E) (hEl:E.length=n) (heol:eo.length=O.length) (i0:Nat) (Q0:AEx->St->Prop) (hJ0:Q0 .normal ⟨ofL [(0,.d (.sh 1 fm.length (rows lS fm))),(4,.pt (4,0) [] 0),(5,.pt (5,0) [] 0),(6,.pt (6,0) [] 0),(8,.pt (8,0) [] 0),(11,.pt (11,0) [] 0),(12,.pt (12,0) [] 0),(17,.pt (17,0) [] 0),(18,.int H),(19,.int q),(151,.bool (!decide ((((c.tmod lc=0/\okE E n=true)/\(-200<=H/\H<=200))/\(q≠0/\-1000000<=q/\q<=1000000))/\¬ O.length=600)))],aF [((4,0),some (.bx (qS f))),((5,0),some (.bx (qS g))),((6,0),some (.bx [D.int 0,.v (.slice none 0 0)])),((8,0),some (.bx [D.int n,.mp es])),((11,0),some (.bx [D.int n,.mp eo])),((12,0),some (.bx [shI le,D.int lh,D.int lc])),((17,0),some (.bx [D.int e0,D.int e1,D.int e2,D.int e3,D.int e4,D.int e5,D.int e6,D.int e7]))]⟩):AWp C.ad (fM Tryz.f45 [1,1,1,1,1,1,0,0,0,1,0,1,1,1,1,1,1,1,0,0]) i0 Q0 ⟨ofL [(0,.d (.sh 1 fm.length (rows lS fm))),(4,.pt (4,0) [] 0),(5,.pt (5,0) [] 0),(6,.pt (6,0) [] 0),(8,.pt (8,0) [] 0),(11,.pt (11,0) [] 0),(12,.pt (12,0) [] 0),(16,.int c),(17,.pt (17,0) [] 0),(18,.int H),(19,.int q)],aF [((4,0),some (.bx (qS f))),((5,0),some (.bx (qS g))),((6,0),some (.bx [D.int 0,.v (.slice none 0 0)])),((8,0),some (.bx [D.int n,.mp es])),((11,0),some (.bx [D.int n,.mp eo])),((12,0),some (.bx [shI le,D.int lh,D.int lc])),((17,0),some (.bx [D.int e0,D.int e1,D.int e2,D.int e3,D.int e4,D.int e5,D.int e6,D.int e7]))]⟩:=by
 simp only[fM,Tryz.f45,fQ];refine bR [(true,0),(true,1),(true,2),(true,3),(true,4),(true,5),(true,6),(true,7),(true,8),(true,9),(true,10),(false,11),(true,12),(true,13),(true,14),(true,15),(false,16),(true,17),(true,18),(true,19),(true,20),(false,21),(true,22),(true,23),(true,24),(true,25),(true,26),(true,27),(true,28),(true,29),(true,30),(true,31)] ⟨by kernel_rfl,by kernel_rfl⟩ ([0,1,2,3,4,5,6,7,8,9,10,11] ++ ([12,13,14,15,16] ++ ([17,18,19,20,21] ++ ([22,23,24,25,26,27,28,29,30,31])))) rfl fun K hK=>?_;have hJ:K ⟨ofL [(0,.d (.sh 1 fm.length (rows lS fm))),(4,.pt (4,0) [] 0),(5,.pt (5,0) [] 0),(6,.pt (6,0) [] 0),(8,.pt (8,0) [] 0),(11,.pt (11,0) [] 0),(12,.pt (12,0) [] 0),(17,.pt (17,0) [] 0),(18,.int H),(19,.int q),(151,.bool (!decide ((((c.tmod lc=0/\okE E n=true)/\(-200<=H/\H<=200))/\(q≠0/\-1000000<=q/\q<=1000000))/\¬ O.length=600)))],aF [((4,0),some (.bx (qS f))),((5,0),some (.bx (qS g))),((6,0),some (.bx [D.int 0,.v (.slice none 0 0)])),((8,0),some (.bx [D.int n,.mp es])),((11,0),some (.bx [D.int n,.mp eo])),((12,0),some (.bx [shI le,D.int lh,D.int lc])),((17,0),some (.bx [D.int e0,D.int e1,D.int e2,D.int e3,D.int e4,D.int e5,D.int e6,D.int e7]))]⟩:=by
  apply hK;clear hK K;exact hJ0
 clear hK
 by_cases g1:c.tmod lc=0
 ·by_cases g2:okE E n=true
  ·by_cases g2h:(-200<=H/\H<=200)
   ·by_cases g3:(q≠0/\-1000000<=q/\q<=1000000)
    ·refine oSg fun L hL=>?_;simp[C.ad,qS,hgc0,hn,show ((n:Int)<=8) by omega,hv,Nat.min_eq_left hv,hsh,hEl,heol,g1,g2,g2h,g3];refine ae (gI E n (by omega)) (by simp[qS,hgc0,hn,show ((n:Int)<=8) by omega,hv,Nat.min_eq_left hv,hsh,hEl,heol]) (by simp) ?_;simp[C.ad,qS,hgc0,hn,show ((n:Int)<=8) by omega,hv,Nat.min_eq_left hv,hsh,hEl,heol,g1,g2,g2h,g3];apply hL;clear hL L;refine oSg fun L hL=>?_;simp[C.ad,qS,hgc0,hn,show ((n:Int)<=8) by omega,hv,Nat.min_eq_left hv,hsh,hEl,heol,g1,g2,g2h,g3];refine ae (cg H (-200) 200) (by simp) (by simp) ?_;simp[C.ad,qS,hgc0,hn,show ((n:Int)<=8) by omega,hv,Nat.min_eq_left hv,hsh,hEl,heol,g1,g2,g2h,g3];apply hL;clear hL L;refine oSg fun L hL=>?_;simp[C.ad,qS,hgc0,hn,show ((n:Int)<=8) by omega,hv,Nat.min_eq_left hv,hsh,hEl,heol,g1,g2,g2h,g3];refine ae (mf q) (by simp) (by simp) ?_;simp[C.ad,qS,hgc0,hn,show ((n:Int)<=8) by omega,hv,Nat.min_eq_left hv,hsh,hEl,heol,g1,g2,g2h,g3];apply hL;clear hL L;refine oEn fun L hL=>?_;simp[C.ad,qS,hgc0,hn,show ((n:Int)<=8) by omega,hv,Nat.min_eq_left hv,hsh,hEl,heol,g1,g2,g2h,g3];apply hL;clear hL L;simp[C.ad,qS,hgc0,hn,show ((n:Int)<=8) by omega,hv,Nat.min_eq_left hv,hsh,hEl,heol,g1,g2,g2h,g3];refine cast (congrArg K ?_) hJ;simp[kE,hn,qS,g1,g2,g2h,g3]
    ·refine oSg fun L hL=>?_;simp[C.ad,qS,hgc0,hn,show ((n:Int)<=8) by omega,hv,Nat.min_eq_left hv,hsh,hEl,heol,g1,g2,g2h,g3];refine ae (gI E n (by omega)) (by simp[qS,hgc0,hn,show ((n:Int)<=8) by omega,hv,Nat.min_eq_left hv,hsh,hEl,heol]) (by simp) ?_;simp[C.ad,qS,hgc0,hn,show ((n:Int)<=8) by omega,hv,Nat.min_eq_left hv,hsh,hEl,heol,g1,g2,g2h,g3];apply hL;clear hL L;refine oSg fun L hL=>?_;simp[C.ad,qS,hgc0,hn,show ((n:Int)<=8) by omega,hv,Nat.min_eq_left hv,hsh,hEl,heol,g1,g2,g2h,g3];refine ae (cg H (-200) 200) (by simp) (by simp) ?_;simp[C.ad,qS,hgc0,hn,show ((n:Int)<=8) by omega,hv,Nat.min_eq_left hv,hsh,hEl,heol,g1,g2,g2h,g3];apply hL;clear hL L;refine oSg fun L hL=>?_;simp[C.ad,qS,hgc0,hn,show ((n:Int)<=8) by omega,hv,Nat.min_eq_left hv,hsh,hEl,heol,g1,g2,g2h,g3];refine ae (mf q) (by simp) (by simp) ?_;simp[C.ad,qS,hgc0,hn,show ((n:Int)<=8) by omega,hv,Nat.min_eq_left hv,hsh,hEl,heol,g1,g2,g2h,g3];apply hL;clear hL L;refine oEn fun L hL=>?_;simp[C.ad,qS,hgc0,hn,show ((n:Int)<=8) by omega,hv,Nat.min_eq_left hv,hsh,hEl,heol,g1,g2,g2h,g3];apply hL;clear hL L;simp[C.ad,qS,hgc0,hn,show ((n:Int)<=8) by omega,hv,Nat.min_eq_left hv,hsh,hEl,heol,g1,g2,g2h,g3];refine cast (congrArg K ?_) hJ;simp[kE,hn,qS,g1,g2,g2h,g3]
   ·refine oSg fun L hL=>?_;simp[C.ad,qS,hgc0,hn,show ((n:Int)<=8) by omega,hv,Nat.min_eq_left hv,hsh,hEl,heol,g1,g2,g2h];refine ae (gI E n (by omega)) (by simp[qS,hgc0,hn,show ((n:Int)<=8) by omega,hv,Nat.min_eq_left hv,hsh,hEl,heol]) (by simp) ?_;simp[C.ad,qS,hgc0,hn,show ((n:Int)<=8) by omega,hv,Nat.min_eq_left hv,hsh,hEl,heol,g1,g2,g2h];apply hL;clear hL L;refine oSg fun L hL=>?_;simp[C.ad,qS,hgc0,hn,show ((n:Int)<=8) by omega,hv,Nat.min_eq_left hv,hsh,hEl,heol,g1,g2,g2h];refine ae (cg H (-200) 200) (by simp) (by simp) ?_;simp[C.ad,qS,hgc0,hn,show ((n:Int)<=8) by omega,hv,Nat.min_eq_left hv,hsh,hEl,heol,g1,g2,g2h];apply hL;clear hL L;refine oSg fun L hL=>?_;simp[C.ad,qS,hgc0,hn,show ((n:Int)<=8) by omega,hv,Nat.min_eq_left hv,hsh,hEl,heol,g1,g2,g2h];apply hL;clear hL L;refine oEn fun L hL=>?_;simp[C.ad,qS,hgc0,hn,show ((n:Int)<=8) by omega,hv,Nat.min_eq_left hv,hsh,hEl,heol,g1,g2,g2h];apply hL;clear hL L;simp[C.ad,qS,hgc0,hn,show ((n:Int)<=8) by omega,hv,Nat.min_eq_left hv,hsh,hEl,heol,g1,g2,g2h];refine cast (congrArg K ?_) hJ;simp[kE,hn,qS,g1,g2,g2h]
  ·refine oSg fun L hL=>?_;simp[C.ad,qS,hgc0,hn,show ((n:Int)<=8) by omega,hv,Nat.min_eq_left hv,hsh,hEl,heol,g1,g2];refine ae (gI E n (by omega)) (by simp[qS,hgc0,hn,show ((n:Int)<=8) by omega,hv,Nat.min_eq_left hv,hsh,hEl,heol]) (by simp) ?_;simp[C.ad,qS,hgc0,hn,show ((n:Int)<=8) by omega,hv,Nat.min_eq_left hv,hsh,hEl,heol,g1,g2];apply hL;clear hL L;refine oSg fun L hL=>?_;simp[C.ad,qS,hgc0,hn,show ((n:Int)<=8) by omega,hv,Nat.min_eq_left hv,hsh,hEl,heol,g1,g2];apply hL;clear hL L;refine oSg fun L hL=>?_;simp[C.ad,qS,hgc0,hn,show ((n:Int)<=8) by omega,hv,Nat.min_eq_left hv,hsh,hEl,heol,g1,g2];apply hL;clear hL L;refine oEn fun L hL=>?_;simp[C.ad,qS,hgc0,hn,show ((n:Int)<=8) by omega,hv,Nat.min_eq_left hv,hsh,hEl,heol,g1,g2];apply hL;clear hL L;simp[C.ad,qS,hgc0,hn,show ((n:Int)<=8) by omega,hv,Nat.min_eq_left hv,hsh,hEl,heol,g1,g2];refine cast (congrArg K ?_) hJ;simp[kE,hn,qS,g1,g2]
 ·refine oSg fun L hL=>?_;simp[C.ad,qS,hgc0,hn,show ((n:Int)<=8) by omega,hv,Nat.min_eq_left hv,hsh,hEl,heol,g1];apply hL;clear hL L;refine oSg fun L hL=>?_;simp[C.ad,qS,hgc0,hn,show ((n:Int)<=8) by omega,hv,Nat.min_eq_left hv,hsh,hEl,heol,g1];apply hL;clear hL L;refine oSg fun L hL=>?_;simp[C.ad,qS,hgc0,hn,show ((n:Int)<=8) by omega,hv,Nat.min_eq_left hv,hsh,hEl,heol,g1];apply hL;clear hL L;refine oEn fun L hL=>?_;simp[C.ad,qS,hgc0,hn,show ((n:Int)<=8) by omega,hv,Nat.min_eq_left hv,hsh,hEl,heol,g1];apply hL;clear hL L;simp[C.ad,qS,hgc0,hn,show ((n:Int)<=8) by omega,hv,Nat.min_eq_left hv,hsh,hEl,heol,g1];refine cast (congrArg K ?_) hJ;simp[kE,hn,qS,g1]
theorem qi (fm:List (List Int)) (hok:bp fm) (f g:Qsm) (n:Nat) (hnn:fm.length=n) (hn:f.v=n) (hgn:g.v=n) (hv:n<=8) (hg:aL g) (hgl:g.ts.length<=600) (es:List (List Int×Int)) (l:List (QK×Int)) (eo2:List (List Int×Int)) (O:List (QK×Int)) (hOl:O.length<=600) (le:List Int) (lh lc:Int) (hLr:LJQ n es l (600000000+O.length*600000000000000)) (E:List Int) (hEl:E.length=n) (hE20:∀ x∈E,-20<=x/\x<=20) (e0 e1 e2 e3 e4 e5 e6 e7 q H:Int) (hpe:pad E=[e0,e1,e2,e3,e4,e5,e6,e7]) (hsh:shareL (List.take n [D.v (.int .i64 e0),D.v (.int .i64 e1),D.v (.int .i64 e2),D.v (.int .i64 e3),D.v (.int .i64 e4),D.v (.int .i64 e5),D.v (.int .i64 e6),D.v (.int .i64 e7)])=ints E) (hbe:∀ x∈[e0,e1,e2,e3,e4,e5,e6,e7],-1000000<=x/\x<=1000000) (g2h:-200<=H/\H<=200) (g3:q≠0/\-1000000<=q/\q<=1000000) (Q0:AEx->St->Prop) (hX0:∀ es2 l2,LJQ n es2 l2 (600000000+O.length*600000000000000+600000000000000)->l2.Perm (l ++ qX fm (E,H) q g.ts)->Q0 (.exit 6) ⟨ofL [(0,.d (.sh 1 fm.length (rows lS fm))),(4,.pt (4,0) [] 0),(5,.pt (5,0) [] 0),(6,.pt (6,0) [] 0),(8,.pt (8,0) [] 0),(11,.pt (11,0) [] 0),(12,.pt (12,0) [] 0),(17,.pt (17,0) [] 0),(18,.int H),(19,.int q),(160,.d (.sh 3 g.ts.length (rows qtS g.ts))),(161,.int g.ts.length),(162,.int g.ts.length),(163,.bool false)],aF [((4,0),some (.bx (qS f))),((5,0),some (.bx (qS g))),((6,0),some (.bx [D.int 0,.v (.slice none 0 0)])),((8,0),some (.bx [D.int n,.mp es2])),((11,0),some (.bx [D.int n,.mp eo2])),((12,0),some (.bx [shI le,D.int lh,D.int lc])),((17,0),some (.bx [D.int e0,D.int e1,D.int e2,D.int e3,D.int e4,D.int e5,D.int e6,D.int e7]))]⟩):AWp C.ad (fM Tryz.f45 [1,1,1,1,1,1,0,0,0,1,0,1,1,1,1,1,1,1,1,1,1,0]) 6 Q0 ⟨ofL [(0,.d (.sh 1 fm.length (rows lS fm))),(4,.pt (4,0) [] 0),(5,.pt (5,0) [] 0),(6,.pt (6,0) [] 0),(8,.pt (8,0) [] 0),(11,.pt (11,0) [] 0),(12,.pt (12,0) [] 0),(17,.pt (17,0) [] 0),(18,.int H),(19,.int q),(160,.d (.sh 3 g.ts.length (rows qtS g.ts))),(161,.int g.ts.length),(162,.int 0)],aF [((4,0),some (.bx (qS f))),((5,0),some (.bx (qS g))),((6,0),some (.bx [D.int 0,.v (.slice none 0 0)])),((8,0),some (.bx [D.int n,.mp es])),((11,0),some (.bx [D.int n,.mp eo2])),((12,0),some (.bx [shI le,D.int lh,D.int lc])),((17,0),some (.bx [D.int e0,D.int e1,D.int e2,D.int e3,D.int e4,D.int e5,D.int e6,D.int e7]))]⟩:=by
 simp only[fM,Tryz.f45,fQ];refine bm (fun x:Nat×List (List Int×Int)×List (QK×Int)=>⟨ofL [(0,.d (.sh 1 fm.length (rows lS fm))),(4,.pt (4,0) [] 0),(5,.pt (5,0) [] 0),(6,.pt (6,0) [] 0),(8,.pt (8,0) [] 0),(11,.pt (11,0) [] 0),(12,.pt (12,0) [] 0),(17,.pt (17,0) [] 0),(18,.int H),(19,.int q),(160,.d (.sh 3 g.ts.length (rows qtS g.ts))),(161,.int g.ts.length),(162,.int x.1)],aF [((4,0),some (.bx (qS f))),((5,0),some (.bx (qS g))),((6,0),some (.bx [D.int 0,.v (.slice none 0 0)])),((8,0),some (.bx [D.int n,.mp x.2.1])),((11,0),some (.bx [D.int n,.mp eo2])),((12,0),some (.bx [shI le,D.int lh,D.int lc])),((17,0),some (.bx [D.int e0,D.int e1,D.int e2,D.int e3,D.int e4,D.int e5,D.int e6,D.int e7]))]⟩) (fun x=>x.1<=g.ts.length/\LJQ n x.2.1 x.2.2 (600000000+O.length*600000000000000+x.1*1000000000000)/\x.2.2.Perm (l ++ qX fm (E,H) q (g.ts.take x.1))) (fun x=>g.ts.length - x.1) (0,es,l) (by simp[C.ad,qS,hn,hgn,hpe]) ⟨by simp,hLr.mono (by dsimp only;omega),by simp[qX]⟩ ?_;intro x4 hx4 R4 hR4;obtain⟨j,es2,l2⟩:=x4;obtain⟨hj,hL2,hP2⟩:=hx4;dsimp only at hj hL2 hP2 ⊢;apply aa;refine ab fun K hK=>?_;simp[C.ad,qS];apply hK;clear hK K;show AWp _ _ _ _ _;apply aa;refine ap _ rfl (fun hc9=>?_) (fun hc9=>?_)
 ·have hjg:j < g.ts.length:=by have:=d_t hc9;omega
  have hU:=gD hg hgn _ (List.getElem_mem hjg);apply au;show AWp _ _ _ _ _;apply aa;apply ak;apply aa;refine ab fun K hK=>?_;simp[C.ad,qS,hjg,bI hjg,bY hjg,bW hjg];apply hK;clear hK K;show AWp _ _ _ _ _;obtain⟨u0,u1,u2,u3,u4,u5,u6,u7,hpu⟩:=nI (fC (e:=g.ts[j].e) (by omega));have hbu:=qx hU.2.1;rw[hpu] at hbu;have hSk:eJ fm g.ts[j].e E:=eJ.mk' (p:=20) (q:=20) hok ⟨by omega,hU.2.1⟩ ⟨by omega,hE20⟩ (by omega) (by omega);have hSb:=hSk.bd;have hpair:=iX fm g.ts[j].e E hSk;have hw1:IntKind.i64.wrap (g.ts[j].h+H)=g.ts[j].h+H:=aj (by omega) (by omega);have hw2:IntKind.i64.wrap (g.ts[j].h+H+skw fm g.ts[j].e E)=g.ts[j].h+H+skw fm g.ts[j].e E:=aj (by omega) (by omega);have hadd:[e0+1*u0,e1+1*u1,e2+1*u2,e3+1*u3,e4+1*u4,e5+1*u5,e6+1*u6,e7+1*u7,g.ts[j].h+H+skw fm g.ts[j].e E]=kq (dM fm (E,H) (qk g.ts[j])):=by
   simp only[kq,dM,qk];rw[lF _ _ (by omega),<-wv (by omega),hpe,hpu];simp[bc]
  have hnl:(dM fm (E,H) (qk g.ts[j])).1.length=n:=by simp only[dM,qk];rw[dh _ _ _ (by omega)];exact hU.1
  have hcc:=rh (x:=-q) (y:=g.ts[j].c) (by omega) ⟨hU.2.2.2.1,hU.2.2.2.2.1⟩;have hvj:=hL2.val (e:=dM fm (E,H) (qk g.ts[j])) hnl (c:=-q*g.ts[j].c) (X:=1000000000000) (by omega) (by omega);rw[<-hadd] at hvj;refine bR [(true,0),(true,1),(true,2),(true,3),(true,6),(true,7),(true,8),(true,9),(true,10),(true,11),(true,12),(true,13),(true,14),(true,15),(true,19),(true,20),(true,21),(true,22),(true,23),(false,4),(false,5),(false,16),(true,17),(true,18),(false,24)] ⟨by kernel_rfl,by kernel_rfl⟩ ([0,1,2,3,6,7,8,9,10,11,12,13,14,15,19,20,21,22,23,4] ++ ([5] ++ ([16] ++ ([17,18,24] ++ ([]))))) rfl fun K hK=>?_;refine oSg fun L hL=>?_;simp[C.ad,qS,qtS,hw1,hw2,hn,hv,Nat.min_eq_left hv,hsh,hEl,show ((n:Int)<=8) by omega,aj (x:=-q) (by omega) (by omega),aj (x:=-q*g.ts[j].c) (by omega) (by omega)];refine ae (iC g.ts[j].e (by omega) u0 u1 u2 u3 u4 u5 u6 u7 hpu) (by simp) (by simp) ?_;simp[C.ad,qS,qtS,hw1,hw2,hn,hv,Nat.min_eq_left hv,hsh,hEl,show ((n:Int)<=8) by omega,aj (x:=-q) (by omega) (by omega),aj (x:=-q*g.ts[j].c) (by omega) (by omega)];apply hL;clear hL L;refine oSg fun L hL=>?_;simp[C.ad,qS,qtS,hw1,hw2,hn,hv,Nat.min_eq_left hv,hsh,hEl,show ((n:Int)<=8) by omega,aj (x:=-q) (by omega) (by omega),aj (x:=-q*g.ts[j].c) (by omega) (by omega)];refine ae (lm 1 e0 e1 e2 e3 e4 e5 e6 e7 u0 u1 u2 u3 u4 u5 u6 u7 (by omega) hbe hbu) (by simp) (by simp) ?_;simp[C.ad,qS,qtS,hw1,hw2,hn,hv,Nat.min_eq_left hv,hsh,hEl,show ((n:Int)<=8) by omega,aj (x:=-q) (by omega) (by omega),aj (x:=-q*g.ts[j].c) (by omega) (by omega)];apply hL;clear hL L;refine oSg fun L hL=>?_;simp[C.ad,qS,qtS,hw1,hw2,hn,hv,Nat.min_eq_left hv,hsh,hEl,show ((n:Int)<=8) by omega,aj (x:=-q) (by omega) (by omega),aj (x:=-q*g.ts[j].c) (by omega) (by omega)];refine ae (hpair) (by simp[qS,qtS,hw1,hw2,hn,hv,Nat.min_eq_left hv,hsh,hEl,show ((n:Int)<=8) by omega,aj (x:=-q) (by omega) (by omega),aj (x:=-q*g.ts[j].c) (by omega) (by omega)]) (by simp) ?_;simp[C.ad,qS,qtS,hw1,hw2,hn,hv,Nat.min_eq_left hv,hsh,hEl,show ((n:Int)<=8) by omega,aj (x:=-q) (by omega) (by omega),aj (x:=-q*g.ts[j].c) (by omega) (by omega)];apply hL;clear hL L;refine oSg fun L hL=>?_;simp[C.ad,qS,qtS,hw1,hw2,hn,hv,Nat.min_eq_left hv,hsh,hEl,show ((n:Int)<=8) by omega,aj (x:=-q) (by omega) (by omega),aj (x:=-q*g.ts[j].c) (by omega) (by omega)];refine ae (fF n (-q*g.ts[j].c) es2 (e0+1*u0) (e1+1*u1) (e2+1*u2) (e3+1*u3) (e4+1*u4) (e5+1*u5) (e6+1*u6) (e7+1*u7) (g.ts[j].h+H+skw fm g.ts[j].e E) (hL2.map.len9 hv) hvj) (by simp) (by simp) ?_;simp[C.ad,qS,qtS,hw1,hw2,hn,hv,Nat.min_eq_left hv,hsh,hEl,show ((n:Int)<=8) by omega,aj (x:=-q) (by omega) (by omega),aj (x:=-q*g.ts[j].c) (by omega) (by omega)];apply hL;clear hL L;refine oEn fun L hL=>?_;simp only[d7];apply hL;clear hL L;simp[C.ad,qS,qtS,hw1,hw2,hn,hv,Nat.min_eq_left hv,hsh,hEl,show ((n:Int)<=8) by omega,aj (x:=-q) (by omega) (by omega),aj (x:=-q*g.ts[j].c) (by omega) (by omega)]
  simp only[Int.one_mul] at hadd;rw[hadd];apply hK;clear hK K;show AWp _ _ _ _ _;refine ab fun K hK=>?_;simp[C.ad,qS,ay (show j < 4611686018427387904 by omega)];apply hK;clear hK K;simp[C.ad,qS];refine cast (congrArg R4 ?_) (hR4 (j+1,nY es2 (kq (dM fm (E,H) (qk g.ts[j]))) (-q*g.ts[j].c),(dM fm (E,H) (qk g.ts[j]),-q*g.ts[j].c) :: l2) ⟨hjg,?_,?_⟩ (by dsimp only;omega))
  ·simp[qS,hn,hgn]
  ·have:=hL2.add (e:=dM fm (E,H) (qk g.ts[j])) hnl (c:=-q*g.ts[j].c) (X:=1000000000000) (by omega);exact this.mono (by dsimp only;omega)
  ·dsimp only;rw[C6 hjg,<-List.append_assoc];exact (List.Perm.cons _ hP2).trans (List.perm_append_singleton _ _).symm
 ·have hjg:j=g.ts.length:=by have:=d_f hc9;omega
  rw[hjg,List.take_length] at hP2;apply aZ;refine cast (congrArg (Q0 (.exit 6)) ?_) (hX0 es2 l2 (hL2.mono (by omega)) hP2);simp[qS,hn,hgn,hjg]
theorem qw (fm:List (List Int)) (f g:Qsm) (h0:fm.length < 4611686018427387904) (hI:I64 fm) (hx:f.ts.length < 4611686018427387904) (hxe:∀ t∈f.ts,t.e.length < 4611686018427387904) (hy:g.ts.length < 4611686018427387904) (hye:∀ t∈g.ts,t.e.length < 4611686018427387904):af Tryz.prog F.ad [.d (.sh 1 fm.length (rows lS fm)),aQ f,aQ g] [] true (fun outs res=>outs=[]/\eb res [.ag (qO (dm fm f g).1),.one (D.bool (dm fm f g).2)]):=by
 have hcall:=kY fm f g h0 hI hx hxe hy hye;generalize hB:decide (bp fm/\aL f/\aL g/\f.v=fm.length/\g.v=fm.length)=B at hcall;refine af.ob (C:=C.ad) (n:=Tryz.f45.ntmps) bC bD Tryz.func45 rfl rfl ?_;simp only[Tryz.f45];apply aa;refine ab fun K hK=>?_;simp[C.ad,qS];apply hK;clear hK K;show AWp _ _ _ _ _;apply aa;apply aa;refine aK ([0,1,2,3] ++ ([4,5,6,7,8,9,10])) rfl fun K hK=>?_;have hJ:K ⟨ofL [(0,.d (.sh 1 fm.length (rows lS fm))),(4,.pt (4,0) [] 0),(5,.pt (5,0) [] 0),(6,.pt (6,0) [] 0),(32,.bool (!(B && !decide (g.ts=[]))))],aF [((4,0),some (.bx (qS f))),((5,0),some (.bx (qS g))),((6,0),some (.bx [D.int 0,.v (.slice none 0 0)]))]⟩:=by
  apply hK;clear hK K;show AWp _ _ _ _ _;refine ap _ rfl (fun hc1=>?_) (fun hc1=>?_)
  ·have hr:¬ s0 fm f g:=by
    rintro⟨h1,h2⟩;rw[<-hB,decide_eq_true h1] at hc1;simp[h2] at hc1
   have hm:dm fm f g=(cM,false):=if_neg hr;apply aa;refine ab fun K hK=>?_;simp[C.ad,qS];apply hK;clear hK K;show AWp _ _ _ _ _;apply aI;simp[C.ad,qS,hm,qO,cM,rows]
  ·have hr:(bp fm/\aL f/\aL g/\f.v=fm.length/\g.v=fm.length)/\g.ts≠[]:=by
    rw[<-hB] at hc1;simpa using hc1
   have hm:=Cf hr.1 hr.2;obtain⟨⟨hok,hf,hg,hn,hgn⟩,hgne⟩:=hr;obtain⟨n,hnn⟩:∃ n:Nat,fm.length=n:=⟨_,rfl⟩;rw[hnn] at hn hgn hm;have hv0:=hf.1;have hv:n<=8:=by omega
   have hfl:=hf.2.1;have hgl:=hg.2.1;have he:=gD hf hn;have heg:=gD hg hgn;have hG0:0 < g.ts.length:=List.length_pos_iff.2 hgne;obtain⟨hl1,hl2⟩:=xd hG0;have hgle:=heg _ (List.getElem_mem hG0);generalize hlq:ey g=lk at hl1;obtain⟨le,lh⟩:=lk;generalize hlc:ev g=lc at hl2;have hl1e:g.ts[0].e=le:=congrArg Prod.fst hl1;have hl1h:g.ts[0].h=lh:=congrArg Prod.snd hl1;rw[hl1e,hl1h,hl2] at hgle;obtain⟨hgle1,hgle2,hgle3,hgle4,hgle6,hgle5⟩:=hgle;obtain⟨b0,b1,b2,b3,b4,b5,b6,b7,hpb⟩:=nI (fC (e:=le) (by omega));have hbb:=qx hgle2;rw[hpb] at hbb;apply au;show AWp _ _ _ _ _;apply aa;refine aK ([0,1,2] ++ ([3])) rfl fun K hK=>?_;refine oSg fun L hL=>?_;simp[C.ad,qS,hn];refine ae (gR n) (by simp) (by simp) ?_;simp[C.ad,qS,hn];apply hL;clear hL L;refine oEn fun L hL=>?_;simp[C.ad,qS,hn];apply hL;clear hL L;simp[C.ad,qS,hn];apply hK;clear hK K;show AWp _ _ _ _ _;apply aa;apply aa;refine ab fun K hK=>?_;simp[C.ad,qS];apply hK;clear hK K;show AWp _ _ _ _ _;apply ak;refine sx (c':=fM Tryz.f45 [1,1,1,0,1,0]) (by kernel_rfl) ?_;refine wst (σ2:=⟨ofL [(0,.d (.sh 1 fm.length (rows lS fm))),(4,.pt (4,0) [] 0),(5,.pt (5,0) [] 0),(6,.pt (6,0) [] 0),(8,.pt (8,0) [] 0),(38,.d (.sh 3 f.ts.length (rows qtS f.ts))),(39,.int f.ts.length),(40,.int 0)],aF [((4,0),some (.bx (qS f))),((5,0),some (.bx (qS g))),((6,0),some (.bx [D.int 0,.v (.slice none 0 0)])),((8,0),some (.bx [D.int n,.mp []]))]⟩) (by simp[qS,hn]) ?_;refine qg fm f g n hn hv hf hfl _ ?_;intro es l hLJ hall;have hnf0:nf qlt l=f.ts.map qp:=
    (eq c7 (iA hf) (nJ hf) fun k=>(lu k hall).symm).symm
   show AWp _ _ _ _ _;apply aa;refine aK ([0,1,2] ++ ([3])) rfl fun K hK=>?_;refine oSg fun L hL=>?_;simp[C.ad,qS,hn];refine ae (gR n) (by simp) (by simp) ?_;simp[C.ad,qS,hn];apply hL;clear hL L;refine oEn fun L hL=>?_;simp[C.ad,qS,hn];apply hL;clear hL L;simp[C.ad,qS,hn];apply hK;clear hK K;show AWp _ _ _ _ _;apply aa;refine ab fun K hK=>?_;simp[C.ad,qS,hG0,bI hG0,bY hG0,bW hG0,hl1e,hl1h,hl2];apply hK;clear hK K;show AWp _ _ _ _ _;apply aa;apply ak;refine bm (fun x:(List (List Int×Int)×List (QK×Int))×(List (List Int×Int)×List (QK×Int))×List (QK×Int)=>⟨ofL [(0,.d (.sh 1 fm.length (rows lS fm))),(4,.pt (4,0) [] 0),(5,.pt (5,0) [] 0),(6,.pt (6,0) [] 0),(8,.pt (8,0) [] 0),(11,.pt (11,0) [] 0),(12,.pt (12,0) [] 0)],aF [((4,0),some (.bx (qS f))),((5,0),some (.bx (qS g))),((6,0),some (.bx [D.int 0,.v (.slice none 0 0)])),((8,0),some (.bx [D.int n,.mp x.1.1])),((11,0),some (.bx [D.int n,.mp x.2.1.1])),((12,0),some (.bx [shI le,D.int lh,D.int lc]))]⟩) (fun x=>LJQ n x.1.1 x.1.2 (600000000+x.2.2.length*600000000000000)/\LJQ n x.2.1.1 x.2.1.2 (x.2.2.length*1000000)/\x.2.1.2.Perm x.2.2/\jG fm jB f g n (nf qlt x.1.2) x.2.2/\sc fm g n (nf qlt x.1.2) x.2.2) (fun x=>600 - x.2.2.length) ((es,l),([],[]),[]) (by simp[C.ad,qS,hn]) ⟨hLJ.mono (by dsimp only[List.length_nil];omega),⟨gB.nil n,by simp,by simp[mo]⟩,by simp,by dsimp only;rw[hnf0];exact jG.start _ _ hf hn,⟨List.Pairwise.nil,by simp[Nz],by simp,by simp⟩⟩ ?_;intro x2 hx2 R2 hR2;obtain⟨⟨es,l⟩,⟨eo,lo⟩,O⟩:=x2;obtain⟨hLr,hLo,hPo,hJ1,hJ2⟩:=hx2;dsimp only at hLr hLo hPo hJ1 hJ2 ⊢;have hOl:=hJ1.ol;have helen:=o8 hLr.map hv hLr.len;have hnfo:nf qlt lo=O:=by
    rw[<-hJ2.nf];exact eq c7 (fa c7 _) (iq _) fun k=>by rw[gU,lu k hPo]
   have heol:eo.length=O.length:=by
    have h1:=o8 hLo.map hv hLo.len;rw[hnfo] at h1;exact h1.symm
   apply aa;apply aa;refine ab fun K hK=>?_;simp[C.ad,qS];apply hK;clear hK K;show AWp _ _ _ _ _;refine ap _ rfl (fun hc3=>?_) (fun hc3=>?_)
   ·have hes:0 < es.length:=by have:=d_t hc3;omega
    obtain⟨⟨⟨a,ah⟩,c⟩,R',hR⟩:∃ y R',nf qlt l=y :: R':=by
     cases hh:nf qlt l with
     | nil=>rw[hh] at helen;simp at helen;omega
     | cons y R'=>exact⟨y,R',rfl⟩
    rw[hR] at hJ1 hJ2;apply au;show AWp _ _ _ _ _;apply ak;apply aa;refine ab fun K hK=>?_;simp[C.ad,qS];apply hK;clear hK K;show AWp _ _ _ _ _;apply aa;refine ab fun K hK=>?_;simp[C.ad,qS];apply hK;clear hK K;show AWp _ _ _ _ _;apply aa;apply aa;refine ab fun K hK=>?_;simp[C.ad,qS];apply hK;clear hK K;show AWp _ _ _ _ _;apply ak;refine sx (c':=fM Tryz.f45 [1,1,1,1,1,1,0,0,0,1,0,1,1,0,1,0]) (by kernel_rfl) ?_;refine qj fm f g n hn es eo le lh lc (hLr.map.len9 hv) _ ?_;intro P top cur hqe hT;have hPne:P≠[]:=by intro e;rw[e] at hqe;have:=hqe.length_eq;simp at this;omega
    obtain⟨htop,hget⟩:=CV hLr.map hv hLr.len hqe hT hR;have ha:=hJ1.rl ((a,ah),c) (by simp);obtain⟨⟨hal,ha60⟩,hah⟩:=ha;dsimp only at hal ha60 hah;obtain⟨a0,a1,a2,a3,a4,a5,a6,a7,hpa⟩:=nI (fC (e:=a) (by omega));have hba:=Ee (B:=60) (by omega) (by omega) ha60;rw[hpa] at hba;have hkt:kq (a,ah)=[a0,a1,a2,a3,a4,a5,a6,a7,ah]:=by
     simp only[kq,hpa];rfl
    rw[hkt] at htop;subst htop;have hcb:-1000000000000000000<=c/\c<=1000000000000000000:=by
     have h1:=hJ1.ra;simp only[iK,List.map_cons,List.sum_cons] at h1;omega
    have hEl:(bc (-1) a le).length=n:=by rw[dh _ _ _ (by omega)];exact hal
    have hE80:=wl (B:=60) (C:=20) (k:=-1) (.inr rfl) (hal.trans hgle1.symm) ha60 hgle2;have hpe0:[a0 + -1*b0,a1 + -1*b1,a2 + -1*b2,a3 + -1*b3,a4 + -1*b4,a5 + -1*b5,a6 + -1*b6,a7 + -1*b7]=pad (bc (-1) a le):=by
     rw[<-wv (by omega),hpa,hpb];simp[bc]
    show AWp _ _ _ _ _;apply aa;refine eG (.take 0 (.take 1 (.take 2 (.take 3 (.take 4 (.take 5 (.take 6 (.done)))))))) ⟨by kernel_rfl,by kernel_rfl⟩ fun K hK=>?_;simp[C.ad,qS,hget,hLr.map.len9 hv];apply hK;clear hK K;show AWp _ _ _ _ _;apply aa;refine sx (c':=fM Tryz.f45 [1,1,1,1,1,1,0,0,0,1,0,1,1,1,1,0]) (by kernel_rfl) ?_;refine pc fm f g n es eo le lh lc a0 a1 a2 a3 a4 a5 a6 a7 b0 b1 b2 b3 b4 b5 b6 b7 ah c (by omega) hpb hba hbb _ _ ?_;show AWp _ _ _ _ _;apply aa;obtain⟨e0,e1,e2,e3,e4,e5,e6,e7,hpe⟩:=nI (fC (e:=bc (-1) a le) (by omega));rw[hpe] at hpe0;simp only[List.cons.injEq,and_true] at hpe0;obtain⟨k0,k1,k2,k3,k4,k5,k6,k7⟩:=hpe0;simp only[k0,k1,k2,k3,k4,k5,k6,k7];have hqb:-1000000000000000000<=c.tdiv lc/\c.tdiv lc<=1000000000000000000:=by
     have h1:(c.tdiv lc).natAbs<=c.natAbs:=by
      rw[Int.natAbs_tdiv];exact Nat.div_le_self _ _
     omega
    generalize hQ:c.tdiv lc=q at hqb;have htkE:List.take n [e0,e1,e2,e3,e4,e5,e6,e7]=bc (-1) a le:=by
     rw[<-hpe];have:=yo (e:=bc (-1) a le)
     rwa [hEl] at this
    have hsh:=sh8 n e0 e1 e2 e3 e4 e5 e6 e7;rw[htkE] at hsh;have hSk:eJ fm le (bc (-1) a le):=eJ.mk' (p:=20) (q:=80) hok ⟨by omega,hgle2⟩ ⟨by omega,fun z hz=>by have:=hE80 z hz;omega⟩ (by omega) (by omega);have hSb:=hSk.bd;have hpair:=iX fm le (bc (-1) a le) hSk;obtain⟨H,hH⟩:∃ H,H=ah - lh - skw fm le (bc (-1) a le):=⟨_,rfl⟩;have hw1:IntKind.i64.wrap (ah - lh)=ah - lh:=aj (by omega) (by omega);have hw2:IntKind.i64.wrap (ah - lh - skw fm le (bc (-1) a le))=H:=by rw[hH];exact aj (by omega) (by omega)
    have hqd:qdv fm (a,ah) (le,lh)=(bc (-1) a le,H):=by rw[hH];rfl
    refine bR [(true,0),(true,1),(true,2),(true,3),(true,4),(true,5),(true,6),(true,7),(true,8),(true,9),(true,10),(false,11),(true,12),(true,13)] ⟨by kernel_rfl,by kernel_rfl⟩ ([0,1,2,3,4,5,6,7,8,9,10,11] ++ ([12,13])) rfl fun K hK=>?_;refine oSg fun L hL=>?_;simp[C.ad,qS,hw1,hw2,hn,hv,Nat.min_eq_left hv,hsh,show ((n:Int)<=8) by omega,hEl,ints];refine ae (hpair) (by simp[qS,hw1,hw2,hn,hv,Nat.min_eq_left hv,hsh,show ((n:Int)<=8) by omega,hEl,ints]) (by simp) ?_;simp[C.ad,qS,hw1,hw2,hn,hv,Nat.min_eq_left hv,hsh,show ((n:Int)<=8) by omega,hEl,ints];apply hL;clear hL L;refine oEn fun L hL=>?_;simp[C.ad,qS,hw1,hw2,hn,hv,Nat.min_eq_left hv,hsh,show ((n:Int)<=8) by omega,hEl,ints];apply hL;clear hL L;simp[C.ad,qS,hw1,hw2,hn,hv,Nat.min_eq_left hv,hsh,show ((n:Int)<=8) by omega,hEl,ints];apply hK;clear hK K;show AWp _ _ _ _ _;apply aa;refine ab fun K hK=>?_;simp[C.ad,qS,hgle5,hQ,aj (x:=q) (by omega) (by omega)];apply hK;clear hK K;show AWp _ _ _ _ _;apply aa;apply aa;refine sx (c':=fM Tryz.f45 [1,1,1,1,1,1,0,0,0,1,0,1,1,1,1,1,1,1,0,0]) (by kernel_rfl) ?_;refine wst (σ2:=⟨ofL [(0,.d (.sh 1 fm.length (rows lS fm))),(4,.pt (4,0) [] 0),(5,.pt (5,0) [] 0),(6,.pt (6,0) [] 0),(8,.pt (8,0) [] 0),(11,.pt (11,0) [] 0),(12,.pt (12,0) [] 0),(16,.int c),(17,.pt (17,0) [] 0),(18,.int H),(19,.int q)],aF [((4,0),some (.bx (qS f))),((5,0),some (.bx (qS g))),((6,0),some (.bx [D.int 0,.v (.slice none 0 0)])),((8,0),some (.bx [D.int n,.mp es])),((11,0),some (.bx [D.int n,.mp eo])),((12,0),some (.bx [shI le,D.int lh,D.int lc])),((17,0),some (.bx [D.int e0,D.int e1,D.int e2,D.int e3,D.int e4,D.int e5,D.int e6,D.int e7]))]⟩) (by simp[qS,hn]) ?_;refine oO fm f g n hn hv es eo O le lh lc (bc (-1) a le) e0 e1 e2 e3 e4 e5 e6 e7 c q H hgle5 hsh hEl heol _ _ ?_;show AWp _ _ _ _ _;refine ap _ rfl (fun hc8=>?_) (fun hc8=>?_)
    ·have hr:=gk hc8;have hfail:=hJ1.fail (by
      rcases Classical.em (O.length=600) with h | h
      ·exact .inr h
      ·refine .inl fun h2=>hr ⟨?_,h⟩;dsimp only at h2;rw[hlq,hlc,hQ,hqd] at h2;simp only[jB,decide_eq_true_eq] at h2;exact⟨⟨⟨h2.1,sn.2 ⟨by omega,h2.2.1⟩⟩,h2.2.2.1⟩,h2.2.2.2⟩)
     apply aa;refine ab fun K hK=>?_;simp[C.ad,qS];apply hK;clear hK K;show AWp _ _ _ _ _;apply aI;simp[C.ad,qS,hm,hfail,kP,cM,qO,rows]
    ·obtain⟨⟨⟨⟨g1,g2⟩,g2h⟩,g3⟩,g4⟩:=gw hc8;have hE20:=(sn.1 g2).2;have hchk:jB (bc (-1) a le,H) q=true:=by simp only[jB,decide_eq_true_eq];exact⟨hE20,g2h,g3⟩
     have hJ1s:=hJ1.step hok hnn hg hgn (by dsimp only;rw[hlc];exact g1) (by dsimp only;rw[hlq,hlc,hQ,hqd];exact hchk) (by omega) (by dsimp only;rw[hlq,hqd];exact hEl) (by dsimp only;rw[hlq,hqd];exact fun z hz=>by have:=hE20 z hz;omega) (by dsimp only;rw[hlq,hqd];exact g2h) (by dsimp only;rw[hlc,hQ];exact g3.2);have hJ2s:=hJ2.step hJ1.rd (fun y hy=>(hJ1.rl y hy).1.1) hg hgn hgne (by dsimp only;rw[hlc];exact g1) (by dsimp only;rw[hlc,hQ];exact g3.1);dsimp only at hJ1s hJ2s;rw[hlq,hlc,hQ,hqd] at hJ1s hJ2s;have hko:kq (bc (-1) a le,H)=[e0,e1,e2,e3,e4,e5,e6,e7,H]:=by
      simp only[kq,hpe];rfl
     have hvo:=hLo.val (e:=(bc (-1) a le,H)) hEl (c:=q) (X:=1000000) (by omega) (by omega);rw[hko] at hvo;have hbe:=qx hE20;rw[hpe] at hbe;apply au;show AWp _ _ _ _ _;apply aa;refine aK ([0,1,2,3,4,5] ++ ([])) rfl fun K hK=>?_;refine oSg fun L hL=>?_;simp[C.ad,qS];refine ae (fF n q eo e0 e1 e2 e3 e4 e5 e6 e7 H (hLo.map.len9 hv) hvo) (by simp) (by simp) ?_;simp[C.ad,qS];apply hL;clear hL L;refine oEn fun L hL=>?_;simp only[d7];apply hL;clear hL L;simp[C.ad,qS];rw[<-hko];apply hK;clear hK K;show AWp _ _ _ _ _;apply aa;refine ab fun K hK=>?_;simp[C.ad,qS];apply hK;clear hK K;show AWp _ _ _ _ _;apply ak;refine sx (c':=fM Tryz.f45 [1,1,1,1,1,1,0,0,0,1,0,1,1,1,1,1,1,1,1,1,1,0]) (by kernel_rfl) ?_;refine qi fm hok f g n hnn hn hgn hv hg hgl es l (nY eo (kq (bc (-1) a le,H)) q) O hOl le lh lc hLr (bc (-1) a le) hEl hE20 e0 e1 e2 e3 e4 e5 e6 e7 q H hpe hsh hbe g2h g3 _ ?_;intro es2 l2 hL2 hP2;have hnf2:nf qlt l2=nf qlt (iH fm g ((a,ah),c) R'):=EA hR (by dsimp only;rw[hlq,hlc,hQ,hqd];exact hP2);simp[C.ad,qS];refine cast (congrArg R2 ?_) (hR2 ((es2,l2),(nY eo (kq (bc (-1) a le,H)) q,((bc (-1) a le,H),q) :: lo),O ++ [((bc (-1) a le,H),q)]) ⟨?_,?_,?_,?_,?_⟩ (by simp;omega))
     ·simp[qS,hn,hgn]
     ·exact hL2.mono (by simp;omega)
     ·exact (hLo.add (e:=(bc (-1) a le,H)) hEl (c:=q) (X:=1000000) (by omega)).mono (by simp;omega)
     ·exact (List.Perm.cons _ hPo).trans (List.perm_append_singleton _ _).symm
     ·dsimp only;rw[hnf2];exact hJ1s
     ·dsimp only;rw[hnf2];exact hJ2s
   ·have hes:es.length=0:=by have:=d_f hc3;omega
    have hR0:nf qlt l=[]:=List.eq_nil_of_length_eq_zero (by omega);rw[hR0] at hJ1 hJ2;have hdone:=hJ1.done;have hfin:enQ n ((nf qlt lo).map qt)=dm fm f g:=by
     rw[hm,hdone,hnfo];rfl
    apply aZ;show AWp _ _ _ _ _;apply aa;refine aK ([0,1] ++ ([2,3,4,5])) rfl fun K hK=>?_;refine oSg fun L hL=>?_;simp[C.ad,qS,hn];refine ae (wH n eo lo hLo.map hLo.len (by omega) hv (by have:=hPo.length_eq;omega)) (by simp) (by simp) ?_;simp[C.ad,qS,hn];apply hL;clear hL L;refine oEn fun L hL=>?_;simp[C.ad,qS,hn];apply hL;clear hL L;simp[C.ad,qS,hn];apply hK;clear hK K;show AWp _ _ _ _ _;apply aI;simp[C.ad,qS,hfin,qO]
 clear hK
 by_cases hb:B=true
 ·refine oSg fun L hL=>?_;simp[C.ad,qS,hb];refine ae (hcall) (by simp) (by simp) ?_;simp[C.ad,qS,hb];apply hL;clear hL L;refine oEn fun L hL=>?_;simp[C.ad,qS,hb];apply hL;clear hL L;simp[C.ad,qS,hb];refine cast (congrArg K ?_) hJ;simp[BX,qS,hb]
 ·refine oSg fun L hL=>?_;simp[C.ad,qS,hb];refine ae (hcall) (by simp) (by simp) ?_;simp[C.ad,qS,hb];apply hL;clear hL L;refine oEn fun L hL=>?_;simp[C.ad,qS,hb];apply hL;clear hL L;simp[C.ad,qS,hb];refine cast (congrArg K ?_) hJ;simp[BX,qS,hb]
theorem Fz (fm:List (List Int)) (f g:Qsm) (h0:fm.length < 4611686018427387904) (hI:I64 fm) (hx:f.ts.length < 4611686018427387904) (hxe:∀ t∈f.ts,t.e.length < 4611686018427387904) (hy:g.ts.length < 4611686018427387904) (hye:∀ t∈g.ts,t.e.length < 4611686018427387904):af Tryz.prog F.ad [.d (.sh 1 fm.length (rows lS fm)),aQ f,aQ g] [] true (fun outs res=>outs=[]/\res=[.ag (qO (dm fm f g).1),.one (D.bool (dm fm f g).2)]):=(qw fm f g h0 hI hx hxe hy hye).weak1
set_option maxRecDepth 10000
set_option maxHeartbeats 4000000
theorem ox (m:Mat) (hx:m.d.length < 17592186044416) (hS:¬ ShM m):af Tryz.prog F.aV [aM m] [] true (fun outs res=>outs=[]/\res=[.one (.v (.slice none 0 0))]):=by
 refine af.ob (C:=C.aV) (n:=Tryz.f79.ntmps) bC bD Tryz.func79 rfl rfl ?_;simp only[Tryz.f79];apply aa;refine ab fun K hK=>?_;simp[C.aV,mS];apply hK;clear hK K;show AWp _ _ _ _ _;apply aa;apply aa;refine aK ([0,1] ++ ([2])) rfl fun K hK=>?_;refine oSg fun L hL=>?_;simp[C.aV,mS,hS];refine ae (gG m hx) (by simp[mS,hS]) (by simp) ?_;simp[C.aV,mS,hS];apply hL;clear hL L;refine oEn fun L hL=>?_;simp[C.aV,mS,hS];apply hL;clear hL L;simp[C.aV,mS,hS];apply hK;clear hK K;show AWp _ _ _ _ _;refine ap _ rfl (fun hc1=>?_) (fun hc1=>?_)
 ·apply aa;refine ab fun K hK=>?_;simp[C.aV,mS];apply hK;clear hK K;show AWp _ _ _ _ _;apply aI;simp[C.aV,mS]
 ·simp at hc1
theorem wk (m:Mat) (hx:m.d.length < 17592186044416) (hl:¬ ∃ l,ct m.n.toNat (bM m) l):af Tryz.prog F.aE [aM m] [] true (fun outs res=>outs=[]/\¬ cO m/\eb res [.one (.ow 1 (foF m).1.length (rows lO (foF m).1)),.one (D.bool (foF m).2)]):=by
 refine af.ob (C:=C.aE) (n:=Tryz.f33.ntmps) bC bD Tryz.func33 rfl rfl ?_;simp only[Tryz.f33];apply aa;refine ab fun K hK=>?_;simp[C.aE,mS];apply hK;clear hK K;show AWp _ _ _ _ _;apply aa;refine aK ([0,1] ++ ([2])) rfl fun K hK=>?_;refine oSg fun L hL=>?_;simp[C.aE,mS];refine fh (kf m hx hl) (by simp) (by simp) (by simp) ?_;rintro outs res ⟨rfl,hno,rfl⟩;simp[C.aE,mS];apply hL;clear hL L;refine oEn fun L hL=>?_;simp[C.aE,mS];apply hL;clear hL L;simp[C.aE,mS];apply hK;clear hK K;show AWp _ _ _ _ _;apply aa;refine ab fun K hK=>?_;simp[C.aE,mS];apply hK;clear hK K;show AWp _ _ _ _ _;apply aa;apply aa;refine aK ([0,1,2,3,4,5,6,7,8,9,10,11,12]) rfl fun K hK=>?_;refine oEn fun L hL=>?_;simp[C.aE,mS];apply hL;clear hL L;simp[C.aE,mS];apply hK;clear hK K;show AWp _ _ _ _ _;refine ap _ rfl (fun hc1=>?_) (fun hc1=>?_)
 ·have hf:foF m=([],false):=if_neg (fun h=>hno h.1.1);apply aa;refine ab fun K hK=>?_;simp[C.aE,mS];apply hK;clear hK K;show AWp _ _ _ _ _;apply aI;simp[C.aE,mS,hf,rows];exact hno
 ·simp at hc1
theorem vU (m:Mat) (hx:m.d.length < 17592186044416) (hS:¬ ShM m):af Tryz.prog F.aE [aM m] [] true (fun outs res=>outs=[]/\eb res [.one (.ow 1 (foF m).1.length (rows lO (foF m).1)),.one (D.bool (foF m).2)]):=by
 refine af.ob (C:=C.aE) (n:=Tryz.f33.ntmps) bC bD Tryz.func33 rfl rfl ?_;simp only[Tryz.f33];apply aa;refine ab fun K hK=>?_;simp[C.aE,mS];apply hK;clear hK K;show AWp _ _ _ _ _;apply aa;refine aK ([0,1] ++ ([2])) rfl fun K hK=>?_;refine oSg fun L hL=>?_;simp[C.aE,mS];refine ae (ox m hx hS) (by simp) (by simp) ?_;simp[C.aE,mS];apply hL;clear hL L;refine oEn fun L hL=>?_;simp[C.aE,mS];apply hL;clear hL L;simp[C.aE,mS];apply hK;clear hK K;show AWp _ _ _ _ _;apply aa;refine ab fun K hK=>?_;simp[C.aE,mS];apply hK;clear hK K;show AWp _ _ _ _ _;apply aa;apply aa;refine aK ([0,1,2,3,4,5,6,7,8,9,10,11,12]) rfl fun K hK=>?_;refine oEn fun L hL=>?_;simp[C.aE,mS];apply hL;clear hL L;simp[C.aE,mS];apply hK;clear hK K;show AWp _ _ _ _ _;refine ap _ rfl (fun hc1=>?_) (fun hc1=>?_)
 ·have hf:foF m=([],false):=if_neg (fun h=>hS h.1.1.1);apply aa;refine ab fun K hK=>?_;simp[C.aE,mS];apply hK;clear hK K;show AWp _ _ _ _ _;apply aI;simp[C.aE,mS,hf,rows]
 ·simp at hc1
theorem GR (m:Mat) (hx:m.d.length < 17592186044416):af Tryz.prog F.aE [aM m] [] true (fun outs res=>outs=[]/\res=[.one (.ow 1 (foF m).1.length (rows lO (foF m).1)),.one (D.bool (foF m).2)]/\((foF m).2=true->∃ l,ct m.n.toNat (bM m) l)):=by
 by_cases hl:∃ l,ct m.n.toNat (bM m) l
 ·by_cases hS:ShM m
  ·exact (xU m hx hS).weak fun outs res ⟨h1,h2⟩=>⟨_,h2,h1,rfl,fun _=>hl⟩
  ·exact (vU m hx hS).weak fun outs res ⟨h1,h2⟩=>⟨_,h2,h1,rfl,fun _=>hl⟩
 ·exact (wk m hx hl).weak fun outs res ⟨h1,h3,h2⟩=>⟨_,h2,h1,rfl,fun h=>absurd (oe h).1.1 h3⟩
theorem xS (m:Mat) (ks:List Int) (hx:m.d.length < 17592186044416) (hks:ks.length < 4611686018427387904):af Tryz.prog F.bQ [aM m,.d (shI ks)] [] false (fun outs res=>outs=[]/\eb res [.one (.ow 1 (foR m ks).1.length (rows fmS (foR m ks).1)),.one (.ow 3 (foR m ks).2.1.length (rows mS (foR m ks).2.1)),.one (D.bool (foR m ks).2.2)]/\((foR m ks).2.2=true->∃ l,ct m.n.toNat (bM m) l)):=by
 have hwb:(wkR m ks).2=true↔∃ ws,wkF m ks=some ws/\wkR m ks=(ws,true):=by
  unfold wkR
  cases wkF m ks <;> simp
 refine af.ob (C:=C.bQ) (n:=Tryz.f40.ntmps) bC bD Tryz.func40 rfl rfl ?_;simp only[Tryz.f40];apply aa;refine ab fun K hK=>?_;simp[C.bQ,mS];apply hK;clear hK K;show AWp _ _ _ _ _;apply aa;refine aK ([0,1,2] ++ ([3,4,5,6,7])) rfl fun K hK=>?_;refine oSg fun L hL=>?_;simp[C.bQ,mS];refine fh (IQ m ks hx hks) (by simp) (by simp) (by simp) ?_;rintro outs res ⟨rfl,rfl⟩;simp[C.bQ,mS];apply hL;clear hL L;refine oEn fun L hL=>?_;simp[C.bQ,mS];apply hL;clear hL L;simp[C.bQ,mS];apply hK;clear hK K;show AWp _ _ _ _ _;apply aa;refine aK ([0,1] ++ ([2,3,4,5,6])) rfl fun K hK=>?_;refine oSg fun L hL=>?_;simp[C.bQ,mS];refine fh (GR m hx) (by simp) (by simp) (by simp) ?_;rintro outs res ⟨rfl,rfl,hms⟩;simp[C.bQ,mS];apply hL;clear hL L;refine oEn fun L hL=>?_;simp[C.bQ,mS];apply hL;clear hL L;simp[C.bQ,mS];apply hK;clear hK K;show AWp _ _ _ _ _;apply aa;apply aa;refine ab fun K hK=>?_;have hJ:K ⟨ofL [(1,.d (shI ks)),(7,.al (7,0) [] 0 (wkR m ks).1.length),(9,.d (.sh 1 (foF m).1.length (rows lS (foF m).1))),(30,.bool (!((wkR m ks).2 && (foF m).2)))],aF [((7,0),some (.ow 3 (wkR m ks).1.length (rows mS (wkR m ks).1)))]⟩:=by
  apply hK;clear hK K;show AWp _ _ _ _ _;refine ap _ rfl (fun hc1=>?_) (fun hc1=>?_)
  ·have hr:((wkR m ks).2 && (foF m).2)=false:=by have h9:=hc1;rw[Bool.not_eq_true'] at h9;exact h9
   have hf:foR m ks=([],[],false):=by
    unfold foR;split
    ·rename_i ws hws;have h1:(wkR m ks).2=true:=hwb.2 ⟨ws,hws,by unfold wkR;rw[hws]⟩;rw[h1,Bool.true_and] at hr;have h0:fcL m ws ks 0=none:=by simp only[fcL,hr];simp
     rw[lg h0 (by omega)]
    ·rfl
   apply aa;refine ab fun K hK=>?_;simp[C.bQ,mS];apply hK;clear hK K;show AWp _ _ _ _ _;apply aI;simp[C.bQ,mS,hf,rows]
  ·have hr:((wkR m ks).2 && (foF m).2)=true:=by simpa using hc1
   rw[Bool.and_eq_true] at hr;obtain⟨hr1,hr2⟩:=hr;obtain⟨ws,hws,hwr⟩:=hwb.1 hr1;rw[hwr];dsimp only;have hc0:fcL m ws ks 0=some (foF m).1:=by simp only[fcL,hr2];simp
   obtain⟨w1,w2,w3,w4,w5⟩:=mZ hws;apply au;show AWp _ _ _ _ _;apply aa;refine ab fun K hK=>?_;simp[C.bQ,mS];apply hK;clear hK K;show AWp _ _ _ _ _;apply aa;apply aa;refine ab fun K hK=>?_;simp[C.bQ,mS];apply hK;clear hK K;show AWp _ _ _ _ _;apply ak;refine bm (fun x:Nat×List (List Int)×List (List (List Int))=>⟨ofL [(7,.al (7,0) [] 0 ws.length),(9,.d (.sh 1 x.2.1.length (rows lS x.2.1))),(11,.al (11,0) [] 0 x.2.2.length),(33,.d (shI ks)),(34,.int ks.length),(35,.int x.1)],aF [((7,0),some (.ow 3 ws.length (rows mS ws))),((11,0),some (.ow 1 x.2.2.length (rows fmS x.2.2)))]⟩) (fun x=>x.1<=ks.length/\fcL m ws ks x.1=some x.2.1/\x.2.2=fcA m ws ks x.1) (fun x=>ks.length - x.1) (0,(foF m).1,[(foF m).1]) (by simp[C.bQ,rows,fmS]) ⟨by simp,hc0,by simp[fcA,hc0]⟩ ?_;intro x1 hx1 R1 hR1;obtain⟨i,f,L⟩:=x1;obtain⟨g1,g2,g3⟩:=hx1;dsimp only at g1 g2 g3 ⊢;have hfo:=EY g2;apply aa;refine ab fun K hK=>?_;simp[C.bQ,mS];apply hK;clear hK K;show AWp _ _ _ _ _;apply aa;refine ap _ rfl (fun hc2=>?_) (fun hc2=>?_)
   ·have hi:i < ks.length:=by have:=d_t hc2;omega
    have hiw:i < ws.length:=by omega
    have hwl:=so (w4 _ (List.getElem_mem hiw));have hwd:ws.getD i zM=ws[i]:=by simp[List.getD_eq_getElem?_getD,hiw]
    have hmf:=Hi f ws[i] ks[i] (by have:=hfo.1;omega) hfo.i64 (by omega);have hnx:fcL m ws ks (i+1)=if (mfF f ws[i] ks[i]).2=true then some (mfF f ws[i] ks[i]).1 else none:=by
     simp only[fcL,g2];rw[hwd,show ks.getD i 0=ks[i] by simp[List.getD_eq_getElem?_getD,hi]]
    obtain⟨G,hG⟩:∃ G,G=mfF f ws[i] ks[i]:=⟨_,rfl⟩;rw[<-hG] at hmf hnx;apply au;show AWp _ _ _ _ _;apply aa;apply ak;apply aa;refine ab fun K hK=>?_;simp[C.bQ,mS,ao,hi,show (i:Int) < ks.length by omega];apply hK;clear hK K;show AWp _ _ _ _ _;apply aa;refine aK ([0,1,2,3,4,5,6] ++ ([7,8,9,10,11])) rfl fun K hK=>?_;refine oSg fun L hL=>?_;simp[C.bQ,mS,hiw,n9 hiw,nT hiw,nP hiw,show (i:Int) < ws.length by omega];refine ae (hmf) (by simp[mS,hiw,n9 hiw,nT hiw,nP hiw,show (i:Int) < ws.length by omega]) (by simp) ?_;simp[C.bQ,mS,hiw,n9 hiw,nT hiw,nP hiw,show (i:Int) < ws.length by omega];apply hL;clear hL L;refine oEn fun L hL=>?_;simp[C.bQ,mS,hiw,n9 hiw,nT hiw,nP hiw,show (i:Int) < ws.length by omega];apply hL;clear hL L;simp[C.bQ,mS,hiw,n9 hiw,nT hiw,nP hiw,show (i:Int) < ws.length by omega];apply hK;clear hK K;show AWp _ _ _ _ _;apply aa;apply aa;refine ab fun K hK=>?_;simp[C.bQ,mS];apply hK;clear hK K;show AWp _ _ _ _ _;refine ap _ rfl (fun hc3=>?_) (fun hc3=>?_)
    ·have hb:G.2=false:=by simpa using hc3
     have hn0:fcL m ws ks (i+1)=none:=by rw[hnx,hb];rfl
     have hf:foR m ks=([],[],false):=by
      unfold foR;rw[hws];dsimp only;rw[lg hn0 (by omega)]
     apply aa;refine ab fun K hK=>?_;simp[C.bQ,mS];apply hK;clear hK K;show AWp _ _ _ _ _;apply aI;simp[C.bQ,mS,hf,rows]
    ·have hb:G.2=true:=by simpa using hc3
     rw[if_pos hb] at hnx;apply au;show AWp _ _ _ _ _;refine ab fun K hK=>?_;simp[C.bQ,mS,EQ,show (L.length+1)*24<=140737488355328 by (have e:=g3;have:L.length=i+1:=by rw[e];simp[fcA]);omega];apply hK;clear hK K;show AWp _ _ _ _ _;refine ab fun K hK=>?_;simp[C.bQ,mS,ay (show i < 4611686018427387904 by omega)];apply hK;clear hK K;simp[C.bQ,mS];refine cast (congrArg R1 ?_) (hR1 (i+1,G.1,L ++ [G.1]) ⟨hi,hnx,?_⟩ (by dsimp only;omega))
     ·simp
     ·dsimp only;rw[g3];unfold fcA;rw[List.range_succ (n:=i+1),List.map_append];simp[hnx]
   ·have hi:i=ks.length:=by have:=d_f hc2;omega
    have hf:foR m ks=(fcA m ws ks ks.length,ws,true):=by
     unfold foR;rw[hws];dsimp only;rw[<-hi,g2]
    rw[g3,hi];apply aZ;show AWp _ _ _ _ _;apply aa;refine ab fun K hK=>?_;simp[C.bQ,mS];apply hK;clear hK K;show AWp _ _ _ _ _;apply aI;simp[C.bQ,mS,hf];exact hms hr2
 clear hK
 by_cases h1:(wkR m ks).2=true
 ·simp[C.bQ,mS,h1];refine cast (congrArg K ?_) hJ;simp[mS,h1]
 ·simp[C.bQ,mS,h1];refine cast (congrArg K ?_) hJ;simp[mS,h1]
theorem Gf (m:Mat) (ks:List Int) (hx:m.d.length < 17592186044416) (hks:ks.length < 4611686018427387904):af Tryz.prog F.bQ [aM m,.d (shI ks)] [] false (fun outs res=>outs=[]/\res=[.one (.ow 1 (foR m ks).1.length (rows fmS (foR m ks).1)),.one (.ow 3 (foR m ks).2.1.length (rows mS (foR m ks).2.1)),.one (D.bool (foR m ks).2.2)]/\((foR m ks).2.2=true->∃ l,ct m.n.toNat (bM m) l)):=(xS m ks hx hks).weak fun outs res ⟨h1,h2,h3⟩=>⟨_,h2,h1,rfl,h3⟩
theorem FC {m:Mat} {ks:List Int} (h:(foR m ks).2.2=true):∃ ws f,wkF m ks=some ws/\fcL m ws ks ks.length=some f/\foR m ks=(fcA m ws ks ks.length,ws,true):=by
 unfold foR at h ⊢
 cases hws:wkF m ks with
 | none=>rw[hws] at h;simp at h
 | some ws=>
  rw[hws] at h
  cases hf:fcL m ws ks ks.length with
  | none=>simp[hf] at h
  | some f=>exact⟨ws,f,rfl,hf,by simp[hf]⟩
theorem Gm {m:Mat} {ks:List Int} (h:(foR m ks).2.2=false):qvF m ks=([],false):=by
 unfold foR at h;unfold qvF
 cases hws:wkF m ks with
 | none=>rfl
 | some ws=>
  rw[hws] at h
  cases hf:fcL m ws ks ks.length with
  | none=>simp only[hf]
  | some f=>simp[hf] at h
theorem BB {m:Mat} {ws:List Mat} {ks:List Int} {n t:Nat} {f:List (List Int)} (ht:t<=n) (hf:fcL m ws ks t=some f):∃ h:t < (fcA m ws ks n).length,(fcA m ws ks n)[t]=f:=by
 refine⟨by simp[fcA];omega,?_⟩;simp[fcA,hf]
theorem GA {m:Mat} {ws:List Mat} {ks:List Int} {n t:Nat} {f:List (List Int)} (hf:fcL m ws ks n=some f) (ht:t<=n):∃ g,fcL m ws ks t=some g:=by
 cases h:fcL m ws ks t with
 | none=>rw[lg h ht] at hf;simp at hf
 | some g=>exact⟨g,rfl⟩
theorem nl (m:Mat) (ks:List Int) (hx:m.d.length < 17592186044416) (hks:ks.length < 4611686018427387904):af Tryz.prog F.am [aM m,.d (shI ks)] [] true (fun outs res=>outs=[]/\eb res [.one (.ow 2 (qvF m ks).1.length (rows qO (qvF m ks).1)),.one (D.bool (qvF m ks).2)]):=by
 refine af.ob (C:=C.am) (n:=Tryz.f9.ntmps) bC bD Tryz.func9 rfl rfl ?_;simp only[Tryz.f9];apply aa;refine ab fun K hK=>?_;simp[C.am];apply hK;clear hK K;show AWp _ _ _ _ _;apply aa;refine aK ([0,1,2] ++ ([3,4,5,6,7,8,9])) rfl fun K hK=>?_;refine oSg fun L hL=>?_;simp[C.am,mS];refine fh (Gf m ks hx hks) (by simp) (by simp) (by simp) ?_;rintro outs res ⟨rfl,rfl,hmso⟩;simp[C.am,mS];apply hL;clear hL L;refine oEn fun L hL=>?_;simp[C.am,mS];apply hL;clear hL L;simp[C.am,mS];apply hK;clear hK K;show AWp _ _ _ _ _;apply aa;apply aa;refine ab fun K hK=>?_;simp[C.am];apply hK;clear hK K;show AWp _ _ _ _ _;refine ap _ rfl (fun hc1=>?_) (fun hc1=>?_)
 ·have hf:qvF m ks=([],false):=Gm (by simpa using hc1);apply aa;refine ab fun K hK=>?_;simp[C.am];apply hK;clear hK K;show AWp _ _ _ _ _;apply aI;simp[C.am,hf,rows]
 ·have hfo:(foR m ks).2.2=true:=by simpa using hc1
  obtain⟨ws,ff,hws,hff,hfr⟩:=FC hfo;obtain⟨l0,hl0⟩:=hmso hfo;have hm:ct m.n.toNat (bM m) (dsM m):=by rw[vk hl0];exact hl0
  obtain⟨w1,w2,w3,w4,w5⟩:=mZ hws;obtain⟨n,d1,d2,d3,d4⟩:=w1.dim;obtain⟨N,hN⟩:∃ N,N=(foL m).length:=⟨_,rfl⟩;have hNn:N=2*n:=by rw[hN];simp[foL];omega
  obtain⟨y1,y2,y3⟩:=oe (sa hff);have h8:1<=N/\N<=8:=by have:=y2.1;omega
  have hwn:IntKind.i64.wrap (2*(n:Int))=(N:Int):=by rw[aj (by omega) (by omega)];omega
  have hmn:m.n=n:=by omega
  rw[hfr];dsimp only;have hc0:fcL m ws ks 0=some (foL m):=by
   simp only[fcL];rw[if_pos (sa hff),y3]
  obtain⟨hA0,hA1⟩:=BB (Nat.zero_le ks.length) hc0;obtain⟨L,hL⟩:∃ L,L=fcA m ws ks ks.length:=⟨_,rfl⟩;have hAt:∀ t f,t<=ks.length->fcL m ws ks t=some f->∃ h:t < L.length,L[t]=f:=fun t f h1 h2=>by rw[hL];exact BB h1 h2
  simp only[<-hL] at hA0 hA1;rw[<-hL];have hil:(fq N).length=N:=by simp[fq]
  have hig:∀ i (h:i < N),(fq N)[i]'(by omega)=⟨N,[⟨ci N i,0,1⟩]⟩:=fun i h=>by simp[fq]
  apply au;show AWp _ _ _ _ _;apply aa;refine ab fun K hK=>?_;simp[C.am,hmn,hwn];apply hK;clear hK K;show AWp _ _ _ _ _;apply aa;refine ab fun K hK=>?_;simp[C.am];apply hK;clear hK K;show AWp _ _ _ _ _;apply aa;apply aa;refine ab fun K hK=>?_;simp[C.am];apply hK;clear hK K;show AWp _ _ _ _ _;apply ak;refine lY (fun i:Nat=>⟨ofL [(1,.d (shI ks)),(6,.al (6,0) [] 0 L.length),(7,.al (7,0) [] 0 ws.length),(9,.int N),(10,.al (10,0) [] 0 i),(11,.int i)],aF [((6,0),some (.ow 1 L.length (rows fmS L))),((7,0),some (.ow 3 ws.length (rows mS ws))),((10,0),some (.ow 2 i (rows qO ((fq N).take i))))]⟩) (fun i=>i<=N) (fun i=>N - i) 0 [.tmp 10 2] (by simp[C.am,rows];repeat' (first | refine⟨?_,?_⟩ | exact CI _ _ _ _ | refine AZ (by decide) ?_ | exact A6 _ _ _ | refine yy (by decide) ?_)) (by simp) ?_;intro x1 hx1 R1 hR1;apply aa;apply aa;refine ab fun K hK=>?_;simp[C.am];apply hK;clear hK K;show AWp _ _ _ _ _;refine ap _ rfl (fun hc2=>?_) (fun hc2=>?_)
  ·have hi:x1 < N:=by have:=d_t hc2;omega
   have hun:=nV N x1 (by omega) hi;have hmo:=Df (ci N x1) 0 (by rw[bq];omega);rw[yL h8,show shI (ci N x1) = .sh 1 N (ints (ci N x1)) by unfold shI;rw[bq]] at hmo;have hsn:=AS ((fq N).take x1) ⟨N,[⟨ci N x1,0,1⟩]⟩;rw[<-hig x1 hi,<-List.take_succ_eq_append_getElem (by omega),hig x1 hi] at hsn;have htl:((fq N).take x1).length=x1:=by simp;omega
   obtain⟨MQ,hMQ⟩:∃ M:Qsm,M=⟨N,[⟨ci N x1,0,1⟩]⟩:=⟨_,rfl⟩;rw[<-hMQ] at hmo hsn;apply au;show AWp _ _ _ _ _;apply aa;apply ak;refine aK ([0,1,2,3] ++ ([4] ++ ([5,6,7]))) rfl fun K hK=>?_;refine oSg fun L hL=>?_;simp[C.am,bq,qO,hsn,show (x1+1)*32<=140737488355328 by omega];refine ae (hun) (by simp[bq,qO,hsn,show (x1+1)*32<=140737488355328 by omega]) (by simp) ?_;simp[C.am,bq,qO,hsn,show (x1+1)*32<=140737488355328 by omega];apply hL;clear hL L;refine oSg fun L hL=>?_;simp[C.am,bq,qO,hsn,show (x1+1)*32<=140737488355328 by omega];refine ae (hmo) (by simp[bq,qO,hsn,show (x1+1)*32<=140737488355328 by omega]) (by simp) ?_;simp[C.am,bq,qO,hsn,show (x1+1)*32<=140737488355328 by omega];apply hL;clear hL L;refine oEn fun L hL=>?_;simp[C.am,bq,qO,hsn,show (x1+1)*32<=140737488355328 by omega];apply hL;clear hL L;simp[C.am,bq,qO,hsn,show (x1+1)*32<=140737488355328 by omega];apply hK;clear hK K;show AWp _ _ _ _ _;refine ab fun K hK=>?_;simp[C.am,ay (show x1 < 4611686018427387904 by omega)];apply hK;clear hK K;simp[C.am];exact hR1 (x1+1) hi (by omega)
  ·have hi:x1=N:=by have:=d_f hc2;omega
   have htk:(fq N).take x1=fq N:=List.take_of_length_le (by omega);rw[htk,hi];have hq0:qvL m ws ks 0=some (fq N):=by rw[hN];rfl
   apply aZ;show AWp _ _ _ _ _;apply aa;apply aa;refine ab fun K hK=>?_;simp[C.am];apply hK;clear hK K;show AWp _ _ _ _ _;apply ak;refine bm (fun x:Nat×List Qsm=>⟨ofL [(6,.al (6,0) [] 0 L.length),(7,.al (7,0) [] 0 ws.length),(9,.int N),(10,.al (10,0) [] 0 N),(50,.d (shI ks)),(51,.int ks.length),(52,.int x.1)],aF [((6,0),some (.ow 1 L.length (rows fmS L))),((7,0),some (.ow 3 ws.length (rows mS ws))),((10,0),some (.ow 2 N (rows qO x.2)))]⟩) (fun x=>x.1<=ks.length/\qvL m ws ks x.1=some x.2) (fun x=>ks.length - x.1) (0,fq N) (by simp[C.am]) ⟨by simp,hq0⟩ ?_;intro x2 hx2 R2 hR2;obtain⟨t,vs⟩:=x2;obtain⟨ht0,hvq⟩:=hx2;dsimp only at ht0 hvq ⊢;apply aa;refine ab fun K hK=>?_;simp[C.am];apply hK;clear hK K;show AWp _ _ _ _ _;apply aa;refine ap _ rfl (fun hc3=>?_) (fun hc3=>?_)
   ·have ht:t < ks.length:=by have:=d_t hc3;omega
    obtain⟨ft,hft⟩:=GA hff (show t<=ks.length by omega);obtain⟨hFJ,j1,j2,j3,j4⟩:=rB hws hm (by omega) hft hvq;obtain⟨hLt,hLf⟩:=hAt t ft (by omega) hft;have hkb:=w5 t ht;have hkd:ks.getD t 0=ks[t]:=by simp[List.getD_eq_getElem?_getD,ht]
    rw[hkd] at hkb;obtain⟨k,hk⟩:∃ k:Nat,ks[t]=(k:Int):=⟨ks[t].toNat,by omega⟩;have hkn:k < n:=by omega
    have htw:t < ws.length:=by omega
    have hwd:ws.getD t zM=ws[t]:=by simp[List.getD_eq_getElem?_getD,htw]
    rw[hwd] at hFJ;have hnx:qvL m ws ks (t+1)=(exQ (foL m) ft (kb ws[t] N k) vs k).map fun Z=>vs.set k Z:=by
     simp only[qvL,hvq,hft];rw[hwd,hkd,hk,Int.toNat_natCast,hN]
    obtain⟨p,hp⟩:∃ p,p=ws[t]:=⟨_,rfl⟩;rw[<-hp] at hFJ hnx;have hpn:p.n=n:=by rw[hFJ.pn];omega
    have hpr:p.r=N:=by rw[hFJ.pr];omega
    have hpS:=hFJ.pok.1;obtain⟨fm0,hfm0⟩:∃ f,f=foL m:=⟨_,rfl⟩;rw[<-hfm0] at j1 j2 j3 j4 hA1 hN hnx;have hvl:=j3.len;rw[<-hN] at hvl;obtain⟨b,hb⟩:∃ b,b=kb p N k:=⟨_,rfl⟩;have hbl:b.length=N:=by rw[hb];simp
    have hbg:∀ (i:Nat) (h:i < N),b[i]'(by omega)=bM p i k:=fun i h=>by simp only[hb];exact tq p N k i h
    rw[<-hb] at hnx;have hmnl:(mnL b).length=N:=by simp[mnL,hbl]
    have hpll:(plL b).length=N:=by simp[plL,hbl]
    have hmng:∀ i (h:i < N),(mnL b)[i]'(by omega)=max 0 (-(bM p i k)):=fun i h=>by simp only[mnL,List.getElem_map];rw[hbg i h]
    have hplg:∀ i (h:i < N),(plL b)[i]'(by omega)=max 0 (bM p i k):=fun i h=>by simp only[plL,List.getElem_map];rw[hbg i h]
    have hmnb:∀ z∈mnL b,0<=z/\z<=99:=fun z hz=>by
     obtain⟨i,hi,rfl⟩:=List.getElem_of_mem hz;rw[hmng i (by omega)];have:=gV hpS i k;omega
    have hplb:∀ z∈plL b,0<=z/\z<=99:=fun z hz=>by
     obtain⟨i,hi,rfl⟩:=List.getElem_of_mem hz;rw[hplg i (by omega)];have:=gV hpS i k;omega
    have hio1:=oK fm0 ft vs (mnL b) k j2 hFJ.ok j1 j3 (by omega) hmnb (by omega);have hio2:=oK fm0 ft vs (plL b) k j2 hFJ.ok j1 j3 (by omega) hplb (by omega);rw[show shI (mnL b) = .sh 1 N (ints (mnL b)) by unfold shI;rw[hmnl],hvl] at hio1;rw[show shI (plL b) = .sh 1 N (ints (plL b)) by unfold shI;rw[hpll],hvl] at hio2;have hex:exQ fm0 ft b vs k=match orF fm0 ft vs (mnL b) k,orF fm0 ft vs (plL b) k with
     | some p,some q=>if (dJ p q).2=true then (if (dm fm0 (dJ p q).1 (vs.getD k cM)).2=true then some (dm fm0 (dJ p q).1 (vs.getD k cM)).1 else none) else none
     | _,_=>none:=rfl
    have hr1:∀ q,orF fm0 ft vs (mnL b) k=some q->aL q:=fun q hq=>(u9 j2 j3 (by omega) (wg b) j1 (by omega) hq).1;have hr2:∀ q,orF fm0 ft vs (plL b) k=some q->aL q:=fun q hq=>(u9 j2 j3 (by omega) (wt b) j1 (by omega) hq).1;obtain⟨o1,ho1⟩:∃ o,o=orF fm0 ft vs (mnL b) k:=⟨_,rfl⟩;obtain⟨o2,ho2⟩:∃ o,o=orF fm0 ft vs (plL b) k:=⟨_,rfl⟩;rw[<-ho1] at hio1 hex;rw[<-ho2] at hio2 hex;simp only[<-ho1] at hr1;simp only[<-ho2] at hr2;have hfail:exQ fm0 ft b vs k=none->qvF m ks=([],false):=fun h=>by
     have h1:qvL m ws ks (t+1)=none:=by rw[hnx,h];rfl
     unfold qvF;rw[hws];dsimp only;rw[hff,zu h1 (by omega)]
    have hp2:=hp.symm;have hftl:ft.length=N:=by omega
    have hf0l:fm0.length=N:=by omega
    apply au;show AWp _ _ _ _ _;apply aa;apply ak;apply aa;refine ab fun K hK=>?_;simp[C.am,ao,ht,hk,show (t:Int) < ks.length by omega];apply hK;clear hK K;show AWp _ _ _ _ _;apply aa;refine eG (.take 0 (.take 2 (.all [(1,.take 4 (.all [(3,.take 5 (.done))])),(3,.all [(1,.take 4 (.take 5 (.done)))])]))) ⟨by kernel_rfl,by kernel_rfl⟩ fun K hK=>?_;have hJ:K ⟨ofL [(6,.al (6,0) [] 0 L.length),(7,.al (7,0) [] 0 ws.length),(9,.int N),(10,.al (10,0) [] 0 N),(12,.int t),(13,.int k),(14,.al (14,0) [] 0 N),(15,.al (15,0) [] 0 N),(50,.d (shI ks)),(51,.int ks.length),(52,.int t)],aF [((6,0),some (.ow 1 L.length (rows fmS L))),((7,0),some (.ow 3 ws.length (rows mS ws))),((10,0),some (.ow 2 N (rows qO vs))),((14,0),some (.ow 1 N (ints (List.replicate N 0)))),((15,0),some (.ow 1 N (ints (List.replicate N 0))))]⟩:=by
     apply hK;clear hK K;show AWp _ _ _ _ _;apply aa;apply aa;refine ab fun K hK=>?_;simp[C.am];apply hK;clear hK K;show AWp _ _ _ _ _;apply ak;refine bm (fun i:Nat=>⟨ofL [(6,.al (6,0) [] 0 L.length),(7,.al (7,0) [] 0 ws.length),(9,.int N),(10,.al (10,0) [] 0 N),(12,.int t),(13,.int k),(14,.al (14,0) [] 0 N),(15,.al (15,0) [] 0 N),(16,.int i),(50,.d (shI ks)),(51,.int ks.length),(52,.int t)],aF [((6,0),some (.ow 1 L.length (rows fmS L))),((7,0),some (.ow 3 ws.length (rows mS ws))),((10,0),some (.ow 2 N (rows qO vs))),((14,0),some (.ow 1 N (ints ((mnL b).take i ++ List.replicate (N - i) 0)))),((15,0),some (.ow 1 N (ints ((plL b).take i ++ List.replicate (N - i) 0))))]⟩) (fun i=>i<=N) (fun i=>N - i) 0 (by simp[C.am]) (by simp) ?_;intro x3 hx3 R3 hR3;apply aa;apply aa;refine ab fun K hK=>?_;simp[C.am];apply hK;clear hK K;show AWp _ _ _ _ _;refine ap _ rfl (fun hc4=>?_) (fun hc4=>?_)
     ·have hi:x3 < N:=by have:=d_t hc4;omega
      have hat:=s8 hpn hpS (i:=x3) (j:=k) (by omega) hkn;rw[hpr] at hat
      have hbd:=gV hpS x3 k;have hg1:=hmng x3 hi;have hg2:=hplg x3 hi;obtain⟨c,hc⟩:∃ c,c=bM p x3 k:=⟨_,rfl⟩;rw[<-hc] at hat hbd hg1 hg2;have hms1:=ko (mnL b) (List.replicate N 0) x3 (by omega) (by simp[hmnl]);have hms2:=ko (plL b) (List.replicate N 0) x3 (by omega) (by simp[hpll]);rw[List.drop_replicate,List.drop_replicate,hg1] at hms1;rw[List.drop_replicate,List.drop_replicate,hg2] at hms2;have hml1:((mnL b).take x3 ++ List.replicate (N - x3) (0:Int)).length=N:=by simp;omega
      have hml2:((plL b).take x3 ++ List.replicate (N - x3) (0:Int)).length=N:=by simp;omega
      obtain⟨M1,hM1⟩:∃ M,M=(mnL b).take x3 ++ List.replicate (N - x3) (0:Int):=⟨_,rfl⟩;obtain⟨M2,hM2⟩:∃ M,M=(plL b).take x3 ++ List.replicate (N - x3) (0:Int):=⟨_,rfl⟩;rw[<-hM1] at hms1 hml1;rw[<-hM2] at hms2 hml2;rw[<-hM1,<-hM2];apply au;show AWp _ _ _ _ _;apply aa;apply ak;apply aa;refine aK ([0,1,2,3,4,5,6] ++ ([7])) rfl fun K hK=>?_;refine oSg fun L hL=>?_;simp[C.am,htw,n9 htw,nT htw,nP htw,hp2,hpn,hpr,show (t:Int) < ws.length by omega];refine ae (hat) (by simp[htw,n9 htw,nT htw,nP htw,hp2,hpn,hpr,show (t:Int) < ws.length by omega]) (by simp) ?_;simp[C.am,htw,n9 htw,nT htw,nP htw,hp2,hpn,hpr,show (t:Int) < ws.length by omega];apply hL;clear hL L;refine oEn fun L hL=>?_;simp[C.am,htw,n9 htw,nT htw,nP htw,hp2,hpn,hpr,show (t:Int) < ws.length by omega];apply hL;clear hL L;simp[C.am,htw,n9 htw,nT htw,nP htw,hp2,hpn,hpr,show (t:Int) < ws.length by omega];apply hK;clear hK K;show AWp _ _ _ _ _;refine aK ([0,1,2,3,4,5,6,7,8,9,10,11,12]) rfl fun K hK=>?_;refine oEn fun L hL=>?_;simp[C.am,aj (x:=-c) (by omega) (by omega),hml1,hml2,hi,show (x3:Int) < N by omega,hms1,hms2];apply hL;clear hL L;simp[C.am,aj (x:=-c) (by omega) (by omega),hml1,hml2,hi,show (x3:Int) < N by omega,hms1,hms2];apply hK;clear hK K;show AWp _ _ _ _ _;refine ab fun K hK=>?_;simp[C.am,ay (show x3 < 4611686018427387904 by omega)];apply hK;clear hK K;simp[C.am];exact hR3 (x3+1) hi (by omega)
     ·have hi:x3=N:=by have:=d_f hc4;omega
      have htk1:(mnL b).take x3 ++ List.replicate (N - x3) (0:Int)=mnL b:=by
       rw[hi,List.take_of_length_le (by omega),Nat.sub_self,List.replicate_zero,List.append_nil]
      have htk2:(plL b).take x3 ++ List.replicate (N - x3) (0:Int)=plL b:=by
       rw[hi,List.take_of_length_le (by omega),Nat.sub_self,List.replicate_zero,List.append_nil]
      rw[htk1,htk2];apply aZ;show AWp _ _ _ _ _;apply aa;refine eG (.take 0 (.take 1 (.take 2 (.take 3 (.take 4 (.take 5 (.take 6 (.take 7 (.take 8 (.take 9 (.all [(10,.take 11 (.take 12 (.take 13 (.all [(14,.all [(15,.take 16 (.done))])])))),(14,.all [(10,.take 11 (.take 12 (.take 13 (.all [(15,.take 16 (.done))]))))])]))))))))))) ⟨by kernel_rfl,by kernel_rfl⟩ fun K hK=>?_;have hJ:∀ (X1:Qsm) (hX1:SmQ X1) (hq1:∀ q,o1=some q->X1=q),K ⟨ofL [(6,.al (6,0) [] 0 L.length),(7,.al (7,0) [] 0 ws.length),(9,.int N),(10,.al (10,0) [] 0 N),(12,.int t),(13,.int k),(15,.al (15,0) [] 0 N),(18,.pt (18,0) [] 0),(19,.bool o1.isSome),(50,.d (shI ks)),(51,.int ks.length),(52,.int t)],aF [((6,0),some (.ow 1 L.length (rows fmS L))),((7,0),some (.ow 3 ws.length (rows mS ws))),((10,0),some (.ow 2 N (rows qO vs))),((15,0),some (.ow 1 N (ints (plL b)))),((18,0),some (.bx [D.int X1.v,.ow 3 X1.ts.length (rows qtO X1.ts)]))]⟩:=by
       intro X1 hX1 hq1;apply hK;clear hK K;show AWp _ _ _ _ _;apply aa;refine eG (.take 0 (.take 1 (.take 2 (.take 3 (.take 4 (.take 5 (.take 6 (.take 7 (.take 8 (.take 9 (.all [(10,.take 11 (.take 12 (.take 13 (.all [(14,.all [(15,.take 16 (.done))])])))),(14,.all [(10,.take 11 (.take 12 (.take 13 (.all [(15,.take 16 (.done))]))))])]))))))))))) ⟨by kernel_rfl,by kernel_rfl⟩ fun K hK=>?_;have hJ:∀ (X2:Qsm) (hX2:SmQ X2) (hq2:∀ q,o2=some q->X2=q),K ⟨ofL [(6,.al (6,0) [] 0 L.length),(7,.al (7,0) [] 0 ws.length),(9,.int N),(10,.al (10,0) [] 0 N),(13,.int k),(18,.pt (18,0) [] 0),(19,.bool o1.isSome),(20,.pt (20,0) [] 0),(21,.bool o2.isSome),(50,.d (shI ks)),(51,.int ks.length),(52,.int t)],aF [((6,0),some (.ow 1 L.length (rows fmS L))),((7,0),some (.ow 3 ws.length (rows mS ws))),((10,0),some (.ow 2 N (rows qO vs))),((18,0),some (.bx [D.int X1.v,.ow 3 X1.ts.length (rows qtO X1.ts)])),((20,0),some (.bx [D.int X2.v,.ow 3 X2.ts.length (rows qtO X2.ts)]))]⟩:=by
        intro X2 hX2 hq2;apply hK;clear hK K;show AWp _ _ _ _ _;apply aa;apply aa;refine ab fun K hK=>?_;have hJ:K ⟨ofL [(6,.al (6,0) [] 0 L.length),(7,.al (7,0) [] 0 ws.length),(9,.int N),(10,.al (10,0) [] 0 N),(13,.int k),(18,.pt (18,0) [] 0),(20,.pt (20,0) [] 0),(50,.d (shI ks)),(51,.int ks.length),(52,.int t),(117,.bool (!(o1.isSome && o2.isSome)))],aF [((6,0),some (.ow 1 L.length (rows fmS L))),((7,0),some (.ow 3 ws.length (rows mS ws))),((10,0),some (.ow 2 N (rows qO vs))),((18,0),some (.bx [D.int X1.v,.ow 3 X1.ts.length (rows qtO X1.ts)])),((20,0),some (.bx [D.int X2.v,.ow 3 X2.ts.length (rows qtO X2.ts)]))]⟩:=by
         apply hK;clear hK K;show AWp _ _ _ _ _;refine ap _ rfl (fun hc5=>?_) (fun hc5=>?_)
         ·have hf:qvF m ks=([],false):=hfail (by
           rw[hex]
           cases h1:o1 with
           | none=>rfl
           | some P=>
            cases h2:o2 with
            | none=>rfl
            | some Q=>rw[h1,h2] at hc5;simp at hc5)
          apply aa;refine ab fun K hK=>?_;simp[C.am];apply hK;clear hK K;show AWp _ _ _ _ _;apply aI;simp[C.am,hf,rows]
         ·have hcc:o1.isSome=true/\o2.isSome=true:=by
           rw[Bool.not_eq_false',Bool.and_eq_true] at hc5;exact hc5
          obtain⟨P,hP⟩:=Option.isSome_iff_exists.1 hcc.1;obtain⟨Q,hQ⟩:=Option.isSome_iff_exists.1 hcc.2;obtain rfl:=hq1 P hP;obtain rfl:=hq2 Q hQ;rw[hP,hQ] at hex;dsimp only at hex;have had:=FS X1 X2 hX1.1 hX1.2 hX2.1 hX2.2;have hAs:=xf X1 X2;obtain⟨A,hA⟩:∃ A,A=dJ X1 X2:=⟨_,rfl⟩;rw[<-hA] at had hAs hex;have hkv:k < vs.length:=by omega
          have hgk:vs.getD k cM=vs[k]:=by simp[List.getD_eq_getElem?_getD,hkv]
          have hvr:=j3.ok _ (List.getElem_mem hkv);have hsv:=gF hvr.1;have hdv:=Fz fm0 A.1 vs[k] (by omega) j2.i64 hAs.1 hAs.2 hsv.1 hsv.2;rw[hgk] at hex;obtain⟨W,hW⟩:∃ W,W=dm fm0 A.1 vs[k]:=⟨_,rfl⟩;rw[<-hW] at hdv hex;apply au;show AWp _ _ _ _ _;apply aa;refine aK ([0,1,2] ++ ([3,4,5,6,7,8])) rfl fun K hK=>?_;refine oSg fun L hL=>?_;simp[C.am,qO];refine ae (had) (by simp[qO]) (by simp) ?_;simp[C.am,qO];apply hL;clear hL L;refine oEn fun L hL=>?_;simp[C.am,qO];apply hL;clear hL L;simp[C.am,qO];apply hK;clear hK K;show AWp _ _ _ _ _;apply aa;refine eG (.take 0 (.take 1 (.take 2 (.take 3 (.take 4 (.take 5 (.take 6 (.take 7 (.all [(8,.take 9 (.take 10 (.take 11 (.all [(12,.all [(13,.take 14 (.done))])])))),(12,.all [(8,.take 9 (.take 10 (.take 11 (.all [(13,.take 14 (.done))]))))])]))))))))) ⟨by kernel_rfl,by kernel_rfl⟩ fun K hK=>?_;have hJ:K ⟨ofL [(6,.al (6,0) [] 0 L.length),(7,.al (7,0) [] 0 ws.length),(9,.int N),(10,.al (10,0) [] 0 N),(13,.int k),(23,.bool A.2),(24,.pt (24,0) [] 0),(25,.bool W.2),(50,.d (shI ks)),(51,.int ks.length),(52,.int t)],aF [((6,0),some (.ow 1 L.length (rows fmS L))),((7,0),some (.ow 3 ws.length (rows mS ws))),((10,0),some (.ow 2 N (rows qO vs))),((24,0),some (.bx [D.int W.1.v,.ow 3 W.1.ts.length (rows qtO W.1.ts)]))]⟩:=by
           apply hK;clear hK K;show AWp _ _ _ _ _;apply aa;apply aa;refine ab fun K hK=>?_;have hJ:K ⟨ofL [(6,.al (6,0) [] 0 L.length),(7,.al (7,0) [] 0 ws.length),(9,.int N),(10,.al (10,0) [] 0 N),(13,.int k),(24,.pt (24,0) [] 0),(50,.d (shI ks)),(51,.int ks.length),(52,.int t),(141,.bool (!(A.2 && W.2)))],aF [((6,0),some (.ow 1 L.length (rows fmS L))),((7,0),some (.ow 3 ws.length (rows mS ws))),((10,0),some (.ow 2 N (rows qO vs))),((24,0),some (.bx [D.int W.1.v,.ow 3 W.1.ts.length (rows qtO W.1.ts)]))]⟩:=by
            apply hK;clear hK K;show AWp _ _ _ _ _;refine ap _ rfl (fun hc6=>?_) (fun hc6=>?_)
            ·have hf:qvF m ks=([],false):=hfail (by
              rw[hex]
              cases h1:A.2 with
              | false=>rfl
              | true=>
               rw[h1,Bool.true_and,Bool.not_eq_true'] at hc6;rw[if_pos rfl,hc6];rfl)
             apply aa;refine ab fun K hK=>?_;simp[C.am];apply hK;clear hK K;show AWp _ _ _ _ _;apply aI;simp[C.am,hf,rows]
            ·have hcc:A.2=true/\W.2=true:=by
              rw[Bool.not_eq_false',Bool.and_eq_true] at hc6;exact hc6
             rw[if_pos hcc.1,if_pos hcc.2] at hex;rw[hex] at hnx;have hst:=Br hkv W.1;apply au;show AWp _ _ _ _ _;refine ab fun K hK=>?_;simp[C.am,hkv,q8 hkv,rt hkv,hvl,show k < N by omega,show (k:Int) < N by omega,hst];apply hK;clear hK K;show AWp _ _ _ _ _;refine ab fun K hK=>?_;simp[C.am,ay (show t < 4611686018427387904 by omega)];apply hK;clear hK K;simp[C.am];exact hR2 (t+1,vs.set k W.1) ⟨ht,hnx⟩ (by dsimp only;omega)
           clear hK
           by_cases h1:A.2=true
           ·simp[C.am,h1];refine cast (congrArg K ?_) hJ;simp[h1]
           ·simp[C.am,h1,h1];refine cast (congrArg K ?_) hJ;simp[h1]
          clear hK;simp[C.am,hA0,vO hA0,hA1,show (0:Int) < L.length by omega,hkv,hvl,show k < N by omega,q8 hkv,rt hkv,show (k:Int) < N by omega]
          repeat' first
           | (refine ae (hdv) ?_ (by simp) ?_;(focus (simp;done));simp[C.am,qO])
           | (refine cast (congrArg K ?_) hJ;simp;done)
           | refine And.intro ?_ ?_
        clear hK
        by_cases h1:o1.isSome=true
        ·simp[C.am,h1];refine cast (congrArg K ?_) hJ;simp[h1]
        ·simp[C.am,h1,h1];refine cast (congrArg K ?_) hJ;simp[h1]
       clear hK;simp[C.am,hA0,hLt,vO hA0,vO hLt,hA1,hLf,show (t:Int) < L.length by omega,show (0:Int) < L.length by omega]
       repeat' first
        | (refine fh (OrW.weak hio2) (by simp) (by simp[hvl]) (by simp) ?_;rintro outs res ⟨rfl,X2,hX2,rfl,hq2⟩;simp[C.am,qO])
        | (refine cast (congrArg K ?_) (hJ X2 hX2 hq2);simp;done)
        | refine And.intro ?_ ?_
      clear hK;simp[C.am,hA0,hLt,vO hA0,vO hLt,hA1,hLf,show (t:Int) < L.length by omega,show (0:Int) < L.length by omega]
      repeat' first
       | (refine fh (OrW.weak hio1) (by simp) (by simp[hvl]) (by simp) ?_;rintro outs res ⟨rfl,X1,hX1,rfl,hq1⟩;simp[C.am,qO])
       | (refine cast (congrArg K ?_) (hJ X1 hX1 hq1);simp;done)
       | refine And.intro ?_ ?_
    clear hK;simp[C.am,cL,show (N:Int)<=281474976710656 by omega,show (8:Int)*N<=281474976710656 by omega]
    repeat' first
     | (refine cast (congrArg K ?_) hJ;simp;done)
     | refine And.intro ?_ ?_
   ·have ht:t=ks.length:=by have:=d_f hc3;omega
    have hf:qvF m ks=(vs,true):=by
     unfold qvF;rw[hws];dsimp only;rw[ht] at hvq;rw[hff,hvq]
    obtain⟨hFJ,j1,j2,j3,j4⟩:=rB hws hm (by omega) (ht ▸ hff) hvq;have hvl:vs.length=N:=by rw[j3.len,hN]
    apply aZ;show AWp _ _ _ _ _;apply aa;refine ab fun K hK=>?_;simp[C.am];apply hK;clear hK K;show AWp _ _ _ _ _;apply aI;simp[C.am,hf,hvl]
theorem HJ (m:Mat) (ks:List Int) (hx:m.d.length < 17592186044416) (hks:ks.length < 4611686018427387904):af Tryz.prog F.am [aM m,.d (shI ks)] [] true (fun outs res=>outs=[]/\res=[.one (.ow 2 (qvF m ks).1.length (rows qO (qvF m ks).1)),.one (D.bool (qvF m ks).2)]):=(nl m ks hx hks).weak1
set_option maxRecDepth 10000
set_option maxHeartbeats 4000000
theorem wf (m:Mat) (hx:m.d.length < 17592186044416) (hl:¬ ∃ l,ct m.n.toNat (bM m) l):af Tryz.prog F.bt [aM m] [] true (fun outs res=>outs=[]/\¬ dO m/\eb res [.one (.ow 1 (foF m).1.length (rows lO (foF m).1)),.one (D.bool (foF m).2)]):=by
 refine af.ob (C:=C.bt) (n:=Tryz.f52.ntmps) bC bD Tryz.func52 rfl rfl ?_;simp only[Tryz.f52];apply aa;refine ab fun K hK=>?_;simp[C.bt,mS];apply hK;clear hK K;show AWp _ _ _ _ _;apply aa;apply aa;refine aK ([0,1] ++ ([2])) rfl fun K hK=>?_;refine oSg fun L hL=>?_;simp[C.bt,mS];refine ae (g8 m hx) (by simp[mS]) (by simp) ?_;simp[C.bt,mS];apply hL;clear hL L;refine oEn fun L hL=>?_;simp[C.bt,mS];apply hL;clear hL L;simp[C.bt,mS];apply hK;clear hK K;show AWp _ _ _ _ _;refine ap _ rfl (fun hc1=>?_) (fun hc1=>?_)
 ·have hr:¬ dO m:=by simpa using hc1
  have hf:foF m=([],false):=if_neg (fun h=>hr h.1);apply aa;refine ab fun K hK=>?_;simp[C.bt,mS];apply hK;clear hK K;show AWp _ _ _ _ _;apply aI;simp[C.bt,mS,hf,rows];exact hr
 ·have hr:dO m:=by simpa using hc1
  apply au;show AWp _ _ _ _ _;apply aa;refine ab fun K hK=>?_;simp[C.bt,mS];refine fh (mN m hr hl) (by simp) (by simp) (by simp) ?_;rintro outs res h;exact h.elim
theorem F7 (m:Mat) (hx:m.d.length < 17592186044416):af Tryz.prog F.bt [aM m] [] true (fun outs res=>outs=[]/\res=[.one (.ow 1 (foF m).1.length (rows lO (foF m).1)),.one (D.bool (foF m).2)]/\((foF m).2=true->∃ l,ct m.n.toNat (bM m) l)):=by
 by_cases hl:∃ l,ct m.n.toNat (bM m) l
 ·exact (xO m hx).weak fun outs res ⟨h1,h2⟩=>⟨_,h2,h1,rfl,fun _=>hl⟩
 ·exact (wf m hx hl).weak fun outs res ⟨h1,h3,h2⟩=>⟨_,h2,h1,rfl,fun h=>absurd (oe h).1 h3⟩
theorem nq (m:Mat) (ks:List Int) (hx:m.d.length < 17592186044416) (hks:ks.length < 4611686018427387904):af Tryz.prog F.az [aM m,.d (shI ks)] [] true (fun outs res=>outs=[]/\eb res [.one (.ow 2 (qvF m ks).1.length (rows qO (qvF m ks).1)),.one (D.bool (qvF m ks).2)]):=by
 have hwb:(wkR m ks).2=true↔∃ ws,wkF m ks=some ws/\wkR m ks=(ws,true):=by
  unfold wkR
  cases wkF m ks <;> simp
 refine af.ob (C:=C.az) (n:=Tryz.f13.ntmps) bC bD Tryz.func13 rfl rfl ?_;simp only[Tryz.f13];apply aa;refine ab fun K hK=>?_;simp[C.az];apply hK;clear hK K;show AWp _ _ _ _ _;apply aa;refine aK ([0,1] ++ ([2,3,4,5,6])) rfl fun K hK=>?_;refine oSg fun L hL=>?_;simp[C.az,mS];refine fh (F7 m hx) (by simp) (by simp) (by simp) ?_;rintro outs res ⟨rfl,rfl,hmso⟩;simp[C.az,mS];apply hL;clear hL L;refine oEn fun L hL=>?_;simp[C.az,mS];apply hL;clear hL L;simp[C.az,mS];apply hK;clear hK K;show AWp _ _ _ _ _;apply aa;refine aK ([0,1,2] ++ ([3,4,5,6,7])) rfl fun K hK=>?_;refine oSg fun L hL=>?_;simp[C.az,mS];refine ae (Ib m ks hx hks) (by simp) (by simp) ?_;simp[C.az,mS];apply hL;clear hL L;refine oEn fun L hL=>?_;simp[C.az,mS];apply hL;clear hL L;simp[C.az,mS];apply hK;clear hK K;show AWp _ _ _ _ _;apply aa;apply aa;refine ab fun K hK=>?_;have hJ:K ⟨ofL [(1,.d (shI ks)),(2,.pt (2,0) [] 0),(6,.d (.sh 1 (foF m).1.length (rows lS (foF m).1))),(8,.al (8,0) [] 0 (wkR m ks).1.length),(34,.bool (!((foF m).2 && (wkR m ks).2)))],aF [((2,0),some (.bx [D.int m.n,D.int m.r,shI m.d])),((8,0),some (.ow 3 (wkR m ks).1.length (rows mO (wkR m ks).1)))]⟩:=by
  apply hK;clear hK K;show AWp _ _ _ _ _;refine ap _ rfl (fun hc1=>?_) (fun hc1=>?_)
  ·have hr:((foF m).2 && (wkR m ks).2)=false:=by have h9:=hc1;rw[Bool.not_eq_true'] at h9;exact h9
   have hf:qvF m ks=([],false):=by
    unfold qvF
    cases hws:wkF m ks with
    | none=>rfl
    | some ws=>
     have h1:(wkR m ks).2=true:=hwb.2 ⟨ws,hws,by unfold wkR;rw[hws]⟩;rw[h1,Bool.and_true] at hr;have h0:fcL m ws ks 0=none:=by simp only[fcL,hr];simp
     dsimp only;rw[lg h0 (by omega)]
   apply aa;refine ab fun K hK=>?_;simp[C.az];apply hK;clear hK K;show AWp _ _ _ _ _;apply aI;simp[C.az,hf,rows]
  ·have hr:((foF m).2 && (wkR m ks).2)=true:=by simpa using hc1
   rw[Bool.and_eq_true] at hr;obtain⟨hr2,hr1⟩:=hr;obtain⟨ws,hws,hwr⟩:=hwb.1 hr1;rw[hwr];dsimp only;obtain⟨l0,hl0⟩:=hmso hr2;have hm:ct m.n.toNat (bM m) (dsM m):=by rw[vk hl0];exact hl0
   obtain⟨w1,w2,w3,w4,w5⟩:=mZ hws;obtain⟨n,d1,d2,d3,d4⟩:=w1.dim;obtain⟨N,hN⟩:∃ N,N=(foL m).length:=⟨_,rfl⟩;have hNn:N=2*n:=by rw[hN];simp[foL];omega
   obtain⟨y1,y2,y3⟩:=oe hr2;have h8:1<=N/\N<=8:=by have:=y2.1;omega
   have hwn:IntKind.i64.wrap (2*(n:Int))=(N:Int):=by rw[aj (by omega) (by omega)];omega
   have hmn:m.n=n:=by omega
   have hc0:fcL m ws ks 0=some (foL m):=by
    simp only[fcL];rw[if_pos hr2,y3]
   rw[y3];obtain⟨fm0,hfm0⟩:∃ f,f=foL m:=⟨_,rfl⟩;have hil:(fq N).length=N:=by simp[fq]
   have hig:∀ i (h:i < N),(fq N)[i]'(by omega)=⟨N,[⟨ci N i,0,1⟩]⟩:=fun i h=>by simp[fq]
   have hq0:qvL m ws ks 0=some (fq N):=by rw[hN];rfl
   rw[<-hfm0] at hN hc0;rw[<-hfm0];apply au;show AWp _ _ _ _ _;apply aa;refine ab fun K hK=>?_;simp[C.az];apply hK;clear hK K;show AWp _ _ _ _ _;apply aa;apply aa;refine ab fun K hK=>?_;simp[C.az];apply hK;clear hK K;show AWp _ _ _ _ _;apply ak;refine bm (fun i:Nat=>⟨ofL [(1,.d (shI ks)),(2,.pt (2,0) [] 0),(6,.d (.sh 1 fm0.length (rows lS fm0))),(8,.al (8,0) [] 0 ws.length),(10,.al (10,0) [] 0 i),(11,.int i)],aF [((2,0),some (.bx [D.int m.n,D.int m.r,shI m.d])),((8,0),some (.ow 3 ws.length (rows mO ws))),((10,0),some (.ow 2 i (rows qO ((fq N).take i))))]⟩) (fun i=>i<=N) (fun i=>N - i) 0 (by simp[C.az,rows]) (by simp) ?_;intro x1 hx1 R1 hR1;apply aa;apply aa;refine ab fun K hK=>?_;simp[C.az,hmn,hwn];apply hK;clear hK K;show AWp _ _ _ _ _;refine ap _ rfl (fun hc2=>?_) (fun hc2=>?_)
   ·have hi:x1 < N:=by have:=d_t hc2;omega
    have hun:=jT N x1 (by omega) hi;have hmo:=Cr (ci N x1) 0 (by rw[bq];omega);rw[yL h8,show shI (ci N x1) = .sh 1 N (ints (ci N x1)) by unfold shI;rw[bq]] at hmo;have hsn:=AS ((fq N).take x1) ⟨N,[⟨ci N x1,0,1⟩]⟩;rw[<-hig x1 hi,<-List.take_succ_eq_append_getElem (by omega),hig x1 hi] at hsn;obtain⟨MQ,hMQ⟩:∃ M:Qsm,M=⟨N,[⟨ci N x1,0,1⟩]⟩:=⟨_,rfl⟩;rw[<-hMQ] at hmo hsn;apply au;show AWp _ _ _ _ _;apply aa;apply ak;refine aK ([0,1,2,3,4,5] ++ ([6] ++ ([7,8,9]))) rfl fun K hK=>?_;refine oSg fun L hL=>?_;simp[C.az,bq,hmn,hwn,qO,hsn,show (x1+1)*32<=140737488355328 by omega];refine ae (hun) (by simp[bq,hmn,hwn,qO,hsn,show (x1+1)*32<=140737488355328 by omega]) (by simp) ?_;simp[C.az,bq,hmn,hwn,qO,hsn,show (x1+1)*32<=140737488355328 by omega];apply hL;clear hL L;refine oSg fun L hL=>?_;simp[C.az,bq,hmn,hwn,qO,hsn,show (x1+1)*32<=140737488355328 by omega];refine ae (hmo) (by simp[bq,hmn,hwn,qO,hsn,show (x1+1)*32<=140737488355328 by omega]) (by simp) ?_;simp[C.az,bq,hmn,hwn,qO,hsn,show (x1+1)*32<=140737488355328 by omega];apply hL;clear hL L;refine oEn fun L hL=>?_;simp[C.az,bq,hmn,hwn,qO,hsn,show (x1+1)*32<=140737488355328 by omega];apply hL;clear hL L;simp[C.az,bq,hmn,hwn,qO,hsn,show (x1+1)*32<=140737488355328 by omega];apply hK;clear hK K;show AWp _ _ _ _ _;refine ab fun K hK=>?_;simp[C.az,ay (show x1 < 4611686018427387904 by omega)];apply hK;clear hK K;simp[C.az];refine cast (congrArg R1 ?_) (hR1 (x1+1) hi (by omega));simp[hmn]
   ·have hi:x1=N:=by have:=d_f hc2;omega
    have htk:(fq N).take x1=fq N:=List.take_of_length_le (by omega);rw[htk,hi];apply aZ;show AWp _ _ _ _ _;apply aa;refine ab fun K hK=>?_;simp[C.az];apply hK;clear hK K;show AWp _ _ _ _ _;apply aa;apply aa;refine ab fun K hK=>?_;simp[C.az];apply hK;clear hK K;show AWp _ _ _ _ _;apply ak;refine bm (fun x:Nat×List (List Int)×List Qsm=>⟨ofL [(1,.d (shI ks)),(6,.d (.sh 1 fm0.length (rows lS fm0))),(8,.al (8,0) [] 0 ws.length),(10,.al (10,0) [] 0 N),(12,.d (.sh 1 x.2.1.length (rows lS x.2.1))),(13,.int x.1)],aF [((8,0),some (.ow 3 ws.length (rows mO ws))),((10,0),some (.ow 2 N (rows qO x.2.2)))]⟩) (fun x=>x.1<=ks.length/\fcL m ws ks x.1=some x.2.1/\qvL m ws ks x.1=some x.2.2) (fun x=>ks.length - x.1) (0,fm0,fq N) (by simp[C.az]) ⟨by simp,hc0,hq0⟩ ?_;intro x2 hx2 R2 hR2;obtain⟨t,ft,vs⟩:=x2;obtain⟨ht0,hft,hvq⟩:=hx2;dsimp only at ht0 hft hvq ⊢;apply aa;apply aa;refine ab fun K hK=>?_;simp[C.az];apply hK;clear hK K;show AWp _ _ _ _ _;refine ap _ rfl (fun hc3=>?_) (fun hc3=>?_)
    ·have ht:t < ks.length:=by have:=d_t hc3;omega
     obtain⟨hFJ,j1,j2,j3,j4⟩:=rB hws hm (by omega) hft hvq;have hkb:=w5 t ht;have hkd:ks.getD t 0=ks[t]:=by simp[List.getD_eq_getElem?_getD,ht]
     rw[hkd] at hkb;obtain⟨k,hk⟩:∃ k:Nat,ks[t]=(k:Int):=⟨ks[t].toNat,by omega⟩;have hkn:k < n:=by omega
     have htw:t < ws.length:=by omega
     have hwd:ws.getD t zM=ws[t]:=by simp[List.getD_eq_getElem?_getD,htw]
     rw[hwd] at hFJ;have hnx:qvL m ws ks (t+1)=(exQ fm0 ft (kb ws[t] N k) vs k).map fun Z=>vs.set k Z:=by
      simp only[qvL,hvq,hft];rw[hwd,hkd,hk,Int.toNat_natCast,hN,hfm0]
     have hnf:fcL m ws ks (t+1)=if (mfF ft ws[t] k).2=true then some (mfF ft ws[t] k).1 else none:=by
      simp only[fcL,hft];rw[hwd,hkd,hk]
     have hwl:=so (w4 _ (List.getElem_mem htw));obtain⟨p,hp⟩:∃ p,p=ws[t]:=⟨_,rfl⟩;rw[<-hp] at hFJ hnx hnf hwl;have hpn:p.n=n:=by rw[hFJ.pn];omega
     have hpr:p.r=N:=by rw[hFJ.pr];omega
     have hpS:=hFJ.pok.1;rw[<-hfm0] at j1 j2 j3 j4;have hvl:=j3.len;rw[<-hN] at hvl;have hxe:=sB fm0 ft p n N k vs j2 hFJ.ok j1 j3 hpn hpr hpS hN hkn;rw[GW j2 j1 j3 j4 (by simp[hN]) k] at hxe;have hmf:=JV ft p k (by have:=hFJ.ok.1;omega) hFJ.ok.i64 (by omega);simp only[aM,hpn,hpr] at hmf;obtain⟨o,ho⟩:∃ o,o=exQ fm0 ft (kb p N k) vs k:=⟨_,rfl⟩;obtain⟨G,hG⟩:∃ G,G=mfF ft p k:=⟨_,rfl⟩;rw[<-ho] at hxe hnx;rw[<-hG] at hmf hnf;have hp2:=hp.symm;have hkv:k < vs.length:=by omega
     rw[hvl] at hxe;apply au;show AWp _ _ _ _ _;apply aa;apply ak;apply aa;refine eG (.take 0 (.take 1 (.take 2 (.take 3 (.take 4 (.take 5 (.take 6 (.take 7 (.take 8 (.take 9 (.take 10 (.all [(11,.take 12 (.take 13 (.take 14 (.all [(15,.all [(16,.take 17 (.done))])])))),(15,.all [(11,.take 12 (.take 13 (.take 14 (.all [(16,.take 17 (.done))]))))])])))))))))))) ⟨by kernel_rfl,by kernel_rfl⟩ fun K hK=>?_;have hJ:∀ (X:Qsm) (hX:SmQ X) (hq:∀ q,o=some q->X=q),K ⟨ofL [(1,.d (shI ks)),(6,.d (.sh 1 fm0.length (rows lS fm0))),(8,.al (8,0) [] 0 ws.length),(10,.al (10,0) [] 0 N),(12,.d (.sh 1 ft.length (rows lS ft))),(13,.int t),(14,.pt (14,0) [] 0),(15,.bool o.isSome)],aF [((8,0),some (.ow 3 ws.length (rows mO ws))),((10,0),some (.ow 2 N (rows qO vs))),((14,0),some (.bx [D.int X.v,.ow 3 X.ts.length (rows qtO X.ts)]))]⟩:=by
      intro X hX hq;apply hK;clear hK K;show AWp _ _ _ _ _;apply aa;refine bR [(true,0),(true,1),(true,2),(true,3),(true,4),(true,5),(true,6),(true,7),(true,8),(false,9),(true,10),(true,11),(true,12),(true,13),(true,14)] ⟨by kernel_rfl,by kernel_rfl⟩ ([0,1,2,3,4,5,6,7,8,9] ++ ([10,11,12,13,14])) rfl fun K hK=>?_;refine oSg fun L hL=>?_;simp[C.az,ao,ht,hk,htw,rJ htw,re htw,qG htw,hp2,hpn,hpr,show (t:Int) < ks.length by omega,show (t:Int) < ws.length by omega];refine ae (hmf) (by simp[ao,ht,hk,htw,rJ htw,re htw,qG htw,hp2,hpn,hpr,show (t:Int) < ks.length by omega,show (t:Int) < ws.length by omega]) (by simp) ?_;simp[C.az,ao,ht,hk,htw,rJ htw,re htw,qG htw,hp2,hpn,hpr,show (t:Int) < ks.length by omega,show (t:Int) < ws.length by omega];apply hL;clear hL L;refine oEn fun L hL=>?_;simp[C.az,ao,ht,hk,htw,rJ htw,re htw,qG htw,hp2,hpn,hpr,show (t:Int) < ks.length by omega,show (t:Int) < ws.length by omega];apply hL;clear hL L;simp[C.az,ao,ht,hk,htw,rJ htw,re htw,qG htw,hp2,hpn,hpr,show (t:Int) < ks.length by omega,show (t:Int) < ws.length by omega];apply hK;clear hK K;show AWp _ _ _ _ _;apply aa;apply aa;refine ab fun K hK=>?_;have hJ:K ⟨ofL [(1,.d (shI ks)),(6,.d (.sh 1 fm0.length (rows lS fm0))),(8,.al (8,0) [] 0 ws.length),(10,.al (10,0) [] 0 N),(13,.int t),(14,.pt (14,0) [] 0),(16,.d (.sh 1 G.1.length (rows lS G.1))),(92,.bool (!(o.isSome && G.2)))],aF [((8,0),some (.ow 3 ws.length (rows mO ws))),((10,0),some (.ow 2 N (rows qO vs))),((14,0),some (.bx [D.int X.v,.ow 3 X.ts.length (rows qtO X.ts)]))]⟩:=by
       apply hK;clear hK K;show AWp _ _ _ _ _;refine ap _ rfl (fun hc4=>?_) (fun hc4=>?_)
       ·have hf:qvF m ks=([],false):=by
         unfold qvF;rw[hws];dsimp only
         cases h1:o with
         | none=>
          have h2:qvL m ws ks (t+1)=none:=by rw[hnx,h1];rfl
          rw[zu h2 (by omega)]
          cases fcL m ws ks ks.length <;> rfl
         | some q=>
          rw[h1] at hc4;have h3:G.2=false:=by simpa using hc4
          have h2:fcL m ws ks (t+1)=none:=by rw[hnf,h3];rfl
          rw[lg h2 (by omega)]
        apply aa;refine ab fun K hK=>?_;simp[C.az];apply hK;clear hK K;show AWp _ _ _ _ _;apply aI;simp[C.az,hf,rows]
       ·have hcc:o.isSome=true/\G.2=true:=by
         rw[Bool.not_eq_false',Bool.and_eq_true] at hc4;exact hc4
        obtain⟨Z,hZ⟩:=Option.isSome_iff_exists.1 hcc.1;obtain rfl:=hq Z hZ;rw[hZ] at hnx;rw[if_pos hcc.2] at hnf;have hst:=Br hkv X;apply au;show AWp _ _ _ _ _;apply aa;refine eG (.take 0 (.take 1 (.take 2 (.take 3 (.take 4 (.take 5 (.take 6 (.all [(7,.done)])))))))) ⟨by kernel_rfl,by kernel_rfl⟩ fun K hK=>?_;simp[C.az,ao,ht,hk,hkv,q8 hkv,rt hkv,hvl,show k < N by omega,show (k:Int) < N by omega,show (t:Int) < ks.length by omega,hst];apply hK;clear hK K;show AWp _ _ _ _ _;refine ab fun K hK=>?_;simp[C.az];apply hK;clear hK K;show AWp _ _ _ _ _;refine ab fun K hK=>?_;simp[C.az,ay (show t < 4611686018427387904 by omega)];apply hK;clear hK K;simp[C.az];exact hR2 (t+1,G.1,vs.set k X) ⟨ht,hnf,hnx⟩ (by dsimp only;omega)
      clear hK
      by_cases h1:o.isSome=true
      ·simp[C.az,h1];refine cast (congrArg K ?_) hJ;simp[h1]
      ·simp[C.az,h1,h1];refine cast (congrArg K ?_) hJ;simp[h1]
     clear hK;simp[C.az,ao,ht,hk,htw,rJ htw,re htw,qG htw,hp2,hpn,hpr,show (t:Int) < ks.length by omega,show (t:Int) < ws.length by omega]
     repeat' first
      | (refine fh (OrW.weak hxe) (by simp) (by simp[hp2]) (by simp) ?_;rintro outs res ⟨rfl,X,hX,rfl,hq⟩;simp[C.az,qO])
      | (refine cast (congrArg K ?_) (hJ X hX hq);simp;done)
      | refine And.intro ?_ ?_
    ·have ht:t=ks.length:=by have:=d_f hc3;omega
     have hf:qvF m ks=(vs,true):=by
      unfold qvF;rw[hws];dsimp only;rw[ht] at hvq hft;rw[hft,hvq]
     obtain⟨hFJ,j1,j2,j3,j4⟩:=rB hws hm (by omega) hft hvq;have hvl:vs.length=N:=by rw[j3.len,hN,hfm0]
     apply aZ;show AWp _ _ _ _ _;apply aa;refine ab fun K hK=>?_;simp[C.az];apply hK;clear hK K;show AWp _ _ _ _ _;apply aI;simp[C.az,hf,hvl]
 clear hK
 by_cases h1:(foF m).2=true
 ·simp[C.az,h1];refine cast (congrArg K ?_) hJ;simp[h1]
 ·simp[C.az,h1,h1];refine cast (congrArg K ?_) hJ;simp[h1]
theorem IR (m:Mat) (ks:List Int) (hx:m.d.length < 17592186044416) (hks:ks.length < 4611686018427387904):af Tryz.prog F.az [aM m,.d (shI ks)] [] true (fun outs res=>outs=[]/\res=[.one (.ow 2 (qvF m ks).1.length (rows qO (qvF m ks).1)),.one (D.bool (qvF m ks).2)]):=(nq m ks hx hks).weak1
set_option maxRecDepth 10000
set_option maxHeartbeats 2000000
def fZ:Option Lau->List D
 | none=>[D.int 0,.v (.slice none 0 0)]
 | some f=>fO f
theorem F8 (t:Option Lau):(fZ t).length=2:=by cases t <;> rfl
@[simp] theorem Ku (l:List (Option Lau)):(rows fZ l).length=2*l.length:=cn F8 l
theorem uL (m:Mat) (left:Int) (h0:0<=left) (h1:left<=1048576) (hx:m.d.length < 4611686018427387904):af Tryz.prog F.du [aM m,.int left] [] true (fun outs res=>outs=[]/\∃ r:Int,res=[.one (D.int r)]/\(r=-1\/(0<=r/\r+m.d.length=left))):=by
 refine af.ob (C:=C.du) (n:=Tryz.f23.ntmps) bC bD Tryz.func23 rfl rfl ?_;simp only[Tryz.f23];apply aa;refine ab fun K hK=>?_;simp[C.du];apply hK;clear hK K;show AWp _ _ _ _ _;apply aa;refine aK ([0,1,2,3] ++ ([4])) rfl fun K hK=>?_;refine oSg fun L hL=>?_;simp[C.du];refine fh (xY m.d left h0 h1 hx) (by simp) (by simp) (by simp) ?_;rintro outs res ⟨rfl,r,rfl,hr⟩;simp[C.du];apply hL;clear hL L;refine oEn fun L hL=>?_;simp[C.du];apply hL;clear hL L;simp[C.du];apply hK;clear hK K;show AWp _ _ _ _ _;apply aa;apply aa;refine ab fun K hK=>?_;simp[C.du];apply hK;clear hK K;show AWp _ _ _ _ _;refine ap _ rfl (fun hc1=>?_) (fun hc1=>?_)
 ·apply aa;refine ab fun K hK=>?_;simp[C.du];apply hK;clear hK K;show AWp _ _ _ _ _;apply aI;simp[C.du]
 ·apply au;show AWp _ _ _ _ _;apply aa;refine ab fun K hK=>?_;simp[C.du];apply hK;clear hK K;show AWp _ _ _ _ _;apply aI;simp at hc1;simp[C.du];omega
theorem ui (m:Mat) (hx:m.d.length<=1048576):af Tryz.prog F.dx [aM m] [] true (fun outs res=>outs=[]/\res=[.ag (mO m)]):=by
 refine af.ob (C:=C.dx) (n:=Tryz.f24.ntmps) bC bD Tryz.func24 rfl rfl ?_;simp only[Tryz.f24];apply aa;refine ab fun K hK=>?_;simp[C.dx];apply hK;clear hK K;show AWp _ _ _ _ _;apply aa;refine ab fun K hK=>?_;simp[C.dx];apply hK;clear hK K;show AWp _ _ _ _ _;apply aa;refine ab fun K hK=>?_;simp[C.dx];apply hK;clear hK K;show AWp _ _ _ _ _;apply aa;refine ab fun K hK=>?_;simp[C.dx];apply hK;clear hK K;show AWp _ _ _ _ _;apply aa;refine aK ([0,1,2] ++ ([3,4])) rfl fun K hK=>?_;refine oSg fun L hL=>?_;simp[C.dx];refine ae (pY m.d hx) (by simp) (by simp) ?_;simp[C.dx];apply hL;clear hL L;refine oEn fun L hL=>?_;simp[C.dx];apply hL;clear hL L;simp[C.dx];apply hK;clear hK K;show AWp _ _ _ _ _;apply aa;refine ab fun K hK=>?_;simp[C.dx];apply hK;clear hK K;show AWp _ _ _ _ _;apply aI;simp[C.dx,mO]
end Go.Proofs.YtncfmemhjahpeaaGreat.Ab
namespace Go.Proofs.YtncfmemhjahpeaaGreat.Ab
open Go
set_option maxRecDepth 10000
set_option maxHeartbeats 4000000
def fK (f:Qsm):Nat:=1+cW eR f.ts
def rc (f:Qsm) (k:Int):Qsm:=⟨k,mkL eR nS f.ts (k+1)⟩
theorem FO {l:List Qsm} {i n:Nat} (h:i < l.length) (v:Int) (t:List Qtm) (hn:t.length=n):((rows qO l).set (2*i) (.v (.int .i64 v))).set (2*i+1) (.ow 3 n (rows qtO t))=rows qO (l.set i ⟨v,t⟩):=
 xH ro l i _ _ _ h (by subst hn;rfl)
theorem zc:∀ {l:List Qtm} {n:Nat},(∀ t∈l,t.e.length<=n)->cW eR l<=l.length*(n+2)
 | [],n,_=>by simp[cW]
 | t :: l,n,h=>by
  have h1:=h t (by simp);have h2:=zc (l:=l) fun x hx=>h x (by simp[hx]);simp only[cW,eR,List.length_cons,Nat.add_mul] at h2 ⊢;omega
theorem DP {f:Qsm} (h:aL f):fK f<=6001:=by
 have h1:=zc (l:=f.ts) (n:=8) fun t ht=>by
  have:=(h.2.2.1 t ht).1;have:=h.1;omega
 have h2:=h.2.1;unfold fK;omega
theorem xB:∀ {l:List Qsm},(∀ f∈l,aL f)->cW fK l<=l.length*6001
 | [],_=>by simp[cW]
 | f :: l,h=>by
  have h1:=DP (h f (by simp));have h2:=xB (l:=l) fun x hx=>h x (by simp[hx]);simp only[cW,List.length_cons,Nat.add_mul] at h2 ⊢;omega
theorem C3 {fm0 fm:List (List Int)} {b:List Int} {vs:List Qsm} {k:Nat} {Z:Qsm} (h:exQ fm0 fm b vs k=some Z):aL Z:=by
 unfold exQ at h;split at h
 ·split at h
  ·split at h
   ·rename_i hd;injection h with h
    exact (Aa (r:=Z) (Prod.ext h hd)).1
   ·simp at h
  ·simp at h
 ·simp at h
theorem xb {m:Mat} {ws:List Mat} {ks:List Int} (hN:1<=(foL m).length/\(foL m).length<=8):∀ {t:Nat} {vs:List Qsm},qvL m ws ks t=some vs->vs.length=(foL m).length/\∀ f∈vs,aL f
 | 0,vs,h=>by
  simp only[qvL,Option.some.injEq] at h;subst h;refine⟨by simp[fq],fun f hf=>?_⟩;obtain⟨i,_,rfl⟩:=List.mem_map.1 hf;exact nU hN
 | t+1,vs,h=>by
  simp only[qvL] at h;split at h
  ·rename_i vs0 f0 h0 _;obtain⟨Z,hZ,rfl⟩:=Option.map_eq_some_iff.1 h;obtain⟨a1,a2⟩:=xb hN h0;refine⟨by rw[List.length_set];exact a1,fun f hf=>?_⟩;rcases List.mem_or_eq_of_mem_set hf with hf | rfl
   ·exact a2 f hf
   ·exact C3 hZ
  ·simp at h
theorem GI (m:Mat) (ks:List Int):(qvF m ks).1.length<=8/\∀ f∈(qvF m ks).1,aL f:=by
 unfold qvF;split
 ·simp
 ·rename_i ws hws;split
  ·rename_i f vs hf hv;obtain⟨n,d1,d2,d3,d4⟩:=(mZ hws).1.dim;have hN:(foL m).length=2*n:=by simp[foL];omega
   obtain⟨a1,a2⟩:=xb (by omega) hv;exact⟨by dsimp only;omega,a2⟩
  ·simp
theorem lG (xs ys:List Qsm) (hx:xs.length < 4611686018427387904) (hx2:∀ t∈xs,SmQ t):af Tryz.prog F.cE [.d (.sh 2 xs.length (rows qS xs)),.d (.sh 2 ys.length (rows qS ys))] [] true (fun outs res=>outs=[]/\res=[.one (D.bool (decide (xs=ys)))]):=by
 refine af.ob (C:=C.cE) (n:=Tryz.f26.ntmps) bC bD Tryz.func26 rfl rfl ?_;simp only[Tryz.f26];apply aa;refine ab fun K hK=>?_;simp[C.cE];apply hK;clear hK K;show AWp _ _ _ _ _;apply aa;apply aa;refine ab fun K hK=>?_;simp[C.cE];apply hK;clear hK K;show AWp _ _ _ _ _;refine ap _ rfl (fun hc1=>?_) (fun hc1=>?_)
 ·apply aa;refine ab fun K hK=>?_;simp[C.cE];apply hK;clear hK K;show AWp _ _ _ _ _;apply aI;simp at hc1;simp[C.cE];intro e;simp[e] at hc1
 ·apply au;show AWp _ _ _ _ _;apply aa;apply aa;refine ab fun K hK=>?_;simp[C.cE];apply hK;clear hK K;show AWp _ _ _ _ _;apply ak;have e:xs.length=ys.length:=by simp at hc1;omega
  refine bm (fun k:Nat=>⟨ofL [(0,.d (.sh 2 xs.length (rows qS xs))),(1,.d (.sh 2 ys.length (rows qS ys))),(5,FV.int k)],aF []⟩) (fun k=>k<=xs.length/\xs.take k=ys.take k) (fun k=>xs.length - k) 0 (by simp[C.cE]) (by simp) ?_;intro x1 hx1 R1 hR1;obtain⟨hk,ht⟩:=hx1;apply aa;apply aa;refine ab fun K hK=>?_;simp[C.cE];apply hK;clear hK K;show AWp _ _ _ _ _;refine ap _ rfl (fun hc2=>?_) (fun hc2=>?_)
  ·apply au;show AWp _ _ _ _ _;apply aa;apply ak;apply aa;have h1:x1 < xs.length:=by simpa using hc2
   have h2:x1 < ys.length:=by omega
   refine bR [(true,0),(true,1),(true,2),(true,3),(true,4),(true,5),(true,6),(true,7),(false,8),(true,9)] ⟨by kernel_rfl,by kernel_rfl⟩ ([0,1,2,3,4,5,6,7,8] ++ ([9])) rfl fun K hK=>?_;refine oSg fun L hL=>?_;simp[C.cE,h1,h2,gL h1,gJ h1,gL h2,gJ h2];refine ae (xZ xs[x1] ys[x1] (hx2 _ (List.getElem_mem h1)).1 (hx2 _ (List.getElem_mem h1)).2) (by simp) (by simp) ?_;simp[C.cE,h1,h2,gL h1,gJ h1,gL h2,gJ h2];apply hL;clear hL L;refine oEn fun L hL=>?_;simp[C.cE,h1,h2,gL h1,gJ h1,gL h2,gJ h2];apply hL;clear hL L;simp[C.cE,h1,h2,gL h1,gJ h1,gL h2,gJ h2];apply hK;clear hK K;show AWp _ _ _ _ _;refine ap _ rfl (fun hc3=>?_) (fun hc3=>?_)
   ·apply aa;refine ab fun K hK=>?_;simp[C.cE];apply hK;clear hK K;show AWp _ _ _ _ _;apply aI;simp at hc3;simp[C.cE];intro e;simp[e] at hc3
   ·apply au;show AWp _ _ _ _ _;refine ab fun K hK=>?_;simp[C.cE,ay (show x1 < 4611686018427387904 by omega)];apply hK;clear hK K;simp[C.cE];simp at hc3;refine hR1 (x1+1) ⟨h1,?_⟩ (by omega);rw[List.take_succ_eq_append_getElem h1,List.take_succ_eq_append_getElem h2,ht,hc3]
  ·apply aZ;show AWp _ _ _ _ _;apply aa;refine ab fun K hK=>?_;simp[C.cE];apply hK;clear hK K;show AWp _ _ _ _ _;apply aI;have hk2:x1=xs.length:=by simp at hc2;omega
   simp[C.cE];rw[hk2,List.take_length,e,List.take_length] at ht;exact ht
theorem tD (fs:List Qsm) (k:Int) (hk0:0<=k) (hk:k+cW fK fs < 4611686018427387904) (hx:fs.length < 4611686018427387904) (hx2:∀ f∈fs,SmQ f):af Tryz.prog F.cC [.al (0,0) [] 0 fs.length,.int k] [((0,0),.ow 2 fs.length (rows qO fs))] true (fun outs res=>outs=[.ow 2 fs.length (rows qO (mkL fK rc fs k))]/\res=[.one (D.int (k+cW fK fs))]):=by
 refine af.ob (C:=C.cC) (n:=Tryz.f31.ntmps) bC bD Tryz.func31 rfl rfl ?_;simp only[Tryz.f31];apply aa;refine ab fun K hK=>?_;simp[C.cC];apply hK;clear hK K;show AWp _ _ _ _ _;apply aa;apply aa;refine ab fun K hK=>?_;simp[C.cC];apply hK;clear hK K;show AWp _ _ _ _ _;apply ak;refine bm (fun x:Nat×List Qsm×Int=>⟨ofL [(0,.al (0,0) [] 0 fs.length),(1,.int x.2.2),(5,.int x.1),(1000,.al (0,0) [] 0 fs.length)],aF [((0,0),some (.ow 2 fs.length (rows qO x.2.1)))]⟩) (fun x=>x.1<=fs.length/\x.2.1=mkL fK rc (fs.take x.1) k ++ fs.drop x.1/\x.2.2=k+cW fK (fs.take x.1)) (fun x=>fs.length - x.1) (0,fs,k) (by simp[C.cC]) (by simp[mkL,cW]) ?_;intro x1 hx1 R1 hR1;obtain⟨j,gs,kk⟩:=x1;obtain⟨h0,hg,he⟩:=hx1;dsimp only at h0 hg he ⊢;apply aa;apply aa;refine ab fun K hK=>?_;simp[C.cC];apply hK;clear hK K;show AWp _ _ _ _ _;refine ap _ rfl (fun hc1=>?_) (fun hc1=>?_)
 ·apply au;show AWp _ _ _ _ _;apply aa;apply ak;apply aa;have h1:j < fs.length:=by simpa using hc1
  have hl:gs.length=fs.length:=by rw[hg];simp;omega
  have h2:j < gs.length:=by omega
  have hge:gs[j]=fs[j]:=by
   have:=zX fK rc fs k j h1;rw[<-hg,List.getElem?_eq_getElem h2] at this;injection this
  have hb:=pz fK fs j h1;have hcj:fK fs[j]=1+cW eR fs[j].ts:=rfl;refine ab fun K hK=>?_;simp[C.cC,hl,h1,h2,hge,q8 h2,rt h2];apply hK;clear hK K;show AWp _ _ _ _ _;apply aa;refine ab fun K hK=>?_;simp[C.cC];rw[aj (x:=kk+1) (by omega) (by omega)];apply hK;clear hK K;show AWp _ _ _ _ _;refine aK ([0,1,2,3,4,5,6] ++ ([7])) rfl fun K hK=>?_;refine oSg fun L hL=>?_;simp[C.cC,hl,h1,h2,hge,q8 h2,rt h2,cB];refine ae (sG fs[j].ts (kk+1) (by omega) (by omega) (hx2 _ (List.getElem_mem h1)).1) (by simp) (by simp) ?_;simp[C.cC,hl,h1,h2,hge,q8 h2,rt h2,cB];apply hL;clear hL L;refine oEn fun L hL=>?_;simp[C.cC,hl,h1,h2,hge,q8 h2,rt h2,cB];apply hL;clear hL L;simp[C.cC,hl,h1,h2,hge,q8 h2,rt h2,cB];apply hK;clear hK K;show AWp _ _ _ _ _;refine ab fun K hK=>?_;simp[C.cC,ay (show j < 4611686018427387904 by omega)];apply hK;clear hK K;simp[C.cC];rw[FO h2 _ _ (by simp)];refine hR1 (j+1,_,_) ⟨h1,?_,?_⟩ (by dsimp only;omega)
  ·dsimp only;rw[hg,he];exact yx fK rc fs k j h1
  ·dsimp only;rw[lV _ _ _ h1];omega
 ·apply aZ;show AWp _ _ _ _ _;apply aa;refine ab fun K hK=>?_;simp[C.cC];apply hK;clear hK K;show AWp _ _ _ _ _;apply aI;have hj2:j=fs.length:=by simp at hc1;omega
  simp[C.cC,hj2,hg,he]
theorem m8 (fs:List Qsm) (k:Int) (hk0:0<=k) (hk:k+cW fK fs < 4611686018427387904) (hx:fs.length < 4611686018427387904) (hx2:∀ f∈fs,SmQ f):af Tryz.prog F.cw [.d (.sh 2 fs.length (rows qS (mkL fK rc fs k))),.int k] [] true (fun outs res=>outs=[]/\res=[.one (D.int (k+cW fK fs))]):=by
 refine af.ob (C:=C.cw) (n:=Tryz.f32.ntmps) bC bD Tryz.func32 rfl rfl ?_;simp only[Tryz.f32];apply aa;refine ab fun K hK=>?_;simp[C.cw];apply hK;clear hK K;show AWp _ _ _ _ _;apply aa;apply aa;refine ab fun K hK=>?_;simp[C.cw];apply hK;clear hK K;show AWp _ _ _ _ _;apply ak;refine bm (fun x:Nat×Int=>⟨ofL [(0,.d (.sh 2 fs.length (rows qS (mkL fK rc fs k)))),(1,.int x.2),(5,.int x.1)],aF []⟩) (fun x=>x.1<=fs.length/\x.2=k+cW fK (fs.take x.1)) (fun x=>fs.length - x.1) (0,k) (by simp[C.cw]) (by simp[cW]) ?_;intro x1 hx1 R1 hR1;obtain⟨j,kk⟩:=x1;obtain⟨h0,he⟩:=hx1;dsimp only at h0 he ⊢;apply aa;apply aa;refine ab fun K hK=>?_;simp[C.cw];apply hK;clear hK K;show AWp _ _ _ _ _;refine ap _ rfl (fun hc1=>?_) (fun hc1=>?_)
 ·apply au;show AWp _ _ _ _ _;apply aa;apply ak;apply aa;apply aa;have h1:j < fs.length:=by simpa using hc1
  have h2:j < (mkL fK rc fs k).length:=by simpa using h1
  have hge:(mkL fK rc fs k)[j]=⟨kk,mkL eR nS fs[j].ts (kk+1)⟩:=by
   rw[yC _ _ _ _ _ h1,he];rfl
  have hb:=pz fK fs j h1;have hcj:fK fs[j]=1+cW eR fs[j].ts:=rfl;refine ab fun K hK=>?_;simp[C.cw,h1,h2,hge,gL h2,gJ h2];apply hK;clear hK K;show AWp _ _ _ _ _;refine ap _ rfl (fun hc2=>?_) (fun hc2=>?_)
  ·simp at hc2
  ·apply au;show AWp _ _ _ _ _;apply aa;refine ab fun K hK=>?_;simp[C.cw];rw[aj (x:=kk+1) (by omega) (by omega)];apply hK;clear hK K;show AWp _ _ _ _ _;apply aa;refine aK ([0,1,2,3,4,5,6] ++ ([7])) rfl fun K hK=>?_;refine oSg fun L hL=>?_;simp[C.cw,h1,h2,hge,gL h2,gJ h2];refine ae (sD fs[j].ts (kk+1) (by omega) (by omega) (hx2 _ (List.getElem_mem h1)).1) (by simp) (by simp) ?_;simp[C.cw,h1,h2,hge,gL h2,gJ h2];apply hL;clear hL L;refine oEn fun L hL=>?_;simp[C.cw,h1,h2,hge,gL h2,gJ h2];apply hL;clear hL L;simp[C.cw,h1,h2,hge,gL h2,gJ h2];apply hK;clear hK K;show AWp _ _ _ _ _;apply aa;refine ab fun K hK=>?_;simp[C.cw];apply hK;clear hK K;show AWp _ _ _ _ _;refine ap _ rfl (fun hc3=>?_) (fun hc3=>?_)
   ·simp at hc3;omega
   ·apply au;show AWp _ _ _ _ _;refine ab fun K hK=>?_;simp[C.cw,ay (show j < 4611686018427387904 by omega)];apply hK;clear hK K;simp[C.cw];refine hR1 (j+1,_) ⟨h1,?_⟩ (by dsimp only;omega);dsimp only;rw[lV _ _ _ h1];omega
 ·apply aZ;show AWp _ _ _ _ _;apply aa;refine ab fun K hK=>?_;simp[C.cw];apply hK;clear hK K;show AWp _ _ _ _ _;apply aI;have hj2:j=fs.length:=by simp at hc1;omega
  simp[C.cw,hj2,he]
theorem kA (m:Mat) (s2:m.d.length < 17592186044416) (ks:List Int) (k1:ks.length < 4611686018427387904):af Tryz.prog F.ac [aM m,.d (shI ks)] [] true (fun outs res=>outs=[]/\res=[.one (D.bool true)]):=by
 have hgs:=GI m ks;have hw:=IR m ks s2 k1;have hg:=HJ m ks s2 k1;generalize qvF m ks=g at hgs hw hg;obtain⟨g,b⟩:=g;have hg0:g.length < 4611686018427387904:=by have:=hgs.1;dsimp only at this;omega
 have hg1:∀ f∈g,SmQ f:=fun f hf=>gF (hgs.2 f hf);have hg2:cW fK g<=100000:=by
  have h1:=xB hgs.2;have h2:=hgs.1;dsimp only at h1 h2;omega
 dsimp only at hw hg;refine af.ob (C:=C.ac) (n:=Tryz.f5.ntmps) bC bD Tryz.func5 rfl rfl ?_;simp only[Tryz.f5];apply aa;refine ab fun K hK=>?_;simp[C.ac,mO,mS];apply hK;clear hK K;show AWp _ _ _ _ _;apply aa;apply aa;refine ab fun K hK=>?_;simp[C.ac,mO,mS];apply hK;clear hK K;show AWp _ _ _ _ _;refine ap _ rfl (fun hc1=>?_) (fun hc1=>?_)
 ·apply aa;refine ab fun K hK=>?_;simp[C.ac,mO,mS];apply hK;clear hK K;show AWp _ _ _ _ _;apply aI;simp[C.ac,mO,mS]
 ·have kl:ks.length<=1048576:=by have:=d_f hc1;omega
  apply au;show AWp _ _ _ _ _;apply aa;refine ab fun K hK=>?_;simp[C.ac,mO,mS];apply hK;clear hK K;show AWp _ _ _ _ _;apply aa;refine aK ([0,1,2] ++ ([3])) rfl fun K hK=>?_;refine oSg fun L hL=>?_;simp[C.ac,mO,mS];refine fh (uL m 1048576 (by omega) (by omega) (by omega)) (by simp) (by simp) (by simp) ?_;rintro outs res ⟨rfl,r1,rfl,hr1⟩;simp[C.ac,mO,mS];apply hL;clear hL L;refine oEn fun L hL=>?_;simp[C.ac,mO,mS];apply hL;clear hL L;simp[C.ac,mO,mS];apply hK;clear hK K;show AWp _ _ _ _ _;apply aa;apply aa;refine ab fun K hK=>?_;simp[C.ac,mO,mS];apply hK;clear hK K;show AWp _ _ _ _ _;refine ap _ rfl (fun hc2=>?_) (fun hc2=>?_)
  ·apply aa;refine ab fun K hK=>?_;simp[C.ac,mO,mS];apply hK;clear hK K;show AWp _ _ _ _ _;apply aI;simp[C.ac,mO,mS]
  ·have q1:0<=r1:=by have:=d_f hc2;omega
   have ml:m.d.length<=1048576:=by omega
   have htm:=ui m ml;have hti:=pY ks kl;apply au;show AWp _ _ _ _ _;apply aa;refine aK ([0,1] ++ ([2,3] ++ ([4] ++ ([5,6,7,8,9])))) rfl fun K hK=>?_;refine oSg fun L hL=>?_;simp[C.ac,mO,mS];refine ae (htm) (by simp) (by simp) ?_;simp[C.ac,mO,mS];apply hL;clear hL L;refine oSg fun L hL=>?_;simp[C.ac,mO,mS];refine ae (hti) (by simp) (by simp) ?_;simp[C.ac,mO,mS];apply hL;clear hL L;refine oSg fun L hL=>?_;simp[C.ac,mO,mS];refine ae (hw) (by simp) (by simp) ?_;simp[C.ac,mO,mS];apply hL;clear hL L;refine oEn fun L hL=>?_;simp[C.ac,mO,mS];apply hL;clear hL L;simp[C.ac,mO,mS];apply hK;clear hK K;show AWp _ _ _ _ _;apply aa;refine aK ([0,1] ++ ([2,3])) rfl fun K hK=>?_;refine oSg fun L hL=>?_;simp[C.ac,mO,mS];refine ae (htm) (by simp) (by simp) ?_;simp[C.ac,mO,mS];apply hL;clear hL L;refine oEn fun L hL=>?_;simp[C.ac,mO,mS];apply hL;clear hL L;simp[C.ac,mO,mS];apply hK;clear hK K;show AWp _ _ _ _ _;apply aa;refine aK ([0,1] ++ ([2])) rfl fun K hK=>?_;refine oSg fun L hL=>?_;simp[C.ac,mO,mS];refine ae (hti) (by simp) (by simp) ?_;simp[C.ac,mO,mS];apply hL;clear hL L;refine oEn fun L hL=>?_;simp[C.ac,mO,mS];apply hL;clear hL L;simp[C.ac,mO,mS];apply hK;clear hK K;show AWp _ _ _ _ _;apply aa;refine aK ([0,1,2] ++ ([3,4,5,6,7])) rfl fun K hK=>?_;refine oSg fun L hL=>?_;simp[C.ac,mO,mS];refine ae (hg) (by simp) (by simp) ?_;simp[C.ac,mO,mS];apply hL;clear hL L;refine oEn fun L hL=>?_;simp[C.ac,mO,mS];apply hL;clear hL L;simp[C.ac,mO,mS];apply hK;clear hK K;show AWp _ _ _ _ _;apply aa;apply aa;refine aK ([0,1,2] ++ ([3,4,5,6,7,8])) rfl fun K hK=>?_;refine oSg fun L hL=>?_;simp[C.ac,mO,mS];refine ae (lG g g hg0 hg1) (by simp) (by simp) ?_;simp[C.ac,mO,mS];apply hL;clear hL L;refine oEn fun L hL=>?_;simp[C.ac,mO,mS];apply hL;clear hL L;simp[C.ac,mO,mS];apply hK;clear hK K;show AWp _ _ _ _ _;refine ap _ rfl (fun hc3=>?_) (fun hc3=>?_)
   ·simp at hc3
   ·apply au;show AWp _ _ _ _ _;apply aa;apply aa;refine bR [(true,0),(true,1),(false,2),(false,3),(true,4)] ⟨by kernel_rfl,by kernel_rfl⟩ ([0,1,2] ++ ([3] ++ ([4]))) rfl fun K hK=>?_;refine oSg fun L hL=>?_;simp[C.ac,mO,mS];refine ae (htm) (by simp) (by simp) ?_;simp[C.ac,mO,mS];apply hL;clear hL L;refine oSg fun L hL=>?_;simp[C.ac,mO,mS];refine ae (vC m m (by omega)) (by simp) (by simp) ?_;simp[C.ac,mO,mS];apply hL;clear hL L;refine oEn fun L hL=>?_;simp[C.ac,mO,mS];apply hL;clear hL L;simp[C.ac,mO,mS];apply hK;clear hK K;show AWp _ _ _ _ _;refine ap _ rfl (fun hc4=>?_) (fun hc4=>?_)
    ·simp at hc4
    ·apply au;show AWp _ _ _ _ _;apply aa;apply aa;refine aK ([0,1,2] ++ ([3] ++ ([4]))) rfl fun K hK=>?_;refine oSg fun L hL=>?_;simp[C.ac,mO,mS];refine ae (hti) (by simp) (by simp) ?_;simp[C.ac,mO,mS];apply hL;clear hL L;refine oSg fun L hL=>?_;simp[C.ac,mO,mS];refine ae (me ks ks k1) (by simp) (by simp) ?_;simp[C.ac,mO,mS];apply hL;clear hL L;refine oEn fun L hL=>?_;simp[C.ac,mO,mS];apply hL;clear hL L;simp[C.ac,mO,mS];apply hK;clear hK K;show AWp _ _ _ _ _;refine ap _ rfl (fun hc5=>?_) (fun hc5=>?_)
     ·simp at hc5
     ·apply au;show AWp _ _ _ _ _;apply aa;refine ab fun K hK=>?_;simp[C.ac,mO,mS];apply hK;clear hK K;show AWp _ _ _ _ _;apply aa;refine aK ([0,1,2] ++ ([3])) rfl fun K hK=>?_;refine oSg fun L hL=>?_;simp[C.ac,mO,mS];refine ae (sA m 1 (by omega) (by omega)) (by simp) (by simp) ?_;simp[C.ac,mO,mS];apply hL;clear hL L;refine oEn fun L hL=>?_;simp[C.ac,mO,mS];apply hL;clear hL L;simp[C.ac,mO,mS];apply hK;clear hK K;show AWp _ _ _ _ _;apply aa;refine aK ([0,1,2] ++ ([3])) rfl fun K hK=>?_;refine oSg fun L hL=>?_;simp[C.ac,mO,mS];refine ae (kW ks ((1:Int)+(m.d.length:Nat)) (by omega) (by omega)) (by simp) (by simp) ?_;simp[C.ac,mO,mS];apply hL;clear hL L;refine oEn fun L hL=>?_;simp[C.ac,mO,mS];apply hL;clear hL L;simp[C.ac,mO,mS];apply hK;clear hK K;show AWp _ _ _ _ _;apply aa;apply aa;refine aK ([0,1,2,3,4,5] ++ ([6,7,8,9,10,11,12])) rfl fun K hK=>?_;refine oSg fun L hL=>?_;simp[C.ac,mO,mS,show (0:Int)<=(1:Int)+(m.d.length:Nat)+(ks.length:Nat) by omega,show ¬ ((1:Int)+(m.d.length:Nat)+(ks.length:Nat) < 0) by omega];refine ae (lG g g hg0 hg1) (by simp) (by simp) ?_;simp[C.ac,mO,mS,show (0:Int)<=(1:Int)+(m.d.length:Nat)+(ks.length:Nat) by omega,show ¬ ((1:Int)+(m.d.length:Nat)+(ks.length:Nat) < 0) by omega];apply hL;clear hL L;refine oEn fun L hL=>?_;simp[C.ac,mO,mS,show (0:Int)<=(1:Int)+(m.d.length:Nat)+(ks.length:Nat) by omega,show ¬ ((1:Int)+(m.d.length:Nat)+(ks.length:Nat) < 0) by omega];apply hL;clear hL L;simp[C.ac,mO,mS,show (0:Int)<=(1:Int)+(m.d.length:Nat)+(ks.length:Nat) by omega,show ¬ ((1:Int)+(m.d.length:Nat)+(ks.length:Nat) < 0) by omega];apply hK;clear hK K;show AWp _ _ _ _ _;refine ap _ rfl (fun hc6=>?_) (fun hc6=>?_)
      ·simp at hc6
      ·apply au;show AWp _ _ _ _ _;apply aa;refine ab fun K hK=>?_;simp[C.ac,mO,mS];apply hK;clear hK K;show AWp _ _ _ _ _;apply aa;refine aK ([0,1,2] ++ ([3])) rfl fun K hK=>?_;refine oSg fun L hL=>?_;simp[C.ac,mO,mS];refine ae (tD g 1 (by omega) (by omega) hg0 hg1) (by simp) (by simp) ?_;simp[C.ac,mO,mS];apply hL;clear hL L;refine oEn fun L hL=>?_;simp[C.ac,mO,mS];apply hL;clear hL L;simp[C.ac,mO,mS];apply hK;clear hK K;show AWp _ _ _ _ _;apply aa;refine ab fun K hK=>?_;simp[C.ac,mO,mS];apply hK;clear hK K;show AWp _ _ _ _ _;apply aa;refine aK ([0,1,2] ++ ([3])) rfl fun K hK=>?_;refine oSg fun L hL=>?_;simp[C.ac,mO,mS];refine ae (m8 g 1 (by omega) (by omega) hg0 hg1) (by simp) (by simp) ?_;simp[C.ac,mO,mS];apply hL;clear hL L;refine oEn fun L hL=>?_;simp[C.ac,mO,mS];apply hL;clear hL L;simp[C.ac,mO,mS];apply hK;clear hK K;show AWp _ _ _ _ _;apply aa;apply aa;refine ab fun K hK=>?_;simp[C.ac,mO,mS];apply hK;clear hK K;show AWp _ _ _ _ _;refine ap _ rfl (fun hc7=>?_) (fun hc7=>?_)
       ·have:=d_t hc7;omega
       ·apply au;show AWp _ _ _ _ _;apply aa;apply aa;refine ab fun K hK=>?_;simp[C.ac,mO,mS];apply hK;clear hK K;show AWp _ _ _ _ _;refine ap _ rfl (fun hc8=>?_) (fun hc8=>?_)
        ·simp at hc8
        ·apply au;show AWp _ _ _ _ _;apply aa;refine aK ([0,1] ++ ([2,3] ++ ([4] ++ ([5,6,7,8,9])))) rfl fun K hK=>?_;refine oSg fun L hL=>?_;simp[C.ac,mO,mS];refine ae (htm) (by simp) (by simp) ?_;simp[C.ac,mO,mS];apply hL;clear hL L;refine oSg fun L hL=>?_;simp[C.ac,mO,mS];refine ae (hti) (by simp) (by simp) ?_;simp[C.ac,mO,mS];apply hL;clear hL L;refine oSg fun L hL=>?_;simp[C.ac,mO,mS];refine ae (hg) (by simp) (by simp) ?_;simp[C.ac,mO,mS];apply hL;clear hL L;refine oEn fun L hL=>?_;simp[C.ac,mO,mS];apply hL;clear hL L;simp[C.ac,mO,mS];apply hK;clear hK K;show AWp _ _ _ _ _;apply aa;apply aa;refine aK ([0,1,2] ++ ([3,4,5,6,7,8])) rfl fun K hK=>?_;refine oSg fun L hL=>?_;simp[C.ac,mO,mS];refine ae (lG g g hg0 hg1) (by simp) (by simp) ?_;simp[C.ac,mO,mS];apply hL;clear hL L;refine oEn fun L hL=>?_;simp[C.ac,mO,mS];apply hL;clear hL L;simp[C.ac,mO,mS];apply hK;clear hK K;show AWp _ _ _ _ _;refine ap _ rfl (fun hc9=>?_) (fun hc9=>?_)
         ·simp at hc9
         ·apply au;show AWp _ _ _ _ _;apply aa;refine ab fun K hK=>?_;simp[C.ac,mO,mS];apply hK;clear hK K;show AWp _ _ _ _ _;apply aa;refine aK ([0,1,2] ++ ([3])) rfl fun K hK=>?_;refine oSg fun L hL=>?_;simp[C.ac,mO,mS];refine ae (m8 g 1 (by omega) (by omega) hg0 hg1) (by simp) (by simp) ?_;simp[C.ac,mO,mS];apply hL;clear hL L;refine oEn fun L hL=>?_;simp[C.ac,mO,mS];apply hL;clear hL L;simp[C.ac,mO,mS];apply hK;clear hK K;show AWp _ _ _ _ _;apply aa;apply aa;refine ab fun K hK=>?_;simp[C.ac,mO,mS];apply hK;clear hK K;show AWp _ _ _ _ _;refine ap _ rfl (fun hc10=>?_) (fun hc10=>?_)
          ·have:=d_t hc10;omega
          ·apply au;show AWp _ _ _ _ _;apply aa;apply aa;refine ab fun K hK=>?_;simp[C.ac,mO,mS];apply hK;clear hK K;show AWp _ _ _ _ _;refine ap _ rfl (fun hc11=>?_) (fun hc11=>?_)
           ·simp at hc11
           ·apply au;show AWp _ _ _ _ _;apply aa;refine ab fun K hK=>?_;simp[C.ac,mO,mS];apply hK;clear hK K;show AWp _ _ _ _ _;apply aI;simp[C.ac,mO,mS]
open Go Go.ChangeShapes Go.WideShapes Go.ChangeAt Go.RowKit
set_option maxRecDepth 100000
section
variable {H:Type} {enc:TypeId×Value->H} {W:World}
def zj (m:Mat):Prop:=Ae m.n/\Ae m.r/\yh m.d
theorem H5:fW enc Tryz.prog W 56 3 Mat mS zj:=
 (fW.struct3 B4 B4 CR Tryz.underlying56 ⟨rfl,rfl⟩ ⟨rfl,rfl⟩ ⟨rfl,rfl⟩ (by kernel_rfl)).to (fun a=>⟨a.1,a.2.1,a.2.2⟩) (fun a=>rfl) (fun _=>rfl) (fun _ h=>⟨h.1,h.2.1,h.2.2⟩)
theorem argMat:Arg enc Tryz.prog W 56 Mat (fun m=>.ag ((mS m).map .d)) zj:=Arg.agg H5 (by kernel_rfl) (of_decide_eq_true (by kernel_rfl)) Tryz.underlying56
theorem zj.small {m:Mat} (h:zj m):m.d.length < 17592186044416:=by
 have:=h.2.2.2;omega
end
end Go.Proofs.YtncfmemhjahpeaaGreat.Ab
namespace Go.Proofs.YtncfmemhjahpeaaGreat.Ab
open Go
theorem lawQv (m:Mat) (h:zj m) (ks:List Int) (hk:yh ks):af Tryz.prog F.ac [aM m,.d (shI ks)] [] true (fun outs res=>outs=[]/\res=[.one (D.bool true)]):=kA m h.small ks (by have:=hk.2;omega)
end Go.Proofs.YtncfmemhjahpeaaGreat.Ab
