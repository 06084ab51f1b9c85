/- What a form makes of two lists of exponents; what fits a form. Quantum terms in order: segments, merging, those of one key added, the empty ones left out. The reference's gathering of quantum terms: in order, those of one key added, the empty ones left out. The reference's sums of quantum sums. Products of quantum sums: the reference's. Maps that hold quantum sums: keys of nine numbers. The program's building of quantum sums, over a sort. The sort of quantum terms, greatest first, at this program. Products of quantum sums: the program's. Division of quantum sums: the keys, what two ways to test lead to. Quantum division: what a step keeps; the greatest key of a map. The sum that a quantum sum becomes with 1 in place of q: the reference's, the program's. Sums of numbers. Quantum sums: brackets, sums, 1 over q, 1 in place of q. All that the law of the quantum torus asks of drawn sums. Quantum sums: what was multiplied is found again by division; what is divided is multiplied again. What a matrix of small entries is: its shape and its factors, at the first session's matrix. Factors of a matrix by fractions: what holds along the search. Factors of a matrix by pieces: what holds along the search. Matrices that are right, their least factors, mutation. The factors of a matrix, by the program. Matrices that are right, mutation of a matrix, by the program. The reference's sums of sums. Division: the law over both sides. Seeds that are right; what mutation of a seed is; the program's side. The exchange at a seed and mutation of a seed, by the program. Mutation of a seed along a list, by the program. A seed that is mutated twice at one place. Principal matrices along steps; what the polynomials are. Forms that belong to matrices: how both mutate. Forms as lists; forms along steps. No condition. -/
import Derived.Test.YtncfmemhjahpeaaGreatKqvc
import Derived.Shelf.SlSortCmp.NoneTotal
import Derived.Test.YtncfmemhjahpeaaGreatKqvb
set_option linter.unusedVariables false
set_option linter.unusedSimpArgs false
set_option linter.unusedSectionVars false
namespace Go.Proofs.YtncfmemhjahpeaaGreat.Ab
open Go
set_option maxRecDepth 10000
set_option maxHeartbeats 2000000
def sm (f:Nat->Int):Nat->Int
 | 0=>0
 | n+1=>sm f n+f n
theorem mE {f:Nat->Int} {M:Nat}:∀ n,(∀ i,i < n->(f i).natAbs<=M)->(sm f n).natAbs<=n*M
 | 0,_=>by simp[sm]
 | n+1,h=>by
  have h1:=mE n fun i hi=>h i (by omega);have h2:=h n (by omega);simp only[sm,Nat.add_mul,Nat.one_mul];omega
theorem bT {f g:Nat->Int}:∀ n,(∀ i,i < n->f i=g i)->sm f n=sm g n
 | 0,_=>rfl
 | n+1,h=>by
  simp only[sm];rw[bT n fun i hi=>h i (by omega),h n (by omega)]
def skT (fm:List (List Int)) (a b:List Int) (i j:Nat):Int:=a.getD i 0*at2 fm i j*b.getD j 0
def skR (fm:List (List Int)) (a b:List Int) (i:Nat):Int:=sm (skT fm a b i) fm.length
def skw (fm:List (List Int)) (a b:List Int):Int:=sm (skR fm a b) fm.length
structure eJ (fm:List (List Int)) (a b:List Int):Prop where
 ok:bp fm
 la:a.length=fm.length
 lb:b.length=fm.length
 ba:∀ x∈a,-1000<=x/\x<=1000
 bb:∀ x∈b,-1000<=x/\x<=1000
theorem nu {x y:Int} {M N:Nat} (hx:x.natAbs<=M) (hy:y.natAbs<=N):(x*y).natAbs<=M*N:=by
 rw[Int.natAbs_mul];exact Nat.mul_le_mul hx hy
section
variable {fm:List (List Int)} {a b:List Int}
theorem eJ.row (h:eJ fm a b) {i:Nat} (hi:i < fm.length):fm[i].length=fm.length:=by
 have:=h.ok.2.1 i hi
 rwa [i6 hi] at this
theorem eJ.n8 (h:eJ fm a b):fm.length<=8:=by have:=h.ok.1;omega
theorem eJ.ent (h:eJ fm a b) {i j:Nat} (hi:i < fm.length) (hj:j < fm.length):(at2 fm i j).natAbs<=99:=by
 have:=(h.ok.2.2 i hi j hj).1;omega
theorem eJ.ai (h:eJ fm a b) {i:Nat} (hi:i < fm.length):(a.getD i 0).natAbs<=1000:=by
 rw[gO (by rw[h.la];exact hi)];have:=h.ba _ (List.getElem_mem (by rw[h.la];exact hi));omega
theorem eJ.bj (h:eJ fm a b) {j:Nat} (hj:j < fm.length):(b.getD j 0).natAbs<=1000:=by
 rw[gO (by rw[h.lb];exact hj)];have:=h.bb _ (List.getElem_mem (by rw[h.lb];exact hj));omega
theorem eJ.half (h:eJ fm a b) {i j:Nat} (hi:i < fm.length) (hj:j < fm.length):(a.getD i 0*at2 fm i j).natAbs<=99000:=nu (h.ai hi) (h.ent hi hj)
theorem eJ.t (h:eJ fm a b) {i j:Nat} (hi:i < fm.length) (hj:j < fm.length):(skT fm a b i j).natAbs<=99000000:=nu (h.half hi hj) (h.bj hj)
theorem eJ.rowB (h:eJ fm a b) {i j:Nat} (hi:i < fm.length) (hj:j<=fm.length):(sm (skT fm a b i) j).natAbs<=792000000:=by
 have:=mE (f:=skT fm a b i) (M:=99000000) j fun k hk=>h.t hi (by omega);have:=h.n8;omega
theorem eJ.allB (h:eJ fm a b) {i:Nat} (hi:i<=fm.length):(sm (skR fm a b) i).natAbs<=6336000000:=by
 have:=mE (f:=skR fm a b) (M:=792000000) i fun k hk=>h.rowB (by omega) (Nat.le_refl _);have:=h.n8;omega
theorem eJ.bd (h:eJ fm a b):(skw fm a b).natAbs<=6336000000:=h.allB (Nat.le_refl _)
end
theorem jY (fm:List (List Int)) (a b:List Int) (h:eJ fm a b):af Tryz.prog F.cA [.d (.sh 1 fm.length (rows lS fm)),.d (shI a),.d (shI b)] [] true (fun outs res=>outs=[]/\res=[.one (D.int (skw fm a b))]):=by
 have hn8:=h.n8;have hla:=h.la;have hlb:=h.lb;refine af.ob (C:=C.cA) (n:=Tryz.f109.ntmps) bC bD Tryz.func109 rfl rfl ?_;simp only[Tryz.f109];apply aa;refine ab fun K hK=>?_;simp[C.cA];apply hK;clear hK K;show AWp _ _ _ _ _;apply aa;refine ab fun K hK=>?_;simp[C.cA];apply hK;clear hK K;show AWp _ _ _ _ _;apply aa;apply aa;refine ab fun K hK=>?_;simp[C.cA];apply hK;clear hK K;show AWp _ _ _ _ _;apply ak;refine bm (fun x:Nat=>⟨ofL [(0,.d (.sh 1 fm.length (rows lS fm))),(1,.d (shI a)),(2,.d (shI b)),(7,.int (sm (skR fm a b) x)),(8,.int x)],aF []⟩) (fun x=>x<=fm.length) (fun x=>fm.length - x) 0 (by simp[C.cA,sm]) (by simp) ?_;intro x1 hx1 R1 hR1;apply aa;apply aa;refine ab fun K hK=>?_;simp[C.cA];apply hK;clear hK K;show AWp _ _ _ _ _;refine ap _ rfl (fun hc1=>?_) (fun hc1=>?_)
 ·have h1:x1 < fm.length:=by have:=d_t hc1;omega
  have h1a:x1 < a.length:=by omega
  apply au;show AWp _ _ _ _ _;apply aa;apply ak;apply aa;refine ab fun K hK=>?_;simp[C.cA];apply hK;clear hK K;show AWp _ _ _ _ _;apply ak;refine bm (fun x:Nat=>⟨ofL [(0,.d (.sh 1 fm.length (rows lS fm))),(1,.d (shI a)),(2,.d (shI b)),(7,.int (sm (skR fm a b) x1+sm (skT fm a b x1) x)),(8,.int x1),(9,.int x)],aF []⟩) (fun x=>x<=fm.length) (fun x=>fm.length - x) 0 (by simp[C.cA,sm]) (by simp) ?_;intro x2 hx2 R2 hR2;apply aa;apply aa;refine ab fun K hK=>?_;simp[C.cA];apply hK;clear hK K;show AWp _ _ _ _ _;refine ap _ rfl (fun hc2=>?_) (fun hc2=>?_)
  ·have h2:x2 < fm.length:=by have:=d_t hc2;omega
   have h2b:x2 < b.length:=by omega
   have h12:x2 < fm[x1].length:=by rw[h.row h1];exact h2
   have q1:=h.half h1 h2;have q2:=h.t h1 h2;have q3:=h.rowB h1 (show x2<=fm.length by omega);have q4:=h.allB (show x1<=fm.length by omega);have e1:a.getD x1 0=a[x1]:=gO h1a;have e2:b.getD x2 0=b[x2]:=gO h2b;have e3:at2 fm x1 x2=fm[x1][x2]:=l5 h1 h12;have e4:skT fm a b x1 x2=a[x1]*fm[x1][x2]*b[x2]:=by unfold skT;rw[e1,e2,e3]
   rw[e1,e3] at q1;rw[e4] at q2;apply au;show AWp _ _ _ _ _;apply aa;apply ak;refine bR [(true,0),(true,1),(true,2),(true,3),(true,4),(true,5),(true,6),(true,7),(true,8),(true,9),(true,10),(true,11),(true,12),(true,13),(true,14),(true,15),(true,16),(true,17),(true,18),(true,19)] ⟨by kernel_rfl,by kernel_rfl⟩ ([0,1,2,3,4,5,6,7,8,9,10,11,12,13,14,15,16,17,18,19]) rfl fun K hK=>?_;refine oEn fun L hL=>?_;simp[C.cA,h1,h1a,h2b,h12,dI h1,ao];apply hL;clear hL L;simp[C.cA,h1,h1a,h2b,h12,dI h1,ao];rw[aj (x:=a[x1]*fm[x1][x2]) (by omega) (by omega),aj (x:=a[x1]*fm[x1][x2]*b[x2]) (by omega) (by omega),aj (x:=sm (skR fm a b) x1+sm (skT fm a b x1) x2+a[x1]*fm[x1][x2]*b[x2]) (by omega) (by omega)];apply hK;clear hK K;show AWp _ _ _ _ _;refine ab fun K hK=>?_;simp[C.cA,ay (show x2 < 4611686018427387904 by omega)];apply hK;clear hK K;simp[C.cA];refine cast (congrArg R2 ?_) (hR2 (x2+1) h2 (by omega));simp[sm,e4,Int.add_assoc]
  ·have h2:x2=fm.length:=by have:=d_f hc2;omega
   apply aZ;show AWp _ _ _ _ _;refine ab fun K hK=>?_;simp[C.cA,ay (show x1 < 4611686018427387904 by omega)];apply hK;clear hK K;simp[C.cA];refine cast (congrArg R1 ?_) (hR1 (x1+1) h1 (by omega));simp[sm,h2,skR]
 ·have h1:x1=fm.length:=by have:=d_f hc1;omega
  apply aZ;show AWp _ _ _ _ _;apply aa;refine ab fun K hK=>?_;simp[C.cA];apply hK;clear hK K;show AWp _ _ _ _ _;apply aI;simp[C.cA,skw,h1]
theorem iX (fm:List (List Int)) (a b:List Int) (h:eJ fm a b):af Tryz.prog F.cK [.d (.sh 1 fm.length (rows lS fm)),.d (shI a),.d (shI b)] [] true (fun outs res=>outs=[]/\res=[.one (D.int (skw fm a b))]):=by
 have hn8:=h.n8;have hla:=h.la;have hlb:=h.lb;refine af.ob (C:=C.cK) (n:=Tryz.f84.ntmps) bC bD Tryz.func84 rfl rfl ?_;simp only[Tryz.f84];apply aa;refine ab fun K hK=>?_;simp[C.cK];apply hK;clear hK K;show AWp _ _ _ _ _;apply aa;refine ab fun K hK=>?_;simp[C.cK];apply hK;clear hK K;show AWp _ _ _ _ _;apply aa;apply aa;refine ab fun K hK=>?_;simp[C.cK];apply hK;clear hK K;show AWp _ _ _ _ _;apply ak;refine bm (fun x:Nat=>⟨ofL [(1,.d (shI a)),(2,.d (shI b)),(7,.int (sm (skR fm a b) x)),(12,.d (.sh 1 fm.length (rows lS fm))),(13,.int fm.length),(14,.int x)],aF []⟩) (fun x=>x<=fm.length) (fun x=>fm.length - x) 0 (by simp[C.cK,sm]) (by simp) ?_;intro x1 hx1 R1 hR1;apply aa;refine ab fun K hK=>?_;simp[C.cK];apply hK;clear hK K;show AWp _ _ _ _ _;apply aa;refine ap _ rfl (fun hc1=>?_) (fun hc1=>?_)
 ·have h1:x1 < fm.length:=by have:=d_t hc1;omega
  have h1a:x1 < a.length:=by omega
  have hrow:=h.row h1;apply au;show AWp _ _ _ _ _;apply aa;apply ak;apply aa;refine ab fun K hK=>?_;simp[C.cK,h1,dI h1];apply hK;clear hK K;show AWp _ _ _ _ _;apply aa;refine ab fun K hK=>?_;simp[C.cK];apply hK;clear hK K;show AWp _ _ _ _ _;apply ak;refine bm (fun x:Nat=>⟨ofL [(1,.d (shI a)),(2,.d (shI b)),(7,.int (sm (skR fm a b) x1+sm (skT fm a b x1) x)),(8,.int x1),(12,.d (.sh 1 fm.length (rows lS fm))),(13,.int fm.length),(14,.int x1),(19,.d (shI fm[x1])),(20,.int fm.length),(21,.int x)],aF []⟩) (fun x=>x<=fm.length) (fun x=>fm.length - x) 0 (by simp[C.cK,sm,hrow]) (by simp) ?_;intro x2 hx2 R2 hR2;apply aa;refine ab fun K hK=>?_;simp[C.cK];apply hK;clear hK K;show AWp _ _ _ _ _;apply aa;refine ap _ rfl (fun hc2=>?_) (fun hc2=>?_)
  ·have h2:x2 < fm.length:=by have:=d_t hc2;omega
   have h2b:x2 < b.length:=by omega
   have h12:x2 < fm[x1].length:=by rw[h.row h1];exact h2
   have q1:=h.half h1 h2;have q2:=h.t h1 h2;have q3:=h.rowB h1 (show x2<=fm.length by omega);have q4:=h.allB (show x1<=fm.length by omega);have e1:a.getD x1 0=a[x1]:=gO h1a;have e2:b.getD x2 0=b[x2]:=gO h2b;have e3:at2 fm x1 x2=fm[x1][x2]:=l5 h1 h12;have e4:skT fm a b x1 x2=a[x1]*fm[x1][x2]*b[x2]:=by unfold skT;rw[e1,e2,e3]
   rw[e1,e3] at q1;rw[e4] at q2;apply au;show AWp _ _ _ _ _;apply aa;apply ak;apply aa;refine ab fun K hK=>?_;simp[C.cK,ao,h12];apply hK;clear hK K;show AWp _ _ _ _ _;refine bR [(true,0),(true,1),(true,2),(true,3),(true,4),(true,5),(true,6),(true,7),(true,8),(true,9),(true,10),(true,11),(true,12),(true,13)] ⟨by kernel_rfl,by kernel_rfl⟩ ([0,1,2,3,4,5,6,7,8,9,10,11,12,13]) rfl fun K hK=>?_;refine oEn fun L hL=>?_;simp[C.cK,h1,h1a,h2b,ao];apply hL;clear hL L;simp[C.cK,h1,h1a,h2b,ao];rw[aj (x:=a[x1]*fm[x1][x2]) (by omega) (by omega),aj (x:=a[x1]*fm[x1][x2]*b[x2]) (by omega) (by omega),aj (x:=sm (skR fm a b) x1+sm (skT fm a b x1) x2+a[x1]*fm[x1][x2]*b[x2]) (by omega) (by omega)];apply hK;clear hK K;show AWp _ _ _ _ _;refine ab fun K hK=>?_;simp[C.cK,ay (show x2 < 4611686018427387904 by omega)];apply hK;clear hK K;simp[C.cK];refine cast (congrArg R2 ?_) (hR2 (x2+1) h2 (by omega));simp[sm,e4,Int.add_assoc]
  ·have h2:x2=fm.length:=by have:=d_f hc2;omega
   apply aZ;show AWp _ _ _ _ _;refine ab fun K hK=>?_;simp[C.cK,ay (show x1 < 4611686018427387904 by omega)];apply hK;clear hK K;simp[C.cK];refine cast (congrArg R1 ?_) (hR1 (x1+1) h1 (by omega));simp[sm,h2,skR]
 ·have h1:x1=fm.length:=by have:=d_f hc1;omega
  apply aZ;show AWp _ _ _ _ _;apply aa;refine ab fun K hK=>?_;simp[C.cK];apply hK;clear hK K;show AWp _ _ _ _ _;apply aI;simp[C.cK,skw,h1]
theorem ru (fm:List (List Int)) (f g:Qsm) (h0:fm.length < 4611686018427387904) (hI:I64 fm) (hx:f.ts.length < 4611686018427387904) (hxe:∀ t∈f.ts,t.e.length < 4611686018427387904) (hy:g.ts.length < 4611686018427387904) (hye:∀ t∈g.ts,t.e.length < 4611686018427387904):af Tryz.prog F.bF [.d (.sh 1 fm.length (rows lS fm)),aQ f,aQ g] [] true (fun outs res=>outs=[]/\res=[.one (D.bool (decide (bp fm/\aL f/\aL g/\f.v=fm.length/\g.v=fm.length)))]):=by
 refine af.ob (C:=C.bF) (n:=Tryz.f147.ntmps) bC bD Tryz.func147 rfl rfl ?_;simp only[Tryz.f147];apply aa;refine ab fun K hK=>?_;simp[C.bF,qS];apply hK;clear hK K;show AWp _ _ _ _ _;apply aa;refine aK ([0,1] ++ ([2,3,4] ++ ([5,6,7,8] ++ ([9,10,11,12,13,14,15,16,17,18,19,20,21,22,23,24])))) rfl fun K hK=>?_;have hJ:K ⟨ofL [(6,.bool (decide (bp fm/\aL f/\aL g/\f.v=fm.length/\g.v=fm.length)))],aF []⟩:=by
  apply hK;clear hK K;show AWp _ _ _ _ _;apply aI;simp[C.bF,qS]
 clear hK
 by_cases ha:bp fm
 ·by_cases hb:aL f
  ·by_cases hc:aL g
   ·by_cases hd:f.v=fm.length
    ·refine oSg fun L hL=>?_;simp[C.bF,qS,ha,hb,hc,hd];refine ae (d8 fm h0 hI) (by simp) (by simp) ?_;simp[C.bF,qS,ha,hb,hc,hd];apply hL;clear hL L;refine oSg fun L hL=>?_;simp[C.bF,qS,ha,hb,hc,hd];refine ae (cY f hx hxe) (by simp;omega) (by simp) ?_;simp[C.bF,qS,ha,hb,hc,hd];apply hL;clear hL L;refine oSg fun L hL=>?_;simp[C.bF,qS,ha,hb,hc,hd];refine ae (cY g hy hye) (by simp) (by simp) ?_;simp[C.bF,qS,ha,hb,hc,hd];apply hL;clear hL L;refine oEn fun L hL=>?_;simp[C.bF,qS,ha,hb,hc,hd];apply hL;clear hL L;simp[C.bF,qS,ha,hb,hc,hd];refine cast (congrArg K ?_) hJ;simp[kx,qS,ha,hb,hc,hd]
    ·refine oSg fun L hL=>?_;simp[C.bF,qS,ha,hb,hc,hd];refine ae (d8 fm h0 hI) (by simp) (by simp) ?_;simp[C.bF,qS,ha,hb,hc,hd];apply hL;clear hL L;refine oSg fun L hL=>?_;simp[C.bF,qS,ha,hb,hc,hd];refine ae (cY f hx hxe) (by simp) (by simp) ?_;simp[C.bF,qS,ha,hb,hc,hd];apply hL;clear hL L;refine oSg fun L hL=>?_;simp[C.bF,qS,ha,hb,hc,hd];refine ae (cY g hy hye) (by simp) (by simp) ?_;simp[C.bF,qS,ha,hb,hc,hd];apply hL;clear hL L;refine oEn fun L hL=>?_;simp[C.bF,qS,ha,hb,hc,hd];apply hL;clear hL L;simp[C.bF,qS,ha,hb,hc,hd];refine cast (congrArg K ?_) hJ;simp[kx,qS,ha,hb,hc,hd]
   ·refine oSg fun L hL=>?_;simp[C.bF,qS,ha,hb,hc];refine ae (d8 fm h0 hI) (by simp) (by simp) ?_;simp[C.bF,qS,ha,hb,hc];apply hL;clear hL L;refine oSg fun L hL=>?_;simp[C.bF,qS,ha,hb,hc];refine ae (cY f hx hxe) (by simp) (by simp) ?_;simp[C.bF,qS,ha,hb,hc];apply hL;clear hL L;refine oSg fun L hL=>?_;simp[C.bF,qS,ha,hb,hc];refine ae (cY g hy hye) (by simp) (by simp) ?_;simp[C.bF,qS,ha,hb,hc];apply hL;clear hL L;refine oEn fun L hL=>?_;simp[C.bF,qS,ha,hb,hc];apply hL;clear hL L;simp[C.bF,qS,ha,hb,hc];refine cast (congrArg K ?_) hJ;simp[kx,qS,ha,hb,hc]
  ·refine oSg fun L hL=>?_;simp[C.bF,qS,ha,hb];refine ae (d8 fm h0 hI) (by simp) (by simp) ?_;simp[C.bF,qS,ha,hb];apply hL;clear hL L;refine oSg fun L hL=>?_;simp[C.bF,qS,ha,hb];refine ae (cY f hx hxe) (by simp) (by simp) ?_;simp[C.bF,qS,ha,hb];apply hL;clear hL L;refine oSg fun L hL=>?_;simp[C.bF,qS,ha,hb];apply hL;clear hL L;refine oEn fun L hL=>?_;simp[C.bF,qS,ha,hb];apply hL;clear hL L;simp[C.bF,qS,ha,hb];refine cast (congrArg K ?_) hJ;simp[kx,qS,ha,hb]
 ·refine oSg fun L hL=>?_;simp[C.bF,qS,ha];refine ae (d8 fm h0 hI) (by simp) (by simp) ?_;simp[C.bF,qS,ha];apply hL;clear hL L;refine oSg fun L hL=>?_;simp[C.bF,qS,ha];apply hL;clear hL L;refine oSg fun L hL=>?_;simp[C.bF,qS,ha];apply hL;clear hL L;refine oEn fun L hL=>?_;simp[C.bF,qS,ha];apply hL;clear hL L;simp[C.bF,qS,ha];refine cast (congrArg K ?_) hJ;simp[kx,qS,ha]
theorem kY (fm:List (List Int)) (f g:Qsm) (h0:fm.length < 4611686018427387904) (hI:I64 fm) (hx:f.ts.length < 4611686018427387904) (hxe:∀ t∈f.ts,t.e.length < 4611686018427387904) (hy:g.ts.length < 4611686018427387904) (hye:∀ t∈g.ts,t.e.length < 4611686018427387904):af Tryz.prog F.aP [.d (.sh 1 fm.length (rows lS fm)),aQ f,aQ g] [] true (fun outs res=>outs=[]/\res=[.one (D.bool (decide (bp fm/\aL f/\aL g/\f.v=fm.length/\g.v=fm.length)))]):=by
 refine af.ob (C:=C.aP) (n:=Tryz.f86.ntmps) bC bD Tryz.func86 rfl rfl ?_;simp only[Tryz.f86];apply aa;refine ab fun K hK=>?_;simp[C.aP,qS];apply hK;clear hK K;show AWp _ _ _ _ _;apply aa;refine aK ([0,1] ++ ([2,3,4] ++ ([5,6,7,8] ++ ([9,10,11,12,13,14,15,16,17,18,19,20,21,22,23,24])))) rfl fun K hK=>?_;have hJ:K ⟨ofL [(6,.bool (decide (bp fm/\aL f/\aL g/\f.v=fm.length/\g.v=fm.length)))],aF []⟩:=by
  apply hK;clear hK K;show AWp _ _ _ _ _;apply aI;simp[C.aP,qS]
 clear hK
 by_cases ha:bp fm
 ·by_cases hb:aL f
  ·by_cases hc:aL g
   ·by_cases hd:f.v=fm.length
    ·refine oSg fun L hL=>?_;simp[C.aP,qS,ha,hb,hc,hd];refine ae (ed fm h0 hI) (by simp) (by simp) ?_;simp[C.aP,qS,ha,hb,hc,hd];apply hL;clear hL L;refine oSg fun L hL=>?_;simp[C.aP,qS,ha,hb,hc,hd];refine ae (cZ f hx hxe) (by simp;omega) (by simp) ?_;simp[C.aP,qS,ha,hb,hc,hd];apply hL;clear hL L;refine oSg fun L hL=>?_;simp[C.aP,qS,ha,hb,hc,hd];refine ae (cZ g hy hye) (by simp) (by simp) ?_;simp[C.aP,qS,ha,hb,hc,hd];apply hL;clear hL L;refine oEn fun L hL=>?_;simp[C.aP,qS,ha,hb,hc,hd];apply hL;clear hL L;simp[C.aP,qS,ha,hb,hc,hd];refine cast (congrArg K ?_) hJ;simp[kx,qS,ha,hb,hc,hd]
    ·refine oSg fun L hL=>?_;simp[C.aP,qS,ha,hb,hc,hd];refine ae (ed fm h0 hI) (by simp) (by simp) ?_;simp[C.aP,qS,ha,hb,hc,hd];apply hL;clear hL L;refine oSg fun L hL=>?_;simp[C.aP,qS,ha,hb,hc,hd];refine ae (cZ f hx hxe) (by simp) (by simp) ?_;simp[C.aP,qS,ha,hb,hc,hd];apply hL;clear hL L;refine oSg fun L hL=>?_;simp[C.aP,qS,ha,hb,hc,hd];refine ae (cZ g hy hye) (by simp) (by simp) ?_;simp[C.aP,qS,ha,hb,hc,hd];apply hL;clear hL L;refine oEn fun L hL=>?_;simp[C.aP,qS,ha,hb,hc,hd];apply hL;clear hL L;simp[C.aP,qS,ha,hb,hc,hd];refine cast (congrArg K ?_) hJ;simp[kx,qS,ha,hb,hc,hd]
   ·refine oSg fun L hL=>?_;simp[C.aP,qS,ha,hb,hc];refine ae (ed fm h0 hI) (by simp) (by simp) ?_;simp[C.aP,qS,ha,hb,hc];apply hL;clear hL L;refine oSg fun L hL=>?_;simp[C.aP,qS,ha,hb,hc];refine ae (cZ f hx hxe) (by simp) (by simp) ?_;simp[C.aP,qS,ha,hb,hc];apply hL;clear hL L;refine oSg fun L hL=>?_;simp[C.aP,qS,ha,hb,hc];refine ae (cZ g hy hye) (by simp) (by simp) ?_;simp[C.aP,qS,ha,hb,hc];apply hL;clear hL L;refine oEn fun L hL=>?_;simp[C.aP,qS,ha,hb,hc];apply hL;clear hL L;simp[C.aP,qS,ha,hb,hc];refine cast (congrArg K ?_) hJ;simp[kx,qS,ha,hb,hc]
  ·refine oSg fun L hL=>?_;simp[C.aP,qS,ha,hb];refine ae (ed fm h0 hI) (by simp) (by simp) ?_;simp[C.aP,qS,ha,hb];apply hL;clear hL L;refine oSg fun L hL=>?_;simp[C.aP,qS,ha,hb];refine ae (cZ f hx hxe) (by simp) (by simp) ?_;simp[C.aP,qS,ha,hb];apply hL;clear hL L;refine oSg fun L hL=>?_;simp[C.aP,qS,ha,hb];apply hL;clear hL L;refine oEn fun L hL=>?_;simp[C.aP,qS,ha,hb];apply hL;clear hL L;simp[C.aP,qS,ha,hb];refine cast (congrArg K ?_) hJ;simp[kx,qS,ha,hb]
 ·refine oSg fun L hL=>?_;simp[C.aP,qS,ha];refine ae (ed fm h0 hI) (by simp) (by simp) ?_;simp[C.aP,qS,ha];apply hL;clear hL L;refine oSg fun L hL=>?_;simp[C.aP,qS,ha];apply hL;clear hL L;refine oSg fun L hL=>?_;simp[C.aP,qS,ha];apply hL;clear hL L;refine oEn fun L hL=>?_;simp[C.aP,qS,ha];apply hL;clear hL L;simp[C.aP,qS,ha];refine cast (congrArg K ?_) hJ;simp[kx,qS,ha]
end Go.Proofs.YtncfmemhjahpeaaGreat.Ab
namespace Go.Proofs.YtncfmemhjahpeaaGreat.Ab
open Go
section
variable {K:Type} [DecidableEq K] {lt:K->K->Bool}
def q7 (left:List (K×Int)) (x:K×Int):List (K×Int):=
 match left.getLast? with
 | some z=>if z.1=x.1 then left.dropLast ++ [(z.1,z.2+x.2)] else left ++ [x]
 | none=>[x]
def kL (left:List (K×Int)):List (K×Int)->List (K×Int)
 | []=>left
 | x :: r=>kL (q7 left x) r
theorem yZ (q:K) (x:K×Int):co q [x]=if x.1=q then x.2 else 0:=by simp[co]
theorem FK (q:K) (left:List (K×Int)) (x:K×Int):co q (q7 left x)=co q left+co q [x]:=by
 rcases List.eq_nil_or_concat left with rfl | ⟨l,z,rfl⟩
 ·simp[q7,co]
 ·simp only[q7,List.concat_eq_append,List.getLast?_append,List.getLast?_singleton,Option.some_or,List.dropLast_concat];split
  ·rename_i e;rw[eD,eD,yZ,yZ,yZ];simp only;rw[e];split <;> omega
  ·rw[eD (l:=l ++ [z])]
theorem Ad (q:K):∀ (r left:List (K×Int)),co q (kL left r)=co q left+co q r
 | [],left=>by simp[kL,co]
 | x :: r,left=>by
  simp only[kL];have hx:co q (x :: r)=co q [x]+co q r:=by simp[co]
  rw[Ad q r,FK,hx,Int.add_assoc]
theorem vc {l:List (K×Int)} {x:K×Int} (h:dY lt l) (hx:∀ y∈l,lt x.1 y.1=true):dY lt (l ++ [x]):=by
 unfold dY at *
 rw[List.pairwise_append];refine⟨h,List.pairwise_singleton _ _,fun a ha b hb=>?_⟩;simp only[List.mem_singleton] at hb;subst hb;exact hx a ha
theorem mD (ho:Ord lt):∀ (r left:List (K×Int)),(r.Pairwise fun a b=>lt a.1 b.1=false)->dY lt left->(∀ y∈left,∀ z∈r,lt y.1 z.1=false)->dY lt (kL left r)
 | [],left,_,h,_=>h
 | x :: r,left,hs,h,hc=>by
  simp only[kL];obtain⟨hs1,hs2⟩:=List.pairwise_cons.1 hs;rcases List.eq_nil_or_concat left with rfl | ⟨l,z,rfl⟩
  ·refine mD ho r _ hs2 (List.pairwise_singleton _ _) fun y hy z hz=>?_;simp only[q7,List.getLast?_nil,List.mem_singleton] at hy;rw[hy];exact hs1 z hz
  ·simp only[List.concat_eq_append] at h hc ⊢;simp only[q7,List.getLast?_append,List.getLast?_singleton,Option.some_or,List.dropLast_concat];split
   ·rename_i e;refine mD ho r _ hs2 ?_ fun y hy w hw=>?_
    ·refine vc (List.pairwise_append.1 h).1 fun y hy=>?_;exact (List.pairwise_append.1 h).2.2 y hy z (by simp)
    ·rcases List.mem_append.1 hy with hy | hy
     ·exact hc y (by simp[hy]) w (by simp[hw])
     ·simp only[List.mem_singleton] at hy;rw[hy];exact hc z (by simp) w (by simp[hw])
   ·rename_i e;have hzx:lt x.1 z.1=true:=by
     rcases ho.tot x.1 z.1 with q | q | q
     ·exact q
     ·exact absurd q.symm e
     ·rw[hc z (by simp) x (by simp)] at q;simp at q
    refine mD ho r _ hs2 (vc h fun y hy=>?_) fun y hy w hw=>?_
    ·rcases List.mem_append.1 hy with hy | hy
     ·exact ho.tr _ _ _ hzx ((List.pairwise_append.1 h).2.2 y hy z (by simp))
     ·simp only[List.mem_singleton] at hy;rw[hy];exact hzx
    ·rcases List.mem_append.1 hy with hy | hy
     ·exact hc y hy w (by simp[hw])
     ·simp only[List.mem_singleton] at hy;rw[hy];exact hs1 w hw
theorem CW (q:K):∀ (l:List (K×Int)),co q (l.filter fun x=>x.2≠0)=co q l
 | []=>rfl
 | x :: l=>by
  have ih:=CW q l
  by_cases h:x.2=0
  ·rw[List.filter_cons_of_neg (by simp[h]),ih];simp[co,h]
  ·rw[List.filter_cons_of_pos (by simp[h])];simp only[co];rw[ih]
theorem DO (ho:Ord lt) {out l:List (K×Int)} (hp:out.Perm l) (hs:out.Pairwise fun a b=>lt a.1 b.1=false):(kL [] out).filter (fun x=>x.2≠0)=nf lt l:=by
 refine eq ho ?_ ?_ fun k=>?_
 ·exact (mD ho out [] hs List.Pairwise.nil (by simp)).filter _
 ·intro x hx;simpa using (List.mem_filter.1 hx).2
 ·rw[CW,Ad,lu k hp];simp[co]
end
section
variable {α:Type} {le:α->α->Bool}
def sgt (out:List α) (a b:Nat):List α:=(out.drop a).take (b - a)
theorem pD {out:List α} {a b:Nat} (h:a < b) (h2:a < out.length):sgt out a b=out[a] :: sgt out (a+1) b:=by
 unfold sgt;rw[List.drop_eq_getElem_cons h2,show b - a=(b - (a+1))+1 by omega,List.take_succ_cons]
theorem oC {out:List α} {a b:Nat} (h:b<=a):sgt out a b=[]:=by
 unfold sgt;rw[show b - a=0 by omega,List.take_zero]
theorem yV {out:List α} {size at_ k b:Nat} (hr:tF le size out) (ha:at_=size*k) (hb:b=min (at_+size) out.length):(sgt out at_ b).Pairwise fun a b=>le a b=true:=by
 have:=hr k;rw[<-ha] at this;have e:sgt out at_ b=(out.drop at_).take size:=by
  unfold sgt;rw[hb];rcases Nat.le_total (at_+size) out.length with h | h
  ·rw[Nat.min_eq_left h,show at_+size - at_=size by omega]
  ·rw[Nat.min_eq_right h,List.take_of_length_le (by simp),List.take_of_length_le (by simp;omega)]
 rw[e];exact this
theorem zD {out:List α} {a b c:Nat} (h1:a<=b) (h2:b<=c):out.take a ++ (sgt out a b ++ sgt out b c)=out.take c:=by
 unfold sgt;have e1:out.take b=out.take a ++ (out.drop a).take (b - a):=by
  conv=>lhs;rw[show b=a+(b - a) by omega,List.take_add]
 have e2:out.take c=out.take b ++ (out.drop b).take (c - b):=by
  conv=>lhs;rw[show c=b+(c - b) by omega,List.take_add]
 rw[e2,e1,List.append_assoc]
end
def qp (t:Qtm):(List Int×Int)×Int:=(qk t,t.c)
def qt (x:(List Int×Int)×Int):Qtm:=⟨x.1.1,x.1.2,x.2⟩
theorem zW (l:List Qtm):(l.map qp).map qt=l:=by rw[List.map_map];exact List.map_id _
theorem qI (l:List ((List Int×Int)×Int)):(l.map qt).map qp=l:=by rw[List.map_map];exact List.map_id _
def qle (x y:Qtm):Bool:=!qlt (qk x) (qk y)
theorem C2 (a b c:Qtm) (h1:qle a b=true) (h2:qle b c=true):qle a c=true:=by
 simp only[qle,Bool.not_eq_true'] at *
 by_cases h:qlt (qk a) (qk c)=true
 ·rcases c7.tot (qk b) (qk c) with q | q | q
  ·rw[q] at h2;simp at h2
  ·rw[q] at h1;rw[h1] at h;simp at h
  ·rw[c7.tr _ _ _ h q] at h1;simp at h1
 ·simpa using h
theorem Dy (a b:Qtm):(qle a b || qle b a)=true:=by
 simp only[qle,Bool.or_eq_true,Bool.not_eq_true']
 by_cases h:qlt (qk a) (qk b)=true
 ·right
  by_cases h2:qlt (qk b) (qk a)=true
  ·have:=c7.tr _ _ _ h h2;rw[c7.irr] at this;simp at this
  ·simpa using h2
 ·left
  simpa using h
theorem B2 {xs ys:List Qtm} (h1:xs.Pairwise fun a b=>qle a b=true) (h2:ys.Pairwise fun a b=>qle a b=true):(List.merge xs ys qle).Pairwise fun a b=>qle a b=true:=
 List.pairwise_merge C2 Dy xs ys h1 h2
theorem DZ (xs ys:List Qtm):(List.merge xs ys qle).Perm (xs ++ ys):=List.merge_perm_append qle
def jK (left:List Qtm) (x:Qtm):List Qtm:=
 match left.getLast? with
 | some z=>if qk z=qk x then left.dropLast ++ [⟨z.e,z.h,z.c+x.c⟩] else left ++ [x]
 | none=>[x]
theorem FG (left:List Qtm) (x:Qtm):(jK left x).map qp=q7 (left.map qp) (qp x):=by
 rcases List.eq_nil_or_concat left with rfl | ⟨l,z,rfl⟩
 ·rfl
 ·simp only[jK,q7,List.concat_eq_append,List.map_append,List.map_cons,List.map_nil,List.getLast?_append,List.getLast?_singleton,Option.some_or,List.dropLast_concat]
  by_cases e:qk z=qk x
  ·rw[if_pos e,if_pos (show (qp z).1=(qp x).1 from e)];simp[qp,qk]
  ·rw[if_neg e,if_neg (show ¬ (qp z).1=(qp x).1 from e)];simp
def dG (l:List Qtm):Nat:=(l.map fun x=>x.c.natAbs).sum
theorem jc (l r:List Qtm):dG (l ++ r)=dG l+dG r:=by simp[dG]
theorem Cz {l r:List Qtm} (h:l.Perm r):dG l=dG r:=(h.map _).sum_nat
theorem EC {l:List Qtm} {x:Qtm} (h:x∈l):x.c.natAbs<=dG l:=by
 induction l with
 | nil=>simp at h
 | cons y l ih=>
  simp only[dG,List.map_cons,List.sum_cons] at ih ⊢;rcases List.mem_cons.1 h with rfl | h
  ·omega
  ·have:=ih h;omega
theorem rS {l:List Qtm} {B:Nat} (h:∀ x∈l,x.c.natAbs<=B):dG l<=l.length*B:=by
 induction l with
 | nil=>simp[dG]
 | cons x l ih=>
  have h1:=h x (by simp);have h2:=ih fun y hy=>h y (by simp[hy]);simp only[dG,List.map_cons,List.sum_cons,List.length_cons,Nat.add_mul,Nat.one_mul] at h2 ⊢;omega
theorem Cv (left:List Qtm) (x:Qtm):dG (jK left x)<=dG left+x.c.natAbs:=by
 rcases List.eq_nil_or_concat left with rfl | ⟨l,z,rfl⟩
 ·simp[jK,dG]
 ·simp only[jK,List.concat_eq_append,List.getLast?_append,List.getLast?_singleton,Option.some_or,List.dropLast_concat];split
  ·rw[jc,jc];simp only[dG,List.map_cons,List.map_nil,List.sum_cons,List.sum_nil];omega
  ·rw[jc (l:=l ++ [z])];simp[dG]
theorem Dx {l:List Qtm} {q:Nat} {x:Qtm} (hl:l.length=q+1) (e:qk (l[q]'(by omega))=qk x):jK l x=l.set q ⟨(l[q]'(by omega)).e,(l[q]'(by omega)).h,(l[q]'(by omega)).c+x.c⟩:=by
 rcases List.eq_nil_or_concat l with rfl | ⟨l,z,rfl⟩
 ·simp at hl
 ·simp only[List.concat_eq_append] at *
  have hq:q=l.length:=by simp at hl;omega
  subst hq;simp only[List.getElem_concat_length] at e ⊢;simp only[jK,List.getLast?_append,List.getLast?_singleton,Option.some_or,List.dropLast_concat];rw[if_pos e];simp
theorem DX {l:List Qtm} {x:Qtm} (e:∀ z,l.getLast? = some z->¬ qk z=qk x):jK l x=l ++ [x]:=by
 unfold jK
 cases h:l.getLast? with
 | none=>
  rw[List.getLast?_eq_none_iff] at h;simp[h]
 | some z=>simp[e z h]
def gaQ (l:List Qtm):List Qtm:=(nf qlt (l.map qp)).map qt
theorem DL {out l:List Qtm} (hp:out.Perm l) (hs:out.Pairwise fun a b=>qle a b=true):((kL [] (out.map qp)).filter (fun x=>x.2≠0)).map qt=gaQ l:=by
 unfold gaQ;rw[DO c7 (hp.map qp)];rw[List.pairwise_map];refine hs.imp fun {a b} h=>?_;have h2:qlt (qk a) (qk b)=false:=by simpa[qle] using h
 exact h2
end Go.Proofs.YtncfmemhjahpeaaGreat.Ab
namespace Go.Proofs.YtncfmemhjahpeaaGreat.Ab
open Go
set_option maxRecDepth 10000
set_option maxHeartbeats 2000000
def q0:Qtm:=⟨[],0,0⟩
theorem kj {out:List Qtm} {i:Nat} (h:i < out.length):out.getD i q0=out[i]:=by
 simp[List.getD_eq_getElem?_getD,h]
theorem ua (l:List Qtm) (t:Qtm):rows qtS l ++ [shI t.e,D.v (.int .i64 t.h),D.v (.int .i64 t.c)]=rows qtS (l ++ [t]):=by
 rw[dT];rfl
theorem wX:∀ {a b:List D},er a->er b->er (a ++ b)
 | [],_,_,h=>h
 | _ :: _,_,h1,h=>⟨h1.1,wX h1.2 h⟩
@[simp] theorem EM:∀ l:List Qtm,er (rows qtS l)
 | []=>trivial
 | t :: l=>wX (a:=qtS t) ⟨rfl,rfl,rfl,trivial⟩ (EM l)
def mvQ (t:Qtm):List D:=if t.c=0 then qtO t else [.gone,D.int t.h,D.int t.c]
theorem qP (t:Qtm):(mvQ t).length=3:=by unfold mvQ;split <;> rfl
def mvS (S:List Qtm) (k:Nat):List D:=rows mvQ (S.take k) ++ rows qtO (S.drop k)
@[simp] theorem I6 (S:List Qtm) (k:Nat):(mvS S k).length=3*S.length:=by
 unfold mvS;rw[List.length_append,cn qP,cn gc,List.length_take,List.length_drop];omega
theorem DT (S:List Qtm):mvS S 0=rows qtO S:=by simp[mvS,rows]
theorem v7 {S:List Qtm} {k:Nat} (h:k < S.length) (j:Nat) (hj:j < 3):(mvS S k)[3*k+j]? = (qtO S[k])[j]?:=by
 unfold mvS;have hl:(rows mvQ (S.take k)).length=3*k:=by rw[cn qP,List.length_take];omega
 rw[List.getElem?_append_right (by omega),hl,show 3*k+j - 3*k=3*0+j by omega];rw[dp gc (S.drop k) 0 j (by simp;omega) hj];simp
theorem He {S:List Qtm} {k:Nat} (h:k < S.length):(mvS S k)[3*k]? = some (owI S[k].e)/\∀ h',(mvS S k)[3*k]'h'=owI S[k].e:=fi (v7 h 0 (by omega))
theorem JY {S:List Qtm} {k:Nat} (h:k < S.length):(mvS S k)[3*k+1]? = some (D.int S[k].h)/\∀ h',(mvS S k)[3*k+1]'h'=D.int S[k].h:=fi (v7 h 1 (by omega))
theorem Fd {S:List Qtm} {k:Nat} (h:k < S.length):(mvS S k)[3*k+2]? = some (D.int S[k].c)/\∀ h',(mvS S k)[3*k+2]'h'=D.int S[k].c:=fi (v7 h 2 (by omega))
theorem Ey {S:List Qtm} {k:Nat} (h:k < S.length) (hz:S[k].c=0):mvS S (k+1)=mvS S k:=by
 unfold mvS;rw[List.take_succ_eq_append_getElem h,List.drop_eq_getElem_cons h,dT];simp[rows,mvQ,hz]
theorem D0 {S:List Qtm} {k:Nat} (h:k < S.length) (hz:¬ S[k].c=0):(mvS S k).set (3*k) .gone=mvS S (k+1):=by
 unfold mvS;have hl:(rows mvQ (S.take k)).length=3*k:=by rw[cn qP,List.length_take];omega
 rw[List.set_append_right _ _ (by omega),hl,Nat.sub_self,List.take_succ_eq_append_getElem h,List.drop_eq_getElem_cons h,dT];simp[rows,mvQ,hz,qtO]
theorem jh (l:List Qtm) (hl:l.length<=1000000) (hc:dG l < 4611686018427387904) (he:∀ t∈l,t.e.length<=8):af Tryz.prog F.aD [.d (.sh 3 l.length (rows qtS l))] [] true (fun outs res=>outs=[]/\res=[.one (.ow 3 (gaQ l).length (rows qtO (gaQ l)))]):=by
 refine af.ob (C:=C.aD) (n:=Tryz.f146.ntmps) bC bD Tryz.func146 rfl rfl ?_;simp only[Tryz.f146];apply aa;refine ab fun K hK=>?_;simp[C.aD];apply hK;clear hK K;show AWp _ _ _ _ _;apply aa;refine ab fun K hK=>?_;simp[C.aD,show l.length*40<=140737488355328 by omega];apply hK;clear hK K;show AWp _ _ _ _ _;apply aa;apply aa;refine ab fun K hK=>?_;simp[C.aD];apply hK;clear hK K;show AWp _ _ _ _ _;apply ak;refine bm (fun x:Nat×List Qtm=>⟨ofL [(3,.al (3,0) [] 0 l.length),(4,.int x.1)],aF [((3,0),some (.ow 3 l.length (rows qtS x.2)))]⟩) (fun x=>x.2.Perm l/\tF qle x.1 x.2/\1<=x.1/\x.1<=2*l.length+1) (fun x=>2*l.length+1 - x.1) (1,l) (by simp[C.aD]) ⟨List.Perm.refl _,ES _,by simp,by dsimp only;omega⟩ ?_;intro x1 hx1 R1 hR1;obtain⟨size,out⟩:=x1;obtain⟨hperm,hruns,hs1,hs2⟩:=hx1;dsimp only at hperm hruns hs1 hs2 ⊢;have hol:out.length=l.length:=hperm.length_eq;have hel:∀ t∈out,t.e.length<=8:=fun t ht=>he t (hperm.subset ht);apply aa;apply aa;refine ab fun K hK=>?_;simp[C.aD];apply hK;clear hK K;show AWp _ _ _ _ _;refine ap _ rfl (fun hc1=>?_) (fun hc1=>?_)
 ·have hlt:size < l.length:=by have:=d_t hc1;omega
  apply au;show AWp _ _ _ _ _;apply aa;apply ak;apply aa;refine ab fun K hK=>?_;simp[C.aD,show (40:Int)*l.length<=281474976710656 by omega,show (l.length:Int)<=281474976710656 by omega];apply hK;clear hK K;show AWp _ _ _ _ _;apply aa;apply aa;refine ab fun K hK=>?_;simp[C.aD];apply hK;clear hK K;show AWp _ _ _ _ _;apply ak;refine bm (fun x:Nat×List Qtm×Nat=>⟨ofL [(3,.al (3,0) [] 0 l.length),(4,.int size),(5,.al (5,0) [] 0 x.2.2),(6,.int x.1)],aF [((3,0),some (.ow 3 l.length (rows qtS out))),((5,0),some (.ow 3 x.2.2 (rows qtS x.2.1)))]⟩) (fun x=>(∃ k,x.1=2*size*k)/\x.2.2=x.2.1.length/\x.2.1.length=min x.1 l.length/\x.2.1.Perm (out.take x.1)/\tF qle (2*size) x.2.1/\x.1<=l.length+2*size) (fun x=>l.length+2*size - x.1) (0,[],0) (by simp[C.aD,rows]) ⟨⟨0,rfl⟩,rfl,by simp,by simp,fun k=>by simp,by dsimp only;omega⟩ ?_;intro x2 hx2 R2 hR2;obtain⟨at_,next,m⟩:=x2;obtain⟨⟨k,hk⟩,hm,hnl,hnp,hnr,hab⟩:=hx2;dsimp only at hk hm hnl hnp hnr hab ⊢;apply aa;apply aa;refine ab fun K hK=>?_;simp[C.aD];apply hK;clear hK K;show AWp _ _ _ _ _;refine ap _ rfl (fun hc2=>?_) (fun hc2=>?_)
  ·have hat:at_ < l.length:=by have:=d_t hc2;omega
   have hnl2:next.length=at_:=by omega
   obtain⟨mid,hmid⟩:∃ mid,mid=min (at_+size) l.length:=⟨_,rfl⟩;obtain⟨en,hen⟩:∃ en,en=min (at_+2*size) l.length:=⟨_,rfl⟩;have hmid2:min ((at_:Int)+size) l.length=(mid:Int):=by omega
   have hen2:min ((at_:Int)+2*size) l.length=(en:Int):=by omega
   apply au;show AWp _ _ _ _ _;apply aa;apply ak;apply aa;refine ab fun K hK=>?_;simp[C.aD];apply hK;clear hK K;show AWp _ _ _ _ _;apply aa;refine ab fun K hK=>?_;simp[C.aD];rw[aj (x:=(at_:Int)+size) (by omega) (by omega),hmid2];apply hK;clear hK K;show AWp _ _ _ _ _;apply aa;refine ab fun K hK=>?_;simp[C.aD];apply hK;clear hK K;show AWp _ _ _ _ _;apply aa;refine ab fun K hK=>?_;simp[C.aD];rw[aj (x:=2*(size:Int)) (by omega) (by omega),aj (x:=(at_:Int)+2*size) (by omega) (by omega),hen2];apply hK;clear hK K;show AWp _ _ _ _ _;apply ak;refine bm (fun x:Nat×Nat×List Qtm×Nat=>⟨ofL [(3,.al (3,0) [] 0 l.length),(4,.int size),(5,.al (5,0) [] 0 x.2.2.2),(6,.int at_),(7,.int x.1),(8,.int mid),(9,.int x.2.1),(10,.int en)],aF [((3,0),some (.ow 3 l.length (rows qtS out))),((5,0),some (.ow 3 x.2.2.2 (rows qtS x.2.2.1)))]⟩) (fun x=>x.1<=mid/\x.2.1<=en/\mid<=x.2.1/\x.2.2.2=x.2.2.1.length/\x.2.2.2<=3000000 - ((mid - x.1)+(en - x.2.1))/\∃ M,x.2.2.1=next ++ M/\M ++ List.merge (sgt out x.1 mid) (sgt out x.2.1 en) qle=List.merge (sgt out at_ mid) (sgt out mid en) qle) (fun x=>(mid - x.1)+(en - x.2.1)) (at_,mid,next,m) (by simp[C.aD]) ⟨by dsimp only;omega,by dsimp only;omega,by dsimp only;omega,hm,by dsimp only;omega,[],by simp,by simp⟩ ?_;intro x3 hx3 R3 hR3;obtain⟨i,j,nx,mm⟩:=x3;obtain⟨h1,h2,h3,h4,h5,M,h6,h7⟩:=hx3;dsimp only at h1 h2 h3 h4 h5 h6 h7 ⊢;apply aa;apply aa;refine ab fun K hK=>?_;have hJ:K ⟨ofL [(3,.al (3,0) [] 0 l.length),(4,.int size),(5,.al (5,0) [] 0 mm),(6,.int at_),(7,.int i),(8,.int mid),(9,.int j),(10,.int en),(58,.bool (decide (i < mid\/j < en)))],aF [((3,0),some (.ow 3 l.length (rows qtS out))),((5,0),some (.ow 3 mm (rows qtS nx)))]⟩:=by
    apply hK;clear hK K;show AWp _ _ _ _ _;refine ap _ rfl (fun hc3=>?_) (fun hc3=>?_)
    ·have hij:=d_t hc3;apply au;show AWp _ _ _ _ _;apply ak;apply aa;refine bR [(true,0),(true,1),(true,2),(true,3),(true,4),(true,5),(true,6),(true,7),(true,8),(true,9),(true,10),(true,11),(true,12),(true,13),(true,14),(true,15),(false,16),(true,17),(true,18),(true,19)] ⟨by kernel_rfl,by kernel_rfl⟩ ([0,1,2,3,4,5,6,7,8,9,10,11,12,13,14,15,16] ++ ([17,18,19])) rfl fun K hK=>?_;have hJ:K ⟨ofL [(3,.al (3,0) [] 0 l.length),(4,.int size),(5,.al (5,0) [] 0 mm),(6,.int at_),(7,.int i),(8,.int mid),(9,.int j),(10,.int en),(78,.bool (decide (en<=j\/(i < mid/\qle (out.getD i q0) (out.getD j q0)=true))))],aF [((3,0),some (.ow 3 l.length (rows qtS out))),((5,0),some (.ow 3 mm (rows qtS nx)))]⟩:=by
      apply hK;clear hK K;show AWp _ _ _ _ _;refine ap _ rfl (fun hc4=>?_) (fun hc4=>?_)
      ·have hcc:=d_t hc4;have him:i < mid:=by omega
       have hi:i < out.length:=by omega
       have hi':i < l.length:=by omega
       apply aa;refine ab fun K hK=>?_;simp[C.aD,hi',bI hi,bY hi,bW hi,ua,show (mm+1)*40<=140737488355328 by omega];apply hK;clear hK K;show AWp _ _ _ _ _;refine ab fun K hK=>?_;simp[C.aD,ay (show i < 4611686018427387904 by omega)];apply hK;clear hK K;simp[C.aD];refine hR3 (i+1,j,_,mm+1) ⟨him,h2,h3,by dsimp only;rw[h4];simp,by dsimp only;omega,M ++ [out[i]],by dsimp only;rw[h6,List.append_assoc],?_⟩ (by dsimp only;omega);dsimp only;rw[<-h7,List.append_assoc,pD him hi];rcases Nat.lt_or_ge j en with hje | hje
       ·have hj:j < out.length:=by omega
        rw[pD hje hj,zq];have hk':qle out[i] out[j]=true:=by
         rcases hcc with hcc | ⟨_,hcc⟩
         ·omega
         ·rw[kj hi,kj hj] at hcc;exact hcc
        rw[if_pos hk'];rfl
       ·rw[oC hje,p6,p6];rfl
      ·have hcc:=d_f hc4;have hje:j < en:=by omega
       have hj:j < out.length:=by omega
       have hj':j < l.length:=by omega
       apply aa;refine ab fun K hK=>?_;simp[C.aD,hj',bI hj,bY hj,bW hj,ua,show (mm+1)*40<=140737488355328 by omega];apply hK;clear hK K;show AWp _ _ _ _ _;refine ab fun K hK=>?_;simp[C.aD,ay (show j < 4611686018427387904 by omega)];apply hK;clear hK K;simp[C.aD];refine hR3 (i,j+1,_,mm+1) ⟨h1,hje,by dsimp only;omega,by dsimp only;rw[h4];simp,by dsimp only;omega,M ++ [out[j]],by dsimp only;rw[h6,List.append_assoc],?_⟩ (by dsimp only;omega);dsimp only;rw[<-h7,List.append_assoc,pD hje hj];rcases Nat.lt_or_ge i mid with him | him
       ·have hi:i < out.length:=by omega
        rw[pD him hi,zq];have hk':¬ qle out[i] out[j]=true:=by
         intro hk';refine hcc (.inr ⟨him,?_⟩);rw[kj hi,kj hj];exact hk'
        rw[if_neg hk'];rfl
       ·rw[oC him,mY,mY];rfl
     clear hK
     by_cases ha:en<=j
     ·refine oSg fun L hL=>?_;simp[C.aD,ha];apply hL;clear hL L;refine oEn fun L hL=>?_;simp[C.aD,ha];apply hL;clear hL L;simp[C.aD,ha];refine cast (congrArg K ?_) hJ;simp[ha]
     ·by_cases hb:i < mid
      ·have hi:i < out.length:=by omega
       have hj:j < out.length:=by omega
       have hi':i < l.length:=by omega
       have hj':j < l.length:=by omega
       refine oSg fun L hL=>?_;simp[C.aD,hi',hj',bI hi,bI hj,bY hi,bY hj,bW hi,bW hj,ha,hb];refine ae (pZ out[j] out[i] (by have:=hel _ (List.getElem_mem hj);omega) (by have:=hel _ (List.getElem_mem hi);omega)) (by simp) (by simp) ?_;simp[C.aD,hi',hj',bI hi,bI hj,bY hi,bY hj,bW hi,bW hj,ha,hb];apply hL;clear hL L;refine oEn fun L hL=>?_;simp[C.aD,hi',hj',bI hi,bI hj,bY hi,bY hj,bW hi,bW hj,ha,hb];apply hL;clear hL L;simp[C.aD,hi',hj',bI hi,bI hj,bY hi,bY hj,bW hi,bW hj,ha,hb];refine cast (congrArg K ?_) hJ;simp[List.getD_eq_getElem?_getD,hi,hj,qle,ha,hb]
      ·refine oSg fun L hL=>?_;simp[C.aD,ha,hb];apply hL;clear hL L;refine oEn fun L hL=>?_;simp[C.aD,ha,hb];apply hL;clear hL L;simp[C.aD,ha,hb];refine cast (congrArg K ?_) hJ;simp[ha,hb]
    ·have hij:=d_f hc3;have ei:mid<=i:=by omega
     have ej:en<=j:=by omega
     rw[oC ei,oC ej,mY,List.append_nil] at h7;apply aZ;show AWp _ _ _ _ _;refine ab fun K hK=>?_;simp[C.aD];rw[aj (x:=2*(size:Int)) (by omega) (by omega),aj (x:=(at_:Int)+2*size) (by omega) (by omega)];apply hK;clear hK K;have hA:(sgt out at_ mid).Pairwise fun a b=>qle a b=true:=yV (k:=2*k) hruns (by rw[hk];rw[Nat.mul_comm 2 size,Nat.mul_assoc]) (by rw[hmid,hol]);have hB:(sgt out mid en).Pairwise fun a b=>qle a b=true:=by
      rcases Nat.le_total (at_+size) l.length with hq | hq
      ·have e1:mid=at_+size:=by omega
       exact yV (k:=2*k+1) hruns (by rw[e1,hk,Nat.mul_succ,Nat.mul_comm 2 size,Nat.mul_assoc]) (by rw[hol,hen,e1];congr 1;omega)
      ·rw[oC (by omega)];exact List.Pairwise.nil
     have hM:=B2 hA hB;have hMp:=DZ (sgt out at_ mid) (sgt out mid en);rw[<-h7] at hM hMp;have hMl:M.length=en - at_:=by
      have:=hMp.length_eq;have e2:=congrArg List.length (zD (out:=out) (a:=at_) (b:=mid) (c:=en) (by omega) (by omega));simp only[List.length_append,List.length_take] at this e2;omega
     simp[C.aD];rw[show (at_:Int)+2*size=((at_+2*size:Nat):Int) by omega];refine hR2 (at_+2*size,nx,mm) ⟨⟨k+1,by dsimp only;rw[hk,Nat.mul_succ]⟩,h4,?_,?_,?_,by dsimp only;omega⟩ (by dsimp only;omega)
     ·dsimp only;rw[h6,List.length_append,hMl];omega
     ·dsimp only;rw[h6];have e3:out.take (at_+2*size)=out.take en:=by
       rw[hen];rcases Nat.le_total (at_+2*size) l.length with hq | hq
       ·rw[Nat.min_eq_left hq]
       ·rw[Nat.min_eq_right hq,List.take_of_length_le (by omega),List.take_of_length_le (by omega)]
      rw[e3,<-zD (out:=out) (a:=at_) (b:=mid) (c:=en) (by omega) (by omega)];exact hnp.append hMp
     ·dsimp only;rw[h6];exact DA hnr (by rw[hnl2,hk]) hM (by omega)
   clear hK
   by_cases ha:i < mid
   ·simp[C.aD,ha];refine cast (congrArg K ?_) hJ;simp[ha]
   ·simp[C.aD,ha];refine cast (congrArg K ?_) hJ;simp[ha]
  ·have hat:l.length<=at_:=by have:=d_f hc2;omega
   have hml:m=l.length:=by omega
   apply aZ;show AWp _ _ _ _ _;refine ab fun K hK=>?_;simp[C.aD];apply hK;clear hK K;show AWp _ _ _ _ _;refine ab fun K hK=>?_;simp[C.aD];rw[aj (x:=(size:Int)*2) (by omega) (by omega)];apply hK;clear hK K;simp[C.aD];rw[show (size:Int)*2=((2*size:Nat):Int) by omega,hml];refine hR1 (2*size,next) ⟨?_,hnr,by dsimp only;omega,by dsimp only;omega⟩ (by dsimp only;omega);dsimp only;rw[List.take_of_length_le (by omega)] at hnp;exact hnp.trans hperm
 ·have hlt:l.length<=size:=by have:=d_f hc1;omega
  have hsort:=EU hruns (by omega);have hga:=DL hperm hsort;have habs:=Cz hperm;obtain⟨T,hT⟩:∃ T,T=kL [] (out.map qp):=⟨_,rfl⟩;rw[<-hT] at hga;apply aZ;show AWp _ _ _ _ _;apply aa;refine ab fun K hK=>?_;simp[C.aD];apply hK;clear hK K;show AWp _ _ _ _ _;apply aa;apply aa;refine ab fun K hK=>?_;simp[C.aD];apply hK;clear hK K;show AWp _ _ _ _ _;apply ak;refine bm (fun x:Nat×List Qtm=>⟨ofL [(3,.al (3,0) [] 0 l.length),(11,.al (11,0) [] 0 x.2.length),(12,.int x.1)],aF [((3,0),some (.ow 3 l.length (rows qtS out))),((11,0),some (.ow 3 x.2.length (rows qtO x.2)))]⟩) (fun x=>x.1<=l.length/\x.2.length<=x.1/\kL (x.2.map qp) ((out.drop x.1).map qp)=T/\dG x.2<=dG (out.take x.1)/\∀ t∈x.2,t.e.length<=8) (fun x=>l.length - x.1) (0,[]) (by simp[C.aD,rows]) ⟨by simp,by simp,by simp[hT],by simp,by simp⟩ ?_;intro x4 hx4 R4 hR4;obtain⟨k,G⟩:=x4;obtain⟨g1,g2,g3,g4,g5⟩:=hx4;dsimp only at g1 g2 g3 g4 g5 ⊢;apply aa;apply aa;refine ab fun K hK=>?_;simp[C.aD];apply hK;clear hK K;show AWp _ _ _ _ _;refine ap _ rfl (fun hc5=>?_) (fun hc5=>?_)
  ·have hk:k < l.length:=by have:=d_t hc5;omega
   have hko:k < out.length:=by omega
   have hokb:(out.take k) ++ [out[k]]=out.take (k+1):=(List.take_succ_eq_append_getElem hko).symm;have hab1:dG (out.take (k+1))=dG (out.take k)+out[k].c.natAbs:=by rw[<-hokb,jc];simp[dG]
   have hab2:dG (out.take (k+1))<=dG l:=by
    rw[<-habs]
    conv=>rhs;rw[<-List.take_append_drop (k+1) out,jc]
    omega
   have hg3:kL ((jK G out[k]).map qp) ((out.drop (k+1)).map qp)=T:=by
    rw[FG,<-g3,List.drop_eq_getElem_cons hko];rfl
   have hg4:dG (jK G out[k])<=dG (out.take (k+1)):=by
    have:=Cv G out[k];omega
   have hek:=hel _ (List.getElem_mem hko);apply au;show AWp _ _ _ _ _;apply aa;apply ak;apply aa;refine ab fun K hK=>?_;simp[C.aD];apply hK;clear hK K;show AWp _ _ _ _ _;apply aa;apply aa;refine bR [(true,0),(true,1),(true,2),(true,3),(true,4),(true,5),(true,6),(true,7),(true,8),(true,9),(true,10),(true,11),(true,12),(true,13),(true,14),(true,15),(true,16),(true,17),(true,18),(true,19),(true,20),(true,21),(true,22),(true,23),(true,24),(true,25),(true,26),(true,27),(false,28),(true,29)] ⟨by kernel_rfl,by kernel_rfl⟩ ([0,1,2,3,4,5,6,7,8,9,10,11,12,13,14,15,16,17,18,19,20,21,22,23,24,25,26,27,28] ++ ([29])) rfl fun K hK=>?_;have hJ:K ⟨ofL [(3,.al (3,0) [] 0 l.length),(11,.al (11,0) [] 0 G.length),(12,.int k),(13,.int G.length),(136,.bool (decide (0 < G.length/\(G.getD (G.length - 1) q0).h=out[k].h/\(G.getD (G.length - 1) q0).e=out[k].e)))],aF [((3,0),some (.ow 3 l.length (rows qtS out))),((11,0),some (.ow 3 G.length (rows qtO G)))]⟩:=by
    apply hK;clear hK K;show AWp _ _ _ _ _;refine ap _ rfl (fun hc6=>?_) (fun hc6=>?_)
    ·have hcc:=d_t hc6;obtain⟨q,hqe⟩:∃ q,G.length=q+1:=⟨G.length - 1,by omega⟩;have hq:q < G.length:=by omega
     rw[show G.length - 1=q by omega,kj hq] at hcc;have hkk:qk G[q]=qk out[k]:=by simp[qk,hcc.2.1,hcc.2.2]
     have hGq:=EC (List.getElem_mem hq);have hsm:=Dx hqe hkk;apply aa;refine bR [(true,0),(true,1),(true,2),(true,3),(true,4),(true,5),(true,6),(true,7),(true,8),(true,9),(true,10),(true,11),(true,12),(true,13),(true,14),(true,15),(true,16),(false,17)] ⟨by kernel_rfl,by kernel_rfl⟩ ([0,1,2,3,4,5,6,7,8,9,10,11,12,13,14,15,16,17]) rfl fun K hK=>?_;refine oEn fun L hL=>?_;simp[C.aD,hqe,hk,show ((q:Int) < (q:Int)+1) by omega,nC hq,bW hko,tK hq,dD (show q < 4611686018427387904 by omega),aj (x:=G[q].c+out[k].c) (by omega) (by omega)];apply hL;clear hL L;simp[C.aD,hqe,hk,show ((q:Int) < (q:Int)+1) by omega,nC hq,bW hko,tK hq,dD (show q < 4611686018427387904 by omega),aj (x:=G[q].c+out[k].c) (by omega) (by omega)];apply hK;clear hK K;show AWp _ _ _ _ _;apply aZ;show AWp _ _ _ _ _;refine ab fun K hK=>?_;simp[C.aD,ay (show k < 4611686018427387904 by omega)];apply hK;clear hK K;simp[C.aD];rw[show q+1=(jK G out[k]).length by rw[hsm];simp[hqe],<-hsm];refine hR4 (k+1,jK G out[k]) ⟨hk,by dsimp only;rw[hsm];simp;omega,hg3,hg4,?_⟩ (by dsimp only;omega);dsimp only;rw[hsm];intro t ht;rcases List.mem_or_eq_of_mem_set ht with ht | ht
     ·exact g5 t ht
     ·have:=g5 _ (List.getElem_mem hq);rw[ht];exact this
    ·have hcc:=d_f hc6;have hnw:jK G out[k]=G ++ [out[k]]:=DX fun z hz e=>by
      rw[List.getLast?_eq_getElem?] at hz;obtain⟨hq,hz⟩:=List.getElem?_eq_some_iff.1 hz;refine hcc ⟨by omega,?_⟩;rw[kj hq,hz];simp only[qk,Prod.mk.injEq] at e;exact⟨e.2,e.1⟩
     apply au;show AWp _ _ _ _ _;refine bR [(true,0),(true,1),(true,2),(true,3),(true,4),(true,5),(true,7),(true,8),(true,9),(true,10),(true,11),(true,12),(true,13),(true,14),(true,15),(true,16),(false,6),(true,17),(false,18),(false,19),(true,20)] ⟨by kernel_rfl,by kernel_rfl⟩ ([0,1,2,3,4,5,7,8,9,10,11,12,13,14,15,16,6] ++ ([17,18,19,20])) rfl fun K hK=>?_;refine oSg fun L hL=>?_;simp[C.aD,hk,bI hko,bY hko,bW hko,gv,show (G.length+1)*40<=140737488355328 by omega];refine ae (iV out[k].e (by omega)) (by simp) (by simp) ?_;simp[C.aD,hk,bI hko,bY hko,bW hko,gv,show (G.length+1)*40<=140737488355328 by omega];apply hL;clear hL L;refine oEn fun L hL=>?_;simp[C.aD,hk,bI hko,bY hko,bW hko,gv,show (G.length+1)*40<=140737488355328 by omega];apply hL;clear hL L;simp[C.aD,hk,bI hko,bY hko,bW hko,gv,show (G.length+1)*40<=140737488355328 by omega];apply hK;clear hK K;show AWp _ _ _ _ _;refine ab fun K hK=>?_;simp[C.aD,ay (show k < 4611686018427387904 by omega)];apply hK;clear hK K;simp[C.aD];rw[show G.length+1=(jK G out[k]).length by rw[hnw];simp,<-hnw];refine hR4 (k+1,jK G out[k]) ⟨hk,by dsimp only;rw[hnw];simp;omega,hg3,hg4,?_⟩ (by dsimp only;omega);dsimp only;rw[hnw];intro t ht;rcases List.mem_append.1 ht with ht | ht
     ·exact g5 t ht
     ·simp only[List.mem_singleton] at ht;rw[ht];exact hek
   clear hK
   by_cases ha:0 < G.length
   ·by_cases hb:(G.getD (G.length - 1) q0).h=out[k].h
    ·obtain⟨q,hqe⟩:∃ q,G.length=q+1:=⟨G.length - 1,by omega⟩;have hq:q < G.length:=by omega
     rw[hqe,show q+1 - 1=q by omega,kj hq] at hb;refine oSg fun L hL=>?_;simp[C.aD,hk,bI hko,bY hko,bW hko,hqe,show ((0:Int) < (q:Int)+1) by omega,show ((q:Int) < (q:Int)+1) by omega,nr hq,iP hq,dD (show q < 4611686018427387904 by omega),ha,hb];refine ae (p7 G[q].e out[k].e (by have:=g5 _ (List.getElem_mem hq);omega)) (by simp) (by simp) ?_;simp[C.aD,hk,bI hko,bY hko,bW hko,hqe,show ((0:Int) < (q:Int)+1) by omega,show ((q:Int) < (q:Int)+1) by omega,nr hq,iP hq,dD (show q < 4611686018427387904 by omega),ha,hb];apply hL;clear hL L;refine oEn fun L hL=>?_;simp[C.aD,hk,bI hko,bY hko,bW hko,hqe,show ((0:Int) < (q:Int)+1) by omega,show ((q:Int) < (q:Int)+1) by omega,nr hq,iP hq,dD (show q < 4611686018427387904 by omega),ha,hb];apply hL;clear hL L;simp[C.aD,hk,bI hko,bY hko,bW hko,hqe,show ((0:Int) < (q:Int)+1) by omega,show ((q:Int) < (q:Int)+1) by omega,nr hq,iP hq,dD (show q < 4611686018427387904 by omega),ha,hb];refine cast (congrArg K ?_) hJ;simp[List.getD_eq_getElem?_getD,hqe,List.getElem?_eq_getElem hq,hb,ha,hb]
    ·obtain⟨q,hqe⟩:∃ q,G.length=q+1:=⟨G.length - 1,by omega⟩;have hq:q < G.length:=by omega
     rw[hqe,show q+1 - 1=q by omega,kj hq] at hb;refine oSg fun L hL=>?_;simp[C.aD,hk,bI hko,bY hko,bW hko,hqe,show ((0:Int) < (q:Int)+1) by omega,show ((q:Int) < (q:Int)+1) by omega,iP hq,dD (show q < 4611686018427387904 by omega),ha,hb];apply hL;clear hL L;refine oEn fun L hL=>?_;simp[C.aD,hk,bI hko,bY hko,bW hko,hqe,show ((0:Int) < (q:Int)+1) by omega,show ((q:Int) < (q:Int)+1) by omega,iP hq,dD (show q < 4611686018427387904 by omega),ha,hb];apply hL;clear hL L;simp[C.aD,hk,bI hko,bY hko,bW hko,hqe,show ((0:Int) < (q:Int)+1) by omega,show ((q:Int) < (q:Int)+1) by omega,iP hq,dD (show q < 4611686018427387904 by omega),ha,hb];refine cast (congrArg K ?_) hJ;simp[List.getD_eq_getElem?_getD,hqe,List.getElem?_eq_getElem hq,hb,ha,hb]
   ·refine oSg fun L hL=>?_;simp[C.aD,hk,bI hko,bY hko,bW hko,ha];apply hL;clear hL L;refine oEn fun L hL=>?_;simp[C.aD,hk,bI hko,bY hko,bW hko,ha];apply hL;clear hL L;simp[C.aD,hk,bI hko,bY hko,bW hko,ha];refine cast (congrArg K ?_) hJ;simp[ha]
  ·have hk:k=l.length:=by have:=d_f hc5;omega
   have hGT:G.map qp=T:=by
    rw[<-g3,hk,<-hol,List.drop_length];rfl
   have hfin:G.filter (fun t=>t.c≠0)=gaQ l:=by
    rw[<-hga,<-hGT,List.filter_map,zW];rfl
   apply aZ;show AWp _ _ _ _ _;apply aa;refine ab fun K hK=>?_;simp[C.aD];apply hK;clear hK K;show AWp _ _ _ _ _;apply aa;apply aa;refine ab fun K hK=>?_;simp[C.aD];apply hK;clear hK K;show AWp _ _ _ _ _;apply ak;refine bm (fun x:Nat×List Qtm=>⟨ofL [(11,.al (11,0) [] 0 G.length),(14,.al (14,0) [] 0 x.2.length),(15,.int x.1)],aF [((11,0),some (.ow 3 G.length (mvS G x.1))),((14,0),some (.ow 3 x.2.length (rows qtO x.2)))]⟩) (fun x=>x.1<=G.length/\x.2.length<=x.1/\x.2=(G.take x.1).filter (fun t=>t.c≠0)) (fun x=>G.length - x.1) (0,[]) (by simp[C.aD,rows,DT]) ⟨by simp,by simp,by simp⟩ ?_;intro x5 hx5 R5 hR5;obtain⟨k,L⟩:=x5;obtain⟨e1,e2,e3⟩:=hx5;dsimp only at e1 e2 e3 ⊢;apply aa;apply aa;refine ab fun K hK=>?_;simp[C.aD];apply hK;clear hK K;show AWp _ _ _ _ _;refine ap _ rfl (fun hc7=>?_) (fun hc7=>?_)
   ·have hk2:k < G.length:=by have:=d_t hc7;omega
    apply au;show AWp _ _ _ _ _;apply aa;apply ak;apply aa;refine ab fun K hK=>?_;simp[C.aD,hk2,Fd hk2];apply hK;clear hK K;show AWp _ _ _ _ _;refine ap _ rfl (fun hc8=>?_) (fun hc8=>?_)
    ·have hz:¬ G[k].c=0:=by simpa using hc8
     refine ab fun K hK=>?_;simp[C.aD,hk2,He hk2,JY hk2,Fd hk2,cB,D0 hk2 hz,gv,show (L.length+1)*40<=140737488355328 by omega];apply hK;clear hK K;show AWp _ _ _ _ _;refine ab fun K hK=>?_;simp[C.aD,ay (show k < 4611686018427387904 by omega)];apply hK;clear hK K;simp[C.aD];rw[show L.length+1=(L ++ [G[k]]).length by simp];refine hR5 (k+1,L ++ [G[k]]) ⟨hk2,by dsimp only;simp;omega,?_⟩ (by dsimp only;omega);dsimp only;rw[List.take_succ_eq_append_getElem hk2,List.filter_append,<-e3];simp[hz]
    ·have hz:G[k].c=0:=by simpa using hc8
     apply au;show AWp _ _ _ _ _;refine ab fun K hK=>?_;simp[C.aD,ay (show k < 4611686018427387904 by omega)];apply hK;clear hK K;simp[C.aD];rw[<-Ey hk2 hz];refine hR5 (k+1,L) ⟨hk2,by dsimp only;omega,?_⟩ (by dsimp only;omega);dsimp only;rw[List.take_succ_eq_append_getElem hk2,List.filter_append,<-e3];simp[hz]
   ·have hk2:k=G.length:=by have:=d_f hc7;omega
    have hL:L=gaQ l:=by rw[e3,hk2,List.take_length];exact hfin
    apply aZ;show AWp _ _ _ _ _;apply aa;refine ab fun K hK=>?_;simp[C.aD];apply hK;clear hK K;show AWp _ _ _ _ _;apply aI;simp[C.aD,hL]
set_option maxRecDepth 10000
set_option maxHeartbeats 2000000
@[simp] theorem jC (l:List Qtm):shareL (rows qtS l)=rows qtS l:=by
 rw[jx];congr 1
noncomputable def enQ (v:Int) (ts:List Qtm):Qsm×Bool:=if aL ⟨v,ts⟩ then (⟨v,ts⟩,true) else (cM,false)
noncomputable def oQ (v:Int) (ts:List Qtm):D:=if aL ⟨v,ts⟩ then .gone else .ow 3 ts.length (rows qtO ts)
noncomputable def dJ (f g:Qsm):Qsm×Bool:=if aL f/\aL g/\f.v=g.v then enQ f.v (gaQ (f.ts ++ g.ts)) else (cM,false)
theorem ss (l:List Qtm):(gaQ l).length<=l.length:=by
 unfold gaQ;have:=Cu (lt:=qlt) (l.map qp);simpa using this
theorem ye {l:List Qtm} {p:List Int->Prop} (h:∀ t∈l,p t.e):∀ t∈gaQ l,p t.e:=fun t ht=>by
 unfold gaQ at ht;obtain⟨y,hy,rfl⟩:=List.mem_map.1 ht;obtain⟨x,hx,e⟩:=lT hy;obtain⟨u,hu,rfl⟩:=List.mem_map.1 hx;have:=h u hu;have e2:u.e=(qt y).e:=congrArg (·.1) e;rw[<-e2];exact this
theorem xP (ts:List Qtm) (v:Int) (hx:ts.length < 4611686018427387904) (hxe:∀ t∈ts,t.e.length < 4611686018427387904):af Tryz.prog F.dS [.al (0,0) [] 0 ts.length,.int v] [((0,0),.ow 3 ts.length (rows qtO ts))] true (fun outs res=>outs=[oQ v ts]/\eb res [.ag (qO (enQ v ts).1),.one (D.bool (enQ v ts).2)]):=by
 refine af.ob (C:=C.dS) (n:=Tryz.f145.ntmps) bC bD Tryz.func145 rfl rfl ?_;simp only[Tryz.f145];apply aa;refine ab fun K hK=>?_;simp[C.dS];apply hK;clear hK K;show AWp _ _ _ _ _;apply aa;refine ab fun K hK=>?_;simp[C.dS];apply hK;clear hK K;show AWp _ _ _ _ _;apply aa;apply aa;refine aK ([0,1] ++ ([2])) rfl fun K hK=>?_;refine oSg fun L hL=>?_;simp[C.dS];refine ae (cY ⟨v,ts⟩ hx hxe) (by simp) (by simp) ?_;simp[C.dS];apply hL;clear hL L;refine oEn fun L hL=>?_;simp[C.dS];apply hL;clear hL L;simp[C.dS];apply hK;clear hK K;show AWp _ _ _ _ _;refine ap _ rfl (fun hc1=>?_) (fun hc1=>?_)
 ·have hr:=gk hc1;have hm:enQ v ts=(cM,false):=if_neg hr;have ho:oQ v ts = .ow 3 ts.length (rows qtO ts):=if_neg hr;apply aa;refine ab fun K hK=>?_;simp[C.dS];apply hK;clear hK K;show AWp _ _ _ _ _;apply aI;simp[C.dS,hm,ho,qO,cM,rows]
 ·have hr:=gw hc1;have hm:enQ v ts=(⟨v,ts⟩,true):=if_pos hr;have ho:oQ v ts = .gone:=if_pos hr;apply au;show AWp _ _ _ _ _;apply aa;refine ab fun K hK=>?_;simp[C.dS];apply hK;clear hK K;show AWp _ _ _ _ _;apply aI;simp[C.dS,hm,ho,qO]
theorem s9 (ts:List Qtm) (v:Int) (hx:ts.length < 4611686018427387904) (hxe:∀ t∈ts,t.e.length < 4611686018427387904):af Tryz.prog F.dS [.al (0,0) [] 0 ts.length,.int v] [((0,0),.ow 3 ts.length (rows qtO ts))] true (fun outs res=>outs=[.gone]/\res=[.ag (qO (enQ v ts).1),.one (D.bool (enQ v ts).2)]):=af.goneOut (xP ts v hx hxe).weak1
theorem uo (f g:Qsm) (hx:f.ts.length < 4611686018427387904) (hxe:∀ t∈f.ts,t.e.length < 4611686018427387904) (hy:g.ts.length < 4611686018427387904) (hye:∀ t∈g.ts,t.e.length < 4611686018427387904):af Tryz.prog F.bL [aQ f,aQ g] [] true (fun outs res=>outs=[]/\eb res [.ag (qO (dJ f g).1),.one (D.bool (dJ f g).2)]):=by
 refine af.ob (C:=C.bL) (n:=Tryz.f110.ntmps) bC bD Tryz.func110 rfl rfl ?_;simp only[Tryz.f110];apply aa;refine ab fun K hK=>?_;simp[C.bL,qS];apply hK;clear hK K;show AWp _ _ _ _ _;apply aa;apply aa;refine aK ([0,1] ++ ([2,3,4,5] ++ ([6,7,8,9,10,11,12,13,14]))) rfl fun K hK=>?_;have hJ:K ⟨ofL [(2,.pt (2,0) [] 0),(3,.pt (3,0) [] 0),(4,.pt (4,0) [] 0),(20,.bool (!decide (aL f/\aL g/\f.v=g.v)))],aF [((2,0),some (.bx (qS f))),((3,0),some (.bx (qS g))),((4,0),some (.bx [D.int 0,.v (.slice none 0 0)]))]⟩:=by
  apply hK;clear hK K;show AWp _ _ _ _ _;refine ap _ rfl (fun hc1=>?_) (fun hc1=>?_)
  ·have hr:=gk hc1;have hm:dJ f g=(cM,false):=if_neg hr;apply aa;refine ab fun K hK=>?_;simp[C.bL,qS];apply hK;clear hK K;show AWp _ _ _ _ _;apply aI;simp[C.bL,qS,hm,qO,cM,rows]
  ·have hr:=gw hc1;obtain⟨hf,hg,hfg⟩:=hr;have hv:=hf.1;have hfl:=hf.2.1;have hgl:=hg.2.1;have hm:dJ f g=enQ f.v (gaQ (f.ts ++ g.ts)):=if_pos ⟨hf,hg,hfg⟩;have he:∀ t∈f.ts ++ g.ts,t.e.length<=8:=fun t ht=>by
    rcases List.mem_append.1 ht with ht | ht
    ·have:=(hf.2.2.1 t ht).1;omega
    ·have:=(hg.2.2.1 t ht).1;omega
   have hc:∀ t∈f.ts ++ g.ts,t.c.natAbs<=1000000:=fun t ht=>by
    rcases List.mem_append.1 ht with ht | ht
    ·have:=(hf.2.2.1 t ht).2.2.1;omega
    ·have:=(hg.2.2.1 t ht).2.2.1;omega
   have hab:=rS hc;have hlen:(f.ts ++ g.ts).length=f.ts.length+g.ts.length:=by simp
   have hgal:=ss (f.ts ++ g.ts);have hG:=jh (f.ts ++ g.ts) (by omega) (by omega) he;have hS:=s9 (gaQ (f.ts ++ g.ts)) f.v (by omega) (ye (p:=fun e=>e.length < 4611686018427387904) fun t ht=>by have:=he t ht;omega);rw[hlen] at hG;apply au;show AWp _ _ _ _ _;apply aa;refine eG (.take 1 (.take 2 (.take 4 (.take 8 (.all [(0,.all [(3,.take 5 (.all [(6,.take 9 (.all [(7,.all [(10,.take 11 (.take 12 (.all [(13,.take 14 (.done))])))])])),(9,.all [(6,.all [(7,.all [(10,.take 11 (.take 12 (.all [(13,.take 14 (.done))])))])])])])),(5,.all [(3,.all [(6,.take 9 (.all [(7,.all [(10,.take 11 (.take 12 (.all [(13,.take 14 (.done))])))])])),(9,.all [(6,.all [(7,.all [(10,.take 11 (.take 12 (.all [(13,.take 14 (.done))])))])])])]),(9,.all [(3,.all [(6,.all [(7,.all [(10,.take 11 (.take 12 (.all [(13,.take 14 (.done))])))])])])])]),(9,.all [(3,.take 5 (.all [(6,.all [(7,.all [(10,.take 11 (.take 12 (.all [(13,.take 14 (.done))])))])])])),(5,.all [(3,.all [(6,.all [(7,.all [(10,.take 11 (.take 12 (.all [(13,.take 14 (.done))])))])])])])])]),(5,.all [(0,.all [(3,.all [(6,.take 9 (.all [(7,.all [(10,.take 11 (.take 12 (.all [(13,.take 14 (.done))])))])])),(9,.all [(6,.all [(7,.all [(10,.take 11 (.take 12 (.all [(13,.take 14 (.done))])))])])])]),(9,.all [(3,.all [(6,.all [(7,.all [(10,.take 11 (.take 12 (.all [(13,.take 14 (.done))])))])])])])]),(9,.all [(0,.all [(3,.all [(6,.all [(7,.all [(10,.take 11 (.take 12 (.all [(13,.take 14 (.done))])))])])])])])]),(9,.all [(0,.all [(3,.take 5 (.all [(6,.all [(7,.all [(10,.take 11 (.take 12 (.all [(13,.take 14 (.done))])))])])])),(5,.all [(3,.all [(6,.all [(7,.all [(10,.take 11 (.take 12 (.all [(13,.take 14 (.done))])))])])])])]),(5,.all [(0,.all [(3,.all [(6,.all [(7,.all [(10,.take 11 (.take 12 (.all [(13,.take 14 (.done))])))])])])])])])]))))) ⟨by kernel_rfl,by kernel_rfl⟩ fun K hK=>?_;have hJ:K ⟨ofL [(4,.pt (4,0) [] 0),(5,.bool (enQ f.v (gaQ (f.ts ++ g.ts))).2)],aF [((4,0),some (.bx (qO (enQ f.v (gaQ (f.ts ++ g.ts))).1)))]⟩:=by
    apply hK;clear hK K;show AWp _ _ _ _ _;apply aI;simp[C.bL,qS,hm,qO]
   clear hK;simp[C.bL,qS,qO,<-dT,show f.ts.length*40<=140737488355328 by omega,show (f.ts.length+g.ts.length)*40<=140737488355328 by omega]
   repeat' first
    | (refine ae hG ?_ (by simp) ?_;(focus (simp;done));simp[C.bL,qS,qO,<-dT,show f.ts.length*40<=140737488355328 by omega,show (f.ts.length+g.ts.length)*40<=140737488355328 by omega])
    | (refine ae hS ?_ (by simp) ?_;(focus (simp;done));simp[C.bL,qS,qO,<-dT,show f.ts.length*40<=140737488355328 by omega,show (f.ts.length+g.ts.length)*40<=140737488355328 by omega])
    | (refine cast (congrArg K ?_) hJ;simp[qO];done)
    | refine And.intro ?_ ?_
 clear hK
 by_cases ha:aL f
 ·by_cases hb:aL g
  ·refine oSg fun L hL=>?_;simp[C.bL,qS,ha,hb];refine ae (cY f hx hxe) (by simp) (by simp) ?_;simp[C.bL,qS,ha,hb];apply hL;clear hL L;refine oSg fun L hL=>?_;simp[C.bL,qS,ha,hb];refine ae (cY g hy hye) (by simp) (by simp) ?_;simp[C.bL,qS,ha,hb];apply hL;clear hL L;refine oEn fun L hL=>?_;simp[C.bL,qS,ha,hb];apply hL;clear hL L;simp[C.bL,qS,ha,hb];refine cast (congrArg K ?_) hJ;simp[il,qS,ha,hb]
  ·refine oSg fun L hL=>?_;simp[C.bL,qS,ha,hb];refine ae (cY f hx hxe) (by simp) (by simp) ?_;simp[C.bL,qS,ha,hb];apply hL;clear hL L;refine oSg fun L hL=>?_;simp[C.bL,qS,ha,hb];refine ae (cY g hy hye) (by simp) (by simp) ?_;simp[C.bL,qS,ha,hb];apply hL;clear hL L;refine oEn fun L hL=>?_;simp[C.bL,qS,ha,hb];apply hL;clear hL L;simp[C.bL,qS,ha,hb];refine cast (congrArg K ?_) hJ;simp[il,qS,ha,hb]
 ·refine oSg fun L hL=>?_;simp[C.bL,qS,ha];refine ae (cY f hx hxe) (by simp) (by simp) ?_;simp[C.bL,qS,ha];apply hL;clear hL L;refine oSg fun L hL=>?_;simp[C.bL,qS,ha];apply hL;clear hL L;refine oEn fun L hL=>?_;simp[C.bL,qS,ha];apply hL;clear hL L;simp[C.bL,qS,ha];refine cast (congrArg K ?_) hJ;simp[il,qS,ha]
set_option maxRecDepth 10000
set_option maxHeartbeats 2000000
def gi (fm:List (List Int)) (x y:Qtm):Qtm:=⟨bc 1 x.e y.e,x.h+y.h+skw fm x.e y.e,x.c*y.c⟩
def dW (fm:List (List Int)) (a b:List Qtm):List Qtm:=a.flatMap fun x=>b.map (gi fm x)
noncomputable def eK (fm:List (List Int)) (f g:Qsm):Qsm×Bool:=if bp fm/\aL f/\aL g/\f.v=fm.length/\g.v=fm.length then enQ f.v (gaQ (dW fm f.ts g.ts)) else (cM,false)
def QL (n:Nat) (l:List Qtm):Prop:=l.length<=600/\∀ t∈l,t.e.length=n/\(∀ x∈t.e,-1000<=x/\x<=1000)/\(-1000<=t.h/\t.h<=1000)/\(-1000000<=t.c/\t.c<=1000000)
theorem lU {f:Qsm} (h:aL f) {n:Nat} (hn:f.v=n):QL n f.ts:=⟨h.2.1,fun t ht=>by
 obtain⟨h1,_,h2,h3,h4⟩:=h.2.2.1 t ht;exact⟨by omega,fun x hx=>by have:=h4 x hx;omega,by omega,h2⟩⟩
theorem QL.sk {fm:List (List Int)} {a b:List Qtm} (hok:bp fm) (ha:QL fm.length a) (hb:QL fm.length b) {x y:Qtm} (hx:x∈a) (hy:y∈b):eJ fm x.e y.e:=
 ⟨hok,(ha.2 x hx).1,(hb.2 y hy).1,(ha.2 x hx).2.1,(hb.2 y hy).2.1⟩
theorem wC:∀ (a b:List Int) (k:Nat) (h1:k < a.length) (h2:k < b.length),bc 1 (a.take (k+1)) (b.take (k+1))=bc 1 (a.take k) (b.take k) ++ [a[k]+b[k]]
 | x :: a,y :: b,0,_,_=>by simp[bc]
 | x :: a,y :: b,k+1,h1,h2=>by
  have:=wC a b k (by simpa using h1) (by simpa using h2);simp only[List.take_succ_cons,bc,this,List.getElem_cons_succ,List.cons_append]
theorem vd (xs:List Int) (x:Int):ints xs ++ [D.v (.int .i64 x)]=ints (xs ++ [x]):=by simp[ints]
theorem uV {fm:List (List Int)} {a b:List Qtm} {i:Nat} (h:i < a.length):dW fm (a.take (i+1)) b=dW fm (a.take i) b ++ b.map (gi fm a[i]):=by
 unfold dW;rw[List.take_succ_eq_append_getElem h,List.flatMap_append];simp
theorem nB (fm:List (List Int)) (a b:List Qtm):(dW fm a b).length=a.length*b.length:=by
 unfold dW
 induction a with
 | nil=>simp
 | cons x a ih=>simp[List.flatMap_cons,ih,Nat.add_mul];omega
theorem rq {fm:List (List Int)} {a b:List Qtm} {t:Qtm} (h:t∈dW fm a b):∃ x∈a,∃ y∈b,t=gi fm x y:=by
 unfold dW at h;obtain⟨x,hx,h⟩:=List.mem_flatMap.1 h;obtain⟨y,hy,h⟩:=List.mem_map.1 h;exact⟨x,hx,y,hy,h.symm⟩
theorem xp {fm:List (List Int)} {a b:List Qtm} {n:Nat} (ha:QL n a) (hb:QL n b):dG (dW fm a b) < 4611686018427387904:=by
 have h1:dG (dW fm a b)<=(dW fm a b).length*1000000000000:=rS fun t ht=>by
  obtain⟨x,hx,y,hy,rfl⟩:=rq ht;have:=rh (ha.2 x hx).2.2.2 (hb.2 y hy).2.2.2;simp only[gi];omega
 rw[nB] at h1;have h2:a.length*b.length<=600*600:=Nat.mul_le_mul ha.1 hb.1;omega
theorem sb {fm:List (List Int)} {a b:List Qtm} {n:Nat} (ha:QL n a) (hb:QL n b):∀ t∈dW fm a b,t.e.length=n:=fun t ht=>by
 obtain⟨x,hx,y,hy,rfl⟩:=rq ht;simp only[gi];rw[dh _ _ _ (by rw[(ha.2 x hx).1,(hb.2 y hy).1]),(ha.2 x hx).1]
theorem oF (fm:List (List Int)) (a b:List Qtm) (hok:bp fm) (ha:QL fm.length a) (hb:QL fm.length b):af Tryz.prog F.bK [.d (.sh 1 fm.length (rows lS fm)),.d (.sh 3 a.length (rows qtS a)),.d (.sh 3 b.length (rows qtS b))] [] true (fun outs res=>outs=[]/\res=[.one (.ow 3 (gaQ (dW fm a b)).length (rows qtO (gaQ (dW fm a b))))]):=by
 have hla:=ha.1;have hlb:=hb.1;have hn8:fm.length<=8:=by have:=hok.1;omega
 have hab:a.length*b.length<=600*600:=Nat.mul_le_mul hla hlb;have habz:IntKind.i64.wrap ((a.length:Int)*b.length)=((a.length*b.length:Nat):Int):=by
  rw[show (a.length:Int)*b.length=((a.length*b.length:Nat):Int) by simp,aj (by omega) (by omega)]
 have hplen:=nB fm a b;generalize hq:a.length*b.length=q at hab habz hplen;refine af.ob (C:=C.bK) (n:=Tryz.f169.ntmps) bC bD Tryz.func169 rfl rfl ?_;simp only[Tryz.f169];apply aa;refine ab fun K hK=>?_;simp[C.bK];apply hK;clear hK K;show AWp _ _ _ _ _;apply aa;refine ab fun K hK=>?_;simp[C.bK,habz,show (40:Int)*q<=281474976710656 by omega,show (q:Int)<=281474976710656 by omega];apply hK;clear hK K;show AWp _ _ _ _ _;apply aa;apply aa;refine ab fun K hK=>?_;simp[C.bK];apply hK;clear hK K;show AWp _ _ _ _ _;apply ak;refine bm (fun x:Nat×List Qtm×Nat=>⟨ofL [(0,.d (.sh 1 fm.length (rows lS fm))),(1,.d (.sh 3 a.length (rows qtS a))),(2,.d (.sh 3 b.length (rows qtS b))),(7,.al (7,0) [] 0 x.2.2),(8,.int x.1)],aF [((7,0),some (.ow 3 x.2.2 (rows qtO x.2.1)))]⟩) (fun x=>x.1<=a.length/\x.2.1=dW fm (a.take x.1) b/\x.2.2=x.2.1.length/\x.2.2<=x.1*600) (fun x=>a.length - x.1) (0,[],0) (by simp[C.bK,rows]) (by simp[dW]) ?_;intro x1 hx1 R1 hR1;obtain⟨i,out,m⟩:=x1;obtain⟨hi,hout,hm,hmb⟩:=hx1;dsimp only at hi hout hm hmb ⊢;apply aa;apply aa;refine ab fun K hK=>?_;simp[C.bK];apply hK;clear hK K;show AWp _ _ _ _ _;refine ap _ rfl (fun hc1=>?_) (fun hc1=>?_)
 ·have hia:i < a.length:=by have:=d_t hc1;omega
  have hA:=ha.2 _ (List.getElem_mem hia);apply au;show AWp _ _ _ _ _;apply aa;apply ak;apply aa;refine ab fun K hK=>?_;simp[C.bK];apply hK;clear hK K;show AWp _ _ _ _ _;apply ak;refine bm (fun x:Nat×List Qtm×Nat=>⟨ofL [(0,.d (.sh 1 fm.length (rows lS fm))),(1,.d (.sh 3 a.length (rows qtS a))),(2,.d (.sh 3 b.length (rows qtS b))),(7,.al (7,0) [] 0 x.2.2),(8,.int i),(9,.int x.1)],aF [((7,0),some (.ow 3 x.2.2 (rows qtO x.2.1)))]⟩) (fun x=>x.1<=b.length/\x.2.1=out ++ (b.take x.1).map (gi fm a[i])/\x.2.2=x.2.1.length/\x.2.2<=i*600+x.1) (fun x=>b.length - x.1) (0,out,m) (by simp[C.bK]) ⟨by simp,by simp,hm,by dsimp only;omega⟩ ?_;intro x2 hx2 R2 hR2;obtain⟨j,o2,m2⟩:=x2;obtain⟨hj,ho2,hm2,hm2b⟩:=hx2;dsimp only at hj ho2 hm2 hm2b ⊢;apply aa;apply aa;refine ab fun K hK=>?_;simp[C.bK];apply hK;clear hK K;show AWp _ _ _ _ _;refine ap _ rfl (fun hc2=>?_) (fun hc2=>?_)
  ·have hjb:j < b.length:=by have:=d_t hc2;omega
   have hB:=hb.2 _ (List.getElem_mem hjb);apply au;show AWp _ _ _ _ _;apply aa;apply ak;apply aa;refine ab fun K hK=>?_;simp[C.bK];apply hK;clear hK K;show AWp _ _ _ _ _;apply aa;apply aa;refine ab fun K hK=>?_;simp[C.bK];apply hK;clear hK K;show AWp _ _ _ _ _;apply ak;refine bm (fun x:Nat=>⟨ofL [(0,.d (.sh 1 fm.length (rows lS fm))),(1,.d (.sh 3 a.length (rows qtS a))),(2,.d (.sh 3 b.length (rows qtS b))),(7,.al (7,0) [] 0 m2),(8,.int i),(9,.int j),(10,.al (10,0) [] 0 x),(11,.int x)],aF [((7,0),some (.ow 3 m2 (rows qtO o2))),((10,0),some (.ow 1 x (ints (bc 1 (a[i].e.take x) (b[j].e.take x)))))]⟩) (fun x=>x<=fm.length) (fun x=>fm.length - x) 0 (by simp[C.bK,bc,ints]) (by simp) ?_;intro x3 hx3 R3 hR3;apply aa;apply aa;refine ab fun K hK=>?_;simp[C.bK];apply hK;clear hK K;show AWp _ _ _ _ _;refine ap _ rfl (fun hc3=>?_) (fun hc3=>?_)
   ·have hk:x3 < fm.length:=by have:=d_t hc3;omega
    have hka:x3 < a[i].e.length:=by omega
    have hkb:x3 < b[j].e.length:=by omega
    have q1:=hA.2.1 _ (List.getElem_mem hka);have q2:=hB.2.1 _ (List.getElem_mem hkb);apply au;show AWp _ _ _ _ _;apply aa;apply ak;refine bR [(true,0),(true,1),(true,2),(true,3),(true,4),(true,5),(true,6),(true,7),(true,8),(true,9),(true,10),(true,11),(true,12),(true,13),(true,14),(true,15),(true,16),(true,17),(false,18),(false,19),(true,20)] ⟨by kernel_rfl,by kernel_rfl⟩ ([0,1,2,3,4,5,6,7,8,9,10,11,12,13,14,15,16,17,18,19,20]) rfl fun K hK=>?_;refine oEn fun L hL=>?_;simp[C.bK,hia,hjb,bI hia,bI hjb,hka,hkb,ao,vd,<-wC _ _ _ hka hkb,aj (x:=a[i].e[x3]+b[j].e[x3]) (by omega) (by omega),show (x3+1)*8<=140737488355328 by omega];apply hL;clear hL L;simp[C.bK,hia,hjb,bI hia,bI hjb,hka,hkb,ao,vd,<-wC _ _ _ hka hkb,aj (x:=a[i].e[x3]+b[j].e[x3]) (by omega) (by omega),show (x3+1)*8<=140737488355328 by omega];apply hK;clear hK K;show AWp _ _ _ _ _;refine ab fun K hK=>?_;simp[C.bK,ay (show x3 < 4611686018427387904 by omega)];apply hK;clear hK K;simp[C.bK];exact hR3 (x3+1) hk (by omega)
   ·have hk:x3=fm.length:=by have:=d_f hc3;omega
    have ek:bc 1 (a[i].e.take x3) (b[j].e.take x3)=bc 1 a[i].e b[j].e:=by rw[List.take_of_length_le (by omega),List.take_of_length_le (by omega)]
    subst hk;have hsk:=QL.sk hok ha hb (List.getElem_mem hia) (List.getElem_mem hjb);have hsb:=hsk.bd;have hcc:=rh hA.2.2.2 hB.2.2.2;have hel:(bc 1 a[i].e b[j].e).length=fm.length:=by rw[dh _ _ _ (by omega)];omega
    apply aZ;show AWp _ _ _ _ _;refine bR [(true,0),(true,1),(true,2),(true,3),(true,4),(true,5),(true,6),(true,7),(true,8),(true,9),(true,10),(true,11),(true,12),(true,13),(true,14),(true,15),(true,16),(true,17),(true,18),(true,19),(true,20),(true,21),(true,22),(true,23),(true,26),(true,27),(true,28),(true,29),(true,30),(true,31),(true,32),(true,33),(true,34),(true,35),(true,36),(false,24),(true,25),(true,37),(false,38),(false,39),(true,40)] ⟨by kernel_rfl,by kernel_rfl⟩ ([0,1,2,3,4,5,6,7,8,9,10,11,12,13,14,15,16,17,18,19,20,21,22,23,26,27,28,29,30,31,32,33,34,35,36,24] ++ ([25,37,38,39,40])) rfl fun K hK=>?_;refine oSg fun L hL=>?_;simp[C.bK,ek,hia,hjb,bI hia,bI hjb,bY hia,bY hjb,bW hia,bW hjb,aj (x:=a[i].h+b[j].h) (by omega) (by omega),aj (x:=a[i].h+b[j].h+skw fm a[i].e b[j].e) (by omega) (by omega),aj (x:=a[i].c*b[j].c) (by omega) (by omega),show (m2+1)*40<=140737488355328 by omega];refine ae (jY fm a[i].e b[j].e hsk) (by simp) (by simp) ?_;simp[C.bK,ek,hia,hjb,bI hia,bI hjb,bY hia,bY hjb,bW hia,bW hjb,aj (x:=a[i].h+b[j].h) (by omega) (by omega),aj (x:=a[i].h+b[j].h+skw fm a[i].e b[j].e) (by omega) (by omega),aj (x:=a[i].c*b[j].c) (by omega) (by omega),show (m2+1)*40<=140737488355328 by omega];apply hL;clear hL L;refine oEn fun L hL=>?_;simp[C.bK,ek,hia,hjb,bI hia,bI hjb,bY hia,bY hjb,bW hia,bW hjb,aj (x:=a[i].h+b[j].h) (by omega) (by omega),aj (x:=a[i].h+b[j].h+skw fm a[i].e b[j].e) (by omega) (by omega),aj (x:=a[i].c*b[j].c) (by omega) (by omega),show (m2+1)*40<=140737488355328 by omega];apply hL;clear hL L;simp[C.bK,ek,hia,hjb,bI hia,bI hjb,bY hia,bY hjb,bW hia,bW hjb,aj (x:=a[i].h+b[j].h) (by omega) (by omega),aj (x:=a[i].h+b[j].h+skw fm a[i].e b[j].e) (by omega) (by omega),aj (x:=a[i].c*b[j].c) (by omega) (by omega),show (m2+1)*40<=140737488355328 by omega];apply hK;clear hK K;show AWp _ _ _ _ _;refine ab fun K hK=>?_;simp[C.bK,ay (show j < 4611686018427387904 by omega)];apply hK;clear hK K;simp[C.bK];have hrow:rows qtO o2 ++ [D.ow 1 fm.length (ints (bc 1 a[i].e b[j].e)),D.v (.int .i64 (a[i].h+b[j].h+skw fm a[i].e b[j].e)),D.v (.int .i64 (a[i].c*b[j].c))]=rows qtO (o2 ++ [gi fm a[i] b[j]]):=by
     rw[<-gv];simp only[gi,hel]
    refine cast (congrArg R2 ?_) (hR2 (j+1,o2 ++ [gi fm a[i] b[j]],m2+1) ⟨hjb,?_,by dsimp only;rw[hm2];simp,by dsimp only;omega⟩ (by dsimp only;omega))
    ·simp[hrow]
    ·dsimp only;rw[ho2,List.take_succ_eq_append_getElem hjb,List.map_append,List.append_assoc];rfl
  ·have hjb:j=b.length:=by have:=d_f hc2;omega
   apply aZ;show AWp _ _ _ _ _;refine ab fun K hK=>?_;simp[C.bK,ay (show i < 4611686018427387904 by omega)];apply hK;clear hK K;simp[C.bK];refine hR1 (i+1,o2,m2) ⟨hia,?_,hm2,by dsimp only;omega⟩ (by dsimp only;omega);dsimp only;rw[uV hia,<-hout,ho2,hjb,List.take_length]
 ·have hia:i=a.length:=by have:=d_f hc1;omega
  have hfull:out=dW fm a b:=by rw[hout,hia,List.take_length]
  subst hfull;subst hm;apply aZ;show AWp _ _ _ _ _;apply aa;refine aK ([0,1] ++ ([2])) rfl fun K hK=>?_;refine oSg fun L hL=>?_;simp[C.bK];refine ae (jh (dW fm a b) (by omega) (xp ha hb) (fun t ht=>by have:=sb ha hb t ht;omega)) (by simp) (by simp) ?_;simp[C.bK];apply hL;clear hL L;refine oEn fun L hL=>?_;simp[C.bK];apply hL;clear hL L;simp[C.bK];apply hK;clear hK K;show AWp _ _ _ _ _;apply aI;simp[C.bK]
theorem ue (fm:List (List Int)) (f g:Qsm) (h0:fm.length < 4611686018427387904) (hI:I64 fm) (hx:f.ts.length < 4611686018427387904) (hxe:∀ t∈f.ts,t.e.length < 4611686018427387904) (hy:g.ts.length < 4611686018427387904) (hye:∀ t∈g.ts,t.e.length < 4611686018427387904):af Tryz.prog F.cI [.d (.sh 1 fm.length (rows lS fm)),aQ f,aQ g] [] true (fun outs res=>outs=[]/\eb res [.ag (qO (eK fm f g).1),.one (D.bool (eK fm f g).2)]):=by
 refine af.ob (C:=C.cI) (n:=Tryz.f144.ntmps) bC bD Tryz.func144 rfl rfl ?_;simp only[Tryz.f144];apply aa;refine ab fun K hK=>?_;simp[C.cI,qS];apply hK;clear hK K;show AWp _ _ _ _ _;apply aa;apply aa;refine aK ([0,1,2,3] ++ ([4])) rfl fun K hK=>?_;refine oSg fun L hL=>?_;simp[C.cI,qS];refine ae (ru fm f g h0 hI hx hxe hy hye) (by simp) (by simp) ?_;simp[C.cI,qS];apply hL;clear hL L;refine oEn fun L hL=>?_;simp[C.cI,qS];apply hL;clear hL L;simp[C.cI,qS];apply hK;clear hK K;show AWp _ _ _ _ _;refine ap _ rfl (fun hc1=>?_) (fun hc1=>?_)
 ·have hr:¬ (bp fm/\aL f/\aL g/\f.v=fm.length/\g.v=fm.length):=by
   intro ⟨q1,q2,q3,q4,q5⟩;simp[q1,q2,q3,q4,q5] at hc1
  have hm:eK fm f g=(cM,false):=if_neg hr;apply aa;refine ab fun K hK=>?_;simp[C.cI,qS];apply hK;clear hK K;show AWp _ _ _ _ _;apply aI;simp[C.cI,qS,hm,qO,cM,rows]
 ·have hr:bp fm/\aL f/\aL g/\f.v=fm.length/\g.v=fm.length:=by simpa using hc1
  obtain⟨hok,hf,hg,hfv,hgv⟩:=hr;have hfq:=lU hf hfv;have hgq:=lU hg hgv;have hn8:fm.length<=8:=by have:=hok.1;omega
  have hm:eK fm f g=enQ f.v (gaQ (dW fm f.ts g.ts)):=if_pos ⟨hok,hf,hg,hfv,hgv⟩;have hgal:=ss (dW fm f.ts g.ts);have hpl:=nB fm f.ts g.ts;have hab:f.ts.length*g.ts.length<=600*600:=Nat.mul_le_mul hfq.1 hgq.1;apply au;show AWp _ _ _ _ _;apply aa;refine bR [(true,0),(true,1),(true,2),(true,3),(true,4),(true,6),(true,7),(false,5),(false,8),(true,9),(true,10),(false,11),(true,12)] ⟨by kernel_rfl,by kernel_rfl⟩ ([0,1,2,3,4,6,7,5] ++ ([8] ++ ([9,10,11,12]))) rfl fun K hK=>?_;refine oSg fun L hL=>?_;simp[C.cI,qS];refine ae (oF fm f.ts g.ts hok hfq hgq) (by simp) (by simp) ?_;simp[C.cI,qS];apply hL;clear hL L;refine oSg fun L hL=>?_;simp[C.cI,qS];refine ae (s9 (gaQ (dW fm f.ts g.ts)) f.v (by omega) (ye (p:=fun e=>e.length < 4611686018427387904) fun t ht=>by have:=sb hfq hgq t ht;omega)) (by simp) (by simp) ?_;simp[C.cI,qS];apply hL;clear hL L;refine oEn fun L hL=>?_;simp[C.cI,qS];apply hL;clear hL L;simp[C.cI,qS];apply hK;clear hK K;show AWp _ _ _ _ _;apply aI;simp[C.cI,qS,hm,qO]
theorem Fj (fm:List (List Int)) (f g:Qsm) (h0:fm.length < 4611686018427387904) (hI:I64 fm) (hx:f.ts.length < 4611686018427387904) (hxe:∀ t∈f.ts,t.e.length < 4611686018427387904) (hy:g.ts.length < 4611686018427387904) (hye:∀ t∈g.ts,t.e.length < 4611686018427387904):af Tryz.prog F.cI [.d (.sh 1 fm.length (rows lS fm)),aQ f,aQ g] [] true (fun outs res=>outs=[]/\res=[.ag (qO (eK fm f g).1),.one (D.bool (eK fm f g).2)]):=(ue fm f g h0 hI hx hxe hy hye).weak1
abbrev QK:=List Int×Int
def kq (k:QK):List Int:=pad k.1 ++ [k.2]
theorem Ac {a b:QK} {n:Nat} (ha:a.1.length=n) (hb:b.1.length=n) (h:kq a=kq b):a=b:=by
 unfold kq at h;obtain⟨h1,h2⟩:=List.append_inj' h rfl;have:=Bh (ha.trans hb.symm) h1;simp only[List.cons.injEq,and_true] at h2;exact Prod.ext this h2
theorem Dr {k:QK} (h:k.1.length<=8):(kq k).length=9:=by
 unfold kq;rw[List.length_append,fC h];rfl
def uq (n:Nat) (x:List Int):QK:=(x.take n,x.getD 8 0)
theorem yf {k:QK} {n:Nat} (h:k.1.length=n) (h8:n<=8):uq n (kq k)=k:=by
 have hp:=fC (e:=k.1) (by omega);unfold uq kq;rw[List.take_append_of_le_length (by omega),<-h,yo,List.getD_eq_getElem?_getD,List.getElem?_append_right (by omega),hp];rfl
structure gB (n:Nat) (es:List (List Int×Int)) (l:List (QK×Int)):Prop where
 nod:(es.map (·.1)).Nodup
 nz:∀ x∈es,x.2≠0/\∃ e:QK,e.1.length=n/\x.1=kq e
 val:∀ e:QK,e.1.length=n->(dQ (kq e) es).getD 0=co e l
theorem gB.nil (n:Nat):gB n [] []:=⟨by simp,by simp,fun e _=>rfl⟩
theorem gB.add {n:Nat} {es:List (List Int×Int)} {l:List (QK×Int)} (h:gB n es l) {e:QK} (he:e.1.length=n) (c:Int):gB n (nY es (kq e) c) ((e,c) :: l):=by
 have hv:=h.val e he;unfold nY;split
 ·rename_i hz;refine⟨uz h.nod,fun x hx=>h.nz x (tC hx),fun q hq=>?_⟩;rw[xe _ h.nod]
  by_cases e1:e=q
  ·subst e1;rw[if_pos rfl];simp only[co,if_true,Option.getD_none];omega
  ·rw[if_neg (fun e2=>e1 (Ac he hq e2)),h.val q hq];simp[co,e1]
 ·rename_i hz;refine⟨uP h.nod,fun x hx=>?_,fun q hq=>?_⟩
  ·rcases ta hx with rfl | hx
   ·exact⟨hz,e,he,rfl⟩
   ·exact h.nz x hx
  ·rw[wN]
   by_cases e1:e=q
   ·subst e1;rw[if_pos rfl];simp only[co,if_true,Option.getD_some];omega
   ·rw[if_neg (fun e2=>e1 (Ac he hq e2)),h.val q hq];simp[co,e1]
theorem gB.len9 {n:Nat} {es:List (List Int×Int)} {l:List (QK×Int)} (h:gB n es l) (hn:n<=8):kB 9 es:=fun x hx=>by
 obtain⟨_,e,he,e2⟩:=h.nz x hx;rw[e2];exact Dr (by omega)
def gz (n:Nat) (x:List Int×Int):QK×Int:=(uq n x.1,x.2)
theorem xu {n:Nat} {es:List (List Int×Int)} {l:List (QK×Int)} (h:gB n es l) (h8:n<=8) (hl:∀ x∈l,x.1.1.length=n):∀ q,co q (es.map (gz n))=co q l:=by
 intro q
 by_cases hq:q.1.length=n
 ·rw[<-h.val q hq];have:∀ (es:List (List Int×Int)),(es.map (·.1)).Nodup->(∀ x∈es,∃ e:QK,e.1.length=n/\x.1=kq e)->co q (es.map (gz n))=(dQ (kq q) es).getD 0:=by
   intro es
   induction es with
   | nil=>intro _ _;rfl
   | cons x es ih=>
    intro hn hp;simp only[List.map_cons,List.nodup_cons] at hn;obtain⟨e,he,e2⟩:=hp x (by simp);have ht:(gz n x).1=e:=by
     simp only[gz];rw[e2,yf he h8]
    simp only[List.map_cons,co,dQ];rw[ih hn.2 fun y hy=>hp y (by simp[hy]),ht]
    by_cases e3:e=q
    ·subst e3;rw[if_pos rfl,if_pos e2,qL fun y hy e4=>hn.1 (by rw[e2,<-e4];exact List.mem_map.2 ⟨y,hy,rfl⟩)];simp[gz]
    ·rw[if_neg e3,if_neg (fun e4=>e3 (Ac he hq (e2.symm.trans e4)))];simp
  exact this es h.nod fun x hx=>(h.nz x hx).2
 ·rw[fc q l fun x hx e=>hq (e ▸ hl x hx),fc q _ fun x hx e=>hq ?_];obtain⟨y,hy,rfl⟩:=List.mem_map.1 hx;obtain⟨_,e',he',e2⟩:=h.nz y hy;rw[<-e];simp only[gz];rw[e2,yf he' h8];exact he'
theorem Cw {n:Nat} {es:List (List Int×Int)} {l t:List (QK×Int)} (h:gB n es l) (h8:n<=8) (hl:∀ x∈l,x.1.1.length=n) (hp:t.Perm (es.map (gz n))) (hd:dY qlt t):t=nf qlt l:=by
 refine eq c7 hd (fun x hx=>?_) fun k=>by rw[lu k hp,xu h h8 hl]
 obtain⟨y,hy,rfl⟩:=List.mem_map.1 (hp.mem_iff.1 hx);exact (h.nz y hy).1
theorem vg {n:Nat} {es:List (List Int×Int)} {l:List (QK×Int)} (h:gB n es l) (h8:n<=8):((es.map (gz n)).map (·.1)).Nodup:=by
 have:∀ es:List (List Int×Int),(es.map (·.1)).Nodup->(∀ x∈es,∃ e:QK,e.1.length=n/\x.1=kq e)->((es.map (gz n)).map (·.1)).Nodup:=by
  intro es
  induction es with
  | nil=>intro _ _;simp
  | cons x es ih=>
   intro hn hp;simp only[List.map_cons,List.nodup_cons] at hn ⊢;refine⟨fun hm=>?_,ih hn.2 fun y hy=>hp y (by simp[hy])⟩;obtain⟨y,hy,e⟩:=List.mem_map.1 hm;obtain⟨z,hz,rfl⟩:=List.mem_map.1 hy;obtain⟨a,ha,e1⟩:=hp x (by simp);obtain⟨b,hb,e2⟩:=hp z (by simp[hz]);refine hn.1 (List.mem_map.2 ⟨z,hz,?_⟩);simp only[gz] at e;rw[e1,e2] at e ⊢;rw[yf ha h8,yf hb h8] at e;rw[e]
 exact this es h.nod fun x hx=>(h.nz x hx).2
theorem Ch {n:Nat} {es:List (List Int×Int)} {l:List (QK×Int)} (h:gB n es l) (h8:n<=8) (hl:∀ x∈l,x.1.1.length=n):nf qlt (es.map (gz n))=nf qlt l:=
 eq c7 (fa c7 _) (iq _) fun k=>by rw[gU,xu h h8 hl]
theorem o8 {n:Nat} {es:List (List Int×Int)} {l:List (QK×Int)} (h:gB n es l) (h8:n<=8) (hl:∀ x∈l,x.1.1.length=n):(nf qlt l).length=es.length:=by
 rw[<-Ch h h8 hl,xC _ (vg h h8),List.length_map];intro x hx;obtain⟨y,hy,rfl⟩:=List.mem_map.1 hx;exact (h.nz y hy).1
set_option maxRecDepth 10000
set_option maxHeartbeats 2000000
attribute [local simp] jV dP jE
theorem nine {l:List Int} (h:l.length=9):∃ a b c d e f g k m,l=[a,b,c,d,e,f,g,k,m]:=by
 match l,h with
 | [a,b,c,d,e,f,g,k,m],_=>exact⟨a,b,c,d,e,f,g,k,m,rfl⟩
def A8:Prop:=∀ (ts:List Qtm),(∀ t∈ts,t.e.length < 4611686018427387904)->(ts.map qk).Nodup->ts.length < 4611686018427387904 ->
 af Tryz.prog F.eB [.al (0,0) [] 0 ts.length,.d (.fn F.cF [])] [((0,0),.ow 3 ts.length (rows qtO ts))] true (fun outs res=>∃ r:List Qtm,r.Perm ts/\ib r/\outs=[.ow 3 ts.length (rows qtO r)]/\res=[])
theorem EH {n:Nat} {es:List (List Int×Int)} {l:List (QK×Int)} (h:gB n es l) (h8:n<=8) (hl:∀ x∈l,x.1.1.length=n) (hm:600 < es.length):enQ n ((nf qlt l).map qt)=(cM,false):=by
 unfold enQ;rw[if_neg];intro hr;have:=hr.2.1;simp only[List.length_map] at this;rw[o8 h h8 hl] at this;omega
theorem sh9 (n:Nat) (k0 k1 k2 k3 k4 k5 k6 k7 k8:Int):shareL (List.take n [D.v (.int .i64 k0),D.v (.int .i64 k1),D.v (.int .i64 k2),D.v (.int .i64 k3),D.v (.int .i64 k4),D.v (.int .i64 k5),D.v (.int .i64 k6),D.v (.int .i64 k7),D.v (.int .i64 k8)])=ints (List.take n [k0,k1,k2,k3,k4,k5,k6,k7,k8]):=by
 rw[show ([D.v (.int .i64 k0),D.v (.int .i64 k1),D.v (.int .i64 k2),D.v (.int .i64 k3),D.v (.int .i64 k4),D.v (.int .i64 k5),D.v (.int .i64 k6),D.v (.int .i64 k7),D.v (.int .i64 k8)]:List D)=ints [k0,k1,k2,k3,k4,k5,k6,k7,k8] from rfl,qV,di]
theorem gR (v:Int):af Tryz.prog F.fG [.int v] [] true (fun outs res=>outs=[]/\res=[.one (.bx [D.int v,.mp []])]):=by
 refine af.ob (C:=C.fG) (n:=Tryz.f64.ntmps) bC bD Tryz.func64 rfl rfl ?_;simp only[Tryz.f64];apply aa;refine ab fun K hK=>?_;simp[C.fG];apply hK;clear hK K;show AWp _ _ _ _ _;apply aa;refine ab fun K hK=>?_;simp[C.fG];apply hK;clear hK K;show AWp _ _ _ _ _;apply aI;simp[C.fG]
theorem fF (v c:Int) (es:List (List Int×Int)) (k0 k1 k2 k3 k4 k5 k6 k7 k8:Int) (hes:kB 9 es) (hw:-9223372036854775808<=c+(dQ [k0,k1,k2,k3,k4,k5,k6,k7,k8] es).getD 0/\c+(dQ [k0,k1,k2,k3,k4,k5,k6,k7,k8] es).getD 0 < 9223372036854775808):af Tryz.prog F.db [.pt (0,0) [] 0,.ag [.int k0,.int k1,.int k2,.int k3,.int k4,.int k5,.int k6,.int k7,.int k8],.int c] [((0,0),.bx [D.int v,.mp es])] true (fun outs res=>outs=[.bx [D.int v,.mp (nY es [k0,k1,k2,k3,k4,k5,k6,k7,k8] c)]]/\res=[]):=by
 refine af.ob (C:=C.db) (n:=Tryz.f65.ntmps) bC bD Tryz.func65 rfl rfl ?_;simp only[Tryz.f65];apply aa;refine ab fun K hK=>?_;simp[C.db];apply hK;clear hK K;show AWp _ _ _ _ _;apply aa;refine eG (.take 0 (.take 1 (.take 2 (.take 3 (.take 4 (.take 5 (.take 6 (.take 7 (.take 8 (.done)))))))))) ⟨by kernel_rfl,by kernel_rfl⟩ fun K hK=>?_;simp[C.db,hes];rw[aj (x:=c+(dQ [k0,k1,k2,k3,k4,k5,k6,k7,k8] es).getD 0) hw.1 hw.2];apply hK;clear hK K;show AWp _ _ _ _ _;apply aa;refine ab fun K hK=>?_;simp[C.db];apply hK;clear hK K;show AWp _ _ _ _ _;refine ap _ rfl (fun hc1=>?_) (fun hc1=>?_)
 ·have hz:c+(dQ [k0,k1,k2,k3,k4,k5,k6,k7,k8] es).getD 0=0:=by simpa using hc1
  refine eG (.take 0 (.take 1 (.take 2 (.take 3 (.take 4 (.all [(5,.done)])))))) ⟨by kernel_rfl,by kernel_rfl⟩ fun K hK=>?_;simp[C.db,hes];apply hK;clear hK K;simp[C.db,nY,hz]
 ·have hz:¬ c+(dQ [k0,k1,k2,k3,k4,k5,k6,k7,k8] es).getD 0=0:=by simpa using hc1
  refine eG (.take 0 (.take 1 (.take 2 (.take 3 (.take 4 (.take 5 (.all [(6,.done)]))))))) ⟨by kernel_rfl,by kernel_rfl⟩ fun K hK=>?_;simp[C.db,hes];apply hK;clear hK K;simp[C.db,nY,hz]
theorem np (x y:Qtm) (hx:x.e.length < 4611686018427387904) (hy:y.e.length < 4611686018427387904):af Tryz.prog F.cF [aQT x,aQT y] [] true (fun outs res=>outs=[]/\res=[.one (D.int (nh x.e x.h y.e y.h))]):=by
 refine af.ob (C:=C.cF) (n:=Tryz.f119.ntmps) bC bD Tryz.func119 rfl rfl ?_;simp only[Tryz.f119];apply aa;refine ab fun K hK=>?_;simp[C.cF];apply hK;clear hK K;show AWp _ _ _ _ _;apply aa;refine aK ([0,1,2,3,4,5,6,7,8] ++ ([9])) rfl fun K hK=>?_;refine oSg fun L hL=>?_;simp[C.cF];refine ae (jJ x.e x.h y.e y.h hy) (by simp) (by simp) ?_;simp[C.cF];apply hL;clear hL L;refine oEn fun L hL=>?_;simp[C.cF];apply hL;clear hL L;simp[C.cF];apply hK;clear hK K;show AWp _ _ _ _ _;apply aI;simp[C.cF]
theorem oD (hSort:A8) (n:Nat) (es:List (List Int×Int)) (l:List (QK×Int)) (hM:gB n es l) (hl:∀ x∈l,x.1.1.length=n) (h1:1<=n) (h8:n<=8) (hL:l.length<=1000000):af Tryz.prog F.bk [.pt (0,0) [] 0] [((0,0),.bx [D.int n,.mp es])] true (fun outs res=>outs=[.bx [D.int n,.mp es]]/\eb res [.ag (qO (enQ n ((nf qlt l).map qt)).1),.one (D.bool (enQ n ((nf qlt l).map qt)).2)]):=by
 refine af.ob (C:=C.bk) (n:=Tryz.f66.ntmps) bC bD Tryz.func66 rfl rfl ?_;simp only[Tryz.f66];apply aa;refine ab fun K hK=>?_;simp[C.bk];apply hK;clear hK K;show AWp _ _ _ _ _;apply aa;apply aa;refine ab fun K hK=>?_;simp[C.bk];apply hK;clear hK K;show AWp _ _ _ _ _;refine ap _ rfl (fun hc1=>?_) (fun hc1=>?_)
 ·have hm:=EH hM h8 hl (by have:=d_t hc1;omega);apply aa;refine ab fun K hK=>?_;simp[C.bk];apply hK;clear hK K;show AWp _ _ _ _ _;apply aI;simp[C.bk,hm,qO,cM,rows]
 ·have h600:es.length<=600:=by have:=d_f hc1;omega
  apply au;show AWp _ _ _ _ _;apply aa;refine ab fun K hK=>?_;simp[C.bk];apply hK;clear hK K;show AWp _ _ _ _ _;apply aa;apply aa;refine ab fun K hK=>?_;simp[C.bk];apply hK;clear hK K;show AWp _ _ _ _ _;apply ak;refine lY (fun x:List Qtm×List (List Int×Int)×Option (List Int×Int)=>⟨ofL [(0,.pt (0,0) [] 0),(2,.pt (2,0) [] 0),(4,.pt (4,0) [] 0),(23,.it (23,0) (0,0) [1] x.2.1 x.2.2),(1000,.pt (0,0) [] 0)],aF [((0,0),some (.bx [D.int n,.mp es])),((2,0),some (.bx [D.int 0,.v (.slice none 0 0)])),((4,0),some (.bx [D.int n,.ow 3 x.1.length (rows qtO x.1)])),((23,0),some .itr)]⟩) (fun x=>(x.1.map qp ++ x.2.1.map (gz n)).Perm (es.map (gz n))/\∀ y∈x.2.1,y∈es) (fun x=>x.2.1.length) ([],es,none) [.cell (4,0) [] 1 3] (by simp[C.bk,rows];funext q;by_cases e4:q=(4,0);(subst e4;rfl);by_cases e9:q=(9999,0);(subst e9;rfl);simp[aF,e4,e9,Ne.symm e4]) ⟨by simp,fun y hy=>hy⟩ ?_;intro x1 hx1 R1 hR1;obtain⟨q,rest,cur⟩:=x1;obtain⟨hq,hin⟩:=hx1;dsimp only at hq hin ⊢;apply aa;refine ab fun K hK=>?_;simp[C.bk];refine⟨fun hrest=>?_,fun i xk xc hx=>?_⟩
  ·apply hK;clear hK K;show AWp _ _ _ _ _;apply aa;refine ap _ rfl (fun hc2=>?_) (fun hc2=>?_)
   ·simp at hc2
   ·subst hrest;have hq2:(q.map qp).Perm (es.map (gz n)):=by simpa using hq
    have hqe:∀ t∈q,t.e.length=n:=fun t ht=>by
     have h3:=hq2.subset (List.mem_map.2 ⟨t,ht,rfl⟩);obtain⟨y,hy,e⟩:=List.mem_map.1 h3;have e2:t.e=y.1.take n:=by
      have:=congrArg (fun z:QK×Int=>z.1.1) e;simpa[qp,qk,gz,uq] using this.symm
     rw[e2,List.length_take,hM.len9 h8 y hy];omega
    have hqn:(q.map qk).Nodup:=by
     have h3:=(hq2.map (·.1)).nodup_iff.2 (vg hM h8);rw[List.map_map] at h3;exact h3
    have hql:q.length=es.length:=by simpa using hq2.length_eq
    apply aZ;show AWp _ _ _ _ _;apply aa;refine aK ([0,1,2] ++ ([])) rfl fun K hK=>?_;refine oSg fun L hL=>?_;simp[C.bk];refine fh (hSort q (fun t ht=>by have:=hqe t ht;omega) hqn (by omega)) (by simp) (by simp) (by simp) ?_;rintro outs res ⟨r,hr,hd,rfl,rfl⟩;simp[C.bk];apply hL;clear hL L;refine oEn fun L hL=>?_;simp only[d7];apply hL;clear hL L;simp[C.bk];apply hK;clear hK K;show AWp _ _ _ _ _;apply aa;apply aa;have hrl:r.length=q.length:=hr.length_eq;have hrn:r.map qp=nf qlt l:=Cw hM h8 hl ((hr.map qp).trans hq2) (by
     unfold dY;rw[List.pairwise_map];exact hd)
    have hrt:(nf qlt l).map qt=r:=by
     rw[<-hrn,zW]
    refine aK ([0,1] ++ ([2])) rfl fun K hK=>?_;refine oSg fun L hL=>?_;simp[C.bk,hrl];refine ae (cZ ⟨n,r⟩ (by dsimp only;omega) (fun t ht=>by have:=hqe t (hr.subset ht);omega)) (by simp[hrl]) (by simp) ?_;simp[C.bk,hrl];apply hL;clear hL L;refine oEn fun L hL=>?_;simp[C.bk,hrl];apply hL;clear hL L;simp[C.bk,hrl];apply hK;clear hK K;show AWp _ _ _ _ _;refine ap _ rfl (fun hc3=>?_) (fun hc3=>?_)
    ·have hR:¬ aL ⟨n,r⟩:=by simpa using hc3
     have hm:enQ n ((nf qlt l).map qt)=(cM,false):=by rw[hrt];exact if_neg hR
     apply aa;refine ab fun K hK=>?_;simp[C.bk];apply hK;clear hK K;show AWp _ _ _ _ _;apply aI;simp[C.bk,hm,qO,cM,rows]
    ·have hR:aL ⟨n,r⟩:=by simpa using hc3
     have hm:enQ n ((nf qlt l).map qt)=(⟨n,r⟩,true):=by rw[hrt];exact if_pos hR
     apply au;show AWp _ _ _ _ _;apply aa;refine ab fun K hK=>?_;simp[C.bk];apply hK;clear hK K;show AWp _ _ _ _ _;apply aI;simp[C.bk,hm,qO,hrl]
  ·apply hK;clear hK K;show AWp _ _ _ _ _;apply aa;refine ap _ rfl (fun hc4=>?_) (fun hc4=>?_)
   ·have hxm:(xk,xc)∈rest:=List.mem_of_getElem? hx;have hxl:=hM.len9 h8 _ (hin _ hxm);dsimp only at hxl;obtain⟨k0,k1,k2,k3,k4,k5,k6,k7,k8,rfl⟩:=nine hxl;have hql:q.length+rest.length=es.length:=by simpa using hq.length_eq
    have hil:i < rest.length:=by
     rcases Nat.lt_or_ge i rest.length with h | h
     ·exact h
     ·rw[List.getElem?_eq_none h] at hx;simp at hx
    apply au;show AWp _ _ _ _ _;apply ak;apply aa;refine ab fun K hK=>?_;simp[C.bk];apply hK;clear hK K;show AWp _ _ _ _ _;refine bR [(true,0),(true,1),(true,2),(true,3),(true,4),(true,5),(true,6),(true,7),(true,9),(true,10),(true,11),(false,8),(true,12),(false,13),(false,14),(true,15),(false,16)] ⟨by kernel_rfl,by kernel_rfl⟩ ([0,1,2,3,4,5,6,7,9,10,11,8] ++ ([12,13,14,15,16])) rfl fun K hK=>?_;refine oSg fun L hL=>?_;simp[C.bk,gv,show ((n:Int)<=8) by omega,h8,Nat.min_eq_left h8,Nat.min_eq_left (show n<=9 by omega),sh9,show (q.length+1)*40<=140737488355328 by omega];refine ae (rR ([k0,k1,k2,k3,k4,k5,k6,k7,k8].take n) (by simp;omega)) (by simp[gv,show ((n:Int)<=8) by omega,h8,Nat.min_eq_left h8,Nat.min_eq_left (show n<=9 by omega),sh9,show (q.length+1)*40<=140737488355328 by omega]) (by simp) ?_;simp[C.bk,gv,show ((n:Int)<=8) by omega,h8,Nat.min_eq_left h8,Nat.min_eq_left (show n<=9 by omega),sh9,show (q.length+1)*40<=140737488355328 by omega];apply hL;clear hL L;refine oEn fun L hL=>?_;simp[C.bk,gv,show ((n:Int)<=8) by omega,h8,Nat.min_eq_left h8,Nat.min_eq_left (show n<=9 by omega),sh9,show (q.length+1)*40<=140737488355328 by omega];apply hL;clear hL L;simp[C.bk,gv,show ((n:Int)<=8) by omega,h8,Nat.min_eq_left h8,Nat.min_eq_left (show n<=9 by omega),sh9,show (q.length+1)*40<=140737488355328 by omega];apply hK;clear hK K;simp[C.bk];have htl:([k0,k1,k2,k3,k4,k5,k6,k7,k8].take n).length=n:=by simp;omega
    have hrow:rows qtO q ++ [D.ow 1 n (ints (List.take n [k0,k1,k2,k3,k4,k5,k6,k7,k8])),D.v (.int .i64 k8),D.v (.int .i64 xc)]=rows qtO (q ++ [⟨List.take n [k0,k1,k2,k3,k4,k5,k6,k7,k8],k8,xc⟩]):=by
     rw[<-gv];simp only[htl]
    refine cast (congrArg R1 ?_) (hR1 (q ++ [⟨List.take n [k0,k1,k2,k3,k4,k5,k6,k7,k8],k8,xc⟩],rest.eraseIdx i,some ([k0,k1,k2,k3,k4,k5,k6,k7,k8],xc)) ⟨?_,?_⟩ ?_)
    ·simp[hrow]
    ·dsimp only;have hget:rest[i]=([k0,k1,k2,k3,k4,k5,k6,k7,k8],xc):=by
      rw[List.getElem?_eq_getElem hil] at hx;injection hx
     have hper:=po rest i hil;rw[hget] at hper;refine List.Perm.trans ?_ hq;rw[List.map_append,List.append_assoc];exact List.Perm.append_left _ (hper.map (gz n))
    ·exact fun y hy=>hin y (List.mem_of_mem_eraseIdx hy)
    ·dsimp only;rw[List.length_eraseIdx_of_lt hil];omega
   ·simp at hc4
theorem sfQ:GP Tryz.prog F.eB 3:=by
 refine⟨fun p cap fv w=>?_,fun α _ enc hk h1 cf hO g blk off cap d w eg hcmp hH hblk hsz=>?_⟩
 ·have h:=AnyF.slices_SortFunc_none w8 p cap fv w;rw[qE] at h;exact h
 ·have h:=AnyQ.slices_SortFunc w8 3 x8 wq enc hk h1 cf hO g #[] blk off cap d w eg hcmp hH hblk hsz;rw[qE] at h;exact h
theorem Cb (a b c:QK) (h1:qlt a b=false) (h2:qlt b c=false):qlt a c=false:=by
 cases h:qlt a c with
 | false=>rfl
 | true=>
  exfalso;rcases c7.tot a b with h3 | h3 | h3
  ·rw[h1] at h3;simp at h3
  ·subst h3;rw[h2] at h;simp at h
  ·have:=c7.tr b a c h3 h;rw[h2] at this;simp at this
theorem lA (a:List Int) (ah:Int) (b:List Int) (bh:Int):decide (nh a ah b bh < 0)=qlt (b,bh) (a,ah):=by
 have h:=z7 a ah b bh
 by_cases q:nh a ah b bh < 0
 ·have:¬ 0<=nh a ah b bh:=by omega
  rw[decide_eq_false this] at h;rw[decide_eq_true q];simpa using h
 ·have:0<=nh a ah b bh:=by omega
  rw[decide_eq_true this] at h;rw[decide_eq_false q];simpa using h
theorem Ll:Go.Sort.SWO (ltOf fun x y:Qtm=>nh x.e x.h y.e y.h) where
 irrefl x:=by unfold ltOf;rw[lA];exact c7.irr _
 trans x y z h1 h2:=by
  unfold ltOf at *
  rw[lA] at *
  exact c7.tr _ _ _ h2 h1
 ntrans x y z h1 h2:=by
  unfold ltOf at *
  rw[lA] at *
  exact Cb _ _ _ h2 h1
theorem FJ:A8:=by
 intro ts hts hnd hlen;have h:=Gq (P:=Tryz.prog) (g:=F.cF) ⟨Tryz.f118,_,Tryz.func118,rfl,by kernel_rfl⟩ sfQ gc (by omega) (fun t=>by simp[qtO,noShL,ij]) (fun l=>by
  induction l with
  | nil=>trivial
  | cons x l ih=>
   simp only[rows,qtO,List.cons_append,List.nil_append,jQ];exact⟨rfl,rfl,rfl,ih⟩) (fun x y:Qtm=>nh x.e x.h y.e y.h) Ll ts hlen (fun x hx y hy=>by
  have:=np x y (hts x hx) (hts y hy);simpa[qtO,shareL,eX,di] using this)
 refine af.mono h ?_;rintro outs res ⟨r,h1,h2,h3,h4⟩;refine⟨r,h1,?_,h3,h4⟩;have hnr:(r.map qk).Nodup:=(h1.map qk).nodup_iff.2 hnd;unfold ib;rw[List.Nodup,List.pairwise_map] at hnr;refine (h2.and hnr).imp ?_;rintro a b ⟨h5,h6⟩;have h7:qlt (qk a) (qk b)=false:=by
  have:=lA b.e b.h a.e a.h;show qlt (a.e,a.h) (b.e,b.h)=false;rw[<-this];simpa using h5
 rcases c7.tot (qk a) (qk b) with h8 | h8 | h8
 ·rw[h7] at h8;simp at h8
 ·exact absurd h8 h6
 ·exact h8
def rN:Prop:=∀ (n:Nat) (es:List (List Int×Int)) (l:List (QK×Int)),gB n es l->(∀ x∈l,x.1.1.length=n)->1<=n->n<=8->l.length<=1000000 ->
 af Tryz.prog F.bk [.pt (0,0) [] 0] [((0,0),.bx [D.int n,.mp es])] true (fun outs res=>outs=[.bx [D.int n,.mp es]]/\res=[.ag (qO (enQ n ((nf qlt l).map qt)).1),.one (D.bool (enQ n ((nf qlt l).map qt)).2)])
theorem wH:rN:=fun n es l hM hl h1 h8 hL=>(oD FJ n es l hM hl h1 h8 hL).weak1
set_option maxRecDepth 10000
set_option maxHeartbeats 2000000
def iK (l:List (QK×Int)):Nat:=(l.map fun x=>x.2.natAbs).sum
theorem A4 (k:QK):∀ l:List (QK×Int),(co k l).natAbs<=iK l
 | []=>by simp[co]
 | x :: l=>by
  have:=A4 k l;simp only[co,iK,List.map_cons,List.sum_cons] at this ⊢;split <;> omega
theorem Es {l r:List (QK×Int)} (h:l.Perm r):nf qlt l=nf qlt r:=
 eq c7 (fa c7 l) (iq l) fun k=>by rw[gU,lu k h]
theorem uH (hDone:rN) (fm:List (List Int)) (f g:Qsm) (h0:fm.length < 4611686018427387904) (hI:I64 fm) (hx:f.ts.length < 4611686018427387904) (hxe:∀ t∈f.ts,t.e.length < 4611686018427387904) (hy:g.ts.length < 4611686018427387904) (hye:∀ t∈g.ts,t.e.length < 4611686018427387904):af Tryz.prog F.bg [.d (.sh 1 fm.length (rows lS fm)),aQ f,aQ g] [] true (fun outs res=>outs=[]/\eb res [.ag (qO (eK fm f g).1),.one (D.bool (eK fm f g).2)]):=by
 refine af.ob (C:=C.bg) (n:=Tryz.f81.ntmps) bC bD Tryz.func81 rfl rfl ?_;simp only[Tryz.f81];apply aa;refine ab fun K hK=>?_;simp[C.bg,qS];apply hK;clear hK K;show AWp _ _ _ _ _;apply aa;apply aa;refine aK ([0,1,2,3] ++ ([4])) rfl fun K hK=>?_;refine oSg fun L hL=>?_;simp[C.bg,qS];refine ae (kY fm f g h0 hI hx hxe hy hye) (by simp) (by simp) ?_;simp[C.bg,qS];apply hL;clear hL L;refine oEn fun L hL=>?_;simp[C.bg,qS];apply hL;clear hL L;simp[C.bg,qS];apply hK;clear hK K;show AWp _ _ _ _ _;refine ap _ rfl (fun hc1=>?_) (fun hc1=>?_)
 ·have hr:¬ (bp fm/\aL f/\aL g/\f.v=fm.length/\g.v=fm.length):=by
   intro ⟨q1,q2,q3,q4,q5⟩;simp[q1,q2,q3,q4,q5] at hc1
  have hm:eK fm f g=(cM,false):=if_neg hr;apply aa;refine ab fun K hK=>?_;simp[C.bg,qS];apply hK;clear hK K;show AWp _ _ _ _ _;apply aI;simp[C.bg,qS,hm,qO,cM,rows]
 ·have hr:bp fm/\aL f/\aL g/\f.v=fm.length/\g.v=fm.length:=by simpa using hc1
  obtain⟨hok,hf,hg,hfv,hgv⟩:=hr;have hfq:=lU hf hfv;have hgq:=lU hg hgv;obtain⟨n,hn0⟩:∃ n,n=fm.length:=⟨_,rfl⟩;have hn:f.v=n:=by rw[hn0];exact hfv
  have hn2:g.v=n:=by rw[hn0];exact hgv
  have hn1:1<=n/\n<=8:=by have:=hok.1;omega
  have hn8:=hn1.2;have hfl:=hf.2.1;have hgl:=hg.2.1;have hm:eK fm f g=enQ n (gaQ (dW fm f.ts g.ts)):=by
   rw[<-hn];exact if_pos ⟨hok,hf,hg,hfv,hgv⟩
  apply au;show AWp _ _ _ _ _;apply aa;refine aK ([0,1,2] ++ ([3])) rfl fun K hK=>?_;refine oSg fun L hL=>?_;simp[C.bg,qS,hn];refine ae (gR n) (by simp) (by simp) ?_;simp[C.bg,qS,hn];apply hL;clear hL L;refine oEn fun L hL=>?_;simp[C.bg,qS,hn];apply hL;clear hL L;simp[C.bg,qS,hn];apply hK;clear hK K;show AWp _ _ _ _ _;apply aa;apply aa;refine ab fun K hK=>?_;simp[C.bg,qS];apply hK;clear hK K;show AWp _ _ _ _ _;apply ak;refine bm (fun x:Nat×List (List Int×Int)×List (QK×Int)=>⟨ofL [(0,.d (.sh 1 fm.length (rows lS fm))),(5,.pt (5,0) [] 0),(6,.pt (6,0) [] 0),(8,.pt (8,0) [] 0),(23,.d (.sh 3 f.ts.length (rows qtS f.ts))),(24,.int f.ts.length),(25,.int x.1)],aF [((5,0),some (.bx (qS g))),((6,0),some (.bx [D.int 0,.v (.slice none 0 0)])),((8,0),some (.bx [D.int n,.mp x.2.1]))]⟩) (fun x=>x.1<=f.ts.length/\gB n x.2.1 x.2.2/\x.2.2.Perm ((dW fm (f.ts.take x.1) g.ts).map qp)/\x.2.2.length<=x.1*600/\iK x.2.2<=(x.1*600)*1000000000000) (fun x=>f.ts.length - x.1) (0,[],[]) (by simp[C.bg,qS]) ⟨by simp,gB.nil n,by simp[dW],by simp,by simp[iK]⟩ ?_;intro x1 hx1 R1 hR1;obtain⟨i,es,l⟩:=x1;obtain⟨hi,hM,hP,hL,hA⟩:=hx1;dsimp only at hi hM hP hL hA ⊢;apply aa;refine ab fun K hK=>?_;simp[C.bg,qS];apply hK;clear hK K;show AWp _ _ _ _ _;apply aa;refine ap _ rfl (fun hc2=>?_) (fun hc2=>?_)
  ·have hif:i < f.ts.length:=by have:=d_t hc2;omega
   have hT:=hfq.2 _ (List.getElem_mem hif);have hT20:=(hf.2.2.1 _ (List.getElem_mem hif)).2.2.2.2;apply au;show AWp _ _ _ _ _;apply aa;apply ak;apply aa;refine ab fun K hK=>?_;simp[C.bg,qS,hif,bI hif,bY hif,bW hif];apply hK;clear hK K;show AWp _ _ _ _ _;apply aa;refine ab fun K hK=>?_;simp[C.bg,qS];apply hK;clear hK K;show AWp _ _ _ _ _;apply ak;refine bm (fun x:Nat×List (List Int×Int)×List (QK×Int)=>⟨ofL [(0,.d (.sh 1 fm.length (rows lS fm))),(5,.pt (5,0) [] 0),(6,.pt (6,0) [] 0),(8,.pt (8,0) [] 0),(10,.pt (10,0) [] 0),(23,.d (.sh 3 f.ts.length (rows qtS f.ts))),(24,.int f.ts.length),(25,.int i),(30,.d (.sh 3 g.ts.length (rows qtS g.ts))),(31,.int g.ts.length),(32,.int x.1)],aF [((5,0),some (.bx (qS g))),((6,0),some (.bx [D.int 0,.v (.slice none 0 0)])),((8,0),some (.bx [D.int n,.mp x.2.1])),((10,0),some (.bx (qtS f.ts[i])))]⟩) (fun x=>x.1<=g.ts.length/\gB n x.2.1 x.2.2/\x.2.2.Perm ((dW fm (f.ts.take i) g.ts ++ (g.ts.take x.1).map (gi fm f.ts[i])).map qp)/\x.2.2.length<=i*600+x.1/\iK x.2.2<=(i*600+x.1)*1000000000000) (fun x=>g.ts.length - x.1) (0,es,l) (by simp[C.bg,qS,qtS]) ⟨by simp,hM,by simpa using hP,by dsimp only;omega,by dsimp only;omega⟩ ?_;intro x2 hx2 R2 hR2;obtain⟨j,es2,l2⟩:=x2;obtain⟨hj,hM2,hP2,hL2,hA2⟩:=hx2;dsimp only at hj hM2 hP2 hL2 hA2 ⊢;apply aa;refine ab fun K hK=>?_;simp[C.bg,qS];apply hK;clear hK K;show AWp _ _ _ _ _;apply aa;refine ap _ rfl (fun hc3=>?_) (fun hc3=>?_)
   ·have hjg:j < g.ts.length:=by have:=d_t hc3;omega
    have hU:=hgq.2 _ (List.getElem_mem hjg);have hU20:=(hg.2.2.1 _ (List.getElem_mem hjg)).2.2.2.2;apply au;show AWp _ _ _ _ _;apply aa;apply ak;apply aa;refine ab fun K hK=>?_;simp[C.bg,qS,hjg,bI hjg,bY hjg,bW hjg];apply hK;clear hK K;show AWp _ _ _ _ _;obtain⟨a0,a1,a2,a3,a4,a5,a6,a7,hpa⟩:=nI (fC (e:=f.ts[i].e) (by omega));obtain⟨b0,b1,b2,b3,b4,b5,b6,b7,hpb⟩:=nI (fC (e:=g.ts[j].e) (by omega));have hba:=qx hT20;have hbb:=qx hU20;rw[hpa] at hba;rw[hpb] at hbb;have hsk:=QL.sk hok hfq hgq (List.getElem_mem hif) (List.getElem_mem hjg);have hsb:=hsk.bd;have hadd:[a0+b0,a1+b1,a2+b2,a3+b3,a4+b4,a5+b5,a6+b6,a7+b7,f.ts[i].h+g.ts[j].h+skw fm f.ts[i].e g.ts[j].e]=kq (qk (gi fm f.ts[i] g.ts[j])):=by
     simp only[kq,qk,gi];rw[<-wv (by omega),hpa,hpb];simp[bc]
    have hel:(qk (gi fm f.ts[i] g.ts[j])).1.length=n:=by simp only[qk,gi];rw[dh _ _ _ (by omega)];omega
    have hcc:=rh hT.2.2.2 hU.2.2.2;have hval:=hM2.val _ hel;have hco:=A4 (qk (gi fm f.ts[i] g.ts[j])) l2;refine bR [(true,0),(true,1),(true,2),(true,4),(true,5),(true,8),(true,9),(true,10),(true,11),(true,12),(true,13),(true,14),(true,15),(true,16),(true,17),(true,21),(true,22),(true,23),(true,24),(true,25),(false,3),(false,6),(false,7),(false,18),(true,19),(true,20),(false,26)] ⟨by kernel_rfl,by kernel_rfl⟩ ([0,1,2,4,5,8,9,10,11,12,13,14,15,16,17,21,22,23,24,25,3] ++ ([6] ++ ([7] ++ ([18] ++ ([19,20,26] ++ ([])))))) rfl fun K hK=>?_;refine oSg fun L hL=>?_;simp[C.bg,qS,qtS,aj (x:=f.ts[i].c*g.ts[j].c) (by omega) (by omega),aj (x:=f.ts[i].h+g.ts[j].h) (by omega) (by omega),aj (x:=f.ts[i].h+g.ts[j].h+skw fm f.ts[i].e g.ts[j].e) (by omega) (by omega)];refine ae (iC f.ts[i].e (by omega) a0 a1 a2 a3 a4 a5 a6 a7 hpa) (by simp) (by simp) ?_;simp[C.bg,qS,qtS,aj (x:=f.ts[i].c*g.ts[j].c) (by omega) (by omega),aj (x:=f.ts[i].h+g.ts[j].h) (by omega) (by omega),aj (x:=f.ts[i].h+g.ts[j].h+skw fm f.ts[i].e g.ts[j].e) (by omega) (by omega)];apply hL;clear hL L;refine oSg fun L hL=>?_;simp[C.bg,qS,qtS,aj (x:=f.ts[i].c*g.ts[j].c) (by omega) (by omega),aj (x:=f.ts[i].h+g.ts[j].h) (by omega) (by omega),aj (x:=f.ts[i].h+g.ts[j].h+skw fm f.ts[i].e g.ts[j].e) (by omega) (by omega)];refine ae (iC g.ts[j].e (by omega) b0 b1 b2 b3 b4 b5 b6 b7 hpb) (by simp) (by simp) ?_;simp[C.bg,qS,qtS,aj (x:=f.ts[i].c*g.ts[j].c) (by omega) (by omega),aj (x:=f.ts[i].h+g.ts[j].h) (by omega) (by omega),aj (x:=f.ts[i].h+g.ts[j].h+skw fm f.ts[i].e g.ts[j].e) (by omega) (by omega)];apply hL;clear hL L;refine oSg fun L hL=>?_;simp[C.bg,qS,qtS,aj (x:=f.ts[i].c*g.ts[j].c) (by omega) (by omega),aj (x:=f.ts[i].h+g.ts[j].h) (by omega) (by omega),aj (x:=f.ts[i].h+g.ts[j].h+skw fm f.ts[i].e g.ts[j].e) (by omega) (by omega)];refine ae (lm 1 a0 a1 a2 a3 a4 a5 a6 a7 b0 b1 b2 b3 b4 b5 b6 b7 (by omega) hba hbb) (by simp) (by simp) ?_;simp[C.bg,qS,qtS,aj (x:=f.ts[i].c*g.ts[j].c) (by omega) (by omega),aj (x:=f.ts[i].h+g.ts[j].h) (by omega) (by omega),aj (x:=f.ts[i].h+g.ts[j].h+skw fm f.ts[i].e g.ts[j].e) (by omega) (by omega)];apply hL;clear hL L;refine oSg fun L hL=>?_;simp[C.bg,qS,qtS,aj (x:=f.ts[i].c*g.ts[j].c) (by omega) (by omega),aj (x:=f.ts[i].h+g.ts[j].h) (by omega) (by omega),aj (x:=f.ts[i].h+g.ts[j].h+skw fm f.ts[i].e g.ts[j].e) (by omega) (by omega)];refine ae (iX fm f.ts[i].e g.ts[j].e hsk) (by simp) (by simp) ?_;simp[C.bg,qS,qtS,aj (x:=f.ts[i].c*g.ts[j].c) (by omega) (by omega),aj (x:=f.ts[i].h+g.ts[j].h) (by omega) (by omega),aj (x:=f.ts[i].h+g.ts[j].h+skw fm f.ts[i].e g.ts[j].e) (by omega) (by omega)];apply hL;clear hL L;refine oSg fun L hL=>?_;simp[C.bg,qS,qtS,aj (x:=f.ts[i].c*g.ts[j].c) (by omega) (by omega),aj (x:=f.ts[i].h+g.ts[j].h) (by omega) (by omega),aj (x:=f.ts[i].h+g.ts[j].h+skw fm f.ts[i].e g.ts[j].e) (by omega) (by omega)]
    refine ae (fF n (f.ts[i].c*g.ts[j].c) es2 (a0+1*b0) (a1+1*b1) (a2+1*b2) (a3+1*b3) (a4+1*b4) (a5+1*b5) (a6+1*b6) (a7+1*b7) (f.ts[i].h+g.ts[j].h+skw fm f.ts[i].e g.ts[j].e) (hM2.len9 hn8) (by simp only[Int.one_mul];rw[hadd,hval];omega)) (by simp) (by simp) ?_;simp[C.bg,qS,qtS,aj (x:=f.ts[i].c*g.ts[j].c) (by omega) (by omega),aj (x:=f.ts[i].h+g.ts[j].h) (by omega) (by omega),aj (x:=f.ts[i].h+g.ts[j].h+skw fm f.ts[i].e g.ts[j].e) (by omega) (by omega)];apply hL;clear hL L;refine oEn fun L hL=>?_;simp only[d7];apply hL;clear hL L;simp[C.bg,qS,qtS,aj (x:=f.ts[i].c*g.ts[j].c) (by omega) (by omega),aj (x:=f.ts[i].h+g.ts[j].h) (by omega) (by omega),aj (x:=f.ts[i].h+g.ts[j].h+skw fm f.ts[i].e g.ts[j].e) (by omega) (by omega)];rw[hadd];apply hK;clear hK K;show AWp _ _ _ _ _;refine ab fun K hK=>?_;simp[C.bg,qS,ay (show j < 4611686018427387904 by omega)];apply hK;clear hK K;simp[C.bg,qS];refine hR2 (j+1,_,(qk (gi fm f.ts[i] g.ts[j]),f.ts[i].c*g.ts[j].c) :: l2) ⟨hjg,hM2.add hel _,?_,by dsimp only[List.length_cons];omega,?_⟩ (by dsimp only;omega)
    ·dsimp only;rw[List.take_succ_eq_append_getElem hjg];simp only[List.map_append] at hP2 ⊢;rw[<-List.append_assoc];refine (List.Perm.cons _ hP2).trans ?_;exact (List.perm_append_singleton _ _).symm
    ·have:=Dc hcc;simp only[iK,List.map_cons,List.sum_cons] at hA2 ⊢;omega
   ·have hjg:j=g.ts.length:=by have:=d_f hc3;omega
    apply aZ;show AWp _ _ _ _ _;refine ab fun K hK=>?_;simp[C.bg,qS,ay (show i < 4611686018427387904 by omega)];apply hK;clear hK K;simp[C.bg,qS];refine hR1 (i+1,es2,l2) ⟨hif,hM2,?_,by dsimp only;omega,MB hA2 (by omega)⟩ (by dsimp only;omega);dsimp only;rw[uV hif];rw[hjg,List.take_length] at hP2;exact hP2
  ·have hif:i=f.ts.length:=by have:=d_f hc2;omega
   have hall:l.Perm ((dW fm f.ts g.ts).map qp):=by
    rw[hif,List.take_length] at hP;exact hP
   have hlen:∀ x∈l,x.1.1.length=n:=fun x hx=>by
    have:=hall.subset hx;obtain⟨t,ht,rfl⟩:=List.mem_map.1 this;rw[hn0];exact sb hfq hgq t ht
   have hs:(nf qlt l).map qt=gaQ (dW fm f.ts g.ts):=by
    unfold gaQ;rw[Es hall]
   apply aZ;show AWp _ _ _ _ _;apply aa;refine aK ([0,1] ++ ([2,3,4,5])) rfl fun K hK=>?_;refine oSg fun L hL=>?_;simp[C.bg,qS];refine ae (hDone n es l hM hlen hn1.1 hn8 (by omega)) (by simp) (by simp) ?_;simp[C.bg,qS];apply hL;clear hL L;refine oEn fun L hL=>?_;simp[C.bg,qS];apply hL;clear hL L;simp[C.bg,qS];apply hK;clear hK K;show AWp _ _ _ _ _;apply aI;simp[C.bg,qS,hm,<-hs,qO]
theorem Fl (hDone:rN) (fm:List (List Int)) (f g:Qsm) (h0:fm.length < 4611686018427387904) (hI:I64 fm) (hx:f.ts.length < 4611686018427387904) (hxe:∀ t∈f.ts,t.e.length < 4611686018427387904) (hy:g.ts.length < 4611686018427387904) (hye:∀ t∈g.ts,t.e.length < 4611686018427387904):af Tryz.prog F.bg [.d (.sh 1 fm.length (rows lS fm)),aQ f,aQ g] [] true (fun outs res=>outs=[]/\res=[.ag (qO (eK fm f g).1),.one (D.bool (eK fm f g).2)]):=(uH hDone fm f g h0 hI hx hxe hy hye).weak1
theorem lF:∀ (a b:List Int),a.length=b.length->bc 1 a b=bc 1 b a
 | [],[],_=>rfl
 | [],_ :: _,h=>by simp at h
 | _ :: _,[],h=>by simp at h
 | x :: a,y :: b,h=>by
  simp only[bc,lF a b (by simpa using h)];congr 1;omega
theorem mJ (a b:QK):qlt a b=true↔(a.1=b.1/\a.2 < b.2)\/cz a.1 b.1=true:=by
 unfold qlt
 by_cases e:a.1=b.1
 ·rw[if_pos e];simp[e,l4]
 ·rw[if_neg e];simp[e]
def dM (fm:List (List Int)) (e b:QK):QK:=(bc 1 b.1 e.1,b.2+e.2+skw fm b.1 e.1)
def qdv (fm:List (List Int)) (a b:QK):QK:=(bc (-1) a.1 b.1,a.2 - b.2 - skw fm b.1 (bc (-1) a.1 b.1))
theorem Eb (fm:List (List Int)) (n:Nat):Act qlt (dM fm) (qdv fm) (fun k=>k.1.length=n) where
 mul_dv a b h1 h2:=by
  unfold dM qdv;refine Prod.ext ?_ ?_
  ·show bc 1 b.1 (bc (-1) a.1 b.1)=a.1;rw[lF _ _ (by rw[dh _ _ _ (h1.trans h2.symm)];exact h2.trans h1.symm),AY a.1 b.1 (h1.trans h2.symm)]
  ·show b.2+(a.2 - b.2 - skw fm b.1 (bc (-1) a.1 b.1))+skw fm b.1 (bc (-1) a.1 b.1)=a.2;omega
 dv_lt x y b h1 h2 h3 h:=by
  rw[mJ] at h ⊢;rcases h with ⟨e,h⟩ | h
  ·left
   refine⟨by simp only[qdv,e],?_⟩;simp only[qdv,e];omega
  ·right
   simp only[qdv];rw[vB _ _ _ _ (h1.trans h3.symm) (h2.trans h3.symm)];exact h
 mul_lt e x y h1 h2 h3 h:=by
  rw[mJ] at h ⊢;rcases h with ⟨q,h⟩ | h
  ·left
   refine⟨by simp only[dM,q],?_⟩;simp only[dM,q];omega
  ·right
   simp only[dM];rw[lF x.1 _ (h2.trans h1.symm),lF y.1 _ (h3.trans h1.symm),nL _ _ _ (h1.trans h2.symm) (h1.trans h3.symm)];exact h
 dmul a b h1 h2:=by simp only[dM];rw[dh _ _ _ (h2.trans h1.symm)];exact h2
 ddv a b h1 h2:=by simp only[qdv];rw[dh _ _ _ (h1.trans h2.symm)];exact h1
def BT (s:Int) (i:Nat) (k:QK):Int:=wei s i k.1*1000+k.2
theorem ze (fm:List (List Int)) {s:Int} (hs:s=1\/s=-1) {n i:Nat} (h8:n<=8) {F O g:List (QK×Int)} (hO:dY qlt O) (hg:dY qlt g) (hOz:Nz O) (hgz:Nz g) (hne:g≠[])
  (hOD:∀ x∈O,(x.1.1.length=n/\Dig x.1.1)/\-200<=x.1.2/\x.1.2<=200) (hgD:∀ x∈g,(x.1.1.length=n/\Dig x.1.1)/\-200<=x.1.2/\x.1.2<=200)
  (hF:∀ q,co q F=co q (cV (dM fm) O g)):∀ x∈O,∃ t∈F,∃ y∈g,(∀ z∈g,s*y.1.1.getD i 0<=s*z.1.1.getD i 0)/\s*t.1.1.getD i 0<=s*x.1.1.getD i 0+s*y.1.1.getD i 0:=by
 intro x hx;obtain⟨a,haO,ham⟩:=tW (fun u:QK×Int=>BT s i u.1) O (fun e=>by rw[e] at hx;simp at hx);obtain⟨y,hyg,hym⟩:=tW (fun u:QK×Int=>BT s i u.1) g hne;have ha:=hOD a haO;have hy:=hgD y hyg;have le1:∀ u∈O,wei s i a.1.1<=wei s i u.1.1/\(wei s i a.1.1=wei s i u.1.1->a.1.2<=u.1.2):=fun u hu=>by
  have h1:=ham u hu;have h2:=hOD u hu;simp only[BT] at h1;omega
 have le2:∀ v∈g,wei s i y.1.1<=wei s i v.1.1/\(wei s i y.1.1=wei s i v.1.1->y.1.2<=v.1.2):=fun v hv=>by
  have h1:=hym v hv;have h2:=hgD v hv;simp only[BT] at h1;omega
 have huniq:∀ u∈O,∀ v∈g,dM fm u.1 v.1=dM fm a.1 y.1->u=a/\v=y:=by
  intro u hu v hv e;have h1:=hOD u hu;have h2:=hgD v hv;have ee:bc 1 v.1.1 u.1.1=bc 1 y.1.1 a.1.1:=congrArg Prod.fst e;have eh:v.1.2+u.1.2+skw fm v.1.1 u.1.1=y.1.2+a.1.2+skw fm y.1.1 a.1.1:=congrArg Prod.snd e;have e1:=AL s i v.1.1 u.1.1 (h2.1.1.trans h1.1.1.symm);have e2:=AL s i y.1.1 a.1.1 (hy.1.1.trans ha.1.1.symm);rw[ee,e2,h2.1.1,hy.1.1] at e1;obtain⟨m1,m1'⟩:=le1 u hu;obtain⟨m2,m2'⟩:=le2 v hv;have w1:wei s i a.1.1=wei s i u.1.1:=by omega
  have w2:wei s i y.1.1=wei s i v.1.1:=by omega
  have k1:u.1.1=a.1.1:=Bq (i:=i) hs (h1.1.1.trans ha.1.1.symm) h1.1.2 ha.1.2 (by omega) w1.symm;have k2:v.1.1=y.1.1:=Bq (i:=i) hs (h2.1.1.trans hy.1.1.symm) h2.1.2 hy.1.2 (by omega) w2.symm;rw[k1,k2] at eh;have q1:=m1' w1;have q2:=m2' w2;have ku:u.1=a.1:=Prod.ext k1 (by omega);have kv:v.1=y.1:=Prod.ext k2 (by omega);have c1:=jt c7 hO hu;have c2:=jt c7 hO haO;have c3:=jt c7 hg hv;have c4:=jt c7 hg hyg;rw[ku] at c1;rw[kv] at c3;exact⟨Prod.ext ku (c1.symm.trans c2),Prod.ext kv (c3.symm.trans c4)⟩
 have hc:=EK (mul:=dM fm) c7 hO hg haO hyg huniq;have hnz:co (dM fm a.1 y.1) F≠0:=by
  rw[hF,hc];exact Int.mul_ne_zero (hOz a haO) (hgz y hyg)
 obtain⟨t,ht,et⟩:=zw hnz;refine⟨t,ht,y,hyg,fun z hz=>DE hs hy.1.2 (hgD z hz).1.2 (by omega) (by have:=(hgD z hz).1.1;omega) (le2 z hz).1,?_⟩;have et1:t.1.1=bc 1 y.1.1 a.1.1:=congrArg Prod.fst et;rw[et1,rA 1 i _ _ (hy.1.1.trans ha.1.1.symm)];have:=DE hs ha.1.2 (hOD x hx).1.2 (by omega) (by have:=(hOD x hx).1.1;omega) (le1 x hx).1;rw[Int.one_mul,Int.mul_add];omega
def tT (t:Qtm):Trm:=⟨t.e,t.c⟩
def jB (e:QK) (q:Int):Bool:=decide ((∀ x∈e.1,-20<=x/\x<=20)/\(-200<=e.2/\e.2<=200)/\q≠0/\-1000000<=q/\q<=1000000)
def uA (f g:Qsm) (n:Nat) (e:List Int):Prop:=∀ i,i < n->(dH (f.ts.map tT) n).getD i 0 - (dH (g.ts.map tT) n).getD i 0<=e.getD i 0/\e.getD i 0<=(c6 (f.ts.map tT) n).getD i 0 - (c6 (g.ts.map tT) n).getD i 0
instance (f g:Qsm) (n:Nat) (e:List Int):Decidable (uA f g n e):=Nat.decidableBallLT n _
def ir (f g:Qsm) (n:Nat) (e:QK) (q:Int):Bool:=decide (uA f g n e.1/\(-200<=e.2/\e.2<=200)/\-1000000<=q/\q<=1000000)
def ey (g:Qsm):QK:=match g.ts with | []=>([],0) | t :: _=>(t.e,t.h)
def ev (g:Qsm):Int:=match g.ts with | []=>1 | t :: _=>t.c
def gr (fm:List (List Int)) (chk:QK->Int->Bool) (g:Qsm) (k:Nat) (R:List (QK×Int)):Option (List (QK×Int)):=ew qlt (dM fm) (qdv fm) chk (g.ts.map qp) (ey g) (ev g) k R
noncomputable def kP (v:Int):Option (List (QK×Int))->Qsm×Bool
 | some O=>enQ v (O.map qt)
 | none=>(cM,false)
def s0 (fm:List (List Int)) (f g:Qsm):Prop:=(bp fm/\aL f/\aL g/\f.v=fm.length/\g.v=fm.length)/\g.ts≠[]
noncomputable instance (fm:List (List Int)) (f g:Qsm):Decidable (s0 fm f g):=Classical.propDecidable _
noncomputable def dm (fm:List (List Int)) (f g:Qsm):Qsm×Bool:=if s0 fm f g then kP f.v (gr fm jB g 600 (f.ts.map qp)) else (cM,false)
noncomputable def E3 (fm:List (List Int)) (f g:Qsm):Qsm×Bool:=if s0 fm f g then kP f.v (gr fm (ir f g fm.length) g 600 (f.ts.map qp)) else (cM,false)
theorem iA {f:Qsm} (h:aL f):dY qlt (f.ts.map qp):=by
 unfold dY;rw[List.pairwise_map];exact h.2.2.2
theorem nJ {f:Qsm} (h:aL f):Nz (f.ts.map qp):=fun x hx=>by
 obtain⟨t,ht,rfl⟩:=List.mem_map.1 hx;exact (h.2.2.1 t ht).2.1
theorem gD {f:Qsm} {n:Nat} (h:aL f) (hn:f.v=n):∀ t∈f.ts,t.e.length=n/\(∀ x∈t.e,-20<=x/\x<=20)/\(-200<=t.h/\t.h<=200)/\-1000000<=t.c/\t.c<=1000000/\t.c≠0:=fun t ht=>by
 obtain⟨h1,h2,h3,h4,h5⟩:=h.2.2.1 t ht;exact⟨by omega,h5,h4,h3.1,h3.2,h2⟩
theorem oN {f:Qsm} {n:Nat} (h:aL f) (hn:f.v=n):∀ x∈f.ts.map qp,(x.1.1.length=n/\Dig x.1.1)/\-200<=x.1.2/\x.1.2<=200:=fun x hx=>by
 obtain⟨t,ht,rfl⟩:=List.mem_map.1 hx;have:=gD h hn t ht;exact⟨⟨this.1,fun y hy=>by have:=this.2.1 y hy;omega⟩,this.2.2.1⟩
theorem xt {g:Qsm} (hne:g.ts≠[]):g.ts.map qp=(ey g,ev g) :: (g.ts.tail.map qp):=by
 unfold ey ev
 match hh:g.ts,hne with
 | t :: ts,_=>rfl
theorem zb {K:Type} [DecidableEq K] {lt:K->K->Bool} {mul dv:K->K->K} {chk:K->Int->Bool} {g:List (K×Int)} {b:K} {d:Int}:∀ (k:Nat) (R O:List (K×Int)),ew lt mul dv chk g b d k R=some O->Nz R->Nz O
 | k,[],O,h,_=>by
  have e:O=[]:=by cases k <;> simp[ew] at h <;> exact h
  subst e;simp[Nz]
 | 0,x :: R,O,h,_=>by simp[ew] at h
 | k+1,x :: R,O,h,hR=>by
  simp only[ew] at h;split at h
  ·rename_i h1;obtain⟨O',h2,h3⟩:=Option.map_eq_some_iff.1 h;subst h3;have h4:=zb k _ O' h2 (iq _);intro y hy;rcases List.mem_cons.1 hy with rfl | hy
   ·have h5:=xg h1.1;have h6:=hR x (by simp);dsimp only;intro e;rw[e] at h5;simp at h5;exact h6 h5.symm
   ·exact h4 y hy
  ·simp at h
theorem qz {fm:List (List Int)} {chk:QK->Int->Bool} {f g:Qsm} (h:s0 fm f g) {O:List (QK×Int)} (hd:gr fm chk g 600 (f.ts.map qp)=some O):dY qlt O/\Nz O/\(∀ x∈O,x.1.1.length=fm.length)/\(∀ x∈O,chk x.1 x.2=true)/\O.length<=600/\∀ q,co q (f.ts.map qp)=co q (cV (dM fm) O (g.ts.map qp)):=by
 obtain⟨⟨hfm,hf,hg,hn,hgn⟩,hne⟩:=h;have hgd:=iA hg;have hgD:=oN hg hgn;unfold gr at hd;have h1:=wP _ _ _ hd;have h2:=sU _ _ _ hd;have h3:=zb _ _ _ hd (nJ hf);rw[xt hne] at hgd hgD hd;have h4:=vK (chk:=chk) c7 (Eb fm fm.length) hgd (fun y hy=>(hgD y hy).1.1) 600 _ O hd (iA hf) fun y hy=>(oN hf hn y hy).1.1;exact⟨h4.1,h3,h4.2.1,h1.1,h1.2,h2⟩
theorem JM {f:Qsm} {n:Nat} (h:aL f) (hn:f.v=n):∀ t∈f.ts.map tT,t.e.length=n/\∀ x∈t.e,-20<=x/\x<=20:=fun t ht=>by
 obtain⟨u,hu,rfl⟩:=List.mem_map.1 ht;have:=gD h hn u hu;exact⟨this.1,this.2.1⟩
theorem Ea (fm:List (List Int)) (f g:Qsm):E3 fm f g=dm fm f g:=by
 unfold E3 dm;split
 ·rename_i hfit;have hfit':=hfit;obtain⟨⟨hfm,hf,hg,hn,hgn⟩,hne⟩:=hfit;have h8:fm.length<=8:=by have:=hfm.1;omega
  cases hI:gr fm jB g 600 (f.ts.map qp) with
  | some O=>
   obtain⟨hOd,hOz,hOl,hch,_,hex⟩:=qz hfit' hI;have hS:gr fm (ir f g fm.length) g 600 (f.ts.map qp)=some O:=by
    refine ri _ _ _ hI fun x hx=>?_;have hcx:=hch x hx;simp only[jB,decide_eq_true_eq] at hcx;simp only[ir,decide_eq_true_eq];refine⟨fun i hi=>?_,hcx.2.1,hcx.2.2.2⟩;have hOD:∀ x∈O,(x.1.1.length=fm.length/\Dig x.1.1)/\-200<=x.1.2/\x.1.2<=200:=fun x hx=>by
     have:=hch x hx;simp only[jB,decide_eq_true_eq] at this;exact⟨⟨hOl x hx,fun z hz=>by have:=this.1 z hz;omega⟩,this.2.1⟩
    have hgnp:g.ts.map qp≠[]:=by simpa using hne
    have hfne:f.ts.map tT≠[]:=by
     rintro e;have:=ze fm (s:=1) (i:=i) (.inl rfl) h8 hOd (iA hg) hOz (nJ hg) hgnp hOD (oN hg hgn) hex x hx;obtain⟨t,ht,_⟩:=this;simp only[List.map_eq_nil_iff] at e;rw[e] at ht;simp at ht
    have hgne:g.ts.map tT≠[]:=by simpa using hne
    obtain⟨lf1,_⟩:=wB hfne hi;obtain⟨_,tl,htl,lg2⟩:=wB hgne hi;obtain⟨hf1,_⟩:=tx hfne hi;obtain⟨_,th,hth,hg2⟩:=tx hgne hi;obtain⟨t,ht,y,hy,m1,m2⟩:=ze fm (s:=1) (i:=i) (.inl rfl) h8 hOd (iA hg) hOz (nJ hg) hgnp hOD (oN hg hgn) hex x hx;obtain⟨t',ht',y',hy',m1',m2'⟩:=ze fm (s:=-1) (i:=i) (.inr rfl) h8 hOd (iA hg) hOz (nJ hg) hgnp hOD (oN hg hgn) hex x hx;obtain⟨u,hu,rfl⟩:=List.mem_map.1 ht;obtain⟨u',hu',rfl⟩:=List.mem_map.1 ht';obtain⟨ul,hul,rfl⟩:=List.mem_map.1 htl;obtain⟨uh,huh,rfl⟩:=List.mem_map.1 hth;have a1:=lf1 (tT u) (List.mem_map.2 ⟨u,hu,rfl⟩);have a2:=m1 (qp ul) (List.mem_map.2 ⟨ul,hul,rfl⟩);have a3:=hf1 (tT u') (List.mem_map.2 ⟨u',hu',rfl⟩);have a4:=m1' (qp uh) (List.mem_map.2 ⟨uh,huh,rfl⟩);simp only[qp,qk,tT] at m2 m2' a1 a2 a3 a4 lg2 hg2;constructor <;> omega
   rw[hS]
  | none=>
   cases hS:gr fm (ir f g fm.length) g 600 (f.ts.map qp) with
   | none=>rfl
   | some O=>
    simp only[kP];unfold enQ;rw[if_neg];intro hr;have:gr fm jB g 600 (f.ts.map qp)=some O:=by
     refine ri _ _ _ hS fun x hx=>?_;obtain⟨h1,h2,h3,h4,h5⟩:=hr.2.2.1 (qt x) (List.mem_map.2 ⟨x,hx,rfl⟩);simp only[jB,decide_eq_true_eq];exact⟨h5,h4,h2,h3⟩
    rw[hI] at this;simp at this
 ·rfl
theorem GB {v:Int} {O:List (QK×Int)} (hd:dY qlt O) (hz:Nz O):enQ v (gaQ (O.map qt))=kP v (some O):=by
 simp only[kP,gaQ];rw[qI,<-eq c7 hd hz fun k=>rfl]
structure jG (fm:List (List Int)) (chk:QK->Int->Bool) (f g:Qsm) (n:Nat) (R O:List (QK×Int)):Prop where
 run:gr fm chk g 600 (f.ts.map qp)=(gr fm chk g (600 - O.length) R).map (O ++ ·)
 ol:O.length<=600
 rd:dY qlt R
 rz:Nz R
 rl:∀ y∈R,(y.1.1.length=n/\∀ z∈y.1.1,-60<=z/\z<=60)/\-100000000000<=y.1.2/\y.1.2<=100000000000
 ra:iK R<=600000000+O.length*600000000000000
 rn:R.length<=600+O.length*600
 od:∀ x∈O,(x.1.1.length=n/\∀ z∈x.1.1,-40<=z/\z<=40)/\(-200<=x.1.2/\x.1.2<=200)/\-1000000<=x.2/\x.2<=1000000
theorem DU {l:List (QK×Int)} {B:Nat} (h:∀ x∈l,x.2.natAbs<=B):iK l<=l.length*B:=by
 induction l with
 | nil=>simp[iK]
 | cons x l ih=>
  have h1:=h x (by simp);have h2:=ih fun y hy=>h y (by simp[hy]);simp only[iK,List.map_cons,List.sum_cons,List.length_cons,Nat.add_mul,Nat.one_mul] at h2 ⊢;omega
theorem wK (l:List (QK×Int)):iK l=gu l:=rfl
theorem sN {f:Qsm} (h:aL f):iK (f.ts.map qp)<=600000000:=by
 have h1:iK (f.ts.map qp)<=(f.ts.map qp).length*1000000:=DU fun x hx=>by
  obtain⟨t,ht,rfl⟩:=List.mem_map.1 hx;have:=(h.2.2.1 t ht).2.2.1;simp only[qp];omega
 have h2:=h.2.1;simp only[List.length_map] at h1;exact Nat.le_trans h1 (by omega)
theorem jG.start (fm:List (List Int)) (chk:QK->Int->Bool) {f g:Qsm} {n:Nat} (hf:aL f) (hn:f.v=n):jG fm chk f g n (f.ts.map qp) []:=by
 refine⟨?_,by simp,iA hf,nJ hf,fun y hy=>?_,by simpa using sN hf,by simpa using hf.2.1,by simp⟩
 ·simp only[List.length_nil,Nat.sub_zero,List.nil_append]
  cases gr fm chk g 600 (f.ts.map qp) <;> rfl
 ·obtain⟨t,ht,rfl⟩:=List.mem_map.1 hy;have:=gD hf hn t ht;simp only[qp,qk];exact⟨⟨this.1,fun z hz=>by have:=this.2.1 z hz;omega⟩,by have:=this.2.2.1;omega⟩
theorem jG.done {fm:List (List Int)} {chk:QK->Int->Bool} {f g:Qsm} {n:Nat} {O:List (QK×Int)} (h:jG fm chk f g n [] O):gr fm chk g 600 (f.ts.map qp)=some O:=by
 rw[h.run]
 cases 600 - O.length <;> simp[gr,ew]
theorem jG.fail {fm:List (List Int)} {chk:QK->Int->Bool} {f g:Qsm} {n:Nat} {x:QK×Int} {R O:List (QK×Int)} (h:jG fm chk f g n (x :: R) O) (hc:¬ (x.2.tmod (ev g)=0/\chk (qdv fm x.1 (ey g)) (x.2.tdiv (ev g))=true)\/O.length=600):gr fm chk g 600 (f.ts.map qp)=none:=by
 rw[h.run];rcases Nat.eq_zero_or_pos (600 - O.length) with e | e
 ·rw[e];rfl
 ·obtain⟨k,hk⟩:∃ k,600 - O.length=k+1:=⟨600 - O.length - 1,by omega⟩;rw[hk];rcases hc with hc | hc
  ·simp only[gr,ew];rw[if_neg hc];rfl
  ·omega
def iH (fm:List (List Int)) (g:Qsm) (x:QK×Int) (R:List (QK×Int)):List (QK×Int):=x :: R ++ eY (dM fm) (qdv fm x.1 (ey g)) (-(x.2.tdiv (ev g))) (g.ts.map qp)
theorem eJ.mk' {fm:List (List Int)} {a b:List Int} {p q:Int} (hfm:bp fm) (ha:a.length=fm.length/\∀ z∈a,-p<=z/\z<=p) (hb:b.length=fm.length/\∀ z∈b,-q<=z/\z<=q) (hp:p<=1000) (hq:q<=1000):eJ fm a b:=
 ⟨hfm,ha.1,hb.1,fun x hx=>by have:=ha.2 x hx;omega,fun x hx=>by have:=hb.2 x hx;omega⟩
theorem jG.step {fm:List (List Int)} {chk:QK->Int->Bool} {f g:Qsm} {n:Nat} {x:QK×Int} {R O:List (QK×Int)} (h:jG fm chk f g n (x :: R) O) (hfm:bp fm) (hfn:fm.length=n) (hg:aL g) (hgn:g.v=n) (hm:x.2.tmod (ev g)=0) (hc:chk (qdv fm x.1 (ey g)) (x.2.tdiv (ev g))=true) (h6:O.length < 600)
  (hel:(qdv fm x.1 (ey g)).1.length=n) (hb:∀ z∈(qdv fm x.1 (ey g)).1,-40<=z/\z<=40) (hh:-200<=(qdv fm x.1 (ey g)).2/\(qdv fm x.1 (ey g)).2<=200) (hq:-1000000<=x.2.tdiv (ev g)/\x.2.tdiv (ev g)<=1000000) :
  jG fm chk f g n (nf qlt (iH fm g x R)) (O ++ [(qdv fm x.1 (ey g),x.2.tdiv (ev g))]):=by
 have hga:=sN hg;have hgl:=hg.2.1;have hab:=zQ (lt:=qlt) (iH fm g x R);have hlen:(O ++ [(qdv fm x.1 (ey g),x.2.tdiv (ev g))]).length=O.length+1:=by simp
 refine⟨?_,by omega,fa c7 _,iq _,fun y hy=>?_,?_,?_,fun y hy=>?_⟩
 ·rw[h.run];obtain⟨k,hk⟩:∃ k,600 - O.length=k+1:=⟨600 - O.length - 1,by omega⟩;rw[hlen,hk,show 600 - (O.length+1)=k by omega];simp only[gr,ew];rw[if_pos ⟨hm,hc⟩];simp only[Option.map_map,iH];congr 1;funext z;simp
 ·obtain⟨z,hz,e⟩:=lT hy;rw[<-e];unfold iH at hz;rcases List.mem_append.1 hz with hz | hz
  ·exact h.rl z hz
  ·obtain⟨u,hu,rfl⟩:=List.mem_map.1 hz;obtain⟨t,ht,rfl⟩:=List.mem_map.1 hu;have ht2:=gD hg hgn t ht;have hsk:=(eJ.mk' (p:=20) (q:=40) hfm ⟨ht2.1.trans hfn.symm,ht2.2.1⟩ ⟨hel.trans hfn.symm,hb⟩ (by omega) (by omega)).bd;simp only[dM,qp,qk];refine⟨⟨by rw[dh _ _ _ (ht2.1.trans hel.symm)];exact ht2.1,?_⟩,?_⟩
   ·exact wl (B:=20) (C:=40) (.inl rfl) (ht2.1.trans hel.symm) ht2.2.1 hb
   ·have:=ht2.2.2.1;omega
 ·rw[wK];refine Nat.le_trans hab.1 ?_;unfold iH;rw[AJ,zU,hlen];have h1:=h.ra;rw[wK] at h1 hga;have h2:(-(x.2.tdiv (ev g))).natAbs*gu (g.ts.map qp)<=1000000*600000000:=Nat.mul_le_mul (by omega) hga;omega
 ·refine Nat.le_trans hab.2 ?_;unfold iH;rw[List.length_append,Ah,List.length_map,hlen];have h1:=h.rn;omega
 ·rcases List.mem_append.1 hy with hy | hy
  ·exact h.od y hy
  ·simp only[List.mem_singleton] at hy;subst hy;exact⟨⟨hel,hb⟩,hh,hq⟩
theorem pf {f:Qsm} {n:Nat} (hf:aL f) (hn:f.v=n) (hne:f.ts≠[]) {i:Nat} (hi:i < n):(-20<=(dH (f.ts.map tT) n).getD i 0/\(dH (f.ts.map tT) n).getD i 0<=20)/\-20<=(c6 (f.ts.map tT) n).getD i 0/\(c6 (f.ts.map tT) n).getD i 0<=20:=by
 have hne':f.ts.map tT≠[]:=by simpa using hne
 obtain⟨_,t1,ht1,q1⟩:=wB hne' hi;obtain⟨_,t3,ht3,q3⟩:=tx hne' hi;have b:∀ {t:Trm} (ht:t∈f.ts.map tT),-20<=t.e.getD i 0/\t.e.getD i 0<=20:=fun {t} ht=>by
  have:=JM hf hn t ht;rw[dZ (by omega)];exact this.2 _ (List.getElem_mem _)
 rw[q1,q3];exact⟨b ht1,b ht3⟩
theorem C7 {f g:Qsm} {n:Nat} (hf:aL f) (hg:aL g) (hn:f.v=n) (hgn:g.v=n) (hfne:f.ts≠[]) (hgne:g.ts≠[]) {e:List Int} (hl:e.length=n) (hb:uA f g n e):∀ z∈e,-40<=z/\z<=40:=by
 intro z hz;obtain⟨i,hi,rfl⟩:=List.getElem_of_mem hz;have h1:=hb i (by omega);have b1:=pf hf hn hfne (show i < n by omega);have b2:=pf hg hgn hgne (show i < n by omega);rw[dZ hi] at h1;omega
theorem xd {g:Qsm} (h:0 < g.ts.length):((g.ts[0]'h).e,(g.ts[0]'h).h)=ey g/\(g.ts[0]'h).c=ev g:=by
 unfold ey ev
 match hh:g.ts,h with
 | t :: ts,_=>simp
theorem EG {fm:List (List Int)} {g:Qsm} {x:QK×Int} {R:List (QK×Int)} :
  gaQ ((x :: R).map qt ++ (gaQ (dW fm g.ts [⟨(qdv fm x.1 (ey g)).1,(qdv fm x.1 (ey g)).2,x.2.tdiv (ev g)⟩])).map (fun t=>⟨t.e,t.h,0 - t.c⟩))=(nf qlt (iH fm g x R)).map qt:=by
 generalize he:qdv fm x.1 (ey g)=e;generalize hq:x.2.tdiv (ev g)=q;unfold gaQ;congr 1;refine eq c7 (fa c7 _) (iq _) fun k=>?_;rw[gU,iH,he,hq,eD,jP,List.map_append,eD,qI];congr 1;have hneg:∀ l:List (QK×Int),co k (((l.map qt).map (fun t:Qtm=>(⟨t.e,t.h,0 - t.c⟩:Qtm))).map qp)=-co k l:=fun l=>by
  induction l with
  | nil=>rfl
  | cons y l ih=>
   simp only[List.map_cons,co,ih];have e1:(qp (⟨(qt y).e,(qt y).h,0 - (qt y).c⟩:Qtm)).1=y.1:=rfl;have e2:(qp (⟨(qt y).e,(qt y).h,0 - (qt y).c⟩:Qtm)).2=0 - y.2:=rfl;rw[e1,e2];split <;> omega
 rw[hneg,gU];congr 1;unfold dW eY;have:∀ l:List Qtm,co k ((l.flatMap fun x=>[(⟨e.1,e.2,q⟩:Qtm)].map (gi fm x)).map qp)=co k ((l.map qp).map fun y=>(dM fm e y.1,q*y.2)):=fun l=>by
  induction l with
  | nil=>rfl
  | cons y l ih=>
   simp only[List.map_cons,List.map_nil] at ih ⊢;simp only[List.flatMap_cons,List.map_append,eD,ih,List.map_cons,List.map_nil,co];have e1:(qp (gi fm y ⟨e.1,e.2,q⟩)).1=dM fm e (qp y).1:=rfl;have e2:(qp (gi fm y ⟨e.1,e.2,q⟩)).2=q*(qp y).2:=Int.mul_comm _ _;rw[e1,e2];omega
 exact this g.ts
def q9 (x:List Int):QK:=(x.take 8,x.getD 8 0)
theorem E8 {k:QK} (h:k.1.length<=8):q9 (kq k)=(pad k.1,k.2):=by
 have hp:=fC h;unfold q9 kq;rw[List.take_append_of_le_length (by omega),List.take_of_length_le (by omega),List.getD_eq_getElem?_getD,List.getElem?_append_right (by omega),hp];rfl
theorem Fp {a b:QK} (h:a.1.length=b.1.length):qlt (pad a.1,a.2) (pad b.1,b.2)=qlt a b:=by
 rw[Bool.eq_iff_iff,mJ,mJ];simp only;rw[CQ h];constructor
 ·rintro (⟨e,q⟩ | q)
  ·exact .inl ⟨Bh h e,q⟩
  ·exact .inr q
 ·rintro (⟨e,q⟩ | q)
  ·exact .inl ⟨by rw[e],q⟩
  ·exact .inr q
structure oP (P:List (List Int×Int)) (top:List Int):Prop where
 len:top.length=9
 mem:P≠[]->∃ c,(top,c)∈P
 max:∀ y∈P,qlt (q9 top) (q9 y.1)=false
theorem oP.keep {P:List (List Int×Int)} {top:List Int} (h:oP P top) {y:List Int×Int} (hne:P≠[]) (hy:qlt (q9 top) (q9 y.1)=false):oP (P ++ [y]) top:=by
 obtain⟨c,hc⟩:=h.mem hne;refine⟨h.len,fun _=>⟨c,by simp[hc]⟩,fun z hz=>?_⟩;rcases List.mem_append.1 hz with hz | hz
 ·exact h.max z hz
 ·simp only[List.mem_singleton] at hz;subst hz;exact hy
theorem oP.next {P:List (List Int×Int)} {top:List Int} (h:oP P top) {y:List Int×Int} (hl:y.1.length=9) (hy:P=[]\/qlt (q9 top) (q9 y.1)=true):oP (P ++ [y]) y.1:=by
 refine⟨hl,fun _=>⟨y.2,by simp⟩,fun z hz=>?_⟩;rcases List.mem_append.1 hz with hz | hz
 ·rcases hy with rfl | hy
  ·simp at hz
  ·cases hq:qlt (q9 y.1) (q9 z.1) with
   | false=>rfl
   | true=>
    have h1:=h.max z hz;have h2:=c7.tr _ _ _ hy hq;rw[h1] at h2;simp at h2
 ·simp only[List.mem_singleton] at hz;subst hz;exact c7.irr _
theorem CV {n:Nat} {es:List (List Int×Int)} {l:List (QK×Int)} {P:List (List Int×Int)} {top:List Int} {a:QK} {c:Int} {R:List (QK×Int)} (h:gB n es l) (h8:n<=8) (hl:∀ x∈l,x.1.1.length=n) (hP:P.Perm es) (hT:oP P top) (hR:nf qlt l=(a,c) :: R) :
  top=kq a/\dQ top es=some c:=by
 have hal:a.1.length=n:=by
  obtain⟨x,hx,e⟩:=lT (y:=(a,c)) (by rw[hR];simp);have h9:=hl x hx;rw[e] at h9;exact h9
 have hd:=fa c7 l;have hc:=jt c7 hd (x:=(a,c)) (by rw[hR];simp);rw[gU] at hc;have hcz:c≠0:=iq l (a,c) (by rw[hR];simp);have hva:=h.val a hal;have hga:dQ (kq a) es=some c:=by
  rw[hc] at hva
  cases hg:dQ (kq a) es with
  | none=>rw[hg] at hva;simp at hva;exact absurd hva.symm hcz
  | some v=>rw[hg] at hva;simp at hva;rw[hva]
 have hmem:=wZ hga;have hmP:=hP.mem_iff.2 hmem;obtain⟨v,hv⟩:=hT.mem (by intro e;rw[e] at hmP;simp at hmP);have hvE:=hP.mem_iff.1 hv;obtain⟨hvz,e,hel,he⟩:=h.nz _ hvE;simp only at he hvz;have hlt:=hT.max _ hmP;simp only at hlt;rw[he,E8 (by omega),E8 (by omega),Fp (hel.trans hal.symm)] at hlt;have hget:=yK h.nod hvE;have hve:=h.val e hel;rw[<-he,hget] at hve;simp only[Option.getD_some] at hve;have hco:co e (nf qlt l)≠0:=by rw[gU,<-hve];exact hvz
 obtain⟨z,hz,ez⟩:=zw hco;have hea:e=a:=by
  rw[hR] at hz hd;rcases List.mem_cons.1 hz with rfl | hz
  ·exact ez.symm
  ·have h1:=List.rel_of_pairwise_cons hd hz;simp only at h1;rw[ez,hlt] at h1;simp at h1
 subst hea;exact⟨he,by rw[he];exact hga⟩
structure sc (fm:List (List Int)) (g:Qsm) (n:Nat) (R O:List (QK×Int)):Prop where
 od:dY qlt O
 oz:Nz O
 ol:∀ x∈O,x.1.1.length=n
 sep:∀ x∈O,∀ y∈R,qlt y.1 (dM fm x.1 (ey g))=true
theorem Bd {fm:List (List Int)} {e b:QK} (h:e.1.length=b.1.length):qdv fm (dM fm e b) b=e:=by
 have h1:bc (-1) (bc 1 b.1 e.1) b.1=e.1:=by rw[lF _ _ h.symm,y9 _ _ h]
 unfold qdv dM;refine Prod.ext h1 ?_;simp only;rw[h1];omega
theorem sc.step {fm:List (List Int)} {g:Qsm} {n:Nat} {x:QK×Int} {R O:List (QK×Int)} (h:sc fm g n (x :: R) O) (hR:dY qlt (x :: R)) (hRl:∀ y∈x :: R,y.1.1.length=n) (hg:aL g) (hgn:g.v=n) (hne:g.ts≠[]) (hm:x.2.tmod (ev g)=0) (hq:x.2.tdiv (ev g)≠0) :
  sc fm g n (nf qlt (iH fm g x R)) (O ++ [(qdv fm x.1 (ey g),x.2.tdiv (ev g))]):=by
 have hgm:=xt hne;have hgd:=iA hg;have hgD:=oN hg hgn;rw[hgm] at hgd hgD;have hbl:(ey g).1.length=n:=(hgD (ey g,ev g) (by simp)).1.1;have hxl:=hRl x (by simp);have hA:=Eb fm n;have hless:=xo c7 hA hR hRl hgd (fun y hy=>(hgD y hy).1.1) hm;rw[<-hgm] at hless;have hel:(qdv fm x.1 (ey g)).1.length=n:=hA.ddv x.1 _ hxl hbl;have hback:=hA.mul_dv x.1 (ey g) hxl hbl;refine⟨?_,fun y hy=>?_,fun y hy=>?_,fun y hy z hz=>?_⟩
 ·refine List.pairwise_append.2 ⟨h.od,List.pairwise_singleton ..,fun y hy z hz=>?_⟩;simp only[List.mem_singleton] at hz;subst hz;have h1:=h.sep y hy x (by simp);have hyl:=h.ol y hy;have h2:=hA.dv_lt x.1 _ (ey g) hxl (hA.dmul y.1 _ hyl hbl) hbl h1;rw[Bd (hyl.trans hbl.symm)] at h2;exact h2
 ·rcases List.mem_append.1 hy with hy | hy
  ·exact h.oz y hy
  ·simp only[List.mem_singleton] at hy;subst hy;exact hq
 ·rcases List.mem_append.1 hy with hy | hy
  ·exact h.ol y hy
  ·simp only[List.mem_singleton] at hy;subst hy;exact hel
 ·have h1:=(hless z hz).1;rcases List.mem_append.1 hy with hy | hy
  ·exact c7.tr _ _ _ h1 (h.sep y hy x (by simp))
  ·simp only[List.mem_singleton] at hy;subst hy;show qlt z.1 (dM fm (qdv fm x.1 (ey g)) (ey g))=true;rw[hback];exact h1
theorem sc.nf {fm:List (List Int)} {g:Qsm} {n:Nat} {R O:List (QK×Int)} (h:sc fm g n R O):Ab.nf qlt O=O:=(eq c7 h.od h.oz fun k=>rfl).symm
def qX (fm:List (List Int)) (e:QK) (q:Int) (g:List Qtm):List (QK×Int):=g.map fun t=>(dM fm e (qk t),-q*t.c)
theorem C6 {fm:List (List Int)} {e:QK} {q:Int} {g:List Qtm} {i:Nat} (h:i < g.length):qX fm e q (g.take (i+1))=qX fm e q (g.take i) ++ [(dM fm e (qk g[i]),-q*g[i].c)]:=by
 unfold qX;rw[List.take_succ_eq_append_getElem h,List.map_append];rfl
theorem EA {fm:List (List Int)} {g:Qsm} {x:QK×Int} {R l l2:List (QK×Int)} (hR:nf qlt l=x :: R) (hl2:l2.Perm (l ++ qX fm (qdv fm x.1 (ey g)) (x.2.tdiv (ev g)) g.ts)):nf qlt l2=nf qlt (iH fm g x R):=by
 refine eq c7 (fa c7 _) (iq _) fun k=>?_;rw[gU,lu k hl2,iH,eD,eD,<-hR,gU];congr 1;unfold qX eY;rw[List.map_map];rfl
set_option maxRecDepth 10000
set_option maxHeartbeats 2000000
theorem vt {f:Qsm} (h:aL f) {n:Nat} (hn:f.v=n):∀ t∈f.ts,t.e.length=n/\Dig t.e/\(∀ x∈t.e,-20<=x/\x<=20)/\(-1000000<=t.c/\t.c<=1000000):=fun t ht=>by
 obtain⟨h1,_,h2,_,h3⟩:=h.2.2.1 t ht;exact⟨by omega,fun x hx=>by have:=h3 x hx;omega,h3,h2⟩
theorem jk (f g:Nat->Int):∀ n,sm (fun i=>f i+g i) n=sm f n+sm g n
 | 0=>rfl
 | n+1=>by
  simp only[sm,jk f g n];omega
theorem nc (f:Nat->Int):∀ n,sm (fun i=>-f i) n=-sm f n
 | 0=>rfl
 | n+1=>by
  simp only[sm,nc f n];omega
theorem jv:∀ n,sm (fun _=>0) n=0
 | 0=>rfl
 | n+1=>by simp[sm,jv n]
theorem se (f:Nat->Nat->Int) (m:Nat):∀ n,sm (fun i=>sm (f i) m) n=sm (fun j=>sm (fun i=>f i j) n) m
 | 0=>by
  simp only[sm];rw[jv]
 | n+1=>by
  simp only[sm,se f m n];rw[jk]
theorem D5 (fm:List (List Int)) {a b:List Int} (c:List Int) (h:a.length=b.length):skw fm (bc 1 a b) c=skw fm a c+skw fm b c:=by
 unfold skw;rw[<-jk];refine bT _ fun i _=>?_;unfold skR;rw[<-jk];refine bT _ fun j _=>?_;unfold skT;rw[wV i a b h,Int.add_mul,Int.add_mul]
theorem Ep (fm:List (List Int)) {a b:List Int} (c:List Int) (h:a.length=b.length):skw fm c (bc 1 a b)=skw fm c a+skw fm c b:=by
 unfold skw;rw[<-jk];refine bT _ fun i _=>?_;unfold skR;rw[<-jk];refine bT _ fun j _=>?_;unfold skT;rw[wV j a b h,Int.mul_add]
theorem EW {fm:List (List Int)} (hok:bp fm) (a b:List Int):skw fm a b=-skw fm b a:=by
 have e:skw fm a b=sm (fun i=>sm (fun j=>-skT fm b a j i) fm.length) fm.length:=by
  unfold skw;refine bT _ fun i hi=>?_;unfold skR;refine bT _ fun j hj=>?_;have h1:=(hok.2.2 i hi j hj).2;have h2:at2 fm j i=-at2 fm i j:=by omega
  unfold skT;rw[h2]
  grind
 rw[e,se];unfold skw;rw[<-nc];refine bT _ fun j _=>?_;unfold skR;rw[<-nc]
theorem GH {fm:List (List Int)} {a b:List Int} {F E E':Nat} (hF:∀ i,i < fm.length->∀ j,j < fm.length->(at2 fm i j).natAbs<=F) (ha:a.length=fm.length) (hb:b.length=fm.length) (hE:∀ x∈a,-(E:Int)<=x/\x<=E) (hE':∀ x∈b,-(E':Int)<=x/\x<=E') :
  (skw fm a b).natAbs<=fm.length*(fm.length*(E*F*E')):=by
 refine mE _ fun i hi=>mE _ fun j hj=>?_;have h1:(a.getD i 0).natAbs<=E:=by
  rw[gO (by omega)];have:=hE _ (List.getElem_mem (show i < a.length by omega));omega
 have h2:(b.getD j 0).natAbs<=E':=by
  rw[gO (by omega)];have:=hE' _ (List.getElem_mem (show j < b.length by omega));omega
 exact nu (nu h1 (hF i hi j hj)) h2
def qm2 (fm:List (List Int)) (a b:QK):QK:=(bc 1 a.1 b.1,a.2+b.2+skw fm a.1 b.1)
def qn (k:QK):QK:=(k.1,-k.2)
theorem Fx (fm:List (List Int)) {a b c:QK} {n:Nat} (ha:a.1.length=n) (hb:b.1.length=n) (hc:c.1.length=n):qm2 fm (qm2 fm a b) c=qm2 fm a (qm2 fm b c):=by
 have ea:∀ x y z:List Int,x.length=y.length->y.length=z.length->bc 1 (bc 1 x y) z=bc 1 x (bc 1 y z):=by
  intro x
  induction x with
  | nil=>intro y z h1 h2;match y,z,h1,h2 with | [],[],_,_=>rfl
  | cons u x ih=>
   intro y z h1 h2
   match y,z,h1,h2 with
   | v :: y,w :: z,h1,h2=>
    simp only[bc,ih y z (by simpa using h1) (by simpa using h2),Int.one_mul,Int.add_assoc]
 unfold qm2;refine Prod.ext ?_ ?_
 ·exact ea _ _ _ (ha.trans hb.symm) (hb.trans hc.symm)
 ·dsimp only;rw[D5 fm c.1 (ha.trans hb.symm),Ep fm a.1 (hb.trans hc.symm)];omega
theorem Gk {fm:List (List Int)} (hok:bp fm) {a b:QK} (h:a.1.length=b.1.length):qn (qm2 fm a b)=qm2 fm (qn b) (qn a):=by
 unfold qn qm2;refine Prod.ext (mC _ _ h) ?_;dsimp only;have:=EW hok a.1 b.1;omega
theorem EE (fm:List (List Int)) (a b:List Qtm):(dW fm a b).map qp=cV (qm2 fm) (a.map qp) (b.map qp):=by
 induction a with
 | nil=>rfl
 | cons x a ih=>
  unfold dW cV at ih ⊢;simp only[List.flatMap_cons,List.map_append,List.map_cons,ih];congr 1;unfold eY;rw[List.map_map,List.map_map];rfl
theorem wo {K J:Type} (g:K->J) (φ:J->Int):∀ l:List (K×Int),vl φ (l.map fun x=>(g x.1,x.2))=vl (fun e=>φ (g e)) l
 | []=>rfl
 | x :: l=>by simp only[List.map_cons,vl,wo g φ l]
theorem Bx {fm:List (List Int)} (hok:bp fm) {f g:Qsm} (hf:aL f) (hg:aL g) (hv:f.v=fm.length) (hw:g.v=fm.length):eK fm f g=enQ fm.length ((nf qlt (cV (qm2 fm) (f.ts.map qp) (g.ts.map qp))).map qt):=by
 unfold eK;rw[if_pos ⟨hok,hf,hg,hv,hw⟩,hv];unfold gaQ;rw[EE]
def SmQ (f:Qsm):Prop:=f.ts.length < 4611686018427387904/\∀ t∈f.ts,t.e.length < 4611686018427387904
theorem FI (f:Qsm):(⟨f.v,(f.ts.map qp).map qt⟩:Qsm)=f:=by
 rw[List.map_map];have:qt ∘ qp=id:=rfl;rw[this,List.map_id]
theorem D2 {f:Qsm} (h:aL f):nf qlt (f.ts.map qp)=f.ts.map qp:=(eq c7 (iA h) (nJ h) fun k=>rfl).symm
theorem rr (fm:List (List Int)) (f g:List (QK×Int)):nf qlt (cV (qm2 fm) g f)=nf qlt (cV (dM fm) f g):=
 BY c7 fun φ=>by
  rw[gq,gq,vM];rfl
theorem Aa {fm:List (List Int)} {h g r:Qsm} (hd:dm fm h g=(r,true)):aL r/\eK fm g r=(h,true):=by
 unfold dm at hd;split at hd
 ·rename_i hc
  cases hO:gr fm jB g 600 (h.ts.map qp) with
  | none=>rw[hO] at hd;simp[kP] at hd
  | some O=>
   obtain⟨g1,g2,g3,g4,g5,g6⟩:=qz hc hO;obtain⟨⟨hok,hh,hg,hv,hw⟩,hne⟩:=hc;rw[hO] at hd;simp only[kP,enQ] at hd;split at hd
   ·rename_i hR;injection hd with hd _
    subst hd;refine⟨hR,?_⟩;rw[Bx hok hg hR hw hv,rr];simp only[qI];have e:nf qlt (cV (dM fm) O (g.ts.map qp))=h.ts.map qp:=(eq c7 (iA hh) (nJ hh) g6).symm;rw[e,<-hv];unfold enQ;rw[FI h,if_pos hh]
   ·injection hd with _ q
    simp at q
 ·injection hd with _ q
  simp at q
set_option maxRecDepth 10000
set_option maxHeartbeats 2000000
theorem vz (x:Int):af Tryz.prog F.eU [.int x] [] true (fun outs res=>outs=[]/\res=[.one (D.bool (!decide (-99<=x/\x<=99)))]):=by
 refine af.ob (C:=C.eU) (n:=Tryz.f132.ntmps) bC bD Tryz.func132 rfl rfl ?_;simp only[Tryz.f132];apply aa;refine ab fun K hK=>?_;simp[C.eU];apply hK;clear hK K;show AWp _ _ _ _ _;apply aa;refine aK ([0,1] ++ ([2,3])) rfl fun K hK=>?_;refine oSg fun L hL=>?_;simp[C.eU];refine ae (cg x (-99) 99) (by simp) (by simp) ?_;simp[C.eU];apply hL;clear hL L;refine oEn fun L hL=>?_;simp[C.eU];apply hL;clear hL L;simp[C.eU];apply hK;clear hK K;show AWp _ _ _ _ _;apply aI;simp[C.eU]
theorem tA (m:Mat) (i j q:Nat) (n:Nat) (hn:m.n=n) (hq:q=i*n+j) (hlt:q < m.d.length) (hb:m.d.length < 1000000):af Tryz.prog F.fU [aM m,.int i,.int j] [] true (fun outs res=>outs=[]/\res=[.one (D.int (m.d[q]'hlt))]):=by
 refine af.ob (C:=C.fU) (n:=Tryz.f42.ntmps) bC bD Tryz.func42 rfl rfl ?_;simp only[Tryz.f42];apply aa;refine ab fun K hK=>?_;simp[C.fU];apply hK;clear hK K;show AWp _ _ _ _ _;apply aa;have h0:((i:Int)*n)=((i*n:Nat):Int):=by simp
 have h1:IntKind.i64.wrap ((i:Int)*n)=(i:Int)*n:=by
  rw[h0,aj (by omega) (by omega)]
 have h2:IntKind.i64.wrap ((i:Int)*n+j)=(q:Int):=by
  rw[h0,aj (by omega) (by omega)];omega
 refine ab fun K hK=>?_;simp[C.fU,hn,h1,h2,hlt,ao];apply hK;clear hK K;show AWp _ _ _ _ _;apply aI;simp[C.fU]
def g0 (l:List Int) (i:Nat):Int:=l.getD i 0
def bM (m:Mat) (i j:Nat):Int:=g0 m.d (i*m.n.toNat+j)
structure Sol (n:Nat) (b:Nat->Nat->Int) (d:Nat->Int):Prop where
 pos:∀ i,i < n->0 < d i
 rel:∀ i j,i < n->j < n->d i*b i j=-(d j*b j i)
theorem dF (l:List Int) (i j:Nat) (x:Int) (h:i < l.length):g0 (l.set i x) j=if i=j then x else g0 l j:=by
 simp only[g0,List.getD_eq_getElem?_getD,List.getElem?_set];split
 ·rename_i e;subst e;simp[h]
 ·rfl
theorem L0 (A B:Int) (hA:0 < A) (hB:0 < B):∃ a b g:Int,0 < a/\0 < b/\0 < g/\(Int.gcd A B:Int)=g/\A=a*g/\B=b*g/\a.natAbs.Coprime b.natAbs:=by
 obtain⟨A,rfl⟩:=Int.eq_ofNat_of_zero_le (Int.le_of_lt hA);obtain⟨B,rfl⟩:=Int.eq_ofNat_of_zero_le (Int.le_of_lt hB);have hA':0 < A:=by omega
 have hB':0 < B:=by omega
 have hg:0 < A.gcd B:=Nat.gcd_pos_of_pos_left _ hA';have e1:=Nat.div_mul_cancel (Nat.gcd_dvd_left A B);have e2:=Nat.div_mul_cancel (Nat.gcd_dvd_right A B);refine⟨(A / A.gcd B:Nat),(B / A.gcd B:Nat),A.gcd B,?_,?_,by omega,rfl,?_,?_,?_⟩
 ·have:=Nat.div_pos (Nat.le_of_dvd hA' (Nat.gcd_dvd_left A B)) hg;omega
 ·have:=Nat.div_pos (Nat.le_of_dvd hB' (Nat.gcd_dvd_right A B)) hg;omega
 ·rw[<-Int.natCast_mul,e1]
 ·rw[<-Int.natCast_mul,e2]
 ·rw[Int.natAbs_natCast,Int.natAbs_natCast];exact Nat.coprime_div_gcd_div_gcd hg
def Edge (b:Nat->Nat->Int) (num den:List Int) (P:List Nat) (i j:Nat):Prop:=
 (b i j=0/\b j i=0)\/(j∈P/\g0 num i*g0 den j*b i j=-(g0 num j*g0 den i*b j i))
structure BJ (n:Nat) (b:Nat->Nat->Int) (old:List Nat) (s:Nat) (num den:List Int) (P:List Nat) (a j:Nat):Prop where
 ln:num.length=n
 ld:den.length=n
 pn:P.Nodup
 pl:∀ i∈P,i < n
 mem:∀ i,i < n->(g0 num i≠0↔i∈old\/i∈P)
 pd:∀ i∈P,i ∉ old
 hd:P[0]? = some s
 s1:g0 num s=1/\g0 den s=1
 pos:∀ i∈P,0 < g0 num i/\0 < g0 den i/\(g0 num i).natAbs.Coprime (g0 den i).natAbs
 bd:∀ t (h:t < P.length),(g0 num P[t]).natAbs<=99 ^ t/\(g0 den P[t]).natAbs<=99 ^ t
 qd:∃ Q:Nat,0 < Q/\Q<=99 ^ (P.length - 1)/\∀ i∈P,(g0 den i).natAbs ∣ Q
 sol:∀ d,Sol n b d->∀ i∈P,d i*g0 den i=d s*g0 num i
 edge:∀ t (h:t < P.length),(t < a->∀ k,k < n->Edge b num den P P[t] k)/\(t=a->∀ k,k < j->Edge b num den P P[t] k)
structure OJ (n:Nat) (b:Nat->Nat->Int) (old:List Nat) (out:List Int):Prop where
 lo:out.length=n
 cl:∀ i∈old,i < n/\0 < g0 out i/\∀ j,j < n->(b i j=0/\b j i=0)\/(j∈old/\g0 out i*b i j=-(g0 out j*b j i))
 mn:∀ d,Sol n b d->∀ i∈old,g0 out i ∣ d i
 bd:∀ i∈old,g0 out i<=99 ^ 8
section
variable {n:Nat} {b:Nat->Nat->Int} {old:List Nat} {s:Nat} {num den out:List Int} {P:List Nat} {a j:Nat}
theorem BJ.start (ln:num.length=n) (ld:den.length=n) (hs:s < n) (hm:∀ i,i < n->(g0 num i≠0↔i∈old)) (h0:g0 num s=0):BJ n b old s (num.set s 1) (den.set s 1) [s] 0 0:=by
 have hso:s ∉ old:=fun h=>(hm s hs).2 h h0;refine⟨by simpa using ln,by simpa using ld,by simp,by simpa using hs,fun i hi=>?_,by simpa using hso,rfl,?_,?_,?_,⟨1,by simp,by simp,?_⟩,?_,?_⟩
 ·rw[dF _ _ _ _ (by omega)]
  by_cases e:s=i
  ·simp[e]
  ·rw[if_neg e,hm i hi];simp;omega
 ·rw[dF _ _ _ _ (by omega),dF _ _ _ _ (by omega)];simp
 ·intro i hi;obtain rfl:i=s:=by simpa using hi
  rw[dF _ _ _ _ (by omega),dF _ _ _ _ (by omega)];simp
 ·intro t ht;obtain rfl:t=0:=by simpa using ht
  simp only[List.getElem_cons_zero];rw[dF _ _ _ _ (by omega),dF _ _ _ _ (by omega)];simp
 ·intro i hi;obtain rfl:i=s:=by simpa using hi
  rw[dF _ _ _ _ (by omega)];simp
 ·intro d _ i hi;obtain rfl:i=s:=by simpa using hi
  rw[dF _ _ _ _ (by omega),dF _ _ _ _ (by omega)];simp
 ·intro t ht;exact⟨fun h=>absurd h (by omega),fun _ k h=>absurd h (by omega)⟩
theorem BJ.skip (h:BJ n b old s num den P a j) (ha:a < P.length) (h1:b P[a] j=0) (h2:b j P[a]=0):BJ n b old s num den P a (j+1):=
 { h with edge:=fun t ht=>⟨(h.edge t ht).1,fun e k hk=>by
   subst e
   by_cases q:k=j
   ·subst q;exact .inl ⟨h1,h2⟩
   ·exact (h.edge t ht).2 rfl k (by omega)⟩ }
theorem BJ.next (h:BJ n b old s num den P a n):BJ n b old s num den P (a+1) 0:=
 { h with edge:=fun t ht=>⟨fun e k hk=>by
   by_cases q:t=a
   ·exact (h.edge t ht).2 q k hk
   ·exact (h.edge t ht).1 (by omega) k hk,fun _ k h=>absurd h (by omega)⟩ }
theorem yv {x y p q:Int} (hx:0 < x) (hy:0 < y) (e:x*p=y*q):(0 < p->0 < q)/\(p=0->q=0)/\(p < 0->q < 0):=by
 refine⟨fun h=>?_,fun h=>?_,fun h=>?_⟩
 ·have h1:0 < y*q:=e ▸ Int.mul_pos hx h;exact Int.pos_of_mul_pos_right h1 (by omega)
 ·rw[h,Int.mul_zero] at e;rcases Int.mul_eq_zero.1 e.symm with h | h <;> omega
 ·have h1:0 < y * -q:=by rw[Int.mul_neg,<-e,<-Int.mul_neg];exact Int.mul_pos hx (by omega)
  have:=Int.pos_of_mul_pos_right h1 (by omega);omega
theorem jl {d:Nat->Int} (hd:Sol n b d) {i:Nat} (hi:i < n) (hj:j < n):(0 < b i j↔0 < -b j i)/\(b i j=0↔b j i=0)/\(b i j < 0↔-b j i < 0):=by
 have h1:=hd.pos i hi;have h2:=hd.pos j hj;have h3:=hd.rel i j hi hj;have e:d i*b i j=d j * -b j i:=by rw[h3,Int.mul_neg]
 have q1:=yv h1 h2 e;have q2:=yv h2 h1 e.symm;refine⟨⟨q1.1,q2.1⟩,⟨fun h=>?_,fun h=>?_⟩,⟨q1.2.2,q2.2.2⟩⟩
 ·have:=q1.2.1 h;omega
 ·exact q2.2.1 (by omega)
theorem sT {p q:Int} (h:0 < p/\0 < q\/p < 0/\q < 0):∃ u v:Int,0 < u/\0 < v/\max p (-p)=u/\max q (-q)=v/\v*p=u*q/\u.natAbs=p.natAbs/\v.natAbs=q.natAbs/\(∀ x y:Int,x*p=y*q->x*u=y*v):=by
 rcases h with h | h
 ·refine⟨p,q,h.1,h.2,by omega,by omega,Int.mul_comm _ _,rfl,rfl,fun x y e=>e⟩
 ·refine⟨-p,-q,by omega,by omega,by omega,by omega,by grind,by omega,by omega,fun x y e=>by grind⟩
theorem BJ.new (h:BJ n b old s num den P a j) (hoc:∀ i∈old,∀ j,j < n->(b i j=0/\b j i=0)\/j∈old) (ha:a < P.length) (hj:j < n) (hB:∀ i j,i < n->j < n->(b i j).natAbs<=99)
  (hpq:0 < b P[a] j/\0 < -b j P[a]\/b P[a] j < 0/\-b j P[a] < 0) (hz:g0 num j=0) {u v x y g:Int}
  (hu:max (b P[a] j) (-b P[a] j)=u) (hv:max (-b j P[a]) (- -b j P[a])=v) (hg:0 < g) (hx0:0 < x) (hy0:0 < y) (hx:g0 num P[a]*u=x*g) (hy:g0 den P[a]*v=y*g) (hco:x.natAbs.Coprime y.natAbs) :
  BJ n b old s (num.set j x) (den.set j y) (P ++ [j]) a (j+1):=by
 have hin:P[a]∈P:=List.getElem_mem ha;have hi:=h.pl _ hin;have hjP:j ∉ old/\j ∉ P:=by
  have:=h.mem j hj;simp only[hz,ne_eq,not_true_eq_false,false_iff,not_or] at this;exact this
 have hne:∀ i∈P,j≠i:=fun i hi e=>hjP.2 (e ▸ hi);obtain⟨u',v',hu0,hv0,hu',hv',hvp,hup,hvq,hrat⟩:=sT hpq;obtain rfl:u=u':=by omega
 obtain rfl:v=v':=by omega
 have hpi:=h.pos _ hin;have gn:∀ i∈P,g0 (num.set j x) i=g0 num i:=fun i hi=>by
  rw[dF _ _ _ _ (by have:=h.ln;omega),if_neg (hne i hi)]
 have gd:∀ i∈P,g0 (den.set j y) i=g0 den i:=fun i hi=>by
  rw[dF _ _ _ _ (by have:=h.ld;omega),if_neg (hne i hi)]
 have gnj:g0 (num.set j x) j=x:=by rw[dF _ _ _ _ (by have:=h.ln;omega),if_pos rfl]
 have gdj:g0 (den.set j y) j=y:=by rw[dF _ _ _ _ (by have:=h.ld;omega),if_pos rfl]
 have hs:s∈P:=List.mem_of_getElem? h.hd;have hb1:u.natAbs<=99:=hup ▸ hB _ _ hi hj;have hb2:v.natAbs<=99:=by have:=hB _ _ hj hi;omega
 have hxd:x.natAbs ∣ (g0 num P[a]).natAbs*u.natAbs:=by
  rw[<-Int.natAbs_mul,hx,Int.natAbs_mul];exact Nat.dvd_mul_right _ _
 have hyd:y.natAbs ∣ (g0 den P[a]).natAbs*v.natAbs:=by
  rw[<-Int.natAbs_mul,hy,Int.natAbs_mul];exact Nat.dvd_mul_right _ _
 have hbx:x.natAbs<=99 ^ P.length:=by
  have h1:=Nat.le_of_dvd (Nat.mul_pos (by omega) (by omega)) hxd;have h2:=Nat.mul_le_mul (h.bd a ha).1 hb1;rw[<-Nat.pow_succ] at h2;have h3:99 ^ (a+1)<=99 ^ P.length:=Nat.pow_le_pow_right (by omega) (by omega);exact Nat.le_trans h1 (Nat.le_trans h2 h3)
 have hby:y.natAbs<=99 ^ P.length:=by
  have h1:=Nat.le_of_dvd (Nat.mul_pos (by omega) (by omega)) hyd;have h2:=Nat.mul_le_mul (h.bd a ha).2 hb2;rw[<-Nat.pow_succ] at h2;have h3:99 ^ (a+1)<=99 ^ P.length:=Nat.pow_le_pow_right (by omega) (by omega);exact Nat.le_trans h1 (Nat.le_trans h2 h3)
 refine⟨by simpa using h.ln,by simpa using h.ld,?_,?_,?_,?_,?_,?_,?_,?_,?_,?_,?_⟩
 ·rw[List.nodup_append];exact⟨h.pn,by simp,fun i hi k hk=>by simp at hk;subst hk;exact (hne i hi).symm⟩
 ·intro i hi;rcases List.mem_append.1 hi with hi | hi
  ·exact h.pl i hi
  ·simp at hi;omega
 ·intro i hi
  by_cases e:j=i
  ·subst e;rw[gnj];simp;omega
  ·rw[dF _ _ _ _ (by have:=h.ln;omega),if_neg e,h.mem i hi];simp only[List.mem_append,List.mem_singleton];constructor
   ·rintro (q | q)
    ·exact .inl q
    ·exact .inr (.inl q)
   ·rintro (q | q | q)
    ·exact .inl q
    ·exact .inr q
    ·omega
 ·intro i hi;rcases List.mem_append.1 hi with hi | hi
  ·exact h.pd i hi
  ·simp at hi;subst hi;exact hjP.1
 ·rw[List.getElem?_append_left (by omega)];exact h.hd
 ·rw[gn s hs,gd s hs];exact h.s1
 ·intro i hi;rcases List.mem_append.1 hi with hi | hi
  ·rw[gn i hi,gd i hi];exact h.pos i hi
  ·simp at hi;subst hi;rw[gnj,gdj];exact⟨hx0,hy0,hco⟩
 ·intro t ht
  by_cases e:t < P.length
  ·have hm:=List.getElem_mem e;rw[List.getElem_append_left e,gn _ hm,gd _ hm];exact h.bd t e
  ·have e2:t=P.length:=by simp at ht;omega
   subst e2;simp only[List.getElem_concat_length];rw[gnj,gdj];exact⟨hbx,hby⟩
 ·obtain⟨Q,q1,q2,q3⟩:=h.qd;refine⟨Q*v.natAbs,Nat.mul_pos q1 (by omega),?_,?_⟩
  ·rw[List.length_append,List.length_singleton,Nat.add_sub_cancel];have h2:=Nat.mul_le_mul q2 hb2;rw[<-Nat.pow_succ,show (P.length - 1).succ=P.length by omega] at h2;exact h2
  ·intro i hi;rcases List.mem_append.1 hi with hi | hi
   ·rw[gd i hi];exact Nat.dvd_trans (q3 i hi) (Nat.dvd_mul_right _ _)
   ·simp at hi;subst hi;rw[gdj];exact Nat.dvd_trans hyd (Nat.mul_dvd_mul_right (q3 _ hin) _)
 ·intro d hd i hi';rcases List.mem_append.1 hi' with hi' | hi'
  ·rw[gn i hi',gd i hi'];exact h.sol d hd i hi'
  ·simp at hi';subst hi';rw[gnj,gdj];have e1:=h.sol d hd _ hin;have e2:=hrat (d P[a]) (d i) (by have:=hd.rel _ i hi hj;rw[this,Int.mul_neg]);have:d i*y*g=d s*x*g:=by
    rw[Int.mul_assoc,<-hy,Int.mul_assoc,<-hx]
    calc d i*(g0 den P[a]*v)=(d i*v)*g0 den P[a]:=by grind
     _=(d P[a]*g0 den P[a])*u:=by rw[<-e2];grind
     _=d s*(g0 num P[a]*u):=by rw[e1];grind
   exact Int.eq_of_mul_eq_mul_right (by omega) this
 ·intro t ht;have key:∀ i k,i∈P->Edge b num den P i k->Edge b (num.set j x) (den.set j y) (P ++ [j]) i k:=fun i k hi hk=>by
   rcases hk with hk | ⟨hk,e⟩
   ·exact .inl hk
   ·refine .inr ⟨by simp[hk],?_⟩;rw[gn i hi,gd i hi,gn k hk,gd k hk];exact e
  by_cases e:t < P.length
  ·rw[List.getElem_append_left e];refine⟨fun hta k hk=>key _ _ (List.getElem_mem e) ((h.edge t e).1 hta k hk),fun hta k hk=>?_⟩
   by_cases q:k=j
   ·obtain rfl:=hta;obtain rfl:=q;refine .inr ⟨by simp,?_⟩;rw[gn _ hin,gd _ hin,gnj,gdj];have:g0 num P[t]*y*b P[t] k*g=-(x*g0 den P[t]*b k P[t])*g:=by
     calc g0 num P[t]*y*b P[t] k*g=g0 num P[t]*(y*g)*b P[t] k:=by grind
      _=g0 num P[t]*g0 den P[t]*(v*b P[t] k):=by rw[<-hy];grind
      _=(g0 num P[t]*u)*g0 den P[t]*(-b k P[t]):=by rw[hvp];grind
      _=-(x*g0 den P[t]*b k P[t])*g:=by rw[hx];grind
    exact Int.eq_of_mul_eq_mul_right (by omega) this
   ·exact key _ _ (List.getElem_mem e) ((h.edge t e).2 hta k (by omega))
  ·have e2:t=P.length:=by simp at ht;omega
   exact⟨fun h=>absurd h (by omega),fun h=>absurd h (by omega)⟩
theorem BJ.inP (h:BJ n b old s num den P a j) (hoc:∀ i∈old,∀ j,j < n->(b i j=0/\b j i=0)\/j∈old) (ha:a < P.length) (hj:j < n) (hne:b P[a] j≠0) (hz:g0 num j≠0):j∈P:=by
 have hin:P[a]∈P:=List.getElem_mem ha;rcases (h.mem j hj).1 hz with q | q
 ·rcases hoc j q P[a] (h.pl _ hin) with e | e
  ·exact absurd e.2 hne
  ·exact absurd e (h.pd _ hin)
 ·exact q
theorem BJ.cmp (h:BJ n b old s num den P a j) (hoc:∀ i∈old,∀ j,j < n->(b i j=0/\b j i=0)\/j∈old) (ha:a < P.length) (hj:j < n)
  (hpq:0 < b P[a] j/\0 < -b j P[a]\/b P[a] j < 0/\-b j P[a] < 0) (hz:g0 num j≠0) {u v x y g:Int}
  (hu:max (b P[a] j) (-b P[a] j)=u) (hv:max (-b j P[a]) (- -b j P[a])=v) (hg:0 < g) (hx0:0 < x) (hy0:0 < y) (hx:g0 num P[a]*u=x*g) (hy:g0 den P[a]*v=y*g) (hco:x.natAbs.Coprime y.natAbs) :
  (g0 num j=x/\g0 den j=y->BJ n b old s num den P a (j+1))/\(¬ (g0 num j=x/\g0 den j=y)->∀ d,¬ Sol n b d):=by
 have hin:P[a]∈P:=List.getElem_mem ha;have hjP:=h.inP hoc ha hj (by omega) hz;obtain⟨u',v',hu0,hv0,hu',hv',hvp,hup,hvq,hrat⟩:=sT hpq;obtain rfl:u=u':=by omega
 obtain rfl:v=v':=by omega
 refine⟨fun⟨e1,e2⟩=>?_,fun hne d hd=>hne ?_⟩
 ·refine { h with edge:=fun t ht=>⟨(h.edge t ht).1,fun e k hk=>?_⟩ };subst e
  by_cases q:k=j
  ·subst q;refine .inr ⟨hjP,?_⟩;rw[e1,e2];have:g0 num P[t]*y*b P[t] k*g=-(x*g0 den P[t]*b k P[t])*g:=by
    calc g0 num P[t]*y*b P[t] k*g=g0 num P[t]*(y*g)*b P[t] k:=by grind
     _=g0 num P[t]*g0 den P[t]*(v*b P[t] k):=by rw[<-hy];grind
     _=(g0 num P[t]*u)*g0 den P[t]*(-b k P[t]):=by rw[hvp];grind
     _=-(x*g0 den P[t]*b k P[t])*g:=by rw[hx];grind
   exact Int.eq_of_mul_eq_mul_right (by omega) this
  ·exact (h.edge t ht).2 rfl k (by omega)
 ·have e1:=h.sol d hd _ hin;have e3:=h.sol d hd _ hjP;have e2:=hrat (d P[a]) (d j) (by have:=hd.rel _ j (h.pl _ hin) hj;rw[this,Int.mul_neg]);have e4:d j*y=d s*x:=by
   have:d j*y*g=d s*x*g:=by
    rw[Int.mul_assoc,<-hy,Int.mul_assoc,<-hx]
    calc d j*(g0 den P[a]*v)=(d j*v)*g0 den P[a]:=by grind
     _=(d P[a]*g0 den P[a])*u:=by rw[<-e2];grind
     _=d s*(g0 num P[a]*u):=by rw[e1];grind
   exact Int.eq_of_mul_eq_mul_right (by omega) this
  have hp:=h.pos j hjP;have hds:=hd.pos s (h.pl s (List.mem_of_getElem? h.hd));have e5:g0 num j*y=x*g0 den j:=by
   have h0:d s*(g0 num j*y)=d s*(x*g0 den j):=by
    calc d s*(g0 num j*y)=(d s*g0 num j)*y:=by grind
     _=(d j*y)*g0 den j:=by rw[<-e3];grind
     _=d s*(x*g0 den j):=by rw[e4];grind
   exact Int.eq_of_mul_eq_mul_left (by omega) h0
  have e6:(g0 num j).natAbs*y.natAbs=x.natAbs*(g0 den j).natAbs:=by rw[<-Int.natAbs_mul,e5,Int.natAbs_mul]
  have k1:(g0 num j).natAbs=x.natAbs:=by
   refine Nat.dvd_antisymm ?_ ?_
   ·exact hp.2.2.dvd_of_dvd_mul_right (e6 ▸ Nat.dvd_mul_right _ _)
   ·exact hco.dvd_of_dvd_mul_right (e6 ▸ Nat.dvd_mul_right _ _)
  have k2:(g0 den j).natAbs=y.natAbs:=by
   rw[k1] at e6;exact (Nat.eq_of_mul_eq_mul_left (by omega) e6).symm
  omega
theorem CL {i j:Nat} (hi:i < n) (hj:j < n) (h0:¬ (b i j=0/\-b j i=0)) (h:¬ (0 < b i j/\0 < -b j i\/b i j < 0/\-b j i < 0)\/i=j) (d:Nat->Int):¬ Sol n b d:=fun hd=>by
 obtain⟨h1,h2,h3⟩:=jl hd hi hj;rcases h with h | h
 ·omega
 ·subst h;omega
theorem BJ.den_dvd (h:BJ n b old s num den P a j) {d:Nat->Int} (hd:Sol n b d) {i:Nat} (hi:i∈P):g0 den i ∣ d s:=by
 have e:=h.sol d hd i hi;have hp:=h.pos i hi;have:(g0 den i).natAbs ∣ (d s).natAbs:=by
  refine hp.2.2.symm.dvd_of_dvd_mul_right (n:=(g0 num i).natAbs) ?_;rw[<-Int.natAbs_mul,<-e,Int.natAbs_mul];exact Nat.dvd_mul_left _ _
 exact Int.natAbs_dvd_natAbs.1 this
structure CJ (n:Nat) (b:Nat->Nat->Int) (s:Nat) (den:List Int) (P:List Nat) (t:Nat) (c:Int):Prop where
 pos:0 < c
 dv:∀ i∈P.take t,g0 den i ∣ c
 qd:c<=99 ^ 4
 ex:∃ Q:Nat,Q<=99 ^ 4/\0 < Q/\c.natAbs ∣ Q/\∀ i∈P,(g0 den i).natAbs ∣ Q
 sol:∀ d,Sol n b d->c ∣ d s
theorem y7 {c e:Int} (hc:0 < c) (he:0 < e):∃ w:Nat,c.tdiv (Int.gcd c e:Int)=w/\w<=c/\(w:Int)*e=(Nat.lcm c.natAbs e.natAbs:Nat):=by
 obtain⟨c,rfl⟩:=Int.eq_ofNat_of_zero_le (Int.le_of_lt hc);obtain⟨e,rfl⟩:=Int.eq_ofNat_of_zero_le (Int.le_of_lt he);refine⟨c / c.gcd e,?_,?_,?_⟩
 ·rw[Int.gcd_natCast_natCast,<-Int.ofNat_tdiv]
 ·have:=Nat.div_le_self c (c.gcd e);omega
 ·rw[Int.natAbs_natCast,Int.natAbs_natCast,<-Int.natCast_mul,Nat.lcm];congr 1;rw[Nat.div_mul_right_comm (Nat.gcd_dvd_left c e)]
theorem CJ.start (h:BJ n b old s num den P a j) (hn:n<=5) (hPl:P.length<=n):CJ n b s den P 0 1:=by
 obtain⟨Q,q1,q2,q3⟩:=h.qd;refine⟨by omega,by simp,by decide,⟨Q,Nat.le_trans q2 (Nat.pow_le_pow_right (by omega) (by omega)),q1,by simp,q3⟩,fun d _=>Int.one_dvd _⟩
theorem CJ.step {t:Nat} {c:Int} (h:CJ n b s den P t c) (hB:BJ n b old s num den P a j) (ht:t < P.length):CJ n b s den P (t+1) (c.tdiv (Int.gcd c (g0 den P[t]):Int)*g0 den P[t]):=by
 have hin:P[t]∈P:=List.getElem_mem ht;obtain⟨w,w1,_,w2⟩:=y7 h.pos (hB.pos _ hin).2.1;rw[w1,w2];obtain⟨Q,q1,q2,q3,q4⟩:=h.ex;have hQ:Nat.lcm c.natAbs (g0 den P[t]).natAbs ∣ Q:=Nat.lcm_dvd q3 (q4 _ hin);have hp:0 < Nat.lcm c.natAbs (g0 den P[t]).natAbs:=Nat.pos_of_dvd_of_pos hQ q2;have hl:=Nat.le_of_dvd q2 hQ;refine⟨by omega,fun i hi=>?_,?_,⟨Q,q1,q2,by simpa using hQ,q4⟩,fun d hd=>?_⟩
 ·rw[List.take_succ_eq_append_getElem ht] at hi;rcases List.mem_append.1 hi with hi | hi
  ·exact Int.dvd_trans (h.dv i hi) (Int.natAbs_dvd.1 (Int.natCast_dvd_natCast.2 (Nat.dvd_lcm_left _ _)))
  ·obtain rfl:i=P[t]:=by simpa using hi
   exact Int.natAbs_dvd.1 (Int.natCast_dvd_natCast.2 (Nat.dvd_lcm_right _ _))
 ·have:(Nat.lcm c.natAbs (g0 den P[t]).natAbs:Int)<=((99 ^ 4:Nat):Int):=by omega
  exact this
 ·have h1:c.natAbs ∣ (d s).natAbs:=Int.natAbs_dvd_natAbs.2 (h.sol d hd);have h2:(g0 den P[t]).natAbs ∣ (d s).natAbs:=Int.natAbs_dvd_natAbs.2 (hB.den_dvd hd hin);exact Int.dvd_natAbs.1 (Int.natCast_dvd_natCast.2 (Nat.lcm_dvd h1 h2))
def wM (c:Int) (num den:List Int) (i:Nat):Int:=c.tdiv (g0 den i)*g0 num i
theorem Ev {P:List Nat} {t n:Nat} (ht:t < P.length) (hn:n<=5) (hP:P.length<=n):99 ^ t<=99 ^ 4:=Nat.pow_le_pow_right (by omega) (by omega)
theorem lr {c:Int} (h:CJ n b s den P P.length c) (hB:BJ n b old s num den P a j) (hn:n<=5) (hPl:P.length<=n) {i:Nat} (hi:i∈P) :
  0 < c.tdiv (g0 den i)/\c.tdiv (g0 den i)<=99 ^ 4/\0 < wM c num den i/\wM c num den i<=99 ^ 8/\wM c num den i*g0 den i=c*g0 num i/\(∀ d,Sol n b d->wM c num den i ∣ d i):=by
 obtain⟨h1,h2,h3⟩:=hB.pos i hi;have hd:=h.dv i (by rw[List.take_length];exact hi);obtain⟨k,hk⟩:=hd;have e1:c.tdiv (g0 den i)=k:=by rw[hk,Int.mul_comm,Int.mul_tdiv_cancel _ (by omega)]
 have hk0:0 < k:=Int.pos_of_mul_pos_right (hk ▸ h.pos) (by omega);have hkc:k<=c:=by
  rw[hk];have:1*k<=g0 den i*k:=Int.mul_le_mul_of_nonneg_right (by omega) (by omega);omega
 have hc:=h.qd;obtain⟨t,ht,rfl⟩:=List.getElem_of_mem hi;have hb:=(hB.bd t ht).1;have hb2:=Ev ht hn hPl;unfold wM;rw[e1];refine⟨hk0,by omega,Int.mul_pos hk0 h1,?_,?_,fun d hd=>?_⟩
 ·have h5:k.natAbs*(g0 num P[t]).natAbs<=99 ^ 4*99 ^ 4:=Nat.mul_le_mul (by omega) (by omega);rw[<-Int.natAbs_mul] at h5;have h6:=Int.mul_pos hk0 h1;generalize k*g0 num P[t]=z at *
  omega
 ·rw[hk];grind
 ·obtain⟨z,hz⟩:=h.sol d hd;have e:=hB.sol d hd _ hi;refine⟨z,?_⟩;have:d P[t]*g0 den P[t]=k*g0 num P[t]*z*g0 den P[t]:=by rw[e,hz,hk];grind
  exact Int.eq_of_mul_eq_mul_right (by omega) this
theorem gl {P:List Nat} {t:Nat} (ht:t < P.length) (i:Nat):i∈P.take (t+1)↔i∈P.take t\/i=P[t]:=by
 rw[List.take_succ_eq_append_getElem ht];simp only[List.mem_append,List.mem_singleton]
theorem oT {P:List Nat} (h:P.Nodup) {t:Nat} (ht:t < P.length):P[t] ∉ P.take t:=fun hm=>by
 have:(P.take t ++ P.drop t).Nodup:=by rw[List.take_append_drop];exact h
 rw[List.nodup_append] at this;exact this.2.2 _ hm P[t] (by rw[List.drop_eq_getElem_cons ht];simp only[List.mem_cons,true_or]) rfl
structure WJ (c:Int) (num den:List Int) (P:List Nat) (o0:List Int) (t:Nat) (o:List Int) (g:Int):Prop where
 len:o.length=o0.length
 val:∀ i,g0 o i=if i∈P.take t then wM c num den i else g0 o0 i
 g0':0<=g/\(0 < t->0 < g)
 gd:∀ i∈P.take t,g ∣ wM c num den i
theorem WJ.start (c:Int) (num den:List Int) (P:List Nat) (o0:List Int):WJ c num den P o0 0 o0 0:=⟨rfl,by simp,by omega,by simp⟩
theorem WJ.step {c:Int} {o0 o:List Int} {t:Nat} {g:Int} (h:WJ c num den P o0 t o g) (ht:t < P.length) (hl:P[t] < o0.length) (hw:0 < wM c num den P[t]):WJ c num den P o0 (t+1) (o.set P[t] (wM c num den P[t])) (Int.gcd g (wM c num den P[t]):Int):=by
 refine⟨by simpa using h.len,fun i=>?_,⟨by omega,fun _=>?_⟩,fun i hi=>?_⟩
 ·rw[dF _ _ _ _ (by have:=h.len;omega),h.val i];simp only[gl ht]
  by_cases e:P[t]=i
  ·subst e;simp
  ·rw[if_neg e];have:¬ i=P[t]:=fun q=>e q.symm;simp[this]
 ·have:=Int.gcd_pos_of_ne_zero_right g (show wM c num den P[t]≠0 by omega);omega
 ·rcases (gl ht i).1 hi with hi | rfl
  ·exact Int.dvd_trans (Int.gcd_dvd_left _ _) (h.gd i hi)
  ·exact Int.gcd_dvd_right _ _
structure VJ (w:Nat->Int) (g:Int) (P:List Nat) (o0:List Int) (t:Nat) (o:List Int):Prop where
 len:o.length=o0.length
 val:∀ i,g0 o i=if i∈P.take t then (w i).tdiv g else if i∈P then w i else g0 o0 i
theorem VJ.start {c:Int} {o0 o:List Int} {g:Int} (h:WJ c num den P o0 P.length o g):VJ (wM c num den) g P o0 0 o:=⟨h.len,fun i=>by rw[h.val i,List.take_length];simp⟩
theorem VJ.step {w:Nat->Int} {g:Int} {o0 o:List Int} {t:Nat} (hP:P.Nodup) (h:VJ w g P o0 t o) (ht:t < P.length) (hl:P[t] < o0.length):g0 o P[t]=w P[t]/\VJ w g P o0 (t+1) (o.set P[t] ((w P[t]).tdiv g)):=by
 refine⟨by rw[h.val,if_neg (oT hP ht),if_pos (List.getElem_mem ht)],by simpa using h.len,fun i=>?_⟩;rw[dF _ _ _ _ (by have:=h.len;omega),h.val i];simp only[gl ht]
 by_cases e:P[t]=i
 ·subst e;simp
 ·rw[if_neg e];have:¬ i=P[t]:=fun q=>e q.symm;simp[this]
theorem OJ.grow {c g:Int} {o0 o1 o:List Int} (hO:OJ n b old o0) (hB:BJ n b old s num den P P.length j) (hn:n<=5) (hPl:P.length<=n) (hC:CJ n b s den P P.length c) (hW:WJ c num den P o0 P.length o1 g) (hV:VJ (wM c num den) g P o0 P.length o):OJ n b (old ++ P) o:=by
 have hgp:0 < g:=hW.g0'.2 (List.length_pos_of_mem (List.mem_of_getElem? hB.hd));have hv:∀ i∈P,∃ z,0 < z/\g0 o i=z/\wM c num den i=z*g:=fun i hi=>by
  obtain⟨z,hz⟩:=hW.gd i (by rw[List.take_length];exact hi);have hp:=(lr hC hB hn hPl hi).2.2.1;refine⟨z,Int.pos_of_mul_pos_right (hz ▸ hp) (by omega),?_,by rw[hz,Int.mul_comm]⟩;rw[hV.val,List.take_length,if_pos hi,hz,Int.mul_comm,Int.mul_tdiv_cancel _ (by omega)]
 have hov:∀ i∈old,g0 o i=g0 o0 i:=fun i hi=>by
  have:i ∉ P:=fun q=>hB.pd i q hi;rw[hV.val,List.take_length,if_neg this,if_neg this]
 refine⟨hV.len.trans hO.lo,fun i hi=>?_,fun d hd i hi=>?_,fun i hi=>?_⟩
 ·rcases List.mem_append.1 hi with hi | hi
  ·obtain⟨h1,h2,h3⟩:=hO.cl i hi;refine⟨h1,by rw[hov i hi];exact h2,fun k hk=>(h3 k hk).imp id fun⟨e1,e2⟩=>⟨by simp[e1],by rw[hov i hi,hov k e1];exact e2⟩⟩
  ·obtain⟨z,z0,z1,z2⟩:=hv i hi;refine⟨hB.pl i hi,by omega,fun k hk=>?_⟩;obtain⟨t,ht,rfl⟩:=List.getElem_of_mem hi;rcases (hB.edge t ht).1 ht k hk with e | ⟨e1,e2⟩
   ·exact .inl e
   ·right
    obtain⟨x,x0,x1,x2⟩:=hv k e1;refine⟨by simp[e1],?_⟩;rw[z1,x1];have f1:=(lr hC hB hn hPl hi).2.2.2.2.1;have f2:=(lr hC hB hn hPl e1).2.2.2.2.1;rw[z2] at f1;rw[x2] at f2;have p1:=hB.pos _ hi;have p2:=hB.pos _ e1;have hc:=hC.pos;have key:(z*b P[t] k)*(g*g0 den P[t]*g0 den k)=(-(x*b k P[t]))*(g*g0 den P[t]*g0 den k):=by
     calc (z*b P[t] k)*(g*g0 den P[t]*g0 den k)=(z*g*g0 den P[t])*g0 den k*b P[t] k:=by grind
      _=c*(g0 num P[t]*g0 den k*b P[t] k):=by rw[f1];grind
      _=-(c*g0 num k)*g0 den P[t]*b k P[t]:=by rw[e2];grind
      _=(-(x*b k P[t]))*(g*g0 den P[t]*g0 den k):=by rw[<-f2];grind
    exact Int.eq_of_mul_eq_mul_right (by have:=Int.mul_pos (Int.mul_pos hgp p1.2.1) p2.2.1;omega) key
 ·rcases List.mem_append.1 hi with hi | hi
  ·rw[hov i hi];exact hO.mn d hd i hi
  ·obtain⟨z,z0,z1,z2⟩:=hv i hi;rw[z1];have h1:=(lr hC hB hn hPl hi).2.2.2.2.2 d hd;rw[z2] at h1;exact Int.dvd_trans (Int.dvd_mul_right _ _) h1
 ·rcases List.mem_append.1 hi with hi | hi
  ·rw[hov i hi];exact hO.bd i hi
  ·obtain⟨z,z0,z1,z2⟩:=hv i hi;rw[z1];have h1:=(lr hC hB hn hPl hi).2.2.2.1;rw[z2] at h1;have h2:z*1<=z*g:=Int.mul_le_mul_of_nonneg_left (by omega) (by omega);omega
end
end Go.Proofs.YtncfmemhjahpeaaGreat.Ab
namespace Go.Proofs.YtncfmemhjahpeaaGreat.Ab
open Go
structure PJ (n:Nat) (b:Nat->Nat->Int) (s:Nat) (L F:List Nat) (a j:Nat):Prop where
 lf:F.length=L.length
 nd:L.Nodup
 lt:∀ i∈L,i < n
 hd:L[0]? = some s
 par:∀ k (h:k < L.length),0 < k->∃ k',∃ h':k' < L.length,k' < k/\F[k]? = some L[k']/\b L[k'] L[k]≠0
 cl:∀ t (h:t < L.length),(t < a->∀ k,k < n->b L[t] k≠0->k∈L)/\(t=a->∀ k,k < j->b L[t] k≠0->k∈L)
section
variable {n:Nat} {b:Nat->Nat->Int} {old:List Nat} {s:Nat} {d0 d:List Int} {L F:List Nat} {a j:Nat}
theorem PJ.start (hs:s < n):PJ n b s [s] [s] 0 0:=
 ⟨rfl,by simp,by simpa using hs,rfl,fun k h h0=>by simp at h;omega,fun t ht=>⟨fun h=>absurd h (by omega),fun _ k h=>absurd h (by omega)⟩⟩
theorem PJ.skip (h:PJ n b s L F a j) (ha:a < L.length) (hb:b L[a] j=0\/j∈L):PJ n b s L F a (j+1):=
 { h with cl:=fun t ht=>⟨(h.cl t ht).1,fun e k hk hne=>by
   obtain rfl:=e
   by_cases q:k=j
   ·obtain rfl:=q
    rcases hb with hb | hb
    ·exact absurd hb hne
    ·exact hb
   ·exact (h.cl t ht).2 rfl k (by omega) hne⟩ }
theorem PJ.new (h:PJ n b s L F a j) (ha:a < L.length) (hj:j < n) (hb:b L[a] j≠0) (hn:j ∉ L):PJ n b s (L ++ [j]) (F ++ [L[a]]) a (j+1):=by
 refine⟨by simp[h.lf],?_,fun i hi=>?_,?_,fun k hk h0=>?_,fun t ht=>?_⟩
 ·rw[List.nodup_append];exact⟨h.nd,by simp,fun i hi k hk=>by simp at hk;subst hk;exact fun e=>hn (e ▸ hi)⟩
 ·rcases List.mem_append.1 hi with hi | hi
  ·exact h.lt i hi
  ·simp at hi;omega
 ·rw[List.getElem?_append_left (by omega)];exact h.hd
 ·by_cases e:k < L.length
  ·obtain⟨k',h',e1,e2,e3⟩:=h.par k e h0;refine⟨k',by simp;omega,e1,?_,?_⟩
   ·rw[List.getElem?_append_left (by rw[h.lf];exact e),e2,List.getElem_append_left h']
   ·rw[List.getElem_append_left h',List.getElem_append_left e];exact e3
  ·have e2:k=L.length:=by simp at hk;omega
   subst e2;refine⟨a,by simp;omega,ha,?_,?_⟩
   ·rw[List.getElem?_append_right (by rw[h.lf];exact Nat.le_refl _),h.lf,Nat.sub_self,List.getElem_append_left ha];rfl
   ·rw[List.getElem_append_left ha];simpa using hb
 ·by_cases e:t < L.length
  ·rw[List.getElem_append_left e];refine⟨fun q k hk hne=>by simp[(h.cl t e).1 q k hk hne],fun q k hk hne=>?_⟩;obtain rfl:=q
   by_cases q:k=j
   ·simp[q]
   ·simp[(h.cl t e).2 rfl k (by omega) hne]
  ·have:t=L.length:=by simp at ht;omega
   exact⟨fun h=>absurd h (by omega),fun h=>absurd h (by omega)⟩
theorem PJ.next (h:PJ n b s L F a n):PJ n b s L F (a+1) 0:=
 { h with cl:=fun t ht=>⟨fun e k hk hne=>by
   by_cases q:t=a
   ·exact (h.cl t ht).2 q k hk hne
   ·exact (h.cl t ht).1 (by omega) k hk hne,fun _ k h=>absurd h (by omega)⟩ }
structure jy (n:Nat) (b:Nat->Nat->Int) (s:Nat) (L F:List Nat):Prop where
 lf:F.length=L.length
 nd:L.Nodup
 lt:∀ i∈L,i < n
 hd:L[0]? = some s
 par:∀ k (h:k < L.length),0 < k->∃ k',∃ h':k' < L.length,k' < k/\F[k]? = some L[k']/\b L[k'] L[k]≠0
 cl:∀ i∈L,∀ k,k < n->b i k≠0->k∈L
theorem PJ.done (h:PJ n b s L F L.length j):jy n b s L F:=⟨h.lf,h.nd,h.lt,h.hd,h.par,fun i hi k hk hne=>by
 obtain⟨t,ht,rfl⟩:=List.getElem_of_mem hi;exact (h.cl t ht).1 ht k hk hne⟩
theorem iE:∀ {n:Nat} {L:List Nat},L.Nodup->(∀ i∈L,i < n)->L.length<=n
 | 0,L,_,h2=>by
  cases L with
  | nil=>simp
  | cons x L=>exact absurd (h2 x (by simp)) (by omega)
 | n+1,L,h1,h2=>by
  have h3:=iE (n:=n) (L:=L.erase n) (h1.erase n) fun i hi=>by
   have h4:=h2 i (List.mem_of_mem_erase hi);have h5:i≠n:=fun e=>by
    subst e;exact (List.Nodup.not_mem_erase h1) hi
   omega
  by_cases e:n∈L
  ·rw[List.length_erase_of_mem e] at h3;omega
  ·rw[List.erase_of_not_mem e] at h3;omega
def qM (b:Nat->Nat->Int) (L F:List Nat) (k:Nat):Nat:=(b (L.getD k 0) (F.getD k 0)).natAbs
def rM (b:Nat->Nat->Int) (L F:List Nat):Nat->Nat->Nat
 | _,0=>1
 | t,m+1=>qM b L F t*rM b L F (t+1) m
def pM1 (b:Nat->Nat->Int) (L F:List Nat):Nat->Nat
 | 0=>1
 | m+1=>pM1 b L F m*qM b L F (m+1)
theorem Bl (b:Nat->Nat->Int) (L F:List Nat):∀ t m,rM b L F t (m+1)=rM b L F t m*qM b L F (t+m)
 | t,0=>by simp[rM]
 | t,m+1=>by
  rw[rM,Bl b L F (t+1) m,rM,Nat.mul_assoc,show t+1+m=t+(m+1) by omega]
theorem CA (b:Nat->Nat->Int) (L F:List Nat):∀ m,pM1 b L F m=rM b L F 1 m
 | 0=>rfl
 | m+1=>by rw[pM1,CA b L F m,Bl,Nat.add_comm 1 m]
theorem GM (b:Nat->Nat->Int) (L F:List Nat) {t m:Nat} (h:0 < m):rM b L F t m=qM b L F t*rM b L F (t+1) (m - 1):=by
 cases m with
 | zero=>omega
 | succ m=>rfl
structure DJ (n:Nat) (b:Nat->Nat->Int) (s:Nat) (L F:List Nat) (d0:List Int) (t:Nat) (d:List Int) (g:Int):Prop where
 len:d.length=n
 oth:∀ i,i ∉ L.take t->g0 d i=g0 d0 i
 pos:∀ k (h:k < L.length),k < t->0 < g0 d L[k]/\(g0 d L[k]).natAbs<=99 ^ (L.length - 1+k)/\(rM b L F t (L.length - t):Int) ∣ g0 d L[k]/\∀ e,Sol n b e->e L[k]*g0 d s=e s*g0 d L[k]
 gp:0 < g/\g<=g0 d s
 gd:∀ k (h:k < L.length),k < t->g ∣ g0 d L[k]
 gx:∀ x y:Int,(∀ k (h:k < L.length),k < t->x ∣ y*g0 d L[k])->x ∣ y*g
theorem jy.q (h:jy n b s L F) (hs:∀ i j,i < n->j < n->(b i j=0↔b j i=0)) {k:Nat} (hk:k < L.length) (h0:0 < k):∃ k',∃ h':k' < L.length,k' < k/\F[k]? = some L[k']/\b L[k'] L[k]≠0/\b L[k] L[k']≠0/\qM b L F k=(b L[k] L[k']).natAbs/\0 < qM b L F k:=by
 obtain⟨k',h',e1,e2,e3⟩:=h.par k hk h0;have e4:b L[k] L[k']≠0:=fun q=>e3 ((hs _ _ (h.lt _ (List.getElem_mem h')) (h.lt _ (List.getElem_mem hk))).2 q);have e5:qM b L F k=(b L[k] L[k']).natAbs:=by
  unfold qM;rw[List.getD_eq_getElem?_getD,List.getD_eq_getElem?_getD,e2,List.getElem?_eq_getElem hk];rfl
 exact⟨k',h',e1,e2,e3,e4,e5,by omega⟩
theorem jy.pM_bd (h:jy n b s L F) (hs:∀ i j,i < n->j < n->(b i j=0↔b j i=0)) (hB:∀ i j,i < n->j < n->(b i j).natAbs<=99):∀ m,m < L.length->0 < pM1 b L F m/\pM1 b L F m<=99 ^ m
 | 0,_=>by simp[pM1]
 | m+1,hm=>by
  obtain⟨h1,h2⟩:=h.pM_bd hs hB m (by omega);obtain⟨k',h',e1,e2,e3,e4,e5,e6⟩:=h.q hs hm (by omega);have h3:qM b L F (m+1)<=99:=by rw[e5];exact hB _ _ (h.lt _ (List.getElem_mem hm)) (h.lt _ (List.getElem_mem h'))
  exact⟨Nat.mul_pos h1 e6,by rw[pM1,Nat.pow_succ];exact Nat.mul_le_mul h2 h3⟩
theorem jy.first (h:jy n b s L F):∃ hl:0 < L.length,L[0]=s:=by
 obtain⟨h1,h2⟩:=List.getElem?_eq_some_iff.1 h.hd;exact⟨h1,h2⟩
theorem DJ.start (h:jy n b s L F) (hs:∀ i j,i < n->j < n->(b i j=0↔b j i=0)) (hB:∀ i j,i < n->j < n->(b i j).natAbs<=99) (hl:d0.length=n):DJ n b s L F d0 1 (d0.set s (pM1 b L F (L.length - 1):Nat)) (pM1 b L F (L.length - 1):Nat):=by
 obtain⟨hl0,hl1⟩:=h.first;have hsn:=h.lt s (hl1 ▸ List.getElem_mem hl0);have hv:g0 (d0.set s (pM1 b L F (L.length - 1):Nat)) s=(pM1 b L F (L.length - 1):Nat):=by rw[dF _ _ _ _ (by omega),if_pos rfl]
 obtain⟨p1,p2⟩:=h.pM_bd hs hB (L.length - 1) (by omega);have htk:∀ k (h:k < L.length),k < 1->L[k]=s:=fun k hk h1=>by
  obtain rfl:k=0:=by omega
  exact hl1
 refine⟨by simpa using hl,fun i hi=>?_,fun k hk h1=>?_,⟨by omega,by rw[hv];exact Int.le_refl _⟩,fun k hk h1=>?_,fun x y hx=>?_⟩
 ·have:i≠s:=fun e=>hi (by rw[e,<-hl1,gl hl0];exact .inr rfl);rw[dF _ _ _ _ (by omega),if_neg (fun e=>this e.symm)]
 ·rw[htk k hk h1,hv];refine⟨by omega,?_,?_,fun e _=>rfl⟩
  ·have:k=0:=by omega
   subst this;simpa using p2
  ·rw[CA];exact Int.dvd_refl _
 ·rw[htk k hk h1,hv];exact Int.dvd_refl _
 ·have:=hx 0 hl0 (by omega);rw[hl1,hv] at this;exact this
theorem DJ.step {t:Nat} {g:Int} (h:jy n b s L F) (hs:∀ i j,i < n->j < n->(b i j=0↔b j i=0)) (hB:∀ i j,i < n->j < n->(b i j).natAbs<=99) (hJ:DJ n b s L F d0 t d g) (ht:t < L.length) (h0:0 < t) :
  ∃ t',∃ h':t' < L.length,t' < t/\F[t]? = some L[t']/\∃ w:Int,0 < w/\(g0 d L[t']).natAbs<=99 ^ (L.length - 1+t')/\0 < g0 d L[t']/\(b L[t'] L[t]).natAbs<=99/\b L[t] L[t']≠0/\(g0 d L[t']*((b L[t'] L[t]).natAbs:Int)).tdiv ((b L[t] L[t']).natAbs:Int)=w /\
   DJ n b s L F d0 (t+1) (d.set L[t] w) (Int.gcd g w:Int):=by
 obtain⟨t',h',e1,e2,e3,e4,e5,e6⟩:=h.q hs ht h0;obtain⟨p1,p2,p3,p4⟩:=hJ.pos t' h' e1;have hi:=h.lt _ (List.getElem_mem h');have hj:=h.lt _ (List.getElem_mem ht);have hr:=GM b L F (t:=t) (m:=L.length - t) (by omega);rw[show L.length - t - 1=L.length - (t+1) by omega] at hr;have p3':=p3;obtain⟨m,hm⟩:=p3;rw[hr,e5,Int.natCast_mul] at hm;generalize hQ:((b L[t] L[t']).natAbs:Int)=Q at *
 generalize hPp:((b L[t'] L[t]).natAbs:Int)=Pp at *
 generalize hRr:(rM b L F (t+1) (L.length - (t+1)):Int)=R at *
 have hQ0:0 < Q:=by omega
 have hP0:0 < Pp:=by omega
 have hP9:Pp<=99:=by have:=hB _ _ hi hj;omega
 have hRm:0 < R*m:=by
  have:0 < Q*(R*m):=by rw[<-Int.mul_assoc,<-hm];exact p1
  exact Int.pos_of_mul_pos_right this (by omega)
 have hw:(g0 d L[t']*Pp).tdiv Q=R*m*Pp:=by
  rw[hm,show Q*R*m*Pp=(R*m*Pp)*Q by grind,Int.mul_tdiv_cancel _ (by omega)]
 have hw0:0 < R*m*Pp:=Int.mul_pos hRm hP0;have hnt:L[t] ∉ L.take t:=oT h.nd ht;have hne:∀ k (hk:k < L.length),k < t->L[t]≠L[k]:=fun k hk hkt e=>hnt (by rw[e,List.mem_take_iff_getElem];exact⟨k,by omega,rfl⟩);obtain⟨hl0,hl1⟩:=h.first;have hds:g0 (d.set L[t] (R*m*Pp)) s=g0 d s:=by
  rw[dF _ _ _ _ (by have:=hJ.len;omega),if_neg (hl1 ▸ hne 0 hl0 h0)]
 have hgk:∀ k (hk:k < L.length),k < t->g0 (d.set L[t] (R*m*Pp)) L[k]=g0 d L[k]:=fun k hk hkt=>by
  rw[dF _ _ _ _ (by have:=hJ.len;omega),if_neg (hne k hk hkt)]
 have hgt:g0 (d.set L[t] (R*m*Pp)) L[t]=R*m*Pp:=by rw[dF _ _ _ _ (by have:=hJ.len;omega),if_pos rfl]
 refine⟨t',h',e1,e2,R*m*Pp,hw0,p2,p1,hB _ _ hi hj,e4,by rw[hPp,hQ];exact hw,?_⟩;have hgg:0 < Int.gcd g (R*m*Pp):=Int.gcd_pos_of_ne_zero_right g (by omega);refine⟨by simpa using hJ.len,fun i hi=>?_,fun k hk hkt=>?_,⟨by omega,?_⟩,fun k hk hkt=>?_,fun x y hx=>?_⟩
 ·rw[gl ht,not_or] at hi;rw[dF _ _ _ _ (by have:=hJ.len;omega),if_neg (fun e=>hi.2 e.symm)];exact hJ.oth i hi.1
 ·by_cases q:k < t
  ·obtain⟨q1,q2,q3,q4⟩:=hJ.pos k hk q;rw[hgk k hk q,hds];refine⟨q1,q2,?_,q4⟩;rw[hr,Int.natCast_mul,hRr] at q3;rw[hRr];exact Int.dvd_trans (Int.dvd_mul_left _ _) q3
  ·obtain rfl:k=t:=by omega
   rw[hgt,hds];refine⟨hw0,?_,by rw[hRr,Int.mul_assoc];exact Int.dvd_mul_right _ _,fun e he=>?_⟩
   ·have h1:(R*m).natAbs<=(g0 d L[t']).natAbs:=by
     rw[hm,Int.mul_assoc,Int.natAbs_mul Q];exact Nat.le_mul_of_pos_left _ (by omega)
    rw[Int.natAbs_mul];have h2:=Nat.mul_le_mul (Nat.le_trans h1 p2) (show Pp.natAbs<=99 by omega);rw[<-Nat.pow_succ] at h2;exact Nat.le_trans h2 (Nat.pow_le_pow_right (by omega) (by omega))
   ·have f1:=p4 e he;have f2:=he.rel L[t'] L[k] hi hj;have f3:e L[t']*Pp=e L[k]*Q:=by
     obtain⟨s1,s2,s3⟩:=jl he hi hj;rcases (show 0 < b L[t'] L[k]/\0 < -b L[k] L[t']\/b L[t'] L[k] < 0/\-b L[k] L[t'] < 0 by omega) with z | z
     ·rw[show Pp=b L[t'] L[k] by omega,show Q=-b L[k] L[t'] by omega];grind
     ·rw[show Pp=-b L[t'] L[k] by omega,show Q=b L[k] L[t'] by omega];grind
    have key:e L[k]*g0 d s*Q=e s*(R*m*Pp)*Q:=by
     calc e L[k]*g0 d s*Q=(e L[t']*g0 d s)*Pp:=by grind
      _=e s*(g0 d L[t']*Pp):=by rw[f1];grind
      _=e s*(R*m*Pp)*Q:=by rw[hm];grind
    exact Int.eq_of_mul_eq_mul_right (by omega) key
 ·rw[hds];have:Int.gcd g (R*m*Pp) ∣ g.natAbs:=Nat.gcd_dvd_left _ _;have:=Nat.le_of_dvd (by have:=hJ.gp;omega) this;have:=hJ.gp;omega
 ·by_cases q:k < t
  ·rw[hgk k hk q];exact Int.dvd_trans (Int.gcd_dvd_left _ _) (hJ.gd k hk q)
  ·obtain rfl:k=t:=by omega
   rw[hgt];exact Int.gcd_dvd_right _ _
 ·have x1:=hJ.gx x y fun k hk hkt=>by have:=hx k hk (by omega);rwa [hgk k hk hkt] at this
  have x2:=hx t ht (by omega);rw[hgt] at x2;have x3:x.natAbs ∣ Nat.gcd (y*g).natAbs (y*(R*m*Pp)).natAbs:=Nat.dvd_gcd (Int.natAbs_dvd_natAbs.2 x1) (Int.natAbs_dvd_natAbs.2 x2);rw[Int.natAbs_mul,Int.natAbs_mul,Nat.gcd_mul_left] at x3;refine Int.natAbs_dvd_natAbs.1 ?_;rw[Int.natAbs_mul];exact x3
structure EJ (g:Int) (L:List Nat) (d1:List Int) (t:Nat) (d:List Int):Prop where
 len:d.length=d1.length
 val:∀ i,g0 d i=if i∈L.take t then (g0 d1 i).tdiv g else g0 d1 i
theorem EJ.start (g:Int) (L:List Nat) (d1:List Int):EJ g L d1 0 d1:=⟨rfl,by simp⟩
theorem EJ.step {g:Int} {d1:List Int} {t:Nat} (h:EJ g L d1 t d) (hP:L.Nodup) (ht:t < L.length) (hl:L[t] < d1.length):g0 d L[t]=g0 d1 L[t]/\EJ g L d1 (t+1) (d.set L[t] ((g0 d1 L[t]).tdiv g)):=by
 refine⟨by rw[h.val,if_neg (oT hP ht)],by simpa using h.len,fun i=>?_⟩;rw[dF _ _ _ _ (by have:=h.len;omega),h.val i];simp only[gl ht]
 by_cases e:L[t]=i
 ·subst e;simp
 ·rw[if_neg e];have:¬ i=L[t]:=fun q=>e q.symm;simp[this]
structure OS (n:Nat) (b:Nat->Nat->Int) (old:List Nat) (d:List Int):Prop where
 lo:d.length=n
 zr:∀ i,i < n->(0 < g0 d i↔i∈old)
 cl:∀ i∈old,i < n/\(∀ j,j < n->b i j≠0->j∈old)
 sol:∀ e,Sol n b e->∀ i∈old,g0 d i ∣ e i/\∀ j,j < n->b i j≠0->e i*g0 d j=e j*g0 d i
 bd:∀ i∈old,(g0 d i).natAbs<=99 ^ 8
theorem OS.grow {g:Int} {d1:List Int} (hO:OS n b old d0) (h:jy n b s L F) (hn:n<=5) (hdis:∀ i∈L,i ∉ old) (hJ:DJ n b s L F d0 L.length d1 g) (hE:EJ g L d1 L.length d):OS n b (old ++ L) d:=by
 have hll:=iE h.nd h.lt;obtain⟨hl0,hl1⟩:=h.first;have hsL:s∈L:=hl1 ▸ List.getElem_mem hl0;have hv:∀ i∈L,∃ z,0 < z/\g0 d i=z/\g0 d1 i=z*g:=fun i hi=>by
  obtain⟨k,hk,rfl⟩:=List.getElem_of_mem hi;obtain⟨z,hz⟩:=hJ.gd k hk hk;refine⟨z,Int.pos_of_mul_pos_right (hz ▸ (hJ.pos k hk hk).1) (by have:=hJ.gp;omega),?_,by rw[hz,Int.mul_comm]⟩;rw[hE.val,List.take_length,if_pos hi,hz,Int.mul_comm,Int.mul_tdiv_cancel _ (by have:=hJ.gp;omega)]
 have hov:∀ i,i ∉ L->g0 d i=g0 d0 i:=fun i hi=>by
  rw[hE.val,List.take_length,if_neg hi];exact hJ.oth i (by rw[List.take_length];exact hi)
 have hoo:∀ i∈old,g0 d i=g0 d0 i:=fun i hi=>hov i fun q=>hdis i q hi;refine⟨by rw[hE.len,hJ.len],fun i hi=>?_,fun i hi=>?_,fun e he i hi=>?_,fun i hi=>?_⟩
 ·by_cases q:i∈L
  ·obtain⟨z,z0,z1,_⟩:=hv i q;rw[z1];simp[q,z0]
  ·rw[hov i q,hO.zr i hi];simp[q]
 ·rcases List.mem_append.1 hi with hi | hi
  ·exact⟨(hO.cl i hi).1,fun j hj hne=>by simp[(hO.cl i hi).2 j hj hne]⟩
  ·exact⟨h.lt i hi,fun j hj hne=>by simp[h.cl i hi j hj hne]⟩
 ·rcases List.mem_append.1 hi with hi | hi
  ·obtain⟨q1,q2⟩:=hO.sol e he i hi;refine⟨by rw[hoo i hi];exact q1,fun j hj hne=>?_⟩;rw[hoo i hi,hoo j ((hO.cl i hi).2 j hj hne)];exact q2 j hj hne
  ·have hg:=hJ.gp.1;have rel:∀ k∈L,e k*g0 d s=e s*g0 d k:=fun k hk=>by
    obtain⟨z,z0,z1,z2⟩:=hv k hk;obtain⟨y,y0,y1,y2⟩:=hv s hsL;obtain⟨t,ht,rfl⟩:=List.getElem_of_mem hk;have:=(hJ.pos t ht ht).2.2.2 e he;rw[z2,y2] at this;rw[z1,y1];refine Int.eq_of_mul_eq_mul_right (a:=g) (by omega) ?_
    grind
   obtain⟨y,y0,y1,y2⟩:=hv s hsL;have hsd:g0 d s ∣ e s:=by
    have:=hJ.gx (g0 d s*g) (e s) fun k hk _=>by
     obtain⟨z,z0,z1,z2⟩:=hv L[k] (List.getElem_mem hk);rw[z2,<-z1,<-Int.mul_assoc,<-rel _ (List.getElem_mem hk)];exact⟨e L[k],by grind⟩
    obtain⟨c,hc⟩:=this;exact⟨c,Int.eq_of_mul_eq_mul_right (a:=g) (by omega) (by rw[hc];grind)⟩
   obtain⟨c,hc⟩:=hsd;have mul:∀ k∈L,e k=g0 d k*c:=fun k hk=>by
    have:=rel k hk;rw[hc] at this;exact Int.eq_of_mul_eq_mul_right (a:=g0 d s) (by omega) (by rw[this];grind)
   refine⟨⟨c,mul i hi⟩,fun j hj hne=>?_⟩;rw[mul i hi,mul j (h.cl i hi j hj hne)]
   grind
 ·rcases List.mem_append.1 hi with hi | hi
  ·rw[hoo i hi];exact hO.bd i hi
  ·obtain⟨z,z0,z1,z2⟩:=hv i hi;obtain⟨t,ht,rfl⟩:=List.getElem_of_mem hi;have h1:=(hJ.pos t ht ht).2.1;have h2:(g0 d L[t]).natAbs<=(g0 d1 L[t]).natAbs:=by
    rw[z1,z2,Int.natAbs_mul];exact Nat.le_mul_of_pos_right _ (by have:=hJ.gp;omega)
   exact Nat.le_trans h2 (Nat.le_trans h1 (Nat.pow_le_pow_right (by omega) (by omega)))
theorem OS.rel {e:Nat->Int} (hO:OS n b old d) (he:Sol n b e) {i:Nat} (hi:i∈old) (hj:j < n) (hs:∀ i j,i < n->j < n->(b i j=0↔b j i=0)):g0 d i*b i j=-(g0 d j*b j i):=by
 have hin:=(hO.cl i hi).1
 by_cases q:b i j=0
 ·rw[q,(hs i j hin hj).1 q];simp
 ·have h1:=(hO.sol e he i hi).2 j hj q;have h2:=he.rel i j hin hj;have h3:=he.pos j hj;refine Int.eq_of_mul_eq_mul_right (a:=e j) (by omega) ?_
  calc g0 d i*b i j*e j=(e j*g0 d i)*b i j:=by grind
   _=g0 d j*(e i*b i j):=by rw[<-h1];grind
   _=-(g0 d j*b j i)*e j:=by rw[h2];grind
end
end Go.Proofs.YtncfmemhjahpeaaGreat.Ab
namespace Go.Proofs.YtncfmemhjahpeaaGreat.Ab
open Go
def ShM (m:Mat):Prop:=(1<=m.n/\m.n<=5)/\(m.n<=m.r/\m.r<=8)/\(m.d.length:Int)=m.n*m.r/\∀ x∈m.d,-99<=x/\x<=99
def cO (m:Mat):Prop:=ShM m/\∃ d,Sol m.n.toNat (bM m) d
noncomputable instance (m:Mat):Decidable (ShM m):=Classical.propDecidable _
noncomputable instance (m:Mat):Decidable (cO m):=Classical.propDecidable _
def ct (n:Nat) (b:Nat->Nat->Int) (l:List Int):Prop:=l.length=n/\Sol n b (g0 l)/\(∀ e,Sol n b e->∀ i,i < n->g0 l i ∣ e i)/\∀ i,i < n->g0 l i<=99 ^ 8
theorem ct.uniq {n:Nat} {b:Nat->Nat->Int} {l k:List Int} (h:ct n b l) (h':ct n b k):l=k:=by
 refine List.ext_getElem (by rw[h.1,h'.1]) fun i h1 h2=>?_;have hi:i < n:=by have:=h.1;omega
 have e1:=h.2.2.1 _ h'.2.1 i hi;have e2:=h'.2.2.1 _ h.2.1 i hi;have p1:=h.2.1.pos i hi;have p2:=h'.2.1.pos i hi;have:g0 l i=g0 k i:=Int.dvd_antisymm (by omega) (by omega) e1 e2;simpa[g0,List.getD_eq_getElem?_getD,h1,h2] using this
theorem OJ.min {n:Nat} {b:Nat->Nat->Int} {old:List Nat} {out:List Int} (h:OJ n b old out) (ha:∀ i,i < n->i∈old):ct n b out:=by
 refine⟨h.lo,⟨fun i hi=>(h.cl i (ha i hi)).2.1,fun i j hi hj=>?_⟩,fun e he i hi=>h.mn e he i (ha i hi),fun i hi=>h.bd i (ha i hi)⟩;rcases (h.cl i (ha i hi)).2.2 j hj with q | q
 ·rw[q.1,q.2];simp
 ·exact q.2
theorem OS.min {n:Nat} {b:Nat->Nat->Int} {old:List Nat} {out:List Int} (h:OS n b old out) (ha:∀ i,i < n->i∈old) (hr:∀ i j,i < n->j < n->g0 out i*b i j=-(g0 out j*b j i)):ct n b out:=
 ⟨h.lo,⟨fun i hi=>(h.zr i hi).2 (ha i hi),hr⟩,fun e he i hi=>(h.sol e he i (ha i hi)).1,fun i hi=>by have:=h.bd i (ha i hi);omega⟩
theorem cO.of_min {m:Mat} (h:ShM m) {l:List Int} (hl:ct m.n.toNat (bM m) l):cO m:=⟨h,_,hl.2.1⟩
theorem oB {m:Mat} (h:ShM m) {i j:Nat} (hi:(i:Int) < m.r) (hj:(j:Int) < m.n):∃ hq:i*m.n.toNat+j < m.d.length,m.d[i*m.n.toNat+j]=bM m i j:=by
 obtain⟨n,hn⟩:∃ n:Nat,m.n=n:=⟨m.n.toNat,by have:=h.1;omega⟩;obtain⟨r,hr⟩:∃ r:Nat,m.r=r:=⟨m.r.toNat,by have:=h.1;have:=h.2.1;omega⟩;have hl:=h.2.2.1;rw[hn,hr,<-Int.natCast_mul] at hl;have hq:i*m.n.toNat+j < m.d.length:=by
  rw[hn,Int.toNat_natCast,show m.d.length=n*r by omega];have h1:(i+1)*n<=r*n:=Nat.mul_le_mul_right _ (by omega);rw[Nat.mul_comm n r];rw[Nat.add_mul] at h1;omega
 exact⟨hq,by simp[bM,g0,List.getD_eq_getElem?_getD,hq]⟩
theorem gV {m:Mat} (h:ShM m) (i j:Nat):(bM m i j).natAbs<=99:=by
 unfold bM;simp only[g0,List.getD_eq_getElem?_getD]
 by_cases q:i*m.n.toNat+j < m.d.length
 ·rw[List.getElem?_eq_getElem q];have:=h.2.2.2 _ (List.getElem_mem q);simp only[Option.getD_some];omega
 ·rw[List.getElem?_eq_none (by omega)];simp
def muE (b:Nat->Nat->Int) (k i j:Nat):Int:=
 if i=k\/j=k then -b i j else if 0 < b i k/\0 < b k j then b i j+b i k*b k j else if b i k < 0/\b k j < 0 then b i j - b i k*b k j else b i j
theorem Bm {n k:Nat} {b:Nat->Nat->Int} {d:Nat->Int} (h:Sol n b d) (hk:k < n):Sol n (muE b k) d:=by
 refine⟨h.pos,fun i j hi hj=>?_⟩;obtain⟨a1,a2,a3⟩:=jl h hi hk;obtain⟨c1,c2,c3⟩:=jl h hj hk;have e0:=h.rel i j hi hj;have e1:=h.rel i k hi hk;have e2:=h.rel j k hj hk;have key:d i*(b i k*b k j)=d j*(b j k*b k i):=by
  have hp:=h.pos k hk;refine Int.eq_of_mul_eq_mul_right (a:=d k) (by omega) ?_
  calc d i*(b i k*b k j)*d k=(d i*b i k)*(d k*b k j):=by grind
   _=(d k*b k i)*(d j*b j k):=by rw[e1,show d k*b k j=-(d j*b j k) by rw[e2];grind];grind
   _=d j*(b j k*b k i)*d k:=by grind
 unfold muE
 by_cases hc:i=k\/j=k
 ·rw[if_pos hc,if_pos (Or.comm.1 hc)];grind
 ·rw[if_neg hc,if_neg (fun q=>hc (Or.comm.1 q))]
  by_cases h1:0 < b i k/\0 < b k j
  ·rw[if_pos h1,if_neg (by omega),if_pos (by omega)];grind
  ·rw[if_neg h1]
   by_cases h2:b i k < 0/\b k j < 0
   ·rw[if_pos h2,if_pos (by omega)];grind
   ·rw[if_neg h2,if_neg (by omega),if_neg (by omega)];exact e0
def muD (m:Mat) (k:Nat):List Int:=(List.range m.d.length).map fun q=>muE (bM m) k (q / m.n.toNat) (q % m.n.toNat)
def muM (m:Mat) (k:Nat):Mat:=⟨m.n,m.r,muD m k⟩
@[simp] theorem JD (m:Mat) (k:Nat):(muD m k).length=m.d.length:=by simp[muD]
theorem wj (m:Mat) (k i j:Nat) (hj:j < m.n.toNat) (h:i*m.n.toNat+j < m.d.length):(muD m k)[i*m.n.toNat+j]'(by simpa using h)=muE (bM m) k i j:=by
 simp only[muD,List.getElem_map,List.getElem_range];rw[Nat.mul_comm i,Nat.mul_add_div (by omega),Nat.div_eq_of_lt hj,Nat.mul_add_mod,Nat.mod_eq_of_lt hj,Nat.add_zero]
theorem E6 {m:Mat} (h:ShM m) {k i j:Nat} (hi:(i:Int) < m.r) (hj:(j:Int) < m.n):bM (muM m k) i j=muE (bM m) k i j:=by
 obtain⟨hq,_⟩:=oB h hi hj;have:=wj m k i j (by omega) hq;rw[<-this];have h2:i*m.n.toNat+j < (muD m k).length:=by simpa using hq
 show g0 (muD m k) (i*m.n.toNat+j)=_;simp only[g0,List.getD_eq_getElem?_getD];rw[List.getElem?_eq_getElem h2];rfl
theorem Sol.congr {n:Nat} {b c:Nat->Nat->Int} {d:Nat->Int} (h:Sol n b d) (e:∀ i j,i < n->j < n->c i j=b i j):Sol n c d:=
 ⟨h.pos,fun i j hi hj=>by rw[e i j hi hj,e j i hj hi];exact h.rel i j hi hj⟩
theorem Fy {m:Mat} (h:cO m) {k:Nat} (hk:(k:Int) < m.n):∃ d,Sol (muM m k).n.toNat (bM (muM m k)) d:=by
 obtain⟨hS,d,hd⟩:=h;have h1:=hS.1;have h2:=hS.2.1;refine⟨d,?_⟩;show Sol m.n.toNat _ d;exact (Bm hd (show k < m.n.toNat by omega)).congr fun i j hi hj=>E6 hS (by omega) (by omega)
noncomputable def muF (m:Mat) (k:Int):Mat×Bool:=if cO m/\(0<=k/\k < m.n)/\cO (muM m k.toNat) then (muM m k.toNat,true) else (⟨0,0,[]⟩,false)
set_option maxRecDepth 10000
set_option maxHeartbeats 2000000
def cN (P:List Nat):List Int:=P.map fun i=>((i:Nat):Int)
@[simp] theorem Kv (P:List Nat):(cN P).length=P.length:=by simp[cN]
theorem bU {P:List Nat} {t:Nat} (h:t < P.length):(cN P)[t]'(by simpa using h)=(P[t]:Int):=by simp[cN]
theorem vS (P:List Nat) (j:Nat):ints (cN P) ++ [D.v (.int .i64 j)]=ints (cN (P ++ [j])):=by simp[cN,ints]
theorem cc {l:List Int} {i:Nat} (h:i < l.length):l[i]=g0 l i:=by simp[g0,List.getD_eq_getElem?_getD,h]
theorem BJ.mul {n:Nat} {b:Nat->Nat->Int} {old:List Nat} {s:Nat} {num den:List Int} {P:List Nat} {a j:Nat} (h:BJ n b old s num den P a j) (hn:n<=5) (ha:a < P.length) {u:Int} (hu:0 < u) (hu9:u<=99) :
  (0 < g0 num P[a]*u/\g0 num P[a]*u<=9509900499)/\(0 < g0 den P[a]*u/\g0 den P[a]*u<=9509900499):=by
 have hp:=h.pos _ (List.getElem_mem ha);have hb:=h.bd a ha;have h4:=Ev ha hn (iE h.pn h.pl);have e1:=Int.mul_pos hp.1 hu;have e2:=Int.mul_pos hp.2.1 hu;have f1:=Nat.mul_le_mul (show (g0 num P[a]).natAbs<=99 ^ 4 by omega) (show u.natAbs<=99 by omega);have f2:=Nat.mul_le_mul (show (g0 den P[a]).natAbs<=99 ^ 4 by omega) (show u.natAbs<=99 by omega);rw[<-Int.natAbs_mul] at f1 f2;generalize g0 num P[a]*u=z1 at *
 generalize g0 den P[a]*u=z2 at *
 omega
theorem s8 {m:Mat} {n:Nat} (hn:m.n=n) (hS:ShM m) {i j:Nat} (hi:(i:Int) < m.r) (hj:j < n):af Tryz.prog F.fU [.ag [.int n,.int m.r,.d (shI m.d)],.int i,.int j] [] true (fun outs res=>outs=[]/\res=[.one (D.int (bM m i j))]):=by
 obtain⟨hq,he⟩:=oB hS hi (show (j:Int) < m.n by omega);have hnn:m.n.toNat=n:=by omega
 have hl:m.d.length < 1000000:=by
  have h1:=hS.2.2.1;have h2:=hS.1;have h3:=hS.2.1;have:m.n*m.r<=5*8:=Int.mul_le_mul (by omega) (by omega) (by omega) (by omega);omega
 have:=tA m i j (i*m.n.toNat+j) n hn (by rw[hnn]) hq hl;have e:aM m = .ag [.int n,.int m.r,.d (shI m.d)]:=by rw[<-hn]
 rw[e,he] at this;exact this
theorem vV (m:Mat) (n:Nat) (hn:m.n=n) (hS:ShM m):af Tryz.prog F.av [.ag [.int n,.int m.r,.d (shI m.d)]] [] true (fun outs res=>outs=[]/\((∃ l,ct n (bM m) l/\res=[.one (owI l)])\/((∀ d,¬ Sol n (bM m) d)/\res=[.one (.v (.slice none 0 0))]))):=by
 have hn5:1<=n/\n<=5:=by have:=hS.1;omega
 have hnr:(n:Int)<=m.r:=by have:=hS.2.1;omega
 have hB:∀ i j,i < n->j < n->(bM m i j).natAbs<=99:=fun i j _ _=>gV hS i j;refine af.ob (C:=C.av) (n:=Tryz.f93.ntmps) bC bD Tryz.func93 rfl rfl ?_;simp only[Tryz.f93];apply aa;refine ab fun K hK=>?_;simp[C.av];apply hK;clear hK K;show AWp _ _ _ _ _;apply aa;refine eG (.take 0 (.take 1 (.take 3 (.take 4 (.all [(2,.take 6 (.all [(5,.take 7 (.done))])),(5,.all [(2,.take 6 (.take 7 (.done)))])]))))) ⟨by kernel_rfl,by kernel_rfl⟩ fun K hK=>?_;have hJ:K ⟨ofL [(1,.pt (1,0) [] 0),(3,.al (3,0) [] 0 n),(4,.al (4,0) [] 0 n)],aF [((1,0),some (.bx [D.int n,D.int m.r,shI m.d])),((3,0),some (.ow 1 n (ints (List.replicate n 0)))),((4,0),some (.ow 1 n (ints (List.replicate n 0))))]⟩:=by
  apply hK;clear hK K;show AWp _ _ _ _ _;apply aa;refine ab fun K hK=>?_;simp[C.av,cL,show (8:Int)*n<=281474976710656 by omega,show (n:Int)<=281474976710656 by omega];apply hK;clear hK K;show AWp _ _ _ _ _;apply aa;apply aa;refine ab fun K hK=>?_;simp[C.av];apply hK;clear hK K;show AWp _ _ _ _ _;apply ak;refine bm (fun x:Nat×List Int×List Int×List Int×List Nat=>⟨ofL [(1,.pt (1,0) [] 0),(3,.al (3,0) [] 0 n),(4,.al (4,0) [] 0 n),(5,.al (5,0) [] 0 n),(34,.int n),(35,.int (x.1:Nat))],aF [((1,0),some (.bx [D.int n,D.int m.r,shI m.d])),((3,0),some (.ow 1 n (ints x.2.1))),((4,0),some (.ow 1 n (ints x.2.2.1))),((5,0),some (.ow 1 n (ints x.2.2.2.1)))]⟩) (fun x=>x.1<=n/\(x.2.1.length=n/\x.2.2.1.length=n)/\(∀ i,i < n->(g0 x.2.1 i≠0↔i∈x.2.2.2.2))/\OJ n (bM m) x.2.2.2.2 x.2.2.2.1/\∀ i,i < x.1->i∈x.2.2.2.2) (fun x=>n - x.1) (0,List.replicate n 0,List.replicate n 0,List.replicate n 0,[]) (by simp[C.av]) ⟨by simp,by simp,fun i hi=>by simp[g0,List.getD_eq_getElem?_getD,hi],⟨by simp,by simp,by simp,by simp⟩,by simp⟩ ?_;intro x1 hx1 R1 hR1;obtain⟨s,num,den,out,old⟩:=x1;obtain⟨hs,⟨hln,hld⟩,hmem,hO,hall⟩:=hx1;dsimp only at hs hln hld hmem hO hall ⊢;have hoc:∀ i∈old,∀ j,j < n->(bM m i j=0/\bM m j i=0)\/j∈old:=fun i hi j hj=>((hO.cl i hi).2.2 j hj).imp id fun q=>q.1;apply aa;refine ab fun K hK=>?_;simp[C.av];apply hK;clear hK K;show AWp _ _ _ _ _;apply aa;refine ap _ rfl (fun hc1=>?_) (fun hc1=>?_)
  ·have h1:s < n:=by have:=d_t hc1;omega
   apply au;show AWp _ _ _ _ _;apply aa;apply ak;apply aa;refine ab fun K hK=>?_;simp[C.av];apply hK;clear hK K;show AWp _ _ _ _ _;apply aa;apply aa;refine ab fun K hK=>?_;simp[C.av,show ((s:Int) < n) by omega,h1,hln,ao,cc];apply hK;clear hK K;show AWp _ _ _ _ _;refine ap _ rfl (fun hc2=>?_) (fun hc2=>?_)
   ·have hs1:g0 num s≠0:=by simpa using hc2
    apply aZ;show AWp _ _ _ _ _;refine ab fun K hK=>?_;simp[C.av,ay (show s < 4611686018427387904 by omega)];apply hK;clear hK K;simp[C.av];refine hR1 (s+1,num,den,out,old) ⟨h1,⟨hln,hld⟩,hmem,hO,fun i hi=>?_⟩ (by dsimp only;omega)
    by_cases e:i=s
    ·exact (hmem i (by omega)).1 (e ▸ hs1)
    ·exact hall i (by dsimp only at hi;omega)
   ·have hs0:g0 num s=0:=by simpa using hc2
    have hBs:=BJ.start (b:=bM m) hln hld h1 hmem hs0;apply au;show AWp _ _ _ _ _;apply aa;refine ab fun K hK=>?_;simp[C.av,show ((s:Int) < n) by omega,h1,hln,hld];apply hK;clear hK K;show AWp _ _ _ _ _;apply aa;refine ab fun K hK=>?_;simp[C.av];apply hK;clear hK K;show AWp _ _ _ _ _;apply aa;apply aa;refine ab fun K hK=>?_;simp[C.av];apply hK;clear hK K;show AWp _ _ _ _ _;apply ak;refine bm (fun x:Nat×List Int×List Int×List Nat=>⟨ofL [(1,.pt (1,0) [] 0),(3,.al (3,0) [] 0 n),(4,.al (4,0) [] 0 n),(5,.al (5,0) [] 0 n),(7,.al (7,0) [] 0 (x.2.2.2).length),(8,.int x.1),(34,.int n),(35,.int (s:Nat))],aF [((1,0),some (.bx [D.int n,D.int m.r,shI m.d])),((3,0),some (.ow 1 n (ints x.2.1))),((4,0),some (.ow 1 n (ints x.2.2.1))),((5,0),some (.ow 1 n (ints out))),((7,0),some (.ow 1 (x.2.2.2).length (ints (cN x.2.2.2))))]⟩) (fun x=>x.1<=x.2.2.2.length/\BJ n (bM m) old s x.2.1 x.2.2.1 x.2.2.2 x.1 0) (fun x=>n - x.1) (0,num.set s 1,den.set s 1,[s]) (by simp[C.av,cN,ints]) ⟨by simp,hBs⟩ ?_;intro x2 hx2 R2 hR2;clear hBs hs0 hc2 hln hld hmem;obtain⟨a,num,den,P⟩:=x2;obtain⟨haP,hBJ⟩:=hx2;dsimp only at haP hBJ ⊢;have hPn:=iE hBJ.pn hBJ.pl;apply aa;apply aa;refine ab fun K hK=>?_;simp[C.av];apply hK;clear hK K;show AWp _ _ _ _ _;refine ap _ rfl (fun hc3=>?_) (fun hc3=>?_)
    ·have ha:a < P.length:=by have:=d_t hc3;omega
     obtain⟨i,hi⟩:∃ i,i=P[a]:=⟨_,rfl⟩;have hiP:P[a]? = some i:=by rw[hi];exact List.getElem?_eq_getElem ha
     have hin:i < n:=by rw[hi];exact hBJ.pl _ (List.getElem_mem ha)
     apply au;show AWp _ _ _ _ _;apply aa;apply ak;apply aa;refine ab fun K hK=>?_;simp[C.av,show ((a:Int) < P.length) by omega,ha,ao,bU ha,<-hi];apply hK;clear hK K;show AWp _ _ _ _ _;apply aa;refine ab fun K hK=>?_;simp[C.av];apply hK;clear hK K;show AWp _ _ _ _ _;apply ak;refine bm (fun x:Nat×List Int×List Int×List Nat=>⟨ofL [(1,.pt (1,0) [] 0),(3,.al (3,0) [] 0 n),(4,.al (4,0) [] 0 n),(5,.al (5,0) [] 0 n),(7,.al (7,0) [] 0 (x.2.2.2).length),(8,.int a),(9,.int i),(34,.int n),(35,.int (s:Nat)),(62,.int n),(63,.int x.1)],aF [((1,0),some (.bx [D.int n,D.int m.r,shI m.d])),((3,0),some (.ow 1 n (ints x.2.1))),((4,0),some (.ow 1 n (ints x.2.2.1))),((5,0),some (.ow 1 n (ints out))),((7,0),some (.ow 1 (x.2.2.2).length (ints (cN x.2.2.2))))]⟩) (fun x=>x.1<=n/\x.2.2.2[a]? = some i/\BJ n (bM m) old s x.2.1 x.2.2.1 x.2.2.2 a x.1) (fun x=>n - x.1) (0,num,den,P) (by simp[C.av,hBJ.ln]) ⟨by simp,hiP,hBJ⟩ ?_;intro x3 hx3 R3 hR3;clear hiP hi ha hBJ haP hPn hc3;obtain⟨j,num,den,P⟩:=x3;obtain⟨hj2,hiP,hBJ⟩:=hx3;dsimp only at hj2 hiP hBJ ⊢;have hPn:=iE hBJ.pn hBJ.pl;obtain⟨ha,hi⟩:=List.getElem?_eq_some_iff.1 hiP;have hln:=hBJ.ln;have hld:=hBJ.ld;apply aa;refine ab fun K hK=>?_;simp[C.av];apply hK;clear hK K;show AWp _ _ _ _ _;apply aa;refine ap _ rfl (fun hc4=>?_) (fun hc4=>?_)
     ·have hj:j < n:=by have:=d_t hc4;omega
      obtain⟨p,hp⟩:∃ p,p=bM m i j:=⟨_,rfl⟩;obtain⟨q,hq⟩:∃ q,q=-bM m j i:=⟨_,rfl⟩;have hpb:-99<=p/\p<=99:=by have:=hB i j hin hj;omega
      have hqb:-99<=q/\q<=99:=by have:=hB j i hj hin;omega
      have hwq:IntKind.i64.wrap (-bM m j i)=q:=by rw[<-hq];exact aj (by omega) (by omega)
      apply au;show AWp _ _ _ _ _;apply aa;apply ak;apply aa;refine ab fun K hK=>?_;simp[C.av];apply hK;clear hK K;show AWp _ _ _ _ _;apply aa;refine bR [(true,0),(true,1),(true,2),(true,4),(true,5),(true,6),(false,3),(false,7),(true,8),(true,9),(true,10)] ⟨by kernel_rfl,by kernel_rfl⟩ ([0,1,2,4,5,6,3] ++ ([7] ++ ([8,9,10]))) rfl fun K hK=>?_;refine oSg fun L hL=>?_;simp[C.av,hwq,<-hp];refine ae (s8 hn hS (show (i:Int) < m.r by omega) hj) (by simp) (by simp) ?_;simp[C.av,hwq,<-hp];apply hL;clear hL L;refine oSg fun L hL=>?_;simp[C.av,hwq,<-hp];refine ae (s8 hn hS (show (j:Int) < m.r by omega) hin) (by simp) (by simp) ?_;simp[C.av,hwq,<-hp];apply hL;clear hL L;refine oEn fun L hL=>?_;simp[C.av,hwq,<-hp];apply hL;clear hL L;simp[C.av,hwq,<-hp];apply hK;clear hK K;show AWp _ _ _ _ _;apply aa;apply aa;refine ab fun K hK=>?_;have hJ:K ⟨ofL [(1,.pt (1,0) [] 0),(3,.al (3,0) [] 0 n),(4,.al (4,0) [] 0 n),(5,.al (5,0) [] 0 n),(7,.al (7,0) [] 0 (P).length),(8,.int a),(9,.int i),(10,.int j),(11,.int p),(12,.int q),(34,.int n),(35,.int (s:Nat)),(62,.int n),(63,.int j),(80,.bool (decide (p=0/\q=0)))],aF [((1,0),some (.bx [D.int n,D.int m.r,shI m.d])),((3,0),some (.ow 1 n (ints num))),((4,0),some (.ow 1 n (ints den))),((5,0),some (.ow 1 n (ints out))),((7,0),some (.ow 1 (P).length (ints (cN P))))]⟩:=by
       apply hK;clear hK K;show AWp _ _ _ _ _;refine ap _ rfl (fun hc5=>?_) (fun hc5=>?_)
       ·have hpq0:=d_t hc5;apply aZ;show AWp _ _ _ _ _;refine ab fun K hK=>?_;simp[C.av,ay (show j < 4611686018427387904 by omega)];apply hK;clear hK K;simp[C.av];refine hR3 (j+1,num,den,P) ⟨hj,hiP,?_⟩ (by dsimp only;omega);exact hBJ.skip ha (by rw[hi,<-hp];exact hpq0.1) (by rw[hi];omega)
       ·have hpq0:=d_f hc5;apply au;show AWp _ _ _ _ _;apply aa;apply aa;refine aK ([0,1,2,3,4,5,6,7,8,9,10,11,12,13,14,15,16,17]) rfl fun K hK=>?_;have hJ:K ⟨ofL [(1,.pt (1,0) [] 0),(3,.al (3,0) [] 0 n),(4,.al (4,0) [] 0 n),(5,.al (5,0) [] 0 n),(7,.al (7,0) [] 0 (P).length),(8,.int a),(9,.int i),(10,.int j),(11,.int p),(12,.int q),(34,.int n),(35,.int (s:Nat)),(62,.int n),(63,.int j),(98,.bool (decide (p=0\/q=0\/¬ (0 < p↔0 < q)\/i=j)))],aF [((1,0),some (.bx [D.int n,D.int m.r,shI m.d])),((3,0),some (.ow 1 n (ints num))),((4,0),some (.ow 1 n (ints den))),((5,0),some (.ow 1 n (ints out))),((7,0),some (.ow 1 (P).length (ints (cN P))))]⟩:=by
         apply hK;clear hK K;show AWp _ _ _ _ _;refine ap _ rfl (fun hc6=>?_) (fun hc6=>?_)
         ·have hfl:=d_t hc6;have hno:=fun d=>CL (b:=bM m) hin hj (by omega) (by omega) d;apply aa;refine ab fun K hK=>?_;simp[C.av];apply hK;clear hK K;show AWp _ _ _ _ _;apply aI;simp[C.av];exact hno
         ·have hsg:=d_f hc6;have hpq:0 < p/\0 < q\/p < 0/\q < 0:=by omega
          obtain⟨u,hu⟩:∃ u,u=max p (-p):=⟨_,rfl⟩;obtain⟨v,hv⟩:∃ v,v=max q (-q):=⟨_,rfl⟩;have hw1:IntKind.i64.wrap (-p)=-p:=aj (by omega) (by omega);have hw2:IntKind.i64.wrap (-q)=-q:=aj (by omega) (by omega);have hm1:=(hBJ.mul hn5.2 ha (u:=u) (by omega) (by omega)).1;have hm2:=(hBJ.mul hn5.2 ha (u:=v) (by omega) (by omega)).2;rw[hi] at hm1 hm2;have hwA:IntKind.i64.wrap (g0 num i*u)=g0 num i*u:=aj (by omega) (by omega);have hwB:IntKind.i64.wrap (g0 den i*v)=g0 den i*v:=aj (by omega) (by omega);obtain⟨x,y,g,hx0,hy0,hgp,hgg,hxA,hyB,hco⟩:=L0 (g0 num i*u) (g0 den i*v) hm1.1 hm2.1;have hqA:(g0 num i*u).tdiv g=x:=by rw[hxA,Int.mul_tdiv_cancel _ (by omega)]
          have hqB:(g0 den i*v).tdiv g=y:=by rw[hyB,Int.mul_tdiv_cancel _ (by omega)]
          have hxl:x<=9509900499:=by
           have h1:x*1<=x*g:=Int.mul_le_mul_of_nonneg_left (by omega) (by omega);rw[<-hxA] at h1;omega
          have hyl:y<=9509900499:=by
           have h1:y*1<=y*g:=Int.mul_le_mul_of_nonneg_left (by omega) (by omega);rw[<-hyB] at h1;omega
          have hcall:=pL (g0 num i*u) (g0 den i*v) (by omega) (by omega);rw[hgg] at hcall;generalize hAA:g0 num i*u=A at *
          generalize hBB:g0 den i*v=Bb at *
          apply au;show AWp _ _ _ _ _;apply aa;refine bR [(true,0),(true,1),(true,2),(true,3),(true,4),(true,5),(true,6),(true,7),(true,8),(true,9),(true,10),(true,11),(true,12),(true,13),(true,14),(true,15),(true,16),(true,17),(true,18),(true,19)] ⟨by kernel_rfl,by kernel_rfl⟩ ([0,1,2,3,4,5,6,7,8,9,10,11,12,13,14,15,16,17,18,19]) rfl fun K hK=>?_;refine oEn fun L hL=>?_;simp[C.av,show ((i:Int) < n) by omega,hin,hln,hld,ao,cc,hw1,hw2,<-hu,<-hv,hAA,hBB,hwA,hwB];apply hL;clear hL L;simp[C.av,show ((i:Int) < n) by omega,hin,hln,hld,ao,cc,hw1,hw2,<-hu,<-hv,hAA,hBB,hwA,hwB];apply hK;clear hK K;show AWp _ _ _ _ _;apply aa;refine aK ([0,1,2] ++ ([3])) rfl fun K hK=>?_;refine oSg fun L hL=>?_;simp[C.av];refine ae (hcall) (by simp) (by simp) ?_;simp[C.av];apply hL;clear hL L;refine oEn fun L hL=>?_;simp[C.av];apply hL;clear hL L;simp[C.av];apply hK;clear hK K;show AWp _ _ _ _ _;apply aa;refine eG (.take 0 (.take 1 (.take 2 (.take 3 (.take 4 (.take 5 (.take 6 (.take 7 (.done))))))))) ⟨by kernel_rfl,by kernel_rfl⟩ fun K hK=>?_;simp[C.av,show g≠0 by omega,hqA,hqB,aj (x:=x) (by omega) (by omega),aj (x:=y) (by omega) (by omega)];apply hK;clear hK K;show AWp _ _ _ _ _;apply aa;refine ab fun K hK=>?_;simp[C.av,show ((j:Int) < n) by omega,hj,hln,ao,cc];apply hK;clear hK K;show AWp _ _ _ _ _;refine ap _ rfl (fun hc7=>?_) (fun hc7=>?_)
          ·have hz:g0 num j=0:=by simpa using hc7
           have hnew:=hBJ.new (x:=x) (y:=y) (g:=g) (u:=u) (v:=v) hoc ha hj hB (by rw[hi,<-hp,<-hq];exact hpq) hz (by rw[hi,<-hp];exact hu.symm) (by rw[hi,<-hq];exact hv.symm) hgp hx0 hy0 (by rw[hi,hAA];exact hxA) (by rw[hi,hBB];exact hyB) hco;apply aa;refine ab fun K hK=>?_;simp[C.av,show ((j:Int) < n) by omega,hj,hln,hld];apply hK;clear hK K;show AWp _ _ _ _ _;refine ab fun K hK=>?_;simp[C.av,vS,show (P.length+1)*8<=140737488355328 by omega];apply hK;clear hK K;show AWp _ _ _ _ _;refine ab fun K hK=>?_;simp[C.av,ay (show j < 4611686018427387904 by omega)];apply hK;clear hK K;simp[C.av];refine cast (congrArg R3 ?_) (hR3 (j+1,num.set j x,den.set j y,P ++ [j]) ⟨hj,by dsimp only;rw[List.getElem?_append_left ha];exact hiP,hnew⟩ (by dsimp only;omega));simp
          ·have hz:g0 num j≠0:=by simpa using hc7
           have hcmp:=hBJ.cmp (x:=x) (y:=y) (g:=g) (u:=u) (v:=v) hoc ha hj (by rw[hi,<-hp,<-hq];exact hpq) hz (by rw[hi,<-hp];exact hu.symm) (by rw[hi,<-hq];exact hv.symm) hgp hx0 hy0 (by rw[hi,hAA];exact hxA) (by rw[hi,hBB];exact hyB) hco;apply aa;refine aK ([0,1,2,3,4,5,6,7,8,9,10,11,12,13]) rfl fun K hK=>?_;have hJ:K ⟨ofL [(1,.pt (1,0) [] 0),(3,.al (3,0) [] 0 n),(4,.al (4,0) [] 0 n),(5,.al (5,0) [] 0 n),(7,.al (7,0) [] 0 (P).length),(8,.int a),(9,.int i),(34,.int n),(35,.int (s:Nat)),(62,.int n),(63,.int j),(156,.bool (!decide (g0 num j=x/\g0 den j=y)))],aF [((1,0),some (.bx [D.int n,D.int m.r,shI m.d])),((3,0),some (.ow 1 n (ints num))),((4,0),some (.ow 1 n (ints den))),((5,0),some (.ow 1 n (ints out))),((7,0),some (.ow 1 (P).length (ints (cN P))))]⟩:=by
            apply hK;clear hK K;show AWp _ _ _ _ _;refine ap _ rfl (fun hc8=>?_) (fun hc8=>?_)
            ·have hne:=gk hc8;apply aa;refine ab fun K hK=>?_;simp[C.av];apply hK;clear hK K;show AWp _ _ _ _ _;apply aI;simp[C.av];exact hcmp.2 hne
            ·have heq:=gw hc8;apply au;show AWp _ _ _ _ _;refine ab fun K hK=>?_;simp[C.av,ay (show j < 4611686018427387904 by omega)];apply hK;clear hK K;simp[C.av];exact hR3 (j+1,num,den,P) ⟨hj,hiP,hcmp.1 heq⟩ (by dsimp only;omega)
           clear hK
           by_cases h1:g0 num j=x
           ·refine oEn fun L hL=>?_;simp[C.av,show ((j:Int) < n) by omega,hj,hln,hld,ao,cc,h1];apply hL;clear hL L;simp[C.av,show ((j:Int) < n) by omega,hj,hln,hld,ao,cc,h1];refine cast (congrArg K ?_) hJ;simp[il,h1]
           ·refine oEn fun L hL=>?_;simp[C.av,show ((j:Int) < n) by omega,hj,hln,hld,ao,cc,h1];apply hL;clear hL L;simp[C.av,show ((j:Int) < n) by omega,hj,hln,hld,ao,cc,h1];refine cast (congrArg K ?_) hJ;simp[il,h1]
        clear hK;have hij:((i:Int) == (j:Int))=decide (i=j):=by rw[Bool.eq_iff_iff];simp <;> omega
        by_cases h1:p=0 <;> by_cases h2:q=0 <;> by_cases h3:0 < p <;> by_cases h4:0 < q <;> by_cases h5:i=j <;> first
         | (exfalso;omega)
         | (simp[C.av,h1,h2,h3,h4,h5];refine cast (congrArg K ?_) hJ;simp[hij,h1,h2,h3,h4,h5];done)
      clear hK
      by_cases hz:p=0
      ·simp[C.av,hz];refine cast (congrArg K ?_) hJ;simp[kx,hz]
      ·simp[C.av,hz];refine cast (congrArg K ?_) hJ;simp[kx,hz]
     ·have hjn:j=n:=by have:=d_f hc4;omega
      apply aZ;show AWp _ _ _ _ _;refine ab fun K hK=>?_;simp[C.av,ay (show a < 4611686018427387904 by omega)];apply hK;clear hK K;simp[C.av];refine hR2 (a+1,num,den,P) ⟨ha,?_⟩ (by dsimp only;omega);rw[hjn] at hBJ;exact hBJ.next
    ·have hap:a=P.length:=by have:=d_f hc3;omega
     rw[hap] at hBJ;clear hap hc3 haP;have hln:=hBJ.ln;have hld:=hBJ.ld;have hP9:P.length < 4611686018427387904:=by omega
     apply aZ;show AWp _ _ _ _ _;apply aa;refine ab fun K hK=>?_;simp[C.av];apply hK;clear hK K;show AWp _ _ _ _ _;apply aa;apply aa;refine ab fun K hK=>?_;simp[C.av];apply hK;clear hK K;show AWp _ _ _ _ _;apply ak;refine bm (fun x:Nat×Int=>⟨ofL [(1,.pt (1,0) [] 0),(3,.al (3,0) [] 0 n),(4,.al (4,0) [] 0 n),(5,.al (5,0) [] 0 n),(7,.al (7,0) [] 0 (P).length),(16,.int x.2),(34,.int n),(35,.int (s:Nat)),(158,.al (7,0) [] 0 P.length),(159,.int P.length),(160,.int x.1)],aF [((1,0),some (.bx [D.int n,D.int m.r,shI m.d])),((3,0),some (.ow 1 n (ints num))),((4,0),some (.ow 1 n (ints den))),((5,0),some (.ow 1 n (ints out))),((7,0),some (.ow 1 (P).length (ints (cN P))))]⟩) (fun x=>x.1<=P.length/\CJ n (bM m) s den P x.1 x.2) (fun x=>P.length - x.1) (0,1) (by simp[C.av]) ⟨by simp,CJ.start hBJ hn5.2 hPn⟩ ?_;intro x4 hx4 R4 hR4;obtain⟨t,c⟩:=x4;obtain⟨ht0,hC⟩:=hx4;dsimp only at ht0 hC ⊢;apply aa;refine ab fun K hK=>?_;simp[C.av];apply hK;clear hK K;show AWp _ _ _ _ _;apply aa;refine ap _ rfl (fun hc9=>?_) (fun hc9=>?_)
     ·have ht:t < P.length:=by have:=d_t hc9;omega
      have hin:=hBJ.pl _ (List.getElem_mem ht);have hdp:=hBJ.pos _ (List.getElem_mem ht);have hdb:=(hBJ.bd t ht).2;have hp4:=Ev ht hn5.2 hPn;have hcq:=hC.qd;have hcp:=hC.pos;obtain⟨w,w1,w2,w3⟩:=y7 hC.pos hdp.2.1;have hstep:=hC.step hBJ ht;have hcall:=pL c (g0 den P[t]) (by omega) (by omega);have hgn:0 < Int.gcd c (g0 den P[t]):=Int.gcd_pos_of_ne_zero_left _ (by omega);have hdz:(Int.gcd c (g0 den P[t]):Int)≠0:=by omega
      have hsq:=hstep.qd;have hsp:=hstep.pos;rw[w1] at hstep hsq hsp;generalize hG:(Int.gcd c (g0 den P[t]):Int)=G at *
      apply au;show AWp _ _ _ _ _;apply aa;apply ak;apply aa;refine ab fun K hK=>?_;simp[C.av,show ((t:Int) < P.length) by omega,ht,ao,bU ht];apply hK;clear hK K;show AWp _ _ _ _ _;refine bR [(true,0),(true,1),(true,2),(true,3),(true,4),(true,5),(true,8),(true,9),(true,10),(true,11),(false,6),(true,7),(true,12),(true,13)] ⟨by kernel_rfl,by kernel_rfl⟩ ([0,1,2,3,4,5,8,9,10,11,6] ++ ([7,12,13])) rfl fun K hK=>?_;refine oSg fun L hL=>?_;simp[C.av,show ((P[t]:Int) < n) by omega,hin,hld,ao,cc,hdz,w1,aj (x:=(w:Int)) (by omega) (by omega),aj (x:=(w:Int)*g0 den P[t]) (by omega) (by omega)];refine ae (hcall) (by simp) (by simp) ?_;simp[C.av,show ((P[t]:Int) < n) by omega,hin,hld,ao,cc,hdz,w1,aj (x:=(w:Int)) (by omega) (by omega),aj (x:=(w:Int)*g0 den P[t]) (by omega) (by omega)];apply hL;clear hL L;refine oEn fun L hL=>?_;simp[C.av,show ((P[t]:Int) < n) by omega,hin,hld,ao,cc,hdz,w1,aj (x:=(w:Int)) (by omega) (by omega),aj (x:=(w:Int)*g0 den P[t]) (by omega) (by omega)];apply hL;clear hL L;simp[C.av,show ((P[t]:Int) < n) by omega,hin,hld,ao,cc,hdz,w1,aj (x:=(w:Int)) (by omega) (by omega),aj (x:=(w:Int)*g0 den P[t]) (by omega) (by omega)];apply hK;clear hK K;show AWp _ _ _ _ _;refine ab fun K hK=>?_;simp[C.av,ay (show t < 4611686018427387904 by omega)];apply hK;clear hK K;simp[C.av];exact hR4 (t+1,(w:Int)*g0 den P[t]) ⟨ht,hstep⟩ (by dsimp only;omega)
     ·have htP:t=P.length:=by have:=d_f hc9;omega
      rw[htP] at hC;apply aZ;show AWp _ _ _ _ _;apply aa;refine ab fun K hK=>?_;simp[C.av];apply hK;clear hK K;show AWp _ _ _ _ _;apply aa;apply aa;refine ab fun K hK=>?_;simp[C.av];apply hK;clear hK K;show AWp _ _ _ _ _;apply ak;refine bm (fun x:Nat×List Int×Int=>⟨ofL [(1,.pt (1,0) [] 0),(3,.al (3,0) [] 0 n),(4,.al (4,0) [] 0 n),(5,.al (5,0) [] 0 n),(7,.al (7,0) [] 0 (P).length),(16,.int c),(19,.int x.2.2),(34,.int n),(35,.int (s:Nat)),(178,.al (7,0) [] 0 P.length),(179,.int P.length),(180,.int x.1)],aF [((1,0),some (.bx [D.int n,D.int m.r,shI m.d])),((3,0),some (.ow 1 n (ints num))),((4,0),some (.ow 1 n (ints den))),((5,0),some (.ow 1 n (ints x.2.1))),((7,0),some (.ow 1 (P).length (ints (cN P))))]⟩) (fun x=>x.1<=P.length/\WJ c num den P out x.1 x.2.1 x.2.2/\x.2.2 < 4611686018427387904) (fun x=>P.length - x.1) (0,out,0) (by simp[C.av]) ⟨by simp,WJ.start c num den P out,by simp⟩ ?_;intro x5 hx5 R5 hR5;obtain⟨t5,o,g⟩:=x5;obtain⟨ht0',hW,hgb⟩:=hx5;dsimp only at ht0' hW hgb ⊢;apply aa;refine ab fun K hK=>?_;simp[C.av];apply hK;clear hK K;show AWp _ _ _ _ _;apply aa;refine ap _ rfl (fun hc10=>?_) (fun hc10=>?_)
      ·have ht:t5 < P.length:=by have:=d_t hc10;omega
       have hin:=hBJ.pl _ (List.getElem_mem ht);have hws:=lr hC hBJ hn5.2 hPn (List.getElem_mem ht);have hdp:=hBJ.pos _ (List.getElem_mem ht);have hol:o.length=n:=by rw[hW.len,hO.lo]
       have hwd:wM c num den P[t5]=c.tdiv (g0 den P[t5])*g0 num P[t5]:=rfl;have hstep:=hW.step ht (by rw[hO.lo];exact hin) hws.2.2.1;have hg0:=hW.g0'.1;have hcall:=pL g (wM c num den P[t5]) (by omega) (by have:=hws.2.2.2.1;omega);have hgw:(Int.gcd g (wM c num den P[t5]):Int) < 4611686018427387904:=by
        have h1:Int.gcd g (wM c num den P[t5]) ∣ (wM c num den P[t5]).natAbs:=Nat.gcd_dvd_right _ _;have h2:=Nat.le_of_dvd (by have:=hws.2.2.1;omega) h1;have:=hws.2.2.2.1;omega
       have hwA:IntKind.i64.wrap (c.tdiv (g0 den P[t5]))=c.tdiv (g0 den P[t5]):=by have:=hws.1;have:=hws.2.1;exact aj (by omega) (by omega)
       have hwB:IntKind.i64.wrap (wM c num den P[t5])=wM c num den P[t5]:=by have:=hws.2.2.1;have:=hws.2.2.2.1;exact aj (by omega) (by omega)
       have hog:g0 (o.set P[t5] (wM c num den P[t5])) P[t5]=wM c num den P[t5]:=by rw[dF _ _ _ _ (by omega),if_pos rfl]
       have hdz:g0 den P[t5]≠0:=by omega
       apply au;show AWp _ _ _ _ _;apply aa;apply ak;apply aa;refine ab fun K hK=>?_;simp[C.av,show ((t5:Int) < P.length) by omega,ht,ao,bU ht];apply hK;clear hK K;show AWp _ _ _ _ _;apply aa;refine bR [(true,0),(true,1),(true,2),(true,3),(true,4),(true,5),(true,6),(true,7),(true,8),(true,9),(true,10),(true,11),(true,12),(true,13),(false,14)] ⟨by kernel_rfl,by kernel_rfl⟩ ([0,1,2,3,4,5,6,7,8,9,10,11,12,13,14]) rfl fun K hK=>?_;refine oEn fun L hL=>?_;simp[C.av,show ((P[t5]:Int) < n) by omega,hin,hln,hld,hol,ao,cc,hdz,hwA,<-hwd,hwB];apply hL;clear hL L;simp[C.av,show ((P[t5]:Int) < n) by omega,hin,hln,hld,hol,ao,cc,hdz,hwA,<-hwd,hwB];apply hK;clear hK K;show AWp _ _ _ _ _;refine aK ([0,1,2,3,4,5] ++ ([6])) rfl fun K hK=>?_;refine oSg fun L hL=>?_;simp[C.av,show ((P[t5]:Int) < n) by omega,hin,hol,ao,cc,hog];refine ae (hcall) (by simp) (by simp) ?_;simp[C.av,show ((P[t5]:Int) < n) by omega,hin,hol,ao,cc,hog];apply hL;clear hL L;refine oEn fun L hL=>?_;simp[C.av,show ((P[t5]:Int) < n) by omega,hin,hol,ao,cc,hog];apply hL;clear hL L;simp[C.av,show ((P[t5]:Int) < n) by omega,hin,hol,ao,cc,hog];apply hK;clear hK K;show AWp _ _ _ _ _;refine ab fun K hK=>?_;simp[C.av,ay (show t5 < 4611686018427387904 by omega)];apply hK;clear hK K;simp[C.av];exact hR5 (t5+1,o.set P[t5] (wM c num den P[t5]),_) ⟨ht,hstep,hgw⟩ (by dsimp only;omega)
      ·have ht5:t5=P.length:=by have:=d_f hc10;omega
       rw[ht5] at hW;have hgp:0 < g:=hW.g0'.2 (List.length_pos_of_mem (List.mem_of_getElem? hBJ.hd));apply aZ;show AWp _ _ _ _ _;apply aa;refine ab fun K hK=>?_;simp[C.av];apply hK;clear hK K;show AWp _ _ _ _ _;apply ak;refine bm (fun x:Nat×List Int=>⟨ofL [(1,.pt (1,0) [] 0),(3,.al (3,0) [] 0 n),(4,.al (4,0) [] 0 n),(5,.al (5,0) [] 0 n),(19,.int g),(34,.int n),(35,.int (s:Nat)),(205,.al (205,0) [] 0 P.length),(206,.int P.length),(207,.int x.1)],aF [((1,0),some (.bx [D.int n,D.int m.r,shI m.d])),((3,0),some (.ow 1 n (ints num))),((4,0),some (.ow 1 n (ints den))),((5,0),some (.ow 1 n (ints x.2))),((205,0),some (.ow 1 (P).length (ints (cN P))))]⟩) (fun x=>x.1<=P.length/\VJ (wM c num den) g P out x.1 x.2) (fun x=>P.length - x.1) (0,o) (by simp[C.av]) ⟨by simp,VJ.start hW⟩ ?_;intro x6 hx6 R6 hR6;obtain⟨t6,o6⟩:=x6;obtain⟨ht0'',hV⟩:=hx6;dsimp only at ht0'' hV ⊢;apply aa;refine ab fun K hK=>?_;simp[C.av];apply hK;clear hK K;show AWp _ _ _ _ _;apply aa;refine ap _ rfl (fun hc11=>?_) (fun hc11=>?_)
       ·have ht:t6 < P.length:=by have:=d_t hc11;omega
        have hin:=hBJ.pl _ (List.getElem_mem ht);have hws:=lr hC hBJ hn5.2 hPn (List.getElem_mem ht);obtain⟨hv1,hv2⟩:=hV.step hBJ.pn ht (by rw[hO.lo];exact hin);have hol:o6.length=n:=by rw[hV.len,hO.lo]
        have hwd:IntKind.i64.wrap ((wM c num den P[t6]).tdiv g)=(wM c num den P[t6]).tdiv g:=by
         have h1:((wM c num den P[t6]).tdiv g).natAbs<=(wM c num den P[t6]).natAbs:=by
          rw[Int.natAbs_tdiv];exact Nat.div_le_self _ _
         have:=hws.2.2.1;have:=hws.2.2.2.1;exact aj (by omega) (by omega)
        apply au;show AWp _ _ _ _ _;apply aa;apply ak;apply aa;refine ab fun K hK=>?_;simp[C.av,show ((t6:Int) < P.length) by omega,ht,ao,bU ht];apply hK;clear hK K;show AWp _ _ _ _ _;refine ab fun K hK=>?_;simp[C.av,show ((P[t6]:Int) < n) by omega,hin,hol,ao,cc,hv1,show g≠0 by omega,hwd];apply hK;clear hK K;show AWp _ _ _ _ _;refine ab fun K hK=>?_;simp[C.av,ay (show t6 < 4611686018427387904 by omega)];apply hK;clear hK K;simp[C.av];exact hR6 (t6+1,_) ⟨ht,hv2⟩ (by dsimp only;omega)
       ·have ht6:t6=P.length:=by have:=d_f hc11;omega
        rw[ht6] at hV;have hgrow:=hO.grow hBJ hn5.2 hPn hC hW hV;apply aZ;show AWp _ _ _ _ _;refine ab fun K hK=>?_;simp[C.av,ay (show s < 4611686018427387904 by omega)];apply hK;clear hK K;simp[C.av];refine hR1 (s+1,num,den,o6,old ++ P) ⟨h1,⟨hln,hld⟩,fun i hi=>?_,hgrow,fun i hi=>?_⟩ (by dsimp only;omega)
        ·dsimp only;rw[hBJ.mem i hi,List.mem_append]
        ·dsimp only at hi ⊢;rw[List.mem_append]
         by_cases e:i=s
         ·right
          rw[e];exact List.mem_of_getElem? hBJ.hd
         ·exact .inl (hall i (by omega))
  ·have hsn:s=n:=by have:=d_f hc1;omega
   subst hsn;have hmin:=hO.min hall;have hol:=hO.lo;apply aZ;show AWp _ _ _ _ _;apply aa;refine ab fun K hK=>?_;simp[C.av];apply hK;clear hK K;show AWp _ _ _ _ _;apply aI;simp[C.av];exact⟨out,hmin,hol.symm,rfl⟩
 clear hK;simp[C.av,cL,show (8:Int)*n<=281474976710656 by omega,show (n:Int)<=281474976710656 by omega];exact hJ
theorem wS (m:Mat) (hS:ShM m):af Tryz.prog F.av [aM m] [] true (fun outs res=>outs=[]/\((∃ l,ct m.n.toNat (bM m) l/\res=[.one (owI l)])\/((∀ d,¬ Sol m.n.toNat (bM m) d)/\res=[.one (.v (.slice none 0 0))]))):=by
 obtain⟨n,hn⟩:∃ n:Nat,m.n=n:=⟨m.n.toNat,by have:=hS.1;omega⟩;have h:=vV m n hn hS;have e:aM m = .ag [.int n,.int m.r,.d (shI m.d)]:=by rw[<-hn]
 rw[e,show m.n.toNat=n by omega];exact h
set_option maxRecDepth 10000
set_option maxHeartbeats 2000000
theorem kN (a b:Nat):((a:Int) == (b:Int))=decide (a=b):=by rw[Bool.eq_iff_iff];simp <;> omega
theorem GF (l:List Int):(!(l.any fun x=>!decide (-99<=x) || !decide (x<=99)))=decide (∀ x∈l,-99<=x/\x<=99):=by
 rw[Bool.eq_iff_iff];simp[List.any_eq_true]
theorem qB {m:Mat} (hS:ShM m) {l:List Int} (h:ct m.n.toNat (bM m) l):af Tryz.prog F.av [aM m] [] true (fun outs res=>outs=[]/\res=[.one (owI l)]):=
 (wS m hS).mono fun outs res ⟨h1,h2⟩=>by
  refine⟨h1,?_⟩;rcases h2 with ⟨k,hk,h2⟩ | ⟨hno,_⟩
  ·rw[h2,hk.uniq h]
  ·exact absurd h.2.1 (hno _)
theorem rC {m:Mat} (hS:ShM m) (h:∀ l,¬ ct m.n.toNat (bM m) l):af Tryz.prog F.av [aM m] [] true (fun outs res=>outs=[]/\(∀ d,¬ Sol m.n.toNat (bM m) d)/\res=[.one (.v (.slice none 0 0))]):=
 (wS m hS).mono fun outs res ⟨h1,h2⟩=>by
  rcases h2 with ⟨k,hk,h2⟩ | ⟨hno,h2⟩
  ·exact absurd hk (h k)
  ·exact⟨h1,hno,h2⟩
theorem gG (m:Mat) (hx:m.d.length < 17592186044416):af Tryz.prog F.bN [aM m] [] true (fun outs res=>outs=[]/\res=[.one (D.bool (decide (ShM m)))]):=by
 refine af.ob (C:=C.bN) (n:=Tryz.f92.ntmps) bC bD Tryz.func92 rfl rfl ?_;simp only[Tryz.f92];apply aa;refine ab fun K hK=>?_;simp[C.bN];apply hK;clear hK K;show AWp _ _ _ _ _;apply aa;refine aK ([0,1,2] ++ ([3,4,5,6,7,8] ++ ([9,10,11,12,13,14,15,16,17,18,19,20,21,22,23,24] ++ ([25,26,27])))) rfl fun K hK=>?_;have hJ:K ⟨ofL [(2,.bool (decide (ShM m)))],aF []⟩:=by
  apply hK;clear hK K;show AWp _ _ _ _ _;apply aI;simp[C.bN]
 clear hK
 by_cases h1:1<=m.n/\m.n<=5
 ·by_cases h2:m.n<=m.r/\m.r<=8
  ·by_cases h3:(m.d.length:Int)=m.n*m.r
   ·have hnr:IntKind.i64.wrap (m.n*m.r)=m.n*m.r:=by
     have h4:m.n*m.r<=5*8:=Int.mul_le_mul (by omega) (by omega) (by omega) (by omega);have h5:0<=m.n*m.r:=Int.mul_nonneg (by omega) (by omega);exact aj (by omega) (by omega)
    refine oSg fun L hL=>?_;simp[C.bN,hnr,h1,h2,h3];refine ae (cg m.n 1 5) (by simp) (by simp) ?_;simp[C.bN,hnr,h1,h2,h3];apply hL;clear hL L;refine oSg fun L hL=>?_;simp[C.bN,hnr,h1,h2,h3];refine ae (cg m.r m.n 8) (by simp) (by simp) ?_;simp[C.bN,hnr,h1,h2,h3];apply hL;clear hL L;refine oSg fun L hL=>?_;simp[C.bN,hnr,h1,h2,h3];refine ae (ip m.d _ (fun x=>!decide (-99<=x/\x<=99)) (by omega) rfl (fun x _=>vz x)) (by simp) (by simp) ?_;simp[C.bN,hnr,h1,h2,h3];apply hL;clear hL L;refine oEn fun L hL=>?_;simp[C.bN,hnr,h1,h2,h3];apply hL;clear hL L;simp[C.bN,hnr,h1,h2,h3];refine cast (congrArg K ?_) hJ;simp[ShM,GF,h1,h2,h3]
   ·have hnr:IntKind.i64.wrap (m.n*m.r)=m.n*m.r:=by
     have h4:m.n*m.r<=5*8:=Int.mul_le_mul (by omega) (by omega) (by omega) (by omega);have h5:0<=m.n*m.r:=Int.mul_nonneg (by omega) (by omega);exact aj (by omega) (by omega)
    refine oSg fun L hL=>?_;simp[C.bN,hnr,h1,h2,h3];refine ae (cg m.n 1 5) (by simp) (by simp) ?_;simp[C.bN,hnr,h1,h2,h3];apply hL;clear hL L;refine oSg fun L hL=>?_;simp[C.bN,hnr,h1,h2,h3];refine ae (cg m.r m.n 8) (by simp) (by simp) ?_;simp[C.bN,hnr,h1,h2,h3];apply hL;clear hL L;refine oSg fun L hL=>?_;simp[C.bN,hnr,h1,h2,h3];apply hL;clear hL L;refine oEn fun L hL=>?_;simp[C.bN,hnr,h1,h2,h3];apply hL;clear hL L;simp[C.bN,hnr,h1,h2,h3];refine cast (congrArg K ?_) hJ;simp[ShM,h1,h2,h3]
  ·refine oSg fun L hL=>?_;simp[C.bN,h1,h2];refine ae (cg m.n 1 5) (by simp) (by simp) ?_;simp[C.bN,h1,h2];apply hL;clear hL L;refine oSg fun L hL=>?_;simp[C.bN,h1,h2];refine ae (cg m.r m.n 8) (by simp) (by simp) ?_;simp[C.bN,h1,h2];apply hL;clear hL L;refine oSg fun L hL=>?_;simp[C.bN,h1,h2];apply hL;clear hL L;refine oEn fun L hL=>?_;simp[C.bN,h1,h2];apply hL;clear hL L;simp[C.bN,h1,h2];refine cast (congrArg K ?_) hJ;simp[ShM,h1,h2]
 ·refine oSg fun L hL=>?_;simp[C.bN,h1];refine ae (cg m.n 1 5) (by simp) (by simp) ?_;simp[C.bN,h1];apply hL;clear hL L;refine oSg fun L hL=>?_;simp[C.bN,h1];apply hL;clear hL L;refine oSg fun L hL=>?_;simp[C.bN,h1];apply hL;clear hL L;refine oEn fun L hL=>?_;simp[C.bN,h1];apply hL;clear hL L;simp[C.bN,h1];refine cast (congrArg K ?_) hJ;simp[ShM,h1]
theorem d6 (m:Mat) (hx:m.d.length < 17592186044416):af Tryz.prog F.ce [aM m] [] true (fun outs res=>outs=[]/\res=[.one (D.bool (decide (cO m)))]):=by
 refine af.ob (C:=C.ce) (n:=Tryz.f46.ntmps) bC bD Tryz.func46 rfl rfl ?_;simp only[Tryz.f46];apply aa;refine ab fun K hK=>?_;simp[C.ce];apply hK;clear hK K;show AWp _ _ _ _ _;apply aa;refine aK ([0,1] ++ ([2,3,4] ++ ([5,6,7]))) rfl fun K hK=>?_;have hJ:K ⟨ofL [(2,.bool (decide (cO m)))],aF []⟩:=by
  apply hK;clear hK K;show AWp _ _ _ _ _;apply aI;simp[C.ce]
 clear hK
 by_cases h1:ShM m
 ·by_cases h2:∃ l,ct m.n.toNat (bM m) l
  ·obtain⟨l,hl⟩:=h2;have h2:∃ d,Sol m.n.toNat (bM m) d:=⟨_,hl.2.1⟩;have hlne:l≠[]:=fun e=>by
    have h3:=hl.1;rw[e] at h3;have:=h1.1;simp at h3;omega
   refine oSg fun L hL=>?_;simp[C.ce,hlne,h1,h2];refine ae (gG m hx) (by simp) (by simp) ?_;simp[C.ce,hlne,h1,h2];apply hL;clear hL L;refine oSg fun L hL=>?_;simp[C.ce,hlne,h1,h2];refine ae (qB h1 hl) (by simp) (by simp) ?_;simp[C.ce,hlne,h1,h2];apply hL;clear hL L;refine oEn fun L hL=>?_;simp[C.ce,hlne,h1,h2];apply hL;clear hL L;simp[C.ce,hlne,h1,h2];refine cast (congrArg K ?_) hJ;simp[cO,h1,h2]
  ·refine oSg fun L hL=>?_;simp[C.ce,h1,h2];refine ae (gG m hx) (by simp) (by simp) ?_;simp[C.ce,h1,h2];apply hL;clear hL L;refine oSg fun L hL=>?_;simp[C.ce,h1,h2];refine fh (rC h1 (fun l hl=>h2 ⟨l,hl⟩)) (by simp) (by simp) (by simp) ?_;rintro outs res ⟨rfl,hno,rfl⟩;simp[C.ce,h1,h2];apply hL;clear hL L;refine oEn fun L hL=>?_;simp[C.ce,h1,h2];apply hL;clear hL L;simp[C.ce,h1,h2];refine cast (congrArg K ?_) hJ;simp[cO,hno,h1,h2]
 ·refine oSg fun L hL=>?_;simp[C.ce,h1];refine ae (gG m hx) (by simp) (by simp) ?_;simp[C.ce,h1];apply hL;clear hL L;refine oSg fun L hL=>?_;simp[C.ce,h1];apply hL;clear hL L;refine oEn fun L hL=>?_;simp[C.ce,h1];apply hL;clear hL L;simp[C.ce,h1];refine cast (congrArg K ?_) hJ;simp[cO,h1]
theorem wa (m:Mat) (n r k:Nat) (hn:m.n=n) (hr:m.r=r) (hS:ShM m) (hk:k < n):af Tryz.prog F.bu [.ag [.int n,.int r,.d (shI m.d)],.int k] [] true (fun outs res=>outs=[]/\res=[.ag (mO (muM m k))]):=by
 have hn5:1<=n/\n<=5:=by have:=hS.1;omega
 have hnr:n<=r/\r<=8:=by have:=hS.2.1;omega
 have hnn:m.n.toNat=n:=by omega
 have hL:m.d.length=r*n:=by
  have h1:=hS.2.2.1;rw[hn,hr,<-Int.natCast_mul,Nat.mul_comm] at h1;omega
 have hL40:m.d.length<=40:=by
  rw[hL];exact Nat.le_trans (Nat.mul_le_mul hnr.2 hn5.2) (by omega)
 refine af.ob (C:=C.bu) (n:=Tryz.f139.ntmps) bC bD Tryz.func139 rfl rfl ?_;simp only[Tryz.f139];apply aa;refine ab fun K hK=>?_;simp[C.bu];apply hK;clear hK K;show AWp _ _ _ _ _;apply aa;refine eG (.take 0 (.take 1 (.take 2 (.take 3 (.take 4 (.take 5 (.all [(6,.take 7 (.all [(8,.all [(9,.done)])])),(8,.all [(6,.take 7 (.all [(9,.done)]))])]))))))) ⟨by kernel_rfl,by kernel_rfl⟩ fun K hK=>?_;have hJ:K ⟨ofL [(1,.int k),(2,.pt (2,0) [] 0),(4,.pt (4,0) [] 0),(5,.pt (5,0) [] 0)],aF [((2,0),some (.bx [D.int n,D.int r,shI m.d])),((4,0),some (.bx [D.int 0,D.int 0,.v (.slice none 0 0)])),((5,0),some (.bx [D.int n,D.int r,owI m.d]))]⟩:=by
  apply hK;clear hK K;show AWp _ _ _ _ _;apply aa;apply aa;refine ab fun K hK=>?_;simp[C.bu];apply hK;clear hK K;show AWp _ _ _ _ _;apply ak;refine bm (fun x:Nat=>⟨ofL [(1,.int k),(2,.pt (2,0) [] 0),(4,.pt (4,0) [] 0),(5,.pt (5,0) [] 0),(6,.int x)],aF [((2,0),some (.bx [D.int n,D.int r,shI m.d])),((4,0),some (.bx [D.int 0,D.int 0,.v (.slice none 0 0)])),((5,0),some (.bx [D.int n,D.int r,.ow 1 m.d.length (ints ((muD m k).take (x*n) ++ m.d.drop (x*n)))]))]⟩) (fun x=>x<=r) (fun x=>r - x) 0 (by simp[C.bu]) (by simp) ?_;intro x1 hx1 R1 hR1;apply aa;apply aa;refine ab fun K hK=>?_;simp[C.bu];apply hK;clear hK K;show AWp _ _ _ _ _;refine ap _ rfl (fun hc1=>?_) (fun hc1=>?_)
  ·have hi:x1 < r:=by have:=d_t hc1;omega
   apply au;show AWp _ _ _ _ _;apply aa;apply ak;apply aa;refine ab fun K hK=>?_;simp[C.bu];apply hK;clear hK K;show AWp _ _ _ _ _;apply ak;refine bm (fun x:Nat=>⟨ofL [(1,.int k),(2,.pt (2,0) [] 0),(4,.pt (4,0) [] 0),(5,.pt (5,0) [] 0),(6,.int x1),(7,.int x)],aF [((2,0),some (.bx [D.int n,D.int r,shI m.d])),((4,0),some (.bx [D.int 0,D.int 0,.v (.slice none 0 0)])),((5,0),some (.bx [D.int n,D.int r,.ow 1 m.d.length (ints ((muD m k).take (x1*n+x) ++ m.d.drop (x1*n+x)))]))]⟩) (fun x=>x<=n) (fun x=>n - x) 0 (by simp[C.bu]) (by simp) ?_;intro x2 hx2 R2 hR2;apply aa;apply aa;refine ab fun K hK=>?_;simp[C.bu];apply hK;clear hK K;show AWp _ _ _ _ _;refine ap _ rfl (fun hc2=>?_) (fun hc2=>?_)
   ·have hj:x2 < n:=by have:=d_t hc2;omega
    obtain⟨q,hq⟩:∃ q,q=x1*n+x2:=⟨_,rfl⟩;have hqe:(x1:Int)*n+x2=(q:Int):=by rw[hq];simp
    have hqL:q < m.d.length:=by
     rw[hL,hq];have h1:(x1+1)*n<=r*n:=Nat.mul_le_mul_right _ (by omega);rw[Nat.add_mul] at h1;omega
    have hq0:IntKind.i64.wrap ((x1:Int)*n)=(x1:Int)*n:=by
     have:(x1:Int)*n=((x1*n:Nat):Int):=by simp
     rw[this];exact aj (by omega) (by omega)
    have hq1:IntKind.i64.wrap ((x1:Int)*n+x2)=(q:Int):=by rw[hqe];exact aj (by omega) (by omega)
    have hg:=oq (muD m k) m.d q hqL (by simp);have hst:=ko (muD m k) m.d q (by simpa using hqL) (by simp);have hmu:(muD m k)[q]'(by simpa using hqL)=muE (bM m) k x1 x2:=by
     have:=wj m k x1 x2 (by omega) (by rw[hnn,<-hq];exact hqL);simp only[hnn,<-hq] at this;exact this
    have hdq:m.d[q]=bM m x1 x2:=by
     obtain⟨h1,h2⟩:=oB hS (i:=x1) (j:=x2) (by omega) (by omega);rw[<-h2];congr 1;rw[hnn,hq]
    rw[hmu] at hst;rw[<-hq];have hml:((muD m k).take q ++ m.d.drop q).length=m.d.length:=by simp;omega
    generalize hM:(muD m k).take q ++ m.d.drop q=M at hg hst hml;have hMq:M[q]'(by omega)=bM m x1 x2:=by
     rw[List.getElem?_eq_getElem (by omega)] at hg;injection hg with hg
     rw[hg,hdq]
    have b0:=gV hS x1 x2;have b1:=gV hS x1 k;have b2:=gV hS k x2;have hat1:=s8 hn hS (i:=x1) (j:=k) (by omega) hk;have hat2:=s8 hn hS (i:=k) (j:=x2) (by omega) hj;rw[hr] at hat1 hat2;obtain⟨A,hA⟩:∃ A,A=bM m x1 k:=⟨_,rfl⟩;obtain⟨B,hB⟩:∃ B,B=bM m k x2:=⟨_,rfl⟩;obtain⟨X,hX⟩:∃ X,X=bM m x1 x2:=⟨_,rfl⟩;have hmuv:muE (bM m) k x1 x2=if x1=k\/x2=k then -X else if 0 < A/\0 < B then X+A*B else if A < 0/\B < 0 then X - A*B else X:=by rw[hA,hB,hX];rfl
    rw[hmuv] at hst;rw[<-hA] at hat1 b1;rw[<-hB] at hat2 b2;rw[<-hX] at hMq b0;have hab:(A*B).natAbs<=99*99:=by rw[Int.natAbs_mul];exact Nat.mul_le_mul b1 b2
    clear hmuv hA hB hX hmu hdq hM;have hwab:IntKind.i64.wrap (A*B)=A*B:=aj (by omega) (by omega);apply au;show AWp _ _ _ _ _;apply aa;apply ak;apply aa;refine ab fun K hK=>?_;simp[C.bu,hq0,hq1,show (q:Int) < m.d.length by omega,hqL];apply hK;clear hK K;show AWp _ _ _ _ _;apply aa;refine bR [(true,0),(true,1),(true,2),(true,4),(true,5),(true,6),(false,3),(false,7),(true,8),(true,9)] ⟨by kernel_rfl,by kernel_rfl⟩ ([0,1,2,4,5,6,3] ++ ([7] ++ ([8,9]))) rfl fun K hK=>?_;refine oSg fun L hL=>?_;simp[C.bu];refine ae (hat1) (by simp) (by simp) ?_;simp[C.bu];apply hL;clear hL L;refine oSg fun L hL=>?_;simp[C.bu];refine ae (hat2) (by simp) (by simp) ?_;simp[C.bu];apply hL;clear hL L;refine oEn fun L hL=>?_;simp[C.bu];apply hL;clear hL L;simp[C.bu];apply hK;clear hK K;show AWp _ _ _ _ _;apply ak;apply aa;refine ab fun K hK=>?_;have hJ:K ⟨ofL [(1,.int k),(2,.pt (2,0) [] 0),(4,.pt (4,0) [] 0),(5,.pt (5,0) [] 0),(6,.int x1),(7,.int x2),(8,.pt (5,0) [2] q),(9,.int A),(10,.int B),(48,.bool (decide (x1=k\/x2=k)))],aF [((2,0),some (.bx [D.int n,D.int r,shI m.d])),((4,0),some (.bx [D.int 0,D.int 0,.v (.slice none 0 0)])),((5,0),some (.bx [D.int n,D.int r,.ow 1 m.d.length (ints M)]))]⟩:=by
     apply hK;clear hK K;show AWp _ _ _ _ _;refine ap _ rfl (fun hc3=>?_) (fun hc3=>?_)
     ·have h3:=d_t hc3;rw[if_pos h3] at hst;refine ab fun K hK=>?_;simp[C.bu,ao,hml,hqL,hMq,aj (x:=-X) (by omega) (by omega),hst];apply hK;clear hK K;show AWp _ _ _ _ _;refine ab fun K hK=>?_;simp[C.bu,ay (show x2 < 4611686018427387904 by omega)];apply hK;clear hK K;simp[C.bu];refine cast (congrArg R2 ?_) (hR2 (x2+1) hj (by omega));simp[<-Nat.add_assoc,<-hq]
     ·have h3:=d_f hc3;rw[if_neg h3] at hst;apply aa;refine ab fun K hK=>?_;have hJ:K ⟨ofL [(1,.int k),(2,.pt (2,0) [] 0),(4,.pt (4,0) [] 0),(5,.pt (5,0) [] 0),(6,.int x1),(7,.int x2),(8,.pt (5,0) [2] q),(9,.int A),(10,.int B),(63,.bool (decide (0 < A/\0 < B)))],aF [((2,0),some (.bx [D.int n,D.int r,shI m.d])),((4,0),some (.bx [D.int 0,D.int 0,.v (.slice none 0 0)])),((5,0),some (.bx [D.int n,D.int r,.ow 1 m.d.length (ints M)]))]⟩:=by
       apply hK;clear hK K;show AWp _ _ _ _ _;refine ap _ rfl (fun hc4=>?_) (fun hc4=>?_)
       ·have h4:=d_t hc4;rw[if_pos h4] at hst;refine ab fun K hK=>?_;simp[C.bu,ao,hml,hqL,hMq,hwab,aj (x:=X+A*B) (by omega) (by omega),hst];apply hK;clear hK K;show AWp _ _ _ _ _;refine ab fun K hK=>?_;simp[C.bu,ay (show x2 < 4611686018427387904 by omega)];apply hK;clear hK K;simp[C.bu];refine cast (congrArg R2 ?_) (hR2 (x2+1) hj (by omega));simp[<-Nat.add_assoc,<-hq]
       ·have h4:=d_f hc4;rw[if_neg h4] at hst;apply aa;refine ab fun K hK=>?_;have hJ:K ⟨ofL [(1,.int k),(2,.pt (2,0) [] 0),(4,.pt (4,0) [] 0),(5,.pt (5,0) [] 0),(6,.int x1),(7,.int x2),(8,.pt (5,0) [2] q),(9,.int A),(10,.int B),(78,.bool (decide (A < 0/\B < 0)))],aF [((2,0),some (.bx [D.int n,D.int r,shI m.d])),((4,0),some (.bx [D.int 0,D.int 0,.v (.slice none 0 0)])),((5,0),some (.bx [D.int n,D.int r,.ow 1 m.d.length (ints M)]))]⟩:=by
         apply hK;clear hK K;show AWp _ _ _ _ _;refine ap _ rfl (fun hc5=>?_) (fun hc5=>?_)
         ·have h5:=d_t hc5;rw[if_pos h5] at hst;refine ab fun K hK=>?_;simp[C.bu,ao,hml,hqL,hMq,hwab,aj (x:=X - A*B) (by omega) (by omega),hst];apply hK;clear hK K;show AWp _ _ _ _ _;refine ab fun K hK=>?_;simp[C.bu,ay (show x2 < 4611686018427387904 by omega)];apply hK;clear hK K;simp[C.bu];refine cast (congrArg R2 ?_) (hR2 (x2+1) hj (by omega));simp[<-Nat.add_assoc,<-hq]
         ·have h5:=d_f hc5;rw[if_neg h5] at hst;have hMM:M=(muD m k).take (q+1) ++ m.d.drop (q+1):=by
           rw[<-hst];refine (List.ext_getElem? fun z=>?_);rw[List.getElem?_set];split
           ·rename_i e;subst e;rw[if_pos (by omega),List.getElem?_eq_getElem (by omega),hMq]
           ·rfl
          apply au;show AWp _ _ _ _ _;refine ab fun K hK=>?_;simp[C.bu,ay (show x2 < 4611686018427387904 by omega)];apply hK;clear hK K;simp[C.bu];refine cast (congrArg R2 ?_) (hR2 (x2+1) hj (by omega));simp[<-Nat.add_assoc,<-hq,<-hMM]
        clear hK
        by_cases h1:A < 0
        ·simp[C.bu,h1];refine cast (congrArg K ?_) hJ;simp[h1]
        ·simp[C.bu,h1];refine cast (congrArg K ?_) hJ;simp[h1]
      clear hK
      by_cases h1:0 < A
      ·simp[C.bu,h1];refine cast (congrArg K ?_) hJ;simp[h1]
      ·simp[C.bu,h1];refine cast (congrArg K ?_) hJ;simp[h1]
    clear hK
    by_cases h1:x1=k
    ·simp[C.bu,kN,h1];refine cast (congrArg K ?_) hJ;simp[kN,h1]
    ·simp[C.bu,kN,h1];refine cast (congrArg K ?_) hJ;simp[kN,h1]
   ·have hj:x2=n:=by have:=d_f hc2;omega
    apply aZ;show AWp _ _ _ _ _;refine ab fun K hK=>?_;simp[C.bu,ay (show x1 < 4611686018427387904 by omega)];apply hK;clear hK K;simp[C.bu];refine cast (congrArg R1 ?_) (hR1 (x1+1) hi (by omega));simp[Nat.add_mul,hj]
  ·have hi:x1=r:=by have:=d_f hc1;omega
   have htk:List.take (x1*n) (muD m k) ++ List.drop (x1*n) m.d=muD m k:=by
    rw[hi,<-hL,List.take_of_length_le (by simp),List.drop_length,List.append_nil]
   apply aZ;show AWp _ _ _ _ _;apply aa;refine ab fun K hK=>?_;simp[C.bu];apply hK;clear hK K;show AWp _ _ _ _ _;apply aI;simp[C.bu,mO,muM,htk,hn,hr]
 clear hK;simp[C.bu]
 repeat' first
  | (refine ae (rR m.d (by omega)) ?_ (by simp) ?_;(focus (simp;done));simp[C.bu])
  | (refine cast (congrArg K ?_) hJ;simp;done)
  | refine And.intro ?_ ?_
theorem qh (m:Mat) (k:Int) (hx:m.d.length < 17592186044416):af Tryz.prog F.bo [aM m,.int k] [] true (fun outs res=>outs=[]/\eb res [.ag (mO (muF m k).1),.one (D.bool (muF m k).2)]):=by
 refine af.ob (C:=C.bo) (n:=Tryz.f99.ntmps) bC bD Tryz.func99 rfl rfl ?_;simp only[Tryz.f99];apply aa;refine ab fun K hK=>?_;simp[C.bo,mO];apply hK;clear hK K;show AWp _ _ _ _ _;apply aa;apply aa;refine aK ([0,1] ++ ([2,3,4,5,6,7,8] ++ ([9,10]))) rfl fun K hK=>?_;have hJ:K ⟨ofL [(1,.int k),(2,.pt (2,0) [] 0),(4,.pt (4,0) [] 0),(17,.bool (!decide (cO m/\(0<=k/\k < m.n))))],aF [((2,0),some (.bx [D.int m.n,D.int m.r,shI m.d])),((4,0),some (.bx [D.int 0,D.int 0,.v (.slice none 0 0)]))]⟩:=by
  apply hK;clear hK K;show AWp _ _ _ _ _;refine ap _ rfl (fun hc1=>?_) (fun hc1=>?_)
  ·have hr:=gk hc1;have hm:muF m k=(⟨0,0,[]⟩,false):=if_neg (fun h=>hr ⟨h.1,h.2.1⟩);apply aa;refine ab fun K hK=>?_;simp[C.bo,mO];apply hK;clear hK K;show AWp _ _ _ _ _;apply aI;simp[C.bo,mO,hm,ints]
  ·have hr:=gw hc1;obtain⟨hok,hk⟩:=hr;have hS:=hok.1;obtain⟨n,hn⟩:∃ n:Nat,m.n=n:=⟨m.n.toNat,by have:=hS.1;omega⟩;obtain⟨r,hr⟩:∃ r:Nat,m.r=r:=⟨m.r.toNat,by have:=hS.1;have:=hS.2.1;omega⟩;obtain⟨k,rfl⟩:∃ j:Nat,k=j:=⟨k.toNat,by omega⟩;have hcall:=wa m n r k hn hr hS (by omega);have hm:muF m k=if cO (muM m k) then (muM m k,true) else (⟨0,0,[]⟩,false):=by
    unfold muF;rw[Int.toNat_natCast]
    by_cases q:cO (muM m k)
    ·rw[if_pos ⟨hok,hk,q⟩,if_pos q]
    ·rw[if_neg (fun h=>q h.2.2),if_neg q]
   have hml:(muM m k).d.length < 17592186044416:=by
    show (muD m k).length < _;simpa using hx
   apply au;show AWp _ _ _ _ _;apply aa;refine aK ([0,1,2] ++ ([3,4])) rfl fun K hK=>?_;refine oSg fun L hL=>?_;simp[C.bo,mO,hn,hr];refine ae (hcall) (by simp) (by simp) ?_;simp[C.bo,mO,hn,hr];apply hL;clear hL L;refine oEn fun L hL=>?_;simp[C.bo,mO,hn,hr];apply hL;clear hL L;simp[C.bo,mO,hn,hr];apply hK;clear hK K;show AWp _ _ _ _ _;apply aa;apply aa;refine aK ([0,1] ++ ([2])) rfl fun K hK=>?_;refine oSg fun L hL=>?_;simp[C.bo,mO];refine ae (d6 (muM m k) hml) (by simp) (by simp) ?_;simp[C.bo,mO];apply hL;clear hL L;refine oEn fun L hL=>?_;simp[C.bo,mO];apply hL;clear hL L;simp[C.bo,mO];apply hK;clear hK K;show AWp _ _ _ _ _;refine ap _ rfl (fun hc2=>?_) (fun hc2=>?_)
   ·have hno:=gk hc2;apply aa;refine ab fun K hK=>?_;simp[C.bo,mO];apply hK;clear hK K;show AWp _ _ _ _ _;apply aI;simp[C.bo,mO,hm,hno,ints]
   ·have hyes:=gw hc2;apply au;show AWp _ _ _ _ _;apply aa;refine ab fun K hK=>?_;simp[C.bo,mO];apply hK;clear hK K;show AWp _ _ _ _ _;apply aI;simp[C.bo,mO,hm,hyes]
 clear hK
 by_cases h1:cO m
 ·have hwn:IntKind.i64.wrap (m.n - 1)=m.n - 1:=by have:=h1.1.1;exact aj (by omega) (by omega)
  have hle:∀ x:Int,(x<=m.n - 1)=(x < m.n):=fun x=>by rw[eq_iff_iff];omega
  refine oSg fun L hL=>?_;simp[C.bo,mO,hwn,hle,h1];refine ae (d6 m hx) (by simp) (by simp) ?_;simp[C.bo,mO,hwn,hle,h1];apply hL;clear hL L;refine oSg fun L hL=>?_;simp[C.bo,mO,hwn,hle,h1];refine ae (cg k 0 (m.n - 1)) (by simp) (by simp) ?_;simp[C.bo,mO,hwn,hle,h1];apply hL;clear hL L;refine oEn fun L hL=>?_;simp[C.bo,mO,hwn,hle,h1];apply hL;clear hL L;simp[C.bo,mO,hwn,hle,h1];refine cast (congrArg K ?_) hJ;simp[Bool.not_and,mO,h1]
 ·refine oSg fun L hL=>?_;simp[C.bo,mO,h1];refine ae (d6 m hx) (by simp) (by simp) ?_;simp[C.bo,mO,h1];apply hL;clear hL L;refine oSg fun L hL=>?_;simp[C.bo,mO,h1];apply hL;clear hL L;refine oEn fun L hL=>?_;simp[C.bo,mO,h1];apply hL;clear hL L;simp[C.bo,mO,h1];refine cast (congrArg K ?_) hJ;simp[Bool.not_and,mO,h1]
theorem IY (m:Mat) (k:Int) (hx:m.d.length < 17592186044416):af Tryz.prog F.bo [aM m,.int k] [] true (fun outs res=>outs=[]/\res=[.ag (mO (muF m k).1),.one (D.bool (muF m k).2)]):=(qh m k hx).weak1
set_option maxRecDepth 10000
set_option maxHeartbeats 2000000
set_option maxRecDepth 10000
set_option maxHeartbeats 2000000
set_option maxRecDepth 10000
set_option maxHeartbeats 2000000
def Fc (r:Int) (f:Lau):Prop:=gS f/\f.ts≠[]/\f.v=r
def F6 (s:Sed):Prop:=cO s.m/\(s.f.length:Int)=s.m.r/\∀ f∈s.f,Fc s.m.r f
noncomputable instance (r:Int) (f:Lau):Decidable (Fc r f):=Classical.propDecidable _
noncomputable instance (s:Sed):Decidable (F6 s):=Classical.propDecidable _
set_option maxRecDepth 10000
set_option maxHeartbeats 2000000
noncomputable def itM (f:Lau):Nat->Lau->Option Lau
 | 0,p=>some p
 | n+1,p=>if (vT p f).2=true then itM f n (vT p f).1 else none
noncomputable def BU (sg:Int):List Lau->List Int->Lau->Option Lau
 | f :: fs,c :: cs,p=>(itM f (sg*c).toNat p).bind (BU sg fs cs)
 | [],_,p=>some p
 | _ :: _,[],p=>some p
def kb (m:Mat) (r k:Nat):List Int:=(List.range r).map fun i=>bM m i k
@[simp] theorem GY (m:Mat) (r k:Nat):(kb m r k).length=r:=by simp[kb]
theorem tq (m:Mat) (r k i:Nat) (h:i < r):(kb m r k)[i]'(by simpa using h)=bM m i k:=by simp[kb]
noncomputable def exF (fs:List Lau) (cs:List Int) (r:Nat) (old:Lau):Lau×Bool:=
 if ∀ c∈cs,-8<=c/\c<=8 then (match BU 1 fs cs (jL r),BU (-1) fs cs (jL r) with
  | some a,some b=>if (GJ a 1 b).2=true then Lp (GJ a 1 b).1 old else (jS,false)
  | _,_=>(jS,false)) else (jS,false)
set_option maxRecDepth 10000
set_option maxHeartbeats 2000000
theorem C1 {m:Mat} (h:ShM m):1<=m.n.toNat/\m.n.toNat<=5/\m.n.toNat<=m.r.toNat/\m.r.toNat<=8/\m.d.length=m.r.toNat*m.n.toNat/\(m.n.toNat:Int)=m.n/\(m.r.toNat:Int)=m.r:=by
 have h1:=h.1;have h2:=h.2.1;have h3:=h.2.2.1;have e1:(m.n.toNat:Int)=m.n:=by omega
 have e2:(m.r.toNat:Int)=m.r:=by omega
 refine⟨by omega,by omega,by omega,by omega,?_,e1,e2⟩;rw[<-e1,<-e2,<-Int.natCast_mul,Nat.mul_comm] at h3;omega
theorem CO {m m':Mat} {k:Int} (h:muF m k=(m',true)):cO m/\(0<=k/\k < m.n)/\cO m'/\m'=muM m k.toNat:=by
 unfold muF at h;split at h
 ·rename_i q;injection h with h1 h2
  exact⟨q.1,q.2.1,h1 ▸ q.2.2,h1.symm⟩
 ·simp at h
def zM:Mat:=⟨0,0,[]⟩
def idP (n i:Nat):List Int:=(List.range i).flatMap fun j=>ci n j
theorem oX (n i:Nat):idP n (i+1)=idP n i ++ ci n i:=by simp[idP,List.range_succ]
@[simp] theorem jA (n:Nat):∀ i,(idP n i).length=i*n
 | 0=>by simp[idP]
 | i+1=>by rw[oX,List.length_append,jA n i,bq,Nat.add_mul,Nat.one_mul]
theorem kn {n i:Nat} {x:Int} (h:x∈ci n i):x=0\/x=1:=by
 rcases List.mem_or_eq_of_mem_set h with h | h
 ·exact .inl (List.eq_of_mem_replicate h)
 ·exact .inr h
theorem A3 {n:Nat}:∀ {i:Nat} {x:Int},x∈idP n i->x=0\/x=1
 | 0,x,h=>by simp[idP] at h
 | i+1,x,h=>by
  rw[oX] at h;rcases List.mem_append.1 h with h | h
  ·exact A3 h
  ·exact kn h
theorem BL {n i j:Nat} (hj:j < n):(ci n i).take (j+1)=(ci n i).take j ++ [if i=j then 1 else 0]:=by
 rw[List.take_succ_eq_append_getElem (by rw[bq];exact hj)];simp[ci,List.getElem_set]
def gg (m:Mat):Mat:=⟨m.n,2*m.n,m.d ++ idP m.n.toNat m.n.toNat⟩
def dO (m:Mat):Prop:=cO m/\m.r=m.n/\2*m.n<=8
noncomputable instance (m:Mat):Decidable (dO m):=Classical.propDecidable _
theorem dO.dim {m:Mat} (h:dO m):∃ n:Nat,m.n=n/\m.r=n/\(1<=n/\n<=4)/\m.d.length=n*n:=by
 obtain⟨h1,h2,h3⟩:=h;have hd:=C1 h1.1;refine⟨m.n.toNat,by omega,by omega,by omega,?_⟩;rw[hd.2.2.2.2.1,show m.r.toNat=m.n.toNat by omega]
theorem BH {m:Mat} (h:dO m) {i j:Nat} (hi:(i:Int) < m.n) (hj:(j:Int) < m.n):bM (gg m) i j=bM m i j:=by
 obtain⟨n,h1,h2,h3,h4⟩:=h.dim;obtain⟨hq,_⟩:=oB h.1.1 (i:=i) (j:=j) (by omega) hj;unfold bM g0;show (m.d ++ idP m.n.toNat m.n.toNat).getD (i*m.n.toNat+j) 0=_;rw[List.getD_eq_getElem?_getD,List.getD_eq_getElem?_getD,List.getElem?_append_left hq]
theorem A7 {m:Mat} (h:dO m):cO (gg m):=by
 obtain⟨n,h1,h2,h3,h4⟩:=h.dim;have e:m.n.toNat=n:=by omega
 have hS:=h.1.1;refine⟨⟨by simp only[gg];omega,by simp only[gg];omega,?_,fun x hx=>?_⟩,?_⟩
 ·simp only[gg,List.length_append,jA,e,h4,h1];rw[Int.natCast_add,Int.natCast_mul]
  grind
 ·simp only[gg] at hx;rcases List.mem_append.1 hx with hx | hx
  ·exact hS.2.2.2 x hx
  ·rcases A3 hx with rfl | rfl <;> omega
 ·obtain⟨d,hd⟩:=h.1.2;refine⟨d,?_⟩;show Sol m.n.toNat _ d;exact hd.congr fun i j hi hj=>BH h (by omega) (by omega)
noncomputable def wkL (m:Mat) (ks:List Int):Nat->Option (List Mat)
 | 0=>some [gg m]
 | i+1=>match wkL m ks i with
  | some l=>if (muF (l.getD i zM) (ks.getD i 0)).2=true then some (l ++ [(muF (l.getD i zM) (ks.getD i 0)).1]) else none
  | none=>none
noncomputable def wkF (m:Mat) (ks:List Int):Option (List Mat):=if dO m/\ks.length<=40 then wkL m ks ks.length else none
theorem yU {m:Mat} {ks:List Int} {n i:Nat} (h:wkL m ks n=none) (hi:n<=i):wkL m ks i=none:=by
 induction i with
 | zero=>
  obtain rfl:n=0:=by omega
  exact h
 | succ i ih=>
  by_cases q:n=i+1
  ·exact q ▸ h
  ·simp only[wkL,ih (by omega)]
def WkM (m p:Mat):Prop:=cO p/\p.n=m.n/\p.r=2*m.n
theorem qq {m:Mat} (h:dO m) {ks:List Int}:∀ {i:Nat} {l:List Mat},wkL m ks i=some l->l.length=i+1/\(∀ p∈l,WkM m p)/\∀ t,t < i->0<=ks.getD t 0/\ks.getD t 0 < m.n
 | 0,l,e=>by
  simp only[wkL,Option.some.injEq] at e;subst e;refine⟨rfl,fun p hp=>?_,fun t ht=>absurd ht (by omega)⟩;rw[List.mem_singleton] at hp;subst hp;exact⟨A7 h,rfl,rfl⟩
 | i+1,l,e=>by
  simp only[wkL] at e;split at e
  ·rename_i l' hl;obtain⟨h1,h2,h3⟩:=qq h hl;split at e
   ·rename_i q;injection e with e
    subst e;obtain⟨M,hM⟩:∃ M,muF (l'.getD i zM) (ks.getD i 0)=(M,true):=⟨_,by rw[<-q]⟩;rw[hM];obtain⟨o1,o2,o3,o4⟩:=CO hM;have hl':l'.getD i zM=l'[i]'(by omega):=by simp[List.getD_eq_getElem?_getD,show i < l'.length by omega]
    have hw:=h2 _ (List.getElem_mem (show i < l'.length by omega));rw[<-hl'] at hw;refine⟨by simp[h1],fun p hp=>?_,fun t ht=>?_⟩
    ·rcases List.mem_append.1 hp with hp | hp
     ·exact h2 p hp
     ·rw[List.mem_singleton] at hp;subst hp;exact⟨o3,by rw[o4];exact hw.2.1,by rw[o4];exact hw.2.2⟩
    ·by_cases g:t < i
     ·exact h3 t g
     ·obtain rfl:t=i:=by omega
      have:=hw.2.1;omega
   ·simp at e
  ·simp at e
theorem mZ {m:Mat} {ks:List Int} {l:List Mat} (h:wkF m ks=some l):dO m/\ks.length<=40/\l.length=ks.length+1/\(∀ p∈l,WkM m p)/\∀ t,t < ks.length->0<=ks.getD t 0/\ks.getD t 0 < m.n:=by
 unfold wkF at h;split at h
 ·rename_i q;obtain⟨h1,h2,h3⟩:=qq q.1 h;exact⟨q.1,q.2,h1,h2,h3⟩
 ·simp at h
noncomputable def fpL (m:Mat) (ws:List Mat) (ks:List Int):Nat->Option (List Lau)
 | 0=>some (List.replicate m.n.toNat (jL m.n.toNat) ++ E4 m.n.toNat)
 | t+1=>match fpL m ws ks t with
  | some fs=>if (exF fs (kb (ws.getD t zM) (2*m.n.toNat) (ks.getD t 0).toNat) m.n.toNat (fs.getD (ks.getD t 0).toNat jS)).2=true then
    some (fs.set (ks.getD t 0).toNat (exF fs (kb (ws.getD t zM) (2*m.n.toNat) (ks.getD t 0).toNat) m.n.toNat (fs.getD (ks.getD t 0).toNat jS)).1) else none
  | none=>none
theorem ot (c:Int) (f:Nat->Int):∀ n,sm (fun i=>c*f i) n=c*sm f n
 | 0=>by simp[sm]
 | n+1=>by
  simp only[sm,ot c f n];rw[Int.mul_add]
theorem BE (c:Int) (f:Nat->Int):∀ n,sm (fun i=>f i*c) n=sm f n*c
 | 0=>by simp[sm]
 | n+1=>by
  simp only[sm,BE c f n];rw[Int.add_mul]
theorem mP (f:Nat->Int) (k:Nat):∀ n,sm (fun i=>if i=k then f i else 0) n=if k < n then f k else 0
 | 0=>by simp[sm]
 | n+1=>by
  simp only[sm,mP f k n]
  by_cases h:n=k
  ·subst h;simp
  ·rw[if_neg h]
   by_cases q:k < n
   ·rw[if_pos q,if_pos (by omega)];omega
   ·rw[if_neg q,if_neg (by omega)];omega
def sk2 (N:Nat) (L:Nat->Nat->Int) (a b:Nat->Int):Int:=sm (fun i=>sm (fun j=>a i*L i j*b j) N) N
theorem wx (fm:List (List Int)) (a b:List Int):skw fm a b=sk2 fm.length (at2 fm) (fun i=>a.getD i 0) (fun j=>b.getD j 0):=rfl
theorem kw {N:Nat} {L:Nat->Nat->Int} {a b c d:Nat->Int} (h:∀ i,i < N->a i=c i) (g:∀ i,i < N->b i=d i):sk2 N L a b=sk2 N L c d:=by
 unfold sk2;refine bT _ fun i hi=>bT _ fun j hj=>?_;rw[h i hi,g j hj]
theorem EV (N:Nat) (L:Nat->Nat->Int) (a b:Nat->Int):sk2 N L a b=sm (fun j=>sm (fun i=>a i*L i j) N*b j) N:=by
 unfold sk2;rw[se];refine bT _ fun j _=>?_;rw[BE]
theorem DC (N:Nat) (L:Nat->Nat->Int) (a b:Nat->Int):sk2 N L a b=sm (fun i=>a i*sm (fun j=>L i j*b j) N) N:=by
 unfold sk2;refine bT _ fun i _=>?_;rw[<-ot];refine bT _ fun j _=>?_;rw[Int.mul_assoc]
def dl (k:Nat) (i:Nat):Int:=if i=k then 1 else 0
theorem uk (k:Nat) (f:Nat->Int) {n:Nat} (h:k < n):sm (fun i=>dl k i*f i) n=f k:=by
 have e:sm (fun i=>dl k i*f i) n=sm (fun i=>if i=k then f i else 0) n:=bT _ fun i _=>by
  unfold dl;split <;> simp
 rw[e,mP,if_pos h]
theorem GD (k:Nat) (f:Nat->Int) {n:Nat} (h:k < n):sm (fun i=>f i*dl k i) n=f k:=by
 rw[<-uk k f h];exact bT _ fun i _=>Int.mul_comm _ _
theorem wE {N:Nat} (L:Nat->Nat->Int) {k:Nat} (b:Nat->Int) (h:k < N):sk2 N L (dl k) b=sm (fun j=>L k j*b j) N:=by
 rw[DC,uk k _ h]
theorem DM {N:Nat} (L:Nat->Nat->Int) {i j:Nat} (hi:i < N) (hj:j < N):sk2 N L (dl i) (dl j)=L i j:=by
 rw[wE L _ hi,GD j _ hj]
theorem yn (N:Nat) (L:Nat->Nat->Int) (a c b:Nat->Int):sk2 N L (fun i=>a i+c i) b=sk2 N L a b+sk2 N L c b:=by
 unfold sk2;rw[<-jk];refine bT _ fun i _=>?_;rw[<-jk];refine bT _ fun j _=>?_;rw[Int.add_mul,Int.add_mul]
theorem tj (N:Nat) (L:Nat->Nat->Int) (x:Int) (a b:Nat->Int):sk2 N L (fun i=>x*a i) b=x*sk2 N L a b:=by
 unfold sk2;rw[<-ot];refine bT _ fun i _=>?_;rw[<-ot];refine bT _ fun j _=>?_;rw[Int.mul_assoc,Int.mul_assoc,Int.mul_assoc]
def SkT (N:Nat) (L:Nat->Nat->Int):Prop:=∀ i,i < N->∀ j,j < N->L i j=-L j i
theorem yH {N:Nat} {L:Nat->Nat->Int} (hL:SkT N L) (a b:Nat->Int):sk2 N L a b=-sk2 N L b a:=by
 have e:sk2 N L a b=sm (fun i=>sm (fun j=>-(b j*L j i*a i)) N) N:=by
  unfold sk2;refine bT _ fun i hi=>bT _ fun j hj=>?_;rw[hL i hi j hj]
  grind
 rw[e,se];unfold sk2;rw[<-nc];refine bT _ fun j _=>?_;rw[<-nc]
theorem D6 {N:Nat} {L:Nat->Nat->Int} (hL:SkT N L) (a:Nat->Int):sk2 N L a a=0:=by
 have:=yH hL a a;omega
def Cmp (N n:Nat) (B:Nat->Nat->Int) (d:Nat->Int) (L:Nat->Nat->Int):Prop:=∀ j,j < n->∀ i,i < N->sm (fun r=>B r j*L r i) N=if i=j then d j else 0
theorem Cmp.col {N n:Nat} {B:Nat->Nat->Int} {d:Nat->Int} {L:Nat->Nat->Int} (h:Cmp N n B d L) {j:Nat} (hj:j < n) (hn:n<=N) (v:Nat->Int):sk2 N L (fun r=>B r j) v=d j*v j:=by
 rw[EV];have e:sm (fun i=>sm (fun r=>B r j*L r i) N*v i) N=sm (fun i=>if i=j then d j*v i else 0) N:=bT _ fun i hi=>by
  rw[h j hj i hi];split <;> simp
 rw[e,mP,if_pos (by omega)]
def eC (B:Nat->Nat->Int) (k r:Nat):Int:=(if r=k then -1 else 0)+max 0 (B r k)
def eV (B:Nat->Nat->Int) (k i:Nat):Nat->Int:=if i=k then eC B k else dl i
def mtT (N:Nat) (L B:Nat->Nat->Int) (k i j:Nat):Int:=sk2 N L (eV B k i) (eV B k j)
theorem EO {N:Nat} {L B:Nat->Nat->Int} {k:Nat} (hL:SkT N L):SkT N (mtT N L B k):=fun i _ j _=>yH hL _ _
theorem Hu {N:Nat} (B:Nat->Nat->Int) {k:Nat} (hk:k < N) (x:Nat->Int) {s:Nat} (hs:s < N):sm (fun r=>x r*eV B k r s) N=(if s=k then 0 else x s)+x k*eC B k s:=by
 have e:sm (fun r=>x r*eV B k r s) N=sm (fun r=>(if r=k then x r*eC B k s else 0)+(if r=s then (if s=k then 0 else x r) else 0)) N:=bT _ fun r _=>by
  unfold eV dl
  by_cases h:r=k
  ·subst h
   by_cases q:r=s
   ·subst q;simp
   ·simp[q]
  ·by_cases q:r=s
   ·subst q;simp[h]
   ·simp[h,q,show ¬ s=r from fun e=>q e.symm]
 rw[e,jk,mP,mP,if_pos hk,if_pos hs]
 by_cases q:s=k
 ·simp[q]
 ·simp[q];omega
theorem AN {N:Nat} (L:Nat->Nat->Int) (x:Nat->Int) (E:Nat->Nat->Int) (b:Nat->Int):∀ n,sm (fun r=>x r*sk2 N L (E r) b) n=sk2 N L (fun s=>sm (fun r=>x r*E r s) n) b
 | 0=>by
  simp only[sm];unfold sk2;have e:sm (fun i=>sm (fun j=>0*L i j*b j) N) N=sm (fun _=>0) N:=bT _ fun i _=>by
   have:sm (fun j=>0*L i j*b j) N=sm (fun _=>0) N:=bT _ fun j _=>by simp
   rw[this,jv]
  rw[e,jv]
 | n+1=>by
  simp only[sm];rw[AN L x E b n,yn,tj]
theorem ww {B:Nat->Nat->Int} {k:Nat} (h:B k k=0):eC B k k=-1:=by unfold eC;rw[h];simp
theorem Gt {N:Nat} {B:Nat->Nat->Int} {k j s:Nat} (hkk:B k k=0) (hj:j≠k):(if s=k then 0 else muE B k s j)+muE B k k j*eC B k s=B s j+max 0 (-(B k j))*B s k:=by
 have hkj:muE B k k j=-B k j:=by unfold muE;rw[if_pos (.inl rfl)]
 rw[hkj]
 by_cases hs:s=k
 ·subst hs;rw[if_pos rfl,ww hkk,hkk];omega
 ·rw[if_neg hs];unfold eC;rw[if_neg hs];unfold muE;rw[if_neg (by omega)]
  by_cases h1:0 < B s k <;> by_cases h2:0 < B k j
  ·rw[if_pos ⟨h1,h2⟩,Int.max_eq_right (by omega:(0:Int)<=B s k),Int.max_eq_left (by omega:-(B k j)<=0)];grind
  ·rw[if_neg (by omega),if_neg (by omega),Int.max_eq_right (by omega:(0:Int)<=B s k),Int.max_eq_right (by omega:0<=-(B k j))];grind
  ·rw[if_neg (by omega),if_neg (by omega),Int.max_eq_left (by omega:B s k<=0),Int.max_eq_left (by omega:-(B k j)<=0)];grind
  ·rw[if_neg (by omega),Int.max_eq_left (by omega:B s k<=0),Int.max_eq_right (by omega:0<=-(B k j))]
   by_cases h3:B s k < 0/\B k j < 0
   ·rw[if_pos h3];grind
   ·rw[if_neg h3];have:B s k=0\/B k j=0:=by omega
    rcases this with e | e <;> rw[e] <;> grind
theorem Cmp.mut {N n:Nat} {B:Nat->Nat->Int} {d:Nat->Int} {L:Nat->Nat->Int} (h:Cmp N n B d L) (hL:SkT N L) (hn:n<=N) (hS:Sol n B d) {k:Nat} (hk:k < n):Cmp N n (muE B k) d (mtT N L B k):=by
 have hkk:B k k=0:=by
  have h1:=hS.rel k k hk hk;have h2:=hS.pos k hk;have:d k*B k k=0:=by omega
  rcases Int.mul_eq_zero.1 this with e | e
  ·omega
  ·exact e
 intro j hj i hi;have e0:sm (fun r=>muE B k r j*mtT N L B k r i) N=sk2 N L (fun s=>(if s=k then 0 else muE B k s j)+muE B k k j*eC B k s) (eV B k i):=by
  unfold mtT;rw[AN];refine kw (fun s hs=>?_) (fun _ _=>rfl);exact Hu B (by omega) _ hs
 rw[e0]
 by_cases hjk:j=k
 ·subst hjk;have e1:∀ s,(if s=j then 0 else muE B j s j)+muE B j j j*eC B j s=(-1)*B s j:=fun s=>by
   have hz:muE B j j j=0:=by unfold muE;rw[if_pos (.inl rfl)];omega
   rw[hz]
   by_cases q:s=j
   ·subst q;rw[if_pos rfl,hkk];simp
   ·rw[if_neg q];unfold muE;rw[if_pos (.inr rfl)];omega
  rw[kw (fun s _=>e1 s) (fun _ _=>rfl),tj,h.col hj hn];unfold eV
  by_cases q:i=j
  ·rw[if_pos q,if_pos q,ww hkk];omega
  ·rw[if_neg q,if_neg q];unfold dl;rw[if_neg (fun e=>q e.symm)];simp
 ·rw[kw (fun s _=>Gt (N:=N) hkk hjk) (fun _ _=>rfl),yn,tj,h.col hj hn,h.col hk hn];unfold eV
  by_cases q:i=k
  ·subst q;rw[if_pos rfl,ww hkk,if_neg (fun e=>hjk e.symm)];unfold eC;rw[if_neg hjk];have hr:=hS.rel j i hj hk;have p1:=hS.pos j hj;have p2:=hS.pos i hk;rcases Int.lt_trichotomy (B i j) 0 with g | g | g
   ·have g2:0 < B j i:=((jl hS hj hk).1).2 (by omega);rw[Int.max_eq_right (by omega:(0:Int)<=B j i),Int.max_eq_right (by omega:(0:Int)<=-B i j)]
    grind
   ·have g2:B j i=0:=((jl hS hj hk).2.1).2 g;rw[g,g2];simp
   ·have g2:B j i < 0:=((jl hS hj hk).2.2).2 (by omega);rw[Int.max_eq_left (by omega:B j i<=0),Int.max_eq_left (by omega:-B i j<=0)];simp
  ·rw[if_neg q];unfold dl;rw[if_neg (fun e:k=i=>q e.symm)]
   by_cases g:i=j
   ·subst g;simp
   ·rw[if_neg g,if_neg (fun e:j=i=>g e.symm)];simp
def tbR (N:Nat) (g:Nat->Int):List Int:=(List.range N).map g
def tbL (N:Nat) (f:Nat->Nat->Int):List (List Int):=(List.range N).map fun i=>tbR N (f i)
@[simp] theorem I5 (N:Nat) (g:Nat->Int):(tbR N g).length=N:=by simp[tbR]
@[simp] theorem Jn (N:Nat) (f:Nat->Nat->Int):(tbL N f).length=N:=by simp[tbL]
theorem mK {N:Nat} (g:Nat->Int) {i:Nat} (h:i < N):(tbR N g)[i]'(by simpa using h)=g i:=by simp[tbR]
theorem lC {N:Nat} (f:Nat->Nat->Int) {i:Nat} (h:i < N):(tbL N f)[i]'(by simpa using h)=tbR N (f i):=by simp[tbL]
theorem Fb {N:Nat} (g:Nat->Int) {i:Nat} (h:i < N):(tbR N g).getD i 0=g i:=by
 rw[gO (by simpa using h),mK g h]
theorem HI {N:Nat} (f:Nat->Nat->Int) {i:Nat} (h:i < N):(tbL N f).getD i []=tbR N (f i):=by
 rw[i6 (by simpa using h),lC f h]
theorem AW {N:Nat} (f:Nat->Nat->Int) {i j:Nat} (hi:i < N) (hj:j < N):at2 (tbL N f) i j=f i j:=by
 unfold at2;rw[HI f hi,Fb _ hj]
theorem ga {N:Nat} {f g:Nat->Int} (h:∀ i,i < N->f i=g i):tbR N f=tbR N g:=by
 unfold tbR;exact List.map_congr_left fun i hi=>h i (List.mem_range.1 hi)
theorem l6 {N:Nat} {f g:Nat->Nat->Int} (h:∀ i,i < N->∀ j,j < N->f i j=g i j):tbL N f=tbL N g:=by
 unfold tbL;exact List.map_congr_left fun i hi=>ga (h i (List.mem_range.1 hi))
theorem sv {N:Nat} (g:Nat->Int) (q:Nat) (x:Int):(tbR N g).set q x=tbR N fun j=>if j=q then x else g j:=by
 refine List.ext_getElem (by simp) fun i h1 h2=>?_;have h3:i < N:=by simpa using h2
 rw[List.getElem_set,mK g h3,mK (fun j=>if j=q then x else g j) h3]
 by_cases h:q=i
 ·rw[if_pos h,if_pos h.symm]
 ·rw[if_neg h,if_neg (fun e:i=q=>h e.symm)]
theorem wu {N:Nat} (f:Nat->Nat->Int) {p:Nat} (hp:p < N) (q:Nat) (x:Int):(tbL N f).set p ((tbR N (f p)).set q x)=tbL N fun i j=>if i=p/\j=q then x else f i j:=by
 refine List.ext_getElem (by simp) fun i h1 h2=>?_;have h3:i < N:=by simpa using h2
 rw[List.getElem_set,lC f h3,lC (fun i j=>if i=p/\j=q then x else f i j) h3]
 by_cases h:p=i
 ·subst h;rw[if_pos rfl,sv];exact ga fun j _=>by simp
 ·rw[if_neg h];exact ga fun j _=>by rw[if_neg (fun e=>h e.1.symm)]
theorem tM (N:Nat):tbR N (fun _=>0)=List.replicate N 0:=by
 refine List.ext_getElem (by simp) fun i h1 h2=>?_;rw[mK (fun _=>0) (by simpa using h1)];simp
theorem EX (N:Nat):tbL N (fun _ _=>0)=List.replicate N (List.replicate N 0):=by
 refine List.ext_getElem (by simp) fun i h1 h2=>?_;rw[lC _ (by simpa using h1),tM];simp
noncomputable def dsM (m:Mat):List Int:=by
 classical
 exact if h:∃ l,ct m.n.toNat (bM m) l then Classical.choose h else []
theorem vk {m:Mat} {l:List Int} (h:ct m.n.toNat (bM m) l):dsM m=l:=by
 unfold dsM;rw[dif_pos ⟨l,h⟩];exact ct.uniq (Classical.choose_spec (⟨l,h⟩:∃ l,ct m.n.toNat (bM m) l)) h
def foT (n:Nat) (d:Nat->Int) (b:Nat->Nat->Int) (i j:Nat):Int:=
 if i < n then (if j=n+i then -d i else 0) else if j < n then (if i=n+j then d j else 0) else -d (i - n)*b (i - n) (j - n)
noncomputable def foL (m:Mat):List (List Int):=tbL (2*m.n.toNat) (foT m.n.toNat (g0 (dsM m)) (bM m))
noncomputable instance (fm:List (List Int)):Decidable (bp fm):=Classical.propDecidable _
noncomputable def foF (m:Mat):List (List Int)×Bool:=if dO m/\bp (foL m) then (foL m,true) else ([],false)
theorem FQ {n:Nat} {d:Nat->Int} {b p:Nat->Nat->Int} (hS:Sol n b d) (h1:∀ i j,i < n->j < n->p i j=b i j) (h2:∀ i j,i < n->j < n->p (n+i) j=if i=j then 1 else 0):Cmp (2*n) n p d (foT n d b):=by
 have spl:∀ (f:Nat->Int) (k:Nat),sm f (n+k)=sm f n+sm (fun r=>f (n+r)) k:=fun f k=>by
  induction k with
  | zero=>simp[sm]
  | succ k ih=>rw[<-Nat.add_assoc];simp only[sm,ih];omega
 intro j hj i hi;rw[Nat.two_mul,spl];have e2:sm (fun r=>p (n+r) j*foT n d b (n+r) i) n=foT n d b (n+j) i:=by
  have:sm (fun r=>p (n+r) j*foT n d b (n+r) i) n=sm (fun r=>dl j r*foT n d b (n+r) i) n:=bT _ fun r hr=>by
   rw[h2 r j hr hj];rfl
  rw[this];exact uk j (fun r=>foT n d b (n+r) i) hj
 rw[e2]
 by_cases hin:i < n
 ·have e1:sm (fun r=>p r j*foT n d b r i) n=0:=by
   have:sm (fun r=>p r j*foT n d b r i) n=sm (fun _=>0) n:=bT _ fun r hr=>by
    unfold foT;rw[if_pos hr,if_neg (by omega)];simp
   rw[this,jv]
  rw[e1];unfold foT;rw[if_neg (by omega),if_pos hin]
  by_cases q:i=j
  ·subst q;simp
  ·rw[if_neg (by omega),if_neg q];rfl
 ·obtain⟨t,rfl⟩:∃ t,i=n+t:=⟨i - n,by omega⟩;have ht:t < n:=by omega
  have e1:sm (fun r=>p r j*foT n d b r (n+t)) n=p t j * -d t:=by
   have:sm (fun r=>p r j*foT n d b r (n+t)) n=sm (fun r=>dl t r*(p r j * -d r)) n:=bT _ fun r hr=>by
    unfold foT dl;rw[if_pos hr]
    by_cases q:r=t
    ·subst q;simp
    ·rw[if_neg (by omega),if_neg q];simp
   rw[this];exact uk t (fun r=>p r j * -d r) ht
  rw[e1,h1 t j ht hj];unfold foT;rw[if_neg (by omega),if_neg (by omega),if_neg (by omega),show n+j - n=j by omega,show n+t - n=t by omega];have:=hS.rel t j ht hj
  grind
def eL (m:Mat) (k N:Nat):List Int:=tbR N (eC (bM m) k)
def vL (m:Mat) (k N i:Nat):List Int:=if i=k then eL m k N else ci N i
def mtL (fm:List (List Int)) (m:Mat) (k N:Nat):List (List Int):=tbL N fun i j=>skw fm (vL m k N i) (vL m k N j)
noncomputable def mfF (fm:List (List Int)) (m:Mat) (k:Int):List (List Int)×Bool:=
 if bp fm/\cO m/\m.r=fm.length/\(0<=k/\k < m.n)/\bp (mtL fm m k.toNat fm.length) then (mtL fm m k.toNat fm.length,true) else ([],false)
theorem rV {N i r:Nat} (hi:i < N) (hr:r < N):(ci N i).getD r 0=dl i r:=by
 rw[gO (by rw[bq];exact hr)];unfold dl;simp only[ci,List.getElem_set,List.getElem_replicate]
 by_cases h:i=r
 ·rw[if_pos h,if_pos h.symm]
 ·rw[if_neg h,if_neg (fun e=>h e.symm)]
theorem Gd {m:Mat} {k N i r:Nat} (hi:i < N) (hr:r < N):(vL m k N i).getD r 0=eV (bM m) k i r:=by
 unfold vL eV
 by_cases h:i=k
 ·rw[if_pos h,if_pos h];exact Fb _ hr
 ·rw[if_neg h,if_neg h];exact rV hi hr
theorem mG {fm:List (List Int)} {m:Mat} {k i j:Nat} (hi:i < fm.length) (hj:j < fm.length):at2 (mtL fm m k fm.length) i j=mtT fm.length (at2 fm) (bM m) k i j:=by
 unfold mtL;rw[AW _ hi hj,wx];exact kw (fun r hr=>Gd hi hr) (fun r hr=>Gd hj hr)
theorem ry (m:Mat) (k N i:Nat):(vL m k N i).length=N:=by
 unfold vL;split
 ·simp[eL]
 ·exact bq _ _
theorem Fe {m:Mat} (h:ShM m) {k N i:Nat}:∀ x∈vL m k N i,-99<=x/\x<=99:=fun x hx=>by
 unfold vL at hx;split at hx
 ·simp only[eL,tbR,List.mem_map] at hx;obtain⟨r,_,rfl⟩:=hx;have:=gV h r k;unfold eC;split <;> omega
 ·rcases kn hx with rfl | rfl <;> omega
theorem bp.skT {fm:List (List Int)} (h:bp fm):SkT fm.length (at2 fm):=fun i hi j hj=>by
 have:=(h.2.2 i hi j hj).2;omega
structure FmJ (m p:Mat) (fm:List (List Int)):Prop where
 ok:bp fm
 len:fm.length=2*m.n.toNat
 pn:p.n=m.n
 pr:p.r=2*m.n
 pok:cO p
 sol:Sol m.n.toNat (bM p) (g0 (dsM m))
 cmp:Cmp fm.length m.n.toNat (bM p) (g0 (dsM m)) (at2 fm)
theorem Fq {m:Mat} (h:dO m) {i j:Nat} (hi:i < m.n.toNat) (hj:j < m.n.toNat):bM (gg m) (m.n.toNat+i) j=if i=j then 1 else 0:=by
 obtain⟨n,h1,h2,h3,h4⟩:=h.dim;have en:m.n.toNat=n:=by omega
 rw[en] at hi hj ⊢;unfold bM g0;show (m.d ++ idP m.n.toNat m.n.toNat).getD ((n+i)*m.n.toNat+j) 0=_;rw[en,List.getD_eq_getElem?_getD,List.getElem?_append_right (by rw[h4,Nat.add_mul];omega),h4,show (n+i)*n+j - n*n=i*n+j by rw[Nat.add_mul];omega];have key:∀ k,i < k->(idP n k)[i*n+j]? = some (if i=j then 1 else 0):=fun k=>by
  induction k with
  | zero=>intro h;omega
  | succ k ih=>
   intro h;rw[oX]
   by_cases q:i < k
   ·have hb:(i+1)*n<=k*n:=Nat.mul_le_mul_right _ q;rw[Nat.add_mul] at hb;rw[List.getElem?_append_left (by rw[jA];omega)];exact ih q
   ·obtain rfl:i=k:=by omega
    rw[List.getElem?_append_right (by rw[jA];omega),jA,show i*n+j - i*n=j by omega,List.getElem?_eq_getElem (by rw[bq];exact hj)];simp[ci,List.getElem_set]
 rw[key n hi];rfl
theorem FmJ.start {m:Mat} (h:dO m) (hm:ct m.n.toNat (bM m) (dsM m)) (hF:bp (foL m)):FmJ m (gg m) (foL m):=by
 have h1:=hm.2.1;have hb:∀ i j,i < m.n.toNat->j < m.n.toNat->bM (gg m) i j=bM m i j:=fun i j hi hj=>BH h (by omega) (by omega);refine⟨hF,by simp[foL],rfl,rfl,A7 h,h1.congr hb,?_⟩;have e:(foL m).length=2*m.n.toNat:=by simp[foL]
 rw[e];intro j hj i hi;have hc:=FQ h1 (p:=bM (gg m)) hb (fun i j hi hj=>Fq h hi hj) j hj i hi;rw[<-hc];exact bT _ fun r hr=>by
  unfold foL;rw[AW _ hr hi]
theorem FmJ.step {m p q:Mat} {fm:List (List Int)} {k:Int} (h:FmJ m p fm) (hk:0<=k/\k < m.n) (hF:bp (mtL fm p k.toNat fm.length)) (hq:muF p k=(q,true)):FmJ m q (mtL fm p k.toNat fm.length):=by
 obtain⟨o1,o2,o3,o4⟩:=CO hq;have hq2:q=muM p k.toNat:=by rw[o4]
 have hS:=h.pok.1;have hn:=h.pn;have hr:=h.pr;have hb:∀ i j,i < 2*m.n.toNat->j < m.n.toNat->bM q i j=muE (bM p) k.toNat i j:=fun i j hi hj=>by
  rw[hq2];exact E6 hS (by omega) (by omega)
 have hkn:k.toNat < m.n.toNat:=by omega
 have hl:=h.len;refine⟨hF,by simp[mtL,hl],by rw[hq2];exact hn,by rw[hq2];exact hr,o3,(Bm h.sol hkn).congr fun i j hi hj=>hb i j (by omega) hj,?_⟩;have e:(mtL fm p k.toNat fm.length).length=fm.length:=by simp[mtL]
 rw[e];intro j hj i hi;have hc:=h.cmp.mut h.ok.skT (by omega) h.sol hkn j hj i hi;rw[<-hc];exact bT _ fun r hr=>by rw[hb r j (by omega) hj,mG hr hi]
noncomputable def fcL (m:Mat) (ws:List Mat) (ks:List Int):Nat->Option (List (List Int))
 | 0=>if (foF m).2=true then some (foF m).1 else none
 | t+1=>match fcL m ws ks t with
  | some f=>if (mfF f (ws.getD t zM) (ks.getD t 0)).2=true then some (mfF f (ws.getD t zM) (ks.getD t 0)).1 else none
  | none=>none
theorem lg {m:Mat} {ws:List Mat} {ks:List Int} {n i:Nat} (h:fcL m ws ks n=none) (hi:n<=i):fcL m ws ks i=none:=by
 induction i with
 | zero=>
  obtain rfl:n=0:=by omega
  exact h
 | succ i ih=>
  by_cases q:n=i+1
  ·exact q ▸ h
  ·simp only[fcL,ih (by omega)]
theorem yk {fm g:List (List Int)} {m:Mat} {k:Int} (h:mfF fm m k=(g,true)):bp fm/\cO m/\m.r=fm.length/\(0<=k/\k < m.n)/\bp g/\g=mtL fm m k.toNat fm.length:=by
 unfold mfF at h;split at h
 ·rename_i q;injection h with h _
  subst h;exact⟨q.1,q.2.1,q.2.2.1,q.2.2.2.1,q.2.2.2.2,rfl⟩
 ·simp at h
theorem Eu {m:Mat} {ks:List Int} {i:Nat} {l:List Mat} (hm:dO m) (h:wkL m ks (i+1)=some l):∃ l',wkL m ks i=some l'/\l'.length=i+1/\(muF (l'.getD i zM) (ks.getD i 0)).2=true/\l=l' ++ [(muF (l'.getD i zM) (ks.getD i 0)).1]:=by
 simp only[wkL] at h;split at h
 ·rename_i l' hl;split at h
  ·rename_i q;injection h with h
   exact⟨l',hl,(qq hm hl).1,q,h.symm⟩
  ·simp at h
 ·simp at h
theorem wd {m:Mat} {ks:List Int} (hm:dO m):∀ {i:Nat} {l:List Mat},wkL m ks i=some l->l.getD 0 zM=gg m/\∀ t,t < i->muF (l.getD t zM) (ks.getD t 0)=(l.getD (t+1) zM,true)
 | 0,l,h=>by
  simp only[wkL,Option.some.injEq] at h;subst h;exact⟨rfl,fun t ht=>by omega⟩
 | i+1,l,h=>by
  obtain⟨l',h1,h2,h3,rfl⟩:=Eu hm h;obtain⟨g1,g2⟩:=wd hm h1;have hA:∀ t,t<=i->(l' ++ [(muF (l'.getD i zM) (ks.getD i 0)).1]).getD t zM=l'.getD t zM:=fun t ht=>by
   rw[List.getD_eq_getElem?_getD,List.getElem?_append_left (by omega),List.getD_eq_getElem?_getD]
  refine⟨by rw[hA 0 (by omega)];exact g1,fun t ht=>?_⟩
  by_cases q:t < i
  ·rw[hA t (by omega),hA (t+1) (by omega)];exact g2 t q
  ·obtain rfl:t=i:=by omega
   rw[hA t (by omega)];have:(l' ++ [(muF (l'.getD t zM) (ks.getD t 0)).1]).getD (t+1) zM=(muF (l'.getD t zM) (ks.getD t 0)).1:=by
    rw[List.getD_eq_getElem?_getD,List.getElem?_append_right (by omega),h2];simp
   rw[this];exact Prod.ext rfl h3
theorem zG {m:Mat} {ks:List Int} {ws:List Mat} (hw:wkF m ks=some ws) (hm:ct m.n.toNat (bM m) (dsM m)):∀ {t:Nat} {f:List (List Int)},t<=ks.length->fcL m ws ks t=some f->FmJ m (ws.getD t zM) f
 | 0,f,_,e=>by
  have hq:=(mZ hw).1;have hl:wkL m ks ks.length=some ws:=by
   unfold wkF at hw;split at hw
   ·exact hw
   ·simp at hw
  rw[(wd hq hl).1];simp only[fcL] at e;split at e
  ·injection e with e
   unfold foF at e;split at e
   ·rename_i q;subst e;exact FmJ.start hq hm q.2
   ·rename_i q1 q;unfold foF at q1;rw[if_neg q] at q1;simp at q1
  ·simp at e
 | t+1,f,ht,e=>by
  have hq:=(mZ hw).1;have hl:wkL m ks ks.length=some ws:=by
   unfold wkF at hw;split at hw
   ·exact hw
   ·simp at hw
  simp only[fcL] at e;split at e
  ·rename_i g hg;have hJ:=zG hw hm (by omega) hg;split at e
   ·rename_i q;injection e with e
    obtain⟨M,hM⟩:∃ M,mfF g (ws.getD t zM) (ks.getD t 0)=(M,true):=⟨_,by rw[<-q]⟩;rw[hM] at e;dsimp only at e;subst e;obtain⟨_,_,_,a4,a5,a6⟩:=yk hM;rw[a6] at a5 ⊢;exact hJ.step (by rw[<-hJ.pn];exact a4) a5 ((wd hq hl).2 t (by omega))
   ·simp at e
  ·simp at e
end Go.Proofs.YtncfmemhjahpeaaGreat.Ab
