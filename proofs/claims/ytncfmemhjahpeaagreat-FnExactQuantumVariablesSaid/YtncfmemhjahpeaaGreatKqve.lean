/- The quantum torus as lists of terms: products, shifts, bars, cancelling. Quantum variables behind steps: what both sides make, and that they do not differ. Lists of quantum sums, as trees. Monomials of quantum sums. Sizes, pieces and factors of a matrix, by the reference. The reference's factors of a matrix. Matrices that are right, mutation of a matrix, by the reference. Principal matrices and their walks, on both sides. The first form of a matrix. Mutation of seeds, by the reference. Mutation of a seed and along a list, by the reference. The first form of a matrix, spec; the next form. The next form. Forms along steps. The ordered product of quantum sums, by the program. The ordered product of quantum sums, by the reference. Division of quantum sums: the reference's. No condition. -/
import Derived.Test.YtncfmemhjahpeaaGreatKqvd
import Derived.Test.YtncfmemhjahpeaaGreatKqvc
set_option linter.unusedVariables false
set_option linter.unusedSimpArgs false
set_option linter.unusedSectionVars false
namespace Go.Proofs.YtncfmemhjahpeaaGreat.Ab
open Go
abbrev LQ:=List (QK×Int)
def DQ (n:Nat) (a:LQ):Prop:=∀ x∈a,x.1.1.length=n
def Eqv (a b:LQ):Prop:=∀ φ,vl φ a=vl φ b
def prq (fm:List (List Int)) (a b:LQ):LQ:=cV (qm2 fm) a b
def shq (s:Int) (a:LQ):LQ:=a.map fun x=>((x.1.1,x.1.2+s),x.2)
def brq (a:LQ):LQ:=a.map fun x=>(qn x.1,x.2)
def sq (a:LQ):Int:=vl (fun _=>1) a
theorem Eqv.refl (a:LQ):Eqv a a:=fun _=>rfl
theorem Eqv.symm {a b:LQ} (h:Eqv a b):Eqv b a:=fun φ=>(h φ).symm
theorem Eqv.trans {a b c:LQ} (h:Eqv a b) (g:Eqv b c):Eqv a c:=fun φ=>(h φ).trans (g φ)
theorem Eqv.of_eq {a b:LQ} (h:a=b):Eqv a b:=h ▸ Eqv.refl a
theorem Eqv.app {a b c d:LQ} (h:Eqv a b) (g:Eqv c d):Eqv (a ++ c) (b ++ d):=fun φ=>by rw[kQ,kQ,h φ,g φ]
theorem Dj (a:LQ):Eqv (nf qlt a) a:=fun φ=>mF φ a
theorem Cs {a b:LQ} (h:Ab.nf qlt a=Ab.nf qlt b):Eqv a b:=fun φ=>by rw[<-mF (lt:=qlt) φ a,h,mF]
theorem fA (fm:List (List Int)) (φ:QK->Int) (a b:LQ):vl φ (prq fm a b)=vl (fun e=>vl (fun e'=>φ (qm2 fm e e')) b) a:=gq φ b a
theorem Eqv.prq {fm:List (List Int)} {a b c d:LQ} (h:Eqv a b) (g:Eqv c d):Eqv (Ab.prq fm a c) (Ab.prq fm b d):=fun φ=>by
 rw[fA,fA,h];exact dL fun x _=>g _
theorem kI (φ:QK->Int) (s:Int) (a:LQ):vl φ (shq s a)=vl (fun k=>φ (k.1,k.2+s)) a:=wo (fun k:QK=>(k.1,k.2+s)) φ a
theorem nj (φ:QK->Int) (a:LQ):vl φ (brq a)=vl (fun k=>φ (qn k)) a:=wo qn φ a
theorem Eqv.shq {s:Int} {a b:LQ} (h:Eqv a b):Eqv (Ab.shq s a) (Ab.shq s b):=fun φ=>by rw[kI,kI,h]
theorem Eqv.brq {a b:LQ} (h:Eqv a b):Eqv (Ab.brq a) (Ab.brq b):=fun φ=>by rw[nj,nj,h]
theorem kc (a:LQ):shq 0 a=a:=by
 unfold shq
 conv=>rhs;rw[<-List.map_id a]
 refine List.map_congr_left fun x _=>?_;simp
theorem fR (s t:Int) (a:LQ):shq s (shq t a)=shq (t+s) a:=by
 unfold shq;rw[List.map_map];refine List.map_congr_left fun x _=>?_;simp[Int.add_assoc]
theorem Fu (s:Int) (a b:LQ):shq s (a ++ b)=shq s a ++ shq s b:=by simp[shq]
theorem F3 (a b:LQ):brq (a ++ b)=brq a ++ brq b:=by simp[brq]
theorem wy (s:Int) (a:LQ):brq (shq s a)=shq (-s) (brq a):=by
 unfold shq brq;rw[List.map_map,List.map_map];refine List.map_congr_left fun x _=>?_;simp[qn,Int.neg_add]
theorem Bz (a:LQ):brq (brq a)=a:=by
 unfold brq;rw[List.map_map]
 conv=>rhs;rw[<-List.map_id a]
 refine List.map_congr_left fun x _=>?_;simp[qn]
theorem lw (fm:List (List Int)) (s:Int) (a b:LQ):Eqv (prq fm (shq s a) b) (shq s (prq fm a b)):=fun φ=>by
 rw[fA,kI,kI,fA];refine dL fun x _=>dL fun y _=>?_;unfold qm2;dsimp only;congr 2;omega
theorem li (fm:List (List Int)) (s:Int) (a b:LQ):Eqv (prq fm a (shq s b)) (shq s (prq fm a b)):=fun φ=>by
 rw[fA,kI,fA];refine dL fun x _=>?_;rw[kI];refine dL fun y _=>?_;unfold qm2;dsimp only;congr 2;omega
theorem zg (fm:List (List Int)) (a b c:LQ):Eqv (prq fm (a ++ b) c) (prq fm a c ++ prq fm b c):=fun φ=>by rw[fA,kQ,kQ,fA,fA]
theorem Af (fm:List (List Int)) (a b c:LQ):Eqv (prq fm a (b ++ c)) (prq fm a b ++ prq fm a c):=fun φ=>by
 rw[fA,kQ,fA,fA,<-zP];exact dL fun x _=>kQ _ _ _
theorem DQ.prq {n:Nat} {fm:List (List Int)} {a b:LQ} (ha:DQ n a) (hb:DQ n b):DQ n (Ab.prq fm a b):=fun x hx=>by
 obtain⟨y,hy,z,hz,rfl⟩:=xn hx;simp only[qm2];rw[dh _ _ _ ((ha y hy).trans (hb z hz).symm)];exact ha y hy
theorem DQ.shq {n:Nat} {s:Int} {a:LQ} (ha:DQ n a):DQ n (Ab.shq s a):=fun x hx=>by
 obtain⟨y,hy,rfl⟩:=List.mem_map.1 hx;exact ha y hy
theorem DQ.brq {n:Nat} {a:LQ} (ha:DQ n a):DQ n (Ab.brq a):=fun x hx=>by
 obtain⟨y,hy,rfl⟩:=List.mem_map.1 hx;exact ha y hy
theorem DQ.app {n:Nat} {a b:LQ} (ha:DQ n a) (hb:DQ n b):DQ n (a ++ b):=fun x hx=>(List.mem_append.1 hx).elim (ha x) (hb x)
theorem DQ.nf {n:Nat} {a:LQ} (ha:DQ n a):DQ n (Ab.nf qlt a):=fun x hx=>by
 obtain⟨z,h1,h2⟩:=lT hx;rw[<-h2];exact ha z h1
theorem lx {n:Nat} {fm:List (List Int)} {a b c:LQ} (ha:DQ n a) (hb:DQ n b) (hc:DQ n c):Eqv (prq fm (prq fm a b) c) (prq fm a (prq fm b c)):=fun φ=>
 AG (D:=fun k:QK=>k.1.length=n) (fun x y z h1 h2 h3=>Fx fm (n:=n) h1 h2 h3) φ ha hb hc
theorem sj {n:Nat} {fm:List (List Int)} (hok:bp fm) {a b:LQ} (ha:DQ n a) (hb:DQ n b):Eqv (brq (prq fm a b)) (prq fm (brq b) (brq a)):=fun φ=>by
 rw[nj,fA,fA,nj,vM];refine dL fun y hy=>?_;rw[nj];refine dL fun x hx=>?_;rw[Gk hok ((ha x hx).trans (hb y hy).symm)]
theorem CC (fm:List (List Int)) (a b:LQ):sq (prq fm a b)=sq a*sq b:=by
 unfold sq;rw[fA];have:(fun _:QK=>vl (fun _:QK=>(1:Int)) b)=fun _=>sq b*1:=by funext _;rw[Int.mul_one];rfl
 show vl (fun _:QK=>vl (fun _:QK=>(1:Int)) b) a=_;rw[this,zm];exact Int.mul_comm _ _
theorem ut (s:Int) (a:LQ):sq (shq s a)=sq a:=kI _ s a
theorem Gn (a b:LQ):sq (a ++ b)=sq a+sq b:=kQ _ a b
theorem Eqv.sq {a b:LQ} (h:Eqv a b):Ab.sq a=Ab.sq b:=h _
theorem pw {n:Nat} {fm:List (List Int)} {g x y:LQ} (hg:DQ n g) (hx:DQ n x) (hy:DQ n y) (hne:Ab.nf qlt g≠[]) (h:Eqv (prq fm g x) (prq fm g y)):Eqv x y:=by
 have key:∀ (z:LQ),DQ n z->∀ k,(Ab.nf qlt z).length<=k->∀ b d G,Ab.nf qlt g=(b,d) :: G->ew qlt (dM fm) (qdv fm) (fun _ _=>true) ((b,d) :: G) b d k (Ab.nf qlt (cV (dM fm) (Ab.nf qlt z) ((b,d) :: G)))=some (Ab.nf qlt z):=fun z hz k hk b d G hG=>by
  have hgd:=fa c7 g;have hgn:=iq (lt:=qlt) g;have hgl:=hg.nf;rw[hG] at hgd hgn hgl;exact uW (mul:=dM fm) (dv:=qdv fm) (chk:=fun _ _=>true) c7 (Eb fm n) (fun a b h1 h2=>Bd (h1.trans h2.symm)) (fun x y b h1 h2 h3 h=>by
     rw[mJ] at h ⊢;rcases h with ⟨e,h⟩ | h
     ·left
      refine⟨by simp only[dM,e],?_⟩;simp only[dM,e];omega
     ·right
      simp only[dM];rw[nL _ _ _ (h3.trans h1.symm) (h3.trans h2.symm)];exact h) hgd (hgn (b,d) (by simp)) (fun x hx=>hgl x hx) k (Ab.nf qlt z) (fa c7 z) (iq z) (fun x hx=>⟨hz.nf x hx,rfl⟩) hk
 match hG:Ab.nf qlt g,hne with
 | (b,d) :: G,_=>
  have e:Ab.nf qlt (cV (dM fm) (Ab.nf qlt x) ((b,d) :: G))=Ab.nf qlt (cV (dM fm) (Ab.nf qlt y) ((b,d) :: G)):=by
   rw[<-hG,<-rr,<-rr];refine BY c7 fun φ=>?_;have:=h φ;rw[fA,fA] at this;rw[gq,gq,mF,mF];have e1:vl (fun e=>vl (fun e'=>φ (qm2 fm e e')) (Ab.nf qlt x)) g=vl (fun e=>vl (fun e'=>φ (qm2 fm e e')) x) g:=dL fun z _=>mF _ _;have e2:vl (fun e=>vl (fun e'=>φ (qm2 fm e e')) (Ab.nf qlt y)) g=vl (fun e=>vl (fun e'=>φ (qm2 fm e e')) y) g:=dL fun z _=>mF _ _;rw[e1,e2];exact this
  have k1:=key x hx (max (Ab.nf qlt x).length (Ab.nf qlt y).length) (Nat.le_max_left _ _) b d G hG;have k2:=key y hy (max (Ab.nf qlt x).length (Ab.nf qlt y).length) (Nat.le_max_right _ _) b d G hG;rw[e,k2] at k1;injection k1 with k1
  exact Cs k1.symm
theorem E5 {a:LQ} (h:0 < sq a):Ab.nf qlt a≠[]:=fun e=>by
 have:sq (Ab.nf qlt a)=sq a:=mF _ a;rw[e] at this;have h0:sq ([]:LQ)=0:=rfl;omega
theorem Aw {n:Nat} {fm:List (List Int)} (hok:bp fm) {g x y:LQ} (hg:DQ n g) (hx:DQ n x) (hy:DQ n y) (hne:0 < sq g) (h:Eqv (prq fm x g) (prq fm y g)):Eqv x y:=by
 have h1:=(sj hok hx hg).symm.trans (h.brq.trans (sj hok hy hg));have h2:=pw hg.brq hx.brq hy.brq (E5 (by
  have:sq (brq g)=sq g:=nj _ g;omega)) h1
 have h3:=h2.brq
 rwa [Bz,Bz] at h3
def iT (fm:List (List Int)) (p x:LQ):Nat->LQ
 | 0=>p
 | k+1=>prq fm (iT fm p x k) x
def mc (N:Nat):LQ:=[((List.replicate N 0,0),1)]
def iw (fm:List (List Int)) (X:Nat->LQ) (e:Nat->Nat):Nat->LQ
 | 0=>mc fm.length
 | i+1=>iT fm (iw fm X e i) (X i) (e i)
theorem tV:∀ (a:List Int) (n:Nat),a.length=n->bc 1 (List.replicate n 0) a=a/\bc 1 a (List.replicate n 0)=a
 | [],0,_=>⟨rfl,rfl⟩
 | x :: a,n+1,h=>by
  have ih:=tV a n (by simpa using h);simp only[List.replicate_succ,bc,ih.1,ih.2];exact⟨by congr 1;omega,by congr 1;omega⟩
theorem Bk (fm:List (List Int)) (a:List Int):skw fm (List.replicate fm.length 0) a=0/\skw fm a (List.replicate fm.length 0)=0:=by
 have hz:∀ i,(List.replicate fm.length (0:Int)).getD i 0=0:=fun i=>by
  rw[List.getD_eq_getElem?_getD,List.getElem?_replicate];split <;> rfl
 refine⟨?_,?_⟩
 ·refine (bT _ fun i _=>?_).trans (jv fm.length);refine (bT _ fun j _=>?_).trans (jv fm.length);unfold skT;rw[hz,Int.zero_mul,Int.zero_mul]
 ·refine (bT _ fun i _=>?_).trans (jv fm.length);refine (bT _ fun j _=>?_).trans (jv fm.length);unfold skT;rw[hz,Int.mul_zero]
theorem Gz {fm:List (List Int)} {a:LQ} (ha:DQ fm.length a):Eqv (prq fm (mc fm.length) a) a:=fun φ=>by
 rw[fA];simp only[mc,vl,Int.one_mul,Int.add_zero];refine dL fun x hx=>?_;unfold qm2;dsimp only;rw[(tV _ _ (ha x hx)).1,(Bk fm x.1.1).1];simp
theorem Gv {fm:List (List Int)} {a:LQ} (ha:DQ fm.length a):Eqv (prq fm a (mc fm.length)) a:=fun φ=>by
 rw[fA];refine dL fun x hx=>?_;simp only[mc,vl,Int.one_mul,Int.add_zero];unfold qm2;dsimp only;rw[(tV _ _ (ha x hx)).2,(Bk fm x.1.1).2];simp
theorem GX (N:Nat):DQ N (mc N):=fun x hx=>by
 rw[mc,List.mem_singleton] at hx;rw[hx];simp
theorem FN (N:Nat):brq (mc N)=mc N:=by simp[mc,brq,qn]
theorem qo {n:Nat} {fm:List (List Int)} {p x:LQ} (hp:DQ n p) (hx:DQ n x):∀ k,DQ n (iT fm p x k)
 | 0=>hp
 | k+1=>(qo hp hx k).prq hx
theorem qu {fm:List (List Int)} {X:Nat->LQ} {e:Nat->Nat} {m:Nat} (hX:∀ i,i < m->DQ fm.length (X i)):∀ i,i<=m->DQ fm.length (iw fm X e i)
 | 0,_=>GX _
 | i+1,h=>qo (qu hX i (by omega)) (hX i (by omega)) _
theorem BF {fm:List (List Int)} {p x:LQ} (hp:0 < sq p) (hx:0 < sq x):∀ k,0 < sq (iT fm p x k)
 | 0=>hp
 | k+1=>by
  simp only[iT];rw[CC];exact Int.mul_pos (BF hp hx k) hx
theorem vZ {fm:List (List Int)} {X:Nat->LQ} {e:Nat->Nat} {m:Nat} (hX:∀ i,i < m->0 < sq (X i)):∀ i,i<=m->0 < sq (iw fm X e i)
 | 0,_=>by simp[iw,mc,sq,vl]
 | i+1,h=>BF (vZ hX i (by omega)) (hX i (by omega)) _
theorem rp {n:Nat} {fm:List (List Int)} {y p x:LQ} {c d:Int} (hy:DQ n y) (hp:DQ n p) (hx:DQ n x) (h1:Eqv (prq fm y p) (shq (2*c) (prq fm p y))) (h2:Eqv (prq fm y x) (shq (2*d) (prq fm x y))):∀ k:Nat,Eqv (prq fm y (iT fm p x k)) (shq (2*(c+k*d)) (prq fm (iT fm p x k) y))
 | 0=>by
  have e:2*(c+((0:Nat):Int)*d)=2*c:=by simp
  rw[e];exact h1
 | k+1=>by
  have ih:=rp hy hp hx h1 h2 k;have hq:=qo (fm:=fm) hp hx k;simp only[iT];generalize iT fm p x k=P at ih hq ⊢;refine (lx hy hq hx).symm.trans ?_;refine (ih.prq (Eqv.refl x)).trans ?_;refine (lw fm _ _ _).trans ?_;refine ((lx hq hy hx).trans (((Eqv.refl P).prq h2).trans (li fm _ _ _))).shq.trans ?_;rw[fR];refine ((lx hq hx hy).symm.shq).trans (Eqv.of_eq ?_);congr 1;rw[Int.natCast_add,Int.add_mul];omega
theorem rk {fm:List (List Int)} {X:Nat->LQ} {e:Nat->Nat} {y:LQ} {c:Nat->Int} {m:Nat} (hy:DQ fm.length y) (hX:∀ i,i < m->DQ fm.length (X i)) (h:∀ i,i < m->Eqv (prq fm y (X i)) (shq (2*c i) (prq fm (X i) y))):∀ i,i<=m->Eqv (prq fm y (iw fm X e i)) (shq (2*sm (fun r=>(e r:Int)*c r) i) (prq fm (iw fm X e i) y))
 | 0,_=>by
  simp only[iw,sm,Int.mul_zero];rw[kc];exact (Gv hy).trans (Gz hy).symm
 | i+1,hi=>by
  exact rp (p:=iw fm X e i) (c:=sm (fun r=>(e r:Int)*c r) i) (d:=c i) hy (qu hX i (by omega)) (hX i (by omega)) (rk hy hX h i (by omega)) (h i (by omega)) (e i)
theorem za {n:Nat} {fm:List (List Int)} (hok:bp fm) {p p' x:LQ} {c:Int} (hp:DQ n p) (hp':DQ n p') (hx:DQ n x) (hb:Eqv (brq x) x) (h1:Eqv (brq p) p') (h2:Eqv (prq fm x p') (shq (2*c) (prq fm p' x))):∀ k:Nat,Eqv (brq (iT fm p x k)) (shq (2*(k*c)) (iT fm p' x k))
 | 0=>by
  simp only[iT];rw[show 2*(((0:Nat):Int)*c)=0 by simp,kc];exact h1
 | k+1=>by
  have ih:=za hok hp hp' hx hb h1 h2 k;have hq:=qo (fm:=fm) hp hx k;have hq':=qo (fm:=fm) hp' hx k;have hps:=rp (d:=0) hx hp' hx h2 (by rw[Int.mul_zero,kc];exact Eqv.refl _) k;simp only[iT];refine (sj hok hq hx).trans ?_;refine (hb.prq ih).trans ((li fm _ _ _).trans ?_);refine hps.shq.trans ?_;rw[fR];refine Eqv.of_eq ?_;congr 1;rw[Int.natCast_add,Int.add_mul];omega
def qC (L:Nat->Nat->Int) (e:Nat->Nat) (m:Nat):Int:=sm (fun i=>(e i:Int)*sm (fun j=>(e j:Int)*L i j) i) m
theorem yB {fm:List (List Int)} (hok:bp fm) {X:Nat->LQ} {e:Nat->Nat} {L:Nat->Nat->Int} {m:Nat} (hX:∀ i,i < m->DQ fm.length (X i)) (hb:∀ i,i < m->Eqv (brq (X i)) (X i)) (h:∀ i,i < m->∀ j,j < m->Eqv (prq fm (X i) (X j)) (shq (2*L i j) (prq fm (X j) (X i)))):∀ i,i<=m->Eqv (brq (iw fm X e i)) (shq (2*qC L e i) (iw fm X e i))
 | 0,_=>by
  simp only[iw,qC,sm,Int.mul_zero];rw[kc,FN];exact Eqv.refl _
 | i+1,hi=>by
  have ih:=yB (e:=e) hok hX hb h i (by omega);have hD:=qu (e:=e) hX i (by omega);have hpo:=rk (e:=e) (m:=i) (y:=X i) (c:=fun j=>L i j) (hX i (by omega)) (fun j hj=>hX j (by omega)) (fun j hj=>h i (by omega) j (by omega)) i (Nat.le_refl _);have hp':Eqv (prq fm (X i) (shq (2*qC L e i) (iw fm X e i))) (shq (2*sm (fun j=>(e j:Int)*L i j) i) (prq fm (shq (2*qC L e i) (iw fm X e i)) (X i))):=by
   refine (li fm _ _ _).trans (hpo.shq.trans ?_);refine Eqv.trans (Eqv.of_eq ?_) (lw fm _ _ _).shq.symm;rw[fR,fR];congr 1;omega
  have:=za hok hD hD.shq (hX i (by omega)) (hb i (by omega)) ih hp' (e i);refine this.trans ?_;have hps:∀ (s:Int) (p x:LQ) (k:Nat),Eqv (iT fm (shq s p) x k) (shq s (iT fm p x k)):=fun s p x k=>by
   induction k with
   | zero=>exact Eqv.refl _
   | succ k ih=>exact (ih.prq (Eqv.refl x)).trans (lw fm _ _ _)
  refine (hps _ _ _ _).shq.trans ?_;rw[fR];refine Eqv.of_eq ?_;show shq _ (iw fm X e (i+1))=shq _ (iw fm X e (i+1));congr 1;show _=2*(qC L e i+(e i:Int)*sm (fun j=>(e j:Int)*L i j) i);omega
def jZ (fm:List (List Int)) (X:Nat->LQ) (L:Nat->Nat->Int) (e:Nat->Nat) (m:Nat):LQ:=shq (qC L e m) (iw fm X e m)
theorem tf {fm:List (List Int)} (hok:bp fm) {X:Nat->LQ} {e:Nat->Nat} {L:Nat->Nat->Int} {m:Nat} (hX:∀ i,i < m->DQ fm.length (X i)) (hb:∀ i,i < m->Eqv (brq (X i)) (X i)) (h:∀ i,i < m->∀ j,j < m->Eqv (prq fm (X i) (X j)) (shq (2*L i j) (prq fm (X j) (X i)))):Eqv (brq (jZ fm X L e m)) (jZ fm X L e m):=by
 unfold jZ;rw[wy];refine (yB hok hX hb h m (Nat.le_refl _)).shq.trans ?_;rw[fR];refine Eqv.of_eq ?_;congr 1;omega
structure QSt (fm:List (List Int)) (X:Nat->LQ) (L:Nat->Nat->Int):Prop where
 len:∀ i,i < fm.length->DQ fm.length (X i)
 com:∀ i,i < fm.length->∀ j,j < fm.length->Eqv (prq fm (X i) (X j)) (shq (2*L i j) (prq fm (X j) (X i)))
 bar:∀ i,i < fm.length->Eqv (brq (X i)) (X i)
 pos:∀ i,i < fm.length->0 < sq (X i)
theorem QSt.step {fm:List (List Int)} (hok:bp fm) {X:Nat->LQ} {L L':Nat->Nat->Int} (h:QSt fm X L) {k:Nat} (hk:k < fm.length) {a b:Nat->Nat} {Z:LQ} (hZ:DQ fm.length Z)
  (hex:Eqv (prq fm (X k) Z) (shq (sm (fun r=>(a r:Int)*L k r) fm.length) (jZ fm X L a fm.length) ++ shq (sm (fun r=>(b r:Int)*L k r) fm.length) (jZ fm X L b fm.length)))
  (hab:∀ j,j < fm.length->j≠k->sm (fun r=>(a r:Int)*L j r) fm.length=sm (fun r=>(b r:Int)*L j r) fm.length)
  (hL:∀ i,i < fm.length->∀ j,j < fm.length->i≠k->j≠k->L' i j=L i j)
  (hLk:∀ j,j < fm.length->j≠k->L' j k=sm (fun r=>(b r:Int)*L j r) fm.length - L j k/\L' k j=-L' j k) (hkk:L' k k=0) :
  QSt fm (fun i=>if i=k then Z else X i) L':=by
 obtain⟨A,hA⟩:∃ A,A=jZ fm X L a fm.length:=⟨_,rfl⟩;obtain⟨B,hB⟩:∃ B,B=jZ fm X L b fm.length:=⟨_,rfl⟩;have dA:DQ fm.length A:=by rw[hA];exact (qu h.len _ (Nat.le_refl _)).shq
 have dB:DQ fm.length B:=by rw[hB];exact (qu h.len _ (Nat.le_refl _)).shq
 have bA:Eqv (brq A) A:=by rw[hA];exact tf hok h.len h.bar h.com
 have bB:Eqv (brq B) B:=by rw[hB];exact tf hok h.len h.bar h.com
 have pA:0 < sq A:=by rw[hA];unfold jZ;rw[ut];exact vZ h.pos _ (Nat.le_refl _)
 have pB:0 < sq B:=by rw[hB];unfold jZ;rw[ut];exact vZ h.pos _ (Nat.le_refl _)
 have past:∀ (e:Nat->Nat) j,j < fm.length->Eqv (prq fm (X j) (jZ fm X L e fm.length)) (shq (2*sm (fun r=>(e r:Int)*L j r) fm.length) (prq fm (jZ fm X L e fm.length) (X j))):=fun e j hj=>by
  unfold jZ;refine (li fm _ _ _).trans ?_;refine (rk (h.len j hj) h.len (fun i hi=>h.com j hj i hi) _ (Nat.le_refl _)).shq.trans ?_;refine Eqv.trans (Eqv.of_eq ?_) (lw fm _ _ _).shq.symm;rw[fR,fR];congr 1;omega
 have pstA:∀ j,j < fm.length->Eqv (prq fm (X j) A) (shq (2*sm (fun r=>(a r:Int)*L j r) fm.length) (prq fm A (X j))):=fun j hj=>by rw[hA];exact past a j hj
 have pstB:∀ j,j < fm.length->Eqv (prq fm (X j) B) (shq (2*sm (fun r=>(b r:Int)*L j r) fm.length) (prq fm B (X j))):=fun j hj=>by rw[hB];exact past b j hj
 rw[<-hA,<-hB] at hex;clear past hA hB;obtain⟨s,hs⟩:∃ s:Nat->Int,s=fun j=>sm (fun r=>(a r:Int)*L j r) fm.length:=⟨_,rfl⟩;obtain⟨t,ht⟩:∃ t:Nat->Int,t=fun j=>sm (fun r=>(b r:Int)*L j r) fm.length:=⟨_,rfl⟩;have hse:∀ j,sm (fun r=>(a r:Int)*L j r) fm.length=s j:=fun j=>by rw[hs]
 have hte:∀ j,sm (fun r=>(b r:Int)*L j r) fm.length=t j:=fun j=>by rw[ht]
 simp only[hse] at pstA hex hab;simp only[hte] at pstB hex hab hLk;clear hse hte hs ht;have dX:=h.len k hk;have pX:=h.pos k hk;have nX:=E5 pX
 -- the sum with the other signs
 have hleft:Eqv (prq fm Z (X k)) (shq (-s k) A ++ shq (-t k) B):=by
  refine pw (fm:=fm) dX (hZ.prq dX) (dA.shq.app dB.shq) nX ?_;refine (lx dX hZ dX).symm.trans ?_;refine (hex.prq (Eqv.refl _)).trans ((zg fm _ _ _).trans ?_);refine Eqv.trans ?_ (Af fm _ _ _).symm;have one:∀ (C:LQ) (u:Int),Eqv (prq fm (X k) C) (shq (2*u) (prq fm C (X k)))->Eqv (prq fm (shq u C) (X k)) (prq fm (X k) (shq (-u) C)):=fun C u hc=>by
   refine (lw fm _ _ _).trans (Eqv.trans ?_ (li fm _ _ _).symm);refine Eqv.trans (Eqv.of_eq ?_) hc.shq.symm;rw[fR];congr 1;omega
  exact (one A (s k) (pstA k hk)).app (one B (t k) (pstB k hk))
 have hbarZ:Eqv (brq Z) Z:=by
  refine Aw (fm:=fm) hok dX hZ.brq hZ pX ?_;have h1:=hex.brq;rw[F3,wy,wy] at h1;refine Eqv.trans ?_ hleft.symm;refine Eqv.trans ((Eqv.refl (brq Z)).prq (h.bar k hk).symm) ?_;refine (sj hok dX hZ).symm.trans (h1.trans ?_);exact bA.shq.app bB.shq
 have hposZ:0 < sq Z:=by
  have h1:=hex.sq;rw[CC,Gn,ut,ut] at h1;have h2:0 < sq (X k)*sq Z:=by omega
  exact Int.pos_of_mul_pos_right h2 pX
 have hcomZ:∀ j,j < fm.length->j≠k->Eqv (prq fm (X j) Z) (shq (2*L' j k) (prq fm Z (X j))):=fun j hj hjk=>by
  have dj:=h.len j hj;refine pw (fm:=fm) dX (dj.prq hZ) (hZ.prq dj).shq nX ?_
  -- X k (X j Z)=shift of X j (X k Z)
  have c1:=h.com k hk j hj;have c2:=h.com j hj k hk;have hsk:Eqv (prq fm (X j) (prq fm (X k) Z)) (shq (2*t j) (prq fm (prq fm (X k) Z) (X j))):=by
   have e1:=hab j hj hjk;refine ((Eqv.refl (X j)).prq hex).trans ((Af fm _ _ _).trans ?_);refine Eqv.trans ?_ (((hex.prq (Eqv.refl (X j))).trans (zg fm _ _ _)).shq.symm);rw[Fu];have one:∀ (C:LQ) (u w:Int),Eqv (prq fm (X j) C) (shq (2*u) (prq fm C (X j)))->Eqv (prq fm (X j) (shq w C)) (shq (2*u) (prq fm (shq w C) (X j))):=fun C u w hc=>by
    refine (li fm _ _ _).trans (hc.shq.trans ?_);refine Eqv.trans (Eqv.of_eq ?_) (lw fm _ _ _).shq.symm;rw[fR,fR];congr 1;omega
   have pA':=pstA j hj;rw[e1] at pA';exact (one A (t j) _ pA').app (one B (t j) _ (pstB j hj))
  have l1:Eqv (prq fm (X k) (prq fm (X j) Z)) (shq (-(2*L j k)) (prq fm (X j) (prq fm (X k) Z))):=by
   refine (lx dX dj hZ).symm.trans ?_;refine Eqv.trans ?_ (lx dj dX hZ).shq;have c2':Eqv (prq fm (X k) (X j)) (shq (-(2*L j k)) (prq fm (X j) (X k))):=by
    refine Eqv.trans (Eqv.of_eq ?_) c2.shq.symm;rw[fR,show 2*L j k + -(2*L j k)=0 by omega,kc]
   exact (c2'.prq (Eqv.refl Z)).trans (lw fm _ _ _)
  refine l1.trans (hsk.shq.trans ?_);rw[fR];refine Eqv.trans ?_ (li fm _ _ _).symm;refine Eqv.trans ((lx dX hZ dj).shq) (Eqv.of_eq ?_);congr 1;have:=(hLk j hj hjk).1;omega
 refine⟨fun i hi=>?_,fun i hi j hj=>?_,fun i hi=>?_,fun i hi=>?_⟩
 ·split
  ·exact hZ
  ·exact h.len i hi
 ·by_cases e1:i=k
  ·by_cases e2:j=k
   ·rw[if_pos e1,if_pos e2,e1,e2,hkk,Int.mul_zero,kc];exact Eqv.refl _
   ·rw[if_pos e1,if_neg e2,e1];have:=hcomZ j hj e2;rw[(hLk j hj e2).2];refine Eqv.trans (Eqv.of_eq ?_) this.shq.symm;rw[fR,show 2*L' j k+2 * -L' j k=0 by omega,kc]
  ·by_cases e2:j=k
   ·rw[if_neg e1,if_pos e2,e2];exact hcomZ i hi e1
   ·rw[if_neg e1,if_neg e2,hL i hi j hj e1 e2];exact h.com i hi j hj
 ·split
  ·exact hbarZ
  ·exact h.bar i hi
 ·split
  ·exact hposZ
  ·exact h.pos i hi
def qls (f:Qsm):LQ:=f.ts.map qp
def shT (s:Int) (f:Qsm):Qsm:=⟨f.v,f.ts.map fun t=>⟨t.e,t.h+s,t.c⟩⟩
def iJ (N:Nat):Qsm:=⟨N,[⟨List.replicate N 0,0,1⟩]⟩
noncomputable def itQ (fm:List (List Int)) (f:Qsm):Nat->Qsm->Option Qsm
 | 0,p=>some p
 | n+1,p=>if (eK fm p f).2=true then itQ fm f n (eK fm p f).1 else none
noncomputable def gy (fm:List (List Int)):List Qsm->List Int->Qsm->Option Qsm
 | f :: fs,c :: cs,p=>(itQ fm f c.toNat p).bind (gy fm fs cs)
 | [],_,p=>some p
 | _ :: _,[],p=>some p
def iN (fm:List (List Int)) (e:List Int):Int:=sm (fun i=>sm (fun j=>e.getD i 0*e.getD j 0*at2 fm i j) i) e.length
def fP (fm:List (List Int)) (e:List Int) (k:Nat):Int:=skw fm (ci fm.length k) e
noncomputable def okQ (f:Qsm):Option Qsm:=if aL f then some f else none
noncomputable def orF (fm0 fm:List (List Int)) (vs:List Qsm) (e:List Int) (k:Nat):Option Qsm:=
 if ∀ x∈e,x<=8 then (gy fm0 vs e (iJ fm0.length)).bind fun p=>okQ (shT (fP fm e k+iN fm e) p) else none
noncomputable def spF (fm0 fm:List (List Int)) (vs:List Qsm) (e:List Int):Option Qsm:=
 (gy fm0 vs e (iJ fm0.length)).bind fun p=>okQ (shT (iN fm e) p)
def mnL (b:List Int):List Int:=b.map fun x=>max 0 (-x)
def plL (b:List Int):List Int:=b.map fun x=>max 0 x
noncomputable def exQ (fm0 fm:List (List Int)) (b:List Int) (vs:List Qsm) (k:Nat):Option Qsm:=
 match orF fm0 fm vs (mnL b) k,orF fm0 fm vs (plL b) k with
 | some p,some q=>if (dJ p q).2=true then (if (dm fm0 (dJ p q).1 (vs.getD k cM)).2=true then some (dm fm0 (dJ p q).1 (vs.getD k cM)).1 else none) else none
 | _,_=>none
noncomputable def exH (fm0 fm:List (List Int)) (e:List Int) (vs:List Qsm) (k:Nat) (sum:Qsm):Option Qsm:=
 if ∀ x∈e,x<=8 then (spF fm0 fm vs e).bind fun x=>if (dJ sum (shT (fP fm e k) x)).2=true then some (dJ sum (shT (fP fm e k) x)).1 else none else none
noncomputable def exS (fm0 fm:List (List Int)) (b:List Int) (vs:List Qsm) (k:Nat):Option Qsm:=
 (exH fm0 fm (mnL b) vs k ⟨fm0.length,[]⟩).bind fun s=>(exH fm0 fm (plL b) vs k s).bind fun u=>if (dm fm0 u (vs.getD k cM)).2=true then some (dm fm0 u (vs.getD k cM)).1 else none
theorem pK {fm:List (List Int)} {f g P:Qsm} (h:eK fm f g=(P,true)):bp fm/\aL f/\aL g/\f.v=fm.length/\g.v=fm.length/\aL P/\P.v=fm.length/\Eqv (qls P) (prq fm (qls f) (qls g)):=by
 unfold eK at h;split at h
 ·rename_i q;have h0:eK fm f g=(P,true):=by
   unfold eK;rw[if_pos q];exact h
  rw[Bx q.1 q.2.1 q.2.2.1 q.2.2.2.1 q.2.2.2.2] at h0;unfold enQ at h0;split at h0
  ·rename_i hR;injection h0 with h0 _
   refine⟨q.1,q.2.1,q.2.2.1,q.2.2.2.1,q.2.2.2.2,h0 ▸ hR,by rw[<-h0],?_⟩;unfold qls;rw[<-h0];dsimp only;rw[qI];exact Dj _
  ·injection h0 with _ h0
   simp at h0
 ·injection h with _ h
  simp at h
theorem D3 {f g P:Qsm} (h:dJ f g=(P,true)):aL f/\aL g/\f.v=g.v/\aL P/\P.v=f.v/\Eqv (qls P) (qls f ++ qls g):=by
 unfold dJ at h;split at h
 ·rename_i q;unfold enQ at h;split at h
  ·rename_i hR;injection h with h _
   refine⟨q.1,q.2.1,q.2.2,h ▸ hR,by rw[<-h],?_⟩;unfold qls;rw[<-h];dsimp only;unfold gaQ;rw[qI,List.map_append];exact Dj _
  ·injection h with _ h
   simp at h
 ·injection h with _ h
  simp at h
theorem Ha {f:Qsm} {n:Nat} (h:aL f) (hv:f.v=n):DQ n (qls f):=fun x hx=>by
 obtain⟨t,ht,rfl⟩:=List.mem_map.1 hx;have:=(h.2.2.1 t ht).1;show t.e.length=n;omega
theorem Gp (s:Int) (f:Qsm):qls (shT s f)=shq s (qls f):=by
 unfold qls shT shq;rw[List.map_map,List.map_map];rfl
theorem FL (N:Nat):qls (iJ N)=mc N:=rfl
theorem mt {N:Nat} (h:1<=N/\N<=8):aL (iJ N):=by
 refine⟨by unfold iJ;dsimp only;omega,by simp[iJ],fun t ht=>?_,by simp[iJ,ib]⟩;simp only[iJ,List.mem_singleton] at ht;subst ht;refine⟨by simp[iJ],by simp,by simp,by simp,fun x hx=>?_⟩;have:=List.eq_of_mem_replicate hx;omega
theorem Ds {fm:List (List Int)} {f:Qsm}:∀ {n:Nat} {p P:Qsm} {Q:LQ},itQ fm f n p=some P->aL p->p.v=fm.length->Eqv (qls p) Q->aL P/\P.v=fm.length/\Eqv (qls P) (iT fm Q (qls f) n)
 | 0,p,P,Q,h,hr,hv,hq=>by
  simp only[itQ,Option.some.injEq] at h;subst h;exact⟨hr,hv,hq⟩
 | n+1,p,P,Q,h,hr,hv,hq=>by
  simp only[itQ] at h;split at h
  ·rename_i hm;obtain⟨_,_,_,_,_,r1,r2,r3⟩:=pK (P:=(eK fm p f).1) (Prod.ext rfl hm);obtain⟨a1,a2,a3⟩:=Ds (Q:=prq fm Q (qls f)) h r1 r2 (r3.trans (hq.prq (Eqv.refl _)));refine⟨a1,a2,a3.trans (Eqv.of_eq ?_)⟩;have:∀ n,iT fm (prq fm Q (qls f)) (qls f) n=iT fm Q (qls f) (n+1):=fun n=>by
    induction n with
    | zero=>rfl
    | succ n ih=>simp only[iT] at ih ⊢;rw[ih]
   exact this n
  ·simp at h
def vN (vs:List Qsm) (i:Nat):LQ:=qls (vs.getD i cM)
theorem Bn {fm:List (List Int)} (vs:List Qsm) (e:List Int) (hl:vs.length=e.length):∀ (n i:Nat) {p P:Qsm},n+i=e.length->gy fm (vs.drop i) (e.drop i) p=some P->aL p->p.v=fm.length->Eqv (qls p) (iw fm (vN vs) (fun i=>(e.getD i 0).toNat) i)->aL P/\P.v=fm.length/\Eqv (qls P) (iw fm (vN vs) (fun i=>(e.getD i 0).toNat) e.length)
 | 0,i,p,P,hi,h,hr,hv,hq=>by
  rw[List.drop_of_length_le (by omega)] at h;simp only[gy,Option.some.injEq] at h;subst h;rw[show i=e.length by omega] at hq;exact⟨hr,hv,hq⟩
 | n+1,i,p,P,hi,h,hr,hv,hq=>by
  rw[List.drop_eq_getElem_cons (show i < vs.length by omega),List.drop_eq_getElem_cons (show i < e.length by omega)] at h;simp only[gy] at h
  cases hit:itQ fm vs[i] (e[i]).toNat p with
  | none=>rw[hit] at h;simp at h
  | some q=>
   rw[hit] at h;obtain⟨a1,a2,a3⟩:=Ds hit hr hv hq;refine Bn vs e hl n (i+1) (by omega) h a1 a2 (a3.trans (Eqv.of_eq ?_));have e1:vN vs i=qls vs[i]:=by simp[vN,List.getD_eq_getElem?_getD,show i < vs.length by omega]
   have e2:e.getD i 0=e[i]:=by simp[List.getD_eq_getElem?_getD,show i < e.length by omega]
   simp only[iw,e1,e2]
theorem tH {fm:List (List Int)} (h8:1<=fm.length/\fm.length<=8) {vs:List Qsm} {e:List Int} {P:Qsm} (hl:vs.length=fm.length) (he:e.length=fm.length) (h:gy fm vs e (iJ fm.length)=some P):aL P/\P.v=fm.length/\Eqv (qls P) (iw fm (vN vs) (fun i=>(e.getD i 0).toNat) fm.length):=by
 have:=Bn vs e (hl.trans he.symm) e.length 0 (by omega) (p:=iJ fm.length) (P:=P) (by simpa using h) (mt h8) rfl (Eqv.of_eq (FL _))
 rwa [he] at this
theorem DK {fm:List (List Int)} {e:List Int} (h:∀ x∈e,0<=x) (n:Nat) (hn:e.length=n):iN fm e=qC (at2 fm) (fun i=>(e.getD i 0).toNat) n:=by
 have hp:∀ i,((e.getD i 0).toNat:Int)=e.getD i 0:=fun i=>by
  have:0<=e.getD i 0:=by
   rw[List.getD_eq_getElem?_getD]
   cases hh:e[i]? with
   | none=>simp
   | some x=>exact h x (List.mem_of_getElem? hh)
  omega
 unfold iN qC;rw[hn];refine bT _ fun i hi=>?_;have:sm (fun j=>e.getD i 0*e.getD j 0*at2 fm i j) i=sm (fun j=>e.getD i 0*(e.getD j 0*at2 fm i j)) i:=bT _ fun j _=>Int.mul_assoc _ _ _;rw[this,ot,hp];congr 1;refine bT _ fun j _=>?_;rw[hp]
theorem Gi {fm:List (List Int)} {e:List Int} (h:∀ x∈e,0<=x) {k:Nat} (hk:k < fm.length):fP fm e k=sm (fun r=>((e.getD r 0).toNat:Int)*at2 fm k r) fm.length:=by
 have hp:∀ i,((e.getD i 0).toNat:Int)=e.getD i 0:=fun i=>by
  have:0<=e.getD i 0:=by
   rw[List.getD_eq_getElem?_getD]
   cases hh:e[i]? with
   | none=>simp
   | some x=>exact h x (List.mem_of_getElem? hh)
  omega
 unfold fP;rw[wx];have:sk2 fm.length (at2 fm) (fun i=>(ci fm.length k).getD i 0) (fun j=>e.getD j 0)=sk2 fm.length (at2 fm) (dl k) (fun j=>e.getD j 0):=kw (fun i hi=>rV hk hi) (fun _ _=>rfl);rw[this,wE _ _ hk];refine bT _ fun r _=>?_;rw[hp,Int.mul_comm]
theorem Du {s:Int} {f:Qsm} (h:aL f):aL (shT s f)↔∀ t∈f.ts,-200<=t.h+s/\t.h+s<=200:=by
 constructor
 ·intro g t ht;exact (g.2.2.1 ⟨t.e,t.h+s,t.c⟩ (List.mem_map.2 ⟨t,ht,rfl⟩)).2.2.2.1
 ·intro g;refine⟨h.1,by simpa[shT] using h.2.1,fun t ht=>?_,?_⟩
  ·obtain⟨u,hu,rfl⟩:=List.mem_map.1 ht;obtain⟨a1,a2,a3,a4,a5⟩:=h.2.2.1 u hu;exact⟨a1,a2,a3,g u hu,a5⟩
  ·unfold ib shT;dsimp only;rw[List.pairwise_map];refine h.2.2.2.imp fun {a b} hab=>?_;rw[mJ] at hab ⊢;simp only[qk] at hab ⊢;rcases hab with ⟨e1,e2⟩ | e1
   ·exact .inl ⟨e1,by omega⟩
   ·exact .inr e1
theorem AP (s t:Int) (f:Qsm):shT s (shT t f)=shT (s+t) f:=by
 unfold shT;dsimp only;rw[List.map_map];congr 1;refine List.map_congr_left fun x _=>?_;simp only[Function.comp];congr 1;omega
theorem CH {l:LQ} {k:QK} (h:co k l≠0):∃ x∈l,x.1=k:=by
 induction l with
 | nil=>simp[co] at h
 | cons x l ih=>
  simp only[co] at h
  by_cases e:x.1=k
  ·exact⟨x,by simp,e⟩
  ·rw[if_neg e] at h;obtain⟨y,hy,hk⟩:=ih (by simpa using h);exact⟨y,by simp[hy],hk⟩
theorem FW {f:Qsm} (h:aL f) {S s:Int} (hb:Eqv (brq (shq S (qls f))) (shq S (qls f))) (hr:aL (shT (s+S) f)):aL (shT S f):=by
 rw[Du h] at hr ⊢;intro t ht;have h1:=hr t ht
 -- the term with the other sign
 have hm:qp t∈qls f:=List.mem_map.2 ⟨t,ht,rfl⟩;have hc:=E7 c7 (iA h) (qp t) hm;have hcn:t.c≠0:=(h.2.2.1 t ht).2.1;obtain⟨u,hu,hue⟩:∃ u∈f.ts,u.h=-t.h - 2*S:=by
  have e1:=hb (fun k=>if k=(t.e,-(t.h+S)) then 1 else 0);rw[nj,kI,kI] at e1;have e2:vl (fun k:QK=>(if qn (k.1,k.2+S)=(t.e,-(t.h+S)) then (1:Int) else 0)) (qls f)=co (qp t).1 (qls f):=by
   rw[uG];refine dL fun x _=>?_;unfold qn;dsimp only;have:((x.1.1,-(x.1.2+S))=(t.e,-(t.h+S)))↔x.1=(qp t).1:=by
    rw[Prod.mk.injEq];constructor
    ·rintro⟨a,b⟩;exact Prod.ext a (by show x.1.2=t.h;omega)
    ·intro e;rw[e];exact⟨rfl,rfl⟩
   simp only[this]
  have e3:vl (fun k:QK=>(if (k.1,k.2+S)=(t.e,-(t.h+S)) then (1:Int) else 0)) (qls f)=co (t.e,-t.h - 2*S) (qls f):=by
   rw[uG];refine dL fun x _=>?_;have:((x.1.1,x.1.2+S)=(t.e,-(t.h+S)))↔x.1=(t.e,-t.h - 2*S):=by
    rw[Prod.mk.injEq];constructor
    ·rintro⟨a,b⟩;exact Prod.ext a (by show x.1.2=-t.h - 2*S;omega)
    ·intro e;rw[e];exact⟨rfl,by show -t.h - 2*S+S=-(t.h+S);omega⟩
   simp only[this]
  rw[e2,e3] at e1;unfold qls at e1;rw[hc] at e1;have e4:co (t.e,-t.h - 2*S) (f.ts.map qp)≠0:=by rw[<-e1];exact hcn
  obtain⟨x,hx,hk⟩:=CH e4;obtain⟨u,hu,rfl⟩:=List.mem_map.1 hx;exact⟨u,hu,congrArg Prod.snd hk⟩
 have h2:=hr u hu;omega
structure jR (fm0:List (List Int)) (vs:List Qsm):Prop where
 len:vs.length=fm0.length
 ok:∀ f∈vs,aL f/\f.v=fm0.length
theorem wg (b:List Int):∀ x∈mnL b,0<=x:=fun x hx=>by
 obtain⟨y,_,rfl⟩:=List.mem_map.1 hx;omega
theorem wt (b:List Int):∀ x∈plL b,0<=x:=fun x hx=>by
 obtain⟨y,_,rfl⟩:=List.mem_map.1 hx;omega
theorem Ct {fm0 fm:List (List Int)} (hok0:bp fm0) (hlen:fm.length=fm0.length) {vs:List Qsm} (hv:jR fm0 vs) (hQ:QSt fm0 (vN vs) (at2 fm)) {e:List Int} (he:e.length=fm0.length) (hp:∀ x∈e,0<=x) (k:Nat):orF fm0 fm vs e k=if ∀ x∈e,x<=8 then (spF fm0 fm vs e).bind fun x=>okQ (shT (fP fm e k) x) else none:=by
 have h8:1<=fm0.length/\fm0.length<=8:=by have:=hok0.1;omega
 unfold orF spF
 by_cases hx:∀ x∈e,x<=8
 ·rw[if_pos hx,if_pos hx]
  cases ho:gy fm0 vs e (iJ fm0.length) with
  | none=>rfl
  | some P=>
   obtain⟨p1,p2,p3⟩:=tH h8 hv.len he ho;have hbar:=tf (e:=fun i=>(e.getD i 0).toNat) hok0 hQ.len hQ.bar hQ.com;have hS:=DK (fm:=fm) hp fm0.length he;unfold jZ at hbar;rw[<-hS] at hbar;have hb:Eqv (brq (shq (iN fm e) (qls P))) (shq (iN fm e) (qls P)):=(p3.shq.brq.trans hbar).trans p3.shq.symm;show okQ (shT (fP fm e k+iN fm e) P)=(okQ (shT (iN fm e) P)).bind fun x=>okQ (shT (fP fm e k) x);unfold okQ
   by_cases hr:aL (shT (fP fm e k+iN fm e) P)
   ·rw[if_pos hr,if_pos (FW p1 hb hr)];show _=if aL (shT (fP fm e k) (shT (iN fm e) P)) then _ else _;rw[AP,if_pos hr]
   ·rw[if_neg hr]
    by_cases hs:aL (shT (iN fm e) P)
    ·rw[if_pos hs];show _=if aL (shT (fP fm e k) (shT (iN fm e) P)) then _ else _;rw[AP,if_neg hr]
    ·rw[if_neg hs];rfl
 ·rw[if_neg hx,if_neg hx]
theorem oV {f g:Qsm} (h:okQ f=some g):aL f/\g=f:=by
 unfold okQ at h;split at h
 ·injection h with h
  exact⟨by assumption,h.symm⟩
 ·simp at h
theorem u9 {fm0 fm:List (List Int)} (hok0:bp fm0) {vs:List Qsm} (hv:jR fm0 vs) {e:List Int} (he:e.length=fm0.length) (hp:∀ x∈e,0<=x) {k:Nat} (hlen:fm.length=fm0.length) (hk:k < fm0.length) {q:Qsm} (h:orF fm0 fm vs e k=some q):aL q/\q.v=fm0.length/\Eqv (qls q) (shq (sm (fun r=>((e.getD r 0).toNat:Int)*at2 fm k r) fm0.length) (jZ fm0 (vN vs) (at2 fm) (fun i=>(e.getD i 0).toNat) fm0.length)):=by
 have h8:1<=fm0.length/\fm0.length<=8:=by have:=hok0.1;omega
 unfold orF at h;split at h
 ·cases ho:gy fm0 vs e (iJ fm0.length) with
  | none=>rw[ho] at h;simp at h
  | some P=>
   rw[ho] at h;obtain⟨p1,p2,p3⟩:=tH h8 hv.len he ho;obtain⟨r1,r2⟩:=oV h;subst r2;refine⟨r1,p2,?_⟩;rw[Gp];unfold jZ;rw[fR,<-DK hp fm0.length he,<-hlen,<-Gi hp (by omega),hlen,show iN fm e+fP fm e k=fP fm e k+iN fm e by omega];exact p3.shq
 ·simp at h
theorem Cy {N:Nat} {q:Qsm} (hN:1<=N/\N<=8) (hv:q.v=N):dJ ⟨N,[]⟩ q=if aL q then (q,true) else (cM,false):=by
 unfold dJ
 by_cases h:aL q
 ·rw[if_pos h,if_pos ⟨⟨by dsimp only;omega,by simp,by simp,by simp[ib]⟩,h,hv.symm⟩];have e:gaQ ([] ++ q.ts)=q.ts:=by
   rw[List.nil_append];unfold gaQ;rw[D2 h,zW]
  dsimp only;rw[e];unfold enQ;have e2:(⟨(N:Int),q.ts⟩:Qsm)=q:=by
   obtain⟨a,b⟩:=q;dsimp only at hv;rw[hv]
  rw[e2,if_pos h]
 ·rw[if_neg h,if_neg fun g=>h g.2.1]
theorem GW {fm0 fm:List (List Int)} (hok0:bp fm0) (hlen:fm.length=fm0.length) {vs:List Qsm} (hv:jR fm0 vs) (hQ:QSt fm0 (vN vs) (at2 fm)) {b:List Int} (hb:b.length=fm0.length) (k:Nat):exS fm0 fm b vs k=exQ fm0 fm b vs k:=by
 have h8:1<=fm0.length/\fm0.length<=8:=by have:=hok0.1;omega
 have e1:=Ct hok0 hlen hv hQ (e:=mnL b) (by simp[mnL,hb]) (wg b) k;have e2:=Ct hok0 hlen hv hQ (e:=plL b) (by simp[plL,hb]) (wt b) k;unfold exS exQ exH;rw[e1,e2];have spv:∀ e q,e.length=fm0.length->spF fm0 fm vs e=some q->q.v=fm0.length:=fun e q he hs=>by
  unfold spF at hs
  cases ho:gy fm0 vs e (iJ fm0.length) with
  | none=>rw[ho] at hs;simp at hs
  | some P=>
   rw[ho] at hs;obtain⟨_,r2⟩:=oV hs;rw[r2];exact (tH h8 hv.len he ho).2.1
 by_cases hm:∀ x∈mnL b,x<=8
 ·rw[if_pos hm,if_pos hm]
  cases hs1:spF fm0 fm vs (mnL b) with
  | none=>simp
  | some x=>
   have hxv:=spv _ x (by simp[mnL,hb]) hs1;dsimp only[Option.bind_some];rw[Cy h8 (by show x.v=_;exact hxv)];unfold okQ
   by_cases hr:aL (shT (fP fm (mnL b) k) x)
   ·rw[if_pos hr,if_pos hr];dsimp only[Option.bind_some];rw[if_pos rfl];dsimp only[Option.bind_some]
    by_cases hp:∀ x∈plL b,x<=8
    ·rw[if_pos hp,if_pos hp]
     cases hs2:spF fm0 fm vs (plL b) with
     | none=>simp
     | some y=>
      dsimp only[Option.bind_some]
      by_cases hr2:aL (shT (fP fm (plL b) k) y)
      ·rw[if_pos hr2];dsimp only;split <;> rfl
      ·rw[if_neg hr2];have:(dJ (shT (fP fm (mnL b) k) x) (shT (fP fm (plL b) k) y)).2=false:=by
        unfold dJ;rw[if_neg fun g=>hr2 g.2.1]
       rw[this];rfl
    ·rw[if_neg hp,if_neg hp];rfl
   ·rw[if_neg hr,if_neg hr];rfl
 ·rw[if_neg hm,if_neg hm];rfl
theorem D7 {fm0 fm:List (List Int)} {m p q:Mat} {k:Nat} (hok0:bp fm0) (hJ:FmJ m p fm) (hlen:fm.length=fm0.length) {vs:List Qsm} (hv:jR fm0 vs) (hQ:QSt fm0 (vN vs) (at2 fm)) (hk:k < m.n.toNat) {Z:Qsm} (h:exQ fm0 fm (kb p fm0.length k) vs k=some Z):jR fm0 (vs.set k Z)/\QSt fm0 (vN (vs.set k Z)) (at2 (mtL fm p k fm.length)):=by
 have hN:=hJ.len;have hkN:k < fm0.length:=by omega
 obtain⟨b,hb⟩:∃ b,b=kb p fm0.length k:=⟨_,rfl⟩;rw[<-hb] at h;have hbl:b.length=fm0.length:=by rw[hb];simp
 have hbg:∀ r,r < fm0.length->b.getD r 0=bM p r k:=fun r hr=>by
  have h1:r < b.length:=by omega
  have:b.getD r 0=b[r]:=by simp[List.getD_eq_getElem?_getD,h1]
  rw[this];simp only[hb];rw[tq _ _ _ _ hr]
 unfold exQ at h
 cases h1:orF fm0 fm vs (mnL b) k with
 | none=>rw[h1] at h;simp at h
 | some P=>
  cases h2:orF fm0 fm vs (plL b) k with
  | none=>rw[h1,h2] at h;simp at h
  | some Q=>
   rw[h1,h2] at h;dsimp only at h;split at h
   ·rename_i hs;split at h
    ·rename_i hd;injection h with h
     obtain⟨a1,a2,a3⟩:=u9 hok0 hv (e:=mnL b) (by simp[mnL,hbl]) (wg b) hlen hkN h1;obtain⟨c1,c2,c3⟩:=u9 hok0 hv (e:=plL b) (by simp[plL,hbl]) (wt b) hlen hkN h2;obtain⟨_,_,_,s1,s2,s3⟩:=D3 (P:=(dJ P Q).1) (Prod.ext rfl hs);obtain⟨d1,d2⟩:=Aa (r:=Z) (Prod.ext h hd);obtain⟨_,_,_,_,m1,_,_,m2⟩:=pK d2;have hZ:=Ha d1 m1;have hset:∀ i,i < fm0.length->vN (vs.set k Z) i=if i=k then qls Z else vN vs i:=fun i hi=>by
      unfold vN;rw[List.getD_eq_getElem?_getD,List.getElem?_set]
      by_cases e:i=k
      ·subst e;rw[if_pos rfl,if_pos (by rw[hv.len];exact hi),if_pos rfl];rfl
      ·rw[if_neg (fun q=>e q.symm),if_neg e,List.getD_eq_getElem?_getD]
     have hskew:=hJ.ok.skT;rw[hlen] at hskew;have hcmp:=hJ.cmp;rw[hlen] at hcmp;have hst:=hQ.step hok0 hkN (a:=fun i=>((mnL b).getD i 0).toNat) (b:=fun i=>((plL b).getD i 0).toNat) (Z:=qls Z) (L':=at2 (mtL fm p k fm.length)) hZ ?_ ?_ ?_ ?_ ?_
     ·refine⟨⟨by rw[List.length_set];exact hv.len,fun f hf=>?_⟩,?_⟩
      ·rcases List.mem_or_eq_of_mem_set hf with hf | rfl
       ·exact hv.ok f hf
       ·exact⟨d1,m1⟩
      ·refine⟨fun i hi=>?_,fun i hi j hj=>?_,fun i hi=>?_,fun i hi=>?_⟩
       ·rw[hset i hi];exact hst.len i hi
       ·rw[hset i hi,hset j hj];exact hst.com i hi j hj
       ·rw[hset i hi];exact hst.bar i hi
       ·rw[hset i hi];exact hst.pos i hi
     ·exact (m2.symm.trans s3).trans (a3.app c3)
     ·intro j hj hjk;have e0:=hcmp k hk j hj;rw[if_neg hjk] at e0;have e1:sm (fun r=>bM p r k*at2 fm r j) fm0.length=sm (fun r=>(((mnL b).getD r 0).toNat:Int)*at2 fm j r + -((((plL b).getD r 0).toNat:Int)*at2 fm j r)) fm0.length:=bT _ fun r hr=>by
       have g1:(((mnL b).getD r 0).toNat:Int)=max 0 (-(bM p r k)):=by
        have:(mnL b).getD r 0=max 0 (-(b.getD r 0)):=by
         simp[mnL,List.getD_eq_getElem?_getD,show r < b.length by omega]
        rw[this,hbg r hr];omega
       have g2:(((plL b).getD r 0).toNat:Int)=max 0 (bM p r k):=by
        have:(plL b).getD r 0=max 0 (b.getD r 0):=by
         simp[plL,List.getD_eq_getElem?_getD,show r < b.length by omega]
        rw[this,hbg r hr];omega
       rw[g1,g2,hskew r hr j hj];rcases Int.le_total 0 (bM p r k) with g | g
       ·rw[show max 0 (-(bM p r k))=0 by omega,show max 0 (bM p r k)=bM p r k by omega]
        grind
       ·rw[show max 0 (-(bM p r k))=-(bM p r k) by omega,show max 0 (bM p r k)=0 by omega]
        grind
      rw[e1,jk,nc] at e0;omega
     ·intro i hi j hj hik hjk;rw[mG (by omega) (by omega)];unfold mtT eV;rw[if_neg hik,if_neg hjk];exact DM _ (by omega) (by omega)
     ·intro j hj hjk;have e1:at2 (mtL fm p k fm.length) j k=sm (fun r=>(((plL b).getD r 0).toNat:Int)*at2 fm j r) fm0.length - at2 fm j k:=by
       rw[mG (by omega) (by omega)];unfold mtT eV;rw[if_neg hjk,if_pos rfl,wE _ _ (by omega),hlen];have:sm (fun r=>at2 fm j r*eC (bM p) k r) fm0.length=sm (fun r=>(((plL b).getD r 0).toNat:Int)*at2 fm j r + -(dl k r*at2 fm j r)) fm0.length:=bT _ fun r hr=>by
        have g2:(((plL b).getD r 0).toNat:Int)=max 0 (bM p r k):=by
         have:(plL b).getD r 0=max 0 (b.getD r 0):=by
          simp[plL,List.getD_eq_getElem?_getD,show r < b.length by omega]
         rw[this,hbg r hr];omega
        rw[g2];unfold eC dl
        by_cases g:r=k
        ·rw[if_pos g,if_pos g]
         grind
        ·rw[if_neg g,if_neg g]
         grind
       rw[this,jk,nc,uk k _ hkN];omega
      refine⟨e1,?_⟩;rw[mG (by omega) (by omega),mG (by omega) (by omega)];exact EO hJ.ok.skT k (by omega) j (by omega)
     ·rw[mG (by omega) (by omega)];exact D6 hJ.ok.skT _
    ·simp at h
   ·simp at h
def fq (N:Nat):List Qsm:=(List.range N).map fun i=>⟨N,[⟨ci N i,0,1⟩]⟩
theorem nU {N i:Nat} (h:1<=N/\N<=8):aL ⟨N,[⟨ci N i,0,1⟩]⟩:=by
 refine⟨by dsimp only;omega,by simp,fun t ht=>?_,by simp[ib]⟩;rw[List.mem_singleton] at ht;subst ht;refine⟨by rw[bq],by simp,by simp,by simp,fun x hx=>?_⟩;rcases kn hx with rfl | rfl <;> omega
theorem Er {N i:Nat} (hi:i < N):(fq N).getD i cM=⟨N,[⟨ci N i,0,1⟩]⟩:=by
 simp[fq,List.getD_eq_getElem?_getD,hi]
theorem FT {fm0:List (List Int)} (hok:bp fm0):jR fm0 (fq fm0.length)/\QSt fm0 (vN (fq fm0.length)) (at2 fm0):=by
 have h8:1<=fm0.length/\fm0.length<=8:=by have:=hok.1;omega
 refine⟨⟨by simp[fq],fun f hf=>?_⟩,?_⟩
 ·obtain⟨i,_,rfl⟩:=List.mem_map.1 hf;exact⟨nU h8,rfl⟩
 ·have hx:∀ i,i < fm0.length->vN (fq fm0.length) i=[((ci fm0.length i,0),1)]:=fun i hi=>by
   unfold vN;rw[Er hi];rfl
  refine⟨fun i hi=>?_,fun i hi j hj=>?_,fun i hi=>?_,fun i hi=>?_⟩
  ·rw[hx i hi];intro x hx;rw[List.mem_singleton] at hx;rw[hx];exact bq _ _
  ·rw[hx i hi,hx j hj];have e:∀ i j,i < fm0.length->j < fm0.length->skw fm0 (ci fm0.length i) (ci fm0.length j)=at2 fm0 i j:=fun i j hi hj=>by
    rw[wx];rw[kw (c:=dl i) (d:=dl j) (fun r hr=>rV hi hr) (fun r hr=>rV hj hr),DM _ hi hj]
   refine Eqv.of_eq ?_;have hsk:=hok.skT i hi j hj;simp only[prq,cV,eY,shq,List.flatMap_cons,List.flatMap_nil,List.map_cons,List.map_nil,List.append_nil,qm2,e i j hi hj,e j i hj hi];rw[mC _ _ (by rw[bq,bq])];congr 3;omega
  ·rw[hx i hi];refine Eqv.of_eq ?_;simp[brq,qn]
  ·rw[hx i hi];simp[sq,vl]
noncomputable def qvL (m:Mat) (ws:List Mat) (ks:List Int):Nat->Option (List Qsm)
 | 0=>some (fq (foL m).length)
 | t+1=>match qvL m ws ks t,fcL m ws ks t with
  | some vs,some f=>(exQ (foL m) f (kb (ws.getD t zM) (foL m).length (ks.getD t 0).toNat) vs (ks.getD t 0).toNat).map fun Z=>vs.set (ks.getD t 0).toNat Z
  | _,_=>none
noncomputable def qvF (m:Mat) (ks:List Int):List Qsm×Bool:=match wkF m ks with
 | none=>([],false)
 | some ws=>match fcL m ws ks ks.length,qvL m ws ks ks.length with
  | some _,some vs=>(vs,true)
  | _,_=>([],false)
theorem zu {m:Mat} {ws:List Mat} {ks:List Int} {n i:Nat} (h:qvL m ws ks n=none) (hi:n<=i):qvL m ws ks i=none:=by
 induction i with
 | zero=>
  obtain rfl:n=0:=by omega
  exact h
 | succ i ih=>
  by_cases q:n=i+1
  ·exact q ▸ h
  ·simp only[qvL,ih (by omega)]
theorem sa {m:Mat} {ws:List Mat} {ks:List Int} {t:Nat} {f:List (List Int)} (h:fcL m ws ks t=some f):(foF m).2=true:=by
 cases h0:fcL m ws ks 0 with
 | none=>
  rw[lg h0 (Nat.zero_le t)] at h;simp at h
 | some g=>
  simp only[fcL] at h0;split at h0
  ·assumption
  ·simp at h0
theorem oe {m:Mat} (h:(foF m).2=true):dO m/\bp (foL m)/\(foF m).1=foL m:=by
 unfold foF at h ⊢
 by_cases q:dO m/\bp (foL m)
 ·rw[if_pos q];exact⟨q.1,q.2,rfl⟩
 ·rw[if_neg q] at h;simp at h
theorem rB {m:Mat} {ks:List Int} {ws:List Mat} (hw:wkF m ks=some ws) (hm:ct m.n.toNat (bM m) (dsM m)):∀ {t:Nat} {f:List (List Int)} {vs:List Qsm},t<=ks.length->fcL m ws ks t=some f->qvL m ws ks t=some vs->FmJ m (ws.getD t zM) f/\f.length=(foL m).length/\bp (foL m)/\jR (foL m) vs/\QSt (foL m) (vN vs) (at2 f)
 | 0,f,vs,ht,hf,hv=>by
  have hJ:=zG hw hm ht hf;obtain⟨q1,q2,q3⟩:=oe (sa hf);simp only[fcL] at hf;rw[if_pos (sa (m:=m) (ws:=ws) (ks:=ks) (t:=0) (f:=f) (by simp only[fcL];exact hf)),q3] at hf;injection hf with hf
  simp only[qvL,Option.some.injEq] at hv;subst hv;subst hf;obtain⟨i1,i2⟩:=FT q2;exact⟨hJ,rfl,q2,i1,i2⟩
 | t+1,f,vs,ht,hf,hv=>by
  have hJ:=zG hw hm ht hf;simp only[qvL] at hv;split at hv
  ·rename_i vs0 f0 hv0 hf0;obtain⟨j0,j1,j2,j3,j4⟩:=rB hw hm (by omega) hf0 hv0;obtain⟨Z,hZ,rfl⟩:=Option.map_eq_some_iff.1 hv;have hkb:=(mZ hw).2.2.2.2 t (by omega);simp only[fcL,hf0] at hf;split at hf
   ·rename_i hmf;injection hf with hf
    obtain⟨_,_,_,_,_,g6⟩:=yk (fm:=f0) (g:=f) (m:=ws.getD t zM) (k:=ks.getD t 0) (by rw[<-hf,<-hmf]);obtain⟨k1,k2⟩:=D7 (q:=ws.getD t zM) j2 j0 j1 j3 j4 (by omega) hZ;rw[<-g6] at k2;refine⟨hJ,?_,j2,k1,k2⟩;rw[g6];simp[mtL,j1]
   ·simp at hf
  ·simp at hv
theorem zB (t:Qsm):(qS t).length=2:=rfl
theorem ro (t:Qsm):(qO t).length=2:=rfl
@[simp] theorem Kk (l:List Qsm):(rows qS l).length=2*l.length:=cn zB l
@[simp] theorem Kj (l:List Qsm):(rows qO l).length=2*l.length:=cn ro l
@[simp] theorem K4 (l:List Qsm):shareL (rows qO l)=rows qS l:=by
 rw[jx];congr 1;funext t;simp[qO,qS,shareL,eX]
@[simp] theorem MD (l:List Qsm):noShL (rows qO l):=iF (fun t=>by simp[qO,noShL,ij]) l
section
variable {l:List Qsm} {i:Nat}
theorem gL (h:i < l.length):(rows qS l)[2*i]? = some (D.int l[i].v)/\∀ h',(rows qS l)[2*i]'h'=D.int l[i].v:=fi (dp zB l i 0 h (by omega))
theorem gJ (h:i < l.length):(rows qS l)[2*i+1]? = some (.sh 3 l[i].ts.length (rows qtS l[i].ts))/\∀ h',(rows qS l)[2*i+1]'h' = .sh 3 l[i].ts.length (rows qtS l[i].ts):=fi (dp zB l i 1 h (by omega))
theorem q8 (h:i < l.length):(rows qO l)[2*i]? = some (D.int l[i].v)/\∀ h',(rows qO l)[2*i]'h'=D.int l[i].v:=fi (dp ro l i 0 h (by omega))
theorem rt (h:i < l.length):(rows qO l)[2*i+1]? = some (.ow 3 l[i].ts.length (rows qtO l[i].ts))/\∀ h',(rows qO l)[2*i+1]'h' = .ow 3 l[i].ts.length (rows qtO l[i].ts):=fi (dp ro l i 1 h (by omega))
theorem Br (h:i < l.length) (f:Qsm):((rows qO l).set (2*i) (.v (.int .i64 f.v))).set (2*i+1) (.ow 3 f.ts.length (rows qtO f.ts))=rows qO (l.set i f):=xH ro l i _ _ _ h rfl
end
theorem AS (l:List Qsm) (f:Qsm):rows qO l ++ [D.v (.int .i64 f.v),D.ow 3 f.ts.length (rows qtO f.ts)]=rows qO (l ++ [f]):=by
 rw[dT];rfl
theorem gF {f:Qsm} (h:aL f):SmQ f:=by
 refine⟨by have:=h.2.1;omega,fun t ht=>?_⟩;have h1:=(h.2.2.1 t ht).1;have:=h.1;omega
theorem ne:SmQ cM:=⟨by simp[cM],by simp[cM]⟩
def OrW (o:Option Qsm) (outs:List D) (res:List RV):Prop:=outs=[]/\∃ p:Qsm,SmQ p/\eb res [.ag (qO p),.one (D.bool o.isSome)]/\∀ q,o=some q->p=q
theorem OrW.no {o:Option Qsm} (h:o=none):OrW o [] [.ag [D.int 0,.v (.slice none 0 0)],.one (D.bool false)]:=⟨rfl,cM,ne,by rw[h];simp[qO,cM,rows],fun q hq=>by rw[h] at hq;simp at hq⟩
theorem OrW.fin {o:Option Qsm} {p:Qsm} (hs:SmQ p) (h:o=okQ p):OrW o [] [.ag [D.int p.v,.ow 3 p.ts.length (rows qtO p.ts)],.one (D.bool (decide (aL p)))]:=by
 refine⟨rfl,p,hs,?_,fun q hq=>?_⟩
 ·rw[h];unfold okQ
  by_cases hr:aL p
  ·rw[if_pos hr];simp[qO,hr]
  ·rw[if_neg hr];simp[qO,hr]
 ·rw[h] at hq;exact (oV hq).2.symm
theorem OrW.weak {P:Program} {f:Nat} {args:List FV} {ros:List (Rn×D)} {pure:Bool} {o:Option Qsm} (h:af P f args ros pure (OrW o)):af P f args ros pure (fun outs res=>outs=[]/\∃ p:Qsm,SmQ p/\res=[.ag (qO p),.one (D.bool o.isSome)]/\∀ q,o=some q->p=q):=
 h.weak fun outs res ⟨h1,p,h2,h3,h4⟩=>⟨_,h3,h1,p,h2,rfl,h4⟩
def sh1 (s:Int) (t:Qtm):Qtm:=⟨t.e,t.h+s,t.c⟩
def iu (s:Int) (ts:List Qtm) (j:Nat):List Qtm:=(ts.map (sh1 s)).take j ++ ts.drop j
@[simp] theorem lM (s:Int) (ts:List Qtm) (j:Nat) (h:j<=ts.length):(iu s ts j).length=ts.length:=by
 simp[iu];omega
theorem nv (s:Int) (ts:List Qtm):iu s ts 0=ts:=by simp[iu]
theorem tI (s:Int) (ts:List Qtm):iu s ts ts.length=ts.map (sh1 s):=by
 unfold iu;rw[List.drop_length,List.append_nil,List.take_of_length_le (by simp)]
theorem sY {s:Int} {ts:List Qtm} {j:Nat} (h:j < ts.length):∃ h2:j < (iu s ts j).length,(iu s ts j)[j]=ts[j]:=by
 refine⟨by rw[lM _ _ _ (by omega)];exact h,?_⟩;unfold iu;rw[List.getElem_append_right (by simp;omega)];simp[Nat.min_eq_left (show j<=ts.length by omega)]
theorem tQ {s:Int} {ts:List Qtm} {j:Nat} (h:j < ts.length):(iu s ts j).set j (sh1 s ts[j])=iu s ts (j+1):=by
 unfold iu;rw[List.set_append_right _ _ (by simp;omega),List.take_succ_eq_append_getElem (by simpa using h)];simp only[List.length_take,List.length_map,Nat.min_eq_left (show j<=ts.length by omega),Nat.sub_self];rw[List.drop_eq_getElem_cons h,List.set_cons_zero,List.append_assoc,List.getElem_map];rfl
theorem wG {f:Qsm} (h:SmQ f) (s:Int):SmQ (shT s f):=by
 refine⟨by simpa[Ab.shT] using h.1,fun t ht=>?_⟩;obtain⟨u,hu,rfl⟩:=List.mem_map.1 ht;exact h.2 u hu
def trm (fm:List (List Int)) (e:List Int) (i j:Nat):Int:=e.getD i 0*e.getD j 0*at2 fm i j
theorem CB {fm:List (List Int)} {e:List Int} {i j:Nat} (hi:i < e.length) (hj:j < e.length) (h1:i < fm.length) (h2:j < fm[i].length):trm fm e i j=e[i]*e[j]*fm[i][j]:=by
 unfold trm;rw[gO hi,gO hj,l5 h1 h2]
theorem qA {fm:List (List Int)} (hok:bp fm) {e:List Int} (hb:∀ x∈e,0<=x/\x<=99) {i j:Nat} (hi:i < e.length) (hj:j < e.length) (h1:i < fm.length) (h2:j < fm.length):(trm fm e i j).natAbs<=99*99*99:=by
 unfold trm;rw[gO hi,gO hj];have a1:=hb _ (List.getElem_mem hi);have a2:=hb _ (List.getElem_mem hj);have a3:=(hok.2.2 i h1 j h2).1;exact nu (nu (by omega) (by omega)) (by omega)
theorem Bs {fm:List (List Int)} (hok:bp fm) {e:List Int} (he:e.length=fm.length) (hb:∀ x∈e,0<=x/\x<=99) {k:Nat} (hk:k < fm.length):(fP fm e k).natAbs<=8*(8*(1*99*99)):=by
 have hl:=hok.1;have h1:=GH (fm:=fm) (a:=ci fm.length k) (b:=e) (F:=99) (E:=1) (E':=99) (fun i hi j hj=>by have:=(hok.2.2 i hi j hj).1;omega) (bq _ _) he (fun x hx=>by rcases kn hx with rfl | rfl <;> omega) (fun x hx=>by have:=hb x hx;omega);unfold fP;have h2:fm.length*(1*99*99)<=8*(1*99*99):=Nat.mul_le_mul_right _ (by omega);have h3:fm.length*(fm.length*(1*99*99))<=8*(8*(1*99*99)):=Nat.mul_le_mul (by omega) h2;omega
theorem rP {fm:List (List Int)} (hok:bp fm) {e:List Int} (he:e.length=fm.length) (hb:∀ x∈e,0<=x/\x<=99) (x:Nat) (hx:x<=e.length):(sm (fun i=>sm (trm fm e i) i) x).natAbs<=8*(8*(99*99*99)):=by
 have hl:=hok.1;refine Nat.le_trans (mE (M:=8*(99*99*99)) x fun i hi=>?_) (Nat.mul_le_mul_right _ (by omega));exact Nat.le_trans (mE i fun j hj=>qA hok hb (by omega) (by omega) (by omega) (by omega)) (Nat.mul_le_mul_right _ (by omega))
end Go.Proofs.YtncfmemhjahpeaaGreat.Ab
namespace Go.Proofs.YtncfmemhjahpeaaGreat.Ab
open Go
set_option maxRecDepth 10000
set_option maxHeartbeats 2000000
noncomputable def moQ (e:List Int) (h:Int):Qsm:=if aL ⟨e.length,[⟨e,h,1⟩]⟩ then ⟨e.length,[⟨e,h,1⟩]⟩ else cM
theorem te (e:List Int) (h:Int) (hx:e.length < 17592186044416):af Tryz.prog F.cG [.d (shI e),.int h] [] true (fun outs res=>outs=[]/\eb res [.ag (qO (moQ e h))]):=by
 have hok:=cZ ⟨e.length,[⟨e,h,1⟩]⟩ (by simp) (fun t ht=>by rw[List.mem_singleton] at ht;subst ht;dsimp only;omega);simp only[aQ,List.length_singleton,rows,qtS,List.append_nil] at hok;refine af.ob (C:=C.cG) (n:=Tryz.f37.ntmps) bC bD Tryz.func37 rfl rfl ?_;simp only[Tryz.f37];apply aa;refine ab fun K hK=>?_;simp[C.cG];apply hK;clear hK K;show AWp _ _ _ _ _;apply aa;refine aK ([0,1,2,3] ++ ([4,5,6,7,8,9])) rfl fun K hK=>?_;refine oSg fun L hL=>?_;simp[C.cG];refine ae (rR e hx) (by simp) (by simp) ?_;simp[C.cG];apply hL;clear hL L;refine oEn fun L hL=>?_;simp[C.cG];apply hL;clear hL L;simp[C.cG];apply hK;clear hK K;show AWp _ _ _ _ _;apply aa;apply aa;refine aK ([0,1] ++ ([2])) rfl fun K hK=>?_;refine oSg fun L hL=>?_;simp[C.cG,di];refine ae (hok) (by simp) (by simp) ?_;simp[C.cG,di];apply hL;clear hL L;refine oEn fun L hL=>?_;simp[C.cG,di];apply hL;clear hL L;simp[C.cG,di];apply hK;clear hK K;show AWp _ _ _ _ _;refine ap _ rfl (fun hc1=>?_) (fun hc1=>?_)
 ·have hr:¬ aL ⟨e.length,[⟨e,h,1⟩]⟩:=by simpa using hc1
  apply aa;refine ab fun K hK=>?_;simp[C.cG];apply hK;clear hK K;show AWp _ _ _ _ _;apply aI;simp[C.cG,moQ,hr,qO,cM,rows]
 ·have hr:aL ⟨e.length,[⟨e,h,1⟩]⟩:=by simpa using hc1
  apply au;show AWp _ _ _ _ _;apply aa;refine ab fun K hK=>?_;simp[C.cG];apply hK;clear hK K;show AWp _ _ _ _ _;apply aI;simp[C.cG,moQ,hr,qO,rows,qtO]
theorem Df (e:List Int) (h:Int) (hx:e.length < 17592186044416):af Tryz.prog F.cG [.d (shI e),.int h] [] true (fun outs res=>outs=[]/\res=[.ag (qO (moQ e h))]):=(te e h hx).weak1
theorem tU (e:List Int) (h:Int) (hx:e.length < 17592186044416):af Tryz.prog F.cD [.d (shI e),.int h] [] true (fun outs res=>outs=[]/\eb res [.ag (qO (moQ e h))]):=by
 have hok:=cY ⟨e.length,[⟨e,h,1⟩]⟩ (by simp) (fun t ht=>by rw[List.mem_singleton] at ht;subst ht;dsimp only;omega);simp only[aQ,List.length_singleton,rows,qtS,List.append_nil] at hok;refine af.ob (C:=C.cD) (n:=Tryz.f54.ntmps) bC bD Tryz.func54 rfl rfl ?_;simp only[Tryz.f54];apply aa;refine ab fun K hK=>?_;simp[C.cD];apply hK;clear hK K;show AWp _ _ _ _ _;apply aa;refine aK ([0,1,2,3] ++ ([4,5,6,7,8,9])) rfl fun K hK=>?_;refine oSg fun L hL=>?_;simp[C.cD];refine ae (iV e hx) (by simp) (by simp) ?_;simp[C.cD];apply hL;clear hL L;refine oEn fun L hL=>?_;simp[C.cD];apply hL;clear hL L;simp[C.cD];apply hK;clear hK K;show AWp _ _ _ _ _;apply aa;apply aa;refine aK ([0,1] ++ ([2])) rfl fun K hK=>?_;refine oSg fun L hL=>?_;simp[C.cD,di];refine ae (hok) (by simp) (by simp) ?_;simp[C.cD,di];apply hL;clear hL L;refine oEn fun L hL=>?_;simp[C.cD,di];apply hL;clear hL L;simp[C.cD,di];apply hK;clear hK K;show AWp _ _ _ _ _;refine ap _ rfl (fun hc1=>?_) (fun hc1=>?_)
 ·have hr:¬ aL ⟨e.length,[⟨e,h,1⟩]⟩:=by simpa using hc1
  apply aa;refine ab fun K hK=>?_;simp[C.cD];apply hK;clear hK K;show AWp _ _ _ _ _;apply aI;simp[C.cD,moQ,hr,qO,cM,rows]
 ·have hr:aL ⟨e.length,[⟨e,h,1⟩]⟩:=by simpa using hc1
  apply au;show AWp _ _ _ _ _;apply aa;refine ab fun K hK=>?_;simp[C.cD];apply hK;clear hK K;show AWp _ _ _ _ _;apply aI;simp[C.cD,moQ,hr,qO,rows,qtO]
theorem Cr (e:List Int) (h:Int) (hx:e.length < 17592186044416):af Tryz.prog F.cD [.d (shI e),.int h] [] true (fun outs res=>outs=[]/\res=[.ag (qO (moQ e h))]):=(tU e h hx).weak1
theorem z8 {N:Nat} (h:1<=N/\N<=8):moQ (List.replicate N 0) 0=iJ N:=by
 have:=mt h;unfold moQ;rw[List.length_replicate];exact if_pos this
theorem yL {N i:Nat} (h:1<=N/\N<=8):moQ (ci N i) 0=⟨N,[⟨ci N i,0,1⟩]⟩:=by
 have:=nU (i:=i) h;unfold moQ;rw[bq];exact if_pos this
set_option maxRecDepth 10000
set_option maxHeartbeats 2000000
def SgM (m:Mat) (i j:Nat):Prop:=(0 < bM m i j↔bM m j i < 0)/\(bM m i j=0↔bM m j i=0)
def SzM (m:Mat):Prop:=ShM m/\∀ i j,i < m.n.toNat->j < m.n.toNat->SgM m i j
noncomputable instance (m:Mat):Decidable (SzM m):=Classical.propDecidable _
theorem Lo {m:Mat} (hS:ShM m):m.d.length<=40:=by
 have h1:=hS.2.2.1;have h2:=hS.1;have h3:=hS.2.1;have:m.n*m.r<=5*8:=Int.mul_le_mul (by omega) (by omega) (by omega) (by omega);omega
theorem dU (m:Mat) (n r i j:Nat) (hn:m.n=n) (hr:m.r=r) (hS:ShM m) (hi:i < r) (hj:j < n):af Tryz.prog F.kg [.ag [.int n,.int r,.d (shI m.d)],.int i,.int j] [] true (fun outs res=>outs=[]/\res=[.one (D.int (bM m i j))]):=by
 obtain⟨hqL,he⟩:=oB hS (i:=i) (j:=j) (by omega) (by omega);have hnn:m.n.toNat=n:=by omega
 have hL:=Lo hS;rw[hnn] at hqL;have he2:m.d[i*n+j]=bM m i j:=by rw[<-he];congr 1;rw[hnn]
 refine af.ob (C:=C.kg) (n:=Tryz.f107.ntmps) bC bD Tryz.func107 rfl rfl ?_;simp only[Tryz.f107];apply aa;refine ab fun K hK=>?_;simp[C.kg];apply hK;clear hK K;show AWp _ _ _ _ _;apply aa;have h0:((i:Int)*n)=((i*n:Nat):Int):=by simp
 have h1:IntKind.i64.wrap ((i:Int)*n)=(i:Int)*n:=by
  rw[h0,aj (by omega) (by omega)]
 obtain⟨q,hq⟩:∃ q,q=i*n+j:=⟨_,rfl⟩;have h2:IntKind.i64.wrap ((i:Int)*n+j)=(q:Int):=by
  rw[h0,aj (by omega) (by omega)];omega
 simp only[<-hq] at he2 hqL;refine ab fun K hK=>?_;simp[C.kg,h1,h2,hqL,ao,he2];apply hK;clear hK K;show AWp _ _ _ _ _;apply aI;simp[C.kg]
theorem mU (x:Int) (hx:-4611686018427387904 < x/\x < 4611686018427387904):af Tryz.prog F.jH [.int x] [] true (fun outs res=>outs=[]/\res=[.one (D.int (x.natAbs:Int))]):=by
 refine af.ob (C:=C.jH) (n:=Tryz.f166.ntmps) bC bD Tryz.func166 rfl rfl ?_;simp only[Tryz.f166];apply aa;refine ab fun K hK=>?_;simp[C.jH];apply hK;clear hK K;show AWp _ _ _ _ _;apply aa;refine ab fun K hK=>?_;simp[C.jH,aj (x:=-x) (by omega) (by omega)];apply hK;clear hK K;show AWp _ _ _ _ _;apply aI;have hm:max x (-x)=(x.natAbs:Int):=by omega
 simp[C.jH,hm]
theorem yO (a b:Int) (ha:0<=a/\a < 4611686018427387904) (hb:0<=b/\b < 4611686018427387904):af Tryz.prog F.fX [.int a,.int b] [] true (fun outs res=>outs=[]/\res=[.one (D.int (Int.gcd a b:Int))]):=by
 refine af.ob (C:=C.fX) (n:=Tryz.f167.ntmps) bC bD Tryz.func167 rfl rfl ?_;simp only[Tryz.f167];apply aa;refine ab fun K hK=>?_;simp[C.fX];apply hK;clear hK K;show AWp _ _ _ _ _;apply aa;apply ak;refine bm (fun x:Int×Int=>⟨ofL [(0,.int x.1),(1,.int x.2)],aF []⟩) (fun x=>Int.gcd x.1 x.2=Int.gcd a b/\(0<=x.1/\x.1 < 4611686018427387904)/\(0<=x.2/\x.2 < 4611686018427387904)) (fun x=>x.2.natAbs) (a,b) (by simp[C.fX]) ⟨rfl,ha,hb⟩ ?_;intro x1 hx1 R1 hR1;obtain⟨p,q⟩:=x1;obtain⟨hg,hp,hq⟩:=hx1;dsimp only at hg hp hq ⊢;apply aa;apply aa;refine ab fun K hK=>?_;simp[C.fX];apply hK;clear hK K;show AWp _ _ _ _ _;refine ap _ rfl (fun hc1=>?_) (fun hc1=>?_)
 ·apply au;show AWp _ _ _ _ _;apply ak;have hq0:q≠0:=by simpa using hc1
  refine eG (.take 0 (.take 1 (.take 2 (.take 3 (.take 4 (.take 5 (.done))))))) ⟨by kernel_rfl,by kernel_rfl⟩ fun K hK=>?_;simp[C.fX,hq0];apply hK;clear hK K;simp[C.fX];have hn:(p.tmod q).natAbs < q.natAbs:=by rw[Int.natAbs_tmod];exact Nat.mod_lt _ (by omega)
  refine hR1 (q,p.tmod q) ⟨?_,hq,by dsimp only;have:=Int.tmod_nonneg q hp.1;omega⟩ hn;rw[<-hg];unfold Int.gcd;rw[Int.natAbs_tmod,Nat.gcd_comm p.natAbs,Nat.gcd_rec q.natAbs p.natAbs,Nat.gcd_comm]
 ·apply aZ;show AWp _ _ _ _ _;apply aa;have hq0:q=0:=by simpa using hc1
  subst hq0;refine ab fun K hK=>?_;simp[C.fX];apply hK;clear hK K;show AWp _ _ _ _ _;apply aI;have hpg:p=(Int.gcd a b:Int):=by rw[<-hg];simp[Int.gcd];omega
  simp[C.fX,hpg]
theorem yS (P:List Nat) (j:Nat) (hP:P.length < 4611686018427387904):af Tryz.prog F.eA [.d (.sh 1 P.length (ints (cN P))),.int j] [] true (fun outs res=>outs=[]/\res=[.one (D.bool (decide (j∈P)))]):=by
 refine af.ob (C:=C.eA) (n:=Tryz.f193.ntmps) bC bD Tryz.func193 rfl rfl ?_;simp only[Tryz.f193];apply aa;refine ab fun K hK=>?_;simp[C.eA];apply hK;clear hK K;show AWp _ _ _ _ _;apply aa;apply aa;refine ab fun K hK=>?_;simp[C.eA];apply hK;clear hK K;show AWp _ _ _ _ _;apply ak;refine bm (fun x:Nat=>⟨ofL [(0,.d (.sh 1 P.length (ints (cN P)))),(1,.int j),(5,.int x)],aF []⟩) (fun x=>x<=P.length/\j ∉ P.take x) (fun x=>P.length - x) 0 (by simp[C.eA]) (by simp) ?_;intro x1 hx1 R1 hR1;obtain⟨ht,hno⟩:=hx1;apply aa;apply aa;refine ab fun K hK=>?_;simp[C.eA];apply hK;clear hK K;show AWp _ _ _ _ _;refine ap _ rfl (fun hc1=>?_) (fun hc1=>?_)
 ·have h1:x1 < P.length:=by have:=d_t hc1;omega
  apply au;show AWp _ _ _ _ _;apply aa;apply ak;apply aa;refine ab fun K hK=>?_;simp[C.eA,h1,ao,bU h1,kN];apply hK;clear hK K;show AWp _ _ _ _ _;refine ap _ rfl (fun hc2=>?_) (fun hc2=>?_)
  ·have e:P[x1]=j:=by simpa using hc2
   apply aa;refine ab fun K hK=>?_;simp[C.eA];apply hK;clear hK K;show AWp _ _ _ _ _;apply aI;simp[C.eA];rw[<-e];exact List.getElem_mem h1
  ·have e:¬ P[x1]=j:=by simpa using hc2
   apply au;show AWp _ _ _ _ _;refine ab fun K hK=>?_;simp[C.eA,ay (show x1 < 4611686018427387904 by omega)];apply hK;clear hK K;simp[C.eA];refine hR1 (x1+1) ⟨h1,fun h=>?_⟩ (by omega);rcases (gl h1 j).1 h with h | h
   ·exact hno h
   ·exact e h.symm
 ·have h1:x1=P.length:=by have:=d_f hc1;omega
  rw[h1,List.take_length] at hno;apply aZ;show AWp _ _ _ _ _;apply aa;refine ab fun K hK=>?_;simp[C.eA];apply hK;clear hK K;show AWp _ _ _ _ _;apply aI;simp[C.eA,hno]
theorem oE (m:Mat) (hx:m.d.length < 17592186044416):af Tryz.prog F.aT [aM m] [] true (fun outs res=>outs=[]/\res=[.one (D.bool (decide (SzM m)))]):=by
 refine af.ob (C:=C.aT) (n:=Tryz.f142.ntmps) bC bD Tryz.func142 rfl rfl ?_;simp only[Tryz.f142];apply aa;refine ab fun K hK=>?_;simp[C.aT];apply hK;clear hK K;show AWp _ _ _ _ _;apply aa;apply aa;refine aK ([0,1,2] ++ ([3,4,5,6,7,8,9] ++ ([10,11,12,13,14,15,16,17,18,19,20,21,22]))) rfl fun K hK=>?_;have hJ:K ⟨ofL [(1,.pt (1,0) [] 0),(30,.bool (!decide ((1<=m.n/\m.n<=5)/\(m.n<=m.r/\m.r<=8)/\(m.d.length:Int)=m.n*m.r)))],aF [((1,0),some (.bx [D.int m.n,D.int m.r,shI m.d]))]⟩:=by
  apply hK;clear hK K;show AWp _ _ _ _ _;refine ap _ rfl (fun hc1=>?_) (fun hc1=>?_)
  ·have hr:=gk hc1;have hno:¬ SzM m:=fun h=>hr ⟨h.1.1,h.1.2.1,h.1.2.2.1⟩;apply aa;refine ab fun K hK=>?_;simp[C.aT];apply hK;clear hK K;show AWp _ _ _ _ _;apply aI;simp[C.aT,hno]
  ·have hr:=gw hc1;obtain⟨h1,h2,h3⟩:=hr;obtain⟨n,hn⟩:∃ n:Nat,m.n=n:=⟨m.n.toNat,by omega⟩;obtain⟨r,hr⟩:∃ r:Nat,m.r=r:=⟨m.r.toNat,by omega⟩;have hnn:m.n.toNat=n:=by omega
   apply au;show AWp _ _ _ _ _;apply aa;apply aa;refine ab fun K hK=>?_;simp[C.aT];apply hK;clear hK K;show AWp _ _ _ _ _;apply ak;refine bm (fun x:Nat=>⟨ofL [(1,.pt (1,0) [] 0),(3,.int x)],aF [((1,0),some (.bx [D.int n,D.int r,shI m.d]))]⟩) (fun x=>x<=m.d.length/\∀ y∈m.d.take x,-99<=y/\y<=99) (fun x=>m.d.length - x) 0 (by simp[C.aT,hn,hr]) (by simp) ?_;intro x1 hx1 R1 hR1;obtain⟨ht,hall⟩:=hx1;apply aa;apply aa;refine ab fun K hK=>?_;simp[C.aT];apply hK;clear hK K;show AWp _ _ _ _ _;refine ap _ rfl (fun hc2=>?_) (fun hc2=>?_)
   ·have hi:x1 < m.d.length:=by have:=d_t hc2;omega
    apply au;show AWp _ _ _ _ _;apply aa;apply ak;apply aa;refine aK ([0,1,2,3,4,5] ++ ([6])) rfl fun K hK=>?_;refine oSg fun L hL=>?_;simp[C.aT,hi,ao];refine ae (ca m.d[x1] (-99) 99) (by simp) (by simp) ?_;simp[C.aT,hi,ao];apply hL;clear hL L;refine oEn fun L hL=>?_;simp[C.aT,hi,ao];apply hL;clear hL L;simp[C.aT,hi,ao];apply hK;clear hK K;show AWp _ _ _ _ _;refine ap _ rfl (fun hc3=>?_) (fun hc3=>?_)
    ·have hbad:¬ (-99<=m.d[x1]/\m.d[x1]<=99):=by simp at hc3;omega
     have hno:¬ SzM m:=fun h=>hbad (h.1.2.2.2 _ (List.getElem_mem hi));apply aa;refine ab fun K hK=>?_;simp[C.aT];apply hK;clear hK K;show AWp _ _ _ _ _;apply aI;simp[C.aT,hno]
    ·have hgood:-99<=m.d[x1]/\m.d[x1]<=99:=by simp at hc3;omega
     apply au;show AWp _ _ _ _ _;refine ab fun K hK=>?_;simp[C.aT,ay (show x1 < 4611686018427387904 by omega)];apply hK;clear hK K;simp[C.aT];refine hR1 (x1+1) ⟨hi,fun y hy=>?_⟩ (by omega);rw[List.take_succ_eq_append_getElem hi] at hy;rcases List.mem_append.1 hy with hy | hy
     ·exact hall y hy
     ·rw[List.mem_singleton] at hy;rw[hy];exact hgood
   ·have hi:x1=m.d.length:=by have:=d_f hc2;omega
    rw[hi,List.take_length] at hall;have hS:ShM m:=⟨h1,h2,h3,hall⟩;clear ht hi hc2;apply aZ;show AWp _ _ _ _ _;apply aa;apply aa;refine ab fun K hK=>?_;simp[C.aT];apply hK;clear hK K;show AWp _ _ _ _ _;apply ak;refine bm (fun x:Nat=>⟨ofL [(1,.pt (1,0) [] 0),(4,.int x)],aF [((1,0),some (.bx [D.int n,D.int r,shI m.d]))]⟩) (fun x=>x<=n/\∀ i j,i < x->j < n->SgM m i j) (fun x=>n - x) 0 (by simp[C.aT]) (by simp) ?_;intro x2 hx2 R2 hR2;obtain⟨hi0,hA⟩:=hx2;apply aa;apply aa;refine ab fun K hK=>?_;simp[C.aT];apply hK;clear hK K;show AWp _ _ _ _ _;refine ap _ rfl (fun hc4=>?_) (fun hc4=>?_)
    ·have hi:x2 < n:=by have:=d_t hc4;omega
     apply au;show AWp _ _ _ _ _;apply aa;apply ak;apply aa;refine ab fun K hK=>?_;simp[C.aT];apply hK;clear hK K;show AWp _ _ _ _ _;apply ak;refine bm (fun x:Nat=>⟨ofL [(1,.pt (1,0) [] 0),(4,.int x2),(5,.int x)],aF [((1,0),some (.bx [D.int n,D.int r,shI m.d]))]⟩) (fun x=>x<=n/\∀ j,j < x->SgM m x2 j) (fun x=>n - x) 0 (by simp[C.aT]) (by simp) ?_;intro x3 hx3 R3 hR3;obtain⟨hj0,hB⟩:=hx3;apply aa;apply aa;refine ab fun K hK=>?_;simp[C.aT];apply hK;clear hK K;show AWp _ _ _ _ _;refine ap _ rfl (fun hc5=>?_) (fun hc5=>?_)
     ·have hj:x3 < n:=by have:=d_t hc5;omega
      obtain⟨a,ha⟩:∃ a,a=bM m x2 x3:=⟨_,rfl⟩;obtain⟨b,hb⟩:∃ b,b=bM m x3 x2:=⟨_,rfl⟩;have hat1:=dU m n r x2 x3 hn hr hS (by omega) hj;have hat2:=dU m n r x3 x2 hn hr hS (by omega) hi;rw[<-ha] at hat1;rw[<-hb] at hat2;have hsg:SgM m x2 x3=((0 < a↔b < 0)/\(a=0↔b=0)):=by rw[ha,hb];rfl
      apply au;show AWp _ _ _ _ _;apply aa;apply ak;apply aa;refine aK ([0,1,2,3] ++ ([4])) rfl fun K hK=>?_;refine oSg fun L hL=>?_;simp[C.aT];refine ae (hat1) (by simp) (by simp) ?_;simp[C.aT];apply hL;clear hL L;refine oEn fun L hL=>?_;simp[C.aT];apply hL;clear hL L;simp[C.aT];apply hK;clear hK K;show AWp _ _ _ _ _;apply aa;refine aK ([0,1,2,3] ++ ([4])) rfl fun K hK=>?_;refine oSg fun L hL=>?_;simp[C.aT];refine ae (hat2) (by simp) (by simp) ?_;simp[C.aT];apply hL;clear hL L;refine oEn fun L hL=>?_;simp[C.aT];apply hL;clear hL L;simp[C.aT];apply hK;clear hK K;show AWp _ _ _ _ _;apply aa;refine ab fun K hK=>?_;have hJ:K ⟨ofL [(1,.pt (1,0) [] 0),(4,.int x2),(5,.int x3),(76,.bool (!decide ((0 < a↔b < 0)/\(a=0↔b=0))))],aF [((1,0),some (.bx [D.int n,D.int r,shI m.d]))]⟩:=by
       apply hK;clear hK K;show AWp _ _ _ _ _;refine ap _ rfl (fun hc6=>?_) (fun hc6=>?_)
       ·have hbad:=gk hc6;have hno:¬ SzM m:=fun h=>hbad (hsg ▸ h.2 x2 x3 (by omega) (by omega));apply aa;refine ab fun K hK=>?_;simp[C.aT];apply hK;clear hK K;show AWp _ _ _ _ _;apply aI;simp[C.aT,hno]
       ·have hgood:=gw hc6;apply au;show AWp _ _ _ _ _;refine ab fun K hK=>?_;simp[C.aT,ay (show x3 < 4611686018427387904 by omega)];apply hK;clear hK K;simp[C.aT];refine hR3 (x3+1) ⟨hj,fun j hjx=>?_⟩ (by omega)
        by_cases e:j=x3
        ·rw[e,hsg];exact hgood
        ·exact hB j (by omega)
      clear hK
      by_cases h1:0 < a <;> by_cases h2:b < 0 <;> by_cases h3:a=0 <;> by_cases h4:b=0 <;> first
       | (exfalso;omega)
       | (simp[C.aT,kx,h1,h2,h3,h4];refine cast (congrArg K ?_) hJ;simp[kx,h1,h2,h3,h4];done)
     ·have hj:x3=n:=by have:=d_f hc5;omega
      apply aZ;show AWp _ _ _ _ _;refine ab fun K hK=>?_;simp[C.aT,ay (show x2 < 4611686018427387904 by omega)];apply hK;clear hK K;simp[C.aT];refine hR2 (x2+1) ⟨hi,fun i j hix hjn=>?_⟩ (by omega)
      by_cases e:i=x2
      ·rw[e];exact hB j (by omega)
      ·exact hA i j (by omega) hjn
    ·have hi:x2=n:=by have:=d_f hc4;omega
     have hyes:SzM m:=⟨hS,fun i j h1 h2=>hA i j (by omega) (by omega)⟩;apply aZ;show AWp _ _ _ _ _;apply aa;refine ab fun K hK=>?_;simp[C.aT];apply hK;clear hK K;show AWp _ _ _ _ _;apply aI;simp[C.aT,hyes]
 clear hK
 by_cases h1:1<=m.n/\m.n<=5
 ·by_cases h2:m.n<=m.r/\m.r<=8
  ·have hnr:IntKind.i64.wrap (m.n*m.r)=m.n*m.r:=by
    have h4:m.n*m.r<=5*8:=Int.mul_le_mul (by omega) (by omega) (by omega) (by omega);have h5:0<=m.n*m.r:=Int.mul_nonneg (by omega) (by omega);exact aj (by omega) (by omega)
   refine oSg fun L hL=>?_;simp[C.aT,hnr,h1,h2];refine ae (ca m.n 1 5) (by simp) (by simp) ?_;simp[C.aT,hnr,h1,h2];apply hL;clear hL L;refine oSg fun L hL=>?_;simp[C.aT,hnr,h1,h2];refine ae (ca m.r m.n 8) (by simp) (by simp) ?_;simp[C.aT,hnr,h1,h2];apply hL;clear hL L;refine oEn fun L hL=>?_;simp[C.aT,hnr,h1,h2];apply hL;clear hL L;simp[C.aT,hnr,h1,h2];refine cast (congrArg K ?_) hJ;simp[il,h1,h2]
  ·refine oSg fun L hL=>?_;simp[C.aT,h1,h2];refine ae (ca m.n 1 5) (by simp) (by simp) ?_;simp[C.aT,h1,h2];apply hL;clear hL L;refine oSg fun L hL=>?_;simp[C.aT,h1,h2];refine ae (ca m.r m.n 8) (by simp) (by simp) ?_;simp[C.aT,h1,h2];apply hL;clear hL L;refine oEn fun L hL=>?_;simp[C.aT,h1,h2];apply hL;clear hL L;simp[C.aT,h1,h2];refine cast (congrArg K ?_) hJ;simp[il,h1,h2]
 ·refine oSg fun L hL=>?_;simp[C.aT,h1];refine ae (ca m.n 1 5) (by simp) (by simp) ?_;simp[C.aT,h1];apply hL;clear hL L;refine oSg fun L hL=>?_;simp[C.aT,h1];apply hL;clear hL L;refine oEn fun L hL=>?_;simp[C.aT,h1];apply hL;clear hL L;simp[C.aT,h1];refine cast (congrArg K ?_) hJ;simp[il,h1]
theorem wJ (m:Mat) (n r s:Nat) (hn:m.n=n) (hr:m.r=r) (hS:ShM m) (hs:s < n):af Tryz.prog F.bG [.ag [.int n,.int r,.d (shI m.d)],.int s] [] true (fun outs res=>outs=[]/\∃ L F,jy n (bM m) s L F/\res=[.one (.ow 1 L.length (ints (cN L))),.one (.ow 1 F.length (ints (cN F)))]):=by
 have hnr:n<=r:=by have:=hS.2.1;omega
 have hn5:n<=5:=by have:=hS.1;omega
 refine af.ob (C:=C.bG) (n:=Tryz.f165.ntmps) bC bD Tryz.func165 rfl rfl ?_;simp only[Tryz.f165];apply aa;refine ab fun K hK=>?_;simp[C.bG];apply hK;clear hK K;show AWp _ _ _ _ _;apply aa;refine ab fun K hK=>?_;simp[C.bG];apply hK;clear hK K;show AWp _ _ _ _ _;apply aa;refine ab fun K hK=>?_;simp[C.bG];apply hK;clear hK K;show AWp _ _ _ _ _;apply aa;apply aa;refine ab fun K hK=>?_;simp[C.bG];apply hK;clear hK K;show AWp _ _ _ _ _;apply ak;refine bm (fun x:Nat×List Nat×List Nat=>⟨ofL [(2,.pt (2,0) [] 0),(6,.al (6,0) [] 0 x.2.1.length),(7,.al (7,0) [] 0 x.2.2.length),(8,.int x.1)],aF [((2,0),some (.bx [D.int n,D.int r,shI m.d])),((6,0),some (.ow 1 x.2.1.length (ints (cN x.2.1)))),((7,0),some (.ow 1 x.2.2.length (ints (cN x.2.2))))]⟩) (fun x=>x.1<=x.2.1.length/\PJ n (bM m) s x.2.1 x.2.2 x.1 0) (fun x=>n - x.1) (0,[s],[s]) (by simp[C.bG,cN,ints]) ⟨by simp,PJ.start hs⟩ ?_;intro x1 hx1 R1 hR1;obtain⟨a,L,F⟩:=x1;obtain⟨ha0,hJ1⟩:=hx1;dsimp only at ha0 hJ1 ⊢;have hLn:=iE hJ1.nd hJ1.lt;apply aa;apply aa;refine ab fun K hK=>?_;simp[C.bG];apply hK;clear hK K;show AWp _ _ _ _ _;refine ap _ rfl (fun hc1=>?_) (fun hc1=>?_)
 ·have ha:a < L.length:=by have:=d_t hc1;omega
  obtain⟨i,hi⟩:∃ i,i=L[a]:=⟨_,rfl⟩;have hia:L[a]? = some i:=by rw[hi];exact List.getElem?_eq_getElem ha
  have hin:i < n:=by rw[hi];exact hJ1.lt _ (List.getElem_mem ha)
  apply au;show AWp _ _ _ _ _;apply aa;apply ak;apply aa;refine ab fun K hK=>?_;simp[C.bG];apply hK;clear hK K;show AWp _ _ _ _ _;apply ak;refine bm (fun x:Nat×List Nat×List Nat=>⟨ofL [(2,.pt (2,0) [] 0),(6,.al (6,0) [] 0 x.2.1.length),(7,.al (7,0) [] 0 x.2.2.length),(8,.int a),(9,.int x.1)],aF [((2,0),some (.bx [D.int n,D.int r,shI m.d])),((6,0),some (.ow 1 x.2.1.length (ints (cN x.2.1)))),((7,0),some (.ow 1 x.2.2.length (ints (cN x.2.2))))]⟩) (fun x=>x.1<=n/\x.2.1[a]? = some i/\PJ n (bM m) s x.2.1 x.2.2 a x.1) (fun x=>n - x.1) (0,L,F) (by simp[C.bG]) ⟨by simp,hia,hJ1⟩ ?_;intro x2 hx2 R2 hR2;clear hia hi ha hJ1 ha0 hLn hc1;obtain⟨j,L,F⟩:=x2;obtain⟨hj0,hia,hJ2⟩:=hx2;dsimp only at hj0 hia hJ2 ⊢;have hLn:=iE hJ2.nd hJ2.lt;have hFl:=hJ2.lf;obtain⟨ha,hi⟩:=List.getElem?_eq_some_iff.1 hia;apply aa;apply aa;refine ab fun K hK=>?_;simp[C.bG];apply hK;clear hK K;show AWp _ _ _ _ _;refine ap _ rfl (fun hc2=>?_) (fun hc2=>?_)
  ·have hj:j < n:=by have:=d_t hc2;omega
   have hat:=dU m n r i j hn hr hS (by omega) hj;have hhas:=yS L j (by omega);apply au;show AWp _ _ _ _ _;apply aa;apply ak;apply aa;refine bR [(true,0),(true,1),(true,2),(true,3),(true,4),(true,5),(false,6),(true,7),(true,8),(true,9),(true,10),(false,11),(true,12),(true,13)] ⟨by kernel_rfl,by kernel_rfl⟩ ([0,1,2,3,4,5,6] ++ ([7,8,9,10,11] ++ ([12,13]))) rfl fun K hK=>?_;have hJ:K ⟨ofL [(2,.pt (2,0) [] 0),(6,.al (6,0) [] 0 L.length),(7,.al (7,0) [] 0 F.length),(8,.int a),(9,.int j),(39,.bool (decide (¬ bM m i j=0/\j ∉ L)))],aF [((2,0),some (.bx [D.int n,D.int r,shI m.d])),((6,0),some (.ow 1 L.length (ints (cN L)))),((7,0),some (.ow 1 F.length (ints (cN F))))]⟩:=by
    apply hK;clear hK K;show AWp _ _ _ _ _;refine ap _ rfl (fun hc3=>?_) (fun hc3=>?_)
    ·have h3:=d_t hc3;have hnew:=hJ2.new ha hj (by rw[hi];exact h3.1) h3.2;rw[hi] at hnew;have hg6:(cN (L ++ [j]))[a]'(by simp;omega)=(i:Int):=by rw[bU (by simp;omega),List.getElem_append_left ha,hi]
     apply aa;refine ab fun K hK=>?_;simp[C.bG,vS,show (L.length+1)*8<=140737488355328 by omega];apply hK;clear hK K;show AWp _ _ _ _ _;refine ab fun K hK=>?_;simp[C.bG,vS,ao,hg6,show ((a:Int) < (L.length:Int)+1) by omega,show a < L.length+1 by omega,show (F.length+1)*8<=140737488355328 by omega];apply hK;clear hK K;show AWp _ _ _ _ _;refine ab fun K hK=>?_;simp[C.bG,ay (show j < 4611686018427387904 by omega)];apply hK;clear hK K;simp[C.bG];refine cast (congrArg R2 ?_) (hR2 (j+1,L ++ [j],F ++ [i]) ⟨hj,by dsimp only;rw[List.getElem?_append_left ha];exact hia,hnew⟩ (by dsimp only;omega));simp
    ·have h3:=d_f hc3;have hskip:=hJ2.skip ha (by rw[hi];by_cases q:bM m i j=0;exact .inl q;by_cases q2:j∈L;exact .inr q2;exact absurd ⟨q,q2⟩ h3);apply au;show AWp _ _ _ _ _;refine ab fun K hK=>?_;simp[C.bG,ay (show j < 4611686018427387904 by omega)];apply hK;clear hK K;simp[C.bG];exact hR2 (j+1,L,F) ⟨hj,hia,hskip⟩ (by dsimp only;omega)
   clear hK
   by_cases h1:bM m i j=0
   ·refine oSg fun L hL=>?_;simp[C.bG,ha,ao,bU ha,hi,h1];refine ae (hat) (by simp) (by simp) ?_;simp[C.bG,ha,ao,bU ha,hi,h1];apply hL;clear hL L;refine oSg fun L hL=>?_;simp[C.bG,ha,ao,bU ha,hi,h1];apply hL;clear hL L;refine oEn fun L hL=>?_;simp[C.bG,ha,ao,bU ha,hi,h1];apply hL;clear hL L;simp[C.bG,ha,ao,bU ha,hi,h1];refine cast (congrArg K ?_) hJ;simp[h1]
   ·refine oSg fun L hL=>?_;simp[C.bG,ha,ao,bU ha,hi,h1];refine ae (hat) (by simp) (by simp) ?_;simp[C.bG,ha,ao,bU ha,hi,h1];apply hL;clear hL L;refine oSg fun L hL=>?_;simp[C.bG,ha,ao,bU ha,hi,h1];refine ae (hhas) (by simp) (by simp) ?_;simp[C.bG,ha,ao,bU ha,hi,h1];apply hL;clear hL L;refine oEn fun L hL=>?_;simp[C.bG,ha,ao,bU ha,hi,h1];apply hL;clear hL L;simp[C.bG,ha,ao,bU ha,hi,h1];refine cast (congrArg K ?_) hJ;simp[h1]
  ·have hj:j=n:=by have:=d_f hc2;omega
   apply aZ;show AWp _ _ _ _ _;refine ab fun K hK=>?_;simp[C.bG,ay (show a < 4611686018427387904 by omega)];apply hK;clear hK K;simp[C.bG];refine hR1 (a+1,L,F) ⟨ha,?_⟩ (by dsimp only;omega);rw[hj] at hJ2;exact hJ2.next
 ·have ha:a=L.length:=by have:=d_f hc1;omega
  rw[ha] at hJ1;apply aZ;show AWp _ _ _ _ _;apply aa;refine ab fun K hK=>?_;simp[C.bG];apply hK;clear hK K;show AWp _ _ _ _ _;apply aI;simp[C.bG];exact⟨L,F,hJ1.done,⟨rfl,rfl⟩,rfl,rfl⟩
set_option maxRecDepth 10000
set_option maxHeartbeats 2000000
theorem OS.start (n:Nat) (b:Nat->Nat->Int):OS n b [] (List.replicate n 0):=
 ⟨by simp,fun i hi=>by simp[g0,List.getD_eq_getElem?_getD,hi],by simp,by simp,by simp⟩
theorem jy.dis {n:Nat} {b:Nat->Nat->Int} {s:Nat} {L F old:List Nat} {d:List Int} (h:jy n b s L F) (hs:∀ i j,i < n->j < n->(b i j=0↔b j i=0)) (hO:OS n b old d) (hso:s ∉ old):∀ k (hk:k < L.length),L[k] ∉ old:=by
 intro k
 induction k using Nat.strongRecOn with
 | _ k ih=>
  intro hk hm;rcases Nat.eq_zero_or_pos k with rfl | h0
  ·obtain⟨h1,h2⟩:=h.first;exact hso (h2 ▸ hm)
  ·obtain⟨k',h',e1,e2,e3⟩:=h.par k hk h0;have hj:=h.lt _ (List.getElem_mem h');have e4:b L[k] L[k']≠0:=fun q=>e3 ((hs _ _ hj (h.lt _ (List.getElem_mem hk))).2 q);exact ih k' e1 h' ((hO.cl _ hm).2 _ hj e4)
theorem yi {a:Nat} (h:a<=8):99 ^ a<=99 ^ 8:=Nat.pow_le_pow_right (by omega) h
theorem tz (m:Mat) (n r:Nat) (hn:m.n=n) (hr:m.r=r) (hZ:SzM m):af Tryz.prog F.aw [.ag [.int n,.int r,.d (shI m.d)]] [] true (fun outs res=>outs=[]/\((∃ l,ct n (bM m) l/\res=[.one (owI l),.one (D.bool true)])\/((∀ d,¬ Sol n (bM m) d)/\res=[.one (.v (.slice none 0 0)),.one (D.bool false)]))):=by
 have hS:=hZ.1;have hnr:n<=r:=by have:=hS.2.1;omega
 have hn5:1<=n/\n<=5:=by have:=hS.1;omega
 have hnn:m.n.toNat=n:=by omega
 have hs0:∀ i j,i < n->j < n->(bM m i j=0↔bM m j i=0):=fun i j hi hj=>(hZ.2 i j (by omega) (by omega)).2;have hB:∀ i j,i < n->j < n->(bM m i j).natAbs<=99:=fun i j _ _=>gV hS i j;refine af.ob (C:=C.aw) (n:=Tryz.f140.ntmps) bC bD Tryz.func140 rfl rfl ?_;simp only[Tryz.f140];apply aa;refine ab fun K hK=>?_;simp[C.aw];apply hK;clear hK K;show AWp _ _ _ _ _;apply aa;refine ab fun K hK=>?_;simp[C.aw,cL,show (8:Int)*n<=281474976710656 by omega,show (n:Int)<=281474976710656 by omega];apply hK;clear hK K;show AWp _ _ _ _ _;apply aa;apply aa;refine ab fun K hK=>?_;simp[C.aw];apply hK;clear hK K;show AWp _ _ _ _ _;apply ak;refine bm (fun x:Nat×List Int×List Nat=>⟨ofL [(1,.pt (1,0) [] 0),(4,.al (4,0) [] 0 n),(5,.int x.1)],aF [((1,0),some (.bx [D.int n,D.int r,shI m.d])),((4,0),some (.ow 1 n (ints x.2.1)))]⟩) (fun x=>x.1<=n/\OS n (bM m) x.2.2 x.2.1/\∀ k,k < x.1->k∈x.2.2) (fun x=>n - x.1) (0,List.replicate n 0,[]) (by simp[C.aw]) ⟨by simp,OS.start n _,by simp⟩ ?_;intro x1 hx1 R1 hR1;obtain⟨i,d,old⟩:=x1;obtain⟨hi0,hO,hall⟩:=hx1;dsimp only at hi0 hO hall ⊢;have hdl:=hO.lo;apply aa;apply aa;refine ab fun K hK=>?_;simp[C.aw];apply hK;clear hK K;show AWp _ _ _ _ _;refine ap _ rfl (fun hc1=>?_) (fun hc1=>?_)
 ·have hi:i < n:=by have:=d_t hc1;omega
  apply au;show AWp _ _ _ _ _;apply aa;apply ak;apply aa;apply aa;refine ab fun K hK=>?_;simp[C.aw,hi,hdl,ao,cc];apply hK;clear hK K;show AWp _ _ _ _ _;refine ap _ rfl (fun hc2=>?_) (fun hc2=>?_)
  ·have hp:0 < g0 d i:=by simpa using hc2
   apply aZ;show AWp _ _ _ _ _;refine ab fun K hK=>?_;simp[C.aw,ay (show i < 4611686018427387904 by omega)];apply hK;clear hK K;simp[C.aw];refine hR1 (i+1,d,old) ⟨hi,hO,fun k hk=>?_⟩ (by dsimp only;omega)
   by_cases e:k=i
   ·rw[e];exact (hO.zr i hi).1 hp
   ·exact hall k (by dsimp only at hk;omega)
  ·have hp:¬ 0 < g0 d i:=by simpa using hc2
   have hio:i ∉ old:=fun h=>hp ((hO.zr i hi).2 h);apply au;show AWp _ _ _ _ _;apply aa;refine aK ([0,1,2] ++ ([3,4,5,6,7])) rfl fun K hK=>?_;refine oSg fun L hL=>?_;simp[C.aw];refine fh (wJ m n r i hn hr hS hi) (by simp) (by simp) (by simp) ?_;rintro outs res ⟨rfl,LL,FF,hP,rfl⟩;simp[C.aw];apply hL;clear hL L;refine oEn fun L hL=>?_;simp[C.aw];apply hL;clear hL L;simp[C.aw];apply hK;clear hK K;show AWp _ _ _ _ _;apply aa;have hLn:=iE hP.nd hP.lt;have hFl:=hP.lf;have hdis:=hP.dis hs0 hO hio;refine ab fun K hK=>?_;simp[C.aw,hi,hdl];apply hK;clear hK K;show AWp _ _ _ _ _;apply aa;apply aa;refine ab fun K hK=>?_;simp[C.aw];apply hK;clear hK K;show AWp _ _ _ _ _;apply ak;refine bm (fun x:Nat=>⟨ofL [(1,.pt (1,0) [] 0),(4,.al (4,0) [] 0 n),(5,.int i),(6,.al (6,0) [] 0 LL.length),(7,.al (7,0) [] 0 FF.length),(8,.int ((x:Int)+1))],aF [((1,0),some (.bx [D.int n,D.int r,shI m.d])),((4,0),some (.ow 1 n (ints (d.set i (pM1 (bM m) LL FF x:Nat))))),((6,0),some (.ow 1 LL.length (ints (cN LL)))),((7,0),some (.ow 1 FF.length (ints (cN FF))))]⟩) (fun x=>x < LL.length) (fun x=>n - x) 0 (by simp[C.aw,pM1]) (List.length_pos_of_mem (List.mem_of_getElem? hP.hd)) ?_;intro x2 hx2 R2 hR2;apply aa;apply aa;refine ab fun K hK=>?_;simp[C.aw,show ((x2:Int)+1 < LL.length)=(x2+1 < LL.length) by rw[eq_iff_iff];omega];apply hK;clear hK K;show AWp _ _ _ _ _;refine ap _ rfl (fun hc3=>?_) (fun hc3=>?_)
   ·have hk:x2+1 < LL.length:=by have:=d_t hc3;omega
    obtain⟨k',h',e1,e2,e3,e4,e5,e6⟩:=hP.q hs0 hk (by omega);have hF:FF[x2+1]'(by omega)=LL[k']:=by
     rw[List.getElem?_eq_getElem (by omega)] at e2;injection e2
    obtain⟨p1,p2⟩:=hP.pM_bd hs0 hB x2 (by omega);obtain⟨p3,p4⟩:=hP.pM_bd hs0 hB (x2+1) (by omega);have hp8:=yi (a:=x2) (by omega);have hp9:=yi (a:=x2+1) (by omega);have hki:=hP.lt _ (List.getElem_mem hk);have hkj:=hP.lt _ (List.getElem_mem h');have hat:=dU m n r LL[x2+1] LL[k'] hn hr hS (by omega) hkj;have hbb:=hB _ _ hki hkj;have habs:=mU (bM m LL[x2+1] LL[k']) (by omega);rw[<-e5] at habs;have hpm:((pM1 (bM m) LL FF x2:Nat):Int)*((qM (bM m) LL FF (x2+1):Nat):Int)=((pM1 (bM m) LL FF (x2+1):Nat):Int):=by rw[pM1,Int.natCast_mul]
    have hgd:g0 (d.set i (pM1 (bM m) LL FF x2:Nat)) i=(pM1 (bM m) LL FF x2:Nat):=by rw[dF _ _ _ _ (by omega),if_pos rfl]
    have hse:(d.set i ((pM1 (bM m) LL FF x2:Nat):Int)).set i ((pM1 (bM m) LL FF (x2+1):Nat):Int)=d.set i ((pM1 (bM m) LL FF (x2+1):Nat):Int):=by rw[List.set_set]
    have ht1:((x2:Int)+1).toNat=x2+1:=by omega
    have hlg:((x2:Int)+1 < LL.length):=by omega
    apply au;show AWp _ _ _ _ _;apply aa;apply ak;refine bR [(true,0),(true,1),(true,2),(true,3),(true,4),(true,5),(true,6),(true,7),(true,8),(true,9),(true,10),(true,11),(true,12),(true,13),(true,14),(false,15),(false,16),(true,17),(true,18),(false,19)] ⟨by kernel_rfl,by kernel_rfl⟩ ([0,1,2,3,4,5,6,7,8,9,10,11,12,13,14,15] ++ ([16] ++ ([17,18,19]))) rfl fun K hK=>?_;refine oSg fun L hL=>?_;simp[C.aw,hi,hdl,ao,cc,hgd,hk,hF,ht1,hlg,hFl,bU hk,bU (show x2+1 < FF.length by omega),show (0<=(x2:Int)+1) by omega,hpm,aj (x:=((pM1 (bM m) LL FF (x2+1):Nat):Int)) (by omega) (by omega),hse];refine ae (hat) (by simp) (by simp) ?_;simp[C.aw,hi,hdl,ao,cc,hgd,hk,hF,ht1,hlg,hFl,bU hk,bU (show x2+1 < FF.length by omega),show (0<=(x2:Int)+1) by omega,hpm,aj (x:=((pM1 (bM m) LL FF (x2+1):Nat):Int)) (by omega) (by omega),hse];apply hL;clear hL L;refine oSg fun L hL=>?_;simp[C.aw,hi,hdl,ao,cc,hgd,hk,hF,ht1,hlg,hFl,bU hk,bU (show x2+1 < FF.length by omega),show (0<=(x2:Int)+1) by omega,hpm,aj (x:=((pM1 (bM m) LL FF (x2+1):Nat):Int)) (by omega) (by omega),hse];refine ae (habs) (by simp) (by simp) ?_;simp[C.aw,hi,hdl,ao,cc,hgd,hk,hF,ht1,hlg,hFl,bU hk,bU (show x2+1 < FF.length by omega),show (0<=(x2:Int)+1) by omega,hpm,aj (x:=((pM1 (bM m) LL FF (x2+1):Nat):Int)) (by omega) (by omega),hse];apply hL;clear hL L;refine oEn fun L hL=>?_;simp[C.aw,hi,hdl,ao,cc,hgd,hk,hF,ht1,hlg,hFl,bU hk,bU (show x2+1 < FF.length by omega),show (0<=(x2:Int)+1) by omega,hpm,aj (x:=((pM1 (bM m) LL FF (x2+1):Nat):Int)) (by omega) (by omega),hse];apply hL;clear hL L;simp[C.aw,hi,hdl,ao,cc,hgd,hk,hF,ht1,hlg,hFl,bU hk,bU (show x2+1 < FF.length by omega),show (0<=(x2:Int)+1) by omega,hpm,aj (x:=((pM1 (bM m) LL FF (x2+1):Nat):Int)) (by omega) (by omega),hse];apply hK;clear hK K;show AWp _ _ _ _ _;refine ab fun K hK=>?_;simp[C.aw,aj (x:=(x2:Int)+1+1) (by omega) (by omega)];apply hK;clear hK K;simp[C.aw];refine cast (congrArg R2 ?_) (hR2 (x2+1) hk (by omega));simp[hFl]
   ·have hk:x2+1=LL.length:=by have:=d_f hc3;omega
    have hDJ:=DJ.start (d0:=d) hP hs0 hB hdl;rw[show LL.length - 1=x2 by omega] at hDJ;have hgd:g0 (d.set i (pM1 (bM m) LL FF x2:Nat)) i=(pM1 (bM m) LL FF x2:Nat):=by rw[dF _ _ _ _ (by omega),if_pos rfl]
    apply aZ;show AWp _ _ _ _ _;apply aa;refine ab fun K hK=>?_;simp[C.aw,hi,hdl,ao,cc,hgd];apply hK;clear hK K;show AWp _ _ _ _ _;apply aa;apply aa;refine ab fun K hK=>?_;simp[C.aw];apply hK;clear hK K;show AWp _ _ _ _ _;apply ak;refine bm (fun x:Nat×List Int×Int=>⟨ofL [(1,.pt (1,0) [] 0),(4,.al (4,0) [] 0 n),(5,.int i),(6,.al (6,0) [] 0 LL.length),(7,.al (7,0) [] 0 FF.length),(9,.int x.2.2),(10,.int x.1)],aF [((1,0),some (.bx [D.int n,D.int r,shI m.d])),((4,0),some (.ow 1 n (ints x.2.1))),((6,0),some (.ow 1 LL.length (ints (cN LL)))),((7,0),some (.ow 1 FF.length (ints (cN FF))))]⟩) (fun x=>(1<=x.1/\x.1<=LL.length)/\DJ n (bM m) i LL FF d x.1 x.2.1 x.2.2) (fun x=>LL.length - x.1) (1,_,_) (by simp[C.aw]) ⟨by dsimp only;omega,hDJ⟩ ?_;intro x3 hx3 R3 hR3;clear hDJ hgd hk hc3;obtain⟨t,d3,g⟩:=x3;obtain⟨ht0,hJ3⟩:=hx3;dsimp only at ht0 hJ3 ⊢;have hd3:=hJ3.len;apply aa;apply aa;refine ab fun K hK=>?_;simp[C.aw];apply hK;clear hK K;show AWp _ _ _ _ _;refine ap _ rfl (fun hc4=>?_) (fun hc4=>?_)
    ·have ht:t < LL.length:=by have:=d_t hc4;omega
     obtain⟨t',h',e1,e2,w,w0,w1,w2,w3,w4,w5,w6⟩:=hJ3.step hP hs0 hB ht (by omega);have hF:FF[t]'(by omega)=LL[t']:=by
      rw[List.getElem?_eq_getElem (by omega)] at e2;injection e2
     have hki:=hP.lt _ (List.getElem_mem ht);have hkj:=hP.lt _ (List.getElem_mem h');have hat1:=dU m n r LL[t'] LL[t] hn hr hS (by omega) hki;have hat2:=dU m n r LL[t] LL[t'] hn hr hS (by omega) hkj;have hb1:=hB _ _ hkj hki;have hb2:=hB _ _ hki hkj;have habs1:=mU (bM m LL[t'] LL[t]) (by omega);have habs2:=mU (bM m LL[t] LL[t']) (by omega);have hp7:99 ^ (LL.length - 1+t')<=99 ^ 7:=Nat.pow_le_pow_right (by omega) (by omega);have hmb:(g0 d3 LL[t']*((bM m LL[t'] LL[t]).natAbs:Int)).natAbs<=99 ^ 7*99:=by
      rw[Int.natAbs_mul];exact Nat.mul_le_mul (Nat.le_trans w1 hp7) (by omega)
     have hwb:w.natAbs<=(g0 d3 LL[t']*((bM m LL[t'] LL[t]).natAbs:Int)).natAbs:=by
      rw[<-w5,Int.natAbs_tdiv];exact Nat.div_le_self _ _
     obtain⟨hl0,hl1⟩:=hP.first;have hgb:=hJ3.gp;have hgs:=(hJ3.pos 0 hl0 (by omega)).2.1;rw[hl1] at hgs;have hp8:=yi (a:=LL.length - 1+0) (by omega);have hcall:=yO g w (by omega) (by omega);have hww:IntKind.i64.wrap (g0 d3 LL[t']*((bM m LL[t'] LL[t]).natAbs:Int))=g0 d3 LL[t']*((bM m LL[t'] LL[t]).natAbs:Int):=aj (by omega) (by omega);have hwz:((bM m LL[t] LL[t']).natAbs:Int)≠0:=by omega
     have hgw:g0 (d3.set LL[t] w) LL[t]=w:=by rw[dF _ _ _ _ (by omega),if_pos rfl]
     generalize hA1:((bM m LL[t'] LL[t]).natAbs:Int)=A1 at *
     generalize hA2:((bM m LL[t] LL[t']).natAbs:Int)=A2 at *
     apply au;show AWp _ _ _ _ _;apply aa;apply ak;apply aa;refine bR [(true,0),(true,1),(true,2),(true,3),(true,4),(true,5),(true,6),(true,7),(true,8),(true,9),(true,10),(true,11),(true,12),(true,13),(true,14),(true,15),(true,16),(true,17),(true,18),(true,19),(true,20),(true,24),(true,25),(true,26),(true,27),(true,28),(true,29),(true,30),(true,31),(true,32),(false,21),(false,22),(true,23),(false,33),(false,34),(true,35),(true,36),(false,37)] ⟨by kernel_rfl,by kernel_rfl⟩ ([0,1,2,3,4,5,6,7,8,9,10,11,12,13,14,15,16,17,18,19,20,24,25,26,27,28,29,30,31,32,21] ++ ([22] ++ ([23,33] ++ ([34] ++ ([35,36,37]))))) rfl fun K hK=>?_;refine oSg fun L hL=>?_;simp[C.aw,ht,ao,cc,bU ht,hd3,bU (show t < FF.length by omega),hF,hFl,hkj,hki,hww,hwz,w5,aj (x:=w) (by omega) (by omega)];refine ae (hat1) (by simp) (by simp) ?_;simp[C.aw,ht,ao,cc,bU ht,hd3,bU (show t < FF.length by omega),hF,hFl,hkj,hki,hww,hwz,w5,aj (x:=w) (by omega) (by omega)];apply hL;clear hL L;refine oSg fun L hL=>?_;simp[C.aw,ht,ao,cc,bU ht,hd3,bU (show t < FF.length by omega),hF,hFl,hkj,hki,hww,hwz,w5,aj (x:=w) (by omega) (by omega)];refine ae (habs1) (by simp) (by simp) ?_;simp[C.aw,ht,ao,cc,bU ht,hd3,bU (show t < FF.length by omega),hF,hFl,hkj,hki,hww,hwz,w5,aj (x:=w) (by omega) (by omega)];apply hL;clear hL L;refine oSg fun L hL=>?_;simp[C.aw,ht,ao,cc,bU ht,hd3,bU (show t < FF.length by omega),hF,hFl,hkj,hki,hww,hwz,w5,aj (x:=w) (by omega) (by omega)];refine ae (hat2) (by simp) (by simp) ?_;simp[C.aw,ht,ao,cc,bU ht,hd3,bU (show t < FF.length by omega),hF,hFl,hkj,hki,hww,hwz,w5,aj (x:=w) (by omega) (by omega)];apply hL;clear hL L;refine oSg fun L hL=>?_;simp[C.aw,ht,ao,cc,bU ht,hd3,bU (show t < FF.length by omega),hF,hFl,hkj,hki,hww,hwz,w5,aj (x:=w) (by omega) (by omega)];refine ae (habs2) (by simp) (by simp) ?_;simp[C.aw,ht,ao,cc,bU ht,hd3,bU (show t < FF.length by omega),hF,hFl,hkj,hki,hww,hwz,w5,aj (x:=w) (by omega) (by omega)];apply hL;clear hL L;refine oEn fun L hL=>?_;simp[C.aw,ht,ao,cc,bU ht,hd3,bU (show t < FF.length by omega),hF,hFl,hkj,hki,hww,hwz,w5,aj (x:=w) (by omega) (by omega)];apply hL;clear hL L;simp[C.aw,ht,ao,cc,bU ht,hd3,bU (show t < FF.length by omega),hF,hFl,hkj,hki,hww,hwz,w5,aj (x:=w) (by omega) (by omega)];apply hK;clear hK K;show AWp _ _ _ _ _;refine aK ([0,1,2,3,4,5,6,7,8] ++ ([9])) rfl fun K hK=>?_;refine oSg fun L hL=>?_;simp[C.aw,ht,ao,cc,bU ht,hd3,hki,hgw];refine ae (hcall) (by simp) (by simp) ?_;simp[C.aw,ht,ao,cc,bU ht,hd3,hki,hgw];apply hL;clear hL L;refine oEn fun L hL=>?_;simp[C.aw,ht,ao,cc,bU ht,hd3,hki,hgw]
     apply hL;clear hL L;simp[C.aw,ht,ao,cc,bU ht,hd3,hki,hgw];apply hK;clear hK K;show AWp _ _ _ _ _;refine ab fun K hK=>?_;simp[C.aw,ay (show t < 4611686018427387904 by omega)];apply hK;clear hK K;simp[C.aw];refine cast (congrArg R3 ?_) (hR3 (t+1,d3.set LL[t] w,_) ⟨by dsimp only;omega,w6⟩ (by dsimp only;omega));simp[hFl]
    ·have ht:t=LL.length:=by have:=d_f hc4;omega
     rw[ht] at hJ3;have hgp:=hJ3.gp.1;apply aZ;show AWp _ _ _ _ _;apply aa;refine ab fun K hK=>?_;simp[C.aw];apply hK;clear hK K;show AWp _ _ _ _ _;apply ak;refine bm (fun x:Nat×List Int=>⟨ofL [(1,.pt (1,0) [] 0),(4,.al (4,0) [] 0 n),(5,.int i),(6,.al (6,0) [] 0 LL.length),(9,.int g),(11,.int x.1)],aF [((1,0),some (.bx [D.int n,D.int r,shI m.d])),((4,0),some (.ow 1 n (ints x.2))),((6,0),some (.ow 1 LL.length (ints (cN LL))))]⟩) (fun x=>x.1<=LL.length/\EJ g LL d3 x.1 x.2) (fun x=>LL.length - x.1) (0,d3) (by simp[C.aw]) ⟨by simp,EJ.start g LL d3⟩ ?_;intro x4 hx4 R4 hR4;obtain⟨t,d4⟩:=x4;obtain⟨ht0',hE⟩:=hx4;dsimp only at ht0' hE ⊢;have hd4:=hE.len;apply aa;apply aa;refine ab fun K hK=>?_;simp[C.aw];apply hK;clear hK K;show AWp _ _ _ _ _;refine ap _ rfl (fun hc5=>?_) (fun hc5=>?_)
     ·have ht:t < LL.length:=by have:=d_t hc5;omega
      have hki:=hP.lt _ (List.getElem_mem ht);obtain⟨hv1,hv2⟩:=hE.step hP.nd ht (by omega);have hp8:=yi (a:=LL.length - 1+t) (by omega);have hpb:=(hJ3.pos t ht ht).2.1;have hwd:IntKind.i64.wrap ((g0 d3 LL[t]).tdiv g)=(g0 d3 LL[t]).tdiv g:=by
       have h1:((g0 d3 LL[t]).tdiv g).natAbs<=(g0 d3 LL[t]).natAbs:=by
        rw[Int.natAbs_tdiv];exact Nat.div_le_self _ _
       exact aj (by omega) (by omega)
      apply au;show AWp _ _ _ _ _;apply aa;apply ak;refine bR [(true,0),(true,1),(true,2),(true,3),(true,4),(true,5),(true,6),(true,7),(true,8),(true,9),(true,10),(true,11),(true,12),(true,13),(true,14),(false,15)] ⟨by kernel_rfl,by kernel_rfl⟩ ([0,1,2,3,4,5,6,7,8,9,10,11,12,13,14,15]) rfl fun K hK=>?_;refine oEn fun L hL=>?_;simp[C.aw,ht,ao,cc,bU ht,hd4,hd3,hki,hv1,show g≠0 by omega,hwd];apply hL;clear hL L;simp[C.aw,ht,ao,cc,bU ht,hd4,hd3,hki,hv1,show g≠0 by omega,hwd];apply hK;clear hK K;show AWp _ _ _ _ _;refine ab fun K hK=>?_;simp[C.aw,ay (show t < 4611686018427387904 by omega)];apply hK;clear hK K;simp[C.aw];exact hR4 (t+1,_) ⟨ht,hv2⟩ (by dsimp only;omega)
     ·have ht:t=LL.length:=by have:=d_f hc5;omega
      rw[ht] at hE;have hgrow:=hO.grow hP hn5.2 (fun k hk=>by
       obtain⟨z,hz,rfl⟩:=List.getElem_of_mem hk;exact hdis z hz) hJ3 hE
      apply aZ;show AWp _ _ _ _ _;refine ab fun K hK=>?_;simp[C.aw,ay (show i < 4611686018427387904 by omega)];apply hK;clear hK K;simp[C.aw];refine hR1 (i+1,d4,old ++ LL) ⟨hi,hgrow,fun k hk=>?_⟩ (by dsimp only;omega);dsimp only at hk ⊢;rw[List.mem_append]
      by_cases e:k=i
      ·right
       rw[e];exact List.mem_of_getElem? hP.hd
      ·exact .inl (hall k (by omega))
 ·have hin:i=n:=by have:=d_f hc1;omega
  subst hin;apply aZ;show AWp _ _ _ _ _;apply aa;apply aa;refine ab fun K hK=>?_;simp[C.aw];apply hK;clear hK K;show AWp _ _ _ _ _;apply ak;refine bm (fun x:Nat=>⟨ofL [(1,.pt (1,0) [] 0),(4,.al (4,0) [] 0 i),(12,.int x)],aF [((1,0),some (.bx [D.int i,D.int r,shI m.d])),((4,0),some (.ow 1 i (ints d)))]⟩) (fun x=>x<=i/\∀ a b,a < x->b < i->g0 d a*bM m a b=-(g0 d b*bM m b a)) (fun x=>i - x) 0 (by simp[C.aw]) (by simp) ?_;intro x5 hx5 R5 hR5;obtain⟨ha0,hA⟩:=hx5;apply aa;apply aa;refine ab fun K hK=>?_;simp[C.aw];apply hK;clear hK K;show AWp _ _ _ _ _;refine ap _ rfl (fun hc6=>?_) (fun hc6=>?_)
  ·have ha:x5 < i:=by have:=d_t hc6;omega
   apply au;show AWp _ _ _ _ _;apply aa;apply ak;apply aa;refine ab fun K hK=>?_;simp[C.aw];apply hK;clear hK K;show AWp _ _ _ _ _;apply ak;refine bm (fun x:Nat=>⟨ofL [(1,.pt (1,0) [] 0),(4,.al (4,0) [] 0 i),(12,.int x5),(13,.int x)],aF [((1,0),some (.bx [D.int i,D.int r,shI m.d])),((4,0),some (.ow 1 i (ints d)))]⟩) (fun x=>x<=i/\∀ b,b < x->g0 d x5*bM m x5 b=-(g0 d b*bM m b x5)) (fun x=>i - x) 0 (by simp[C.aw]) (by simp) ?_;intro x6 hx6 R6 hR6;obtain⟨hb0,hBb⟩:=hx6;apply aa;apply aa;refine ab fun K hK=>?_;simp[C.aw];apply hK;clear hK K;show AWp _ _ _ _ _;refine ap _ rfl (fun hc7=>?_) (fun hc7=>?_)
   ·have hb:x6 < i:=by have:=d_t hc7;omega
    have hat1:=dU m i r x5 x6 hn hr hS (by omega) hb;have hat2:=dU m i r x6 x5 hn hr hS (by omega) ha;have q1:=hO.bd x5 (hall x5 ha);have q2:=hO.bd x6 (hall x6 hb);have b1:=hB x5 x6 ha hb;have b2:=hB x6 x5 hb ha;have m1:(g0 d x5*bM m x5 x6).natAbs<=99 ^ 8*99:=by rw[Int.natAbs_mul];exact Nat.mul_le_mul q1 b1
    have m2:(g0 d x6*bM m x6 x5).natAbs<=99 ^ 8*99:=by rw[Int.natAbs_mul];exact Nat.mul_le_mul q2 b2
    apply au;show AWp _ _ _ _ _;apply aa;apply ak;apply aa;refine bR [(true,0),(true,1),(true,2),(true,3),(true,4),(true,5),(true,6),(true,9),(true,10),(true,11),(true,12),(true,13),(true,14),(true,15),(false,7),(true,8),(false,16),(true,17),(true,18),(true,19)] ⟨by kernel_rfl,by kernel_rfl⟩ ([0,1,2,3,4,5,6,9,10,11,12,13,14,15,7] ++ ([8,16] ++ ([17,18,19]))) rfl fun K hK=>?_;refine oSg fun L hL=>?_;simp[C.aw,ha,hb,hdl,ao,cc,aj (x:=g0 d x5*bM m x5 x6) (by omega) (by omega),aj (x:=g0 d x6*bM m x6 x5) (by omega) (by omega),aj (x:=-(g0 d x6*bM m x6 x5)) (by omega) (by omega)];refine ae (hat1) (by simp) (by simp) ?_;simp[C.aw,ha,hb,hdl,ao,cc,aj (x:=g0 d x5*bM m x5 x6) (by omega) (by omega),aj (x:=g0 d x6*bM m x6 x5) (by omega) (by omega),aj (x:=-(g0 d x6*bM m x6 x5)) (by omega) (by omega)];apply hL;clear hL L;refine oSg fun L hL=>?_;simp[C.aw,ha,hb,hdl,ao,cc,aj (x:=g0 d x5*bM m x5 x6) (by omega) (by omega),aj (x:=g0 d x6*bM m x6 x5) (by omega) (by omega),aj (x:=-(g0 d x6*bM m x6 x5)) (by omega) (by omega)];refine ae (hat2) (by simp) (by simp) ?_;simp[C.aw,ha,hb,hdl,ao,cc,aj (x:=g0 d x5*bM m x5 x6) (by omega) (by omega),aj (x:=g0 d x6*bM m x6 x5) (by omega) (by omega),aj (x:=-(g0 d x6*bM m x6 x5)) (by omega) (by omega)];apply hL;clear hL L;refine oEn fun L hL=>?_;simp[C.aw,ha,hb,hdl,ao,cc,aj (x:=g0 d x5*bM m x5 x6) (by omega) (by omega),aj (x:=g0 d x6*bM m x6 x5) (by omega) (by omega),aj (x:=-(g0 d x6*bM m x6 x5)) (by omega) (by omega)];apply hL;clear hL L;simp[C.aw,ha,hb,hdl,ao,cc,aj (x:=g0 d x5*bM m x5 x6) (by omega) (by omega),aj (x:=g0 d x6*bM m x6 x5) (by omega) (by omega),aj (x:=-(g0 d x6*bM m x6 x5)) (by omega) (by omega)];apply hK;clear hK K;show AWp _ _ _ _ _;refine ap _ rfl (fun hc8=>?_) (fun hc8=>?_)
    ·have hne:¬ g0 d x5*bM m x5 x6=-(g0 d x6*bM m x6 x5):=by simpa using hc8
     apply aa;refine ab fun K hK=>?_;simp[C.aw];apply hK;clear hK K;show AWp _ _ _ _ _;apply aI;simp[C.aw];exact fun e he=>hne (hO.rel he (hall x5 ha) hb hs0)
    ·have heq:g0 d x5*bM m x5 x6=-(g0 d x6*bM m x6 x5):=by simpa using hc8
     apply au;show AWp _ _ _ _ _;refine ab fun K hK=>?_;simp[C.aw,ay (show x6 < 4611686018427387904 by omega)];apply hK;clear hK K;simp[C.aw];refine hR6 (x6+1) ⟨hb,fun b hbx=>?_⟩ (by omega)
     by_cases e:b=x6
     ·rw[e];exact heq
     ·exact hBb b (by omega)
   ·have hb:x6=i:=by have:=d_f hc7;omega
    apply aZ;show AWp _ _ _ _ _;refine ab fun K hK=>?_;simp[C.aw,ay (show x5 < 4611686018427387904 by omega)];apply hK;clear hK K;simp[C.aw];refine hR5 (x5+1) ⟨ha,fun a b hax hbi=>?_⟩ (by omega)
    by_cases e:a=x5
    ·rw[e];exact hBb b (by omega)
    ·exact hA a b (by omega) hbi
  ·have ha:x5=i:=by have:=d_f hc6;omega
   have hmin:=hO.min hall (fun a b h1 h2=>hA a b (by omega) h2);apply aZ;show AWp _ _ _ _ _;apply aa;refine ab fun K hK=>?_;simp[C.aw];apply hK;clear hK K;show AWp _ _ _ _ _;apply aI;simp[C.aw];exact⟨d,hmin,hdl.symm,rfl⟩
set_option maxRecDepth 10000
set_option maxHeartbeats 2000000
theorem CG {m:Mat} (hS:ShM m) {d:Nat->Int} (hd:Sol m.n.toNat (bM m) d):SzM m:=by
 refine⟨hS,fun i j hi hj=>?_⟩;obtain⟨h1,h2,h3⟩:=jl hd hi hj;unfold SgM;omega
theorem pu {m:Mat} (h:cO m):SzM m:=by
 obtain⟨hS,d,hd⟩:=h;exact CG hS hd
theorem yz {m:Mat} (hZ:SzM m):af Tryz.prog F.aw [aM m] [] true (fun outs res=>outs=[]/\((∃ l,ct m.n.toNat (bM m) l/\res=[.one (owI l),.one (D.bool true)])\/((∀ d,¬ Sol m.n.toNat (bM m) d)/\res=[.one (.v (.slice none 0 0)),.one (D.bool false)]))):=by
 have hS:=hZ.1;obtain⟨n,hn⟩:∃ n:Nat,m.n=n:=⟨m.n.toNat,by have:=hS.1;omega⟩;obtain⟨r,hr⟩:∃ r:Nat,m.r=r:=⟨m.r.toNat,by have:=hS.1;have:=hS.2.1;omega⟩;have h:=tz m n r hn hr hZ;have e:aM m = .ag [.int n,.int r,.d (shI m.d)]:=by rw[<-hn,<-hr]
 rw[e,show m.n.toNat=n by omega];exact h
theorem qe {m:Mat} (hZ:SzM m) {l:List Int} (h:ct m.n.toNat (bM m) l):af Tryz.prog F.aw [aM m] [] true (fun outs res=>outs=[]/\res=[.one (owI l),.one (D.bool true)]):=
 (yz hZ).mono fun outs res ⟨h1,h2⟩=>by
  refine⟨h1,?_⟩;rcases h2 with ⟨k,hk,h2⟩ | ⟨hno,_⟩
  ·rw[h2,hk.uniq h]
  ·exact absurd h.2.1 (hno _)
theorem pV {m:Mat} (hZ:SzM m) (h:∀ l,¬ ct m.n.toNat (bM m) l):af Tryz.prog F.aw [aM m] [] true (fun outs res=>outs=[]/\(∀ d,¬ Sol m.n.toNat (bM m) d)/\res=[.one (.v (.slice none 0 0)),.one (D.bool false)]):=
 (yz hZ).mono fun outs res ⟨h1,h2⟩=>by
  rcases h2 with ⟨k,hk,h2⟩ | ⟨hno,h2⟩
  ·exact absurd hk (h k)
  ·exact⟨h1,hno,h2⟩
theorem eN (m:Mat) (hx:m.d.length < 17592186044416):af Tryz.prog F.cr [aM m] [] true (fun outs res=>outs=[]/\res=[.one (D.bool (decide (cO m)))]):=by
 refine af.ob (C:=C.cr) (n:=Tryz.f112.ntmps) bC bD Tryz.func112 rfl rfl ?_;simp only[Tryz.f112];apply aa;refine ab fun K hK=>?_;simp[C.cr];apply hK;clear hK K;show AWp _ _ _ _ _;apply aa;apply aa;refine aK ([0,1] ++ ([2])) rfl fun K hK=>?_;refine oSg fun L hL=>?_;simp[C.cr];refine ae (oE m hx) (by simp) (by simp) ?_;simp[C.cr];apply hL;clear hL L;refine oEn fun L hL=>?_;simp[C.cr];apply hL;clear hL L;simp[C.cr];apply hK;clear hK K;show AWp _ _ _ _ _;refine ap _ rfl (fun hc1=>?_) (fun hc1=>?_)
 ·have hr:=gk hc1;have hno:¬ cO m:=fun h=>hr (pu h);apply aa;refine ab fun K hK=>?_;simp[C.cr];apply hK;clear hK K;show AWp _ _ _ _ _;apply aI;simp[C.cr,hno]
 ·have hZ:=gw hc1;apply au;show AWp _ _ _ _ _;apply aa;refine aK ([0,1] ++ ([2,3,4,5,6])) rfl fun K hK=>?_;have hJ:K ⟨ofL [(4,.bool (decide (cO m)))],aF []⟩:=by
   apply hK;clear hK K;show AWp _ _ _ _ _;apply aa;refine ab fun K hK=>?_;simp[C.cr];apply hK;clear hK K;show AWp _ _ _ _ _;apply aI;simp[C.cr]
  clear hK
  by_cases h2:∃ l,ct m.n.toNat (bM m) l
  ·obtain⟨l,hl⟩:=h2;have h2:cO m:=⟨hZ.1,_,hl.2.1⟩;refine oSg fun L hL=>?_;simp[C.cr,h2];refine ae (qe hZ hl) (by simp) (by simp) ?_;simp[C.cr,h2];apply hL;clear hL L;refine oEn fun L hL=>?_;simp[C.cr,h2];apply hL;clear hL L;simp[C.cr,h2];refine cast (congrArg K ?_) hJ;simp[h2]
  ·refine oSg fun L hL=>?_;simp[C.cr,h2];refine fh (pV hZ (fun l hl=>h2 ⟨l,hl⟩)) (by simp) (by simp) (by simp) ?_;rintro outs res ⟨rfl,hno,rfl⟩;simp[C.cr,h2];apply hL;clear hL L;refine oEn fun L hL=>?_;simp[C.cr,h2];apply hL;clear hL L;simp[C.cr,h2];refine cast (congrArg K ?_) hJ;simp[show ¬ cO m from fun h=>by obtain⟨d,hd⟩:=h.2;exact hno d hd,h2]
theorem vu (m:Mat) (n r k:Nat) (hn:m.n=n) (hr:m.r=r) (hS:ShM m) (hk:k < n):af Tryz.prog F.aU [.ag [.int n,.int r,.d (shI m.d)],.int k] [] true (fun outs res=>outs=[]/\res=[.ag (mO (muM m k))]):=by
 have hn5:1<=n/\n<=5:=by have:=hS.1;omega
 have hnr:n<=r/\r<=8:=by have:=hS.2.1;omega
 have hnn:m.n.toNat=n:=by omega
 have hL:m.d.length=r*n:=by
  have h1:=hS.2.2.1;rw[hn,hr,<-Int.natCast_mul,Nat.mul_comm] at h1;omega
 have hL40:m.d.length<=40:=by
  rw[hL];exact Nat.le_trans (Nat.mul_le_mul hnr.2 hn5.2) (by omega)
 have hcopy:=kZ m (by omega);have eM:aM m = .ag [.int n,.int r,.d (shI m.d)]:=by rw[<-hn,<-hr]
 rw[eM] at hcopy;refine af.ob (C:=C.aU) (n:=Tryz.f141.ntmps) bC bD Tryz.func141 rfl rfl ?_;simp only[Tryz.f141];apply aa;refine ab fun K hK=>?_;simp[C.aU];apply hK;clear hK K;show AWp _ _ _ _ _;apply aa;refine aK ([0,1] ++ ([2,3])) rfl fun K hK=>?_;refine oSg fun L hL=>?_;simp[C.aU,mO,hn,hr];refine ae (hcopy) (by simp) (by simp) ?_;simp[C.aU,mO,hn,hr];apply hL;clear hL L;refine oEn fun L hL=>?_;simp[C.aU,mO,hn,hr];apply hL;clear hL L;simp[C.aU,mO,hn,hr];apply hK;clear hK K;show AWp _ _ _ _ _;apply aa;apply aa;refine ab fun K hK=>?_;simp[C.aU];apply hK;clear hK K;show AWp _ _ _ _ _;apply ak;refine bm (fun x:Nat=>⟨ofL [(1,.int k),(2,.pt (2,0) [] 0),(4,.pt (4,0) [] 0),(5,.pt (5,0) [] 0),(6,.int x)],aF [((2,0),some (.bx [D.int n,D.int r,shI m.d])),((4,0),some (.bx [D.int 0,D.int 0,.v (.slice none 0 0)])),((5,0),some (.bx [D.int n,D.int r,.ow 1 m.d.length (ints ((muD m k).take (x*n) ++ m.d.drop (x*n)))]))]⟩) (fun x=>x<=r) (fun x=>r - x) 0 (by simp[C.aU]) (by simp) ?_;intro x1 hx1 R1 hR1;apply aa;apply aa;refine ab fun K hK=>?_;simp[C.aU];apply hK;clear hK K;show AWp _ _ _ _ _;refine ap _ rfl (fun hc1=>?_) (fun hc1=>?_)
 ·have hi:x1 < r:=by have:=d_t hc1;omega
  apply au;show AWp _ _ _ _ _;apply aa;apply ak;apply aa;refine ab fun K hK=>?_;simp[C.aU];apply hK;clear hK K;show AWp _ _ _ _ _;apply ak;refine bm (fun x:Nat=>⟨ofL [(1,.int k),(2,.pt (2,0) [] 0),(4,.pt (4,0) [] 0),(5,.pt (5,0) [] 0),(6,.int x1),(7,.int x)],aF [((2,0),some (.bx [D.int n,D.int r,shI m.d])),((4,0),some (.bx [D.int 0,D.int 0,.v (.slice none 0 0)])),((5,0),some (.bx [D.int n,D.int r,.ow 1 m.d.length (ints ((muD m k).take (x1*n+x) ++ m.d.drop (x1*n+x)))]))]⟩) (fun x=>x<=n) (fun x=>n - x) 0 (by simp[C.aU]) (by simp) ?_;intro x2 hx2 R2 hR2;apply aa;apply aa;refine ab fun K hK=>?_;simp[C.aU];apply hK;clear hK K;show AWp _ _ _ _ _;refine ap _ rfl (fun hc2=>?_) (fun hc2=>?_)
  ·have hj:x2 < n:=by have:=d_t hc2;omega
   obtain⟨q,hq⟩:∃ q,q=x1*n+x2:=⟨_,rfl⟩;have hqe:(x1:Int)*n+x2=(q:Int):=by rw[hq];simp
   have hqL:q < m.d.length:=by
    rw[hL,hq];have h1:(x1+1)*n<=r*n:=Nat.mul_le_mul_right _ (by omega);rw[Nat.add_mul] at h1;omega
   have hq0:IntKind.i64.wrap ((x1:Int)*n)=(x1:Int)*n:=by
    have:(x1:Int)*n=((x1*n:Nat):Int):=by simp
    rw[this];exact aj (by omega) (by omega)
   have hq1:IntKind.i64.wrap ((x1:Int)*n+x2)=(q:Int):=by rw[hqe];exact aj (by omega) (by omega)
   have hg:=oq (muD m k) m.d q hqL (by simp);have hst:=ko (muD m k) m.d q (by simpa using hqL) (by simp);have hmu:(muD m k)[q]'(by simpa using hqL)=muE (bM m) k x1 x2:=by
    have:=wj m k x1 x2 (by omega) (by rw[hnn,<-hq];exact hqL);simp only[hnn,<-hq] at this;exact this
   have hdq:m.d[q]=bM m x1 x2:=by
    obtain⟨h1,h2⟩:=oB hS (i:=x1) (j:=x2) (by omega) (by omega);rw[<-h2];congr 1;rw[hnn,hq]
   rw[hmu] at hst;rw[<-hq];have hml:((muD m k).take q ++ m.d.drop q).length=m.d.length:=by simp;omega
   generalize hM:(muD m k).take q ++ m.d.drop q=M at hg hst hml;have hMq:M[q]'(by omega)=bM m x1 x2:=by
    rw[List.getElem?_eq_getElem (by omega)] at hg;injection hg with hg
    rw[hg,hdq]
   have b0:=gV hS x1 x2;have b1:=gV hS x1 k;have b2:=gV hS k x2;have hat1:=dU m n r x1 k hn hr hS hi hk;have hat2:=dU m n r k x2 hn hr hS (by omega) hj;have hat3:=dU m n r x1 x2 hn hr hS hi hj;obtain⟨A,hA⟩:∃ A,A=bM m x1 k:=⟨_,rfl⟩;obtain⟨B,hB⟩:∃ B,B=bM m k x2:=⟨_,rfl⟩;obtain⟨X,hX⟩:∃ X,X=bM m x1 x2:=⟨_,rfl⟩;have hmuv:muE (bM m) k x1 x2=if x1=k\/x2=k then -X else if 0 < A/\0 < B then X+A*B else if A < 0/\B < 0 then X - A*B else X:=by rw[hA,hB,hX];rfl
   rw[hmuv] at hst;rw[<-hA] at hat1 b1;rw[<-hB] at hat2 b2;rw[<-hX] at hMq b0 hat3;have hab:(A*B).natAbs<=99*99:=by rw[Int.natAbs_mul];exact Nat.mul_le_mul b1 b2
   clear hmuv hA hB hX hmu hdq hM;have hwab:IntKind.i64.wrap (A*B)=A*B:=aj (by omega) (by omega);apply au;show AWp _ _ _ _ _;apply aa;apply ak;apply aa;refine aK ([0,1,2,3] ++ ([4])) rfl fun K hK=>?_;refine oSg fun L hL=>?_;simp[C.aU];refine ae (hat1) (by simp) (by simp) ?_;simp[C.aU];apply hL;clear hL L;refine oEn fun L hL=>?_;simp[C.aU];apply hL;clear hL L;simp[C.aU];apply hK;clear hK K;show AWp _ _ _ _ _;apply aa;refine aK ([0,1,2,3] ++ ([4])) rfl fun K hK=>?_;refine oSg fun L hL=>?_;simp[C.aU];refine ae (hat2) (by simp) (by simp) ?_;simp[C.aU];apply hL;clear hL L;refine oEn fun L hL=>?_;simp[C.aU];apply hL;clear hL L;simp[C.aU];apply hK;clear hK K;show AWp _ _ _ _ _;apply ak;apply aa;refine ab fun K hK=>?_;have hJ:K ⟨ofL [(1,.int k),(2,.pt (2,0) [] 0),(4,.pt (4,0) [] 0),(5,.pt (5,0) [] 0),(6,.int x1),(7,.int x2),(8,.int A),(9,.int B),(32,.bool (decide (x1=k\/x2=k)))],aF [((2,0),some (.bx [D.int n,D.int r,shI m.d])),((4,0),some (.bx [D.int 0,D.int 0,.v (.slice none 0 0)])),((5,0),some (.bx [D.int n,D.int r,.ow 1 m.d.length (ints M)]))]⟩:=by
    apply hK;clear hK K;show AWp _ _ _ _ _;refine ap _ rfl (fun hc3=>?_) (fun hc3=>?_)
    ·have h3:=d_t hc3;rw[if_pos h3] at hst;refine bR [(true,0),(true,1),(true,2),(true,3),(true,4),(true,5),(true,6),(true,7),(true,8),(true,9),(true,10),(false,11),(true,12),(true,13),(false,14)] ⟨by kernel_rfl,by kernel_rfl⟩ ([0,1,2,3,4,5,6,7,8,9,10,11] ++ ([12,13,14])) rfl fun K hK=>?_;refine oSg fun L hL=>?_;simp[C.aU,ao,hml,hqL,hMq,hq0,hq1,show (q:Int) < m.d.length by omega,aj (x:=-X) (by omega) (by omega),hst];refine ae (hat3) (by simp) (by simp) ?_;simp[C.aU,ao,hml,hqL,hMq,hq0,hq1,show (q:Int) < m.d.length by omega,aj (x:=-X) (by omega) (by omega),hst];apply hL;clear hL L;refine oEn fun L hL=>?_;simp[C.aU,ao,hml,hqL,hMq,hq0,hq1,show (q:Int) < m.d.length by omega,aj (x:=-X) (by omega) (by omega),hst];apply hL;clear hL L;simp[C.aU,ao,hml,hqL,hMq,hq0,hq1,show (q:Int) < m.d.length by omega,aj (x:=-X) (by omega) (by omega),hst];apply hK;clear hK K;show AWp _ _ _ _ _;refine ab fun K hK=>?_;simp[C.aU,ay (show x2 < 4611686018427387904 by omega)];apply hK;clear hK K;simp[C.aU];refine cast (congrArg R2 ?_) (hR2 (x2+1) hj (by omega));simp[<-Nat.add_assoc,<-hq]
    ·have h3:=d_f hc3;rw[if_neg h3] at hst;apply aa;refine ab fun K hK=>?_;have hJ:K ⟨ofL [(1,.int k),(2,.pt (2,0) [] 0),(4,.pt (4,0) [] 0),(5,.pt (5,0) [] 0),(6,.int x1),(7,.int x2),(8,.int A),(9,.int B),(55,.bool (decide (0 < A/\0 < B)))],aF [((2,0),some (.bx [D.int n,D.int r,shI m.d])),((4,0),some (.bx [D.int 0,D.int 0,.v (.slice none 0 0)])),((5,0),some (.bx [D.int n,D.int r,.ow 1 m.d.length (ints M)]))]⟩:=by
      apply hK;clear hK K;show AWp _ _ _ _ _;refine ap _ rfl (fun hc4=>?_) (fun hc4=>?_)
      ·have h4:=d_t hc4;rw[if_pos h4] at hst;refine bR [(true,0),(true,1),(true,2),(true,3),(true,4),(true,5),(true,6),(true,7),(true,8),(true,9),(true,10),(true,12),(true,13),(true,14),(false,11),(true,15),(true,16),(false,17)] ⟨by kernel_rfl,by kernel_rfl⟩ ([0,1,2,3,4,5,6,7,8,9,10,12,13,14,11] ++ ([15,16,17])) rfl fun K hK=>?_;refine oSg fun L hL=>?_;simp[C.aU,ao,hml,hqL,hMq,hq0,hq1,show (q:Int) < m.d.length by omega,hwab,aj (x:=X+A*B) (by omega) (by omega),hst];refine ae (hat3) (by simp) (by simp) ?_;simp[C.aU,ao,hml,hqL,hMq,hq0,hq1,show (q:Int) < m.d.length by omega,hwab,aj (x:=X+A*B) (by omega) (by omega),hst];apply hL;clear hL L;refine oEn fun L hL=>?_;simp[C.aU,ao,hml,hqL,hMq,hq0,hq1,show (q:Int) < m.d.length by omega,hwab,aj (x:=X+A*B) (by omega) (by omega),hst];apply hL;clear hL L;simp[C.aU,ao,hml,hqL,hMq,hq0,hq1,show (q:Int) < m.d.length by omega,hwab,aj (x:=X+A*B) (by omega) (by omega),hst];apply hK;clear hK K;show AWp _ _ _ _ _;refine ab fun K hK=>?_;simp[C.aU,ay (show x2 < 4611686018427387904 by omega)];apply hK;clear hK K;simp[C.aU];refine cast (congrArg R2 ?_) (hR2 (x2+1) hj (by omega));simp[<-Nat.add_assoc,<-hq]
      ·have h4:=d_f hc4;rw[if_neg h4] at hst;apply aa;refine ab fun K hK=>?_;have hJ:K ⟨ofL [(1,.int k),(2,.pt (2,0) [] 0),(4,.pt (4,0) [] 0),(5,.pt (5,0) [] 0),(6,.int x1),(7,.int x2),(8,.int A),(9,.int B),(79,.bool (decide (A < 0/\B < 0)))],aF [((2,0),some (.bx [D.int n,D.int r,shI m.d])),((4,0),some (.bx [D.int 0,D.int 0,.v (.slice none 0 0)])),((5,0),some (.bx [D.int n,D.int r,.ow 1 m.d.length (ints M)]))]⟩:=by
        apply hK;clear hK K;show AWp _ _ _ _ _;refine ap _ rfl (fun hc5=>?_) (fun hc5=>?_)
        ·have h5:=d_t hc5;rw[if_pos h5] at hst;refine bR [(true,0),(true,1),(true,2),(true,3),(true,4),(true,5),(true,6),(true,7),(true,8),(true,9),(true,10),(true,12),(true,13),(true,14),(false,11),(true,15),(true,16),(false,17)] ⟨by kernel_rfl,by kernel_rfl⟩ ([0,1,2,3,4,5,6,7,8,9,10,12,13,14,11] ++ ([15,16,17])) rfl fun K hK=>?_;refine oSg fun L hL=>?_;simp[C.aU,ao,hml,hqL,hMq,hq0,hq1,show (q:Int) < m.d.length by omega,hwab,aj (x:=X - A*B) (by omega) (by omega),hst];refine ae (hat3) (by simp) (by simp) ?_;simp[C.aU,ao,hml,hqL,hMq,hq0,hq1,show (q:Int) < m.d.length by omega,hwab,aj (x:=X - A*B) (by omega) (by omega),hst];apply hL;clear hL L;refine oEn fun L hL=>?_;simp[C.aU,ao,hml,hqL,hMq,hq0,hq1,show (q:Int) < m.d.length by omega,hwab,aj (x:=X - A*B) (by omega) (by omega),hst];apply hL;clear hL L;simp[C.aU,ao,hml,hqL,hMq,hq0,hq1,show (q:Int) < m.d.length by omega,hwab,aj (x:=X - A*B) (by omega) (by omega),hst];apply hK;clear hK K;show AWp _ _ _ _ _;refine ab fun K hK=>?_;simp[C.aU,ay (show x2 < 4611686018427387904 by omega)];apply hK;clear hK K;simp[C.aU];refine cast (congrArg R2 ?_) (hR2 (x2+1) hj (by omega));simp[<-Nat.add_assoc,<-hq]
        ·have h5:=d_f hc5;rw[if_neg h5] at hst;have hMM:M=(muD m k).take (q+1) ++ m.d.drop (q+1):=by
          rw[<-hst];refine (List.ext_getElem? fun z=>?_);rw[List.getElem?_set];split
          ·rename_i e;subst e;rw[if_pos (by omega),List.getElem?_eq_getElem (by omega),hMq]
          ·rfl
         apply au;show AWp _ _ _ _ _;refine ab fun K hK=>?_;simp[C.aU,ay (show x2 < 4611686018427387904 by omega)];apply hK;clear hK K;simp[C.aU];refine cast (congrArg R2 ?_) (hR2 (x2+1) hj (by omega));simp[<-Nat.add_assoc,<-hq,<-hMM]
       clear hK
       by_cases h1:A < 0
       ·simp[C.aU,h1];refine cast (congrArg K ?_) hJ;simp[h1]
       ·simp[C.aU,h1];refine cast (congrArg K ?_) hJ;simp[h1]
     clear hK
     by_cases h1:0 < A
     ·simp[C.aU,h1];refine cast (congrArg K ?_) hJ;simp[h1]
     ·simp[C.aU,h1];refine cast (congrArg K ?_) hJ;simp[h1]
   clear hK
   by_cases h1:x1=k
   ·simp[C.aU,kN,h1];refine cast (congrArg K ?_) hJ;simp[kN,h1]
   ·simp[C.aU,kN,h1];refine cast (congrArg K ?_) hJ;simp[kN,h1]
  ·have hj:x2=n:=by have:=d_f hc2;omega
   apply aZ;show AWp _ _ _ _ _;refine ab fun K hK=>?_;simp[C.aU,ay (show x1 < 4611686018427387904 by omega)];apply hK;clear hK K;simp[C.aU];refine cast (congrArg R1 ?_) (hR1 (x1+1) hi (by omega));simp[Nat.add_mul,hj]
 ·have hi:x1=r:=by have:=d_f hc1;omega
  have htk:List.take (x1*n) (muD m k) ++ List.drop (x1*n) m.d=muD m k:=by
   rw[hi,<-hL,List.take_of_length_le (by simp),List.drop_length,List.append_nil]
  apply aZ;show AWp _ _ _ _ _;apply aa;refine ab fun K hK=>?_;simp[C.aU];apply hK;clear hK K;show AWp _ _ _ _ _;apply aI;simp[C.aU,mO,muM,htk,hn,hr]
theorem qf (m:Mat) (k:Int) (hx:m.d.length < 17592186044416):af Tryz.prog F.bn [aM m,.int k] [] true (fun outs res=>outs=[]/\eb res [.ag (mO (muF m k).1),.one (D.bool (muF m k).2)]):=by
 refine af.ob (C:=C.bn) (n:=Tryz.f104.ntmps) bC bD Tryz.func104 rfl rfl ?_;simp only[Tryz.f104];apply aa;refine ab fun K hK=>?_;simp[C.bn,mO];apply hK;clear hK K;show AWp _ _ _ _ _;apply aa;apply aa;refine aK ([0,1] ++ ([2,3,4,5,6,7,8] ++ ([9,10]))) rfl fun K hK=>?_;have hJ:K ⟨ofL [(1,.int k),(2,.pt (2,0) [] 0),(4,.pt (4,0) [] 0),(17,.bool (!decide (cO m/\(0<=k/\k < m.n))))],aF [((2,0),some (.bx [D.int m.n,D.int m.r,shI m.d])),((4,0),some (.bx [D.int 0,D.int 0,.v (.slice none 0 0)]))]⟩:=by
  apply hK;clear hK K;show AWp _ _ _ _ _;refine ap _ rfl (fun hc1=>?_) (fun hc1=>?_)
  ·have hr:=gk hc1;have hm:muF m k=(⟨0,0,[]⟩,false):=if_neg (fun h=>hr ⟨h.1,h.2.1⟩);apply aa;refine ab fun K hK=>?_;simp[C.bn,mO];apply hK;clear hK K;show AWp _ _ _ _ _;apply aI;simp[C.bn,mO,hm,ints]
  ·have hr:=gw hc1;obtain⟨hok,hk⟩:=hr;have hS:=hok.1;obtain⟨n,hn⟩:∃ n:Nat,m.n=n:=⟨m.n.toNat,by have:=hS.1;omega⟩;obtain⟨r,hr⟩:∃ r:Nat,m.r=r:=⟨m.r.toNat,by have:=hS.1;have:=hS.2.1;omega⟩;obtain⟨k,rfl⟩:∃ j:Nat,k=j:=⟨k.toNat,by omega⟩;have hcall:=vu m n r k hn hr hS (by omega);have hm:muF m k=if cO (muM m k) then (muM m k,true) else (⟨0,0,[]⟩,false):=by
    unfold muF;rw[Int.toNat_natCast]
    by_cases q:cO (muM m k)
    ·rw[if_pos ⟨hok,hk,q⟩,if_pos q]
    ·rw[if_neg (fun h=>q h.2.2),if_neg q]
   have hml:(muM m k).d.length < 17592186044416:=by
    show (muD m k).length < _;simpa using hx
   have hszok:SzM (muM m k)↔cO (muM m k):=⟨fun q=>⟨q.1,Fy hok hk.2⟩,pu⟩;apply au;show AWp _ _ _ _ _;apply aa;refine aK ([0,1,2] ++ ([3,4])) rfl fun K hK=>?_;refine oSg fun L hL=>?_;simp[C.bn,mO,hn,hr];refine ae (hcall) (by simp) (by simp) ?_;simp[C.bn,mO,hn,hr];apply hL;clear hL L;refine oEn fun L hL=>?_;simp[C.bn,mO,hn,hr];apply hL;clear hL L;simp[C.bn,mO,hn,hr];apply hK;clear hK K;show AWp _ _ _ _ _;apply aa;apply aa;refine aK ([0,1] ++ ([2])) rfl fun K hK=>?_;refine oSg fun L hL=>?_;simp[C.bn,mO];refine ae (oE (muM m k) hml) (by simp) (by simp) ?_;simp[C.bn,mO];apply hL;clear hL L;refine oEn fun L hL=>?_;simp[C.bn,mO];apply hL;clear hL L;simp[C.bn,mO];apply hK;clear hK K;show AWp _ _ _ _ _;refine ap _ rfl (fun hc2=>?_) (fun hc2=>?_)
   ·have hno:¬ cO (muM m k):=fun h=>gk hc2 (hszok.2 h);apply aa;refine ab fun K hK=>?_;simp[C.bn,mO];apply hK;clear hK K;show AWp _ _ _ _ _;apply aI;simp[C.bn,mO,hm,hno,ints]
   ·have hyes:=hszok.1 (gw hc2);apply au;show AWp _ _ _ _ _;apply aa;refine ab fun K hK=>?_;simp[C.bn,mO];apply hK;clear hK K;show AWp _ _ _ _ _;apply aI;simp[C.bn,mO,hm,hyes]
 clear hK
 by_cases h1:cO m
 ·have hwn:IntKind.i64.wrap (m.n - 1)=m.n - 1:=by have:=h1.1.1;exact aj (by omega) (by omega)
  have hle:∀ x:Int,(x<=m.n - 1)=(x < m.n):=fun x=>by rw[eq_iff_iff];omega
  refine oSg fun L hL=>?_;simp[C.bn,mO,hwn,hle,h1];refine ae (eN m hx) (by simp) (by simp) ?_;simp[C.bn,mO,hwn,hle,h1];apply hL;clear hL L;refine oSg fun L hL=>?_;simp[C.bn,mO,hwn,hle,h1];refine ae (ca k 0 (m.n - 1)) (by simp) (by simp) ?_;simp[C.bn,mO,hwn,hle,h1];apply hL;clear hL L;refine oEn fun L hL=>?_;simp[C.bn,mO,hwn,hle,h1];apply hL;clear hL L;simp[C.bn,mO,hwn,hle,h1];refine cast (congrArg K ?_) hJ;simp[Bool.not_and,mO,h1]
 ·refine oSg fun L hL=>?_;simp[C.bn,mO,h1];refine ae (eN m hx) (by simp) (by simp) ?_;simp[C.bn,mO,h1];apply hL;clear hL L;refine oSg fun L hL=>?_;simp[C.bn,mO,h1];apply hL;clear hL L;refine oEn fun L hL=>?_;simp[C.bn,mO,h1];apply hL;clear hL L;simp[C.bn,mO,h1];refine cast (congrArg K ?_) hJ;simp[Bool.not_and,mO,h1]
theorem Ju (m:Mat) (k:Int) (hx:m.d.length < 17592186044416):af Tryz.prog F.bn [aM m,.int k] [] true (fun outs res=>outs=[]/\res=[.ag (mO (muF m k).1),.one (D.bool (muF m k).2)]):=(qf m k hx).weak1
set_option maxRecDepth 10000
set_option maxHeartbeats 2000000
noncomputable def prF (m:Mat):Mat×Bool:=if dO m then (gg m,true) else (zM,false)
def prD (m:Mat) (n i j:Nat):List Int:=m.d ++ (idP n i ++ (ci n i).take j)
theorem Ej (m:Mat) {n i j:Nat} (hj:j < n):prD m n i j ++ [if i=j then 1 else 0]=prD m n i (j+1):=by
 unfold prD;rw[BL hj];simp[List.append_assoc]
theorem Bp (m:Mat) (n i:Nat):prD m n i n=prD m n (i+1) 0:=by
 unfold prD;rw[oX,List.take_of_length_le (by rw[bq];omega)];simp
theorem EN (m:Mat) (n i:Nat):prD m n i 0 ++ ci n i=prD m n (i+1) 0:=by
 have e:(ci n i).take n=ci n i:=List.take_of_length_le (by rw[bq];omega);rw[<-Bp];unfold prD;rw[e];simp
theorem AU (m:Mat) {n i j:Nat} (hj:j<=n):(prD m n i j).length=m.d.length+i*n+j:=by
 unfold prD;simp only[List.length_append,jA,List.length_take,bq];omega
theorem zR {m:Mat} {n:Nat} (hn:m.n=n):(⟨n,2*n,prD m n n 0⟩:Mat)=gg m:=by
 have:m.n.toNat=n:=by omega
 simp[gg,prD,this,hn]
theorem pR (t:Mat):(mS t).length=3:=rfl
theorem oY (t:Mat):(mO t).length=3:=rfl
@[simp] theorem Kl (l:List Mat):(rows mS l).length=3*l.length:=cn pR l
@[simp] theorem Kf (l:List Mat):(rows mO l).length=3*l.length:=cn oY l
theorem n9 {g:List Mat} {i:Nat} (h:i < g.length):(rows mS g)[3*i]? = some (D.int g[i].n)/\∀ h',(rows mS g)[3*i]'h'=D.int g[i].n:=fi (dp pR g i 0 h (by omega))
theorem nT {g:List Mat} {i:Nat} (h:i < g.length):(rows mS g)[3*i+1]? = some (D.int g[i].r)/\∀ h',(rows mS g)[3*i+1]'h'=D.int g[i].r:=fi (dp pR g i 1 h (by omega))
theorem nP {g:List Mat} {i:Nat} (h:i < g.length):(rows mS g)[3*i+2]? = some (shI g[i].d)/\∀ h',(rows mS g)[3*i+2]'h'=shI g[i].d:=fi (dp pR g i 2 h (by omega))
theorem rJ {g:List Mat} {i:Nat} (h:i < g.length):(rows mO g)[3*i]? = some (D.int g[i].n)/\∀ h',(rows mO g)[3*i]'h'=D.int g[i].n:=fi (dp oY g i 0 h (by omega))
theorem re {g:List Mat} {i:Nat} (h:i < g.length):(rows mO g)[3*i+1]? = some (D.int g[i].r)/\∀ h',(rows mO g)[3*i+1]'h'=D.int g[i].r:=fi (dp oY g i 1 h (by omega))
theorem qG {g:List Mat} {i:Nat} (h:i < g.length):(rows mO g)[3*i+2]? = some (owI g[i].d)/\∀ h',(rows mO g)[3*i+2]'h'=owI g[i].d:=fi (dp oY g i 2 h (by omega))
@[simp] theorem MG (l:List Mat):noShL (rows mO l):=iF (fun t=>by simp[mO,noShL,ij]) l
theorem rU (l:List Int):decide (40 < (l.length:Int)) = !decide (l.length<=40):=by
 rw[Bool.eq_iff_iff];simp;omega
theorem Fh (l:List Mat) (m:Mat):rows mS l ++ [D.v (.int .i64 m.n),D.v (.int .i64 m.r),.sh 1 m.d.length (ints m.d)]=rows mS (l ++ [m]):=by
 rw[dT];rfl
theorem FB (l:List Mat) (m:Mat):rows mO l ++ [D.v (.int .i64 m.n),D.v (.int .i64 m.r),.ow 1 m.d.length (ints m.d)]=rows mO (l ++ [m]):=by
 rw[dT];rfl
@[simp] theorem Mj (l:List Mat):shareL (rows mO l)=rows mS l:=by
 induction l with
 | nil=>rfl
 | cons x l ih=>simp[rows,mO,mS,shareL,eX,ih]
@[simp] theorem Ko (l:List Mat):shareL (rows mS l)=rows mS l:=by
 induction l with
 | nil=>rfl
 | cons x l ih=>simp[rows,mS,shareL,eX,ih]
theorem n3 (m:Mat) (hx:m.d.length < 17592186044416):af Tryz.prog F.aN [aM m] [] true (fun outs res=>outs=[]/\eb res [.ag (mO (prF m).1),.one (D.bool (prF m).2)]):=by
 refine af.ob (C:=C.aN) (n:=Tryz.f10.ntmps) bC bD Tryz.func10 rfl rfl ?_;simp only[Tryz.f10];apply aa;refine ab fun K hK=>?_;simp[C.aN];apply hK;clear hK K;show AWp _ _ _ _ _;apply aa;apply aa;refine aK ([0,1] ++ ([2,3,4,5,6,7,8,9,10,11,12,13,14,15])) rfl fun K hK=>?_;have hJ:K ⟨ofL [(1,.pt (1,0) [] 0),(2,.pt (2,0) [] 0),(22,.bool (!decide (dO m)))],aF [((1,0),some (.bx (mS m))),((2,0),some (.bx [D.int 0,D.int 0,.v (.slice none 0 0)]))]⟩:=by
  apply hK;clear hK K;show AWp _ _ _ _ _;refine ap _ rfl (fun hc1=>?_) (fun hc1=>?_)
  ·have hr:=gk hc1;have hm:prF m=(zM,false):=if_neg hr;apply aa;refine ab fun K hK=>?_;simp[C.aN];apply hK;clear hK K;show AWp _ _ _ _ _;apply aI;simp[C.aN,hm,zM,mO,ints]
  ·have hr:=gw hc1;have hm:prF m=(gg m,true):=if_pos hr;obtain⟨n,hn,hrr,hn4,hL⟩:=hr.dim;have hL16:m.d.length<=16:=by rw[hL];exact Nat.mul_le_mul hn4.2 hn4.2
   have hwn:IntKind.i64.wrap (2*(n:Int))=2*n:=aj (by omega) (by omega);apply au;show AWp _ _ _ _ _;apply aa;refine eG (.take 0 (.take 1 (.take 2 (.take 3 (.take 4 (.take 5 (.take 6 (.all [(7,.take 8 (.all [(9,.all [(10,.done)])])),(9,.all [(7,.take 8 (.all [(10,.done)]))])])))))))) ⟨by kernel_rfl,by kernel_rfl⟩ fun K hK=>?_;have hJ:K ⟨ofL [(1,.pt (1,0) [] 0),(2,.pt (2,0) [] 0),(4,.pt (4,0) [] 0)],aF [((1,0),some (.bx [D.int n,D.int m.r,shI m.d])),((2,0),some (.bx [D.int 0,D.int 0,.v (.slice none 0 0)])),((4,0),some (.bx [D.int n,D.int (2*n),owI m.d]))]⟩:=by
    apply hK;clear hK K;show AWp _ _ _ _ _;apply aa;apply aa;refine ab fun K hK=>?_;simp[C.aN];apply hK;clear hK K;show AWp _ _ _ _ _;apply ak;refine bm (fun i:Nat=>⟨ofL [(1,.pt (1,0) [] 0),(2,.pt (2,0) [] 0),(4,.pt (4,0) [] 0),(5,.int i)],aF [((1,0),some (.bx [D.int n,D.int m.r,shI m.d])),((2,0),some (.bx [D.int 0,D.int 0,.v (.slice none 0 0)])),((4,0),some (.bx [D.int n,D.int (2*n),owI (prD m n i 0)]))]⟩) (fun i=>i<=n) (fun i=>n - i) 0 (by simp[C.aN,prD,idP]) (by simp) ?_;intro x1 hx1 R1 hR1;apply aa;apply aa;refine ab fun K hK=>?_;simp[C.aN,mS,hn];apply hK;clear hK K;show AWp _ _ _ _ _;refine ap _ rfl (fun hc2=>?_) (fun hc2=>?_)
    ·have hi:x1 < n:=by have:=d_t hc2;omega
     apply au;show AWp _ _ _ _ _;apply aa;apply ak;apply aa;refine ab fun K hK=>?_;simp[C.aN];apply hK;clear hK K;show AWp _ _ _ _ _;apply ak;refine bm (fun j:Nat=>⟨ofL [(1,.pt (1,0) [] 0),(2,.pt (2,0) [] 0),(4,.pt (4,0) [] 0),(5,.int x1),(6,.int j)],aF [((1,0),some (.bx [D.int n,D.int m.r,shI m.d])),((2,0),some (.bx [D.int 0,D.int 0,.v (.slice none 0 0)])),((4,0),some (.bx [D.int n,D.int (2*n),owI (prD m n x1 j)]))]⟩) (fun j=>j<=n) (fun j=>n - j) 0 (by simp[C.aN]) (by simp) ?_;intro x2 hx2 R2 hR2;apply aa;apply aa;refine ab fun K hK=>?_;simp[C.aN,mS,hn];apply hK;clear hK K;show AWp _ _ _ _ _;refine ap _ rfl (fun hc3=>?_) (fun hc3=>?_)
     ·have hj:x2 < n:=by have:=d_t hc3;omega
      have hln:=AU m (i:=x1) (show x2<=n by omega);have hl1:x1*n<=16:=Nat.mul_le_mul (show x1<=4 by omega) hn4.2;have hst:=Ej m (i:=x1) hj;obtain⟨A,hA⟩:∃ A,A=prD m n x1 x2:=⟨_,rfl⟩;rw[<-hA] at hst hln;rw[<-hA];apply au;show AWp _ _ _ _ _;apply aa;apply ak;apply aa;refine ab fun K hK=>?_;simp[C.aN];apply hK;clear hK K;show AWp _ _ _ _ _;refine ap _ rfl (fun hc4=>?_) (fun hc4=>?_)
      ·have he:x1=x2:=by have:=hc4;simp at this;omega
       rw[if_pos he] at hst;refine ab fun K hK=>?_;simp[C.aN,ck,show (A.length+1)*8<=140737488355328 by omega];apply hK;clear hK K;show AWp _ _ _ _ _;refine ab fun K hK=>?_;simp[C.aN,ay (show x2 < 4611686018427387904 by omega)];apply hK;clear hK K;simp[C.aN];refine cast (congrArg R2 ?_) (hR2 (x2+1) hj (by omega));simp[<-hst,owI]
      ·have he:¬ x1=x2:=by have:=hc4;simp at this;omega
       rw[if_neg he] at hst;refine ab fun K hK=>?_;simp[C.aN,ck,show (A.length+1)*8<=140737488355328 by omega];apply hK;clear hK K;show AWp _ _ _ _ _;refine ab fun K hK=>?_;simp[C.aN,ay (show x2 < 4611686018427387904 by omega)];apply hK;clear hK K;simp[C.aN];refine cast (congrArg R2 ?_) (hR2 (x2+1) hj (by omega));simp[<-hst,owI]
     ·have hj:x2=n:=by have:=d_f hc3;omega
      rw[hj,Bp];apply aZ;show AWp _ _ _ _ _;refine ab fun K hK=>?_;simp[C.aN,ay (show x1 < 4611686018427387904 by omega)];apply hK;clear hK K;simp[C.aN];exact hR1 (x1+1) hi (by omega)
    ·have hi:x1=n:=by have:=d_f hc2;omega
     rw[hi];have hlast:=zR hn;apply aZ;show AWp _ _ _ _ _;apply aa;refine ab fun K hK=>?_;simp[C.aN];apply hK;clear hK K;show AWp _ _ _ _ _;apply aI;simp[C.aN];rw[hm,<-hlast];simp[mO]
   clear hK;simp[C.aN,mS,hn,hwn]
   repeat' first
    | (refine ae (rR m.d hx) ?_ (by simp) ?_;(focus (simp;done));simp[C.aN,hn,hwn])
    | (refine cast (congrArg K ?_) hJ;simp[mS,hn,hwn];done)
    | refine And.intro ?_ ?_
 clear hK
 by_cases h1:cO m
 ·by_cases h2:m.r=m.n
  ·have hwn:IntKind.i64.wrap (2*m.n)=2*m.n:=by have:=h1.1.1;exact aj (by omega) (by omega)
   have hle:decide (8 < 2*m.n) = !decide (2*m.n<=8):=by
    rw[Bool.eq_iff_iff];simp
   refine oSg fun L hL=>?_;simp[C.aN,hwn,hle,h2,h1,h2];refine ae (d6 m hx) (by simp[hwn,hle,h2]) (by simp) ?_;simp[C.aN,hwn,hle,h2,h1,h2];apply hL;clear hL L;refine oEn fun L hL=>?_;simp[C.aN,hwn,hle,h2,h1,h2];apply hL;clear hL L;simp[C.aN,hwn,hle,h2,h1,h2];refine cast (congrArg K ?_) hJ;simp[dO,mS,h1,h2]
  ·refine oSg fun L hL=>?_;simp[C.aN,h1,h2];refine ae (d6 m hx) (by simp) (by simp) ?_;simp[C.aN,h1,h2];apply hL;clear hL L;refine oEn fun L hL=>?_;simp[C.aN,h1,h2];apply hL;clear hL L;simp[C.aN,h1,h2];refine cast (congrArg K ?_) hJ;simp[dO,mS,h1,h2]
 ·refine oSg fun L hL=>?_;simp[C.aN,h1];refine ae (d6 m hx) (by simp) (by simp) ?_;simp[C.aN,h1];apply hL;clear hL L;refine oEn fun L hL=>?_;simp[C.aN,h1];apply hL;clear hL L;simp[C.aN,h1];refine cast (congrArg K ?_) hJ;simp[dO,mS,h1]
theorem HX (m:Mat) (hx:m.d.length < 17592186044416):af Tryz.prog F.aN [aM m] [] true (fun outs res=>outs=[]/\res=[.ag (mO (prF m).1),.one (D.bool (prF m).2)]):=(n3 m hx).weak1
noncomputable def wkR (m:Mat) (ks:List Int):List Mat×Bool:=match wkF m ks with | some l=>(l,true) | none=>([],false)
theorem so {m p:Mat} (h:WkM m p):p.d.length<=40:=by
 have hd:=C1 h.1.1;rw[hd.2.2.2.2.1];exact Nat.le_trans (Nat.mul_le_mul hd.2.2.2.1 hd.2.1) (by omega)
theorem AK (m:Mat) (ks:List Int) (hx:m.d.length < 17592186044416) (hks:ks.length < 4611686018427387904):af Tryz.prog F.cm [aM m,.d (shI ks)] [] false (fun outs res=>outs=[]/\eb res [.one (.ow 3 (wkR m ks).1.length (rows mS (wkR m ks).1)),.one (D.bool (wkR m ks).2)]):=by
 have hpr:=HX m hx;have hpe:prF m=if dO m then (gg m,true) else (zM,false):=rfl;generalize prF m=I at hpr hpe;have hib:I.2=decide (dO m):=by rw[hpe];split <;> simp[*]
 refine af.ob (C:=C.cm) (n:=Tryz.f82.ntmps) bC bD Tryz.func82 rfl rfl ?_;simp only[Tryz.f82];apply aa;refine ab fun K hK=>?_;simp[C.cm];apply hK;clear hK K;show AWp _ _ _ _ _;apply aa;refine aK ([0,1] ++ ([2,3,4,5,6,7])) rfl fun K hK=>?_;refine oSg fun L hL=>?_;simp[C.cm,mO];refine ae (hpr) (by simp) (by simp) ?_;simp[C.cm,mO];apply hL;clear hL L;refine oEn fun L hL=>?_;simp[C.cm,mO];apply hL;clear hL L;simp[C.cm,mO];apply hK;clear hK K;show AWp _ _ _ _ _;apply aa;apply aa;refine ab fun K hK=>?_;have hJ:K ⟨ofL [(1,.d (shI ks)),(6,.pt (6,0) [] 0),(22,.bool (!decide (dO m/\ks.length<=40)))],aF [((6,0),some (.bx (mS I.1)))]⟩:=by
  apply hK;clear hK K;show AWp _ _ _ _ _;refine ap _ rfl (fun hc1=>?_) (fun hc1=>?_)
  ·have hr:=gk hc1;have hm0:wkF m ks=none:=if_neg hr;have hm:wkR m ks=([],false):=by unfold wkR;rw[hm0]
   apply aa;refine ab fun K hK=>?_;simp[C.cm];apply hK;clear hK K;show AWp _ _ _ _ _;apply aI;simp[C.cm,hm,rows]
  ·have hr:=gw hc1;have hm0:wkF m ks=wkL m ks ks.length:=if_pos hr;have hi1:I.1=gg m:=by rw[hpe,if_pos hr.1]
   apply au;show AWp _ _ _ _ _;apply aa;refine ab fun K hK=>?_;simp[C.cm,mS];apply hK;clear hK K;show AWp _ _ _ _ _;apply aa;apply aa;refine ab fun K hK=>?_;simp[C.cm];apply hK;clear hK K;show AWp _ _ _ _ _;apply ak;refine bm (fun x:Nat×Mat×List Mat=>⟨ofL [(6,.pt (6,0) [] 0),(8,.al (8,0) [] 0 x.2.2.length),(25,.d (shI ks)),(26,.int ks.length),(27,.int x.1)],aF [((6,0),some (.bx (mS x.2.1))),((8,0),some (.ow 3 x.2.2.length (rows mS x.2.2)))]⟩) (fun x=>x.1<=ks.length/\wkL m ks x.1=some x.2.2/\x.2.1=x.2.2.getD x.1 zM) (fun x=>ks.length - x.1) (0,I.1,[I.1]) (by simp[C.cm,rows,mS]) ⟨by simp,by rw[hi1];rfl,rfl⟩ ?_;intro x1 hx1 R1 hR1;obtain⟨i,p,l⟩:=x1;obtain⟨hi0,hw,hp⟩:=hx1;dsimp only at hi0 hw hp ⊢;obtain⟨w1,w2,w3⟩:=qq hr.1 hw;have hpg:p=l[i]'(by omega):=by rw[hp];simp[List.getD_eq_getElem?_getD,show i < l.length by omega]
   have hpm:WkM m p:=by rw[hpg];exact w2 _ (List.getElem_mem _)
   have hpl:=so hpm;apply aa;refine ab fun K hK=>?_;simp[C.cm];apply hK;clear hK K;show AWp _ _ _ _ _;apply aa;refine ap _ rfl (fun hc2=>?_) (fun hc2=>?_)
   ·have hi:i < ks.length:=by have:=d_t hc2;omega
    have hmu:=IY p ks[i] (by omega);have hws:wkL m ks (i+1)=if (muF p ks[i]).2=true then some (l ++ [(muF p ks[i]).1]) else none:=by
     simp only[wkL,hw];rw[<-hp,show ks.getD i 0=ks[i] by simp[List.getD_eq_getElem?_getD,hi]]
    obtain⟨M,hM⟩:∃ M,M=muF p ks[i]:=⟨_,rfl⟩;rw[<-hM] at hmu hws;apply au;show AWp _ _ _ _ _;apply aa;apply ak;apply aa;refine ab fun K hK=>?_;simp[C.cm,ao,hi,show (i:Int) < ks.length by omega];apply hK;clear hK K;show AWp _ _ _ _ _;apply aa;refine aK ([0,1,2] ++ ([3,4,5,6,7])) rfl fun K hK=>?_;refine oSg fun L hL=>?_;simp[C.cm,mO,mS];refine ae (hmu) (by simp) (by simp) ?_;simp[C.cm,mO,mS];apply hL;clear hL L;refine oEn fun L hL=>?_;simp[C.cm,mO,mS];apply hL;clear hL L;simp[C.cm,mO,mS];apply hK;clear hK K;show AWp _ _ _ _ _;apply aa;apply aa;refine ab fun K hK=>?_;simp[C.cm];apply hK;clear hK K;show AWp _ _ _ _ _;refine ap _ rfl (fun hc3=>?_) (fun hc3=>?_)
    ·have hb:M.2=false:=by simpa using hc3
     have hn0:wkL m ks (i+1)=none:=by rw[hws,hb];rfl
     have hm1:wkF m ks=none:=by rw[hm0];exact yU hn0 (by omega)
     have hm:wkR m ks=([],false):=by unfold wkR;rw[hm1]
     apply aa;refine ab fun K hK=>?_;simp[C.cm];apply hK;clear hK K;show AWp _ _ _ _ _;apply aI;simp[C.cm,hm,rows]
    ·have hb:M.2=true:=by simpa using hc3
     rw[if_pos hb] at hws;apply au;show AWp _ _ _ _ _;refine ab fun K hK=>?_;simp[C.cm,Fh,mS,show (l.length+1)*40<=140737488355328 by omega];apply hK;clear hK K;show AWp _ _ _ _ _;refine ab fun K hK=>?_;simp[C.cm,ay (show i < 4611686018427387904 by omega)];apply hK;clear hK K;simp[C.cm];refine cast (congrArg R1 ?_) (hR1 (i+1,M.1,l ++ [M.1]) ⟨hi,hws,?_⟩ (by dsimp only;omega))
     ·simp[mS]
     ·dsimp only;rw[<-w1];simp[List.getD_eq_getElem?_getD]
   ·have hi:i=ks.length:=by have:=d_f hc2;omega
    have hm:wkR m ks=(l,true):=by
     unfold wkR;rw[hm0,<-hi,hw]
    apply aZ;show AWp _ _ _ _ _;apply aa;refine ab fun K hK=>?_;simp[C.cm];apply hK;clear hK K;show AWp _ _ _ _ _;apply aI;simp[C.cm,hm]
 clear hK
 by_cases h1:dO m
 ·simp[C.cm,hib,rU,h1];refine cast (congrArg K ?_) hJ;simp[mS,h1]
 ·simp[C.cm,hib,rU,h1];refine cast (congrArg K ?_) hJ;simp[mS,h1]
theorem IQ (m:Mat) (ks:List Int) (hx:m.d.length < 17592186044416) (hks:ks.length < 4611686018427387904):af Tryz.prog F.cm [aM m,.d (shI ks)] [] false (fun outs res=>outs=[]/\res=[.one (.ow 3 (wkR m ks).1.length (rows mS (wkR m ks).1)),.one (D.bool (wkR m ks).2)]):=(AK m ks hx hks).weak1
theorem g8 (m:Mat) (hx:m.d.length < 17592186044416):af Tryz.prog F.cP [aM m] [] true (fun outs res=>outs=[]/\res=[.one (D.bool (decide (dO m)))]):=by
 refine af.ob (C:=C.cP) (n:=Tryz.f100.ntmps) bC bD Tryz.func100 rfl rfl ?_;simp only[Tryz.f100];apply aa;refine ab fun K hK=>?_;simp[C.cP];apply hK;clear hK K;show AWp _ _ _ _ _;apply aa;refine aK ([0,1] ++ ([2,3,4,5,6,7,8,9,10,11,12,13,14,15])) rfl fun K hK=>?_;have hJ:K ⟨ofL [(2,.bool (decide (dO m)))],aF []⟩:=by
  apply hK;clear hK K;show AWp _ _ _ _ _;apply aI;simp[C.cP]
 clear hK
 by_cases h1:cO m
 ·by_cases h2:m.r=m.n
  ·have hwn:IntKind.i64.wrap (2*m.n)=2*m.n:=by have:=h1.1.1;exact aj (by omega) (by omega)
   refine oSg fun L hL=>?_;simp[C.cP,hwn,h2,h1,h2];refine ae (eN m hx) (by simp[hwn,h2]) (by simp) ?_;simp[C.cP,hwn,h2,h1,h2];apply hL;clear hL L;refine oEn fun L hL=>?_;simp[C.cP,hwn,h2,h1,h2];apply hL;clear hL L;simp[C.cP,hwn,h2,h1,h2];refine cast (congrArg K ?_) hJ;simp[dO,h1,h2]
  ·refine oSg fun L hL=>?_;simp[C.cP,h1,h2];refine ae (eN m hx) (by simp) (by simp) ?_;simp[C.cP,h1,h2];apply hL;clear hL L;refine oEn fun L hL=>?_;simp[C.cP,h1,h2];apply hL;clear hL L;simp[C.cP,h1,h2];refine cast (congrArg K ?_) hJ;simp[dO,h1,h2]
 ·refine oSg fun L hL=>?_;simp[C.cP,h1];refine ae (eN m hx) (by simp) (by simp) ?_;simp[C.cP,h1];apply hL;clear hL L;refine oEn fun L hL=>?_;simp[C.cP,h1];apply hL;clear hL L;simp[C.cP,h1];refine cast (congrArg K ?_) hJ;simp[dO,h1]
theorem qF (m:Mat) (n:Nat) (hn:m.n=n) (hn4:1<=n/\n<=4) (hL:m.d.length<=16):af Tryz.prog F.bZ [aM m] [] true (fun outs res=>outs=[]/\res=[.ag (mO (gg m))]):=by
 have hwn:IntKind.i64.wrap (2*(n:Int))=2*n:=aj (by omega) (by omega);refine af.ob (C:=C.bZ) (n:=Tryz.f103.ntmps) bC bD Tryz.func103 rfl rfl ?_;simp only[Tryz.f103];apply aa;refine ab fun K hK=>?_;simp[C.bZ];apply hK;clear hK K;show AWp _ _ _ _ _;apply aa;refine aK ([0,1] ++ ([2,3])) rfl fun K hK=>?_;refine oSg fun L hL=>?_;simp[C.bZ,mO];refine ae (kZ m (by omega)) (by simp) (by simp) ?_;simp[C.bZ,mO];apply hL;clear hL L;refine oEn fun L hL=>?_;simp[C.bZ,mO];apply hL;clear hL L;simp[C.bZ,mO];apply hK;clear hK K;show AWp _ _ _ _ _;apply aa;refine ab fun K hK=>?_;simp[C.bZ,hn,hwn];apply hK;clear hK K;show AWp _ _ _ _ _;apply aa;apply aa;refine ab fun K hK=>?_;simp[C.bZ];apply hK;clear hK K;show AWp _ _ _ _ _;apply ak;refine bm (fun i:Nat=>⟨ofL [(1,.pt (1,0) [] 0),(2,.pt (2,0) [] 0),(3,.pt (3,0) [] 0),(4,.int i)],aF [((1,0),some (.bx [D.int n,D.int m.r,shI m.d])),((2,0),some (.bx [D.int 0,D.int 0,.v (.slice none 0 0)])),((3,0),some (.bx [D.int n,D.int (2*n),owI (prD m n i 0)]))]⟩) (fun i=>i<=n) (fun i=>n - i) 0 (by simp[C.bZ,prD,idP,hn]) (by simp) ?_;intro x1 hx1 R1 hR1;apply aa;apply aa;refine ab fun K hK=>?_;simp[C.bZ];apply hK;clear hK K;show AWp _ _ _ _ _;refine ap _ rfl (fun hc1=>?_) (fun hc1=>?_)
 ·have hi:x1 < n:=by have:=d_t hc1;omega
  have hln:=AU m (i:=x1) (show 0<=n by omega);have hl1:x1*n<=16:=Nat.mul_le_mul (show x1<=4 by omega) hn4.2;have hst:=EN m n x1;obtain⟨A,hA⟩:∃ A,A=prD m n x1 0:=⟨_,rfl⟩;rw[<-hA] at hst hln;rw[<-hA];have hu:(List.replicate n (0:Int)).set x1 1=ci n x1:=rfl;have hul:=bq n x1;apply au;show AWp _ _ _ _ _;apply aa;apply ak;apply aa;refine ab fun K hK=>?_;simp[C.bZ,cL,show (8:Int)*n<=281474976710656 by omega,show (n:Int)<=281474976710656 by omega];apply hK;clear hK K;show AWp _ _ _ _ _;apply aa;refine ab fun K hK=>?_;simp[C.bZ,hi,show (x1:Int) < n by omega,hu];apply hK;clear hK K;show AWp _ _ _ _ _;refine ab fun K hK=>?_;simp[C.bZ,hul,show (A.length+n)*8<=140737488355328 by omega];apply hK;clear hK K;show AWp _ _ _ _ _;refine ab fun K hK=>?_;simp[C.bZ,ay (show x1 < 4611686018427387904 by omega)];apply hK;clear hK K;simp[C.bZ];refine cast (congrArg R1 ?_) (hR1 (x1+1) hi (by omega));simp[<-hst,hul,owI]
 ·have hi:x1=n:=by have:=d_f hc1;omega
  rw[hi];have hlast:=zR hn;apply aZ;show AWp _ _ _ _ _;apply aa;refine ab fun K hK=>?_;simp[C.bZ];apply hK;clear hK K;show AWp _ _ _ _ _;apply aI;simp[C.bZ];rw[<-hlast];simp[mO]
theorem wz (m:Mat) (ks:List Int) (hx:m.d.length < 17592186044416) (hks:ks.length < 4611686018427387904):af Tryz.prog F.bJ [aM m,.d (shI ks)] [] true (fun outs res=>outs=[]/\eb res [.one (.ow 3 (wkR m ks).1.length (rows mO (wkR m ks).1)),.one (D.bool (wkR m ks).2)]):=by
 refine af.ob (C:=C.bJ) (n:=Tryz.f53.ntmps) bC bD Tryz.func53 rfl rfl ?_;simp only[Tryz.f53];apply aa;refine ab fun K hK=>?_;simp[C.bJ];apply hK;clear hK K;show AWp _ _ _ _ _;apply aa;apply aa;refine aK ([0,1] ++ ([2,3,4,5,6,7])) rfl fun K hK=>?_;have hJ:K ⟨ofL [(1,.d (shI ks)),(2,.pt (2,0) [] 0),(17,.bool (!decide (dO m/\ks.length<=40)))],aF [((2,0),some (.bx (mS m)))]⟩:=by
  apply hK;clear hK K;show AWp _ _ _ _ _;refine ap _ rfl (fun hc1=>?_) (fun hc1=>?_)
  ·have hr:=gk hc1;have hm0:wkF m ks=none:=if_neg hr;have hm:wkR m ks=([],false):=by unfold wkR;rw[hm0]
   apply aa;refine ab fun K hK=>?_;simp[C.bJ];apply hK;clear hK K;show AWp _ _ _ _ _;apply aI;simp[C.bJ,hm,rows]
  ·have hr:=gw hc1;have hm0:wkF m ks=wkL m ks ks.length:=if_pos hr;obtain⟨n,hn,hrr,hn4,hL⟩:=hr.1.dim;have hL16:m.d.length<=16:=by rw[hL];exact Nat.mul_le_mul hn4.2 hn4.2
   apply au;show AWp _ _ _ _ _;apply aa;refine aK ([0,1] ++ ([2,3])) rfl fun K hK=>?_;refine oSg fun L hL=>?_;simp[C.bJ,mS,mO];refine ae (qF m n hn hn4 hL16) (by simp) (by simp) ?_;simp[C.bJ,mS,mO];apply hL;clear hL L;refine oEn fun L hL=>?_;simp[C.bJ,mS,mO];apply hL;clear hL L;simp[C.bJ,mS,mO];apply hK;clear hK K;show AWp _ _ _ _ _;apply aa;apply aa;refine ab fun K hK=>?_;simp[C.bJ];apply hK;clear hK K;show AWp _ _ _ _ _;apply ak;refine bm (fun x:Nat×List Mat=>⟨ofL [(1,.d (shI ks)),(6,.al (6,0) [] 0 x.2.length),(7,.int x.1)],aF [((6,0),some (.ow 3 x.2.length (rows mO x.2)))]⟩) (fun x=>x.1<=ks.length/\wkL m ks x.1=some x.2) (fun x=>ks.length - x.1) (0,[gg m]) (by simp[C.bJ,rows,mO]) ⟨by simp,rfl⟩ ?_;intro x1 hx1 R1 hR1;obtain⟨i,l⟩:=x1;obtain⟨hi0,hw⟩:=hx1;dsimp only at hi0 hw ⊢;obtain⟨w1,w2,w3⟩:=qq hr.1 hw;apply aa;apply aa;refine ab fun K hK=>?_;simp[C.bJ];apply hK;clear hK K;show AWp _ _ _ _ _;refine ap _ rfl (fun hc2=>?_) (fun hc2=>?_)
   ·have hi:i < ks.length:=by have:=d_t hc2;omega
    have hil:i < l.length:=by omega
    have hpm:WkM m l[i]:=w2 _ (List.getElem_mem _);have hpl:=so hpm;have hmu:=Ju l[i] ks[i] (by omega);have hws:wkL m ks (i+1)=if (muF l[i] ks[i]).2=true then some (l ++ [(muF l[i] ks[i]).1]) else none:=by
     simp only[wkL,hw];rw[show ks.getD i 0=ks[i] by simp[List.getD_eq_getElem?_getD,hi],show l.getD i zM=l[i] by simp[List.getD_eq_getElem?_getD,hil]]
    obtain⟨M,hM⟩:∃ M,M=muF l[i] ks[i]:=⟨_,rfl⟩;rw[<-hM] at hmu hws;apply au;show AWp _ _ _ _ _;apply aa;apply ak;apply aa;refine eG (.take 0 (.take 1 (.take 2 (.take 3 (.take 4 (.take 5 (.take 6 (.take 7 (.all [(8,.take 9 (.take 10 (.take 11 (.all [(12,.all [(13,.take 14 (.done))])])))),(12,.all [(8,.take 9 (.take 10 (.take 11 (.all [(13,.take 14 (.done))]))))])]))))))))) ⟨by kernel_rfl,by kernel_rfl⟩ fun K hK=>?_;have hJ:K ⟨ofL [(1,.d (shI ks)),(6,.al (6,0) [] 0 l.length),(7,.int i),(8,.pt (8,0) [] 0),(9,.bool M.2)],aF [((6,0),some (.ow 3 l.length (rows mO l))),((8,0),some (.bx (mO M.1)))]⟩:=by
     apply hK;clear hK K;show AWp _ _ _ _ _;apply aa;apply aa;refine ab fun K hK=>?_;simp[C.bJ];apply hK;clear hK K;show AWp _ _ _ _ _;refine ap _ rfl (fun hc3=>?_) (fun hc3=>?_)
     ·have hb:M.2=false:=by simpa using hc3
      have hn0:wkL m ks (i+1)=none:=by rw[hws,hb];rfl
      have hm1:wkF m ks=none:=by rw[hm0];exact yU hn0 (by omega)
      have hm:wkR m ks=([],false):=by unfold wkR;rw[hm1]
      apply aa;refine ab fun K hK=>?_;simp[C.bJ];apply hK;clear hK K;show AWp _ _ _ _ _;apply aI;simp[C.bJ,hm,rows]
     ·have hb:M.2=true:=by simpa using hc3
      rw[if_pos hb] at hws;apply au;show AWp _ _ _ _ _;refine ab fun K hK=>?_;simp[C.bJ,FB,mO,show (l.length+1)*40<=140737488355328 by omega];apply hK;clear hK K;show AWp _ _ _ _ _;refine ab fun K hK=>?_;simp[C.bJ,ay (show i < 4611686018427387904 by omega)];apply hK;clear hK K;simp[C.bJ];refine cast (congrArg R1 ?_) (hR1 (i+1,l ++ [M.1]) ⟨hi,hws⟩ (by dsimp only;omega));simp
    clear hK;simp[C.bJ,ao,hi,hil,rJ hil,re hil,qG hil,show (i:Int) < ks.length by omega,show (i:Int) < l.length by omega]
    repeat' first
     | (refine ae (hmu) ?_ (by simp) ?_;(focus (simp[rJ hil,re hil,qG hil];done));simp[C.bJ,mO])
     | (refine cast (congrArg K ?_) hJ;simp[mO];done)
     | refine And.intro ?_ ?_
   ·have hi:i=ks.length:=by have:=d_f hc2;omega
    have hm:wkR m ks=(l,true):=by
     unfold wkR;rw[hm0,<-hi,hw]
    apply aZ;show AWp _ _ _ _ _;apply aa;refine ab fun K hK=>?_;simp[C.bJ];apply hK;clear hK K;show AWp _ _ _ _ _;apply aI;simp[C.bJ,hm]
 clear hK
 by_cases h1:dO m
 ·refine oSg fun L hL=>?_;simp[C.bJ,rU,h1];refine ae (g8 m hx) (by simp) (by simp) ?_;simp[C.bJ,rU,h1];apply hL;clear hL L;refine oEn fun L hL=>?_;simp[C.bJ,rU,h1];apply hL;clear hL L;simp[C.bJ,rU,h1];refine cast (congrArg K ?_) hJ;simp[mS,h1]
 ·refine oSg fun L hL=>?_;simp[C.bJ,h1];refine ae (g8 m hx) (by simp) (by simp) ?_;simp[C.bJ,h1];apply hL;clear hL L;refine oEn fun L hL=>?_;simp[C.bJ,h1];apply hL;clear hL L;simp[C.bJ,h1];refine cast (congrArg K ?_) hJ;simp[mS,h1]
set_option maxRecDepth 10000
set_option maxHeartbeats 4000000
theorem CI (r:List (Nat×FV)) (t:Nat) (f v:FV):upd (ofL ((t,f) :: r)) t v=ofL ((t,v) :: r):=by
 funext s;unfold upd;simp only[ofL]
 by_cases h:s=t
 ·rw[if_pos h,if_pos h.symm]
 ·rw[if_neg h,if_neg (fun e=>h e.symm),if_neg (fun e=>h e.symm)]
theorem AZ {i t:Nat} {f v:FV} {r r2:List (Nat×FV)} (h:i≠t) (e:upd (ofL r) t v=ofL r2):upd (ofL ((i,f) :: r)) t v=ofL ((i,f) :: r2):=by
 funext s;have e2:=congrFun e s;unfold upd at e2 ⊢;simp only[ofL]
 by_cases q:i=s
 ·rw[if_neg (by omega),if_pos q,if_pos q]
 ·rw[if_neg q,if_neg q];exact e2
theorem A6 (en:Nat->FV) (r:Rn) (d:D):(St.root ⟨en,aF []⟩ r d).rts=aF [(r,some d)]:=by
 funext q;simp only[St.root,aF]
 by_cases h:q=r
 ·rw[if_pos h,if_pos h.symm]
 ·rw[if_neg h,if_neg (fun e=>h e.symm)]
theorem yy {en:Nat->FV} {i r:Rn} {d:D} {x:Option D} {s s2:List (Rn×Option D)} (h:i≠r) (e:(St.root ⟨en,aF s⟩ r d).rts=aF s2):(St.root ⟨en,aF ((i,x) :: s)⟩ r d).rts=aF ((i,x) :: s2):=by
 funext q;have e2:=congrFun e q;simp only[St.root,aF] at e2 ⊢
 by_cases c:i=q
 ·rw[if_neg (fun z=>h (c.trans z)),if_pos c,if_pos c]
 ·rw[if_neg c,if_neg c];exact e2
theorem D9 (l:List (List Int)) (r:List Int):rows lO l ++ [D.ow 1 r.length (ints r)]=rows lO (l ++ [r]):=by
 rw[dT];simp[rows,lO,owI]
theorem lz (l:List (List Int)) {r:List Int} {n:Nat} (h:r.length=n):rows lO l ++ [D.ow 1 n (ints r)]=rows lO (l ++ [r]):=by
 subst h;exact D9 l r
def foG (n:Nat) (f:Nat->Nat->Int) (i p q:Nat):Int:=if p < i\/(n<=p/\p < n+i) then f p q else 0
def foH (n:Nat) (f:Nat->Nat->Int) (i j p q:Nat):Int:=if p < i+1\/(n<=p/\p < n+i)\/(p=n+i/\q < n+j) then f p q else 0
theorem Ka (n N:Nat) (f:Nat->Nat->Int):tbL N (foG n f 0)=List.replicate N (List.replicate N 0):=by
 rw[<-EX];exact l6 fun p _ q _=>by unfold foG;rw[if_neg (by omega)]
theorem H2 (n:Nat) (f:Nat->Nat->Int) (i:Nat):tbL (2*n) (foH n f i n)=tbL (2*n) (foG n f (i+1)):=
 l6 fun p hp q hq=>by
  unfold foH foG
  by_cases h:p < i+1\/(n<=p/\p < n+(i+1))
  ·rw[if_pos h,if_pos (by omega)]
  ·rw[if_neg h,if_neg (by omega)]
theorem Ii (n:Nat) (f:Nat->Nat->Int):tbL (2*n) (foG n f n)=tbL (2*n) f:=
 l6 fun p hp q hq=>by
  unfold foG;rw[if_pos (by omega)]
theorem Eo {n i:Nat} (hi:i < n) (d:Nat->Int) (b:Nat->Nat->Int) {x y:Int} (hx:x=-d i) (hy:y=d i) :
  ((tbL (2*n) (foG n (foT n d b) i)).set i ((tbR (2*n) (foG n (foT n d b) i i)).set (n+i) x)).set (n+i) ((tbR (2*n) (foG n (foT n d b) i (n+i))).set i y)=tbL (2*n) (foH n (foT n d b) i 0):=by
 rw[wu _ (show i < 2*n by omega)];have e:tbR (2*n) (foG n (foT n d b) i (n+i))=tbR (2*n) ((fun p q=>if p=i/\q=n+i then x else foG n (foT n d b) i p q) (n+i)):=ga fun q _=>by
  dsimp only;rw[if_neg (by omega)]
 rw[e,wu _ (show n+i < 2*n by omega)];refine l6 fun p hp q hq=>?_;unfold foH foG
 by_cases h1:p=n+i/\q=i
 ·rw[if_pos h1,if_pos (by omega),hy,h1.1,h1.2];unfold foT;rw[if_neg (by omega),if_pos (by omega),if_pos rfl]
 ·rw[if_neg h1]
  by_cases h2:p=i/\q=n+i
  ·rw[if_pos h2,if_pos (by omega),hx,h2.1,h2.2];unfold foT;rw[if_pos (by omega),if_pos rfl]
  ·rw[if_neg h2]
   by_cases h3:p < i\/(n<=p/\p < n+i)
   ·rw[if_pos h3,if_pos (by omega)]
   ·rw[if_neg h3]
    by_cases h4:p < i+1\/(n<=p/\p < n+i)\/(p=n+i/\q < n+0)
    ·rw[if_pos h4];unfold foT
     by_cases h5:p < n
     ·rw[if_pos h5,if_neg (by omega)]
     ·rw[if_neg h5,if_pos (by omega),if_neg (by omega)]
    ·rw[if_neg h4]
theorem ED {n i j:Nat} (hi:i < n) (hj:j < n) (d:Nat->Int) (b:Nat->Nat->Int) {x:Int} (hx:x=-d i*b i j) :
  (tbL (2*n) (foH n (foT n d b) i j)).set (n+i) ((tbR (2*n) (foH n (foT n d b) i j (n+i))).set (n+j) x)=tbL (2*n) (foH n (foT n d b) i (j+1)):=by
 rw[wu _ (show n+i < 2*n by omega)];refine l6 fun p hp q hq=>?_;unfold foH
 by_cases h1:p=n+i/\q=n+j
 ·rw[if_pos h1,if_pos (by omega),hx,h1.1,h1.2];unfold foT;rw[if_neg (by omega),if_neg (by omega),show n+i - n=i by omega,show n+j - n=j by omega]
 ·rw[if_neg h1]
  by_cases h2:p < i+1\/(n<=p/\p < n+i)\/(p=n+i/\q < n+j)
  ·rw[if_pos h2,if_pos (by omega)]
  ·rw[if_neg h2,if_neg (by omega)]
theorem DY {x y:Int} (hx:0 < x/\x<=99 ^ 8) (hy:y.natAbs<=99):(x*y).natAbs<=99 ^ 9:=by
 rw[Int.natAbs_mul];have:x.natAbs*y.natAbs<=99 ^ 8*99:=Nat.mul_le_mul (by omega) hy;omega
theorem Bw {m:Mat} (hS:ShM m) (hm:ct m.n.toNat (bM m) (dsM m)):I64 (foL m):=fun r hr x hx=>by
 simp only[foL,tbL,List.mem_map,List.mem_range] at hr;obtain⟨i,hi,rfl⟩:=hr;simp only[tbR,List.mem_map,List.mem_range] at hx;obtain⟨j,hj,rfl⟩:=hx;have hd:∀ i,i < m.n.toNat->0 < g0 (dsM m) i/\g0 (dsM m) i<=99 ^ 8:=fun i hi=>⟨hm.2.1.pos i hi,hm.2.2.2 i hi⟩;unfold foT;split
 ·rename_i h1;have:=hd i h1;split <;> omega
 ·split
  ·rename_i h1;have:=hd j h1;split <;> omega
  ·have h1:=DY (hd (i - m.n.toNat) (by omega)) (gV hS (i - m.n.toNat) (j - m.n.toNat));have h2:-g0 (dsM m) (i - m.n.toNat)*bM m (i - m.n.toNat) (j - m.n.toNat)=-(g0 (dsM m) (i - m.n.toNat)*bM m (i - m.n.toNat) (j - m.n.toNat)):=Int.neg_mul _ _;rw[h2];generalize g0 (dsM m) (i - m.n.toNat)*bM m (i - m.n.toNat) (j - m.n.toNat)=z at *
   omega
theorem zt {N j:Nat} (f:Nat->Int) {x:Int} (hx:x=f j):(tbR N (fun q=>if q < j then f q else 0)).set j x=tbR N (fun q=>if q < j+1 then f q else 0):=by
 rw[sv];refine ga fun q _=>?_
 by_cases h:q=j
 ·subst h;rw[if_pos rfl,if_pos (by omega),hx]
 ·rw[if_neg h]
  by_cases g:q < j
  ·rw[if_pos g,if_pos (by omega)]
  ·rw[if_neg g,if_neg (by omega)]
theorem Ec {N j:Nat} (f:Nat->Int) (hx:0=f j):tbR N (fun q=>if q < j then f q else 0)=tbR N (fun q=>if q < j+1 then f q else 0):=by
 refine ga fun q _=>?_
 by_cases g:q < j
 ·rw[if_pos g,if_pos (by omega)]
 ·rw[if_neg g]
  by_cases h:q < j+1
  ·rw[if_pos h,show q=j by omega];exact hx
  ·rw[if_neg h]
theorem yD {N:Nat} (f:Nat->Int):tbR N (fun q=>if q < N then f q else 0)=tbR N f:=ga fun q hq=>by rw[if_pos hq]
theorem DS (N:Nat) (f:Nat->Int):tbR N (fun q=>if q < 0 then f q else 0)=List.replicate N 0:=by
 rw[<-tM];exact ga fun q _=>by rw[if_neg (by omega)]
theorem pg (m:Mat) (hx:m.d.length < 17592186044416) (hS:ShM m) (l:List Int) (hl:ct m.n.toNat (bM m) l):af Tryz.prog F.aV [aM m] [] true (fun outs res=>outs=[]/\res=[.one (owI l)]):=by
 refine af.ob (C:=C.aV) (n:=Tryz.f79.ntmps) bC bD Tryz.func79 rfl rfl ?_;simp only[Tryz.f79];apply aa;refine ab fun K hK=>?_;simp[C.aV,mS];apply hK;clear hK K;show AWp _ _ _ _ _;apply aa;apply aa;refine aK ([0,1] ++ ([2])) rfl fun K hK=>?_;refine oSg fun L hL=>?_;simp[C.aV,mS,hS];refine ae (gG m hx) (by simp[mS,hS]) (by simp) ?_;simp[C.aV,mS,hS];apply hL;clear hL L;refine oEn fun L hL=>?_;simp[C.aV,mS,hS];apply hL;clear hL L;simp[C.aV,mS,hS];apply hK;clear hK K;show AWp _ _ _ _ _;refine ap _ rfl (fun hc1=>?_) (fun hc1=>?_)
 ·simp at hc1
 ·apply au;show AWp _ _ _ _ _;apply aa;refine aK ([0,1] ++ ([2])) rfl fun K hK=>?_;refine oSg fun L hL=>?_;simp[C.aV,mS];refine ae (qB hS hl) (by simp[mS]) (by simp) ?_;simp[C.aV,mS];apply hL;clear hL L;refine oEn fun L hL=>?_;simp[C.aV,mS];apply hL;clear hL L;simp[C.aV,mS];apply hK;clear hK K;show AWp _ _ _ _ _;apply aI;simp[C.aV,mS]
theorem kf (m:Mat) (hx:m.d.length < 17592186044416) (hl:¬ ∃ l,ct m.n.toNat (bM m) l):af Tryz.prog F.aV [aM m] [] true (fun outs res=>outs=[]/\¬ cO m/\res=[.one (.v (.slice none 0 0))]):=by
 refine af.ob (C:=C.aV) (n:=Tryz.f79.ntmps) bC bD Tryz.func79 rfl rfl ?_;simp only[Tryz.f79];apply aa;refine ab fun K hK=>?_;simp[C.aV,mS];apply hK;clear hK K;show AWp _ _ _ _ _;apply aa;apply aa;refine aK ([0,1] ++ ([2])) rfl fun K hK=>?_;refine oSg fun L hL=>?_;simp[C.aV,mS];refine ae (gG m hx) (by simp[mS]) (by simp) ?_;simp[C.aV,mS];apply hL;clear hL L;refine oEn fun L hL=>?_;simp[C.aV,mS];apply hL;clear hL L;simp[C.aV,mS];apply hK;clear hK K;show AWp _ _ _ _ _;refine ap _ rfl (fun hc1=>?_) (fun hc1=>?_)
 ·have hS:¬ ShM m:=by simpa using hc1
  apply aa;refine ab fun K hK=>?_;simp[C.aV,mS];apply hK;clear hK K;show AWp _ _ _ _ _;apply aI;simp[C.aV,mS];exact fun h=>hS h.1
 ·have hS:ShM m:=by simpa using hc1
  apply au;show AWp _ _ _ _ _;apply aa;refine aK ([0,1] ++ ([2])) rfl fun K hK=>?_;refine oSg fun L hL=>?_;simp[C.aV,mS];refine fh (rC hS (fun l h=>hl ⟨l,h⟩)) (by simp) (by simp) (by simp) ?_;rintro outs res ⟨rfl,hd,rfl⟩;simp[C.aV,mS];apply hL;clear hL L;refine oEn fun L hL=>?_;simp[C.aV,mS];apply hL;clear hL L;simp[C.aV,mS];apply hK;clear hK K;show AWp _ _ _ _ _;apply aI;simp[C.aV,mS];exact fun h=>by obtain⟨d,h⟩:=h.2;exact hd d h
theorem vR (m:Mat) (hx:m.d.length < 17592186044416) (hl:¬ ∃ l,ct m.n.toNat (bM m) l):af Tryz.prog F.aE [aM m] [] true (fun outs res=>outs=[]/\eb res [.one (.ow 1 (foF m).1.length (rows lO (foF m).1)),.one (D.bool (foF m).2)]):=by
 refine af.ob (C:=C.aE) (n:=Tryz.f33.ntmps) bC bD Tryz.func33 rfl rfl ?_;simp only[Tryz.f33];apply aa;refine ab fun K hK=>?_;simp[C.aE,mS];apply hK;clear hK K;show AWp _ _ _ _ _;apply aa;refine aK ([0,1] ++ ([2])) rfl fun K hK=>?_;refine oSg fun L hL=>?_;simp[C.aE,mS];refine fh (kf m hx hl) (by simp) (by simp) (by simp) ?_;rintro outs res ⟨rfl,hno,rfl⟩;simp[C.aE,mS];apply hL;clear hL L;refine oEn fun L hL=>?_;simp[C.aE,mS];apply hL;clear hL L;simp[C.aE,mS];apply hK;clear hK K;show AWp _ _ _ _ _;apply aa;refine ab fun K hK=>?_;simp[C.aE,mS];apply hK;clear hK K;show AWp _ _ _ _ _;apply aa;apply aa;refine aK ([0,1,2,3,4,5,6,7,8,9,10,11,12]) rfl fun K hK=>?_;refine oEn fun L hL=>?_;simp[C.aE,mS];apply hL;clear hL L;simp[C.aE,mS];apply hK;clear hK K;show AWp _ _ _ _ _;refine ap _ rfl (fun hc1=>?_) (fun hc1=>?_)
 ·have hf:foF m=([],false):=if_neg (fun h=>hno h.1.1);apply aa;refine ab fun K hK=>?_;simp[C.aE,mS];apply hK;clear hK K;show AWp _ _ _ _ _;apply aI;simp[C.aE,mS,hf,rows]
 ·simp at hc1
theorem wF (m:Mat) (hx:m.d.length < 17592186044416) (hS:ShM m) (hm:ct m.n.toNat (bM m) (dsM m)):af Tryz.prog F.aE [aM m] [] true (fun outs res=>outs=[]/\eb res [.one (.ow 1 (foF m).1.length (rows lO (foF m).1)),.one (D.bool (foF m).2)]):=by
 have hok:=cO.of_min hS hm;obtain⟨n,hn⟩:∃ n:Nat,m.n=n:=⟨m.n.toNat,by have:=hS.1;omega⟩;obtain⟨N,hN⟩:∃ N:Nat,N=2*n:=⟨_,rfl⟩;have hnt:m.n.toNat=n:=by omega
 have hn5:1<=n/\n<=5:=by have:=hS.1;omega
 have hdl:(dsM m).length=n:=by rw[<-hnt];exact hm.1
 have hwn:IntKind.i64.wrap (2*(n:Int))=(N:Int):=by rw[aj (by omega) (by omega)];omega
 have hne:dsM m≠[]:=fun e=>by
  rw[e] at hdl;simp at hdl;omega
 have hi64:=Bw hS hm;have hfol:foL m=tbL N (foT n (g0 (dsM m)) (bM m)):=by unfold foL;rw[hnt,hN]
 have hfll:(foL m).length=N:=by rw[hfol];simp
 obtain⟨ds,hdse⟩:∃ ds,ds=dsM m:=⟨_,rfl⟩;rw[<-hdse] at hm hdl hne hfol;have hds:∀ i (h:i < n),0 < ds[i]'(by omega)/\ds[i]'(by omega)<=99 ^ 8/\ds[i]'(by omega)=g0 ds i:=fun i h=>by
  have e:ds[i]'(by omega)=g0 ds i:=by simp[g0,List.getD_eq_getElem?_getD,show i < ds.length by omega]
  rw[e];exact⟨hm.2.1.pos i (by omega),hm.2.2.2 i (by omega),rfl⟩
 refine af.ob (C:=C.aE) (n:=Tryz.f33.ntmps) bC bD Tryz.func33 rfl rfl ?_;simp only[Tryz.f33];apply aa;refine ab fun K hK=>?_;simp[C.aE,mS];apply hK;clear hK K;show AWp _ _ _ _ _;apply aa;refine aK ([0,1] ++ ([2])) rfl fun K hK=>?_;refine oSg fun L hL=>?_;simp[C.aE,mS];refine ae (pg m hx hS ds hm) (by simp) (by simp) ?_;simp[C.aE,mS];apply hL;clear hL L;refine oEn fun L hL=>?_;simp[C.aE,mS];apply hL;clear hL L;simp[C.aE,mS];apply hK;clear hK K;show AWp _ _ _ _ _;apply aa;refine ab fun K hK=>?_;simp[C.aE,mS,hn];apply hK;clear hK K;show AWp _ _ _ _ _;apply aa;apply aa;have hn0:¬ n=0:=by omega
 have hle:decide (8 < (N:Int)) = !decide (N<=8):=by rw[Bool.eq_iff_iff];simp;omega
 refine aK ([0,1,2,3,4,5,6,7,8,9,10,11,12]) rfl fun K hK=>?_;have hJ:K ⟨ofL [(1,.pt (1,0) [] 0),(4,.al (4,0) [] 0 ds.length),(5,.int n),(25,.bool (!decide (m.r=n/\N<=8)))],aF [((1,0),some (.bx (mS m))),((4,0),some (owI ds))]⟩:=by
  apply hK;clear hK K;show AWp _ _ _ _ _;refine ap _ rfl (fun hc1=>?_) (fun hc1=>?_)
  ·have hr:=gk hc1;have hf:foF m=([],false):=if_neg (fun h=>hr (by obtain⟨⟨_,h1,h2⟩,_⟩:=h;exact⟨by omega,by omega⟩));apply aa;refine ab fun K hK=>?_;simp[C.aE,mS];apply hK;clear hK K;show AWp _ _ _ _ _;apply aI;simp[C.aE,mS,hf,rows]
  ·have hr:=gw hc1;have hq:dO m:=⟨hok,by omega,by omega⟩;obtain⟨hrn,hN8⟩:=hr;apply au;show AWp _ _ _ _ _;apply aa;refine ab fun K hK=>?_;simp[C.aE,mS];apply hK;clear hK K;show AWp _ _ _ _ _;apply aa;apply aa;refine ab fun K hK=>?_;simp[C.aE,mS];apply hK;clear hK K;show AWp _ _ _ _ _;apply ak;refine lY (fun k:Nat=>⟨ofL [(1,.pt (1,0) [] 0),(4,.al (4,0) [] 0 ds.length),(5,.int n),(6,.al (6,0) [] 0 k),(27,.int N),(28,.int k)],aF [((1,0),some (.bx [D.int n,D.int n,shI m.d])),((4,0),some (owI ds)),((6,0),some (.ow 1 k (rows lO (List.replicate k (List.replicate N 0)))))]⟩) (fun k=>k<=N) (fun k=>N - k) 0 [.tmp 6 1] (by simp[C.aE,rows,hwn,hn,hrn,mS];(first | (constructor <;> funext t) | funext t) <;> simp only[ofL,aF] <;> (repeat' (first | rfl | split)) <;> (first | (simp_all;done) | (simp_all <;> (first | omega | (intro e;exact absurd e.symm (by assumption)) | (subst_vars;simp))))) (by simp) ?_;intro x1 hx1 R1 hR1;apply aa;refine ab fun K hK=>?_;simp[C.aE,mS];apply hK;clear hK K;show AWp _ _ _ _ _;apply aa;refine ap _ rfl (fun hc2=>?_) (fun hc2=>?_)
   ·have hk:x1 < N:=by have:=d_t hc2;omega
    have hrl:(List.replicate N (0:Int)).length=N:=by simp
    apply au;show AWp _ _ _ _ _;apply aa;apply ak;refine ab fun K hK=>?_;simp[C.aE,mS,cL,hwn,lz _ hrl,show (x1+1)*24<=140737488355328 by omega,show (8:Int)*N<=281474976710656 by omega,show (N:Int)<=281474976710656 by omega];apply hK;clear hK K;show AWp _ _ _ _ _;refine ab fun K hK=>?_;simp[C.aE,mS,ay (show x1 < 4611686018427387904 by omega)];apply hK;clear hK K;simp[C.aE,mS];refine cast (congrArg R1 ?_) (hR1 (x1+1) hk (by omega));simp[List.replicate_succ']
   ·have hk:x1=N:=by have:=d_f hc2;omega
    rw[hk,<-Ka n N (foT n (g0 ds) (bM m))];apply aZ;show AWp _ _ _ _ _;apply aa;apply aa;refine ab fun K hK=>?_;simp[C.aE,mS];apply hK;clear hK K;show AWp _ _ _ _ _;apply ak;refine bm (fun i:Nat=>⟨ofL [(1,.pt (1,0) [] 0),(4,.al (4,0) [] 0 ds.length),(5,.int n),(6,.al (6,0) [] 0 N),(7,.int i)],aF [((1,0),some (.bx [D.int n,D.int n,shI m.d])),((4,0),some (owI ds)),((6,0),some (.ow 1 N (rows lO (tbL N (foG n (foT n (g0 ds) (bM m)) i)))))]⟩) (fun i=>i<=n) (fun i=>n - i) 0 (by simp[C.aE]) (by simp) ?_;intro x2 hx2 R2 hR2;apply aa;apply aa;refine ab fun K hK=>?_;simp[C.aE,mS];apply hK;clear hK K;show AWp _ _ _ _ _;refine ap _ rfl (fun hc3=>?_) (fun hc3=>?_)
    ·have hi:x2 < n:=by have:=d_t hc3;omega
     have hid:x2 < ds.length:=by omega
     obtain⟨d1,d2,d3⟩:=hds x2 hi;obtain⟨P,hP⟩:∃ P,P=n+x2:=⟨_,rfl⟩;have hPN:P < N:=by omega
     obtain⟨A,hA⟩:∃ A,A=tbL N (foG n (foT n (g0 ds) (bM m)) x2):=⟨_,rfl⟩;have hAl:A.length=N:=by rw[hA];simp
     have g1:x2 < A.length:=by omega
     have g2:P < A.length:=by omega
     have hA1:A[x2]=tbR N (foG n (foT n (g0 ds) (bM m)) x2 x2):=by simp only[hA];exact lC _ (by omega)
     have hA2:A[P]=tbR N (foG n (foT n (g0 ds) (bM m)) x2 P):=by simp only[hA];exact lC _ (by omega)
     have hst:=Eo hi (g0 ds) (bM m) (x:=-ds[x2]) (y:=ds[x2]) (by rw[d3]) d3;rw[<-hN,<-hP,<-hA,<-hA1,<-hA2] at hst;have hl1:A[x2].length=N:=by rw[hA1];simp
     have hl2:A[P].length=N:=by rw[hA2];simp
     rw[<-hA];have hs1:(rows lO A).set x2 (.ow 1 N (ints (A[x2].set P (-ds[x2]))))=rows lO (A.set x2 (A[x2].set P (-ds[x2]))):=by
      have:=ug g1 (A[x2].set P (-ds[x2]))
      rwa [List.length_set,hl1] at this
     obtain⟨A2,hA2'⟩:∃ A2,A2=A.set x2 (A[x2].set P (-ds[x2])):=⟨_,rfl⟩;have g3:P < A2.length:=by rw[hA2'];simpa using g2
     have g4:A2[P]=A[P]:=by simp only[hA2'];exact List.getElem_set_ne (by omega) _
     have hs2:(rows lO A2).set P (.ow 1 N (ints (A[P].set x2 ds[x2])))=rows lO (A2.set P (A[P].set x2 ds[x2])):=by
      have:=ug g3 (A[P].set x2 ds[x2])
      rwa [List.length_set,hl2] at this
     have hs3:(rows lO A).set P (.ow 1 N (ints (A[P].set x2 ds[x2])))=rows lO (A.set P (A[P].set x2 ds[x2])):=by
      have:=ug g2 (A[P].set x2 ds[x2])
      rwa [List.length_set,hl2] at this
     have hwneg:IntKind.i64.wrap (-ds[x2])=-ds[x2]:=aj (by omega) (by omega);have hwa:IntKind.i64.wrap ((n:Int)+x2)=(P:Int):=by rw[aj (by omega) (by omega)];omega
     rw[<-hA2'] at hst hs1;apply au;show AWp _ _ _ _ _;apply aa;apply ak;apply aa;refine bR [(true,0),(true,1),(true,2),(true,3),(true,4),(true,5),(true,6),(true,7),(true,8),(true,9),(true,10),(true,11),(true,12),(true,13),(true,14),(true,15),(true,16),(true,17),(true,18),(true,19),(true,20),(true,21),(true,22),(true,23),(false,24),(true,25),(false,26)] ⟨by kernel_rfl,by kernel_rfl⟩ ([0,1,2,3,4,5,6,7,8,9,10,11,12,13,14,15,16,17,18,19,20,21,22,23,24,25,26]) rfl fun K hK=>?_;have hJ:K ⟨ofL [(1,.pt (1,0) [] 0),(4,.al (4,0) [] 0 ds.length),(5,.int n),(6,.al (6,0) [] 0 N),(7,.int x2)],aF [((1,0),some (.bx [D.int n,D.int n,shI m.d])),((4,0),some (owI ds)),((6,0),some (.ow 1 N (rows lO (tbL N (foH n (foT n (g0 ds) (bM m)) x2 0)))))]⟩:=by
      apply hK;clear hK K;show AWp _ _ _ _ _;apply aa;refine ab fun K hK=>?_;simp[C.aE,mS];apply hK;clear hK K;show AWp _ _ _ _ _;apply ak;refine bm (fun j:Nat=>⟨ofL [(1,.pt (1,0) [] 0),(4,.al (4,0) [] 0 ds.length),(5,.int n),(6,.al (6,0) [] 0 N),(7,.int x2),(8,.int j)],aF [((1,0),some (.bx [D.int n,D.int n,shI m.d])),((4,0),some (owI ds)),((6,0),some (.ow 1 N (rows lO (tbL N (foH n (foT n (g0 ds) (bM m)) x2 j)))))]⟩) (fun j=>j<=n) (fun j=>n - j) 0 (by simp[C.aE]) (by simp) ?_;intro x3 hx3 R3 hR3;apply aa;apply aa;refine ab fun K hK=>?_;simp[C.aE,mS];apply hK;clear hK K;show AWp _ _ _ _ _;refine ap _ rfl (fun hc4=>?_) (fun hc4=>?_)
      ·have hj:x3 < n:=by have:=d_t hc4;omega
       have hat:=s8 hn hS (show (x2:Int) < m.r by omega) hj;rw[hrn] at hat
       have hbb:=gV hS x2 x3;have hmb:=DY ⟨d1,d2⟩ hbb;obtain⟨c,hc⟩:∃ c,c=bM m x2 x3:=⟨_,rfl⟩;have hst3:=ED hi hj (g0 ds) (bM m) (x:=-ds[x2]*c) (by rw[d3,hc]);rw[<-hc] at hat hmb;obtain⟨Q,hQ⟩:∃ Q,Q=n+x3:=⟨_,rfl⟩;have hQN:Q < N:=by omega
       obtain⟨B,hB⟩:∃ B,B=tbL N (foH n (foT n (g0 ds) (bM m)) x2 x3):=⟨_,rfl⟩;have hBl:B.length=N:=by rw[hB];simp
       have g5:P < B.length:=by omega
       have hB1:B[P]=tbR N (foH n (foT n (g0 ds) (bM m)) x2 x3 P):=by simp only[hB];exact lC _ (by omega)
       rw[<-hN,<-hP,<-hQ,<-hB,<-hB1] at hst3;have hl3:B[P].length=N:=by rw[hB1];simp
       rw[<-hB];have hnm:-ds[x2]*c=-(ds[x2]*c):=Int.neg_mul _ _;have hwm:IntKind.i64.wrap (-ds[x2]*c)=-ds[x2]*c:=by
        rw[hnm];exact aj (by omega) (by omega)
       obtain⟨w,hw⟩:∃ w,w=-ds[x2]*c:=⟨_,rfl⟩;rw[<-hw] at hst3;have hwm2:IntKind.i64.wrap (-(ds[x2]*c))=w:=by rw[<-hnm,hw];exact hwm
       have hwm1:IntKind.i64.wrap (-ds[x2]*c)=w:=by rw[hw];exact hwm
       have hs4:(rows lO B).set P (.ow 1 N (ints (B[P].set Q w)))=rows lO (B.set P (B[P].set Q w)):=by
        have:=ug g5 (B[P].set Q w)
        rwa [List.length_set,hl3] at this
       have hwb:IntKind.i64.wrap ((n:Int)+x3)=(Q:Int):=by rw[aj (by omega) (by omega)];omega
       apply au;show AWp _ _ _ _ _;apply aa;apply ak;refine bR [(true,0),(true,1),(true,2),(true,3),(true,4),(true,5),(true,6),(true,7),(true,8),(true,9),(true,10),(true,11),(true,12),(true,13),(true,14),(true,15),(true,16),(false,17),(true,18),(true,19),(false,20)] ⟨by kernel_rfl,by kernel_rfl⟩ ([0,1,2,3,4,5,6,7,8,9,10,11,12,13,14,15,16,17] ++ ([18,19,20])) rfl fun K hK=>?_;have hJ:K ⟨ofL [(1,.pt (1,0) [] 0),(4,.al (4,0) [] 0 ds.length),(5,.int n),(6,.al (6,0) [] 0 N),(7,.int x2),(8,.int x3)],aF [((1,0),some (.bx [D.int n,D.int n,shI m.d])),((4,0),some (owI ds)),((6,0),some (.ow 1 N (rows lO (tbL N (foH n (foT n (g0 ds) (bM m)) x2 (x3+1))))))]⟩:=by
        apply hK;clear hK K;show AWp _ _ _ _ _;refine ab fun K hK=>?_;simp[C.aE,mS,ay (show x3 < 4611686018427387904 by omega)];apply hK;clear hK K;simp[C.aE,mS];exact hR3 (x3+1) hj (by omega)
       clear hK;simp[C.aE,hwa,hwb,hwneg,hwm1,hwm2,ao,hid,show (x2:Int) < ds.length by omega,hPN,hQN,show (P:Int) < N by omega,show (Q:Int) < N by omega,jq g5,hl3,hs4,cB,jp]
       repeat' first
        | (refine ae (hat) ?_ (by simp) ?_;(focus (simp;done));simp[C.aE,hwa,hwb,hwneg,hwm1,hwm2,ao,hid,show (x2:Int) < ds.length by omega,hPN,hQN,show (P:Int) < N by omega,show (Q:Int) < N by omega,jq g5,hl3,hs4,cB,jp])
        | (refine cast (congrArg K ?_) hJ;simp[hst3];done)
        | refine And.intro ?_ ?_
      ·have hj:x3=n:=by have:=d_f hc4;omega
       have hfin:=H2 n (foT n (g0 ds) (bM m)) x2;rw[<-hN] at hfin;rw[hj,hfin];apply aZ;show AWp _ _ _ _ _;refine ab fun K hK=>?_;simp[C.aE,mS,ay (show x2 < 4611686018427387904 by omega)];apply hK;clear hK K;simp[C.aE,mS];exact hR2 (x2+1) hi (by omega)
     clear hK;simp[C.aE,hwa,hwneg,ao,hid,show (x2:Int) < N by omega,show x2 < N by omega,hPN,show (P:Int) < N by omega,show (x2:Int) < ds.length by omega,jq g1,jq g2,jq g3,g4,hl1,hl2,hs1,hs2,hs3,cB,jp]
     repeat' first
      | (refine cast (congrArg K ?_) hJ;simp[hst];done)
      | refine And.intro ?_ ?_
    ·have hi:x2=n:=by have:=d_f hc3;omega
     have hfin:=Ii n (foT n (g0 ds) (bM m));rw[<-hN,<-hfol] at hfin;rw[hi,hfin];have hif:=ed (foL m) (by rw[hfll];omega) hi64;rw[hfll] at hif;apply aZ;show AWp _ _ _ _ _;apply aa;apply aa;refine aK ([0,1] ++ ([2])) rfl fun K hK=>?_;refine oSg fun L hL=>?_;simp[C.aE,mS];refine ae (hif) (by simp[mS]) (by simp) ?_;simp[C.aE,mS];apply hL;clear hL L;refine oEn fun L hL=>?_;simp[C.aE,mS];apply hL;clear hL L;simp[C.aE,mS];apply hK;clear hK K;show AWp _ _ _ _ _;refine ap _ rfl (fun hc5=>?_) (fun hc5=>?_)
     ·have hb:¬ bp (foL m):=by simpa using hc5
      have hf:foF m=([],false):=if_neg (fun h=>hb h.2);apply aa;refine ab fun K hK=>?_;simp[C.aE,mS];apply hK;clear hK K;show AWp _ _ _ _ _;apply aI;simp[C.aE,mS,hf,rows]
     ·have hb:bp (foL m):=by simpa using hc5
      have hf:foF m=(foL m,true):=if_pos ⟨hq,hb⟩;apply au;show AWp _ _ _ _ _;apply aa;refine ab fun K hK=>?_;simp[C.aE,mS];apply hK;clear hK K;show AWp _ _ _ _ _;apply aI;simp[C.aE,mS,hf,hfll]
 clear hK
 by_cases h1:m.r=n
 ·refine oEn fun L hL=>?_;simp[C.aE,mS,hn,hdl,hne,hwn,hn0,hle,h1];apply hL;clear hL L;simp[C.aE,mS,hn,hdl,hne,hwn,hn0,hle,h1];refine cast (congrArg K ?_) hJ;simp[hdl,hn,owI,mS,h1]
 ·refine oEn fun L hL=>?_;simp[C.aE,mS,hn,hdl,hne,hwn,hn0,hle,h1];apply hL;clear hL L;simp[C.aE,mS,hn,hdl,hne,hwn,hn0,hle,h1];refine cast (congrArg K ?_) hJ;simp[hdl,hn,owI,mS,h1]
theorem xU (m:Mat) (hx:m.d.length < 17592186044416) (hS:ShM m):af Tryz.prog F.aE [aM m] [] true (fun outs res=>outs=[]/\eb res [.one (.ow 1 (foF m).1.length (rows lO (foF m).1)),.one (D.bool (foF m).2)]):=by
 by_cases h:∃ l,ct m.n.toNat (bM m) l
 ·obtain⟨l,hl⟩:=h;have:=vk hl;exact wF m hx hS (by rw[this];exact hl)
 ·exact vR m hx h
set_option maxRecDepth 10000
set_option maxHeartbeats 2000000
set_option maxRecDepth 10000
set_option maxHeartbeats 2000000
set_option maxRecDepth 10000
set_option maxHeartbeats 4000000
theorem GE {m:Mat} (h:cO m) {k:Nat} (hk:(k:Int) < m.n):bM m k k=0:=by
 obtain⟨d,hd⟩:=h.2;have h1:=hd.rel k k (by omega) (by omega);have h2:=hd.pos k (by omega);have:d k*bM m k k=0:=by omega
 rcases Int.mul_eq_zero.1 this with e | e
 ·omega
 ·exact e
theorem B0 {fm:List (List Int)} {m:Mat} (hF:bp fm) (hS:ShM m) (k i j:Nat):eJ fm (vL m k fm.length i) (vL m k fm.length j):=
 ⟨hF,ry _ _ _ _,ry _ _ _ _,fun x hx=>by have:=Fe hS x hx;omega,fun x hx=>by have:=Fe hS x hx;omega⟩
theorem A9 {fm:List (List Int)} {m:Mat} (hF:bp fm) (hS:ShM m) (k:Nat):I64 (mtL fm m k fm.length):=fun r hr x hx=>by
 simp only[mtL,tbL,List.mem_map,List.mem_range] at hr;obtain⟨i,hi,rfl⟩:=hr;simp only[tbR,List.mem_map,List.mem_range] at hx;obtain⟨j,hj,rfl⟩:=hx;have:=(B0 hF hS k i j).bd;omega
theorem Cn (m:Mat) (k N:Nat):vL m k N k=eL m k N:=if_pos rfl
theorem zJ {m:Mat} {k N i:Nat} (h:¬ i=k):vL m k N i=ci N i:=if_neg h
theorem Gw (m:Mat) (k N:Nat):(eL m k N).length=N:=by simp[eL]
theorem Ge {m:Mat} {k N:Nat} (h:bM m k k=0):(tbR N fun q=>max 0 (bM m q k)).set k (-1)=eL m k N:=by
 rw[sv];unfold eL;refine ga fun q _=>?_;unfold eC
 by_cases e:q=k
 ·subst e;rw[if_pos rfl,if_pos rfl,h];rfl
 ·rw[if_neg e,if_neg e];omega
def eS (m:Mat) (k N r:Nat):List Int:=tbR N fun q=>if q < r then eC (bM m) k q else if q=k then -1 else 0
theorem Mh (m:Mat) {k N:Nat}:(ci N k).set k (-1)=eS m k N 0:=by
 refine List.ext_getElem (by rw[List.length_set,bq];simp[eS]) fun i h1 h2=>?_;have hi:i < N:=by simpa[eS] using h2
 simp only[eS];rw[mK _ hi,if_neg (by omega),List.getElem_set]
 by_cases e:k=i
 ·rw[if_pos e,if_pos e.symm]
 ·rw[if_neg e,if_neg (fun c=>e c.symm)];simp only[ci,List.getElem_set,List.getElem_replicate];rw[if_neg e]
theorem Me (m:Mat) (k N:Nat):eS m k N N=eL m k N:=ga fun q hq=>by rw[if_pos hq]
theorem zl (m:Mat) (k N r:Nat):(eS m k N r).length=N:=by simp[eS]
theorem Gb (m:Mat) {k N r:Nat} (h:r < N):(eS m k N r)[r]'(by rw[zl];exact h)=if r=k then -1 else 0:=by
 simp only[eS];rw[mK _ h,if_neg (by omega)]
theorem Ff {m:Mat} {k N r:Nat} {x:Int} (hx:x=(if r=k then -1 else 0)+max 0 (bM m r k)):(eS m k N r).set r x=eS m k N (r+1):=by
 unfold eS;rw[sv];refine ga fun q _=>?_
 by_cases e:q=r
 ·subst e;rw[if_pos rfl,if_pos (by omega),hx];rfl
 ·rw[if_neg e]
  by_cases c:q < r
  ·rw[if_pos c,if_pos (show q < r+1 by omega)]
  ·rw[if_neg c,if_neg (show ¬ q < r+1 by omega)]
theorem uS (m:Mat) (hq:dO m) (hm:ct m.n.toNat (bM m) (dsM m)):af Tryz.prog F.a8 [aM m] [] true (fun outs res=>outs=[]/\res=[.one (.ow 1 (foL m).length (rows lO (foL m)))]):=by
 have hok:=hq.1;have hS:=hok.1;obtain⟨n,hn,hrn,hn4,hL⟩:=hq.dim;obtain⟨N,hN⟩:∃ N:Nat,N=2*n:=⟨_,rfl⟩;have hnt:m.n.toNat=n:=by omega
 have hdl:(dsM m).length=n:=by rw[<-hnt];exact hm.1
 have hwn:IntKind.i64.wrap (2*(n:Int))=(N:Int):=by rw[aj (by omega) (by omega)];omega
 have hfol:foL m=tbL N (foT n (g0 (dsM m)) (bM m)):=by unfold foL;rw[hnt,hN]
 have hfll:(foL m).length=N:=by rw[hfol];simp
 have hfac:=qe (m:=m) (pu hq.1) hm;obtain⟨ds,hdse⟩:∃ ds,ds=dsM m:=⟨_,rfl⟩;rw[<-hdse] at hm hdl hfol hfac;have hds:∀ i (h:i < n),0 < ds[i]'(by omega)/\ds[i]'(by omega)<=99 ^ 8/\ds[i]'(by omega)=g0 ds i:=fun i h=>by
  have e:ds[i]'(by omega)=g0 ds i:=by simp[g0,List.getD_eq_getElem?_getD,show i < ds.length by omega]
  rw[e];exact⟨hm.2.1.pos i (by omega),hm.2.2.2 i (by omega),rfl⟩
 rw[hfll];refine af.ob (C:=C.a8) (n:=Tryz.f101.ntmps) bC bD Tryz.func101 rfl rfl ?_;simp only[Tryz.f101];apply aa;refine ab fun K hK=>?_;simp[C.a8,mS];apply hK;clear hK K;show AWp _ _ _ _ _;apply aa;refine aK ([0,1] ++ ([2,3,4,5,6])) rfl fun K hK=>?_;refine oSg fun L hL=>?_;simp[C.a8,mS];refine ae (hfac) (by simp) (by simp) ?_;simp[C.a8,mS];apply hL;clear hL L;refine oEn fun L hL=>?_;simp[C.a8,mS];apply hL;clear hL L;simp[C.a8,mS];apply hK;clear hK K;show AWp _ _ _ _ _;apply aa;refine ab fun K hK=>?_;simp[C.a8,mS,hn];apply hK;clear hK K;show AWp _ _ _ _ _;apply aa;refine ab fun K hK=>?_;simp[C.a8,mS];apply hK;clear hK K;show AWp _ _ _ _ _;apply aa;apply aa;refine ab fun K hK=>?_;simp[C.a8,mS];apply hK;clear hK K;show AWp _ _ _ _ _;apply ak;refine bm (fun i:Nat=>⟨ofL [(1,.pt (1,0) [] 0),(3,.al (3,0) [] 0 ds.length),(5,.int n),(6,.al (6,0) [] 0 i),(7,.int i)],aF [((1,0),some (.bx [D.int n,D.int n,shI m.d])),((3,0),some (owI ds)),((6,0),some (.ow 1 i (rows lO ((List.range i).map fun p=>tbR N (foT n (g0 ds) (bM m) p)))))]⟩) (fun i=>i<=N) (fun i=>N - i) 0 (by simp[C.a8,rows,hn,hrn,mS]) (by simp) ?_;intro x1 hx1 R1 hR1;apply aa;apply aa;refine ab fun K hK=>?_;simp[C.a8,mS,hwn];apply hK;clear hK K;show AWp _ _ _ _ _;refine ap _ rfl (fun hc1=>?_) (fun hc1=>?_)
 ·have hi:x1 < N:=by have:=d_t hc1;omega
  apply au;show AWp _ _ _ _ _;apply aa;apply ak;apply aa;refine ab fun K hK=>?_;have hJ:K ⟨ofL [(1,.pt (1,0) [] 0),(3,.al (3,0) [] 0 ds.length),(5,.int n),(6,.al (6,0) [] 0 x1),(7,.int x1),(8,.al (8,0) [] 0 N)],aF [((1,0),some (.bx [D.int n,D.int n,shI m.d])),((3,0),some (owI ds)),((6,0),some (.ow 1 x1 (rows lO ((List.range x1).map fun p=>tbR N (foT n (g0 ds) (bM m) p))))),((8,0),some (.ow 1 N (ints (tbR N fun q=>if q < 0 then foT n (g0 ds) (bM m) x1 q else 0))))]⟩:=by
   apply hK;clear hK K;show AWp _ _ _ _ _;apply aa;apply aa;refine ab fun K hK=>?_;simp[C.a8,mS];apply hK;clear hK K;show AWp _ _ _ _ _;apply ak;refine bm (fun j:Nat=>⟨ofL [(1,.pt (1,0) [] 0),(3,.al (3,0) [] 0 ds.length),(5,.int n),(6,.al (6,0) [] 0 x1),(7,.int x1),(8,.al (8,0) [] 0 N),(9,.int j)],aF [((1,0),some (.bx [D.int n,D.int n,shI m.d])),((3,0),some (owI ds)),((6,0),some (.ow 1 x1 (rows lO ((List.range x1).map fun p=>tbR N (foT n (g0 ds) (bM m) p))))),((8,0),some (.ow 1 N (ints (tbR N fun q=>if q < j then foT n (g0 ds) (bM m) x1 q else 0))))]⟩) (fun j=>j<=N) (fun j=>N - j) 0 (by simp[C.a8]) (by simp) ?_;intro x2 hx2 R2 hR2;apply aa;apply aa;refine ab fun K hK=>?_;simp[C.a8,mS,hwn];apply hK;clear hK K;show AWp _ _ _ _ _;refine ap _ rfl (fun hc2=>?_) (fun hc2=>?_)
   ·have hj:x2 < N:=by have:=d_t hc2;omega
    have hA1:(tbR N fun q=>if q < x2 then foT n (g0 ds) (bM m) x1 q else 0).length=N:=by simp
    have hnx:∀ x:Int,x=foT n (g0 ds) (bM m) x1 x2->(tbR N fun q=>if q < x2 then foT n (g0 ds) (bM m) x1 q else 0).set x2 x=tbR N fun q=>if q < x2+1 then foT n (g0 ds) (bM m) x1 q else 0:=fun x hx=>zt (foT n (g0 ds) (bM m) x1) hx;have hsm:0=foT n (g0 ds) (bM m) x1 x2->(tbR N fun q=>if q < x2 then foT n (g0 ds) (bM m) x1 q else 0)=tbR N fun q=>if q < x2+1 then foT n (g0 ds) (bM m) x1 q else 0:=fun hx=>Ec (foT n (g0 ds) (bM m) x1) hx;obtain⟨A,hA⟩:∃ A,A=tbR N fun q=>if q < x2 then foT n (g0 ds) (bM m) x1 q else 0:=⟨_,rfl⟩;rw[<-hA] at hA1 hnx hsm;rw[<-hA];have hw1:IntKind.i64.wrap ((x1:Int)+n)=(x1:Int)+n:=aj (by omega) (by omega);have hw2:IntKind.i64.wrap ((x1:Int) - n)=(x1:Int) - n:=aj (by omega) (by omega);have hw3:IntKind.i64.wrap ((x2:Int) - n)=(x2:Int) - n:=aj (by omega) (by omega);apply au;show AWp _ _ _ _ _;apply aa;apply ak;apply ak;apply aa;refine ab fun K hK=>?_;have hJ:K ⟨ofL [(1,.pt (1,0) [] 0),(3,.al (3,0) [] 0 ds.length),(5,.int n),(6,.al (6,0) [] 0 x1),(7,.int x1),(8,.al (8,0) [] 0 N),(9,.int x2),(33,.bool (decide (x1 < n/\x2=x1+n)))],aF [((1,0),some (.bx [D.int n,D.int n,shI m.d])),((3,0),some (owI ds)),((6,0),some (.ow 1 x1 (rows lO ((List.range x1).map fun p=>tbR N (foT n (g0 ds) (bM m) p))))),((8,0),some (.ow 1 N (ints A)))]⟩:=by
     apply hK;clear hK K;show AWp _ _ _ _ _;refine ap _ rfl (fun hc3=>?_) (fun hc3=>?_)
     ·have hb:x1 < n/\x2=x1+n:=d_t hc3;obtain⟨b1,b2⟩:=hb;obtain⟨d1,d2,d3⟩:=hds x1 b1;have hid:x1 < ds.length:=by omega
      have hfv:-ds[x1]=foT n (g0 ds) (bM m) x1 x2:=by unfold foT;rw[if_pos b1,if_pos (by omega),d3]
      have hwneg:IntKind.i64.wrap (-ds[x1])=-ds[x1]:=aj (by omega) (by omega);have hst:=hnx _ hfv;refine ab fun K hK=>?_;simp[C.a8,mS,ao,hid,hwneg,hj,hA1,show (x2:Int) < N by omega,show (x1:Int) < ds.length by omega];apply hK;clear hK K;show AWp _ _ _ _ _;refine ab fun K hK=>?_;simp[C.a8,mS,ay (show x2 < 4611686018427387904 by omega)];apply hK;clear hK K;simp[C.a8,mS];refine cast (congrArg R2 ?_) (hR2 (x2+1) hj (by omega));simp[<-hst]
     ·have hb:¬ (x1 < n/\x2=x1+n):=d_f hc3;apply aa;refine ab fun K hK=>?_;have hJ:K ⟨ofL [(1,.pt (1,0) [] 0),(3,.al (3,0) [] 0 ds.length),(5,.int n),(6,.al (6,0) [] 0 x1),(7,.int x1),(8,.al (8,0) [] 0 N),(9,.int x2),(52,.bool (decide (n<=x1/\x1=x2+n)))],aF [((1,0),some (.bx [D.int n,D.int n,shI m.d])),((3,0),some (owI ds)),((6,0),some (.ow 1 x1 (rows lO ((List.range x1).map fun p=>tbR N (foT n (g0 ds) (bM m) p))))),((8,0),some (.ow 1 N (ints A)))]⟩:=by
       apply hK;clear hK K;show AWp _ _ _ _ _;refine ap _ rfl (fun hc4=>?_) (fun hc4=>?_)
       ·have hb2:n<=x1/\x1=x2+n:=d_t hc4;obtain⟨b1,b2⟩:=hb2;have hx2n:x2 < n:=by omega
        obtain⟨d1,d2,d3⟩:=hds x2 hx2n;have hid:x2 < ds.length:=by omega
        have hfv:ds[x2]=foT n (g0 ds) (bM m) x1 x2:=by unfold foT;rw[if_neg (by omega),if_pos hx2n,if_pos (by omega),d3]
        have hst:=hnx _ hfv;refine ab fun K hK=>?_;simp[C.a8,mS,ao,hid,hj,hA1,show (x2:Int) < N by omega,show (x2:Int) < ds.length by omega];apply hK;clear hK K;show AWp _ _ _ _ _;refine ab fun K hK=>?_;simp[C.a8,mS,ay (show x2 < 4611686018427387904 by omega)];apply hK;clear hK K;simp[C.a8,mS];refine cast (congrArg R2 ?_) (hR2 (x2+1) hj (by omega));simp[<-hst]
       ·have hb2:¬ (n<=x1/\x1=x2+n):=d_f hc4;apply aa;refine ab fun K hK=>?_;have hJ:K ⟨ofL [(1,.pt (1,0) [] 0),(3,.al (3,0) [] 0 ds.length),(5,.int n),(6,.al (6,0) [] 0 x1),(7,.int x1),(8,.al (8,0) [] 0 N),(9,.int x2),(70,.bool (decide (n<=x1/\n<=x2)))],aF [((1,0),some (.bx [D.int n,D.int n,shI m.d])),((3,0),some (owI ds)),((6,0),some (.ow 1 x1 (rows lO ((List.range x1).map fun p=>tbR N (foT n (g0 ds) (bM m) p))))),((8,0),some (.ow 1 N (ints A)))]⟩:=by
         apply hK;clear hK K;show AWp _ _ _ _ _;refine ap _ rfl (fun hc5=>?_) (fun hc5=>?_)
         ·have hb3:n<=x1/\n<=x2:=d_t hc5;obtain⟨b1,b2⟩:=hb3;obtain⟨P,hP⟩:∃ P,x1=n+P:=⟨x1 - n,by omega⟩;obtain⟨Q,hQ⟩:∃ Q,x2=n+Q:=⟨x2 - n,by omega⟩;have hPn:P < n:=by omega
          have hQn:Q < n:=by omega
          obtain⟨d1,d2,d3⟩:=hds P hPn;have hid:P < ds.length:=by omega
          have hwP:IntKind.i64.wrap ((x1:Int) - n)=(P:Int):=by rw[hw2];omega
          have hwQ:IntKind.i64.wrap ((x2:Int) - n)=(Q:Int):=by rw[hw3];omega
          have hat:=dU m n n P Q hn (by omega) hS hPn hQn;have hbb:=gV hS P Q;have hmb:=DY ⟨d1,d2⟩ hbb;have hfv:-(ds[P]*bM m P Q)=foT n (g0 ds) (bM m) x1 x2:=by
           unfold foT;rw[if_neg (by omega),if_neg (by omega),show x1 - n=P by omega,show x2 - n=Q by omega,d3,Int.neg_mul]
          have hst:=hnx _ hfv;obtain⟨c,hc⟩:∃ c,c=bM m P Q:=⟨_,rfl⟩;rw[<-hc] at hat hmb hst;have hwm:IntKind.i64.wrap (ds[P]*c)=ds[P]*c:=aj (by omega) (by omega);obtain⟨w,hw⟩:∃ w,w=-(ds[P]*c):=⟨_,rfl⟩;rw[<-hw] at hst;have hwm2:IntKind.i64.wrap (-(ds[P]*c))=w:=by rw[hw];exact aj (by omega) (by omega)
          refine bR [(true,0),(true,1),(true,2),(true,3),(true,4),(true,5),(true,6),(true,7),(true,8),(true,9),(true,10),(true,11),(true,12),(true,13),(true,14),(false,15),(true,16),(true,17),(true,18),(false,19)] ⟨by kernel_rfl,by kernel_rfl⟩ ([0,1,2,3,4,5,6,7,8,9,10,11,12,13,14,15] ++ ([16,17,18,19])) rfl fun K hK=>?_;have hJ:K ⟨ofL [(1,.pt (1,0) [] 0),(3,.al (3,0) [] 0 ds.length),(5,.int n),(6,.al (6,0) [] 0 x1),(7,.int x1),(8,.al (8,0) [] 0 N),(9,.int x2)],aF [((1,0),some (.bx [D.int n,D.int n,shI m.d])),((3,0),some (owI ds)),((6,0),some (.ow 1 x1 (rows lO ((List.range x1).map fun p=>tbR N (foT n (g0 ds) (bM m) p))))),((8,0),some (.ow 1 N (ints (tbR N fun q=>if q < x2+1 then foT n (g0 ds) (bM m) x1 q else 0))))]⟩:=by
           apply hK;clear hK K;show AWp _ _ _ _ _;refine ab fun K hK=>?_;simp[C.a8,mS,ay (show x2 < 4611686018427387904 by omega)];apply hK;clear hK K;simp[C.a8,mS];exact hR2 (x2+1) hj (by omega)
          clear hK;simp[C.a8,hwP,hwQ,hwm,hwm2,ao,hid,hj,hA1,show (x2:Int) < N by omega,show (P:Int) < ds.length by omega]
          repeat' first
           | (refine ae (hat) ?_ (by simp) ?_;(focus (simp;done));simp[C.a8,hwP,hwQ,hwm,hwm2,ao,hid,hj,hA1,show (x2:Int) < N by omega,show (P:Int) < ds.length by omega])
           | (refine cast (congrArg K ?_) hJ;simp[hst];done)
           | refine And.intro ?_ ?_
         ·have hb3:¬ (n<=x1/\n<=x2):=d_f hc5;have hfv:0=foT n (g0 ds) (bM m) x1 x2:=by
           unfold foT
           by_cases q1:x1 < n
           ·rw[if_pos q1,if_neg (by omega)]
           ·rw[if_neg q1];rw[if_pos (by omega),if_neg (by omega)]
          have hst:=hsm hfv;apply au;show AWp _ _ _ _ _;refine ab fun K hK=>?_;simp[C.a8,mS,ay (show x2 < 4611686018427387904 by omega)];apply hK;clear hK K;simp[C.a8,mS];refine cast (congrArg R2 ?_) (hR2 (x2+1) hj (by omega));simp[<-hst]
        clear hK;have e1:(n:Int)<=x2↔n<=x2:=by omega
        by_cases g1:n<=x1
        ·simp[C.a8,g1,e1,show (n:Int)<=x1 by omega];refine cast (congrArg K ?_) hJ;simp[g1]
        ·simp[C.a8,g1,e1,show ¬ (n:Int)<=x1 by omega];refine cast (congrArg K ?_) hJ;simp[g1]
      clear hK;have e1:((x2:Int) == (x1:Int) - n)=decide (x1=x2+n):=by rw[Bool.eq_iff_iff];simp;omega
      by_cases g1:n<=x1
      ·simp[C.a8,hw2,g1,e1,show (n:Int)<=x1 by omega];refine cast (congrArg K ?_) hJ;simp[g1]
      ·simp[C.a8,hw2,g1,e1,show ¬ (n:Int)<=x1 by omega];refine cast (congrArg K ?_) hJ;simp[g1]
    clear hK;have e1:((x2:Int) == (x1:Int)+n)=decide (x2=x1+n):=by rw[Bool.eq_iff_iff];simp;omega
    by_cases g1:x1 < n
    ·simp[C.a8,hw1,g1,e1,show (x1:Int) < n by omega];refine cast (congrArg K ?_) hJ;simp[g1]
    ·simp[C.a8,hw1,g1,e1,show ¬ (x1:Int) < n by omega];refine cast (congrArg K ?_) hJ;simp[g1]
   ·have hj:x2=N:=by have:=d_f hc2;omega
    rw[hj,yD];have hrl:(tbR N (foT n (g0 ds) (bM m) x1)).length=N:=by simp
    apply aZ;show AWp _ _ _ _ _;refine ab fun K hK=>?_;simp[C.a8,mS,lz _ hrl,show (x1+1)*24<=140737488355328 by omega];apply hK;clear hK K;show AWp _ _ _ _ _;refine ab fun K hK=>?_;simp[C.a8,mS,ay (show x1 < 4611686018427387904 by omega)];apply hK;clear hK K;simp[C.a8,mS];refine cast (congrArg R1 ?_) (hR1 (x1+1) hi (by omega));simp[List.range_succ]
  clear hK;rw[DS] at hJ;simp[C.a8,hwn,cL,show (8:Int)*N<=281474976710656 by omega,show (N:Int)<=281474976710656 by omega];exact hJ
 ·have hi:x1=N:=by have:=d_f hc1;omega
  apply aZ;show AWp _ _ _ _ _;apply aa;refine ab fun K hK=>?_;simp[C.a8,mS];apply hK;clear hK K;show AWp _ _ _ _ _;apply aI;simp[C.a8,mS,hi,hfol,tbL]
theorem mN (m:Mat) (hq:dO m) (hl:¬ ∃ l,ct m.n.toNat (bM m) l):af Tryz.prog F.a8 [aM m] [] true (fun outs res=>False):=by
 refine af.ob (C:=C.a8) (n:=Tryz.f101.ntmps) bC bD Tryz.func101 rfl rfl ?_;simp only[Tryz.f101];apply aa;refine ab fun K hK=>?_;simp[C.a8,mS];apply hK;clear hK K;show AWp _ _ _ _ _;apply aa;refine ab fun K hK=>?_;have hS:=hq.1.1;simp[C.a8,mS];refine fh (pV (m:=m) (pu hq.1) (fun l h=>hl ⟨l,h⟩)) (by simp) (by simp) (by simp) ?_;rintro outs res ⟨_,hno,_⟩;obtain⟨d,hd⟩:=hq.1.2;exact absurd hd (hno d)
theorem vP (m:Mat) (hx:m.d.length < 17592186044416) (hl:¬ ∃ l,ct m.n.toNat (bM m) l):af Tryz.prog F.bt [aM m] [] true (fun outs res=>outs=[]/\eb res [.one (.ow 1 (foF m).1.length (rows lO (foF m).1)),.one (D.bool (foF m).2)]):=by
 refine af.ob (C:=C.bt) (n:=Tryz.f52.ntmps) bC bD Tryz.func52 rfl rfl ?_;simp only[Tryz.f52];apply aa;refine ab fun K hK=>?_;simp[C.bt,mS];apply hK;clear hK K;show AWp _ _ _ _ _;apply aa;apply aa;refine aK ([0,1] ++ ([2])) rfl fun K hK=>?_;refine oSg fun L hL=>?_;simp[C.bt,mS];refine ae (g8 m hx) (by simp[mS]) (by simp) ?_;simp[C.bt,mS];apply hL;clear hL L;refine oEn fun L hL=>?_;simp[C.bt,mS];apply hL;clear hL L;simp[C.bt,mS];apply hK;clear hK K;show AWp _ _ _ _ _;refine ap _ rfl (fun hc1=>?_) (fun hc1=>?_)
 ·have hr:¬ dO m:=by simpa using hc1
  have hf:foF m=([],false):=if_neg (fun h=>hr h.1);apply aa;refine ab fun K hK=>?_;simp[C.bt,mS];apply hK;clear hK K;show AWp _ _ _ _ _;apply aI;simp[C.bt,mS,hf,rows]
 ·have hr:dO m:=by simpa using hc1
  apply au;show AWp _ _ _ _ _;apply aa;refine ab fun K hK=>?_;simp[C.bt,mS];refine fh (mN m hr hl) (by simp) (by simp) (by simp) ?_;rintro outs res h;exact h.elim
theorem wm (m:Mat) (hx:m.d.length < 17592186044416) (hm:ct m.n.toNat (bM m) (dsM m)):af Tryz.prog F.bt [aM m] [] true (fun outs res=>outs=[]/\eb res [.one (.ow 1 (foF m).1.length (rows lO (foF m).1)),.one (D.bool (foF m).2)]):=by
 refine af.ob (C:=C.bt) (n:=Tryz.f52.ntmps) bC bD Tryz.func52 rfl rfl ?_;simp only[Tryz.f52];apply aa;refine ab fun K hK=>?_;simp[C.bt,mS];apply hK;clear hK K;show AWp _ _ _ _ _;apply aa;apply aa;refine aK ([0,1] ++ ([2])) rfl fun K hK=>?_;refine oSg fun L hL=>?_;simp[C.bt,mS];refine ae (g8 m hx) (by simp[mS]) (by simp) ?_;simp[C.bt,mS];apply hL;clear hL L;refine oEn fun L hL=>?_;simp[C.bt,mS];apply hL;clear hL L;simp[C.bt,mS];apply hK;clear hK K;show AWp _ _ _ _ _;refine ap _ rfl (fun hc1=>?_) (fun hc1=>?_)
 ·have hr:¬ dO m:=by simpa using hc1
  have hf:foF m=([],false):=if_neg (fun h=>hr h.1);apply aa;refine ab fun K hK=>?_;simp[C.bt,mS];apply hK;clear hK K;show AWp _ _ _ _ _;apply aI;simp[C.bt,mS,hf,rows]
 ·have hr:dO m:=by simpa using hc1
  have hS:=hr.1.1;have hi64:=Bw hS hm;have hfll:(foL m).length<=8:=by
   obtain⟨n,hn,hrn,hn4,hL⟩:=hr.dim;simp[foL];omega
  apply au;show AWp _ _ _ _ _;apply aa;refine aK ([0,1] ++ ([2])) rfl fun K hK=>?_;refine oSg fun L hL=>?_;simp[C.bt,mS];refine ae (uS m hr hm) (by simp) (by simp) ?_;simp[C.bt,mS];apply hL;clear hL L;refine oEn fun L hL=>?_;simp[C.bt,mS];apply hL;clear hL L;simp[C.bt,mS];apply hK;clear hK K;show AWp _ _ _ _ _;apply aa;apply aa;refine aK ([0,1] ++ ([2])) rfl fun K hK=>?_;refine oSg fun L hL=>?_;simp[C.bt,mS];refine ae (d8 (foL m) (by omega) hi64) (by simp[mS]) (by simp) ?_;simp[C.bt,mS];apply hL;clear hL L;refine oEn fun L hL=>?_;simp[C.bt,mS];apply hL;clear hL L;simp[C.bt,mS];apply hK;clear hK K;show AWp _ _ _ _ _;refine ap _ rfl (fun hc2=>?_) (fun hc2=>?_)
  ·have hb:¬ bp (foL m):=by simpa using hc2
   have hf:foF m=([],false):=if_neg (fun h=>hb h.2);apply aa;refine ab fun K hK=>?_;simp[C.bt,mS];apply hK;clear hK K;show AWp _ _ _ _ _;apply aI;simp[C.bt,mS,hf,rows]
  ·have hb:bp (foL m):=by simpa using hc2
   have hf:foF m=(foL m,true):=if_pos ⟨hr,hb⟩;apply au;show AWp _ _ _ _ _;apply aa;refine ab fun K hK=>?_;simp[C.bt,mS];apply hK;clear hK K;show AWp _ _ _ _ _;apply aI;simp[C.bt,mS,hf]
theorem xO (m:Mat) (hx:m.d.length < 17592186044416):af Tryz.prog F.bt [aM m] [] true (fun outs res=>outs=[]/\eb res [.one (.ow 1 (foF m).1.length (rows lO (foF m).1)),.one (D.bool (foF m).2)]):=by
 by_cases h:∃ l,ct m.n.toNat (bM m) l
 ·obtain⟨l,hl⟩:=h;have:=vk hl;exact wm m hx (by rw[this];exact hl)
 ·exact vP m hx h
theorem vE (fm:List (List Int)) (m:Mat) (k:Nat) (hF:bp fm) (hok:cO m) (hr:m.r=fm.length) (hk:(k:Int) < m.n):af Tryz.prog F.aG [.d (.sh 1 fm.length (rows lS fm)),aM m,.int k] [] true (fun outs res=>outs=[]/\res=[.one (.ow 1 fm.length (rows lO (mtL fm m k fm.length)))]):=by
 have hS:=hok.1;obtain⟨n,hn⟩:∃ n:Nat,m.n=n:=⟨m.n.toNat,by have:=hS.1;omega⟩;obtain⟨N,hN⟩:∃ N:Nat,N=fm.length:=⟨_,rfl⟩;have hN8:N<=8:=by have:=hF.1;omega
 have hkn:k < n:=by omega
 have hnN:n<=N:=by have:=hS.2.1;omega
 have hkN:k < N:=by omega
 have hkk:=GE hok (k:=k) (by omega);have hsk:=B0 hF hS k;have hrN:m.r=(N:Int):=by rw[hr,hN]
 rw[<-hN] at hsk ⊢;refine af.ob (C:=C.aG) (n:=Tryz.f114.ntmps) bC bD Tryz.func114 rfl rfl ?_;simp only[Tryz.f114];apply aa;refine ab fun K hK=>?_;simp[C.aG,mS];apply hK;clear hK K;show AWp _ _ _ _ _;apply aa;refine ab fun K hK=>?_;simp[C.aG,mS];apply hK;clear hK K;show AWp _ _ _ _ _;apply aa;refine ab fun K hK=>?_;simp[C.aG,mS,cL,show (8:Int)*N<=281474976710656 by omega,show (N:Int)<=281474976710656 by omega];apply hK;clear hK K;show AWp _ _ _ _ _;apply aa;apply aa;refine ab fun K hK=>?_;simp[C.aG,mS];apply hK;clear hK K;show AWp _ _ _ _ _;apply ak;refine bm (fun i:Nat=>⟨ofL [(0,.d (.sh 1 N (rows lS fm))),(2,.int k),(4,.pt (4,0) [] 0),(7,.int N),(8,.al (8,0) [] 0 N),(9,.int i)],aF [((4,0),some (.bx [D.int n,D.int N,shI m.d])),((8,0),some (.ow 1 N (ints (tbR N fun q=>if q < i then max 0 (bM m q k) else 0))))]⟩) (fun i=>i<=N) (fun i=>N - i) 0 (by simp[C.aG,tM,hn,hrN,mS]) (by simp) ?_;intro x1 hx1 R1 hR1;apply aa;apply aa;refine ab fun K hK=>?_;simp[C.aG,mS];apply hK;clear hK K;show AWp _ _ _ _ _;refine ap _ rfl (fun hc1=>?_) (fun hc1=>?_)
 ·have hi:x1 < N:=by have:=d_t hc1;omega
  have hat:=dU m n N x1 k hn hrN hS hi hkn;have hA1:(tbR N fun q=>if q < x1 then max 0 (bM m q k) else 0).length=N:=by simp
  have hst:=zt (N:=N) (j:=x1) (fun q=>max 0 (bM m q k)) (x:=max 0 (bM m x1 k)) rfl;obtain⟨A,hA⟩:∃ A,A=tbR N fun q=>if q < x1 then max 0 (bM m q k) else 0:=⟨_,rfl⟩;rw[<-hA] at hA1 hst;rw[<-hA];apply au;show AWp _ _ _ _ _;apply aa;apply ak;refine aK ([0,1,2,3,4,5] ++ ([6,7,8])) rfl fun K hK=>?_;refine oSg fun L hL=>?_;simp[C.aG,mS,hi,hA1,show (x1:Int) < N by omega];refine ae (hat) (by simp) (by simp) ?_;simp[C.aG,mS,hi,hA1,show (x1:Int) < N by omega];apply hL;clear hL L;refine oEn fun L hL=>?_;simp[C.aG,mS,hi,hA1,show (x1:Int) < N by omega];apply hL;clear hL L;simp[C.aG,mS,hi,hA1,show (x1:Int) < N by omega];apply hK;clear hK K;show AWp _ _ _ _ _;refine ab fun K hK=>?_;simp[C.aG,mS,ay (show x1 < 4611686018427387904 by omega)];apply hK;clear hK K;simp[C.aG,mS];refine cast (congrArg R1 ?_) (hR1 (x1+1) hi (by omega));simp[<-hst]
 ·have hi:x1=N:=by have:=d_f hc1;omega
  rw[hi,yD (fun q=>max 0 (bM m q k))];have hA1:(tbR N fun q=>max 0 (bM m q k)).length=N:=by simp
  have hel:=Gw m k N;apply aZ;show AWp _ _ _ _ _;apply aa;refine ab fun K hK=>?_;simp[C.aG,mS,hkN,hA1,show (k:Int) < N by omega,Ge hkk];apply hK;clear hK K;show AWp _ _ _ _ _;apply aa;refine ab fun K hK=>?_;simp[C.aG,mS];apply hK;clear hK K;show AWp _ _ _ _ _;apply aa;apply aa;refine ab fun K hK=>?_;simp[C.aG,mS];apply hK;clear hK K;show AWp _ _ _ _ _;apply ak;refine bm (fun i:Nat=>⟨ofL [(0,.d (.sh 1 N (rows lS fm))),(2,.int k),(7,.int N),(8,.al (8,0) [] 0 N),(10,.al (10,0) [] 0 i),(11,.int i)],aF [((8,0),some (.ow 1 N (ints (eL m k N)))),((10,0),some (.ow 1 i (rows lO ((List.range i).map fun p=>tbR N fun q=>skw fm (vL m k N p) (vL m k N q)))))]⟩) (fun i=>i<=N) (fun i=>N - i) 0 (by simp[C.aG,rows]) (by simp) ?_;intro x2 hx2 R2 hR2;apply aa;apply aa;refine ab fun K hK=>?_;simp[C.aG,mS];apply hK;clear hK K;show AWp _ _ _ _ _;refine ap _ rfl (fun hc2=>?_) (fun hc2=>?_)
  ·have hi2:x2 < N:=by have:=d_t hc2;omega
   apply au;show AWp _ _ _ _ _;apply aa;apply ak;apply aa;refine ab fun K hK=>?_;simp[C.aG,mS];apply hK;clear hK K;show AWp _ _ _ _ _;apply aa;apply aa;refine ab fun K hK=>?_;simp[C.aG,mS];apply hK;clear hK K;show AWp _ _ _ _ _;apply ak;refine bm (fun j:Nat=>⟨ofL [(0,.d (.sh 1 N (rows lS fm))),(2,.int k),(7,.int N),(8,.al (8,0) [] 0 N),(10,.al (10,0) [] 0 x2),(11,.int x2),(12,.al (12,0) [] 0 j),(13,.int j)],aF [((8,0),some (.ow 1 N (ints (eL m k N)))),((10,0),some (.ow 1 x2 (rows lO ((List.range x2).map fun p=>tbR N fun q=>skw fm (vL m k N p) (vL m k N q))))),((12,0),some (.ow 1 j (ints ((List.range j).map fun q=>skw fm (vL m k N x2) (vL m k N q)))))]⟩) (fun j=>j<=N) (fun j=>N - j) 0 (by simp[C.aG,ints]) (by simp) ?_;intro x3 hx3 R3 hR3;apply aa;apply aa;refine ab fun K hK=>?_;simp[C.aG,mS];apply hK;clear hK K;show AWp _ _ _ _ _;refine ap _ rfl (fun hc3=>?_) (fun hc3=>?_)
   ·have hj:x3 < N:=by have:=d_t hc3;omega
    have hsc:=jY fm _ _ (hsk x2 x3);rw[<-hN] at hsc;have hu1:=bq N x2;have hu2:=bq N x3;obtain⟨z,hz⟩:∃ z,z=skw fm (vL m k N x2) (vL m k N x3):=⟨_,rfl⟩;rw[<-hz] at hsc;apply au;show AWp _ _ _ _ _;apply aa;apply ak;apply aa;refine aK ([0,1,2] ++ ([3,4,5] ++ ([6,7]))) rfl fun K hK=>?_;refine oSg fun L hL=>?_;simp[C.aG,mS,hu1,hu2];refine ae (jT N x2 hN8 hi2) (by simp) (by simp) ?_;simp[C.aG,mS,hu1,hu2];apply hL;clear hL L;refine oSg fun L hL=>?_;simp[C.aG,mS,hu1,hu2];refine ae (jT N x3 hN8 hj) (by simp) (by simp) ?_;simp[C.aG,mS,hu1,hu2];apply hL;clear hL L;refine oEn fun L hL=>?_;simp[C.aG,mS,hu1,hu2];apply hL;clear hL L;simp[C.aG,mS,hu1,hu2];apply hK;clear hK K;show AWp _ _ _ _ _;apply aa;apply aa;refine ab fun K hK=>?_;simp[C.aG,mS,hu1,hu2];apply hK;clear hK K;show AWp _ _ _ _ _;refine ap _ rfl (fun hc4=>?_) (fun hc4=>?_)
    ·have e1:x2=k:=by have:=hc4;simp at this;omega
     refine ab fun K hK=>?_;simp[C.aG,mS,hu1,hu2];apply hK;clear hK K;show AWp _ _ _ _ _;apply aa;apply aa;refine ab fun K hK=>?_;simp[C.aG,mS,hu1,hu2];apply hK;clear hK K;show AWp _ _ _ _ _;refine ap _ rfl (fun hc5=>?_) (fun hc5=>?_)
     ·have e2:x3=k:=by have:=hc5;simp at this;omega
      have hsc2:af Tryz.prog F.cA [.d (.sh 1 N (rows lS fm)),.d (shI (eL m k N)),.d (shI (eL m k N))] [] true (fun outs res=>outs=[]/\res=[.one (D.int z)]):=by rw[e1,e2,Cn] at hsc;exact hsc
      refine ab fun K hK=>?_;simp[C.aG,mS,hu1,hu2];apply hK;clear hK K;show AWp _ _ _ _ _;refine aK ([0,1,2,3,4] ++ ([5,6,7])) rfl fun K hK=>?_;refine oSg fun L hL=>?_;simp[C.aG,mS,hel,ck,show (x3+1)*8<=140737488355328 by omega];refine ae (hsc2) (by simp[mS,hel,ck,show (x3+1)*8<=140737488355328 by omega]) (by simp) ?_;simp[C.aG,mS,hel,ck,show (x3+1)*8<=140737488355328 by omega];apply hL;clear hL L;refine oEn fun L hL=>?_;simp[C.aG,mS,hel,ck,show (x3+1)*8<=140737488355328 by omega];apply hL;clear hL L;simp[C.aG,mS,hel,ck,show (x3+1)*8<=140737488355328 by omega];apply hK;clear hK K;show AWp _ _ _ _ _;refine ab fun K hK=>?_;simp[C.aG,mS,ay (show x3 < 4611686018427387904 by omega)];apply hK;clear hK K;simp[C.aG,mS];refine cast (congrArg R3 ?_) (hR3 (x3+1) hj (by omega));simp[List.range_succ,<-hz]
     ·have e2:¬ x3=k:=by have:=hc5;simp at this;omega
      have hsc2:af Tryz.prog F.cA [.d (.sh 1 N (rows lS fm)),.d (shI (eL m k N)),.d (shI (ci N x3))] [] true (fun outs res=>outs=[]/\res=[.one (D.int z)]):=by rw[e1,Cn,zJ e2] at hsc;exact hsc
      apply au;show AWp _ _ _ _ _;refine aK ([0,1,2,3,4] ++ ([5,6,7])) rfl fun K hK=>?_;refine oSg fun L hL=>?_;simp[C.aG,mS,hel,hu2,ck,show (x3+1)*8<=140737488355328 by omega];refine ae (hsc2) (by simp[mS,hel,hu2,ck,show (x3+1)*8<=140737488355328 by omega]) (by simp) ?_;simp[C.aG,mS,hel,hu2,ck,show (x3+1)*8<=140737488355328 by omega];apply hL;clear hL L;refine oEn fun L hL=>?_;simp[C.aG,mS,hel,hu2,ck,show (x3+1)*8<=140737488355328 by omega];apply hL;clear hL L;simp[C.aG,mS,hel,hu2,ck,show (x3+1)*8<=140737488355328 by omega];apply hK;clear hK K;show AWp _ _ _ _ _;refine ab fun K hK=>?_;simp[C.aG,mS,ay (show x3 < 4611686018427387904 by omega)];apply hK;clear hK K;simp[C.aG,mS];refine cast (congrArg R3 ?_) (hR3 (x3+1) hj (by omega));simp[List.range_succ,<-hz]
    ·have e1:¬ x2=k:=by have:=hc4;simp at this;omega
     apply au;show AWp _ _ _ _ _;apply aa;apply aa;refine ab fun K hK=>?_;simp[C.aG,mS,hu1,hu2];apply hK;clear hK K;show AWp _ _ _ _ _;refine ap _ rfl (fun hc6=>?_) (fun hc6=>?_)
     ·have e2:x3=k:=by have:=hc6;simp at this;omega
      have hsc2:af Tryz.prog F.cA [.d (.sh 1 N (rows lS fm)),.d (shI (ci N x2)),.d (shI (eL m k N))] [] true (fun outs res=>outs=[]/\res=[.one (D.int z)]):=by rw[e2,Cn,zJ e1] at hsc;exact hsc
      refine ab fun K hK=>?_;simp[C.aG,mS,hu1,hu2];apply hK;clear hK K;show AWp _ _ _ _ _;refine aK ([0,1,2,3,4] ++ ([5,6,7])) rfl fun K hK=>?_;refine oSg fun L hL=>?_;simp[C.aG,mS,hel,hu1,ck,show (x3+1)*8<=140737488355328 by omega];refine ae (hsc2) (by simp[mS,hel,hu1,ck,show (x3+1)*8<=140737488355328 by omega]) (by simp) ?_;simp[C.aG,mS,hel,hu1,ck,show (x3+1)*8<=140737488355328 by omega];apply hL;clear hL L;refine oEn fun L hL=>?_;simp[C.aG,mS,hel,hu1,ck,show (x3+1)*8<=140737488355328 by omega];apply hL;clear hL L;simp[C.aG,mS,hel,hu1,ck,show (x3+1)*8<=140737488355328 by omega];apply hK;clear hK K;show AWp _ _ _ _ _;refine ab fun K hK=>?_;simp[C.aG,mS,ay (show x3 < 4611686018427387904 by omega)];apply hK;clear hK K;simp[C.aG,mS];refine cast (congrArg R3 ?_) (hR3 (x3+1) hj (by omega));simp[List.range_succ,<-hz]
     ·have e2:¬ x3=k:=by have:=hc6;simp at this;omega
      have hsc2:af Tryz.prog F.cA [.d (.sh 1 N (rows lS fm)),.d (shI (ci N x2)),.d (shI (ci N x3))] [] true (fun outs res=>outs=[]/\res=[.one (D.int z)]):=by rw[zJ e1,zJ e2] at hsc;exact hsc
      apply au;show AWp _ _ _ _ _;refine aK ([0,1,2,3,4] ++ ([5,6,7])) rfl fun K hK=>?_;refine oSg fun L hL=>?_;simp[C.aG,mS,hu1,hu2,ck,show (x3+1)*8<=140737488355328 by omega];refine ae (hsc2) (by simp[mS,hu1,hu2,ck,show (x3+1)*8<=140737488355328 by omega]) (by simp) ?_;simp[C.aG,mS,hu1,hu2,ck,show (x3+1)*8<=140737488355328 by omega];apply hL;clear hL L;refine oEn fun L hL=>?_;simp[C.aG,mS,hu1,hu2,ck,show (x3+1)*8<=140737488355328 by omega];apply hL;clear hL L;simp[C.aG,mS,hu1,hu2,ck,show (x3+1)*8<=140737488355328 by omega];apply hK;clear hK K;show AWp _ _ _ _ _;refine ab fun K hK=>?_;simp[C.aG,mS,ay (show x3 < 4611686018427387904 by omega)];apply hK;clear hK K;simp[C.aG,mS];refine cast (congrArg R3 ?_) (hR3 (x3+1) hj (by omega));simp[List.range_succ,<-hz]
   ·have hj:x3=N:=by have:=d_f hc3;omega
    have hrl:((List.range N).map fun q=>skw fm (vL m k N x2) (vL m k N q)).length=N:=by simp
    rw[hj];apply aZ;show AWp _ _ _ _ _;refine ab fun K hK=>?_;simp[C.aG,mS,lz _ hrl,show (x2+1)*24<=140737488355328 by omega];apply hK;clear hK K;show AWp _ _ _ _ _;refine ab fun K hK=>?_;simp[C.aG,mS,ay (show x2 < 4611686018427387904 by omega)];apply hK;clear hK K;simp[C.aG,mS];refine cast (congrArg R2 ?_) (hR2 (x2+1) hi2 (by omega));simp[List.range_succ,tbR]
  ·have hi2:x2=N:=by have:=d_f hc2;omega
   apply aZ;show AWp _ _ _ _ _;apply aa;refine ab fun K hK=>?_;simp[C.aG,mS];apply hK;clear hK K;show AWp _ _ _ _ _;apply aI;simp[C.aG,mS,hi2,mtL,tbL]
set_option maxRecDepth 10000
set_option maxHeartbeats 4000000
theorem BD (fm:List (List Int)) (m:Mat) (k N:Nat):(mtL fm m k N).length=N:=by simp[mtL]
def ll (fm:List (List Int)) (m:Mat) (k:Int):Prop:=bp fm/\cO m/\m.r=fm.length/\(0<=k/\k < m.n)
noncomputable instance (fm:List (List Int)) (m:Mat) (k:Int):Decidable (ll fm m k):=Classical.propDecidable _
theorem CX {fm:List (List Int)} {m:Mat} {k:Int} (h:¬ ll fm m k):mfF fm m k=([],false):=if_neg (fun c=>h ⟨c.1,c.2.1,c.2.2.1,c.2.2.2.1⟩)
theorem Bi {fm:List (List Int)} {m:Mat} {k:Nat} (h:ll fm m k):mfF fm m k=if bp (mtL fm m k fm.length) then (mtL fm m k fm.length,true) else ([],false):=by
 obtain⟨h1,h2,h3,h4⟩:=h;unfold mfF;rw[Int.toNat_natCast]
 by_cases q:bp (mtL fm m k fm.length)
 ·rw[if_pos ⟨h1,h2,h3,h4,q⟩,if_pos q]
 ·rw[if_neg (fun c=>q c.2.2.2.2),if_neg q]
theorem sC (fm:List (List Int)) (m:Mat) (k:Int) (h0:fm.length < 4611686018427387904) (hI:I64 fm) (hx:m.d.length < 17592186044416):af Tryz.prog F.aR [.d (.sh 1 fm.length (rows lS fm)),aM m,.int k] [] true (fun outs res=>outs=[]/\eb res [.one (.ow 1 (mfF fm m k).1.length (rows lO (mfF fm m k).1)),.one (D.bool (mfF fm m k).2)]):=by
 refine af.ob (C:=C.aR) (n:=Tryz.f57.ntmps) bC bD Tryz.func57 rfl rfl ?_;simp only[Tryz.f57];apply aa;refine ab fun K hK=>?_;simp[C.aR,mS];apply hK;clear hK K;show AWp _ _ _ _ _;apply aa;apply aa;refine aK ([0,1] ++ ([2,3,4,5] ++ ([6,7,8,9,10,11,12,13,14,15,16,17,18,19,20] ++ ([21,22])))) rfl fun K hK=>?_;have hJ:K ⟨ofL [(0,.d (.sh 1 fm.length (rows lS fm))),(2,.int k),(4,.pt (4,0) [] 0),(31,.bool (!decide (ll fm m k)))],aF [((4,0),some (.bx (mS m)))]⟩:=by
  apply hK;clear hK K;show AWp _ _ _ _ _;refine ap _ rfl (fun hc1=>?_) (fun hc1=>?_)
  ·have hr:=gk hc1;have hf:=CX hr;apply aa;refine ab fun K hK=>?_;simp[C.aR,mS];apply hK;clear hK K;show AWp _ _ _ _ _;apply aI;simp[C.aR,mS,hf,rows]
  ·have hr:=gw hc1;obtain⟨k,rfl⟩:∃ j:Nat,k=j:=⟨k.toNat,by have:=hr.2.2.2;omega⟩;have hf:=Bi hr;have hi:=A9 hr.1 hr.2.1.1 k;have hml:=BD fm m k fm.length;have hn8:fm.length<=8:=by have:=hr.1.1;omega
   have hif:=d8 (mtL fm m k fm.length) (by omega) hi;rw[hml] at hif;apply au;show AWp _ _ _ _ _;apply aa;refine aK ([0,1,2,3] ++ ([4])) rfl fun K hK=>?_;refine oSg fun L hL=>?_;simp[C.aR,mS];refine ae (vE fm m k hr.1 hr.2.1 hr.2.2.1 hr.2.2.2.2) (by simp) (by simp) ?_;simp[C.aR,mS];apply hL;clear hL L;refine oEn fun L hL=>?_;simp[C.aR,mS];apply hL;clear hL L;simp[C.aR,mS];apply hK;clear hK K;show AWp _ _ _ _ _;apply aa;apply aa;refine aK ([0,1] ++ ([2])) rfl fun K hK=>?_;refine oSg fun L hL=>?_;simp[C.aR,mS];refine ae (hif) (by simp[mS]) (by simp) ?_;simp[C.aR,mS];apply hL;clear hL L;refine oEn fun L hL=>?_;simp[C.aR,mS];apply hL;clear hL L;simp[C.aR,mS];apply hK;clear hK K;show AWp _ _ _ _ _;refine ap _ rfl (fun hc2=>?_) (fun hc2=>?_)
   ·have hb:¬ bp (mtL fm m k fm.length):=by simpa using hc2
    rw[if_neg hb] at hf;apply aa;refine ab fun K hK=>?_;simp[C.aR,mS];apply hK;clear hK K;show AWp _ _ _ _ _;apply aI;simp[C.aR,mS,hf,rows]
   ·have hb:bp (mtL fm m k fm.length):=by simpa using hc2
    rw[if_pos hb] at hf;apply au;show AWp _ _ _ _ _;apply aa;refine ab fun K hK=>?_;simp[C.aR,mS];apply hK;clear hK K;show AWp _ _ _ _ _;apply aI;simp[C.aR,mS,hf,hml]
 clear hK
 by_cases h1:bp fm
 ·by_cases h2:cO m
  ·by_cases h3:m.r=fm.length
   ·have hwn:IntKind.i64.wrap (m.n - 1)=m.n - 1:=by have:=h2.1.1;exact aj (by omega) (by omega)
    have hle:∀ x:Int,(x<=m.n - 1)=(x < m.n):=fun x=>by rw[eq_iff_iff];omega
    refine oSg fun L hL=>?_;simp[C.aR,mS,hwn,hle,h3,h1,h2,h3];refine ae (d8 fm h0 hI) (by simp) (by simp) ?_;simp[C.aR,mS,hwn,hle,h3,h1,h2,h3];apply hL;clear hL L;refine oSg fun L hL=>?_;simp[C.aR,mS,hwn,hle,h3,h1,h2,h3];refine ae (eN m hx) (by simp[mS,hwn,hle,h3]) (by simp) ?_;simp[C.aR,mS,hwn,hle,h3,h1,h2,h3];apply hL;clear hL L;refine oSg fun L hL=>?_;simp[C.aR,mS,hwn,hle,h3,h1,h2,h3];refine ae (ca k 0 (m.n - 1)) (by simp) (by simp) ?_;simp[C.aR,mS,hwn,hle,h3,h1,h2,h3];apply hL;clear hL L;refine oEn fun L hL=>?_;simp[C.aR,mS,hwn,hle,h3,h1,h2,h3];apply hL;clear hL L;simp[C.aR,mS,hwn,hle,h3,h1,h2,h3];refine cast (congrArg K ?_) hJ;simp[ll,mS,il,mS,h1,h2,h3]
   ·refine oSg fun L hL=>?_;simp[C.aR,mS,h1,h2,h3];refine ae (d8 fm h0 hI) (by simp) (by simp) ?_;simp[C.aR,mS,h1,h2,h3];apply hL;clear hL L;refine oSg fun L hL=>?_;simp[C.aR,mS,h1,h2,h3];refine ae (eN m hx) (by simp) (by simp) ?_;simp[C.aR,mS,h1,h2,h3];apply hL;clear hL L;refine oSg fun L hL=>?_;simp[C.aR,mS,h1,h2,h3];apply hL;clear hL L;refine oEn fun L hL=>?_;simp[C.aR,mS,h1,h2,h3];apply hL;clear hL L;simp[C.aR,mS,h1,h2,h3];refine cast (congrArg K ?_) hJ;simp[ll,mS,il,mS,h1,h2,h3]
  ·refine oSg fun L hL=>?_;simp[C.aR,mS,h1,h2];refine ae (d8 fm h0 hI) (by simp) (by simp) ?_;simp[C.aR,mS,h1,h2];apply hL;clear hL L;refine oSg fun L hL=>?_;simp[C.aR,mS,h1,h2];refine ae (eN m hx) (by simp) (by simp) ?_;simp[C.aR,mS,h1,h2];apply hL;clear hL L;refine oSg fun L hL=>?_;simp[C.aR,mS,h1,h2];apply hL;clear hL L;refine oEn fun L hL=>?_;simp[C.aR,mS,h1,h2];apply hL;clear hL L;simp[C.aR,mS,h1,h2];refine cast (congrArg K ?_) hJ;simp[ll,mS,il,mS,h1,h2]
 ·refine oSg fun L hL=>?_;simp[C.aR,mS,h1];refine ae (d8 fm h0 hI) (by simp) (by simp) ?_;simp[C.aR,mS,h1];apply hL;clear hL L;refine oSg fun L hL=>?_;simp[C.aR,mS,h1];apply hL;clear hL L;refine oSg fun L hL=>?_;simp[C.aR,mS,h1];apply hL;clear hL L;refine oEn fun L hL=>?_;simp[C.aR,mS,h1];apply hL;clear hL L;simp[C.aR,mS,h1];refine cast (congrArg K ?_) hJ;simp[ll,mS,il,mS,h1]
theorem sF (fm:List (List Int)) (m:Mat) (k:Int) (h0:fm.length < 4611686018427387904) (hI:I64 fm) (hx:m.d.length < 17592186044416):af Tryz.prog F.aq [.d (.sh 1 fm.length (rows lS fm)),aM m,.int k] [] true (fun outs res=>outs=[]/\eb res [.one (.ow 1 (mfF fm m k).1.length (rows lO (mfF fm m k).1)),.one (D.bool (mfF fm m k).2)]):=by
 refine af.ob (C:=C.aq) (n:=Tryz.f83.ntmps) bC bD Tryz.func83 rfl rfl ?_;simp only[Tryz.f83];apply aa;refine ab fun K hK=>?_;simp[C.aq,mS];apply hK;clear hK K;show AWp _ _ _ _ _;apply aa;apply aa;refine aK ([0,1] ++ ([2,3,4,5] ++ ([6,7,8,9,10,11,12,13,14,15,16,17,18,19,20] ++ ([21,22])))) rfl fun K hK=>?_;have hJ:K ⟨ofL [(0,.d (.sh 1 fm.length (rows lS fm))),(2,.int k),(4,.pt (4,0) [] 0),(41,.bool (!decide (ll fm m k)))],aF [((4,0),some (.bx (mS m)))]⟩:=by
  apply hK;clear hK K;show AWp _ _ _ _ _;refine ap _ rfl (fun hc1=>?_) (fun hc1=>?_)
  ·have hr:=gk hc1;have hf:=CX hr;apply aa;refine ab fun K hK=>?_;simp[C.aq,mS];apply hK;clear hK K;show AWp _ _ _ _ _;apply aI;simp[C.aq,mS,hf,rows]
  ·have hr:=gw hc1;obtain⟨k,rfl⟩:∃ j:Nat,k=j:=⟨k.toNat,by have:=hr.2.2.2;omega⟩;have hf:=Bi hr;have hi:=A9 hr.1 hr.2.1.1 k;have hml:=BD fm m k fm.length;have hn8:fm.length<=8:=by have:=hr.1.1;omega
   have hS:=hr.2.1.1;obtain⟨n,hn⟩:∃ n:Nat,m.n=n:=⟨m.n.toNat,by have:=hS.1;omega⟩;have hkn:k < n:=by have:=hr.2.2.2;omega
   obtain⟨N,hN⟩:∃ N:Nat,N=fm.length:=⟨_,rfl⟩;have hrN:m.r=(N:Int):=by rw[hr.2.2.1,hN]
   have hnN:n<=N:=by have:=hS.2.1;omega
   have hkN:k < N:=by omega
   have hsk:=B0 hr.1 hS k;have hif:=ed (mtL fm m k fm.length) (by omega) hi;rw[<-hN] at hsk hml hf hn8 hif ⊢;rw[hml] at hif;apply au;show AWp _ _ _ _ _;apply aa;refine ab fun K hK=>?_;simp[C.aq,mS];apply hK;clear hK K;show AWp _ _ _ _ _;apply aa;refine ab fun K hK=>?_;simp[C.aq,mS];apply hK;clear hK K;show AWp _ _ _ _ _;apply aa;apply aa;refine ab fun K hK=>?_;simp[C.aq,mS];apply hK;clear hK K;show AWp _ _ _ _ _;apply ak;refine lY (fun i:Nat=>⟨ofL [(0,.d (.sh 1 N (rows lS fm))),(2,.int k),(4,.pt (4,0) [] 0),(8,.int N),(9,.al (9,0) [] 0 i),(10,.int i)],aF [((4,0),some (.bx [D.int n,D.int N,shI m.d])),((9,0),some (.ow 1 i (rows lO ((List.range i).map (vL m k N)))))]⟩) (fun i=>i<=N) (fun i=>N - i) 0 [.tmp 9 1] (by simp[C.aq,rows,hn,hrN,mS];(first | (constructor <;> funext t) | funext t) <;> simp only[ofL,aF] <;> (repeat' (first | rfl | split)) <;> (first | (simp_all;done) | (simp_all <;> (first | omega | (intro e;exact absurd e.symm (by assumption)) | (subst_vars;simp))))) (by simp) ?_;intro x1 hx1 R1 hR1;apply aa;apply aa;refine ab fun K hK=>?_;simp[C.aq,mS];apply hK;clear hK K;show AWp _ _ _ _ _;refine ap _ rfl (fun hc2=>?_) (fun hc2=>?_)
   ·have hi1:x1 < N:=by have:=d_t hc2;omega
    have hu1:=bq N x1;apply au;show AWp _ _ _ _ _;apply aa;apply ak;apply aa;refine aK ([0,1,2] ++ ([3])) rfl fun K hK=>?_;refine oSg fun L hL=>?_;simp[C.aq,mS,hu1];refine ae (nV N x1 hn8 hi1) (by simp) (by simp) ?_;simp[C.aq,mS,hu1];apply hL;clear hL L;refine oEn fun L hL=>?_;simp[C.aq,mS,hu1];apply hL;clear hL L;simp[C.aq,mS,hu1];apply hK;clear hK K;show AWp _ _ _ _ _;apply aa;apply aa;refine ab fun K hK=>?_;simp[C.aq,mS,hu1];apply hK;clear hK K;show AWp _ _ _ _ _;refine ap _ rfl (fun hc3=>?_) (fun hc3=>?_)
    ·have e1:x1=k:=by have:=hc3;simp at this;omega
     have hes:(ci N x1).set k (-1)=eS m k N 0:=by rw[e1];exact Mh m
     apply aa;refine ab fun K hK=>?_;simp[C.aq,mS,hu1,hkN,show (k:Int) < N by omega,hes];apply hK;clear hK K;show AWp _ _ _ _ _;apply aa;refine ab fun K hK=>?_;simp[C.aq,mS];apply hK;clear hK K;show AWp _ _ _ _ _;apply ak;refine bm (fun r:Nat=>⟨ofL [(0,.d (.sh 1 N (rows lS fm))),(2,.int k),(4,.pt (4,0) [] 0),(8,.int N),(9,.al (9,0) [] 0 x1),(10,.int x1),(11,.al (11,0) [] 0 N),(12,.int r)],aF [((4,0),some (.bx [D.int n,D.int N,shI m.d])),((9,0),some (.ow 1 x1 (rows lO ((List.range x1).map (vL m k N))))),((11,0),some (.ow 1 N (ints (eS m k N r))))]⟩) (fun r=>r<=N) (fun r=>N - r) 0 (by simp[C.aq,zl]) (by simp) ?_;intro x2 hx2 R2 hR2;apply aa;apply aa;refine ab fun K hK=>?_;simp[C.aq,mS];apply hK;clear hK K;show AWp _ _ _ _ _;refine ap _ rfl (fun hc4=>?_) (fun hc4=>?_)
     ·have hj:x2 < N:=by have:=d_t hc4;omega
      have hat:=s8 hn hS (show (x2:Int) < m.r by omega) hkn;rw[hrN] at hat
      have hbb:=gV hS x2 k;have hgt:=Gb m (k:=k) hj;have hst:=Ff (m:=m) (k:=k) (N:=N) (r:=x2) rfl;have hel:=zl m k N x2;obtain⟨A,hA⟩:∃ A,A=eS m k N x2:=⟨_,rfl⟩;obtain⟨c,hc⟩:∃ c,c=bM m x2 k:=⟨_,rfl⟩;rw[<-hc] at hat hbb hst;have hj2:x2 < A.length:=by rw[hA,hel];exact hj
      have hgt2:A[x2]=if x2=k then -1 else 0:=by simp only[hA];exact hgt
      rw[<-hA] at hst hel;rw[<-hA];obtain⟨w,hw⟩:∃ w,w=(if x2=k then -1 else 0)+max 0 c:=⟨_,rfl⟩;rw[<-hw] at hst;have hwz:IntKind.i64.wrap (A[x2]+max 0 c)=w:=by
       rw[hgt2,hw];exact aj (by split <;> omega) (by split <;> omega)
      apply au;show AWp _ _ _ _ _;apply aa;apply ak;refine bR [(true,0),(true,1),(true,2),(true,3),(true,4),(true,5),(true,6),(false,7),(true,8),(true,9),(true,10),(false,11)] ⟨by kernel_rfl,by kernel_rfl⟩ ([0,1,2,3,4,5,6,7] ++ ([8,9,10,11])) rfl fun K hK=>?_;have hJ:K ⟨ofL [(0,.d (.sh 1 N (rows lS fm))),(2,.int k),(4,.pt (4,0) [] 0),(8,.int N),(9,.al (9,0) [] 0 x1),(10,.int x1),(11,.al (11,0) [] 0 N),(12,.int x2)],aF [((4,0),some (.bx [D.int n,D.int N,shI m.d])),((9,0),some (.ow 1 x1 (rows lO ((List.range x1).map (vL m k N))))),((11,0),some (.ow 1 N (ints (eS m k N (x2+1)))))]⟩:=by
       apply hK;clear hK K;show AWp _ _ _ _ _;refine ab fun K hK=>?_;simp[C.aq,mS,ay (show x2 < 4611686018427387904 by omega)];apply hK;clear hK K;simp[C.aq,mS];exact hR2 (x2+1) hj (by omega)
      clear hK;simp[C.aq,ao,hel,hj,hj2,hwz,show (x2:Int) < N by omega]
      repeat' first
       | (refine ae (hat) ?_ (by simp) ?_;(focus (simp;done));simp[C.aq,ao,hel,hj,hj2,hwz,show (x2:Int) < N by omega])
       | (refine cast (congrArg K ?_) hJ;simp[hst];done)
       | refine And.intro ?_ ?_
     ·have hj:x2=N:=by have:=d_f hc4;omega
      have hvk:eS m k N N=vL m k N x1:=by rw[Me,e1,Cn]
      have hvl:=ry m k N x1;rw[hj,hvk];apply aZ;show AWp _ _ _ _ _;refine ab fun K hK=>?_;simp[C.aq,mS,lz _ hvl,show (x1+1)*24<=140737488355328 by omega];apply hK;clear hK K;show AWp _ _ _ _ _;refine ab fun K hK=>?_;simp[C.aq,mS,ay (show x1 < 4611686018427387904 by omega)];apply hK;clear hK K;simp[C.aq,mS];refine cast (congrArg R1 ?_) (hR1 (x1+1) hi1 (by omega));simp[List.range_succ]
    ·have e1:¬ x1=k:=by have:=hc3;simp at this;omega
     have hvk:ci N x1=vL m k N x1:=(zJ e1).symm;have hvl:=ry m k N x1;rw[hvk];apply au;show AWp _ _ _ _ _;refine ab fun K hK=>?_;simp[C.aq,mS,lz _ hvl,show (x1+1)*24<=140737488355328 by omega];apply hK;clear hK K;show AWp _ _ _ _ _;refine ab fun K hK=>?_;simp[C.aq,mS,ay (show x1 < 4611686018427387904 by omega)];apply hK;clear hK K;simp[C.aq,mS];refine cast (congrArg R1 ?_) (hR1 (x1+1) hi1 (by omega));simp[List.range_succ]
   ·have hi1:x1=N:=by have:=d_f hc2;omega
    rw[hi1];obtain⟨V,hV⟩:∃ V,V=(List.range N).map (vL m k N):=⟨_,rfl⟩;have hVl:V.length=N:=by rw[hV];simp
    have hVg:∀ i (h:i < V.length),V[i]=vL m k N i:=fun i h=>by simp[hV]
    have hvl:∀ i,(vL m k N i).length=N:=fun i=>ry m k N i;rw[<-hV];apply aZ;show AWp _ _ _ _ _;apply aa;refine ab fun K hK=>?_;simp[C.aq,mS];apply hK;clear hK K;show AWp _ _ _ _ _;apply aa;apply aa;refine ab fun K hK=>?_;simp[C.aq,mS];apply hK;clear hK K;show AWp _ _ _ _ _;apply ak;refine lY (fun i:Nat=>⟨ofL [(0,.d (.sh 1 N (rows lS fm))),(9,.al (9,0) [] 0 N),(13,.al (13,0) [] 0 i),(78,.al (9,0) [] 0 N),(79,.int N),(80,.int i)],aF [((9,0),some (.ow 1 N (rows lO V))),((13,0),some (.ow 1 i (rows lO ((List.range i).map fun p=>tbR N fun q=>skw fm (vL m k N p) (vL m k N q)))))]⟩) (fun i=>i<=N) (fun i=>N - i) 0 [.tmp 13 1] (by simp[C.aq,rows];(first | (constructor <;> funext t) | funext t) <;> simp only[ofL,aF] <;> (repeat' (first | rfl | split)) <;> (first | (simp_all;done) | (simp_all <;> (first | omega | (intro e;exact absurd e.symm (by assumption)) | (subst_vars;simp))))) (by simp) ?_;intro x3 hx3 R3 hR3;apply aa;refine ab fun K hK=>?_;simp[C.aq,mS];apply hK;clear hK K;show AWp _ _ _ _ _;apply aa;refine ap _ rfl (fun hc5=>?_) (fun hc5=>?_)
    ·have hi2:x3 < N:=by have:=d_t hc5;omega
     have hi2V:x3 < V.length:=by omega
     have hg2:=hVg x3 hi2V;apply au;show AWp _ _ _ _ _;apply aa;apply ak;apply aa;refine ab fun K hK=>?_;simp[C.aq,mS,jq hi2V,hi2,hg2,hvl,show (x3:Int) < N by omega];apply hK;clear hK K;show AWp _ _ _ _ _;apply aa;refine ab fun K hK=>?_;simp[C.aq,mS];apply hK;clear hK K;show AWp _ _ _ _ _;apply aa;apply aa;refine ab fun K hK=>?_;simp[C.aq,mS];apply hK;clear hK K;show AWp _ _ _ _ _;apply ak;refine lY (fun j:Nat=>⟨ofL [(0,.d (.sh 1 N (rows lS fm))),(9,.al (9,0) [] 0 N),(13,.al (13,0) [] 0 x3),(15,.al (9,0) [x3] 0 N),(16,.al (16,0) [] 0 j),(78,.al (9,0) [] 0 N),(79,.int N),(80,.int x3),(84,.al (9,0) [] 0 N),(85,.int N),(86,.int j)],aF [((9,0),some (.ow 1 N (rows lO V))),((13,0),some (.ow 1 x3 (rows lO ((List.range x3).map fun p=>tbR N fun q=>skw fm (vL m k N p) (vL m k N q))))),((16,0),some (.ow 1 j (ints ((List.range j).map fun q=>skw fm (vL m k N x3) (vL m k N q)))))]⟩) (fun j=>j<=N) (fun j=>N - j) 0 [.tmp 16 1] (by simp[C.aq,ints];refine⟨?_,?_⟩ <;> repeat' (first | exact CI _ _ _ _ | refine AZ (by decide) ?_ | exact A6 _ _ _ | refine yy (by decide) ?_)) (by simp) ?_;intro x4 hx4 R4 hR4;apply aa;refine ab fun K hK=>?_;simp[C.aq,mS];apply hK;clear hK K;show AWp _ _ _ _ _;apply aa;refine ap _ rfl (fun hc6=>?_) (fun hc6=>?_)
     ·have hj:x4 < N:=by have:=d_t hc6;omega
      have hjV:x4 < V.length:=by omega
      have hg4:=hVg x4 hjV;have hsc:=iX fm _ _ (hsk x3 x4);rw[<-hN] at hsc;obtain⟨z,hz⟩:∃ z,z=skw fm (vL m k N x3) (vL m k N x4):=⟨_,rfl⟩;rw[<-hz] at hsc;apply au;show AWp _ _ _ _ _;apply aa;apply ak;apply aa;refine ab fun K hK=>?_;simp[C.aq,mS,jq hjV,hj,hg4,hvl,show (x4:Int) < N by omega];apply hK;clear hK K;show AWp _ _ _ _ _;refine aK ([0,1,2,3,4] ++ ([5,6,7])) rfl fun K hK=>?_;refine oSg fun L hL=>?_;simp[C.aq,mS,jq hi2V,jq hjV,hg2,hg4,hvl,ck,show (x4+1)*8<=140737488355328 by omega];refine ae (hsc) (by simp[mS,jq hi2V,jq hjV,hg2,hg4,hvl,ck,show (x4+1)*8<=140737488355328 by omega]) (by simp) ?_;simp[C.aq,mS,jq hi2V,jq hjV,hg2,hg4,hvl,ck,show (x4+1)*8<=140737488355328 by omega];apply hL;clear hL L;refine oEn fun L hL=>?_;simp[C.aq,mS,jq hi2V,jq hjV,hg2,hg4,hvl,ck,show (x4+1)*8<=140737488355328 by omega];apply hL;clear hL L;simp[C.aq,mS,jq hi2V,jq hjV,hg2,hg4,hvl,ck,show (x4+1)*8<=140737488355328 by omega];apply hK;clear hK K;show AWp _ _ _ _ _;refine ab fun K hK=>?_;simp[C.aq,mS,ay (show x4 < 4611686018427387904 by omega)];apply hK;clear hK K;simp[C.aq,mS];refine cast (congrArg R4 ?_) (hR4 (x4+1) hj (by omega));simp[List.range_succ,<-hz]
     ·have hj:x4=N:=by have:=d_f hc6;omega
      have hrl:((List.range N).map fun q=>skw fm (vL m k N x3) (vL m k N q)).length=N:=by simp
      rw[hj];apply aZ;show AWp _ _ _ _ _;refine ab fun K hK=>?_;simp[C.aq,mS,lz _ hrl,show (x3+1)*24<=140737488355328 by omega];apply hK;clear hK K;show AWp _ _ _ _ _;refine ab fun K hK=>?_;simp[C.aq,mS,ay (show x3 < 4611686018427387904 by omega)];apply hK;clear hK K;simp[C.aq,mS];refine cast (congrArg R3 ?_) (hR3 (x3+1) hi2 (by omega));simp[List.range_succ,tbR]
    ·have hi2:x3=N:=by have:=d_f hc5;omega
     have hfin:(List.range N).map (fun p=>tbR N fun q=>skw fm (vL m k N p) (vL m k N q))=mtL fm m k N:=rfl;rw[hi2,hfin];apply aZ;show AWp _ _ _ _ _;apply aa;apply aa;refine aK ([0,1] ++ ([2])) rfl fun K hK=>?_;refine oSg fun L hL=>?_;simp[C.aq,mS];refine ae (hif) (by simp[mS]) (by simp) ?_;simp[C.aq,mS];apply hL;clear hL L;refine oEn fun L hL=>?_;simp[C.aq,mS];apply hL;clear hL L;simp[C.aq,mS];apply hK;clear hK K;show AWp _ _ _ _ _;refine ap _ rfl (fun hc7=>?_) (fun hc7=>?_)
     ·have hb:¬ bp (mtL fm m k N):=by simpa using hc7
      rw[if_neg hb] at hf;apply aa;refine ab fun K hK=>?_;simp[C.aq,mS];apply hK;clear hK K;show AWp _ _ _ _ _;apply aI;simp[C.aq,mS,hf,rows]
     ·have hb:bp (mtL fm m k N):=by simpa using hc7
      rw[if_pos hb] at hf;apply au;show AWp _ _ _ _ _;apply aa;refine ab fun K hK=>?_;simp[C.aq,mS];apply hK;clear hK K;show AWp _ _ _ _ _;apply aI;simp[C.aq,mS,hf,hml]
 clear hK
 by_cases h1:bp fm
 ·by_cases h2:cO m
  ·by_cases h3:m.r=fm.length
   ·have hwn:IntKind.i64.wrap (m.n - 1)=m.n - 1:=by have:=h2.1.1;exact aj (by omega) (by omega)
    have hle:∀ x:Int,(x<=m.n - 1)=(x < m.n):=fun x=>by rw[eq_iff_iff];omega
    refine oSg fun L hL=>?_;simp[C.aq,mS,hwn,hle,h3,h1,h2,h3];refine ae (ed fm h0 hI) (by simp) (by simp) ?_;simp[C.aq,mS,hwn,hle,h3,h1,h2,h3];apply hL;clear hL L;refine oSg fun L hL=>?_;simp[C.aq,mS,hwn,hle,h3,h1,h2,h3];refine ae (d6 m hx) (by simp[mS,hwn,hle,h3]) (by simp) ?_;simp[C.aq,mS,hwn,hle,h3,h1,h2,h3];apply hL;clear hL L;refine oSg fun L hL=>?_;simp[C.aq,mS,hwn,hle,h3,h1,h2,h3];refine ae (cg k 0 (m.n - 1)) (by simp) (by simp) ?_;simp[C.aq,mS,hwn,hle,h3,h1,h2,h3];apply hL;clear hL L;refine oEn fun L hL=>?_;simp[C.aq,mS,hwn,hle,h3,h1,h2,h3];apply hL;clear hL L;simp[C.aq,mS,hwn,hle,h3,h1,h2,h3];refine cast (congrArg K ?_) hJ;simp[ll,mS,il,mS,h1,h2,h3]
   ·refine oSg fun L hL=>?_;simp[C.aq,mS,h1,h2,h3];refine ae (ed fm h0 hI) (by simp) (by simp) ?_;simp[C.aq,mS,h1,h2,h3];apply hL;clear hL L;refine oSg fun L hL=>?_;simp[C.aq,mS,h1,h2,h3];refine ae (d6 m hx) (by simp) (by simp) ?_;simp[C.aq,mS,h1,h2,h3];apply hL;clear hL L;refine oSg fun L hL=>?_;simp[C.aq,mS,h1,h2,h3];apply hL;clear hL L;refine oEn fun L hL=>?_;simp[C.aq,mS,h1,h2,h3];apply hL;clear hL L;simp[C.aq,mS,h1,h2,h3];refine cast (congrArg K ?_) hJ;simp[ll,mS,il,mS,h1,h2,h3]
  ·refine oSg fun L hL=>?_;simp[C.aq,mS,h1,h2];refine ae (ed fm h0 hI) (by simp) (by simp) ?_;simp[C.aq,mS,h1,h2];apply hL;clear hL L;refine oSg fun L hL=>?_;simp[C.aq,mS,h1,h2];refine ae (d6 m hx) (by simp) (by simp) ?_;simp[C.aq,mS,h1,h2];apply hL;clear hL L;refine oSg fun L hL=>?_;simp[C.aq,mS,h1,h2];apply hL;clear hL L;refine oEn fun L hL=>?_;simp[C.aq,mS,h1,h2];apply hL;clear hL L;simp[C.aq,mS,h1,h2];refine cast (congrArg K ?_) hJ;simp[ll,mS,il,mS,h1,h2]
 ·refine oSg fun L hL=>?_;simp[C.aq,mS,h1];refine ae (ed fm h0 hI) (by simp) (by simp) ?_;simp[C.aq,mS,h1];apply hL;clear hL L;refine oSg fun L hL=>?_;simp[C.aq,mS,h1];apply hL;clear hL L;refine oSg fun L hL=>?_;simp[C.aq,mS,h1];apply hL;clear hL L;refine oEn fun L hL=>?_;simp[C.aq,mS,h1];apply hL;clear hL L;simp[C.aq,mS,h1];refine cast (congrArg K ?_) hJ;simp[ll,mS,il,mS,h1]
set_option maxRecDepth 10000
set_option maxHeartbeats 4000000
theorem Hi (fm:List (List Int)) (m:Mat) (k:Int) (h0:fm.length < 4611686018427387904) (hI:I64 fm) (hx:m.d.length < 17592186044416):af Tryz.prog F.aq [.d (.sh 1 fm.length (rows lS fm)),aM m,.int k] [] true (fun outs res=>outs=[]/\res=[.one (.ow 1 (mfF fm m k).1.length (rows lO (mfF fm m k).1)),.one (D.bool (mfF fm m k).2)]):=(sF fm m k h0 hI hx).weak1
theorem JV (fm:List (List Int)) (m:Mat) (k:Int) (h0:fm.length < 4611686018427387904) (hI:I64 fm) (hx:m.d.length < 17592186044416):af Tryz.prog F.aR [.d (.sh 1 fm.length (rows lS fm)),aM m,.int k] [] true (fun outs res=>outs=[]/\res=[.one (.ow 1 (mfF fm m k).1.length (rows lO (mfF fm m k).1)),.one (D.bool (mfF fm m k).2)]):=(sC fm m k h0 hI hx).weak1
theorem Ib (m:Mat) (ks:List Int) (hx:m.d.length < 17592186044416) (hks:ks.length < 4611686018427387904):af Tryz.prog F.bJ [aM m,.d (shI ks)] [] true (fun outs res=>outs=[]/\res=[.one (.ow 3 (wkR m ks).1.length (rows mO (wkR m ks).1)),.one (D.bool (wkR m ks).2)]):=(wz m ks hx hks).weak1
theorem bp.i64 {fm:List (List Int)} (h:bp fm):I64 fm:=fun r hr x hx=>by
 obtain⟨i,hi,rfl⟩:=List.getElem_of_mem hr;obtain⟨j,hj,rfl⟩:=List.getElem_of_mem hx;have hl:=h.2.1 i hi;rw[i6 hi] at hl;have:=(h.2.2 i hi j (by omega)).1;rw[l5 hi hj] at this;omega
theorem EY {m:Mat} {ws:List Mat} {ks:List Int}:∀ {t:Nat} {f:List (List Int)},fcL m ws ks t=some f->bp f
 | 0,f,e=>by
  simp only[fcL] at e;split at e
  ·injection e with e
   unfold foF at e;split at e
   ·rename_i q;subst e;exact q.2
   ·rename_i q1 q;unfold foF at q1;rw[if_neg q] at q1;simp at q1
  ·simp at e
 | t+1,f,e=>by
  simp only[fcL] at e;split at e
  ·rename_i g hg;split at e
   ·rename_i q;injection e with e
    exact (yk (show mfF g (ws.getD t zM) (ks.getD t 0)=(f,true) from Prod.ext e q)).2.2.2.2.1
   ·simp at e
  ·simp at e
def fmS (fm:List (List Int)):List D:=[.sh 1 fm.length (rows lS fm)]
theorem Fs (t:List (List Int)):(fmS t).length=1:=rfl
section
variable {l:List (List (List Int))} {i:Nat}
theorem vO (h:i < l.length):(rows fmS l)[i]? = some (.sh 1 l[i].length (rows lS l[i]))/\∀ h',(rows fmS l)[i]'h' = .sh 1 l[i].length (rows lS l[i]):=fi (by
 have:=dp Fs l i 0 h (by omega);rw[Nat.one_mul,Nat.add_zero] at this;exact this)
end
theorem EQ (l:List (List (List Int))) (f:List (List Int)):rows fmS l ++ [D.sh 1 f.length (rows lS f)]=rows fmS (l ++ [f]):=by
 rw[dT];simp[rows,fmS]
noncomputable def fcA (m:Mat) (ws:List Mat) (ks:List Int) (t:Nat):List (List (List Int)):=(List.range (t+1)).map fun i=>(fcL m ws ks i).getD []
noncomputable def foR (m:Mat) (ks:List Int):List (List (List Int))×List Mat×Bool:=
 match wkF m ks with
 | some ws=>(match fcL m ws ks ks.length with | some _=>(fcA m ws ks ks.length,ws,true) | none=>([],[],false))
 | none=>([],[],false)
end Go.Proofs.YtncfmemhjahpeaaGreat.Ab
namespace Go.Proofs.YtncfmemhjahpeaaGreat.Ab
open Go
set_option maxRecDepth 10000
set_option maxHeartbeats 4000000
theorem oK (fm0 fm:List (List Int)) (vs:List Qsm) (e:List Int) (k:Nat) (hok0:bp fm0) (hok:bp fm) (hlen:fm.length=fm0.length) (hv:jR fm0 vs) (he:e.length=fm0.length) (hb:∀ x∈e,0<=x/\x<=99) (hk:k < fm0.length):af Tryz.prog F.aO [.d (.sh 1 fm0.length (rows lS fm0)),.d (.sh 1 fm.length (rows lS fm)),.d (.sh 2 vs.length (rows qS vs)),.d (shI e),.int k] [] true (OrW (orF fm0 fm vs e k)):=by
 have h8:1<=fm0.length/\fm0.length<=8:=by have:=hok0.1;omega
 have hmo:=Df (List.replicate vs.length 0) 0 (by simp;rw[hv.len];omega);rw[show moQ (List.replicate vs.length 0) 0=iJ fm0.length by rw[hv.len];exact z8 h8] at hmo;have hvl:=hv.len;obtain⟨P0,hP0⟩:∃ P,P=iJ fm0.length:=⟨_,rfl⟩;have hR0:aL P0:=by rw[hP0];exact mt h8
 have hV0:P0.v=fm0.length:=by rw[hP0];rfl
 obtain⟨goal,hgoal⟩:∃ g,g=gy fm0 vs e P0:=⟨_,rfl⟩;rw[<-hP0] at hmo;obtain⟨O,hO⟩:∃ O,O=orF fm0 fm vs e k:=⟨_,rfl⟩;have hor:O=if ∀ x∈e,x<=8 then goal.bind fun p=>okQ (shT (fP fm e k+iN fm e) p) else none:=by rw[hO,hgoal,hP0];rfl
 rw[<-hO];refine af.ob (C:=C.aO) (n:=Tryz.f43.ntmps) bC bD Tryz.func43 rfl rfl ?_;simp only[Tryz.f43];apply aa;refine ab fun K hK=>?_;simp[C.aO];apply hK;clear hK K;show AWp _ _ _ _ _;apply aa;refine ab fun K hK=>?_;simp[C.aO];apply hK;clear hK K;show AWp _ _ _ _ _;apply aa;refine aK ([0,1,2] ++ ([3,4])) rfl fun K hK=>?_;refine oSg fun L hL=>?_;simp[C.aO,cL,show (vs.length:Int)<=281474976710656 by omega,show (8:Int)*vs.length<=281474976710656 by omega,qO];refine ae (hmo) (by simp[cL,show (vs.length:Int)<=281474976710656 by omega,show (8:Int)*vs.length<=281474976710656 by omega,qO]) (by simp) ?_;simp[C.aO,cL,show (vs.length:Int)<=281474976710656 by omega,show (8:Int)*vs.length<=281474976710656 by omega,qO];apply hL;clear hL L;refine oEn fun L hL=>?_;simp[C.aO,cL,show (vs.length:Int)<=281474976710656 by omega,show (8:Int)*vs.length<=281474976710656 by omega,qO];apply hL;clear hL L;simp[C.aO,cL,show (vs.length:Int)<=281474976710656 by omega,show (8:Int)*vs.length<=281474976710656 by omega,qO];apply hK;clear hK K;show AWp _ _ _ _ _;apply aa;refine ab fun K hK=>?_;simp[C.aO];apply hK;clear hK K;show AWp _ _ _ _ _;apply aa;apply aa;refine ab fun K hK=>?_;simp[C.aO];apply hK;clear hK K;show AWp _ _ _ _ _;apply ak;refine bm (fun x:Nat×Qsm=>⟨ofL [(0,.d (.sh 1 fm0.length (rows lS fm0))),(1,.d (.sh 1 fm.length (rows lS fm))),(2,.d (.sh 2 vs.length (rows qS vs))),(3,.d (shI e)),(4,.int k),(10,.pt (10,0) [] 0),(12,.int vs.length),(13,.pt (13,0) [] 0),(26,.d (shI e)),(27,.int e.length),(28,.int x.1)],aF [((10,0),some (.bx [D.int 0,.v (.slice none 0 0)])),((13,0),some (.bx [D.int x.2.v,.ow 3 x.2.ts.length (rows qtO x.2.ts)]))]⟩) (fun x=>x.1<=e.length/\(aL x.2/\x.2.v=fm0.length)/\(∀ z∈e.take x.1,z<=8)/\gy fm0 (vs.drop x.1) (e.drop x.1) x.2=goal) (fun x=>e.length - x.1) (0,P0) (by simp[C.aO]) ⟨by simp,⟨hR0,hV0⟩,by simp,by simp[hgoal]⟩ ?_;intro x1 hx1 R1 hR1;obtain⟨i,p⟩:=x1;obtain⟨hi0,⟨hpr,hpv⟩,hcb,hpg⟩:=hx1;dsimp only at hi0 hpr hpv hcb hpg ⊢;apply aa;refine ab fun K hK=>?_;simp[C.aO];apply hK;clear hK K;show AWp _ _ _ _ _;apply aa;refine ap _ rfl (fun hc1=>?_) (fun hc1=>?_)
 ·have hi:i < e.length:=by have:=d_t hc1;omega
  have hif:i < vs.length:=by omega
  obtain⟨c,hc⟩:∃ c,c=e[i]:=⟨_,rfl⟩;have hcb2:=hb _ (List.getElem_mem hi);rw[<-hc] at hcb2;obtain⟨f,hf⟩:∃ f,f=vs[i]:=⟨_,rfl⟩;have hfr:=hv.ok _ (List.getElem_mem hif);rw[<-hf] at hfr;have hst:gy fm0 (vs.drop i) (e.drop i) p=(itQ fm0 f c.toNat p).bind (gy fm0 (vs.drop (i+1)) (e.drop (i+1))):=by
   rw[List.drop_eq_getElem_cons hif,List.drop_eq_getElem_cons hi];simp only[gy];rw[<-hc,<-hf]
  rw[hst] at hpg;have hcc:e[i]=c:=hc.symm;apply au;show AWp _ _ _ _ _;apply aa;apply ak;apply aa;refine ab fun K hK=>?_;simp[C.aO,ao,hi,hcc];apply hK;clear hK K;show AWp _ _ _ _ _;apply aa;apply aa;refine ab fun K hK=>?_;simp[C.aO];apply hK;clear hK K;show AWp _ _ _ _ _;refine ap _ rfl (fun hc2=>?_) (fun hc2=>?_)
  ·have hbig:8 < c:=by simpa using hc2
   have hno:O=none:=by
    rw[hor,if_neg fun q=>by have:=q c (hc ▸ List.getElem_mem hi);omega]
   apply aa;refine ab fun K hK=>?_;simp[C.aO];apply hK;clear hK K;show AWp _ _ _ _ _;apply aI;simp[C.aO];exact OrW.no hno
  ·have hle:c<=8:=by
    have:¬ 8 < c:=by simpa using hc2
    omega
   apply au;show AWp _ _ _ _ _;apply ak;refine bm (fun x:Int×Qsm=>⟨ofL [(0,.d (.sh 1 fm0.length (rows lS fm0))),(1,.d (.sh 1 fm.length (rows lS fm))),(2,.d (.sh 2 vs.length (rows qS vs))),(3,.d (shI e)),(4,.int k),(10,.pt (10,0) [] 0),(12,.int vs.length),(13,.pt (13,0) [] 0),(15,.int i),(16,.int x.1),(26,.d (shI e)),(27,.int e.length),(28,.int i)],aF [((10,0),some (.bx [D.int 0,.v (.slice none 0 0)])),((13,0),some (.bx [D.int x.2.v,.ow 3 x.2.ts.length (rows qtO x.2.ts)]))]⟩) (fun x=>(0<=x.1/\x.1<=8)/\(aL x.2/\x.2.v=fm0.length)/\(itQ fm0 f x.1.toNat x.2).bind (gy fm0 (vs.drop (i+1)) (e.drop (i+1)))=goal) (fun x=>x.1.toNat) (c,p) (by simp[C.aO]) ⟨⟨by dsimp only;omega,by dsimp only;omega⟩,⟨hpr,hpv⟩,hpg⟩ ?_;intro x2 hx2 R2 hR2;obtain⟨nn,q⟩:=x2;obtain⟨⟨hn0,hn8⟩,⟨hqr,hqv⟩,hqg⟩:=hx2;dsimp only at hn0 hn8 hqr hqv hqg ⊢;apply aa;apply aa;refine ab fun K hK=>?_;simp[C.aO];apply hK;clear hK K;show AWp _ _ _ _ _;refine ap _ rfl (fun hc3=>?_) (fun hc3=>?_)
   ·have hpos:0 < nn:=by simpa using hc3
    obtain⟨t,ht⟩:∃ t,nn.toNat=t+1:=⟨nn.toNat - 1,by omega⟩;rw[ht] at hqg;simp only[itQ] at hqg;have hsq:=gF hqr;have hsf:=gF hfr.1;have hmul:=Fl wH fm0 q f (by omega) hok0.i64 hsq.1 hsq.2 hsf.1 hsf.2;have hmok:=fun h=>pK (fm:=fm0) (f:=q) (g:=f) (P:=(eK fm0 q f).1) h;obtain⟨P,hP⟩:∃ P,P=eK fm0 q f:=⟨_,rfl⟩;rw[<-hP] at hqg hmul;simp only[<-hP] at hmok;have hff:vs[i]=f:=hf.symm;apply au;show AWp _ _ _ _ _;apply aa;apply ak;apply aa;refine bR [(true,0),(true,1),(true,2),(true,3),(true,4),(true,5),(false,6),(true,7),(true,8),(true,9),(false,10),(true,11)] ⟨by kernel_rfl,by kernel_rfl⟩ ([0,1,2,3,4,5,6] ++ ([7,8,9,10,11])) rfl fun K hK=>?_;refine oSg fun L hL=>?_;simp[C.aO,qO,qS,hif,gL hif,gJ hif,hff,show (i:Int) < vs.length by omega];refine ae (hmul) (by simp) (by simp) ?_;simp[C.aO,qO,qS,hif,gL hif,gJ hif,hff,show (i:Int) < vs.length by omega];apply hL;clear hL L;refine oEn fun L hL=>?_;simp[C.aO,qO,qS,hif,gL hif,gJ hif,hff,show (i:Int) < vs.length by omega];apply hL;clear hL L;simp[C.aO,qO,qS,hif,gL hif,gJ hif,hff,show (i:Int) < vs.length by omega];apply hK;clear hK K;show AWp _ _ _ _ _;apply aa;refine ab fun K hK=>?_;simp[C.aO];apply hK;clear hK K;show AWp _ _ _ _ _;refine ap _ rfl (fun hc4=>?_) (fun hc4=>?_)
    ·have hbb:P.2=false:=by simpa using hc4
     rw[hbb] at hqg;have hgn:goal=none:=by rw[<-hqg];rfl
     have hno:O=none:=by
      rw[hor,hgn];split <;> rfl
     apply aa;refine ab fun K hK=>?_;simp[C.aO];apply hK;clear hK K;show AWp _ _ _ _ _;apply aI;simp[C.aO];exact OrW.no hno
    ·have hbb:P.2=true:=by simpa using hc4
     rw[if_pos hbb] at hqg;obtain⟨_,_,_,_,_,hr1,hr2,_⟩:=hmok (Prod.ext rfl hbb);apply au;show AWp _ _ _ _ _;refine ab fun K hK=>?_;simp[C.aO,aj (x:=nn - 1) (by omega) (by omega)];apply hK;clear hK K;simp[C.aO];refine cast (congrArg R2 ?_) (hR2 (nn - 1,P.1) ⟨⟨by dsimp only;omega,by dsimp only;omega⟩,⟨hr1,hr2⟩,by dsimp only;rw[show (nn - 1).toNat=t by omega];exact hqg⟩ (by dsimp only;omega));simp[qO]
   ·have hpos:¬ 0 < nn:=by simpa using hc3
    rw[show nn.toNat=0 by omega] at hqg;have hqg2:gy fm0 (vs.drop (i+1)) (e.drop (i+1)) q=goal:=hqg;apply aZ;show AWp _ _ _ _ _;refine ab fun K hK=>?_;simp[C.aO,ay (show i < 4611686018427387904 by omega)];apply hK;clear hK K;simp[C.aO];refine hR1 (i+1,q) ⟨hi,⟨hqr,hqv⟩,fun z hz=>?_,hqg2⟩ (by dsimp only;omega);dsimp only at hz;rw[List.take_succ_eq_append_getElem (by omega)] at hz;rcases List.mem_append.1 hz with hz | hz
    ·exact hcb z hz
    ·rw[List.mem_singleton] at hz;rw[hz,<-hc];omega
 ·have hi:i=e.length:=by have:=d_f hc1;omega
  rw[hi,List.drop_of_length_le (by omega),List.drop_of_length_le (by omega)] at hpg;rw[hi,List.take_of_length_le (by omega)] at hcb;have hpg2:goal=some p:=by rw[<-hpg];rfl
  rw[hpg2,if_pos hcb] at hor;have hor2:O=okQ (shT (fP fm e k+iN fm e) p):=hor;obtain⟨A,hA⟩:∃ A,A=fP fm e k:=⟨_,rfl⟩;have hAb:=Bs hok (he.trans hlen.symm) hb (k:=k) (by omega);have hun:=nV vs.length k (by omega) (by omega);have hpa:=iX fm (ci vs.length k) e ⟨hok,by rw[bq];omega,by omega,fun x hx=>by rcases kn hx with rfl | rfl <;> omega,fun x hx=>by have:=hb x hx;omega⟩;rw[show skw fm (ci vs.length k) e=A by rw[hA];unfold fP;rw[hvl,hlen]] at hpa;rw[<-hA] at hAb hor2;apply aZ;show AWp _ _ _ _ _;apply aa;refine aK ([0,1,2,3] ++ ([4,5] ++ ([6]))) rfl fun K hK=>?_;refine oSg fun L hL=>?_;simp[C.aO];refine ae (hun) (by simp[]) (by simp) ?_;simp[C.aO];apply hL;clear hL L;refine oSg fun L hL=>?_;simp[C.aO];refine ae (hpa) (by simp[]) (by simp) ?_;simp[C.aO];apply hL;clear hL L;refine oEn fun L hL=>?_;simp[C.aO];apply hL;clear hL L;simp[C.aO];apply hK;clear hK K;show AWp _ _ _ _ _;apply aa;apply aa;refine ab fun K hK=>?_;simp[C.aO];apply hK;clear hK K;show AWp _ _ _ _ _;apply ak;refine bm (fun x:Nat=>⟨ofL [(1,.d (.sh 1 fm.length (rows lS fm))),(3,.d (shI e)),(10,.pt (10,0) [] 0),(13,.pt (13,0) [] 0),(17,.int (A+sm (fun i=>sm (trm fm e i) i) x)),(61,.int e.length),(62,.int x)],aF [((10,0),some (.bx [D.int 0,.v (.slice none 0 0)])),((13,0),some (.bx [D.int p.v,.ow 3 p.ts.length (rows qtO p.ts)]))]⟩) (fun x=>x<=e.length) (fun x=>e.length - x) 0 (by simp[C.aO,sm]) (by simp) ?_;intro x3 hx3 R3 hR3;apply aa;refine ab fun K hK=>?_;simp[C.aO];apply hK;clear hK K;show AWp _ _ _ _ _;apply aa;refine ap _ rfl (fun hc5=>?_) (fun hc5=>?_)
  ·have h3:x3 < e.length:=by have:=d_t hc5;omega
   obtain⟨S3,hS3⟩:∃ S,S=sm (fun i=>sm (trm fm e i) i) x3:=⟨_,rfl⟩;have hS3b:S3.natAbs<=8*(8*(99*99*99)):=by
    rw[hS3];exact rP hok (he.trans hlen.symm) hb x3 (by omega)
   rw[<-hS3];apply au;show AWp _ _ _ _ _;apply aa;apply ak;apply aa;refine ab fun K hK=>?_;simp[C.aO];apply hK;clear hK K;show AWp _ _ _ _ _;apply aa;refine ab fun K hK=>?_;simp[C.aO];apply hK;clear hK K;show AWp _ _ _ _ _;apply ak;refine bm (fun x:Nat=>⟨ofL [(1,.d (.sh 1 fm.length (rows lS fm))),(3,.d (shI e)),(10,.pt (10,0) [] 0),(13,.pt (13,0) [] 0),(17,.int (A+S3+sm (trm fm e x3) x)),(18,.int x3),(19,.int x),(61,.int e.length),(62,.int x3)],aF [((10,0),some (.bx [D.int 0,.v (.slice none 0 0)])),((13,0),some (.bx [D.int p.v,.ow 3 p.ts.length (rows qtO p.ts)]))]⟩) (fun x=>x<=x3) (fun x=>x3 - x) 0 (by simp[C.aO,sm]) (by simp) ?_;intro x4 hx4 R4 hR4;apply aa;apply aa;refine ab fun K hK=>?_;simp[C.aO];apply hK;clear hK K;show AWp _ _ _ _ _;refine ap _ rfl (fun hc6=>?_) (fun hc6=>?_)
   ·have h4:x4 < x3:=by have:=d_t hc6;omega
    have hS4b:=mE (f:=trm fm e x3) (M:=99*99*99) x4 fun j hj=>qA hok hb (by omega) (by omega) (by omega) (by omega);have hS4c:x4*(99*99*99)<=8*(99*99*99):=Nat.mul_le_mul_right _ (by omega);obtain⟨S4,hS4⟩:∃ S,S=sm (trm fm e x3) x4:=⟨_,rfl⟩;have hst4:sm (trm fm e x3) (x4+1)=S4+trm fm e x3 x4:=by rw[hS4];rfl
    have hx3f:x3 < fm.length:=by omega
    have hrl:fm[x3].length=fm.length:=by have:=hok.2.1 x3 hx3f;rwa [i6 hx3f] at this
    have hx4r:x4 < fm[x3].length:=by omega
    have hx4e:x4 < e.length:=by omega
    have htb:=qA hok hb (i:=x3) (j:=x4) (by omega) (by omega) (by omega) (by omega);have hta:=CB (fm:=fm) (e:=e) h3 hx4e hx3f hx4r;rw[<-hS4] at hS4b;rw[<-hS4];have hb3:=hb _ (List.getElem_mem h3);have hb4:=hb _ (List.getElem_mem hx4e);have hee:(e[x3]*e[x4]).natAbs<=99*99:=nu (by omega) (by omega);obtain⟨ea,hea⟩:∃ z,z=e[x3]*e[x4]:=⟨_,rfl⟩;rw[<-hea] at hta hee;have hea2:=hea.symm;have hw1:IntKind.i64.wrap (e[x3]*e[x4])=ea:=by rw[<-hea];exact aj (by omega) (by omega)
    obtain⟨tv,htv⟩:∃ z,z=trm fm e x3 x4:=⟨_,rfl⟩;rw[<-htv] at hta htb hst4;have hw2:IntKind.i64.wrap (ea*fm[x3][x4])=tv:=by rw[<-hta];exact aj (by omega) (by omega)
    have hw3:IntKind.i64.wrap (A+S3+S4+tv)=A+S3+S4+tv:=aj (by omega) (by omega);apply au;show AWp _ _ _ _ _;apply aa;apply ak;refine bR [(true,0),(true,1),(true,2),(true,3),(true,4),(true,5),(true,6),(true,7),(true,8),(true,9),(true,10),(true,11),(true,12),(true,13),(true,14),(true,15),(true,16),(true,17),(true,18),(true,19)] ⟨by kernel_rfl,by kernel_rfl⟩ ([0,1,2,3,4,5,6,7,8,9,10,11,12,13,14,15,16,17,18,19]) rfl fun K hK=>?_;refine oEn fun L hL=>?_;simp[C.aO,ao,h3,hx4e,hx3f,dI hx3f,hrl,hx4r,show (x3:Int) < e.length by omega,show (x4:Int) < e.length by omega,show (x3:Int) < fm.length by omega,show (x4:Int) < fm.length by omega,show x4 < fm.length by omega,hw1,hw2,hw3];apply hL;clear hL L;simp[C.aO,ao,h3,hx4e,hx3f,dI hx3f,hrl,hx4r,show (x3:Int) < e.length by omega,show (x4:Int) < e.length by omega,show (x3:Int) < fm.length by omega,show (x4:Int) < fm.length by omega,show x4 < fm.length by omega,hw1,hw2,hw3];apply hK;clear hK K;show AWp _ _ _ _ _;refine ab fun K hK=>?_;simp[C.aO,ay (show x4 < 4611686018427387904 by omega)];apply hK;clear hK K;simp[C.aO];refine cast (congrArg R4 ?_) (hR4 (x4+1) h4 (by omega));simp[hst4,Int.add_assoc]
   ·have h4:x4=x3:=by have:=d_f hc6;omega
    have hst3:sm (fun i=>sm (trm fm e i) i) (x3+1)=S3+sm (trm fm e x3) x4:=by rw[hS3,h4];rfl
    apply aZ;show AWp _ _ _ _ _;refine ab fun K hK=>?_;simp[C.aO,ay (show x3 < 4611686018427387904 by omega)];apply hK;clear hK K;simp[C.aO];refine cast (congrArg R3 ?_) (hR3 (x3+1) h3 (by omega));simp[hst3,Int.add_assoc]
  ·have h3:x3=e.length:=by have:=d_f hc5;omega
   obtain⟨B,hB⟩:∃ B,B=A+sm (fun i=>sm (trm fm e i) i) x3:=⟨_,rfl⟩;have hBe:A+iN fm e=B:=by rw[hB,h3];rfl
   rw[hBe] at hor2;have hBb:B.natAbs<=200000000:=by
    have h1:=rP hok (he.trans hlen.symm) hb x3 (by omega);omega
   rw[<-hB];have hpl:=hpr.2.1;apply aZ;show AWp _ _ _ _ _;apply aa;apply aa;refine ab fun K hK=>?_;simp[C.aO];apply hK;clear hK K;show AWp _ _ _ _ _;apply ak;refine bm (fun x:Nat=>⟨ofL [(10,.pt (10,0) [] 0),(13,.pt (13,0) [] 0),(17,.int B),(92,.int p.ts.length),(93,.int x)],aF [((10,0),some (.bx [D.int 0,.v (.slice none 0 0)])),((13,0),some (.bx [D.int p.v,.ow 3 p.ts.length (rows qtO (iu B p.ts x))]))]⟩) (fun x=>x<=p.ts.length) (fun x=>p.ts.length - x) 0 (by simp[C.aO,nv]) (by simp) ?_;intro x5 hx5 R5 hR5;apply aa;refine ab fun K hK=>?_;simp[C.aO];apply hK;clear hK K;show AWp _ _ _ _ _;apply aa;refine ap _ rfl (fun hc7=>?_) (fun hc7=>?_)
   ·have h5:x5 < p.ts.length:=by have:=d_t hc7;omega
    obtain⟨hm1,hm2⟩:=sY (s:=B) h5;have hms:=tQ (s:=B) h5;have hth:=(hpr.2.2.1 _ (List.getElem_mem h5)).2.2.2.1;obtain⟨tt,htt⟩:∃ z,z=p.ts[x5]:=⟨_,rfl⟩;rw[<-htt] at hm2 hms hth;obtain⟨L5,hL5⟩:∃ z,z=iu B p.ts x5:=⟨_,rfl⟩;have hL5l:L5.length=p.ts.length:=by rw[hL5];exact lM _ _ _ (by omega)
    simp only[<-hL5] at hm1 hm2 hms;rw[<-hL5];have q1:=iP hm1;have q2:=uc hm1 (tt.h+B);rw[hm2] at q1 q2;rw[show (⟨tt.e,tt.h+B,tt.c⟩:Qtm)=sh1 B tt from rfl,hms] at q2;apply au;show AWp _ _ _ _ _;apply aa;apply ak;apply aa;refine ab fun K hK=>?_;simp[C.aO];apply hK;clear hK K;show AWp _ _ _ _ _;refine ab fun K hK=>?_;simp[C.aO,h5,show (x5:Int) < p.ts.length by omega,q1,aj (x:=tt.h+B) (by omega) (by omega),q2];apply hK;clear hK K;show AWp _ _ _ _ _;refine ab fun K hK=>?_;simp[C.aO,ay (show x5 < 4611686018427387904 by omega)];apply hK;clear hK K;simp[C.aO];exact hR5 (x5+1) h5 (by omega)
   ·have h5:x5=p.ts.length:=by have:=d_f hc7;omega
    have hsm:=wG (gF hpr) B;have hqk:=cZ (shT B p) hsm.1 hsm.2;have hall:=tI B p.ts;obtain⟨U,hU⟩:∃ U,U=shT B p:=⟨_,rfl⟩;have hUts:p.ts.map (sh1 B)=U.ts:=by rw[hU];rfl
    have hUv:U.v=p.v:=by rw[hU];rfl
    have hUl:U.ts.length=p.ts.length:=by rw[<-hUts];simp
    rw[h5,hall,hUts];rw[<-hU] at hqk hsm hor2;simp only[aQ,hUl,hUv] at hqk;have hfin:=OrW.fin hsm hor2;rw[hUl,hUv] at hfin;apply aZ;show AWp _ _ _ _ _;apply aa;refine bR [(true,0),(true,1),(false,2),(false,3),(true,4)] ⟨by kernel_rfl,by kernel_rfl⟩ ([0,1,2] ++ ([3,4])) rfl fun K hK=>?_;refine oSg fun L hL=>?_;simp[C.aO];refine ae (hqk) (by simp[]) (by simp) ?_;simp[C.aO];apply hL;clear hL L;refine oEn fun L hL=>?_;simp[C.aO];apply hL;clear hL L;simp[C.aO];apply hK;clear hK K;show AWp _ _ _ _ _;apply aI;simp[C.aO];exact hfin
set_option maxRecDepth 10000
set_option maxHeartbeats 4000000
theorem tL (fm0 fm:List (List Int)) (vs:List Qsm) (e:List Int) (hok0:bp fm0) (hok:bp fm) (hlen:fm.length=fm0.length) (hv:jR fm0 vs) (he:e.length=fm0.length) (hb:∀ x∈e,0<=x/\x<=99):af Tryz.prog F.aS [.d (.sh 1 fm0.length (rows lS fm0)),.d (.sh 1 fm.length (rows lS fm)),.d (.sh 2 vs.length (rows qS vs)),.d (shI e)] [] true (OrW (spF fm0 fm vs e)):=by
 have h8:1<=fm0.length/\fm0.length<=8:=by have:=hok0.1;omega
 have hmo:=Cr (List.replicate fm0.length 0) 0 (by simp;omega);rw[z8 h8] at hmo;have hvl:=hv.len;obtain⟨P0,hP0⟩:∃ P,P=iJ fm0.length:=⟨_,rfl⟩;have hR0:aL P0:=by rw[hP0];exact mt h8
 have hV0:P0.v=fm0.length:=by rw[hP0];rfl
 obtain⟨goal,hgoal⟩:∃ g,g=gy fm0 vs e P0:=⟨_,rfl⟩;rw[<-hP0] at hmo;obtain⟨O,hO⟩:∃ O,O=spF fm0 fm vs e:=⟨_,rfl⟩;have hor:O=goal.bind fun p=>okQ (shT (iN fm e) p):=by rw[hO,hgoal,hP0];rfl
 rw[<-hO];refine af.ob (C:=C.aS) (n:=Tryz.f108.ntmps) bC bD Tryz.func108 rfl rfl ?_;simp only[Tryz.f108];apply aa;refine ab fun K hK=>?_;simp[C.aS];apply hK;clear hK K;show AWp _ _ _ _ _;apply aa;refine ab fun K hK=>?_;simp[C.aS];apply hK;clear hK K;show AWp _ _ _ _ _;apply aa;apply aa;refine ab fun K hK=>?_;simp[C.aS];apply hK;clear hK K;show AWp _ _ _ _ _;apply ak;refine bm (fun x:Nat=>⟨ofL [(0,.d (.sh 1 fm0.length (rows lS fm0))),(1,.d (.sh 1 fm.length (rows lS fm))),(2,.d (.sh 2 vs.length (rows qS vs))),(3,.d (shI e)),(8,.pt (8,0) [] 0),(10,.int (sm (fun i=>sm (trm fm e i) i) x)),(11,.int x)],aF [((8,0),some (.bx [D.int 0,.v (.slice none 0 0)]))]⟩) (fun x=>x<=e.length) (fun x=>e.length - x) 0 (by simp[C.aS,sm]) (by simp) ?_;intro x1 hx1 R1 hR1;apply aa;apply aa;refine ab fun K hK=>?_;simp[C.aS];apply hK;clear hK K;show AWp _ _ _ _ _;refine ap _ rfl (fun hc1=>?_) (fun hc1=>?_)
 ·have h3:x1 < e.length:=by have:=d_t hc1;omega
  obtain⟨S3,hS3⟩:∃ S,S=sm (fun i=>sm (trm fm e i) i) x1:=⟨_,rfl⟩;have hS3b:S3.natAbs<=8*(8*(99*99*99)):=by
   rw[hS3];exact rP hok (he.trans hlen.symm) hb x1 (by omega)
  rw[<-hS3];apply au;show AWp _ _ _ _ _;apply aa;apply ak;apply aa;refine ab fun K hK=>?_;simp[C.aS];apply hK;clear hK K;show AWp _ _ _ _ _;apply ak;refine bm (fun x:Nat=>⟨ofL [(0,.d (.sh 1 fm0.length (rows lS fm0))),(1,.d (.sh 1 fm.length (rows lS fm))),(2,.d (.sh 2 vs.length (rows qS vs))),(3,.d (shI e)),(8,.pt (8,0) [] 0),(10,.int (S3+sm (trm fm e x1) x)),(11,.int x1),(12,.int x)],aF [((8,0),some (.bx [D.int 0,.v (.slice none 0 0)]))]⟩) (fun x=>x<=x1) (fun x=>x1 - x) 0 (by simp[C.aS,sm]) (by simp) ?_;intro x2 hx2 R2 hR2;apply aa;apply aa;refine ab fun K hK=>?_;simp[C.aS];apply hK;clear hK K;show AWp _ _ _ _ _;refine ap _ rfl (fun hc2=>?_) (fun hc2=>?_)
  ·have h4:x2 < x1:=by have:=d_t hc2;omega
   have hS4b:=mE (f:=trm fm e x1) (M:=99*99*99) x2 fun j hj=>qA hok hb (by omega) (by omega) (by omega) (by omega);have hS4c:x2*(99*99*99)<=8*(99*99*99):=Nat.mul_le_mul_right _ (by omega);obtain⟨S4,hS4⟩:∃ S,S=sm (trm fm e x1) x2:=⟨_,rfl⟩;have hst4:sm (trm fm e x1) (x2+1)=S4+trm fm e x1 x2:=by rw[hS4];rfl
   have hx3f:x1 < fm.length:=by omega
   have hrl:fm[x1].length=fm.length:=by have:=hok.2.1 x1 hx3f;rwa [i6 hx3f] at this
   have hx4r:x2 < fm[x1].length:=by omega
   have hx4e:x2 < e.length:=by omega
   have htb:=qA hok hb (i:=x1) (j:=x2) (by omega) (by omega) (by omega) (by omega);have hta:=CB (fm:=fm) (e:=e) h3 hx4e hx3f hx4r;rw[<-hS4] at hS4b;rw[<-hS4];have hb3:=hb _ (List.getElem_mem h3);have hb4:=hb _ (List.getElem_mem hx4e);have hee:(e[x1]*e[x2]).natAbs<=99*99:=nu (by omega) (by omega);obtain⟨ea,hea⟩:∃ z,z=e[x1]*e[x2]:=⟨_,rfl⟩;rw[<-hea] at hta hee;have hw1:IntKind.i64.wrap (e[x1]*e[x2])=ea:=by rw[<-hea];exact aj (by omega) (by omega)
   obtain⟨tv,htv⟩:∃ z,z=trm fm e x1 x2:=⟨_,rfl⟩;rw[<-htv] at hta htb hst4;have hw2:IntKind.i64.wrap (ea*fm[x1][x2])=tv:=by rw[<-hta];exact aj (by omega) (by omega)
   have hw3:IntKind.i64.wrap (S3+S4+tv)=S3+S4+tv:=aj (by omega) (by omega);apply au;show AWp _ _ _ _ _;apply aa;apply ak;refine bR [(true,0),(true,1),(true,2),(true,3),(true,4),(true,5),(true,6),(true,7),(true,8),(true,9),(true,10),(true,11),(true,12),(true,13),(true,14),(true,15),(true,16),(true,17),(true,18),(true,19)] ⟨by kernel_rfl,by kernel_rfl⟩ ([0,1,2,3,4,5,6,7,8,9,10,11,12,13,14,15,16,17,18,19]) rfl fun K hK=>?_;refine oEn fun L hL=>?_;simp[C.aS,ao,h3,hx4e,hx3f,dI hx3f,hrl,hx4r,show (x1:Int) < e.length by omega,show (x2:Int) < e.length by omega,show (x1:Int) < fm.length by omega,show (x2:Int) < fm.length by omega,show x2 < fm.length by omega,hw1,hw2,hw3];apply hL;clear hL L;simp[C.aS,ao,h3,hx4e,hx3f,dI hx3f,hrl,hx4r,show (x1:Int) < e.length by omega,show (x2:Int) < e.length by omega,show (x1:Int) < fm.length by omega,show (x2:Int) < fm.length by omega,show x2 < fm.length by omega,hw1,hw2,hw3];apply hK;clear hK K;show AWp _ _ _ _ _;refine ab fun K hK=>?_;simp[C.aS,ay (show x2 < 4611686018427387904 by omega)];apply hK;clear hK K;simp[C.aS];refine cast (congrArg R2 ?_) (hR2 (x2+1) h4 (by omega));simp[hst4,Int.add_assoc]
  ·have h4:x2=x1:=by have:=d_f hc2;omega
   have hst3:sm (fun i=>sm (trm fm e i) i) (x1+1)=S3+sm (trm fm e x1) x2:=by rw[hS3,h4];rfl
   apply aZ;show AWp _ _ _ _ _;refine ab fun K hK=>?_;simp[C.aS,ay (show x1 < 4611686018427387904 by omega)];apply hK;clear hK K;simp[C.aS];refine cast (congrArg R1 ?_) (hR1 (x1+1) h3 (by omega));simp[hst3]
 ·have h3:x1=e.length:=by have:=d_f hc1;omega
  obtain⟨B,hB⟩:∃ B,B=sm (fun i=>sm (trm fm e i) i) x1:=⟨_,rfl⟩;have hBe:iN fm e=B:=by rw[hB,h3];rfl
  rw[hBe] at hor;have hBb:B.natAbs<=200000000:=by
   have h1:=rP hok (he.trans hlen.symm) hb x1 (by omega);omega
  rw[<-hB];clear hB hBe h3 hR1 hx1 hc1;apply aZ;show AWp _ _ _ _ _;apply aa;refine aK ([0,1,2,3] ++ ([4,5])) rfl fun K hK=>?_;refine oSg fun L hL=>?_;simp[C.aS,cL,show (fm0.length:Int)<=281474976710656 by omega,show (8:Int)*fm0.length<=281474976710656 by omega,qO];refine ae (hmo) (by simp[cL,show (fm0.length:Int)<=281474976710656 by omega,show (8:Int)*fm0.length<=281474976710656 by omega,qO]) (by simp) ?_;simp[C.aS,cL,show (fm0.length:Int)<=281474976710656 by omega,show (8:Int)*fm0.length<=281474976710656 by omega,qO];apply hL;clear hL L;refine oEn fun L hL=>?_;simp[C.aS,cL,show (fm0.length:Int)<=281474976710656 by omega,show (8:Int)*fm0.length<=281474976710656 by omega,qO];apply hL;clear hL L;simp[C.aS,cL,show (fm0.length:Int)<=281474976710656 by omega,show (8:Int)*fm0.length<=281474976710656 by omega,qO];apply hK;clear hK K;show AWp _ _ _ _ _;apply aa;apply aa;refine ab fun K hK=>?_;simp[C.aS];apply hK;clear hK K;show AWp _ _ _ _ _;apply ak;refine bm (fun x:Nat×Qsm=>⟨ofL [(0,.d (.sh 1 fm0.length (rows lS fm0))),(2,.d (.sh 2 vs.length (rows qS vs))),(3,.d (shI e)),(8,.pt (8,0) [] 0),(10,.int B),(13,.pt (13,0) [] 0),(14,.int x.1)],aF [((8,0),some (.bx [D.int 0,.v (.slice none 0 0)])),((13,0),some (.bx [D.int x.2.v,.ow 3 x.2.ts.length (rows qtO x.2.ts)]))]⟩) (fun x=>x.1<=e.length/\(aL x.2/\x.2.v=fm0.length)/\gy fm0 (vs.drop x.1) (e.drop x.1) x.2=goal) (fun x=>e.length - x.1) (0,P0) (by simp[C.aS]) ⟨by simp,⟨hR0,hV0⟩,by simp[hgoal]⟩ ?_;intro x3 hx3 R3 hR3;obtain⟨i,p⟩:=x3;obtain⟨hi0,⟨hpr,hpv⟩,hpg⟩:=hx3;dsimp only at hi0 hpr hpv hpg ⊢;apply aa;apply aa;refine ab fun K hK=>?_;simp[C.aS];apply hK;clear hK K;show AWp _ _ _ _ _;refine ap _ rfl (fun hc3=>?_) (fun hc3=>?_)
  ·have hi:i < e.length:=by have:=d_t hc3;omega
   have hif:i < vs.length:=by omega
   obtain⟨c,hc⟩:∃ c,c=e[i]:=⟨_,rfl⟩;have hcb2:=hb _ (List.getElem_mem hi);rw[<-hc] at hcb2;obtain⟨f,hf⟩:∃ f,f=vs[i]:=⟨_,rfl⟩;have hfr:=hv.ok _ (List.getElem_mem hif);rw[<-hf] at hfr;have hst:gy fm0 (vs.drop i) (e.drop i) p=(itQ fm0 f c.toNat p).bind (gy fm0 (vs.drop (i+1)) (e.drop (i+1))):=by
    rw[List.drop_eq_getElem_cons hif,List.drop_eq_getElem_cons hi];simp only[gy];rw[<-hc,<-hf]
   rw[hst] at hpg;have hcc:e[i]=c:=hc.symm;have hff:vs[i]=f:=hf.symm;apply au;show AWp _ _ _ _ _;apply aa;apply ak;apply aa;refine ab fun K hK=>?_;simp[C.aS];apply hK;clear hK K;show AWp _ _ _ _ _;apply ak;refine bm (fun x:Nat×Qsm=>⟨ofL [(0,.d (.sh 1 fm0.length (rows lS fm0))),(2,.d (.sh 2 vs.length (rows qS vs))),(3,.d (shI e)),(8,.pt (8,0) [] 0),(10,.int B),(13,.pt (13,0) [] 0),(14,.int i),(15,.int x.1)],aF [((8,0),some (.bx [D.int 0,.v (.slice none 0 0)])),((13,0),some (.bx [D.int x.2.v,.ow 3 x.2.ts.length (rows qtO x.2.ts)]))]⟩) (fun x=>x.1<=c.toNat/\(aL x.2/\x.2.v=fm0.length)/\(itQ fm0 f (c.toNat - x.1) x.2).bind (gy fm0 (vs.drop (i+1)) (e.drop (i+1)))=goal) (fun x=>c.toNat - x.1) (0,p) (by simp[C.aS]) ⟨by simp,⟨hpr,hpv⟩,by simpa using hpg⟩ ?_;intro x4 hx4 R4 hR4;obtain⟨nn,q⟩:=x4;obtain⟨hn0,⟨hqr,hqv⟩,hqg⟩:=hx4;dsimp only at hn0 hqr hqv hqg ⊢;apply aa;apply aa;refine ab fun K hK=>?_;simp[C.aS,ao,hi,hcc,show (i:Int) < e.length by omega];apply hK;clear hK K;show AWp _ _ _ _ _;refine ap _ rfl (fun hc4=>?_) (fun hc4=>?_)
   ·have hpos:nn < c.toNat:=by
     have:(nn:Int) < c:=by simpa using hc4
     omega
    obtain⟨t,ht⟩:∃ t,c.toNat - nn=t+1:=⟨c.toNat - nn - 1,by omega⟩;rw[ht] at hqg;simp only[itQ] at hqg;have hsq:=gF hqr;have hsf:=gF hfr.1;have hmul:=Fj fm0 q f (by omega) hok0.i64 hsq.1 hsq.2 hsf.1 hsf.2;have hmok:=fun h=>pK (fm:=fm0) (f:=q) (g:=f) (P:=(eK fm0 q f).1) h;obtain⟨P,hP⟩:∃ P,P=eK fm0 q f:=⟨_,rfl⟩;rw[<-hP] at hqg hmul;simp only[<-hP] at hmok;apply au;show AWp _ _ _ _ _;apply aa;apply ak;apply aa;refine eG (.take 0 (.take 1 (.take 2 (.take 3 (.take 4 (.take 5 (.all [(6,.take 7 (.take 8 (.take 9 (.all [(10,.all [(11,.take 12 (.done))])])))),(10,.all [(6,.take 7 (.take 8 (.take 9 (.all [(11,.take 12 (.done))]))))])]))))))) ⟨by kernel_rfl,by kernel_rfl⟩ fun K hK=>?_;have hJ:K ⟨ofL [(0,.d (.sh 1 fm0.length (rows lS fm0))),(2,.d (.sh 2 vs.length (rows qS vs))),(3,.d (shI e)),(8,.pt (8,0) [] 0),(10,.int B),(13,.pt (13,0) [] 0),(14,.int i),(15,.int nn),(16,.pt (16,0) [] 0),(17,.bool P.2)],aF [((8,0),some (.bx [D.int 0,.v (.slice none 0 0)])),((13,0),some (.bx [D.int q.v,.ow 3 q.ts.length (rows qtO q.ts)])),((16,0),some (.bx [D.int P.1.v,.ow 3 P.1.ts.length (rows qtO P.1.ts)]))]⟩:=by
     apply hK;clear hK K;show AWp _ _ _ _ _;apply aa;apply aa;refine ab fun K hK=>?_;simp[C.aS];apply hK;clear hK K;show AWp _ _ _ _ _;refine ap _ rfl (fun hc5=>?_) (fun hc5=>?_)
     ·have hbb:P.2=false:=by simpa using hc5
      rw[hbb] at hqg;have hgn:goal=none:=by rw[<-hqg];rfl
      have hno:O=none:=by rw[hor,hgn];rfl
      apply aa;refine ab fun K hK=>?_;simp[C.aS];apply hK;clear hK K;show AWp _ _ _ _ _;apply aI;simp[C.aS];exact OrW.no hno
     ·have hbb:P.2=true:=by simpa using hc5
      rw[if_pos hbb] at hqg;obtain⟨_,_,_,_,_,hr1,hr2,_⟩:=hmok (Prod.ext rfl hbb);apply au;show AWp _ _ _ _ _;refine ab fun K hK=>?_;simp[C.aS];apply hK;clear hK K;show AWp _ _ _ _ _;refine ab fun K hK=>?_;simp[C.aS,ay (show nn < 4611686018427387904 by omega)];apply hK;clear hK K;simp[C.aS];refine cast (congrArg R4 ?_) (hR4 (nn+1,P.1) ⟨by dsimp only;omega,⟨hr1,hr2⟩,by dsimp only;rw[show c.toNat - (nn+1)=t by omega];exact hqg⟩ (by dsimp only;omega));simp
    clear hK;simp[C.aS,hif,gL hif,gJ hif,hff,show (i:Int) < vs.length by omega]
    repeat' first
     | (refine ae (hmul) ?_ (by simp) ?_;(focus (simp[qS,hff];done));simp[C.aS,qO,hff])
     | (refine cast (congrArg K ?_) hJ;simp;done)
     | refine And.intro ?_ ?_
   ·have hpos:c.toNat - nn=0:=by
     have:¬ (nn:Int) < c:=by simpa using hc4
     omega
    rw[hpos] at hqg;have hqg2:gy fm0 (vs.drop (i+1)) (e.drop (i+1)) q=goal:=hqg;apply aZ;show AWp _ _ _ _ _;refine ab fun K hK=>?_;simp[C.aS,ay (show i < 4611686018427387904 by omega)];apply hK;clear hK K;simp[C.aS];exact hR3 (i+1,q) ⟨hi,⟨hqr,hqv⟩,hqg2⟩ (by dsimp only;omega)
  ·have hi:i=e.length:=by have:=d_f hc3;omega
   rw[hi,List.drop_of_length_le (by omega),List.drop_of_length_le (by omega)] at hpg;have hpg2:goal=some p:=by rw[<-hpg];rfl
   rw[hpg2] at hor;have hor2:O=okQ (shT B p):=hor;have hpl:=hpr.2.1;apply aZ;show AWp _ _ _ _ _;apply aa;apply aa;refine ab fun K hK=>?_;simp[C.aS];apply hK;clear hK K;show AWp _ _ _ _ _;apply ak;refine bm (fun x:Nat=>⟨ofL [(8,.pt (8,0) [] 0),(10,.int B),(13,.pt (13,0) [] 0),(18,.int x)],aF [((8,0),some (.bx [D.int 0,.v (.slice none 0 0)])),((13,0),some (.bx [D.int p.v,.ow 3 p.ts.length (rows qtO (iu B p.ts x))]))]⟩) (fun x=>x<=p.ts.length) (fun x=>p.ts.length - x) 0 (by simp[C.aS,nv]) (by simp) ?_;intro x5 hx5 R5 hR5;apply aa;apply aa;refine ab fun K hK=>?_;simp[C.aS];apply hK;clear hK K;show AWp _ _ _ _ _;refine ap _ rfl (fun hc6=>?_) (fun hc6=>?_)
   ·have h5:x5 < p.ts.length:=by have:=d_t hc6;omega
    obtain⟨hm1,hm2⟩:=sY (s:=B) h5;have hms:=tQ (s:=B) h5;have hth:=(hpr.2.2.1 _ (List.getElem_mem h5)).2.2.2.1;obtain⟨tt,htt⟩:∃ z,z=p.ts[x5]:=⟨_,rfl⟩;rw[<-htt] at hm2 hms hth;obtain⟨L5,hL5⟩:∃ z,z=iu B p.ts x5:=⟨_,rfl⟩;have hL5l:L5.length=p.ts.length:=by rw[hL5];exact lM _ _ _ (by omega)
    simp only[<-hL5] at hm1 hm2 hms;rw[<-hL5];have q1:=iP hm1;have q2:=uc hm1 (tt.h+B);rw[hm2] at q1 q2;rw[show (⟨tt.e,tt.h+B,tt.c⟩:Qtm)=sh1 B tt from rfl,hms] at q2;apply au;show AWp _ _ _ _ _;apply aa;apply ak;refine bR [(true,0),(true,1),(true,2),(true,3),(true,4),(true,5),(true,6),(true,7),(true,8),(true,9),(true,10),(true,11),(true,12),(false,13)] ⟨by kernel_rfl,by kernel_rfl⟩ ([0,1,2,3,4,5,6,7,8,9,10,11,12,13]) rfl fun K hK=>?_;refine oEn fun L hL=>?_;simp[C.aS,h5,show (x5:Int) < p.ts.length by omega,q1,aj (x:=tt.h+B) (by omega) (by omega),q2];apply hL;clear hL L;simp[C.aS,h5,show (x5:Int) < p.ts.length by omega,q1,aj (x:=tt.h+B) (by omega) (by omega),q2];apply hK;clear hK K;show AWp _ _ _ _ _;refine ab fun K hK=>?_;simp[C.aS,ay (show x5 < 4611686018427387904 by omega)];apply hK;clear hK K;simp[C.aS];exact hR5 (x5+1) h5 (by omega)
   ·have h5:x5=p.ts.length:=by have:=d_f hc6;omega
    have hsm:=wG (gF hpr) B;have hqk:=cY (shT B p) hsm.1 hsm.2;have hall:=tI B p.ts;obtain⟨U,hU⟩:∃ U,U=shT B p:=⟨_,rfl⟩;have hUts:p.ts.map (sh1 B)=U.ts:=by rw[hU];rfl
    have hUv:U.v=p.v:=by rw[hU];rfl
    have hUl:U.ts.length=p.ts.length:=by rw[<-hUts];simp
    rw[h5,hall,hUts];rw[<-hU] at hqk hsm hor2;simp only[aQ,hUl,hUv] at hqk;have hfin:=OrW.fin hsm hor2;rw[hUl,hUv] at hfin;apply aZ;show AWp _ _ _ _ _;apply aa;refine bR [(true,0),(true,1),(false,2),(false,3),(true,4)] ⟨by kernel_rfl,by kernel_rfl⟩ ([0,1,2] ++ ([3,4])) rfl fun K hK=>?_;refine oSg fun L hL=>?_;simp[C.aS];refine ae (hqk) (by simp[]) (by simp) ?_;simp[C.aS];apply hL;clear hL L;refine oEn fun L hL=>?_;simp[C.aS];apply hL;clear hL L;simp[C.aS];apply hK;clear hK K;show AWp _ _ _ _ _;apply aI;simp[C.aS];exact hfin
set_option maxRecDepth 10000
set_option maxHeartbeats 2000000
theorem Fa {l:List Qtm} {i:Nat} (h:i < l.length):(l.map tT)[i]'(by simpa using h)=tT l[i]:=by simp
theorem nK (l:List Qtm) (n:Nat) (hn8:n<=8) (h0:0 < l.length) (hl:l.length<=1000000) (he:∀ t∈l,t.e.length=n):af Tryz.prog F.bP [.d (.sh 3 l.length (rows qtS l))] [] true (fun outs res=>outs=[]/\res=[.one (owI (dH (l.map tT) n)),.one (owI (c6 (l.map tT) n))]):=by
 have h0e:=he _ (List.getElem_mem h0);have h0':0 < (l.map tT).length:=by simpa using h0
 have he':∀ t∈l.map tT,t.e.length=n:=fun t ht=>by
  obtain⟨u,hu,rfl⟩:=List.mem_map.1 ht;exact he u hu
 have hs1:=uN (l.map tT) n h0' he';have hs2:=Ai (l.map tT) n h0' he';rw[Fa h0] at hs1 hs2;simp only[tT] at hs1 hs2;refine af.ob (C:=C.bP) (n:=Tryz.f170.ntmps) bC bD Tryz.func170 rfl rfl ?_;simp only[Tryz.f170];apply aa;refine ab fun K hK=>?_;simp[C.bP];apply hK;clear hK K;show AWp _ _ _ _ _;apply aa;refine bR [(true,0),(true,1),(true,2),(true,3),(true,5),(true,6),(true,7),(true,8),(false,4),(false,9),(true,10),(true,11)] ⟨by kernel_rfl,by kernel_rfl⟩ ([0,1,2,3,5,6,7,8,4] ++ ([9] ++ ([10,11]))) rfl fun K hK=>?_;refine oSg fun L hL=>?_;simp[C.bP,h0,bI h0];refine ae (iV l[0].e (by omega)) (by simp) (by simp) ?_;simp[C.bP,h0,bI h0];apply hL;clear hL L;refine oSg fun L hL=>?_;simp[C.bP,h0,bI h0];refine ae (iV l[0].e (by omega)) (by simp) (by simp) ?_;simp[C.bP,h0,bI h0];apply hL;clear hL L;refine oEn fun L hL=>?_;simp[C.bP,h0,bI h0];apply hL;clear hL L;simp[C.bP,h0,bI h0];apply hK;clear hK K;show AWp _ _ _ _ _;apply aa;apply aa;refine ab fun K hK=>?_;simp[C.bP];apply hK;clear hK K;show AWp _ _ _ _ _;apply ak;refine bm (fun x:Nat=>⟨ofL [(0,.d (.sh 3 l.length (rows qtS l))),(4,.al (4,0) [] 0 n),(5,.al (5,0) [] 0 n),(6,.int x)],aF [((4,0),some (.ow 1 n (ints (jf (dR (l.map tT)) ((l.map tT).take x) n)))),((5,0),some (.ow 1 n (ints (gT (dR (l.map tT)) ((l.map tT).take x) n))))]⟩) (fun x=>x<=l.length) (fun x=>l.length - x) 0 (by simp[C.bP,hs1,hs2,h0e]) (by simp) ?_;intro x1 hx1 R1 hR1;apply aa;apply aa;refine ab fun K hK=>?_;simp[C.bP];apply hK;clear hK K;show AWp _ _ _ _ _;refine ap _ rfl (fun hc1=>?_) (fun hc1=>?_)
 ·have h1:x1 < l.length:=by have:=d_t hc1;omega
  have h1e:=he _ (List.getElem_mem h1);have h1':x1 < (l.map tT).length:=by simpa using h1
  have htk:(l.map tT).take (x1+1)=(l.map tT).take x1 ++ [tT l[x1]]:=by rw[List.take_succ_eq_append_getElem h1',Fa h1]
  apply au;show AWp _ _ _ _ _;apply aa;apply ak;apply aa;refine ab fun K hK=>?_;simp[C.bP];apply hK;clear hK K;show AWp _ _ _ _ _;apply ak;refine bm (fun x:Nat=>⟨ofL [(0,.d (.sh 3 l.length (rows qtS l))),(4,.al (4,0) [] 0 n),(5,.al (5,0) [] 0 n),(6,.int x1),(7,.int x)],aF [((4,0),some (.ow 1 n (ints ((jf (dR (l.map tT)) ((l.map tT).take (x1+1)) n).take x ++ (jf (dR (l.map tT)) ((l.map tT).take x1) n).drop x)))),((5,0),some (.ow 1 n (ints ((gT (dR (l.map tT)) ((l.map tT).take (x1+1)) n).take x ++ (gT (dR (l.map tT)) ((l.map tT).take x1) n).drop x))))]⟩) (fun x=>x<=n) (fun x=>n - x) 0 (by simp[C.bP]) (by simp) ?_;intro x2 hx2 R2 hR2;apply aa;apply aa;refine ab fun K hK=>?_;simp[C.bP];apply hK;clear hK K;show AWp _ _ _ _ _;refine ap _ rfl (fun hc2=>?_) (fun hc2=>?_)
  ·have h2:x2 < n:=by have:=d_t hc2;omega
   have hge:x2 < l[x1].e.length:=by omega
   have hset1:∃ M:List Int,(jf (dR (l.map tT)) ((l.map tT).take (x1+1)) n).take x2 ++ (jf (dR (l.map tT)) ((l.map tT).take x1) n).drop x2=M/\M.length=n/\∀ h:x2 < M.length,M.set x2 (min M[x2] l[x1].e[x2])=(jf (dR (l.map tT)) ((l.map tT).take (x1+1)) n).take (x2+1) ++ (jf (dR (l.map tT)) ((l.map tT).take x1) n).drop (x2+1):=by
    refine⟨_,rfl,by simp;omega,fun h=>?_⟩;have hg1:=oq (jf (dR (l.map tT)) ((l.map tT).take (x1+1)) n) (jf (dR (l.map tT)) ((l.map tT).take x1) n) x2 (by simpa using h2) (by simp);have hset:=ko (jf (dR (l.map tT)) ((l.map tT).take (x1+1)) n) (jf (dR (l.map tT)) ((l.map tT).take x1) n) x2 (by simpa using h2) (by simp);rw[<-hset];congr 1;rw[tg _ _ _ _ h2] at hg1 ⊢;rw[List.getElem?_eq_getElem h] at hg1;injection hg1 with hg1
    rw[hg1,htk,Dg];simp only[tT];rw[dZ hge]
   have hset2:∃ M:List Int,(gT (dR (l.map tT)) ((l.map tT).take (x1+1)) n).take x2 ++ (gT (dR (l.map tT)) ((l.map tT).take x1) n).drop x2=M/\M.length=n/\∀ h:x2 < M.length,M.set x2 (max M[x2] l[x1].e[x2])=(gT (dR (l.map tT)) ((l.map tT).take (x1+1)) n).take (x2+1) ++ (gT (dR (l.map tT)) ((l.map tT).take x1) n).drop (x2+1):=by
    refine⟨_,rfl,by simp;omega,fun h=>?_⟩;have hg1:=oq (gT (dR (l.map tT)) ((l.map tT).take (x1+1)) n) (gT (dR (l.map tT)) ((l.map tT).take x1) n) x2 (by simpa using h2) (by simp);have hset:=ko (gT (dR (l.map tT)) ((l.map tT).take (x1+1)) n) (gT (dR (l.map tT)) ((l.map tT).take x1) n) x2 (by simpa using h2) (by simp);rw[<-hset];congr 1;rw[xj _ _ _ _ h2] at hg1 ⊢;rw[List.getElem?_eq_getElem h] at hg1;injection hg1 with hg1
    rw[hg1,htk,Dk];simp only[tT];rw[dZ hge]
   obtain⟨M1,m1,m2,m3⟩:=hset1;obtain⟨M2,p1,p2,p3⟩:=hset2;rw[m1,p1];have hM1:x2 < M1.length:=by omega
   have hM2:x2 < M2.length:=by omega
   have m4:=m3 hM1;have p4:=p3 hM2;apply au;show AWp _ _ _ _ _;apply aa;apply ak;apply aa;refine bR [(true,0),(true,1),(true,2),(true,3),(true,4),(true,5),(true,6),(true,7),(true,8),(true,9),(true,10),(true,11),(true,12),(true,13),(true,14),(true,15),(false,16)] ⟨by kernel_rfl,by kernel_rfl⟩ ([0,1,2,3,4,5,6,7,8,9,10,11,12,13,14,15,16]) rfl fun K hK=>?_;refine oEn fun L hL=>?_;simp[C.bP,h1,bI h1,h1e,h2,m2,ao,hM1,cB,jp,m4];apply hL;clear hL L;simp[C.bP,h1,bI h1,h1e,h2,m2,ao,hM1,cB,jp,m4];apply hK;clear hK K;show AWp _ _ _ _ _;refine bR [(true,0),(true,1),(true,2),(true,3),(true,4),(true,5),(true,6),(true,7),(true,8),(true,9),(true,10),(true,11),(true,12),(true,13),(true,14),(true,15),(false,16)] ⟨by kernel_rfl,by kernel_rfl⟩ ([0,1,2,3,4,5,6,7,8,9,10,11,12,13,14,15,16]) rfl fun K hK=>?_;refine oEn fun L hL=>?_;simp[C.bP,h1,bI h1,h1e,h2,p2,ao,hM2,cB,jp,p4];apply hL;clear hL L;simp[C.bP,h1,bI h1,h1e,h2,p2,ao,hM2,cB,jp,p4];apply hK;clear hK K;show AWp _ _ _ _ _;refine ab fun K hK=>?_;simp[C.bP,ay (show x2 < 4611686018427387904 by omega)];apply hK;clear hK K;simp[C.bP];refine cast (congrArg R2 ?_) (hR2 (x2+1) h2 (by omega));simp
  ·have h2:x2=n:=by have:=d_f hc2;omega
   apply aZ;show AWp _ _ _ _ _;refine ab fun K hK=>?_;simp[C.bP,ay (show x1 < 4611686018427387904 by omega)];apply hK;clear hK K;simp[C.bP];refine cast (congrArg R1 ?_) (hR1 (x1+1) h1 (by omega));simp[h2,List.take_of_length_le,List.drop_of_length_le]
 ·have h1:x1=l.length:=by have:=d_f hc1;omega
  apply aZ;show AWp _ _ _ _ _;apply aa;refine ab fun K hK=>?_;simp[C.bP];apply hK;clear hK K;show AWp _ _ _ _ _;apply aI;simp[C.bP,h1,dH,c6,show (l.map tT).take l.length=l.map tT from List.take_of_length_le (by simp)]
end Go.Proofs.YtncfmemhjahpeaaGreat.Ab
