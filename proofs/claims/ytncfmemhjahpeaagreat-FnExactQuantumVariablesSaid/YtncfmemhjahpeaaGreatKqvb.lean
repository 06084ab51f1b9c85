/- Objects leave their places, or are replaced there; maps are written. append: sound, in place and to a new block. append as an operation. copy, ranges over maps, slices held against nil: sound. Slices held against nil; what a callee sees of the arguments. Calls: sound. A call as an operation. All operations, guarded ones, and regions in the order of the text. Regions: in the order of the text, and in any order. Normal states, and code: sound. What a body's end hands out; a call's promise from the body. A call's promise from the body. Steps for proofs of single functions. Rows of cells: lists of structs as trees. What the simplifier may unfold where a function is evaluated. A promise made weaker: empty slices among results and arguments. Matrices, sums, seeds and sessions as trees; numbers written into them one behind the other. From a call's promise to a row: what was there is as it was. No condition. -/
import Derived.Test.YtncfmemhjahpeaaGreatKqva
import Derived.Laws.IdiomRangeMap
import Derived.WalkKit
import Derived.ProofKit
import Derived.OpenShut
set_option linter.unusedVariables false
set_option linter.unusedSimpArgs false
set_option linter.unusedSectionVars false
namespace Go.Proofs.YtncfmemhjahpeaaGreat.Ab
open Go
section
variable {w0 w:World} {fp0:List Nat} {ok0 ok:Nat->Prop} {W:Nat->Value} {n:Nat} {P:Program} {T:TT} {σ:St} {θ:Nat->Value} {ρ:Rn->Value} {φ:Rn->List Nat} {a:Act}
theorem Rel.frame (h:Rel w0 fp0 ok σ θ w ρ φ) {w':World} (hw:∀ b,(∃ q e,σ.rts q=some e/\b∈φ q)->w'.heap[b]? = w.heap[b]?) (hk:∀ b,ok b->w'.heap[b]? = w.heap[b]?) (hs:w.heap.size<=w'.heap.size) (hK:de w0 fp0 w') :
  Rel w0 fp0 ok σ θ w' ρ φ:=by
 have hR:=h.rts_;have hok:∀ b,ok b->ok b/\w'.heap[b]? = w.heap[b]?:=fun b hb=>⟨hb,hk b hb⟩;refine Rel.of_rts (hR.mono hw hok fun b hb=>⟨hb.1,hb.2.1,Nat.lt_of_lt_of_le hb.2.2 hs⟩) (fun t=>?_) (fun b hb=>Nat.lt_of_lt_of_le (h.okb b hb) hs) hK;refine gf (G:=fun r p=>∃ o,σ.obj r p=some o/\fV o) (I:=fun r m p=>σ.rts r=some .itr/\∃ es,σ.obj m p=some (.mp es)) ⟨hok,fun r p o hg ho=>⟨o,ho,.inl (bX o),hR.hdr_mono hw ho⟩⟩ ⟨fun r m p b mb es hi h1 h2 h3 h4=>?_⟩ _ _ (gK _ _ (h.env t)) (h.env t);obtain⟨z1,z2,z3⟩:=h.own r _ h1;simp only[Ow] at z1;obtain⟨b1,m1,s1,x1,l1,y1,y2,y3⟩:=z1;rw[h2] at y1;injection y1 with y1;injection y1 with y1;injection y1 with y1 _ _
 subst y1;obtain⟨hv5,fo5,hat5⟩:=hR.at_ (r:=m) (p:=p) h3;have:=hat5.own;simp only[Ow] at this;obtain⟨m6,en6,cl6,e6,e7,e8⟩:=this;have e9:hv5 = .map (some mb):=by have:=hat5.hdr;rw[h4] at this;injection this with this;exact this.symm
 rw[e9] at e6;injection e6 with e6;injection e6 with e6
 subst e6;have hm:∃ d,σ.rts m=some d:=by
  unfold St.obj at h3;split at h3
  ·rename_i d hd;exact⟨d,hd⟩
  ·simp at h3
 obtain⟨d5,hd5⟩:=hm;exact⟨h1,rfl,hw b ⟨r,_,h1,by rw[y2];simp⟩,h3,by rw[hR.hdr_mono hw h3];exact h4,hw mb ⟨m,d5,hd5,hat5.sub mb (by rw[e7];simp)⟩⟩
theorem o9 {rts:Rn->Option D} {r q:Rn} {p:List Nat} (h:q≠r):eT rts r p q=rts q:=by
 cases p with
 | nil=>simp[eT,dg,h]
 | cons i p=>
  simp only[eT]
  cases rts r
  ·rfl
  ·simp[dg,h]
theorem Rel.takeKill (h:Rel w0 fp0 ok σ θ w ρ φ) {r:Rn} {p:List Nat} {o:D} (ho:σ.obj r p=some o) :
  ∃ hv fo φ',hdr w (ρ r) p=some hv/\Ow w ok o hv fo/\fo.Nodup/\(∀ b∈fo,Bnd w0 fp0 ok w.heap.size b)/\Rel w0 fp0 ok ((σ.take r p).kill r p) θ w ρ φ' /\
   (∀ q e,(σ.take r p).rts q=some e->∀ b∈φ' q,b ∉ fo)/\(∀ q e,(σ.take r p).rts q=some e->∃ e',σ.rts q=some e'/\∀ b∈φ' q,b∈φ q):=by
 obtain⟨hv,fo,φ',h1,h2,h3,h4,h5,h6,h7,h8⟩:=h.rts_.take (r:=r) (p:=p) ho;have et:=(nk σ r p).1;have ee:=(nk σ r p).2;refine⟨hv,fo,φ',h1,h2,h3,h4,?_,fun q e he=>h6 q e (by rw[<-et];exact he),fun q e he=>h8 q e (by rw[<-et];exact he)⟩;have hrk:((σ.take r p).kill r p).rts=eT σ.rts r p:=et;refine Rel.of_rts (by rw[hrk];exact h5) (fun t=>?_) h.okb h.frm;show FR w ok _ ρ (if ((σ.take r p).env t).under r p then .dead else (σ.take r p).env t) (θ t);rw[ee];split
 ·simp[FR]
 ·rename_i hu;refine gf (G:=fun q s=>(∃ o,σ.obj q s=some o/\fV o)/\(q=r->cj p s=false)) (I:=fun q m s=>(σ.rts q=some .itr/\∃ es,σ.obj m s=some (.mp es))/\q≠r/\(m=r->cj p s=false))
   ⟨fun b hb=>⟨hb,rfl⟩,fun q s x hg hx=>?_⟩ ⟨fun q m s b mb es hi g1 g2 g3 g4=>?_⟩ _ _ (nF _ (by simpa using hu) (gK _ _ (h.env t))) (h.env t)
  ·obtain⟨x',k1,k2⟩:=h7 q s x hx hg.2;exact⟨x',by rw[kO,hrk];exact k1,.inl k2,rfl⟩
  ·obtain⟨x',k1,k2⟩:=h7 m s _ g3 hi.2.2;have e:x' = .mp es:=by cases x' <;> simp[cH] at k2;rw[k2]
   subst e;exact⟨by rw[hrk,o9 hi.2.1];exact g1,rfl,rfl,by rw[kO,hrk];exact k1,g4,rfl⟩
mutual
theorem ud {G:Rn->List Nat->Prop} {I:Rn->Rn->List Nat->Prop}:∀ f:FV,f.hasIt=false->f.ats G I->f.ats G (fun _ _ _=>False)
 | .al ..,_,g=>g
 | .cu ..,_,g=>g
 | .pt ..,_,g=>g
 | .ar ..,_,g=>g
 | .mr ..,_,g=>g
 | .it ..,h,_=>by simp[FV.hasIt] at h
 | .ag fs,h,g=>atsL_noIt fs (by simpa[FV.hasIt] using h) g
 | .tu fs,h,g=>atsL_noIt fs (by simpa[FV.hasIt] using h) g
 | .cl _ fs,h,g=>atsL_noIt fs (by simpa[FV.hasIt] using h) g
 | .fb fs _,h,g=>atsL_noIt fs (by simpa[FV.hasIt] using h) g
 | .d _,_,_=>trivial
 | .sp _ _,_,_=>trivial
 | .dead,_,_=>trivial
theorem atsL_noIt {G:Rn->List Nat->Prop} {I:Rn->Rn->List Nat->Prop}:∀ fs:List FV,FV.hasItL fs=false->FV.atsL G I fs->FV.atsL G (fun _ _ _=>False) fs
 | [],_,_=>trivial
 | f :: fs,h,g=>by
  simp only[FV.hasItL,Bool.or_eq_false_iff] at h;exact⟨ud f h.1 g.1,atsL_noIt fs h.2 g.2⟩
end
theorem Rel.dropIt (h:Rel w0 fp0 ok σ θ w ρ φ):Rel w0 fp0 ok σ.dropIt θ w ρ φ/\∀ t,(σ.dropIt.env t).hasIt=false:=by
 refine⟨h.envs fun t=>?_,fun t=>?_⟩
 ·split
  ·simp[FR]
  ·exact h.env t
 ·show (if (σ.env t).hasIt then FV.dead else σ.env t).hasIt=false;split
  ·rfl
  ·rename_i hh;simpa using hh
theorem Rel.replace (h:Rel w0 fp0 ok σ θ w ρ φ) {r:Rn} {p:List Nat} {o o':D} {hv:Value} {fo fo':List Nat} {w':World} (ho:σ.obj r p=some o) (hat:At w ok σ.rts ρ φ r p o hv fo) (hn:fo'.Nodup) (hf:∀ b∈fo',b∈fo)
  (hw:∀ b,b < w.heap.size->b ∉ fo->w'.heap[b]? = w.heap[b]?) (hs:w.heap.size<=w'.heap.size) (hK:de w0 fp0 w') (ho':Ow w' ok o' hv fo') (hk:zK o o') (hsub:∀ s x,s≠[]->bw o s=some x->¬ fV x)
  (hit:∀ t,(σ.env t).hasIt=false):∃ φ',Rel w0 fp0 ok (σ.put r p o') θ w' ρ φ':=by
 have ho2:=ho;unfold St.obj at ho;split at ho
 ·rename_i d hd;have hfb:∀ b∈fo,Bnd w0 fp0 ok w.heap.size b:=fun b hb=>(h.own r d hd).2.2 b (hat.sub b hb);have hwo:∀ b,b ∉ fo->(∃ q e,σ.rts q=some e/\b∈φ q)->w'.heap[b]? = w.heap[b]?:=fun b hb ⟨q,e,he,hq⟩=>hw b ((h.own q e he).2.2 b hq).2.2 hb;have hok:∀ b,ok b->ok b/\w'.heap[b]? = w.heap[b]?:=fun b hb=>⟨hb,hw b (h.okb b hb) fun hh=>(hfb b hh).1 hb⟩;obtain⟨φ',r1,r2,r3,r4,r5,r6,r7⟩:=h.rts_.replace (w':=w') (ok':=ok) (B':=Bnd w0 fp0 ok w'.heap.size) hd ho hat hwo hok ho' hn (fun b hb=>.inl (hf b hb))
   (fun b hb=>⟨(hfb b (hf b hb)).1,(hfb b (hf b hb)).2.1,Nat.lt_of_lt_of_le (hfb b (hf b hb)).2.2 hs⟩) (fun b _ hb=>⟨hb.1,hb.2.1,Nat.lt_of_lt_of_le hb.2.2 hs⟩)
  have ep:(σ.put r p o').rts=dg σ.rts r (some (c5 d p o')):=by
   simp only[St.put,hd];rfl
  have ee:(σ.put r p o').env=σ.env:=by
   simp only[St.put,hd]
  refine⟨φ',Rel.of_rts (by rw[ep];exact r1) (fun t=>?_) (fun b hb=>Nat.lt_of_lt_of_le (h.okb b hb) hs) hK⟩;rw[ee];refine gf (G:=fun q s=>∃ o,σ.obj q s=some o/\fV o) (I:=fun _ _ _=>False) ⟨hok,fun q s x hg hx=>?_⟩ ⟨fun q m s b mb es hi=>hi.elim⟩ _ _ (ud _ (hit t) (gK _ _ (h.env t))) (h.env t)
  by_cases hq:q=r
  ·subst hq
   cases hpre:cj p s with
   | false=>
    have hx':dn σ.rts q s=some x:=hx;obtain⟨k1,x',k2,k3⟩:=r5 s x hx' hpre;exact⟨x',by simp only[St.obj,ep,dg,if_true];exact k2,.inl k3,k1⟩
   | true=>
    obtain⟨t',rfl⟩:=fg hpre;have hlook:bw o t'=some x:=by
     unfold St.obj at hx;rw[hd] at hx;simp only[ii,ho,Option.bind_some] at hx;exact hx
    cases t' with
    | nil=>
     simp only[bw,Option.some.injEq] at hlook;subst hlook;rw[List.append_nil];refine⟨o',?_,hk,by rw[r4,hat.hdr]⟩;have:=r6 [];rw[List.append_nil] at this;simp only[St.obj,ep,dg,if_true,this,bw]
    | cons i t'=>
     obtain⟨x2,hx2,hob⟩:=hg;rw[hx] at hx2;injection hx2 with hx2;subst hx2;exact absurd hob (hsub _ _ (by simp) hlook)
  ·exact⟨x,by simp only[St.obj,ep,dg,if_neg hq];exact hx,.inl (bX x),r7 q s x hq hx⟩
 ·simp at ho
def fD (w:World) (b:Nat) (o:Obj):World:={ w with heap:=w.heap.setIfInBounds b o }
theorem nb {α β:Type} (f:α->β):∀ (l:List α) (j:Nat),(l.eraseIdx j).map f=(l.map f).eraseIdx j
 | [],_=>by simp
 | _ :: _,0=>by simp
 | a :: r,j+1=>by simp[nb f r j]
theorem jb {w:World} {m:Nat} {o':Obj}:(∀ b,b≠m->(fD w m o').heap[b]? = w.heap[b]?)/\(fD w m o').heap.size=w.heap.size:=by
 refine⟨fun b hb=>?_,by simp[fD]⟩;simp only[fD];rw[Array.getElem?_setIfInBounds_ne (Ne.symm hb)]
theorem xh {w:World} {m:Nat} {o o':Obj} (h:w.heap[m]? = some o):(fD w m o').heap[m]? = some o':=by
 have:=(Array.getElem?_eq_some_iff.1 h).1;simp[fD,this]
theorem si (h:Stx w0 fp0 ok0 W n σ a w ok θ ρ φ) {r:Rn} {p:List Nat} {es es':List (List Int×Int)} {m:Nat} {en en':Array MapEntry} {cl cl':Nat} (ho:σ.obj r p=some (.mp es)) (hh:hdr w (ρ r) p=some (.map (some m)))
  (hm:jW w m es en cl) (hm':∀ w',w'.heap[m]? = some (.map en' cl')->jW w' m es' en' cl'):∃ φ',Stx w0 fp0 ok0 W n (σ.dropIt.put r p (.mp es')) a (fD w m (.map en' cl')) ok θ ρ φ':=by
 obtain⟨hd,hit⟩:=h.rel.dropIt;obtain⟨hv,fo,hat⟩:=hd.rts_.at_ (r:=r) (p:=p) ho;have e6:hv = .map (some m):=by have:=hat.hdr;rw[hh] at this;injection this with this;exact this.symm
 subst e6;have hown:=hat.own;simp only[Ow] at hown;obtain⟨m',en2,cl2,e7,e8,_⟩:=hown;injection e7 with e7;injection e7 with e7
 subst e7;have hblk:=xh (o':=.map en' cl') hm.at_;have hbm:(m∈fp0\/w0.heap.size<=m):=by
  have ho2:=ho;unfold St.obj at ho2;split at ho2
  ·rename_i d hd2;exact ((h.rel.own r d hd2).2.2 m (hat.sub m (by rw[e8];simp))).2.1
  ·simp at ho2
 obtain⟨φ',h2⟩:=hd.replace (fo':=[m]) (o':=.mp es') (w':=fD w m (.map en' cl')) ho hat (by simp) (by rw[e8];exact fun _ h=>h)
  (fun b _ hb=>jb.1 b (by rw[e8] at hb;simpa using hb)) (by rw[jb.2];exact Nat.le_refl _)
  ⟨h.rel.frm.os,h.rel.frm.out,h.rel.frm.tape,h.rel.frm.drawn,by rw[jb.2];exact h.rel.frm.size,fun b hb hn=>by
   rw[jb.1 b (by rintro rfl;rcases hbm with hbm | hbm;exact hn hbm;omega)];exact h.rel.frm.old b hb hn⟩
  (by simp only[Ow];exact⟨m,en',cl',rfl,rfl,hm' _ hblk⟩) (.inr ⟨es,es',rfl,rfl⟩)
  (fun s x hs hx=>by
   cases s with
   | nil=>exact absurd rfl hs
   | cons i s=>simp[bw,D.cells?] at hx) hit
 exact⟨φ',h2,h.th,h.oks,h.okn,h.dfr,h.sz⟩
theorem C9 {es:List (List Int×Int)} {en:Array MapEntry} (h:en.toList.map (fun e=>(e.key,e.val))=es.map fun x=>(eO x.1,Value.int .i64 x.2)) {j:Nat} {x:List Int×Int} (hx:es[j]? = some x) :
  ∃ e,en.toList[j]? = some e/\e.key=eO x.1/\e.val = .int .i64 x.2:=by
 have:=congrArg (·[j]?) h;simp only[List.getElem?_map,hx,Option.map_some] at this
 cases he:en.toList[j]? with
 | none=>simp[he] at this
 | some e=>
  simp only[he,Option.map_some,Option.some.injEq,Prod.mk.injEq] at this;exact⟨e,rfl,this.1,this.2⟩
theorem p5 (m:Nat):∀ (k:List Int),((k.map (Value.int .i64)).zip (k.map (Value.int .i64))).all (fun x=>Instr.sameBits m x.1 x.2)=true
 | []=>rfl
 | n :: k=>by
  simp only[List.map_cons,List.zip_cons_cons,List.all_cons,p5 m k,Bool.and_true]
  cases m <;> simp[Instr.sameBits]
theorem zy (k:List Int):Instr.sameBits 10000 (eO k) (eO k)=true:=by
 unfold eO;show Instr.sameBits (9999+1) _ _=true;simp only[Instr.sameBits,beq_self_eq_true,Bool.true_and];exact p5 9999 k
theorem BK {m:Nat} {es:List (List Int×Int)} {en:Array MapEntry} {cl:Nat} (h:jW w m es en cl) {k:List Int} {c:Int} (hk:∀ x∈es,x.1≠k) (w':World) (hw:w'.heap[m]? = some (.map (en.push { key:=eO k,val:=.int .i64 c,born:=cl }) (cl+1))) :
  jW w' m (es ++ [(k,c)]) (en.push { key:=eO k,val:=.int .i64 c,born:=cl }) (cl+1):=by
 refine⟨hw,by simp[h.kv],fun e he=>?_,?_,?_⟩
 ·simp only[Array.toList_push,List.mem_append,List.mem_singleton] at he;rcases he with he | rfl
  ·have:=h.born e he;omega
  ·simp
 ·simp only[Array.toList_push,List.map_append,List.map_cons,List.map_nil];rw[List.nodup_append];refine⟨h.uniq,by simp,fun x hx y hy=>?_⟩;simp only[List.mem_singleton] at hy;subst hy;obtain⟨e,he,rfl⟩:=List.mem_map.1 hx;have:=h.born e he;omega
 ·simp only[List.map_append,List.map_cons,List.map_nil];rw[List.nodup_append];refine⟨h.keys,by simp,fun x hx y hy=>?_⟩;simp only[List.mem_singleton] at hy;subst hy;obtain⟨e,he,rfl⟩:=List.mem_map.1 hx;exact hk e he
theorem qm {α β:Type} (f:α->β) {l:List α} {j:Nat} {x y:α} (h:l[j]? = some x) (e:f y=f x):(l.set j y).map f=l.map f:=by
 apply List.ext_getElem?;intro i;rw[List.getElem?_map,List.getElem?_map,List.getElem?_set];split
 ·rename_i hi;subst hi;split
  ·simp[h,e]
  ·rename_i hlt;rw[List.getElem?_eq_none (by omega)] at h;simp at h
 ·rfl
theorem Dh {m:Nat} {es:List (List Int×Int)} {en:Array MapEntry} {cl:Nat} (h:jW w m es en cl) {k:List Int} {c:Int} {j:Nat} {x:List Int×Int} (hx:es[j]? = some x) (hk:x.1=k) (w':World)
  (hw:w'.heap[m]? = some (.map (en.modify j fun e=>{ e with key:=eO k,val:=.int .i64 c }) cl)) :
  jW w' m (es.set j (k,c)) (en.modify j fun e=>{ e with key:=eO k,val:=.int .i64 c }) cl:=by
 obtain⟨e,he,e1,e2⟩:=C9 h.kv hx;have hlt:j < en.toList.length:=by
  rcases Nat.lt_or_ge j en.toList.length with h' | h'
  ·exact h'
  ·rw[List.getElem?_eq_none h'] at he;simp at he
 have hen:(en.modify j fun e=>({ e with key:=eO k,val:=.int .i64 c }:MapEntry)).toList=en.toList.set j { e with key:=eO k,val:=.int .i64 c }:=by
  apply List.ext_getElem?;intro i;rw[Array.getElem?_toList,Array.getElem?_modify,List.getElem?_set]
  by_cases hi:j=i
  ·subst hi;rw[if_pos rfl,if_pos rfl,if_pos hlt,<-Array.getElem?_toList,he];rfl
  ·rw[if_neg hi,if_neg hi,Array.getElem?_toList]
 refine⟨hw,?_,fun e' he'=>?_,?_,?_⟩
 ·rw[hen,List.map_set,h.kv,List.map_set]
 ·rw[hen] at he';rcases List.mem_or_eq_of_mem_set he' with h' | rfl
  ·exact h.born e' h'
  ·exact h.born e (List.mem_of_getElem? he)
 ·rw[hen,qm (x:=e) (y:={ e with key:=eO k,val:=.int .i64 c }) (fun e:MapEntry=>e.born) he rfl];exact h.uniq
 ·rw[qm _ hx hk.symm];exact h.keys
theorem Aj {m:Nat} {es:List (List Int×Int)} {en:Array MapEntry} {cl:Nat} (h:jW w m es en cl) {j:Nat} (w':World) (hw:w'.heap[m]? = some (.map (en.eraseIdxIfInBounds j) cl)) :
  jW w' m (es.eraseIdx j) (en.eraseIdxIfInBounds j) cl:=by
 have hen:(en.eraseIdxIfInBounds j).toList=en.toList.eraseIdx j:=by
  simp only[Array.eraseIdxIfInBounds];split
  ·rw[Array.toList_eraseIdx]
  ·rename_i hlt;rw[List.eraseIdx_of_length_le (by simpa using hlt)]
 refine⟨hw,?_,fun e he=>?_,?_,?_⟩
 ·rw[hen,nb,h.kv,nb]
 ·rw[hen] at he;exact h.born e ((List.eraseIdx_sublist _ _).subset he)
 ·rw[hen];exact h.uniq.sublist ((List.eraseIdx_sublist _ _).map _)
 ·exact h.keys.sublist ((List.eraseIdx_sublist _ _).map _)
theorem zZ {C:Ctx} (hT:cT C.P C.T=true) {o:Oper} (ho:cU n o=true) {t:Nat} {x y z:Operand} (hop:o.op = .mapUpdate t x y z) {K:St->Prop} (hk:rZ C o.dst t (opv σ x) (opv σ y) (opv σ z) σ K)
  (h:Stx w0 fp0 ok0 W n σ a w ok θ ρ φ):eH C.P o a w K (Ste w0 fp0 ok0 W n):=by
 unfold rZ at hk;split at hk
 ·rename_i sz r p fs c ht hx hy hz;split at hk
  ·rename_i es key hes hkey;obtain⟨hl,hml,hk⟩:=hk;have hxv:=h.ops ho x (by rw[hop];simp[Op.operands]);have hyv:=h.ops ho y (by rw[hop];simp[Op.operands]);have hzv:=h.ops ho z (by rw[hop];simp[Op.operands]);rw[hx] at hxv;rw[hy] at hyv;rw[hz] at hzv;obtain⟨k,e,ki,ei,hki,hei,hu0,hf,ha,hs,_,_⟩:=(vG hT ht).out;obtain⟨m,en,cl,hm1,hm2,hm3⟩:=qW h.rel hes hxv;have hyk:=rI hkey hyv;subst hs;have hfind:=n7 hT hki hf ha hl hml hm2.kv w;rcases mh key c es 0 with ⟨h1,_,h3,_,h5⟩ | ⟨j,xx,h1,h2,h3,_,h5,_⟩
   ·rw[h1] at hfind;have hrun:(execOp a.eval o).run C.P w = .ok .skip (fD w m (.map (en.push { key:=eO key,val:=.int .i64 c,born:=cl }) (cl+1))):=by
     simp[execOp,hop,hm1,hyk,eI hzv,Instr.mapUpdate,run_underlying hu0,MapKept.run_getObj_map hm2.at_,l3 hT hki hf ha hl,hfind,MapKept.run_setObj_map _ hm2.at_,fD]
    obtain⟨φ',h6⟩:=si h (es':=iS key c es) hes hm3 hm2 (fun w' hw'=>by rw[h3];exact BK hm2 h5 w' hw');obtain⟨θ2,h7⟩:=h6.put (dst:=o.dst) (dc ho) (f:=.dead) (v:=undef) (by simp[FR]);exact nt hrun hk ⟨_,_,_,_,h7⟩
   ·rw[h1] at hfind;obtain⟨e',he',e1,e2⟩:=C9 hm2.kv h2;have hj:en[0+j]? = some e':=by rw[Nat.zero_add];simpa using he'
    have hkt:(Instr.keyThatStays e'.key (eO key)).run C.P w = .ok (eO key) w:=by
     rw[e1,h3];simp[Instr.keyThatStays,zy]
    have hrun:(execOp a.eval o).run C.P w = .ok .skip (fD w m (.map (en.modify j fun e=>{ e with key:=eO key,val:=.int .i64 c }) cl)):=by
     simp only[execOp,hop,hm1,hyk,eI hzv,Instr.mapUpdate,Sem.run_bind,run_underlying hu0,Result.andThen_ok,MapKept.run_getObj_map hm2.at_,l3 hT hki hf ha hl,hfind,hj,Option.map_some,Option.getD_some,hkt,MapKept.run_setObj_map _ hm2.at_,Sem.run_pure];rw[Nat.zero_add];rfl
    obtain⟨φ',h6⟩:=si h (es':=iS key c es) hes hm3 hm2 (fun w' hw'=>by rw[h5];exact Dh hm2 h2 h3 w' hw');obtain⟨θ2,h7⟩:=h6.put (dst:=o.dst) (dc ho) (f:=.dead) (v:=undef) (by simp[FR]);exact nt hrun hk ⟨_,_,_,_,h7⟩
  ·exact hk.elim
 ·exact hk.elim
theorem zF {C:Ctx} (hT:cT C.P C.T=true) {o:Oper} (ho:cU n o=true) {c:Call} {t t':Nat} {x y:Operand} (hop:o.op = .call c) (hcb:c.callee = .builtin .delete) (hargs:c.args.toList=[x,y]) (htys:c.argTypes.toList=[t,t']) {K:St->Prop}
  (hk:rW C o.dst t (opv σ x) (opv σ y) σ K) (h:Stx w0 fp0 ok0 W n σ a w ok θ ρ φ):eH C.P o a w K (Ste w0 fp0 ok0 W n):=by
 have hargs':c.args = #[x,y]:=by rw[<-Array.toList_inj];exact hargs
 have htys':c.argTypes = #[t,t']:=by rw[<-Array.toList_inj];exact htys
 unfold rW at hk;split at hk
 ·rename_i sz r p fs ht hx hy;split at hk
  ·rename_i es key hes hkey;obtain⟨hl,hml,hk⟩:=hk;have hxv:=h.ops ho x (by rw[hop];simp[Op.operands,Call.operands,hcb,hargs']);have hyv:=h.ops ho y (by rw[hop];simp[Op.operands,Call.operands,hcb,hargs']);rw[hx] at hxv;rw[hy] at hyv;obtain⟨k,e,ki,ei,hki,hei,hu0,hf,ha,hs,_,_⟩:=(vG hT ht).out;obtain⟨m,en,cl,hm1,hm2,hm3⟩:=qW h.rel hes hxv;have hyk:=rI hkey hyv;subst hs;have hfind:=n7 hT hki hf ha hl hml hm2.kv w;rcases mh key 0 es 0 with ⟨h1,_,_,h3,h5⟩ | ⟨j,xx,h1,h2,h3,_,_,h5⟩
   ·rw[h1] at hfind;have hrun:(execOp a.eval o).run C.P w = .ok (.value (.tuple #[])) (fD w m (.map en cl)):=by
     simp[execOp,hop,resolve,hcb,hargs',htys',invoke,builtin,hm1,hyk,Builtin.delete_,run_underlying hu0,MapKept.run_getObj_map hm2.at_,l3 hT hki hf ha hl,hfind,MapKept.run_setObj_map _ hm2.at_,fD]
    obtain⟨φ',h6⟩:=si h (es':=iL key es) hes hm3 hm2 (fun w' hw'=>by rw[h3];exact⟨hw',hm2.kv,hm2.born,hm2.uniq,hm2.keys⟩);obtain⟨θ2,h7⟩:=h6.put (dst:=o.dst) (dc ho) (f:=.tu []) (v:=.tuple #[]) (by simp[FR,FRL]);exact c8 hrun hk ⟨_,_,_,_,h7⟩
   ·rw[h1] at hfind;have hrun:(execOp a.eval o).run C.P w = .ok (.value (.tuple #[])) (fD w m (.map (en.eraseIdxIfInBounds j) cl)):=by
     simp[execOp,hop,resolve,hcb,hargs',htys',invoke,builtin,hm1,hyk,Builtin.delete_,run_underlying hu0,MapKept.run_getObj_map hm2.at_,l3 hT hki hf ha hl,hfind,MapKept.run_setObj_map _ hm2.at_,fD]
    obtain⟨φ',h6⟩:=si h (es':=iL key es) hes hm3 hm2 (fun w' hw'=>by rw[h5];exact Aj hm2 w' hw');obtain⟨θ2,h7⟩:=h6.put (dst:=o.dst) (dc ho) (f:=.tu []) (v:=.tuple #[]) (by simp[FR,FRL]);exact c8 hrun hk ⟨_,_,_,_,h7⟩
  ·exact hk.elim
 ·exact hk.elim
theorem oL {b:Nat}:∀ (vs:List Value) (i:Nat) (w:World) (arr:Array Value) (T:Nat),w.heap[b]? = some (.cells arr T (0,0))->i+vs.length<=arr.size->(∀ v∈vs,v.oneCell'=true) ->
  ∃ w' arr',(storeCells ⟨b,0,none⟩ vs i).run P w = .ok () w'/\w'.heap[b]? = some (.cells arr' T (0,0))/\arr'.size=arr.size/\(∀ (j:Nat) (v:Value),vs[j]? = some v->arr'[i+j]? = some v)/\(∀ j,j < i->arr'[j]? = arr[j]?) /\
   (∀ c,c≠b->w'.heap[c]? = w.heap[c]?)/\w'.heap.size=w.heap.size/\w'.os=w.os/\w'.output=w.output/\w'.tape=w.tape/\w'.drawn=w.drawn
 | [],i,w,arr,T,hb,hl,h1=>⟨w,arr,by simp[storeCells],hb,rfl,by simp,fun _ _=>rfl,fun _ _=>rfl,rfl,rfl,rfl,rfl,rfl⟩
 | v :: vs,i,w,arr,T,hb,hl,h1=>by
  simp only[List.length_cons] at hl;have hc:w.cell? ⟨b,i,none⟩ = some (arr[i]'(by omega)):=by
   simp[World.cell?,hb]
  have hf:w.frozen? ⟨b,i,none⟩ = false:=mw hb;have hb1:(w.setCell ⟨b,i,none⟩ v).heap[b]? = some (.cells (arr.setIfInBounds i v) T (0,0)):=by
   simp[World.setCell,Array.getElem?_modify,hb]
  obtain⟨w',arr',k1,k2,k3,k4,k5,k6,k7,k8,k9,k10,k11⟩:=oL vs (i+1) (w.setCell ⟨b,i,none⟩ v) _ T hb1 (by simp;omega) (fun u hu=>h1 u (List.mem_cons_of_mem _ hu));refine⟨w',arr',?_,k2,by rw[k3];simp,fun j u hj=>?_,fun j hj=>?_,fun c hcb=>?_,by rw[k7];simp,by rw[k8];rfl,by rw[k9];rfl,by rw[k10];rfl,by rw[k11];rfl⟩
  ·simp only[storeCells,Sem.run_bind,eE,Nat.zero_add];rw[run_store P w _ v .plain (h1 v (List.mem_cons_self ..))];simp only[hc,hf,Bool.false_eq_true,if_false,Result.andThen_ok];exact k1
  ·cases j with
   | zero=>
    simp only[List.getElem?_cons_zero,Option.some.injEq] at hj;subst hj;rw[Nat.add_zero,k5 i (by omega),Array.getElem?_setIfInBounds];rw[if_pos rfl,if_pos (by omega)]
   | succ j=>
    simp only[List.getElem?_cons_succ] at hj;have:=k4 j u hj
    rwa [show i+1+j=i+(j+1) by omega] at this
  ·rw[k5 j (by omega),Array.getElem?_setIfInBounds_ne (by omega)]
  ·rw[k6 c hcb,Go.RowKit.Below.heap_setCell w ⟨b,i,none⟩ v c hcb]
theorem Ca {f:FV} {v:Value} (hf:qU f=true) (h:FR w ok σ ρ f v):v.oneCell'=true:=by
 cases f with
 | d x=>
  simp only[FR] at h;exact pF hf h
 | al r p lo n'=>
  simp only[FR] at h;obtain⟨k,N,cs,hv,_,_,_,g4⟩:=h;rcases g4 with ⟨_,a',N',c',_,e5⟩ | ⟨_,b',o',N',c',_,_,⟨_,e5⟩ | ⟨_,_,_,e5⟩⟩ <;> (subst e5;rfl)
 | pt r p off=>
  simp only[FR] at h;obtain⟨o,cs,hv,b,q,_,_,_,_,e5⟩:=h;subst e5;rfl
 | _=>simp[qU] at hf
theorem sV:∀ {fs:List FV} {vs:List Value},fs.all qU=true->FRL w ok σ ρ fs vs->∀ v∈vs,v.oneCell'=true
 | [],vs,_,h=>by
  simp only[FRL] at h;subst h;simp
 | f :: fs,vs,hf,h=>by
  simp only[List.all_cons,Bool.and_eq_true] at hf;simp only[FRL] at h;obtain⟨u,us,rfl,h1,h2⟩:=h;intro v hv;rcases List.mem_cons.1 hv with rfl | hv
  ·exact Ca hf.1 h1
  ·exact sV hf.2 h2 v hv
theorem Dp {C:Ctx} (hT:cT C.P C.T=true) (hz:C.nW=0->fp0=[]) {o:Oper} (ho:cU n o=true) {t d:Nat} {x y:Operand} (hop:o.op = .store t x y) (hx:x = .tmp d) {K:St->Prop} (hk:BS C o.dst t d (opv σ y) σ K)
  (h:Stx w0 fp0 ok0 W n σ a w ok θ ρ φ):eH C.P o a w K (Ste w0 fp0 ok0 W n):=by
 unfold BS at hk;split at hk
 ·rename_i i r hi henv;split at hk
  ·rename_i cs hrts;obtain⟨hnw,hw,hal,hl,hcl,hun,hk⟩:=hk;have hfp:=hz hnw;subst hx;have hxv:=h.ops ho (.tmp d) (by rw[hop];simp[Op.operands]);have hyv:=h.ops ho y (by rw[hop];simp[Op.operands]);have henv2:opv σ (.tmp d) = .pt r [] 0:=henv;rw[henv2] at hxv;simp only[FR] at hxv;obtain⟨ob,cs',hv',b',q',g1,g2,g3,g4,g5⟩:=hxv;have hcs:=ja h.rel hw hyv;have hlen:=fu hcs;rw[hl,Array.length_toList] at hlen;have hone:=sV hal hcs;have hobj:σ.obj r []=some (.bx cs):=by simp[St.obj,hrts,bw]
   obtain⟨hv,fo,φ1,t1,t2,t3,t4,t5,t6,t7⟩:=h.rel.takeKill hobj;have hvr:hv=ρ r:=by simpa[hdr] using t1.symm
   have hvr':hv'=ρ r:=by simpa[hdr] using g3.symm
   subst hvr;simp only[Ow] at t2;obtain⟨b,arr,T,fp',e1,e2,e3,e4,_⟩:=t2;rw[hvr',e1] at g4;injection g4 with g4
   injection g4 with g4 g4'
   subst g4;subst g4';have hbfo:b∈fo:=by rw[e2];simp
   have hbnd:=t4 b hbfo;have hbn:w0.heap.size<=b:=by
    rcases hbnd.2.1 with hh | hh
    ·rw[hfp] at hh;simp at hh
    ·exact hh
   obtain⟨w',arr',k1,k2,k3,k4,_,k6,k7,k8,k9,k10,k11⟩:=oL (P:=C.P) (a.eval y).cells.toList 0 w arr T e3 (by rw[Array.length_toList,Nat.zero_add];omega) hone;have hrun:(execOp a.eval o).run C.P w = .ok .skip w':=by
    simp only[Nat.zero_add] at g5;simp[execOp,hop,g5,Instr.storeAt,Instr.sureAddr,storeVar,(b9 hT hi).size,hlen,k1]
   have hKp:de w0 fp0 w':=⟨by rw[k8];exact h.rel.frm.os,by rw[k9];exact h.rel.frm.out,by rw[k10];exact h.rel.frm.tape,by rw[k11];exact h.rel.frm.drawn,by rw[k7];exact h.rel.frm.size,fun c hc hcn=>by rw[k6 c (by omega)];exact h.rel.frm.old c hc hcn⟩;have mk:∀ {τ:St} {θτ:Nat->Value} {φτ:Rn->List Nat},Rel w0 fp0 ok τ θτ w ρ φτ->(∀ q e,τ.rts q=some e->∀ c∈φτ q,c ∉ fo)->Rel w0 fp0 (fun c=>ok c\/c=b) τ θτ w' ρ φτ:=by
    intro τ θτ φτ hR hdis;have hne:∀ q e,τ.rts q=some e->∀ c∈φτ q,c≠b:=fun q e he c hc hcb=>hdis q e he c hc (hcb ▸ hbfo);have h2:=hR.frame (w':=w') (fun c ⟨q,e,he,hc⟩=>k6 c (hne q e he c hc)) (fun c hc=>k6 c (fun hh=>hbnd.1 (hh ▸ hc))) (by rw[k7];exact Nat.le_refl _) hKp;exact h2.grow' (fun c hc=>.inl hc) (fun c hc=>by
     rcases hc with hc | hc
     ·exact h2.okb c hc
     ·rw[hc,k7];exact hbnd.2.2) (fun q e he c hc hh=>by
     rcases hh with hh | hh
     ·exact ((h2.own q e he).2.2 c hc).1 hh
     ·exact hne q e he c hc hh)
   have h2:=mk t5 t6
   -- the atoms in the new state
   have hvia:FR w ok σ ρ (.tu (opv σ y).atoms) (.tuple (a.eval y).cells.toList.toArray):=by simp only[FR];exact⟨_,rfl,by simpa using hcs⟩
   have hR0:=h.rel.via hvia;obtain⟨hv2,fo2,φ2,s1,s2,s3,s4,s5,s6,s7⟩:=hR0.takeKill (r:=r) (p:=[]) (o:=.bx cs) (by simp[St.obj,hrts,bw]);have hfo2:fo2=fo:=by
    have e5:hv2=ρ r:=by simpa[hdr] using s1.symm
    obtain⟨hv3,fo3,hat⟩:=h.rel.rts_.at_ (r:=r) (p:=[]) (o:=.bx cs) hobj;have q1:=fY _ _ _ _ (e5 ▸ s2) (show Ow w ok (.bx cs) (ρ r) fo by
     simp only[Ow];exact⟨b,arr,T,fp',e1,e2,e3,e4,by assumption⟩)
    exact q1
   have h4:=(mk s5 (by rw[<-hfo2];exact s6)).env 0;have h5:FR w' (fun c=>ok c\/c=b) ((σ.take r []).kill r []) ρ (.tu (opv σ y).atoms) (.tuple (a.eval y).cells.toList.toArray):=by
    have e6:(((({ σ with env:=fun _=>FV.tu (opv σ y).atoms }:St).take r []).kill r []).env 0) = .tu (opv σ y).atoms:=by
     show (if (FV.tu (opv σ y).atoms).under r [] then FV.dead else FV.tu (opv σ y).atoms)=_;rw[show (FV.tu (opv σ y).atoms).under r []=false from hun];rfl
    rw[e6] at h4;exact iR (σ1:=(({ σ with env:=fun _=>FV.tu (opv σ y).atoms }:St).take r []).kill r []) (σ2:=(σ.take r []).kill r []) rfl _ _ h4
   have hf:FR w' (fun c=>ok c\/c=b) ((σ.take r []).kill r []) ρ (.fb (opv σ y).atoms 0) (.pointer (some ⟨b,0,none⟩)):=by
    simp only[FR] at h5 ⊢;obtain⟨us,e7,h6⟩:=h5;injection e7 with e7
    subst e7;refine⟨b,(a.eval y).cells.toList,rfl,.inr rfl,fun j v hj=>?_,by simpa using h6⟩;have:=k4 j v hj;rw[Nat.zero_add] at this;simpa[World.cell?,k2] using this
   have h7:=h2.upd (t:=d) hf;have hs':Stx w0 fp0 ok0 W n { ((σ.take r []).kill r []) with env:=upd ((σ.take r []).kill r []).env d (.fb (opv σ y).atoms 0) } a w' (fun c=>ok c\/c=b) (upd θ d (.pointer (some ⟨b,0,none⟩))) ρ φ1:=by
    refine⟨h7,?_,fun c hc=>.inl (h.oks c hc),fun c hc=>?_,h.dfr,h.sz⟩
    ·have hd:upd θ d (.pointer (some ⟨b,0,none⟩))=θ:=by
      funext s;simp only[Ab.upd];split
      ·rename_i hsd;subst hsd;have hdn:s < n:=by
        have:=ho;simp only[cU,Bool.and_eq_true,List.all_eq_true] at this;have h9:=this.1 (.tmp s) (by rw[hop];simp[Op.operands]);simpa[iB] using h9
       have h8:=h.th.1 s (Nat.lt_of_lt_of_le hdn (by rw[<-h.sz];exact h.th.2.2));rw[h8];have:a.eval (.tmp s) = .pointer (some ⟨b,0+0,none⟩):=g5;exact this.symm
      ·rfl
     rw[hd];exact h.th
    ·rcases hc with hc | hc
     ·exact h.okn c hc
     ·rw[hc];exact .inr hbn
   obtain⟨θ2,h9⟩:=hs'.put (dst:=o.dst) (dc ho) (f:=.dead) (v:=undef) (by simp[FR]);exact nt hrun hk ⟨_,_,_,_,h9⟩
  ·exact hk.elim
 ·exact hk.elim
end
end Go.Proofs.YtncfmemhjahpeaaGreat.Ab
namespace Go.Proofs.YtncfmemhjahpeaaGreat.Ab
open Go
section
variable {w0 w:World} {fp0:List Nat} {ok0 ok:Nat->Prop} {W:Nat->Value} {n:Nat} {P:Program} {T:TT} {σ:St} {θ:Nat->Value} {ρ:Rn->Value} {φ:Rn->List Nat} {a:Act}
theorem lD {b:Nat}:∀ {cs:List D} {o:Nat} {fp:List Nat},OwL w ok b cs o fp->∃ us:List Value,us.length=cs.length/\(∀ (j:Nat) (v:Value),us[j]? = some v->w.cell? ⟨b,o+j,none⟩ = some v)/\bO w ok cs us fp
 | [],o,fp,h=>by
  simp only[OwL] at h;exact⟨[],rfl,by simp,by simp[bO,h]⟩
 | c :: cs,o,fp,h=>by
  simp only[OwL] at h;obtain⟨u,f1,f2,h1,h2,h3,h4⟩:=h;obtain⟨us,g1,g2,g3⟩:=lD h4;refine⟨u :: us,by simp[g1],fun j v hj=>?_,?_⟩
  ·cases j with
   | zero=>
    simp only[List.getElem?_cons_zero,Option.some.injEq] at hj;subst hj;simpa using h1
   | succ j=>
    simp only[List.getElem?_cons_succ] at hj;have:=g2 j v hj
    rwa [show o+1+j=o+(j+1) by omega] at this
  ·simp only[bO];exact⟨u,us,f1,f2,rfl,h2,h3,g3⟩
theorem mI {b:Nat} {w':World} (hk:∀ b,ok b->w'.heap[b]? = w.heap[b]?):∀ {cs:List D} {us:List Value} {o:Nat} {fp:List Nat},bO w ok cs us fp->(∀ (j:Nat) (v:Value),us[j]? = some v->w'.cell? ⟨b,o+j,none⟩ = some v) ->
  (∀ b∈fp,w'.heap[b]? = w.heap[b]?)->OwL w' ok b cs o fp
 | [],us,o,fp,h,_,_=>by
  simp only[bO] at h;simp only[OwL];exact h.2
 | c :: cs,us,o,fp,h,hc,hf=>by
  simp only[bO] at h;obtain⟨u,vs,f1,f2,rfl,rfl,h1,h2⟩:=h;simp only[OwL];refine⟨u,f1,f2,by simpa using hc 0 u rfl,rfl,fI (fun b hb=>⟨hb,hk b hb⟩) c u f1 (fun b hb=>hf b (by simp[hb])) h1,mI hk h2 (fun j v hj=>?_) (fun b hb=>hf b (by simp[hb]))⟩;have:=hc (j+1) v (by simpa using hj)
  rwa [show o+(j+1)=o+1+j by omega] at this
theorem nZ:∀ {cs cs2:List D} {us us2:List Value} {f1 f2:List Nat},bO w ok cs us f1->bO w ok cs2 us2 f2->bO w ok (cs ++ cs2) (us ++ us2) (f1 ++ f2)
 | [],cs2,us,us2,f1,f2,h,k=>by
  simp only[bO] at h;obtain⟨rfl,rfl⟩:=h;simpa using k
 | c :: cs,cs2,us,us2,f1,f2,h,k=>by
  simp only[bO] at h;obtain⟨u,vs,g1,g2,rfl,rfl,h1,h2⟩:=h;simp only[List.cons_append,bO];exact⟨u,vs ++ us2,g1,g2 ++ f2,rfl,by simp,h1,nZ h2 k⟩
theorem lQ:∀ {cs:List D} {us:List Value} {fp:List Nat},bO w ok cs us fp->us.length=cs.length
 | [],us,fp,h=>by
  simp only[bO] at h;simp[h.1]
 | c :: cs,us,fp,h=>by
  simp only[bO] at h;obtain⟨u,vs,g1,g2,rfl,rfl,h1,h2⟩:=h;simp[lQ h2]
theorem my:∀ {cs:List D} {us:List Value} {fp:List Nat},jQ cs->bO w ok cs us fp->∀ v∈us,v.oneCell'=true
 | [],us,fp,_,h=>by
  simp only[bO] at h;simp[h.1]
 | c :: cs,us,fp,hs,h=>by
  simp only[bO] at h;obtain⟨u,vs,g1,g2,rfl,rfl,h1,h2⟩:=h;intro v hv;rcases List.mem_cons.1 hv with rfl | hv
  ·refine pQ h1 (by rintro rfl;have:=hs.1;simp[D.solid,D.leaf] at this) (by rintro x rfl;simpa[D.solid,D.leaf] using hs.1)
  ·exact my hs.2 h2 v hv
theorem ph:∀ {cs:List D},er cs->jQ cs
 | [],_=>trivial
 | c :: cs,h=>⟨by cases c <;> first | rfl | exact h.1,ph h.2⟩
theorem nH:∀ {cs:List D} {us:List Value},er cs->ShV w ok cs us->bO w ok cs us []
 | [],us,_,h=>by
  simp only[ShV] at h;simp[bO,h]
 | c :: cs,us,hl,h=>by
  simp only[ShV] at h;obtain⟨u,vs,rfl,h1,h2⟩:=h;simp only[bO];exact⟨u,vs,[],[],rfl,rfl,sd hl.1 h1,nH hl.2 h2⟩
theorem kM {b:Nat}:∀ (cs:List D) (o:Nat),(∀ (j:Nat) (x:D),cs[j]? = some x->∃ v,w.cell? ⟨b,o+j,none⟩ = some v/\(x.leaf=true->Sh w ok x v)) ->
  ∃ us:List Value,us.length=cs.length/\(∀ (j:Nat) (v:Value),us[j]? = some v->w.cell? ⟨b,o+j,none⟩ = some v)/\(er cs->ShV w ok cs us)
 | [],o,_=>⟨[],rfl,by simp,fun _=>rfl⟩
 | c :: cs,o,h=>by
  obtain⟨v,h1,h2⟩:=h 0 c rfl;obtain⟨us,g1,g2,g3⟩:=kM cs (o+1) fun j x hj=>by
   have:=h (j+1) x (by simpa using hj)
   rwa [show o+(j+1)=o+1+j by omega] at this
  refine⟨v :: us,by simp[g1],fun j u hj=>?_,fun hl=>?_⟩
  ·cases j with
   | zero=>
    simp only[List.getElem?_cons_zero,Option.some.injEq] at hj;subst hj;simpa using h1
   | succ j=>
    simp only[List.getElem?_cons_succ] at hj;have:=g2 j u hj
    rwa [show o+1+j=o+(j+1) by omega] at this
  ·simp only[ShV];exact⟨v,us,rfl,h2 hl.1,g3 hl.2⟩
structure Rd (w:World) (ok:Nat->Prop) (k m:Nat) (cs2:List D) (u:Value) (us:List Value):Prop where
 len:us.length=m*k
 clen:cs2.length=m*k
 at_:∃ a' c',u = .slice a' m c'/\(us=[]\/∃ b o,a'=some ⟨b,o,none⟩/\∀ (j:Nat) (v:Value),us[j]? = some v->w.cell? ⟨b,o+j,none⟩ = some v)
 leaf:er cs2->ShV w ok cs2 us
theorem oR (h:Rel w0 fp0 ok σ θ w ρ φ) {r:Rn} {p:List Nat} {o x:D} {cs:List D} {i b q:Nat} {hv:Value} (ho:σ.obj r p=some o) (hc:o.cells? = some cs) (hh:hdr w (ρ r) p=some hv)
  (hb:gZ hv=some (b,q)) (hi:cs[i]? = some x):∃ v,w.cell? ⟨b,q+i,none⟩ = some v/\(x.leaf=true->Sh w ok x v):=by
 obtain⟨v,h1,h2⟩:=vQ h ho hc hh hb hi;refine⟨v,h1,fun hl=>?_⟩
 cases x <;> simp[D.leaf] at hl <;> simpa only [ge,FR] using h2
theorem ov (h:Rel w0 fp0 ok σ θ w ρ φ) {r:Rn} {p:List Nat} {k N:Nat} {cs:List D} (ho:σ.obj r p=some (.ow k N cs)):cs.length=k*N:=by
 obtain⟨hv,fo,hat⟩:=h.rts_.at_ (r:=r) (p:=p) ho;have:=hat.own;simp only[Ow] at this;rcases this with ⟨rfl,rfl,_⟩ | ⟨b,o,c,arr,T,fp',e1,_,_,_,_,h2,_⟩
 ·simp
 ·exact h2
theorem sP (h:Rel w0 fp0 ok σ θ w ρ φ) {k m:Nat} {x:FV} {cs2:List D} {mv:Option Rn} {u:Value} (hs:oI σ k x=some (m,cs2,mv)) (hu:FR w ok σ ρ x u):∃ us,Rd w ok k m cs2 u us:=by
 have nil:∀ (a':Option Addr) (c':Nat),u = .slice a' 0 c'->Rd w ok k 0 [] u []:=fun a' c' e=>⟨by simp,by simp,⟨a',c',e,.inl rfl⟩,fun _=>rfl⟩;unfold oI at hs;split at hs
 ·injection hs with hs
  injection hs with h1 hs
  injection hs with h2 h3
  subst h1;subst h2;exact⟨[],nil _ _ (eI hu)⟩
 ·injection hs with hs
  injection hs with h1 hs
  injection hs with h2 h3
  subst h1;subst h2;simp only[FR,Sh] at hu;obtain⟨a',e⟩:=hu;exact⟨[],nil _ _ e⟩
 ·rename_i k' n' cs;split at hs
  ·rename_i hk;subst hk;injection hs with hs
   injection hs with h1 hs
   injection hs with h2 h3
   subst h1;subst h2;simp only[FR,Sh] at hu;obtain⟨a',c',e,_,hl,h4⟩:=hu;rcases h4 with rfl | ⟨b,o,rfl,hb,h5⟩
   ·have hz:n' * k'=0:=by rw[Nat.mul_comm];simpa using hl.symm
    exact⟨[],by simp[hz],by simp[hz],⟨a',c',e,.inl rfl⟩,fun _=>rfl⟩
   ·obtain⟨us,g1,g2,g3⟩:=kM (w:=w) (ok:=ok) (b:=b) cs o fun j x hj=>by
     obtain⟨v,h6,h7⟩:=r9 h5 hj;exact⟨v,h6,fun _=>h7⟩
    exact⟨us,by rw[g1,hl,Nat.mul_comm],by rw[hl,Nat.mul_comm],⟨_,c',e,.inr ⟨b,o,rfl,g2⟩⟩,g3⟩
  ·simp at hs
 ·rename_i r p lo n';split at hs
  ·rename_i k' N cs ho;split at hs
   ·rename_i hk;subst hk;have hcl:=ov h ho;simp only[FR] at hu;obtain⟨k2,N2,cs',hv,g1,g2,g3,g4⟩:=hu;rw[ho] at g1
    cases g1
    have fin:∀ (cs2':List D),cs2'=(cs.drop (k' * lo)).take (k' * n')->∃ us,Rd w ok k' n' cs2' u us:=by
     intro cs2' e0;have hlen:cs2'.length=n' * k':=by
      rw[e0,List.length_take,List.length_drop,hcl,<-Nat.mul_sub,Nat.min_eq_left (Nat.mul_le_mul_left _ (by omega)),Nat.mul_comm]
     rcases j5 h ho g2 with ⟨b,o,cp,e1,e2,e3⟩ | ⟨e1,a0,e2⟩
     ·have cellj:∀ (j:Nat) (x:D),cs2'[j]? = some x->∃ v,w.cell? ⟨b,o+k' * lo+j,none⟩ = some v/\(x.leaf=true->Sh w ok x v):=fun j x hj=>by
       rw[e0,List.getElem?_take] at hj;split at hj
       ·rw[List.getElem?_drop] at hj;have:=oR h ho rfl g2 e3 hj
        rwa [show o+(k' * lo+j)=o+k' * lo+j by omega] at this
       ·simp at hj
      obtain⟨us,q1,q2,q3⟩:=kM (w:=w) (ok:=ok) (b:=b) cs2' (o+k' * lo) cellj;rcases g4 with ⟨rfl,a',N',c',e4,e5⟩ | ⟨hlo,b',o',N',c',e4,_,e5⟩
      ·rw[e1] at e4
       cases e4
       exact⟨us,by rw[q1,hlen],hlen,⟨_,_,e5,.inr ⟨b,o,rfl,by simpa using q2⟩⟩,q3⟩
      ·rw[e1] at e4
       cases e4
       rcases e5 with ⟨_,e5⟩ | ⟨_,rfl,a1,e5⟩
       ·exact⟨us,by rw[q1,hlen],hlen,⟨_,_,e5,.inr ⟨b,_,rfl,q2⟩⟩,q3⟩
       ·have:cs2'=[]:=List.eq_nil_of_length_eq_zero (by simpa using hlen);subst this;exact⟨[],by simp,by simp,⟨_,_,e5,.inl rfl⟩,fun _=>rfl⟩
     ·have hn:n'=0:=by omega
      subst hn;have:cs2'=[]:=List.eq_nil_of_length_eq_zero (by simpa using hlen);subst this;rcases g4 with ⟨rfl,a',N',c',e4,e5⟩ | ⟨hlo,b',o',N',c',e4,_,e5⟩
      ·exact⟨[],by simp,by simp,⟨_,_,e5,.inl rfl⟩,fun _=>rfl⟩
      ·rw[e2] at e4;simp at e4;omega
    split at hs
    ·rename_i hc;injection hs with hs
     injection hs with h1 hs
     injection hs with h2 h3
     subst h1;subst h2;refine fin cs ?_;rw[hc.1,hc.2.1];simp[<-hcl]
    ·injection hs with hs
     injection hs with h1 hs
     injection hs with h2 h3
     subst h1;subst h2;exact fin _ rfl
   ·simp at hs
  ·simp at hs
 ·rename_i r p off n';split at hs
  ·rename_i o ho;split at hs
   ·rename_i cs hc;split at hs
    ·rename_i hk;subst hk;injection hs with hs
     injection hs with h1 hs
     injection hs with h2 h3
     subst h1;subst h2;simp only[FR] at hu;obtain⟨o2,cs',hv,b,q,c,g1,g2,g3,g4,g5,g6,g7⟩:=hu;rw[ho] at g1
     cases g1
     rw[hc] at g2
     cases g2
     have hlen:((cs.drop off).take n').length=n' * 1:=by
      rw[List.length_take,List.length_drop];omega
     obtain⟨us,q1,q2,q3⟩:=kM (w:=w) (ok:=ok) (b:=b) ((cs.drop off).take n') (q+off) fun j x hj=>by
      rw[List.getElem?_take] at hj;split at hj
      ·rw[List.getElem?_drop] at hj;have:=oR h ho hc g3 g4 hj
       rwa [show q+(off+j)=q+off+j by omega] at this
      ·simp at hj
     rcases g7 with e | ⟨rfl,a',e⟩
     ·exact⟨us,by rw[q1,hlen],hlen,⟨_,_,e,.inr ⟨b,_,rfl,q2⟩⟩,q3⟩
     ·exact⟨[],by simp,by simp,⟨_,_,e,.inl rfl⟩,fun _=>by simp[ShV]⟩
    ·simp at hs
   ·simp at hs
  ·simp at hs
 ·simp at hs
theorem Rd.first {k m:Nat} {cs2:List D} {u:Value} {us:List Value} (h:Rd w ok k m cs2 u us) (w':World) (hw:bV w w'):(Builtin.firstCells k m u).run P w' = .ok us.toArray w'/\∃ a' c',u = .slice a' m c':=by
 obtain⟨a',c',e,h1⟩:=h.at_;subst e;refine⟨?_,a',c',rfl⟩;rcases h1 with rfl | ⟨b,o,rfl,h2⟩
 ·have hz:m*k=0:=by simpa using h.len.symm
  cases a' with
  | none=>simp[Builtin.firstCells]
  | some a'=>simp[Builtin.firstCells,hz,loadCells,loadCellsFrom]
 ·refine run_firstCells_some (P:=P) w' k m _ m c' us h.len fun j v hj=>?_;rw[eE];exact hw.cell (h2 j v hj)
end
end Go.Proofs.YtncfmemhjahpeaaGreat.Ab
namespace Go.Proofs.YtncfmemhjahpeaaGreat.Ab
open Go
section
variable {w0 w:World} {fp0:List Nat} {ok0 ok:Nat->Prop} {W:Nat->Value} {n:Nat} {P:Program} {T:TT} {σ:St} {θ:Nat->Value} {ρ:Rn->Value} {φ:Rn->List Nat} {a:Act}
theorem zo {t t' ty e e':Nat} {ti:TypeInfo} (ht:P.underlying t=some (.slice e)) (ht':P.underlying t'=some (.slice e')) (hi:P.info? e=some ti) {base:Option Addr} {u:Value} {a':Option Addr} {c':Nat} (hu:u = .slice a' 0 c')
  (hf:(Builtin.firstCells ti.size 0 u).run P w = .ok #[] w):(Builtin.append_ #[t,t'] ty #[.slice base 0 0,u]).run P w = .ok (.slice base 0 0) w:=by
 subst hu
 cases base with
 | none=>simp[Builtin.append_,run_underlying ht,run_underlying ht',sizeOf,typeInfo,hi,Builtin.lenOf,hf]
 | some b=>simp[Builtin.append_,run_underlying ht,run_underlying ht',sizeOf,typeInfo,hi,Builtin.lenOf,hf,storeCells]
theorem yW {t t' ty e e':Nat} {ti:TypeInfo} (ht:P.underlying t=some (.slice e)) (ht':P.underlying t'=some (.slice e')) (hi:P.info? e=some ti) {g q sLen sCap m T:Nat} {cur:Array Value} (hg:w.heap[g]? = some (.cells cur T (0,0)))
  {u:Value} {a':Option Addr} {c':Nat} (hu:u = .slice a' m c') {news:List Value} (hf:(Builtin.firstCells ti.size m u).run P w = .ok news.toArray w) (h1:∀ u∈news,u.oneCell'=true)
  (hroom:sLen+m<=sCap) (hfit:q+sLen*ti.size+news.length<=cur.size) :
  (Builtin.append_ #[t,t'] ty #[.slice (some ⟨g,q,none⟩) sLen sCap,u]).run P w =
   .ok (.slice (some ⟨g,q,none⟩) (sLen+m) sCap) (w.setRow g (cur.toList.take (q+sLen*ti.size) ++ news ++ cur.toList.drop (q+sLen*ti.size+news.length)).toArray):=by
 subst hu;have hst:=run_storeCells_at P g (q+sLen*ti.size) T news 0 cur w hg (by simpa using hfit) h1;simp only[Nat.add_zero] at hst;simp[Builtin.append_,run_underlying ht,run_underlying ht',sizeOf,typeInfo,hi,Builtin.lenOf,hroom,hf,eE,hst]
theorem yq {t t' ty e e':Nat} {ti:TypeInfo} {z:Value} (ht:P.underlying t=some (.slice e)) (ht':P.underlying t'=some (.slice e')) (hi:P.info? e=some ti) (hz:ti.zero=some z) {base:Option Addr} {sLen sCap m:Nat}
  {olds news:List Value} (hfo:∀ w',bV w w'->(Builtin.firstCells ti.size sLen (.slice base sLen sCap)).run P w' = .ok olds.toArray w') {u:Value} {a':Option Addr} {c':Nat} (hu:u = .slice a' m c') (hf:∀ w',bV w w'->(Builtin.firstCells ti.size m u).run P w' = .ok news.toArray w')
  (hg:sCap < sLen+m) (hby:0 < ti.bytes) (hfit:(sLen+m)*ti.bytes<=140737488355328) :
  (Builtin.append_ #[t,t'] ty #[.slice base sLen sCap,u]).run P w =
   .ok (.slice (some ⟨w.heap.size,0,none⟩) (sLen+m) (grownCap w (sLen+m) sCap e))
    (w.drew.alloc (.cells (olds.toArray ++ news.toArray ++ Builtin.zeroCells z.cells (grownCap w (sLen+m) sCap e - (sLen+m))) e)):=by
 subst hu;have hn:¬ (sLen+m<=sCap):=by omega
 have hfits:=growslice_fits hg hfit;have h48':¬ (281474976710656 < Builtin.nextslicecap (sLen+m) sCap*ti.bytes):=by omega
 have hb0:ti.bytes≠0:=by omega
 have hl:bV w w.drew:=⟨by simp,fun _ _=>rfl⟩;have hf':=hf w.drew hl;have hfo':=hfo w.drew hl;simp[Builtin.append_,run_underlying ht,run_underlying ht',sizeOf,typeInfo,zeroValue,hi,hz,Builtin.lenOf,hn,h48',hb0,Question.forced,hf',hfo',newRow,grownCap]
 try (congr 2;apply Array.ext';simp[List.append_assoc])
theorem qY:∀ {cs:List D} {us:List Value} {fp:List Nat} (j:Nat),bO w ok cs us fp->∃ f1 f2,fp=f1 ++ f2/\bO w ok (cs.take j) (us.take j) f1
 | cs,us,fp,0,h=>⟨[],fp,rfl,by simp[bO]⟩
 | [],us,fp,j+1,h=>by
  simp only[bO] at h;exact⟨[],fp,rfl,by simp[bO,h.1]⟩
 | c :: cs,us,fp,j+1,h=>by
  simp only[bO] at h;obtain⟨u,vs,g1,g2,rfl,rfl,h1,h2⟩:=h;obtain⟨f1,f2,rfl,h3⟩:=qY j h2;refine⟨g1 ++ f1,f2,by simp,?_⟩;simp only[List.take_succ_cons,bO];exact⟨u,vs.take j,g1,f1,rfl,rfl,h1,h3⟩
structure Src (w0 w:World) (fp0:List Nat) (ok:Nat->Prop) (k n:Nat) (cs:List D) (σ1:St) (φ1:Rn->List Nat) (u:Value) (olds:List Value) (fp1:List Nat):Prop where
 clen:cs.length=n*k
 len:olds.length=n*k
 own:bO w ok cs olds fp1
 nod:fp1.Nodup
 bnd:∀ x∈fp1,Bnd w0 fp0 ok w.heap.size x/\∀ q e,σ1.rts q=some e->x ∉ φ1 q
 at_:∃ base cap,u = .slice base n cap/\n<=cap/\((cap=0/\n=0)\/∃ b o cur T,base=some ⟨b,o,none⟩/\cap≠0/\w.heap[b]? = some (.cells cur T (0,0))/\o+k*cap<=cur.size /\
  (∀ (j:Nat) (v:Value),olds[j]? = some v->w.cell? ⟨b,o+j,none⟩ = some v)/\b ∉ fp1/\Bnd w0 fp0 ok w.heap.size b/\∀ q e,σ1.rts q=some e->b ∉ φ1 q)
theorem Ay (h:Rel w0 fp0 ok σ θ w ρ φ) {k n:Nat} {s:FV} {cs:List D} {σ1:St} {u:Value} (hs:vA σ k s=some (n,cs,σ1)) (hu:FR w ok σ ρ s u) :
  ∃ φ1 olds fp1,Rel w0 fp0 ok σ1 θ w ρ φ1/\Src w0 w fp0 ok k n cs σ1 φ1 u olds fp1/\(∀ r2:Rn,s.rootIs r2=false->σ1.rts r2=σ.rts r2):=by
 unfold vA at hs;split at hs
 ·injection hs with hs
  injection hs with h1 hs
  injection hs with h2 h3
  subst h1;subst h2;subst h3;exact⟨φ,[],[],h,⟨by simp,by simp,by simp[bO],by simp,by simp,⟨none,0,eI hu,Nat.le_refl _,.inl ⟨rfl,rfl⟩⟩⟩,fun _ _=>rfl⟩
 ·injection hs with hs
  injection hs with h1 hs
  injection hs with h2 h3
  subst h1;subst h2;subst h3;simp only[FR,Sh] at hu;obtain⟨a',e⟩:=hu;exact⟨φ,[],[],h,⟨by simp,by simp,by simp[bO],by simp,by simp,⟨a',0,e,Nat.le_refl _,.inl ⟨rfl,rfl⟩⟩⟩,fun _ _=>rfl⟩
 ·rename_i r p n';split at hs
  ·rename_i k' N cs0 ho;split at hs
   ·rename_i hk;subst hk;injection hs with hs
    injection hs with h1 hs
    injection hs with h2 h3
    subst h1;obtain⟨hv,fo,φ1,g1,g2,g3,g4,g5,g6,_⟩:=h.takeKill ho;rw[h3] at g5;have hroot:∀ r2:Rn,FV.rootIs (.al r p 0 n') r2=false->σ1.rts r2=σ.rts r2:=fun r2 hr2=>by
     have hne:r2≠r:=fun e=>by simp[FV.rootIs,e] at hr2
     rw[<-h3];show (σ.take r p).rts r2=_;rw[(nk σ r p).1,o9 hne]
    simp only[FR] at hu;obtain⟨k2,N2,cs',hv',q1,q2,q3,q4⟩:=hu;rw[ho] at q1
    cases q1
    rw[g1] at q2;injection q2 with q2
    subst q2;have hcs:cs=cs0.take (k' * n'):=by
     rw[<-h2];unfold kr;split
     ·rename_i hN;subst hN;rw[List.take_of_length_le (by rw[ov h ho];exact Nat.le_refl _)]
     ·rfl
    simp only[Ow] at g2;rcases q4 with ⟨_,a',N',c',e4,e5⟩ | ⟨hlo,_⟩
    ·rcases g2 with ⟨rfl,rfl,rfl,a0,e6⟩ | ⟨b,o,c,arr,T,fp',e6,rfl,h5,h6,h7,h8,h9⟩
     ·rw[e6] at e4
      cases e4
      have hn:n'=0:=by omega
      subst hn;have:cs=[]:=by rw[hcs];simp
      subst this;exact⟨φ1,[],[],g5,⟨by simp,by simp,by simp[bO],by simp,by simp,⟨_,_,e5,Nat.le_refl _,.inl ⟨rfl,rfl⟩⟩⟩,hroot⟩
     ·rw[e6] at e4
      cases e4
      obtain⟨us,u1,u2,u3⟩:=lD h9;obtain⟨f1,f2,rfl,u4⟩:=qY (k' * n') u3;rw[<-hcs] at u4;have hle:k' * n'<=cs0.length:=by rw[h8];exact Nat.mul_le_mul_left _ (by omega)
      have hcl:cs.length=n' * k':=by rw[hcs,List.length_take,Nat.min_eq_left hle,Nat.mul_comm]
      simp only[List.nodup_cons,List.mem_append,not_or] at g3;refine⟨φ1,us.take (k' * n'),f1,g5,⟨hcl,by rw[lQ u4,hcl],u4,(List.nodup_append.1 g3.2).1,fun x hx=>⟨g4 x (by simp[hx]),fun q e he hxq=>g6 q e (by rw[<-h3] at he;exact he) x hxq (by simp[hx])⟩,?_⟩,hroot⟩;refine⟨_,_,e5,by omega,.inr ⟨b,o,arr,T,rfl,h6.2,h5,h7,fun j v hj=>u2 j v ?_,g3.1.1,g4 b (by simp),fun q e he hbq=>g6 q e (by rw[<-h3] at he;exact he) b hbq (by simp)⟩⟩;rw[List.getElem?_take] at hj;split at hj
      ·exact hj
      ·simp at hj
    ·omega
   ·simp at hs
  ·simp at hs
 ·simp at hs
theorem Src.first {k n:Nat} {cs:List D} {σ1:St} {φ1:Rn->List Nat} {u:Value} {olds:List Value} {fp1:List Nat} (h:Src w0 w fp0 ok k n cs σ1 φ1 u olds fp1) (w':World) (hw:bV w w') :
  (Builtin.firstCells k n u).run P w' = .ok olds.toArray w':=by
 obtain⟨base,cap,e,_,h1⟩:=h.at_;subst e;rcases h1 with ⟨rfl,rfl⟩ | ⟨b,o,cur,T,rfl,_,_,_,h2,_⟩
 ·have:olds=[]:=List.eq_nil_of_length_eq_zero (by simpa using h.len);subst this
  cases base <;> simp[Builtin.firstCells,loadCells,loadCellsFrom]
 ·refine run_firstCells_some (P:=P) w' k n _ n cap olds h.len fun j v hj=>?_;rw[eE];exact hw.cell (h2 j v hj)
theorem vH {k n m:Nat} {cs cs2:List D} {σ1 σf:St} {φ1 φf:Rn->List Nat} {us ux:Value} {olds news:List Value} {fp1 fp2:List Nat} {t t' ty e e':Nat} {ti:TypeInfo} {z:Value} {d:Nat}
  (hS:Src w0 w fp0 ok k n cs σ1 φ1 us olds fp1) (hR:Rd w ok k m cs2 ux news) (hf:Rel w0 fp0 ok σf θ w ρ φf) (hφ:∀ q e,σf.rts q=some e->∃ e',σ1.rts q=some e'/\∀ x∈φf q,x∈φ1 q)
  (h2:bO w ok cs2 news fp2) (hsol:jQ cs2) (hn2:fp2.Nodup) (hb2:∀ x∈fp2,Bnd w0 fp0 ok w.heap.size x/\(∀ q e,σf.rts q=some e->x ∉ φf q)/\(∃ q e,σ1.rts q=some e/\x∈φ1 q))
  (ht:P.underlying t=some (.slice e)) (ht':P.underlying t'=some (.slice e')) (hi:P.info? e=some ti) (hz:ti.zero=some z) (hzs:z.cells.size=k) (hk:ti.size=k) (hk0:0 < k) (hby:0 < ti.bytes) (hfit:(n+m)*ti.bytes<=140737488355328) (hd:σf.rts (d,0)=none) :
  ∃ u' w' φ',(Builtin.append_ #[t,t'] ty #[us,ux]).run P w = .ok u' w'/\Rel w0 fp0 ok (σf.root (d,0) (.ow k (n+m) (cs ++ cs2))) θ w' (upR ρ (d,0) u') φ'/\∃ a' c',u' = .slice a' (n+m) c':=by
 obtain⟨base,cap,e1,hcap,hat⟩:=hS.at_;obtain⟨hfx,a',c',ex⟩:=hR.first (P:=P) w (bV.refl w);have hlen:(cs ++ cs2).length=k*(n+m):=by rw[List.length_append,hS.clen,hR.clen,<-Nat.add_mul,Nat.mul_comm]
 have hvs:bO w ok (cs ++ cs2) (olds ++ news) (fp1 ++ fp2):=nZ hS.own h2;have hnod:(fp1 ++ fp2).Nodup:=by
  rw[List.nodup_append];refine⟨hS.nod,hn2,fun x hx y hy hxy=>?_⟩;subst hxy;obtain⟨_,_,q,e,he,hq⟩:=hb2 x hy;exact (hS.bnd x hx).2 q e he hq
 have hbnd:∀ x∈fp1 ++ fp2,Bnd w0 fp0 ok w.heap.size x/\∀ q e,σf.rts q=some e->x ∉ φf q:=fun x hx=>by
  rcases List.mem_append.1 hx with hx | hx
  ·refine⟨(hS.bnd x hx).1,fun q e he hq=>?_⟩;obtain⟨e',he',hsub⟩:=hφ q e he;exact (hS.bnd x hx).2 q e' he' (hsub x hq)
  ·exact⟨(hb2 x hx).1,(hb2 x hx).2.1⟩
 by_cases hroom:n+m<=cap
 ·rcases hat with ⟨rfl,rfl⟩ | ⟨b,o,cur,T,rfl,hc0,hheap,hsz,hcells,hbn,hbb,hbf⟩
  ·have hm:m=0:=by omega
   subst hm;have hnn:news=[]:=List.eq_nil_of_length_eq_zero (by simpa using hR.len);subst hnn;have h0:cs ++ cs2=[]:=List.eq_nil_of_length_eq_zero (by simpa using hlen);have hrun:=zo (ty:=ty) (base:=base) ht ht' hi ex (by rw[hk];exact hfx);refine⟨_,w,_,by rw[e1];exact hrun,hf.root (fp:=[]) hd ?_ (by simp) (by simp),base,0,rfl⟩;rw[h0];simp only[Ow];exact .inl ⟨trivial,trivial,trivial,base,rfl⟩
  ·have hfit':o+n*ti.size+news.length<=cur.size:=by
    rw[hk,hR.len];have:k*(n+m)<=k*cap:=Nat.mul_le_mul_left _ hroom;have e2:k*(n+m)=n*k+m*k:=by rw[Nat.mul_add,Nat.mul_comm k n,Nat.mul_comm k m]
    omega
   have hrun:=yW (ty:=ty) (P:=P) ht ht' hi hheap (sLen:=n) (sCap:=cap) ex (by rw[hk];exact hfx) (my hsol h2) hroom hfit';generalize hw':w.setRow b (cur.toList.take (o+n*ti.size) ++ news ++ cur.toList.drop (o+n*ti.size+news.length)).toArray=w' at hrun;have hnew:w'.heap[b]? = some (.cells (cur.toList.take (o+n*ti.size) ++ news ++ cur.toList.drop (o+n*ti.size+news.length)).toArray T (0,0)):=by rw[<-hw'];exact setRow_heap w b cur _ T _ hheap
   have hoth:∀ x,x≠b->w'.heap[x]? = w.heap[x]?:=fun x hx=>by rw[<-hw'];exact setRow_other w b x _ hx
   have hss:w'.heap.size=w.heap.size:=by rw[<-hw'];simp[World.setRow]
   have hK:de w0 fp0 w':=⟨by rw[<-hw'];exact hf.frm.os,by rw[<-hw'];exact hf.frm.out,by rw[<-hw'];exact hf.frm.tape,by rw[<-hw'];exact hf.frm.drawn,by rw[hss];exact hf.frm.size,fun x hx hn=>by
    rw[hoth x (by rintro rfl;rcases hbb.2.1 with h | h;exact hn h;omega)];exact hf.frm.old x hx hn⟩
   have hbf':∀ q e,σf.rts q=some e->b ∉ φf q:=fun q e he hq=>by
    obtain⟨e',he',hsub⟩:=hφ q e he;exact hbf q e' he' (hsub b hq)
   have hf2:=hf.frame (w':=w') (fun x ⟨q,e,he,hq⟩=>hoth x (by rintro rfl;exact hbf' q e he hq)) (fun x hx=>hoth x (by rintro rfl;exact hbb.1 hx)) (by rw[hss];exact Nat.le_refl _) hK;have hb12:b ∉ fp1 ++ fp2:=fun hb=>by
    rcases List.mem_append.1 hb with hb | hb
    ·exact hbn hb
    ·obtain⟨_,_,q,e,he,hq⟩:=hb2 b hb;exact hbf q e he hq
   have hcellw:∀ (j:Nat) (v:Value),(olds ++ news)[j]? = some v->w'.cell? ⟨b,o+j,none⟩ = some v:=fun j v hj=>by
    simp only[World.cell?,hnew,Option.isSome_none,Bool.false_eq_true,if_false];rw[<-Array.getElem?_toList];simp only;have htl:(cur.toList.take (o+n*ti.size)).length=o+n*ti.size:=by
     rw[List.length_take,Array.length_toList];omega
    rcases Nat.lt_or_ge j olds.length with hjl | hjl
    ·rw[List.getElem?_append_left hjl] at hj;have hc:=hcells j v hj;simp only[World.cell?,hheap,Option.isSome_none,Bool.false_eq_true,if_false] at hc;rw[hS.len] at hjl;rw[List.append_assoc,List.getElem?_append_left (by rw[htl,hk];omega),List.getElem?_take,if_pos (by rw[hk];omega),Array.getElem?_toList];exact hc
    ·rw[List.getElem?_append_right hjl] at hj;rw[hS.len] at hjl hj;have hjn:j - n*k < news.length:=by
      rcases Nat.lt_or_ge (j - n*k) news.length with h | h
      ·exact h
      ·rw[List.getElem?_eq_none h] at hj;simp at hj
     rw[List.getElem?_append_left (by rw[List.length_append,htl,hk];omega),List.getElem?_append_right (by rw[htl,hk];omega),htl,hk,show o+j - (o+n*k)=j - n*k by omega];exact hj
   have hOw:Ow w' ok (.ow k (n+m) (cs ++ cs2)) (.slice (some ⟨b,o,none⟩) (n+m) cap) (b :: (fp1 ++ fp2)):=by
    simp only[Ow];refine .inr ⟨b,o,cap,_,T,fp1 ++ fp2,rfl,rfl,hnew,⟨hroom,hc0⟩,?_,hlen,mI (fun x hx=>hoth x (by rintro rfl;exact hbb.1 hx)) hvs hcellw (fun x hx=>hoth x (by rintro rfl;exact hb12 hx))⟩;simp only[List.size_toArray,List.length_append,List.length_take,List.length_drop,Array.length_toList];omega
   refine⟨_,w',_,by rw[e1];exact hrun,hf2.root hd hOw (List.nodup_cons.2 ⟨hb12,hnod⟩) (fun x hx=>?_),_,_,rfl⟩;rcases List.mem_cons.1 hx with rfl | hx
   ·exact⟨hbf',hbb.1,hbb.2.1,by rw[hss];exact hbb.2.2⟩
   ·obtain⟨g1,g2⟩:=hbnd x hx;exact⟨g2,g1.1,g1.2.1,by rw[hss];exact g1.2.2⟩
 ·have hrun:=yq (ty:=ty) (P:=P) (z:=z) ht ht' hi hz (base:=base) (sLen:=n) (sCap:=cap) (olds:=olds) (news:=news) (fun w' hw'=>by rw[hk,<-e1];exact hS.first w' hw') ex (fun w' hw'=>by rw[hk];exact (hR.first w' hw').1) (by omega) hby hfit;have hge:=grownCap_ge w (n+m) cap e;generalize hcp:grownCap w (n+m) cap e=cp at hrun hge;generalize hB:olds.toArray ++ news.toArray ++ Builtin.zeroCells z.cells (cp - (n+m))=B at hrun;have hnew:(w.drew.alloc (.cells B e)).heap[w.heap.size]? = some (.cells B e (0,0)):=heap_alloc_new w.drew _;have hBs:B.size=k*cp:=by
   rw[<-hB];simp only[Array.size_append,List.size_toArray,size_zeroCells,hzs,hS.len,hR.len,<-Nat.add_mul];rw[show n+m+(cp - (n+m))=cp by omega,Nat.mul_comm]
  have hcellw:∀ (j:Nat) (v:Value),(olds ++ news)[j]? = some v->(w.drew.alloc (.cells B e)).cell? ⟨w.heap.size,0+j,none⟩ = some v:=fun j v hj=>by
   rw[Nat.zero_add];refine kC (w:=w.drew) B e ?_;rw[<-hB,<-Array.getElem?_toList];simp only[Array.toList_append];rw[List.getElem?_append_left (by
    rcases Nat.lt_or_ge j (olds ++ news).length with h | h
    ·simpa using h
    ·rw[List.getElem?_eq_none h] at hj;simp at hj)]
   exact hj
  have hold:∀ x,x < w.heap.size->(w.drew.alloc (.cells B e)).heap[x]? = w.heap[x]?:=fun x hx=>Go.RowKit.Below.heap_alloc w.drew _ x hx;have hOw:Ow (w.drew.alloc (.cells B e)) ok (.ow k (n+m) (cs ++ cs2)) (.slice (some ⟨w.heap.size,0,none⟩) (n+m) cp) (w.heap.size :: (fp1 ++ fp2)):=by
   simp only[Ow];exact .inr ⟨w.heap.size,0,cp,B,e,fp1 ++ fp2,rfl,rfl,hnew,⟨hge,by omega⟩,by omega,hlen,mI (fun x hx=>hold x (hf.okb x hx)) hvs hcellw (fun x hx=>hold x (hbnd x hx).1.2.2)⟩
  refine⟨_,_,_,by rw[e1];exact hrun,(hf.drew.alloc (.cells B e)).root hd hOw (List.nodup_cons.2 ⟨fun hx=>?_,hnod⟩) (fun x hx=>?_),_,_,rfl⟩
  ·have:=(hbnd _ hx).1.2.2;omega
  ·rcases List.mem_cons.1 hx with rfl | hx
   ·exact kt hf.drew _
   ·obtain⟨g1,g2⟩:=hbnd x hx;exact⟨g2,g1.1,g1.2.1,by simp;omega⟩
theorem yP {C:Ctx} (hT:cT C.P C.T=true) {o:Oper} (ho:cU n o=true) {c:Call} {t t':Nat} {x y:Operand} (hop:o.op = .call c) (hcb:c.callee = .builtin .append) (hargs:c.args.toList=[x,y]) (htys:c.argTypes.toList=[t,t']) {K:St->Prop}
  (hk:rL C o.dst t t' (opv σ x) (opv σ y) σ K) (h:Stx w0 fp0 ok0 W n σ a w ok θ ρ φ):eH C.P o a w K (Ste w0 fp0 ok0 W n):=by
 have hargs':c.args = #[x,y]:=by rw[<-Array.toList_inj];exact hargs
 have htys':c.argTypes = #[t,t']:=by rw[<-Array.toList_inj];exact htys
 have hxv:=h.ops ho x (by rw[hop];simp[Op.operands,Call.operands,hcb,hargs']);have hyv:=h.ops ho y (by rw[hop];simp[Op.operands,Call.operands,hcb,hargs']);unfold rL at hk;split at hk
 ·rename_i d ti ti' hd hti hti';split at hk
  ·rename_i e e' hke hke';split at hk
   ·rename_i i hi;split at hk
    ·rename_i n' cs σ1 hsrc;split at hk
     ·rename_i m cs2 mv hnew;obtain⟨⟨hby,hsz⟩,hr,hfit,hk1,hk2⟩:=hk;have hrow:=b9 hT hi;obtain⟨tin,t1,t2,t3,z,t4,t5,_⟩:=hrow.info;have hu:=kK (b9 hT hti) hke;have hu':=kK (b9 hT hti') hke';have hzs:z.cells.size=i.size:=by rw[<-Array.length_toList,t5,hrow.len]
      obtain⟨φ1,olds,fp1,hrel,hS,hroot⟩:=Ay h.rel hsrc hxv;obtain⟨news,hR⟩:=sP h.rel hnew hyv;have fin:∀ (σf:St) (u':Value) (w':World) (φ':Rn->List Nat),(Builtin.append_ #[t,t'] o.type #[a.eval x,a.eval y]).run C.P w = .ok u' w' ->
        Rel w0 fp0 ok (σf.root (d,0) (.ow i.size (n' + m) (cs ++ cs2))) θ w' (upR ρ (d,0) u') φ'->(∃ a' c',u' = .slice a' (n' + m) c') ->
        K { (σf.root (d,0) (.ow i.size (n' + m) (cs ++ cs2))) with env:=upd σf.env d (.al (d,0) [] 0 (n' + m)) }->eH C.P o a w K (Ste w0 fp0 ok0 W n):=by
       intro σf u' w' φ' hrun hrel' ⟨a',c',e1⟩ hK;have hrun':(execOp a.eval o).run C.P w = .ok (.value u') w':=by
        simp[execOp,hop,resolve,hcb,hargs',htys',invoke,builtin,hrun]
       have hs:Stx w0 fp0 ok0 W n _ a w' ok θ _ φ':=⟨hrel',h.th,h.oks,h.okn,h.dfr,h.sz⟩;have hf:FR w' ok (σf.root (d,0) (.ow i.size (n' + m) (cs ++ cs2))) (upR ρ (d,0) u') (.al (d,0) [] 0 (n' + m)) u':=by
        simp only[FR];exact⟨i.size,n' + m,cs ++ cs2,u',by simp[St.obj,St.root,bw],by simp[hdr,upR],by omega,.inl ⟨rfl,a',n' + m,c',e1,e1⟩⟩
       exact c8 hrun' hK (hs.fin ho hd hf)
      by_cases hl:er cs2
      ·obtain⟨u',w',φ',g1,g2,g3⟩:=vH (P:=C.P) (ty:=o.type) (d:=d) hS hR hrel (fun q e he=>⟨e,he,fun _ h=>h⟩) (nH hl (hR.leaf hl)) (ph hl) (by simp) (by simp) hu hu' t1 t4 hzs t2 hsz (by rw[t3];exact hby) (by rw[t3];exact hfit) hr;exact fin σ1 u' w' φ' g1 g2 g3 (hk1 hl)
      ·replace hk2:=hk2 hl
       obtain⟨hsol,hk3⟩:=hk2;split at hk3
       ·rename_i r2;split at hk3
        ·rename_i d2 hd2;obtain⟨⟨hne,hri⟩,hk2⟩:=hk3;have hob:σ.obj r2 []=some (.ow i.size m cs2)/\opv σ y = .al r2 [] 0 m:=by
          unfold oI at hnew;split at hnew
          ·simp at hnew
          ·simp at hnew
          ·split at hnew <;> simp at hnew
          ·rename_i r p lo n2 hy;split at hnew
           ·rename_i k' N cs3 ho3;split at hnew
            ·rename_i hkk;subst hkk;split at hnew
             ·rename_i hc;simp only[Option.some.injEq,Prod.mk.injEq] at hnew;obtain⟨e1,e2,e3⟩:=hnew;obtain⟨c1,c2,c3⟩:=hc;subst c1;subst c2;subst c3;subst e1;subst e2;subst e3;exact⟨ho3,hy⟩
             ·simp at hnew
            ·simp at hnew
           ·simp at hnew
          ·split at hnew
           ·split at hnew
            ·split at hnew <;> simp at hnew
            ·simp at hnew
           ·simp at hnew
          ·simp at hnew
         have hob1:σ1.obj r2 []=some (.ow i.size m cs2):=by
          have:=hob.1;unfold St.obj at this ⊢;rw[hroot r2 hri];exact this
         obtain⟨hv2,fo2,φ2,q1,q2,q3,q4,q5,q6,_⟩:=hrel.takeKill hob1;have hrts2:σ1.rts r2=some (.ow i.size m cs2):=by
          unfold St.obj at hob1;split at hob1
          ·rename_i dd hdd;simp only[bw,Option.some.injEq] at hob1;rw[hdd,hob1]
          ·simp at hob1
         have hfo2:fo2=φ1 r2:=by
          have h1:=(hrel.own r2 _ hrts2).1;have e0:ρ r2=hv2:=by simpa[hdr] using q1
          rw[e0] at h1;exact fY _ _ _ _ q2 h1
         rw[hob.2] at hyv;simp only[FR] at hyv;obtain⟨k2,N2,cs3,hv3,y1,y2,y3,y4⟩:=hyv;rw[hob.1] at y1
         cases y1
         have e3:hv3=hv2:=by
          have:hdr w (ρ r2) []=some hv2:=q1;rw[y2] at this;injection this
         subst e3;have hown:∃ fp2,bO w ok cs2 news fp2/\fp2.Nodup/\∀ z∈fp2,z∈fo2:=by
          simp only[Ow] at q2;rcases q2 with ⟨rfl,rfl,rfl,a0,e6⟩ | ⟨b,ob,c',arr,T,fp',e6,rfl,h5,h6,h7,h8,h9⟩
          ·exact absurd trivial hl
          ·obtain⟨us,u1,u2,u3⟩:=lD h9;have hcl:cs2.length=m*i.size:=hR.clen;refine⟨fp',?_,(List.nodup_cons.1 q3).2,fun z hz=>List.mem_cons_of_mem _ hz⟩;have:us=news:=by
            obtain⟨a',c2,ex,hx⟩:=hR.at_;rcases y4 with ⟨_,a3,N3,c3,y5,y6⟩ | ⟨hlo,_⟩
            ·rw[e6] at y5
             cases y5
             rw[ex] at y6;injection y6 with y6 _ _
             subst y6;rcases hx with rfl | ⟨b',o',e7,hx⟩
             ·have h0:cs2.length=0:=by rw[hcl];simpa using hR.len.symm
              exact List.eq_nil_of_length_eq_zero (by rw[u1,h0])
             ·injection e7 with e7
              injection e7 with e7 e8 _
              subst e7;subst e8;apply List.ext_getElem?;intro j;rcases Nat.lt_or_ge j us.length with hj | hj
              ·have hj2:j < news.length:=by rw[hR.len,<-hcl,<-u1];exact hj
               have g1:=u2 j us[j] (List.getElem?_eq_getElem hj);have g2:=hx j news[j] (List.getElem?_eq_getElem hj2);rw[g1] at g2;rw[List.getElem?_eq_getElem hj,List.getElem?_eq_getElem hj2,g2]
              ·have hj2:news.length<=j:=by rw[hR.len,<-hcl,<-u1];exact hj
               rw[List.getElem?_eq_none hj,List.getElem?_eq_none hj2]
            ·omega
           rw[<-this];exact u3
         obtain⟨fp2,f1,f2,f3⟩:=hown;have hrf:((σ1.take r2 []).kill r2 []).rts=eT σ1.rts r2 []:=(nk σ1 r2 []).1;obtain⟨u',w',φ',g1,g2,g3⟩:=vH (P:=C.P) (ty:=o.type) (d:=d) (σf:=(σ1.take r2 []).kill r2 []) (φf:=φ1) hS hR
          (Rel.of_rts (by rw[hrf];exact hrel.rts_.drop r2) q5.env hrel.okb hrel.frm)
          (fun q e he=>by
           rw[hrf] at he;exact⟨e,lR he,fun _ h=>h⟩) f1 hsol f2
          (fun z hz=>by
           have hzm:=f3 z hz;refine⟨q4 z hzm,fun q e he hzq=>?_,r2,_,hrts2,by rw[<-hfo2];exact hzm⟩;rw[hrf] at he;have hqr:q≠r2:=fun e=>by subst e;simp[eT,dg] at he
           rw[o9 hqr] at he;exact hrel.dis q r2 _ _ hqr he hrts2 z hzq (by rw[<-hfo2];exact hzm))
          hu hu' t1 t4 hzs t2 hsz (by rw[t3];exact hby) (by rw[t3];exact hfit) (by rw[hrf,o9 (Ne.symm hne)];exact hr)
         exact fin _ u' w' φ' g1 g2 g3 hk2
        ·exact hk3.elim
       ·exact hk3.elim
     ·exact hk.elim
    ·exact hk.elim
   ·exact hk.elim
  ·exact hk.elim
 ·exact hk.elim
end
end Go.Proofs.YtncfmemhjahpeaaGreat.Ab
namespace Go.Proofs.YtncfmemhjahpeaaGreat.Ab
open Go
section
variable {w0 w:World} {fp0:List Nat} {ok0 ok:Nat->Prop} {W:Nat->Value} {n:Nat} {P:Program} {T:TT} {σ:St} {θ:Nat->Value} {ρ:Rn->Value} {φ:Rn->List Nat} {a:Act}
theorem kX:∀ {cs cs2:List D} {us us2:List Value},ShV w ok cs us->ShV w ok cs2 us2->ShV w ok (cs ++ cs2) (us ++ us2)
 | [],cs2,us,us2,h,k=>by
  simp only[ShV] at h;subst h;simpa using k
 | c :: cs,cs2,us,us2,h,k=>by
  simp only[ShV] at h;obtain⟨u,vs,rfl,h1,h2⟩:=h;simp only[List.cons_append,ShV];exact⟨u,vs ++ us2,rfl,h1,kX h2 k⟩
theorem tX:∀ {cs:List D} {us:List Value} (j:Nat),ShV w ok cs us->ShV w ok (cs.take j) (us.take j)
 | cs,us,0,h=>by simp[ShV]
 | [],us,j+1,h=>by
  simp only[ShV] at h;subst h;simp[ShV]
 | c :: cs,us,j+1,h=>by
  simp only[ShV] at h;obtain⟨u,vs,rfl,h1,h2⟩:=h;simp only[List.take_succ_cons,ShV];exact⟨u,vs.take j,rfl,h1,tX j h2⟩
theorem zV:∀ {cs:List D} {us:List Value} (j:Nat),ShV w ok cs us->ShV w ok (cs.drop j) (us.drop j)
 | cs,us,0,h=>by simpa using h
 | [],us,j+1,h=>by
  simp only[ShV] at h;subst h;simp[ShV]
 | c :: cs,us,j+1,h=>by
  simp only[ShV] at h;obtain⟨u,vs,rfl,h1,h2⟩:=h;simpa using zV j h2
theorem oS:∀ {cs:List D} (j:Nat),er cs->er (cs.take j)
 | cs,0,h=>by simp[er]
 | [],j+1,h=>by simp[er]
 | c :: cs,j+1,h=>⟨h.1,oS j h.2⟩
theorem uF:∀ {cs:List D} (j:Nat),er cs->er (cs.drop j)
 | cs,0,h=>by simpa using h
 | [],j+1,h=>by simp[er]
 | c :: cs,j+1,h=>uF j h.2
theorem mV:∀ {cs cs2:List D},er cs->er cs2->er (cs ++ cs2)
 | [],_,_,k=>k
 | c :: cs,cs2,h,k=>⟨h.1,mV h.2 k⟩
theorem zd {b:Nat}:∀ {cs:List D} {o:Nat} {fp:List Nat},er cs->OwL w ok b cs o fp->fp=[]
 | [],o,fp,_,h=>by simpa only [OwL] using h
 | c :: cs,o,fp,hl,h=>by
  simp only[OwL] at h;obtain⟨u,f1,f2,_,rfl,h3,h4⟩:=h;have e1:f1=[]:=by
   have:=hl.1
   cases c <;> simp[D.leaf] at this <;> simp only[Ow] at h3 <;> exact h3.1
  rw[e1,zd hl.2 h4];rfl
theorem sK:∀ {cs:List D} {i:Nat} {x:D},er cs->cs[i]? = some x->x.leaf=true
 | [],i,x,_,h=>by simp at h
 | c :: cs,0,x,hl,h=>by
  simp only[List.getElem?_cons_zero,Option.some.injEq] at h;subst h;exact hl.1
 | c :: cs,i+1,x,hl,h=>by
  simp only[List.getElem?_cons_succ] at h;exact sK hl.2 h
theorem Dl {t t' ty e:Nat} (ht:P.underlying t=some (.slice e)) (hsz:∀ w:World,(sizeOf e).run P w = .ok 1 w) {base:Option Addr} {d cp m:Nat} {a':Option Addr} {c':Nat} {vals:List Value}
  (hf:(Builtin.firstCells 1 (min m d) (.slice a' m c')).run P w = .ok vals.toArray w) {w':World} (hs:∀ b,base=some b->(storeCells b vals).run P w = .ok () w') (hn:base=none->w'=w) :
  (Builtin.copy_ #[t,t'] ty #[.slice base d cp,.slice a' m c']).run P w = .ok (goInt ((min m d:Nat):Int)) w':=by
 have hf':(Builtin.firstCells 1 (Nat.min m d) (.slice a' m c')).run P w = .ok vals.toArray w:=hf
 cases base with
 | none=>
  have:=hn rfl;subst this;simp[Builtin.copy_,run_underlying ht,Builtin.lenOf,hsz,hf']
 | some b=>
  simp[Builtin.copy_,run_underlying ht,Builtin.lenOf,hsz,hf',hs b rfl]
theorem B9 {C:Ctx} (hT:cT C.P C.T=true) {o:Oper} (ho:cU n o=true) {c:Call} {t t':Nat} {x y:Operand} (hop:o.op = .call c) (hcb:c.callee = .builtin .copy) (hargs:c.args.toList=[x,y]) (htys:c.argTypes.toList=[t,t']) {K:St->Prop}
  (hk:yg C o.dst t t' (opv σ x) (opv σ y) σ K) (h:Stx w0 fp0 ok0 W n σ a w ok θ ρ φ):eH C.P o a w K (Ste w0 fp0 ok0 W n):=by
 have hargs':c.args = #[x,y]:=by rw[<-Array.toList_inj];exact hargs
 have htys':c.argTypes = #[t,t']:=by rw[<-Array.toList_inj];exact htys
 have hxv:=h.ops ho x (by rw[hop];simp[Op.operands,Call.operands,hcb,hargs']);have hyv:=h.ops ho y (by rw[hop];simp[Op.operands,Call.operands,hcb,hargs']);unfold yg at hk;split at hk
 ·rename_i ti ti' r p off n' hti hti' hx;split at hk
  ·rename_i e e' hke hke';split at hk
   ·rename_i i m cs2 mv ob hi hnew hob;split at hk
    ·rename_i cs hcs;obtain⟨hs1,hl2,hl,hle,hk⟩:=hk;rw[hx] at hxv;have hxv':=hxv;simp only[FR] at hxv;obtain⟨ob',cs',hv,b,q,cp,g1,g2,g3,g4,g5,g6,g7⟩:=hxv;rw[hob] at g1
     cases g1
     rw[hcs] at g2
     cases g2
     obtain⟨news,hR⟩:=sP h.rel hnew hyv;obtain⟨hd,hit⟩:=h.rel.dropIt;obtain⟨hv',fo,hat⟩:=hd.rts_.at_ (r:=r) (p:=p) (o:=ob) hob;have e6:hv'=hv:=by have:=hat.hdr;rw[g3] at this;injection this with this;exact this.symm
     subst e6;have hsub:∀ s z,s≠[]->bw ob s=some z->¬ fV z:=fun s z hs hz=>by
      cases s with
      | nil=>exact absurd rfl hs
      | cons i s=>
       simp only[bw,hcs] at hz;split at hz
       ·rename_i y' hy';have hlf:=sK hl hy'
        cases s with
        | nil=>
         simp only[bw,Option.some.injEq] at hz;subst hz;rintro (hh | ⟨es,rfl⟩)
         ·cases y' <;> simp[D.leaf,D.cells?] at hlf hh
         ·simp[D.leaf] at hlf
        | cons j s=>
         have:y'.cells? = none:=by cases y' <;> simp[D.leaf] at hlf <;> rfl
         simp[bw,this] at hz
       ·simp at hz
     obtain⟨a',c',ex,hxr⟩:=hR.at_;have hsz:∀ w:World,(sizeOf e).run C.P w = .ok 1 w:=fun w=>by rw[<-hs1];exact (b9 hT hi).size w
     have hu:=kK (b9 hT hti) hke;have hnl:(news.take (min m n')).length=min m n':=by
      rw[List.length_take,hR.len];omega
     have hfirst:(Builtin.firstCells 1 (min m n') (.slice a' m c')).run C.P w = .ok (news.take (min m n')).toArray w:=by
      rcases hxr with rfl | ⟨b2,o2,rfl,hc2⟩
      ·have hm0:m=0:=by simpa using hR.len.symm
       subst hm0
       cases a' <;> simp[Builtin.firstCells,loadCells,loadCellsFrom]
      ·refine run_firstCells_some (P:=C.P) w 1 (min m n') _ m c' _ (by rw[hnl,Nat.mul_one]) fun j v hj=>?_;rw[eE];refine hc2 j v ?_;rw[List.getElem?_take] at hj;split at hj
       ·exact hj
       ·simp at hj
     have hcs2:(cs2.take (min m n')).length=min m n':=by rw[List.length_take,hR.clen];omega
     have fin:∀ (w':World) (base:Option Addr) (cp:Nat),a.eval x = .slice base n' cp->(∀ b,base=some b->(storeCells b (news.take (min m n'))).run C.P w = .ok () w')->(base=none->w'=w) ->
       (∃ φ',Rel w0 fp0 ok (σ.dropIt.put r p (ob.setCells (cs.take off ++ cs2.take (min m n') ++ cs.drop (off+min m n')))) θ w' ρ φ')->eH C.P o a w K (Ste w0 fp0 ok0 W n):=by
      intro w' base cp eu hst hno ⟨φ',hrel'⟩;have hrun:=Dl (P:=C.P) (t':=t') (ty:=o.type) (cp:=cp) hu hsz hfirst hst hno;have hrun':(execOp a.eval o).run C.P w = .ok (.value (goInt ((min m n':Nat):Int))) w':=by
       rw[<-eu,<-ex] at hrun;simp[execOp,hop,resolve,hcb,hargs',htys',invoke,builtin,hrun]
      have hs:Stx w0 fp0 ok0 W n _ a w' ok θ ρ φ':=⟨hrel',h.th,h.oks,h.okn,h.dfr,h.sz⟩;obtain⟨θ2,h3⟩:=hs.put (dst:=o.dst) (dc ho) (f:=.int ((min m n':Nat):Int)) (v:=goInt ((min m n':Nat):Int)) (by simp only[FR,Sh];rfl);exact c8 hrun' hk ⟨_,_,_,_,h3⟩
     by_cases hce:cs=[]
     ·subst hce;simp only[List.length_nil] at hle;have hn0:n'=0:=by omega
      have ho0:off=0:=by omega
      subst hn0;subst ho0;have hcells0:([]:List D).take 0 ++ cs2.take (min m 0) ++ ([]:List D).drop (0+min m 0)=[]:=by simp
      have hown:Ow w ok (ob.setCells []) hv' fo:=by
       have:ob.setCells []=ob:=by cases ob <;> simp[D.cells?] at hcs <;> simp[D.setCells,hcs]
       rw[this];exact hat.own
      have hrep:=hd.replace (o':=ob.setCells []) (w':=w) hob hat hat.nod (fun _ h=>h) (fun _ _ _=>rfl) (Nat.le_refl _) h.rel.frm hown (.inl (fH hcs rfl)) hsub hit;rw[hcells0] at fin;have hnews0:news.take (min m 0)=[]:=by simp
      rw[hnews0] at fin;rcases g7 with eu | ⟨_,a2,eu⟩
      ·exact fin w _ _ eu (fun b _=>by simp[storeCells]) (fun _=>rfl) hrep
      ·exact fin w _ _ eu (fun b _=>by simp[storeCells]) (fun _=>rfl) hrep
     ·obtain⟨b',o',fp',e1,e2,hOL,⟨arr,T,hheap,hsize⟩,hreb⟩:=j6 hat.own hcs hce;rw[g4] at e1;injection e1 with e1;injection e1 with e1 e1';subst e1;subst e1';have hfp':=zd hl hOL;subst hfp';obtain⟨us,u1,u2,u3⟩:=lD hOL;have hshu:ShV w ok cs us:=by
       obtain⟨us',v1,v2,v3⟩:=kM (w:=w) (ok:=ok) (b:=b) cs q fun j z hj=>oR h.rel hob hcs g3 g4 hj;have:us'=us:=by
        apply List.ext_getElem?;intro j;rcases Nat.lt_or_ge j us.length with hj | hj
        ·have hj2:j < us'.length:=by rw[v1,<-u1];exact hj
         have k1:=u2 j us[j] (List.getElem?_eq_getElem hj);have k2:=v2 j us'[j] (List.getElem?_eq_getElem hj2);rw[k1] at k2;rw[List.getElem?_eq_getElem hj,List.getElem?_eq_getElem hj2,k2]
        ·rw[List.getElem?_eq_none hj,List.getElem?_eq_none (by rw[v1,<-u1];exact hj)]
       rw[<-this];exact v3 hl
      have hlen2:(cs.take off ++ cs2.take (min m n') ++ cs.drop (off+min m n')).length=cs.length:=by
       rw[List.length_append,List.length_append,hcs2,List.length_take,List.length_drop];omega
      have hbfo:b∈fo:=by rw[e2];simp
      have hbb:Bnd w0 fp0 ok w.heap.size b:=by
       have ho2:=hob;unfold St.obj at ho2;split at ho2
       ·rename_i d hd2;exact (h.rel.own r d hd2).2.2 b (hat.sub b hbfo)
       ·simp at ho2
      have hone:∀ v∈news.take (min m n'),v.oneCell'=true:=fun v hv=>my (ph hl2) (nH hl2 (hR.leaf hl2)) v (List.mem_of_mem_take hv);have hst:=run_storeCells_at C.P b (q+off) T (news.take (min m n')) 0 arr w hheap (by rw[hnl];omega) hone;simp only[Nat.add_zero,hnl] at hst;generalize hw':w.setRow b (arr.toList.take (q+off) ++ news.take (min m n') ++ arr.toList.drop (q+off+min m n')).toArray=w' at hst;have hnewc:w'.heap[b]? = some (.cells (arr.toList.take (q+off) ++ news.take (min m n') ++ arr.toList.drop (q+off+min m n')).toArray T (0,0)):=by rw[<-hw'];exact setRow_heap w b arr _ T _ hheap
      have hoth:∀ z,z≠b->w'.heap[z]? = w.heap[z]?:=fun z hz=>by rw[<-hw'];exact setRow_other w b z _ hz
      have hss:w'.heap.size=w.heap.size:=by rw[<-hw'];simp[World.setRow]
      have hK:de w0 fp0 w':=⟨by rw[<-hw'];exact h.rel.frm.os,by rw[<-hw'];exact h.rel.frm.out,by rw[<-hw'];exact h.rel.frm.tape,by rw[<-hw'];exact h.rel.frm.drawn,by rw[hss];exact h.rel.frm.size,fun z hz hn=>by
       rw[hoth z (by rintro rfl;rcases hbb.2.1 with h | h;exact hn h;omega)];exact h.rel.frm.old z hz hn⟩
      have hvals:bO w ok (cs.take off ++ cs2.take (min m n') ++ cs.drop (off+min m n')) (us.take off ++ news.take (min m n') ++ us.drop (off+min m n')) []:=
       nH (mV (mV (oS _ hl) (oS _ hl2)) (uF _ hl)) (kX (kX (tX _ hshu) (tX _ (hR.leaf hl2))) (zV _ hshu))
      have hcell:∀ (j:Nat) (v:Value),(us.take off ++ news.take (min m n') ++ us.drop (off+min m n'))[j]? = some v->w'.cell? ⟨b,q+j,none⟩ = some v:=fun j v hj=>by
       simp only[World.cell?,hnewc,Option.isSome_none,Bool.false_eq_true,if_false];rw[<-Array.getElem?_toList];simp only;have htl:(arr.toList.take (q+off)).length=q+off:=by rw[List.length_take,Array.length_toList];omega
       have hul:(us.take off).length=off:=by rw[List.length_take,u1];omega
       have hold:∀ (j:Nat) (v:Value),us[j]? = some v->arr.toList[q+j]? = some v:=fun j v hj=>by
        have:=u2 j v hj;simp only[World.cell?,hheap,Option.isSome_none,Bool.false_eq_true,if_false] at this;rw[Array.getElem?_toList];exact this
       rcases Nat.lt_or_ge j off with c1 | c1
       ·rw[List.append_assoc,List.getElem?_append_left (by rw[hul];exact c1),List.getElem?_take,if_pos c1] at hj;rw[List.append_assoc,List.getElem?_append_left (by rw[htl];omega),List.getElem?_take,if_pos (by omega)];exact hold j v hj
       ·rw[List.append_assoc,List.getElem?_append_right (by rw[hul];exact c1),hul] at hj;rw[List.append_assoc,List.getElem?_append_right (by rw[htl];omega),htl,show q+j - (q+off)=j - off by omega];rcases Nat.lt_or_ge (j - off) (min m n') with c2 | c2
        ·rw[List.getElem?_append_left (by rw[hnl];exact c2)] at hj ⊢;exact hj
        ·rw[List.getElem?_append_right (by rw[hnl];exact c2),hnl,List.getElem?_drop] at hj ⊢;have:=hold _ v hj
         rwa [show q+(off+min m n' + (j - off - min m n'))=q+off+min m n' + (j - off - min m n') by omega] at this
      have hOL':OwL w' ok b (cs.take off ++ cs2.take (min m n') ++ cs.drop (off+min m n')) q []:=mI (fun z hz=>hoth z (by rintro rfl;exact hbb.1 hz)) hvals hcell (by simp);have hown:=hreb w' ok _ [] hlen2 ⟨_,T,hnewc,arr,T,hheap,by
       simp only[List.size_toArray,List.length_append,List.length_take,List.length_drop,Array.length_toList,hR.len];omega⟩ hOL'
      have hrep:=hd.replace (w':=w') hob hat (fo':=[b]) (by simp) (by simpa using hbfo) (fun z _ hz=>hoth z (by rintro rfl;exact hz hbfo)) (by rw[hss];exact Nat.le_refl _) hK hown (.inl (fH hcs hlen2)) hsub hit;rcases g7 with eu | ⟨hn0,a2,eu⟩
      ·exact fin w' _ _ eu (fun b' hb'=>by injection hb' with hb';subst hb';exact hst) (fun h=>by simp at h) hrep
      ·subst hn0;have hnews0:news.take (min m 0)=[]:=by simp
       rw[hnews0] at hst;have hw2:w'=w:=by
        simp only[storeCells,Sem.run_pure] at hst;injection hst with _ hst
        exact hst.symm
       refine fin w' _ _ eu (fun b' hb'=>?_) (fun _=>hw2) hrep;rw[hnews0,hw2];simp[storeCells]
    ·exact hk.elim
   ·exact hk.elim
  ·exact hk.elim
 ·exact hk.elim
theorem Al {C:Ctx} (hT:cT C.P C.T=true) {o:Oper} (ho:cU n o=true) {t:Nat} {x:Operand} (hop:o.op = .range t x) {K:St->Prop} (hk:vo C o.dst t (opv σ x) σ K) (h:Stx w0 fp0 ok0 W n σ a w ok θ ρ φ) :
  eH C.P o a w K (Ste w0 fp0 ok0 W n):=by
 have hxv:=h.ops ho x (by rw[hop];simp[Op.operands]);unfold vo at hk;split at hk
 ·rename_i sz d r p ht hd hx;split at hk
  ·rename_i es hes;obtain⟨hr,hk⟩:=hk;rw[hx] at hxv;obtain⟨k,e,ki,ei,hki,hei,hu0,_⟩:=(vG hT ht).out;obtain⟨m,en,cl,hm1,hm2,hm3⟩:=qW h.rel hes hxv;have hrun:(execOp a.eval o).run C.P w = .ok (.value (.pointer (some ⟨w.heap.size,0,none⟩))) (w.alloc (.mapIter (some m) cl #[] cl)):=by
    simp[execOp,hop,hm1,Instr.range,run_underlying hu0,MapKept.run_getObj_map hm2.at_]
   have hnew:(w.alloc (.mapIter (some m) cl #[] cl)).heap[w.heap.size]? = some (.mapIter (some m) cl #[] cl):=heap_alloc_new w _;have h2:=(h.rel.alloc (.mapIter (some m) cl #[] cl)).root (r:=(d,0)) (d:=.itr) (u:=.pointer (some ⟨w.heap.size,0,none⟩)) (fp:=[w.heap.size]) hr
    (by simp only[Ow];exact⟨w.heap.size,some m,cl,#[],cl,rfl,rfl,hnew⟩) (by simp) (fun b hb=>by
     simp only[List.mem_singleton] at hb;subst hb;exact kt h.rel _)
   have hs:Stx w0 fp0 ok0 W n _ a _ ok θ _ _:=⟨h2,h.th,h.oks,h.okn,h.dfr,h.sz⟩;have hne:r≠(d,0):=fun e=>by
    subst e;unfold St.obj at hes;rw[hr] at hes;simp at hes
   have hold:∀ b,b < w.heap.size->(w.alloc (.mapIter (some m) cl #[] cl)).heap[b]? = w.heap[b]?:=fun b hb=>Go.RowKit.Below.heap_alloc w _ b hb;have hm4:(w.alloc (.mapIter (some m) cl #[] cl)).heap[m]? = some (.map en cl):=bV.heap (w:=w) ⟨by simp,hold⟩ hm2.at_;have hhdr:hdr (w.alloc (.mapIter (some m) cl #[] cl)) (ρ r) p=some (.map (some m)):=by
    rw[h.rel.rts_.hdr_mono (w':=w.alloc (.mapIter (some m) cl #[] cl)) (fun b ⟨q,e,he,hb⟩=>hold b ((h.rel.own q e he).2.2 b hb).2.2) hes];exact hm3
   have hf:FR (w.alloc (.mapIter (some m) cl #[] cl)) ok (σ.root (d,0) .itr) (upR ρ (d,0) (.pointer (some ⟨w.heap.size,0,none⟩))) (.it (d,0) r p es none) (.pointer (some ⟨w.heap.size,0,none⟩)):=by
    simp only[FR];refine⟨by simp[upR],by simp[St.root],w.heap.size,m,es,en,cl,#[],rfl,hnew,?_,by simpa[upR,hne] using hhdr,⟨hm4,hm2.kv,hm2.born,hm2.uniq,hm2.keys⟩,?_,by simp⟩
    ·simpa[St.obj,St.root,hne] using hes
    ·have:(en.toList.filter fun e=>!(#[]:Array Nat).contains e.born)=en.toList:=List.filter_eq_self.2 (by simp);rw[this];exact hm2.kv
   exact c8 hrun hk (hs.fin ho hd hf)
  ·exact hk.elim
 ·exact hk.elim
theorem Ap {en:List MapEntry} {seen:Array Nat} {i:Nat} {e:MapEntry} (hn:(en.map (·.born)).Nodup) (h:(en.filter fun e=>!seen.contains e.born)[i]? = some e) :
  (en.filter fun x=>!(seen.push e.born).contains x.born)=(en.filter fun e=>!seen.contains e.born).eraseIdx i:=by
 induction en generalizing i with
 | nil=>simp at h
 | cons x en ih=>
  have hn':x.born ∉ en.map (·.born)/\(en.map (·.born)).Nodup:=List.nodup_cons.1 hn
  by_cases hx:x.born∈seen
  ·have e1:((x :: en).filter fun e=>!seen.contains e.born)=en.filter fun e=>!seen.contains e.born:=by
    rw[List.filter_cons_of_neg (by simp[hx])]
   rw[e1] at h ⊢;rw[List.filter_cons_of_neg (by simp[hx])];exact ih hn'.2 h
  ·have e1:((x :: en).filter fun e=>!seen.contains e.born)=x :: en.filter fun e=>!seen.contains e.born:=by
    rw[List.filter_cons_of_pos (by simp[hx])]
   rw[e1] at h ⊢
   cases i with
   | zero=>
    simp only[List.getElem?_cons_zero,Option.some.injEq] at h;subst h;rw[List.filter_cons_of_neg (by simp)];simp only[List.eraseIdx_cons_zero];apply List.filter_congr;intro y hy;have hne:y.born≠x.born:=fun e=>hn'.1 (by rw[<-e];exact List.mem_map.2 ⟨y,hy,rfl⟩);congr 1;rw[Bool.eq_iff_iff];simp[hne]
   | succ i=>
    simp only[List.getElem?_cons_succ] at h;have hem:e∈en:=(List.mem_filter.1 (List.mem_of_getElem? h)).1;have hne:x.born≠e.born:=fun e'=>hn'.1 (by rw[e'];exact List.mem_map.2 ⟨e,hem,rfl⟩);rw[List.filter_cons_of_pos (by simp[hx,hne])];simp only[List.eraseIdx_cons_succ];rw[ih hn'.2 h]
theorem Ek {ty b mb clock:Nat} {seen:Array Nat} {en:Array MapEntry} (hb:w.heap[b]? = some (.mapIter (some mb) clock seen clock)) (hm:w.heap[mb]? = some (.map en clock)) (hold:∀ x∈en.toList,x.born < clock) :
  ((en.toList.filter fun e=>!seen.contains e.born)=[]/\(Instr.next (.pointer (some ⟨b,0,none⟩)) false ty).run P w = .ok (.tuple #[.bool false]) w) \/
  ∃ (i:Nat) (e:MapEntry) (w1:World),(en.toList.filter fun e=>!seen.contains e.born)[i]? = some e/\(w1=w\/w1=w.drew) /\
   (Instr.next (.pointer (some ⟨b,0,none⟩)) false ty).run P w = .ok (.tuple #[.bool true,e.key,e.val]) (fD w1 b (.mapIter (some mb) clock (seen.push e.born) clock)):=by
 have r1:(getObj b).run P w = .ok (.mapIter (some mb) clock seen clock) w:=by simp[getObj,Sem.run,hb]
 have ht:=next_test_false seen en clock clock hold (Nat.le_refl _);have e1:((en.filter fun e=>!seen.contains e.born).filter fun x=>decide (x.born < clock))=en.filter fun e=>!seen.contains e.born:=Array.filter_eq_self.2 (fun x hx=>by
  simp only[Array.mem_filter] at hx;simpa using hold x (by simpa using hx.1))
 have e2:((en.filter fun e=>!seen.contains e.born).filter fun x=>decide (x.born ≥ clock)) = #[]:=by
  rw[Array.filter_eq_empty_iff];intro x hx;simp only[Array.mem_filter] at hx;have:=hold x (by simpa using hx.1);simp;omega
 have htl:(en.toList.filter fun e=>!seen.contains e.born)=(en.filter fun e=>!seen.contains e.born).toList:=by simp
 rw[htl];simp only[Instr.next,Sem.run_bind,r1,Result.andThen_ok,MapKept.run_getObj_map hm,ht,Bool.false_eq_true,if_false,e1,e2,Array.append_empty];generalize (en.filter fun e=>!seen.contains e.born)=L
 by_cases h0:L.size=0
 ·left
  have:L = #[]:=Array.eq_empty_of_size_eq_zero h0;subst this;refine⟨rfl,?_⟩;simp[choose,Sem.run,Question.forced]
 ·right
  have hne:L.isEmpty=false:=by simp[Array.isEmpty,h0]
  simp only[hne,Bool.false_eq_true,if_false,Array.empty_append,Array.size_map];have hch:∃ (j:Nat) (w1:World),j < L.size/\(w1=w\/w1=w.drew)/\(choose (Question.mapNext L.size)).run P w = .ok j w1:=by
   by_cases hf:L.size<=1
   ·exact⟨0,w,by omega,.inl rfl,by simp[choose,Sem.run,Question.forced,hf]⟩
   ·exact⟨_,w.drew,Nat.mod_lt _ (by omega),.inr rfl,by
     simp only[choose,Sem.run,Question.forced,decide_eq_true_eq,hf,if_false,Question.cut];rfl⟩
  obtain⟨j,w1,hj,hw1,hrun⟩:=hch;refine⟨j,L[j],w1,by simp[hj],hw1,?_⟩;have hb1:w1.heap[b]? = some (.mapIter (some mb) clock seen clock):=by rcases hw1 with rfl | rfl <;> exact hb
  have hset:(setObj b (.mapIter (some mb) clock (seen.push L[j].born) clock)).run P w1 = .ok () (fD w1 b (.mapIter (some mb) clock (seen.push L[j].born) clock)):=by
   simp[setObj,Sem.run,hb1,fD]
  simp only[hrun,Result.andThen_ok,Array.getElem?_map,Array.getElem?_eq_getElem hj,Option.map_some,Sem.run_bind,hset,Sem.run_pure]
theorem Ci {C:Ctx} {o:Oper} (ho:cU n o=true) {x:Operand} {s:Bool} (hop:o.op = .next x s) {K:St->Prop} (hk:yd o.dst x s σ K) (h:Stx w0 fp0 ok0 W n σ a w ok θ ρ φ):eH C.P o a w K (Ste w0 fp0 ok0 W n):=by
 have hxv:=h.ops ho x (by rw[hop];simp[Op.operands]);have hsm:=dc ho;unfold yd at hk;split at hk
 ·rename_i t d hdd;split at hk
  ·rename_i r m p rest cur hit;obtain⟨hdt,hk1,hk2⟩:=hk;have htn:t < n:=by
    simp only[cU,hop,Op.operands,Bool.and_eq_true,List.all_cons,iB] at ho;simpa using ho.1
   have hfr:FR w ok σ ρ (.it r m p rest cur) (a.eval (.tmp t)):=by rw[<-hit];exact hxv
   have hfr':=hfr;simp only[FR] at hfr;obtain⟨f1,f2,b,mb,es,en,clock,seen,f3,f4,f5,f6,f7,f8,f9⟩:=hfr;have hOwr:=(h.rel.own r _ f2).1;simp only[Ow] at hOwr;obtain⟨b',m',s',x',l',y1,y2,y3⟩:=hOwr;rw[<-f1,f3] at y1;injection y1 with y1;injection y1 with y1;injection y1 with y1 _ _
   subst y1;rcases Ek (P:=C.P) (ty:=o.type) f4 f7.at_ f7.born with ⟨e0,hrun⟩ | ⟨i,e,w1,he,hw1,hrun⟩
   ·have hrest:rest=[]:=by
     rw[e0] at f8;simpa using f8.symm
    have hrun':(execOp a.eval o).run C.P w = .ok (.value (.tuple #[.bool false])) w:=by
     simp[execOp,hop,f3,hrun]
    have hf:FR w ok σ ρ (.tu [.bool false]) (.tuple #[.bool false]):=by
     simp only[FR];exact⟨_,rfl,by simp[FRL,FR,Sh]⟩
    exact c8 hrun' (hk1 hrest) (h.fin ho hdd hf)
   ·have hxr:∃ xr:List Int×Int,rest[i]? = some xr/\e.key=eO xr.1/\e.val = .int .i64 xr.2:=by
     have:=congrArg (·[i]?) f8;simp only[List.getElem?_map,he,Option.map_some] at this
     cases hr:rest[i]? with
     | none=>simp[hr] at this
     | some xr=>
      simp only[hr,Option.map_some,Option.some.injEq,Prod.mk.injEq] at this;exact⟨xr,rfl,this.1,this.2⟩
    obtain⟨xr,hxr1,hxr2,hxr3⟩:=hxr;have hrel1:Rel w0 fp0 ok σ θ w1 ρ φ:=by rcases hw1 with rfl | rfl;exact h.rel;exact h.rel.drew
    have hw1h:w1.heap=w.heap:=by rcases hw1 with rfl | rfl <;> rfl
    generalize hw':fD w1 b (.mapIter (some mb) clock (seen.push e.born) clock)=w' at hrun;have hnewb:w'.heap[b]? = some (.mapIter (some mb) clock (seen.push e.born) clock):=by rw[<-hw'];exact xh (by rw[hw1h];exact f4)
    have hoth:∀ z,z≠b->w'.heap[z]? = w1.heap[z]?:=fun z hz=>by rw[<-hw'];exact jb.1 z hz
    have hss:w'.heap.size=w1.heap.size:=by rw[<-hw'];exact jb.2
    have hbb:=(h.rel.own r _ f2).2.2 b (by rw[y2];simp);have hmem:∀ q e',q≠r->σ.rts q=some e'->b ∉ φ q:=fun q e' hq he' hb=>h.rel.dis q r e' _ hq he' f2 b hb (by rw[y2];simp);have hK:de w0 fp0 w':=⟨by rw[<-hw'];exact hrel1.frm.os,by rw[<-hw'];exact hrel1.frm.out,by rw[<-hw'];exact hrel1.frm.tape,by rw[<-hw'];exact hrel1.frm.drawn,by rw[hss];exact hrel1.frm.size,fun z hz hn=>by
     rw[hoth z (by rintro rfl;rcases hbb.2.1 with h | h;exact hn h;omega)];exact hrel1.frm.old z hz hn⟩
    have hmne:m≠r:=fun e=>by
     subst e;unfold St.obj at f5;rw[f2] at f5
     cases p <;> simp[bw,D.cells?] at f5
    have hobjr:∀ s x,σ.obj r s=some x->¬ fV x:=fun s x hx=>by
     unfold St.obj at hx;rw[f2] at hx
     cases s with
     | nil=>
      simp only[bw,Option.some.injEq] at hx;subst hx;rintro (hh | ⟨es,hh⟩)
      ·simp[D.cells?] at hh
      ·simp at hh
     | cons j s=>simp[bw,D.cells?] at hx
    have hhdr:∀ q s x,q≠r->σ.obj q s=some x->hdr w' (ρ q) s=hdr w1 (ρ q) s:=fun q s x hq hx=>by
     unfold St.obj at hx;split at hx
     ·rename_i dq hdq;exact gX s dq _ _ x (hrel1.own q dq hdq).1 (fun z hz=>hoth z (by rintro rfl;exact hmem q dq hq hdq hz)) hx
     ·simp at hx
    have hown:∀ q dq,σ.rts q=some dq->Ow w' ok dq (ρ q) (φ q):=fun q dq hq=>by
     by_cases hqr:q=r
     ·subst hqr;rw[f2] at hq;injection hq with hq
      subst hq;simp only[Ow];exact⟨b,some mb,clock,seen.push e.born,clock,by rw[<-f1];exact f3,y2,hnewb⟩
     ·exact fI (fun z hz=>⟨hz,hoth z (by rintro rfl;exact hbb.1 hz)⟩) _ _ _ (fun z hz=>hoth z (by rintro rfl;exact hmem q dq hqr hq hz)) (hrel1.own q dq hq).1
    have henv:∀ s,FR w' ok σ ρ ((σ.env s).notIt r) (θ s):=fun s=>by
     have S:Sim w1 ok σ ρ w' ok σ ρ (fun q s=>∃ o,σ.obj q s=some o/\fV o) (fun r p=>(r,p)):=⟨fun z hz=>⟨hz,hoth z (by rintro rfl;exact hbb.1 hz)⟩,fun q s x hg hx=>by
      have hq:q≠r:=fun e=>by
       subst e;obtain⟨x2,hx2,hob⟩:=hg;exact hobjr s x2 hx2 hob
      exact⟨x,hx,.inl (bX x),hhdr q s x hq hx⟩⟩
     have J:Cd w1 σ ρ w' σ ρ (fun q m s=>(σ.rts q=some .itr/\∃ es,σ.obj m s=some (.mp es))/\q≠r):=⟨fun q m' s b2 mb2 es2 hi g1 g2 g3 g4=>by
      have hOwq:=(hrel1.own q _ g1).1;simp only[Ow] at hOwq;obtain⟨b3,_,_,_,_,z1,z2,z3⟩:=hOwq;rw[g2] at z1;injection z1 with z1;injection z1 with z1;injection z1 with z1 _ _
      subst z1;have hb2:b2≠b:=by rintro rfl;exact hmem q _ hi.2 g1 (by rw[z2];simp)
      have hm'r:m'≠r:=fun e=>by
       subst e;exact hobjr s _ g3 (.inr ⟨es2,rfl⟩)
      obtain⟨hv5,fo5,hat5⟩:=hrel1.rts_.at_ (r:=m') (p:=s) g3;have:=hat5.own;simp only[Ow] at this;obtain⟨m6,en6,cl6,e6,e7,e8⟩:=this;have e9:hv5 = .map (some mb2):=by have:=hat5.hdr;rw[g4] at this;injection this with this;exact this.symm
      rw[e9] at e6;injection e6 with e6;injection e6 with e6
      subst e6;have hmb:mb2≠b:=by
       rintro rfl;have g3':=g3;unfold St.obj at g3';split at g3'
       ·rename_i d5 hd5;exact hmem m' d5 hm'r hd5 (hat5.sub _ (by rw[e7];simp))
       ·simp at g3'
      exact⟨g1,rfl,hoth b2 hb2,g3,by rw[hhdr m' s _ hm'r g3];exact g4,hoth mb2 hmb⟩⟩
     have hfs:=hrel1.env s;unfold FV.notIt;split
     ·split
      ·rename_i q m' p' l' c' hq;rw[hq] at hfs;split
       ·simp[FR]
       ·rename_i hqr;have ha:=gK _ _ hfs;exact gf S J _ _ ⟨ha,hqr⟩ hfs
      ·simp[FR]
     ·rename_i hh;have ha:=ud _ (by simpa using hh) (gK _ _ hfs);exact gf S J _ _ (gP (fun _ _ h=>h) (fun _ _ _ h=>h.elim) _ ha) hfs
    have hfind:en.find? (·.born == e.born)=some e:=by
     rw[<-Array.find?_toList];exact find_born e en.toList f7.uniq (List.mem_filter.1 (List.mem_of_getElem? he)).1
    have hmb:mb≠b:=by
     rintro rfl;have:=f7.at_;rw[f4] at this;simp at this
    have hnewit:FR w' ok σ ρ (.it r m p (rest.eraseIdx i) (some xr)) (a.eval (.tmp t)):=by
     simp only[FR];refine⟨f1,f2,b,mb,es,en,clock,seen.push e.born,f3,hnewb,f5,?_,⟨by rw[hoth mb hmb,hw1h];exact f7.at_,f7.kv,f7.born,f7.uniq,f7.keys⟩,?_,?_⟩
     ·rw[hhdr m p _ hmne f5];rcases hw1 with rfl | rfl
      ·exact f6
      ·rw[h.rel.rts_.hdr_mono (w':=w.drew) (fun _ _=>rfl) f5];exact f6
     ·rw[Ap f7.uniq he,nb,f8,nb]
     ·intro x0 hx0;injection hx0 with hx0
      subst hx0;exact⟨e.born,by simp,e,hfind,hxr2,hxr3⟩
    have hthx:θ t=a.eval (.tmp t):=h.th.1 t (Nat.lt_of_lt_of_le htn (by rw[<-h.sz];exact h.th.2.2));have hrel':Rel w0 fp0 ok (σ.setIt r t (.it r m p (rest.eraseIdx i) (some xr))) θ w' ρ φ:=by
     refine⟨fun q dq hq=>⟨hown q dq hq,(hrel1.own q dq hq).2.1,fun z hz=>?_⟩,hrel1.dis,fun s=>?_,fun z hz=>by rw[hss];exact hrel1.okb z hz,hK⟩
     ·have:=(hrel1.own q dq hq).2.2 z hz;exact⟨this.1,this.2.1,by rw[hss];exact this.2.2⟩
     ·show FR w' ok _ ρ (if s=t then .it r m p (rest.eraseIdx i) (some xr) else (σ.env s).notIt r) (θ s);split
      ·rename_i hst;subst hst;rw[hthx];exact iR (σ1:=σ) (σ2:=σ.setIt r s (.it r m p (rest.eraseIdx i) (some xr))) rfl _ _ hnewit
      ·exact iR (σ1:=σ) (σ2:=σ.setIt r t (.it r m p (rest.eraseIdx i) (some xr))) rfl _ _ (henv s)
    have hrun':(execOp a.eval o).run C.P w = .ok (.value (.tuple #[.bool true,e.key,e.val])) w':=by
     simp[execOp,hop,f3,hrun]
    have hs:Stx w0 fp0 ok0 W n _ a w' ok θ ρ φ:=⟨hrel',h.th,h.oks,h.okn,h.dfr,h.sz⟩;have hf:FR w' ok (σ.setIt r t (.it r m p (rest.eraseIdx i) (some xr))) ρ (.tu [.bool true,.ag (xr.1.map fun n=>.int n),.int xr.2]) (.tuple #[.bool true,e.key,e.val]):=by
     simp only[FR];refine⟨_,rfl,?_⟩;simp only[FRL,FR];exact⟨_,_,rfl,by simp[Sh],_,_,rfl,⟨(xr.1.map (Value.int .i64)).toArray,by rw[hxr2];rfl,by simpa using td xr.1⟩,_,_,rfl,by simp[Sh,hxr3],rfl⟩
    exact c8 hrun' (hk2 i xr hxr1) (hs.fin ho hdd hf)
  ·exact hk.elim
 ·exact hk.elim
end
end Go.Proofs.YtncfmemhjahpeaaGreat.Ab
namespace Go.Proofs.YtncfmemhjahpeaaGreat.Ab
open Go
section
variable {w0 w:World} {fp0:List Nat} {ok0 ok:Nat->Prop} {W:Nat->Value} {n:Nat} {P:Program} {T:TT} {σ:St} {θ:Nat->Value} {ρ:Rn->Value} {φ:Rn->List Nat} {a:Act}
theorem p9 {t e:Nat} {b:Option Addr} {k c:Nat} (h:P.underlying t=some (.slice e)) (w':World):(Op.equal t (.slice b k c) (.slice none 0 0)).run P w' = .ok b.isNone w':=by
 have key:∀ d,(Op.equalIn (d+1) t (.slice b k c) (.slice none 0 0)).run P w' = .ok b.isNone w':=fun d=>by
  cases b <;> simp[Op.equalIn,run_underlying h]
 exact key 9999
theorem CF {C:Ctx} (hT:cT C.P C.T=true) {o:Oper} (ho:cU n o=true) {op:BinOp} {t t':Nat} {x y:Operand} (hop:o.op = .binOp op t x y t') (hy:qv y=true) {K:St->Prop} (hk:B5 C o.dst op t (opv σ x) σ K)
  (h:Stx w0 fp0 ok0 W n σ a w ok θ ρ φ):eH C.P o a w K (Ste w0 fp0 ok0 W n):=by
 have hxv:=h.ops ho x (by rw[hop];simp[Op.operands]);have hyv:a.eval y = .slice none 0 0:=by
  unfold qv at hy;split at hy
  ·rfl
  ·simp at hy
 unfold B5 at hk;split at hk
 ·rename_i i hi;split at hk
  ·rename_i e hke;have hu:=kK (b9 hT hi) hke;have shape:∀ (K':Bool->Prop),uj (opv σ x) K'->∃ b k c,a.eval x = .slice b k c/\K' b.isNone:=by
    intro K' hn;unfold uj at hn;split at hn
    ·rename_i heq;rw[heq] at hxv;exact⟨none,0,0,eI hxv,hn⟩
    ·rename_i heq;rw[heq] at hxv;simp only[FR,Sh] at hxv;obtain⟨b,e⟩:=hxv;exact⟨b,0,0,e,hn _⟩
    ·rename_i r p lo n' heq;rw[heq] at hxv;obtain⟨b,c,e,_⟩:=qQ h.rel rfl hxv;refine⟨b,n',c,e,hn _ fun hn0=>?_⟩;simp only[FR] at hxv;obtain⟨k',N,cs,hv,g1,g2,g3,g4⟩:=hxv;rcases j5 h.rel g1 g2 with ⟨b',o',cp,e1,e2,e3⟩ | ⟨e1,a0,e2⟩
     ·rcases g4 with ⟨_,a',N',c',e4,e5⟩ | ⟨_,b2,o2,N',c',e4,_,⟨_,e5⟩ | ⟨_,e6,_⟩⟩
      ·rw[e1] at e4
       cases e4
       rw[e] at e5
       cases e5
       rfl
      ·rw[e] at e5
       cases e5
       rfl
      ·exact absurd e6 hn0
     ·omega
    ·rename_i k n' cs heq;rw[heq] at hxv;simp only[FR,Sh] at hxv;obtain⟨b,c,e,_,hl,h4⟩:=hxv;refine⟨b,n',c,e,hn _ fun hn0=>?_⟩;rcases h4 with rfl | ⟨b',o',rfl,_⟩
     ·have:k*n'=0:=by simpa using hl.symm
      rcases Nat.mul_eq_zero.1 this with h | h
      ·exact absurd h hn0.2
      ·exact absurd h hn0.1
     ·rfl
    ·exact hn.elim
   have hg:∀ (b:Option Addr) (k c:Nat),(eqGuard op t x y (.slice b k c) (.slice none 0 0)).run C.P w = .ok () w:=fun b k c=>by
    unfold eqGuard;split <;> rfl
   split at hk
   ·obtain⟨b,k,c,e1,hK⟩:=shape _ hk;have hrun:(execOp a.eval o).run C.P w = .ok (.value (.bool b.isNone)) w:=by
     simp[execOp,hop,e1,hyv,hg,binOp,p9 hu]
    obtain⟨θ',h3⟩:=h.put (dst:=o.dst) (dc ho) (f:=.bool b.isNone) (v:=.bool b.isNone) (by simp[FR,Sh]);exact c8 hrun hK ⟨_,_,_,_,h3⟩
   ·obtain⟨b,k,c,e1,hK⟩:=shape _ hk;have hrun:(execOp a.eval o).run C.P w = .ok (.value (.bool (!b.isNone))) w:=by
     simp[execOp,hop,e1,hyv,hg,binOp,p9 hu]
    obtain⟨θ',h3⟩:=h.put (dst:=o.dst) (dc ho) (f:=.bool (!b.isNone)) (v:=.bool (!b.isNone)) (by simp[FR,Sh]);exact c8 hrun hK ⟨_,_,_,_,h3⟩
   ·exact hk.elim
  ·exact hk.elim
 ·exact hk.elim
structure pH (w:World) (ok:Nat->Prop) (σ:St) (φ:Rn->List Nat) (lent:List Rn) (ok2:Nat->Prop):Prop where
 mono:∀ b,ok b->ok2 b
 lent:∀ r∈lent,∀ d,σ.rts r=some d->∀ b∈φ r,ok2 b
theorem lB {r:Rn} {p:List Nat} {o:D} (h:σ.obj r p=some o):∃ d,σ.rts r=some d/\bw d p=some o:=by
 unfold St.obj at h;split at h
 ·rename_i d hd;exact⟨d,hd,h⟩
 ·simp at h
theorem BG (h:Rel w0 fp0 ok σ θ w ρ φ) {lent:List Rn} {ok2:Nat->Prop} (hL:pH w ok σ φ lent ok2) {r:Rn} (hr:r∈lent) {p:List Nat} {o:D} {hv:Value} (ho:σ.obj r p=some o) (hh:hdr w (ρ r) p=some hv) :
  ∃ fo,Ow w ok o hv fo/\∀ b∈fo,ok2 b:=by
 obtain⟨hv',fo,hat⟩:=h.rts_.at_ (r:=r) (p:=p) ho;have e:hv'=hv:=by have:=hat.hdr;rw[hh] at this;injection this with this;exact this.symm
 subst e;obtain⟨d,hd,_⟩:=lB ho;exact⟨fo,hat.own,fun b hb=>hL.lent r hr d hd b (hat.sub b hb)⟩
theorem sW (j:Nat) (cs:List D):shareL (cs.take j)=(shareL cs).take j:=by
 induction cs generalizing j with
 | nil=>simp[shareL]
 | cons c cs ih=>cases j <;> simp[shareL,ih]
theorem lP (j:Nat) (cs:List D):shareL (cs.drop j)=(shareL cs).drop j:=by
 induction cs generalizing j with
 | nil=>simp[shareL]
 | cons c cs ih=>cases j <;> simp[shareL,ih]
theorem mq (h:Rel w0 fp0 ok σ θ w ρ φ) {lent:List Rn} {ok2:Nat->Prop} (hL:pH w ok σ φ lent ok2) {r:Rn} (hr:r∈lent) {p:List Nat} {o:D} {hv:Value} {cs:List D} {b q:Nat} (ho:σ.obj r p=some o) (hh:hdr w (ρ r) p=some hv)
  (hc:o.cells? = some cs) (hne:cs≠[]) (hb:gZ hv=some (b,q)):ok2 b/\ShL w ok2 b (shareL cs) q:=by
 obtain⟨fo,h1,h2⟩:=BG h hL hr ho hh;obtain⟨b',o',fp',e1,e2,h3,_⟩:=j6 h1 hc hne;rw[hb] at e1;injection e1 with e1;injection e1 with e1 e1';subst e1;subst e1';exact⟨h2 b (by rw[e2];simp),ShL_share (fun b hb=>hL.mono b hb) b cs q fp' (fun x hx=>h2 x (by rw[e2];simp[hx])) h3⟩
theorem wA (h:Rel w0 fp0 ok σ θ w ρ φ) {lent:List Rn} {ok2:Nat->Prop} (hL:pH w ok σ φ lent ok2) {r:Rn} (hr:r∈lent) {p:List Nat} {k N lo n':Nat} {cs:List D} {u:Value} (ho:σ.obj r p=some (.ow k N cs))
  (hu:FR w ok σ ρ (.al r p lo n') u):Sh w ok2 (.sh k n' (shareL ((cs.drop (k*lo)).take (k*n')))) u:=by
 obtain⟨a1,c1,e1,hle,_⟩:=qQ h rfl hu;simp only[FR] at hu;obtain⟨k',N',cs',hv,g1,g2,g3,g4⟩:=hu;rw[ho] at g1
 cases g1
 have hcl:=ov h ho;have hlen:(shareL ((cs.drop (k*lo)).take (k*n'))).length=k*n':=by
  rw[jU,List.length_take,List.length_drop,hcl,<-Nat.mul_sub,Nat.min_eq_left (Nat.mul_le_mul_left _ (by omega))]
 simp only[Sh];refine⟨a1,c1,e1,hle,hlen,?_⟩
 by_cases hz:k*n'=0
 ·exact .inl (List.eq_nil_of_length_eq_zero (by rw[hlen,hz]))
 ·have hn0:n'≠0:=fun e=>hz (by simp[e]);have hk0:k≠0:=fun e=>hz (by simp[e]);have hne:cs≠[]:=fun e=>by
   rw[e] at hcl;have:k*N=0:=by simpa using hcl.symm
   rcases Nat.mul_eq_zero.1 this with h | h
   ·exact hk0 h
   ·omega
  rcases j5 h ho g2 with ⟨b,o,cp,e2,e3,e4⟩ | ⟨e2,_⟩
  ·obtain⟨k1,k2⟩:=mq h hL hr ho g2 rfl hne e4;refine .inr ⟨b,o+k*lo,?_,k1,?_⟩
   ·rcases g4 with ⟨rfl,a',N',c',e5,e6⟩ | ⟨_,b',o',N',c',e5,_,⟨_,e6⟩ | ⟨_,e6,_⟩⟩
    ·rw[e2] at e5
     cases e5
     rw[e1] at e6
     cases e6
     simp
    ·rw[e2] at e5
     cases e5
     rw[e1] at e6
     cases e6
     rfl
    ·exact absurd e6 hn0
   ·rw[sW,lP];exact oZ _ (ka _ k2)
  ·omega
mutual
theorem mB (h:Rel w0 fp0 ok σ θ w ρ φ) {ok2:Nat->Prop} {lent:List Rn} (hL:pH w ok σ φ lent ok2) (σ':St) (ρ':Rn->Value):∀ (f g:FV) (q:List Rn) (u:Value),eQ σ f=some (g,q)->(∀ r∈q,r∈lent)->FR w ok σ ρ f u->FR w ok2 σ' ρ' g u
 | .d x,g,q,u,hs,hq,hu=>by
  simp only[eQ] at hs;split at hs
  ·injection hs with hs
   injection hs with h1 h2
   subst h1;simp only[FR] at hu ⊢;exact gh (fun b hb=>⟨hL.mono b hb,rfl⟩) x u hu
  ·simp at hs
 | .sp cs off,g,q,u,hs,hq,hu=>by
  simp only[eQ,Option.some.injEq,Prod.mk.injEq] at hs;obtain⟨h1,h2⟩:=hs;subst h1;simp only[FR,Sh] at hu ⊢;obtain⟨b,o,e,hb,h3⟩:=hu;exact⟨b,o+off,e,hL.mono b hb,ka off (ShL_mono (fun b hb=>⟨hL.mono b hb,rfl⟩) b hb cs o h3)⟩
 | .al r p lo n',g,q,u,hs,hq,hu=>by
  simp only[eQ] at hs;split at hs
  ·rename_i k N cs ho;split at hs
   ·rename_i hc;injection hs with hs
    injection hs with h1 h2
    subst h1;subst h2;have:=wA h hL (hq r (by simp)) ho hu;simp only[FR];have e:(cs.drop (k*lo)).take (k*n')=cs:=by
     rw[hc.1,hc.2];simp only[Nat.mul_zero,List.drop_zero];exact List.take_of_length_le (by rw[ov h ho];exact Nat.le_refl _)
    rw[e] at this;exact this
   ·injection hs with hs
    injection hs with h1 h2
    subst h1;subst h2;simp only[FR];exact wA h hL (hq r (by simp)) ho hu
  ·simp at hs
 | .cu r p n',g,q,u,hs,hq,hu=>by
  simp only[eQ] at hs;split at hs
  ·rename_i k N cs ho;injection hs with hs
   injection hs with h1 h2
   subst h1;subst h2;simp only[FR] at hu;obtain⟨k',N',cs',hv,a',M,c',g1,g2,g3,g4,g5⟩:=hu;rw[ho] at g1
   cases g1
   have hM:M=N:=by
    rcases j5 h ho g2 with ⟨b,o,cp,e2,_,_⟩ | ⟨e2,a0,e3⟩
    ·rw[e2] at g4
     cases g4
     rfl
    ·rw[e3] at g4
     cases g4
     omega
   subst hM;have hfr:FR w ok σ ρ (.al r p 0 n') (.slice a' n' c'):=by
    simp only[FR];exact⟨k,M,cs,hv,ho,g2,by omega,.inl ⟨rfl,a',M,c',g4,rfl⟩⟩
   have:=wA h hL (hq r (by simp)) ho hfr;simp only[Nat.mul_zero,List.drop_zero] at this;simp only[FR,Sh] at this ⊢;obtain⟨a1,c1,e1,_,h3,h4⟩:=this;injection e1 with e1 _ _
   subst e1;exact⟨a',n',g5,Nat.le_refl _,h3,h4⟩
  ·simp at hs
 | .pt r p off,g,q,u,hs,hq,hu=>by
  simp only[eQ] at hs;simp only[FR] at hu;obtain⟨o,cs,hv,b,q',g1,g2,g3,g4,g5⟩:=hu;split at hs
  ·rename_i cs0 ho;injection hs with hs
   injection hs with h1 h2
   subst h1;subst h2;rw[ho] at g1
   cases g1
   cases g2
   simp only[FR,Sh]
   by_cases hne:cs=[]
   ·subst hne;obtain⟨fo,k1,k2⟩:=BG h hL (hq r (by simp)) ho g3;simp only[Ow] at k1;obtain⟨b',arr,T,fp',e1,e2,_⟩:=k1;subst e1;injection g4 with g4
    injection g4 with g4 g4'
    subst g4;subst g4';exact⟨b',0+off,g5,k2 b' (by rw[e2];simp),by simp[shareL,ShL]⟩
   ·obtain⟨k1,k2⟩:=mq h hL (hq r (by simp)) ho g3 rfl hne g4;exact⟨b,q' + off,g5,k1,by rw[lP];exact ka off k2⟩
  ·rename_i k N c0 cs0 ho;injection hs with hs
   injection hs with h1 h2
   subst h1;subst h2;rw[ho] at g1
   cases g1
   cases g2
   simp only[FR,Sh];obtain⟨k1,k2⟩:=mq h hL (hq r (by simp)) ho g3 rfl (by simp) g4;exact⟨b,q' + off,g5,k1,by rw[lP];exact ka off k2⟩
  ·simp at hs
 | .ar r p off n',g,q,u,hs,hq,hu=>by
  simp only[eQ] at hs;simp only[FR] at hu;obtain⟨o,cs,hv,b,q',c,g1,g2,g3,g4,g5,g6,g7⟩:=hu;rw[g1] at hs;simp only[g2] at hs;injection hs with hs
  injection hs with h1 h2
  subst h1;subst h2;have hlen:(shareL ((cs.drop off).take n')).length=1*n':=by
   rw[jU,List.length_take,List.length_drop];omega
  simp only[FR,Sh];rcases g7 with e | ⟨rfl,a',e⟩
  ·by_cases hn0:n'=0
   ·subst hn0;exact⟨_,c,e,g6,hlen,.inl (by simp[shareL])⟩
   ·have hne:cs≠[]:=fun e=>by subst e;simp at g5;omega
    obtain⟨k1,k2⟩:=mq h hL (hq r (by simp)) g1 g3 g2 hne g4;exact⟨_,c,e,g6,hlen,.inr ⟨b,q' + off,rfl,k1,by rw[sW,lP];exact oZ _ (ka _ k2)⟩⟩
  ·exact⟨a',0,e,Nat.le_refl _,by simp[shareL],.inl (by simp[shareL])⟩
 | .ag fs,g,q,u,hs,hq,hu=>by
  simp only[eQ] at hs;split at hs
  ·rename_i l ql hl;injection hs with hs
   injection hs with h1 h2
   subst h1;subst h2;simp only[FR] at hu ⊢;obtain⟨vs,e,h3⟩:=hu;exact⟨vs,e,viewL_sound h hL σ' ρ' fs l ql vs.toList hl hq h3⟩
  ·simp at hs
 | .cl f fs,g,q,u,hs,hq,hu=>by
  simp only[eQ] at hs;split at hs
  ·rename_i l ql hl;injection hs with hs
   injection hs with h1 h2
   subst h1;subst h2;simp only[FR] at hu ⊢;obtain⟨vs,e,h3⟩:=hu;exact⟨vs,e,viewL_sound h hL σ' ρ' fs l ql vs.toList hl hq h3⟩
  ·simp at hs
 | .mr _ _,g,q,u,hs,hq,hu=>by simp[eQ] at hs
 | .it _ _ _ _ _,g,q,u,hs,hq,hu=>by simp[eQ] at hs
 | .tu fs,g,q,u,hs,hq,hu=>by
  simp only[eQ] at hs;split at hs
  ·rename_i l ql hl;injection hs with hs
   injection hs with h1 h2
   subst h1;subst h2;simp only[FR] at hu ⊢;obtain⟨vs,e,h3⟩:=hu;exact⟨vs,e,viewL_sound h hL σ' ρ' fs l ql vs.toList hl hq h3⟩
  ·simp at hs
 | .fb _ _,g,q,u,hs,hq,hu=>by simp[eQ] at hs
 | .dead,g,q,u,hs,hq,hu=>by simp[eQ] at hs
theorem viewL_sound (h:Rel w0 fp0 ok σ θ w ρ φ) {ok2:Nat->Prop} {lent:List Rn} (hL:pH w ok σ φ lent ok2) (σ':St) (ρ':Rn->Value):∀ (fs gs:List FV) (q:List Rn) (us:List Value),viewL σ fs=some (gs,q)->(∀ r∈q,r∈lent)->FRL w ok σ ρ fs us->FRL w ok2 σ' ρ' gs us
 | [],gs,q,us,hs,hq,hu=>by
  simp only[viewL,Option.some.injEq,Prod.mk.injEq] at hs;obtain⟨h1,h2⟩:=hs;subst h1;simpa only [FRL] using hu
 | f :: fs,gs,q,us,hs,hq,hu=>by
  simp only[viewL] at hs;split at hs
  ·rename_i g q1 hg;split at hs
   ·rename_i gs' qs hgs;injection hs with hs
    injection hs with h1 h2
    subst h1;subst h2;simp only[FRL] at hu ⊢;obtain⟨u,vs,e,h3,h4⟩:=hu;exact⟨u,vs,e,mB h hL σ' ρ' f g q1 u hg (fun r hr=>hq r (by simp[hr])) h3,viewL_sound h hL σ' ρ' fs gs' qs vs hgs (fun r hr=>hq r (by simp[hr])) h4⟩
   ·simp at hs
  ·simp at hs
end
end
end Go.Proofs.YtncfmemhjahpeaaGreat.Ab
namespace Go.Proofs.YtncfmemhjahpeaaGreat.Ab
open Go
section
variable {w0 w:World} {fp0:List Nat} {ok0 ok:Nat->Prop} {W:Nat->Value} {n:Nat} {P:Program} {T:TT} {σ:St} {θ:Nat->Value} {ρ:Rn->Value} {φ:Rn->List Nat} {a:Act}
structure lJ (w:World) (σ':St) (ρ ρ':Rn->Value) (ios:List Io):Prop where
 it:∀ io∈ios,σ'.rts io.name=some io.d/\hdr w (ρ io.r) io.p=some (ρ' io.name)
theorem rb {nm:Rn} {f g:FV} {ios:List Io} {u:Value} (hs:qR σ nm f=some (g,ios)) (hu:FR w ok σ ρ f u) :
  (∀ io∈ios,σ.obj io.r io.p=some io.d)/\∀ (ok2:Nat->Prop) (σ':St) (ρ':Rn->Value),(∀ b,ok b->ok2 b)->lJ w σ' ρ ρ' ios->FR w ok2 σ' ρ' g u:=by
 unfold qR at hs;split at hs
 ·rename_i x;split at hs
  ·injection hs with hs
   injection hs with h1 h2
   subst h1;subst h2;refine⟨by simp,fun ok2 σ' ρ' hk _=>?_⟩;simp only[FR] at hu ⊢;exact gh (fun b hb=>⟨hk b hb,rfl⟩) x u hu
  ·simp at hs
 ·rename_i r p lo n';split at hs
  ·rename_i k N cs ho;split at hs
   ·rename_i hc;injection hs with hs
    injection hs with h1 h2
    subst h1;subst h2;refine⟨by simpa using ho,fun ok2 σ' ρ' hk hN=>?_⟩;obtain⟨g1,g2⟩:=hN.it _ (List.mem_cons_self ..);simp only at g1 g2;simp only[FR] at hu ⊢;obtain⟨k',N',cs',hv,q1,q2,q3,q4⟩:=hu;rw[ho] at q1
    cases q1
    rw[g2] at q2;injection q2 with q2
    refine⟨k,N,cs,ρ' nm,by simp[St.obj,g1,bw],by simp[hdr],by omega,?_⟩;rw[q2];rw[hc.1] at q4;exact q4
   ·simp at hs
  ·simp at hs
 ·rename_i r p off;split at hs
  ·rename_i cs ho;split at hs
   ·rename_i hc;injection hs with hs
    injection hs with h1 h2
    subst h1;subst h2;refine⟨by simpa using ho,fun ok2 σ' ρ' hk hN=>?_⟩;obtain⟨g1,g2⟩:=hN.it _ (List.mem_cons_self ..);simp only at g1 g2;simp only[FR] at hu ⊢;obtain⟨o,cs',hv,b,q,q1,q2,q3,q4,q5⟩:=hu;rw[ho] at q1
    cases q1
    rw[g2] at q3;injection q3 with q3
    subst hc;exact⟨.bx cs,cs,ρ' nm,b,q,by simp[St.obj,g1,bw],rfl,by simp[hdr],by rw[q3];exact q4,q5⟩
   ·simp at hs
  ·simp at hs
 ·simp at hs
theorem lJ.left {ρ':Rn->Value} {σ':St} {x y:List Io} (h:lJ w σ' ρ ρ' (x ++ y)):lJ w σ' ρ ρ' x:=⟨fun io hio=>h.it io (by simp[hio])⟩
theorem lJ.right {ρ':Rn->Value} {σ':St} {x y:List Io} (h:lJ w σ' ρ ρ' (x ++ y)):lJ w σ' ρ ρ' y:=⟨fun io hio=>h.it io (by simp[hio])⟩
theorem xI {i:Nat}:∀ (j:Nat) (fs gs:List FV) (ios:List Io) (us:List Value),ioL σ i j fs=some (gs,ios)->FRL w ok σ ρ fs us ->
  (∀ io∈ios,σ.obj io.r io.p=some io.d)/\∀ (ok2:Nat->Prop) (σ':St) (ρ':Rn->Value),(∀ b,ok b->ok2 b)->lJ w σ' ρ ρ' ios->FRL w ok2 σ' ρ' gs us
 | j,[],gs,ios,us,hs,hu=>by
  simp only[ioL,Option.some.injEq,Prod.mk.injEq] at hs;obtain⟨h1,h2⟩:=hs;subst h1;subst h2;exact⟨by simp,fun _ _ _ _ _=>by simpa only [FRL] using hu⟩
 | j,f :: fs,gs,ios,us,hs,hu=>by
  simp only[ioL] at hs;split at hs
  ·rename_i g q hg;split at hs
   ·rename_i gs' qs hgs;injection hs with hs
    injection hs with h1 h2
    subst h1;subst h2;simp only[FRL] at hu;obtain⟨u,vs,rfl,h3,h4⟩:=hu;obtain⟨a1,a2⟩:=rb hg h3;obtain⟨b1,b2⟩:=xI (j+1) fs gs' qs vs hgs h4;refine⟨fun io hio=>?_,fun ok2 σ' ρ' hk hN=>?_⟩
    ·rcases List.mem_append.1 hio with hio | hio
     ·exact a1 io hio
     ·exact b1 io hio
    ·simp only[FRL];exact⟨u,vs,rfl,a2 ok2 σ' ρ' hk hN.left,b2 ok2 σ' ρ' hk hN.right⟩
   ·simp at hs
  ·simp at hs
theorem EI {i:Nat} {f g:FV} {ios:List Io} {u:Value} (hs:Cl σ i f=some (g,ios)) (hu:FR w ok σ ρ f u) :
  (∀ io∈ios,σ.obj io.r io.p=some io.d)/\∀ (ok2:Nat->Prop) (σ':St) (ρ':Rn->Value),(∀ b,ok b->ok2 b)->lJ w σ' ρ ρ' ios->FR w ok2 σ' ρ' g u:=by
 unfold Cl at hs;split at hs
 ·rename_i fs;split at hs
  ·rename_i l q hl;injection hs with hs
   injection hs with h1 h2
   subst h1;subst h2;simp only[FR] at hu;obtain⟨vs,e,h3⟩:=hu;obtain⟨b1,b2⟩:=xI 0 fs l q vs.toList hl h3;refine⟨b1,fun ok2 σ' ρ' hk hN=>?_⟩;simp only[FR];exact⟨vs,e,b2 ok2 σ' ρ' hk hN⟩
  ·simp at hs
 ·exact rb hs hu
theorem uD (h:Rel w0 fp0 ok σ θ w ρ φ):∀ (i:Nat) (ms:List Bool) (fs gs:List FV) (lent:List Rn) (ios:List Io) (us:List Value),jF σ i ms fs=some (gs,lent,ios)->FRL w ok σ ρ fs us ->
  (∀ io∈ios,σ.obj io.r io.p=some io.d)/\∀ (lent':List Rn) (ok2:Nat->Prop) (σ':St) (ρ':Rn->Value),(∀ r∈lent,r∈lent')->pH w ok σ φ lent' ok2->lJ w σ' ρ ρ' ios->FRL w ok2 σ' ρ' gs us
 | i,ms,[],gs,lent,ios,us,hs,hu=>by
  simp only[jF,Option.some.injEq,Prod.mk.injEq] at hs;obtain⟨h1,h2,h3⟩:=hs;subst h1;subst h3;exact⟨by simp,fun _ _ _ _ _ _ _=>by simpa only [FRL] using hu⟩
 | i,ms,f :: fs,gs,lent,ios,us,hs,hu=>by
  simp only[jF] at hs;split at hs
  ·rename_i gs' lent1 ios1 hgs;simp only[FRL] at hu;obtain⟨u,vs,rfl,h3,h4⟩:=hu;obtain⟨b1,b2⟩:=uD h (i+1) ms.tail fs gs' lent1 ios1 vs hgs h4;split at hs
   ·split at hs
    ·rename_i g q hg;injection hs with hs
     injection hs with h1 hs
     injection hs with h2 h5
     subst h1;subst h2;subst h5;obtain⟨a1,a2⟩:=EI hg h3;refine⟨fun io hio=>?_,fun lent' ok2 σ' ρ' hl hL hN=>?_⟩
     ·rcases List.mem_append.1 hio with hio | hio
      ·exact a1 io hio
      ·exact b1 io hio
     ·simp only[FRL];exact⟨u,vs,rfl,a2 ok2 σ' ρ' hL.mono hN.left,b2 lent' ok2 σ' ρ' hl hL hN.right⟩
    ·simp at hs
   ·split at hs
    ·rename_i g q hg;injection hs with hs
     injection hs with h1 hs
     injection hs with h2 h5
     subst h1;subst h2;subst h5;refine⟨b1,fun lent' ok2 σ' ρ' hl hL hN=>?_⟩;simp only[FRL];exact⟨u,vs,rfl,mB h hL σ' ρ' f g q u hg (fun r hr=>hl r (by simp[hr])) h3,b2 lent' ok2 σ' ρ' (fun r hr=>hl r (by simp[hr])) hL hN⟩
    ·simp at hs
  ·simp at hs
theorem sO:∀ (i:Nat) (ms:List Bool) (fs gs:List FV) (lent:List Rn) (ios:List Io),jF σ i ms fs=some (gs,lent,ios)->gs.length=fs.length
 | i,ms,[],gs,lent,ios,hs=>by
  simp only[jF,Option.some.injEq,Prod.mk.injEq] at hs;simp[<-hs.1]
 | i,ms,f :: fs,gs,lent,ios,hs=>by
  simp only[jF] at hs;split at hs
  ·rename_i gs' lent1 ios1 hgs;have:=sO (i+1) ms.tail fs gs' lent1 ios1 hgs;split at hs
   ·split at hs
    ·injection hs with hs
     injection hs with h1 hs
     subst h1;simp[this]
    ·simp at hs
   ·split at hs
    ·injection hs with hs
     injection hs with h1 hs
     subst h1;simp[this]
    ·simp at hs
  ·simp at hs
structure kz (w0 w:World) (fp0:List Nat) (ok:Nat->Prop) (σ:St) (φ:Rn->List Nat) (fr:List Nat):Prop where
 nod:fr.Nodup
 bl:∀ b∈fr,Bnd w0 fp0 ok w.heap.size b/\∀ q e,σ.rts q=some e->b ∉ φ q
structure kH (w:World) (ok:Nat->Prop) (σ σ':St) (ρ ρ':Rn->Value) (φ φ':Rn->List Nat) (fx:List Nat):Prop where
 fr:∀ f u,FR w ok σ ρ f u->FR w ok σ' ρ' f u
 sub:∀ q e,σ'.rts q=some e->∀ b∈φ' q,(∃ e',σ.rts q=some e'/\b∈φ q)\/b∈fx
theorem kH.refl:kH w ok σ σ ρ ρ φ φ []:=⟨fun _ _ h=>h,fun q e he b hb=>.inl ⟨e,he,hb⟩⟩
theorem kH.trans {σ1 σ2:St} {ρ1 ρ2:Rn->Value} {φ1 φ2:Rn->List Nat} {f1 f2:List Nat} (h:kH w ok σ σ1 ρ ρ1 φ φ1 f1) (k:kH w ok σ1 σ2 ρ1 ρ2 φ1 φ2 f2):kH w ok σ σ2 ρ ρ2 φ φ2 (f1 ++ f2):=
 ⟨fun f u hf=>k.fr f u (h.fr f u hf),fun q e he b hb=>by
  rcases k.sub q e he b hb with ⟨e',he',hb'⟩ | hb'
  ·rcases h.sub q e' he' b hb' with hh | hh
   ·exact .inl hh
   ·exact .inr (by simp[hh])
  ·exact .inr (by simp[hb'])⟩
theorem pm (h:Rel w0 fp0 ok σ θ w ρ φ) {r:Rn} {d:D} {u:Value} {fp:List Nat} (hr:σ.rts r=none) (ho:Ow w ok d u fp) (hf:kz w0 w fp0 ok σ φ fp) :
  Rel w0 fp0 ok (σ.root r d) θ w (upR ρ r u) (upR φ r fp)/\kH w ok σ (σ.root r d) ρ (upR ρ r u) φ (upR φ r fp) fp:=by
 have hb:∀ b∈fp,(∀ q e,σ.rts q=some e->b ∉ φ q)/\Bnd w0 fp0 ok w.heap.size b:=fun b hb=>⟨(hf.bl b hb).2,(hf.bl b hb).1⟩;refine⟨h.root hr ho hf.nod hb,fun f u' hfu=>?_,fun q e he b hbq=>?_⟩
 ·have h2:=((h.via hfu).root (r:=r) (d:=d) (u:=u) (fp:=fp) hr ho hf.nod hb).env 0;exact iR (σ1:=St.root { σ with env:=fun _=>f } r d) (σ2:=σ.root r d) rfl _ _ h2
 ·by_cases hq:q=r
  ·subst hq
   right
   simpa[upR] using hbq
  ·left
   refine⟨e,by simpa[St.root,hq] using he,by simpa[upR,hq] using hbq⟩
theorem qc (h:Rel w0 fp0 ok σ θ w ρ φ) {d j j':Nat} {x:D} {f:FV} {σ':St} {u:Value} {fx:List Nat} (hs:oA d σ j x=some (f,σ',j')) (ho:Ow w ok x u fx) (hf:kz w0 w fp0 ok σ φ fx) :
  ∃ ρ' φ',Rel w0 fp0 ok σ' θ w ρ' φ'/\FR w ok σ' ρ' f u/\kH w ok σ σ' ρ ρ' φ φ' fx:=by
 unfold oA at hs;split at hs
 ·rename_i k N cs;split at hs
  ·rename_i hr;injection hs with hs
   injection hs with h1 hs
   injection hs with h2 h3
   subst h1;subst h2;obtain⟨g1,g2⟩:=pm h (by simpa using hr) ho hf;refine⟨_,_,g1,?_,g2⟩;simp only[FR];refine⟨k,N,cs,u,by simp[St.obj,St.root,bw],by simp[hdr,upR],by omega,.inl ⟨rfl,?_⟩⟩;simp only[Ow] at ho;rcases ho with ⟨rfl,_,_,a',e⟩ | ⟨b,o,c,arr,T,fp',e,_⟩
   ·exact⟨a',0,0,e,e⟩
   ·exact⟨_,N,c,e,e⟩
  ·simp at hs
 ·rename_i cs;split at hs
  ·rename_i hr;injection hs with hs
   injection hs with h1 hs
   injection hs with h2 h3
   subst h1;subst h2;obtain⟨g1,g2⟩:=pm h (by simpa using hr) ho hf;refine⟨_,_,g1,?_,g2⟩;simp only[Ow] at ho;obtain⟨b,arr,T,fp',e,_⟩:=ho;simp only[FR];exact⟨.bx cs,cs,u,b,0,by simp[St.obj,St.root,bw],rfl,by simp[hdr,upR],by subst e;rfl,by subst e;rfl⟩
  ·simp at hs
 ·rename_i es;split at hs
  ·rename_i hr;injection hs with hs
   injection hs with h1 hs
   injection hs with h2 h3
   subst h1;subst h2;obtain⟨g1,g2⟩:=pm h (by simpa using hr) ho hf;refine⟨_,_,g1,?_,g2⟩;simp only[FR];exact⟨es,u,by simp[St.obj,St.root,bw],by simp[hdr,upR],rfl⟩
  ·simp at hs
 ·split at hs
  ·rename_i hl;injection hs with hs
   injection hs with h1 hs
   injection hs with h2 h3
   subst h1;subst h2;refine⟨ρ,φ,h,?_,⟨fun _ _ h=>h,fun q e he b hb=>.inl ⟨e,he,hb⟩⟩⟩;simp only[FR];exact ET hl ho
  ·simp at hs
theorem kz.left {x y:List Nat} (h:kz w0 w fp0 ok σ φ (x ++ y)):kz w0 w fp0 ok σ φ x:=⟨(List.nodup_append.1 h.nod).1,fun b hb=>h.bl b (by simp[hb])⟩
theorem kz.right {x y:List Nat} (h:kz w0 w fp0 ok σ φ (x ++ y)) {σ':St} {ρ':Rn->Value} {φ':Rn->List Nat} (g:kH w ok σ σ' ρ ρ' φ φ' x):kz w0 w fp0 ok σ' φ' y:=
 ⟨(List.nodup_append.1 h.nod).2.1,fun b hb=>⟨(h.bl b (by simp[hb])).1,fun q e he hbq=>by
  rcases g.sub q e he b hbq with ⟨e',he',hb'⟩ | hb'
  ·exact (h.bl b (by simp[hb])).2 q e' he' hb'
  ·exact (List.nodup_append.1 h.nod).2.2 b hb' b hb rfl⟩⟩
theorem pU {d:Nat}:∀ (ds:List D) (σ:St) (ρ:Rn->Value) (φ:Rn->List Nat) (j j':Nat) (fs:List FV) (σ':St) (us:List Value) (fx:List Nat),Rel w0 fp0 ok σ θ w ρ φ->mH d σ j ds=some (fs,σ',j')->bO w ok ds us fx->kz w0 w fp0 ok σ φ fx ->
  ∃ ρ' φ',Rel w0 fp0 ok σ' θ w ρ' φ'/\FRL w ok σ' ρ' fs us/\kH w ok σ σ' ρ ρ' φ φ' fx
 | [],σ,ρ,φ,j,j',fs,σ',us,fx,h,hs,ho,hf=>by
  simp only[mH,Option.some.injEq,Prod.mk.injEq] at hs;obtain⟨h1,h2,h3⟩:=hs;subst h1;subst h2;simp only[bO] at ho;obtain⟨rfl,rfl⟩:=ho;exact⟨ρ,φ,h,by simp[FRL],.refl⟩
 | x :: ds,σ,ρ,φ,j,j',fs,σ',us,fx,h,hs,ho,hf=>by
  simp only[mH] at hs;split at hs
  ·rename_i f σ1 j1 h1;split at hs
   ·rename_i fs' σ2 j2 h2;injection hs with hs
    injection hs with e1 hs
    injection hs with e2 e3
    subst e1;subst e2;simp only[bO] at ho;obtain⟨u,vs,f1,f2,rfl,rfl,o1,o2⟩:=ho;obtain⟨ρ1,φ1,a1,a2,a3⟩:=qc h h1 o1 hf.left;obtain⟨ρ2,φ2,b1,b2,b3⟩:=pU ds σ1 ρ1 φ1 j1 j2 fs' σ2 vs f2 a1 h2 o2 (hf.right a3);refine⟨ρ2,φ2,b1,?_,a3.trans b3⟩;simp only[FRL];exact⟨u,vs,rfl,b3.fr _ _ a2,b2⟩
   ·simp at hs
  ·simp at hs
theorem l9 {d:Nat}:∀ (rs:List RV) (σ:St) (ρ:Rn->Value) (φ:Rn->List Nat) (j j':Nat) (fs:List FV) (σ':St) (us:List Value) (fx:List Nat),Rel w0 fp0 ok σ θ w ρ φ->i8 d σ j rs=some (fs,σ',j')->fj w ok rs us fx->kz w0 w fp0 ok σ φ fx ->
  ∃ ρ' φ',Rel w0 fp0 ok σ' θ w ρ' φ'/\FRL w ok σ' ρ' fs us/\kH w ok σ σ' ρ ρ' φ φ' fx
 | [],σ,ρ,φ,j,j',fs,σ',us,fx,h,hs,ho,hf=>by
  simp only[i8,Option.some.injEq,Prod.mk.injEq] at hs;obtain⟨h1,h2,h3⟩:=hs;subst h1;subst h2;simp only[fj] at ho;obtain⟨rfl,rfl⟩:=ho;exact⟨ρ,φ,h,by simp[FRL],.refl⟩
 | .one x :: rs,σ,ρ,φ,j,j',fs,σ',us,fx,h,hs,ho,hf=>by
  simp only[i8] at hs;split at hs
  ·rename_i f σ1 j1 h1;split at hs
   ·rename_i fs' σ2 j2 h2;injection hs with hs
    injection hs with e1 hs
    injection hs with e2 e3
    subst e1;subst e2;simp only[fj,j9] at ho;obtain⟨u,vs,f1,f2,rfl,rfl,o1,o2⟩:=ho;obtain⟨ρ1,φ1,a1,a2,a3⟩:=qc h h1 o1 hf.left;obtain⟨ρ2,φ2,b1,b2,b3⟩:=l9 rs σ1 ρ1 φ1 j1 j2 fs' σ2 vs f2 a1 h2 o2 (hf.right a3);refine⟨ρ2,φ2,b1,?_,a3.trans b3⟩;simp only[FRL];exact⟨u,vs,rfl,b3.fr _ _ a2,b2⟩
   ·simp at hs
  ·simp at hs
 | .ag ds :: rs,σ,ρ,φ,j,j',fs,σ',us,fx,h,hs,ho,hf=>by
  simp only[i8] at hs;split at hs
  ·rename_i l σ1 j1 h1;split at hs
   ·rename_i fs' σ2 j2 h2;injection hs with hs
    injection hs with e1 hs
    injection hs with e2 e3
    subst e1;subst e2;simp only[fj,j9] at ho;obtain⟨u,vs,f1,f2,rfl,rfl,⟨vv,rfl,o1⟩,o2⟩:=ho;obtain⟨ρ1,φ1,a1,a2,a3⟩:=pU ds σ ρ φ j j1 l σ1 vv.toList f1 h h1 o1 hf.left;obtain⟨ρ2,φ2,b1,b2,b3⟩:=l9 rs σ1 ρ1 φ1 j1 j2 fs' σ2 vs f2 a1 h2 o2 (hf.right a3);refine⟨ρ2,φ2,b1,?_,a3.trans b3⟩;simp only[FRL];refine⟨.agg vv,vs,rfl,b3.fr _ _ ?_,b2⟩;simp only[FR];exact⟨vv,rfl,a2⟩
   ·simp at hs
  ·simp at hs
theorem AA:∀ {fs:List FV} {us:List Value},FRL w ok σ ρ fs us->FR w ok σ ρ (pS fs) (j7 us)
 | [],us,h=>by
  simp only[FRL] at h;subst h;simp[pS,j7,FR,FRL]
 | [f],us,h=>by
  simp only[FRL] at h;obtain⟨u,vs,rfl,h1,rfl⟩:=h;exact h1
 | f :: g :: fs,us,h=>by
  have h':=h;simp only[FRL] at h;obtain⟨u,vs,rfl,h1,v,vs',rfl,h2,h3⟩:=h;simp only[pS,j7,FR];exact⟨_,rfl,h'⟩
end
end Go.Proofs.YtncfmemhjahpeaaGreat.Ab
namespace Go.Proofs.YtncfmemhjahpeaaGreat.Ab
open Go
section
variable {w0 w:World} {fp0:List Nat} {ok0 ok:Nat->Prop} {W:Nat->Value} {n:Nat} {P:Program} {T:TT} {σ:St} {θ:Nat->Value} {ρ:Rn->Value} {φ:Rn->List Nat} {a:Act}
theorem Rel.grow (h:Rel w0 fp0 ok σ θ w ρ φ) {okn:Nat->Prop} (hk:∀ b,ok b->okn b) (hl:∀ b,okn b->b < w.heap.size) (hn:∀ q e,σ.rts q=some e->∀ b∈φ q,¬ okn b):Rel w0 fp0 okn σ θ w ρ φ:=by
 refine⟨fun r d hd=>?_,h.dis,fun t=>?_,hl,h.frm⟩
 ·obtain⟨h1,h2,h3⟩:=h.own r d hd;exact⟨fI (fun b hb=>⟨hk b hb,rfl⟩) d _ _ (fun _ _=>rfl) h1,h2,fun b hb=>⟨hn r d hd b hb,(h3 b hb).2⟩⟩
 ·refine gf (G:=fun _ _=>True) (I:=fun _ _ _=>True) ⟨fun b hb=>⟨hk b hb,rfl⟩,fun r p o _ ho=>⟨o,ho,.inl (bX o),rfl⟩⟩ ⟨fun r m p b mb es _ h1 h2 h3 h4=>⟨h1,rfl,rfl,h3,h4,rfl⟩⟩ _ _ ?_ (h.env t);exact gP (fun _ _ _=>trivial) (fun _ _ _ _=>trivial) _ (gK _ _ (h.env t))
theorem xR {r:Rn} {p s:List Nat} (h:iZ r p r s=false):ix p s=none\/s=p:=by
 unfold iZ at h;simp only[if_true] at h;split at h
 ·simp at h
 ·rename_i hh
  cases e:ix p s with
  | none=>exact .inl rfl
  | some t=>
   cases t with
   | nil=>
    right
    have:=nQ e;simpa using this
   | cons i t=>exact absurd e (hh i t)
mutual
theorem tJ {r:Rn} {p:List Nat} {G:Rn->List Nat->Prop} {I:Rn->Rn->List Nat->Prop}:∀ f:FV,f.deep r p=false->f.ats G I->f.ats (fun q s=>G q s/\iZ r p q s=false) (fun _ _ _=>False)
 | .al q s _ _,h,g=>⟨g,by simpa[FV.deep] using h⟩
 | .cu q s _,h,g=>⟨g,by simpa[FV.deep] using h⟩
 | .pt q s _,h,g=>⟨g,by simpa[FV.deep] using h⟩
 | .ar q s _ _,h,g=>⟨g,by simpa[FV.deep] using h⟩
 | .mr q s,h,g=>⟨g,by simpa[FV.deep] using h⟩
 | .it ..,h,_=>by simp[FV.deep] at h
 | .ag fs,h,g=>atsL_deep fs (by simpa[FV.deep] using h) g
 | .tu fs,h,g=>atsL_deep fs (by simpa[FV.deep] using h) g
 | .cl _ fs,h,g=>atsL_deep fs (by simpa[FV.deep] using h) g
 | .fb fs _,h,g=>atsL_deep fs (by simpa[FV.deep] using h) g
 | .d _,_,_=>trivial
 | .sp _ _,_,_=>trivial
 | .dead,_,_=>trivial
theorem atsL_deep {r:Rn} {p:List Nat} {G:Rn->List Nat->Prop} {I:Rn->Rn->List Nat->Prop}:∀ fs:List FV,FV.deepL r p fs=false->FV.atsL G I fs->FV.atsL (fun q s=>G q s/\iZ r p q s=false) (fun _ _ _=>False) fs
 | [],_,_=>trivial
 | f :: fs,h,g=>by
  simp only[FV.deepL,Bool.or_eq_false_iff] at h;exact⟨tJ f h.1 g.1,atsL_deep fs h.2 g.2⟩
end
theorem xy {G:Rn->List Nat->Prop} {I:Rn->Rn->List Nat->Prop}:∀ (ios:List Io) (f:FV),ios≠[]->(∀ io∈ios,f.deep io.r io.p=false)->f.ats G I->f.ats (fun q s=>G q s/\∀ io∈ios,iZ io.r io.p q s=false) (fun _ _ _=>False)
 | [],f,hne,_,_=>absurd rfl hne
 | [io],f,_,hd,g=>gP (fun q s h=>⟨h.1,fun io' hio'=>by simp only[List.mem_singleton] at hio';subst hio';exact h.2⟩) (fun _ _ _ h=>h) f (tJ f (hd io (by simp)) g)
 | io :: io2 :: ios,f,_,hd,g=>by
  have h1:=tJ f (hd io (by simp)) g;have h2:=xy (io2 :: ios) f (by simp) (fun x hx=>hd x (List.mem_cons_of_mem _ hx)) h1;refine gP (fun q s h=>⟨h.1.1,fun x hx=>?_⟩) (fun _ _ _ h=>h) f h2;rcases List.mem_cons.1 hx with rfl | hx
  ·exact h.1.2
  ·exact h.2 x hx
theorem ve {G:Rn->List Nat->Prop}:∀ (l:List (Io×D)) (f:FV),(∀ x∈l,x.2 = .gone->f.under x.1.r x.1.p=false)->f.ats G (fun _ _ _=>False)->f.ats (fun q s=>G q s/\∀ x∈l,x.2 = .gone->q=x.1.r->cj x.1.p s=false) (fun _ _ _=>False)
 | [],f,_,g=>gP (fun q s h=>⟨h,by simp⟩) (fun _ _ _ h=>h) f g
 | x :: l,f,hd,g=>by
  have h2:=ve l f (fun y hy=>hd y (List.mem_cons_of_mem _ hy)) g
  by_cases hx:x.2 = .gone
  ·have h3:=nF f (hd x (by simp) hx) h2;refine gP (fun q s h=>⟨h.1.1,fun y hy=>?_⟩) (fun _ _ _ h=>h.1) f h3;rcases List.mem_cons.1 hy with rfl | hy
   ·exact fun _=>h.2
   ·exact h.1.2 y hy
  ·refine gP (fun q s h=>⟨h.1,fun y hy=>?_⟩) (fun _ _ _ h=>h) f h2;rcases List.mem_cons.1 hy with rfl | hy
   ·exact fun e=>absurd e hx
   ·exact h.2 y hy
theorem vj:∀ p:List Nat,cj p p=true
 | []=>rfl
 | i :: p=>by simp[cj,vj p]
def CM (d d':D):Prop:=(∃ k n cs cs',d = .ow k n cs/\d' = .ow k n cs')\/(∃ cs cs',d = .bx cs/\d' = .bx cs'/\cs.length=cs'.length)\/d' = .gone
structure wi (σ σ1:St) (ios:List Io) (outs:List D):Prop where
 len:outs.length=ios.length
 other:∀ q,q ∉ ios.map (·.r)->σ1.rts q=σ.rts q
 kind:∀ x∈ios.zip outs,CM x.1.d x.2
 at_:∀ x∈ios.zip outs,∀ dr,σ.rts x.1.r=some dr->σ1.rts x.1.r=some (c5 dr x.1.p x.2)
 env:∀ t,σ1.env t = .dead\/(σ1.env t=σ.env t/\(∀ io∈ios,(σ.env t).deep io.r io.p=false)/\∀ x∈ios.zip outs,x.2 = .gone->(σ.env t).under x.1.r x.1.p=false)
theorem yT:∀ (ios:List Io) (outs:List D) (σ σ1:St),(ios.map (·.r)).Nodup->(∀ io∈ios,∃ dr,σ.rts io.r=some dr)->gH σ ios outs=some σ1->wi σ σ1 ios outs
 | [],[],σ,σ1,_,_,hs=>by
  simp only[gH,Option.some.injEq] at hs;subst hs;exact⟨rfl,fun _ _=>rfl,by simp,by simp,fun t=>.inr ⟨rfl,by simp,by simp⟩⟩
 | [],_ :: _,σ,σ1,_,_,hs=>by simp[gH] at hs
 | _ :: _,[],σ,σ1,_,_,hs=>by simp[gH] at hs
 | io :: ios,d :: outs,σ,σ1,hn,hr,hs=>by
  simp only[List.map_cons,List.nodup_cons] at hn;obtain⟨dr,hdr⟩:=hr io (by simp);have key:∀ (d':D) (σm:St),d'=d->CM io.d d'->(∀ q,σm.rts q=if q=io.r then some (c5 dr io.p d') else σ.rts q) ->
    (∀ t,σm.env t = .dead\/(σm.env t=σ.env t/\(σ.env t).deep io.r io.p=false/\(d' = .gone->(σ.env t).under io.r io.p=false)))->gH σm ios outs=some σ1->wi σ σ1 (io :: ios) (d :: outs):=by
   intro d' σm e hkd ep ee hs';subst e;have ih:=yT ios outs _ σ1 hn.2 (fun io' hio'=>by
    obtain⟨dr',hdr'⟩:=hr io' (List.mem_cons_of_mem _ hio');rw[ep];split
    ·exact⟨_,rfl⟩
    ·exact⟨dr',hdr'⟩) hs'
   refine⟨by simp[ih.len],fun q hq=>?_,fun x hx=>?_,fun x hx dr' hdr'=>?_,fun t=>?_⟩
   ·simp only[List.map_cons,List.mem_cons,not_or] at hq;rw[ih.other q hq.2,ep,if_neg hq.1]
   ·simp only[List.zip_cons_cons,List.mem_cons] at hx;rcases hx with rfl | hx
    ·exact hkd
    ·exact ih.kind x hx
   ·simp only[List.zip_cons_cons,List.mem_cons] at hx;rcases hx with rfl | hx
    ·rw[ih.other _ hn.1,ep,if_pos rfl];simp only at hdr';rw[hdr] at hdr';injection hdr' with hdr'
     rw[hdr']
    ·have hmem:x.1.r∈ios.map (·.r):=List.mem_map.2 ⟨x.1,(List.of_mem_zip hx).1,rfl⟩;have hne:x.1.r≠io.r:=fun e=>hn.1 (e ▸ hmem);exact ih.at_ x hx dr' (by rw[ep,if_neg hne];exact hdr')
   ·rcases ih.env t with h1 | ⟨h1,h2,h3⟩
    ·exact .inl h1
    ·rcases ee t with h4 | ⟨h4,h5,h6⟩
     ·exact .inl (h1.trans h4)
     ·rw[h4] at h1 h2 h3;refine .inr ⟨h1,fun io' hio'=>?_,fun x hx=>?_⟩
      ·rcases List.mem_cons.1 hio' with rfl | hio'
       ·exact h5
       ·exact h2 io' hio'
      ·simp only[List.zip_cons_cons,List.mem_cons] at hx;rcases hx with rfl | hx
       ·exact h6
       ·exact h3 x hx
  have ep:∀ (d':D) q,((σ.killBelow io.r io.p).put io.r io.p d').rts q=if q=io.r then some (c5 dr io.p d') else σ.rts q:=fun d' q=>by
   simp only[St.put,St.killBelow,hdr]
  have ee:∀ (d':D),d'≠.gone->∀ t,((σ.killBelow io.r io.p).put io.r io.p d').env t = .dead\/(((σ.killBelow io.r io.p).put io.r io.p d').env t=σ.env t/\(σ.env t).deep io.r io.p=false/\(d' = .gone->(σ.env t).under io.r io.p=false)):=fun d' hg t=>by
   simp only[St.put,St.killBelow,hdr]
   cases hdp:(σ.env t).deep io.r io.p with
   | true=>exact .inl (by simp)
   | false=>exact .inr ⟨by simp,rfl,fun e=>absurd e hg⟩
  unfold gH at hs;split at hs
  ·rename_i k N cs k' N' cs' hd;split at hs
   ·rename_i hc;obtain⟨rfl,rfl⟩:=hc;exact key _ _ rfl (.inl ⟨k,N,cs,cs',hd,rfl⟩) (ep _) (ee _ (by simp)) hs
   ·simp at hs
  ·rename_i cs cs' hd;split at hs
   ·rename_i hc;exact key _ _ rfl (.inr (.inl ⟨cs,cs',hd,rfl,hc⟩)) (ep _) (ee _ (by simp)) hs
   ·simp at hs
  ·refine key _ _ rfl (.inr (.inr rfl)) (fun q=>?_) (fun t=>?_) hs
   ·simp only[St.put,St.kill,St.killBelow,hdr]
   ·simp only[St.put,St.kill,St.killBelow,hdr]
    by_cases hdp:(σ.env t).deep io.r io.p=true
    ·exact .inl (by simp[hdp])
    ·by_cases hun:(σ.env t).under io.r io.p=true
     ·exact .inl (by simp[hdp,hun])
     ·exact .inr ⟨by simp[hdp,hun],by simpa using hdp,fun _=>by simpa using hun⟩
  ·simp at hs
theorem Rel.called (h:Rel w0 fp0 ok σ θ w ρ φ) {ios:List Io} {outs:List D} {σ1:St} {H:Io->Value} {F F2:Io->List Nat} {w':World} {okn:Nat->Prop} (hne:ios≠[]) (hsp:wi σ σ1 ios outs) (hrn:(ios.map (·.r)).Nodup)
  (hat:∀ io∈ios,σ.obj io.r io.p=some io.d/\At w ok σ.rts ρ φ io.r io.p io.d (H io) (F io)) (hk:∀ b,ok b->okn b) (hkl:∀ b,okn b->b < w'.heap.size) (hkn:∀ b,¬ ok b->b < w.heap.size->¬ okn b)
  (hf:∀ io∈ios,(F2 io).Nodup/\∀ b∈F2 io,((∃ io'∈ios,b∈F io')\/w.heap.size<=b)/\¬ okn b/\b < w'.heap.size) (hd:∀ io∈ios,∀ io'∈ios,io.r≠io'.r->∀ b∈F2 io,b ∉ F2 io')
  (hK:∀ b,b < w.heap.size->(∀ io∈ios,b ∉ F io)->w'.heap[b]? = w.heap[b]?) (hss:w.heap.size<=w'.heap.size) (hKK:de w0 fp0 w') (hO:∀ x∈ios.zip outs,Ow w' okn x.2 (H x.1) (F2 x.1)) :
  ∃ φ',Rel w0 fp0 okn σ1 θ w' ρ φ'/\∀ q e,σ1.rts q=some e->∀ b∈φ' q,(∃ e',σ.rts q=some e'/\b∈φ q/\∀ io∈ios,b ∉ F io)\/∃ io∈ios,io.r=q/\b∈F2 io:=by
 have hrdis:∀ io∈ios,∃ dr,σ.rts io.r=some dr/\bw dr io.p=some io.d:=fun io hio=>lB (hat io hio).1;have hFsub:∀ io∈ios,∀ b∈F io,b∈φ io.r:=fun io hio b hb=>(hat io hio).2.sub b hb;have hFb:∀ io∈ios,∀ b∈F io,Bnd w0 fp0 ok w.heap.size b:=fun io hio b hb=>by
  obtain⟨dr,hdr,_⟩:=hrdis io hio;exact (h.own io.r dr hdr).2.2 b (hFsub io hio b hb)
 have hok:∀ b,ok b->okn b/\w'.heap[b]? = w.heap[b]?:=fun b hb=>⟨hk b hb,hK b (h.okb b hb) fun io hio hbf=>(hFb io hio b hbf).1 hb⟩
 -- one io for each of its roots
 have huniq:∀ io∈ios,∀ io'∈ios,io.r=io'.r->io=io':=by
  have:∀ (l:List Io),(l.map (·.r)).Nodup->∀ io∈l,∀ io'∈l,io.r=io'.r->io=io':=by
   intro l
   induction l with
   | nil=>intro _ io hio;simp at hio
   | cons x l ih=>
    intro hn io hio io' hio' e;simp only[List.map_cons,List.nodup_cons] at hn;rcases List.mem_cons.1 hio with rfl | h1 <;> rcases List.mem_cons.1 hio' with rfl | h2
    ·rfl
    ·exact absurd (List.mem_map.2 ⟨io',h2,e.symm⟩) hn.1
    ·exact absurd (List.mem_map.2 ⟨io,h1,e⟩) hn.1
    ·exact ih hn.2 io h1 io' h2 e
  exact this ios hrn
 have hzip:∀ io∈ios,∃ d',(io,d')∈ios.zip outs:=by
  have:∀ (l:List Io) (o:List D),o.length=l.length->∀ io∈l,∃ d',(io,d')∈l.zip o:=by
   intro l
   induction l with
   | nil=>intro o _ io hio;simp at hio
   | cons x l ih=>
    intro o ho io hio
    cases o with
    | nil=>simp at ho
    | cons y o=>
     simp only[List.length_cons,Nat.add_right_cancel_iff] at ho;rcases List.mem_cons.1 hio with rfl | h1
     ·exact⟨y,by simp⟩
     ·obtain⟨d',hd'⟩:=ih o ho io h1;exact⟨d',by simp[hd']⟩
  exact this ios outs hsp.len
 have hother:∀ q e,σ.rts q=some e->q ∉ ios.map (·.r)->∀ b∈φ q,w'.heap[b]? = w.heap[b]?:=fun q e he hq b hb=>hK b ((h.own q e he).2.2 b hb).2.2 fun io hio hbf=>by
  obtain⟨dr,hdr,_⟩:=hrdis io hio;have hqr:q≠io.r:=fun e=>hq (List.mem_map.2 ⟨io,hio,e.symm⟩);exact h.dis q io.r e dr hqr he hdr b hb (hFsub io hio b hbf)
 -- a written root
 have hroot:∀ io∈ios,∀ d',(io,d')∈ios.zip outs->∃ dr fp,σ.rts io.r=some dr/\bw dr io.p=some io.d/\σ1.rts io.r=some (c5 dr io.p d')/\Ow w' okn (c5 dr io.p d') (ρ io.r) fp/\fp.Nodup /\
   (∀ b∈fp,b∈F2 io\/(b∈φ io.r/\b ∉ F io))/\(∀ q x,bw dr q=some x->cj io.p q=false->hdr w' (ρ io.r) q=hdr w (ρ io.r) q)/\hdr w' (ρ io.r) io.p=some (H io):=by
  intro io hio d' hz;obtain⟨dr,hdr,hlook⟩:=hrdis io hio;obtain⟨h1,h2,h3⟩:=h.own io.r dr hdr;obtain⟨hv2,fo2,k1,k2,k3,k4,k5⟩:=uR io.p dr (ρ io.r) (φ io.r) io.d h1 h2 hlook;have hat':=(hat io hio).2;have e1:hv2=H io:=by have:=hat'.hdr;rw[k1] at this;injection this
  subst e1;have e2:fo2=F io:=fY _ _ _ _ k2 hat'.own;subst e2;have hfresh:∀ b∈F2 io,b∈F io\/b ∉ φ io.r:=fun b hb=>by
   rcases ((hf io hio).2 b hb).1 with ⟨io',hio',hb'⟩ | hge
   ·by_cases he:io.r=io'.r
    ·rw[huniq io hio io' hio' he];exact .inl hb'
    ·right
     intro hb2;obtain⟨dr',hdr',_⟩:=hrdis io' hio';exact h.dis io.r io'.r dr dr' he hdr hdr' b hb2 (hFsub io' hio' b hb')
   ·right
    intro hb2;have:=(h3 b hb2).2.2;omega
  obtain⟨⟨fp',g1,g2,g3⟩,g4,g5⟩:=k5 w' okn d' (F2 io) (fun b hb hbo=>hK b (h3 b hb).2.2 fun io' hio' hbf=>by
   by_cases he:io.r=io'.r
   ·rw[<-huniq io hio io' hio' he] at hbf;exact hbo hbf
   ·obtain⟨dr',hdr',_⟩:=hrdis io' hio';exact h.dis io.r io'.r dr dr' he hdr hdr' b hb (hFsub io' hio' b hbf)) hok (hO _ hz) (hf io hio).1 hfresh
  exact⟨dr,fp',hdr,hlook,hsp.at_ _ hz dr hdr,g1,g2,g3,g4,g5⟩
 have hall:∀ q,∃ fp:List Nat,∀ e,σ1.rts q=some e->Ow w' okn e (ρ q) fp/\fp.Nodup/\∀ b∈fp,(∃ e',σ.rts q=some e'/\b∈φ q/\∀ io∈ios,b ∉ F io)\/∃ io∈ios,io.r=q/\b∈F2 io:=by
  intro q
  by_cases hq:q∈ios.map (·.r)
  ·obtain⟨io,hio,rfl⟩:=List.mem_map.1 hq;obtain⟨d',hz⟩:=hzip io hio;obtain⟨dr,fp,r1,r2,r3,r4,r5,r6,r7,r8⟩:=hroot io hio d' hz;refine⟨fp,fun e he=>?_⟩;rw[r3] at he;injection he with he;subst he;refine⟨r4,r5,fun b hb=>?_⟩;rcases r6 b hb with hb | ⟨hb,hbn⟩
   ·exact .inr ⟨io,hio,rfl,hb⟩
   ·refine .inl ⟨dr,r1,hb,fun io' hio' hbf=>?_⟩
    by_cases he:io.r=io'.r
    ·rw[<-huniq io hio io' hio' he] at hbf;exact hbn hbf
    ·obtain⟨dr',hdr',_⟩:=hrdis io' hio';exact h.dis io.r io'.r dr dr' he r1 hdr' b hb (hFsub io' hio' b hbf)
  ·refine⟨φ q,fun e he=>?_⟩;rw[hsp.other q hq] at he;obtain⟨h1,h2,h3⟩:=h.own q e he;refine⟨fI hok e _ _ (hother q e he hq) h1,h2,fun b hb=>.inl ⟨e,he,hb,fun io hio hbf=>?_⟩⟩;obtain⟨dr,hdr,_⟩:=hrdis io hio;have hqr:q≠io.r:=fun e=>hq (List.mem_map.2 ⟨io,hio,e.symm⟩);exact h.dis q io.r e dr hqr he hdr b hb (hFsub io hio b hbf)
 obtain⟨φ',hφ⟩:=Classical.axiomOfChoice hall;refine⟨φ',⟨fun q e he=>⟨(hφ q e he).1,(hφ q e he).2.1,fun b hb=>?_⟩,fun q q' e e' hqq he he' b hb hb'=>?_,fun t=>?_,hkl,hKK⟩,fun q e he b hb=>(hφ q e he).2.2 b hb⟩
 ·rcases (hφ q e he).2.2 b hb with ⟨e',he',hbq,_⟩ | ⟨io,hio,_,hbf⟩
  ·have hob:=(h.own q e' he').2.2 b hbq;exact⟨hkn b hob.1 hob.2.2,hob.2.1,Nat.lt_of_lt_of_le hob.2.2 hss⟩
  ·obtain⟨h1,h2,h3⟩:=(hf io hio).2 b hbf;refine⟨h2,?_,h3⟩;rcases h1 with ⟨io',hio',hb'⟩ | hge
   ·exact (hFb io' hio' b hb').2.1
   ·exact .inr (Nat.le_trans h.frm.size hge)
 ·rcases (hφ q e he).2.2 b hb with ⟨e1,he1,hb1,hn1⟩ | ⟨io,hio,hr1,hb1⟩ <;> rcases (hφ q' e' he').2.2 b hb' with ⟨e2,he2,hb2,hn2⟩ | ⟨io',hio',hr2,hb2⟩
  ·exact h.dis q q' e1 e2 hqq he1 he2 b hb1 hb2
  ·rcases ((hf io' hio').2 b hb2).1 with ⟨io3,hio3,hb3⟩ | hge
   ·exact hn1 io3 hio3 hb3
   ·have:=((h.own q e1 he1).2.2 b hb1).2.2;omega
  ·rcases ((hf io hio).2 b hb1).1 with ⟨io3,hio3,hb3⟩ | hge
   ·exact hn2 io3 hio3 hb3
   ·have:=((h.own q' e2 he2).2.2 b hb2).2.2;omega
  ·exact hd io hio io' hio' (by rw[hr1,hr2];exact hqq) b hb1 hb2
 ·rcases hsp.env t with he | ⟨he,hdp,hun⟩
  ·rw[he];simp[FR]
  ·rw[he];refine gf (G:=fun q s=>((∃ o,σ.obj q s=some o/\fV o)/\∀ io∈ios,iZ io.r io.p q s=false)/\∀ x∈ios.zip outs,x.2 = .gone->q=x.1.r->cj x.1.p s=false) (I:=fun _ _ _=>False) ⟨hok,fun q s x hg hx=>?_⟩ ⟨fun q m s b mb es hi=>hi.elim⟩ _ _ (ve _ _ hun (xy ios _ hne hdp (gK _ _ (h.env t)))) (h.env t);obtain⟨dq,hdq,hlq⟩:=lB hx
   by_cases hq:q∈ios.map (·.r)
   ·obtain⟨io,hio,rfl⟩:=List.mem_map.1 hq;obtain⟨d',hz⟩:=hzip io hio;obtain⟨dr,fp,r1,r2,r3,r4,r5,r6,r7,r8⟩:=hroot io hio d' hz;rw[hdq] at r1;injection r1 with r1;subst r1;rcases xR (hg.1.2 io hio) with hst | rfl
    ·obtain⟨x',k1,k2⟩:=iO io.p dq io.d d' s x r2 hlq (lH hst);exact⟨x',by simp only[St.obj,r3];exact k1,.inl k2,r7 s x hlq (lH hst)⟩
    ·rw[r2] at hlq;injection hlq with hlq
     subst hlq;have k1:=iM io.p dq io.d d' [] r2;rw[List.append_nil] at k1;refine⟨d',by simp only[St.obj,r3,k1,bw],?_,by rw[r8,(hat io hio).2.hdr]⟩;have hO':=hO _ hz;rcases hsp.kind _ hz with ⟨k,N,cs,cs',e1,e2⟩ | ⟨cs,cs',e1,e2,e3⟩ | e1
     ·simp only at e1 e2;rw[e1,e2];refine .inl ⟨rfl,rfl,?_⟩;have hx2:=hx;rw[e1] at hx2;rw[ov h hx2];simp only[e2] at hO';simp only[Ow] at hO';rcases hO' with ⟨rfl,rfl,_⟩ | ⟨b,o,c,arr,T,fp',_,_,_,_,_,h2,_⟩
      ·simp
      ·exact h2.symm
     ·simp only at e1 e2;rw[e1,e2];exact .inl e3
     ·have:=hg.2 _ hz e1 rfl;simp only at this;rw[vj] at this;simp at this
   ·refine⟨x,by simp only[St.obj,hsp.other q hq,hdq];exact hlq,.inl (bX x),?_⟩;exact gX s dq _ _ x (h.own q dq hdq).1 (hother q dq hdq hq) hlq
theorem xA {w':World} {ok ok':Nat->Prop} (hk:∀ b,ok b->ok' b):∀ {ds:List D} {us:List Value} {fp:List Nat},bO w ok ds us fp->bO w ok' ds us fp
 | [],us,fp,h=>by simpa only [bO] using h
 | d :: ds,us,fp,h=>by
  simp only[bO] at h ⊢;obtain⟨u,vs,f1,f2,e1,e2,h1,h2⟩:=h;exact⟨u,vs,f1,f2,e1,e2,fI (fun b hb=>⟨hk b hb,rfl⟩) d u f1 (fun _ _=>rfl) h1,xA (w':=w') hk h2⟩
theorem rx {ok ok':Nat->Prop} (hk:∀ b,ok b->ok' b):∀ {ds:List RV} {us:List Value} {fp:List Nat},fj w ok ds us fp->fj w ok' ds us fp
 | [],us,fp,h=>by simpa only [fj] using h
 | .one d :: ds,us,fp,h=>by
  simp only[fj,j9] at h ⊢;obtain⟨u,vs,f1,f2,e1,e2,h1,h2⟩:=h;exact⟨u,vs,f1,f2,e1,e2,fI (fun b hb=>⟨hk b hb,rfl⟩) d u f1 (fun _ _=>rfl) h1,rx hk h2⟩
 | .ag xs :: ds,us,fp,h=>by
  simp only[fj,j9] at h ⊢;obtain⟨u,vs,f1,f2,e1,e2,⟨vv,e3,h1⟩,h2⟩:=h;exact⟨u,vs,f1,f2,e1,e2,⟨vv,e3,xA (w':=w) hk h1⟩,rx hk h2⟩
theorem zk:∀ {fs:List FV} {us:List Value},FRL w ok σ ρ fs us->∀ t,FR w ok σ ρ (fs.getD t .dead) (us.getD t undef):=by
 intro fs us h t
 cases e:fs[t]? with
 | none=>simp[List.getD,e,FR]
 | some f=>
  obtain⟨u,e2,h2⟩:=wh h e;simpa[List.getD,e,e2] using h2
theorem xz:∀ {ms:List Bool},ms.any id=false->∀ (i:Nat) (fs gs:List FV) (lent:List Rn) (ios:List Io),jF σ i ms fs=some (gs,lent,ios)->ios=[]
 | ms,hm,i,[],gs,lent,ios,hs=>by
  simp only[jF,Option.some.injEq,Prod.mk.injEq] at hs;exact hs.2.2.symm
 | ms,hm,i,f :: fs,gs,lent,ios,hs=>by
  have htl:ms.tail.any id=false:=by cases ms <;> simp_all
  have hhd:ms.headD false=false:=by cases ms <;> simp_all
  simp only[jF,hhd,Bool.false_eq_true,if_false] at hs;split at hs
  ·rename_i gs' lent1 ios1 hgs;have:=xz htl (i+1) fs gs' lent1 ios1 hgs;subst this;split at hs
   ·simp only[Option.some.injEq,Prod.mk.injEq] at hs;exact hs.2.2.symm
   ·simp at hs
  ·simp at hs
theorem uK {C:Ctx} {o:Oper} (ho:cU n o=true) {g:Nat} {fvs:List FV} {vs:Array Value} (hrun:ng C.P g->(execOp a.eval o).run C.P w = .ok (.enter g vs) w) {K:St->Prop} (hk:rg C g fvs o.dst σ K) (h:Stx w0 fp0 ok0 W n σ a w ok θ ρ φ)
  (hfr:FRL w ok σ ρ fvs vs.toList):eH C.P o a w K (fun σ' a' w'=>Ste w0 fp0 ok0 W n σ' a' w'/\((aA [] C.M g).any id=false->bV w w')):=by
 unfold rg at hk;split at hk
 ·rename_i args lent ios hpass;obtain⟨⟨hrn,hnn⟩,hlent,pure,Qc,hcall,hpl,hkk⟩:=hk;obtain⟨hobj,hargs⟩:=uD h.rel 0 _ fvs args lent ios vs.toList hpass hfr;have hlen:vs.toList.length=args.length:=by rw[fu hfr,sO 0 _ fvs args lent ios hpass]
  obtain⟨hcb,hcalls⟩:=hcall
  let ok2:Nat->Prop:=fun b=>ok b\/∃ r∈lent,∃ d,σ.rts r=some d/\b∈φ r
  have hL:pH w ok σ φ lent ok2:=⟨fun b hb=>.inl hb,fun r hr d hd b hb=>.inr ⟨r,hr,d,hd,hb⟩⟩;have hok2:∀ b,ok2 b->b < w.heap.size:=fun b hb=>by
   rcases hb with hb | ⟨r,_,d,hd,hb⟩
   ·exact h.rel.okb b hb
   ·exact ((h.rel.own r d hd).2.2 b hb).2.2
  intro Kc Q hKc;unfold Oper.wp;rw[hrun hcb];simp only[Oper.upon]
  -- what comes behind the call,whatever was written
  have after:∀ (w':World) (ok':Nat->Prop) (res:List RV) (uu:List Value) (fr:List Nat) (σ1:St) (φ1:Rn->List Nat) (okn:Nat->Prop),okn=(if pure then ok else ok')->(∀ b,ok2 b->ok' b)->(∀ b,ok' b->(ok2 b\/w.heap.size<=b)/\b < w'.heap.size) ->
    Rel w0 fp0 okn σ1 θ w' ρ φ1->fj w' (if pure then fun _=>False else ok') res uu fr->kz w0 w' fp0 okn σ1 φ1 fr ->
    (match o.dst with
     | some d=>(match i8 d σ1 0 res with
      | some (fs,σ2,_)=>K { σ2 with env:=upd σ2.env d (pS fs) }
      | none=>False)
     | none=>K σ1)->((aA [] C.M g).any id=false->bV w w')->Kc (a.put o.dst (j7 uu)) w':=by
   intro w' ok' res uu fr σ1 φ1 okn hokn hk1 hk2 hrel hres hfresh hK hlat
   have hres':fj w' okn res uu fr:=by
    rw[hokn]
    cases pure with
    | true=>exact rx (fun _ hb=>False.elim hb) hres
    | false=>exact hres
   have hoks:∀ b,ok0 b->okn b:=fun b hb=>by
    rw[hokn];split
    ·exact h.oks b hb
    ·exact hk1 b (.inl (h.oks b hb))
   have hokn':∀ b,okn b->ok0 b\/w0.heap.size<=b:=fun b hb=>by
    rw[hokn] at hb;split at hb
    ·exact h.okn b hb
    ·rename_i hp;rcases (hk2 b hb).1 with h2 | h2
     ·rcases h2 with h2 | ⟨r,hr,_⟩
      ·exact h.okn b h2
      ·rw[hpl.resolve_left hp] at hr;simp at hr
     ·exact .inr (Nat.le_trans h.rel.frm.size h2)
   split at hK
   ·rename_i d hd;split at hK
    ·rename_i fs σ2 j2 hun;obtain⟨ρ2,φ2,q1,q2,q3⟩:=l9 res σ1 ρ φ1 0 j2 fs σ2 uu fr hrel hun hres' hfresh;have hs:Stx w0 fp0 ok0 W n σ2 a w' okn θ ρ2 φ2:=⟨q1,h.th,hoks,hokn',h.dfr,h.sz⟩;have:=hs.fin ho hd (AA q2);exact hKc _ _ _ hK ⟨this,hlat⟩
    ·exact hK.elim
   ·rename_i hd;rw[hd];exact hKc _ _ _ hK ⟨⟨_,_,_,_,hrel,h.th,hoks,hokn',h.dfr,h.sz⟩,hlat⟩
  match hios:ios,hrn,hnn,hobj,hargs,hlent,hcalls,hkk with
  | [],_,_,_,hargs,_,hcalls,hkk=>
   have hrelc:Rel w [] ok2 ⟨fL args,ofR []⟩ (fun t=>vs.toList.getD t undef) w ρ φ:=
    ⟨fun r d hd=>by simp[ofR] at hd,fun r r' d d' _ hd=>by simp[ofR] at hd,fun t=>zk (hargs lent ok2 ⟨fL args,ofR []⟩ ρ (fun _ h=>h) hL ⟨by simp⟩) t,hok2,de.refl w []⟩
   have:=hcalls w [] ok2 vs.toList ρ φ hlen hrelc;rw[Array.toArray_toList] at this;refine Calls.mono this ?_;rintro e w' ⟨v,outs,res,ok',φ',fr,rfl,hQ,hD⟩;have houts:outs=[]:=List.eq_nil_of_length_eq_zero (by simpa using hD.len);subst houts;have hkq:=hkk [] res hQ;simp only[gH] at hkq;obtain⟨uu,hv,hres⟩:=hD.res;subst hv;have hok':∀ b,ok' b->¬ ok2 b->w.heap.size<=b:=fun b hb hn=>((hD.okn b hb).1).resolve_left hn;have hrel1:=(h.rel.world (w':=w') (fun b hb=>hD.frm.old b hb (by simp)) hD.frm.size (h.rel.frm.trans hD.frm (by simp))).grow (okn:=if pure then ok else ok')
    (fun b hb=>by split;exact hb;exact hD.okm b (.inl hb))
    (fun b hb=>by
     split at hb
     ·exact Nat.lt_of_lt_of_le (h.rel.okb b hb) hD.frm.size
     ·exact (hD.okn b hb).2)
    (fun q e he b hb hkb=>by
     have hob:=(h.rel.own q e he).2.2 b hb;split at hkb
     ·exact hob.1 hkb
     ·rename_i hp;rcases (hD.okn b hkb).1 with h2 | h2
      ·rcases h2 with h2 | ⟨r,hr,_⟩
       ·exact hob.1 h2
       ·rw[hpl.resolve_left hp] at hr;simp at hr
      ·omega)
   refine after w' ok' res uu fr σ φ _ rfl hD.okm hD.okn hrel1 hres ⟨hD.nod,fun b hb=>?_⟩ hkq (fun _=>⟨hD.frm.size,fun b hb=>hD.frm.old b hb (by simp)⟩);obtain⟨b1,b2,b3⟩:=hD.bl b hb;have hge:w.heap.size<=b:=by rcases b2 with b2 | b2;simp at b2;exact b2
   refine⟨⟨?_,.inr (Nat.le_trans h.rel.frm.size hge),b3⟩,fun q e he hbq=>?_⟩
   ·split
    ·exact fun hb'=>b1 (hD.okm b (.inl hb'))
    ·exact b1
   ·have:=((h.rel.own q e he).2.2 b hbq).2.2;omega
  | io0 :: ios0,hrn,hnn,hobj,hargs,hlent,hcalls,hkk=>
   have hcons:(io0 :: ios0)≠[]:=by simp
   generalize hL0:io0 :: ios0=ios at *
   -- what each object owns
   have hat0:∀ io:Io,∃ hv:Value,∃ fo:List Nat,io∈ios->At w ok σ.rts ρ φ io.r io.p io.d hv fo:=fun io=>by
    by_cases hio:io∈ios
    ·obtain⟨hv,fo,hat⟩:=h.rel.rts_.at_ (r:=io.r) (p:=io.p) (hobj io hio);exact⟨hv,fo,fun _=>hat⟩
    ·exact⟨undef,[],fun h=>absurd h hio⟩
   obtain⟨H,hH⟩:=Classical.axiomOfChoice hat0;obtain⟨F,hF⟩:=Classical.axiomOfChoice hH;have hnm:∀ io∈ios,∀ io'∈ios,io.name=io'.name->io=io':=by
    have:∀ (l:List Io),(l.map (·.name)).Nodup->∀ io∈l,∀ io'∈l,io.name=io'.name->io=io':=by
     intro l
     induction l with
     | nil=>intro _ io hio;simp at hio
     | cons x l ih=>
      intro hn io hio io' hio' e;simp only[List.map_cons,List.nodup_cons] at hn;rcases List.mem_cons.1 hio with rfl | h1 <;> rcases List.mem_cons.1 hio' with rfl | h2
      ·rfl
      ·exact absurd (List.mem_map.2 ⟨io',h2,e.symm⟩) hn.1
      ·exact absurd (List.mem_map.2 ⟨io,h1,e⟩) hn.1
      ·exact ih hn.2 io h1 io' h2 e
    exact this ios hnn
   have hrr:∀ io∈ios,∀ io'∈ios,io.r=io'.r->io=io':=by
    have:∀ (l:List Io),(l.map (·.r)).Nodup->∀ io∈l,∀ io'∈l,io.r=io'.r->io=io':=by
     intro l
     induction l with
     | nil=>intro _ io hio;simp at hio
     | cons x l ih=>
      intro hn io hio io' hio' e;simp only[List.map_cons,List.nodup_cons] at hn;rcases List.mem_cons.1 hio with rfl | h1 <;> rcases List.mem_cons.1 hio' with rfl | h2
      ·rfl
      ·exact absurd (List.mem_map.2 ⟨io',h2,e.symm⟩) hn.1
      ·exact absurd (List.mem_map.2 ⟨io,h1,e⟩) hn.1
      ·exact ih hn.2 io h1 io' h2 e
    exact this ios hrn
   let ioOf:Rn->Option Io:=fun nm=>ios.find? fun io=>decide (io.name=nm)
   have hof:∀ io∈ios,ioOf io.name=some io:=fun io hio=>by
    have hfi:(ios.find? fun x=>decide (x.name=io.name)).isSome=true:=by
     rw[List.find?_isSome];exact⟨io,hio,by simp⟩
    obtain⟨io2,h2⟩:=Option.isSome_iff_exists.1 hfi;have h3:=List.find?_some h2;have h4:=List.mem_of_find?_eq_some h2;have:io2=io:=hnm io2 h4 io hio (by simpa using h3);subst this;exact h2
   let ρ':Rn->Value:=fun nm=>match ioOf nm with | some io=>H io | none=>undef
   let φ':Rn->List Nat:=fun nm=>match ioOf nm with | some io=>F io | none=>[]
   have hρ':∀ io∈ios,ρ' io.name=H io:=fun io hio=>by
    show (match ioOf io.name with | some io=>H io | none=>undef)=_;rw[hof io hio]
   have hφ':∀ io∈ios,φ' io.name=F io:=fun io hio=>by
    show (match ioOf io.name with | some io=>F io | none=>[])=_;rw[hof io hio]
   have hFb:∀ io∈ios,∀ b∈F io,Bnd w0 fp0 ok w.heap.size b/\∃ dr,σ.rts io.r=some dr/\b∈φ io.r:=fun io hio b hb=>by
    obtain⟨dr,hdr',_⟩:=lB (hobj io hio);have:=(hF io hio).sub b hb;exact⟨(h.rel.own io.r dr hdr').2.2 b this,dr,hdr',this⟩
   have hn2:∀ io∈ios,∀ b∈F io,¬ ok2 b:=fun io hio b hb hk2=>by
    obtain⟨h1,dr,hdr',h2⟩:=hFb io hio b hb;rcases hk2 with hk2 | ⟨r,hr,d,hd,hb2⟩
    ·exact h1.1 hk2
    ·exact h.rel.dis r io.r d dr (fun (e:r=io.r)=>hlent io.r (List.mem_map.2 ⟨io,hio,rfl⟩) (by rw[<-e];exact hr)) hd hdr' b hb2 h2
   have hFd:∀ io∈ios,∀ io'∈ios,io≠io'->∀ b∈F io,b ∉ F io':=fun io hio io' hio' hne b hb hb'=>by
    obtain⟨_,dr,h1,h2⟩:=hFb io hio b hb;obtain⟨_,dr',h1',h2'⟩:=hFb io' hio' b hb';exact h.rel.dis io.r io'.r dr dr' (fun e=>hne (hrr io hio io' hio' e)) h1 h1' b h2 h2'
   have hofR:∀ nm d,ofR (ios.map fun io=>(io.name,io.d)) nm=some d->∃ io∈ios,io.name=nm/\io.d=d:=by
    have:∀ (l:List Io) (nm:Rn) (d:D),ofR (l.map fun io=>(io.name,io.d)) nm=some d->∃ io∈l,io.name=nm/\io.d=d:=by
     intro l nm d
     induction l with
     | nil=>intro he;simp[ofR] at he
     | cons x l ih=>
      intro he;simp only[List.map_cons,ofR] at he;split at he
      ·rename_i e;injection he with he
       exact⟨x,by simp,e,he⟩
      ·obtain⟨io,h1,h2⟩:=ih he;exact⟨io,List.mem_cons_of_mem _ h1,h2⟩
    exact this ios
   have hofR2:∀ io∈ios,ofR (ios.map fun io=>(io.name,io.d)) io.name=some io.d:=by
    intro io hio;have:∀ (l:List Io),io∈l->(∀ x∈l,x.name=io.name->x=io)->ofR (l.map fun io=>(io.name,io.d)) io.name=some io.d:=by
     intro l
     induction l with
     | nil=>intro hio;simp at hio
     | cons x l ih=>
      intro hio hu;simp only[List.map_cons,ofR];split
      ·rename_i e;rw[hu x (by simp) e]
      ·rename_i e;rcases List.mem_cons.1 hio with rfl | hio
       ·exact absurd rfl e
       ·exact ih hio fun y hy=>hu y (List.mem_cons_of_mem _ hy)
    exact this ios hio fun x hx e=>hnm x hx io hio e
   let fpL:List Nat:=ios.flatMap F
   have hfpL:∀ b,b∈fpL↔∃ io∈ios,b∈F io:=fun b=>by
    show b∈ios.flatMap F↔_;rw[List.mem_flatMap]
   have hrelc:Rel w fpL ok2 ⟨fL args,ofR (ios.map fun io=>(io.name,io.d))⟩ (fun t=>vs.toList.getD t undef) w ρ' φ':=by
    refine⟨fun r d hd=>?_,fun r r' d d' hne hd hd'=>?_,fun t=>zk (hargs lent ok2 ⟨fL args,ofR (ios.map fun io=>(io.name,io.d))⟩ ρ' (fun _ h=>h) hL ⟨fun io hio=>⟨hofR2 io hio,by rw[hρ' io hio];exact (hF io hio).hdr⟩⟩) t,hok2,de.refl w fpL⟩
    ·obtain⟨io,hio,rfl,rfl⟩:=hofR r d hd;rw[hρ' io hio,hφ' io hio];exact⟨fI (fun b hb=>⟨.inl hb,rfl⟩) _ _ _ (fun _ _=>rfl) (hF io hio).own,(hF io hio).nod,fun b hb=>⟨hn2 io hio b hb,.inl ((hfpL b).2 ⟨io,hio,hb⟩),(hFb io hio b hb).1.2.2⟩⟩
    ·obtain⟨io,hio,rfl,rfl⟩:=hofR r d hd;obtain⟨io',hio',rfl,rfl⟩:=hofR r' d' hd';rw[hφ' io hio,hφ' io' hio'];exact hFd io hio io' hio' fun e=>hne (by rw[e])
   have:=hcalls w fpL ok2 vs.toList ρ' φ' hlen hrelc;rw[Array.toArray_toList] at this;refine Calls.mono this ?_;rintro e w' ⟨v,outs,res,ok',φd,fr,rfl,hQ,hD⟩;obtain⟨uu,hv',hres⟩:=hD.res;subst hv';have hkq:=hkk outs res hQ;have hkeep:∀ b,ok' b->b < w.heap.size->ok2 b:=fun b hb hl=>by
    rcases (hD.okn b hb).1 with h2 | h2
    ·exact h2
    ·omega
   have hokn1:∀ b,ok b->(if pure then ok else ok') b:=fun b hb=>by split;exact hb;exact hD.okm b (.inl hb)
   have hokn2:∀ b,(if pure then ok else ok') b->b < w'.heap.size:=fun b hb=>by
    split at hb
    ·exact Nat.lt_of_lt_of_le (h.rel.okb b hb) hD.frm.size
    ·exact (hD.okn b hb).2
   have hokn3:∀ b,¬ ok b->b < w.heap.size->¬ (if pure then ok else ok') b:=fun b hb hl hkb=>by
    split at hkb
    ·exact hb hkb
    ·rename_i hp;rcases hkeep b hkb hl with h2 | ⟨r,hr,_⟩
     ·exact hb h2
     ·rw[hpl.resolve_left hp] at hr;simp at hr
   have hokn4:∀ b,¬ ok' b->¬ (if pure then ok else ok') b:=fun b hb hkb=>by
    split at hkb
    ·exact hb (hD.okm b (.inl hkb))
    ·exact hb hkb
   split at hkq
   ·rename_i σ1 hput;have hsp:=yT ios outs σ σ1 hrn (fun io hio=>by
     obtain⟨dr,hdr',_⟩:=lB (hobj io hio);exact⟨dr,hdr'⟩) hput
    have hlo:outs.length=ios.length:=hsp.len;have hzo:∀ x∈ios.zip outs,ofR ((ios.map fun io=>(io.name,io.d)).map (·.1) |>.zip outs) x.1.name=some x.2:=by
     have:∀ (l:List Io) (o:List D),(l.map (·.name)).Nodup->∀ x∈l.zip o,ofR (((l.map fun io=>(io.name,io.d)).map (·.1)).zip o) x.1.name=some x.2:=by
      intro l
      induction l with
      | nil=>intro o _ x hx;simp at hx
      | cons y l ih=>
       intro o hn x hx
       cases o with
       | nil=>simp at hx
       | cons z o=>
        simp only[List.map_cons,List.nodup_cons] at hn;simp only[List.zip_cons_cons,List.mem_cons] at hx;simp only[List.map_cons,List.zip_cons_cons,ofR];rcases hx with rfl | hx
        ·simp
        ·have hmem:x.1.name∈l.map (·.name):=List.mem_map.2 ⟨x.1,(List.of_mem_zip hx).1,rfl⟩;rw[if_neg (fun (e:y.name=x.1.name)=>hn.1 (by rw[e];exact hmem))];exact ih o hn.2 x hx
     exact this ios outs hnn
    have hzip:∀ io∈ios,∃ d',(io,d')∈ios.zip outs:=by
     have:∀ (l:List Io) (o:List D),o.length=l.length->∀ io∈l,∃ d',(io,d')∈l.zip o:=by
      intro l
      induction l with
      | nil=>intro o _ io hio;simp at hio
      | cons x l ih=>
       intro o ho io hio
       cases o with
       | nil=>simp at ho
       | cons y o=>
        simp only[List.length_cons,Nat.add_right_cancel_iff] at ho;rcases List.mem_cons.1 hio with rfl | h1
        ·exact⟨y,by simp⟩
        ·obtain⟨d',hd'⟩:=ih o ho io h1;exact⟨d',by simp[hd']⟩
     exact this ios outs hlo
    have hnames:(ios.map fun io=>(io.name,io.d)).map (·.1)=(ios.map fun io=>(io.name,io.d)).map (·.1):=rfl;have hout:∀ x∈ios.zip outs,Ow w' (if pure then fun _=>False else ok') x.2 (ρ' x.1.name) (φd x.1.name)/\(φd x.1.name).Nodup/\∀ b∈φd x.1.name,¬ ok' b/\(b∈fpL\/w.heap.size<=b)/\b < w'.heap.size:=fun x hx=>hD.out x.1.name x.2 (hzo x hx);obtain⟨φ2,q1,q2⟩:=h.rel.called (F2:=fun io=>φd io.name) (H:=H) (F:=F) (okn:=if pure then ok else ok') (w':=w') hcons hsp hrn (fun io hio=>⟨hobj io hio,hF io hio⟩) hokn1 hokn2 hokn3
     (fun io hio=>by
      obtain⟨d',hz⟩:=hzip io hio;obtain⟨_,h2,h3⟩:=hout _ hz;exact⟨h2,fun b hb=>⟨((h3 b hb).2.1).imp (fun hh=>(hfpL b).1 hh) id,hokn4 b (h3 b hb).1,(h3 b hb).2.2⟩⟩)
     (fun io hio io' hio' hne b hb=>by
      obtain⟨d1,hz1⟩:=hzip io hio;obtain⟨d2,hz2⟩:=hzip io' hio';exact hD.dis io.name io'.name d1 d2 (fun e=>hne (by rw[hnm io hio io' hio' e])) (hzo _ hz1) (hzo _ hz2) b hb)
     (fun b hb hnf=>hD.frm.old b hb fun hh=>by
      obtain⟨io,hio,hbf⟩:=(hfpL b).1 hh;exact hnf io hio hbf) hD.frm.size
     (h.rel.frm.trans hD.frm fun b hb=>by
      obtain⟨io,hio,hbf⟩:=(hfpL b).1 hb;exact (hFb io hio b hbf).1.2.1)
     (fun x hx=>by
      have:=(hout x hx).1;rw[hρ' x.1 (List.of_mem_zip hx).1] at this;refine fI (fun b hb=>⟨?_,rfl⟩) _ _ _ (fun _ _=>rfl) this
      cases pure with
      | true=>exact hb.elim
      | false=>exact hb)
    refine after w' ok' res uu fr σ1 φ2 _ rfl hD.okm hD.okn q1 hres ⟨hD.nod,fun b hb=>?_⟩ hkq (fun hm=>absurd (xz hm 0 _ _ _ _ hpass) hcons);obtain⟨b1,b2,b3⟩:=hD.bl b hb;refine⟨⟨hokn4 b b1,?_,b3⟩,fun q e he hbq=>?_⟩
    ·rcases b2 with b2 | b2
     ·obtain⟨io,hio,hbf⟩:=(hfpL b).1 b2;exact (hFb io hio b hbf).1.2.1
     ·exact .inr (Nat.le_trans h.rel.frm.size b2)
    ·rcases q2 q e he b hbq with ⟨e',he',hbq',hnf⟩ | ⟨io,hio,rfl,hbf⟩
     ·rcases b2 with b2 | b2
      ·obtain⟨io,hio,hbf⟩:=(hfpL b).1 b2;exact hnf io hio hbf
      ·have:=((h.rel.own q e' he').2.2 b hbq').2.2;omega
     ·obtain⟨d',hz⟩:=hzip io hio;exact hD.disr io.name d' (hzo _ hz) b hbf hb
   ·exact hkq.elim
 ·exact hk.elim
theorem xl:∀ {l:List FV} {cs:List D} {us:List Value},oy l=some cs->FRL w ok σ ρ l us->∀ {w':World} {ok':Nat->Prop} {b o:Nat},(∀ b,ok b->ok' b/\w'.heap[b]? = w.heap[b]?) ->
  (∀ j u,us[j]? = some u->w'.cell? ⟨b,o+j,none⟩ = some u)->ShL w' ok' b cs o
 | [],cs,us,hl,hf,_,_,_,_,_,_=>by
  simp only[oy,Option.some.injEq] at hl;subst hl;simp[ShL]
 | f :: l,cs,us,hl,hf,w',ok',b,o,hk,hc=>by
  simp only[FRL] at hf;obtain⟨u,vs,rfl,hf1,hf2⟩:=hf
  match f,hl with
  | .d x,hl=>
   simp only[oy] at hl;split at hl
   ·split at hl
    ·rename_i l' hl';simp only[Option.some.injEq] at hl;subst hl;simp only[ShL];refine⟨⟨u,by simpa using hc 0 u rfl,gh hk x u (by simpa only [FR] using hf1)⟩,xl hl' hf2 hk fun j v hj=>?_⟩;have:=hc (j+1) v (by simpa using hj)
     rwa [show o+1+j=o+(j+1) by omega]
    ·simp at hl
   ·simp at hl
theorem E2 {C:Ctx} (hT:cT C.P C.T=true) {o:Oper} (ho:cU n o=true) {t len:Nat} {parts:Array (Nat×Operand)} (hop:o.op = .buildSlice t len parts) {K:St->Prop}
  (hk:AFz C o.dst t len (parts.toList.map fun x=>(x.1,opv σ x.2)) σ K) (h:Stx w0 fp0 ok0 W n σ a w ok θ ρ φ):eH C.P o a w K (fun σ' a' w'=>Ste w0 fp0 ok0 W n σ' a' w'/\bV w w'):=by
 unfold AFz at hk;split at hk
 ·rename_i d ti hd hti;split at hk
  ·rename_i e hke;split at hk
   ·rename_i i hi;obtain⟨hle,hk⟩:=hk;split at hk
    ·rename_i l hl;split at hk
     ·rename_i cs hcs;obtain⟨hcl,hk⟩:=hk;have hrow:=b9 hT hi;obtain⟨z,z1,z2,z3⟩:=hrow.zeroV;have hu:=kK (b9 hT hti) hke;have hp:FRP w ok σ ρ (parts.toList.map fun x=>(x.1,opv σ x.2)) (parts.map fun (i,x)=>(i,a.eval x)).toList:=by
       rw[Array.toList_map];exact uY _ fun x hx=>h.ops ho x (by rw[hop];simpa[Op.operands] using hx)
      let zz:Array Value:=if len*i.size=0 then #[] else z.cells
      let A:Array Value:=(Array.range (len*i.size)).map (fun j=>zz[j % zz.size]!)
      have hA:A.toList=jN i.zero len:=by
       show ((Array.range (len*i.size)).map (fun j=>zz[j % zz.size]!)).toList=_
       by_cases h0:len*i.size=0
       ·have:(jN i.zero len).length=0:=by rw[i7,hrow.len,h0]
        rw[List.eq_nil_of_length_eq_zero this,h0];simp
       ·have:zz=z.cells:=if_neg h0;rw[this,<-hrow.len];exact zh z1 len
      obtain⟨B,b1,b2,b3⟩:=mi h.rel (place':=fun j=>some (j*i.size,i.size)) (fun _ _ h=>h) _ _ _ l A hp (by rw[hA];exact xJ _ _) hl;have hrun:(execOp a.eval o).run C.P w = .ok (.value (.slice (some ⟨w.heap.size,0,none⟩) len len)) (w.alloc (.cells B e)):=by
       have hb1:Instr.fill (fun j=>some (j*i.size,i.size)) ((Array.range (len*i.size)).map (fun j=>zz[j % zz.size]!)) (parts.map fun (i,x)=>(i,a.eval x)).toList=some B:=b1;have:=oc hu hrow.size z3 hle zz rfl hb1 w;simp[execOp,hop,this]
      have hlt:=ig w (.cells B e);have hok:∀ b,ok b->(ok b\/b=w.heap.size)/\(w.alloc (.cells B e)).heap[b]? = w.heap[b]?:=fun b hb=>⟨.inl hb,hlt.2 b (h.rel.okb b hb)⟩;have h2:=(h.rel.world (w':=w.alloc (.cells B e)) hlt.2 hlt.1 (h.rel.frm.alloc _)).grow (okn:=fun b=>ok b\/b=w.heap.size) (fun b hb=>.inl hb)
       (fun b hb=>by
        rcases hb with hb | rfl
        ·exact Nat.lt_of_lt_of_le (h.rel.okb b hb) hlt.1
        ·simp)
       (fun q e' he b hb hn=>by
        have hob:=(h.rel.own q e' he).2.2 b hb;rcases hn with hn | rfl
        ·exact hob.1 hn
        ·exact Nat.lt_irrefl _ hob.2.2)
      have hs':Stx w0 fp0 ok0 W n σ a (w.alloc (.cells B e)) (fun b=>ok b\/b=w.heap.size) θ ρ φ:=⟨h2,h.th,fun b hb=>.inl (h.oks b hb),fun b hb=>by
       rcases hb with hb | rfl
       ·exact h.okn b hb
       ·exact .inr h.rel.frm.size,h.dfr,h.sz⟩
      have hnew:(w.alloc (.cells B e)).heap[w.heap.size]? = some (.cells B e (0,0)):=heap_alloc_new w _;have hf:FR (w.alloc (.cells B e)) (fun b=>ok b\/b=w.heap.size) σ ρ (.d (.sh i.size len cs)) (.slice (some ⟨w.heap.size,0,none⟩) len len):=by
       simp only[FR,Sh];refine⟨_,_,rfl,Nat.le_refl _,hcl,.inr ⟨_,_,rfl,.inr rfl,xl hcs b2 hok fun j u hj=>?_⟩⟩;simp only[World.cell?,hnew];rw[Array.getElem?_toList] at hj;simpa using hj
      exact c8 hrun hk ⟨hs'.fin ho hd hf,hlt⟩
     ·exact hk.elim
    ·exact hk.elim
   ·exact hk.elim
  ·exact hk.elim
 ·exact hk.elim
theorem yI {w:World} {ok:Nat->Prop} {b:Nat}:∀ {cs:List D} {o:Nat} {fp:List Nat} (m:Nat),OwL w ok b cs o fp->∃ fp1 fp2,fp=fp1 ++ fp2/\OwL w ok b (cs.take m) o fp1
 | [],o,fp,m,h=>⟨[],fp,rfl,by simp[OwL]⟩
 | d :: ds,o,fp,0,h=>⟨[],fp,rfl,by simp[OwL]⟩
 | d :: ds,o,fp,m+1,h=>by
  simp only[OwL] at h;obtain⟨u,f1,f2,h1,h2,h3,h4⟩:=h;obtain⟨g1,g2,h5,h6⟩:=yI m h4;exact⟨f1 ++ g1,g2,by rw[h2,h5,List.append_assoc],by simp only[List.take_succ_cons,OwL];exact⟨u,f1,g1,h1,rfl,h3,h6⟩⟩
theorem Ga {w:World} {ok:Nat->Prop} {k N n M c c':Nat} {cs:List D} {a:Option Addr} {fo:List Nat} (h:Ow w ok (.ow k N cs) (.slice a M c) fo) (hn:fo.Nodup) (hle:n<=N) (hc:c'=n\/c'=c) :
  ∃ fp,Ow w ok (.ow k n (cs.take (k*n))) (.slice a n c') fp/\fp.Nodup/\∀ b∈fp,b∈fo:=by
 by_cases h0:c'=0
 ·have hn0:n=0:=by
   rcases hc with hc | hc
   ·omega
   ·simp only[Ow] at h;rcases h with ⟨h1,_⟩ | ⟨b,o,c2,arr,T,fp',h1,h2,h3,h4,h5,h6,h7⟩
    ·omega
    ·injection h1 with e1 e2 e3
     omega
  subst hn0;subst h0;refine⟨[],?_,by simp,by simp⟩;simp only[Ow];refine .inl ⟨?_,?_,?_,?_⟩ <;> simp
 ·simp only[Ow] at h;rcases h with ⟨h1,_,_,a3,h2⟩ | ⟨b,o,c2,arr,T,fp',h1,h2,h3,h4,h5,h6,h7⟩
  ·injection h2 with e1 e2 e3
   omega
  ·injection h1 with e1 e2 e3
   subst e1 e2 e3;obtain⟨f1,f2,g1,g2⟩:=yI (k*n) h7;refine⟨b :: f1,?_,?_,?_⟩
   ·simp only[Ow];refine .inr ⟨b,o,c',arr,T,f1,rfl,rfl,h3,⟨by omega,h0⟩,?_,?_,g2⟩
    ·have:=Nat.mul_le_mul_left k (show c'<=c by omega);omega
    ·rw[List.length_take,h6];exact Nat.min_eq_left (Nat.mul_le_mul_left k hle)
   ·rw[h2,g1] at hn;simp only[List.nodup_cons,List.mem_append,List.nodup_append] at hn ⊢;exact⟨fun q=>hn.1 (.inl q),hn.2.1⟩
   ·intro x hx;rw[h2,g1];simp only[List.mem_cons,List.mem_append] at hx ⊢;rcases hx with hx | hx
    ·exact .inl hx
    ·exact .inr (.inl hx)
theorem ER {o:Oper} (ho:cU n o=true) {f:FV} {v:Value} {K:St->Prop} (hk:BR o.dst f σ K) (h:Stx w0 fp0 ok0 W n σ a w ok θ ρ φ) (hv0:FR w ok σ ρ f v):∃ σ',K σ'/\Ste w0 fp0 ok0 W n σ' (a.put o.dst v) w:=by
 have main:∀ {d:Nat} {r:Rn} {n':Nat} (hd:o.dst=some d) (hsl:∃ k N cs hv a M c c',σ.obj r []=some (.ow k N cs)/\hdr w (ρ r) []=some hv/\hv = .slice a M c/\v = .slice a n' c'/\(c'=n'\/c'=c))
   (hk:match σ.rts r with
    | some (.ow k N cs)=>(((σ.take r []).kill r []).rts (d,0)=none/\n'<=N)/\K { (((σ.take r []).kill r []).root (d,0) (.ow k n' (cs.take (k*n')))) with env:=upd ((σ.take r []).kill r []).env d (.al (d,0) [] 0 n') }
    | _=>False),∃ σ',K σ'/\Ste w0 fp0 ok0 W n σ' (a.put o.dst v) w:=by
  intro d r n' hd hsl hk;split at hk
  ·rename_i k N cs hrts;obtain⟨⟨hnone,hnN⟩,hk⟩:=hk;have hobj:σ.obj r []=some (.ow k N cs):=by simp[St.obj,hrts,bw]
   obtain⟨hv,fo,φ1,t1,t2,t3,t4,t5,t6,t7⟩:=h.rel.takeKill hobj;obtain⟨k2,N2,cs2,hv2,a2,M2,c2,c3,x1,x2,x4,x5,x6⟩:=hsl;rw[t1] at x2;injection x2 with x2;subst x2;rw[x4] at t2;obtain⟨fp,f1,f2,f3⟩:=Ga t2 t3 hnN x6;have h2:=t5.root (r:=(d,0)) hnone f1 f2 (fun b hb=>⟨fun q e hq hh=>t6 q e hq b hh (f3 b hb),t4 b (f3 b hb)⟩);have hs':Stx w0 fp0 ok0 W n (((σ.take r []).kill r []).root (d,0) (.ow k n' (cs.take (k*n')))) a w ok θ (upR ρ (d,0) (.slice a2 n' c3)) (upR φ1 (d,0) fp):=⟨h2,h.th,h.oks,h.okn,h.dfr,h.sz⟩;have hf:FR w ok (((σ.take r []).kill r []).root (d,0) (.ow k n' (cs.take (k*n')))) (upR ρ (d,0) (.slice a2 n' c3)) (.al (d,0) [] 0 n') (.slice a2 n' c3):=by
    simp only[FR];exact⟨k,n',cs.take (k*n'),.slice a2 n' c3,by simp[St.obj,St.root,bw],by simp[hdr,upR],by omega,.inl ⟨rfl,a2,n',c3,rfl,rfl⟩⟩
   refine⟨_,hk,?_⟩;rw[x5];exact hs'.fin ho hd hf
  ·exact hk.elim
 unfold BR at hk;split at hk
 ·rename_i d r n' hd;refine main hd ?_ hk;simp only[FR] at hv0;obtain⟨k2,N2,cs2,hv2,a2,M2,c2,x1,x2,x3,x4,x5⟩:=hv0;exact⟨k2,N2,cs2,hv2,a2,M2,c2,n',x1,x2,x4,x5,.inl rfl⟩
 ·rename_i d r n' hd;refine main hd ?_ hk;simp only[FR] at hv0;obtain⟨k2,N2,cs2,hv2,x1,x2,x3,x4⟩:=hv0;rcases x4 with ⟨_,a2,M2,c2,x4,x5⟩ | ⟨q,_⟩
  ·exact⟨k2,N2,cs2,hv2,a2,M2,c2,c2,x1,x2,x4,x5,.inr rfl⟩
  ·omega
 ·exact hk.elim
theorem p8 {C:Ctx} (hT:cT C.P C.T=true) {o:Oper} (ho:cU n o=true) {K:St->Prop} (hk:oh C o σ K) (h:Stx w0 fp0 ok0 W n σ a w ok θ ρ φ) :
  ∃ v σ',K σ'/\Ste w0 fp0 ok0 W n σ' (a.put o.dst v) w/\∀ w',(mQ o.op=true->bV w w')->(execOp a.eval o).run C.P w' = .ok (.value v) w':=by
 unfold oh at hk;split at hk
 ·rename_i c f hs;obtain⟨v,h1,h2⟩:=qH hT h.rel a o hs hk.1 (h.ops ho);obtain⟨σ',k1,k2⟩:=ER ho hk.2 h h1;exact⟨v,σ',k1,k2,h2⟩
 ·exact hk.elim
theorem wr {C:Ctx} (hT:cT C.P C.T=true) {o:Oper} (ho:cU n o=true) {K:St->Prop} (hk:oh C o σ K) (h:Stx w0 fp0 ok0 W n σ a w ok θ ρ φ):eH C.P o a w K (fun σ' a' w'=>Ste w0 fp0 ok0 W n σ' a' w'/\bV w w'):=by
 obtain⟨v,σ',k1,k2,k3⟩:=p8 hT ho hk h;exact c8 (k3 w fun _=>bV.refl w) k1 ⟨k2,bV.refl w⟩
theorem yl {C:Ctx} (hz:C.nW=0->fp0=[]) {o:Oper} (ho:cU n o=true) {x:Operand} (hop:o.op = .move x\/o.op = .assign x) {K:St->Prop} (hk:tN C o.dst x σ K)
  (h:Stx w0 fp0 ok0 W n σ a w ok θ ρ φ):∃ σ',K σ'/\Ste w0 fp0 ok0 W n σ' (a.put o.dst (a.eval x)) w:=by
 unfold tN at hk;split at hk
 ·rename_i d s r n' hd he;split at hk
  ·rename_i k N cs hrts;obtain⟨⟨hnw,hnN⟩,hk⟩:=hk;have hfp:=hz hnw;have hobj:σ.obj r []=some (.ow k N cs):=by simp[St.obj,hrts,bw]
   obtain⟨hv,fo,φ1,t1,t2,t3,t4,t5,t6,t7⟩:=h.rel.takeKill hobj;have hx:=h.ops ho (.tmp s) (by rcases hop with hop | hop <;> rw[hop] <;> simp[Op.operands]);have hfo:fo=φ r:=by
    have e5:ρ r=hv:=by simpa[hdr] using t1
    have h1:=(h.rel.own r _ hrts).1;rw[e5] at h1;exact fY _ _ _ _ t2 h1
   have hL:pH w ok σ φ [r] (fun c=>ok c\/c∈fo):=⟨fun b hb=>.inl hb,fun q hq d' _ b hb=>by
    simp only[List.mem_singleton] at hq;subst hq;exact .inr (by rw[hfo];exact hb)⟩
   have hview:eQ σ (.al r [] 0 n')=some (.d (.sh k n' (shareL cs)),[r]):=by simp[eQ,hobj,hnN]
   rw[he] at hx;have hf:=mB h.rel hL ((σ.take r []).kill r []) ρ _ _ _ _ hview (by simp) hx;have h2:Rel w0 fp0 (fun c=>ok c\/c∈fo) ((σ.take r []).kill r []) θ w ρ φ1:=t5.grow' (fun c hc=>.inl hc) (fun c hc=>by
    rcases hc with hc | hc
    ·exact t5.okb c hc
    ·exact (t4 c hc).2.2) (fun q e hq c hc hh=>by
    rcases hh with hh | hh
    ·exact ((t5.own q e hq).2.2 c hc).1 hh
    ·exact t6 q e hq c hc hh)
   have h3:=h2.upd (t:=s) hf;have hth:upd θ s (a.eval (.tmp s))=θ:=by
    funext q;simp only[Ab.upd];split
    ·rename_i hsd;subst hsd;have hdn:q < n:=by
      have:=ho;simp only[cU,Bool.and_eq_true,List.all_eq_true] at this;have h9:=this.1 (.tmp q) (by rcases hop with hop | hop <;> rw[hop] <;> simp[Op.operands]);simpa[iB] using h9
     exact (h.th.1 q (Nat.lt_of_lt_of_le hdn (by rw[<-h.sz];exact h.th.2.2))).symm
    ·rfl
   rw[hth] at h3;have hf2:=iR (σ1:=(σ.take r []).kill r []) (σ2:={ ((σ.take r []).kill r []) with env:=upd ((σ.take r []).kill r []).env s (.d (.sh k n' (shareL cs))) }) rfl _ _ hf;have hs':Stx w0 fp0 ok0 W n { ((σ.take r []).kill r []) with env:=upd ((σ.take r []).kill r []).env s (.d (.sh k n' (shareL cs))) } a w (fun c=>ok c\/c∈fo) θ ρ φ1:=⟨h3,h.th,fun c hc=>.inl (h.oks c hc),fun c hc=>by
    rcases hc with hc | hc
    ·exact h.okn c hc
    ·rcases (t4 c hc).2.1 with hh | hh
     ·rw[hfp] at hh;simp at hh
     ·exact .inr hh,h.dfr,h.sz⟩
   exact⟨_,hk,hs'.fin ho hd hf2⟩
  ·exact hk.elim
 ·rename_i d s fs hd he;split at hk
  ·rename_i gs r hvl;split at hk
   case h_2=>exact hk.elim
   rename_i k N cs hrts;obtain⟨hnw,hk⟩:=hk;have hfp:=hz hnw;have hobj:σ.obj r []=some (.ow k N cs):=by simp[St.obj,hrts,bw]
   obtain⟨hv,fo,φ1,t1,t2,t3,t4,t5,t6,t7⟩:=h.rel.takeKill hobj;have hx:=h.ops ho (.tmp s) (by rcases hop with hop | hop <;> rw[hop] <;> simp[Op.operands]);have hfo:fo=φ r:=by
    have e5:ρ r=hv:=by simpa[hdr] using t1
    have h1:=(h.rel.own r _ hrts).1;rw[e5] at h1;exact fY _ _ _ _ t2 h1
   have hL:pH w ok σ φ [r] (fun c=>ok c\/c∈fo):=⟨fun b hb=>.inl hb,fun q hq d' _ b hb=>by
    simp only[List.mem_singleton] at hq;subst hq;exact .inr (by rw[hfo];exact hb)⟩
   have hview:eQ σ (.tu fs)=some (.tu gs,[r]):=by simp[eQ,hvl]
   rw[he] at hx;have hf:=mB h.rel hL ((σ.take r []).kill r []) ρ _ _ _ _ hview (by simp) hx;have h2:Rel w0 fp0 (fun c=>ok c\/c∈fo) ((σ.take r []).kill r []) θ w ρ φ1:=t5.grow' (fun c hc=>.inl hc) (fun c hc=>by
    rcases hc with hc | hc
    ·exact t5.okb c hc
    ·exact (t4 c hc).2.2) (fun q e hq c hc hh=>by
    rcases hh with hh | hh
    ·exact ((t5.own q e hq).2.2 c hc).1 hh
    ·exact t6 q e hq c hc hh)
   have h3:=h2.upd (t:=s) hf;have hth:upd θ s (a.eval (.tmp s))=θ:=by
    funext q;simp only[Ab.upd];split
    ·rename_i hsd;subst hsd;have hdn:q < n:=by
      have:=ho;simp only[cU,Bool.and_eq_true,List.all_eq_true] at this;have h9:=this.1 (.tmp q) (by rcases hop with hop | hop <;> rw[hop] <;> simp[Op.operands]);simpa[iB] using h9
     exact (h.th.1 q (Nat.lt_of_lt_of_le hdn (by rw[<-h.sz];exact h.th.2.2))).symm
    ·rfl
   rw[hth] at h3;have hf2:=iR (σ1:=(σ.take r []).kill r []) (σ2:={ ((σ.take r []).kill r []) with env:=upd ((σ.take r []).kill r []).env s (.tu gs) }) rfl _ _ hf;have hs':Stx w0 fp0 ok0 W n { ((σ.take r []).kill r []) with env:=upd ((σ.take r []).kill r []).env s (.tu gs) } a w (fun c=>ok c\/c∈fo) θ ρ φ1:=⟨h3,h.th,fun c hc=>.inl (h.oks c hc),fun c hc=>by
    rcases hc with hc | hc
    ·exact h.okn c hc
    ·rcases (t4 c hc).2.1 with hh | hh
     ·rw[hfp] at hh;simp at hh
     ·exact .inr hh,h.dfr,h.sz⟩
   exact⟨_,hk,hs'.fin ho hd hf2⟩
  ·exact hk.elim
 ·exact hk.elim
theorem xE {C:Ctx} (hz:C.nW=0->fp0=[]) {o:Oper} (ho:cU n o=true) {x:Operand} (hop:o.op = .move x\/o.op = .assign x) {K:St->Prop} (hk:tN C o.dst x σ K)
  (h:Stx w0 fp0 ok0 W n σ a w ok θ ρ φ):eH C.P o a w K (fun σ' a' w'=>Ste w0 fp0 ok0 W n σ' a' w'/\bV w w'):=by
 obtain⟨σ',k1,k2⟩:=yl hz ho hop hk h;have hrun:(execOp a.eval o).run C.P w = .ok (.value (a.eval x)) w:=by
  rcases hop with hop | hop <;> simp[execOp,hop]
 exact c8 hrun k1 ⟨k2,bV.refl w⟩
end
end Go.Proofs.YtncfmemhjahpeaaGreat.Ab
namespace Go.Proofs.YtncfmemhjahpeaaGreat.Ab
open Go
section
variable {w0 w:World} {fp0:List Nat} {ok0 ok:Nat->Prop} {W:Nat->Value} {n:Nat} {σ:St} {θ:Nat->Value} {ρ:Rn->Value} {φ:Rn->List Nat} {a:Act}
theorem mu:∀ {fs gs:List FV} {us vs:List Value},FRL w ok σ ρ fs us->FRL w ok σ ρ gs vs->FRL w ok σ ρ (fs ++ gs) (us ++ vs)
 | [],gs,us,vs,h,k=>by
  simp only[FRL] at h;subst h;simpa using k
 | f :: fs,gs,us,vs,h,k=>by
  simp only[FRL] at h;obtain⟨u,us',rfl,h1,h2⟩:=h;simp only[List.cons_append,FRL];exact⟨u,us' ++ vs,rfl,h1,mu h2 k⟩
theorem wb:∀ {xs:List Operand},(∀ x∈xs,FR w ok σ ρ (opv σ x) (a.eval x))->FRL w ok σ ρ (xs.map (opv σ)) (xs.map a.eval)
 | [],_=>by simp[FRL]
 | x :: xs,h=>by
  simp only[List.map_cons,FRL];exact⟨_,_,rfl,h x (List.mem_cons_self ..),wb fun y hy=>h y (List.mem_cons_of_mem _ hy)⟩
theorem DH:∀ {caps:List D} {vs:List Value},ShV w ok caps vs->FRL w ok σ ρ (caps.map .d) vs
 | [],vs,h=>by
  simp only[ShV] at h;simp[FRL,h]
 | c :: caps,vs,h=>by
  simp only[ShV] at h;obtain⟨u,us,rfl,h1,h2⟩:=h;simp only[List.map_cons,FRL,FR];exact⟨u,us,rfl,h1,DH h2⟩
theorem pW {C:Ctx} {o:Oper} {c:Call} {f:Operand} {g:Nat} {captured:Array Value} (hop:o.op = .call c) (hcb:c.callee = .value f) (hf:a.eval f = .func (.func g) #[] captured) (h:ng C.P g) :
  (execOp a.eval o).run C.P w = .ok (.enter g (c.args.map a.eval ++ captured)) w:=by
 obtain⟨fn,cd,h1,h2,h3⟩:=h;have h4 : ¬ fn.name = "runtime.NumGoroutine" := by simpa using h3
 simp[execOp,hop,resolve,hcb,hf,Deferred.ofValue,invoke,callFunc,h1,h2,h4]
theorem zf {C:Ctx} (hT:cT C.P C.T=true) (hz:C.nW=0->fp0=[]) {o:Oper} (ho:cU n o=true) {K:St->Prop} (hk:AOp C o σ K) (h:Stx w0 fp0 ok0 W n σ a w ok θ ρ φ):eH C.P o a w K (fun σ' a' w'=>Ste w0 fp0 ok0 W n σ' a' w'/\(eP C.M o.op=true->bV w w')):=by
 have later:∀ {S:St->Act->World->Prop},eH C.P o a w K (fun σ' a' w'=>S σ' a' w'/\bV w w')->eH C.P o a w K (fun σ' a' w'=>S σ' a' w'/\(eP C.M o.op=true->bV w w')):=fun h=>h.mono fun _ _ _ hh=>⟨hh.1,fun _=>hh.2⟩;have never:∀ {S:St->Act->World->Prop},eP C.M o.op=false->eH C.P o a w K S->eH C.P o a w K (fun σ' a' w'=>S σ' a' w'/\(eP C.M o.op=true->bV w w')):=fun hn h=>h.mono fun _ _ _ hh=>⟨hh,fun h1=>by rw[hn] at h1;simp at h1⟩;unfold AOp at hk;split at hk
 case h_1 x hop=>
  split at hk
  ·exact later (xE hz ho (.inl hop) hk h)
  ·exact later (g9 hT ho hk h)
 case h_2 x hop=>
  split at hk
  ·exact later (xE hz ho (.inr hop) hk h)
  ·exact later (g9 hT ho hk h)
 case h_12=>
  split at hk
  ·exact later (wr hT ho hk h)
  ·exact later (g9 hT ho hk h)
 case h_16 op t x y t' hop=>
  split at hk
  ·rename_i hy;exact never (by rw[hop];simp[eP,qT,hy]) (CF hT ho hop hy hk h)
  ·exact later (g9 hT ho hk h)
 case h_17 t hop=>exact later (Az hT ho hop hk h)
 case h_18 t x hop=>
  split at hk
  ·exact later (EL ho hop hk h)
  ·exact later (CE hT ho hop hk h)
 case h_19 t len parts hop=>
  split at hk
  ·exact later (E2 hT ho hop hk h)
  ·exact later (tp hT ho hop hk h)
 case h_20 t l c hop=>exact later (B1 hT ho hop hk h)
 case h_21 t r hop=>
  split at hk
  ·rename_i d hd;exact later (x9 ho hop hd hk.1 hk.2 h)
  ·exact hk.elim
 case h_22 t x y hop=>
  split at hk
  ·rename_i d hd;have hx:x = .tmp d:=by
    unfold Ex at hd;split at hd
    ·rename_i d';split at hd
     ·injection hd with hd
      rw[hd]
     ·simp at hd
    ·simp at hd
   exact never (by rw[hop];rfl) (Dp hT hz ho hop hx hk h)
  ·exact never (by rw[hop];rfl) (Ao hT ho hop hk h)
 case h_23 t m k x hop=>exact never (by rw[hop];rfl) (zZ hT ho hop hk h)
 case h_24 t m hop=>exact never (by rw[hop];rfl) (Al hT ho hop hk h)
 case h_25 x s hop=>exact never (by rw[hop];rfl) (Ci ho hop hk h)
 case h_26 c hop=>
  split at hk
  ·rename_i b hb;unfold pG at hk;split at hk
   ·exact later (g9 hT ho hk h)
   ·exact later (g9 hT ho hk h)
   ·exact later (g9 hT ho hk h)
   ·split at hk
    ·rename_i s x t t' ha ht;exact never (by rw[hop];simp[eP,hb]) (yP hT ho hop hb ha ht hk h)
    ·exact hk.elim
   ·split at hk
    ·rename_i s x t t' ha ht;exact never (by rw[hop];simp[eP,hb]) (B9 hT ho hop hb ha ht hk h)
    ·exact hk.elim
   ·split at hk
    ·rename_i s x t t' ha ht;exact never (by rw[hop];simp[eP,hb]) (zF hT ho hop hb ha ht hk h)
    ·exact hk.elim
   ·exact hk.elim
  ·rename_i f hf;have calls:∀ (_:o.op = .call c) (_:c.callee = .value f) (g:Nat) (_:FV),(∀ g',f = .func g'->g'=g)->eH C.P o a w K (fun σ' a' w'=>Ste w0 fp0 ok0 W n σ' a' w'/\((aA [] C.M g).any id=false->bV w w')) ->
     eH C.P o a w K (fun σ' a' w'=>Ste w0 fp0 ok0 W n σ' a' w'/\(eP C.M o.op=true->bV w w')):=fun hop hf g _ hg h=>h.mono fun _ _ _ hh=>⟨hh.1,fun hkb=>hh.2 (by
    rw[hop] at hkb;simp only[eP,hf] at hkb;split at hkb
    ·rename_i g' _;rw[hg g' rfl] at hkb;simpa using hkb
    ·simp at hkb)⟩
   have hops:∀ x∈c.args.toList,FR w ok σ ρ (opv σ x) (a.eval x):=fun x hx=>h.ops ho x (by
    rw[hop];simp only[Op.operands,Call.operands,hf,Array.toList_append,List.mem_append];exact .inr hx)
   have hfv:FR w ok σ ρ (opv σ f) (a.eval f):=h.ops ho f (by rw[hop];simp[Op.operands,Call.operands,hf]);split at hk
   ·rename_i g caps hg;rw[hg] at hfv;simp only[FR,Sh] at hfv;obtain⟨vs,e,h3⟩:=hfv;refine calls hop hf g .dead (fun g' hg'=>by subst hg';simp[opv] at hg;exact hg.1) (uK ho (fun hc=>pW hop hf e hc) hk h ?_);rw[Array.toList_append,Array.toList_map];exact mu (wb hops) (DH h3)
   ·rename_i g caps hg;rw[hg] at hfv;simp only[FR] at hfv;obtain⟨vs,e,h3⟩:=hfv;refine calls hop hf g .dead (fun g' hg'=>by subst hg';simp[opv] at hg) (uK ho (fun hc=>pW hop hf e hc) hk h ?_);rw[Array.toList_append,Array.toList_map];exact mu (wb hops) h3
   ·exact hk.elim
  ·exact hk.elim
 case h_28=>exact hk.elim
 all_goals exact later (g9 hT ho hk h)
def jm (n:Nat) (ops:Array Oper):Bool:=ops.toList.all (cU n)
theorem ke {ops:Array Oper} {i:Nat} {o:Oper} (h:jm n ops=true) (hi:ops[i]? = some o):cU n o=true:=by
 simp only[jm,List.all_eq_true] at h;exact h o (by simpa using Array.mem_of_getElem? hi)
theorem rT:FR w ok σ ρ (.tu []) undef:=by
 simp only[FR,FRL];exact⟨#[],rfl,rfl⟩
theorem qa (h:Stx w0 fp0 ok0 W n σ a w ok θ ρ φ) {ops:Array Oper} {o:Oper} {t j:Nat} {want:Bool} (htn:t < n) (hb:σ.env t = .tu []) (hg:o.guard=some (j,want)) (ht:(ops[j]?).bind (·.dst)=some t):Region.wanted o (yielded ops a.tmps)=false:=by
 have hev:a.eval (.tmp t)=undef:=by
  have h1:=h.opv (x:=.tmp t) (by simpa[iB] using htn);have h2:opv σ (.tmp t) = .tu []:=hb;rw[h2] at h1;simp only[FR,FRL] at h1;obtain⟨vs,e1,e2⟩:=h1;rw[e1];have:vs = #[]:=by
   apply Array.ext';simpa using e2
  rw[this];rfl
 have hy:yielded ops a.tmps j=none:=by
  have hlt:t < a.tmps.size:=by rw[h.sz];exact htn
  have h1:a.tmps[t]? = some undef:=by
   have:a.tmps.getD t undef=undef:=hev;rw[Array.getD_eq_getD_getElem?,Array.getElem?_eq_getElem hlt] at this;rw[Array.getElem?_eq_getElem hlt];simpa using this
  unfold yielded;rw[ht];simp[h1,undef]
 simp[Region.wanted,hg,hy]
theorem xw {C:Ctx} (hT:cT C.P C.T=true) (hz:C.nW=0->fp0=[]) {ops:Array Oper} (hsm:jm n ops=true) {i:Nat} {o:Oper} (hi:ops[i]? = some o) {K:St->Prop} (hk:mR C ops o σ K) (h:Stx w0 fp0 ok0 W n σ a w ok θ ρ φ)
  (Kc:Act->World->Prop) (Q:Exit->Act->World->Prop) (hK:∀ σ' a' w',K σ'->Ste w0 fp0 ok0 W n σ' a' w'->(eP C.M o.op=true->bV w w')->Kc a' w'):wpOp C.P ops Q i Kc a w:=by
 have hK':∀ σ' a' w',K σ'->(Ste w0 fp0 ok0 W n σ' a' w'/\(eP C.M o.op=true->bV w w'))->Kc a' w':=fun σ' a' w' h1 h2=>hK σ' a' w' h1 h2.1 h2.2;have ho:=ke hsm hi;unfold wpOp;simp only[hi];unfold mR at hk;split at hk
 ·rename_i hg;have hw:Region.wanted o (yielded ops a.tmps)=true:=by simp[Region.wanted,hg]
  rw[if_pos hw];exact .inl (zf hT hz ho hk h Kc Q hK')
 ·rename_i j want hg;split at hk
  ·rename_i t ht;split at hk
   ·rename_i b hb;have htn:t < n:=by
     cases hj:ops[j]? with
     | none=>simp[hj] at ht
     | some oj=>
      simp only[hj,Option.bind_some] at ht;exact dc (ke hsm hj) t ht
    have hev:a.eval (.tmp t) = .bool b:=by
     have h1:=h.opv (x:=.tmp t) (by simpa[iB] using htn);have h2:opv σ (.tmp t) = .d (.v (.bool b)):=hb;rw[h2] at h1;exact eI h1
    have hy:yielded ops a.tmps j=some b:=by
     have hlt:t < a.tmps.size:=by rw[h.sz];exact htn
     have h1:a.tmps[t]? = some (.bool b):=by
      have:a.tmps.getD t undef = .bool b:=hev;rw[Array.getD_eq_getD_getElem?,Array.getElem?_eq_getElem hlt] at this;rw[Array.getElem?_eq_getElem hlt];simpa using this
     unfold yielded;rw[ht];simp[h1]
    have hwant:Region.wanted o (yielded ops a.tmps)=(b == want):=by
     simp[Region.wanted,hg,hy]
    rw[hwant]
    by_cases hbw:b=want
    ·subst hbw;simp only[beq_self_eq_true,if_true];exact .inl (zf hT hz ho (hk.1 rfl) h Kc Q hK')
    ·have:(b == want)=false:=by simpa using hbw
     rw[this];simp only[Bool.false_eq_true,if_false];obtain⟨θ',h3⟩:=h.put (dst:=o.dst) (dc ho) (f:=.tu []) (v:=undef) (rT);exact hK _ _ _ (hk.2 hbw) ⟨_,_,_,_,h3⟩ (fun _=>bV.refl w)
   ·rename_i hb;have htn:t < n:=by
     cases hj:ops[j]? with
     | none=>simp[hj] at ht
     | some oj=>
      simp only[hj,Option.bind_some] at ht;exact dc (ke hsm hj) t ht
    rw[qa h htn hb hg ht];simp only[Bool.false_eq_true,if_false];obtain⟨θ',h3⟩:=h.put (dst:=o.dst) (dc ho) (f:=.tu []) (v:=undef) (rT);exact hK _ _ _ hk ⟨_,_,_,_,h3⟩ (fun _=>bV.refl w)
   ·exact hk.elim
  ·exact hk.elim
end
end Go.Proofs.YtncfmemhjahpeaaGreat.Ab
namespace Go.Proofs.YtncfmemhjahpeaaGreat.Ab
open Go
section
variable {w0 w:World} {fp0:List Nat} {ok0 ok:Nat->Prop} {W:Nat->Value} {n:Nat} {σ:St} {θ:Nat->Value} {ρ:Rn->Value} {φ:Rn->List Nat} {a:Act} {P:Program} {ops:Array Oper} {Q:Exit->Act->World->Prop}
theorem xa {C:Ctx} (hT:cT C.P C.T=true) (hz:C.nW=0->fp0=[]) (hsm:jm n ops=true):∀ (m i:Nat) (σ:St) (a:Act) (w:World) (K:St->Prop),i+m=ops.size->qy C ops (ops.toList.drop i) σ K->Ste w0 fp0 ok0 W n σ a w ->
  (∀ σ' a' w',K σ'->Ste w0 fp0 ok0 W n σ' a' w'->Q .normal a' w')->wpOps C.P ops Q (List.range' i m) a w
 | 0,i,σ,a,w,K,hi,hk,hs,hK=>by
  rw[List.drop_eq_nil_of_le (by simp;omega)] at hk;exact hK σ a w hk hs
 | m+1,i,σ,a,w,K,hi,hk,hs,hK=>by
  have hlt:i < ops.toList.length:=by simp;omega
  have ho:ops[i]? = some ops.toList[i]:=by simp[hlt]
  rw[List.drop_eq_getElem_cons hlt] at hk;simp only[qy] at hk;obtain⟨ok,θ,ρ,φ,hs⟩:=hs;rw[List.range'_succ,wpOps_cons];refine xw hT hz hsm ho hk hs _ _ fun σ' a' w' hk' hs' _=>?_;exact xa hT hz hsm m (i+1) σ' a' w' K (by omega) hk' hs' hK
def og (P:Program) (M:List (Nat×List Bool)) (ops:Array Oper) (Q:Exit->Act->World->Prop):Nat->Array Bool->Act->World->Prop
 | 0,listed,a,w=>Region.ready .any ops listed=[]/\Q .normal a w
 | fuel+1,listed,a,w=>(Region.ready .any ops listed=[]->Q .normal a w) /\
  ∀ i∈Region.ready .any ops listed,∀ o,ops[i]? = some o->wpOp P ops Q i (fun a' w'=>(eP M o.op=true->bV w w')/\og P M ops Q fuel (listed.setIfInBounds i true) a' w') a w
theorem uX {M:List (Nat×List Bool)}:∀ (fuel:Nat) (listed:Array Bool) (a:Act) (w:World),og P M ops Q fuel listed a w->wpAny P .any ops Q fuel listed a w
 | 0,_,_,_,h=>h
 | fuel+1,listed,a,w,h=>⟨h.1,fun i hi=>by
   obtain⟨_,o,ho,_⟩:=mem_ready.1 hi;exact wpOp_mono (fun a' w' h'=>uX fuel _ a' w' h'.2) (h.2 i hi o ho)⟩
def gj (P:Program) (ops:Array Oper) (o:Oper) (v:Value) (rd:Bool) (a:Act) (w:World):Prop:=
 (Region.wanted o (yielded ops a.tmps)=true/\∀ w',(rd=true->bV w w')->(execOp a.eval o).run P w' = .ok (.value v) w') \/
 (Region.wanted o (yielded ops a.tmps)=false/\v=undef)
theorem gj.wpOp {i:Nat} {o:Oper} {v:Value} {rd:Bool} (hi:ops[i]? = some o) (hy:gj P ops o v rd a w) {K:Act->World->Prop} (h:K (a.put o.dst v) w):wpOp P ops Q i K a w:=by
 unfold Go.wpOp;simp only[hi];rcases hy with ⟨hw,hv⟩ | ⟨hw,rfl⟩
 ·simp only[hw,if_true,Oper.wp,hv w (fun _=>bV.refl w),Oper.upon];exact .inl h
 ·simp only[hw,Bool.false_eq_true,if_false];exact h
theorem gj.of_same {o:Oper} {v:Value} {rd:Bool} {a a':Act} {w w':World} (hy:gj P ops o v rd a w) (he:execOp a'.eval o=execOp a.eval o)
  (hw:Region.wanted o (yielded ops a'.tmps)=Region.wanted o (yielded ops a.tmps)) (hl:rd=true->bV w w'):gj P ops o v rd a' w':=by
 unfold gj at *
 rw[he,hw];exact hy.imp (fun h=>⟨h.1,fun w2 h2=>h.2 w2 fun hr=>(hl hr).trans (h2 hr)⟩) id
theorem DN {M:List (Nat×List Bool)} {j:Nat} {oi oj:Oper} {v:Value} {rd:Bool} (hj:ops[j]? = some oj) (hap:oi.apart ops oj=true) (hkp:rd=true->eP M oj.op=true)
  (hsi:∀ cs b,oi.op≠.select cs b) (hsj:∀ cs b,oj.op≠.select cs b)
  (hQ:∀ c a w,Q (.panic c) (a.put oi.dst v) w->Q (.panic c) a w) {K:Act->World->Prop} {a:Act} {w:World}
  (hy:gj P ops oi v rd a w) (h:wpOp P ops Q j (fun a' w'=>(eP M oj.op=true->bV w w')/\K a' w') (a.put oi.dst v) w) :
  wpOp P ops Q j (fun a' w'=>(eP M oj.op=true->bV w w')/\gj P ops oi v rd a' w'/\K (a'.put oi.dst v) w') a w:=by
 obtain⟨h1,h2,h3⟩:=Oper.apart_spec hap;have keep:∀ (a:Act) (w':World),gj P ops oi v rd a w->(eP M oj.op=true->bV w w')->∀ u,gj P ops oi v rd (a.put oj.dst u) w':=fun a w' hy hl u=>
  hy.of_same (execOp_put oi hsi a oj.dst u h3) (wanted_put oi a oj.dst u h3) fun hr=>hl (hkp hr)
 have keepD:∀ d,gj P ops oi v rd { a with defers:=d :: a.defers } w:=fun d=>hy.of_same rfl rfl fun _=>bV.refl w;unfold wpOp at *
 simp only[hj] at *
 rw[wanted_put oj a oi.dst v h1] at h;split
 ·rename_i hw;simp only[hw,if_true] at h;rcases h with h | ⟨hasks,hlets⟩
  case inr=>exact .inr ⟨by unfold Oper.asks at *;rw[execOp_put oj hsj a oi.dst v h1] at hasks;exact hasks,hlets⟩
  refine .inl ?_;unfold Oper.wp at *
  rw[execOp_put oj hsj a oi.dst v h1] at h;generalize (execOp a.eval oj).run P w=r at *
  cases r with
  | ok n w'=>
   cases n <;> simp only[Oper.upon] at h ⊢
   case value u=>exact⟨h.1,keep a w' hy h.1 u,by rw[<-Act.put_comm a v u h2];exact h.2⟩
   case skip=>exact⟨h.1,keep a w' hy h.1 _,by rw[<-Act.put_comm a v undef h2];exact h.2⟩
   case defer d=>
    refine⟨h.1,keep _ w' (keepD d) h.1 _,?_⟩;rw[<-Act.put_comm _ v undef h2,<-Act.put_defers];exact h.2
   case enter f args=>
    refine Calls.mono h fun e w'' he=>?_
    cases e with
    | returned u=>exact⟨he.1,keep a w'' hy he.1 u,by rw[<-Act.put_comm a v u h2];exact he.2⟩
    | panicked c=>exact hQ _ _ _ he
    | outgrown=>exact he
   case row row args=>exact Rows.mono h fun u w'' he=>⟨he.1,keep a w'' hy he.1 u,by rw[<-Act.put_comm a v u h2];exact he.2⟩
  | halt x w'=>
   cases x <;> simp only[Oper.upon] at h ⊢
   case panic u=>exact hQ _ _ _ h
 ·rename_i hw;simp only[hw] at h;exact⟨h.1,keep a w hy h.1 _,by rw[<-Act.put_comm a v undef h2];exact h.2⟩
def Closed (ops:Array Oper) (listed:Array Bool):Prop:=∀ k o,ops[k]? = some o->listed.getD k false=true->∀ e∈o.after,uJ e=true->listed.getD e.on false=true
theorem Bu {listed:Array Bool} {k:Nat} (h:listed.getD k false=true):k < listed.size:=by
 rcases Nat.lt_or_ge k listed.size with h' | h'
 ·exact h'
 ·simp[Array.getElem?_eq_none h'] at h
theorem pJ {listed:Array Bool} {i:Nat} (h:Closed ops listed) (hr:i∈Region.ready .any ops listed):Closed ops (listed.setIfInBounds i true):=by
 intro k o hk hl e he hb
 by_cases hki:i=k
 ·subst hki;obtain⟨_,o',ho',hall⟩:=mem_ready.1 hr;rw[hk] at ho';injection ho' with ho'
  subst ho';exact getD_set_true (hall e he hb)
 ·rw[getD_set_ne false hki] at hl;exact getD_set_true (h k o hk hl e he hb)
theorem xG {listed:Array Bool} {i:Nat} (h:Closed ops listed) (hi:listed.getD i true=false):∀ (m k:Nat),(∀ o,ops[k]? = some o->∀ e∈o.after,uJ e=true->listed.getD e.on false=true)->oG ops i m k=false
 | 0,k,_=>rfl
 | m+1,k,hk=>by
  unfold oG;split
  ·rename_i oj hoj;rw[Bool.eq_false_iff];intro hany;rw[Bool.or_eq_true] at hany;rcases hany with hany | hany
   ·obtain⟨e,he,hb⟩:=Array.any_eq_true'.1 hany;simp only[Bool.and_eq_true,beq_iff_eq] at hb;have hle:=hk oj hoj e he hb.1;rw[hb.2] at hle;have:=Bu hle;simp[this] at hi hle;rw[hi] at hle;simp at hle
   ·obtain⟨e,he,hb⟩:=Array.any_eq_true'.1 hany;simp only[Bool.and_eq_true] at hb;have hle:=hk oj hoj e he hb.1;have h2:=hb.2.2;rw[xG h hi m e.on (fun o ho e' he' hb'=>h e.on o ho hle e' he' hb')] at h2;simp at h2
  ·rfl
theorem yX {M:List (Nat×List Bool)} {i:Nat} {oi:Oper} {v:Value} {rd:Bool} (hi:ops[i]? = some oi) (hsel:∀ (j:Nat) (o:Oper) cs b,ops[j]? = some o->o.op≠.select cs b)
  (hQ:∀ c a w,Q (.panic c) (a.put oi.dst v) w->Q (.panic c) a w) :
  ∀ (fuel:Nat) (listed:Array Bool) (a:Act) (w:World),Closed ops listed ->
   (∀ j oj,ops[j]? = some oj->j≠i->listed.getD j true=false->oG ops i ops.size j=false->oi.apart ops oj=true/\(rd=true->eP M oj.op=true)) ->
   i∈Region.ready .any ops listed->gj P ops oi v rd a w ->
   og P M ops Q fuel (listed.setIfInBounds i true) (a.put oi.dst v) w->og P M ops Q (fuel+1) listed a w:=by
 intro fuel
 induction fuel with
 | zero=>
  intro listed a w _ _ hr hy H;refine⟨fun h=>(by rw[h] at hr;cases hr),fun j hj o ho=>?_⟩
  by_cases hji:j=i
  ·subst hji;exact hy.wpOp hi ⟨fun _=>bV.refl w,H⟩
  ·have:=ready_mono hj hji;rw[H.1] at this
   cases this
 | succ fuel ih=>
  intro listed a w hcl hfree hr hy H;refine⟨fun h=>(by rw[h] at hr;cases hr),fun j hj o ho=>?_⟩
  by_cases hji:j=i
  ·subst hji;exact hy.wpOp hi ⟨fun _=>bV.refl w,H⟩
  ·have h1:=H.2 j (ready_mono hj hji) o ho;obtain⟨hjun,oj,hoj,hall⟩:=mem_ready.1 hj;rw[ho] at hoj;injection hoj with hoj
   subst hoj;have hiun:=(mem_ready.1 hr).1;have hnw:oG ops i ops.size j=false:=xG hcl hiun _ _ fun o' ho' e he hb=>by
    rw[ho] at ho';injection ho' with ho'
    subst ho';exact hall e he hb
   obtain⟨f1,f2⟩:=hfree j o ho hji hjun hnw;have h2:=DN (M:=M) ho f1 f2 (fun cs b=>hsel i oi cs b hi) (fun cs b=>hsel j o cs b ho) hQ hy h1;refine wpOp_mono (fun a' w' h3=>⟨h3.1,ih (listed.setIfInBounds j true) a' w' (pJ hcl hj) (fun k ok hk hki hun hno=>hfree k ok hk hki ?_ hno) (ready_mono hr (Ne.symm hji)) h3.2.1 ?_⟩) h2
   ·by_cases hjk:j=k
    ·subst hjk;exact hjun
    ·rw[getD_set_ne true hjk] at hun;exact hun
   ·rw[Array.setIfInBounds_comm _ _ hji];exact h3.2.2
theorem FA {C:Ctx} {o:Oper} {K:St->Prop} (hs:qT o.op=true) (hk:AOp C o σ K):gm C o σ K\/(∃ x,(o.op = .move x\/o.op = .assign x)/\tN C o.dst x σ K)\/oh C o σ K:=by
 unfold AOp at hk;split at hk <;> rename_i hop <;> first
  | exact .inl hk
  | (rw[hop] at hs;simp[qT] at hs;done)
  | skip
 ·split at hk
  ·exact .inr (.inl ⟨_,.inl hop,hk⟩)
  ·exact .inl hk
 ·split at hk
  ·exact .inr (.inl ⟨_,.inr hop,hk⟩)
  ·exact .inl hk
 ·split at hk
  ·exact .inr (.inr hk)
  ·exact .inl hk
 ·left
  rw[hop] at hs;simp only[qT,Bool.not_eq_true'] at hs;rw[hs] at hk;simpa using hk
 ·left
  rw[hop] at hs;simp only[qT] at hs;split at hs
  ·rename_i b hb;rw[hb] at hk;simp only at hk;unfold pG at hk;split at hs <;> first | exact hk | (simp at hs;done)
  ·simp at hs
 ·exact hk.elim
theorem Co {C:Ctx} (hT:cT C.P C.T=true) (hz:C.nW=0->fp0=[]) (hsm:jm n ops=true) {i:Nat} {o:Oper} (hi:ops[i]? = some o) {K:St->Prop} (hs:qT o.op=true) (hk:mR C ops o σ K) (h:Stx w0 fp0 ok0 W n σ a w ok θ ρ φ) :
  ∃ v σ',K σ'/\Ste w0 fp0 ok0 W n σ' (a.put o.dst v) w/\gj C.P ops o v (mQ o.op) a w:=by
 have ho:=ke hsm hi;have main:∀ K',AOp C o σ K'->Region.wanted o (yielded ops a.tmps)=true->∃ v σ',K' σ'/\Ste w0 fp0 ok0 W n σ' (a.put o.dst v) w/\gj C.P ops o v (mQ o.op) a w:=by
  intro K' hk' hw;rcases FA hs hk' with this | ⟨x,hop,hfr⟩ | hsl
  case inr.inr=>
   obtain⟨v,σ',k1,k2,k3⟩:=p8 hT ho hsl h;exact⟨v,σ',k1,k2,.inl ⟨hw,k3⟩⟩
  case inr.inl=>
   obtain⟨σ',k1,k2⟩:=yl hz ho hop hfr h;exact⟨a.eval x,σ',k1,k2,.inl ⟨hw,fun w' _=>by rcases hop with hop | hop <;> simp[execOp,hop]⟩⟩
  unfold gm at this;split at this
  ·rename_i c f hsil;obtain⟨v,h1,h2⟩:=qH hT h.rel a o hsil this.1 (h.ops ho);obtain⟨θ',h3⟩:=h.put (dst:=o.dst) (dc ho) h1;exact⟨v,_,this.2,⟨_,_,_,_,h3⟩,.inl ⟨hw,h2⟩⟩
  ·exact this.elim
 unfold mR at hk;split at hk
 ·rename_i hg;exact main K hk (by simp[Region.wanted,hg])
 ·rename_i j want hg;split at hk
  ·rename_i t ht;split at hk
   ·rename_i b hb;have htn:t < n:=by
     cases hj:ops[j]? with
     | none=>simp[hj] at ht
     | some oj=>
      simp only[hj,Option.bind_some] at ht;exact dc (ke hsm hj) t ht
    have hev:a.eval (.tmp t) = .bool b:=by
     have h1:=h.opv (x:=.tmp t) (by simpa[iB] using htn);have h2:opv σ (.tmp t) = .d (.v (.bool b)):=hb;rw[h2] at h1;exact eI h1
    have hy:yielded ops a.tmps j=some b:=by
     have hlt:t < a.tmps.size:=by rw[h.sz];exact htn
     have h1:a.tmps[t]? = some (.bool b):=by
      have:a.tmps.getD t undef = .bool b:=hev;rw[Array.getD_eq_getD_getElem?,Array.getElem?_eq_getElem hlt] at this;rw[Array.getElem?_eq_getElem hlt];simpa using this
     unfold yielded;rw[ht];simp[h1]
    have hwant:Region.wanted o (yielded ops a.tmps)=(b == want):=by
     simp[Region.wanted,hg,hy]
    by_cases hbw:b=want
    ·exact main K (hk.1 hbw) (by rw[hwant];simpa using hbw)
    ·obtain⟨θ',h3⟩:=h.put (dst:=o.dst) (dc ho) (f:=.tu []) (v:=undef) (rT);exact⟨undef,_,hk.2 hbw,⟨_,_,_,_,h3⟩,.inr ⟨by rw[hwant];simpa using hbw,rfl⟩⟩
   ·rename_i hb;have htn:t < n:=by
     cases hj:ops[j]? with
     | none=>simp[hj] at ht
     | some oj=>
      simp only[hj,Option.bind_some] at ht;exact dc (ke hsm hj) t ht
    obtain⟨θ',h3⟩:=h.put (dst:=o.dst) (dc ho) (f:=.tu []) (v:=undef) (rT);exact⟨undef,_,hk,⟨_,_,_,_,h3⟩,.inr ⟨qa h htn hb hg ht,rfl⟩⟩
   ·exact hk.elim
  ·exact hk.elim
def unl (listed:Array Bool):Nat:=listed.toList.count false
theorem wQ:∀ (l:List Bool) (i:Nat),l[i]? = some false->(l.set i true).count false+1=l.count false
 | [],i,h=>by simp at h
 | x :: l,0,h=>by
  simp only[List.getElem?_cons_zero,Option.some.injEq] at h;subst h;simp
 | x :: l,i+1,h=>by
  simp only[List.getElem?_cons_succ] at h;have:=wQ l i h;simp only[List.set_cons_succ,List.count_cons];omega
theorem v8 {listed:Array Bool} {i:Nat} (hi:listed.getD i true=false):unl (listed.setIfInBounds i true)+1=unl listed:=by
 unfold unl;rw[Array.toList_setIfInBounds];refine wQ _ _ ?_;rcases Nat.lt_or_ge i listed.size with h' | h'
 ·simp[h'] at hi;simp[h',hi]
 ·simp[Array.getElem?_eq_none h'] at hi
mutual
theorem rF {C:Ctx} (hT:cT C.P C.T=true) (hz:C.nW=0->fp0=[]) (hsm:jm n ops=true) (hns:Region.noSelect ops=true) (hQ:∀ c a w,¬ Q (.panic c) a w):∀ (p:jM) (listed:Array Bool) (σ:St) (a:Act) (w:World) (K:St->Prop),pk C.M ops p listed=true->Closed ops listed ->
  jr C ops p σ K->Ste w0 fp0 ok0 W n σ a w->(∀ σ' a' w',K σ'->Ste w0 fp0 ok0 W n σ' a' w'->Q .normal a' w')->∀ fuel,unl listed<=fuel->og C.P C.M ops Q fuel listed a w
 | .done,listed,σ,a,w,K,hp,hc,hk,hs,hK,fuel,hf=>by
  have hr:Region.ready .any ops listed=[]:=by simpa[pk] using hp
  have hq:=hK σ a w (by simpa only [jr] using hk) hs
  cases fuel with
  | zero=>exact⟨hr,hq⟩
  | succ fuel=>exact⟨fun _=>hq,by rw[hr];simp⟩
 | .take i p,listed,σ,a,w,K,hp,hc,hk,hs,hK,fuel,hf=>by
  simp only[pk,Bool.and_eq_true] at hp;obtain⟨⟨hr,hfr⟩,hp⟩:=hp;have hr':i∈Region.ready .any ops listed:=by simpa using hr
  have hun:=(mem_ready.1 hr').1;have hu:=v8 hun
  cases fuel with
  | zero=>omega
  | succ fuel=>
   simp only[jr] at hk;split at hk
   ·rename_i o ho;obtain⟨ok,θ,ρ,φ,hs⟩:=hs;unfold E9 at hfr;rw[ho] at hfr;simp only[Bool.and_eq_true,List.all_eq_true,List.mem_range] at hfr;obtain⟨v,σ',k1,k2,k3⟩:=Co hT hz hsm ho hfr.1 hk hs;refine yX ho (Region.noSelect_spec hns) (fun c a w h=>absurd h (hQ c _ w)) fuel listed a w hc (fun j oj hj hji hjun hnw=>?_) hr' k3
     (rF hT hz hsm hns hQ p _ σ' _ w K hp (pJ hc hr') k1 k2 hK fuel (by omega))
    have h1:=hfr.2 j (Array.getElem?_eq_some_iff.1 hj).1;simp only[hj,Bool.or_eq_true,beq_iff_eq,hji,false_or,hjun,Bool.false_eq_true,hnw,Bool.and_eq_true,Bool.not_eq_true'] at h1;have h2:Oper.apart ops o oj=true/\(mQ o.op=false\/eP C.M oj.op=true):=by simpa using h1
    exact⟨h2.1,fun hrd=>h2.2.resolve_left (by rw[hrd];simp)⟩
   ·exact hk.elim
 | .all ps,listed,σ,a,w,K,hp,hc,hk,hs,hK,fuel,hf=>by
  simp only[pk,Bool.and_eq_true,beq_iff_eq] at hp;obtain⟨⟨hr,hne⟩,hp⟩:=hp;have hun:∀ i∈Region.ready .any ops listed,listed.getD i true=false:=fun i hi=>(mem_ready.1 hi).1;have hnil:Region.ready .any ops listed≠[]:=by
   rw[hr]
   cases ps <;> simp_all
  cases fuel with
  | zero=>
   cases hrr:Region.ready .any ops listed with
   | nil=>exact absurd hrr hnil
   | cons i l=>
    have:=v8 (hun i (by rw[hrr];simp));omega
  | succ fuel=>
   refine⟨fun h=>absurd h hnil,fun i hi o ho=>?_⟩;have hu:=v8 (hun i hi);have hmem:i∈ps.map (·.1):=by rw[<-hr];exact hi
   obtain⟨⟨i',p⟩,hip,e⟩:=List.mem_map.1 hmem;simp only at e;subst e;exact runL_sound hT hz hsm hns hQ ps listed σ a w K hp hc (by simpa only [jr] using hk) hs hK fuel i' p hip hi o ho (by omega)
theorem runL_sound {C:Ctx} (hT:cT C.P C.T=true) (hz:C.nW=0->fp0=[]) (hsm:jm n ops=true) (hns:Region.noSelect ops=true) (hQ:∀ c a w,¬ Q (.panic c) a w):∀ (ps:List (Nat×jM)) (listed:Array Bool) (σ:St) (a:Act) (w:World) (K:St->Prop),planBL C.M ops ps listed=true->Closed ops listed ->
  ARunL C ops ps σ K->Ste w0 fp0 ok0 W n σ a w->(∀ σ' a' w',K σ'->Ste w0 fp0 ok0 W n σ' a' w'->Q .normal a' w')->∀ fuel i p,(i,p)∈ps->i∈Region.ready .any ops listed->∀ o,ops[i]? = some o->unl (listed.setIfInBounds i true)<=fuel ->
  wpOp C.P ops Q i (fun a' w'=>(eP C.M o.op=true->bV w w')/\og C.P C.M ops Q fuel (listed.setIfInBounds i true) a' w') a w
 | [],listed,σ,a,w,K,hp,hc,hk,hs,hK,fuel,i,p,hip,hi,o,ho,hf=>by simp at hip
 | (i0,p0) :: ps,listed,σ,a,w,K,hp,hc,hk,hs,hK,fuel,i,p,hip,hi,o,ho,hf=>by
  simp only[planBL,Bool.and_eq_true] at hp;simp only[ARunL] at hk;rcases List.mem_cons.1 hip with e | hip
  ·injection e with e1 e2
   subst e1;subst e2;have hk1:=hk.1;rw[ho] at hk1;simp only at hk1;obtain⟨ok,θ,ρ,φ,hs⟩:=hs;exact xw hT hz hsm ho hk1 hs _ _ fun σ' a' w' h1 h2 h3=>⟨h3,rF hT hz hsm hns hQ p _ σ' a' w' K hp.1 (pJ hc hi) h1 h2 hK fuel hf⟩
  ·exact runL_sound hT hz hsm hns hQ ps listed σ a w K hp.2 hc hk.2 hs hK fuel i p hip hi o ho hf
end
end
end Go.Proofs.YtncfmemhjahpeaaGreat.Ab
namespace Go.Proofs.YtncfmemhjahpeaaGreat.Ab
open Go
section
variable {w0 w:World} {fp0:List Nat} {ok0 ok:Nat->Prop} {W:Nat->Value} {n:Nat} {σ:St} {θ:Nat->Value} {ρ:Rn->Value} {φ:Rn->List Nat} {a:Act}
structure Gl (e:Nat->FV) (seen:List Nat) (m:List (Rn×Rn)):Prop where
 old:(m.map (·.1)).Nodup
 new:(m.map (·.2)).Nodup
 own:∀ x∈m,x.2.1∈seen
 all:∀ t∈seen,∀ r∈(e t).roots,r∈m.map (·.1)
theorem wD {m:List (Rn×Rn)} {r:Rn}:m.any (fun x=>x.1 == r)=true↔r∈m.map (·.1):=by
 rw[List.any_eq_true,List.mem_map];refine⟨fun⟨x,hx,e⟩=>⟨x,hx,by simpa using e⟩,fun⟨x,hx,e⟩=>⟨x,hx,by simpa using e⟩⟩
theorem l7 (t:Nat):∀ (rs:List Rn) (j:Nat) (m:List (Rn×Rn)),(m.map (·.1)).Nodup->(m.map (·.2)).Nodup->(∀ x∈m,x.2.1=t->x.2.2 < j) ->
  ((fw t j rs m).map (·.1)).Nodup/\((fw t j rs m).map (·.2)).Nodup/\(∀ x∈fw t j rs m,x∈m\/x.2.1=t)/\(∀ x∈m,x∈fw t j rs m)/\(∀ r∈rs,r∈(fw t j rs m).map (·.1)) /\
   ((∀ r∈rs,r∈m.map (·.1))->fw t j rs m=m)
 | [],j,m,h1,h2,h3=>⟨h1,h2,fun x hx=>.inl hx,fun x hx=>hx,by simp,fun _=>rfl⟩
 | r :: rs,j,m,h1,h2,h3=>by
  simp only[fw]
  by_cases hr:r∈m.map (·.1)
  ·rw[if_pos (wD.2 hr)];obtain⟨a1,a2,a3,a4,a5,a6⟩:=l7 t rs j m h1 h2 h3;refine⟨a1,a2,a3,a4,fun q hq=>?_,fun h=>a6 fun q hq=>h q (List.mem_cons_of_mem _ hq)⟩;rcases List.mem_cons.1 hq with rfl | hq
   ·obtain⟨x,hx,e⟩:=List.mem_map.1 hr;exact List.mem_map.2 ⟨x,a4 x hx,e⟩
   ·exact a5 q hq
  ·rw[if_neg (fun h=>hr (wD.1 h))];have g1:((m ++ [(r,(t,j))]).map (·.1)).Nodup:=by
    rw[List.map_append,List.nodup_append];refine⟨h1,by simp,fun x hx y hy=>?_⟩;simp only[List.map_cons,List.map_nil,List.mem_singleton] at hy;subst hy;exact fun e=>hr (e ▸ hx)
   have g2:((m ++ [(r,(t,j))]).map (·.2)).Nodup:=by
    rw[List.map_append,List.nodup_append];refine⟨h2,by simp,fun x hx y hy=>?_⟩;simp only[List.map_cons,List.map_nil,List.mem_singleton] at hy;subst hy;obtain⟨z,hz,e⟩:=List.mem_map.1 hx;intro e2;have:=h3 z hz (by rw[e,e2]);rw[e,e2] at this;simp at this
   have g3:∀ x∈m ++ [(r,(t,j))],x.2.1=t->x.2.2 < j+1:=fun x hx hxt=>by
    rcases List.mem_append.1 hx with hx | hx
    ·have:=h3 x hx hxt;omega
    ·simp only[List.mem_singleton] at hx;subst hx;simp
   obtain⟨a1,a2,a3,a4,a5,a6⟩:=l7 t rs (j+1) _ g1 g2 g3;refine⟨a1,a2,fun x hx=>?_,fun x hx=>a4 x (by simp[hx]),fun q hq=>?_,fun h=>absurd (h r (by simp)) hr⟩
   ·rcases a3 x hx with h | h
    ·rcases List.mem_append.1 h with h | h
     ·exact .inl h
     ·simp only[List.mem_singleton] at h;subst h;exact .inr rfl
    ·exact .inr h
   ·rcases List.mem_cons.1 hq with rfl | hq
    ·exact List.mem_map.2 ⟨(q,(t,j)),a4 _ (by simp),rfl⟩
    ·exact a5 q hq
theorem pC (e:Nat->FV):∀ (ks seen:List Nat) (m:List (Rn×Rn)),Gl e seen m->∃ seen',Gl e seen' (names e ks m)
 | [],seen,m,h=>⟨seen,h⟩
 | t :: ks,seen,m,h=>by
  simp only[names]
  by_cases ht:t∈seen
  ·have hno:fw t 0 (e t).roots m=m:=by
    have:∀ (rs:List Rn) (j:Nat),(∀ r∈rs,r∈m.map (·.1))->fw t j rs m=m:=by
     intro rs
     induction rs with
     | nil=>intro j _;rfl
     | cons r rs ih=>
      intro j hr;simp only[fw];rw[if_pos (wD.2 (hr r (by simp)))];exact ih j fun q hq=>hr q (by simp[hq])
    exact this _ _ (h.all t ht)
   rw[hno];exact pC e ks seen m h
  ·obtain⟨a1,a2,a3,a4,a5,a6⟩:=l7 t (e t).roots 0 m h.old h.new (fun x hx hxt=>absurd (hxt ▸ h.own x hx) ht);refine pC e ks (t :: seen) _ ⟨a1,a2,fun x hx=>?_,fun s hs r hr=>?_⟩
   ·rcases a3 x hx with h1 | h1
    ·exact List.mem_cons_of_mem _ (h.own x h1)
    ·rw[h1];simp
   ·rcases List.mem_cons.1 hs with rfl | hs
    ·exact a5 r hr
    ·obtain⟨x,hx,e2⟩:=List.mem_map.1 (h.all s hs r hr);exact List.mem_map.2 ⟨x,a4 x hx,e2⟩
def lE (m:List (Rn×Rn)) (q:Rn):Option Rn:=
 match m with
 | []=>none
 | (o,x) :: l=>if x=q then some o else lE l q
theorem nD (g:Rn->Option D):∀ (m:List (Rn×Rn)) (q:Rn),aF (m.map fun x=>(x.2,g x.1)) q=(match lE m q with | some o=>g o | none=>none)
 | [],q=>rfl
 | (o,x) :: l,q=>by
  simp only[List.map_cons,aF,lE];split
  ·rfl
  ·exact nD g l q
theorem yY:∀ {m:List (Rn×Rn)} {r q:Rn},kU m r=some q->(r,q)∈m
 | [],r,q,h=>by simp[kU] at h
 | (o,x) :: l,r,q,h=>by
  simp only[kU] at h;split at h
  ·rename_i e;subst e;injection h with h
   subst h;simp
  ·exact List.mem_cons_of_mem _ (yY h)
theorem ub:∀ {m:List (Rn×Rn)} {r q:Rn},lE m q=some r->(r,q)∈m
 | [],r,q,h=>by simp[lE] at h
 | (o,x) :: l,r,q,h=>by
  simp only[lE] at h;split at h
  ·rename_i e;subst e;injection h with h
   subst h;simp
  ·exact List.mem_cons_of_mem _ (ub h)
theorem AX:∀ {m:List (Rn×Rn)} {r q:Rn},(m.map (·.2)).Nodup->(r,q)∈m->lE m q=some r
 | [],r,q,_,h=>by simp at h
 | (o,x) :: l,r,q,hn,h=>by
  simp only[List.map_cons,List.nodup_cons] at hn;rcases List.mem_cons.1 h with e | h
  ·injection e with e1 e2
   subst e1;subst e2;simp[lE]
  ·have hne:x≠q:=fun e=>hn.1 (e ▸ List.mem_map.2 ⟨(r,q),h,rfl⟩);simp only[lE,if_neg hne];exact AX hn.2 h
theorem Bg:∀ {m:List (Rn×Rn)} {r q q':Rn},(m.map (·.1)).Nodup->(r,q)∈m->(r,q')∈m->q=q'
 | [],r,q,q',_,h,_=>by simp at h
 | (o,x) :: l,r,q,q',hn,h,h'=>by
  simp only[List.map_cons,List.nodup_cons] at hn;rcases List.mem_cons.1 h with e | h1 <;> rcases List.mem_cons.1 h' with e' | h2
  ·injection e with e1 e2
   injection e' with e3 e4
   exact e2.trans e4.symm
  ·injection e with e1 e2
   subst e1;exact absurd (List.mem_map.2 ⟨(r,q'),h2,rfl⟩) hn.1
  ·injection e' with e1 e2
   subst e1;exact absurd (List.mem_map.2 ⟨(r,q),h1,rfl⟩) hn.1
  ·exact Bg hn.2 h1 h2
def reR (m:List (Rn×Rn)) (ρ:Rn->Value) (q:Rn):Value:=match lE m q with | some o=>ρ o | none=>undef
def reF (m:List (Rn×Rn)) (φ:Rn->List Nat) (q:Rn):List Nat:=match lE m q with | some o=>φ o | none=>[]
theorem zp {m:List (Rn×Rn)} {q o:Rn} (h:lE m q=some o):reR m ρ q=ρ o:=by simp[reR,h]
theorem tB {m:List (Rn×Rn)} {q o:Rn} (h:lE m q=some o):reF m φ q=φ o:=by simp[reF,h]
mutual
theorem Do {m:List (Rn×Rn)} {σ':St} {ρ':Rn->Value} (hσ:∀ r q,kU m r=some q->σ'.rts q=σ.rts r/\ρ' q=ρ r):∀ (f:FV) (u:Value),FR w ok σ ρ f u->FR w ok σ' ρ' (f.ren m) u
 | .d x,u,h=>by simpa only [FR,FV.ren] using h
 | .sp cs o,u,h=>by simpa only [FR,FV.ren] using h
 | .dead,u,h=>by simp[FR,FV.ren]
 | .al r p lo n,u,h=>by
  simp only[FV.ren];split
  ·rename_i q hq;obtain⟨h1,h2⟩:=hσ r q hq;simpa only [FR,St.obj,h1,h2] using h
  ·simp[FR]
 | .cu r p n,u,h=>by
  simp only[FV.ren];split
  ·rename_i q hq;obtain⟨h1,h2⟩:=hσ r q hq;simpa only [FR,St.obj,h1,h2] using h
  ·simp[FR]
 | .pt r p o,u,h=>by
  simp only[FV.ren];split
  ·rename_i q hq;obtain⟨h1,h2⟩:=hσ r q hq;simpa only [FR,St.obj,h1,h2] using h
  ·simp[FR]
 | .ar r p o n,u,h=>by
  simp only[FV.ren];split
  ·rename_i q hq;obtain⟨h1,h2⟩:=hσ r q hq;simpa only [FR,St.obj,h1,h2] using h
  ·simp[FR]
 | .mr r p,u,h=>by
  simp only[FV.ren];split
  ·rename_i q hq;obtain⟨h1,h2⟩:=hσ r q hq;simpa only [FR,St.obj,h1,h2] using h
  ·simp[FR]
 | .it r s p l c,u,h=>by
  simp only[FV.ren];split
  ·rename_i q x hq hx;obtain⟨h1,h2⟩:=hσ r q hq;obtain⟨h3,h4⟩:=hσ s x hx;simpa only [FR,St.obj,h1,h2,h3,h4] using h
  ·simp[FR]
 | .ag fs,u,h=>by
  simp only[FR,FV.ren] at h ⊢;obtain⟨vs,e,h⟩:=h;exact⟨vs,e,FRL_ren hσ fs vs.toList h⟩
 | .tu fs,u,h=>by
  simp only[FR,FV.ren] at h ⊢;obtain⟨vs,e,h⟩:=h;exact⟨vs,e,FRL_ren hσ fs vs.toList h⟩
 | .cl f fs,u,h=>by
  simp only[FR,FV.ren] at h ⊢;obtain⟨vs,e,h⟩:=h;exact⟨vs,e,FRL_ren hσ fs vs.toList h⟩
 | .fb fs off,u,h=>by
  simp only[FR,FV.ren] at h ⊢;obtain⟨b,vs,e,hb,hc,h⟩:=h;exact⟨b,vs,e,hb,hc,FRL_ren hσ fs vs h⟩
theorem FRL_ren {m:List (Rn×Rn)} {σ':St} {ρ':Rn->Value} (hσ:∀ r q,kU m r=some q->σ'.rts q=σ.rts r/\ρ' q=ρ r):∀ (fs:List FV) (us:List Value),FRL w ok σ ρ fs us->FRL w ok σ' ρ' (FV.renL m fs) us
 | [],us,h=>by simpa only [FRL,FV.renL] using h
 | f :: fs,us,h=>by
  simp only[FRL,FV.renL] at h ⊢;obtain⟨u,vs,e,h1,h2⟩:=h;exact⟨u,vs,e,Do hσ f u h1,FRL_ren hσ fs vs h2⟩
end
theorem AQ (g:Nat->FV):∀ (ks:List Nat) (t:Nat),ofL (ks.map fun t=>(t,g t)) t=g t\/ofL (ks.map fun t=>(t,g t)) t = .dead
 | [],t=>.inr rfl
 | k :: ks,t=>by
  simp only[List.map_cons,ofL];split
  ·rename_i e;subst e;exact .inl rfl
  ·exact AQ g ks t
theorem mj {C:Ctx} {ks:List Nat} (h:Ste w0 fp0 ok0 W n σ a w):Ste w0 fp0 ok0 W n (iG C ks σ) a w:=by
 obtain⟨ok,θ,ρ,φ,h⟩:=h;unfold iG tc;obtain⟨seen,hN⟩:=pC σ.env (ks ++ iI C.nW) [] [] ⟨by simp,by simp,by simp,by simp⟩;generalize names σ.env (ks ++ iI C.nW) []=m at hN;refine⟨ok,θ,reR m ρ,reF m φ,?_,h.th,h.oks,h.okn,h.dfr,h.sz⟩;refine⟨fun q d hd=>?_,fun q q' d d' hne hd hd'=>?_,fun t=>?_,h.rel.okb,h.rel.frm⟩
 ·simp only[nD] at hd;split at hd
  ·rename_i o ho;rw[zp ho,tB ho];exact h.rel.own o d hd
  ·simp at hd
 ·simp only[nD] at hd hd';split at hd
  ·rename_i o ho;split at hd'
   ·rename_i o' ho';rw[tB ho,tB ho'];refine h.rel.dis o o' d d' (fun e=>?_) hd hd';subst e;exact hne (Bg hN.old (ub ho) (ub ho'))
   ·simp at hd'
  ·simp at hd
 ·have key:∀ (g:FV),g=(σ.env t).ren m->FR w ok ⟨ofL ((ks ++ iI C.nW).map fun t=>(t,(σ.env t).ren m)),aF (m.map fun x=>(x.2,σ.rts x.1))⟩ (reR m ρ) g (θ t):=by
   intro g e;subst e;refine Do (fun r q hq=>?_) _ _ (h.rel.env t);have:=AX hN.new (yY hq);exact⟨by simp only[nD,this],zp this⟩
  show FR w ok _ _ (ofL ((ks ++ iI C.nW).map fun t=>(t,(σ.env t).ren m)) t) (θ t);rcases AQ (fun t=>(σ.env t).ren m) (ks ++ iI C.nW) t with e | e
  ·exact key _ e
  ·rw[e];simp[FR]
theorem kJ {p:Nat->Prop} (h:∃ k,p k):∃ k,p k/\∀ j,p j->k<=j:=by
 obtain⟨k,hk⟩:=h
 induction k using Nat.strongRecOn with
 | _ k ih=>
  by_cases hl:∃ j,j < k/\p j
  ·obtain⟨j,h1,h2⟩:=hl;exact ih j h1 h2
  ·refine⟨k,hk,fun j hj=>?_⟩;rcases Nat.lt_or_ge j k with h | h
   ·exact absurd ⟨j,h,hj⟩ hl
   ·exact h
def gN (n:Nat):Code->Bool
 | .skip=>true
 | .region _ ops _=>jm n ops
 | .seq a b=>gN n a && gN n b
 | .cond c a b=>iB n c && gN n a && gN n b
 | .block _ c=>gN n c
 | .loop c=>gN n c
 | .exit _=>true
 | .ret=>true
 | _=>false
theorem va {x:D} {u:Value} {fp:List Nat} (hx:iy x=true) (h:Ow w ok x u fp):∃ a,u = .slice a 0 0:=by
 unfold iy at hx;split at hx
 ·simp only[Ow] at h;exact⟨none,h.2⟩
 ·simp only[Ow,Sh] at h;exact h.2
 ·simp at hx
theorem Dw {x:D} {u:Value} (hx:iy x=true) (h:Sh w ok x u):∃ a,u = .slice a 0 0:=by
 unfold iy at hx;split at hx
 ·simp only[Sh] at h;exact⟨none,h⟩
 ·simpa only [Sh] using h
 ·simp at hx
theorem tP (k:Nat) {u:Value} (h:∃ a,u = .slice a 0 0):Ow w ok (.ow k 0 []) u []:=by
 simp only[Ow];exact .inl ⟨trivial,trivial,trivial,h⟩
theorem zH {r:Rn} {k:Nat} {u:Value} (h:∃ a,u = .slice a 0 0):FR w ok (σ.root r (.ow k 0 [])) (upR ρ r u) (.al r [] 0 0) u:=by
 obtain⟨a,h⟩:=h;simp only[FR];exact⟨k,0,[],u,by simp[St.obj,St.root,bw],by simp[hdr,upR],by omega,.inl ⟨rfl,a,0,0,h,h⟩⟩
theorem yp {σ1:St} {r:Rn} {p:List Nat} {i k:Nat} {o x:D} {cs:List D} (ho:σ.obj r p=some o) (hc:o.cells? = some cs) (hx:cs[i]? = some x) (hn:iy x=true) (h9:σ.rts (9999,0)=none)
  (hs:(σ.root (9999,0) (.ow k 0 [])).store1 r p i (.al (9999,0) [] 0 0)=some σ1) :
  ∃ d,σ.rts r=some d/\bw d p=some o/\∀ q,σ1.rts q=if q=r then some (c5 d p (o.setCells (cs.set i (.ow k 0 [])))) else σ.rts q:=by
 have hr:r≠(9999,0):=by
  rintro rfl;simp[St.obj,h9] at ho
 have hq:x.quiet=true:=by
  unfold iy at hn;split at hn <;> first | rfl | simp at hn
 have ho2:(σ.root (9999,0) (.ow k 0 [])).obj r p=some o:=by simpa[St.obj,St.root,hr] using ho
 have ho3:(σ.root (9999,0) (.ow k 0 [])).obj (9999,0) []=some (.ow k 0 []):=by simp[St.obj,St.root,bw]
 simp only[St.obj] at ho;split at ho
 case h_2=>simp at ho
 rename_i d hd;refine⟨d,hd,ho,fun q=>?_⟩;simp only[St.store1,ho2,hc,hx,hq,if_true,St.absorb,ho3,and_self,St.take] at hs;have ho4:St.obj { (σ.root (9999,0) (.ow k 0 [])) with env:=fun t=>((σ.root (9999,0) (.ow k 0 [])).env t).move ⟨(9999,0),[],r,p ++ [i]⟩,rts:=fun q=>if q=(9999,0) then none else (σ.root (9999,0) (.ow k 0 [])).rts q } r p=some o:=by
  simp[St.obj,St.root,hr,hd,ho]
 simp only[ho4,hc,Option.some.injEq] at hs;subst hs;simp only[St.put,St.root,if_neg hr,hd]
 by_cases e:q=r
 ·simp[e]
 ·simp only[if_neg e];split
  ·rename_i e2;rw[e2,h9]
  ·rfl
theorem DB {x:Wk} {σ':St} (h:Rel w0 fp0 ok σ θ w ρ φ) (hs:wk1 σ x=some σ'):∃ ρ' φ',Rel w0 fp0 ok σ' θ w ρ' φ':=by
 cases x with
 | drop t=>
  simp only[wk1,Option.some.injEq] at hs;subst hs;refine⟨ρ,φ,h.own,h.dis,fun s=>?_,h.okb,h.frm⟩;have h5:=h.env s
  by_cases e:s=t
  ·subst e;simp only[Ab.upd,if_true];simp[FR]
  ·simp only[Ab.upd,if_neg e];exact iR (σ1:=σ) (σ2:={ σ with env:=Ab.upd σ.env t .dead }) rfl _ _ h5
 | tmp t k=>
  simp only[wk1] at hs;split at hs
  ·rename_i x hx;split at hs
   ·rename_i hc;injection hs with hs
    subst hs;have he:=h.env t;rw[hx] at he;simp only[FR] at he;have hv:=Dw hc.1 he;have h2:=h.root (r:=(t,0)) (d:=.ow k 0 []) (u:=θ t) (fp:=[]) (by simpa using hc.2) (tP k hv) List.nodup_nil (by simp);have h3:=h2.upd (t:=t) (zH (σ:=σ) (ρ:=ρ) (r:=(t,0)) (k:=k) hv);refine⟨_,_,h3.own,h3.dis,fun s=>?_,h3.okb,h3.frm⟩;have h5:=h3.env s
    by_cases e:s=t
    ·subst e;simp only[Ab.upd,if_true] at h5 ⊢;exact iR rfl _ _ h5
    ·simp only[Ab.upd,if_neg e] at h5 ⊢;exact iR rfl _ _ h5
   ·simp at hs
  ·simp at hs
 | cell r p i k=>
  simp only[wk1] at hs;split at hs
  ·rename_i o ho;split at hs
   ·rename_i cs hc;split at hs
    ·rename_i x hx;split at hs
     ·rename_i hcc;obtain⟨hv,fo,hat⟩:=h.rts_.at_ (r:=r) (p:=p) (o:=o) ho;have hne:cs≠[]:=by rintro rfl;simp at hx
      obtain⟨b,q,fp',e1,e2,e3,_,_⟩:=j6 hat.own hc hne;obtain⟨v,f1,fx,f2,g1,g2,g3,_⟩:=ic e3 hx;have hv0:=va hcc.1 g3;have h2:=h.root (r:=(9999,0)) (d:=.ow k 0 []) (u:=v) (fp:=[]) (by simpa using hcc.2) (tP k hv0) List.nodup_nil (by simp);split at hs
      case h_2=>simp at hs
      rename_i σ1 hs1;simp only[Option.some.injEq] at hs;subst hs;obtain⟨hv',b',q',k1,k2,k3,k4,⟨φ',k5⟩,k6,k7,k8,k9⟩:=ni h2 hs1 (zH (σ:=σ) (ρ:=ρ) (r:=(9999,0)) (k:=k) hv0);have hr:r≠(9999,0):=by
       rintro rfl;simp only[Option.isNone_iff_eq_none] at hcc;simp[St.obj,hcc.2] at ho
      have e9:hv'=hv:=by
       have:=hat.hdr;simp only[upR,if_neg hr] at k1;rw[k1] at this;injection this
      subst e9;rw[e1] at k2;injection k2 with k2
      injection k2 with k2 k2'
      subst k2;subst k2';rw[rf g2] at k5;have h9:σ.rts (9999,0)=none:=by simpa using hcc.2
      obtain⟨d,hd,hld,hrts⟩:=yp ho hc hx hcc.1 h9 hs1;refine⟨_,_,k5.own,k5.dis,fun t=>?_,k5.okb,k5.frm⟩;have hobj:∀ q s x2,σ.obj q s=some x2->fV x2->∃ o',St.obj { σ1 with env:=σ.env } q s=some o'/\cH x2 o':=fun q s x2 hx2 hio=>by
       by_cases e:q=r
       ·subst e;have hds:bw d s=some x2:=by simpa[St.obj,hd] using hx2
        have hgo:∀ (e2:D) (t2:List Nat),St.obj { σ1 with env:=σ.env } q t2=bw (c5 d p (o.setCells (cs.set i (.ow k 0 [])))) t2:=fun _ t2=>by simp[St.obj,hrts]
        rw[hgo (.gone) s]
        by_cases hp:cj p s=true
        ·obtain⟨t2,rfl⟩:=fg hp;rw[iM p d o _ t2 hld];rw[ii,hld] at hds;simp only[Option.bind_some] at hds
         cases t2 with
         | nil=>
          simp only[bw,Option.some.injEq] at hds ⊢;subst hds;refine⟨_,rfl,?_⟩
          cases o <;> simp[D.cells?] at hc <;> subst hc <;> simp[D.setCells,cH]
         | cons j t2=>
          simp only[bw,hc,fN hc] at hds ⊢
          by_cases hj:j=i
          ·subst hj;rw[hx] at hds;exfalso;have hn:=hcc.1;unfold iy at hn;split at hn
           ·cases t2 <;> simp[bw,D.cells?] at hds
            subst hds;rcases hio with hio | ⟨es,hio⟩ <;> simp[D.cells?] at hio
           ·cases t2 <;> simp[bw,D.cells?] at hds
            subst hds;rcases hio with hio | ⟨es,hio⟩ <;> simp[D.cells?] at hio
           ·simp at hn
          ·rw[List.getElem?_set_ne (Ne.symm hj)];exact⟨x2,hds,bX _⟩
        ·obtain⟨x',a1,a2⟩:=iO p d o (o.setCells (cs.set i (.ow k 0 []))) s x2 hld hds (by simpa using hp);exact⟨x',a1,a2⟩
       ·exact⟨x2,by simpa[St.obj,hrts,e] using hx2,bX _⟩
      have hup:∀ q,σ.rts q≠none->upR ρ (9999,0) v q=ρ q:=fun q hq=>by
       unfold upR;rw[if_neg];rintro rfl;exact hq h9
      have hne9:∀ q s x2,σ.obj q s=some x2->σ.rts q≠none:=fun q s x2 h3 h4=>by simp[St.obj,h4] at h3
      refine gf (G:=fun r p=>∃ o,σ.obj r p=some o/\fV o) (I:=fun r m p=>σ.rts r=some .itr/\∃ es,σ.obj m p=some (.mp es)) ⟨fun b hb=>⟨hb,rfl⟩,fun q s x2 hg hx2=>?_⟩ ⟨fun q m s b mb es hI h1 h2 h3 h4=>?_⟩ _ _ (gK _ _ (h.env t)) (h.env t)
      ·obtain⟨x3,hx3,hi3⟩:=hg;rw[hx2] at hx3
       cases hx3
       obtain⟨o',a1,a2⟩:=hobj q s x2 hx2 hi3;exact⟨o',a1,.inl a2,by rw[hup q (hne9 q s x2 hx2)]⟩
      ·obtain⟨o',a1,a2⟩:=hobj m s _ h3 (.inr ⟨es,rfl⟩);have ex:o' = .mp es:=by cases o' <;> simp[cH] at a2;rw[a2]
       subst ex;have hqr:q≠r:=by
        rintro rfl;rw[hd] at h1
        cases h1
        cases p with
        | nil=>simp[bw] at hld;subst hld;simp[D.cells?] at hc
        | cons j p=>simp[bw,D.cells?] at hld
       exact⟨by simpa[hrts,hqr] using h1,hup q (by rw[h1];simp),rfl,a1,by rw[hup m (hne9 m s _ h3)];exact h4,rfl⟩
     ·simp at hs
    ·simp at hs
   ·simp at hs
  ·simp at hs
theorem nN:∀ {l:List Wk} {σ σ':St},Ste w0 fp0 ok0 W n σ a w->jD l σ=some σ'->Ste w0 fp0 ok0 W n σ' a w
 | [],σ,σ',h,hs=>by
  simp only[jD,Option.some.injEq] at hs;subst hs;exact h
 | x :: l,σ,σ',h,hs=>by
  simp only[jD] at hs;split at hs
  ·rename_i σ1 h1;obtain⟨ok,θ,ρ,φ,h⟩:=h;obtain⟨ρ',φ',g⟩:=DB h.rel h1;exact nN ⟨ok,θ,ρ',φ',g,h.th,h.oks,h.okn,h.dfr,h.sz⟩ hs
  ·simp at hs
def Mu (S:St->Act->World->Prop) (Q:AEx->St->Prop):Exit->Act->World->Prop
 | .normal,a,w=>∃ σ,Q .normal σ/\S σ a w
 | .exit id,a,w=>∃ σ,Q (.exit id) σ/\S σ a w
 | .ret,a,w=>∃ σ,Q .ret σ/\S σ a w
 | _,_,_=>False
theorem Ste.drew (h:Ste w0 fp0 ok0 W n σ a w):Ste w0 fp0 ok0 W n σ a w.drew:=by
 obtain⟨ok,θ,ρ,φ,h⟩:=h;exact⟨ok,θ,ρ,φ,h.rel.drew,h.th,h.oks,h.okn,h.dfr,h.sz⟩
theorem CZ {C:Ctx} (hT:cT C.P C.T=true) (hz:C.nW=0->fp0=[]) (hM:C.P.follows .mixedOrders=true):∀ (c:Code) (i:Nat) (Q:AEx->St->Prop) (σ:St) (a:Act) (w:World),gN n c=true->AWp C c i Q σ->Ste w0 fp0 ok0 W n σ a w ->
  c.wp C.P (Mu (Ste w0 fp0 ok0 W n) Q) a w:=by
 intro c
 induction c with
 | skip=>
  intro i Q σ a w _ hk hs;exact wp_skip ⟨σ,hk,hs⟩
 | region id ops draw=>
  intro i Q σ a w hsm hk hs;simp only[gN] at hsm;simp only[AWp] at hk
  cases draw with
  | false=>
   simp only[Bool.false_eq_true,if_false] at hk;refine wp_region ?_;rw[List.range_eq_range'];exact xa hT hz hsm ops.size 0 σ a w _ (by omega) (by simpa using hk) hs fun σ' a' w' h1 h2=>⟨_,h1,mj h2⟩
  | true=>
   simp only[if_true] at hk;obtain⟨p,hp,hk⟩:=hk;refine wp_region_any hM (uX (M:=C.M) _ _ _ _ ?_);refine rF hT hz hsm hp.2 (fun c a w h=>h) p _ σ a w.drew _ hp.1 (fun k o _ hl=>?_) hk hs.drew (fun σ' a' w' h1 h2=>⟨_,h1,mj h2⟩) _ ?_
   ·have:=Bu hl;simp only[Array.size_replicate] at this;simp[this] at hl
   ·unfold unl;simp
 | seq x y ihx ihy=>
  intro i Q σ a w hsm hk hs;simp only[gN,Bool.and_eq_true] at hsm;simp only[AWp] at hk;refine wp_seq (wp_mono (ihx i _ σ a w hsm.1 hk hs) fun e a' w' h=>?_)
  cases e with
  | normal=>
   obtain⟨σ',h1,h2⟩:=h;exact ihy i Q σ' a' w' hsm.2 h1 h2
  | exit id=>exact h
  | ret=>exact h
  | goto l=>exact h
  | panic ch=>exact h
  | outgrown=>exact h
 | cond c x y ihx ihy=>
  intro i Q σ a w hsm hk hs;simp only[gN,Bool.and_eq_true] at hsm;simp only[AWp] at hk;obtain⟨t,ht,hx,hy⟩:=hk;have hc:a.eval c = .bool t:=by
   obtain⟨ok,θ,ρ,φ,hs⟩:=hs;have:=hs.opv hsm.1.1;rw[ht] at this;exact eI this
  exact wp_cond_split hc (fun h=>ihx i Q σ a w hsm.1.2 (hx h) hs) (fun h=>ihy i Q σ a w hsm.2 (hy h) hs)
 | block id c ih=>
  intro i Q σ a w hsm hk hs;simp only[gN] at hsm;simp only[AWp] at hk;refine wp_block (wp_mono (ih id _ σ a w hsm hk hs) fun e a' w' h=>?_)
  cases e with
  | normal=>exact h
  | exit id'=>
   obtain⟨σ',h1,h2⟩:=h;simp only[Exit.inBlock,AEx.block] at h1 ⊢;split at h1
   ·rename_i e;rw[if_pos e];exact⟨σ',h1,h2⟩
   ·rename_i e;rw[if_neg e];exact⟨σ',h1,h2⟩
  | ret=>exact h
  | goto l=>exact h
  | panic ch=>exact h
  | outgrown=>exact h
 | loop c ih=>
  intro i Q σ a w hsm hk hs;simp only[gN] at hsm;simp only[AWp] at hk;obtain⟨I,μ,h0,hround⟩:=hk;have hleast:∀ (a:Act) (w:World),(∃ σ,I σ/\Ste w0 fp0 ok0 W n σ a w)->∃ k,(∃ σ,I σ/\Ste w0 fp0 ok0 W n σ a w/\μ σ=k):=fun a w ⟨σ,h1,h2⟩=>⟨_,σ,h1,h2,rfl⟩
  classical
  let μ':Act->World->Nat:=fun a w=>if h:∃ k,(∃ σ,I σ/\Ste w0 fp0 ok0 W n σ a w/\μ σ=k) then Classical.choose (kJ h) else 0
  refine wp_loop (fun a w=>∃ σ,I σ/\Ste w0 fp0 ok0 W n σ a w) μ' (by obtain⟨l,σ0,q1,q2⟩:=h0;exact⟨σ0,q2,nN (mj hs) q1⟩) fun a w hI=>?_;have hex:=hleast a w hI;have hμ:μ' a w=Classical.choose (kJ hex):=dif_pos hex;obtain⟨⟨σ1,h1,h2,h3⟩,_⟩:=Classical.choose_spec (kJ hex);refine wp_mono (ih i _ σ1 a w hsm (hround σ1 h1) h2) fun e a' w' h=>?_
  cases e with
  | normal=>
   obtain⟨σ',⟨l,σ2,g0,g1,g2⟩,g3⟩:=h;have g4:=nN (mj g3) g0;have hI':∃ σ,I σ/\Ste w0 fp0 ok0 W n σ a' w':=⟨_,g1,g4⟩;refine⟨hI',?_⟩;have hex':=hleast a' w' hI';have hμ':μ' a' w'=Classical.choose (kJ hex'):=dif_pos hex';rw[hμ,hμ'];refine Nat.lt_of_le_of_lt ((Classical.choose_spec (kJ hex')).2 _ ⟨_,g1,g4,rfl⟩) ?_;rw[<-h3];exact g2
  | exit id=>exact h
  | ret=>exact h
  | goto l=>exact h
  | panic ch=>exact h
  | outgrown=>exact h
 | exit id=>
  intro i Q σ a w _ hk hs;exact wp_exit ⟨σ,hk,hs⟩
 | ret=>
  intro i Q σ a w _ hk hs;exact wp_ret ⟨σ,hk,hs⟩
 | _=>intro i Q σ a w hsm;simp[gN] at hsm
end
end Go.Proofs.YtncfmemhjahpeaaGreat.Ab
namespace Go.Proofs.YtncfmemhjahpeaaGreat.Ab
open Go
def rX (σ:St) (f:FV):Option (D×St):=
 match f with
 | .d x=>if x.leaf then some (x,σ) else none
 | .al r p lo n=>(match σ.obj r p with | some (.ow k N cs)=>if lo=0 then some (.ow k n (kr k n N cs),(σ.take r p).kill r p) else none | _=>none)
 | .pt r p o=>(match σ.obj r p with | some (.bx cs)=>if o=0 then some (.bx cs,(σ.take r p).kill r p) else none | _=>none)
 | .mr r p=>(match σ.obj r p with | some (.mp es)=>some (.mp es,(σ.take r p).kill r p) | _=>none)
 | .dead=>some (.gone,σ)
 | _=>none
def lj:St->Nat->Nat->Option (List D×St)
 | σ,_,0=>some ([],σ)
 | σ,t,n+1=>match rX σ (σ.env t) with
  | some (d,σ1)=>(match lj σ1 (t+1) n with | some (ds,σ2)=>some (d :: ds,σ2) | none=>none)
  | none=>none
def ju:List FV->List FV
 | []=>[]
 | f :: r=>f.atoms ++ ju r
def iY:List FV->List D->Option (List RV)
 | [],[]=>some []
 | .ag gs :: r,ds=>(match iY r (ds.drop gs.length) with | some l=>some (.ag (ds.take gs.length) :: l) | none=>none)
 | _ :: r,d :: ds=>(match iY r ds with | some l=>some (.one d :: l) | none=>none)
 | _,_=>none
def km (T:TT) (σ:St):List ResultVar->Option (List FV)
 | []=>some []
 | .tmp t :: r=>(match km T σ r with | some l=>some (σ.env t :: l) | none=>none)
 | .cell a t :: r=>(match vI T σ t (σ.env a),km T σ r with | some f,some l=>some (f :: l) | _,_=>none)
def we (C:Ctx) (rs:List ResultVar) (pure:Bool) (Q:List D->List RV->Prop) (σ:St):Prop:=
 match km C.T σ rs with
 | some fs=>(∀ f∈fs,f.whole=true)/\(match lj { σ with env:=oU (ju fs) 3000 σ.env } 3000 (ju fs).length with
  | some (ds,σ1)=>(match iY fs ds,lj σ1 1000 C.nW with
   | some res,some (outs,_)=>(pure=true->um res/\noShL outs)/\Q outs res
   | _,_=>False)
  | none=>False)
 | none=>False
def EZ (C:Ctx) (rs:List ResultVar) (pure:Bool) (Q:List D->List RV->Prop):AEx->St->Prop
 | .normal,σ=>we C rs pure Q σ
 | .ret,σ=>we C rs pure Q σ
 | .exit _,_=>False
section
variable {w0 w:World} {fp0:List Nat} {ok0 ok:Nat->Prop} {W:Nat->Value} {n:Nat} {σ:St} {θ:Nat->Value} {ρ:Rn->Value} {φ:Rn->List Nat} {a:Act} {P:Program} {T:TT}
structure pE (w0 w:World) (fp0:List Nat) (ok:Nat->Prop) (σ σ1:St) (φ φ1:Rn->List Nat) (fx:List Nat):Prop where
 nod:fx.Nodup
 bl:∀ b∈fx,Bnd w0 fp0 ok w.heap.size b/\∀ q e,σ1.rts q=some e->b ∉ φ1 q
 sub:∀ q e,σ1.rts q=some e->∃ e',σ.rts q=some e'/\∀ b∈φ1 q,b∈φ q
 from_:∀ b∈fx,∃ q e,σ.rts q=some e/\b∈φ q
theorem lq (h:Rel w0 fp0 ok σ θ w ρ φ) {r:Rn} {p:List Nat} {o:D} (ho:σ.obj r p=some o):∃ hv fo φ1,hdr w (ρ r) p=some hv/\Ow w ok o hv fo/\Rel w0 fp0 ok ((σ.take r p).kill r p) θ w ρ φ1/\pE w0 w fp0 ok σ ((σ.take r p).kill r p) φ φ1 fo:=by
 obtain⟨hv,fo,φ1,h1,h2,h3,h4,h5,h6,h7⟩:=h.takeKill ho;refine⟨hv,fo,φ1,h1,h2,h5,h3,fun b hb=>⟨h4 b hb,fun q e he hbq=>h6 q e he b hbq hb⟩,h7,fun b hb=>?_⟩;obtain⟨hv',fo',hat⟩:=h.rts_.at_ (r:=r) (p:=p) ho;have e:hv'=hv:=by have:=hat.hdr;rw[h1] at this;injection this with this;exact this.symm
 subst e;have e2:=fY _ _ _ _ hat.own h2;subst e2;obtain⟨d,hd,_⟩:=lB ho;exact⟨r,d,hd,hat.sub b hb⟩
theorem xW (h:Rel w0 fp0 ok σ θ w ρ φ) {f:FV} {d:D} {σ1:St} {u:Value} (hs:rX σ f=some (d,σ1)) (hu:FR w ok σ ρ f u) :
  ∃ φ1 fx,Rel w0 fp0 ok σ1 θ w ρ φ1/\Ow w ok d u fx/\pE w0 w fp0 ok σ σ1 φ φ1 fx:=by
 unfold rX at hs;split at hs
 ·rename_i x;split at hs
  ·rename_i hl;injection hs with hs
   injection hs with h1 h2
   subst h1;subst h2;simp only[FR] at hu;exact⟨φ,[],h,sd hl hu,by simp,by simp,fun q e he=>⟨e,he,fun _ h=>h⟩,by simp⟩
  ·simp at hs
 ·rename_i r p lo n';split at hs
  ·rename_i k N cs ho;split at hs
   ·rename_i hlo;subst hlo;injection hs with hs
    injection hs with h1 h2
    subst h1;subst h2;obtain⟨hv,fo,φ1,g1,g2,g3,g4⟩:=lq h ho;simp only[FR] at hu;obtain⟨k',N',cs',hv',q1,q2,q3,q4⟩:=hu;rw[ho] at q1
    cases q1
    rw[g1] at q2;injection q2 with q2
    subst q2;rcases q4 with ⟨_,a',N2,c',e4,e5⟩ | ⟨hlo,_⟩
    ·have hcl:=ov h ho;have hcs:kr k n' N cs=cs.take (k*n'):=by
      unfold kr;split
      ·rename_i hN;subst hN;rw[List.take_of_length_le (by rw[hcl];exact Nat.le_refl _)]
      ·rfl
     rw[hcs];simp only[Ow] at g2;rcases g2 with ⟨rfl,rfl,rfl,a0,e6⟩ | ⟨b,o,c,arr,T,fp',e6,rfl,h5,h6,h7,h8,h9⟩
     ·rw[e6] at e4
      cases e4
      have hn:n'=0:=by omega
      subst hn;refine⟨φ1,[],g3,?_,by simp,by simp,g4.sub,by simp⟩;simp only[Ow];exact .inl ⟨trivial,by simp,trivial,_,e5⟩
     ·rw[e6] at e4
      cases e4
      obtain⟨us,u1,u2,u3⟩:=lD h9;obtain⟨f1,f2,rfl,u4⟩:=qY (k*n') u3;have hnod:=g4.nod;simp only[List.nodup_cons,List.mem_append,not_or] at hnod;have hle:k*n'<=cs.length:=by rw[h8];exact Nat.mul_le_mul_left _ (by omega)
      refine⟨φ1,b :: f1,g3,?_,List.nodup_cons.2 ⟨hnod.1.1,(List.nodup_append.1 hnod.2).1⟩,fun x hx=>g4.bl x ?_,g4.sub,fun x hx=>g4.from_ x ?_⟩
      ·simp only[Ow];refine .inr ⟨b,o,_,arr,T,f1,e5,rfl,h5,⟨by omega,h6.2⟩,h7,by rw[List.length_take,Nat.min_eq_left hle],mI (fun _ _=>rfl) u4 (fun j v hj=>u2 j v ?_) (fun _ _=>rfl)⟩;rw[List.getElem?_take] at hj;split at hj
       ·exact hj
       ·simp at hj
      ·rcases List.mem_cons.1 hx with rfl | hx <;> simp[*]
      ·rcases List.mem_cons.1 hx with rfl | hx <;> simp[*]
    ·omega
   ·simp at hs
  ·simp at hs
 ·rename_i r p o;split at hs
  ·rename_i cs ho;split at hs
   ·rename_i hlo;subst hlo;injection hs with hs
    injection hs with h1 h2
    subst h1;subst h2;obtain⟨hv,fo,φ1,g1,g2,g3,g4⟩:=lq h ho;simp only[FR] at hu;obtain⟨o',cs',hv',b,q,q1,q2,q3,q4,q5⟩:=hu;rw[ho] at q1
    cases q1
    rw[g1] at q3;injection q3 with q3
    subst q3;have hu2:u=hv:=by
     simp only[Ow] at g2;obtain⟨b',arr,T,fp',e,_⟩:=g2;rw[e] at q4;injection q4 with q4
     injection q4 with q4 q4'
     subst q4;subst q4';rw[q5,e]
    rw[hu2];exact⟨φ1,fo,g3,g2,g4⟩
   ·simp at hs
  ·simp at hs
 ·rename_i r p;split at hs
  ·rename_i es ho;injection hs with hs
   injection hs with h1 h2
   subst h1;subst h2;obtain⟨hv,fo,φ1,g1,g2,g3,g4⟩:=lq h ho;simp only[FR] at hu;obtain⟨es',hv',q1,q2,q3⟩:=hu;rw[g1] at q2;injection q2 with q2
   subst q2;rw[q3];exact⟨φ1,fo,g3,g2,g4⟩
  ·simp at hs
 ·injection hs with hs
  injection hs with h1 h2
  subst h1;subst h2;exact⟨φ,[],h,rfl,by simp,by simp,fun q e he=>⟨e,he,fun _ h=>h⟩,by simp⟩
 ·simp at hs
theorem pE.trans {σ1 σ2:St} {φ1 φ2:Rn->List Nat} {f1 f2:List Nat} (h:pE w0 w fp0 ok σ σ1 φ φ1 f1) (k:pE w0 w fp0 ok σ1 σ2 φ1 φ2 f2):pE w0 w fp0 ok σ σ2 φ φ2 (f1 ++ f2):=by
 refine⟨?_,fun b hb=>?_,fun q e he=>?_,fun b hb=>?_⟩
 ·rw[List.nodup_append];refine⟨h.nod,k.nod,fun x hx y hy hxy=>?_⟩;subst hxy;obtain⟨q,e,he,hq⟩:=k.from_ x hy;exact (h.bl x hx).2 q e he hq
 ·rcases List.mem_append.1 hb with hb | hb
  ·refine⟨(h.bl b hb).1,fun q e he hq=>?_⟩;obtain⟨e',he',hs⟩:=k.sub q e he;exact (h.bl b hb).2 q e' he' (hs b hq)
  ·exact k.bl b hb
 ·obtain⟨e1,he1,hs1⟩:=k.sub q e he;obtain⟨e2,he2,hs2⟩:=h.sub q e1 he1;exact⟨e2,he2,fun b hb=>hs2 b (hs1 b hb)⟩
 ·rcases List.mem_append.1 hb with hb | hb
  ·exact h.from_ b hb
  ·obtain⟨q,e,he,hq⟩:=k.from_ b hb;obtain⟨e',he',hs⟩:=h.sub q e he;exact⟨q,e',he',hs b hq⟩
theorem ma:∀ (m t:Nat) (σ σ1:St) (φ:Rn->List Nat) (ds:List D),Rel w0 fp0 ok σ θ w ρ φ->lj σ t m=some (ds,σ1) ->
  ∃ φ1 fx,Rel w0 fp0 ok σ1 θ w ρ φ1/\bO w ok ds ((List.range' t m).map θ) fx/\pE w0 w fp0 ok σ σ1 φ φ1 fx
 | 0,t,σ,σ1,φ,ds,h,hs=>by
  simp only[lj,Option.some.injEq,Prod.mk.injEq] at hs;obtain⟨h1,h2⟩:=hs;subst h1;subst h2;exact⟨φ,[],h,by simp[bO],by simp,by simp,fun q e he=>⟨e,he,fun _ h=>h⟩,by simp⟩
 | m+1,t,σ,σ2,φ,ds,h,hs=>by
  simp only[lj] at hs;split at hs
  ·rename_i d σ1 h1;split at hs
   ·rename_i ds' σ2' h2;injection hs with hs
    injection hs with e1 e2
    subst e1;subst e2;obtain⟨φ1,f1,a1,a2,a3⟩:=xW h h1 (h.env t);obtain⟨φ2,f2,b1,b2,b3⟩:=ma m (t+1) σ1 σ2' φ1 ds' a1 h2;refine⟨φ2,f1 ++ f2,b1,?_,a3.trans b3⟩;simp only[List.range'_succ,List.map_cons,bO];exact⟨θ t,_,f1,f2,rfl,rfl,a2,b2⟩
   ·simp at hs
  ·simp at hs
theorem pj:∀ {ds:List D} {us:List Value} {fx:List Nat} (j:Nat),bO w ok ds us fx->∃ f1 f2,fx=f1 ++ f2/\bO w ok (ds.take j) (us.take j) f1/\bO w ok (ds.drop j) (us.drop j) f2
 | ds,us,fx,0,h=>⟨[],fx,rfl,by simp[bO],by simpa using h⟩
 | [],us,fx,j+1,h=>by
  simp only[bO] at h;obtain⟨rfl,rfl⟩:=h;exact⟨[],[],rfl,by simp[bO],by simp[bO]⟩
 | d :: ds,us,fx,j+1,h=>by
  simp only[bO] at h;obtain⟨u,vs,g1,g2,rfl,rfl,h1,h2⟩:=h;obtain⟨f1,f2,rfl,h3,h4⟩:=pj j h2;refine⟨g1 ++ f1,f2,by simp,?_,by simpa using h4⟩;simp only[List.take_succ_cons,bO];exact⟨u,vs.take j,g1,f1,rfl,rfl,h1,h3⟩
theorem wU (h:Rel w0 fp0 ok σ θ w ρ φ):∀ {fs:List FV} {us:List Value},(∀ f∈fs,f.whole=true)->FRL w ok σ ρ fs us->∃ vs:List Value,FRL w ok σ ρ (ju fs) vs/\vs=us.flatMap (fun u=>u.cells.toList)
 | [],us,hw,hu=>by
  simp only[FRL] at hu;subst hu;exact⟨[],by simp[ju,FRL],rfl⟩
 | f :: fs,us,hw,hu=>by
  simp only[FRL] at hu;obtain⟨u,us',rfl,h1,h2⟩:=hu;obtain⟨vs,h3,h4⟩:=wU h (fun g hg=>hw g (List.mem_cons_of_mem _ hg)) h2;have hc:=ja h (hw f (List.mem_cons_self ..)) h1;exact⟨_,mu hc h3,by simp[h4]⟩
theorem DF (hR:Rel w0 fp0 ok σ θ w ρ φ) {f:FV} {v:Value} (hne:∀ gs,f≠.ag gs) (hw:f.whole=true) (h:FR w ok σ ρ f v):v.cells = #[v]:=by
 have fin:(∀ cs,v≠.agg cs)->v.cells = #[v]:=fun hv=>by
  unfold Value.cells;split
  ·rename_i cs;exact absurd rfl (hv cs)
  ·rfl
 cases f with
 | d x=>
  refine fin fun cs e=>?_;simp only[FR] at h;have:=pF (by simpa[FV.whole] using hw) h;subst e;simp[Value.oneCell'] at this
 | al r p lo n=>
  refine fin fun cs e=>?_;simp only[FR] at h;obtain⟨k,N,cs,hv,_,_,_,g4⟩:=h;subst e;rcases g4 with ⟨_,a',N',c',_,e5⟩ | ⟨_,b',o',N',c',_,_,⟨_,e5⟩ | ⟨_,_,_,e5⟩⟩ <;> simp at e5
 | cu r p n=>
  refine fin fun cs e=>?_;simp only[FR] at h;obtain⟨k,N,cs,hv,a,M,c,_,_,_,_,e5⟩:=h;subst e;simp at e5
 | pt r p off=>
  refine fin fun cs e=>?_;simp only[FR] at h;obtain⟨o,cs,hv,b,q,_,_,_,_,e5⟩:=h;subst e;simp at e5
 | ar r p off n=>
  refine fin fun cs e=>?_;simp only[FR] at h;obtain⟨o,cs,hv,b,q,c,_,_,_,_,_,_,e5 | ⟨_,_,e5⟩⟩:=h <;> (subst e;simp at e5)
 | mr r p=>
  refine fin fun cs e=>?_;simp only[FR] at h;obtain⟨es,hv,g1,g2,e5⟩:=h;subst e;obtain⟨hv',fo,hat⟩:=hR.rts_.at_ (r:=r) (p:=p) g1;have e6:hv'=hv:=by have:=hat.hdr;rw[g2] at this;injection this with this;exact this.symm
  subst e6;have:=hat.own;simp only[Ow] at this;obtain⟨m,en,cl,e7,_⟩:=this;rw[<-e5] at e7;simp at e7
 | fb fs off=>simp[FV.whole] at hw
 | sp cs off=>
  refine fin fun cs e=>?_;simp only[FR] at h;obtain⟨b,o,e5,_⟩:=h;subst e;simp at e5
 | cl f fs=>
  refine fin fun cs e=>?_;simp only[FR] at h;obtain⟨vs,e5,_⟩:=h;subst e;simp at e5
 | ag fs=>exact absurd rfl (hne fs)
 | it=>simp[FV.whole] at hw
 | tu=>simp[FV.whole] at hw
 | dead=>simp[FV.whole] at hw
theorem Cg {f:FV} {r:List FV} {d:D} {ds:List D} (hne:∀ gs,f≠.ag gs):iY (f :: r) (d :: ds)=(match iY r ds with | some l=>some (.one d :: l) | none=>none):=by
 cases f <;> first | rfl | exact absurd rfl (hne _)
theorem Au {f:FV} {r:List FV} (hne:∀ gs,f≠.ag gs):iY (f :: r) []=none:=by
 cases f <;> first | rfl | exact absurd rfl (hne _)
theorem DG {gs:List FV} {r:List FV} {ds:List D}:iY (.ag gs :: r) ds=(match iY r (ds.drop gs.length) with | some l=>some (.ag (ds.take gs.length) :: l) | none=>none):=by
 cases ds <;> rfl
theorem nM (h:Rel w0 fp0 ok σ θ w ρ φ):∀ {fs:List FV} {us:List Value} {ds:List D} {res:List RV} {fx:List Nat},(∀ f∈fs,f.whole=true)->FRL w ok σ ρ fs us->iY fs ds=some res->bO w ok ds (us.flatMap fun u=>u.cells.toList) fx->fj w ok res us fx
 | [],us,ds,res,fx,hw,hu,hg,ho=>by
  simp only[FRL] at hu;subst hu
  cases ds with
  | nil=>
   simp only[iY,Option.some.injEq] at hg;subst hg;simp only[List.flatMap_nil,bO] at ho;simp[fj,ho.2]
  | cons d ds=>simp[iY] at hg
 | f :: fs,us,ds,res,fx,hw,hu,hg,ho=>by
  simp only[FRL] at hu;obtain⟨u,us',rfl,h1,h2⟩:=hu;have hwf:=hw f (List.mem_cons_self ..);have hw':∀ g∈fs,g.whole=true:=fun g hg=>hw g (List.mem_cons_of_mem _ hg);rw[List.flatMap_cons] at ho
  by_cases hag:∃ gs,f = .ag gs
  ·obtain⟨gs,rfl⟩:=hag;rw[DG] at hg;split at hg
   ·rename_i l hl;injection hg with hg
    subst hg;simp only[FR] at h1;obtain⟨vs,rfl,h3⟩:=h1;have hlen:vs.toList.length=gs.length:=fu h3;obtain⟨f1,f2,rfl,o1,o2⟩:=pj gs.length ho;have ec:(Value.agg vs).cells=vs:=rfl;rw[ec] at o1 o2;rw[List.take_append_of_le_length (Nat.le_of_eq hlen.symm),List.take_of_length_le (Nat.le_of_eq hlen)] at o1;rw[List.drop_append_of_le_length (Nat.le_of_eq hlen.symm),List.drop_of_length_le (Nat.le_of_eq hlen),List.nil_append] at o2;simp only[fj,j9];exact⟨.agg vs,us',f1,f2,rfl,rfl,⟨vs,rfl,o1⟩,nM h hw' h2 hl o2⟩
   ·simp at hg
  ·have hne:∀ gs,f≠.ag gs:=fun gs e=>hag ⟨gs,e⟩
   cases ds with
   | nil=>rw[Au hne] at hg;simp at hg
   | cons d ds=>
    rw[Cg hne] at hg;split at hg
    ·rename_i l hl;injection hg with hg
     subst hg;rw[DF h hne hwf h1] at ho;simp only[List.singleton_append,bO] at ho;obtain⟨v,vs,f1,f2,e4,rfl,o1,o2⟩:=ho;injection e4 with e4 e5
     subst e4;subst e5;simp only[fj,j9];exact⟨u,us',f1,f2,rfl,rfl,o1,nM h hw' h2 hl o2⟩
    ·simp at hg
end
end Go.Proofs.YtncfmemhjahpeaaGreat.Ab
namespace Go.Proofs.YtncfmemhjahpeaaGreat.Ab
open Go
def oW:Nat->List FV->List (Nat×FV)
 | _,[]=>[]
 | i,f :: r=>(i,f) :: oW (i+1) r
def wFV (r:Rn):D->FV
 | .ow _ n _=>.al r [] 0 n
 | .bx _=>.pt r [] 0
 | _=>.dead
def jO:Nat->List (Rn×D)->List (Nat×FV)
 | _,[]=>[]
 | j,x :: r=>(1000+j,wFV x.1 x.2) :: jO (j+1) r
def lW (n:Nat):List ResultVar->Bool
 | []=>true
 | .tmp t :: r=>decide (t < n) && lW n r
 | .cell a _ :: r=>decide (a < n) && lW n r
section
variable {w0 w:World} {fp0:List Nat} {ok0 ok:Nat->Prop} {W:Nat->Value} {n:Nat} {σ:St} {θ:Nat->Value} {ρ:Rn->Value} {φ:Rn->List Nat} {a:Act} {P:Program} {T:TT}
def mX (tmps:Array Value):ResultVar->Sem Value
 | .tmp t=>Pure.pure (tmps.getD t undef)
 | .cell x t=>do loadVar t (<- asAddr (tmps.getD x undef))
theorem l8 (hT:cT P T=true) (h:Stx w0 fp0 ok0 W n σ a w ok θ ρ φ):∀ (rs:List ResultVar) (fs:List FV),lW n rs=true->km T σ rs=some fs->∃ us,FRL w ok σ ρ fs us /\
  (rs.mapM (mX a.tmps)).run P w = .ok us w
 | [],fs,_,hs=>by
  simp only[km,Option.some.injEq] at hs;subst hs;exact⟨[],by simp[FRL],by simp⟩
 | .tmp t :: rs,fs,hsm,hs=>by
  simp only[lW,Bool.and_eq_true,decide_eq_true_eq] at hsm;simp only[km] at hs;split at hs
  ·rename_i l hl;injection hs with hs
   subst hs;obtain⟨us,h1,h2⟩:=l8 hT h rs l hsm.2 hl;have h3:=h.opv (x:=.tmp t) (by simpa[iB] using hsm.1);refine⟨a.tmps.getD t undef :: us,?_,?_⟩
   ·simp only[FRL];exact⟨_,us,rfl,h3,h1⟩
   ·rw[List.mapM_cons];simp only[Sem.run_bind,mX,Sem.run_pure,Result.andThen_ok];rw[h2];rfl
  ·simp at hs
 | .cell x t :: rs,fs,hsm,hs=>by
  simp only[lW,Bool.and_eq_true,decide_eq_true_eq] at hsm;simp only[km] at hs;split at hs
  ·rename_i f l hf hl;injection hs with hs
   subst hs;obtain⟨us,h1,h2⟩:=l8 hT h rs l hsm.2 hl;have h3:=h.opv (x:=.tmp x) (by simpa[iB] using hsm.1);obtain⟨v,h4,h5⟩:=vm hT h.rel hf h3;have h6:=h5 w (bV.refl w);have e:a.eval (.tmp x)=a.tmps.getD x undef:=rfl;rw[e] at h6;have hptr:∃ b,a.tmps.getD x undef = .pointer (some b):=by
    cases hv:a.tmps.getD x undef with
    | pointer b=>
     cases b with
     | some b=>exact⟨b,rfl⟩
     | none=>rw[hv] at h6;simp[Instr.loadAt,Instr.sureAddr] at h6
    | _=>rw[hv] at h6;simp[Instr.loadAt,Instr.sureAddr] at h6
   obtain⟨b,hb⟩:=hptr;rw[hb] at h6;simp only[Instr.loadAt,Instr.sureAddr,Sem.run_bind,Sem.run_pure,Result.andThen_ok] at h6;refine⟨v :: us,?_,?_⟩
   ·simp only[FRL];exact⟨_,us,rfl,h4,h1⟩
   ·rw[List.mapM_cons];have h7:(mX a.tmps (.cell x t)).run P w = .ok v w:=by
     simp only[mX,Sem.run_bind,hb,asAddr,Sem.run_pure,Result.andThen_ok,h6]
    simp only[Sem.run_bind,h7,Result.andThen_ok,h2,Sem.run_pure]
  ·simp at hs
theorem Aq {fn:Func} {us:List Value} (h:(fn.results.toList.mapM (mX a.tmps)).run P w = .ok us w):(results fn a.tmps).run P w = .ok (j7 us) w:=by
 have e:results fn a.tmps=(do let vs <- fn.results.mapM (mX a.tmps);pure (if h:vs.size=1 then vs[0] else .tuple vs)):=by
  unfold results;congr
 have hm:(fn.results.mapM (mX a.tmps)).run P w = .ok us.toArray w:=by
  rw[Array.mapM_eq_mapM_toList,Sem.run_map,h];rfl
 rw[e,Sem.run_bind,hm];simp only[Result.andThen_ok,Sem.run_pure];congr 1
 match us with
 | []=>rfl
 | [v]=>rfl
 | v :: u :: r=>
  rw[dif_neg (by simp)];rfl
theorem wW {ok':Nat->Prop}:∀ {ds:List D} {us:List Value} {fp:List Nat},noShL ds->bO w ok ds us fp->bO w ok' ds us fp
 | [],us,fp,_,h=>by simpa only [bO] using h
 | d :: ds,us,fp,hn,h=>by
  simp only[bO] at h ⊢;obtain⟨u,vs,f1,f2,e1,e2,h1,h2⟩:=h;exact⟨u,vs,f1,f2,e1,e2,om d u f1 hn.1 h1,wW hn.2 h2⟩
theorem rG {ok':Nat->Prop}:∀ {ds:List RV} {us:List Value} {fp:List Nat},um ds->fj w ok ds us fp->fj w ok' ds us fp
 | [],us,fp,_,h=>by simpa only [fj] using h
 | .one d :: ds,us,fp,hn,h=>by
  simp only[fj,j9] at h ⊢;obtain⟨u,vs,f1,f2,e1,e2,h1,h2⟩:=h;exact⟨u,vs,f1,f2,e1,e2,om d u f1 hn.1 h1,rG hn.2 h2⟩
 | .ag xs :: ds,us,fp,hn,h=>by
  simp only[fj,j9] at h ⊢;obtain⟨u,vs,f1,f2,e1,e2,⟨vv,e3,h1⟩,h2⟩:=h;exact⟨u,vs,f1,f2,e1,e2,⟨vv,e3,wW hn.1 h1⟩,rG hn.2 h2⟩
theorem zS:∀ {ds:List D} {us:List Value} {fx:List Nat},bO w ok ds us fx->ds.length=us.length
 | [],us,fx,h=>by
  simp only[bO] at h;rw[h.1];rfl
 | d :: ds,us,fx,h=>by
  simp only[bO] at h;obtain⟨u,vs,g1,g2,rfl,rfl,h1,h2⟩:=h;simp[zS h2]
theorem ur:∀ (names:List Rn) (outs:List D) (us:List Value) (fo:List Nat),names.length=outs.length->names.Nodup->fo.Nodup->bO w ok outs us fo ->
  ∃ φ':Rn->List Nat,(∀ nm d,ofR (names.zip outs) nm=some d->∃ (k:Nat) (u:Value),names[k]? = some nm/\us[k]? = some u/\outs[k]? = some d/\Ow w ok d u (φ' nm)) /\
   (∀ nm d,ofR (names.zip outs) nm=some d->(φ' nm).Nodup/\∀ b∈φ' nm,b∈fo) /\
   (∀ nm nm' d d',nm≠nm'->ofR (names.zip outs) nm=some d->ofR (names.zip outs) nm'=some d'->∀ b∈φ' nm,b ∉ φ' nm')
 | [],outs,us,fo,_,_,_,_=>⟨fun _=>[],by simp[ofR],by simp[ofR],by simp[ofR]⟩
 | n :: names,[],us,fo,h,_,_,_=>by simp at h
 | n :: names,d :: outs,us,fo,hl,hn,hf,ho=>by
  simp only[bO] at ho;obtain⟨u,vs,f1,f2,rfl,rfl,h1,h2⟩:=ho;rw[List.nodup_append] at hf;rw[List.nodup_cons] at hn;obtain⟨φ',k1,k2,k3⟩:=ur names outs vs f2 (by simpa using hl) hn.2 hf.2.1 h2;refine⟨fun q=>if q=n then f1 else φ' q,fun nm x hx=>?_,fun nm x hx=>?_,fun nm nm' x x' hne hx hx' b hb=>?_⟩
  ·simp only[List.zip_cons_cons,ofR] at hx
   by_cases e:n=nm
   ·subst e;rw[if_pos rfl] at hx;injection hx with hx
    subst hx;exact⟨0,u,rfl,rfl,rfl,by simpa using h1⟩
   ·rw[if_neg e] at hx;obtain⟨k,v,q1,q2,q3,q4⟩:=k1 nm x hx;exact⟨k+1,v,by simpa using q1,by simpa using q2,by simpa using q3,by simpa only [if_neg (Ne.symm e)] using q4⟩
  ·simp only[List.zip_cons_cons,ofR] at hx
   by_cases e:n=nm
   ·subst e;simp only[if_true];exact⟨hf.1,fun b hb=>List.mem_append_left _ hb⟩
   ·rw[if_neg e] at hx;simp only[if_neg (Ne.symm e)];exact⟨(k2 nm x hx).1,fun b hb=>List.mem_append_right _ ((k2 nm x hx).2 b hb)⟩
  ·simp only[List.zip_cons_cons,ofR] at hx hx'
   by_cases e:n=nm
   ·subst e;simp only[if_true] at hb;rw[if_neg hne] at hx';simp only[if_neg (Ne.symm hne)];exact fun hb'=>hf.2.2 b hb b ((k2 nm' x' hx').2 b hb') rfl
   ·rw[if_neg e] at hx;simp only[if_neg (Ne.symm e)] at hb
    by_cases e':n=nm'
    ·subst e';simp only[if_true];exact fun hb'=>hf.2.2 b hb' b ((k2 nm x hx).2 b hb) rfl
    ·rw[if_neg e'] at hx';simp only[if_neg (Ne.symm e')];exact k3 nm nm' x x' hne hx hx' b hb
theorem wT:∀ {l:List D} {k:Nat} {d:D},noShL l->l[k]? = some d->ij d
 | [],k,d,_,h=>by simp at h
 | x :: l,0,d,hn,h=>by
  simp only[List.getElem?_cons_zero,Option.some.injEq] at h;subst h;exact hn.1
 | x :: l,k+1,d,hn,h=>by
  simp only[List.getElem?_cons_succ] at h;exact wT hn.2 h
theorem Da {C:Ctx} {fn:Func} {pure:Bool} {Q:List D->List RV->Prop} (hT:cT C.P C.T=true) (hsr:lW n fn.results.toList=true) (hk:we C fn.results.toList pure Q σ) (h:Stx w0 fp0 ok0 W n σ a w ok θ ρ φ)
  {ρ0:Rn->Value} {ros:List (Rn×D)} (hnW:C.nW=ros.length) (hr1:ros.length<=100) (hnn:(ros.map (·.1)).Nodup) (hW:∀ (k:Nat) (x:Rn×D),ros[k]? = some x->W k=ρ0 x.1) :
  ∃ v,(results fn a.tmps).run C.P w = .ok v w/\∃ outs res ok' φ' fr,Q outs res/\qr w0 ok0 ρ0 fp0 (ros.map (·.1)) pure outs res v w ok' φ' fr:=by
 unfold we at hk;split at hk
 ·rename_i fs hfs;obtain⟨hwh,hk⟩:=hk;obtain⟨us,h1,h2⟩:=l8 hT h fn.results.toList fs hsr hfs;obtain⟨avs,h3,h4⟩:=wU h.rel hwh h1;have hpend:Rel w0 fp0 ok { σ with env:=oU (ju fs) 3000 σ.env } (kS avs 3000 θ) w ρ φ:=
   ⟨h.rel.own,h.rel.dis,fun t=>m7 _ _ (tG (ju fs) avs 3000 _ _ h3 h.rel.env t),h.rel.okb,h.rel.frm⟩
  split at hk
  ·rename_i ds σ1 hex;split at hk
   ·rename_i res outs σ2 hgr hou;obtain⟨hpure,hQ⟩:=hk;obtain⟨φ1,fr,g1,g2,g3⟩:=ma (ju fs).length 3000 _ σ1 φ ds hpend hex;obtain⟨φ2,fo,k1,k2,k3⟩:=ma C.nW 1000 σ1 σ2 φ1 outs g1 hou;have hav:(List.range' 3000 (ju fs).length).map (kS avs 3000 θ)=avs:=by
     have hl:=fu h3;apply List.ext_getElem?;intro j;rw[List.getElem?_map];rcases Nat.lt_or_ge j avs.length with hj | hj
     ·rw[List.getElem?_range' (by rw[<-hl];exact hj)];simp only[Option.map_some,Nat.one_mul];rw[rE avs 3000 θ j avs[j] (List.getElem?_eq_getElem hj),List.getElem?_eq_getElem hj]
     ·rw[List.getElem?_eq_none (l:=List.range' 3000 (ju fs).length) (by rw[List.length_range',<-hl];exact hj),List.getElem?_eq_none hj];rfl
    rw[hav,h4] at g2;have hres:=nM h.rel hwh h1 hgr g2;have hol:outs.length=C.nW:=by rw[zS k2];simp
    obtain⟨φ',o1,o2,o3⟩:=ur (ros.map (·.1)) outs _ fo (by rw[List.length_map,hol,hnW]) hnn k3.nod k2;refine⟨j7 us,Aq h2,outs,res,ok,φ',fr,hQ,?_⟩;have hres':fj w (if pure then fun _=>False else ok) res us fr:=by
     cases pure with
     | true=>exact rG (hpure rfl).1 hres
     | false=>exact hres
    have okn:∀ b,ok b->(ok0 b\/w0.heap.size<=b)/\b < w.heap.size:=fun b hb=>⟨h.okn b hb,h.rel.okb b hb⟩;refine⟨by simp[hol,hnW],fun nm d hd=>?_,o3,⟨us,rfl,hres'⟩,g3.nod,fun b hb=>⟨(g3.bl b hb).1.1,(g3.bl b hb).1.2.1,(g3.bl b hb).1.2.2⟩,fun nm d hd b hb hbf=>?_,h.rel.frm,h.oks,okn⟩
    ·obtain⟨k,u,q1,q2,q3,q4⟩:=o1 nm d hd;obtain⟨p1,p2⟩:=o2 nm d hd;refine⟨?_,p1,fun b hb=>⟨(k3.bl b (p2 b hb)).1.1,(k3.bl b (p2 b hb)).1.2.1,(k3.bl b (p2 b hb)).1.2.2⟩⟩;have hk:k < ros.length:=by
      have:=(List.getElem?_eq_some_iff.1 q1).1;simpa using this
     have hu:u=ρ0 nm:=by
      rw[List.getElem?_map,List.getElem?_range' (by omega)] at q2;simp only[Option.map_some,Nat.one_mul,Option.some.injEq] at q2;rw[o7 avs 3000 θ _ (by omega),h.th.2.1 k (by omega)] at q2;rw[List.getElem?_map] at q1
      cases hx:ros[k]? with
      | none=>rw[hx] at q1;simp at q1
      | some x=>
       rw[hx] at q1;simp only[Option.map_some,Option.some.injEq] at q1;rw[hW k x hx,q1] at q2;exact q2.symm
     rw[<-hu]
     cases pure with
     | true=>exact om d _ _ (wT (hpure rfl).2 q3) q4
     | false=>exact q4
    ·obtain⟨q,e,he,hq⟩:=k3.from_ b ((o2 nm d hd).2 b hb);exact (g3.bl b hbf).2 q e he hq
   ·exact hk.elim
  ·exact hk.elim
 ·exact hk.elim
theorem yr:∀ (args:List FV) (i t:Nat) (r:List (Nat×FV)),ofL (oW i args ++ r) t=if i<=t/\t < i+args.length then args.getD (t - i) .dead else ofL r t
 | [],i,t,r=>by
  rw[if_neg (by simp)];rfl
 | f :: args,i,t,r=>by
  simp only[oW,List.cons_append,ofL,List.length_cons]
  by_cases h:i=t
  ·subst h;simp
  ·rw[if_neg h,yr args (i+1) t r]
   by_cases h2:i+1<=t/\t < i+1+args.length
   ·rw[if_pos h2,if_pos (by omega),show t - i=(t - (i+1))+1 by omega];rfl
   ·rw[if_neg h2,if_neg (by omega)]
theorem vq:∀ (ros:List (Rn×D)) (j t:Nat),ofL (jO j ros) t = .dead\/∃ k x,ros[k]? = some x/\t=1000+(j+k)/\ofL (jO j ros) t=wFV x.1 x.2
 | [],j,t=>.inl rfl
 | x :: ros,j,t=>by
  simp only[jO,ofL];split
  ·rename_i e;exact .inr ⟨0,x,rfl,e.symm,rfl⟩
  ·rcases vq ros (j+1) t with h | ⟨k,y,h1,h2,h3⟩
   ·exact .inl h
   ·exact .inr ⟨k+1,y,by simpa using h1,by omega,h3⟩
theorem Bv:∀ {ros:List (Rn×D)} {k:Nat} {x:Rn×D},(ros.map (·.1)).Nodup->ros[k]? = some x->ofR ros x.1=some x.2
 | [],k,x,_,h=>by simp at h
 | y :: ros,0,x,_,h=>by
  simp only[List.getElem?_cons_zero,Option.some.injEq] at h;subst h;obtain⟨a,b⟩:=y;simp[ofR]
 | y :: ros,k+1,x,hn,h=>by
  simp only[List.getElem?_cons_succ] at h;simp only[List.map_cons,List.nodup_cons] at hn;have hne:y.1≠x.1:=fun e=>hn.1 (by rw[e];exact List.mem_map.2 ⟨x,List.mem_of_getElem? h,rfl⟩);obtain⟨a,b⟩:=y;simp only[ofR];rw[if_neg hne];exact Bv hn.2 h
theorem qr.wider {w:World} {ok:Nat->Prop} {ρ:Rn->Value} {fp0 fp1:List Nat} {names:List Rn} {pure:Bool} {outs:List D} {res:List RV} {v:Value} {w':World} {ok':Nat->Prop} {φ:Rn->List Nat} {fr:List Nat}
  (h:qr w ok ρ fp0 names pure outs res v w' ok' φ fr) (hs:∀ b∈fp0,b∈fp1):qr w ok ρ fp1 names pure outs res v w' ok' φ fr:=
 ⟨h.len,fun r d hd=>⟨(h.out r d hd).1,(h.out r d hd).2.1,fun b hb=>⟨((h.out r d hd).2.2 b hb).1,((h.out r d hd).2.2 b hb).2.1.imp (hs b) id,((h.out r d hd).2.2 b hb).2.2⟩⟩,h.dis,h.res,h.nod,
  fun b hb=>⟨(h.bl b hb).1,(h.bl b hb).2.1.imp (hs b) id,(h.bl b hb).2.2⟩,h.disr,⟨h.frm.os,h.frm.out,h.frm.tape,h.frm.drawn,h.frm.size,fun b hb hn=>h.frm.old b hb fun hh=>hn (hs b hh)⟩,h.okm,h.okn⟩
theorem af.F5 {C:Ctx} {f:Nat} {fn:Func} {c:Code} {args:List FV} {ros:List (Rn×D)} {pure:Bool} {Q:List D->List RV->Prop} (hT:cT C.P C.T=true) (hM:C.P.follows .mixedOrders=true)
  (hf : C.P.funcs[f]? = some fn) (hb : fn.body = some c) (hname : (fn.name == "runtime.NumGoroutine") = false) (hn : fn.ntmps = n) (hla : args.length ≤ n) (hn2 : n ≤ 1000) (hsm : gN n c = true) (hsr : lW n fn.results.toList = true)
  (hnW:C.nW=ros.length) (hr1:ros.length<=100) (hnn:(ros.map (·.1)).Nodup) (h:AWp C c 0 (EZ C fn.results.toList pure Q) ⟨ofL (oW 0 args ++ jO 0 ros),ofR ros⟩):af C.P f args ros pure Q:=by
 refine⟨⟨fn,c,hf,hb,hname⟩,fun w fp1 ok vs ρ φ hlen hrel1=>?_⟩
 -- where nothing is lent for writing,nothing old may be written
 obtain⟨fp0,hz,hsub,hrel⟩:∃ fp0:List Nat,(C.nW=0->fp0=[])/\(∀ b∈fp0,b∈fp1)/\Rel w fp0 ok ⟨fL args,ofR ros⟩ (fun t=>vs.getD t undef) w ρ φ:=by
  by_cases h0:C.nW=0
  ·have hros:ros=[]:=List.eq_nil_of_length_eq_zero (by rw[<-hnW];exact h0);subst hros;refine⟨[],fun _=>rfl,by simp,⟨fun r d hd=>by simp[ofR] at hd,fun r r' d d' _ hd=>by simp[ofR] at hd,hrel1.env,hrel1.okb,de.refl w []⟩⟩
  ·exact⟨fp1,fun h=>absurd h h0,fun _ h=>h,hrel1⟩
 refine Calls.mono (R:=fun e w'=>∃ v outs res ok' φ' fr,e = .returned v/\Q outs res/\qr w ok ρ fp0 (ros.map (·.1)) pure outs res v w' ok' φ' fr) ?_ (fun e w' ⟨v,outs,res,ok',φ',fr,he,hQ,hd⟩=>⟨v,outs,res,ok',φ',fr,he,hQ,hd.wider hsub⟩);refine calls_of_wp hf hb ?_;have hsz:(vs.toArray ++ Array.replicate (fn.ntmps - vs.toArray.size) undef).size=n:=by
  simp only[Array.size_append,List.size_toArray,Array.size_replicate];omega
 let W:Nat->Value:=fun j=>match ros[j]? with | some x=>ρ x.1 | none=>undef
 let θ:Nat->Value:=fun t=>if t < 1000 then (vs.toArray ++ Array.replicate (fn.ntmps - vs.toArray.size) undef).getD t undef else W (t - 1000)
 have hs:Stx w fp0 ok W n ⟨ofL (oW 0 args ++ jO 0 ros),ofR ros⟩ { tmps:=vs.toArray ++ Array.replicate (fn.ntmps - vs.toArray.size) undef,defers:=[] } w ok θ ρ φ:=by
  refine⟨⟨hrel.own,hrel.dis,fun t=>?_,hrel.okb,hrel.frm⟩,⟨fun t ht=>if_pos ht,fun j hj=>?_,by rw[hsz];exact hn2⟩,fun _ h=>h,fun b hb=>.inl hb,rfl,hsz⟩
  ·show FR w ok _ ρ (ofL (oW 0 args ++ jO 0 ros) t) (θ t);rw[yr]
   by_cases ht:t < args.length
   ·rw[if_pos (by omega)];have h1:FR w ok ⟨fL args,ofR ros⟩ ρ (args.getD t .dead) (vs.getD t undef):=hrel.env t;have h2:θ t=vs.getD t undef:=by
     show (if t < 1000 then _ else _)=_;rw[if_pos (by omega)];have hlt:t < vs.length:=by omega
     simp only[Array.getD_eq_getD_getElem?,List.getD_eq_getElem?_getD];rw[Array.getElem?_append_left (by simpa using hlt)];simp
    rw[h2,Nat.sub_zero];exact iR (σ1:=⟨fL args,ofR ros⟩) (σ2:=⟨ofL (oW 0 args ++ jO 0 ros),ofR ros⟩) rfl _ _ h1
   ·rw[if_neg (by omega)];rcases vq ros 0 t with e | ⟨k,x,hkx,rfl,e⟩
    ·rw[e];simp[FR]
    ·rw[e];have h2:θ (1000+(0+k))=ρ x.1:=by
      show (if 1000+(0+k) < 1000 then _ else W (1000+(0+k) - 1000))=_;rw[if_neg (by omega),show 1000+(0+k) - 1000=k by omega];show (match ros[k]? with | some x=>ρ x.1 | none=>undef)=_;rw[hkx]
     rw[h2];have hor:ofR ros x.1=some x.2:=Bv hnn hkx;have hx:=(hrel.own x.1 x.2 hor).1;unfold wFV;split
     ·rename_i k N cs hd;rw[hd] at hx hor;simp only[FR];refine⟨k,N,cs,ρ x.1,by simp[St.obj,hor,bw],by simp[hdr],by omega,.inl ⟨rfl,?_⟩⟩;simp only[Ow] at hx;rcases hx with ⟨rfl,_,_,a0,e⟩ | ⟨b,o,cp,arr,T,fp',e,_⟩
      ·exact⟨a0,0,0,e,e⟩
      ·exact⟨_,N,cp,e,e⟩
     ·rename_i cs hd;rw[hd] at hx hor;simp only[FR];simp only[Ow] at hx;obtain⟨b,arr,T,fp',e,_⟩:=hx;exact⟨.bx cs,cs,ρ x.1,b,0,by simp[St.obj,hor,bw],rfl,by simp[hdr],by rw[e];rfl,e⟩
     ·simp[FR]
  ·show (if 1000+j < 1000 then _ else W (1000+j - 1000))=W j;rw[if_neg (by omega),Nat.add_sub_cancel_left]
 have hfin:∀ (σ:St) (a':Act) (w':World),we C fn.results.toList pure Q σ->Ste w fp0 ok W n σ a' w'->a'.defers=[]/\∃ v,(results fn a'.tmps).run C.P w' = .ok v w' /\
   ∃ v' outs res ok' φ' fr,Ending.returned v=Ending.returned v'/\Q outs res/\qr w ok ρ fp0 (ros.map (·.1)) pure outs res v' w' ok' φ' fr:=by
  intro σ a' w' hk ⟨ok',θ',ρ',φ',hs'⟩;obtain⟨v,h1,outs,res,ok2,φ2,fr,h2,h3⟩:=Da (ρ0:=ρ) (ros:=ros) hT hsr hk hs' hnW hr1 hnn (fun k x hx=>by
   show (match ros[k]? with | some x=>ρ x.1 | none=>undef)=_;rw[hx])
  exact⟨hs'.dfr,v,h1,v,outs,res,ok2,φ2,fr,rfl,h2,h3⟩
 refine wp_mono (CZ hT hz hM c 0 _ _ _ w hsm h ⟨_,_,_,_,hs⟩) fun e a' w' hc=>?_
 cases e with
 | normal=>
  obtain⟨σ,hk,hs'⟩:=hc;exact hfin σ a' w' hk hs'
 | ret=>
  obtain⟨σ,hk,hs'⟩:=hc;exact hfin σ a' w' hk hs'
 | exit id=>
  obtain⟨σ,hk,_⟩:=hc;exact hk.elim
 | goto l=>exact hc.elim
 | panic ch=>exact hc.elim
 | outgrown=>exact hc.elim
end
end Go.Proofs.YtncfmemhjahpeaaGreat.Ab
namespace Go.Proofs.YtncfmemhjahpeaaGreat.Ab
open Go
def ints (xs:List Int):List D:=xs.map D.int
section
variable {C:Ctx} {i:Nat} {Q:AEx->St->Prop} {σ:St}
theorem aa {a b:Code} (h:AWp C a i (AEx.seq (AWp C b i Q) Q) σ):AWp C (.seq a b) i Q σ:=h
def fQ:List Nat->Code->Code
 | 0 :: p,.seq a _=>fQ p a
 | 1 :: p,.seq _ b=>fQ p b
 | 0 :: p,.cond _ a _=>fQ p a
 | 1 :: p,.cond _ _ b=>fQ p b
 | 0 :: p,.block _ c=>fQ p c
 | 0 :: p,.loop c=>fQ p c
 | _,c=>c
def fM (f:Func) (p:List Nat):Code:=match f.body with | some c=>fQ p c | none=>.skip
theorem sx {c c':Code} (h:c=c') (hh:AWp C c' i Q σ):AWp C c i Q σ:=h ▸ hh
theorem wst {c:Code} {σ2:St} (h:σ=σ2) (hh:AWp C c i Q σ2):AWp C c i Q σ:=h ▸ hh
theorem au (h:Q .normal σ):AWp C .skip i Q σ:=h
theorem aZ {id:Nat} (h:Q (.exit id) σ):AWp C (.exit id) i Q σ:=h
theorem aI (h:Q .ret σ):AWp C .ret i Q σ:=h
theorem ak {id:Nat} {c:Code} (h:AWp C c id (AEx.block id Q) σ):AWp C (.block id c) i Q σ:=h
theorem ab {id:Nat} {ops:Array Oper} (h:∀ K:St->Prop,(∀ σ',Q .normal σ'->K σ')->qy C ops ops.toList σ (fun σ'=>K (iG C (aA [] C.kp id) σ'))):AWp C (.region id ops false) i Q σ:=h _ (fun _ h=>h)
theorem eG {id:Nat} {ops:Array Oper} (p:jM) (hp:p.ok C ops) (h:∀ K:St->Prop,(∀ σ',Q .normal σ'->K σ')->jr C ops p σ (fun σ'=>K (iG C (aA [] C.kp id) σ'))):AWp C (.region id ops true) i Q σ:=
 ⟨p,hp,h _ (fun _ h=>h)⟩
theorem ap {c:Operand} {a b:Code} (t:Bool) (hc:opv σ c = .d (.v (.bool t))) (h1:t=true->AWp C a i Q σ) (h2:t=false->AWp C b i Q σ):AWp C (.cond c a b) i Q σ:=⟨t,hc,h1,h2⟩
theorem FM {c:Code} {α:Type} (S:α->St) (J:α->Prop) (μ:α->Nat) (x0:α) (l0:List Wk) (h0:jD l0 (iG C (aA [] C.lp i) σ)=some (S x0)) (hJ:J x0)
  (h:∀ x,J x->∀ K:St->Prop,(∀ y,J y->μ y < μ x->K (S y))->AWp C c i (AEx.seq (fun σ'=>∃ l σ1,jD l (iG C (aA [] C.lp i) σ')=some σ1/\K σ1) Q) (S x)):AWp C (.loop c) i Q σ:=by
 have hex:∀ τ:St,(∃ x,J x/\τ=S x)->∃ k,(∃ x,J x/\τ=S x/\μ x=k):=fun τ ⟨x,h1,h2⟩=>⟨_,x,h1,h2,rfl⟩
 classical
 let μ':St->Nat:=fun τ=>if h:∃ k,(∃ x,J x/\τ=S x/\μ x=k) then Classical.choose (kJ h) else 0
 refine⟨fun τ=>∃ x,J x/\τ=S x,μ',⟨l0,S x0,h0,x0,hJ,rfl⟩,fun τ hτ=>?_⟩;have e1:μ' τ=Classical.choose (kJ (hex τ hτ)):=dif_pos (hex τ hτ);obtain⟨⟨x,h1,h2,h3⟩,_⟩:=Classical.choose_spec (kJ (hex τ hτ));have:=h x h1 (fun ξ=>(∃ x,J x/\ξ=S x)/\μ' ξ < μ' τ) fun y hy hlt=>by
  have hy':∃ x,J x/\S y=S x:=⟨y,hy,rfl⟩;refine⟨hy',?_⟩;have e2:μ' (S y)=Classical.choose (kJ (hex (S y) hy')):=dif_pos (hex (S y) hy');rw[e1,e2];have:=(Classical.choose_spec (kJ (hex (S y) hy'))).2 (μ y) ⟨y,hy,rfl,rfl⟩;omega
 rw[h2];rw[h2] at this;exact this
theorem Gs {c:Code} {α:Type} (S:α->St) (J:α->Prop) (μ:α->Nat) (x0:α) (l0:List Wk) (h0:jD l0 (iG C (aA [] C.lp i) σ)=some (S x0)) (hJ:J x0)
  (h:∀ x,J x->∀ K:St->Prop,(∀ l τ y,jD l τ=some (S y)->J y->μ y < μ x->K τ)->AWp C c i (AEx.seq (fun σ'=>K (iG C (aA [] C.lp i) σ')) Q) (S x)):AWp C (.loop c) i Q σ:=
 FM S J μ x0 l0 h0 hJ fun x hx K hK=>h x hx (fun τ=>∃ l σ1,jD l τ=some σ1/\K σ1) fun l τ y hl hy hlt=>⟨l,_,hl,hK y hy hlt⟩
theorem lY {c:Code} {α:Type} (S:α->St) (J:α->Prop) (μ:α->Nat) (x0:α) (l0:List Wk) (h0:jD l0 (iG C (aA [] C.lp i) σ)=some (S x0)) (hJ:J x0)
  (h:∀ x,J x->∀ K:St->Prop,(∀ y,J y->μ y < μ x->K (S y))->AWp C c i (AEx.seq (fun σ'=>K (iG C (aA [] C.lp i) σ')) Q) (S x)):AWp C (.loop c) i Q σ:=
 Gs S J μ x0 l0 h0 hJ fun x hx K hK=>h x hx K fun y hy hlt=>hK [] _ y rfl hy hlt
theorem bm {c:Code} {α:Type} (S:α->St) (J:α->Prop) (μ:α->Nat) (x0:α) (h0:iG C (aA [] C.lp i) σ=S x0) (hJ:J x0)
  (h:∀ x,J x->∀ K:St->Prop,(∀ y,J y->μ y < μ x->K (S y))->AWp C c i (AEx.seq (fun σ'=>K (iG C (aA [] C.lp i) σ')) Q) (S x)):AWp C (.loop c) i Q σ:=
 lY S J μ x0 [] (by rw[h0];rfl) hJ h
end
theorem Fk (t:Nat):ofL [] t = .dead:=rfl
theorem EP (i:Nat) (f:FV) (r:List (Nat×FV)) (t:Nat):ofL ((i,f) :: r) t=if i=t then f else ofL r t:=rfl
theorem FZ (t:Rn):ofR [] t=none:=rfl
theorem DR (i:Rn) (f:D) (r:List (Rn×D)) (t:Rn):ofR ((i,f) :: r) t=if i=t then some f else ofR r t:=rfl
theorem Eh (t:Rn):aF [] t=none:=rfl
theorem C8 (i:Rn) (f:Option D) (r:List (Rn×Option D)) (t:Rn):aF ((i,f) :: r) t=if i=t then f else aF r t:=rfl
theorem Gc {α:Type} (e:Nat->α) (t:Nat) (f:α) (s:Nat):upd e t f s=if s=t then f else e s:=rfl
theorem DW (σ:St) (r:Rn) (d:D):(σ.root r d).env=σ.env:=rfl
theorem Ef (σ:St) (r:Rn) (d:D) (q:Rn):(σ.root r d).rts q=if q=r then some d else σ.rts q:=rfl
theorem aj {x:Int} (h0:-9223372036854775808<=x) (h1:x < 9223372036854775808):IntKind.i64.wrap x=x:=by
 rw[IntKind.wrap_i64];omega
theorem ao (xs:List Int) (i:Nat) (h:i < xs.length):(ints xs)[i]? = some (D.int xs[i]):=by simp[ints,h]
theorem yG (xs:List Int) (i:Nat) (h:i < (ints xs).length):(ints xs)[i]=D.int (xs[i]'(by simpa[ints] using h)):=by simp[ints]
theorem AI (xs:List Int):(ints xs).length=xs.length:=by simp[ints]
theorem sJ (xs ys:List Int):ints xs ++ ints ys=ints (xs ++ ys):=by simp[ints]
theorem jp (xs:List Int) (i:Nat) (x:Int):(ints xs).set i (D.v (.int .i64 x))=ints (xs.set i x):=by
 unfold ints;rw[List.map_set]
theorem qV (xs:List Int) (i:Nat):(ints xs).take i=ints (xs.take i):=by simp[ints,List.map_take]
theorem xi (xs:List Int) (i:Nat):(ints xs).drop i=ints (xs.drop i):=by simp[ints,List.map_drop]
theorem vb:∀ (xs:List Int),er (ints xs)
 | []=>trivial
 | x :: xs=>⟨rfl,vb xs⟩
theorem kR:∀ (xs:List Int),noShL (ints xs)
 | []=>trivial
 | x :: xs=>⟨trivial,kR xs⟩
theorem di:∀ (xs:List Int),shareL (ints xs)=ints xs
 | []=>rfl
 | x :: xs=>by
  have:=di xs;simp only[ints,List.map_cons,shareL,eX] at this ⊢;rw[this]
theorem cL:∀ n:Nat,gY [.int .i64 0] n=ints (List.replicate n 0)
 | 0=>rfl
 | n+1=>by
  simp only[gY,cL n,List.replicate_succ];rfl
end Go.Proofs.YtncfmemhjahpeaaGreat.Ab
namespace Go.Proofs.YtncfmemhjahpeaaGreat.Ab
open Go
def rows {α:Type} (f:α->List D):List α->List D
 | []=>[]
 | x :: xs=>f x ++ rows f xs
section
variable {α:Type} {f:α->List D} {k:Nat}
theorem dT (xs ys:List α):rows f (xs ++ ys)=rows f xs ++ rows f ys:=by
 induction xs with
 | nil=>rfl
 | cons x xs ih=>simp[rows,ih]
theorem cn (hk:∀ x,(f x).length=k) (xs:List α):(rows f xs).length=k*xs.length:=by
 induction xs with
 | nil=>rfl
 | cons x xs ih=>simp only[rows,List.length_append,hk,ih,List.length_cons,Nat.mul_add,Nat.mul_one];omega
theorem dp (hk:∀ x,(f x).length=k):∀ (xs:List α) (i j:Nat) (h:i < xs.length),j < k->(rows f xs)[k*i+j]? = (f xs[i])[j]?
 | [],i,j,h,_=>by simp at h
 | x :: xs,0,j,h,hj=>by
  simp only[rows,Nat.mul_zero,Nat.zero_add,List.getElem_cons_zero];rw[List.getElem?_append_left (by rw[hk];exact hj)]
 | x :: xs,i+1,j,h,hj=>by
  simp only[rows,List.getElem_cons_succ];rw[List.getElem?_append_right (by rw[hk,Nat.mul_add];omega),hk,show k*(i+1)+j - k=k*i+j by rw[Nat.mul_add];omega];exact dp hk xs i j (by simpa using h) hj
theorem m9 (hk:∀ x,(f x).length=k):∀ (xs:List α) (i j:Nat) (d:D) (y:α) (h:i < xs.length),j < k->f y=(f xs[i]).set j d->(rows f xs).set (k*i+j) d=rows f (xs.set i y)
 | [],i,j,d,y,h,_,_=>by simp at h
 | x :: xs,0,j,d,y,h,hj,e=>by
  simp only[rows,Nat.mul_zero,Nat.zero_add,List.set_cons_zero,List.getElem_cons_zero] at e ⊢;rw[List.set_append_left _ _ (by rw[hk];exact hj),e]
 | x :: xs,i+1,j,d,y,h,hj,e=>by
  simp only[rows,List.set_cons_succ,List.getElem_cons_succ] at e ⊢;rw[List.set_append_right _ _ (by rw[hk,Nat.mul_add];omega),hk,show k*(i+1)+j - k=k*i+j by rw[Nat.mul_add];omega,m9 hk xs i j d y (by simpa using h) hj e]
theorem xT (a b:List D):shareL (a ++ b)=shareL a ++ shareL b:=by
 induction a with
 | nil=>rfl
 | cons x a ih=>simp[shareL,ih]
theorem jx (xs:List α):shareL (rows f xs)=rows (fun x=>shareL (f x)) xs:=by
 induction xs with
 | nil=>rfl
 | cons x xs ih=>simp[rows,xT,ih]
theorem yR {a b:List D} (ha:noShL a) (hb:noShL b):noShL (a ++ b):=by
 induction a with
 | nil=>exact hb
 | cons x a ih=>exact⟨ha.1,ih ha.2⟩
theorem iF (hf:∀ x,noShL (f x)) (xs:List α):noShL (rows f xs):=by
 induction xs with
 | nil=>trivial
 | cons x xs ih=>exact yR (hf x) ih
end
end Go.Proofs.YtncfmemhjahpeaaGreat.Ab
namespace Go.Proofs.YtncfmemhjahpeaaGreat.Ab
open Go
def Ce (σ:St) (ios:List Io) (outs:List D) (dst:Option Nat) (res:List RV) (K:St->Prop):Prop:=
 match gH σ ios outs with
 | some σ1=>(match dst with
  | some d=>(match i8 d σ1 0 res with
   | some (fs,σ2,_)=>K { σ2 with env:=upd σ2.env d (pS fs) }
   | none=>False)
  | none=>K σ1)
 | none=>False
def v6 (P:Program) (f:Nat) (args:List FV) (lent:List Rn) (ios:List Io) (dst:Option Nat) (σ:St) (K:St->Prop):Prop:=
 ∃ pure Q,af P f args (ios.map fun io=>(io.name,io.d)) pure Q/\(pure=true\/lent=[])/\∀ outs res,Q outs res->Ce σ ios outs dst res K
theorem DI (C:Ctx) (f:Nat) (fvs:List FV) (dst:Option Nat) (σ:St) (K:St->Prop):rg C f fvs dst σ K=(match jF σ 0 (aA [] C.M f) fvs with
 | some (args,lent,ios)=>((ios.map (·.r)).Nodup/\(ios.map (·.name)).Nodup)/\(∀ r∈ios.map (·.r),r ∉ lent)/\v6 C.P f args lent ios dst σ K
 | none=>False):=rfl
theorem fh {P:Program} {f:Nat} {args args':List FV} {lent:List Rn} {ios:List Io} {dst:Option Nat} {σ:St} {K:St->Prop} {ros:List (Rn×D)} {pure:Bool} {Q:List D->List RV->Prop}
  (h:af P f args' ros pure Q) (ha:args=args') (hr:(ios.map fun io=>(io.name,io.d))=ros) (hp:pure=true\/lent=[]) (hk:∀ outs res,Q outs res->Ce σ ios outs dst res K):v6 P f args lent ios dst σ K:=
 ⟨pure,Q,by rw[hr,ha];exact h,hp,hk⟩
theorem ae {P:Program} {f:Nat} {args args':List FV} {lent:List Rn} {ios:List Io} {dst:Option Nat} {σ:St} {K:St->Prop} {ros:List (Rn×D)} {os:List D} {rs:List RV}
  (h:af P f args' ros true (fun outs res=>outs=os/\res=rs)) (ha:args=args') (hr:(ios.map fun io=>(io.name,io.d))=ros) (hk:Ce σ ios os dst rs K):v6 P f args lent ios dst σ K:=
 fh h ha hr (.inl rfl) fun outs res ⟨h1,h2⟩=>by rw[h1,h2];exact hk
theorem Fr (C:Ctx) (ops:Array Oper) (o:Oper) (σ:St) (K:St->Prop):mR C ops o σ K↔(match o.guard with
 | none=>AOp C o σ K
 | some (j,want)=>(match (ops[j]?).bind (·.dst) with
  | some t=>(match σ.env t with
   | .d (.v (.bool b))=>if b=want then AOp C o σ K else K (σ.set o.dst (.tu []))
   | .tu []=>K (σ.set o.dst (.tu []))
   | _=>False)
  | none=>False)):=by
 unfold mR;rcases o.guard with _ | ⟨j,want⟩
 ·exact Iff.rfl
 ·simp only;rcases (ops[j]?).bind (·.dst) with _ | t
  ·exact Iff.rfl
  ·simp only;generalize σ.env t=f;split
   ·rename_i b
    by_cases h:b=want <;> simp[h]
   ·exact Iff.rfl
   ·rename_i h h';split
    ·exact absurd rfl (h _)
    ·exact absurd rfl h'
    ·exact Iff.rfl
theorem wc (k n:Nat) (cs:List D):kr k n n cs=cs:=if_pos rfl
attribute [simp] fbB Ex qU rQ
attribute [simp ↓] AFb AFz BS tN oh BR
attribute [simp] oy pq vF
attribute [simp ↓] qy Fr AOp gm pG jr ARunL DI uI BM lI yb rZ vo yd rL yg rW uM B5
attribute [simp] u8s sil sy qv opv sr aA iG tc names fw iI Fk EP Gc St.set FV.roots FV.rootsL FV.ren FV.renL Eh C8 BQ Cp uT un
attribute [simp] vy mA oJ vI mz cQ kU AEx.seq AEx.block ge oW jO wFV FZ DR EZ we km FV.whole D.leaf lj rX oU mW ju FV.atoms iY um noShL ij Value.oneCell'
attribute [simp] St.kOf St.nOf St.obj bw St.storeL St.store1 St.absorb St.put c5 D.cells? D.setCells D.quiet FV.isLeaf DW Ef yG AI vb kR di jp sJ qV xi
attribute [simp] wk1 jD iy
attribute [simp] uj pN su vi ly kV vx nA jo jd i9 vA oI wc St.take St.kill St.killBelow FV.under FV.underL FV.deep FV.deepL iZ cj ix Mv.place FV.move FV.moveL
attribute [simp] Ce jF eQ viewL qR ioL Cl gH oA mH i8 pS eX shareL er jQ D.solid FV.rootIs St.dropIt St.setIt FV.notIt FV.hasIt FV.hasItL gY jg
def d7 (C:Ctx) (ops:Array Oper):List Nat->St->(St->Prop)->Prop
 | [],σ,K=>K σ
 | i :: r,σ,K=>match ops[i]? with
  | some o=>mR C ops o σ fun σ'=>d7 C ops r σ' K
  | none=>False
attribute [simp ↓] d7
theorem qZ (C:Ctx) (ops:Array Oper) (K:St->Prop):∀ (is js:List Nat) (σ:St),d7 C ops (is ++ js) σ K=d7 C ops is σ fun σ'=>d7 C ops js σ' K
 | [],js,σ=>rfl
 | i :: is,js,σ=>by
  simp only[List.cons_append,d7];have:(fun σ'=>d7 C ops (is ++ js) σ' K)=fun σ'=>d7 C ops is σ' fun σ''=>d7 C ops js σ'' K:=funext fun σ'=>qZ C ops K is js σ';rw[this]
theorem sR (C:Ctx) (ops:Array Oper) (K:St->Prop):∀ (m i:Nat) (σ:St),i+m=ops.size->d7 C ops (List.range' i m) σ K=qy C ops (ops.toList.drop i) σ K
 | 0,i,σ,h=>by
  rw[List.drop_of_length_le (by simp;omega)];rfl
 | m+1,i,σ,h=>by
  have hi:i < ops.toList.length:=by simp;omega
  rw[List.drop_eq_getElem_cons hi,List.range'_succ];have:(fun σ'=>d7 C ops (List.range' (i+1) m) σ' K)=fun σ'=>qy C ops (ops.toList.drop (i+1)) σ' K:=funext fun σ'=>sR C ops K m (i+1) σ' (by omega);have e:ops[i]? = some ops.toList[i]:=by
   rw[Array.getElem?_eq_getElem (by omega)];simp
  show (match ops[i]? with
   | some o=>mR C ops o σ fun σ'=>d7 C ops (List.range' (i+1) m) σ' K
   | none=>False)=_
  rw[e,this];rfl
theorem oSg {C:Ctx} {ops:Array Oper} {is js:List Nat} {σ:St} {K:St->Prop} (h:∀ K1:St->Prop,(∀ σ',d7 C ops js σ' K->K1 σ')->d7 C ops is σ K1):d7 C ops (is ++ js) σ K:=by
 rw[qZ];exact h _ fun _ h=>h
theorem oEn {C:Ctx} {ops:Array Oper} {is:List Nat} {σ:St} {K:St->Prop} (h:∀ K1:St->Prop,(∀ σ',K σ'->K1 σ')->d7 C ops is σ K1):d7 C ops is σ K:=h _ fun _ h=>h
def kF:List (Bool×Nat)->jM->jM
 | [],p=>p
 | (true,i) :: r,p=>.take i (kF r p)
 | (false,i) :: r,p=>.all [(i,kF r p)]
theorem pb (C:Ctx) (ops:Array Oper) (p:jM) (K:St->Prop):∀ (l:List (Bool×Nat)) (σ:St),jr C ops (kF l p) σ K=d7 C ops (l.map (·.2)) σ fun σ'=>jr C ops p σ' K
 | [],σ=>rfl
 | (true,i) :: l,σ=>by
  simp only[kF,jr,List.map_cons,d7];have:(fun σ'=>jr C ops (kF l p) σ' K)=fun σ'=>d7 C ops (l.map (·.2)) σ' fun σ''=>jr C ops p σ'' K:=funext fun σ'=>pb C ops p K l σ';rw[this];rfl
 | (false,i) :: l,σ=>by
  simp only[kF,jr,ARunL,List.map_cons,d7];have:(fun σ'=>jr C ops (kF l p) σ' K)=fun σ'=>d7 C ops (l.map (·.2)) σ' fun σ''=>jr C ops p σ'' K:=funext fun σ'=>pb C ops p K l σ';rw[this,and_true];rfl
section
variable {C:Ctx} {i:Nat} {Q:AEx->St->Prop} {σ:St}
theorem aK {id:Nat} {ops:Array Oper} (is:List Nat) (he:is=List.range' 0 ops.size) (h:∀ K:St->Prop,(∀ σ',Q .normal σ'->K σ')->d7 C ops is σ (fun σ'=>K (iG C (aA [] C.kp id) σ'))):AWp C (.region id ops false) i Q σ:=
 ab fun K hK=>by
  have:=h K hK;rw[he,sR _ _ _ _ _ _ (by omega)] at this;exact this
theorem bR {id:Nat} {ops:Array Oper} (l:List (Bool×Nat)) (hp:(kF l .done).ok C ops) (is:List Nat) (he:is=l.map (·.2)) (h:∀ K:St->Prop,(∀ σ',Q .normal σ'->K σ')->d7 C ops is σ (fun σ'=>K (iG C (aA [] C.kp id) σ'))):AWp C (.region id ops true) i Q σ:=
 eG (kF l .done) hp fun K hK=>by
  rw[pb,<-he];exact h K hK
end
def WkD (a b:D):Prop:=a=b\/(iy a=true/\∃ k,b = .ow k 0 [])
def WkL:List D->List D->Prop
 | [],[]=>True
 | a :: l,b :: r=>WkD a b/\WkL l r
 | _,_=>False
def WkR:RV->RV->Prop
 | .one a,.one b=>WkD a b
 | .ag a,.ag b=>WkL a b
 | _,_=>False
def eb:List RV->List RV->Prop
 | [],[]=>True
 | a :: l,b :: r=>WkR a b/\eb l r
 | _,_=>False
section
variable {w:World} {ok:Nat->Prop}
theorem WkD.ow {a b:D} (h:WkD a b) {u:Value} {fp:List Nat} (ha:Ow w ok a u fp):Ow w ok b u fp:=by
 rcases h with rfl | ⟨h1,k,rfl⟩
 ·exact ha
 ·have hv:=va h1 ha;have hf:fp=[]:=by
   unfold iy at h1;split at h1
   ·simp only[Ow] at ha;exact ha.1
   ·simp only[Ow] at ha;exact ha.1
   ·simp at h1
  subst hf;exact tP k hv
theorem WkL.ow:∀ {a b:List D},WkL a b->∀ {us:List Value} {fp:List Nat},bO w ok a us fp->bO w ok b us fp
 | [],[],_,us,fp,h=>h
 | a :: l,b :: r,h,us,fp,ha=>by
  obtain⟨u,us',f1,f2,e1,e2,h1,h2⟩:=ha;exact⟨u,us',f1,f2,e1,e2,h.1.ow h1,WkL.ow h.2 h2⟩
 | [],b :: r,h,_,_,_=>h.elim
 | a :: l,[],h,_,_,_=>h.elim
theorem WkR.ow:∀ {a b:RV},WkR a b->∀ {u:Value} {fp:List Nat},j9 w ok a u fp->j9 w ok b u fp
 | .one a,.one b,h,u,fp,ha=>WkD.ow h ha
 | .ag a,.ag b,h,u,fp,ha=>by
  obtain⟨vs,e,h1⟩:=ha;exact⟨vs,e,WkL.ow h h1⟩
 | .one a,.ag b,h,_,_,_=>h.elim
 | .ag a,.one b,h,_,_,_=>h.elim
theorem eb.ow:∀ {a b:List RV},eb a b->∀ {us:List Value} {fp:List Nat},fj w ok a us fp->fj w ok b us fp
 | [],[],_,us,fp,h=>h
 | a :: l,b :: r,h,us,fp,ha=>by
  obtain⟨u,us',f1,f2,e1,e2,h1,h2⟩:=ha;exact⟨u,us',f1,f2,e1,e2,WkR.ow h.1 h1,eb.ow h.2 h2⟩
 | [],b :: r,h,_,_,_=>h.elim
 | a :: l,[],h,_,_,_=>h.elim
end
theorem af.weak {P:Program} {f:Nat} {args:List FV} {ros:List (Rn×D)} {pure:Bool} {Q Q':List D->List RV->Prop} (h:af P f args ros pure Q) (hq:∀ outs res,Q outs res->∃ res',eb res res'/\Q' outs res'):af P f args ros pure Q':=by
 refine⟨h.1,fun w fp0 ok vs ρ φ hl hr=>(h.2 w fp0 ok vs ρ φ hl hr).mono ?_⟩;rintro e w' ⟨v,outs,res,ok',φ',fr,he,hQ,hd⟩;obtain⟨res',h1,h2⟩:=hq outs res hQ;obtain⟨vs',e1,e2⟩:=hd.res;exact⟨v,outs,res',ok',φ',fr,he,h2,⟨hd.len,hd.out,hd.dis,⟨vs',e1,h1.ow e2⟩,hd.nod,hd.bl,hd.disr,hd.frm,hd.okm,hd.okn⟩⟩
theorem af.weak1 {P:Program} {f:Nat} {args:List FV} {ros:List (Rn×D)} {pure:Bool} {os:List D} {rs:List RV} (h:af P f args ros pure fun outs res=>outs=os/\eb res rs):af P f args ros pure fun outs res=>outs=os/\res=rs:=
 h.weak fun outs res ⟨h1,h2⟩=>⟨rs,h2,h1,rfl⟩
attribute [simp] eb WkR WkL WkD iy
theorem gk {p:Prop} [Decidable p] (h:(!decide p)=true):¬ p:=by simpa using h
theorem gw {p:Prop} [Decidable p] (h:(!decide p)=false):p:=by simpa using h
theorem d_t {p:Prop} [Decidable p] (h:decide p=true):p:=by simpa using h
theorem d_f {p:Prop} [Decidable p] (h:decide p=false):¬ p:=by simpa using h
theorem kx (a b:Int):(a == b)=decide (a=b):=by
 by_cases h:a=b <;> simp[h]
theorem il (a b:Int):(a != b) = !decide (a=b):=by
 by_cases h:a=b <;> simp[h]
theorem dD {j:Nat} (h:j < 4611686018427387904):IntKind.i64.wrap (j:Int)=(j:Int):=aj (by omega) (by omega)
section
variable {w:World} {ok:Nat->Prop} {σ:St} {ρ:Rn->Value}
end
theorem af.goneOut {P:Program} {f:FuncId} {args:List FV} {x:Rn×D} {pure:Bool} {R:List D->Prop} {Q:List RV->Prop} (h:af P f args [x] pure (fun outs res=>R outs/\Q res)):af P f args [x] pure (fun outs res=>outs=[.gone]/\Q res):=by
 refine⟨h.1,fun w fp0 ok vs ρ φ hl hr=>Calls.mono (h.2 w fp0 ok vs ρ φ hl hr) ?_⟩;rintro e w' ⟨v,outs,res,ok',φ',fr,he,hQ,hD⟩;have hz:∀ r d,ofR ([x].map (·.1) |>.zip [D.gone]) r=some d->d = .gone:=fun r d hd=>by
  simp only[List.map_cons,List.map_nil,List.zip_cons_cons,List.zip_nil_right,ofR] at hd;split at hd
  ·injection hd with hd
   exact hd.symm
  ·simp at hd
 exact⟨v,[.gone],res,ok',fun _=>[],fr,he,⟨rfl,hQ.2⟩,
  { len:=rfl,out:=fun r d hd=>(by rw[hz r d hd];exact⟨by simp[Ow],List.nodup_nil,by simp⟩),dis:=(by simp),res:=hD.res,nod:=hD.nod,bl:=hD.bl,disr:=by simp,frm:=hD.frm,okm:=hD.okm,okn:=hD.okn }⟩
end Go.Proofs.YtncfmemhjahpeaaGreat.Ab
namespace Go.Proofs.YtncfmemhjahpeaaGreat.Ab
open Go
structure Trm where
 e:List Int
 c:Int
deriving DecidableEq
structure Lau where
 v:Int
 ts:List Trm
deriving DecidableEq
structure Mat where
 n:Int
 r:Int
 d:List Int
deriving DecidableEq
structure Sed where
 m:Mat
 f:List Lau
deriving DecidableEq
structure Ses where
 a:Mat
 k:List Int
 s:Sed
deriving DecidableEq
abbrev shI (l:List Int):D:=.sh 1 l.length (ints l)
abbrev owI (l:List Int):D:=.ow 1 l.length (ints l)
def tS (t:Trm):List D:=[shI t.e,D.int t.c]
def tO (t:Trm):List D:=[owI t.e,D.int t.c]
def fS (f:Lau):List D:=[D.int f.v,.sh 2 f.ts.length (rows tS f.ts)]
def fO (f:Lau):List D:=[D.int f.v,.ow 2 f.ts.length (rows tO f.ts)]
def mS (m:Mat):List D:=[D.int m.n,D.int m.r,shI m.d]
def mO (m:Mat):List D:=[D.int m.n,D.int m.r,owI m.d]
theorem Gj (t:Trm):(tS t).length=2:=rfl
theorem GN (t:Trm):(tO t).length=2:=rfl
theorem Gx (t:Lau):(fS t).length=2:=rfl
theorem GV (t:Lau):(fO t).length=2:=rfl
@[simp] theorem Ke (l:List Trm):(rows tS l).length=2*l.length:=cn Gj l
@[simp] theorem Kt (l:List Trm):(rows tO l).length=2*l.length:=cn GN l
@[simp] theorem Kn (l:List Lau):(rows fS l).length=2*l.length:=cn Gx l
@[simp] theorem Kq (l:List Lau):(rows fO l).length=2*l.length:=cn GV l
@[simp] theorem Ml (l:List Trm):shareL (rows tO l)=rows tS l:=by
 rw[jx];congr 1;funext t;simp[tO,tS,shareL,eX,di]
@[simp] theorem L7 (l:List Lau):shareL (rows fO l)=rows fS l:=by
 rw[jx];congr 1;funext t;simp[fO,fS,shareL,eX]
@[simp] theorem MF (l:List Trm):noShL (rows tO l):=iF (fun t=>by simp[tO,noShL,ij,kR]) l
@[simp] theorem ME (l:List Lau):noShL (rows fO l):=iF (fun t=>by simp[fO,noShL,ij]) l
theorem fi {α:Type} {l:List α} {i:Nat} {x:α} (h:l[i]? = some x):l[i]? = some x/\∀ h':i < l.length,l[i]'h'=x:=
 ⟨h,fun h'=>by rw[List.getElem?_eq_getElem h'] at h;injection h⟩
section
variable {l:List Trm} {g:List Lau} {i:Nat}
end
theorem cB {α:Type} (l:List α) (i:Nat) (e:α):l.modify i (fun _=>e)=l.set i e:=by
 apply List.ext_getElem?;intro j;rw[List.getElem?_modify,List.getElem?_set];split
 ·rename_i h;subst h;split
  ·rename_i h;rw[List.getElem?_eq_getElem h];rfl
  ·rename_i h;rw[List.getElem?_eq_none (by omega)];rfl
 ·simp
def gA (k:Int) (n:Nat):List Int:=(List.range n).map fun (i:Nat)=>k+(i:Int)
@[simp] theorem GT (k:Int) (n:Nat):(gA k n).length=n:=by simp[gA]
theorem CN (k:Int) (n i:Nat) (h:i < n):(gA k n)[i]'(by simpa using h)=k+i:=by simp[gA]
theorem BZ (k:Int) (n:Nat):gA k (n+1)=gA k n ++ [k+n]:=by simp[gA,List.range_succ]
section
variable {α:Type} (cnt:α->Nat) (mk:α->Int->α)
def cW:List α->Nat
 | []=>0
 | x :: xs=>cnt x+cW xs
def mkL:List α->Int->List α
 | [],_=>[]
 | x :: xs,k=>mk x k :: mkL xs (k+cnt x)
@[simp] theorem B8:∀ (l:List α) (k:Int),(mkL cnt mk l k).length=l.length
 | [],k=>rfl
 | x :: xs,k=>by simp[mkL,B8 xs]
theorem nR:∀ (l r:List α),cW cnt (l ++ r)=cW cnt l+cW cnt r
 | [],r=>by simp[cW]
 | x :: xs,r=>by simp[cW,nR xs r,Nat.add_assoc]
theorem pO:∀ (l r:List α) (k:Int),mkL cnt mk (l ++ r) k=mkL cnt mk l k ++ mkL cnt mk r (k+cW cnt l)
 | [],r,k=>by simp[mkL,cW]
 | x :: xs,r,k=>by
  simp only[List.cons_append,mkL,pO xs r,cW];rw[show k+(cnt x:Int)+(cW cnt xs:Int)=k+((cnt x+cW cnt xs:Nat):Int) by omega]
theorem lV (l:List α) (j:Nat) (h:j < l.length):cW cnt (l.take (j+1))=cW cnt (l.take j)+cnt l[j]:=by
 rw[List.take_succ_eq_append_getElem h,nR];simp[cW]
theorem Fi (l:List α) (j:Nat):cW cnt (l.take j)<=cW cnt l:=by
 have:cW cnt l=cW cnt (l.take j)+cW cnt (l.drop j):=by rw[<-nR,List.take_append_drop]
 omega
theorem pz (l:List α) (j:Nat) (h:j < l.length):cW cnt (l.take j)+cnt l[j]<=cW cnt l:=by
 rw[<-lV cnt l j h];exact Fi cnt l (j+1)
theorem yC (l:List α) (k:Int) (j:Nat) (h:j < l.length):(mkL cnt mk l k)[j]'(by simpa using h)=mk l[j] (k+cW cnt (l.take j)):=by
 have e:l=l.take j ++ l[j] :: l.drop (j+1):=by rw[<-List.drop_eq_getElem_cons h,List.take_append_drop]
 have e2:mkL cnt mk l k=mkL cnt mk (l.take j) k ++ mk l[j] (k+cW cnt (l.take j)) :: mkL cnt mk (l.drop (j+1)) (k+cW cnt (l.take j)+cnt l[j]):=by
  conv=>lhs;rw[e]
  rw[pO];rfl
 have:(mkL cnt mk l k)[j]? = some (mk l[j] (k+cW cnt (l.take j))):=by
  rw[e2,List.getElem?_append_right (by simp;omega)];simp[Nat.min_eq_left (Nat.le_of_lt h)]
 rw[List.getElem?_eq_getElem (by simpa using h)] at this;injection this
theorem zX (l:List α) (k:Int) (j:Nat) (h:j < l.length):(mkL cnt mk (l.take j) k ++ l.drop j)[j]? = some l[j]:=by
 rw[List.getElem?_append_right (by simp;omega)];simp[Nat.min_eq_left (Nat.le_of_lt h),h]
theorem yx (l:List α) (k:Int) (j:Nat) (h:j < l.length):(mkL cnt mk (l.take j) k ++ l.drop j).set j (mk l[j] (k+cW cnt (l.take j)))=mkL cnt mk (l.take (j+1)) k ++ l.drop (j+1):=by
 rw[List.set_append_right _ _ (by simp;omega),List.take_succ_eq_append_getElem h,pO];simp[Nat.min_eq_left (Nat.le_of_lt h),mkL];rw[List.drop_eq_getElem_cons h];rfl
end
def tZ:Option Trm->List D
 | none=>[.v (.slice none 0 0),D.int 0]
 | some t=>tO t
theorem Gh (t:Option Trm):(tZ t).length=2:=by cases t <;> rfl
@[simp] theorem Kg (l:List (Option Trm)):(rows tZ l).length=2*l.length:=cn Gh l
theorem xH {α:Type} {f:α->List D} (hk:∀ x,(f x).length=2) (xs:List α) (i:Nat) (d0 d1:D) (y:α) (h:i < xs.length) (e:f y=[d0,d1]):((rows f xs).set (2*i) d0).set (2*i+1) d1=rows f (xs.set i y):=by
 induction xs generalizing i with
 | nil=>simp at h
 | cons x xs ih=>
  cases i with
  | zero=>
   have hx:=hk x
   match hfx:f x,hx with
   | [a,b],_=>simp[rows,hfx,e]
  | succ i=>
   have hx:=hk x;simp only[rows,List.set_cons_succ];rw[List.set_append_right _ _ (by rw[hx];omega),List.set_append_right _ _ (by rw[hx];omega),hx,show 2*(i+1) - 2=2*i by omega,show 2*(i+1)+1 - 2=2*i+1 by omega,ih i (by simpa using h)]
theorem C5 {α:Type} (xs:List α) (j:Nat) (h:j < xs.length) (z:α):(xs.take j ++ List.replicate (xs.length - j) z).set j xs[j]=xs.take (j+1) ++ List.replicate (xs.length - (j+1)) z:=by
 rw[List.set_append_right _ _ (by simp;omega),List.take_succ_eq_append_getElem h];simp only[List.length_take,Nat.min_eq_left (Nat.le_of_lt h),Nat.sub_self];rw[show xs.length - j=(xs.length - (j+1))+1 by omega,List.replicate_succ,List.set_cons_zero,List.append_assoc];rfl
end Go.Proofs.YtncfmemhjahpeaaGreat.Ab
namespace Go.Proofs.YtncfmemhjahpeaaGreat.Ab
open Go Go.ChangeShapes Go.WideShapes Go.ChangeAt Go.RowKit
structure Old (w w':World):Prop where
 os:w'.os=w.os
 out:w'.output=w.output
 size:w.heap.size<=w'.heap.size
 blk:∀ b,b < w.heap.size->w'.heap[b]? = w.heap[b]?
theorem Old.kept {w w':World} (h:Old w w') (may:MemPlace->Prop):w.keptBut w' may:=by
 refine⟨h.os,h.out,fun i hi=>?_⟩;rw[h.blk i hi]
 cases hh:w.heap[i]? with
 | none=>rfl
 | some o=>
  cases o with
  | cells c t fr=>exact⟨rfl,rfl,rfl,fun _ _=>rfl⟩
  | map es cl=>exact .inr ⟨rfl,rfl⟩
  | _=>rfl
theorem Old.froz {w w':World} (h:Old w w') (a:Addr) (ha:a.block < w.heap.size):w'.frozen? a=w.frozen? a:=by
 unfold World.frozen?;rw[h.blk a.block ha]
variable {H:Type} {enc:TypeId×Value->H} {P:Program}
theorem AC {f:Func} {s:ChangeSpec} {apart fresh handsOn again:Bool} {W W':World} {args:Array Value} {v:Value} {ds gs:List (DataW H)} {before pa pv:List MemPlace}
  (hW:DataW.Whole enc P f.params.toList s.vars apart W args.toList ds gs before)
  (hres:∀ (b:Nat) (sp:Nat->Bool) (hd:Bool),DataW.TrodAll enc P W' b sp hd f.resultTypes.toList (v.resultList f.resultTypes.size) (s.fn H (ds ++ gs)).results [])
  (hargs:∀ sp:Nat->Bool,(∀ p∈before,sp p.block=true)->DataW.TrodAll enc P W' 0 sp true f.params.toList args.toList (s.fn H (ds ++ gs)).args pa)
  (hvars:∀ sp:Nat->Bool,(∀ p∈before,sp p.block=true)->DataW.TrodVars enc P W' sp s.vars (s.fn H (ds ++ gs)).vars pv)
  (hps:before=pa ++ pv) (ho:Old W W')
  (hok:∀ (j:Nat) (t:TypeId) (r:Value),f.resultTypes[j]? = some t->(v.resultList f.resultTypes.size)[j]? = some r->Value.okWide P W' .any 0 t r) :
  s.post enc P f apart fresh handsOn again W args v W':=by
 have hlt:∀ p∈before,p.block < W.heap.size:=fun p hp=>hW.lt p hp;have hsp:∀ p∈before,(fun b=>decide (b < W.heap.size)) p.block=true:=fun p hp=>decide_eq_true (hlt p hp);have hall:∀ p∈before,(fun _:Nat=>true) p.block=true:=fun _ _=>rfl;have happ:[] ++ pa ++ pv=before:=by rw[hps];rfl
 refine⟨ds,gs,before,[],pa,pv,hW,hres _ _ _,hargs _ hsp,hvars _ hsp,ho.kept _,fun _=>⟨hok,_,_,[] ++ pa ++ pv,⟨[] ++ pa,pv,trodAll_append (hargs _ hall) (hres _ _ _),hvars _ hall,rfl,?_,?_⟩,?_⟩⟩
 ·obtain⟨_,_,_,_,_,hz,hn⟩:=hW;intro b off hp;rw[happ] at hp;rw[ho.froz _ (hlt _ hp)];exact hz b off hp
 ·obtain⟨_,_,_,_,_,hz,hn⟩:=hW;intro ha;rw[happ];exact hn ha
 ·intro p hp _;rw[happ] at hp;exact hp
end Go.Proofs.YtncfmemhjahpeaaGreat.Ab
