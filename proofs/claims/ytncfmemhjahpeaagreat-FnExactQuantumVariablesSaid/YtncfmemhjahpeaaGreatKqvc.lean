/- Arguments that are read as data: numbers, texts, slices and structs as trees over old blocks. Arguments of this program's laws, read as trees. Printed by wip/tools/gen.py: the numbers of functions and types, and what lives where. Small functions on numbers and lists of numbers: what they answer. Sums: their size, copies, what is equal, marks. Quantum sums as trees. Quantum sums: their size, copies, what is equal, marks. Sums as lists of keys with numbers: the descending list without zeros is told by the sum that belongs to each key. Division of sums by their greatest terms, over any keys: what it finds, what it keeps, and that it does not matter which of two tests it makes. Sums as linear maps: what a function on keys makes of a sum. Exponents as one number: the code is one to one, keeps the order, and goes with sums. Sums that are right; their coded terms; what products and sums come to. The reference's sums: which are right; codes and their decoding. The reference's coded terms: opened, multiplied, shut. Merging runs sorts; terms of one key that lie together are added. The reference's gathering: terms in order, those of one key added. The reference's products of coded terms. The reference's products and powers of sums. Printed by wip/tools/lay.py: the contracts of slices.SortFunc laid at this seat. slices.SortFunc in the calculus: from a contract over worlds to a contract over trees. The reference's powers of sums. The program's sums: what is right, keys, comparisons. Keys of the program's sums, and their building. The program's powers of sums, over its products. A map of padded exponents as a sum. The program's products of sums, over the end of a building. The end of a building, over a sort. The sort of terms by their exponents, greatest first, at this program. The program's sums: all contracts without a premise left. The program's sums of sums. Values of Laurent sums modulo a prime: they go with sums and products. Powers of sums: the program's are the reference's, fresh at each call. Seeds and sessions: what is equal, marks. The first seed and the first session, on both sides. Least exponents, denominators, numerators. Division of sums in variables: two ways to test whether to go on lead to the same. What a division keeps from step to step. Greatest exponents, sums of coded terms, division: the reference's side. Drawing: the cursor, numbers, exponents, sums. Drawing sums: what is drawn is right and small. Three drawn sums; what the laws compare. Division finds the factor of a product again, over any keys. Laurent sums: what was multiplied is found again by division; what is divided is multiplied again. Division by maps: the greatest key, and what a step does. Division: both sides. Division of the program's sums. What was multiplied is found again by division: the law. Drawn sums are a ring; values go with sums and products. Lists of lists of numbers as trees. Lists of lists of numbers: their size, copies, what is equal, marks. Quantum sums: the order of terms, which sums are right. Quantum sums: which are right, for the reference and for the program. Skew forms: which are right; what a form makes of two lists of exponents. No condition. -/
import Derived.Test.YtncfmemhjahpeaaGreatKqvb
import Derived.WalkKit
import Derived.ProofKit
import Derived.OpenShut
import Derived.Test.YtncfmemhjahpeaaGreatProg
import Derived.Test.YtncfmemhjahpeaaGreatKqva
import Derived.Shelf.SlLaysF0
import Derived.Shelf.SlSortCmp.InsertionK
import Derived.Shelf.SlSortFuncK.ComposeK
import Derived.Shelf.SlSortCmp.NoneTotal
set_option linter.unusedVariables false
set_option linter.unusedSimpArgs false
set_option linter.unusedSectionVars false
namespace Go.Proofs.YtncfmemhjahpeaaGreat.Ab
open Go Go.ChangeShapes Go.WideShapes Go.ChangeAt Go.RowKit
def lL (W:World):Nat->Prop:=fun b=>b < W.heap.size
theorem Am {W:World} {a:Addr} {v:Value} (h:W.cell? a=some v):lL W a.block:=by
 unfold World.cell? at h;split at h
 ·rename_i hh;unfold lL;rcases Nat.lt_or_ge a.block W.heap.size with h1 | h1
  ·exact h1
  ·rw[Array.getElem?_eq_none (by omega)] at hh;simp at hh
 ·simp at h
theorem AT {w:World} {ok:Nat->Prop} {b:Nat}:∀ {ds:List D} {us:List Value} {o:Nat},ShV w ok ds us->(∀ (j:Nat) (v:Value),us[j]? = some v->w.cell? ⟨b,o+j,none⟩ = some v)->ShL w ok b ds o
 | [],us,o,h,_=>by simp[ShL]
 | d :: ds,us,o,h,hc=>by
  simp only[ShV] at h;obtain⟨u,us',rfl,h1,h2⟩:=h;simp only[ShL];refine⟨⟨u,by simpa using hc 0 u rfl,h1⟩,AT h2 fun j v hj=>?_⟩;have:=hc (j+1) v (by simpa using hj)
  rwa [show o+1+j=o+(j+1) by omega]
theorem BA {w:World} {ok:Nat->Prop} {b:Nat}:∀ {ds es:List D} {o:Nat},ShL w ok b ds o->ShL w ok b es (o+ds.length)->ShL w ok b (ds ++ es) o
 | [],es,o,_,k=>by simpa using k
 | d :: ds,es,o,h,k=>by
  simp only[ShL] at h;simp only[List.cons_append,ShL];refine⟨h.1,BA h.2 ?_⟩;simp only[List.length_cons] at k
  rwa [show o+1+ds.length=o+(ds.length+1) by omega]
theorem yw {w:World} {ok:Nat->Prop} {b k:Nat} {α:Type} {f:α->List D} (hk:∀ x,(f x).length=k):∀ (l:List α) (o:Nat),(∀ i (h:i < l.length),ShL w ok b (f l[i]) (o+i*k))->ShL w ok b (rows f l) o
 | [],o,_=>by simp[rows,ShL]
 | x :: l,o,h=>by
  simp only[rows];refine BA (by have:=h 0 (by simp);simp only[List.getElem_cons_zero,Nat.zero_mul,Nat.add_zero] at this;exact this) ?_;rw[hk];refine yw hk l (o+k) fun i hi=>?_;have:=h (i+1) (by simpa using hi);simp only[List.getElem_cons_succ] at this
  rwa [show o+k+i*k=o+(i+1)*k by rw[Nat.add_mul,Nat.one_mul];omega]
section
variable {H:Type} {enc:TypeId×Value->H} {P:Program} {W:World}
structure fW (enc:TypeId×Value->H) (P:Program) (W:World) (t k:Nat) (α:Type) (f:α->List D) (G:α->Prop):Prop where
 cells:P.cellsOf t=k
 len:∀ a,(f a).length=k
 op:∀ (fuel:Nat) (cs:List Value) (x:DataW H×List MemPlace),DataW.trod enc P W 0 (fun _=>true) true fuel t cs=some x->(∀ n∈x.1.weights P t,n<=reachBytes)->∃ a:α,G a/\ShV W (lL W) (f a) cs
theorem fW.to {t k:Nat} {α β:Type} {f:α->List D} {G:α->Prop} (h:fW enc P W t k α f G) (g:α->β) {f':β->List D} {G':β->Prop} (hf:∀ a,f' (g a)=f a) (hl:∀ b,(f' b).length=k) (hG:∀ a,G a->G' (g a)):fW enc P W t k β f' G':=
 ⟨h.cells,hl,fun fuel cs x hx hw=>by
  obtain⟨a,h1,h2⟩:=h.op fuel cs x hx hw;exact⟨g a,hG a h1,by rw[hf];exact h2⟩⟩
def Ae (n:Int):Prop:=-9223372036854775808<=n/\n<=9223372036854775807
theorem fW.int {t:Nat} (ht:P.underlying t=some (.int .i64)) (hc:P.cellsOf t=1):fW enc P W t 1 Int (fun n=>[D.int n]) Ae:=
 ⟨hc,fun _=>rfl,fun fuel cs x hx _=>by
  obtain⟨n,rfl,rfl,hw⟩:=DataW.trod_int ht hx;exact⟨n,bounds_i64 hw,by simp[ShV,Sh]⟩⟩
theorem oM {e:Nat}:∀ {l:List (DataW H)} {d:DataW H},d∈l->∀ n∈d.weights P e,n∈DataW.weightsAll P e l
 | x :: l,d,hd,n,hn=>by
  simp only[DataW.weightsAll,List.mem_append];rcases List.mem_cons.1 hd with rfl | hd
  ·exact .inl hn
  ·exact .inr (oM hd n hn)
theorem xM {a:Addr} {k:Nat} {cs:List Value} (h:W.cells? 0 a k=some cs):cs.length=k/\∀ (j:Nat) (v:Value),cs[j]? = some v->W.cell? (a.add j)=some v:=by
 unfold World.cells? at h;rw[if_pos (Nat.zero_le _)] at h;have hl:=mapM_some_length h;simp only[List.length_range] at hl;refine⟨hl,fun j v hj=>?_⟩;have hj2:j < k:=by
  rw[<-hl];rcases Nat.lt_or_ge j cs.length with h1 | h1
  ·exact h1
  ·rw[List.getElem?_eq_none h1] at hj;simp at hj
 have:=mapM_some_get h j j (by simp[hj2]);rw[this,hj]
theorem fW.slice {t e k bs:Nat} {α:Type} {f:α->List D} {G:α->Prop} (h:fW enc P W e k α f G) (hk0:0 < k) (ht:P.underlying t=some (.slice e)) (hc:P.cellsOf t=1) (hb:P.bytesOf e=bs) :
  fW enc P W t 1 (List α) (fun l=>[.sh k l.length (rows f l)]) (fun l=>(∀ x∈l,G x)/\l.length*bs<=140737488351232):=
 ⟨hc,fun _=>rfl,fun fuel cs x hx hw=>by
  rcases DataW.trod_slice ht hx with ⟨rfl,rfl⟩ | ⟨a,len,cap,elems,rest,n,rfl,rfl,rfl,hb0,hlc,hcm,hel,hget,_,_⟩
  ·exact⟨[],by simp,by simp[ShV,Sh,rows]⟩
  ·have hwt:(elems.length+rest.length)*bs<=140737488351232:=by
    have:=hw ((elems.length+rest.length)*bs) (by simp[DataW.weights,ht,hb]);simpa[reachBytes] using this
   have hwe:∀ y∈elems,∀ n∈y.1.weights P e,n<=reachBytes:=fun y hy n hn=>by
    refine hw n ?_;simp only[DataW.weights,ht,List.mem_cons,List.mem_append];exact .inr (.inl (oM (List.mem_map.2 ⟨y,hy,rfl⟩) n hn))
   have key:∀ i:Fin len,∃ y:α,G y/\∃ cs,W.cells? 0 (a.add (i.1*k)) k=some cs/\ShV W (lL W) (f y) cs:=fun i=>by
    have h1:=hget i.1 i.2;rw[h.cells] at h1;have h2:i.1 < elems.length:=by rw[hel];exact i.2
    rw[List.getElem?_eq_getElem h2,Option.bind_eq_some_iff] at h1;obtain⟨cs,h3,h4⟩:=h1;obtain⟨y,h5,h6⟩:=h.op n cs _ h4 (hwe _ (List.getElem_mem h2));exact⟨y,h5,cs,h3,h6⟩
   let l:List α:=List.ofFn fun i:Fin len=>Classical.choose (key i)
   have hll:l.length=len:=by simp[l]
   have hlg:∀ i (hi:i < l.length),G l[i]/\∃ cs,W.cells? 0 (a.add (i*k)) k=some cs/\ShV W (lL W) (f l[i]) cs:=fun i hi=>by
    have:=Classical.choose_spec (key ⟨i,by omega⟩);simpa[l] using this
   refine⟨l,⟨fun x hx=>?_,?_⟩,?_⟩
   ·obtain⟨i,hi,rfl⟩:=List.getElem_of_mem hx;exact (hlg i hi).1
   ·rw[hll];rw[hel] at hwt;exact Nat.le_trans (Nat.mul_le_mul_right _ (by omega)) hwt
   ·simp only[ShV,Sh];refine⟨_,[],rfl,⟨some a,cap,by rw[hll],by omega,cn h.len l,?_⟩,rfl⟩;rcases Nat.eq_zero_or_pos l.length with hz | hp
    ·left
     rw[List.eq_nil_of_length_eq_zero hz];rfl
    ·right
     obtain⟨_,cs0,hc0,_⟩:=hlg 0 hp;obtain⟨hl0,hg0⟩:=xM hc0;have h00:cs0[0]? = some (cs0[0]'(by omega)):=List.getElem?_eq_getElem _;have hfirst:=hg0 0 _ h00;have hspot:a.spot=none:=by
      have:=World.cell?_spot hfirst;simpa[Addr.add] using this
     have hold:=Am hfirst;obtain⟨b,off,spot⟩:=a;simp only at hspot;subst hspot;refine⟨b,off,rfl,by simpa[Addr.add] using hold,yw h.len l off fun i hi=>?_⟩;obtain⟨_,csi,hci,hsi⟩:=hlg i hi;refine AT hsi fun j v hj=>?_;have:=(xM hci).2 j v hj
     rwa [Go.WideShapes.add_plain,Go.WideShapes.add_plain] at this⟩
theorem fW.struct3 {t t0 t1 t2 k0 k1 k2:Nat} {F0 F1 F2:Field} {α0 α1 α2:Type} {f0:α0->List D} {f1:α1->List D} {f2:α2->List D} {G0:α0->Prop} {G1:α1->Prop} {G2:α2->Prop} (h0:fW enc P W t0 k0 α0 f0 G0) (h1:fW enc P W t1 k1 α1 f1 G1) (h2:fW enc P W t2 k2 α2 f2 G2)
  (ht:P.underlying t=some (.struct #[F0,F1,F2])) (e0:F0.type=t0/\F0.offset=0) (e1:F1.type=t1/\F1.offset=k0) (e2:F2.type=t2/\F2.offset=k0+k1) (hc:P.cellsOf t=k0+k1+k2) :
  fW enc P W t (k0+k1+k2) (α0×α1×α2) (fun a=>f0 a.1 ++ f1 a.2.1 ++ f2 a.2.2) (fun a=>G0 a.1/\G1 a.2.1/\G2 a.2.2):=
 ⟨hc,fun a=>by simp[h0.len,h1.len,h2.len,Nat.add_assoc],fun fuel cs x hx hw=>by
  obtain⟨xs,n,rfl,rfl,hl,hxl,hg⟩:=DataW.trod_struct ht hx
  match xs,hxl with
  | [y0,y1,y2],_=>
  have g0:=hg 0 F0 rfl;have g1:=hg 1 F1 rfl;have g2:=hg 2 F2 rfl;rw[e0.1,e0.2,h0.cells] at g0;rw[e1.1,e1.2,h1.cells] at g1;rw[e2.1,e2.2,h2.cells] at g2;simp only[DataW.weights,ht,List.map_cons,List.map_nil,DataW.weightsEach,List.mem_append,e0.1,e1.1,e2.1] at hw;obtain⟨a0,p0,q0⟩:=h0.op n _ _ g0 (fun n hn=>hw n (.inl hn));obtain⟨a1,p1,q1⟩:=h1.op n _ _ g1 (fun n hn=>hw n (.inr (.inl hn)));obtain⟨a2,p2,q2⟩:=h2.op n _ _ g2 (fun n hn=>hw n (.inr (.inr (.inl hn))));refine⟨(a0,a1,a2),⟨p0,p1,p2⟩,?_⟩;have:=kX (kX q0 q1) q2;rw[hc] at hl
  rwa [List.drop_zero,List.take_of_length_le (l:=cs.drop (k0+k1)) (by simp;omega),<-List.drop_drop,List.append_assoc (List.take k0 cs),List.take_append_drop,List.take_append_drop] at this⟩
structure Arg (enc:TypeId×Value->H) (P:Program) (W:World) (t:Nat) (α:Type) (F:α->FV) (G:α->Prop):Prop where
 rec_:P.readableRec t=true
 row:t < P.types.size
 op:∀ (base:Nat) (v:Value) (d:DataW H) (p:List MemPlace),Value.okWide P W .any base t v->DataW.Trod enc P W 0 (fun _=>true) true t v d p->(∀ n∈d.weights P t,n<=reachBytes)->∃ a:α,G a/\∀ (σ:St) (ρ:Rn->Value),FR W (lL W) σ ρ (F a) v
def zN (P:Program) (t:TypeId):Bool:=
 match P.underlying t with
 | some (.int _)=>true
 | some .bool=>true
 | some .string=>true
 | some (.slice _)=>true
 | _=>false
theorem Av {t:TypeId} {base:Nat} {v:Value} (h:zN P t=true) (hv:Value.okWide P W .any base t v):v.cells = #[v]:=by
 unfold zN at h;unfold Value.okWide Cell.okWide Cell.ok at hv
 cases v <;> first | rfl | (split at h <;> simp_all)
theorem Arg.one {t:Nat} {α:Type} {f:α->D} {G:α->Prop} (h:fW enc P W t 1 α (fun a=>[f a]) G) (hr:P.readableRec t=true) (hrow:t < P.types.size) (hp:zN P t=true):Arg enc P W t α (fun a=>.d (f a)) G:=
 ⟨hr,hrow,fun base' v d p ho hd hw=>by
  obtain⟨fuel,hx⟩:=hd;obtain⟨a,h1,h2⟩:=h.op fuel _ _ hx hw;refine⟨a,h1,fun σ ρ=>?_⟩;rw[Av hp ho] at h2;simp only[ShV,List.cons.injEq] at h2;obtain⟨u,us,⟨rfl,rfl⟩,h3,_⟩:=h2;simpa only [FR] using h3⟩
theorem AR {w:World} {ok:Nat->Prop} {σ:St} {ρ:Rn->Value}:∀ {ds:List D} {us:List Value},ShV w ok ds us->FRL w ok σ ρ (ds.map .d) us
 | [],us,h=>by simpa[ShV,FRL] using h
 | d :: ds,us,h=>by
  simp only[ShV] at h;obtain⟨u,vs,rfl,h1,h2⟩:=h;simp only[List.map_cons,FRL];exact⟨u,vs,rfl,by simpa[FR] using h1,AR h2⟩
theorem Arg.agg {t k:Nat} {α:Type} {f:α->List D} {G:α->Prop} {fs:Array Field} (h:fW enc P W t k α f G) (hr:P.readableRec t=true) (hrow:t < P.types.size) (ht:P.underlying t=some (.struct fs)):Arg enc P W t α (fun a=>.ag ((f a).map .d)) G:=
 ⟨hr,hrow,fun base' v d p ho hd hw=>by
  obtain⟨fuel,hx⟩:=hd;obtain⟨a,h1,h2⟩:=h.op fuel _ _ hx hw;refine⟨a,h1,fun σ ρ=>?_⟩;unfold Value.okWide at ho;rw[ht] at ho;obtain⟨cs,rfl,_⟩:=ho;simp only[FR];exact⟨cs,rfl,AR h2⟩⟩
theorem lawW {f:Nat} {args:List FV} (h:af P f args [] true (fun outs res=>outs=[]/\res=[.one (D.bool true)])) {vs:List Value} (hv:∀ (σ:St) (ρ:Rn->Value),FRL W (lL W) σ ρ args vs) :
  Calls P f vs.toArray W fun e w'=>e = .returned (.bool true)/\Below W.heap.size W w':=by
 have hlen:∀ {σ:St} {ρ:Rn->Value} {aas:List FV} {us:List Value},FRL W (lL W) σ ρ aas us->us.length=aas.length/\∀ t,FR W (lL W) σ ρ (fL aas t) (us.getD t undef):=by
  intro σ ρ aas
  induction aas with
  | nil=>
   intro us h;simp only[FRL] at h;subst h;exact⟨rfl,fun t=>by simp[fL,FR]⟩
  | cons a aas ih=>
   intro us h;simp only[FRL] at h;obtain⟨u,vs,rfl,h1,h2⟩:=h;obtain⟨h3,h4⟩:=ih h2;refine⟨by simp[h3],fun t=>?_⟩
   cases t with
   | zero=>simpa[fL] using h1
   | succ t=>simpa[fL] using h4 t
 have:=h.2 W [] (lL W) vs (fun _=>undef) (fun _=>[]) (hlen (hv ⟨fun _=>.dead,fun _=>none⟩ (fun _=>undef))).1 ⟨fun r d hd=>by simp[ofR] at hd,fun r r' d d' _ hd=>by simp[ofR] at hd,(hlen (hv _ _)).2,fun b hb=>hb,de.refl W []⟩;refine Calls.mono this ?_;rintro e w' ⟨v,outs,res,ok',φ',fr,rfl,⟨rfl,rfl⟩,hd⟩;obtain⟨vs,e1,e2⟩:=hd.res;simp only[fj,j9,if_true] at e2;obtain⟨u,us,f1,f2,rfl,_,h1,h2,_⟩:=e2;subst h2;simp only[Ow] at h1;refine⟨?_,hd.frm.os,hd.frm.tape,hd.frm.out,hd.frm.size,fun b hb=>hd.frm.old b hb (by simp)⟩;rw[e1,h1.2];rfl
theorem pT (hl:laidOutB P=true) {W':World} (hb:Below W.heap.size W W') {sp:Nat->Bool}:∀ {ts:List TypeId} {vs:List Value} {ds:List (DataW H)} {p:List MemPlace},(∀ t∈ts,P.readableRec t=true/\t < P.types.size) ->
  DataW.TrodAll enc P W 0 (fun _=>true) true ts vs ds p->(∀ x∈p,x.block < W.heap.size)->(∀ x∈p,sp x.block=true)->DataW.TrodAll enc P W' 0 sp true ts vs ds p
 | [],[],[],p,_,h,_,_=>h
 | t :: ts,v :: vs,d :: ds,p,ht,h,h1,h2=>by
  obtain⟨p1,p2,h3,h4,rfl⟩:=h;have h5:=ht t (by simp);refine⟨p1,p2,WideElems.Trod_stays hl h5.1 h5.2 h3 (fun x hx=>hb.same (h1 x (by simp[hx]))) (fun x hx=>h2 x (by simp[hx])),pT hl hb (fun t ht'=>ht t (by simp[ht'])) h4 (fun x hx=>h1 x (by simp[hx])) (fun x hx=>h2 x (by simp[hx])),rfl⟩
 | [],_ :: _,_,_,_,h,_,_=>h.elim
 | [],[],_ :: _,_,_,h,_,_=>h.elim
 | _ :: _,[],_,_,_,h,_,_=>h.elim
 | _ :: _,_ :: _,[],_,_,h,_,_=>h.elim
theorem post_of_below (hl:laidOutB P=true) {f:Func} {s:ChangeSpec} {apart fresh handsOn again:Bool} {W':World} {args:Array Value} {ds gs:List (DataW H)} {before:List MemPlace}
  (hW:DataW.Whole enc P f.params.toList s.vars apart W args.toList ds gs before) (hv0:s.vars=[]) (hts:∀ t∈f.params.toList,P.readableRec t=true/\t < P.types.size)
  (hfn:s.fn H ds = { results:=[.lit (.bool true)],args:=ds }) {tb:TypeId} (hres:f.resultTypes = #[tb]) (htb:P.underlying tb=some .bool) (hb:Below W.heap.size W W') (hok:∀ W':World,Value.okWide P W' .any 0 tb (.bool true)) :
  s.post enc P f apart fresh handsOn again W args (.bool true) W':=by
 have hlt:∀ p∈before,p.block < W.heap.size:=fun p hp=>hW.lt p hp;have hW0:=hW;obtain⟨p,q,hA,hV,rfl,hz,hn⟩:=hW;rw[hv0] at hV;obtain⟨rfl,rfl⟩:=trodVars_none hV;simp only[List.append_nil] at hlt hz hn;have hfn2:s.fn H (ds ++ []) = { results:=[.lit (.bool true)],args:=ds }:=by rw[List.append_nil];exact hfn
 have hvar:∀ sp:Nat->Bool,DataW.TrodVars enc P W' sp s.vars [] []:=fun sp=>by rw[hv0];rfl
 have hr:∀ (b:Nat) (sp:Nat->Bool) (hd:Bool),DataW.TrodAll enc P W' b sp hd f.resultTypes.toList ((Value.bool true).resultList f.resultTypes.size) [.lit (.bool true)] []:=fun b sp hd=>by
  rw[hres];exact trodAll_cons_mk (p:=[]) (p':=[]) (shut_bool htb _) trodAll_mk0
 have ha:∀ sp:Nat->Bool,(∀ x∈p,sp x.block=true)->DataW.TrodAll enc P W' 0 sp true f.params.toList args.toList ds p:=fun sp hs=>pT hl hb hts hA hlt hs;exact AC (pa:=p) (pv:=[]) hW0 (fun b sp hd=>by rw[hfn2];exact hr b sp hd) (fun sp hs=>by rw[hfn2];exact ha sp fun x hx=>hs x (by simp[hx])) (fun sp _=>by rw[hfn2];exact hvar sp) rfl ⟨hb.os,hb.output,hb.size,hb.block⟩ (ok_one hres rfl (hok W'))
end
end Go.Proofs.YtncfmemhjahpeaaGreat.Ab
namespace Go.Proofs.YtncfmemhjahpeaaGreat.Ab
open Go Go.ChangeShapes Go.WideShapes Go.ChangeAt Go.RowKit
set_option maxRecDepth 100000
section
variable {H:Type} {enc:TypeId×Value->H} {W:World}
theorem Em (l:List Int):rows (fun n=>[D.int n]) l=ints l:=by
 induction l with
 | nil=>rfl
 | cons x l ih=>simp[rows,ih,ints]
theorem B4:fW enc Tryz.prog W 3 1 Int (fun n=>[D.int n]) Ae:=fW.int Tryz.underlying3 (by kernel_rfl)
def yh (l:List Int):Prop:=(∀ x∈l,Ae x)/\l.length*8<=140737488351232
theorem CR:fW enc Tryz.prog W 24 1 (List Int) (fun l=>[shI l]) yh:=
 (fW.slice B4 (by omega) Tryz.underlying24 (by kernel_rfl) (by kernel_rfl)).to id (fun l=>by simp[shI,Em]) (fun _=>rfl) (fun _ h=>⟨h.1,h.2⟩)
theorem argInts:Arg enc Tryz.prog W 24 (List Int) (fun l=>.d (shI l)) yh:=Arg.one CR (by kernel_rfl) (of_decide_eq_true (by kernel_rfl)) (by kernel_rfl)
theorem laidOut:laidOutB Tryz.prog=true:=by kernel_rfl
theorem okBool (W':World):Value.okWide Tryz.prog W' .any 0 4 (.bool true):=okWide_bool_mk Tryz.underlying4 _
end
end Go.Proofs.YtncfmemhjahpeaaGreat.Ab
namespace Go.Proofs.YtncfmemhjahpeaaGreat.Ab
open Go
def bf:TT:=[
 (2,⟨.int .i64,1,8,[.int .i64 0]⟩),
 (3,⟨.int .i64,1,8,[.int .i64 0]⟩),
 (4,⟨.bool,1,1,[.bool false]⟩),
 (5,⟨.int .u8,1,1,[.int .u8 0]⟩),
 (6,⟨.int .u8,1,1,[.int .u8 0]⟩),
 (9,⟨.str,1,16,[.string .empty]⟩),
 (22,⟨.sl 5,1,24,[.slice none 0 0]⟩),
 (24,⟨.sl 3,1,24,[.slice none 0 0]⟩),
 (26,⟨.st [(0,3),(1,3),(2,24)],3,40,[.int .i64 0,.int .i64 0,.slice none 0 0]⟩),
 (29,⟨.sl 47,1,24,[.slice none 0 0]⟩),
 (34,⟨.sl 42,1,24,[.slice none 0 0]⟩),
 (36,⟨.st [(0,26),(3,34)],4,64,[.int .i64 0,.int .i64 0,.slice none 0 0,.slice none 0 0]⟩),
 (40,⟨.sl 107,1,24,[.slice none 0 0]⟩),
 (42,⟨.st [(0,3),(1,40)],2,32,[.int .i64 0,.slice none 0 0]⟩),
 (45,⟨.sl 100,1,24,[.slice none 0 0]⟩),
 (47,⟨.st [(0,3),(1,45)],2,32,[.int .i64 0,.slice none 0 0]⟩),
 (56,⟨.st [(0,3),(1,3),(2,24)],3,40,[.int .i64 0,.int .i64 0,.slice none 0 0]⟩),
 (67,⟨.sl 24,1,24,[.slice none 0 0]⟩),
 (74,⟨.other,1,8,[.pointer none]⟩),
 (77,⟨.sl 67,1,24,[.slice none 0 0]⟩),
 (78,⟨.sl 26,1,24,[.slice none 0 0]⟩),
 (97,⟨.other,1,8,[.pointer none]⟩),
 (100,⟨.st [(0,24),(1,3),(2,3)],3,40,[.slice none 0 0,.int .i64 0,.int .i64 0]⟩),
 (103,⟨.arr 8 3,8,64,[.int .i64 0,.int .i64 0,.int .i64 0,.int .i64 0,.int .i64 0,.int .i64 0,.int .i64 0,.int .i64 0]⟩),
 (107,⟨.st [(0,24),(1,3)],2,32,[.slice none 0 0,.int .i64 0]⟩),
 (108,⟨.other,1,8,[.pointer none]⟩),
 (112,⟨.st [(0,103),(8,3)],9,72,[.int .i64 0,.int .i64 0,.int .i64 0,.int .i64 0,.int .i64 0,.int .i64 0,.int .i64 0,.int .i64 0,.int .i64 0]⟩),
 (124,⟨.st [(0,22),(1,3),(2,3)],3,40,[.slice none 0 0,.int .i64 0,.int .i64 0]⟩),
 (128,⟨.map 112 3,1,8,[.map none]⟩),
 (130,⟨.st [(0,3),(1,128)],2,16,[.int .i64 0,.map none]⟩),
 (143,⟨.map 103 3,1,8,[.map none]⟩),
 (145,⟨.st [(0,3),(1,143)],2,16,[.int .i64 0,.map none]⟩),
 (154,⟨.sl 45,1,24,[.slice none 0 0]⟩),
 (159,⟨.arr 2 42,4,64,[.int .i64 0,.slice none 0 0,.int .i64 0,.slice none 0 0]⟩),
 (173,⟨.int .u64,1,8,[.int .u64 0]⟩),
 (178,⟨.sl 9,1,24,[.slice none 0 0]⟩),
 (218,⟨.sl 227,1,24,[.slice none 0 0]⟩),
 (227,⟨.st [(0,3),(1,3)],2,16,[.int .i64 0,.int .i64 0]⟩)]
theorem tt2:bH bf 2=some ⟨.int .i64,1,8,[.int .i64 0]⟩:=rfl
theorem tt3:bH bf 3=some ⟨.int .i64,1,8,[.int .i64 0]⟩:=rfl
theorem tt4:bH bf 4=some ⟨.bool,1,1,[.bool false]⟩:=rfl
theorem tt5:bH bf 5=some ⟨.int .u8,1,1,[.int .u8 0]⟩:=rfl
theorem tt6:bH bf 6=some ⟨.int .u8,1,1,[.int .u8 0]⟩:=rfl
theorem tt9:bH bf 9=some ⟨.str,1,16,[.string .empty]⟩:=rfl
theorem Lj:bH bf 22=some ⟨.sl 5,1,24,[.slice none 0 0]⟩:=rfl
theorem Lv:bH bf 24=some ⟨.sl 3,1,24,[.slice none 0 0]⟩:=rfl
theorem Ly:bH bf 26=some ⟨.st [(0,3),(1,3),(2,24)],3,40,[.int .i64 0,.int .i64 0,.slice none 0 0]⟩:=rfl
theorem Mo:bH bf 29=some ⟨.sl 47,1,24,[.slice none 0 0]⟩:=rfl
theorem Lu:bH bf 34=some ⟨.sl 42,1,24,[.slice none 0 0]⟩:=rfl
theorem LJ:bH bf 36=some ⟨.st [(0,26),(3,34)],4,64,[.int .i64 0,.int .i64 0,.slice none 0 0,.slice none 0 0]⟩:=rfl
theorem KX:bH bf 40=some ⟨.sl 107,1,24,[.slice none 0 0]⟩:=rfl
theorem Mb:bH bf 42=some ⟨.st [(0,3),(1,40)],2,32,[.int .i64 0,.slice none 0 0]⟩:=rfl
theorem KI:bH bf 45=some ⟨.sl 100,1,24,[.slice none 0 0]⟩:=rfl
theorem Ky:bH bf 47=some ⟨.st [(0,3),(1,45)],2,32,[.int .i64 0,.slice none 0 0]⟩:=rfl
theorem LI:bH bf 56=some ⟨.st [(0,3),(1,3),(2,24)],3,40,[.int .i64 0,.int .i64 0,.slice none 0 0]⟩:=rfl
theorem KZ:bH bf 67=some ⟨.sl 24,1,24,[.slice none 0 0]⟩:=rfl
theorem KW:bH bf 74=some ⟨.other,1,8,[.pointer none]⟩:=rfl
theorem Mc:bH bf 77=some ⟨.sl 67,1,24,[.slice none 0 0]⟩:=rfl
theorem Li:bH bf 78=some ⟨.sl 26,1,24,[.slice none 0 0]⟩:=rfl
theorem Lf:bH bf 97=some ⟨.other,1,8,[.pointer none]⟩:=rfl
theorem H6:bH bf 100=some ⟨.st [(0,24),(1,3),(2,3)],3,40,[.slice none 0 0,.int .i64 0,.int .i64 0]⟩:=rfl
theorem HW:bH bf 103=some ⟨.arr 8 3,8,64,[.int .i64 0,.int .i64 0,.int .i64 0,.int .i64 0,.int .i64 0,.int .i64 0,.int .i64 0,.int .i64 0]⟩:=rfl
theorem IG:bH bf 107=some ⟨.st [(0,24),(1,3)],2,32,[.slice none 0 0,.int .i64 0]⟩:=rfl
theorem Hr:bH bf 108=some ⟨.other,1,8,[.pointer none]⟩:=rfl
theorem Hw:bH bf 112=some ⟨.st [(0,103),(8,3)],9,72,[.int .i64 0,.int .i64 0,.int .i64 0,.int .i64 0,.int .i64 0,.int .i64 0,.int .i64 0,.int .i64 0,.int .i64 0]⟩:=rfl
theorem H8:bH bf 124=some ⟨.st [(0,22),(1,3),(2,3)],3,40,[.slice none 0 0,.int .i64 0,.int .i64 0]⟩:=rfl
theorem Hz:bH bf 128=some ⟨.map 112 3,1,8,[.map none]⟩:=rfl
theorem Il:bH bf 130=some ⟨.st [(0,3),(1,128)],2,16,[.int .i64 0,.map none]⟩:=rfl
theorem Ip:bH bf 143=some ⟨.map 103 3,1,8,[.map none]⟩:=rfl
theorem Iw:bH bf 145=some ⟨.st [(0,3),(1,143)],2,16,[.int .i64 0,.map none]⟩:=rfl
theorem IP:bH bf 154=some ⟨.sl 45,1,24,[.slice none 0 0]⟩:=rfl
theorem Hb:bH bf 159=some ⟨.arr 2 42,4,64,[.int .i64 0,.slice none 0 0,.int .i64 0,.slice none 0 0]⟩:=rfl
theorem JK:bH bf 173=some ⟨.int .u64,1,8,[.int .u64 0]⟩:=rfl
theorem Hc:bH bf 178=some ⟨.sl 9,1,24,[.slice none 0 0]⟩:=rfl
theorem JX:bH bf 218=some ⟨.sl 227,1,24,[.slice none 0 0]⟩:=rfl
theorem JN:bH bf 227=some ⟨.st [(0,3),(1,3)],2,16,[.int .i64 0,.int .i64 0]⟩:=rfl
attribute [simp] tt2 tt3 tt4 tt5 tt6 tt9 Lj Lv Ly Mo Lu LJ KX Mb KI Ky LI KZ KW Mc Li Lf H6 HW IG Hr Hw H8 Hz Il Ip Iw IP Hb JK Hc JX JN
def MM:List (Nat×List Bool):=[(29,[true,false]),(30,[true,false]),(31,[true,false]),(39,[true]),(60,[true,false,false]),(62,[true]),(65,[true,false,false]),(66,[true]),(67,[true,false]),(68,[true,false,false]),(77,[true,false]),(115,[true,false]),(118,[true,false]),(120,[true,false]),(121,[true,true]),(122,[true,false]),(145,[true,false]),(153,[true,true,false,false,false,false]),(156,[true,false]),(157,[true]),(189,[true,false])]
theorem mm0:aA [] MM 0=[]:=rfl
theorem mm1:aA [] MM 1=[]:=rfl
theorem mm2:aA [] MM 2=[]:=rfl
theorem mm3:aA [] MM 3=[]:=rfl
theorem mm4:aA [] MM 4=[]:=rfl
theorem mm5:aA [] MM 5=[]:=rfl
theorem mm6:aA [] MM 6=[]:=rfl
theorem mm7:aA [] MM 7=[]:=rfl
theorem mm8:aA [] MM 8=[]:=rfl
theorem mm9:aA [] MM 9=[]:=rfl
theorem Ln:aA [] MM 10=[]:=rfl
theorem K6:aA [] MM 11=[]:=rfl
theorem L6:aA [] MM 12=[]:=rfl
theorem K7:aA [] MM 13=[]:=rfl
theorem Mw:aA [] MM 14=[]:=rfl
theorem LC:aA [] MM 15=[]:=rfl
theorem KT:aA [] MM 16=[]:=rfl
theorem LE:aA [] MM 17=[]:=rfl
theorem Lg:aA [] MM 18=[]:=rfl
theorem KO:aA [] MM 19=[]:=rfl
theorem L4:aA [] MM 20=[]:=rfl
theorem LT:aA [] MM 21=[]:=rfl
theorem Lt:aA [] MM 22=[]:=rfl
theorem Mi:aA [] MM 23=[]:=rfl
theorem LK:aA [] MM 24=[]:=rfl
theorem Lh:aA [] MM 25=[]:=rfl
theorem Mz:aA [] MM 26=[]:=rfl
theorem KY:aA [] MM 27=[]:=rfl
theorem LV:aA [] MM 28=[]:=rfl
theorem LW:aA [] MM 29=[true,false]:=rfl
theorem Lz:aA [] MM 30=[true,false]:=rfl
theorem K0:aA [] MM 31=[true,false]:=rfl
theorem Lx:aA [] MM 32=[]:=rfl
theorem Ld:aA [] MM 33=[]:=rfl
theorem K3:aA [] MM 34=[]:=rfl
theorem LB:aA [] MM 35=[]:=rfl
theorem KM:aA [] MM 36=[]:=rfl
theorem Mm:aA [] MM 37=[]:=rfl
theorem LX:aA [] MM 38=[]:=rfl
theorem L1:aA [] MM 39=[true]:=rfl
theorem KB:aA [] MM 40=[]:=rfl
theorem Mr:aA [] MM 41=[]:=rfl
theorem Mt:aA [] MM 42=[]:=rfl
theorem LN:aA [] MM 43=[]:=rfl
theorem Lr:aA [] MM 44=[]:=rfl
theorem LF:aA [] MM 45=[]:=rfl
theorem KK:aA [] MM 46=[]:=rfl
theorem Mn:aA [] MM 47=[]:=rfl
theorem Lb:aA [] MM 48=[]:=rfl
theorem KS:aA [] MM 49=[]:=rfl
theorem K5:aA [] MM 50=[]:=rfl
theorem K8:aA [] MM 51=[]:=rfl
theorem LO:aA [] MM 52=[]:=rfl
theorem Ms:aA [] MM 53=[]:=rfl
theorem KC:aA [] MM 54=[]:=rfl
theorem Mx:aA [] MM 55=[]:=rfl
theorem LZ:aA [] MM 56=[]:=rfl
theorem LP:aA [] MM 57=[]:=rfl
theorem Mp:aA [] MM 58=[]:=rfl
theorem KF:aA [] MM 59=[]:=rfl
theorem LM:aA [] MM 60=[true,false,false]:=rfl
theorem KR:aA [] MM 61=[]:=rfl
theorem Mk:aA [] MM 62=[true]:=rfl
theorem Mq:aA [] MM 63=[]:=rfl
theorem Lm:aA [] MM 64=[]:=rfl
theorem LD:aA [] MM 65=[true,false,false]:=rfl
theorem Md:aA [] MM 66=[true]:=rfl
theorem Kx:aA [] MM 67=[true,false]:=rfl
theorem LA:aA [] MM 68=[true,false,false]:=rfl
theorem L9:aA [] MM 69=[]:=rfl
theorem La:aA [] MM 70=[]:=rfl
theorem K9:aA [] MM 71=[]:=rfl
theorem Lw:aA [] MM 72=[]:=rfl
theorem KE:aA [] MM 73=[]:=rfl
theorem LS:aA [] MM 74=[]:=rfl
theorem KU:aA [] MM 75=[]:=rfl
theorem LH:aA [] MM 76=[]:=rfl
theorem Le:aA [] MM 77=[true,false]:=rfl
theorem My:aA [] MM 78=[]:=rfl
theorem Lk:aA [] MM 79=[]:=rfl
theorem MA:aA [] MM 80=[]:=rfl
theorem KH:aA [] MM 81=[]:=rfl
theorem Lq:aA [] MM 82=[]:=rfl
theorem KD:aA [] MM 83=[]:=rfl
theorem LU:aA [] MM 84=[]:=rfl
theorem KJ:aA [] MM 85=[]:=rfl
theorem KQ:aA [] MM 86=[]:=rfl
theorem Mf:aA [] MM 87=[]:=rfl
theorem Ma:aA [] MM 88=[]:=rfl
theorem KP:aA [] MM 89=[]:=rfl
theorem K2:aA [] MM 90=[]:=rfl
theorem LG:aA [] MM 91=[]:=rfl
theorem Lc:aA [] MM 92=[]:=rfl
theorem L8:aA [] MM 93=[]:=rfl
theorem Kw:aA [] MM 94=[]:=rfl
theorem Kz:aA [] MM 95=[]:=rfl
theorem KN:aA [] MM 96=[]:=rfl
theorem L3:aA [] MM 97=[]:=rfl
theorem LY:aA [] MM 98=[]:=rfl
theorem KG:aA [] MM 99=[]:=rfl
theorem IV:aA [] MM 100=[]:=rfl
theorem IC:aA [] MM 101=[]:=rfl
theorem II:aA [] MM 102=[]:=rfl
theorem I0:aA [] MM 103=[]:=rfl
theorem HG:aA [] MM 104=[]:=rfl
theorem JB:aA [] MM 105=[]:=rfl
theorem Jt:aA [] MM 106=[]:=rfl
theorem HD:aA [] MM 107=[]:=rfl
theorem Iq:aA [] MM 108=[]:=rfl
theorem Hj:aA [] MM 109=[]:=rfl
theorem Ir:aA [] MM 110=[]:=rfl
theorem JG:aA [] MM 111=[]:=rfl
theorem IM:aA [] MM 112=[]:=rfl
theorem IF:aA [] MM 113=[]:=rfl
theorem IZ:aA [] MM 114=[]:=rfl
theorem HO:aA [] MM 115=[true,false]:=rfl
theorem Jd:aA [] MM 116=[]:=rfl
theorem Id:aA [] MM 117=[]:=rfl
theorem I7:aA [] MM 118=[true,false]:=rfl
theorem Ia:aA [] MM 119=[]:=rfl
theorem Jx:aA [] MM 120=[true,false]:=rfl
theorem IX:aA [] MM 121=[true,true]:=rfl
theorem Hn:aA [] MM 122=[true,false]:=rfl
theorem Jq:aA [] MM 123=[]:=rfl
theorem IO:aA [] MM 124=[]:=rfl
theorem HP:aA [] MM 125=[]:=rfl
theorem J2:aA [] MM 126=[]:=rfl
theorem IN:aA [] MM 127=[]:=rfl
theorem Ic:aA [] MM 128=[]:=rfl
theorem H7:aA [] MM 129=[]:=rfl
theorem Iv:aA [] MM 130=[]:=rfl
theorem HE:aA [] MM 131=[]:=rfl
theorem Jy:aA [] MM 132=[]:=rfl
theorem H1:aA [] MM 133=[]:=rfl
theorem Iu:aA [] MM 134=[]:=rfl
theorem IK:aA [] MM 135=[]:=rfl
theorem Jz:aA [] MM 136=[]:=rfl
theorem HB:aA [] MM 137=[]:=rfl
theorem IJ:aA [] MM 138=[]:=rfl
theorem Ja:aA [] MM 139=[]:=rfl
theorem Hm:aA [] MM 140=[]:=rfl
theorem Jl:aA [] MM 141=[]:=rfl
theorem Ij:aA [] MM 142=[]:=rfl
theorem JE:aA [] MM 143=[]:=rfl
theorem JF:aA [] MM 144=[]:=rfl
theorem J8:aA [] MM 145=[true,false]:=rfl
theorem Hx:aA [] MM 146=[]:=rfl
theorem Iy:aA [] MM 147=[]:=rfl
theorem Jo:aA [] MM 148=[]:=rfl
theorem JI:aA [] MM 149=[]:=rfl
theorem Ik:aA [] MM 150=[]:=rfl
theorem Ie:aA [] MM 151=[]:=rfl
theorem Jk:aA [] MM 152=[]:=rfl
theorem Hg:aA [] MM 153=[true,true,false,false,false,false]:=rfl
theorem In:aA [] MM 154=[]:=rfl
theorem JU:aA [] MM 155=[]:=rfl
theorem IU:aA [] MM 156=[true,false]:=rfl
theorem HQ:aA [] MM 157=[true]:=rfl
theorem HN:aA [] MM 158=[]:=rfl
theorem Jj:aA [] MM 159=[]:=rfl
theorem Ht:aA [] MM 160=[]:=rfl
theorem Ho:aA [] MM 161=[]:=rfl
theorem J1:aA [] MM 162=[]:=rfl
theorem HA:aA [] MM 163=[]:=rfl
theorem Hp:aA [] MM 164=[]:=rfl
theorem HH:aA [] MM 165=[]:=rfl
theorem Is:aA [] MM 166=[]:=rfl
theorem Hf:aA [] MM 167=[]:=rfl
theorem HC:aA [] MM 168=[]:=rfl
theorem HR:aA [] MM 169=[]:=rfl
theorem Hl:aA [] MM 170=[]:=rfl
theorem Jv:aA [] MM 171=[]:=rfl
theorem HF:aA [] MM 172=[]:=rfl
theorem J6:aA [] MM 173=[]:=rfl
theorem IB:aA [] MM 174=[]:=rfl
theorem Ji:aA [] MM 175=[]:=rfl
theorem HY:aA [] MM 176=[]:=rfl
theorem Jg:aA [] MM 177=[]:=rfl
theorem Jp:aA [] MM 178=[]:=rfl
theorem JR:aA [] MM 179=[]:=rfl
theorem HS:aA [] MM 180=[]:=rfl
theorem Hq:aA [] MM 181=[]:=rfl
theorem Jr:aA [] MM 182=[]:=rfl
theorem J5:aA [] MM 183=[]:=rfl
theorem Im:aA [] MM 184=[]:=rfl
theorem Jc:aA [] MM 185=[]:=rfl
theorem Jm:aA [] MM 186=[]:=rfl
theorem Kb:aA [] MM 187=[]:=rfl
theorem ID:aA [] MM 188=[]:=rfl
theorem JH:aA [] MM 189=[true,false]:=rfl
theorem J0:aA [] MM 190=[]:=rfl
theorem Jw:aA [] MM 191=[]:=rfl
theorem HU:aA [] MM 192=[]:=rfl
theorem Hd:aA [] MM 193=[]:=rfl
theorem Je:aA [] MM 194=[]:=rfl
theorem JL:aA [] MM 195=[]:=rfl
theorem I3:aA [] MM 196=[]:=rfl
theorem Hk:aA [] MM 197=[]:=rfl
theorem Hv:aA [] MM 198=[]:=rfl
theorem IT:aA [] MM 199=[]:=rfl
theorem Ig:aA [] MM 200=[]:=rfl
theorem It:aA [] MM 201=[]:=rfl
theorem JW:aA [] MM 202=[]:=rfl
theorem H4:aA [] MM 203=[]:=rfl
theorem Iz:aA [] MM 204=[]:=rfl
theorem JC:aA [] MM 205=[]:=rfl
theorem Jb:aA [] MM 206=[]:=rfl
theorem I9:aA [] MM 207=[]:=rfl
theorem Hs:aA [] MM 208=[]:=rfl
theorem HV:aA [] MM 209=[]:=rfl
theorem IA:aA [] MM 210=[]:=rfl
theorem I1:aA [] MM 211=[]:=rfl
theorem J4:aA [] MM 212=[]:=rfl
theorem HM:aA [] MM 213=[]:=rfl
theorem If:aA [] MM 214=[]:=rfl
theorem Ix:aA [] MM 215=[]:=rfl
theorem G8:aA [] MM 216=[]:=rfl
theorem G7:aA [] MM 217=[]:=rfl
theorem G6:aA [] MM 218=[]:=rfl
theorem J3:aA [] MM 219=[]:=rfl
theorem H3:aA [] MM 220=[]:=rfl
theorem H9:aA [] MM 221=[]:=rfl
theorem HT:aA [] MM 222=[]:=rfl
theorem JS:aA [] MM 223=[]:=rfl
theorem JP:aA [] MM 224=[]:=rfl
theorem HL:aA [] MM 225=[]:=rfl
theorem Hy:aA [] MM 226=[]:=rfl
theorem JQ:aA [] MM 227=[]:=rfl
theorem J7:aA [] MM 228=[]:=rfl
theorem I2:aA [] MM 229=[]:=rfl
theorem IL:aA [] MM 230=[]:=rfl
theorem Ih:aA [] MM 231=[]:=rfl
theorem JJ:aA [] MM 232=[]:=rfl
theorem Jf:aA [] MM 233=[]:=rfl
attribute [simp] mm0 mm1 mm2 mm3 mm4 mm5 mm6 mm7 mm8 mm9 Ln K6 L6 K7 Mw LC KT LE Lg KO L4 LT Lt Mi LK Lh Mz KY LV LW Lz K0 Lx Ld K3 LB KM Mm LX L1 KB Mr Mt LN Lr LF KK Mn Lb KS K5 K8 LO Ms KC Mx LZ LP Mp KF LM KR Mk Mq Lm LD Md Kx LA L9 La K9 Lw KE LS KU LH Le My Lk MA KH Lq KD LU KJ KQ Mf Ma KP K2 LG Lc L8 Kw Kz KN L3 LY KG IV IC II I0 HG JB Jt HD Iq Hj Ir JG IM IF IZ HO Jd Id I7 Ia Jx IX Hn Jq IO HP J2 IN Ic H7 Iv HE Jy H1 Iu IK Jz HB IJ Ja Hm Jl Ij JE JF J8 Hx Iy Jo JI Ik Ie Jk Hg In JU IU HQ HN Jj Ht Ho J1 HA Hp HH Is Hf HC HR Hl Jv HF J6 IB Ji HY Jg Jp JR HS Hq Jr J5 Im Jc Jm Kb ID JH J0 Jw HU Hd Je JL I3 Hk Hv IT Ig It JW H4 Iz JC Jb I9 Hs HV IA I1 J4 HM If Ix G8 G7 G6 J3 H3 H9 HT JS JP HL Hy JQ J7 I2 IL Ih JJ Jf
namespace F
abbrev ac:Nat:=5
abbrev am:Nat:=9
abbrev aN:Nat:=10
abbrev az:Nat:=13
abbrev du:Nat:=23
abbrev dx:Nat:=24
abbrev ef:Nat:=25
abbrev cE:Nat:=26
abbrev cJ:Nat:=27
abbrev c9:Nat:=28
abbrev dV:Nat:=29
abbrev dt:Nat:=30
abbrev cC:Nat:=31
abbrev cw:Nat:=32
abbrev aE:Nat:=33
abbrev cG:Nat:=37
abbrev bQ:Nat:=40
abbrev iD:Nat:=41
abbrev fU:Nat:=42
abbrev aO:Nat:=43
abbrev aW:Nat:=44
abbrev ad:Nat:=45
abbrev ce:Nat:=46
abbrev cS:Nat:=47
abbrev bt:Nat:=52
abbrev bJ:Nat:=53
abbrev cD:Nat:=54
abbrev gE:Nat:=55
abbrev aH:Nat:=56
abbrev aR:Nat:=57
abbrev aX:Nat:=58
abbrev hY:Nat:=61
abbrev fG:Nat:=64
abbrev db:Nat:=65
abbrev bk:Nat:=66
abbrev dK:Nat:=72
abbrev fk:Nat:=75
abbrev dC:Nat:=76
abbrev cb:Nat:=77
abbrev b8:Nat:=78
abbrev aV:Nat:=79
abbrev br:Nat:=80
abbrev bg:Nat:=81
abbrev cm:Nat:=82
abbrev aq:Nat:=83
abbrev cK:Nat:=84
abbrev aC:Nat:=85
abbrev aP:Nat:=86
abbrev cX:Nat:=87
abbrev dN:Nat:=88
abbrev eW:Nat:=89
abbrev ik:Nat:=90
abbrev eF:Nat:=91
abbrev bN:Nat:=92
abbrev av:Nat:=93
abbrev bo:Nat:=99
abbrev cP:Nat:=100
abbrev a8:Nat:=101
abbrev bz:Nat:=102
abbrev bZ:Nat:=103
abbrev bn:Nat:=104
abbrev je:Nat:=105
abbrev aJ:Nat:=106
abbrev kg:Nat:=107
abbrev aS:Nat:=108
abbrev cA:Nat:=109
abbrev bL:Nat:=110
abbrev bv:Nat:=111
abbrev cr:Nat:=112
abbrev jn:Nat:=113
abbrev aG:Nat:=114
abbrev aY:Nat:=117
abbrev eB:Nat:=118
abbrev cF:Nat:=119
abbrev cq:Nat:=125
abbrev dw:Nat:=126
abbrev gC:Nat:=127
abbrev dy:Nat:=128
abbrev bS:Nat:=129
abbrev cv:Nat:=130
abbrev fE:Nat:=131
abbrev eU:Nat:=132
abbrev ie:Nat:=133
abbrev bu:Nat:=139
abbrev aw:Nat:=140
abbrev aU:Nat:=141
abbrev aT:Nat:=142
abbrev dz:Nat:=143
abbrev cI:Nat:=144
abbrev dS:Nat:=145
abbrev aD:Nat:=146
abbrev bF:Nat:=147
abbrev aB:Nat:=148
abbrev dE:Nat:=158
abbrev cR:Nat:=161
abbrev gW:Nat:=162
abbrev bE:Nat:=163
abbrev bG:Nat:=165
abbrev jH:Nat:=166
abbrev fX:Nat:=167
abbrev da:Nat:=168
abbrev bK:Nat:=169
abbrev bP:Nat:=170
abbrev eA:Nat:=193
end F
namespace C
noncomputable def je:Ctx:={ P:=Tryz.prog,T:=bf,M:=MM,nW:=0,kp:=[(0,[0]),(1,[2])],lp:=[],pl:=[] }
noncomputable def dK:Ctx:={ P:=Tryz.prog,T:=bf,M:=MM,nW:=0,kp:=[(0,[1,2]),(1,[2])],lp:=[],pl:=[(1,.take 0 (.take 1 (.take 2 (.take 3 (.take 4 (.take 5 (.all [(6,.take 7 (.all [(8,.done)]))])))))))] }
noncomputable def jn:Ctx:={ P:=Tryz.prog,T:=bf,M:=MM,nW:=0,kp:=[(0,[0,1,2]),(1,[6])],lp:=[],pl:=[] }
noncomputable def dE:Ctx:={ P:=Tryz.prog,T:=bf,M:=MM,nW:=0,kp:=[(0,[0,1]),(1,[0,1,5]),(2,[0,1,5,15]),(3,[0,1,5]),(4,[0,1,5,26]),(5,[4]),(6,[4])],lp:=[(0,[0,1,5])],pl:=[(4,.take 0 (.take 1 (.take 2 (.take 3 (.take 4 (.take 5 (.take 6 (.take 7 (.take 8 (.done)))))))))),(5,.take 0 (.take 1 (.take 2 (.take 3 (.take 4 (.take 5 (.take 6 (.take 7 (.take 8 (.take 9 (.done)))))))))))] }
noncomputable def gE:Ctx:={ P:=Tryz.prog,T:=bf,M:=MM,nW:=0,kp:=[(0,[0,1]),(1,[1,5]),(2,[5]),(3,[4])],lp:=[],pl:=[] }
noncomputable def ik:Ctx:={ P:=Tryz.prog,T:=bf,M:=MM,nW:=0,kp:=[(0,[0,1,2]),(1,[6])],lp:=[],pl:=[] }
noncomputable def bE:Ctx:={ P:=Tryz.prog,T:=bf,M:=MM,nW:=0,kp:=[(0,[0,1]),(1,[0,1,7,8]),(2,[0,1,7,8,9]),(3,[0,1,5,7,8]),(4,[0,1,5,7,8,16]),(5,[4]),(6,[0,1,7,8]),(7,[4])],lp:=[(0,[0,1,7,8])],pl:=[] }
noncomputable def cv:Ctx:={ P:=Tryz.prog,T:=bf,M:=MM,nW:=0,kp:=[(0,[0,1]),(1,[4])],lp:=[],pl:=[] }
noncomputable def eU:Ctx:={ P:=Tryz.prog,T:=bf,M:=MM,nW:=0,kp:=[(0,[0]),(1,[2])],lp:=[],pl:=[] }
noncomputable def bN:Ctx:={ P:=Tryz.prog,T:=bf,M:=MM,nW:=0,kp:=[(0,[1]),(1,[2])],lp:=[],pl:=[] }
noncomputable def fU:Ctx:={ P:=Tryz.prog,T:=bf,M:=MM,nW:=0,kp:=[(0,[1,2,3]),(1,[6])],lp:=[],pl:=[] }
noncomputable def ie:Ctx:={ P:=Tryz.prog,T:=bf,M:=MM,nW:=0,kp:=[(0,[0,1]),(1,[0,1,6]),(2,[0,1]),(3,[4])],lp:=[(0,[0,1])],pl:=[(2,.take 0 (.take 1 (.take 2 (.take 3 (.take 4 (.take 5 (.done)))))))] }
noncomputable def av:Ctx:={ P:=Tryz.prog,T:=bf,M:=MM,nW:=0,kp:=[(0,[1]),(1,[1,3,4]),(2,[1,3,4,5]),(3,[1,3,4,5,34,35]),(4,[1,3,4,5,34,35,36]),(5,[1,3,4,5,6,34,35]),(6,[1,3,4,5,6,34,35,42]),(7,[1,3,4,5,6,34,35]),(8,[1,3,4,5,7,34,35]),(9,[1,3,4,5,7,8,34,35]),(10,[1,3,4,5,7,8,34,35,54]),(11,[1,3,4,5,7,8,34,35]),(12,[1,3,4,5,7,8,9,34,35]),(13,[1,3,4,5,7,8,9,34,35,62,63]),(14,[1,3,4,5,7,8,9,34,35,62,63,64]),(15,[1,3,4,5,7,8,9,10,34,35,62,63]),(16,[1,3,4,5,7,8,9,10,11,12,34,35,62,63]),(17,[1,3,4,5,7,8,9,10,11,12,34,35,62,63,80]),(18,[1,3,4,5,7,8,9,10,11,12,34,35,62,63,98]),(19,[2]),(20,[1,3,4,5,7,8,9,10,13,14,34,35,62,63]),(21,[1,3,4,5,7,8,9,10,13,14,15,34,35,62,63]),(22,[1,3,4,5,7,8,9,10,13,14,34,35,62,63]),(23,[1,3,4,5,7,8,9,10,13,14,34,35,62,63,130]),(24,[1,3,4,5,7,8,9,10,34,35,62,63]),(25,[1,3,4,5,7,8,9,34,35,62,63]),(26,[1,3,4,5,7,8,9,34,35,62,63,156]),(27,[2]),(28,[1,3,4,5,7,8,9,34,35,62,63]),(29,[1,3,4,5,7,16,34,35]),(30,[1,3,4,5,7,16,34,35,158,159,160]),(31,[1,3,4,5,7,16,34,35,158,159,160,161]),(32,[1,3,4,5,7,16,18,34,35,158,159,160]),(33,[1,3,4,5,7,16,34,35,158,159,160]),(34,[1,3,4,5,7,16,34,35,158,159,160]),(35,[1,3,4,5,7,16,19,34,35]),(36,[1,3,4,5,7,16,19,34,35,178,179,180]),(37,[1,3,4,5,7,16,19,34,35,178,179,180,181]),(38,[1,3,4,5,7,16,19,21,34,35,178,179,180]),(39,[1,3,4,5,7,16,19,21,34,35,178,179,180]),(40,[1,3,4,5,7,16,19,34,35,178,179,180]),(41,[1,3,4,5,7,16,19,34,35,178,179,180]),(42,[1,3,4,5,19,34,35,205,206,207]),(43,[1,3,4,5,19,34,35,205,206,207,208]),(44,[1,3,4,5,19,23,34,35,205,206,207]),(45,[1,3,4,5,19,34,35,205,206,207]),(46,[1,3,4,5,19,34,35,205,206,207]),(47,[1,3,4,5,34,35]),(48,[2])],lp:=[(0,[1,3,4,5,34,35]),(2,[1,3,4,5,7,8,34,35]),(4,[1,3,4,5,7,8,9,34,35,62,63]),(6,[1,3,4,5,7,16,34,35,158,159,160]),(8,[1,3,4,5,7,16,19,34,35,178,179,180]),(10,[1,3,4,5,19,34,35,205,206,207])],pl:=[(1,.take 0 (.take 1 (.take 3 (.take 4 (.all [(2,.take 6 (.all [(5,.take 7 (.done))])),(5,.all [(2,.take 6 (.take 7 (.done)))])]))))),(16,.take 0 (.take 1 (.take 2 (.take 4 (.take 5 (.take 6 (.all [(3,.all [(7,.take 8 (.take 9 (.take 10 (.done))))])]))))))),(20,.take 0 (.take 1 (.take 2 (.take 3 (.take 4 (.take 5 (.take 6 (.take 7 (.take 8 (.take 9 (.take 10 (.take 11 (.take 12 (.take 13 (.take 14 (.take 15 (.take 16 (.take 17 (.take 18 (.take 19 (.done))))))))))))))))))))),(22,.take 0 (.take 1 (.take 2 (.take 3 (.take 4 (.take 5 (.take 6 (.take 7 (.done))))))))),(33,.take 0 (.take 1 (.take 2 (.take 3 (.take 4 (.take 5 (.take 8 (.take 9 (.take 10 (.take 11 (.all [(6,.take 7 (.take 12 (.take 13 (.done))))]))))))))))),(39,.take 0 (.take 1 (.take 2 (.take 3 (.take 4 (.take 5 (.take 6 (.take 7 (.take 8 (.take 9 (.take 10 (.take 11 (.take 12 (.take 13 (.all [(14,.done)])))))))))))))))] }
noncomputable def ce:Ctx:={ P:=Tryz.prog,T:=bf,M:=MM,nW:=0,kp:=[(0,[1]),(1,[2])],lp:=[],pl:=[] }
noncomputable def cS:Ctx:={ P:=Tryz.prog,T:=bf,M:=MM,nW:=0,kp:=[(0,[0]),(1,[0,4]),(2,[2]),(3,[2])],lp:=[],pl:=[] }
noncomputable def iD:Ctx:={ P:=Tryz.prog,T:=bf,M:=MM,nW:=0,kp:=[(0,[0,1]),(1,[1,5]),(2,[5]),(3,[4])],lp:=[],pl:=[] }
noncomputable def fE:Ctx:={ P:=Tryz.prog,T:=bf,M:=MM,nW:=0,kp:=[(0,[0]),(1,[2])],lp:=[],pl:=[] }
noncomputable def eW:Ctx:={ P:=Tryz.prog,T:=bf,M:=MM,nW:=0,kp:=[(0,[0,1]),(1,[4])],lp:=[],pl:=[] }
noncomputable def c9:Ctx:={ P:=Tryz.prog,T:=bf,M:=MM,nW:=0,kp:=[(0,[0,1]),(1,[0,1,10]),(2,[4]),(3,[0,1,5]),(4,[0,1,5,14]),(5,[0,1,5]),(6,[0,1,5,25]),(7,[4]),(8,[4])],lp:=[(0,[0,1,5])],pl:=[(6,.take 0 (.take 1 (.take 2 (.take 3 (.take 4 (.take 5 (.take 6 (.take 7 (.take 8 (.done))))))))))] }
noncomputable def cJ:Ctx:={ P:=Tryz.prog,T:=bf,M:=MM,nW:=0,kp:=[(0,[2,3]),(1,[2,3,9]),(2,[4]),(3,[2,3,14]),(4,[4]),(5,[20]),(6,[4]),(7,[4])],lp:=[],pl:=[] }
noncomputable def dt:Ctx:={ P:=Tryz.prog,T:=bf,M:=MM,nW:=1,kp:=[(0,[0,1]),(1,[0,1,5]),(2,[0,1,5,9]),(3,[0,1,5]),(4,[0,1,5]),(5,[0,1,5]),(6,[4])],lp:=[(0,[0,1,5])],pl:=[] }
noncomputable def dV:Ctx:={ P:=Tryz.prog,T:=bf,M:=MM,nW:=1,kp:=[(0,[1,2]),(1,[1]),(2,[4])],lp:=[],pl:=[] }
noncomputable def dw:Ctx:={ P:=Tryz.prog,T:=bf,M:=MM,nW:=0,kp:=[(0,[0,1]),(1,[0,1,5]),(2,[0,1,5,9]),(3,[0,1,5]),(4,[0,1,5,17]),(5,[4]),(6,[0,1,5]),(7,[4])],lp:=[(0,[0,1,5])],pl:=[] }
noncomputable def da:Ctx:={ P:=Tryz.prog,T:=bf,M:=MM,nW:=0,kp:=[(0,[0,1]),(1,[0,1,10]),(2,[4]),(3,[0,1,5]),(4,[0,1,5,14]),(5,[0,1,5]),(6,[0,1,5,25]),(7,[4]),(8,[4])],lp:=[(0,[0,1,5])],pl:=[(6,.take 0 (.take 1 (.take 2 (.take 3 (.take 4 (.take 5 (.take 6 (.take 7 (.take 8 (.done))))))))))] }
noncomputable def fk:Ctx:={ P:=Tryz.prog,T:=bf,M:=MM,nW:=0,kp:=[(0,[0,1]),(1,[1]),(2,[1,10]),(3,[4]),(4,[4])],lp:=[],pl:=[] }
noncomputable def ef:Ctx:={ P:=Tryz.prog,T:=bf,M:=MM,nW:=0,kp:=[(0,[0]),(1,[0,3]),(2,[0,3,4]),(3,[0,3,4,11]),(4,[0,3,4]),(5,[0,3,4]),(6,[2])],lp:=[(0,[0,3,4])],pl:=[] }
noncomputable def gW:Ctx:={ P:=Tryz.prog,T:=bf,M:=MM,nW:=0,kp:=[(0,[0]),(1,[2])],lp:=[],pl:=[] }
noncomputable def bS:Ctx:={ P:=Tryz.prog,T:=bf,M:=MM,nW:=0,kp:=[(0,[0,1]),(1,[0,1,5]),(2,[0,1,5,6]),(3,[0,1,6,11]),(4,[12]),(5,[4]),(6,[4]),(7,[0,1,13]),(8,[4]),(9,[0,1,16]),(10,[4]),(11,[19]),(12,[4]),(13,[4])],lp:=[],pl:=[] }
noncomputable def aY:Ctx:={ P:=Tryz.prog,T:=bf,M:=MM,nW:=0,kp:=[(0,[0,1]),(1,[0,1,9,10,11]),(2,[0,1,9,10,11,12]),(3,[0,1,5,6,9,10,11]),(4,[0,1,5,6,9,10,11,19]),(5,[4]),(6,[0,1,6,7,9,10,11]),(7,[0,1,8,9,10,11]),(8,[0,1,8,9,10,11,28]),(9,[4]),(10,[0,1,9,10,11]),(11,[35]),(12,[4]),(13,[4])],lp:=[(0,[0,1,9,10,11])],pl:=[] }
noncomputable def eF:Ctx:={ P:=Tryz.prog,T:=bf,M:=MM,nW:=0,kp:=[(0,[0]),(1,[2])],lp:=[],pl:=[] }
noncomputable def dN:Ctx:={ P:=Tryz.prog,T:=bf,M:=MM,nW:=0,kp:=[(0,[1,3,5,6]),(1,[1,3,5,6,8]),(2,[1,3,5,6,8,9]),(3,[1,3,5,6,7,8]),(4,[1,3,5,6,8]),(5,[1,3,5,6,8]),(6,[6])],lp:=[(0,[1,3,5,6,8])],pl:=[(4,.take 0 (.take 1 (.take 2 (.take 3 (.take 4 (.take 5 (.take 6 (.take 7 (.take 8 (.take 9 (.all [(10,.done)])))))))))))] }
noncomputable def hY:Ctx:={ P:=Tryz.prog,T:=bf,M:=MM,nW:=0,kp:=[(0,[0,2]),(1,[0,2,3]),(2,[2,3]),(3,[2])],lp:=[],pl:=[] }
noncomputable def cR:Ctx:={ P:=Tryz.prog,T:=bf,M:=MM,nW:=0,kp:=[(0,[2,3]),(1,[2,3,10]),(2,[4]),(3,[2,3,15]),(4,[4]),(5,[20]),(6,[4]),(7,[4])],lp:=[],pl:=[] }
noncomputable def cq:Ctx:={ P:=Tryz.prog,T:=bf,M:=MM,nW:=0,kp:=[(0,[0,1]),(1,[0,1,10]),(2,[4]),(3,[0,1,5]),(4,[0,1,5,14]),(5,[0,1,5]),(6,[0,1,5,26]),(7,[4]),(8,[4])],lp:=[(0,[0,1,5])],pl:=[(6,.take 0 (.take 1 (.take 2 (.take 3 (.take 4 (.take 5 (.take 6 (.take 7 (.all [(8,.take 9 (.done))])))))))))] }
noncomputable def dC:Ctx:={ P:=Tryz.prog,T:=bf,M:=MM,nW:=0,kp:=[(0,[2,3]),(1,[2,3,9]),(2,[4]),(3,[15]),(4,[4]),(5,[4])],lp:=[],pl:=[] }
noncomputable def cb:Ctx:={ P:=Tryz.prog,T:=bf,M:=MM,nW:=1,kp:=[(0,[0,1]),(1,[0,1,5]),(2,[0,1,5,9]),(3,[0,1,5]),(4,[0,1,5]),(5,[0,1,5]),(6,[0,1,5]),(7,[0,1,5]),(8,[0,1,5]),(9,[4])],lp:=[(0,[0,1,5])],pl:=[] }
noncomputable def b8:Ctx:={ P:=Tryz.prog,T:=bf,M:=MM,nW:=0,kp:=[(0,[0,1]),(1,[0,1,5]),(2,[0,1,5,9]),(3,[0,1,5]),(4,[0,1,5]),(5,[0,1,5,20]),(6,[4]),(7,[0,1,5,27]),(8,[4]),(9,[0,1,5]),(10,[0,1,5,36]),(11,[4]),(12,[0,1,5]),(13,[4])],lp:=[(0,[0,1,5])],pl:=[] }
noncomputable def dy:Ctx:={ P:=Tryz.prog,T:=bf,M:=MM,nW:=0,kp:=[(0,[0]),(1,[0,3]),(2,[3,6,7,8]),(3,[3,6,7,8,9]),(4,[3,5,6,7,8]),(5,[3,5,6,7,8,14]),(6,[2]),(7,[3,6,7,8]),(8,[2])],lp:=[(0,[3,6,7,8])],pl:=[] }
noncomputable def cX:Ctx:={ P:=Tryz.prog,T:=bf,M:=MM,nW:=0,kp:=[(0,[0,1,2,3]),(1,[8])],lp:=[],pl:=[] }
noncomputable def aX:Ctx:={ P:=Tryz.prog,T:=bf,M:=MM,nW:=0,kp:=[(0,[1]),(1,[1,14]),(2,[2]),(3,[1,16,17,18]),(4,[1,16,17,18,19]),(5,[1,3,4,16,17,18]),(6,[1,3,4,16,17,18,40]),(7,[2]),(8,[1,16,17,18,64]),(9,[2]),(10,[1,16,17,18]),(11,[2])],lp:=[(0,[1,16,17,18])],pl:=[(8,.take 0 (.take 1 (.take 2 (.take 3 (.take 4 (.take 5 (.take 6 (.take 7 (.take 8 (.take 9 (.take 10 (.take 11 (.take 12 (.take 13 (.take 14 (.take 15 (.take 16 (.take 17 (.take 18 (.take 19 (.take 20 (.all [(21,.take 22 (.take 23 (.done)))]))))))))))))))))))))))] }
noncomputable def dz:Ctx:={ P:=Tryz.prog,T:=bf,M:=MM,nW:=0,kp:=[(0,[2,3]),(1,[2,3,10]),(2,[4]),(3,[4])],lp:=[],pl:=[] }
noncomputable def aJ:Ctx:={ P:=Tryz.prog,T:=bf,M:=MM,nW:=0,kp:=[(0,[1]),(1,[1,15]),(2,[2]),(3,[1,3]),(4,[1,3,20]),(5,[1,3]),(6,[1,3,4]),(7,[1,3,4,65]),(8,[2]),(9,[1,3,4,5]),(10,[1,3,4,5,69]),(11,[1,3,4,5]),(12,[1,3,4,5,78]),(13,[2]),(14,[2])],lp:=[(0,[1,3]),(2,[1,3,4,5])],pl:=[(7,.take 0 (.take 1 (.take 2 (.take 3 (.take 4 (.take 5 (.take 6 (.take 7 (.take 8 (.take 9 (.take 10 (.take 11 (.take 12 (.take 13 (.all [(14,.take 15 (.take 16 (.take 17 (.take 18 (.take 19 (.all [(20,.take 21 (.take 22 (.take 23 (.take 24 (.take 25 (.take 26 (.take 27 (.take 28 (.take 29 (.take 30 (.take 31 (.take 32 (.take 33 (.all [(34,.take 35 (.take 36 (.take 37 (.done))))]))))))))))))))]))))))])))))))))))))))] }
noncomputable def dS:Ctx:={ P:=Tryz.prog,T:=bf,M:=MM,nW:=1,kp:=[(0,[0,1,4]),(1,[4,6]),(2,[4,6,12]),(3,[4,5]),(4,[4,5])],lp:=[],pl:=[] }
noncomputable def aD:Ctx:={ P:=Tryz.prog,T:=bf,M:=MM,nW:=0,kp:=[(0,[0]),(1,[3]),(2,[3,4]),(3,[3,4,22]),(4,[3,4]),(5,[3,4,5]),(6,[3,4,5,6]),(7,[3,4,5,6,31]),(8,[3,4,5,6]),(9,[3,4,5,6,7]),(10,[3,4,5,6,7,8]),(11,[3,4,5,6,7,8,9]),(12,[3,4,5,6,7,8,9,10]),(13,[3,4,5,6,7,8,9,10,58]),(14,[3,4,5,6,7,8,9,10,78]),(15,[3,4,5,6,7,8,9,10]),(16,[3,4,5,6,7,8,9,10]),(17,[3,4,5,6,7,8,9,10]),(18,[3,4,5,6,7,8,9,10]),(19,[3,4]),(20,[3,11]),(21,[3,11,12]),(22,[3,11,12,102]),(23,[3,11,12]),(24,[3,11,12,13]),(25,[3,11,12,13,136]),(26,[3,11,12]),(27,[3,11,12]),(28,[11,14]),(29,[11,14,15]),(30,[11,14,15,178]),(31,[11,14,15]),(32,[11,14,15,186]),(33,[11,14,15]),(34,[2])],lp:=[(0,[3,4]),(2,[3,4,5,6]),(4,[3,4,5,6,7,8,9,10]),(6,[3,11,12]),(8,[11,14,15])],pl:=[(14,.take 0 (.take 1 (.take 2 (.take 3 (.take 4 (.take 5 (.take 6 (.take 7 (.take 8 (.take 9 (.take 10 (.take 11 (.take 12 (.take 13 (.take 14 (.take 15 (.all [(16,.take 17 (.take 18 (.take 19 (.done))))]))))))))))))))))),(25,.take 0 (.take 1 (.take 2 (.take 3 (.take 4 (.take 5 (.take 6 (.take 7 (.take 8 (.take 9 (.take 10 (.take 11 (.take 12 (.take 13 (.take 14 (.take 15 (.take 16 (.take 17 (.take 18 (.take 19 (.take 20 (.take 21 (.take 22 (.take 23 (.take 24 (.take 25 (.take 26 (.take 27 (.all [(28,.take 29 (.done))]))))))))))))))))))))))))))))),(26,.take 0 (.take 1 (.take 2 (.take 3 (.take 4 (.take 5 (.take 6 (.take 7 (.take 8 (.take 9 (.take 10 (.take 11 (.take 12 (.take 13 (.take 14 (.take 15 (.take 16 (.all [(17,.done)])))))))))))))))))),(27,.take 0 (.take 1 (.take 2 (.take 3 (.take 4 (.take 5 (.take 7 (.take 8 (.take 9 (.take 10 (.take 11 (.take 12 (.take 13 (.take 14 (.take 15 (.take 16 (.all [(6,.take 17 (.all [(18,.all [(19,.take 20 (.done))])]))])))))))))))))))))] }
noncomputable def bL:Ctx:={ P:=Tryz.prog,T:=bf,M:=MM,nW:=0,kp:=[(0,[2,3,4]),(1,[2,3,4,20]),(2,[4,5]),(3,[4,5])],lp:=[],pl:=[(3,.take 1 (.take 2 (.take 4 (.take 8 (.all [(0,.all [(3,.take 5 (.all [(6,.take 9 (.all [(7,.all [(10,.take 11 (.take 12 (.all [(13,.take 14 (.done))])))])])),(9,.all [(6,.all [(7,.all [(10,.take 11 (.take 12 (.all [(13,.take 14 (.done))])))])])])])),(5,.all [(3,.all [(6,.take 9 (.all [(7,.all [(10,.take 11 (.take 12 (.all [(13,.take 14 (.done))])))])])),(9,.all [(6,.all [(7,.all [(10,.take 11 (.take 12 (.all [(13,.take 14 (.done))])))])])])]),(9,.all [(3,.all [(6,.all [(7,.all [(10,.take 11 (.take 12 (.all [(13,.take 14 (.done))])))])])])])]),(9,.all [(3,.take 5 (.all [(6,.all [(7,.all [(10,.take 11 (.take 12 (.all [(13,.take 14 (.done))])))])])])),(5,.all [(3,.all [(6,.all [(7,.all [(10,.take 11 (.take 12 (.all [(13,.take 14 (.done))])))])])])])])]),(5,.all [(0,.all [(3,.all [(6,.take 9 (.all [(7,.all [(10,.take 11 (.take 12 (.all [(13,.take 14 (.done))])))])])),(9,.all [(6,.all [(7,.all [(10,.take 11 (.take 12 (.all [(13,.take 14 (.done))])))])])])]),(9,.all [(3,.all [(6,.all [(7,.all [(10,.take 11 (.take 12 (.all [(13,.take 14 (.done))])))])])])])]),(9,.all [(0,.all [(3,.all [(6,.all [(7,.all [(10,.take 11 (.take 12 (.all [(13,.take 14 (.done))])))])])])])])]),(9,.all [(0,.all [(3,.take 5 (.all [(6,.all [(7,.all [(10,.take 11 (.take 12 (.all [(13,.take 14 (.done))])))])])])),(5,.all [(3,.all [(6,.all [(7,.all [(10,.take 11 (.take 12 (.all [(13,.take 14 (.done))])))])])])])]),(5,.all [(0,.all [(3,.all [(6,.all [(7,.all [(10,.take 11 (.take 12 (.all [(13,.take 14 (.done))])))])])])])])])])))))] }
noncomputable def fG:Ctx:={ P:=Tryz.prog,T:=bf,M:=MM,nW:=0,kp:=[(0,[0]),(1,[2])],lp:=[],pl:=[] }
noncomputable def gC:Ctx:={ P:=Tryz.prog,T:=bf,M:=MM,nW:=0,kp:=[(0,[0,1]),(1,[0,1,6]),(2,[0,1]),(3,[0,1]),(4,[0,1,16]),(5,[0]),(6,[4])],lp:=[],pl:=[] }
noncomputable def aC:Ctx:={ P:=Tryz.prog,T:=bf,M:=MM,nW:=0,kp:=[(0,[0]),(1,[0,3]),(2,[0,3,9,10,11]),(3,[0,3,9,10,11,12]),(4,[0,3,5,9,10,11]),(5,[0,3,9,10,11]),(6,[0,3,9,10,11,20]),(7,[0,3,9,10,11]),(8,[0,3,9,10,11]),(9,[0,6]),(10,[6,25,26,27]),(11,[6,25,26,27,28]),(12,[6,8,25,26,27]),(13,[6,25,26,27]),(14,[6,25,26,27]),(15,[2])],lp:=[(0,[0,3,9,10,11]),(2,[6,25,26,27])],pl:=[] }
noncomputable def db:Ctx:={ P:=Tryz.prog,T:=bf,M:=MM,nW:=1,kp:=[(0,[0,2,4]),(1,[0,2,4]),(2,[0,2,4,15]),(3,[]),(4,[])],lp:=[],pl:=[(1,.take 0 (.take 1 (.take 2 (.take 3 (.take 4 (.take 5 (.take 6 (.take 7 (.take 8 (.done)))))))))),(3,.take 0 (.take 1 (.take 2 (.take 3 (.take 4 (.all [(5,.done)])))))),(4,.take 0 (.take 1 (.take 2 (.take 3 (.take 4 (.take 5 (.all [(6,.done)])))))))] }
noncomputable def eB:Ctx:={ P:=Tryz.prog,T:=bf,M:=MM,nW:=0,kp:=[(0,[0,1,4]),(1,[])],lp:=[],pl:=[] }
noncomputable def cF:Ctx:={ P:=Tryz.prog,T:=bf,M:=MM,nW:=0,kp:=[(0,[2,3]),(1,[4])],lp:=[],pl:=[] }
noncomputable def bk:Ctx:={ P:=Tryz.prog,T:=bf,M:=MM,nW:=1,kp:=[(0,[0,2]),(1,[0,2,12]),(2,[2,3]),(3,[0,2,4]),(4,[0,2,4,23]),(5,[0,2,4,23,25]),(6,[0,2,4,5,6,23]),(7,[0,2,4,23]),(8,[2,4]),(9,[2,4,50]),(10,[2,3]),(11,[2,3])],lp:=[(0,[0,2,4,23])],pl:=[(7,.take 0 (.take 1 (.take 2 (.take 3 (.take 4 (.take 5 (.take 6 (.take 7 (.take 9 (.take 10 (.take 11 (.all [(8,.take 12 (.all [(13,.all [(14,.take 15 (.all [(16,.done)]))])]))]))))))))))))] }
noncomputable def aW:Ctx:={ P:=Tryz.prog,T:=bf,M:=MM,nW:=0,kp:=[(0,[2,3,4]),(1,[2,3,4,23]),(2,[4,5]),(3,[2,3,4,6]),(4,[4,6,33,34,35]),(5,[4,6,33,34,35,36]),(6,[4,6,8,33,34,35]),(7,[4,6,33,34,35]),(8,[4,6,33,34,35]),(9,[4,5])],lp:=[(0,[4,6,33,34,35])],pl:=[(7,.take 0 (.take 1 (.take 2 (.take 4 (.take 5 (.take 7 (.take 8 (.all [(3,.take 6 (.all [(9,.done)]))]))))))))],fb:=[32] }
noncomputable def cK:Ctx:={ P:=Tryz.prog,T:=bf,M:=MM,nW:=0,kp:=[(0,[0,1,2]),(1,[0,1,2,7]),(2,[1,2,7,12,13,14]),(3,[1,2,7,12,13,14,15]),(4,[1,2,7,8,9,12,13,14]),(5,[1,2,7,8,12,13,14,19,20,21]),(6,[1,2,7,8,12,13,14,19,20,21,22]),(7,[1,2,7,8,10,11,12,13,14,19,20,21]),(8,[1,2,7,8,12,13,14,19,20,21]),(9,[1,2,7,8,12,13,14,19,20,21]),(10,[1,2,7,12,13,14]),(11,[6])],lp:=[(0,[1,2,7,12,13,14]),(2,[1,2,7,8,12,13,14,19,20,21])],pl:=[(8,.take 0 (.take 1 (.take 2 (.take 3 (.take 4 (.take 5 (.take 6 (.take 7 (.take 8 (.take 9 (.take 10 (.take 11 (.take 12 (.take 13 (.done)))))))))))))))] }
noncomputable def br:Ctx:={ P:=Tryz.prog,T:=bf,M:=MM,nW:=0,kp:=[(0,[0]),(1,[0,3]),(2,[0,3,13]),(3,[2]),(4,[0,3,14,15,16]),(5,[0,3,14,15,16,17]),(6,[0,3,5,14,15,16]),(7,[0,3,14,15,16,23]),(8,[2]),(9,[0,3,14,15,16]),(10,[0,26,27]),(11,[0,26,27,28]),(12,[0,6,26,27]),(13,[0,6,26,27,33,34,35]),(14,[0,6,26,27,33,34,35,36]),(15,[0,6,7,8,26,27,33,34,35]),(16,[0,6,26,27,33,34,35,54]),(17,[2]),(18,[0,6,26,27,33,34,35]),(19,[0,26,27]),(20,[2])],lp:=[(0,[0,3,14,15,16]),(2,[0,26,27]),(4,[0,6,26,27,33,34,35])],pl:=[] }
noncomputable def aP:Ctx:={ P:=Tryz.prog,T:=bf,M:=MM,nW:=0,kp:=[(0,[0,4,5]),(1,[6])],lp:=[],pl:=[] }
noncomputable def bg:Ctx:={ P:=Tryz.prog,T:=bf,M:=MM,nW:=0,kp:=[(0,[0,4,5,6]),(1,[0,4,5,6,17]),(2,[6,7]),(3,[0,4,5,6,8]),(4,[0,5,6,8,23,24,25]),(5,[0,5,6,8,23,24,25,26]),(6,[0,5,6,8,10,23,24,25]),(7,[0,5,6,8,10,23,24,25,30,31,32]),(8,[0,5,6,8,10,23,24,25,30,31,32,33]),(9,[0,5,6,8,10,12,23,24,25,30,31,32]),(10,[0,5,6,8,10,23,24,25,30,31,32]),(11,[0,5,6,8,10,23,24,25,30,31,32]),(12,[0,5,6,8,23,24,25]),(13,[6,7])],lp:=[(0,[0,5,6,8,23,24,25]),(2,[0,5,6,8,10,23,24,25,30,31,32])],pl:=[(10,.take 0 (.take 1 (.take 2 (.take 4 (.take 5 (.take 8 (.take 9 (.take 10 (.take 11 (.take 12 (.take 13 (.take 14 (.take 15 (.take 16 (.take 17 (.take 21 (.take 22 (.take 23 (.take 24 (.take 25 (.all [(3,.all [(6,.all [(7,.all [(18,.take 19 (.take 20 (.all [(26,.done)])))])])])])))))))))))))))))))))] }
noncomputable def bz:Ctx:={ P:=Tryz.prog,T:=bf,M:=MM,nW:=0,kp:=[(0,[0]),(1,[0,3]),(2,[0,3,11]),(3,[2]),(4,[0,3,4]),(5,[0,3,4,14]),(6,[0,3,4]),(7,[0,3,4,23]),(8,[2]),(9,[0,3,5]),(10,[0,3,5,26]),(11,[0,3,5]),(12,[0,3,5,6]),(13,[0,3,5,6,31]),(14,[0,3,5,6]),(15,[0,3,5,6,60]),(16,[2]),(17,[2])],lp:=[(0,[0,3,4]),(2,[0,3,5]),(4,[0,3,5,6])],pl:=[(15,.take 0 (.take 1 (.take 2 (.take 3 (.take 4 (.take 5 (.take 6 (.all [(7,.take 8 (.take 9 (.take 10 (.take 11 (.take 12 (.take 13 (.take 14 (.take 15 (.take 16 (.take 17 (.take 18 (.take 19 (.take 20 (.take 21 (.take 22 (.take 23 (.take 24 (.take 25 (.take 26 (.done))))))))))))))))))))]))))))))] }
noncomputable def bF:Ctx:={ P:=Tryz.prog,T:=bf,M:=MM,nW:=0,kp:=[(0,[0,4,5]),(1,[6])],lp:=[],pl:=[] }
noncomputable def cA:Ctx:={ P:=Tryz.prog,T:=bf,M:=MM,nW:=0,kp:=[(0,[0,1,2]),(1,[0,1,2,7]),(2,[0,1,2,7,8]),(3,[0,1,2,7,8,13]),(4,[0,1,2,7,8]),(5,[0,1,2,7,8,9]),(6,[0,1,2,7,8,9,19]),(7,[0,1,2,7,8,9]),(8,[0,1,2,7,8,9]),(9,[6])],lp:=[(0,[0,1,2,7,8]),(2,[0,1,2,7,8,9])],pl:=[(8,.take 0 (.take 1 (.take 2 (.take 3 (.take 4 (.take 5 (.take 6 (.take 7 (.take 8 (.take 9 (.take 10 (.take 11 (.take 12 (.take 13 (.take 14 (.take 15 (.take 16 (.take 17 (.take 18 (.take 19 (.done)))))))))))))))))))))] }
noncomputable def bK:Ctx:={ P:=Tryz.prog,T:=bf,M:=MM,nW:=0,kp:=[(0,[0,1,2]),(1,[0,1,2,7]),(2,[0,1,2,7,8]),(3,[0,1,2,7,8,21]),(4,[0,1,2,7,8]),(5,[0,1,2,7,8,9]),(6,[0,1,2,7,8,9,27]),(7,[0,1,2,7,8,9]),(8,[0,1,2,7,8,9,10]),(9,[0,1,2,7,8,9,10,11]),(10,[0,1,2,7,8,9,10,11,34]),(11,[0,1,2,7,8,9,10,11]),(12,[0,1,2,7,8,9,10,11]),(13,[0,1,2,7,8,9]),(14,[6])],lp:=[(0,[0,1,2,7,8]),(2,[0,1,2,7,8,9]),(4,[0,1,2,7,8,9,10,11])],pl:=[(12,.take 0 (.take 1 (.take 2 (.take 3 (.take 4 (.take 5 (.take 6 (.take 7 (.take 8 (.take 9 (.take 10 (.take 11 (.take 12 (.take 13 (.take 14 (.take 15 (.take 16 (.take 17 (.all [(18,.all [(19,.take 20 (.done))])]))))))))))))))))))),(13,.take 0 (.take 1 (.take 2 (.take 3 (.take 4 (.take 5 (.take 6 (.take 7 (.take 8 (.take 9 (.take 10 (.take 11 (.take 12 (.take 13 (.take 14 (.take 15 (.take 16 (.take 17 (.take 18 (.take 19 (.take 20 (.take 21 (.take 22 (.take 23 (.take 26 (.take 27 (.take 28 (.take 29 (.take 30 (.take 31 (.take 32 (.take 33 (.take 34 (.take 35 (.take 36 (.all [(24,.take 25 (.take 37 (.all [(38,.all [(39,.take 40 (.done))])])))]))))))))))))))))))))))))))))))))))))] }
noncomputable def cI:Ctx:={ P:=Tryz.prog,T:=bf,M:=MM,nW:=0,kp:=[(0,[0,4,5,6]),(1,[0,4,5,6,12]),(2,[6,7]),(3,[6,7])],lp:=[],pl:=[(3,.take 0 (.take 1 (.take 2 (.take 3 (.take 4 (.take 6 (.take 7 (.all [(5,.all [(8,.take 9 (.take 10 (.all [(11,.take 12 (.done))])))])]))))))))] }
noncomputable def bP:Ctx:={ P:=Tryz.prog,T:=bf,M:=MM,nW:=0,kp:=[(0,[0]),(1,[0,4,5]),(2,[0,4,5,6]),(3,[0,4,5,6,21]),(4,[0,4,5,6]),(5,[0,4,5,6,7]),(6,[0,4,5,6,7,27]),(7,[0,4,5,6,7]),(8,[0,4,5,6,7]),(9,[0,4,5,6,7]),(10,[2,3])],lp:=[(0,[0,4,5,6]),(2,[0,4,5,6,7])],pl:=[(1,.take 0 (.take 1 (.take 2 (.take 3 (.take 5 (.take 6 (.take 7 (.take 8 (.all [(4,.all [(9,.take 10 (.take 11 (.done)))])]))))))))),(8,.take 0 (.take 1 (.take 2 (.take 3 (.take 4 (.take 5 (.take 6 (.take 7 (.take 8 (.take 9 (.take 10 (.take 11 (.take 12 (.take 13 (.take 14 (.take 15 (.all [(16,.done)]))))))))))))))))),(9,.take 0 (.take 1 (.take 2 (.take 3 (.take 4 (.take 5 (.take 6 (.take 7 (.take 8 (.take 9 (.take 10 (.take 11 (.take 12 (.take 13 (.take 14 (.take 15 (.all [(16,.done)])))))))))))))))))] }
noncomputable def aB:Ctx:={ P:=Tryz.prog,T:=bf,M:=MM,nW:=0,kp:=[(0,[0,1,2]),(1,[0,1,2,8]),(2,[0,1,2,8,21]),(3,[6,7]),(4,[0,1,2,8,9,10]),(5,[0,1,2,8,9,10,11,12]),(6,[0,1,2,8,9,10,11,12,35]),(7,[0,1,2,8,9,10,11,12,13]),(8,[0,1,2,8,9,10,11,12,13,14]),(9,[0,1,2,8,9,10,11,12,13,14,40]),(10,[0,1,2,8,9,10,11,12,13,14]),(11,[0,1,2,8,9,10,11,12,13,14]),(12,[0,1,2,8,9,10,11,12,13,14,84]),(13,[6,7]),(14,[0,1,2,8,9,10,11,12,15]),(15,[0,1,2,8,9,10,11,12,15,139]),(16,[6,7]),(17,[0,1,2,8,9,10,11,12,15]),(18,[0,1,2,8,9,10,11,12,16]),(19,[0,1,2,8,9,10,11,12,16,17]),(20,[0,1,2,8,9,10,11,12,16,17,152]),(21,[0,1,2,8,9,10,11,12,16,17]),(22,[0,1,2,8,9,10,11,12,16,17]),(23,[0,1,2,8,9,10,11,12]),(24,[6,7])],lp:=[(0,[0,1,2,8,9,10,11,12]),(2,[0,1,2,8,9,10,11,12,13,14]),(4,[0,1,2,8,9,10,11,12,16,17])],pl:=[(11,.take 0 (.take 1 (.take 2 (.take 3 (.take 4 (.take 5 (.take 6 (.take 7 (.take 8 (.take 9 (.take 10 (.take 11 (.take 12 (.take 13 (.take 14 (.take 15 (.all [(16,.all [(17,.take 18 (.done))])]))))))))))))))))),(12,.take 0 (.take 1 (.take 2 (.take 3 (.take 4 (.take 5 (.take 6 (.take 7 (.take 8 (.take 9 (.take 10 (.take 11 (.take 12 (.take 13 (.take 14 (.take 15 (.take 16 (.take 17 (.take 18 (.take 19 (.take 20 (.take 21 (.all [(22,.take 23 (.done))]))))))))))))))))))))))),(14,.take 0 (.take 1 (.take 2 (.take 3 (.take 4 (.take 5 (.take 6 (.take 7 (.take 8 (.take 9 (.take 10 (.take 11 (.take 12 (.take 13 (.take 14 (.take 15 (.take 18 (.take 19 (.take 20 (.take 21 (.take 22 (.take 23 (.take 24 (.take 25 (.take 26 (.all [(16,.take 17 (.take 27 (.all [(28,.all [(29,.done)])]))),(28,.all [(16,.take 17 (.take 27 (.all [(29,.done)])))])])))))))))))))))))))))))))),(15,.take 0 (.take 1 (.take 2 (.take 3 (.take 4 (.take 5 (.take 6 (.take 7 (.take 8 (.take 9 (.take 10 (.take 11 (.take 12 (.all [(13,.take 14 (.take 15 (.take 16 (.take 17 (.take 18 (.all [(19,.take 20 (.take 21 (.take 22 (.take 23 (.take 24 (.take 25 (.take 26 (.done))))))))]))))))]))))))))))))))],fb:=[85,2] }
noncomputable def bv:Ctx:={ P:=Tryz.prog,T:=bf,M:=MM,nW:=0,kp:=[(0,[0,4,5,6]),(1,[0,4,5,6,20]),(2,[6,7]),(3,[4,6,8,9]),(4,[4,6,8,32]),(5,[6,7]),(6,[6,7])],lp:=[],pl:=[(6,.take 0 (.take 2 (.take 3 (.all [(1,.all [(4,.take 5 (.take 6 (.all [(7,.take 8 (.done))])))])]))))] }
noncomputable def ad:Ctx:={ P:=Tryz.prog,T:=bf,M:=MM,nW:=0,kp:=[(0,[0,4,5,6]),(1,[0,4,5,6,32]),(2,[6,7]),(3,[0,4,5,6,8]),(4,[0,4,5,6,8,38,39,40]),(5,[0,4,5,6,8,38,39,40,41]),(6,[0,4,5,6,8,10,38,39,40]),(7,[0,4,5,6,8,38,39,40]),(8,[0,4,5,6,8,38,39,40]),(9,[0,4,5,6,8,11]),(10,[0,4,5,6,8,11,12]),(11,[0,4,5,6,8,11,12,67]),(12,[0,4,5,6,8,11,12,13]),(13,[0,4,5,6,8,11,12,13,14]),(14,[0,4,5,6,8,11,12,13,14,72]),(15,[0,4,5,6,8,11,12,13,14,72,74]),(16,[0,4,5,6,8,11,12,13,14,15,72]),(17,[0,4,5,6,8,11,12,13,14,15,72,89]),(18,[0,4,5,6,8,11,12,13,14,72]),(19,[0,4,5,6,8,11,12,13,16]),(20,[0,4,5,6,8,11,12,13,16,17]),(21,[0,4,5,6,8,11,12,16,17,18]),(22,[0,4,5,6,8,11,12,16,17,18,19]),(23,[0,4,5,6,8,11,12,17,18,19,151]),(24,[6,7]),(25,[0,4,5,6,8,11,12,17,18,19]),(26,[0,4,5,6,8,11,12,17,18,19,160,161,162]),(27,[0,4,5,6,8,11,12,17,18,19,160,161,162,163]),(28,[0,4,5,6,8,11,12,17,18,19,21,160,161,162]),(29,[0,4,5,6,8,11,12,17,18,19,160,161,162]),(30,[0,4,5,6,8,11,12,17,18,19,160,161,162]),(31,[6,7])],lp:=[(0,[0,4,5,6,8,38,39,40]),(2,[0,4,5,6,8,11,12]),(4,[0,4,5,6,8,11,12,13,14,72]),(6,[0,4,5,6,8,11,12,17,18,19,160,161,162])],pl:=[(7,.take 0 (.take 1 (.take 2 (.take 4 (.take 5 (.take 7 (.take 8 (.all [(3,.take 6 (.all [(9,.done)]))])))))))),(17,.take 0 (.take 1 (.take 2 (.take 3 (.take 4 (.take 5 (.take 6 (.take 7 (.take 8 (.take 9 (.all [(10,.take 11 (.take 12 (.done)))]))))))))))),(19,.take 0 (.take 1 (.take 2 (.take 3 (.take 4 (.take 5 (.take 6 (.done)))))))),(20,.take 0 (.take 1 (.take 2 (.take 3 (.all [(4,.all [(5,.all [(6,.all [(7,.done)])]),(6,.all [(5,.all [(7,.done)])])]),(6,.all [(4,.all [(5,.all [(7,.done)])])])]))))),(21,.take 0 (.take 1 (.take 2 (.take 3 (.take 4 (.take 5 (.take 6 (.take 7 (.take 8 (.take 9 (.take 10 (.all [(11,.take 12 (.take 13 (.done)))])))))))))))),(23,.take 0 (.take 1 (.take 2 (.take 3 (.take 4 (.take 5 (.take 6 (.take 7 (.take 8 (.take 9 (.take 10 (.all [(11,.take 12 (.take 13 (.take 14 (.take 15 (.all [(16,.take 17 (.take 18 (.take 19 (.take 20 (.all [(21,.take 22 (.take 23 (.take 24 (.take 25 (.take 26 (.take 27 (.take 28 (.take 29 (.take 30 (.take 31 (.done)))))))))))])))))])))))])))))))))))),(29,.take 0 (.take 1 (.take 2 (.take 3 (.take 6 (.take 7 (.take 8 (.take 9 (.take 10 (.take 11 (.take 12 (.take 13 (.take 14 (.take 15 (.take 19 (.take 20 (.take 21 (.take 22 (.take 23 (.all [(4,.all [(5,.all [(16,.take 17 (.take 18 (.all [(24,.done)])))])])]))))))))))))))))))))] }
noncomputable def bo:Ctx:={ P:=Tryz.prog,T:=bf,M:=MM,nW:=0,kp:=[(0,[1,2,4]),(1,[1,2,4,17]),(2,[4,5]),(3,[4,6]),(4,[4,6,24]),(5,[4,5]),(6,[4,5])],lp:=[],pl:=[] }
noncomputable def bu:Ctx:={ P:=Tryz.prog,T:=bf,M:=MM,nW:=0,kp:=[(0,[1,2,4]),(1,[1,2,4,5]),(2,[1,2,4,5,6]),(3,[1,2,4,5,6,22]),(4,[1,2,4,5,6]),(5,[1,2,4,5,6,7]),(6,[1,2,4,5,6,7,28]),(7,[1,2,4,5,6,7]),(8,[1,2,4,5,6,7,8]),(9,[1,2,4,5,6,7,8,9,10]),(10,[1,2,4,5,6,7,8,9,10,48]),(11,[1,2,4,5,6,7]),(12,[1,2,4,5,6,7,8,9,10,63]),(13,[1,2,4,5,6,7]),(14,[1,2,4,5,6,7,8,9,10,78]),(15,[1,2,4,5,6,7]),(16,[4])],lp:=[(0,[1,2,4,5,6]),(2,[1,2,4,5,6,7])],pl:=[(1,.take 0 (.take 1 (.take 2 (.take 3 (.take 4 (.take 5 (.all [(6,.take 7 (.all [(8,.all [(9,.done)])])),(8,.all [(6,.take 7 (.all [(9,.done)]))])]))))))),(9,.take 0 (.take 1 (.take 2 (.take 4 (.take 5 (.take 6 (.all [(3,.all [(7,.take 8 (.take 9 (.done)))])])))))))] }
noncomputable def du:Ctx:={ P:=Tryz.prog,T:=bf,M:=MM,nW:=0,kp:=[(0,[1,2]),(1,[1]),(2,[1,10]),(3,[4]),(4,[4])],lp:=[],pl:=[] }
noncomputable def dx:Ctx:={ P:=Tryz.prog,T:=bf,M:=MM,nW:=0,kp:=[(0,[1,2]),(1,[1,2,3]),(2,[1,2,3]),(3,[1,2,3]),(4,[2,3]),(5,[2])],lp:=[],pl:=[] }
noncomputable def jH:Ctx:={ P:=Tryz.prog,T:=bf,M:=MM,nW:=0,kp:=[(0,[0]),(1,[2])],lp:=[],pl:=[] }
noncomputable def kg:Ctx:={ P:=Tryz.prog,T:=bf,M:=MM,nW:=0,kp:=[(0,[1,2,3]),(1,[6])],lp:=[],pl:=[] }
noncomputable def fX:Ctx:={ P:=Tryz.prog,T:=bf,M:=MM,nW:=0,kp:=[(0,[0,1]),(1,[0,1,6]),(2,[0,1]),(3,[4])],lp:=[(0,[0,1])],pl:=[(2,.take 0 (.take 1 (.take 2 (.take 3 (.take 4 (.take 5 (.done)))))))] }
noncomputable def eA:Ctx:={ P:=Tryz.prog,T:=bf,M:=MM,nW:=0,kp:=[(0,[0,1]),(1,[0,1,5]),(2,[0,1,5,9]),(3,[0,1,5]),(4,[0,1,5,17]),(5,[4]),(6,[4])],lp:=[(0,[0,1,5])],pl:=[] }
noncomputable def aT:Ctx:={ P:=Tryz.prog,T:=bf,M:=MM,nW:=0,kp:=[(0,[1]),(1,[1,30]),(2,[2]),(3,[1,3]),(4,[1,3,35]),(5,[1,3]),(6,[1,3,44]),(7,[2]),(8,[1,4]),(9,[1,4,48]),(10,[1,4]),(11,[1,4,5]),(12,[1,4,5,54]),(13,[1,4,5]),(14,[1,4,5,6]),(15,[1,4,5,6,7]),(16,[1,4,5,76]),(17,[2]),(18,[2])],lp:=[(0,[1,3]),(2,[1,4]),(4,[1,4,5])],pl:=[] }
noncomputable def bG:Ctx:={ P:=Tryz.prog,T:=bf,M:=MM,nW:=0,kp:=[(0,[1,2]),(1,[1,2,6]),(2,[2,6,7]),(3,[2,6,7,8]),(4,[2,6,7,8,17]),(5,[2,6,7,8]),(6,[2,6,7,8,9]),(7,[2,6,7,8,9,23]),(8,[2,6,7,8,9]),(9,[2,6,7,8,9,39]),(10,[2,6,7,8,9]),(11,[2,6,7,8,9]),(12,[4,5])],lp:=[(0,[2,6,7,8]),(2,[2,6,7,8,9])],pl:=[(9,.take 0 (.take 1 (.take 2 (.take 3 (.take 4 (.take 5 (.all [(6,.take 7 (.take 8 (.take 9 (.take 10 (.all [(11,.take 12 (.take 13 (.done)))])))))])))))))] }
noncomputable def aw:Ctx:={ P:=Tryz.prog,T:=bf,M:=MM,nW:=0,kp:=[(0,[1]),(1,[1,4]),(2,[1,4,5]),(3,[1,4,5,20]),(4,[1,4,5]),(5,[1,4,5,27]),(6,[1,4,5,6,7]),(7,[1,4,5,6,7]),(8,[1,4,5,6,7,8]),(9,[1,4,5,6,7,8,40]),(10,[1,4,5,6,7,8]),(11,[1,4,5,6,7,8]),(12,[1,4,5,6,7,9]),(13,[1,4,5,6,7,9,10]),(14,[1,4,5,6,7,9,10,69]),(15,[1,4,5,6,7,9,10]),(16,[1,4,5,6,7,9,10]),(17,[1,4,5,6,7,9,10]),(18,[1,4,5,6,9,11]),(19,[1,4,5,6,9,11,121]),(20,[1,4,5,6,9,11]),(21,[1,4,5,6,9,11]),(22,[1,4,12]),(23,[1,4,12,142]),(24,[1,4,12]),(25,[1,4,12,13]),(26,[1,4,12,13,148]),(27,[1,4,12,13]),(28,[1,4,12,13,170]),(29,[2,3]),(30,[2,3])],lp:=[(0,[1,4,5]),(2,[1,4,5,6,7,8]),(4,[1,4,5,6,7,9,10]),(6,[1,4,5,6,9,11]),(8,[1,4,12]),(10,[1,4,12,13])],pl:=[(11,.take 0 (.take 1 (.take 2 (.take 3 (.take 4 (.take 5 (.take 6 (.take 7 (.take 8 (.take 9 (.take 10 (.take 11 (.take 12 (.take 13 (.take 14 (.all [(15,.all [(16,.take 17 (.take 18 (.all [(19,.done)])))])])))))))))))))))),(16,.take 0 (.take 1 (.take 2 (.take 3 (.take 4 (.take 5 (.take 6 (.take 7 (.take 8 (.take 9 (.take 10 (.take 11 (.take 12 (.take 13 (.take 14 (.take 15 (.take 16 (.take 17 (.take 18 (.take 19 (.take 20 (.take 24 (.take 25 (.take 26 (.take 27 (.take 28 (.take 29 (.take 30 (.take 31 (.take 32 (.all [(21,.all [(22,.take 23 (.all [(33,.all [(34,.take 35 (.take 36 (.all [(37,.done)])))])]))])]))))))))))))))))))))))))))))))),(21,.take 0 (.take 1 (.take 2 (.take 3 (.take 4 (.take 5 (.take 6 (.take 7 (.take 8 (.take 9 (.take 10 (.take 11 (.take 12 (.take 13 (.take 14 (.all [(15,.done)])))))))))))))))),(28,.take 0 (.take 1 (.take 2 (.take 3 (.take 4 (.take 5 (.take 6 (.take 9 (.take 10 (.take 11 (.take 12 (.take 13 (.take 14 (.take 15 (.all [(7,.take 8 (.all [(16,.take 17 (.take 18 (.take 19 (.done))))]))])))))))))))))))] }
noncomputable def cr:Ctx:={ P:=Tryz.prog,T:=bf,M:=MM,nW:=0,kp:=[(0,[1]),(1,[1,7]),(2,[2]),(3,[4]),(4,[2])],lp:=[],pl:=[] }
noncomputable def aU:Ctx:={ P:=Tryz.prog,T:=bf,M:=MM,nW:=0,kp:=[(0,[1,2,4]),(1,[1,2,4,5]),(2,[1,2,4,5,6]),(3,[1,2,4,5,6,15]),(4,[1,2,4,5,6]),(5,[1,2,4,5,6,7]),(6,[1,2,4,5,6,7,21]),(7,[1,2,4,5,6,7]),(8,[1,2,4,5,6,7,8]),(9,[1,2,4,5,6,7,8,9]),(10,[1,2,4,5,6,7,8,9,32]),(11,[1,2,4,5,6,7]),(12,[1,2,4,5,6,7,8,9,55]),(13,[1,2,4,5,6,7]),(14,[1,2,4,5,6,7,8,9,79]),(15,[1,2,4,5,6,7]),(16,[4])],lp:=[(0,[1,2,4,5,6]),(2,[1,2,4,5,6,7])],pl:=[(11,.take 0 (.take 1 (.take 2 (.take 3 (.take 4 (.take 5 (.take 6 (.take 7 (.take 8 (.take 9 (.take 10 (.all [(11,.take 12 (.take 13 (.all [(14,.done)])))])))))))))))),(13,.take 0 (.take 1 (.take 2 (.take 3 (.take 4 (.take 5 (.take 6 (.take 7 (.take 8 (.take 9 (.take 10 (.take 12 (.take 13 (.take 14 (.all [(11,.take 15 (.take 16 (.all [(17,.done)])))]))))))))))))))),(15,.take 0 (.take 1 (.take 2 (.take 3 (.take 4 (.take 5 (.take 6 (.take 7 (.take 8 (.take 9 (.take 10 (.take 12 (.take 13 (.take 14 (.all [(11,.take 15 (.take 16 (.all [(17,.done)])))])))))))))))))))] }
noncomputable def bn:Ctx:={ P:=Tryz.prog,T:=bf,M:=MM,nW:=0,kp:=[(0,[1,2,4]),(1,[1,2,4,17]),(2,[4,5]),(3,[4,6]),(4,[4,6,24]),(5,[4,5]),(6,[4,5])],lp:=[],pl:=[] }
noncomputable def aN:Ctx:={ P:=Tryz.prog,T:=bf,M:=MM,nW:=0,kp:=[(0,[1,2]),(1,[1,2,22]),(2,[2,3]),(3,[1,2,4]),(4,[1,2,4,5]),(5,[1,2,4,5,36]),(6,[1,2,4,5]),(7,[1,2,4,5,6]),(8,[1,2,4,5,6,42]),(9,[1,2,4,5,6]),(10,[1,2,4,5,6,47]),(11,[1,2,4,5,6]),(12,[1,2,4,5,6]),(13,[2,3])],lp:=[(0,[1,2,4,5]),(2,[1,2,4,5,6])],pl:=[(3,.take 0 (.take 1 (.take 2 (.take 3 (.take 4 (.take 5 (.take 6 (.all [(7,.take 8 (.all [(9,.all [(10,.done)])])),(9,.all [(7,.take 8 (.all [(10,.done)]))])]))))))))] }
noncomputable def cm:Ctx:={ P:=Tryz.prog,T:=bf,M:=MM,nW:=0,kp:=[(0,[1,2]),(1,[1,6,7]),(2,[1,6,22]),(3,[4,5]),(4,[1,6,8]),(5,[6,8,25,26,27]),(6,[6,8,25,26,27,28]),(7,[6,8,10,25,26,27]),(8,[6,7,8,25,26,27]),(9,[6,8,25,26,27,38]),(10,[4,5]),(11,[6,8,25,26,27]),(12,[6,8,25,26,27]),(13,[4,5])],lp:=[(0,[6,8,25,26,27])],pl:=[],fb:=[11,31] }
noncomputable def cP:Ctx:={ P:=Tryz.prog,T:=bf,M:=MM,nW:=0,kp:=[(0,[1]),(1,[2])],lp:=[],pl:=[] }
noncomputable def bZ:Ctx:={ P:=Tryz.prog,T:=bf,M:=MM,nW:=0,kp:=[(0,[1,2]),(1,[1,2,3]),(2,[1,2,3]),(3,[1,2,3,4]),(4,[1,2,3,4,15]),(5,[1,2,3,4]),(6,[1,2,3,4,5]),(7,[1,2,3,4,5]),(8,[1,2,3,4]),(9,[2])],lp:=[(0,[1,2,3,4])],pl:=[] }
noncomputable def bJ:Ctx:={ P:=Tryz.prog,T:=bf,M:=MM,nW:=0,kp:=[(0,[1,2]),(1,[1,2,17]),(2,[4,5]),(3,[1,6]),(4,[1,6,7]),(5,[1,6,7,24]),(6,[1,6,7]),(7,[1,6,7,8,9]),(8,[1,6,7,8,40]),(9,[4,5]),(10,[1,6,7]),(11,[4,5])],lp:=[(0,[1,6,7])],pl:=[(7,.take 0 (.take 1 (.take 2 (.take 3 (.take 4 (.take 5 (.take 6 (.take 7 (.all [(8,.take 9 (.take 10 (.take 11 (.all [(12,.all [(13,.take 14 (.done))])])))),(12,.all [(8,.take 9 (.take 10 (.take 11 (.all [(13,.take 14 (.done))]))))])])))))))))] }
noncomputable def aV:Ctx:={ P:=Tryz.prog,T:=bf,M:=MM,nW:=0,kp:=[(0,[1]),(1,[1,5]),(2,[2]),(3,[2])],lp:=[],pl:=[] }
noncomputable def aE:Ctx:={ P:=Tryz.prog,T:=bf,M:=MM,nW:=0,kp:=[(0,[1]),(1,[1,4]),(2,[1,4,5]),(3,[1,4,5,25]),(4,[2,3]),(5,[1,4,5,6]),(6,[1,4,5,6,27,28]),(7,[1,4,5,6,27,28,29]),(8,[1,4,5,6,27,28]),(9,[1,4,5,6,27,28]),(10,[1,4,5,6,7]),(11,[1,4,5,6,7,39]),(12,[1,4,5,6,7]),(13,[1,4,5,6,7]),(14,[1,4,5,6,7,8]),(15,[1,4,5,6,7,8,69]),(16,[1,4,5,6,7,8]),(17,[1,4,5,6,7,8]),(18,[6,94]),(19,[2,3]),(20,[2,3])],lp:=[(0,[1,4,5,6,27,28]),(2,[1,4,5,6,7]),(4,[1,4,5,6,7,8])],pl:=[(13,.take 0 (.take 1 (.take 2 (.take 3 (.take 4 (.take 5 (.take 6 (.take 7 (.take 8 (.take 9 (.take 10 (.take 11 (.take 12 (.take 13 (.take 14 (.take 15 (.take 16 (.take 17 (.take 18 (.take 19 (.take 20 (.take 21 (.take 22 (.take 23 (.all [(24,.take 25 (.all [(26,.done)]))]))))))))))))))))))))))))),(17,.take 0 (.take 1 (.take 2 (.take 3 (.take 4 (.take 5 (.take 6 (.take 7 (.take 8 (.take 9 (.take 10 (.take 11 (.take 12 (.take 13 (.take 14 (.take 15 (.take 16 (.all [(17,.take 18 (.take 19 (.all [(20,.done)])))]))))))))))))))))))] }
noncomputable def aq:Ctx:={ P:=Tryz.prog,T:=bf,M:=MM,nW:=0,kp:=[(0,[0,2,4]),(1,[0,2,4,41]),(2,[6,7]),(3,[0,2,4,8]),(4,[0,2,4,8,9]),(5,[0,2,4,8,9,10]),(6,[0,2,4,8,9,10,46]),(7,[0,2,4,8,9,10]),(8,[0,2,4,8,9,10,11]),(9,[0,2,4,8,9,10,11,54]),(10,[0,2,4,8,9,10,11]),(11,[0,2,4,8,9,10,11,12]),(12,[0,2,4,8,9,10,11,12,60]),(13,[0,2,4,8,9,10,11,12]),(14,[0,2,4,8,9,10,11,12]),(15,[0,2,4,8,9,10]),(16,[0,9,13]),(17,[0,9,13,78,79,80]),(18,[0,9,13,78,79,80,81]),(19,[0,9,13,15,78,79,80]),(20,[0,9,13,15,16,78,79,80]),(21,[0,9,13,15,16,78,79,80,84,85,86]),(22,[0,9,13,15,16,78,79,80,84,85,86,87]),(23,[0,9,13,15,16,18,78,79,80,84,85,86]),(24,[0,9,13,15,16,78,79,80,84,85,86]),(25,[0,9,13,15,16,78,79,80,84,85,86]),(26,[0,9,13,78,79,80]),(27,[0,9,13,78,79,80]),(28,[13,105]),(29,[6,7]),(30,[6,7])],lp:=[(0,[0,2,4,8,9,10]),(2,[0,2,4,8,9,10,11,12]),(4,[0,9,13,78,79,80]),(6,[0,9,13,15,16,78,79,80,84,85,86])],pl:=[(14,.take 0 (.take 1 (.take 2 (.take 3 (.take 4 (.take 5 (.take 6 (.all [(7,.take 8 (.take 9 (.take 10 (.all [(11,.done)]))))]))))))))] }
noncomputable def bQ:Ctx:={ P:=Tryz.prog,T:=bf,M:=MM,nW:=0,kp:=[(0,[1,2]),(1,[1,2,7,8]),(2,[1,7,8,9,10]),(3,[1,7,9,30]),(4,[4,5,6]),(5,[1,7,9,11]),(6,[7,9,11,33,34,35]),(7,[7,9,11,33,34,35,36]),(8,[7,9,11,12,13,33,34,35]),(9,[7,9,10,11,33,34,35]),(10,[7,9,11,33,34,35,51]),(11,[4,5,6]),(12,[7,9,11,33,34,35]),(13,[7,9,11,33,34,35]),(14,[4,5,6])],lp:=[(0,[7,9,11,33,34,35])],pl:=[],fb:=[9] }
noncomputable def bt:Ctx:={ P:=Tryz.prog,T:=bf,M:=MM,nW:=0,kp:=[(0,[1]),(1,[1,7]),(2,[2,3]),(3,[4]),(4,[4,12]),(5,[2,3]),(6,[2,3])],lp:=[],pl:=[] }
noncomputable def a8:Ctx:={ P:=Tryz.prog,T:=bf,M:=MM,nW:=0,kp:=[(0,[1]),(1,[1,3]),(2,[1,3,5]),(3,[1,3,5,6]),(4,[1,3,5,6,7]),(5,[1,3,5,6,7,21]),(6,[1,3,5,6,7]),(7,[1,3,5,6,7,8]),(8,[1,3,5,6,7,8,9]),(9,[1,3,5,6,7,8,9,30]),(10,[1,3,5,6,7,8,9]),(11,[1,3,5,6,7,8,9,33]),(12,[1,3,5,6,7,8,9]),(13,[1,3,5,6,7,8,9,52]),(14,[1,3,5,6,7,8,9]),(15,[1,3,5,6,7,8,9,70]),(16,[1,3,5,6,7,8,9]),(17,[1,3,5,6,7]),(18,[2])],lp:=[(0,[1,3,5,6,7]),(2,[1,3,5,6,7,8,9])],pl:=[(16,.take 0 (.take 1 (.take 2 (.take 3 (.take 4 (.take 5 (.take 6 (.take 7 (.take 8 (.take 9 (.take 10 (.take 11 (.take 12 (.take 13 (.take 14 (.all [(15,.take 16 (.take 17 (.take 18 (.all [(19,.done)]))))]))))))))))))))))] }
noncomputable def aG:Ctx:={ P:=Tryz.prog,T:=bf,M:=MM,nW:=0,kp:=[(0,[0,2,4]),(1,[0,2,4,7]),(2,[0,2,4,7,8]),(3,[0,2,4,7,8,9]),(4,[0,2,4,7,8,9,22]),(5,[0,2,4,7,8,9]),(6,[0,2,4,7,8,9]),(7,[0,2,7,8]),(8,[0,2,7,8,10]),(9,[0,2,7,8,10,11]),(10,[0,2,7,8,10,11,39]),(11,[0,2,7,8,10,11]),(12,[0,2,7,8,10,11,12]),(13,[0,2,7,8,10,11,12,13]),(14,[0,2,7,8,10,11,12,13,45]),(15,[0,2,7,8,10,11,12,13]),(16,[0,2,7,8,10,11,12,13,14,15]),(17,[0,2,7,8,10,11,12,13,14,15,56]),(18,[0,2,7,8,10,11,12,13,14,15]),(19,[0,2,7,8,10,11,12,13,14,15,60]),(20,[0,2,7,8,10,11,12,13,14,15]),(21,[0,2,7,8,10,11,12,13]),(22,[0,2,7,8,10,11]),(23,[6])],lp:=[(0,[0,2,4,7,8,9]),(2,[0,2,7,8,10,11]),(4,[0,2,7,8,10,11,12,13])],pl:=[] }
noncomputable def aR:Ctx:={ P:=Tryz.prog,T:=bf,M:=MM,nW:=0,kp:=[(0,[0,2,4]),(1,[0,2,4,31]),(2,[6,7]),(3,[8]),(4,[8,38]),(5,[6,7]),(6,[6,7])],lp:=[],pl:=[] }
noncomputable def cG:Ctx:={ P:=Tryz.prog,T:=bf,M:=MM,nW:=0,kp:=[(0,[0,1,4]),(1,[4,5]),(2,[4,5,16]),(3,[4]),(4,[4])],lp:=[],pl:=[] }
noncomputable def cD:Ctx:={ P:=Tryz.prog,T:=bf,M:=MM,nW:=0,kp:=[(0,[0,1,4]),(1,[4,5]),(2,[4,5,16]),(3,[4]),(4,[4])],lp:=[],pl:=[] }
noncomputable def aO:Ctx:={ P:=Tryz.prog,T:=bf,M:=MM,nW:=0,kp:=[(0,[0,1,2,3,4,10]),(1,[0,1,2,3,4,10,12]),(2,[0,1,2,3,4,10,12,13]),(3,[0,1,2,3,4,10,12,13]),(4,[0,1,2,3,4,10,12,13,26,27,28]),(5,[0,1,2,3,4,10,12,13,26,27,28,29]),(6,[0,1,2,3,4,10,12,13,15,16,26,27,28]),(7,[0,1,2,3,4,10,12,13,15,16,26,27,28,34]),(8,[10,11]),(9,[0,1,2,3,4,10,12,13,15,16,26,27,28,37]),(10,[0,1,2,3,4,10,12,13,15,16,26,27,28]),(11,[0,1,2,3,4,10,12,13,14,15,16,26,27,28]),(12,[0,1,2,3,4,10,12,13,15,16,26,27,28,51]),(13,[10,11]),(14,[0,1,2,3,4,10,12,13,26,27,28]),(15,[1,3,10,13,17]),(16,[1,3,10,13,17,61,62]),(17,[1,3,10,13,17,61,62,63]),(18,[1,3,10,13,17,18,61,62]),(19,[1,3,10,13,17,18,19,61,62]),(20,[1,3,10,13,17,18,19,61,62,67]),(21,[1,3,10,13,17,18,19,61,62]),(22,[1,3,10,13,17,18,19,61,62]),(23,[1,3,10,13,17,61,62]),(24,[10,13,17,92,93]),(25,[10,13,17,92,93,94]),(26,[10,13,17,20,92,93]),(27,[10,13,17,92,93]),(28,[10,13,17,92,93]),(29,[10,11])],lp:=[(0,[0,1,2,3,4,10,12,13,26,27,28]),(2,[0,1,2,3,4,10,12,13,15,16,26,27,28]),(4,[1,3,10,13,17,61,62]),(6,[1,3,10,13,17,18,19,61,62]),(8,[10,13,17,92,93])],pl:=[(11,.take 0 (.take 1 (.take 2 (.take 3 (.take 4 (.take 5 (.all [(6,.take 7 (.take 8 (.take 9 (.all [(10,.take 11 (.done))]))))]))))))),(22,.take 0 (.take 1 (.take 2 (.take 3 (.take 4 (.take 5 (.take 6 (.take 7 (.take 8 (.take 9 (.take 10 (.take 11 (.take 12 (.take 13 (.take 14 (.take 15 (.take 16 (.take 17 (.take 18 (.take 19 (.done))))))))))))))))))))),(29,.take 0 (.take 1 (.all [(2,.all [(3,.take 4 (.done))])])))] }
noncomputable def aS:Ctx:={ P:=Tryz.prog,T:=bf,M:=MM,nW:=0,kp:=[(0,[0,1,2,3,8]),(1,[0,1,2,3,8,10]),(2,[0,1,2,3,8,10,11]),(3,[0,1,2,3,8,10,11,22]),(4,[0,1,2,3,8,10,11]),(5,[0,1,2,3,8,10,11,12]),(6,[0,1,2,3,8,10,11,12,27]),(7,[0,1,2,3,8,10,11,12]),(8,[0,1,2,3,8,10,11,12]),(9,[0,2,3,8,10,13]),(10,[0,2,3,8,10,13,14]),(11,[0,2,3,8,10,13,14,56]),(12,[0,2,3,8,10,13,14]),(13,[0,2,3,8,10,13,14,15]),(14,[0,2,3,8,10,13,14,15,64]),(15,[0,2,3,8,10,13,14,15]),(16,[0,2,3,8,10,13,14,15,16,17]),(17,[0,2,3,8,10,13,14,15,16,78]),(18,[8,9]),(19,[0,2,3,8,10,13,14,15]),(20,[8,10,13,18]),(21,[8,10,13,18,85]),(22,[8,10,13,18]),(23,[8,10,13,18]),(24,[8,9])],lp:=[(0,[0,1,2,3,8,10,11]),(2,[0,1,2,3,8,10,11,12]),(4,[0,2,3,8,10,13,14]),(6,[0,2,3,8,10,13,14,15]),(8,[8,10,13,18])],pl:=[(8,.take 0 (.take 1 (.take 2 (.take 3 (.take 4 (.take 5 (.take 6 (.take 7 (.take 8 (.take 9 (.take 10 (.take 11 (.take 12 (.take 13 (.take 14 (.take 15 (.take 16 (.take 17 (.take 18 (.take 19 (.done))))))))))))))))))))),(16,.take 0 (.take 1 (.take 2 (.take 3 (.take 4 (.take 5 (.all [(6,.take 7 (.take 8 (.take 9 (.all [(10,.all [(11,.take 12 (.done))])])))),(10,.all [(6,.take 7 (.take 8 (.take 9 (.all [(11,.take 12 (.done))]))))])]))))))),(23,.take 0 (.take 1 (.take 2 (.take 3 (.take 4 (.take 5 (.take 6 (.take 7 (.take 8 (.take 9 (.take 10 (.take 11 (.take 12 (.all [(13,.done)])))))))))))))),(24,.take 0 (.take 1 (.all [(2,.all [(3,.take 4 (.done))])])))] }
noncomputable def aH:Ctx:={ P:=Tryz.prog,T:=bf,M:=MM,nW:=0,kp:=[(0,[0,1,3,4,7,10]),(1,[0,1,3,4,7,10,12]),(2,[0,1,3,4,7,10,12,13]),(3,[0,1,3,4,7,10,12,13,26]),(4,[0,1,3,4,7,10,12,13]),(5,[0,1,3,4,7,10,12,13,14]),(6,[0,1,3,4,7,10,12,13,14,15]),(7,[0,1,3,4,7,10,12,13,14,15,35]),(8,[0,1,3,4,7,10,12,13,14,15]),(9,[0,1,3,4,7,10,12,13,14,15]),(10,[0,1,3,4,7,10,12,13,14,15,52]),(11,[10,11]),(12,[0,1,3,4,7,10,12,13,14,16,17]),(13,[0,1,3,4,7,10,12,13,16,17,18]),(14,[0,1,3,4,7,10,12,13,16,17,18,19]),(15,[0,1,3,4,7,10,12,13,16,17,18,19,76]),(16,[0,1,3,4,7,10,12,13,16,17,18,19]),(17,[0,1,3,4,7,10,12,13,16,17,18,19]),(18,[0,1,3,4,7,10,12,13,17,20,21]),(19,[0,1,3,4,7,10,12,13,20,103]),(20,[10,11]),(21,[0,1,3,4,7,10,12,13]),(22,[10,11])],lp:=[(0,[0,1,3,4,7,10,12,13]),(2,[0,1,3,4,7,10,12,13,14,15]),(4,[0,1,3,4,7,10,12,13,16,17,18,19])],pl:=[(17,.take 0 (.take 1 (.take 2 (.take 3 (.take 4 (.take 5 (.take 6 (.take 7 (.take 8 (.take 9 (.take 10 (.take 11 (.take 12 (.all [(13,.done)])))))))))))))),(22,.take 0 (.take 1 (.take 2 (.take 3 (.take 4 (.take 5 (.all [(6,.take 7 (.take 8 (.all [(9,.take 10 (.done))])))])))))))] }
noncomputable def am:Ctx:={ P:=Tryz.prog,T:=bf,M:=MM,nW:=0,kp:=[(0,[1,2]),(1,[1,2,6,7,8]),(2,[1,2,6,7,34]),(3,[4,5]),(4,[1,6,7,9]),(5,[1,6,7,9,10]),(6,[1,6,7,9,10,11]),(7,[1,6,7,9,10,11,40]),(8,[1,6,7,9,10,11]),(9,[1,6,7,9,10,11]),(10,[6,7,9,10,50,51,52]),(11,[6,7,9,10,50,51,52,53]),(12,[6,7,9,10,12,13,50,51,52]),(13,[6,7,9,10,12,13,14,15,50,51,52]),(14,[6,7,9,10,12,13,14,15,16,50,51,52]),(15,[6,7,9,10,12,13,14,15,16,50,51,52,63]),(16,[6,7,9,10,12,13,14,15,16,50,51,52]),(17,[6,7,9,10,12,13,14,15,16,17,50,51,52]),(18,[6,7,9,10,12,13,14,15,16,50,51,52]),(19,[6,7,9,10,12,13,15,18,19,50,51,52]),(20,[6,7,9,10,13,18,19,20,21,50,51,52]),(21,[6,7,9,10,13,18,20,50,51,52,117]),(22,[4,5]),(23,[6,7,9,10,13,22,23,50,51,52]),(24,[6,7,9,10,13,23,24,25,50,51,52]),(25,[6,7,9,10,13,24,50,51,52,141]),(26,[4,5]),(27,[6,7,9,10,50,51,52]),(28,[6,7,9,10,50,51,52]),(29,[4,5])],lp:=[(0,[1,6,7,9,10,11]),(2,[6,7,9,10,50,51,52]),(4,[6,7,9,10,12,13,14,15,16,50,51,52])],pl:=[(13,.take 0 (.take 2 (.all [(1,.take 4 (.all [(3,.take 5 (.done))])),(3,.all [(1,.take 4 (.take 5 (.done)))])]))),(19,.take 0 (.take 1 (.take 2 (.take 3 (.take 4 (.take 5 (.take 6 (.take 7 (.take 8 (.take 9 (.all [(10,.take 11 (.take 12 (.take 13 (.all [(14,.all [(15,.take 16 (.done))])])))),(14,.all [(10,.take 11 (.take 12 (.take 13 (.all [(15,.take 16 (.done))]))))])]))))))))))),(20,.take 0 (.take 1 (.take 2 (.take 3 (.take 4 (.take 5 (.take 6 (.take 7 (.take 8 (.take 9 (.all [(10,.take 11 (.take 12 (.take 13 (.all [(14,.all [(15,.take 16 (.done))])])))),(14,.all [(10,.take 11 (.take 12 (.take 13 (.all [(15,.take 16 (.done))]))))])]))))))))))),(24,.take 0 (.take 1 (.take 2 (.take 3 (.take 4 (.take 5 (.take 6 (.take 7 (.all [(8,.take 9 (.take 10 (.take 11 (.all [(12,.all [(13,.take 14 (.done))])])))),(12,.all [(8,.take 9 (.take 10 (.take 11 (.all [(13,.take 14 (.done))]))))])])))))))))] }
noncomputable def az:Ctx:={ P:=Tryz.prog,T:=bf,M:=MM,nW:=0,kp:=[(0,[1,2]),(1,[1,2,6,7]),(2,[1,2,6,7,8,9]),(3,[1,2,6,8,34]),(4,[4,5]),(5,[1,2,6,8,10]),(6,[1,2,6,8,10,11]),(7,[1,2,6,8,10,11,40]),(8,[1,2,6,8,10,11]),(9,[1,2,6,8,10,11]),(10,[1,6,8,10,12]),(11,[1,6,8,10,12,13]),(12,[1,6,8,10,12,13,56]),(13,[1,6,8,10,12,13]),(14,[1,6,8,10,12,13,14,15]),(15,[1,6,8,10,13,14,15,16,17]),(16,[1,6,8,10,13,14,16,92]),(17,[4,5]),(18,[1,6,8,10,13,16]),(19,[1,6,8,10,12,13]),(20,[4,5])],lp:=[(0,[1,2,6,8,10,11]),(2,[1,6,8,10,12,13])],pl:=[(14,.take 0 (.take 1 (.take 2 (.take 3 (.take 4 (.take 5 (.take 6 (.take 7 (.take 8 (.take 9 (.take 10 (.all [(11,.take 12 (.take 13 (.take 14 (.all [(15,.all [(16,.take 17 (.done))])])))),(15,.all [(11,.take 12 (.take 13 (.take 14 (.all [(16,.take 17 (.done))]))))])])))))))))))),(15,.take 0 (.take 1 (.take 2 (.take 3 (.take 4 (.take 5 (.take 6 (.take 7 (.take 8 (.all [(9,.take 10 (.take 11 (.take 12 (.take 13 (.take 14 (.done))))))])))))))))),(18,.take 0 (.take 1 (.take 2 (.take 3 (.take 4 (.take 5 (.take 6 (.all [(7,.done)]))))))))],fb:=[6,16] }
noncomputable def cE:Ctx:={ P:=Tryz.prog,T:=bf,M:=MM,nW:=0,kp:=[(0,[0,1]),(1,[0,1,10]),(2,[4]),(3,[0,1,5]),(4,[0,1,5,14]),(5,[0,1,5]),(6,[0,1,5,26]),(7,[4]),(8,[4])],lp:=[(0,[0,1,5])],pl:=[(6,.take 0 (.take 1 (.take 2 (.take 3 (.take 4 (.take 5 (.take 6 (.take 7 (.all [(8,.take 9 (.done))])))))))))] }
noncomputable def cC:Ctx:={ P:=Tryz.prog,T:=bf,M:=MM,nW:=1,kp:=[(0,[0,1]),(1,[0,1,5]),(2,[0,1,5,9]),(3,[0,1,5]),(4,[0,1,5]),(5,[0,1,5]),(6,[0,1,5]),(7,[4])],lp:=[(0,[0,1,5])],pl:=[] }
noncomputable def cw:Ctx:={ P:=Tryz.prog,T:=bf,M:=MM,nW:=0,kp:=[(0,[0,1]),(1,[0,1,5]),(2,[0,1,5,9]),(3,[0,1,5]),(4,[0,1,5,18]),(5,[4]),(6,[0,1,5]),(7,[0,1,5]),(8,[0,1,5,29]),(9,[4]),(10,[4])],lp:=[(0,[0,1,5])],pl:=[] }
noncomputable def ac:Ctx:={ P:=Tryz.prog,T:=bf,M:=MM,nW:=0,kp:=[(0,[1,2]),(1,[1,2,19]),(2,[4]),(3,[1,2,5]),(4,[1,2,5]),(5,[1,2,24]),(6,[4]),(7,[1,2,6,7]),(8,[1,2,6,7,8]),(9,[1,2,6,7,8,9]),(10,[1,2,6,7,8,9,10,11]),(11,[1,2,6,7,8,9,10,11,51]),(12,[4]),(13,[1,2,6,7,8,9,10,11,56]),(14,[4]),(15,[1,2,6,7,8,9,10,11,61]),(16,[4]),(17,[1,2,6,7,8,9,10,11,12]),(18,[1,2,6,7,9,10,11,12]),(19,[1,2,6,7,10,11,12]),(20,[1,2,6,7,10,80]),(21,[4]),(22,[1,2,6,7,10,13]),(23,[1,2,6,7,10,13]),(24,[1,2,6,7,10,13,14]),(25,[1,2,6,7,10,13,14]),(26,[1,2,6,7,10,13,14,88]),(27,[4]),(28,[1,2,6,7,10,13,91]),(29,[4]),(30,[6,7,10,13,15,16]),(31,[10,13,108]),(32,[4]),(33,[10,13,14]),(34,[13,14]),(35,[13,14,113]),(36,[4]),(37,[116]),(38,[4]),(39,[4])],lp:=[],pl:=[(13,.take 0 (.take 1 (.all [(2,.all [(3,.take 4 (.done))])])))] }
end C
set_option maxRecDepth 10000
theorem af.ob {C : Ctx} {f : Nat} {fn : Func} {n : Nat} {c : Code} {args : List FV} {ros : List (Rn × D)} {pure : Bool} {Q : List D → List RV → Prop} (hT : cT C.P C.T = true) (hM : C.P.follows .mixedOrders = true) (hf : C.P.funcs[f]? = some fn) (hb : fn.body = some c) (hn : fn.ntmps = n) (h : AWp C c 0 (EZ C fn.results.toList pure Q) ⟨ofL (oW 0 args ++ jO 0 ros), ofR ros⟩) (hname : (fn.name == "runtime.NumGoroutine") = false := by kernel_rfl) (hla : Nat.ble args.length n = true := by exact rfl) (hn2 : n ≤ 1000 := by decide) (hsm : gN n c = true := by kernel_rfl) (hsr : lW n fn.results.toList = true := by kernel_rfl) (hnW : C.nW = ros.length := by rfl) (hr1 : ros.length ≤ 100 := by simp) (hnn : (ros.map (·.1)).Nodup := by simp) : af C.P f args ros pure Q := af.F5 hT hM hf hb hname hn (Nat.le_of_ble_eq_true hla) hn2 hsm hsr hnW hr1 hnn h
theorem bC:cT Tryz.prog bf=true:=by kernel_rfl
theorem bD:Tryz.prog.follows .mixedOrders=true:=by kernel_rfl
theorem ay {j:Nat} (h:j < 4611686018427387904):IntKind.i64.wrap ((j:Int)+1)=((j+1:Nat):Int):=by
 rw[aj (by omega) (by omega)];omega
theorem cg (n low high:Int):af Tryz.prog F.ik [.int n,.int low,.int high] [] true (fun outs res=>outs=[]/\res=[.one (D.bool (decide (low<=n/\n<=high)))]):=by
 refine af.ob (C:=C.ik) (n:=Tryz.f90.ntmps) bC bD Tryz.func90 rfl rfl ?_;simp only[Tryz.f90];apply aa;refine ab fun K hK=>?_;simp[C.ik];apply hK;clear hK K;show AWp _ _ _ _ _;apply aa;refine ab fun K hK=>?_;have hJ:K ⟨ofL [(6,.bool (decide (low<=n/\n<=high)))],aF []⟩:=by
  apply hK;clear hK K;show AWp _ _ _ _ _;apply aI;simp[C.ik]
 clear hK
 by_cases h:low<=n
 ·simp[C.ik,h];refine cast (congrArg K ?_) hJ;simp[h]
 ·simp[C.ik,h];refine cast (congrArg K ?_) hJ;simp[h]
theorem ca (n low high:Int):af Tryz.prog F.jn [.int n,.int low,.int high] [] true (fun outs res=>outs=[]/\res=[.one (D.bool (decide (low<=n/\n<=high)))]):=by
 refine af.ob (C:=C.jn) (n:=Tryz.f113.ntmps) bC bD Tryz.func113 rfl rfl ?_;simp only[Tryz.f113];apply aa;refine ab fun K hK=>?_;simp[C.jn];apply hK;clear hK K;show AWp _ _ _ _ _;apply aa;refine ab fun K hK=>?_;have hJ:K ⟨ofL [(6,.bool (decide (low<=n/\n<=high)))],aF []⟩:=by
  apply hK;clear hK K;show AWp _ _ _ _ _;apply aI;simp[C.jn]
 clear hK
 by_cases h:low<=n
 ·simp[C.jn,h];refine cast (congrArg K ?_) hJ;simp[h]
 ·simp[C.jn,h];refine cast (congrArg K ?_) hJ;simp[h]
theorem iV (xs:List Int) (hx:xs.length < 17592186044416):af Tryz.prog F.je [.d (shI xs)] [] true (fun outs res=>outs=[]/\res=[.one (owI xs)]):=by
 refine af.ob (C:=C.je) (n:=Tryz.f105.ntmps) bC bD Tryz.func105 rfl rfl ?_;simp only[Tryz.f105];apply aa;refine ab fun K hK=>?_;simp[C.je];apply hK;clear hK K;show AWp _ _ _ _ _;apply aa;refine ab fun K hK=>?_;simp[C.je,show xs.length*8<=140737488355328 by omega];apply hK;clear hK K;show AWp _ _ _ _ _;apply aI;simp[C.je]
theorem n5 (xs:List Int) (hx:xs.length < 17592186044416):af Tryz.prog F.cS [.d (shI xs)] [] true (fun outs res=>outs=[]/\eb res [.one (owI xs)]):=by
 refine af.ob (C:=C.cS) (n:=Tryz.f47.ntmps) bC bD Tryz.func47 rfl rfl ?_;simp only[Tryz.f47];apply aa;refine ab fun K hK=>?_;simp[C.cS];apply hK;clear hK K;show AWp _ _ _ _ _;apply aa;apply aa;refine ab fun K hK=>?_;simp[C.cS];refine⟨?_,fun h=>?_⟩
 ·apply hK;clear hK K;show AWp _ _ _ _ _;refine ap _ rfl (fun hc1=>?_) (fun hc1=>?_)
  ·simp at hc1
  ·apply au;show AWp _ _ _ _ _;apply aa;refine ab fun K hK=>?_;simp[C.cS,show xs.length*8<=140737488355328 by omega];apply hK;clear hK K;show AWp _ _ _ _ _;apply aI;simp[C.cS]
 ·apply hK;clear hK K;show AWp _ _ _ _ _;refine ap _ rfl (fun hc2=>?_) (fun hc2=>?_)
  ·apply aa;refine ab fun K hK=>?_;simp[C.cS];apply hK;clear hK K;show AWp _ _ _ _ _;apply aI;simp[C.cS,h,ints]
  ·simp at hc2
theorem rR (xs:List Int) (hx:xs.length < 17592186044416):af Tryz.prog F.cS [.d (shI xs)] [] true (fun outs res=>outs=[]/\res=[.one (owI xs)]):=(n5 xs hx).weak1
theorem me (xs ys:List Int) (hx:xs.length < 4611686018427387904):af Tryz.prog F.c9 [.d (shI xs),.d (shI ys)] [] true (fun outs res=>outs=[]/\res=[.one (D.bool (decide (xs=ys)))]):=by
 refine af.ob (C:=C.c9) (n:=Tryz.f28.ntmps) bC bD Tryz.func28 rfl rfl ?_;simp only[Tryz.f28];apply aa;refine ab fun K hK=>?_;simp[C.c9];apply hK;clear hK K;show AWp _ _ _ _ _;apply aa;apply aa;refine ab fun K hK=>?_;simp[C.c9];apply hK;clear hK K;show AWp _ _ _ _ _;refine ap _ rfl (fun hc1=>?_) (fun hc1=>?_)
 ·apply aa;refine ab fun K hK=>?_;simp[C.c9];apply hK;clear hK K;show AWp _ _ _ _ _;apply aI;simp at hc1;simp[C.c9];intro e;simp[e] at hc1
 ·apply au;show AWp _ _ _ _ _;apply aa;apply aa;refine ab fun K hK=>?_;simp[C.c9];apply hK;clear hK K;show AWp _ _ _ _ _;apply ak;have e:xs.length=ys.length:=by simp at hc1;omega
  refine bm (fun k:Nat=>⟨ofL [(0,.d (shI xs)),(1,.d (shI ys)),(5,FV.int k)],aF []⟩) (fun k=>k<=xs.length/\xs.take k=ys.take k) (fun k=>xs.length - k) 0 (by simp[C.c9]) (by simp) ?_;intro x1 hx1 R1 hR1;obtain⟨hk,ht⟩:=hx1;apply aa;apply aa;refine ab fun K hK=>?_;simp[C.c9];apply hK;clear hK K;show AWp _ _ _ _ _;refine ap _ rfl (fun hc2=>?_) (fun hc2=>?_)
  ·apply au;show AWp _ _ _ _ _;apply aa;apply ak;apply aa;have h1:x1 < xs.length:=by simpa using hc2
   have h2:x1 < ys.length:=by omega
   refine eG (.take 0 (.take 1 (.take 2 (.take 3 (.take 4 (.take 5 (.take 6 (.take 7 (.take 8 (.done)))))))))) ⟨by kernel_rfl,by kernel_rfl⟩ fun K hK=>?_;simp[C.c9,ao,h1,h2];apply hK;clear hK K;show AWp _ _ _ _ _;refine ap _ rfl (fun hc3=>?_) (fun hc3=>?_)
   ·apply aa;refine ab fun K hK=>?_;simp[C.c9];apply hK;clear hK K;show AWp _ _ _ _ _;apply aI;simp at hc3;simp[C.c9];intro e;simp[e] at hc3
   ·apply au;show AWp _ _ _ _ _;refine ab fun K hK=>?_;simp[C.c9,ay (show x1 < 4611686018427387904 by omega)];apply hK;clear hK K;simp[C.c9];simp at hc3;refine hR1 (x1+1) ⟨h1,?_⟩ (by omega);rw[List.take_succ_eq_append_getElem h1,List.take_succ_eq_append_getElem h2,ht,hc3]
  ·apply aZ;show AWp _ _ _ _ _;apply aa;refine ab fun K hK=>?_;simp[C.c9];apply hK;clear hK K;show AWp _ _ _ _ _;apply aI;have hk2:x1=xs.length:=by simp at hc2;omega
   simp[C.c9];rw[hk2,List.take_length,e,List.take_length] at ht;exact ht
theorem p7 (xs ys:List Int) (hx:xs.length < 4611686018427387904):af Tryz.prog F.da [.d (shI xs),.d (shI ys)] [] true (fun outs res=>outs=[]/\res=[.one (D.bool (decide (xs=ys)))]):=by
 refine af.ob (C:=C.da) (n:=Tryz.f168.ntmps) bC bD Tryz.func168 rfl rfl ?_;simp only[Tryz.f168];apply aa;refine ab fun K hK=>?_;simp[C.da];apply hK;clear hK K;show AWp _ _ _ _ _;apply aa;apply aa;refine ab fun K hK=>?_;simp[C.da];apply hK;clear hK K;show AWp _ _ _ _ _;refine ap _ rfl (fun hc1=>?_) (fun hc1=>?_)
 ·apply aa;refine ab fun K hK=>?_;simp[C.da];apply hK;clear hK K;show AWp _ _ _ _ _;apply aI;simp at hc1;simp[C.da];intro e;simp[e] at hc1
 ·apply au;show AWp _ _ _ _ _;apply aa;apply aa;refine ab fun K hK=>?_;simp[C.da];apply hK;clear hK K;show AWp _ _ _ _ _;apply ak;have e:xs.length=ys.length:=by simp at hc1;omega
  refine bm (fun k:Nat=>⟨ofL [(0,.d (shI xs)),(1,.d (shI ys)),(5,FV.int k)],aF []⟩) (fun k=>k<=xs.length/\xs.take k=ys.take k) (fun k=>xs.length - k) 0 (by simp[C.da]) (by simp) ?_;intro x1 hx1 R1 hR1;obtain⟨hk,ht⟩:=hx1;apply aa;apply aa;refine ab fun K hK=>?_;simp[C.da];apply hK;clear hK K;show AWp _ _ _ _ _;refine ap _ rfl (fun hc2=>?_) (fun hc2=>?_)
  ·apply au;show AWp _ _ _ _ _;apply aa;apply ak;apply aa;have h1:x1 < xs.length:=by simpa using hc2
   have h2:x1 < ys.length:=by omega
   refine eG (.take 0 (.take 1 (.take 2 (.take 3 (.take 4 (.take 5 (.take 6 (.take 7 (.take 8 (.done)))))))))) ⟨by kernel_rfl,by kernel_rfl⟩ fun K hK=>?_;simp[C.da,ao,h1,h2];apply hK;clear hK K;show AWp _ _ _ _ _;refine ap _ rfl (fun hc3=>?_) (fun hc3=>?_)
   ·apply aa;refine ab fun K hK=>?_;simp[C.da];apply hK;clear hK K;show AWp _ _ _ _ _;apply aI;simp at hc3;simp[C.da];intro e;simp[e] at hc3
   ·apply au;show AWp _ _ _ _ _;refine ab fun K hK=>?_;simp[C.da,ay (show x1 < 4611686018427387904 by omega)];apply hK;clear hK K;simp[C.da];simp at hc3;refine hR1 (x1+1) ⟨h1,?_⟩ (by omega);rw[List.take_succ_eq_append_getElem h1,List.take_succ_eq_append_getElem h2,ht,hc3]
  ·apply aZ;show AWp _ _ _ _ _;apply aa;refine ab fun K hK=>?_;simp[C.da];apply hK;clear hK K;show AWp _ _ _ _ _;apply aI;have hk2:x1=xs.length:=by simp at hc2;omega
   simp[C.da];rw[hk2,List.take_length,e,List.take_length] at ht;exact ht
theorem kW (xs:List Int) (k:Int) (hk0:0<=k) (hk:k+xs.length < 4611686018427387904):af Tryz.prog F.dt [.al (0,0) [] 0 xs.length,.int k] [((0,0),owI xs)] true (fun outs res=>outs=[.ow 1 xs.length (ints (gA k xs.length))]/\res=[.one (D.int (k+xs.length))]):=by
 refine af.ob (C:=C.dt) (n:=Tryz.f30.ntmps) bC bD Tryz.func30 rfl rfl ?_;simp only[Tryz.f30];apply aa;refine ab fun K hK=>?_;simp[C.dt];apply hK;clear hK K;show AWp _ _ _ _ _;apply aa;apply aa;refine ab fun K hK=>?_;simp[C.dt];apply hK;clear hK K;show AWp _ _ _ _ _;apply ak;refine bm (fun x:Nat×List Int×Int=>⟨ofL [(0,.al (0,0) [] 0 xs.length),(1,.int x.2.2),(5,.int x.1),(1000,.al (0,0) [] 0 xs.length)],aF [((0,0),some (.ow 1 xs.length (ints x.2.1)))]⟩) (fun x=>x.1<=xs.length/\x.2.1=gA k x.1 ++ xs.drop x.1/\x.2.2=k+x.1) (fun x=>xs.length - x.1) (0,xs,k) (by simp[C.dt]) (by simp[gA]) ?_;intro x1 hx1 R1 hR1;obtain⟨j,gs,kk⟩:=x1;obtain⟨h0,hg,he⟩:=hx1;dsimp only at h0 hg he ⊢;apply aa;apply aa;refine ab fun K hK=>?_;simp[C.dt];apply hK;clear hK K;show AWp _ _ _ _ _;refine ap _ rfl (fun hc1=>?_) (fun hc1=>?_)
 ·apply au;show AWp _ _ _ _ _;apply aa;apply ak;apply aa;have h1:j < xs.length:=by simpa using hc1
  have hl:gs.length=xs.length:=by rw[hg];simp;omega
  refine ab fun K hK=>?_;simp[C.dt,hl,h1];apply hK;clear hK K;show AWp _ _ _ _ _;refine ab fun K hK=>?_;simp[C.dt];rw[aj (x:=kk+1) (by omega) (by omega)];apply hK;clear hK K;show AWp _ _ _ _ _;refine ab fun K hK=>?_;simp[C.dt,ay (show j < 4611686018427387904 by omega)];apply hK;clear hK K;simp[C.dt];refine hR1 (j+1,_,kk+1) ⟨h1,?_,by dsimp only;omega⟩ (by dsimp only;omega);dsimp only;rw[hg,List.set_append_right _ _ (by simp),he];simp[BZ];rw[List.drop_eq_getElem_cons h1];rfl
 ·apply aZ;show AWp _ _ _ _ _;apply aa;refine ab fun K hK=>?_;simp[C.dt];apply hK;clear hK K;show AWp _ _ _ _ _;apply aI;have hj2:j=xs.length:=by simp at hc1;omega
  simp[C.dt,hj2,hg,he]
theorem vw (n:Nat) (k:Int) (hk0:0<=k) (hk:k+n < 4611686018427387904):af Tryz.prog F.dw [.d (.sh 1 n (ints (gA k n))),.int k] [] true (fun outs res=>outs=[]/\res=[.one (D.int (k+n))]):=by
 refine af.ob (C:=C.dw) (n:=Tryz.f126.ntmps) bC bD Tryz.func126 rfl rfl ?_;simp only[Tryz.f126];apply aa;refine ab fun K hK=>?_;simp[C.dw];apply hK;clear hK K;show AWp _ _ _ _ _;apply aa;apply aa;refine ab fun K hK=>?_;simp[C.dw];apply hK;clear hK K;show AWp _ _ _ _ _;apply ak;refine bm (fun x:Nat=>⟨ofL [(0,.d (.sh 1 n (ints (gA k n)))),(1,.int (k+x)),(5,.int x)],aF []⟩) (fun x=>x<=n) (fun x=>n - x) 0 (by simp[C.dw]) (by simp) ?_;intro x1 hx1 R1 hR1;apply aa;apply aa;refine ab fun K hK=>?_;simp[C.dw];apply hK;clear hK K;show AWp _ _ _ _ _;refine ap _ rfl (fun hc1=>?_) (fun hc1=>?_)
 ·apply au;show AWp _ _ _ _ _;apply aa;apply ak;apply aa;apply aa;have h1:x1 < n:=by simpa using hc1
  refine ab fun K hK=>?_;simp[C.dw,ao,CN,h1];apply hK;clear hK K;show AWp _ _ _ _ _;refine ap _ rfl (fun hc2=>?_) (fun hc2=>?_)
  ·simp at hc2
  ·apply au;show AWp _ _ _ _ _;refine ab fun K hK=>?_;simp[C.dw];rw[aj (x:=k+x1+1) (by omega) (by omega)];apply hK;clear hK K;show AWp _ _ _ _ _;refine ab fun K hK=>?_;simp[C.dw,ay (show x1 < 4611686018427387904 by omega)];apply hK;clear hK K;simp[C.dw];rw[show k+(x1:Int)+1=k+((x1+1:Nat):Int) by omega];exact hR1 (x1+1) h1 (by omega)
 ·apply aZ;show AWp _ _ _ _ _;apply aa;refine ab fun K hK=>?_;simp[C.dw];apply hK;clear hK K;show AWp _ _ _ _ _;apply aI;have hj2:x1=n:=by simp at hc1;omega
  simp[C.dw,hj2]
theorem pL (a b:Int) (ha:-4611686018427387904 < a/\a < 4611686018427387904) (hb:-4611686018427387904 < b/\b < 4611686018427387904):af Tryz.prog F.ie [.int a,.int b] [] true (fun outs res=>outs=[]/\res=[.one (D.int (Int.gcd a b:Int))]):=by
 refine af.ob (C:=C.ie) (n:=Tryz.f133.ntmps) bC bD Tryz.func133 rfl rfl ?_;simp only[Tryz.f133];apply aa;refine ab fun K hK=>?_;simp[C.ie];apply hK;clear hK K;show AWp _ _ _ _ _;apply aa;apply ak;refine bm (fun x:Int×Int=>⟨ofL [(0,.int x.1),(1,.int x.2)],aF []⟩) (fun x=>Int.gcd x.1 x.2=Int.gcd a b/\(-4611686018427387904 < x.1/\x.1 < 4611686018427387904)/\(-4611686018427387904 < x.2/\x.2 < 4611686018427387904)) (fun x=>x.2.natAbs) (a,b) (by simp[C.ie]) ⟨rfl,ha,hb⟩ ?_;intro x1 hx1 R1 hR1;obtain⟨p,q⟩:=x1;obtain⟨hg,hp,hq⟩:=hx1;dsimp only at hg hp hq ⊢;apply aa;apply aa;refine ab fun K hK=>?_;simp[C.ie];apply hK;clear hK K;show AWp _ _ _ _ _;refine ap _ rfl (fun hc1=>?_) (fun hc1=>?_)
 ·apply au;show AWp _ _ _ _ _;apply ak;have hq0:q≠0:=by simpa using hc1
  refine eG (.take 0 (.take 1 (.take 2 (.take 3 (.take 4 (.take 5 (.done))))))) ⟨by kernel_rfl,by kernel_rfl⟩ fun K hK=>?_;simp[C.ie,hq0];apply hK;clear hK K;simp[C.ie];have hn:(p.tmod q).natAbs < q.natAbs:=by rw[Int.natAbs_tmod];exact Nat.mod_lt _ (by omega)
  refine hR1 (q,p.tmod q) ⟨?_,hq,by dsimp only;omega⟩ hn;rw[<-hg];unfold Int.gcd;rw[Int.natAbs_tmod,Nat.gcd_comm p.natAbs,Nat.gcd_rec q.natAbs p.natAbs,Nat.gcd_comm]
 ·apply aZ;show AWp _ _ _ _ _;apply aa;have hq0:q=0:=by simpa using hc1
  subst hq0;refine ab fun K hK=>?_;simp[C.ie];rw[aj (x:=-p) (by omega) (by omega)];apply hK;clear hK K;show AWp _ _ _ _ _;apply aI;have hpg:max p (-p)=(Int.gcd a b:Int):=by rw[<-hg];simp[Int.gcd];omega
  simp[C.ie,hpg]
set_option maxRecDepth 10000
theorem xY (xs:List Int) (left:Int) (h0:0<=left) (h1:left<=1048576) (hx:xs.length < 4611686018427387904):af Tryz.prog F.fk [.d (shI xs),.int left] [] true (fun outs res=>outs=[]/\∃ r:Int,res=[.one (D.int r)]/\(r=-1\/(0<=r/\r+xs.length=left))):=by
 refine af.ob (C:=C.fk) (n:=Tryz.f75.ntmps) bC bD Tryz.func75 rfl rfl ?_;simp only[Tryz.f75];apply aa;refine ab fun K hK=>?_;simp[C.fk];apply hK;clear hK K;show AWp _ _ _ _ _;apply aa;refine ab fun K hK=>?_;simp[C.fk];rw[aj (x:=left - xs.length) (by omega) (by omega)];apply hK;clear hK K;show AWp _ _ _ _ _;apply aa;apply aa;refine ab fun K hK=>?_;simp[C.fk];apply hK;clear hK K;show AWp _ _ _ _ _;refine ap _ rfl (fun hc1=>?_) (fun hc1=>?_)
 ·apply aa;refine ab fun K hK=>?_;simp[C.fk];apply hK;clear hK K;show AWp _ _ _ _ _;apply aI;simp[C.fk]
 ·apply au;show AWp _ _ _ _ _;apply aa;refine ab fun K hK=>?_;simp[C.fk];apply hK;clear hK K;show AWp _ _ _ _ _;apply aI;simp at hc1;simp[C.fk]
  right;omega
theorem pY (xs:List Int) (hx:xs.length<=1048576):af Tryz.prog F.ef [.d (shI xs)] [] true (fun outs res=>outs=[]/\res=[.one (owI xs)]):=by
 refine af.ob (C:=C.ef) (n:=Tryz.f25.ntmps) bC bD Tryz.func25 rfl rfl ?_;simp only[Tryz.f25];apply aa;refine ab fun K hK=>?_;simp[C.ef];apply hK;clear hK K;show AWp _ _ _ _ _;apply aa;refine ab fun K hK=>?_;simp[C.ef,cL,show (8:Int)*xs.length<=281474976710656 by omega,show (xs.length:Int)<=281474976710656 by omega];apply hK;clear hK K;show AWp _ _ _ _ _;apply aa;apply aa;refine ab fun K hK=>?_;simp[C.ef];apply hK;clear hK K;show AWp _ _ _ _ _;apply ak;refine bm (fun x:Nat×List Int=>⟨ofL [(0,.d (shI xs)),(3,.al (3,0) [] 0 xs.length),(4,.int x.1)],aF [((3,0),some (.ow 1 xs.length (ints x.2)))]⟩) (fun x=>x.1<=xs.length/\x.2=xs.take x.1 ++ List.replicate (xs.length - x.1) 0) (fun x=>xs.length - x.1) (0,List.replicate xs.length 0) (by simp[C.ef]) (by simp) ?_;intro x1 hx1 R1 hR1;obtain⟨j,gs⟩:=x1;obtain⟨hj,hg⟩:=hx1;dsimp only at hj hg ⊢;apply aa;apply aa;refine ab fun K hK=>?_;simp[C.ef];apply hK;clear hK K;show AWp _ _ _ _ _;refine ap _ rfl (fun hc1=>?_) (fun hc1=>?_)
 ·apply au;show AWp _ _ _ _ _;apply aa;apply ak;have h1:j < xs.length:=by simpa using hc1
  have hl:gs.length=xs.length:=by rw[hg];simp;omega
  refine ab fun K hK=>?_;simp[C.ef,hl,h1,ao];apply hK;clear hK K;show AWp _ _ _ _ _;refine ab fun K hK=>?_;simp[C.ef,ay (show j < 4611686018427387904 by omega)];apply hK;clear hK K;simp[C.ef];refine hR1 (j+1,_) ⟨h1,?_⟩ (by dsimp only;omega);dsimp only;rw[hg,C5 xs j h1 0]
 ·apply aZ;show AWp _ _ _ _ _;apply aa;refine ab fun K hK=>?_;simp[C.ef];apply hK;clear hK K;show AWp _ _ _ _ _;apply aI;have hj2:j=xs.length:=by simp at hc1;omega
  simp[C.ef,hg,hj2]
structure Qtm where
 e:List Int
 h:Int
 c:Int
deriving DecidableEq
structure Qsm where
 v:Int
 ts:List Qtm
deriving DecidableEq
def qtS (t:Qtm):List D:=[shI t.e,D.int t.h,D.int t.c]
def qtO (t:Qtm):List D:=[owI t.e,D.int t.h,D.int t.c]
def qS (f:Qsm):List D:=[D.int f.v,.sh 3 f.ts.length (rows qtS f.ts)]
def qO (f:Qsm):List D:=[D.int f.v,.ow 3 f.ts.length (rows qtO f.ts)]
theorem ns (t:Qtm):(qtS t).length=3:=rfl
theorem gc (t:Qtm):(qtO t).length=3:=rfl
@[simp] theorem I8 (l:List Qtm):(rows qtS l).length=3*l.length:=cn ns l
@[simp] theorem HZ (l:List Qtm):(rows qtO l).length=3*l.length:=cn gc l
@[simp] theorem Kp (l:List Qtm):shareL (rows qtO l)=rows qtS l:=by
 rw[jx];congr 1;funext t;simp[qtO,qtS,shareL,eX,di]
@[simp] theorem KA (l:List Qtm):noShL (rows qtO l):=iF (fun t=>by simp[qtO,noShL,ij,kR]) l
section
variable {l:List Qtm} {i:Nat}
theorem bI (h:i < l.length):(rows qtS l)[3*i]? = some (shI l[i].e)/\∀ h',(rows qtS l)[3*i]'h'=shI l[i].e:=fi (dp ns l i 0 h (by omega))
theorem bY (h:i < l.length):(rows qtS l)[3*i+1]? = some (D.int l[i].h)/\∀ h',(rows qtS l)[3*i+1]'h'=D.int l[i].h:=fi (dp ns l i 1 h (by omega))
theorem bW (h:i < l.length):(rows qtS l)[3*i+2]? = some (D.int l[i].c)/\∀ h',(rows qtS l)[3*i+2]'h'=D.int l[i].c:=fi (dp ns l i 2 h (by omega))
theorem nr (h:i < l.length):(rows qtO l)[3*i]? = some (owI l[i].e)/\∀ h',(rows qtO l)[3*i]'h'=owI l[i].e:=fi (dp gc l i 0 h (by omega))
theorem iP (h:i < l.length):(rows qtO l)[3*i+1]? = some (D.int l[i].h)/\∀ h',(rows qtO l)[3*i+1]'h'=D.int l[i].h:=fi (dp gc l i 1 h (by omega))
theorem nC (h:i < l.length):(rows qtO l)[3*i+2]? = some (D.int l[i].c)/\∀ h',(rows qtO l)[3*i+2]'h'=D.int l[i].c:=fi (dp gc l i 2 h (by omega))
theorem pI (h:i < l.length) (x:List Int):(rows qtO l).set (3*i) (.ow 1 x.length (ints x))=rows qtO (l.set i ⟨x,l[i].h,l[i].c⟩):=m9 gc l i 0 _ _ h (by omega) rfl
theorem uc (h:i < l.length) (x:Int):(rows qtO l).set (3*i+1) (.v (.int .i64 x))=rows qtO (l.set i ⟨l[i].e,x,l[i].c⟩):=m9 gc l i 1 _ _ h (by omega) rfl
theorem tK (h:i < l.length) (x:Int):(rows qtO l).set (3*i+2) (.v (.int .i64 x))=rows qtO (l.set i ⟨l[i].e,l[i].h,x⟩):=m9 gc l i 2 _ _ h (by omega) rfl
end
def eR (t:Qtm):Nat:=t.e.length+2
def nS (t:Qtm) (k:Int):Qtm:=⟨gA k t.e.length,k+t.e.length,k+t.e.length+1⟩
def qtZ:Option Qtm->List D
 | none=>[.v (.slice none 0 0),D.int 0,D.int 0]
 | some t=>qtO t
theorem Db (t:Option Qtm):(qtZ t).length=3:=by cases t <;> rfl
@[simp] theorem IW (l:List (Option Qtm)):(rows qtZ l).length=3*l.length:=cn Db l
theorem Dd {α:Type} {f:α->List D} (hk:∀ x,(f x).length=3) (xs:List α) (i:Nat) (d0 d1 d2:D) (y:α) (h:i < xs.length) (e:f y=[d0,d1,d2]):(((rows f xs).set (3*i) d0).set (3*i+1) d1).set (3*i+2) d2=rows f (xs.set i y):=by
 induction xs generalizing i with
 | nil=>simp at h
 | cons x xs ih=>
  cases i with
  | zero=>
   have hx:=hk x
   match hfx:f x,hx with
   | [a,b,c],_=>simp[rows,hfx,e]
  | succ i=>
   have hx:=hk x;simp only[rows,List.set_cons_succ];rw[List.set_append_right _ _ (by rw[hx];omega),List.set_append_right _ _ (by rw[hx];omega),List.set_append_right _ _ (by rw[hx];omega),hx,show 3*(i+1) - 3=3*i by omega,show 3*(i+1)+1 - 3=3*i+1 by omega,show 3*(i+1)+2 - 3=3*i+2 by omega,ih i (by simpa using h)]
theorem Ei {l:List Qtm} {i n:Nat} (h:i < l.length) (e:List Int) (u c:Int) (hn:e.length=n):(((rows qtO l).set (3*i) (.ow 1 n (ints e))).set (3*i+1) (.v (.int .i64 u))).set (3*i+2) (.v (.int .i64 c))=rows qtO (l.set i ⟨e,u,c⟩):=
 Dd gc l i _ _ _ _ h (by subst hn;rfl)
theorem gv (l:List Qtm) (t:Qtm):rows qtO l ++ [D.ow 1 t.e.length (ints t.e),D.v (.int .i64 t.h),D.v (.int .i64 t.c)]=rows qtO (l ++ [t]):=by
 rw[dT];rfl
abbrev aQT (t:Qtm):FV:=.ag [.d (shI t.e),.int t.h,.int t.c]
abbrev aQ (f:Qsm):FV:=.ag [.int f.v,.d (.sh 3 f.ts.length (rows qtS f.ts))]
theorem vh {a b:Qtm}:a=b↔a.e=b.e/\a.h=b.h/\a.c=b.c:=by
 cases a;cases b;simp
theorem zI {a b:Qsm}:a=b↔a.v=b.v/\a.ts=b.ts:=by
 cases a;cases b;simp
end Go.Proofs.YtncfmemhjahpeaaGreat.Ab
namespace Go.Proofs.YtncfmemhjahpeaaGreat.Ab
open Go
set_option maxRecDepth 10000
theorem vW (a b:Qtm) (hx:a.e.length < 4611686018427387904):af Tryz.prog F.cR [aQT a,aQT b] [] true (fun outs res=>outs=[]/\res=[.one (D.bool (decide (a=b)))]):=by
 refine af.ob (C:=C.cR) (n:=Tryz.f161.ntmps) bC bD Tryz.func161 rfl rfl ?_;simp only[Tryz.f161];apply aa;refine ab fun K hK=>?_;simp[C.cR];apply hK;clear hK K;show AWp _ _ _ _ _;apply aa;apply aa;refine aK ([0,1,2,3,4] ++ ([5])) rfl fun K hK=>?_;refine oSg fun L hL=>?_;simp[C.cR];refine ae (me a.e b.e hx) (by simp) (by simp) ?_;simp[C.cR];apply hL;clear hL L;refine oEn fun L hL=>?_;simp[C.cR];apply hL;clear hL L;simp[C.cR];apply hK;clear hK K;show AWp _ _ _ _ _;refine ap _ rfl (fun hc1=>?_) (fun hc1=>?_)
 ·apply aa;refine ab fun K hK=>?_;simp[C.cR];apply hK;clear hK K;show AWp _ _ _ _ _;apply aI;simp at hc1;simp[C.cR,vh,hc1]
 ·apply au;show AWp _ _ _ _ _;apply aa;apply aa;refine ab fun K hK=>?_;simp[C.cR];apply hK;clear hK K;show AWp _ _ _ _ _;refine ap _ rfl (fun hc2=>?_) (fun hc2=>?_)
  ·apply aa;refine ab fun K hK=>?_;simp[C.cR];apply hK;clear hK K;show AWp _ _ _ _ _;apply aI;simp at hc2;simp[C.cR,vh,hc2]
  ·apply au;show AWp _ _ _ _ _;apply aa;apply aa;refine ab fun K hK=>?_;simp[C.cR];apply hK;clear hK K;show AWp _ _ _ _ _;refine ap _ rfl (fun hc3=>?_) (fun hc3=>?_)
   ·apply aa;refine ab fun K hK=>?_;simp[C.cR];apply hK;clear hK K;show AWp _ _ _ _ _;apply aI;simp at hc3;simp[C.cR,vh,hc3]
   ·apply au;show AWp _ _ _ _ _;apply aa;refine ab fun K hK=>?_;simp[C.cR];apply hK;clear hK K;show AWp _ _ _ _ _;apply aI;simp at hc1 hc2 hc3;simp[C.cR,vh,hc1,hc2,hc3]
theorem vf (xs ys:List Qtm) (hx:xs.length < 4611686018427387904) (hx2:∀ t∈xs,t.e.length < 4611686018427387904):af Tryz.prog F.cq [.d (.sh 3 xs.length (rows qtS xs)),.d (.sh 3 ys.length (rows qtS ys))] [] true (fun outs res=>outs=[]/\res=[.one (D.bool (decide (xs=ys)))]):=by
 refine af.ob (C:=C.cq) (n:=Tryz.f125.ntmps) bC bD Tryz.func125 rfl rfl ?_;simp only[Tryz.f125];apply aa;refine ab fun K hK=>?_;simp[C.cq];apply hK;clear hK K;show AWp _ _ _ _ _;apply aa;apply aa;refine ab fun K hK=>?_;simp[C.cq];apply hK;clear hK K;show AWp _ _ _ _ _;refine ap _ rfl (fun hc1=>?_) (fun hc1=>?_)
 ·apply aa;refine ab fun K hK=>?_;simp[C.cq];apply hK;clear hK K;show AWp _ _ _ _ _;apply aI;simp at hc1;simp[C.cq];intro e;simp[e] at hc1
 ·apply au;show AWp _ _ _ _ _;apply aa;apply aa;refine ab fun K hK=>?_;simp[C.cq];apply hK;clear hK K;show AWp _ _ _ _ _;apply ak;have e:xs.length=ys.length:=by simp at hc1;omega
  refine bm (fun k:Nat=>⟨ofL [(0,.d (.sh 3 xs.length (rows qtS xs))),(1,.d (.sh 3 ys.length (rows qtS ys))),(5,FV.int k)],aF []⟩) (fun k=>k<=xs.length/\xs.take k=ys.take k) (fun k=>xs.length - k) 0 (by simp[C.cq]) (by simp) ?_;intro x1 hx1 R1 hR1;obtain⟨hk,ht⟩:=hx1;apply aa;apply aa;refine ab fun K hK=>?_;simp[C.cq];apply hK;clear hK K;show AWp _ _ _ _ _;refine ap _ rfl (fun hc2=>?_) (fun hc2=>?_)
  ·apply au;show AWp _ _ _ _ _;apply aa;apply ak;apply aa;have h1:x1 < xs.length:=by simpa using hc2
   have h2:x1 < ys.length:=by omega
   refine bR [(true,0),(true,1),(true,2),(true,3),(true,4),(true,5),(true,6),(true,7),(false,8),(true,9)] ⟨by kernel_rfl,by kernel_rfl⟩ ([0,1,2,3,4,5,6,7,8] ++ ([9])) rfl fun K hK=>?_;refine oSg fun L hL=>?_;simp[C.cq,h1,h2,bI h1,bY h1,bW h1,bI h2,bY h2,bW h2];refine ae (vW xs[x1] ys[x1] (hx2 _ (List.getElem_mem h1))) (by simp) (by simp) ?_;simp[C.cq,h1,h2,bI h1,bY h1,bW h1,bI h2,bY h2,bW h2];apply hL;clear hL L;refine oEn fun L hL=>?_;simp[C.cq,h1,h2,bI h1,bY h1,bW h1,bI h2,bY h2,bW h2];apply hL;clear hL L;simp[C.cq,h1,h2,bI h1,bY h1,bW h1,bI h2,bY h2,bW h2];apply hK;clear hK K;show AWp _ _ _ _ _;refine ap _ rfl (fun hc3=>?_) (fun hc3=>?_)
   ·apply aa;refine ab fun K hK=>?_;simp[C.cq];apply hK;clear hK K;show AWp _ _ _ _ _;apply aI;simp at hc3;simp[C.cq];intro e;simp[e] at hc3
   ·apply au;show AWp _ _ _ _ _;refine ab fun K hK=>?_;simp[C.cq,ay (show x1 < 4611686018427387904 by omega)];apply hK;clear hK K;simp[C.cq];simp at hc3;refine hR1 (x1+1) ⟨h1,?_⟩ (by omega);rw[List.take_succ_eq_append_getElem h1,List.take_succ_eq_append_getElem h2,ht,hc3]
  ·apply aZ;show AWp _ _ _ _ _;apply aa;refine ab fun K hK=>?_;simp[C.cq];apply hK;clear hK K;show AWp _ _ _ _ _;apply aI;have hk2:x1=xs.length:=by simp at hc2;omega
   simp[C.cq];rw[hk2,List.take_length,e,List.take_length] at ht;exact ht
theorem xZ (a b:Qsm) (hx:a.ts.length < 4611686018427387904) (hx2:∀ t∈a.ts,t.e.length < 4611686018427387904):af Tryz.prog F.dC [aQ a,aQ b] [] true (fun outs res=>outs=[]/\res=[.one (D.bool (decide (a=b)))]):=by
 refine af.ob (C:=C.dC) (n:=Tryz.f76.ntmps) bC bD Tryz.func76 rfl rfl ?_;simp only[Tryz.f76];apply aa;refine ab fun K hK=>?_;simp[C.dC];apply hK;clear hK K;show AWp _ _ _ _ _;apply aa;apply aa;refine ab fun K hK=>?_;simp[C.dC];apply hK;clear hK K;show AWp _ _ _ _ _;refine ap _ rfl (fun hc1=>?_) (fun hc1=>?_)
 ·apply aa;refine ab fun K hK=>?_;simp[C.dC];apply hK;clear hK K;show AWp _ _ _ _ _;apply aI;simp at hc1;simp[C.dC,zI,hc1]
 ·apply au;show AWp _ _ _ _ _;apply aa;apply aa;refine aK ([0,1,2,3,4] ++ ([5])) rfl fun K hK=>?_;refine oSg fun L hL=>?_;simp[C.dC];refine ae (vf a.ts b.ts hx hx2) (by simp) (by simp) ?_;simp[C.dC];apply hL;clear hL L;refine oEn fun L hL=>?_;simp[C.dC];apply hL;clear hL L;simp[C.dC];apply hK;clear hK K;show AWp _ _ _ _ _;refine ap _ rfl (fun hc2=>?_) (fun hc2=>?_)
  ·apply aa;refine ab fun K hK=>?_;simp[C.dC];apply hK;clear hK K;show AWp _ _ _ _ _;apply aI;simp at hc2;simp[C.dC,zI,hc2]
  ·apply au;show AWp _ _ _ _ _;apply aa;refine ab fun K hK=>?_;simp[C.dC];apply hK;clear hK K;show AWp _ _ _ _ _;apply aI;simp at hc1 hc2;simp[C.dC,zI,hc1,hc2]
theorem sG (ts:List Qtm) (k:Int) (hk0:0<=k) (hk:k+cW eR ts < 4611686018427387904) (hx:ts.length < 4611686018427387904):af Tryz.prog F.cb [.al (0,0) [] 0 ts.length,.int k] [((0,0),.ow 3 ts.length (rows qtO ts))] true (fun outs res=>outs=[.ow 3 ts.length (rows qtO (mkL eR nS ts k))]/\res=[.one (D.int (k+cW eR ts))]):=by
 refine af.ob (C:=C.cb) (n:=Tryz.f77.ntmps) bC bD Tryz.func77 rfl rfl ?_;simp only[Tryz.f77];apply aa;refine ab fun K hK=>?_;simp[C.cb];apply hK;clear hK K;show AWp _ _ _ _ _;apply aa;apply aa;refine ab fun K hK=>?_;simp[C.cb];apply hK;clear hK K;show AWp _ _ _ _ _;apply ak;refine bm (fun x:Nat×List Qtm×Int=>⟨ofL [(0,.al (0,0) [] 0 ts.length),(1,.int x.2.2),(5,.int x.1),(1000,.al (0,0) [] 0 ts.length)],aF [((0,0),some (.ow 3 ts.length (rows qtO x.2.1)))]⟩) (fun x=>x.1<=ts.length/\x.2.1=mkL eR nS (ts.take x.1) k ++ ts.drop x.1/\x.2.2=k+cW eR (ts.take x.1)) (fun x=>ts.length - x.1) (0,ts,k) (by simp[C.cb]) (by simp[mkL,cW]) ?_;intro x1 hx1 R1 hR1;obtain⟨j,gs,kk⟩:=x1;obtain⟨h0,hg,he⟩:=hx1;dsimp only at h0 hg he ⊢;apply aa;apply aa;refine ab fun K hK=>?_;simp[C.cb];apply hK;clear hK K;show AWp _ _ _ _ _;refine ap _ rfl (fun hc1=>?_) (fun hc1=>?_)
 ·apply au;show AWp _ _ _ _ _;apply aa;apply ak;apply aa;have h1:j < ts.length:=by simpa using hc1
  have hl:gs.length=ts.length:=by rw[hg];simp;omega
  have h2:j < gs.length:=by omega
  have hge:gs[j]=ts[j]:=by
   have:=zX eR nS ts k j h1;rw[<-hg,List.getElem?_eq_getElem h2] at this;injection this
  have hb:=pz eR ts j h1;have hcj:eR ts[j]=ts[j].e.length+2:=rfl;refine aK ([0,1,2,3,4,5,6] ++ ([7])) rfl fun K hK=>?_;refine oSg fun L hL=>?_;simp[C.cb,hl,h1,h2,hge,nr h2,iP h2,nC h2,cB,pI h2];refine ae (kW ts[j].e kk (by omega) (by omega)) (by simp) (by simp) ?_;simp[C.cb,hl,h1,h2,hge,nr h2,iP h2,nC h2,cB,pI h2];apply hL;clear hL L;refine oEn fun L hL=>?_;simp[C.cb,hl,h1,h2,hge,nr h2,iP h2,nC h2,cB,pI h2];apply hL;clear hL L;simp[C.cb,hl,h1,h2,hge,nr h2,iP h2,nC h2,cB,pI h2];apply hK;clear hK K;show AWp _ _ _ _ _;apply aa;refine ab fun K hK=>?_;simp[C.cb,h1,h2,hl,iP h2];apply hK;clear hK K;show AWp _ _ _ _ _;apply aa;refine ab fun K hK=>?_;simp[C.cb];rw[aj (x:=kk+ts[j].e.length+1) (by omega) (by omega)];apply hK;clear hK K;show AWp _ _ _ _ _;apply aa;refine ab fun K hK=>?_;simp[C.cb,h1,h2,hl,nC h2];apply hK;clear hK K;show AWp _ _ _ _ _;refine ab fun K hK=>?_;simp[C.cb];rw[aj (x:=kk+ts[j].e.length+1+1) (by omega) (by omega)];apply hK;clear hK K;show AWp _ _ _ _ _;refine ab fun K hK=>?_;simp[C.cb,ay (show j < 4611686018427387904 by omega)];apply hK;clear hK K;simp[C.cb];rw[Ei h2 _ _ _ (by simp)];refine hR1 (j+1,_,_) ⟨h1,?_,?_⟩ (by dsimp only;omega)
  ·dsimp only;rw[hg,he];exact yx eR nS ts k j h1
  ·dsimp only;rw[lV _ _ _ h1];omega
 ·apply aZ;show AWp _ _ _ _ _;apply aa;refine ab fun K hK=>?_;simp[C.cb];apply hK;clear hK K;show AWp _ _ _ _ _;apply aI;have hj2:j=ts.length:=by simp at hc1;omega
  simp[C.cb,hj2,hg,he]
theorem sD (ts:List Qtm) (k:Int) (hk0:0<=k) (hk:k+cW eR ts < 4611686018427387904) (hx:ts.length < 4611686018427387904):af Tryz.prog F.b8 [.d (.sh 3 ts.length (rows qtS (mkL eR nS ts k))),.int k] [] true (fun outs res=>outs=[]/\res=[.one (D.int (k+cW eR ts))]):=by
 refine af.ob (C:=C.b8) (n:=Tryz.f78.ntmps) bC bD Tryz.func78 rfl rfl ?_;simp only[Tryz.f78];apply aa;refine ab fun K hK=>?_;simp[C.b8];apply hK;clear hK K;show AWp _ _ _ _ _;apply aa;apply aa;refine ab fun K hK=>?_;simp[C.b8];apply hK;clear hK K;show AWp _ _ _ _ _;apply ak;refine bm (fun x:Nat×Int=>⟨ofL [(0,.d (.sh 3 ts.length (rows qtS (mkL eR nS ts k)))),(1,.int x.2),(5,.int x.1)],aF []⟩) (fun x=>x.1<=ts.length/\x.2=k+cW eR (ts.take x.1)) (fun x=>ts.length - x.1) (0,k) (by simp[C.b8]) (by simp[cW]) ?_;intro x1 hx1 R1 hR1;obtain⟨j,kk⟩:=x1;obtain⟨h0,he⟩:=hx1;dsimp only at h0 he ⊢;apply aa;apply aa;refine ab fun K hK=>?_;simp[C.b8];apply hK;clear hK K;show AWp _ _ _ _ _;refine ap _ rfl (fun hc1=>?_) (fun hc1=>?_)
 ·apply au;show AWp _ _ _ _ _;apply aa;apply ak;apply aa;have h1:j < ts.length:=by simpa using hc1
  have h2:j < (mkL eR nS ts k).length:=by simpa using h1
  have hge:(mkL eR nS ts k)[j]=⟨gA kk ts[j].e.length,kk+ts[j].e.length,kk+ts[j].e.length+1⟩:=by
   rw[yC _ _ _ _ _ h1,he];rfl
  have hb:=pz eR ts j h1;have hcj:eR ts[j]=ts[j].e.length+2:=rfl;refine aK ([0,1,2,3,4,5,6] ++ ([7])) rfl fun K hK=>?_;refine oSg fun L hL=>?_;simp[C.b8,h1,h2,hge,bI h2];refine ae (vw ts[j].e.length kk (by omega) (by omega)) (by simp) (by simp) ?_;simp[C.b8,h1,h2,hge,bI h2];apply hL;clear hL L;refine oEn fun L hL=>?_;simp[C.b8,h1,h2,hge,bI h2];apply hL;clear hL L;simp[C.b8,h1,h2,hge,bI h2];apply hK;clear hK K;show AWp _ _ _ _ _;apply aa;apply aa;refine ab fun K hK=>?_;simp[C.b8];apply hK;clear hK K;show AWp _ _ _ _ _;refine ap _ rfl (fun hc2=>?_) (fun hc2=>?_)
  ·simp at hc2;omega
  ·apply au;show AWp _ _ _ _ _;apply aa;apply aa;refine ab fun K hK=>?_;simp[C.b8,h1,h2,hge,bY h2];apply hK;clear hK K;show AWp _ _ _ _ _;refine ap _ rfl (fun hc3=>?_) (fun hc3=>?_)
   ·simp at hc3
   ·apply au;show AWp _ _ _ _ _;apply aa;refine ab fun K hK=>?_;simp[C.b8];rw[aj (x:=kk+ts[j].e.length+1) (by omega) (by omega)];apply hK;clear hK K;show AWp _ _ _ _ _;apply aa;apply aa;refine ab fun K hK=>?_;simp[C.b8,h1,h2,hge,bW h2];apply hK;clear hK K;show AWp _ _ _ _ _;refine ap _ rfl (fun hc4=>?_) (fun hc4=>?_)
    ·simp at hc4
    ·apply au;show AWp _ _ _ _ _;refine ab fun K hK=>?_;simp[C.b8];rw[aj (x:=kk+ts[j].e.length+1+1) (by omega) (by omega)];apply hK;clear hK K;show AWp _ _ _ _ _;refine ab fun K hK=>?_;simp[C.b8,ay (show j < 4611686018427387904 by omega)];apply hK;clear hK K;simp[C.b8];refine hR1 (j+1,_) ⟨h1,?_⟩ (by dsimp only;omega);dsimp only;rw[lV _ _ _ h1];omega
 ·apply aZ;show AWp _ _ _ _ _;apply aa;refine ab fun K hK=>?_;simp[C.b8];apply hK;clear hK K;show AWp _ _ _ _ _;apply aI;have hj2:j=ts.length:=by simp at hc1;omega
  simp[C.b8];rw[he,hj2,List.take_length]
section
variable {K:Type} [DecidableEq K]
def co (k:K):List (K×Int)->Int
 | []=>0
 | x :: l=>(if x.1=k then x.2 else 0)+co k l
theorem eD (k:K):∀ (l r:List (K×Int)),co k (l ++ r)=co k l+co k r
 | [],r=>by simp[co]
 | x :: l,r=>by simp[co,eD k l r,Int.add_assoc]
theorem fc (k:K):∀ (l:List (K×Int)),(∀ x∈l,x.1≠k)->co k l=0
 | [],_=>rfl
 | x :: l,h=>by
  simp only[co];rw[if_neg (h x (by simp)),fc k l fun y hy=>h y (by simp[hy])];rfl
theorem lu (k:K) {l r:List (K×Int)} (h:l.Perm r):co k l=co k r:=by
 induction h with
 | nil=>rfl
 | cons x _ ih=>simp[co,ih]
 | swap x y l=>simp only[co];omega
 | trans _ _ ih1 ih2=>rw[ih1,ih2]
theorem zw {k:K}:∀ {l:List (K×Int)},co k l≠0->∃ x∈l,x.1=k
 | [],h=>absurd rfl h
 | x :: l,h=>by
  simp only[co] at h
  by_cases e:x.1=k
  ·exact⟨x,by simp,e⟩
  ·rw[if_neg e] at h;obtain⟨y,hy,e2⟩:=zw (k:=k) (l:=l) (by omega);exact⟨y,by simp[hy],e2⟩
structure Ord (lt:K->K->Bool):Prop where
 irr:∀ a,lt a a=false
 tr:∀ a b c,lt a b=true->lt b c=true->lt a c=true
 tot:∀ a b,lt a b=true\/a=b\/lt b a=true
variable {lt:K->K->Bool}
def dY (lt:K->K->Bool) (l:List (K×Int)):Prop:=l.Pairwise fun a b=>lt b.1 a.1=true
def Nz (l:List (K×Int)):Prop:=∀ x∈l,x.2≠0
theorem df (ho:Ord lt) {x:K×Int} {l:List (K×Int)} (h:dY lt (x :: l)):∀ y∈l,y.1≠x.1:=by
 intro y hy e;have:=(List.pairwise_cons.1 h).1 y hy;rw[e,ho.irr] at this;simp at this
theorem vr (ho:Ord lt) {x:K×Int} {l:List (K×Int)} (h:dY lt (x :: l)) {k:K} (hk:lt x.1 k=true):∀ y∈x :: l,y.1≠k:=by
 intro y hy e;rcases List.mem_cons.1 hy with rfl | hy
 ·rw[e,ho.irr] at hk;simp at hk
 ·have:=ho.tr _ _ _ ((List.pairwise_cons.1 h).1 y hy) hk;rw[e,ho.irr] at this;simp at this
theorem sQ (ho:Ord lt):∀ (l r:List (K×Int)),dY lt l->dY lt r->Nz l->Nz r->(∀ k,co k l=co k r)->l=r
 | [],[],_,_,_,_,_=>rfl
 | [],y :: r,_,h2,_,z2,h=>by
  have:=h y.1;simp only[co,if_true] at this;rw[fc y.1 r (df ho h2)] at this;exact absurd (by omega) (z2 y (by simp))
 | x :: l,[],h1,_,z1,_,h=>by
  have:=h x.1;simp only[co,if_true] at this;rw[fc x.1 l (df ho h1)] at this;exact absurd (by omega) (z1 x (by simp))
 | x :: l,y :: r,h1,h2,z1,z2,h=>by
  rcases ho.tot x.1 y.1 with e | e | e
  ·have:=h y.1;rw[fc y.1 _ (vr ho h1 e)] at this;simp only[co,if_true] at this;rw[fc y.1 r (df ho h2)] at this;exact absurd (by omega) (z2 y (by simp))
  ·have e2:x.2=y.2:=by
    have:=h x.1;simp only[co,if_true] at this;rw[if_pos e.symm,fc x.1 l (df ho h1),e,fc y.1 r (df ho h2)] at this;omega
   have exy:x=y:=Prod.ext e e2;subst exy;congr 1;refine sQ ho l r (List.pairwise_cons.1 h1).2 (List.pairwise_cons.1 h2).2 (fun z hz=>z1 z (by simp[hz])) (fun z hz=>z2 z (by simp[hz])) fun k=>?_;have:=h k;simp only[co] at this;omega
  ·have:=h x.1;rw[fc x.1 (y :: r) (vr ho h2 e)] at this;simp only[co,if_true] at this;rw[fc x.1 l (df ho h1)] at this;exact absurd (by omega) (z1 x (by simp))
def eZ (lt:K->K->Bool) (k:K) (c:Int):List (K×Int)->List (K×Int)
 | []=>if c=0 then [] else [(k,c)]
 | x :: l=>if x.1=k then (if x.2+c=0 then l else (k,x.2+c) :: l) else if lt x.1 k then (if c=0 then x :: l else (k,c) :: x :: l) else x :: eZ lt k c l
def nf (lt:K->K->Bool):List (K×Int)->List (K×Int)
 | []=>[]
 | x :: l=>eZ lt x.1 x.2 (nf lt l)
theorem sZ {k:K} {c:Int}:∀ {l:List (K×Int)} {y:K×Int},y∈eZ lt k c l->y.1=k\/y∈l
 | [],y,h=>by
  simp only[eZ] at h;split at h
  ·simp at h
  ·simp only[List.mem_singleton] at h;subst h;exact .inl rfl
 | x :: l,y,h=>by
  simp only[eZ] at h;split at h
  ·split at h
   ·exact .inr (by simp[h])
   ·rcases List.mem_cons.1 h with rfl | h
    ·exact .inl rfl
    ·exact .inr (by simp[h])
  ·split at h
   ·split at h
    ·exact .inr h
    ·rcases List.mem_cons.1 h with rfl | h
     ·exact .inl rfl
     ·exact .inr h
   ·rcases List.mem_cons.1 h with rfl | h
    ·exact .inr (by simp)
    ·rcases sZ h with h | h
     ·exact .inl h
     ·exact .inr (by simp[h])
theorem xL (ho:Ord lt) (k:K) (c:Int):∀ (l:List (K×Int)),dY lt l->dY lt (eZ lt k c l)
 | [],_=>by
  simp only[eZ];split
  ·exact List.Pairwise.nil
  ·exact List.pairwise_singleton _ _
 | x :: l,h=>by
  have h1:=List.pairwise_cons.1 h;simp only[eZ];split
  ·rename_i e;split
   ·exact h1.2
   ·exact List.pairwise_cons.2 ⟨fun y hy=>by rw[<-e];exact h1.1 y hy,h1.2⟩
  ·rename_i e;split
   ·rename_i e2;split
    ·exact h
    ·refine List.pairwise_cons.2 ⟨fun y hy=>?_,h⟩;rcases List.mem_cons.1 hy with rfl | hy
     ·exact e2
     ·exact ho.tr _ _ _ (h1.1 y hy) e2
   ·rename_i e2;refine List.pairwise_cons.2 ⟨fun y hy=>?_,xL ho k c l h1.2⟩;rcases sZ hy with hy | hy
    ·rw[hy];rcases ho.tot k x.1 with q | q | q
     ·exact q
     ·exact absurd q.symm e
     ·exact absurd q e2
    ·exact h1.1 y hy
theorem AO (k:K) (c:Int):∀ (l:List (K×Int)),Nz l->Nz (eZ lt k c l)
 | [],_=>by
  simp only[eZ];split
  ·intro y hy;simp at hy
  ·rename_i hc;intro y hy;simp only[List.mem_singleton] at hy;subst hy;exact hc
 | x :: l,h=>by
  have h1:Nz l:=fun z hz=>h z (by simp[hz]);simp only[eZ];split
  ·split
   ·exact h1
   ·rename_i hc;intro y hy;rcases List.mem_cons.1 hy with rfl | hy
    ·exact hc
    ·exact h1 y hy
  ·split
   ·split
    ·exact h
    ·rename_i hc;intro y hy;rcases List.mem_cons.1 hy with rfl | hy
     ·exact hc
     ·exact h y hy
   ·intro y hy;rcases List.mem_cons.1 hy with rfl | hy
    ·exact h y (by simp)
    ·exact AO k c l h1 y hy
theorem A0 (k:K) (c:Int) (q:K):∀ (l:List (K×Int)),co q (eZ lt k c l)=(if k=q then c else 0)+co q l
 | []=>by
  simp only[eZ];split
  ·rename_i e;subst e;simp[co]
  ·simp[co]
 | x :: l=>by
  simp only[eZ];split
  ·rename_i e;split
   ·rename_i e2;simp only[co,e];split <;> omega
   ·simp only[co,e];split <;> omega
  ·split
   ·split
    ·rename_i e;subst e;simp
    ·simp only[co]
   ·simp only[co,A0 k c q l];omega
theorem fa (ho:Ord lt):∀ (l:List (K×Int)),dY lt (nf lt l)
 | []=>List.Pairwise.nil
 | x :: l=>xL ho _ _ _ (fa ho l)
theorem iq:∀ (l:List (K×Int)),Nz (nf lt l)
 | []=>by intro y hy;simp[nf] at hy
 | x :: l=>AO _ _ _ (iq l)
theorem gU (q:K):∀ (l:List (K×Int)),co q (nf lt l)=co q l
 | []=>rfl
 | x :: l=>by
  simp only[nf,A0,gU q l,co]
theorem lT:∀ {l:List (K×Int)} {y:K×Int},y∈nf lt l->∃ x∈l,x.1=y.1
 | [],y,h=>by simp[nf] at h
 | x :: l,y,h=>by
  rcases sZ h with h | h
  ·exact⟨x,by simp,h.symm⟩
  ·obtain⟨z,hz,e⟩:=lT h;exact⟨z,by simp[hz],e⟩
theorem eq (ho:Ord lt) {t l:List (K×Int)} (h1:dY lt t) (h2:Nz t) (h3:∀ k,co k t=co k l):t=nf lt l:=
 sQ ho t (nf lt l) h1 (fa ho l) h2 (iq l) fun k=>by rw[h3 k,gU]
end
def cz:List Int->List Int->Bool
 | [],[]=>false
 | [],_ :: _=>true
 | _ :: _,[]=>false
 | a :: x,b :: y=>if a=b then cz x y else decide (a < b)
theorem l4:∀ a,cz a a=false
 | []=>rfl
 | a :: x=>by simp[cz,l4 x]
theorem tR:∀ a b c,cz a b=true->cz b c=true->cz a c=true
 | [],[],_,h,_=>by simp[cz] at h
 | [],_ :: _,[],_,h=>by simp[cz] at h
 | [],_ :: _,_ :: _,_,_=>rfl
 | _ :: _,[],_,h,_=>by simp[cz] at h
 | _ :: _,_ :: _,[],_,h=>by simp[cz] at h
 | a :: x,b :: y,c :: z,h1,h2=>by
  simp only[cz] at h1 h2 ⊢
  by_cases e1:a=b
  ·subst e1;rw[if_pos rfl] at h1
   by_cases e2:a=c
   ·subst e2;rw[if_pos rfl] at h2 ⊢;exact tR x y z h1 h2
   ·rw[if_neg e2] at h2 ⊢;exact h2
  ·rw[if_neg e1] at h1
   by_cases e2:b=c
   ·subst e2;rw[if_neg e1];exact h1
   ·rw[if_neg e2] at h2;simp only[decide_eq_true_eq] at h1 h2;rw[if_neg (by omega)];simp only[decide_eq_true_eq];omega
theorem ny:∀ a b,cz a b=true\/a=b\/cz b a=true
 | [],[]=>.inr (.inl rfl)
 | [],_ :: _=>.inl rfl
 | _ :: _,[]=>.inr (.inr rfl)
 | a :: x,b :: y=>by
  simp only[cz]
  by_cases e:a=b
  ·subst e;simp only[if_true];rcases ny x y with h | h | h
   ·exact .inl h
   ·exact .inr (.inl (by rw[h]))
   ·exact .inr (.inr h)
  ·rw[if_neg e,if_neg (Ne.symm e)];simp only[decide_eq_true_eq];omega
theorem De:Ord cz:=⟨l4,tR,ny⟩
def qlt (a b:List Int×Int):Bool:=if a.1=b.1 then decide (a.2 < b.2) else cz a.1 b.1
theorem c7:Ord qlt:=by
 refine⟨fun a=>by simp[qlt],fun a b c h1 h2=>?_,fun a b=>?_⟩
 ·simp only[qlt] at h1 h2 ⊢
  by_cases e1:a.1=b.1
  ·by_cases e2:b.1=c.1
   ·rw[if_pos e1] at h1;rw[if_pos e2] at h2;rw[if_pos (e1.trans e2)];simp only[decide_eq_true_eq] at h1 h2 ⊢;omega
   ·rw[if_neg e2] at h2;rw[e1,if_neg e2];exact h2
  ·rw[if_neg e1] at h1
   by_cases e2:b.1=c.1
   ·rw[<-e2,if_neg e1];exact h1
   ·rw[if_neg e2] at h2;have:=tR _ _ _ h1 h2;rw[if_neg (fun e=>by rw[e,l4] at this;simp at this)];exact this
 ·simp only[qlt]
  by_cases e:a.1=b.1
  ·rw[if_pos e,if_pos e.symm];simp only[decide_eq_true_eq];rcases Int.lt_trichotomy a.2 b.2 with h | h | h
   ·exact .inl h
   ·exact .inr (.inl (Prod.ext e h))
   ·exact .inr (.inr h)
  ·rw[if_neg e,if_neg (Ne.symm e)];rcases ny a.1 b.1 with h | h | h
   ·exact .inl h
   ·exact absurd h e
   ·exact .inr (.inr h)
end Go.Proofs.YtncfmemhjahpeaaGreat.Ab
namespace Go.Proofs.YtncfmemhjahpeaaGreat.Ab
open Go
section
variable {K:Type} [DecidableEq K]
structure Act (lt:K->K->Bool) (mul dv:K->K->K) (D:K->Prop):Prop where
 mul_dv:∀ a b,D a->D b->mul (dv a b) b=a
 dv_lt:∀ x y b,D x->D y->D b->lt x y=true->lt (dv x b) (dv y b)=true
 mul_lt:∀ e x y,D e->D x->D y->lt x y=true->lt (mul e x) (mul e y)=true
 dmul:∀ a b,D a->D b->D (mul a b)
 ddv:∀ a b,D a->D b->D (dv a b)
def eY (mul:K->K->K) (e:K) (q:Int) (g:List (K×Int)):List (K×Int):=g.map fun y=>(mul e y.1,q*y.2)
def cV (mul:K->K->K) (a g:List (K×Int)):List (K×Int):=a.flatMap fun x=>eY mul x.1 x.2 g
def ew (lt:K->K->Bool) (mul dv:K->K->K) (chk:K->Int->Bool) (g:List (K×Int)) (b:K) (d:Int):Nat->List (K×Int)->Option (List (K×Int))
 | _,[]=>some []
 | 0,_ :: _=>none
 | k+1,x :: R=>if x.2.tmod d=0/\chk (dv x.1 b) (x.2.tdiv d)=true then
   (ew lt mul dv chk g b d k (nf lt (x :: R ++ eY mul (dv x.1 b) (-(x.2.tdiv d)) g))).map ((dv x.1 b,x.2.tdiv d) :: ·) else none
variable {lt:K->K->Bool} {mul dv:K->K->K} {D:K->Prop} {chk chk':K->Int->Bool} {g:List (K×Int)} {b:K} {d:Int}
theorem jP (mul:K->K->K) (k e:K) (q:Int):∀ g:List (K×Int),co k (eY mul e (-q) g)=-co k (eY mul e q g)
 | []=>rfl
 | y :: g=>by
  simp only[eY,List.map_cons,co];have:=jP mul k e q g;simp only[eY] at this;rw[this];split
  ·rw[Int.neg_mul];omega
  ·omega
theorem ri:∀ (k:Nat) (R O:List (K×Int)),ew lt mul dv chk g b d k R=some O->(∀ x∈O,chk' x.1 x.2=true)->ew lt mul dv chk' g b d k R=some O
 | k,[],O,h,_=>by cases k <;> exact h
 | 0,x :: R,O,h,_=>by simp[ew] at h
 | k+1,x :: R,O,h,hc=>by
  simp only[ew] at h ⊢;split at h
  ·rename_i h1;obtain⟨O',h2,h3⟩:=Option.map_eq_some_iff.1 h;subst h3;rw[if_pos ⟨h1.1,hc (dv x.1 b,x.2.tdiv d) (List.mem_cons_self ..)⟩,ri k _ O' h2 fun y hy=>hc y (by simp[hy])];rfl
  ·simp at h
theorem wP:∀ (k:Nat) (R O:List (K×Int)),ew lt mul dv chk g b d k R=some O->(∀ x∈O,chk x.1 x.2=true)/\O.length<=k
 | k,[],O,h=>by
  cases k <;> simp[ew] at h <;> subst h <;> simp
 | 0,x :: R,O,h=>by simp[ew] at h
 | k+1,x :: R,O,h=>by
  simp only[ew] at h;split at h
  ·rename_i h1;obtain⟨O',h2,h3⟩:=Option.map_eq_some_iff.1 h;subst h3;obtain⟨h4,h5⟩:=wP k _ O' h2;refine⟨fun y hy=>?_,by simp;omega⟩;rcases List.mem_cons.1 hy with rfl | hy
   ·exact h1.2
   ·exact h4 y hy
  ·simp at h
theorem sU:∀ (k:Nat) (R O:List (K×Int)),ew lt mul dv chk g b d k R=some O->∀ q,co q R=co q (cV mul O g)
 | k,[],O,h,q=>by
  cases k <;> simp[ew] at h <;> subst h <;> rfl
 | 0,x :: R,O,h,_=>by simp[ew] at h
 | k+1,x :: R,O,h,q=>by
  simp only[ew] at h;split at h
  ·obtain⟨O',h2,h3⟩:=Option.map_eq_some_iff.1 h;subst h3;have h4:=sU k _ O' h2 q;rw[gU,eD,jP] at h4;simp only[cV,List.flatMap_cons,eD];simp only[cV] at h4;omega
  ·simp at h
theorem xg {a d:Int} (h:a.tmod d=0):a.tdiv d*d=a:=by
 have:=Int.mul_tdiv_add_tmod a d;rw[h,Int.mul_comm] at this;omega
theorem xo (ho:Ord lt) (ha:Act lt mul dv D) {x:K×Int} {R:List (K×Int)} {G:List (K×Int)} (hR:dY lt (x :: R)) (hRD:∀ y∈x :: R,D y.1) (hg:dY lt ((b,d) :: G)) (hgD:∀ y∈(b,d) :: G,D y.1) (hm:x.2.tmod d=0) :
  (∀ y∈nf lt (x :: R ++ eY mul (dv x.1 b) (-(x.2.tdiv d)) ((b,d) :: G)),lt y.1 x.1=true/\D y.1):=by
 intro y hy;have hb:=hgD (b,d) (by simp);have hx:=hRD x (by simp);have hdv:=ha.ddv x.1 b hx hb;have key:D y.1/\(y.1=x.1\/lt y.1 x.1=true):=by
  obtain⟨z,hz,e⟩:=lT hy;rw[<-e];rcases List.mem_append.1 hz with hz | hz
  ·refine⟨hRD z hz,?_⟩;rcases List.mem_cons.1 hz with rfl | hz
   ·exact .inl rfl
   ·exact .inr (List.rel_of_pairwise_cons hR hz)
  ·obtain⟨u,hu,rfl⟩:=List.mem_map.1 hz;refine⟨ha.dmul _ _ hdv (hgD u hu),?_⟩;rcases List.mem_cons.1 hu with rfl | hu2
   ·exact .inl (ha.mul_dv _ _ hx hb)
   ·right
    have:=ha.mul_lt (dv x.1 b) u.1 b hdv (hgD u hu) hb (List.rel_of_pairwise_cons hg hu2)
    rwa [ha.mul_dv _ _ hx hb] at this
 refine⟨?_,key.1⟩;rcases key.2 with e | h
 ·exfalso;have hz:=iq _ y hy;have h1:co y.1 (nf lt (x :: R ++ eY mul (dv x.1 b) (-(x.2.tdiv d)) ((b,d) :: G)))=y.2:=by
   have hd:=fa ho (x :: R ++ eY mul (dv x.1 b) (-(x.2.tdiv d)) ((b,d) :: G));generalize nf lt (x :: R ++ eY mul (dv x.1 b) (-(x.2.tdiv d)) ((b,d) :: G))=N at hy hd;clear hz e key
   induction N with
   | nil=>simp at hy
   | cons z N ih=>
    simp only[co];rcases List.mem_cons.1 hy with rfl | hy2
    ·rw[if_pos rfl,fc _ _ (df ho hd)];omega
    ·rw[if_neg (fun e=>df ho hd y hy2 e.symm),ih hy2 (List.Pairwise.of_cons hd)];omega
  rw[gU,eD,jP,e] at h1;simp only[co,if_pos,eY,List.map_cons,ha.mul_dv _ _ hx hb] at h1;rw[fc _ R (df ho hR),fc x.1 _ (fun z hz=>?_),xg hm] at h1
  ·exact hz (by omega)
  ·obtain⟨u,hu,rfl⟩:=List.mem_map.1 hz;have h2:=ha.mul_lt (dv x.1 b) u.1 b hdv (hgD u (by simp[hu])) hb (List.rel_of_pairwise_cons hg hu);rw[ha.mul_dv _ _ hx hb] at h2;intro e3;simp only at e3;rw[e3,ho.irr] at h2;simp at h2
 ·exact h
theorem vK (ho:Ord lt) (ha:Act lt mul dv D) {G:List (K×Int)} (hg:dY lt ((b,d) :: G)) (hgD:∀ y∈(b,d) :: G,D y.1):∀ (k:Nat) (R O:List (K×Int)),ew lt mul dv chk ((b,d) :: G) b d k R=some O->dY lt R->(∀ y∈R,D y.1) ->
  dY lt O/\(∀ x∈O,D x.1)/\∀ u,D u->(∀ y∈R,lt y.1 u=true)->∀ x∈O,lt x.1 (dv u b)=true
 | k,[],O,h,_,_=>by
  have e:O=[]:=by cases k <;> simp[ew] at h <;> exact h
  subst e;exact⟨List.Pairwise.nil,by simp,by simp⟩
 | 0,x :: R,O,h,_,_=>by simp[ew] at h
 | k+1,x :: R,O,h,hR,hRD=>by
  simp only[ew] at h;split at h
  ·rename_i h1;obtain⟨O',h2,h3⟩:=Option.map_eq_some_iff.1 h;subst h3;have hl:=xo ho ha hR hRD hg hgD h1.1;have hb:=hgD (b,d) (by simp);have hx:=hRD x (by simp);obtain⟨i1,i2,i3⟩:=vK ho ha hg hgD k _ O' h2 (fa ho _) fun y hy=>(hl y hy).2;have i4:=i3 x.1 hx fun y hy=>(hl y hy).1;refine⟨List.Pairwise.cons (fun y hy=>i4 y hy) i1,fun y hy=>?_,fun u hu hlu y hy=>?_⟩
   ·rcases List.mem_cons.1 hy with rfl | hy
    ·exact ha.ddv _ _ hx hb
    ·exact i2 y hy
   ·have h5:=ha.dv_lt x.1 u b hx hu hb (hlu x (by simp));rcases List.mem_cons.1 hy with rfl | hy
    ·exact h5
    ·exact ho.tr _ _ _ (i4 y hy) h5
  ·simp at h
theorem jt (ho:Ord lt):∀ {l:List (K×Int)} {x:K×Int},dY lt l->x∈l->co x.1 l=x.2
 | [],x,_,h=>by simp at h
 | z :: l,x,hd,h=>by
  simp only[co];rcases List.mem_cons.1 h with rfl | h2
  ·rw[if_pos rfl,fc _ _ (df ho hd)];omega
  ·rw[if_neg (fun e=>df ho hd x h2 e.symm),jt ho (List.Pairwise.of_cons hd) h2];omega
theorem EK (ho:Ord lt):∀ {O g:List (K×Int)} {x y:K×Int},dY lt O->dY lt g->x∈O->y∈g->(∀ u∈O,∀ v∈g,mul u.1 v.1=mul x.1 y.1->u=x/\v=y)->co (mul x.1 y.1) (cV mul O g)=x.2*y.2:=by
 intro O g x y hO hg hx hy hu;have row:∀ u∈O,co (mul x.1 y.1) (eY mul u.1 u.2 g)=if u=x then x.2*y.2 else 0:=by
  intro u huO
  by_cases e:u=x
  ·rw[if_pos e];subst e;have:∀ l:List (K×Int),dY lt l->(∀ v∈l,v∈g)->co (mul u.1 y.1) (eY mul u.1 u.2 l)=if y∈l then u.2*y.2 else 0:=by
    intro l
    induction l with
    | nil=>intro _ _;simp[eY,co]
    | cons z l ih=>
     intro hd hs;have h1:=ih (List.Pairwise.of_cons hd) fun v hv=>hs v (by simp[hv]);simp only[eY,List.map_cons,co] at h1 ⊢;rw[h1]
     by_cases e2:z=y
     ·subst e2;have:z ∉ l:=fun hz=>df ho hd z hz rfl;rw[if_pos rfl,if_neg this,if_pos (by simp)];omega
     ·rw[if_neg (fun e3=>e2 (hu u hx z (hs z (by simp)) e3).2)]
      by_cases e4:y∈l
      ·rw[if_pos e4,if_pos (by simp[e4])];omega
      ·rw[if_neg e4,if_neg (by simp[e4,Ne.symm e2])];rfl
   rw[this g hg fun _ h=>h,if_pos hy]
  ·rw[if_neg e];refine fc _ _ fun z hz=>?_;obtain⟨v,hv,rfl⟩:=List.mem_map.1 hz;exact fun e3=>e (hu u huO v hv e3).1
 have:∀ l:List (K×Int),dY lt l->(∀ u∈l,u∈O)->co (mul x.1 y.1) (cV mul l g)=if x∈l then x.2*y.2 else 0:=by
  intro l
  induction l with
  | nil=>intro _ _;simp[cV,co]
  | cons z l ih=>
   intro hd hs;have h1:=ih (List.Pairwise.of_cons hd) fun v hv=>hs v (by simp[hv]);simp only[cV,List.flatMap_cons,eD] at h1 ⊢;rw[h1,row z (hs z (by simp))]
   by_cases e2:z=x
   ·subst e2;have:z ∉ l:=fun hz=>df ho hd z hz rfl;rw[if_pos rfl,if_neg this,if_pos (by simp)];omega
   ·rw[if_neg e2]
    by_cases e4:x∈l
    ·rw[if_pos e4,if_pos (by simp[e4])];omega
    ·rw[if_neg e4,if_neg (by simp[e4,Ne.symm e2])];rfl
 rw[this O hO fun _ h=>h,if_pos hx]
def gu (l:List (K×Int)):Nat:=(l.map fun x=>x.2.natAbs).sum
theorem AJ (l r:List (K×Int)):gu (l ++ r)=gu l+gu r:=by simp[gu]
theorem yA (k:K) (c:Int):∀ l:List (K×Int),gu (eZ lt k c l)<=c.natAbs+gu l/\(eZ lt k c l).length<=l.length+1
 | []=>by
  simp only[eZ];split <;> simp[gu]
 | x :: l=>by
  have ih:=yA k c l;simp only[eZ];split
  ·split
   ·simp[gu];omega
   ·simp[gu];omega
  ·split
   ·split
    ·simp[gu]
    ·simp[gu]
   ·simp only[gu,List.map_cons,List.sum_cons,List.length_cons] at ih ⊢;omega
theorem zQ:∀ l:List (K×Int),gu (nf lt l)<=gu l/\(nf lt l).length<=l.length
 | []=>by simp[nf,gu]
 | x :: l=>by
  have ih:=zQ l;have h:=yA (lt:=lt) x.1 x.2 (nf lt l);simp only[nf];simp only[gu,List.map_cons,List.sum_cons,List.length_cons] at ih h ⊢;omega
theorem zU (e:K) (q:Int):∀ g:List (K×Int),gu (eY mul e q g)=q.natAbs*gu g
 | []=>rfl
 | y :: g=>by
  have:=zU e q g;simp only[gu,eY,List.map_cons,List.sum_cons,List.map_map] at this ⊢;rw[Int.natAbs_mul,Nat.mul_add];omega
@[simp] theorem Ah (e:K) (q:Int) (g:List (K×Int)):(eY mul e q g).length=g.length:=by simp[eY]
end
end Go.Proofs.YtncfmemhjahpeaaGreat.Ab
namespace Go.Proofs.YtncfmemhjahpeaaGreat.Ab
open Go
section
variable {K:Type} [DecidableEq K] {lt:K->K->Bool} {mul:K->K->K}
def vl (φ:K->Int):List (K×Int)->Int
 | []=>0
 | x :: l=>x.2*φ x.1+vl φ l
omit [DecidableEq K] in
theorem kQ (φ:K->Int):∀ l r:List (K×Int),vl φ (l ++ r)=vl φ l+vl φ r
 | [],r=>by simp[vl]
 | x :: l,r=>by simp only[List.cons_append,vl,kQ φ l r];omega
theorem Be (φ:K->Int) (k:K) (c:Int):∀ l:List (K×Int),vl φ (eZ lt k c l)=c*φ k+vl φ l
 | []=>by
  simp only[eZ];split
  ·rename_i h;simp[vl,h]
  ·simp[vl]
 | x :: l=>by
  simp only[eZ];split
  ·rename_i h;subst h;split
   ·rename_i h2;have:c=-x.2:=by omega
    subst this;simp only[vl,Int.neg_mul];omega
   ·simp only[vl,Int.add_mul];omega
  ·split
   ·split
    ·rename_i h;simp[vl,h]
    ·simp only[vl]
   ·simp only[vl,Be φ k c l];omega
theorem mF (φ:K->Int):∀ l:List (K×Int),vl φ (nf lt l)=vl φ l
 | []=>rfl
 | x :: l=>by simp only[nf,Be,mF φ l,vl]
theorem uG (k:K):∀ l:List (K×Int),co k l=vl (fun e=>if e=k then 1 else 0) l
 | []=>rfl
 | x :: l=>by
  simp only[co,vl,uG k l];split <;> simp
theorem BY (ho:Ord lt) {l r:List (K×Int)} (h:∀ φ,vl φ l=vl φ r):nf lt l=nf lt r:=
 eq ho (fa ho _) (iq _) fun k=>by rw[gU,uG,uG,h]
omit [DecidableEq K] in
theorem dL {φ ψ:K->Int}:∀ {l:List (K×Int)},(∀ x∈l,φ x.1=ψ x.1)->vl φ l=vl ψ l
 | [],_=>rfl
 | x :: l,h=>by
  simp only[vl,h x (by simp),dL (l:=l) fun y hy=>h y (by simp[hy])]
omit [DecidableEq K] in
theorem zP (φ ψ:K->Int):∀ l:List (K×Int),vl (fun e=>φ e+ψ e) l=vl φ l+vl ψ l
 | []=>rfl
 | x :: l=>by
  simp only[vl,zP φ ψ l,Int.mul_add];omega
omit [DecidableEq K] in
theorem zm (c:Int) (φ:K->Int):∀ l:List (K×Int),vl (fun e=>c*φ e) l=c*vl φ l
 | []=>by simp[vl]
 | x :: l=>by
  simp only[vl,zm c φ l,Int.mul_add];rw[Int.mul_left_comm]
omit [DecidableEq K] in
theorem Bo:∀ l:List (K×Int),vl (fun _=>0) l=0
 | []=>rfl
 | x :: l=>by simp[vl,Bo l]
omit [DecidableEq K] in
theorem vM {J:Type} (φ:K->J->Int) (b:List (J×Int)):∀ a:List (K×Int),vl (fun e=>vl (fun e'=>φ e e') b) a=vl (fun e'=>vl (fun e=>φ e e') a) b
 | []=>by
  simp only[vl];rw[Bo]
 | x :: a=>by
  simp only[vl];rw[zP,zm,vM φ b a]
omit [DecidableEq K] in
theorem CY (g:K->K) (q:Int) (φ:K->Int):∀ l:List (K×Int),vl φ (l.map fun y=>(g y.1,q*y.2))=q*vl (fun e=>φ (g e)) l
 | []=>by simp[vl]
 | x :: l=>by
  simp only[List.map_cons,vl,CY g q φ l,Int.mul_add,Int.mul_assoc]
omit [DecidableEq K] in
theorem gq (φ:K->Int) (g:List (K×Int)):∀ a:List (K×Int),vl φ (cV mul a g)=vl (fun e=>vl (fun e'=>φ (mul e e')) g) a
 | []=>rfl
 | x :: a=>by
  have:=gq φ g a;unfold cV at this ⊢;simp only[List.flatMap_cons,kQ,vl,this];unfold eY;rw[CY]
omit [DecidableEq K] in
theorem AE {D:K->Prop} (hc:∀ a b,D a->D b->mul a b=mul b a) (φ:K->Int) {a b:List (K×Int)} (ha:∀ x∈a,D x.1) (hb:∀ x∈b,D x.1):vl φ (cV mul a b)=vl φ (cV mul b a):=by
 rw[gq,gq,vM];exact dL fun x hx=>dL fun y hy=>by rw[hc _ _ (ha y hy) (hb x hx)]
omit [DecidableEq K] in
theorem AG {D:K->Prop} (hc:∀ a b c,D a->D b->D c->mul (mul a b) c=mul a (mul b c)) (φ:K->Int) {a b c:List (K×Int)} (ha:∀ x∈a,D x.1) (hb:∀ x∈b,D x.1) (hcc:∀ x∈c,D x.1):vl φ (cV mul (cV mul a b) c)=vl φ (cV mul a (cV mul b c)):=by
 rw[gq,gq,gq];refine dL fun x hx=>?_;rw[gq];exact dL fun y hy=>dL fun z hz=>by rw[hc _ _ _ (ha x hx) (hb y hy) (hcc z hz)]
omit [DecidableEq K] in
end
end Go.Proofs.YtncfmemhjahpeaaGreat.Ab
namespace Go.Proofs.YtncfmemhjahpeaaGreat.Ab
open Go
def im (k:Int):List Int->Int
 | []=>k
 | x :: l=>im (k*128+x+64) l
def Dig (l:List Int):Prop:=∀ x∈l,-64<=x/\x<=63
theorem Dig.tail {x:Int} {l:List Int} (h:Dig (x :: l)):Dig l:=fun y hy=>h y (by simp[hy])
theorem Dig.head {x:Int} {l:List Int} (h:Dig (x :: l)):-64<=x/\x<=63:=h x (by simp)
theorem Bj:∀ (a b:List Int) (p q:Int),a.length=b.length->Dig a->Dig b->p < q->im p a < im q b
 | [],[],p,q,_,_,_,h=>h
 | x :: a,y :: b,p,q,hl,ha,hb,h=>by
  have h1:=ha.head;have h2:=hb.head;exact Bj a b _ _ (by simpa using hl) ha.tail hb.tail (by omega)
 | [],_ :: _,_,_,h,_,_,_=>by simp at h
 | _ :: _,[],_,_,h,_,_,_=>by simp at h
theorem tn:∀ (a b:List Int) (p:Int),a.length=b.length->Dig a->Dig b->cz a b=true->im p a < im p b
 | [],[],p,_,_,_,h=>by simp[cz] at h
 | x :: a,y :: b,p,hl,ha,hb,h=>by
  simp only[cz] at h;have h1:=ha.head;have h2:=hb.head;split at h
  ·rename_i e;subst e;exact tn a b _ (by simpa using hl) ha.tail hb.tail h
  ·simp only[decide_eq_true_eq] at h;exact Bj a b _ _ (by simpa using hl) ha.tail hb.tail (by omega)
 | [],_ :: _,_,h,_,_,_=>by simp at h
 | _ :: _,[],_,h,_,_,_=>by simp at h
theorem EB {a b:List Int} {p:Int} (hl:a.length=b.length) (ha:Dig a) (hb:Dig b) (h:im p a=im p b):a=b:=by
 rcases ny a b with h1 | h1 | h1
 ·have:=tn a b p hl ha hb h1;omega
 ·exact h1
 ·have:=tn b a p hl.symm hb ha h1;omega
theorem sI:∀ (a:List Int) (p:Int),Dig a->0<=p->0<=im p a
 | [],p,_,h=>h
 | x :: a,p,ha,h=>sI a _ ha.tail (by have:=ha.head;omega)
theorem uZ:∀ (a:List Int) (p B:Int),Dig a->0<=p->p < B->im p a < B*128 ^ a.length
 | [],p,B,_,_,h=>by simpa[im] using h
 | x :: a,p,B,ha,h0,h=>by
  have h1:=ha.head;have:=uZ a (p*128+x+64) (B*128) ha.tail (by omega) (by omega);rw[List.length_cons,Int.pow_succ,Int.mul_comm _ (128:Int),<-Int.mul_assoc];exact this
theorem Ew {a:List Int} (ha:Dig a) (hl:a.length<=8):0<=im 0 a/\im 0 a < 72057594037927936:=by
 refine⟨sI a 0 ha (by omega),?_⟩;have h:=uZ a 0 1 ha (by omega) (by omega);have h2:(128:Int) ^ a.length<=128 ^ 8:=by
  have:(128:Nat) ^ a.length<=128 ^ 8:=Nat.pow_le_pow_right (by omega) hl
  exact_mod_cast this
 have h3:(128:Int) ^ 8=72057594037927936:=by decide
 omega
def bc (k:Int):List Int->List Int->List Int
 | x :: a,y :: b=>(x+k*y) :: bc k a b
 | a,[]=>a
 | [],_=>[]
theorem dh (k:Int):∀ (a b:List Int),a.length=b.length->(bc k a b).length=a.length
 | [],[],_=>rfl
 | x :: a,y :: b,h=>by simp[bc,dh k a b (by simpa using h)]
 | [],_ :: _,h=>by simp at h
 | _ :: _,[],h=>by simp at h
theorem wO (t x y:Int):∀ (a b:List Int),a.length=b.length->bc t (a ++ [x]) (b ++ [y])=bc t a b ++ [x+t*y]
 | [],[],_=>rfl
 | u :: a,v :: b,h=>by simp[bc,wO t x y a b (by simpa using h)]
 | [],_ :: _,h=>by simp at h
 | _ :: _,[],h=>by simp at h
theorem Eg {t:Int} {aas bs:List Int} {i:Nat} (h:i < aas.length) (hl:aas.length=bs.length):(bc t (aas.take i) (bs.take i) ++ aas.drop i)[i]? = some aas[i]:=by
 have h1:(bc t (aas.take i) (bs.take i)).length=i:=by
  rw[dh _ _ _ (by simp;omega)];simp;omega
 rw[List.getElem?_append_right (by omega),h1,Nat.sub_self,List.drop_eq_getElem_cons h];rfl
theorem CD {t:Int} {aas bs:List Int} {i:Nat} (h:i < aas.length) (hl:aas.length=bs.length):(bc t (aas.take i) (bs.take i) ++ aas.drop i).set i (aas[i]+t*bs[i])=bc t (aas.take (i+1)) (bs.take (i+1)) ++ aas.drop (i+1):=by
 have h1:(bc t (aas.take i) (bs.take i)).length=i:=by
  rw[dh _ _ _ (by simp;omega)];simp;omega
 rw[List.set_append_right _ _ (by omega),h1,Nat.sub_self,List.drop_eq_getElem_cons h,List.set_cons_zero,List.take_succ_eq_append_getElem h,List.take_succ_eq_append_getElem (show i < bs.length by omega),wO _ _ _ _ _ (by simp;omega),List.append_assoc];rfl
theorem yu:∀ (a b:List Int) (p q s:Int),a.length=b.length->im (p+q - s) (bc 1 a b)=im p a+im q b - im s (List.replicate a.length 0)
 | [],[],p,q,s,_=>rfl
 | x :: a,y :: b,p,q,s,h=>by
  simp only[bc,im,List.length_cons,List.replicate_succ];rw[<-yu a b _ _ _ (by simpa using h)];congr 1;omega
 | [],_ :: _,_,_,_,h=>by simp at h
 | _ :: _,[],_,_,_,h=>by simp at h
def KL (v:Int) (t:Trm):Prop:=(t.e.length:Int)=v/\t.c≠0/\(-1000000<=t.c/\t.c<=1000000)/\∀ x∈t.e,-20<=x/\x<=20
def H0 (ts:List Trm):Prop:=ts.Pairwise fun a b=>cz b.e a.e=true
def gS (f:Lau):Prop:=(1<=f.v/\f.v<=8)/\f.ts.length<=600/\(∀ t∈f.ts,KL f.v t)/\H0 f.ts
noncomputable instance (f:Lau):Decidable (gS f):=Classical.propDecidable _
def jS:Lau:=⟨0,[]⟩
def gM (x:Int×Int):List D:=[D.int x.1,D.int x.2]
theorem GO (x:Int×Int):(gM x).length=2:=rfl
@[simp] theorem Kr (l:List (Int×Int)):(rows gM l).length=2*l.length:=cn GO l
theorem By:∀ l:List (Int×Int),er (rows gM l)
 | []=>trivial
 | x :: l=>⟨rfl,rfl,By l⟩
theorem FU (l:List (Int×Int)):noShL (rows gM l):=iF (fun t=>by simp[gM,noShL,ij]) l
theorem ym:∀ l:List (Int×Int),shareL (rows gM l)=rows gM l
 | []=>rfl
 | x :: l=>by simp[rows,gM,shareL,eX,ym l]
attribute [simp] By FU ym
section
variable {l:List (Int×Int)} {i:Nat}
end
def tm (x:List Int×Int):Trm:=⟨x.1,x.2⟩
def pr (t:Trm):List Int×Int:=(t.e,t.c)
noncomputable def yc (v:Int) (l:List (List Int×Int)):Lau×Bool:=if gS ⟨v,(nf cz l).map tm⟩ then (⟨v,(nf cz l).map tm⟩,true) else (jS,false)
def sw (a b:List (List Int×Int)):List (List Int×Int):=a.flatMap fun x=>b.map fun y=>(bc 1 x.1 y.1,x.2*y.2)
noncomputable def vT (f g:Lau):Lau×Bool:=if gS f/\gS g/\f.v=g.v then yc f.v (sw (f.ts.map pr) (g.ts.map pr)) else (jS,false)
end Go.Proofs.YtncfmemhjahpeaaGreat.Ab
namespace Go.Proofs.YtncfmemhjahpeaaGreat.Ab
open Go
set_option maxRecDepth 10000
set_option maxHeartbeats 2000000
theorem xX (a b:List Int) (ha:a.length < 4611686018427387904):af Tryz.prog F.dE [.d (shI a),.d (shI b)] [] true (fun outs res=>outs=[]/\res=[.one (D.bool (cz a b))]):=by
 refine af.ob (C:=C.dE) (n:=Tryz.f158.ntmps) bC bD Tryz.func158 rfl rfl ?_;simp only[Tryz.f158];apply aa;refine ab fun K hK=>?_;simp[C.dE];apply hK;clear hK K;show AWp _ _ _ _ _;apply aa;apply aa;refine ab fun K hK=>?_;simp[C.dE];apply hK;clear hK K;show AWp _ _ _ _ _;apply ak;refine bm (fun k:Nat=>⟨ofL [(0,.d (shI a)),(1,.d (shI b)),(5,FV.int k)],aF []⟩) (fun k=>k<=a.length/\k<=b.length/\cz a b=cz (a.drop k) (b.drop k)) (fun k=>a.length - k) 0 (by simp[C.dE]) (by simp) ?_;intro x1 hx1 R1 hR1;obtain⟨hk,hk2,ht⟩:=hx1;apply aa;apply aa;refine ab fun K hK=>?_;have hJ:K ⟨ofL [(0,.d (shI a)),(1,.d (shI b)),(5,FV.int x1),(15,.bool (decide (x1 < a.length/\x1 < b.length)))],aF []⟩:=by
  apply hK;clear hK K;show AWp _ _ _ _ _;refine ap _ rfl (fun hc1=>?_) (fun hc1=>?_)
  ·have hh:x1 < a.length/\x1 < b.length:=by simpa using hc1
   obtain⟨h1,h2⟩:=hh;apply au;show AWp _ _ _ _ _;apply aa;apply ak;apply aa;refine eG (.take 0 (.take 1 (.take 2 (.take 3 (.take 4 (.take 5 (.take 6 (.take 7 (.take 8 (.done)))))))))) ⟨by kernel_rfl,by kernel_rfl⟩ fun K hK=>?_;simp[C.dE,ao,h1,h2];apply hK;clear hK K;show AWp _ _ _ _ _;refine ap _ rfl (fun hc2=>?_) (fun hc2=>?_)
   ·apply aa;refine eG (.take 0 (.take 1 (.take 2 (.take 3 (.take 4 (.take 5 (.take 6 (.take 7 (.take 8 (.take 9 (.done))))))))))) ⟨by kernel_rfl,by kernel_rfl⟩ fun K hK=>?_;simp[C.dE,ao,h1,h2];apply hK;clear hK K;show AWp _ _ _ _ _;apply aI;simp at hc2;simp[C.dE];rw[ht,List.drop_eq_getElem_cons h1,List.drop_eq_getElem_cons h2];simp[cz,hc2]
   ·apply au;show AWp _ _ _ _ _;refine ab fun K hK=>?_;simp[C.dE,ay (show x1 < 4611686018427387904 by omega)];apply hK;clear hK K;simp[C.dE];simp at hc2;refine hR1 (x1+1) ⟨h1,h2,?_⟩ (by omega);rw[ht,List.drop_eq_getElem_cons h1,List.drop_eq_getElem_cons h2];simp[cz,hc2]
  ·have hh:¬ (x1 < a.length/\x1 < b.length):=by simpa using hc1
   apply aZ;show AWp _ _ _ _ _;apply aa;refine ab fun K hK=>?_;simp[C.dE];apply hK;clear hK K;show AWp _ _ _ _ _;apply aI;simp[C.dE];rw[ht]
   by_cases q:x1 < a.length
   ·rw[List.drop_eq_nil_of_le (show b.length<=x1 by omega),List.drop_eq_getElem_cons q];simp[cz];omega
   ·rw[List.drop_eq_nil_of_le (show a.length<=x1 by omega)]
    by_cases q2:x1 < b.length
    ·rw[List.drop_eq_getElem_cons q2];simp[cz];omega
    ·rw[List.drop_eq_nil_of_le (show b.length<=x1 by omega)];simp[cz];omega
 clear hK
 by_cases hg:x1 < a.length
 ·simp[C.dE,hg];refine cast (congrArg K ?_) hJ;simp[hg]
 ·simp[C.dE,hg];refine cast (congrArg K ?_) hJ;simp[hg]
set_option maxRecDepth 10000
set_option maxHeartbeats 2000000
section
variable {α:Type} {le:α->α->Bool}
def tF (le:α->α->Bool) (n:Nat) (l:List α):Prop:=∀ k,((l.drop (n*k)).take n).Pairwise fun a b=>le a b=true
theorem ES (l:List α):tF le 1 l:=fun k=>by
 rcases (l.drop (1*k)) with _ | ⟨x,r⟩
 ·simp
 ·simp
theorem EU {n:Nat} {l:List α} (h:tF le n l) (hl:l.length<=n):l.Pairwise fun a b=>le a b=true:=by
 have:=h 0;rw[Nat.mul_zero,List.drop_zero,List.take_of_length_le hl] at this;exact this
theorem DA {b k:Nat} {n0 s:List α} (h:tF le b n0) (hl:n0.length=b*k) (hs:s.Pairwise fun a b=>le a b=true) (hsl:s.length<=b):tF le b (n0 ++ s):=fun j=>by
 rcases Nat.lt_trichotomy j k with hj | hj | hj
 ·have h1:b*j+b<=n0.length:=by
   rw[hl,<-Nat.mul_succ];exact Nat.mul_le_mul_left b hj
  rw[List.drop_append_of_le_length (by omega),List.take_append_of_le_length (by rw[List.length_drop];omega)];exact h j
 ·subst hj;rw[<-hl,List.drop_left,List.take_of_length_le hsl];exact hs
 ·have h1:n0.length+s.length<=b*j:=by
   have:b*(k+1)<=b*j:=Nat.mul_le_mul_left b hj;rw[Nat.mul_succ] at this;omega
  rw[List.drop_of_length_le (by simp;omega)];simp
end
theorem mY {α:Type} (le:α->α->Bool) (ys:List α):List.merge [] ys le=ys:=by simp
theorem p6 {α:Type} (le:α->α->Bool) (xs:List α):List.merge xs [] le=xs:=by simp
theorem zq {α:Type} (le:α->α->Bool) (x y:α) (xs ys:List α):List.merge (x :: xs) (y :: ys) le=if le x y then x :: List.merge xs (y :: ys) le else y :: List.merge (x :: xs) ys le:=by
 rw[List.merge]
end Go.Proofs.YtncfmemhjahpeaaGreat.Ab
namespace Go.Proofs.YtncfmemhjahpeaaGreat.Ab
open Go
set_option maxRecDepth 10000
set_option maxHeartbeats 2000000
set_option maxRecDepth 10000
set_option maxHeartbeats 2000000
theorem rh {x y:Int} (hx:-1000000<=x/\x<=1000000) (hy:-1000000<=y/\y<=1000000):-1000000000000<=x*y/\x*y<=1000000000000:=by
 have h1:(x*y).natAbs<=1000000*1000000:=by
  rw[Int.natAbs_mul];exact Nat.mul_le_mul (by omega) (by omega)
 omega
set_option maxRecDepth 10000
set_option maxHeartbeats 2000000
theorem yN {K:Type} [DecidableEq K] {lt:K->K->Bool} (k:K) (c:Int):∀ l:List (K×Int),(eZ lt k c l).length<=l.length+1
 | []=>by simp only[eZ];split <;> simp
 | x :: l=>by
  simp only[eZ];split
  ·split <;> simp;omega
  ·split
   ·split <;> simp
   ·simp only[List.length_cons];have:=yN (lt:=lt) k c l;omega
theorem Cu {K:Type} [DecidableEq K] {lt:K->K->Bool}:∀ l:List (K×Int),(nf lt l).length<=l.length
 | []=>by simp[nf]
 | x :: l=>by
  simp only[nf,List.length_cons];have:=yN (lt:=lt) x.1 x.2 (nf lt l);have:=Cu (lt:=lt) l;omega
theorem CK {f:Lau} (h:gS f) {n:Nat} (hn:f.v=n):∀ t∈f.ts,t.e.length=n/\Dig t.e/\(∀ x∈t.e,-20<=x/\x<=20)/\(-1000000<=t.c/\t.c<=1000000):=fun t ht=>by
 obtain⟨h1,_,h2,h3⟩:=h.2.2.1 t ht;exact⟨by omega,fun x hx=>by have:=h3 x hx;omega,h3,h2⟩
def jL (n:Nat):Lau:=⟨n,[⟨List.replicate n 0,1⟩]⟩
theorem BW {n:Nat} (h:1<=n/\n<=8):gS (jL n):=by
 refine⟨by simp only[jL];omega,by simp[jL],fun t ht=>?_,List.pairwise_singleton _ _⟩;simp only[jL,List.mem_singleton] at ht;subst ht;exact⟨by simp[jL],by simp,by simp,fun x hx=>by have:=List.eq_of_mem_replicate hx;omega⟩
open Go Go.Proofs
def Gu:Go.Shelf.Ren:=⟨fun | 6=>115 | 15=>150 | 14=>149 | 28=>179 | 29=>180 | 20=>171 | 21=>172 | 22=>173 | 23=>174 | 24=>175 | 25=>176 | 26=>177 | 27=>178 | 46=>194 | 47=>195 | 48=>196 | 49=>197 | 50=>198 | 57=>209 | n=>n,fun | 22=>40 | 24=>107 | 25=>148 | 3=>3 | 39=>173 | 0=>0 | 53=>200 | 55=>202 | 4=>4 | 46=>193 | 45=>192 | 50=>197 | 5=>5 | 9=>9 | 66=>210 | 70=>185 | 76=>221 | 77=>222 | n=>n,fun | n=>n⟩
def iW:Go.Shelf.Ren:=⟨fun | 6=>118 | 15=>150 | 14=>151 | 28=>179 | 29=>180 | 20=>181 | 21=>182 | 22=>183 | 23=>184 | 24=>185 | 25=>186 | 26=>187 | 27=>188 | 46=>199 | 47=>195 | 48=>196 | 49=>200 | 50=>201 | 57=>210 | n=>n,fun | 22=>45 | 24=>100 | 25=>150 | 3=>3 | 39=>173 | 0=>0 | 53=>200 | 55=>202 | 4=>4 | 46=>193 | 45=>192 | 50=>197 | 5=>5 | 9=>9 | 66=>210 | 70=>185 | 76=>221 | 77=>222 | n=>n,fun | n=>n⟩
theorem w8:Go.Proofs.SlLaysF0.n6 Tryz.prog iW:={
 mixed:=by kernel_rfl,
 f6:=⟨Tryz.f118.name,by decide,Tryz.func118.trans (congrArg some (by kernel_rfl))⟩,
 f14:=⟨Tryz.f151.name,by decide,Tryz.func151.trans (congrArg some (by kernel_rfl))⟩,
 f15:=Tryz.func150.trans (congrArg some (by kernel_rfl)),
 f20:=⟨Tryz.f181.name,by decide,Tryz.func181.trans (congrArg some (by kernel_rfl))⟩,
 f21:=⟨Tryz.f182.name,by decide,Tryz.func182.trans (congrArg some (by kernel_rfl))⟩,
 f22:=⟨Tryz.f183.name,by decide,Tryz.func183.trans (congrArg some (by kernel_rfl))⟩,
 f23:=⟨Tryz.f184.name,by decide,Tryz.func184.trans (congrArg some (by kernel_rfl))⟩,
 f24:=⟨Tryz.f185.name,by decide,Tryz.func185.trans (congrArg some (by kernel_rfl))⟩,
 f25:=⟨Tryz.f186.name,by decide,Tryz.func186.trans (congrArg some (by kernel_rfl))⟩,
 f26:=⟨Tryz.f187.name,by decide,Tryz.func187.trans (congrArg some (by kernel_rfl))⟩,
 f27:=⟨Tryz.f188.name,by decide,Tryz.func188.trans (congrArg some (by kernel_rfl))⟩,
 f28:=Tryz.func179.trans (congrArg some (by kernel_rfl)),
 f29:=Tryz.func180.trans (congrArg some (by kernel_rfl)),
 f46:=⟨Tryz.f199.name,by decide,Tryz.func199.trans (congrArg some (by kernel_rfl))⟩,
 f47:=Tryz.func195.trans (congrArg some (by kernel_rfl)),
 f48:=Tryz.func196.trans (congrArg some (by kernel_rfl)),
 f49:=⟨Tryz.f200.name,by decide,Tryz.func200.trans (congrArg some (by kernel_rfl))⟩,
 f50:=⟨Tryz.f201.name,by decide,Tryz.func201.trans (congrArg some (by kernel_rfl))⟩,
 f57:=⟨Tryz.f210.name,by decide,Tryz.func210.trans (congrArg some (by kernel_rfl))⟩,
 t0:=Tryz.underlying0,
 a0:=Tryz.isAgg0,
 z0:=Tryz.sizeOf0,
 v0:=Tryz.zeroValue0,
 t3:=Tryz.underlying3,
 a3:=Tryz.isAgg3,
 z3:=Tryz.sizeOf3,
 v3:=Tryz.zeroValue3,
 t4:=Tryz.underlying4,
 a4:=Tryz.isAgg4,
 z4:=Tryz.sizeOf4,
 v4:=Tryz.zeroValue4,
 t5:=Tryz.underlying5,
 a5:=Tryz.isAgg5,
 z5:=Tryz.sizeOf5,
 v5:=Tryz.zeroValue5,
 t9:=Tryz.underlying9,
 a9:=Tryz.isAgg9,
 z9:=Tryz.sizeOf9,
 v9:=Tryz.zeroValue9,
 t22:=Tryz.underlying45,
 a22:=Tryz.isAgg45,
 z22:=Tryz.sizeOf45,
 v22:=Tryz.zeroValue45,
 t25:=Tryz.underlying150,
 a25:=Tryz.isAgg150,
 z25:=Tryz.sizeOf150,
 v25:=Tryz.zeroValue150,
 t39:=Tryz.underlying173,
 a39:=Tryz.isAgg173,
 z39:=Tryz.sizeOf173,
 v39:=Tryz.zeroValue173,
 t45:=Tryz.underlying192,
 a45:=Tryz.isAgg192,
 z45:=Tryz.sizeOf192,
 v45:=Tryz.zeroValue192,
 t46:=Tryz.underlying193,
 a46:=Tryz.isAgg193,
 z46:=Tryz.sizeOf193,
 v46:=Tryz.zeroValue193,
 t50:=Tryz.underlying197,
 a50:=Tryz.isAgg197,
 z50:=Tryz.sizeOf197,
 v50:=Tryz.zeroValue197,
 t53:=Tryz.underlying200,
 a53:=Tryz.isAgg200,
 z53:=Tryz.sizeOf200,
 v53:=Tryz.zeroValue200,
 t55:=Tryz.underlying202,
 a55:=Tryz.isAgg202,
 z55:=Tryz.sizeOf202,
 v55:=Tryz.zeroValue202,
 t66:=Tryz.underlying210,
 a66:=Tryz.isAgg210,
 z66:=Tryz.sizeOf210,
 v66:=Tryz.zeroValue210,
 t70:=Tryz.underlying185,
 a70:=Tryz.isAgg185,
 z70:=Tryz.sizeOf185,
 v70:=Tryz.zeroValue185,
 t76:=Tryz.underlying221,
 a76:=Tryz.isAgg221,
 z76:=Tryz.sizeOf221,
 v76:=Tryz.zeroValue221,
 t77:=Tryz.underlying222,
 a77:=Tryz.isAgg222,
 z77:=Tryz.sizeOf222,
 v77:=Tryz.zeroValue222 }
theorem qb:iW.t 24=100:=by kernel_rfl
theorem qE:iW.f 6=118:=by kernel_rfl
theorem x8:∀ w,(isAgg (iW.t 24)).run Tryz.prog w = .ok true w:=fun w=>by rw[qb];exact Tryz.isAgg100 w
theorem wq:∀ w,(Go.sizeOf (iW.t 24)).run Tryz.prog w = .ok 3 w:=fun w=>by rw[qb];exact Tryz.sizeOf100 w
end Go.Proofs.YtncfmemhjahpeaaGreat.Ab
namespace Go.Proofs.YtncfmemhjahpeaaGreat.Ab
open Go
def GP (P:Program) (sf k:Nat):Prop:=
 (∀ (p:Option Addr) (cap:Nat) (fv:Value) (w:World),Calls P sf #[.slice p 0 cap,fv] w fun e w'=>e = .returned (.tuple #[])/\w'=w) /\
 ∀ (α:Type) [Inhabited α] (enc:α->List Value) (hk:∀ x,(enc x).length=k) (h1:∀ x,∀ v∈enc x,v.oneCell'=true) (cf:α->α->Int) (hO:Go.Sort.SWO (ltOf cf)) (g:Nat) (blk off cap:Nat) (d:Array α) (w:World)
  (eg:∀ args w,(callFunc g args).run P w = .ok (.enter g args) w) (hcmp:CmpLays P g #[] enc k cf blk off d.size w) (hH:Go.Sort.HoldsK enc k w blk off d) (hblk:blk < w.heap.size) (hsz:d.size < 4611686018427387904),
  Calls P sf #[.slice (some ⟨blk,off,none⟩) d.size cap,.func (.func g) #[] #[]] w fun e w'=>
   e = .returned (.tuple #[])/\∃ d' n os,Go.Sort.PermIn 0 d.size d d'/\Go.Sort.SortedIn (ltOf cf) 0 d.size d'/\w'=sortWorldK enc k w blk off n d' os
structure El (τ:Type) where
 us:List Value
 fp:List Nat
 t:τ
section
variable {τ:Type} {f:τ->List D} {k:Nat} {w:World} {ok:Nat->Prop}
theorem zv (hk:∀ t,(f t).length=k):∀ (ts:List τ) (us:List Value) (fp:List Nat),bO w ok (rows f ts) us fp ->
  ∃ els:List (El τ),els.map (·.t)=ts/\us=els.flatMap (·.us)/\fp=els.flatMap (·.fp)/\∀ x∈els,bO w ok (f x.t) x.us x.fp
 | [],us,fp,h=>by
  simp only[rows,bO] at h;exact⟨[],rfl,by simp[h.1],by simp[h.2],by simp⟩
 | t :: ts,us,fp,h=>by
  have hl:=lQ h;obtain⟨f1,f2,e,h1,h2⟩:=pj k h;have e1:(rows f (t :: ts)).take k=f t:=by
   simp only[rows];rw[List.take_append_of_le_length (by rw[hk];exact Nat.le_refl _),List.take_of_length_le (by rw[hk];exact Nat.le_refl _)]
  have e2:(rows f (t :: ts)).drop k=rows f ts:=by
   simp only[rows];rw[<-hk t,List.drop_left]
  rw[e1] at h1;rw[e2] at h2;obtain⟨els,g1,g2,g3,g4⟩:=zv hk ts _ _ h2;refine⟨⟨us.take k,f1,t⟩ :: els,by simp[g1],?_,?_,fun x hx=>?_⟩
  ·simp only[List.flatMap_cons];rw[<-g2,List.take_append_drop]
  ·simp only[List.flatMap_cons];rw[<-g3,e]
  ·rcases List.mem_cons.1 hx with rfl | hx
   ·exact h1
   ·exact g4 x hx
theorem zx:∀ (els:List (El τ)),(∀ x∈els,bO w ok (f x.t) x.us x.fp)->bO w ok (rows f (els.map (·.t))) (els.flatMap (·.us)) (els.flatMap (·.fp))
 | [],_=>by simp[rows,bO]
 | x :: els,h=>by
  simp only[List.map_cons,rows,List.flatMap_cons];exact nZ (h x (by simp)) (zx els fun y hy=>h y (by simp[hy]))
end
theorem zY {α β:Type} {g:α->List β} {k:Nat} (hk:∀ x,(g x).length=k):∀ (l:List α) (j:Nat) (h:j / k < l.length) (h0:0 < k),(l.flatMap g)[j]? = (g (l[j / k]'h))[j % k]?
 | [],j,h,_=>by simp at h
 | x :: l,j,h,h0=>by
  simp only[List.flatMap_cons];rcases Nat.lt_or_ge j k with hj | hj
  ·rw[List.getElem?_append_left (by rw[hk];exact hj)];simp only[Nat.div_eq_of_lt hj,Nat.mod_eq_of_lt hj,List.getElem_cons_zero]
  ·rw[List.getElem?_append_right (by rw[hk];exact hj),hk];obtain⟨m,rfl⟩:∃ m,j=m+k:=⟨j - k,by omega⟩;simp only[Nat.add_sub_cancel,Nat.add_div_right _ h0,Nat.add_mod_right,Nat.succ_eq_add_one,List.getElem_cons_succ];exact zY hk l m (by rw[Nat.add_div_right _ h0] at h;simpa using h) h0
theorem zi {α β:Type} {g:α->List β} {k:Nat} (hk:∀ x,(g x).length=k):∀ l:List α,(l.flatMap g).length=l.length*k
 | []=>by simp
 | x :: l=>by simp only[List.flatMap_cons,List.length_append,hk,zi hk l,List.length_cons,Nat.add_mul,Nat.one_mul];omega
theorem xD {α:Type} [Inhabited α] {enc:α->List Value} {k:Nat} (hk:∀ x,(enc x).length=k) (d:Array α) (j:Nat) (h:j < d.size*k):(d.toList.flatMap enc)[j]? = some ((Go.Sort.flatK enc k d)[j]!):=by
 have h0:0 < k:=by
  rcases Nat.eq_zero_or_pos k with e | e
  ·subst e;simp at h
  ·exact e
 have hd:j / k < d.size:=(Nat.div_lt_iff_lt_mul h0).2 h;have hm:j % k < k:=Nat.mod_lt _ h0;rw[zY hk d.toList j (by simpa using hd) h0,Go.Sort.get_flatK _ _ _ _ h];rw[getElem!_pos d (j / k) hd,List.getElem?_eq_getElem (by rw[hk];exact hm),getElem!_pos _ (j % k) (by rw[hk];exact hm)];simp
theorem Cm {w w':World} {ok:Nat->Prop} {ρ:Rn->Value} {fp0:List Nat} {d:D} {fp':List Nat} (hns:ij d) (ho:Ow w' ok d (ρ (0,0)) fp') (hnd:fp'.Nodup)
  (hb:∀ b∈fp',¬ ok b/\(b∈fp0\/w.heap.size<=b)/\b < w'.heap.size) (hf:de w fp0 w') (hok:∀ b,ok b->b < w.heap.size) :
  qr w ok ρ fp0 [(0,0)] true [d] [] (.tuple #[]) w' ok (fun _=>fp') []:=by
 have key:∀ {r:Rn} {e:D},ofR ([((0,0):Rn)].zip [d]) r=some e->r=(0,0)/\e=d:=fun {r e} h=>by
  simp only[List.zip_cons_cons,List.zip_nil_left,ofR] at h;split at h
  ·rename_i e2;simp only[Option.some.injEq] at h;exact⟨by first | exact e2 | exact e2.symm,h.symm⟩
  ·simp at h
 refine⟨rfl,fun r e he=>?_,fun r r' e e' hne he he'=>?_,⟨[],rfl,by simp[fj]⟩,List.nodup_nil,by simp,by simp,hf,fun _ h=>h,fun b h=>⟨.inl h,Nat.lt_of_lt_of_le (hok b h) hf.size⟩⟩
 ·obtain⟨rfl,rfl⟩:=key he;exact⟨by simpa using om _ _ _ hns ho,hnd,hb⟩
 ·exact absurd ((key he).1.trans (key he').1.symm) hne
theorem BP {w:World} {ok:Nat->Prop} {σ:St} {ρ:Rn->Value}:∀ {ds:List D} {us:List Value},ShV w ok ds us->FRL w ok σ ρ (ds.map .d) us
 | [],us,h=>by simpa[ShV,FRL] using h
 | d :: ds,us,h=>by
  simp only[ShV] at h;obtain⟨u,vs,rfl,h1,h2⟩:=h;simp only[List.map_cons,FRL];exact⟨u,vs,rfl,by simpa[FR] using h1,BP h2⟩
theorem rK {w:World} {ok ok':Nat->Prop} (hk:∀ b,ok b->ok' b):∀ {ds:List D} {us:List Value} {fp:List Nat},bO w ok ds us fp->(∀ b∈fp,ok' b)->ShV w ok' (shareL ds) us
 | [],us,fp,h,_=>by
  simp only[bO] at h;simp[shareL,ShV,h.1]
 | d :: ds,us,fp,h,hf=>by
  simp only[bO] at h;obtain⟨u,vs,f1,f2,rfl,rfl,h1,h2⟩:=h;simp only[shareL,ShV];exact⟨u,vs,rfl,zT hk d u f1 (fun b hb=>hf b (by simp[hb])) h1,rK hk h2 fun b hb=>hf b (by simp[hb])⟩
theorem vn {w w':World} {ok:Nat->Prop} (hk:∀ b,ok b->w'.heap[b]? = w.heap[b]?):∀ {ds:List D} {us:List Value} {fp:List Nat},bO w ok ds us fp->(∀ b∈fp,w'.heap[b]? = w.heap[b]?)->bO w' ok ds us fp
 | [],us,fp,h,_=>by simpa only [bO] using h
 | d :: ds,us,fp,h,hf=>by
  simp only[bO] at h ⊢;obtain⟨u,vs,f1,f2,rfl,rfl,h1,h2⟩:=h;exact⟨u,vs,f1,f2,rfl,rfl,fI (fun b hb=>⟨hb,hk b hb⟩) _ _ _ (fun b hb=>hf b (by simp[hb])) h1,vn hk h2 fun b hb=>hf b (by simp[hb])⟩
theorem ya {w w':World} (h:de w [] w'):∃ q os',w'=Go.Sort.grow (w.drewN q) os':=by
 refine⟨w'.drawn - w.drawn,w'.heap.extract w.heap.size w'.heap.size,?_⟩;have hh:w'.heap=w.heap ++ w'.heap.extract w.heap.size w'.heap.size:=by
  apply Array.ext_getElem?;intro i;rw[Array.getElem?_append];split
  ·rename_i hi;exact h.old i hi (by simp)
  ·rename_i hi;rw[Array.getElem?_extract];have hs:=h.size;rcases Nat.lt_or_ge i w'.heap.size with h1 | h1
   ·rw[if_pos (by omega),show w.heap.size+(i - w.heap.size)=i by omega]
   ·rw[if_neg (by omega),Array.getElem?_eq_none (by omega)]
 have h1:=h.os;have h2:=h.out;have h3:=h.tape;have h4:=h.drawn
 cases w' with
 | mk heap tape drawn os output=>
  cases w with
  | mk heap2 tape2 drawn2 os2 output2=>
   simp only at h1 h2 h3 h4 hh;subst h1;subst h2;subst h3;simp only[Go.Sort.grow,World.drewN];congr 1;omega
theorem E0 {P:Program} {g:Nat} {cx cy:List D} {c:Int} (h:af P g [.ag ((shareL cx).map .d),.ag ((shareL cy).map .d)] [] true (fun outs res=>outs=[]/\res=[.one (D.int c)])) {w:World} {ok:Nat->Prop} {ux uy:List Value} {fx fy:List Nat}
  (hx:bO w ok cx ux fx) (hy:bO w ok cy uy fy) (hfx:∀ b∈fx,b < w.heap.size) (hfy:∀ b∈fy,b < w.heap.size) (hok:∀ b,ok b->b < w.heap.size) :
  Calls P g (#[.agg ux.toArray,.agg uy.toArray] ++ #[]) w fun e w'=>e = .returned (.int .i64 c)/\∃ q os',w'=Go.Sort.grow (w.drewN q) os':=by
 have h1:=rK (ok':=fun b=>ok b\/b∈fx\/b∈fy) (fun b hb=>.inl hb) hx (fun b hb=>.inr (.inl hb));have h2:=rK (ok':=fun b=>ok b\/b∈fx\/b∈fy) (fun b hb=>.inl hb) hy (fun b hb=>.inr (.inr hb));have:=h.2 w [] (fun b=>ok b\/b∈fx\/b∈fy) [.agg ux.toArray,.agg uy.toArray] (fun _=>undef) (fun _=>[]) rfl ⟨fun r d hd=>by simp[ofR] at hd,fun r r' d d' _ hd=>by simp[ofR] at hd,fun t=>by
  match t with
  | 0=>
   simp only[fL,List.getD_cons_zero,FR];exact⟨_,rfl,BP (by simpa using h1)⟩
  | 1=>
   simp only[fL,List.getD_cons_succ,List.getD_cons_zero,FR];exact⟨_,rfl,BP (by simpa using h2)⟩
  | t+2=>simp[fL,FR],fun b hb=>by rcases hb with hb | hb | hb;exact hok b hb;exact hfx b hb;exact hfy b hb,de.refl w []⟩
 have e0:(#[.agg ux.toArray,.agg uy.toArray] ++ #[]:Array Value)=[Value.agg ux.toArray,Value.agg uy.toArray].toArray:=by simp
 rw[e0];refine Calls.mono this ?_;rintro e w' ⟨v,outs,res,ok',φ',fr,rfl,⟨rfl,rfl⟩,hd⟩;obtain⟨vs,e1,e2⟩:=hd.res;simp only[fj,j9,if_true] at e2;obtain⟨u,us,f1,f2,rfl,_,k1,k2,_⟩:=e2;subst k2;simp only[Ow] at k1;refine⟨?_,ya hd.frm⟩;rw[e1,k1.2];rfl
section
variable {α:Type} [Inhabited α] {enc:α->List Value} {k:Nat} {w:World} {b o:Nat}
theorem lX (m:Nat) (d:Array α) (os:Array Obj) {c:Nat} (hc:c≠b) (hs:c < w.heap.size):(sortWorldK enc k w b o m d os).heap[c]? = w.heap[c]?:=by
 unfold sortWorldK;rw[Go.Sort.heap_grow_old _ _ (by simpa[Go.Sort.putRowK] using hs)];simp[Go.Sort.putRowK,Go.Sort.putRow,Go.Sort.mapBlock,Array.getElem?_modify,Ne.symm hc]
theorem Ft (m:Nat) (d:Array α) (os:Array Obj) {arr:Array Value} {T:Nat} {fr:Nat×Nat} (h:w.heap[b]? = some (.cells arr T fr)):∃ arr',(sortWorldK enc k w b o m d os).heap[b]? = some (.cells arr' T fr)/\arr'.size=arr.size:=by
 have hb:b < w.heap.size:=by
  rcases Nat.lt_or_ge b w.heap.size with hh | hh
  ·exact hh
  ·rw[Array.getElem?_eq_none (by omega)] at h;simp at h
 refine⟨Go.Sort.putCells id o (Go.Sort.flatK enc k d) arr,?_,by simp[Go.Sort.putCells]⟩;unfold sortWorldK;rw[Go.Sort.heap_grow_old _ _ (by simpa[Go.Sort.putRowK] using hb)];simp[Go.Sort.putRowK,Go.Sort.putRow,Go.Sort.mapBlock,Array.getElem?_modify,h,Go.Sort.onCells]
theorem Dv (m:Nat) (d:Array α) (os:Array Obj) {fp0:List Nat} (hb:b∈fp0):de w fp0 (sortWorldK enc k w b o m d os):=by
 refine⟨rfl,rfl,rfl,?_,?_,fun c hc hn=>lX m d os (fun e=>hn (e ▸ hb)) hc⟩
 ·show w.drawn<=w.drawn+m;omega
 ·simp[sortWorldK,Go.Sort.putRowK]
end
theorem BN {α:Type} [Inhabited α] {d d':Array α} (h:Go.Sort.PermIn 0 d.size d d'):d'.toList.Perm d.toList:=by
 obtain⟨h1,_,h3⟩:=h;have e1:d'.extract 0 d.size=d':=by rw[<-h1];exact Array.extract_size
 rwa [e1,Array.extract_size] at h3
theorem zC {α:Type} [Inhabited α] {lt:α->α->Bool} {d d':Array α} (hs:d'.size=d.size) (h:Go.Sort.SortedIn lt 0 d.size d'):d'.toList.Pairwise fun a b=>lt b a=false:=by
 rw[List.pairwise_iff_getElem];intro i j hi hj hij;simp only[Array.length_toList] at hi hj;have:=h i j (Nat.zero_le _) hij (by omega)
 rwa [getElem!_pos d' i hi,getElem!_pos d' j hj] at this
theorem af.mono {P:Program} {f:Nat} {args:List FV} {ros:List (Rn×D)} {pure:Bool} {Q Q':List D->List RV->Prop} (h:af P f args ros pure Q) (hq:∀ outs res,Q outs res->Q' outs res):af P f args ros pure Q':=
 ⟨h.1,fun w fp0 ok vs ρ φ hl hR=>(h.2 w fp0 ok vs ρ φ hl hR).mono fun e w' ⟨v,outs,res,ok',φ',fr,he,hQ,hD⟩=>⟨v,outs,res,ok',φ',fr,he,hq _ _ hQ,hD⟩⟩
theorem Gq {P:Program} {sf k g:Nat} (hcl:ng P sf) (hS:GP P sf k) {τ:Type} {f:τ->List D} (hk:∀ t,(f t).length=k) (hk0:0 < k) (hns:∀ t,noShL (f t)) (hso:∀ ts,jQ (rows f ts)) (cf:τ->τ->Int)
  (hO:Go.Sort.SWO (ltOf cf)) (ts:List τ) (hlen:ts.length < 4611686018427387904)
  (hcmp:∀ x∈ts,∀ y∈ts,af P g [.ag ((shareL (f x)).map .d),.ag ((shareL (f y)).map .d)] [] true (fun outs res=>outs=[]/\res=[.one (D.int (cf x y))])) :
  af P sf [.al (0,0) [] 0 ts.length,.d (.fn g [])] [((0,0),.ow k ts.length (rows f ts))] true (fun outs res=>∃ r:List τ,r.Perm ts/\(r.Pairwise fun a b=>¬ cf b a < 0)/\outs=[.ow k ts.length (rows f r)]/\res=[]):=by
 refine⟨hcl,fun w fp0 ok vs ρ φ hl hR=>?_⟩
 match vs,hl with
 | [u,fv],_=>
 have h0:=hR.env 0;have h1:=hR.env 1;simp only[fL,List.getD_cons_zero,List.getD_cons_succ,FR,Sh] at h0 h1;obtain⟨k1,N,cs,hv,ho,hh,hN,hsub⟩:=h0;simp only[hdr,Option.some.injEq] at hh;subst hh;obtain⟨lb,rfl,hlb⟩:=h1;simp only[ShV] at hlb;have hlb2:lb = #[]:=by
  apply Array.ext';simpa using hlb
 subst hlb2;have hown:=hR.own (0,0) (.ow k ts.length (rows f ts)) (by simp[ofR]);obtain⟨how,hnd,hbl⟩:=hown;have hsub2:∃ a M c,ρ (0,0) = .slice a M c/\u = .slice a ts.length c:=by
  rcases hsub with ⟨_,a,M,c,e1,e2⟩ | ⟨h,_⟩
  ·exact⟨a,M,c,e1,e2⟩
  ·omega
 obtain⟨a,M,c,e1,rfl⟩:=hsub2;simp only[Ow] at how;have hns2:∀ r:List τ,ij (.ow k ts.length (rows f r)):=fun r=>by
  simp only[ij];exact iF hns r
 rcases how with ⟨hn0,hcs,hfp,a',e2⟩ | ⟨b,o,c',arr,T,fp',e2,hfp,hheap,hcap,harr,hlc,hOL⟩
 ·-- nothing to sort
  have hts:ts=[]:=List.eq_nil_of_length_eq_zero hn0;subst hts;rw[e1] at e2;refine Calls.mono (hS.1 a c (.func (.func g) #[] #[]) w) ?_;rintro e w' ⟨rfl,rfl⟩;refine⟨_,[.ow k 0 (rows f [])],[],ok,fun _=>[],[],rfl,⟨[],List.Perm.nil,List.Pairwise.nil,rfl,rfl⟩,?_⟩;refine Cm (hns2 []) ?_ List.nodup_nil (by simp) (de.refl _ fp0) hR.okb;simp only[Ow,rows];exact .inl ⟨trivial,trivial,trivial,a',by rw[e1];exact e2⟩
 ·obtain⟨us,hul,hus,hov⟩:=lD hOL;obtain⟨els,het,heu,hef,heo⟩:=zv hk ts us fp' hov;have hnl:els.length=ts.length:=by rw[<-het,List.length_map]
  rw[e1] at e2;have e3:=Value.slice.inj e2;obtain⟨rfl,rfl,rfl⟩:=e3;have hbm:=hbl b (by rw[hfp];simp);have hb0:b∈fp0:=by
   rcases hbm.2.1 with h | h
   ·exact h
   ·omega
  rcases Nat.eq_zero_or_pos ts.length with hz | hpos
  ·have hts:ts=[]:=List.eq_nil_of_length_eq_zero hz;subst hts;refine Calls.mono (hS.1 (some ⟨b,o,none⟩) c (.func (.func g) #[] #[]) w) ?_;rintro e w' ⟨rfl,rfl⟩;refine⟨_,[.ow k 0 (rows f [])],[],ok,fun _=>φ (0,0),[],rfl,⟨[],List.Perm.nil,List.Pairwise.nil,rfl,rfl⟩,?_⟩;refine Cm (hns2 []) ?_ hnd hbl (de.refl _ fp0) hR.okb;simp only[Ow];exact .inr ⟨b,o,c,arr,T,fp',by rw[e1];rfl,hfp,hheap,hcap,harr,hlc,hOL⟩
  ·have hinh:Inhabited (Fin els.length):=⟨⟨0,by omega⟩⟩
   let enc:Fin els.length->List Value:=fun i=>els[i].us
   have henc:∀ i,(enc i).length=k:=fun i=>by
    have:=lQ (heo els[i] (List.getElem_mem i.2));show els[i].us.length=k;rw[this,hk]
   let d:Array (Fin els.length):=Array.ofFn id
   have hds:d.size=ts.length:=by simp[d,hnl]
   have hdl:d.toList.flatMap enc=us:=by
    rw[heu];show (Array.ofFn id).toList.flatMap enc=_;rw[Array.toList_ofFn]
    conv=>rhs;rw[<-List.ofFn_getElem (xs:=els)]
    simp only[List.flatMap,List.map_ofFn];rfl
   have hco:∀ i:Fin els.length,cf els[i].t els[i].t=cf els[i].t els[i].t:=fun _=>rfl;have hmem:∀ i:Fin els.length,els[i].t∈ts:=fun i=>by
    have h9:els[i].t∈els.map (·.t):=List.mem_map.2 ⟨_,List.getElem_mem i.2,rfl⟩
    rwa [het] at h9
   have hO2:Go.Sort.SWO (ltOf fun i j:Fin els.length=>cf els[i].t els[j].t):=⟨fun x=>hO.irrefl _,fun x y z=>hO.trans _ _ _,fun x y z=>hO.ntrans _ _ _⟩;have hkk:us.length=d.size*k:=by rw[hul,hlc,hds,Nat.mul_comm]
   have hH:Go.Sort.HoldsK enc k w b o d:=fun j hj=>by
    rw[Go.Sort.size_flatK] at hj;refine⟨?_,mw hheap⟩;have:=xD henc d j hj;rw[hdl] at this;exact hus j _ this
   have hfne:∀ x∈fp',x≠b:=fun x hx e=>by
    subst e;rw[hfp] at hnd;exact (List.nodup_cons.1 hnd).1 hx
   have hfb:∀ x∈fp',x < w.heap.size:=fun x hx=>(hbl x (by rw[hfp];simp[hx])).2.2;have hC:CmpLays P g #[] enc k (fun i j:Fin els.length=>cf els[i].t els[j].t) b o d.size w:=fun m os dk hdk x y=>by
    have hw:∀ i:Fin els.length,bO (sortWorldK enc k w b o m dk os) ok (f els[i].t) (enc i) els[i].fp:=fun i=>by
     have hsub:∀ q∈els[i].fp,q∈fp':=fun q hq=>by rw[hef];exact List.mem_flatMap.2 ⟨_,List.getElem_mem i.2,hq⟩
     refine vn (fun q hq=>lX m dk os ?_ (hR.okb q hq)) (heo els[i] (List.getElem_mem i.2)) fun q hq=>lX m dk os (hfne q (hsub q hq)) (hfb q (hsub q hq));rintro rfl;exact hbm.1 hq
    have hgs:=size_sortWorldK_c enc k w b o m dk os;have hfi:∀ i:Fin els.length,∀ q∈els[i].fp,q < (sortWorldK enc k w b o m dk os).heap.size:=fun i q hq=>Nat.lt_of_lt_of_le (hfb q (by rw[hef];exact List.mem_flatMap.2 ⟨_,List.getElem_mem i.2,hq⟩)) hgs;exact E0 (hcmp _ (hmem x) _ (hmem y)) (hw x) (hw y) (hfi x) (hfi y) fun q hq=>Nat.lt_of_lt_of_le (hR.okb q hq) hgs
   obtain⟨fn,cd,hf1,hf2,hf3⟩:=(hcmp _ (hmem ⟨0,by omega⟩) _ (hmem ⟨0,by omega⟩)).1;have h1c:∀ x,∀ v∈enc x,v.oneCell'=true:=fun x v hv=>by
    refine my ?_ (heo els[x] (List.getElem_mem x.2)) v hv;have:=hso [els[x].t];simpa[rows] using this
   have hcall:=hS.2 (Fin els.length) enc henc h1c (fun i j=>cf els[i].t els[j].t) hO2 g b o c d w (enters_of hf1 hf3 hf2) hC hH hbm.2.2 (by omega);rw[hds] at hcall;refine Calls.mono hcall ?_;rintro e w' ⟨rfl,d',m,os,hp,hsd,rfl⟩;have hpl:=BN (d:=d) (by rw[hds];exact hp);have hdd:d.toList=List.finRange els.length:=by
    show (Array.ofFn id).toList=_;rw[Array.toList_ofFn];rfl
   have hsz':d'.size=ts.length:=hp.1.trans hds
   let el2:List (El τ):=d'.toList.map fun i=>els[i]
   have hpe:el2.Perm els:=by
    have h2:=hpl.map fun i:Fin els.length=>els[i];refine h2.trans (List.Perm.of_eq ?_);show (Array.ofFn id).toList.map _=els;rw[Array.toList_ofFn,List.map_ofFn];exact List.ofFn_getElem
   refine⟨_,[.ow k ts.length (rows f (el2.map (·.t)))],[],ok,fun _=>b :: el2.flatMap (·.fp),[],rfl,⟨el2.map (·.t),by rw[<-het];exact hpe.map _,?_,rfl,rfl⟩,?_⟩
   ·have:=zC hp.1 (by rw[hds];exact hsd);rw[List.pairwise_map,List.pairwise_map];refine this.imp fun h=>?_;simpa[ltOf] using h
   ·have hpf:(el2.flatMap (·.fp)).Perm fp':=by rw[hef];exact hpe.flatMap_right _
    obtain⟨arr',hb',hsa⟩:=Ft (enc:=enc) (k:=k) (o:=o) m d' os hheap;have hgs:=size_sortWorldK_c enc k w b o m d' os;refine Cm (hns2 _) ?_ ?_ ?_ (Dv m d' os hb0) hR.okb
    ·simp only[Ow];refine .inr ⟨b,o,c,arr',T,el2.flatMap (·.fp),e1,rfl,hb',hcap,by rw[hsa];exact harr,?_,?_⟩
     ·rw[cn hk,List.length_map,List.length_map,Array.length_toList,hsz']
     ·have hov2:bO w ok (rows f (el2.map (·.t))) (el2.flatMap (·.us)) (el2.flatMap (·.fp)):=zx el2 fun x hx=>heo x (hpe.subset hx);have hflat:el2.flatMap (·.us)=d'.toList.flatMap enc:=by
       show (d'.toList.map _).flatMap _=_;rw[List.flatMap_map]
      refine mI (fun q hq=>lX m d' os ?_ (hR.okb q hq)) hov2 (fun j v hj=>?_) fun q hq=>lX m d' os (hfne q (hpf.subset hq)) (hfb q (hpf.subset hq))
      ·rintro rfl;exact hbm.1 hq
      ·have hHs:=holdsK_sortWorldK_c enc k w b o d d' m os hH hbm.2.2 hp.1;have hj2:j < d'.size*k:=by
        rcases Nat.lt_or_ge j (d'.toList.flatMap enc).length with h | h
        ·rwa [zi henc,Array.length_toList] at h
        ·rw[hflat,List.getElem?_eq_none h] at hj;simp at hj
       rw[hflat,xD henc d' j hj2] at hj;simp only[Option.some.injEq] at hj;rw[<-hj];exact (hHs j (by rw[Go.Sort.size_flatK];exact hj2)).1
    ·refine List.nodup_cons.2 ⟨fun h=>hfne b (hpf.subset h) rfl,hpf.nodup_iff.2 ?_⟩;rw[hfp] at hnd;exact (List.nodup_cons.1 hnd).2
    ·intro q hq;rcases List.mem_cons.1 hq with rfl | hq
     ·exact⟨hbm.1,.inl hb0,Nat.lt_of_lt_of_le hbm.2.2 hgs⟩
     ·have:=hbl q (by rw[hfp];simp[hpf.subset hq]);exact⟨this.1,this.2.1,Nat.lt_of_lt_of_le this.2.2 hgs⟩
end Go.Proofs.YtncfmemhjahpeaaGreat.Ab
namespace Go.Proofs.YtncfmemhjahpeaaGreat.Ab
open Go
set_option maxRecDepth 10000
set_option maxHeartbeats 2000000
set_option maxRecDepth 10000
set_option maxHeartbeats 2000000
def kT (a b:Int):Int:=if a < b then -1 else if b < a then 1 else 0
def fJ:List Int->List Int->Int
 | [],[]=>0
 | [],_ :: _=>-1
 | _ :: _,[]=>1
 | a :: x,b :: y=>if a=b then fJ x y else if a < b then -1 else 1
theorem y8:∀ (a b:List Int),decide (fJ a b < 0)=cz a b
 | [],[]=>rfl
 | [],_ :: _=>rfl
 | _ :: _,[]=>rfl
 | a :: x,b :: y=>by
  have ih:=y8 x y
  by_cases h:a=b
  ·have e:fJ (a :: x) (b :: y)=fJ x y:=by simp[fJ,h]
   rw[e,ih];simp[cz,h]
  ·by_cases h2:a < b
   ·have e:fJ (a :: x) (b :: y)=-1:=by simp[fJ,h,h2]
    rw[e];simp[cz,h,h2]
   ·have e:fJ (a :: x) (b :: y)=1:=by simp[fJ,h,h2]
    rw[e];simp[cz,h,h2]
def okE (e:List Int) (v:Int):Bool:=decide ((e.length:Int)=v) && !e.any (fun x=>!decide (-20<=x/\x<=20))
theorem sn {e:List Int} {v:Int}:okE e v=true↔(e.length:Int)=v/\∀ x∈e,-20<=x/\x<=20:=by
 unfold okE;simp only[Bool.and_eq_true,decide_eq_true_eq,Bool.not_eq_true',List.any_eq_false,Bool.not_eq_true'];refine⟨fun⟨h1,h2⟩=>⟨h1,fun x hx=>?_⟩,fun⟨h1,h2⟩=>⟨h1,fun x hx=>?_⟩⟩
 ·have:=h2 x hx;simpa using this
 ·have:=h2 x hx;simpa using this
theorem nG (a:Int):af Tryz.prog F.gW [.int a] [] true (fun outs res=>outs=[]/\res=[.one (D.bool false)]):=by
 refine af.ob (C:=C.gW) (n:=Tryz.f162.ntmps) bC bD Tryz.func162 rfl rfl ?_;simp only[Tryz.f162];apply aa;refine ab fun K hK=>?_;simp[C.gW];apply hK;clear hK K;show AWp _ _ _ _ _;apply aa;refine ab fun K hK=>?_;simp[C.gW];apply hK;clear hK K;show AWp _ _ _ _ _;apply aI;simp[C.gW]
theorem mg (a b:Int):af Tryz.prog F.bS [.int a,.int b] [] true (fun outs res=>outs=[]/\res=[.one (D.int (kT a b))]):=by
 refine af.ob (C:=C.bS) (n:=Tryz.f129.ntmps) bC bD Tryz.func129 rfl rfl ?_;simp only[Tryz.f129];apply aa;refine ab fun K hK=>?_;simp[C.bS];apply hK;clear hK K;show AWp _ _ _ _ _;apply aa;refine aK ([0,1] ++ ([2])) rfl fun K hK=>?_;refine oSg fun L hL=>?_;simp[C.bS];refine ae (nG a) (by simp) (by simp) ?_;simp[C.bS];apply hL;clear hL L;refine oEn fun L hL=>?_;simp[C.bS];apply hL;clear hL L;simp[C.bS];apply hK;clear hK K;show AWp _ _ _ _ _;apply aa;refine aK ([0,1] ++ ([2])) rfl fun K hK=>?_;refine oSg fun L hL=>?_;simp[C.bS];refine ae (nG b) (by simp) (by simp) ?_;simp[C.bS];apply hL;clear hL L;refine oEn fun L hL=>?_;simp[C.bS];apply hL;clear hL L;simp[C.bS];apply hK;clear hK K;show AWp _ _ _ _ _;apply aa;apply aa;refine ab fun K hK=>?_;simp[C.bS];apply hK;clear hK K;show AWp _ _ _ _ _;refine ap _ rfl (fun hc1=>?_) (fun hc1=>?_)
 ·simp at hc1
 ·apply au;show AWp _ _ _ _ _;apply aa;apply aa;refine ab fun K hK=>?_;simp[C.bS];apply hK;clear hK K;show AWp _ _ _ _ _;refine ap _ rfl (fun hc3=>?_) (fun hc3=>?_)
  ·simp at hc3
  ·apply au;show AWp _ _ _ _ _;apply aa;apply aa;refine ab fun K hK=>?_;simp[C.bS];apply hK;clear hK K;show AWp _ _ _ _ _;refine ap _ rfl (fun hc4=>?_) (fun hc4=>?_)
   ·have h4:=d_t hc4;apply aa;refine ab fun K hK=>?_;simp[C.bS];apply hK;clear hK K;show AWp _ _ _ _ _;apply aI;simp[C.bS,kT,h4]
   ·have h4:=d_f hc4;apply au;show AWp _ _ _ _ _;apply aa;apply aa;refine ab fun K hK=>?_;simp[C.bS];apply hK;clear hK K;show AWp _ _ _ _ _;refine ap _ rfl (fun hc5=>?_) (fun hc5=>?_)
    ·have h5:b < a:=by simpa using hc5
     apply aa;refine ab fun K hK=>?_;simp[C.bS];apply hK;clear hK K;show AWp _ _ _ _ _;apply aI;simp[C.bS,kT,h4,h5]
    ·have h5:¬ b < a:=by simpa using hc5
     apply au;show AWp _ _ _ _ _;apply aa;refine ab fun K hK=>?_;simp[C.bS];apply hK;clear hK K;show AWp _ _ _ _ _;apply aI;simp[C.bS,kT,h4,h5]
theorem m5 (a b:List Int) (ha:a.length < 4611686018427387904):af Tryz.prog F.aY [.d (shI a),.d (shI b)] [] true (fun outs res=>outs=[]/\res=[.one (D.int (fJ a b))]):=by
 refine af.ob (C:=C.aY) (n:=Tryz.f117.ntmps) bC bD Tryz.func117 rfl rfl ?_;simp only[Tryz.f117];apply aa;refine ab fun K hK=>?_;simp[C.aY];apply hK;clear hK K;show AWp _ _ _ _ _;apply aa;apply aa;refine ab fun K hK=>?_;simp[C.aY];apply hK;clear hK K;show AWp _ _ _ _ _;apply ak;refine bm (fun k:Nat=>⟨ofL [(0,.d (shI a)),(1,.d (shI b)),(9,.d (shI a)),(10,.int a.length),(11,FV.int k)],aF []⟩) (fun k=>k<=a.length/\k<=b.length/\fJ a b=fJ (a.drop k) (b.drop k)) (fun k=>a.length - k) 0 (by simp[C.aY]) (by simp) ?_;intro x1 hx1 R1 hR1;obtain⟨hk,hk2,ht⟩:=hx1;apply aa;refine ab fun K hK=>?_;simp[C.aY];apply hK;clear hK K;show AWp _ _ _ _ _;apply aa;refine ap _ rfl (fun hc1=>?_) (fun hc1=>?_)
 ·have h1:x1 < a.length:=by have:=d_t hc1;omega
  apply au;show AWp _ _ _ _ _;apply aa;apply ak;apply aa;refine ab fun K hK=>?_;simp[C.aY,ao,h1];apply hK;clear hK K;show AWp _ _ _ _ _;apply aa;apply aa;refine ab fun K hK=>?_;simp[C.aY];apply hK;clear hK K;show AWp _ _ _ _ _;refine ap _ rfl (fun hc2=>?_) (fun hc2=>?_)
  ·have h2:b.length<=x1:=by have:=d_t hc2;omega
   apply aa;refine ab fun K hK=>?_;simp[C.aY];apply hK;clear hK K;show AWp _ _ _ _ _;apply aI;simp[C.aY];rw[ht,List.drop_eq_nil_of_le h2,List.drop_eq_getElem_cons h1];rfl
  ·have h2:x1 < b.length:=by have:=d_f hc2;omega
   apply au;show AWp _ _ _ _ _;apply aa;refine ab fun K hK=>?_;simp[C.aY,ao,h2];apply hK;clear hK K;show AWp _ _ _ _ _;apply aa;refine aK ([0,1,2] ++ ([3])) rfl fun K hK=>?_;refine oSg fun L hL=>?_;simp[C.aY];refine ae (mg a[x1] b[x1]) (by simp) (by simp) ?_;simp[C.aY];apply hL;clear hL L;refine oEn fun L hL=>?_;simp[C.aY];apply hL;clear hL L;simp[C.aY];apply hK;clear hK K;show AWp _ _ _ _ _;apply aa;refine ab fun K hK=>?_;simp[C.aY];apply hK;clear hK K;show AWp _ _ _ _ _;refine ap _ rfl (fun hc3=>?_) (fun hc3=>?_)
   ·have hne:¬ kT a[x1] b[x1]=0:=by simpa using hc3
    apply aa;refine ab fun K hK=>?_;simp[C.aY];apply hK;clear hK K;show AWp _ _ _ _ _;apply aI;simp[C.aY];rw[ht,List.drop_eq_getElem_cons h1,List.drop_eq_getElem_cons h2];rcases Int.lt_trichotomy a[x1] b[x1] with q | q | q
    ·simp[fJ,kT,q,Int.ne_of_lt q]
    ·simp[kT,q] at hne
    ·simp[fJ,kT,q,Int.ne_of_gt q,Int.not_lt.2 (Int.le_of_lt q)]
   ·have heq:kT a[x1] b[x1]=0:=by simpa using hc3
    have hab:a[x1]=b[x1]:=by
     unfold kT at heq;split at heq
     ·simp at heq
     ·split at heq
      ·simp at heq
      ·omega
    apply au;show AWp _ _ _ _ _;refine ab fun K hK=>?_;simp[C.aY,ay (show x1 < 4611686018427387904 by omega)];apply hK;clear hK K;simp[C.aY];refine hR1 (x1+1) ⟨h1,h2,?_⟩ (by omega);rw[ht,List.drop_eq_getElem_cons h1,List.drop_eq_getElem_cons h2];simp[fJ,hab]
 ·have h1:x1=a.length:=by have:=d_f hc1;omega
  have hn:a.drop x1=[]:=List.drop_eq_nil_of_le (by omega);apply aZ;show AWp _ _ _ _ _;apply aa;apply aa;refine ab fun K hK=>?_;simp[C.aY];apply hK;clear hK K;show AWp _ _ _ _ _;refine ap _ rfl (fun hc4=>?_) (fun hc4=>?_)
  ·have h2:a.length < b.length:=by have:=d_t hc4;omega
   apply aa;refine ab fun K hK=>?_;simp[C.aY];apply hK;clear hK K;show AWp _ _ _ _ _;apply aI;simp[C.aY];rw[ht,hn,List.drop_eq_getElem_cons (show x1 < b.length by omega)];rfl
  ·have h2:¬ a.length < b.length:=by have:=d_f hc4;omega
   apply au;show AWp _ _ _ _ _;apply aa;refine ab fun K hK=>?_;simp[C.aY];apply hK;clear hK K;show AWp _ _ _ _ _;apply aI;simp[C.aY];rw[ht,hn,List.drop_eq_nil_of_le (show b.length<=x1 by omega)];rfl
theorem md (xs:List Int) (g:Nat) (p:Int->Bool) (hx:xs.length < 4611686018427387904) (hM:aA [] MM g=[]) (hp:∀ x∈xs,af Tryz.prog g [.int x] [] true (fun outs res=>outs=[]/\res=[.one (D.bool (p x))])):af Tryz.prog F.bE [.d (shI xs),.d (.fn g [])] [] true (fun outs res=>outs=[]/\∃ r:Int,res=[.one (D.int r)]/\decide (0<=r)=xs.any p):=by
 refine af.ob (C:=C.bE) (n:=Tryz.f163.ntmps) bC bD Tryz.func163 rfl rfl ?_;simp only[Tryz.f163];apply aa;refine ab fun K hK=>?_;simp[C.bE];apply hK;clear hK K;show AWp _ _ _ _ _;apply aa;apply aa;refine ab fun K hK=>?_;simp[C.bE];apply hK;clear hK K;show AWp _ _ _ _ _;apply ak;refine bm (fun k:Nat=>⟨ofL [(0,.d (shI xs)),(1,.d (.fn g [])),(7,.int xs.length),(8,FV.int k)],aF []⟩) (fun k=>k<=xs.length/\(xs.take k).any p=false) (fun k=>xs.length - k) 0 (by simp[C.bE]) (by simp) ?_;intro x1 hx1 R1 hR1;obtain⟨hk,ht⟩:=hx1;apply aa;refine ab fun K hK=>?_;simp[C.bE];apply hK;clear hK K;show AWp _ _ _ _ _;apply aa;refine ap _ rfl (fun hc1=>?_) (fun hc1=>?_)
 ·have h1:x1 < xs.length:=by have:=d_t hc1;omega
  apply au;show AWp _ _ _ _ _;apply aa;apply ak;apply aa;refine ab fun K hK=>?_;simp[C.bE];apply hK;clear hK K;show AWp _ _ _ _ _;apply aa;refine aK ([0,1,2,3,4,5] ++ ([])) rfl fun K hK=>?_;refine oSg fun L hL=>?_;simp[C.bE,ao,h1,hM];refine ae (hp xs[x1] (List.getElem_mem h1)) (by simp) (by simp) ?_;simp[C.bE,ao,h1,hM];apply hL;clear hL L;refine oEn fun L hL=>?_;simp only[d7];apply hL;clear hL L;simp[C.bE,ao,h1,hM];apply hK;clear hK K;show AWp _ _ _ _ _;refine ap _ rfl (fun hc2=>?_) (fun hc2=>?_)
  ·have hpx:p xs[x1]=true:=by simpa using hc2
   apply aa;refine ab fun K hK=>?_;simp[C.bE];apply hK;clear hK K;show AWp _ _ _ _ _;apply aI;simp[C.bE];exact⟨xs[x1],List.getElem_mem h1,hpx⟩
  ·have hpx:p xs[x1]=false:=by simpa using hc2
   apply au;show AWp _ _ _ _ _;refine ab fun K hK=>?_;simp[C.bE,ay (show x1 < 4611686018427387904 by omega)];apply hK;clear hK K;simp[C.bE];refine hR1 (x1+1) ⟨h1,?_⟩ (by omega);rw[List.take_succ_eq_append_getElem h1,List.any_append,ht];simp[hpx]
 ·have h1:x1=xs.length:=by have:=d_f hc1;omega
  have ht2:xs.any p=false:=by rw[h1,List.take_length] at ht;exact ht
  apply aZ;show AWp _ _ _ _ _;apply aa;refine ab fun K hK=>?_;simp[C.bE];apply hK;clear hK K;show AWp _ _ _ _ _;apply aI;simp[C.bE];intro x hx;have:=List.any_eq_false.1 ht2 x hx;simpa using this
theorem ip (xs:List Int) (g:Nat) (p:Int->Bool) (hx:xs.length < 4611686018427387904) (hM:aA [] MM g=[]) (hp:∀ x∈xs,af Tryz.prog g [.int x] [] true (fun outs res=>outs=[]/\res=[.one (D.bool (p x))])):af Tryz.prog F.cv [.d (shI xs),.d (.fn g [])] [] true (fun outs res=>outs=[]/\res=[.one (D.bool (xs.any p))]):=by
 refine af.ob (C:=C.cv) (n:=Tryz.f130.ntmps) bC bD Tryz.func130 rfl rfl ?_;simp only[Tryz.f130];apply aa;refine ab fun K hK=>?_;simp[C.cv];apply hK;clear hK K;show AWp _ _ _ _ _;apply aa;refine aK ([0,1,2] ++ ([3,4])) rfl fun K hK=>?_;refine oSg fun L hL=>?_;simp[C.cv];refine fh (md xs g p hx hM hp) (by simp) (by simp) (by simp) ?_;rintro outs res ⟨rfl,r,rfl,hr⟩;simp[C.cv];apply hL;clear hL L;refine oEn fun L hL=>?_;simp[C.cv];apply hL;clear hL L;simp[C.cv];apply hK;clear hK K;show AWp _ _ _ _ _;apply aI;simp[C.cv];exact hr
theorem vX (x:Int):af Tryz.prog F.fE [.int x] [] true (fun outs res=>outs=[]/\res=[.one (D.bool (!decide (-20<=x/\x<=20)))]):=by
 refine af.ob (C:=C.fE) (n:=Tryz.f131.ntmps) bC bD Tryz.func131 rfl rfl ?_;simp only[Tryz.f131];apply aa;refine ab fun K hK=>?_;simp[C.fE];apply hK;clear hK K;show AWp _ _ _ _ _;apply aa;refine aK ([0,1] ++ ([2,3])) rfl fun K hK=>?_;refine oSg fun L hL=>?_;simp[C.fE];refine ae (cg x (-20) 20) (by simp) (by simp) ?_;simp[C.fE];apply hL;clear hL L;refine oEn fun L hL=>?_;simp[C.fE];apply hL;clear hL L;simp[C.fE];apply hK;clear hK K;show AWp _ _ _ _ _;apply aI;simp[C.fE]
theorem gI (e:List Int) (v:Int) (hx:e.length < 4611686018427387904):af Tryz.prog F.eW [.d (shI e),.int v] [] true (fun outs res=>outs=[]/\res=[.one (D.bool (okE e v))]):=by
 refine af.ob (C:=C.eW) (n:=Tryz.f89.ntmps) bC bD Tryz.func89 rfl rfl ?_;simp only[Tryz.f89];apply aa;refine ab fun K hK=>?_;simp[C.eW];apply hK;clear hK K;show AWp _ _ _ _ _;apply aa;refine aK ([0,1,2,3,4,5,6] ++ ([7,8,9])) rfl fun K hK=>?_;have hJ:K ⟨ofL [(4,.bool (okE e v))],aF []⟩:=by
  apply hK;clear hK K;show AWp _ _ _ _ _;apply aI;simp[C.eW]
 clear hK
 by_cases ha:(e.length:Int)=v
 ·refine oSg fun L hL=>?_;simp[C.eW,ha];refine ae (ip e _ (fun x=>!decide (-20<=x/\x<=20)) hx rfl (fun x _=>vX x)) (by simp) (by simp) ?_;simp[C.eW,ha];apply hL;clear hL L;refine oEn fun L hL=>?_;simp[C.eW,ha];apply hL;clear hL L;simp[C.eW,ha];refine cast (congrArg K ?_) hJ;simp[okE,ha]
 ·refine oSg fun L hL=>?_;simp[C.eW,ha];apply hL;clear hL L;refine oEn fun L hL=>?_;simp[C.eW,ha];apply hL;clear hL L;simp[C.eW,ha];refine cast (congrArg K ?_) hJ;simp[okE,ha]
theorem mf (c:Int):af Tryz.prog F.eF [.int c] [] true (fun outs res=>outs=[]/\res=[.one (D.bool (decide (c≠0/\-1000000<=c/\c<=1000000)))]):=by
 refine af.ob (C:=C.eF) (n:=Tryz.f91.ntmps) bC bD Tryz.func91 rfl rfl ?_;simp only[Tryz.f91];apply aa;refine ab fun K hK=>?_;simp[C.eF];apply hK;clear hK K;show AWp _ _ _ _ _;apply aa;refine aK ([0,1,2,3,4] ++ ([5,6])) rfl fun K hK=>?_;have hJ:K ⟨ofL [(2,.bool (decide (c≠0/\-1000000<=c/\c<=1000000)))],aF []⟩:=by
  apply hK;clear hK K;show AWp _ _ _ _ _;apply aI;simp[C.eF]
 clear hK
 by_cases ha:c=0
 ·refine oSg fun L hL=>?_;simp[C.eF,ha];apply hL;clear hL L;refine oEn fun L hL=>?_;simp[C.eF,ha];apply hL;clear hL L;simp[C.eF,ha];refine cast (congrArg K ?_) hJ;simp[ha]
 ·refine oSg fun L hL=>?_;simp[C.eF,ha];refine ae (cg c (-1000000) 1000000) (by simp) (by simp) ?_;simp[C.eF,ha];apply hL;clear hL L;refine oEn fun L hL=>?_;simp[C.eF,ha];apply hL;clear hL L;simp[C.eF,ha];refine cast (congrArg K ?_) hJ;simp[ha]
set_option maxRecDepth 10000
set_option maxHeartbeats 2000000
attribute [local simp] jV dP jE
def pad (e:List Int):List Int:=e ++ List.replicate (8 - e.length) 0
theorem fC {e:List Int} (h:e.length<=8):(pad e).length=8:=by
 unfold pad;simp;omega
theorem nI {l:List Int} (h:l.length=8):∃ a b c d e f g k,l=[a,b,c,d,e,f,g,k]:=by
 match l,h with
 | [a,b,c,d,e,f,g,k],_=>exact⟨a,b,c,d,e,f,g,k,rfl⟩
def nY (es:List (List Int×Int)) (k:List Int) (c:Int):List (List Int×Int):=
 if c+(dQ k es).getD 0=0 then iL k es else iS k (c+(dQ k es).getD 0) es
theorem iC (e:List Int) (he:e.length<=8) (k0 k1 k2 k3 k4 k5 k6 k7:Int) (hk:pad e=[k0,k1,k2,k3,k4,k5,k6,k7]):af Tryz.prog F.hY [.d (shI e)] [] true (fun outs res=>outs=[]/\res=[.ag [D.int k0,D.int k1,D.int k2,D.int k3,D.int k4,D.int k5,D.int k6,D.int k7]]):=by
 refine af.ob (C:=C.hY) (n:=Tryz.f61.ntmps) bC bD Tryz.func61 rfl rfl ?_;simp only[Tryz.f61];apply aa;refine ab fun K hK=>?_;simp[C.hY];apply hK;clear hK K;show AWp _ _ _ _ _;apply aa;refine ab fun K hK=>?_;simp[C.hY];apply hK;clear hK K;show AWp _ _ _ _ _;apply aa;have hcp:ints (e.take (min e.length 8)) ++ List.drop (min e.length 8) [D.int 0,D.int 0,D.int 0,D.int 0,D.int 0,D.int 0,D.int 0,D.int 0]=[D.int k0,D.int k1,D.int k2,D.int k3,D.int k4,D.int k5,D.int k6,D.int k7]:=by
  have hz:([D.int 0,D.int 0,D.int 0,D.int 0,D.int 0,D.int 0,D.int 0,D.int 0]:List D)=ints (List.replicate 8 0):=rfl;rw[hz,Nat.min_eq_left he,List.take_length,xi,sJ,List.drop_replicate];show ints (pad e)=_;rw[hk];rfl
 refine ab fun K hK=>?_;simp[C.hY];rw[hcp];apply hK;clear hK K;show AWp _ _ _ _ _;apply aa;refine ab fun K hK=>?_;simp[C.hY];apply hK;clear hK K;show AWp _ _ _ _ _;apply aI;simp[C.hY]
theorem lm (t:Int) (a0 a1 a2 a3 a4 a5 a6 a7 b0 b1 b2 b3 b4 b5 b6 b7:Int) (ht:-1<=t/\t<=1) (ha:∀ x∈[a0,a1,a2,a3,a4,a5,a6,a7],-1000000<=x/\x<=1000000) (hb:∀ x∈[b0,b1,b2,b3,b4,b5,b6,b7],-1000000<=x/\x<=1000000):af Tryz.prog F.dN [.ag [.int a0,.int a1,.int a2,.int a3,.int a4,.int a5,.int a6,.int a7],.int t,.ag [.int b0,.int b1,.int b2,.int b3,.int b4,.int b5,.int b6,.int b7]] [] true (fun outs res=>outs=[]/\res=[.ag [D.int (a0+t*b0),D.int (a1+t*b1),D.int (a2+t*b2),D.int (a3+t*b3),D.int (a4+t*b4),D.int (a5+t*b5),D.int (a6+t*b6),D.int (a7+t*b7)]]):=by
 refine af.ob (C:=C.dN) (n:=Tryz.f88.ntmps) bC bD Tryz.func88 rfl rfl ?_;simp only[Tryz.f88];apply aa;refine ab fun K hK=>?_;simp[C.dN];apply hK;clear hK K;show AWp _ _ _ _ _;apply aa;apply aa;refine ab fun K hK=>?_;simp[C.dN];apply hK;clear hK K;show AWp _ _ _ _ _;apply ak;refine bm (fun x:Nat×List Int=>⟨ofL [(1,.int t),(3,.pt (3,0) [] 0),(5,.pt (5,0) [] 0),(6,.pt (6,0) [] 0),(8,.int x.1)],aF [((3,0),some (.bx (ints x.2))),((5,0),some (.bx (ints [b0,b1,b2,b3,b4,b5,b6,b7]))),((6,0),some (.bx (ints [0,0,0,0,0,0,0,0])))]⟩) (fun x=>x.1<=8/\x.2=bc t ([a0,a1,a2,a3,a4,a5,a6,a7].take x.1) ([b0,b1,b2,b3,b4,b5,b6,b7].take x.1) ++ [a0,a1,a2,a3,a4,a5,a6,a7].drop x.1) (fun x=>8 - x.1) (0,[a0,a1,a2,a3,a4,a5,a6,a7]) (by simp[C.dN,ints]) (by simp[bc]) ?_;intro x1 hx1 R1 hR1;obtain⟨i,gs⟩:=x1;obtain⟨hi,hg⟩:=hx1;dsimp only at hi hg ⊢;apply aa;refine ab fun K hK=>?_;simp[C.dN];apply hK;clear hK K;show AWp _ _ _ _ _;apply aa;refine ap _ rfl (fun hc1=>?_) (fun hc1=>?_)
 ·have h1:i < 8:=by have:=d_t hc1;omega
  have hgl:gs.length=8:=by
   rw[hg];simp[dh];omega
  have h2:i < gs.length:=by omega
  have h3:i < [b0,b1,b2,b3,b4,b5,b6,b7].length:=by simpa using h1
  have h4:i < [a0,a1,a2,a3,a4,a5,a6,a7].length:=by simpa using h1
  have hge:gs[i]=[a0,a1,a2,a3,a4,a5,a6,a7][i]:=by
   have:=Eg (t:=t) h4 (show [a0,a1,a2,a3,a4,a5,a6,a7].length=[b0,b1,b2,b3,b4,b5,b6,b7].length from rfl);rw[<-hg,List.getElem?_eq_getElem h2] at this;injection this
  have hA:=ha _ (List.getElem_mem h4);have hB:=hb _ (List.getElem_mem h3);generalize hbi:[b0,b1,b2,b3,b4,b5,b6,b7][i]=B at hB;generalize hai:[a0,a1,a2,a3,a4,a5,a6,a7][i]=A at hA hge;have htb:-1000000<=t*B/\t*B<=1000000:=by
   rcases (show t=-1\/t=0\/t=1 by omega) with rfl | rfl | rfl <;> omega
  apply au;show AWp _ _ _ _ _;apply aa;apply ak;apply aa;refine ab fun K hK=>?_;simp[C.dN];apply hK;clear hK K;show AWp _ _ _ _ _;refine eG (.take 0 (.take 1 (.take 2 (.take 3 (.take 4 (.take 5 (.take 6 (.take 7 (.take 8 (.take 9 (.all [(10,.done)]))))))))))) ⟨by kernel_rfl,by kernel_rfl⟩ fun K hK=>?_;simp[C.dN,show ((i:Int) < 8) by omega,h1,hgl,ao];rw[hbi,hge,aj (x:=t*B) (by omega) (by omega),aj (x:=A+t*B) (by omega) (by omega)];apply hK;clear hK K;show AWp _ _ _ _ _;refine ab fun K hK=>?_;simp[C.dN,ay (show i < 4611686018427387904 by omega)];apply hK;clear hK K;simp[C.dN];refine hR1 (i+1,_) ⟨h1,?_⟩ (by dsimp only;omega);dsimp only;rw[hg,<-hai,<-hbi];exact CD (bs:=[b0,b1,b2,b3,b4,b5,b6,b7]) h4 rfl
 ·have h1:i=8:=by have:=d_f hc1;omega
  subst h1;have hg2:gs=[a0+t*b0,a1+t*b1,a2+t*b2,a3+t*b3,a4+t*b4,a5+t*b5,a6+t*b6,a7+t*b7]:=by rw[hg];rfl
  subst hg2;apply aZ;show AWp _ _ _ _ _;apply aa;refine ab fun K hK=>?_;simp[C.dN,ints];apply hK;clear hK K;show AWp _ _ _ _ _;apply aI;simp[C.dN]
set_option maxRecDepth 10000
set_option maxHeartbeats 2000000
theorem Bh {a b:List Int} (h:a.length=b.length) (e:pad a=pad b):a=b:=by
 unfold pad at e;rw[h] at e;exact List.append_cancel_right e
theorem yo {e:List Int}:(pad e).take e.length=e:=by
 unfold pad;exact List.take_left
theorem qL {k:List Int}:∀ {es:List (List Int×Int)},(∀ x∈es,x.1≠k)->dQ k es=none
 | [],_=>rfl
 | x :: es,h=>by
  simp only[dQ];rw[if_neg (h x (by simp))];exact qL fun y hy=>h y (by simp[hy])
theorem wN {k q:List Int} {v:Int}:∀ (es:List (List Int×Int)),dQ q (iS k v es)=if k=q then some v else dQ q es
 | []=>by simp[iS,dQ]
 | x :: es=>by
  simp only[iS];split
  ·rename_i e;subst e;simp only[dQ];split <;> rfl
  ·rename_i e;simp only[dQ,wN es]
   by_cases h1:x.1=q
   ·rw[if_pos h1,if_neg (fun h2=>e (h1.trans h2.symm)),if_pos h1]
   ·rw[if_neg h1,if_neg h1]
theorem xe {k q:List Int}:∀ (es:List (List Int×Int)),(es.map (·.1)).Nodup->dQ q (iL k es)=if k=q then none else dQ q es
 | [],_=>by simp[iL,dQ]
 | x :: es,h=>by
  simp only[List.map_cons,List.nodup_cons] at h;simp only[iL];split
  ·rename_i e;subst e
   by_cases h1:x.1=q
   ·rw[if_pos h1];exact qL fun y hy e2=>h.1 (by rw[h1,<-e2];exact List.mem_map.2 ⟨y,hy,rfl⟩)
   ·rw[if_neg h1];simp only[dQ];rw[if_neg h1]
  ·rename_i e;simp only[dQ,xe es h.2]
   by_cases h1:x.1=q
   ·rw[if_pos h1,if_neg (fun h2=>e (h1.trans h2.symm)),if_pos h1]
   ·rw[if_neg h1,if_neg h1]
theorem ta {k:List Int} {v:Int}:∀ {es:List (List Int×Int)} {x:List Int×Int},x∈iS k v es->x=(k,v)\/x∈es
 | [],x,h=>by
  simp only[iS,List.mem_singleton] at h;exact .inl h
 | y :: es,x,h=>by
  simp only[iS] at h;split at h
  ·rcases List.mem_cons.1 h with h | h
   ·exact .inl h
   ·exact .inr (by simp[h])
  ·rcases List.mem_cons.1 h with h | h
   ·exact .inr (by simp[h])
   ·rcases ta h with h | h
    ·exact .inl h
    ·exact .inr (by simp[h])
theorem tC {k:List Int}:∀ {es:List (List Int×Int)} {x:List Int×Int},x∈iL k es->x∈es
 | [],x,h=>by simp[iL] at h
 | y :: es,x,h=>by
  simp only[iL] at h;split at h
  ·simp[h]
  ·rcases List.mem_cons.1 h with h | h
   ·simp[h]
   ·simp[tC h]
theorem uP {k:List Int} {v:Int}:∀ {es:List (List Int×Int)},(es.map (·.1)).Nodup->((iS k v es).map (·.1)).Nodup
 | [],_=>by simp[iS]
 | y :: es,h=>by
  simp only[List.map_cons,List.nodup_cons] at h;simp only[iS];split
  ·rename_i e;simp only[List.map_cons,List.nodup_cons];rw[<-e];exact h
  ·rename_i e;simp only[List.map_cons,List.nodup_cons];refine⟨fun hm=>?_,uP h.2⟩;obtain⟨z,hz,e2⟩:=List.mem_map.1 hm;rcases ta hz with rfl | hz
   ·exact e e2.symm
   ·exact h.1 (List.mem_map.2 ⟨z,hz,e2⟩)
theorem uz {k:List Int}:∀ {es:List (List Int×Int)},(es.map (·.1)).Nodup->((iL k es).map (·.1)).Nodup
 | [],_=>by simp[iL]
 | y :: es,h=>by
  simp only[List.map_cons,List.nodup_cons] at h;simp only[iL];split
  ·exact h.2
  ·simp only[List.map_cons,List.nodup_cons];refine⟨fun hm=>?_,uz h.2⟩;obtain⟨z,hz,e2⟩:=List.mem_map.1 hm;exact h.1 (List.mem_map.2 ⟨z,tC hz,e2⟩)
set_option maxRecDepth 10000
set_option maxHeartbeats 2000000
theorem wv {a b:List Int} (h:a.length=b.length) (k:Int):bc k (pad a) (pad b)=pad (bc k a b):=by
 unfold pad;rw[dh _ _ _ h,<-h];generalize 8 - a.length=m
 induction a generalizing b with
 | nil=>cases b with
  | nil=>
   simp only[bc,List.nil_append]
   induction m with
   | zero=>rfl
   | succ m ih=>simp[List.replicate_succ,bc,ih]
  | cons y b=>simp at h
 | cons x a ih=>cases b with
  | nil=>simp at h
  | cons y b=>simp[bc,ih (by simpa using h)]
theorem MB {a i j:Nat} (h:a<=(i*600+j)*1000000000000) (hj:j<=600):a<=((i+1)*600)*1000000000000:=
 Nat.le_trans h (Nat.mul_le_mul_right _ (by omega))
theorem Dc {c:Int} (h:-1000000000000<=c/\c<=1000000000000):c.natAbs<=1000000000000:=by omega
theorem qx {e:List Int} (h:∀ x∈e,-20<=x/\x<=20):∀ x∈pad e,-1000000<=x/\x<=1000000:=fun x hx=>by
 unfold pad at hx;rcases List.mem_append.1 hx with hx | hx
 ·have:=h x hx;omega
 ·have:=List.eq_of_mem_replicate hx;omega
set_option maxRecDepth 10000
set_option maxHeartbeats 2000000
attribute [local simp] jV dP jE
theorem sM {K:Type} [DecidableEq K] {lt:K->K->Bool} {k:K} {c:Int} (hc:c≠0):∀ l:List (K×Int),(∀ x∈l,x.1≠k)->(eZ lt k c l).length=l.length+1
 | [],_=>by simp[eZ,hc]
 | x :: l,h=>by
  simp only[eZ];rw[if_neg (h x (by simp))];split
  ·first | rfl | (rw[if_neg hc];rfl)
  ·simp[sM hc l fun y hy=>h y (by simp[hy])]
theorem xC {K:Type} [DecidableEq K] {lt:K->K->Bool}:∀ l:List (K×Int),(l.map (·.1)).Nodup->(∀ x∈l,x.2≠0)->(nf lt l).length=l.length
 | [],_,_=>rfl
 | x :: l,h,hz=>by
  simp only[List.map_cons,List.nodup_cons] at h;simp only[nf];rw[sM (hz x (by simp)),xC l h.2 fun y hy=>hz y (by simp[hy])]
  ·rfl
  ·intro y hy e;obtain⟨z,hz,e2⟩:=lT hy;exact h.1 (List.mem_map.2 ⟨z,hz,by rw[e2,e]⟩)
theorem po {α:Type}:∀ (l:List α) (i:Nat) (h:i < l.length),(l[i] :: l.eraseIdx i).Perm l
 | [],i,h=>by simp at h
 | x :: l,0,h=>by simp
 | x :: l,i+1,h=>by
  simp only[List.getElem_cons_succ,List.eraseIdx_cons_succ];exact (List.Perm.swap ..).trans (List.Perm.cons x (po l i (by simpa using h)))
theorem sh8 (n:Nat) (k0 k1 k2 k3 k4 k5 k6 k7:Int):shareL (List.take n [D.v (.int .i64 k0),D.v (.int .i64 k1),D.v (.int .i64 k2),D.v (.int .i64 k3),D.v (.int .i64 k4),D.v (.int .i64 k5),D.v (.int .i64 k6),D.v (.int .i64 k7)])=ints (List.take n [k0,k1,k2,k3,k4,k5,k6,k7]):=by
 rw[show ([D.v (.int .i64 k0),D.v (.int .i64 k1),D.v (.int .i64 k2),D.v (.int .i64 k3),D.v (.int .i64 k4),D.v (.int .i64 k5),D.v (.int .i64 k6),D.v (.int .i64 k7)]:List D)=ints [k0,k1,k2,k3,k4,k5,k6,k7] from rfl,qV,di]
end Go.Proofs.YtncfmemhjahpeaaGreat.Ab
namespace Go.Proofs.YtncfmemhjahpeaaGreat.Ab
open Go
set_option maxRecDepth 10000
set_option maxHeartbeats 2000000
def prk (k:Int) (t:Trm):List Int×Int:=(t.e,k*t.c)
noncomputable def GJ (f:Lau) (k:Int) (g:Lau):Lau×Bool:=if (gS f/\gS g/\f.v=g.v)/\(-1000<=k/\k<=1000) then yc f.v (f.ts.map pr ++ g.ts.map (prk k)) else (jS,false)
def JT (f:Lau) (ys:List Int):Prop:=gS f/\(ys.length:Int)=f.v/\∀ y∈ys,y % 32003≠0
noncomputable instance (f:Lau) (ys:List Int):Decidable (JT f ys):=Classical.propDecidable _
theorem wV (i:Nat):∀ (a b:List Int),a.length=b.length->(bc 1 a b).getD i 0=a.getD i 0+b.getD i 0:=by
 induction i with
 | zero=>
  intro a b h
  match a,b,h with
  | [],[],_=>rfl
  | x :: a,y :: b,_=>simp[bc]
 | succ i ih=>
  intro a b h
  match a,b,h with
  | [],[],_=>rfl
  | x :: a,y :: b,h=>
   have:=ih a b (by simpa using h);simpa[bc] using this
set_option maxRecDepth 10000
set_option maxHeartbeats 2000000
set_option maxRecDepth 10000
set_option maxHeartbeats 1000000
abbrev aM (m:Mat):FV:=.ag [.int m.n,.int m.r,.d (shI m.d)]
theorem uO {a b:Mat}:a=b↔a.n=b.n/\a.r=b.r/\a.d=b.d:=by
 cases a;cases b;simp
theorem vC (a b:Mat) (hx:a.d.length < 4611686018427387904):af Tryz.prog F.cJ [aM a,aM b] [] true (fun outs res=>outs=[]/\res=[.one (D.bool (decide (a=b)))]):=by
 refine af.ob (C:=C.cJ) (n:=Tryz.f27.ntmps) bC bD Tryz.func27 rfl rfl ?_;simp only[Tryz.f27];apply aa;refine ab fun K hK=>?_;simp[C.cJ];apply hK;clear hK K;show AWp _ _ _ _ _;apply aa;apply aa;refine ab fun K hK=>?_;simp[C.cJ];apply hK;clear hK K;show AWp _ _ _ _ _;refine ap _ rfl (fun hc1=>?_) (fun hc1=>?_)
 ·apply aa;refine ab fun K hK=>?_;simp[C.cJ];apply hK;clear hK K;show AWp _ _ _ _ _;apply aI;simp at hc1;simp[C.cJ,uO,hc1]
 ·apply au;show AWp _ _ _ _ _;apply aa;apply aa;refine ab fun K hK=>?_;simp[C.cJ];apply hK;clear hK K;show AWp _ _ _ _ _;refine ap _ rfl (fun hc2=>?_) (fun hc2=>?_)
  ·apply aa;refine ab fun K hK=>?_;simp[C.cJ];apply hK;clear hK K;show AWp _ _ _ _ _;apply aI;simp at hc2;simp[C.cJ,uO,hc2]
  ·apply au;show AWp _ _ _ _ _;apply aa;apply aa;refine aK ([0,1,2,3,4] ++ ([5])) rfl fun K hK=>?_;refine oSg fun L hL=>?_;simp[C.cJ];refine ae (me a.d b.d hx) (by simp) (by simp) ?_;simp[C.cJ];apply hL;clear hL L;refine oEn fun L hL=>?_;simp[C.cJ];apply hL;clear hL L;simp[C.cJ];apply hK;clear hK K;show AWp _ _ _ _ _;refine ap _ rfl (fun hc3=>?_) (fun hc3=>?_)
   ·apply aa;refine ab fun K hK=>?_;simp[C.cJ];apply hK;clear hK K;show AWp _ _ _ _ _;apply aI;simp at hc3;simp[C.cJ,uO,hc3]
   ·apply au;show AWp _ _ _ _ _;apply aa;refine ab fun K hK=>?_;simp[C.cJ];apply hK;clear hK K;show AWp _ _ _ _ _;apply aI;simp at hc1 hc2 hc3;simp[C.cJ,uO,hc1,hc2,hc3]
theorem sA (m:Mat) (k:Int) (hk0:0<=k) (hk:k+m.d.length < 4611686018427387904):af Tryz.prog F.dV [.ag [.int m.n,.int m.r,.al (0,2) [] 0 m.d.length],.int k] [((0,2),owI m.d)] true (fun outs res=>outs=[.ow 1 m.d.length (ints (gA k m.d.length))]/\res=[.one (D.int (k+m.d.length))]):=by
 refine af.ob (C:=C.dV) (n:=Tryz.f29.ntmps) bC bD Tryz.func29 rfl rfl ?_;simp only[Tryz.f29];apply aa;refine ab fun K hK=>?_;simp[C.dV];apply hK;clear hK K;show AWp _ _ _ _ _;apply aa;refine aK ([0,1,2,3] ++ ([4])) rfl fun K hK=>?_;refine oSg fun L hL=>?_;simp[C.dV,cB];refine ae (kW m.d k hk0 hk) (by simp) (by simp) ?_;simp[C.dV,cB];apply hL;clear hL L;refine oEn fun L hL=>?_;simp[C.dV,cB];apply hL;clear hL L;simp[C.dV,cB];apply hK;clear hK K;show AWp _ _ _ _ _;apply aa;refine ab fun K hK=>?_;simp[C.dV];apply hK;clear hK K;show AWp _ _ _ _ _;apply aI;simp[C.dV]
set_option maxRecDepth 10000
set_option maxHeartbeats 2000000
def ci (n i:Nat):List Int:=(List.replicate n 0).set i 1
theorem bq (n i:Nat):(ci n i).length=n:=by simp[ci]
noncomputable def JO (e:List Int):Lau:=if gS ⟨e.length,[⟨e,1⟩]⟩ then ⟨e.length,[⟨e,1⟩]⟩ else jS
noncomputable def E4 (r:Nat):List Lau:=(List.range r).map fun i=>JO (ci r i)
theorem kZ (m:Mat) (hx:m.d.length < 17592186044416):af Tryz.prog F.dK [aM m] [] true (fun outs res=>outs=[]/\res=[.ag (mO m)]):=by
 refine af.ob (C:=C.dK) (n:=Tryz.f72.ntmps) bC bD Tryz.func72 rfl rfl ?_;simp only[Tryz.f72];apply aa;refine ab fun K hK=>?_;simp[C.dK];apply hK;clear hK K;show AWp _ _ _ _ _;apply aa;refine bR [(true,0),(true,1),(true,2),(true,3),(true,4),(true,5),(false,6),(true,7),(false,8)] ⟨by kernel_rfl,by kernel_rfl⟩ ([0,1,2,3,4,5,6] ++ ([7,8])) rfl fun K hK=>?_;refine oSg fun L hL=>?_;simp[C.dK];refine ae (iV m.d hx) (by simp) (by simp) ?_;simp[C.dK];apply hL;clear hL L;refine oEn fun L hL=>?_;simp[C.dK];apply hL;clear hL L;simp[C.dK];apply hK;clear hK K;show AWp _ _ _ _ _;apply aI;simp[C.dK,mO]
theorem jT (n i:Nat) (hn:n<=8) (hi:i < n):af Tryz.prog F.gE [.int n,.int i] [] true (fun outs res=>outs=[]/\res=[.one (owI (ci n i))]):=by
 refine af.ob (C:=C.gE) (n:=Tryz.f55.ntmps) bC bD Tryz.func55 rfl rfl ?_;simp only[Tryz.f55];apply aa;refine ab fun K hK=>?_;simp[C.gE];apply hK;clear hK K;show AWp _ _ _ _ _;apply aa;refine ab fun K hK=>?_;simp[C.gE,cL,show (8:Int)*n<=281474976710656 by omega,show (n:Int)<=281474976710656 by omega];apply hK;clear hK K;show AWp _ _ _ _ _;apply aa;refine ab fun K hK=>?_;simp[C.gE,hi];apply hK;clear hK K;show AWp _ _ _ _ _;apply aa;refine ab fun K hK=>?_;simp[C.gE];apply hK;clear hK K;show AWp _ _ _ _ _;apply aI;simp[C.gE,ci]
theorem nV (n i:Nat) (hn:n<=8) (hi:i < n):af Tryz.prog F.iD [.int n,.int i] [] true (fun outs res=>outs=[]/\res=[.one (owI (ci n i))]):=by
 refine af.ob (C:=C.iD) (n:=Tryz.f41.ntmps) bC bD Tryz.func41 rfl rfl ?_;simp only[Tryz.f41];apply aa;refine ab fun K hK=>?_;simp[C.iD];apply hK;clear hK K;show AWp _ _ _ _ _;apply aa;refine ab fun K hK=>?_;simp[C.iD,cL,show (8:Int)*n<=281474976710656 by omega,show (n:Int)<=281474976710656 by omega];apply hK;clear hK K;show AWp _ _ _ _ _;apply aa;refine ab fun K hK=>?_;simp[C.iD,hi];apply hK;clear hK K;show AWp _ _ _ _ _;apply aa;refine ab fun K hK=>?_;simp[C.iD];apply hK;clear hK K;show AWp _ _ _ _ _;apply aI;simp[C.iD,ci]
abbrev m0:Mat:=⟨2,2,[0,1,-1,0]⟩
noncomputable abbrev z0:Ses:=⟨m0,[],⟨m0,E4 2⟩⟩
set_option maxRecDepth 10000
set_option maxHeartbeats 2000000
def j8 (x:Int) (ts:List Trm) (i:Nat):Int:=ts.foldl (fun m t=>min m (t.e.getD i 0)) x
theorem Dg (x:Int) (ts:List Trm) (t:Trm) (i:Nat):j8 x (ts ++ [t]) i=min (j8 x ts i) (t.e.getD i 0):=by simp[j8,List.foldl_append]
theorem FX (x:Int) (i:Nat):∀ ts:List Trm,j8 x ts i<=x/\(∀ t∈ts,j8 x ts i<=t.e.getD i 0)/\(j8 x ts i=x\/∃ t∈ts,j8 x ts i=t.e.getD i 0):=by
 intro ts
 induction ts generalizing x with
 | nil=>simp[j8]
 | cons t ts ih=>
  obtain⟨h1,h2,h3⟩:=ih (min x (t.e.getD i 0));have e:j8 x (t :: ts) i=j8 (min x (t.e.getD i 0)) ts i:=rfl;rw[e];refine⟨by omega,fun u hu=>?_,?_⟩
  ·rcases List.mem_cons.1 hu with rfl | hu
   ·omega
   ·exact h2 u hu
  ·rcases h3 with h3 | ⟨u,hu,h3⟩
   ·by_cases hle:x<=t.e.getD i 0
    ·exact .inl (by rw[h3];omega)
    ·exact .inr ⟨t,by simp,by rw[h3];omega⟩
   ·exact .inr ⟨u,by simp[hu],h3⟩
def jf (x:Nat->Int) (ts:List Trm) (n:Nat):List Int:=(List.range n).map fun i=>j8 (x i) ts i
@[simp] theorem G3 (x:Nat->Int) (ts:List Trm) (n:Nat):(jf x ts n).length=n:=by simp[jf]
theorem tg (x:Nat->Int) (ts:List Trm) (n i:Nat) (h:i < n):(jf x ts n)[i]'(by simpa using h)=j8 (x i) ts i:=by simp[jf]
theorem dZ {l:List Int} {i:Nat} (h:i < l.length):l.getD i 0=l[i]:=by simp[List.getD,h]
theorem ko {α:Type} (xs ys:List α) (i:Nat) (h:i < xs.length) (hl:xs.length=ys.length):(xs.take i ++ ys.drop i).set i xs[i]=xs.take (i+1) ++ ys.drop (i+1):=by
 rw[List.set_append_right _ _ (by simp;omega),List.take_succ_eq_append_getElem h];simp only[List.length_take,Nat.min_eq_left (Nat.le_of_lt h),Nat.sub_self];rw[List.drop_eq_getElem_cons (by omega),List.set_cons_zero,List.append_assoc];rfl
theorem oq {α:Type} (xs ys:List α) (i:Nat) (h:i < ys.length) (hl:xs.length=ys.length):(xs.take i ++ ys.drop i)[i]? = some ys[i]:=by
 rw[List.getElem?_append_right (by simp;omega)];simp[Nat.min_eq_left (show i<=xs.length by omega),h]
def dR (ts:List Trm) (i:Nat):Int:=match ts with | []=>0 | t :: _=>t.e.getD i 0
theorem uN (ts:List Trm) (n:Nat) (h:0 < ts.length) (he:∀ t∈ts,t.e.length=n):jf (dR ts) [] n=(ts[0]'h).e:=by
 match ts,h with
 | t :: ts,_=>
  have h1:=he t (by simp);apply List.ext_getElem
  ·simp[h1]
  ·intro i h2 h3;rw[tg _ _ _ _ (by simpa using h2)];simp only[j8,List.foldl_nil,dR,List.getElem_cons_zero];exact dZ h3
def dH (ts:List Trm) (n:Nat):List Int:=jf (dR ts) ts n
def Gg (f:Lau):List Int:=(dH f.ts f.v.toNat).map fun x=>-x
@[simp] theorem G5 (f:Lau):(Gg f).length=f.v.toNat:=by simp[Gg,dH]
theorem BX (n:Nat):((n:Int) == 0)=decide (n=0):=by
 rw[Bool.eq_iff_iff];simp
theorem AY:∀ (a b:List Int),a.length=b.length->bc 1 (bc (-1) a b) b=a
 | [],[],_=>rfl
 | x :: a,y :: b,h=>by
  simp only[bc,AY a b (by simpa using h)];congr 1;omega
 | [],_ :: _,h=>by simp at h
 | _ :: _,[],h=>by simp at h
theorem vB (k:Int):∀ (x y b:List Int),x.length=b.length->y.length=b.length->cz (bc k x b) (bc k y b)=cz x y
 | [],[],[],_,_=>rfl
 | u :: x,v :: y,w :: b,h1,h2=>by
  simp only[bc,cz,vB k x y b (by simpa using h1) (by simpa using h2)]
  by_cases e:u=v
  ·rw[if_pos e,if_pos (by omega)]
  ·rw[if_neg e,if_neg (by omega)];congr 1;simp only[eq_iff_iff];omega
 | [],_ :: _,_,h1,h2=>by simp at h1 h2;omega
 | _ :: _,[],_,h1,h2=>by simp at h1 h2;omega
 | _ :: _,_ :: _,[],h1,_=>by simp at h1
 | [],[],_ :: _,h1,_=>by simp at h1
theorem nL:∀ (e x y:List Int),e.length=x.length->e.length=y.length->cz (bc 1 e x) (bc 1 e y)=cz x y
 | [],[],[],_,_=>rfl
 | w :: e,u :: x,v :: y,h1,h2=>by
  simp only[bc,cz,nL e x y (by simpa using h1) (by simpa using h2)]
  by_cases e:u=v
  ·rw[if_pos e,if_pos (by omega)]
  ·rw[if_neg e,if_neg (by omega)];congr 1;simp only[eq_iff_iff];omega
 | [],_ :: _,_,h1,_=>by simp at h1
 | _ :: _,[],_,h1,_=>by simp at h1
 | [],[],_ :: _,_,h2=>by simp at h2
 | _ :: _,_ :: _,[],_,h2=>by simp at h2
theorem tW {α:Type} (f:α->Int):∀ l:List α,l≠[]->∃ x∈l,∀ y∈l,f x<=f y
 | [],h=>absurd rfl h
 | [x],_=>⟨x,by simp,by simp⟩
 | x :: y :: l,_=>by
  obtain⟨z,hz,hm⟩:=tW f (y :: l) (by simp)
  by_cases h:f x<=f z
  ·refine⟨x,by simp,fun u hu=>?_⟩;rcases List.mem_cons.1 hu with rfl | hu
   ·omega
   ·have:=hm u hu;omega
  ·refine⟨z,by simp[hz],fun u hu=>?_⟩;rcases List.mem_cons.1 hu with rfl | hu
   ·omega
   ·exact hm u hu
theorem rA (k:Int) (i:Nat):∀ (a b:List Int),a.length=b.length->(bc k a b).getD i 0=a.getD i 0+k*b.getD i 0:=by
 induction i with
 | zero=>
  intro a b h
  match a,b,h with
  | [],[],_=>simp[bc]
  | x :: a,y :: b,_=>simp[bc]
 | succ i ih=>
  intro a b h
  match a,b,h with
  | [],[],_=>simp[bc]
  | x :: a,y :: b,h=>
   have:=ih a b (by simpa using h);simpa[bc,List.getD_cons_succ] using this
def wei (s:Int) (i:Nat) (e:List Int):Int:=s*(e.getD i 0*144115188075855872+im 0 e)
theorem AL (s:Int) (i:Nat) (a b:List Int) (h:a.length=b.length):wei s i (bc 1 a b)=wei s i a+wei s i b - s*im 0 (List.replicate a.length 0):=by
 unfold wei;have:=yu a b 0 0 0 h;simp only[Int.add_zero,Int.sub_zero] at this;rw[this,rA 1 i a b h,<-Int.mul_add,<-Int.mul_sub];congr 1;omega
theorem uB {e:List Int} (hd:Dig e) (h8:e.length<=8):0<=im 0 e/\im 0 e < 144115188075855872:=by
 have:=Ew hd h8;omega
theorem Bq {s:Int} (hs:s=1\/s=-1) {i:Nat} {a b:List Int} (hl:a.length=b.length) (ha:Dig a) (hb:Dig b) (h8:a.length<=8) (h:wei s i a=wei s i b):a=b:=by
 have h1:=uB ha h8;have h2:=uB hb (by omega);refine EB hl ha hb (p:=0) ?_;unfold wei at h;rcases hs with rfl | rfl <;> omega
theorem DE {s:Int} (hs:s=1\/s=-1) {i:Nat} {a b:List Int} (ha:Dig a) (hb:Dig b) (h8:a.length<=8) (h8b:b.length<=8) (h:wei s i a<=wei s i b):s*a.getD i 0<=s*b.getD i 0:=by
 have h1:=uB ha h8;have h2:=uB hb h8b;unfold wei at h;rcases hs with rfl | rfl <;> omega
def kD (x:Int) (ts:List Trm) (i:Nat):Int:=ts.foldl (fun m t=>max m (t.e.getD i 0)) x
theorem Dk (x:Int) (ts:List Trm) (t:Trm) (i:Nat):kD x (ts ++ [t]) i=max (kD x ts i) (t.e.getD i 0):=by simp[kD,List.foldl_append]
theorem FE (x:Int) (i:Nat):∀ ts:List Trm,x<=kD x ts i/\(∀ t∈ts,t.e.getD i 0<=kD x ts i)/\(kD x ts i=x\/∃ t∈ts,kD x ts i=t.e.getD i 0):=by
 intro ts
 induction ts generalizing x with
 | nil=>simp[kD]
 | cons t ts ih=>
  obtain⟨h1,h2,h3⟩:=ih (max x (t.e.getD i 0));have e:kD x (t :: ts) i=kD (max x (t.e.getD i 0)) ts i:=rfl;rw[e];refine⟨by omega,fun u hu=>?_,?_⟩
  ·rcases List.mem_cons.1 hu with rfl | hu
   ·omega
   ·exact h2 u hu
  ·rcases h3 with h3 | ⟨u,hu,h3⟩
   ·by_cases hle:t.e.getD i 0<=x
    ·exact .inl (by rw[h3];omega)
    ·exact .inr ⟨t,by simp,by rw[h3];omega⟩
   ·exact .inr ⟨u,by simp[hu],h3⟩
def gT (x:Nat->Int) (ts:List Trm) (n:Nat):List Int:=(List.range n).map fun i=>kD (x i) ts i
@[simp] theorem Gr (x:Nat->Int) (ts:List Trm) (n:Nat):(gT x ts n).length=n:=by simp[gT]
theorem xj (x:Nat->Int) (ts:List Trm) (n i:Nat) (h:i < n):(gT x ts n)[i]'(by simpa using h)=kD (x i) ts i:=by simp[gT]
theorem Ai (ts:List Trm) (n:Nat) (h:0 < ts.length) (he:∀ t∈ts,t.e.length=n):gT (dR ts) [] n=(ts[0]'h).e:=by
 have:=uN ts n h he;rw[<-this];unfold gT jf j8 kD;rfl
def c6 (ts:List Trm) (n:Nat):List Int:=gT (dR ts) ts n
theorem xK {ts:List Trm} (h:ts≠[]) (i:Nat):∃ t∈ts,dR ts i=t.e.getD i 0:=by
 match ts,h with
 | t :: ts,_=>exact⟨t,by simp,rfl⟩
theorem wB {ts:List Trm} (h:ts≠[]) {n i:Nat} (hi:i < n):(∀ t∈ts,(dH ts n).getD i 0<=t.e.getD i 0)/\∃ t∈ts,(dH ts n).getD i 0=t.e.getD i 0:=by
 have e:(dH ts n).getD i 0=j8 (dR ts i) ts i:=by
  rw[dZ (by simpa[dH] using hi)];exact tg _ _ _ _ hi
 rw[e];obtain⟨_,h2,h3⟩:=FX (dR ts i) i ts;refine⟨h2,?_⟩;rcases h3 with h3 | h3
 ·rw[h3];exact xK h i
 ·exact h3
theorem tx {ts:List Trm} (h:ts≠[]) {n i:Nat} (hi:i < n):(∀ t∈ts,t.e.getD i 0<=(c6 ts n).getD i 0)/\∃ t∈ts,(c6 ts n).getD i 0=t.e.getD i 0:=by
 have e:(c6 ts n).getD i 0=kD (dR ts i) ts i:=by
  rw[dZ (by simpa[c6] using hi)];exact xj _ _ _ _ hi
 rw[e];obtain⟨_,h2,h3⟩:=FE (dR ts i) i ts;refine⟨h2,?_⟩;rcases h3 with h3 | h3
 ·rw[h3];exact xK h i
 ·exact h3
def LR (e:List Int) (q:Int):Bool:=decide ((∀ x∈e,-20<=x/\x<=20)/\q≠0/\-1000000<=q/\q<=1000000)
def I4 (f g:Lau) (n:Nat) (e:List Int):Prop:=∀ i,i < n->(dH f.ts n).getD i 0 - (dH g.ts n).getD i 0<=e.getD i 0/\e.getD i 0<=(c6 f.ts n).getD i 0 - (c6 g.ts n).getD i 0
instance (f g:Lau) (n:Nat) (e:List Int):Decidable (I4 f g n e):=Nat.decidableBallLT n _
def HK (g:Lau):List Int:=match g.ts with | []=>[] | t :: _=>t.e
def Kd (g:Lau):Int:=match g.ts with | []=>1 | t :: _=>t.c
def KV (chk:List Int->Int->Bool) (g:Lau) (k:Nat) (R:List (List Int×Int)):Option (List (List Int×Int)):=ew cz (bc 1) (bc (-1)) chk (g.ts.map pr) (HK g) (Kd g) k R
noncomputable def Ls (v:Int):Option (List (List Int×Int))->Lau×Bool
 | some O=>if gS ⟨v,O.map tm⟩ then (⟨v,O.map tm⟩,true) else (jS,false)
 | none=>(jS,false)
noncomputable def Lp (f g:Lau):Lau×Bool:=if (gS f/\gS g/\f.v=g.v)/\g.ts≠[] then Ls f.v (KV LR g 600 (f.ts.map pr)) else (jS,false)
theorem Fg {f:Lau} (h:gS f):dY cz (f.ts.map pr):=by
 unfold dY;rw[List.pairwise_map];exact h.2.2.2
theorem Jh {f:Lau} (h:gS f):Nz (f.ts.map pr):=fun x hx=>by
 obtain⟨t,ht,rfl⟩:=List.mem_map.1 hx;exact (h.2.2.1 t ht).2.1
theorem wl {B C:Int}:∀ {a b:List Int} {k:Int},(k=1\/k=-1)->a.length=b.length->(∀ z∈a,-B<=z/\z<=B)->(∀ z∈b,-C<=z/\z<=C)->∀ z∈bc k a b,-(B+C)<=z/\z<=B+C
 | [],[],k,_,_,_,_=>by simp[bc]
 | x :: a,y :: b,k,hk,h,ha,hb=>by
  intro z hz;have h1:=ha x (by simp);have h2:=hb y (by simp);simp only[bc,List.mem_cons] at hz;rcases hz with rfl | hz
  ·rcases hk with rfl | rfl <;> omega
  ·exact wl hk (by simpa using h) (fun z hz=>ha z (by simp[hz])) (fun z hz=>hb z (by simp[hz])) z hz
 | [],_ :: _,_,_,h,_,_=>by simp at h
 | _ :: _,[],_,_,h,_,_=>by simp at h
set_option maxRecDepth 10000
set_option maxHeartbeats 2000000
@[simp] theorem G4 (ts:List Trm) (n:Nat):(dH ts n).length=n:=by simp[dH]
@[simp] theorem F9 (ts:List Trm) (n:Nat):(c6 ts n).length=n:=by simp[c6]
theorem kE (n:Nat):((n:Int) == 600)=decide (n=600):=by
 rw[Bool.eq_iff_iff];simp;omega
set_option maxRecDepth 10000
set_option maxHeartbeats 2000000
def Ed (xs:List Int):List D:=xs.map fun x=>D.v (.int .u8 x)
@[simp] theorem GZ (xs:List Int):(Ed xs).length=xs.length:=by simp[Ed]
theorem ck (xs:List Int) (x:Int):ints xs ++ [D.v (.int .i64 x)]=ints (xs ++ [x]):=by simp[ints]
def cur (xs:List Int) (i:Nat) (h:Int):D:=.bx [.sh 1 xs.length (Ed xs),D.int i,D.int h]
attribute [local simp] cur
set_option maxRecDepth 10000
set_option maxHeartbeats 2000000
attribute [local simp] cur
def JA (n:Nat) (f:Lau):Prop:=gS f/\f.v=n/\f.ts.length<=4/\∀ t∈f.ts,(-16<=t.c/\t.c<=16)/\∀ x∈t.e,-2<=x/\x<=2
theorem E7 {K:Type} [DecidableEq K] {lt:K->K->Bool} (ho:Ord lt):∀ {l:List (K×Int)},dY lt l->∀ x∈l,co x.1 l=x.2
 | y :: l,h,x,hx=>by
  rcases List.mem_cons.1 hx with rfl | hx
  ·simp only[co,if_true];rw[fc x.1 l (df ho h)];omega
  ·have hne:=df ho h x hx;simp only[co];rw[if_neg (fun e=>hne e.symm),E7 ho (List.pairwise_cons.1 h).2 x hx];omega
set_option maxRecDepth 10000
set_option maxHeartbeats 2000000
attribute [local simp] cur
section
variable {K:Type} [DecidableEq K] {lt:K->K->Bool} {mul dv:K->K->K} {D:K->Prop} {chk:K->Int->Bool}
theorem D4 {k:K} {c:Int} (ho:Ord lt) (hc:c≠0):∀ (l:List (K×Int)),(∀ x∈l,lt x.1 k=true)->eZ lt k c l=(k,c) :: l
 | [],_=>by simp[eZ,hc]
 | x :: l,h=>by
  have hx:=h x (by simp);have hne:¬ x.1=k:=fun e=>by rw[e,ho.irr] at hx;simp at hx
  simp only[eZ];rw[if_neg hne,if_pos hx,if_neg hc]
theorem xQ (q:K) (x:K×Int) (a g:List (K×Int)):co q (cV mul (x :: a) g)=co q (eY mul x.1 x.2 g)+co q (cV mul a g):=by
 unfold cV;rw[List.flatMap_cons,eD]
theorem xn {a g:List (K×Int)} {y:K×Int} (h:y∈cV mul a g):∃ x∈a,∃ z∈g,y=(mul x.1 z.1,x.2*z.2):=by
 unfold cV at h;obtain⟨x,hx,h⟩:=List.mem_flatMap.1 h;obtain⟨z,hz,h⟩:=List.mem_map.1 h;exact⟨x,hx,z,hz,h.symm⟩
theorem uW (ho:Ord lt) (ha:Act lt mul dv D) (hdm:∀ a b,D a->D b->dv (mul a b) b=a) (hml:∀ x y b,D x->D y->D b->lt x y=true->lt (mul x b) (mul y b)=true)
  {b:K} {d:Int} {gt:List (K×Int)} (hgd:dY lt ((b,d) :: gt)) (hg0:d≠0) (hgD:∀ x∈(b,d) :: gt,D x.1) :
  ∀ (k:Nat) (fs:List (K×Int)),dY lt fs->Nz fs->(∀ x∈fs,D x.1/\chk x.1 x.2=true)->fs.length<=k->ew lt mul dv chk ((b,d) :: gt) b d k (nf lt (cV mul fs ((b,d) :: gt)))=some fs
 | k,[],_,_,_,_=>by cases k <;> rfl
 | 0,x :: fs,_,_,_,h=>by simp at h
 | k+1,x :: fs,hd,hz,hc,hk=>by
  obtain⟨hd1,hd2⟩:=List.pairwise_cons.1 hd;have hxz:=hz x (by simp);have hxD:=(hc x (by simp)).1;have hbD:=hgD (b,d) (by simp);have hc0:x.2*d≠0:=Int.mul_ne_zero hxz hg0;have hgt:=(List.pairwise_cons.1 hgd).1
  -- the greatest term
  have hrest:∀ y∈eY mul x.1 x.2 gt ++ cV mul fs ((b,d) :: gt),lt y.1 (mul x.1 b)=true:=fun y hy=>by
   rcases List.mem_append.1 hy with hy | hy
   ·obtain⟨z,hzg,rfl⟩:=List.mem_map.1 hy;exact ha.mul_lt _ _ _ hxD (hgD z (by simp[hzg])) hbD (hgt z hzg)
   ·obtain⟨u,hu,z,hzg,rfl⟩:=xn hy;have huD:=(hc u (by simp[hu])).1;have h1:=hml _ _ b huD hxD hbD (hd1 u hu);rcases List.mem_cons.1 hzg with rfl | hzg
    ·exact h1
    ·exact ho.tr _ _ _ (ha.mul_lt _ _ _ huD (hgD z (by simp[hzg])) hbD (hgt z hzg)) h1
  have hR:nf lt (cV mul (x :: fs) ((b,d) :: gt))=(mul x.1 b,x.2*d) :: nf lt (eY mul x.1 x.2 gt ++ cV mul fs ((b,d) :: gt)):=by
   have e:cV mul (x :: fs) ((b,d) :: gt)=(mul x.1 b,x.2*d) :: (eY mul x.1 x.2 gt ++ cV mul fs ((b,d) :: gt)):=rfl;rw[e];show eZ lt (mul x.1 b) (x.2*d) (nf lt _)=_;refine D4 ho hc0 _ fun y hy=>?_;obtain⟨z,hzz,e2⟩:=lT hy;rw[<-e2];exact hrest z hzz
  rw[hR];simp only[ew];have h1:(x.2*d).tmod d=0:=Int.mul_tmod_left _ _;have h2:(x.2*d).tdiv d=x.2:=Int.mul_tdiv_cancel _ hg0;rw[hdm _ _ hxD hbD,h1,h2,if_pos ⟨rfl,(hc x (by simp)).2⟩];have hnf:nf lt ((mul x.1 b,x.2*d) :: nf lt (eY mul x.1 x.2 gt ++ cV mul fs ((b,d) :: gt)) ++ eY mul x.1 (-x.2) ((b,d) :: gt))=nf lt (cV mul fs ((b,d) :: gt)):=by
   refine eq ho (fa ho _) (iq _) fun q=>?_;rw[gU,<-hR,eD,gU,xQ,jP];omega
  rw[hnf,uW ho ha hdm hml hgd hg0 hgD k fs hd2 (fun y hy=>hz y (by simp[hy])) (fun y hy=>hc y (by simp[hy])) (by simpa using hk)];rfl
end
end Go.Proofs.YtncfmemhjahpeaaGreat.Ab
namespace Go.Proofs.YtncfmemhjahpeaaGreat.Ab
open Go
theorem Bf (f:Lau):(⟨f.v,(f.ts.map pr).map tm⟩:Lau)=f:=by
 rw[List.map_map];have:tm ∘ pr=id:=rfl;rw[this,List.map_id]
theorem wR:∀ (a b z:List Int),a.length=b.length->cz (a ++ z) (b ++ z)=cz a b
 | [],[],z,_=>by simp[l4,cz]
 | x :: a,y :: b,z,h=>by simp[cz,wR a b z (by simpa using h)]
 | [],_ :: _,_,h=>by simp at h
 | _ :: _,[],_,h=>by simp at h
theorem CQ {a b:List Int} (h:a.length=b.length):cz (pad a) (pad b)=cz a b:=by
 unfold pad;rw[<-h];exact wR a b _ h
theorem wZ {k:List Int} {v:Int}:∀ {es:List (List Int×Int)},dQ k es=some v->(k,v)∈es
 | [],h=>by simp[dQ] at h
 | x :: es,h=>by
  simp only[dQ] at h;split at h
  ·rename_i e;simp only[Option.some.injEq] at h;subst h;have:x=(k,x.2):=Prod.ext e rfl;rw[<-this];simp
  ·exact List.mem_cons_of_mem _ (wZ h)
theorem yK {k:List Int} {v:Int}:∀ {es:List (List Int×Int)},(es.map (·.1)).Nodup->(k,v)∈es->dQ k es=some v
 | [],_,h=>by simp at h
 | x :: es,hn,h=>by
  simp only[List.map_cons,List.nodup_cons] at hn;simp only[dQ];rcases List.mem_cons.1 h with e | h
  ·rw[<-e];simp
  ·rw[if_neg]
   ·exact yK hn.2 h
   ·rintro e;exact hn.1 (List.mem_map.2 ⟨(k,v),h,e.symm⟩)
theorem Ee {e:List Int} {B:Int} (hB:0<=B) (hB2:B<=1000000) (h:∀ x∈e,-B<=x/\x<=B):∀ x∈pad e,-1000000<=x/\x<=1000000:=fun x hx=>by
 unfold pad at hx;rcases List.mem_append.1 hx with hx | hx
 ·have:=h x hx;omega
 ·have:=List.eq_of_mem_replicate hx;omega
end Go.Proofs.YtncfmemhjahpeaaGreat.Ab
namespace Go.Proofs.YtncfmemhjahpeaaGreat.Ab
open Go
theorem y9:∀ (a b:List Int),a.length=b.length->bc (-1) (bc 1 a b) b=a
 | [],[],_=>rfl
 | x :: a,y :: b,h=>by
  simp only[bc,y9 a b (by simpa using h)];congr 1;omega
 | [],_ :: _,h=>by simp at h
 | _ :: _,[],h=>by simp at h
set_option maxRecDepth 10000
set_option maxHeartbeats 2000000
set_option maxRecDepth 10000
set_option maxHeartbeats 2000000
attribute [local simp] jV dP jE
set_option maxRecDepth 10000
set_option maxHeartbeats 2000000
theorem mC:∀ (a b:List Int),a.length=b.length->bc 1 a b=bc 1 b a
 | [],[],_=>rfl
 | x :: a,y :: b,h=>by
  simp only[bc,mC a b (by simpa using h),Int.one_mul];rw[Int.add_comm]
theorem zn (a b:List (List Int×Int)):sw a b=cV (bc 1) a b:=rfl
theorem Ez {n:Nat} {f g:Lau} (hf:∀ x∈f.ts.map pr,x.1.length=n) (hg:∀ x∈g.ts.map pr,x.1.length=n):nf cz (sw (f.ts.map pr) (g.ts.map pr))=nf cz (sw (g.ts.map pr) (f.ts.map pr)):=
 BY De fun φ=>by
  rw[zn,zn];exact AE (D:=fun e=>e.length=n) (fun a b h1 h2=>mC a b (h1.trans h2.symm)) φ hf hg
theorem vJ:∀ (n:Nat) (a:List Int),a.length=n->bc 1 (List.replicate n 0) a=a
 | 0,[],_=>rfl
 | n+1,x :: a,h=>by
  simp only[List.replicate_succ,bc,vJ n a (by simpa using h)];simp
theorem one_mul {n:Nat} {f:Lau} (hf:gS f) (hn:f.v=n):vT (jL n) f=(f,true)/\vT f (jL n)=(f,true):=by
 have hn8:1<=n/\n<=8:=by have:=hf.1;omega
 have h1:=BW hn8;have hl:∀ x∈f.ts.map pr,x.1.length=n:=fun x hx=>by
  obtain⟨t,ht,rfl⟩:=List.mem_map.1 hx;exact (CK hf hn t ht).1
 have h1l:∀ x∈(jL n).ts.map pr,x.1.length=n:=fun x hx=>by
  simp only[jL,List.map_cons,List.map_nil,List.mem_singleton] at hx;subst hx;simp[pr]
 have e:sw ((jL n).ts.map pr) (f.ts.map pr)=f.ts.map pr:=by
  simp only[jL,List.map_cons,List.map_nil,sw,List.flatMap_cons,List.flatMap_nil,List.append_nil];have:∀ l:List (List Int×Int),(∀ x∈l,x.1.length=n)->l.map (fun y=>(bc 1 (pr ⟨List.replicate n 0,1⟩).1 y.1,(pr ⟨List.replicate n 0,1⟩).2*y.2))=l:=fun l hl=>by
   refine (List.map_congr_left fun x hx=>?_).trans (List.map_id l);simp only[pr,vJ n x.1 (hl x hx),Int.one_mul,id]
  exact this _ hl
 have enf:nf cz (f.ts.map pr)=f.ts.map pr:=(eq De (Fg hf) (Jh hf) fun k=>rfl).symm;constructor
 ·unfold vT;rw[if_pos ⟨h1,hf,hn.symm⟩,e];unfold yc;rw[enf];have:(⟨(jL n).v,(f.ts.map pr).map tm⟩:Lau)=f:=by
   rw[show (jL n).v=f.v from hn.symm];exact Bf f
  rw[this,if_pos hf]
 ·unfold vT;rw[if_pos ⟨hf,h1,hn⟩];unfold yc;rw[Ez hl h1l,e,enf,Bf,if_pos hf]
def lS (l:List Int):List D:=[shI l]
def lO (l:List Int):List D:=[owI l]
theorem Cx (l:List Int):(lS l).length=1:=rfl
theorem yF (l:List Int):(lO l).length=1:=rfl
@[simp] theorem Kh (l:List (List Int)):(rows lS l).length=l.length:=by rw[cn Cx l,Nat.one_mul]
@[simp] theorem Ki (l:List (List Int)):(rows lO l).length=l.length:=by rw[cn yF l,Nat.one_mul]
@[simp] theorem Mg (l:List (List Int)):shareL (rows lO l)=rows lS l:=by
 rw[jx];congr 1;funext t;simp[lO,lS,shareL,eX,di]
section
variable {l:List (List Int)} {i:Nat}
theorem dI (h:i < l.length):(rows lS l)[i]? = some (shI l[i])/\∀ h',(rows lS l)[i]'h'=shI l[i]:=fi (by
 have:=dp Cx l i 0 h (by omega);simpa[lS] using this)
theorem jq (h:i < l.length):(rows lO l)[i]? = some (owI l[i])/\∀ h',(rows lO l)[i]'h'=owI l[i]:=fi (by
 have:=dp yF l i 0 h (by omega);simpa[lO] using this)
theorem ug (h:i < l.length) (x:List Int):(rows lO l).set i (.ow 1 x.length (ints x))=rows lO (l.set i x):=by
 have:=m9 yF l i 0 _ x h (by omega) rfl;simpa[lO] using this
end
def lZ:Option (List Int)->List D
 | none=>[.v (.slice none 0 0)]
 | some t=>lO t
theorem GG (t:Option (List Int)):(lZ t).length=1:=by cases t <;> rfl
@[simp] theorem Km (l:List (Option (List Int))):(rows lZ l).length=l.length:=by rw[cn GG l,Nat.one_mul]
@[simp] theorem MC (l:List (List Int)):noShL (rows lO l):=iF (fun t=>by simp[lO,noShL,ij,kR]) l
end Go.Proofs.YtncfmemhjahpeaaGreat.Ab
namespace Go.Proofs.YtncfmemhjahpeaaGreat.Ab
open Go
set_option maxRecDepth 10000
set_option maxRecDepth 10000
set_option maxHeartbeats 2000000
theorem xv:∀ (a b:List Int),fJ a b=0↔a=b
 | [],[]=>by simp[fJ]
 | [],_ :: _=>by simp[fJ]
 | _ :: _,[]=>by simp[fJ]
 | a :: x,b :: y=>by
  have ih:=xv x y
  by_cases h:a=b
  ·simp[fJ,h,ih]
  ·by_cases h2:a < b
   ·simp[fJ,h,h2]
   ·simp[fJ,h,h2]
def nh (a:List Int) (ah:Int) (b:List Int) (bh:Int):Int:=if fJ b a=0 then kT bh ah else fJ b a
theorem z7 (a:List Int) (ah:Int) (b:List Int) (bh:Int):decide (0<=nh a ah b bh) = !qlt (b,bh) (a,ah):=by
 have hn:=y8 b a;have hz:=xv b a;unfold nh qlt
 by_cases h:b=a
 ·rw[if_pos (hz.2 h)];simp only[h,if_true];unfold kT
  by_cases h1:bh < ah
  ·simp[h1]
  ·by_cases h2:ah < bh <;> simp[h1,h2]
 ·have:¬ fJ b a=0:=fun e=>h (hz.1 e);rw[if_neg this];simp only[h,if_false];rw[<-hn]
  by_cases q:fJ b a < 0
  ·simp[q]
  ·simp[q];omega
def qk (t:Qtm):List Int×Int:=(t.e,t.h)
def B3 (v:Int) (t:Qtm):Prop:=(t.e.length:Int)=v/\t.c≠0/\(-1000000<=t.c/\t.c<=1000000)/\(-200<=t.h/\t.h<=200)/\∀ x∈t.e,-20<=x/\x<=20
def ib (ts:List Qtm):Prop:=ts.Pairwise fun a b=>qlt (qk b) (qk a)=true
def aL (f:Qsm):Prop:=(1<=f.v/\f.v<=8)/\f.ts.length<=600/\(∀ t∈f.ts,B3 f.v t)/\ib f.ts
noncomputable instance (f:Qsm):Decidable (aL f):=Classical.propDecidable _
def cM:Qsm:=⟨0,[]⟩
theorem Cc {ts:List Qtm} {t:Qtm} (h:ib ts) (hl:∀ x,ts.getLast? = some x->qlt (qk t) (qk x)=true):ib (ts ++ [t]):=by
 unfold ib at *
 rw[List.pairwise_append];refine⟨h,List.pairwise_singleton _ _,fun a ha b hb=>?_⟩;simp only[List.mem_singleton] at hb;subst hb;rcases List.eq_nil_or_concat ts with rfl | ⟨l,x,rfl⟩
 ·simp at ha
 ·have hx:=hl x (by simp);simp only[List.concat_eq_append] at ha h;rcases List.mem_append.1 ha with ha | ha
  ·have:=(List.pairwise_append.1 h).2.2 a ha x (by simp);exact c7.tr _ _ _ hx this
  ·simp only[List.mem_singleton] at ha;rw[ha];exact hx
theorem uC {ts:List Qtm} {j:Nat} (h1:j < ts.length) (h:ib (ts.take j)) (hl:j=0\/qlt (qk ts[j]) (qk ts[j - 1])=true):ib (ts.take (j+1)):=by
 rw[List.take_succ_eq_append_getElem h1];refine Cc h fun x hx=>?_;rcases hl with rfl | hl
 ·simp at hx
 ·rcases Nat.eq_zero_or_pos j with rfl | hj
  ·simp at hx
  ·rw[List.getLast?_eq_getElem?] at hx;simp only[List.length_take,List.getElem?_take] at hx;rw[Nat.min_eq_left (by omega),if_pos (by omega),List.getElem?_eq_getElem (by omega)] at hx;injection hx with hx
   rw[<-hx];exact hl
theorem uU {ts:List Qtm} {j:Nat} (h1:j < ts.length) (h:ib ts):j=0\/qlt (qk ts[j]) (qk ts[j - 1])=true:=by
 rcases Nat.eq_zero_or_pos j with rfl | hj
 ·exact .inl rfl
 ·right
  exact List.pairwise_iff_getElem.1 h (j - 1) j (by omega) h1 (by omega)
theorem orI:∀ (xs:List Int) (k:Nat) (h1:k < xs.length),(∀ x∈xs.take k,x=0)->xs[k]≠0->(xs.find? (fun x=>x≠0)).getD 0=xs[k]
 | x :: xs,0,_,_,h=>by simpa using by simp[show x≠0 from h]
 | x :: xs,k+1,h1,ht,h=>by
  have hx:x=0:=ht x (by simp);have:=orI xs k (by simpa using h1) (fun y hy=>ht y (by simp[hy])) (by simpa using h);simpa[hx] using this
theorem zE (xs:List Int) (hx:xs.length < 4611686018427387904):af Tryz.prog F.dy [.d (shI xs)] [] true (fun outs res=>outs=[]/\res=[.one (D.int ((xs.find? (fun x=>x≠0)).getD 0))]):=by
 refine af.ob (C:=C.dy) (n:=Tryz.f128.ntmps) bC bD Tryz.func128 rfl rfl ?_;simp only[Tryz.f128];apply aa;refine ab fun K hK=>?_;simp[C.dy];apply hK;clear hK K;show AWp _ _ _ _ _;apply aa;refine ab fun K hK=>?_;simp[C.dy];apply hK;clear hK K;show AWp _ _ _ _ _;apply aa;apply aa;refine ab fun K hK=>?_;simp[C.dy];apply hK;clear hK K;show AWp _ _ _ _ _;apply ak;refine bm (fun k:Nat=>⟨ofL [(3,.int 0),(6,.d (shI xs)),(7,.int xs.length),(8,FV.int k)],aF []⟩) (fun k=>k<=xs.length/\∀ x∈xs.take k,x=0) (fun k=>xs.length - k) 0 (by simp[C.dy]) (by simp) ?_;intro x1 hx1 R1 hR1;obtain⟨hk,ht⟩:=hx1;apply aa;refine ab fun K hK=>?_;simp[C.dy];apply hK;clear hK K;show AWp _ _ _ _ _;apply aa;refine ap _ rfl (fun hc1=>?_) (fun hc1=>?_)
 ·have h1:x1 < xs.length:=by have:=d_t hc1;omega
  apply au;show AWp _ _ _ _ _;apply aa;apply ak;apply aa;refine ab fun K hK=>?_;simp[C.dy,ao,h1];apply hK;clear hK K;show AWp _ _ _ _ _;apply aa;refine ab fun K hK=>?_;simp[C.dy];apply hK;clear hK K;show AWp _ _ _ _ _;refine ap _ rfl (fun hc2=>?_) (fun hc2=>?_)
  ·have h2:xs[x1]≠0:=by simpa using hc2
   apply aa;refine ab fun K hK=>?_;simp[C.dy];apply hK;clear hK K;show AWp _ _ _ _ _;apply aI;simp[C.dy];have:=orI xs x1 h1 ht h2;simpa using this.symm
  ·have h2:xs[x1]=0:=by simpa using hc2
   apply au;show AWp _ _ _ _ _;refine ab fun K hK=>?_;simp[C.dy,ay (show x1 < 4611686018427387904 by omega)];apply hK;clear hK K;simp[C.dy];refine hR1 (x1+1) ⟨h1,?_⟩ (by omega);rw[List.take_succ_eq_append_getElem h1];intro x hx;rcases List.mem_append.1 hx with hx | hx
   ·exact ht x hx
   ·simp only[List.mem_singleton] at hx;rw[hx,h2]
 ·have h1:x1=xs.length:=by have:=d_f hc1;omega
  rw[h1,List.take_length] at ht;apply aZ;show AWp _ _ _ _ _;apply aa;refine ab fun K hK=>?_;simp[C.dy];apply hK;clear hK K;show AWp _ _ _ _ _;apply aI;simp[C.dy];rw[List.find?_eq_none.2 (fun x hx=>by simp[ht x hx])];rfl
theorem or2 (a b:Int):af Tryz.prog F.dy [.d (.sh 1 2 [D.int a,D.int b])] [] true (fun outs res=>outs=[]/\res=[.one (D.int (([a,b].find? (fun x=>x≠0)).getD 0))]):=zE [a,b] (by simp)
theorem jJ (a:List Int) (ah:Int) (b:List Int) (bh:Int) (ha:b.length < 4611686018427387904):af Tryz.prog F.cX [.d (shI a),.int ah,.d (shI b),.int bh] [] true (fun outs res=>outs=[]/\res=[.one (D.int (nh a ah b bh))]):=by
 refine af.ob (C:=C.cX) (n:=Tryz.f87.ntmps) bC bD Tryz.func87 rfl rfl ?_;simp only[Tryz.f87];apply aa;refine ab fun K hK=>?_;simp[C.cX];apply hK;clear hK K;show AWp _ _ _ _ _;apply aa;refine aK ([0,1,2] ++ ([3,4,5] ++ ([6,7] ++ ([8])))) rfl fun K hK=>?_;refine oSg fun L hL=>?_;simp[C.cX];refine ae (m5 b a ha) (by simp) (by simp) ?_;simp[C.cX];apply hL;clear hL L;refine oSg fun L hL=>?_;simp[C.cX];refine ae (mg bh ah) (by simp) (by simp) ?_;simp[C.cX];apply hL;clear hL L;refine oSg fun L hL=>?_;simp[C.cX];refine ae (or2 (fJ b a) (kT bh ah)) (by simp) (by simp) ?_;simp[C.cX];apply hL;clear hL L;refine oEn fun L hL=>?_;simp[C.cX];apply hL;clear hL L;simp[C.cX];apply hK;clear hK K;show AWp _ _ _ _ _;apply aI;simp[C.cX];simp only[nh]
 by_cases h:fJ b a=0
 ·by_cases h2:kT bh ah=0 <;> simp[h,h2]
 ·simp[h]
theorem pZ (a b:Qtm) (ha:a.e.length < 4611686018427387904) (hb:b.e.length < 4611686018427387904):af Tryz.prog F.dz [aQT a,aQT b] [] true (fun outs res=>outs=[]/\res=[.one (D.bool (qlt (qk b) (qk a)))]):=by
 refine af.ob (C:=C.dz) (n:=Tryz.f143.ntmps) bC bD Tryz.func143 rfl rfl ?_;simp only[Tryz.f143];apply aa;refine ab fun K hK=>?_;simp[C.dz];apply hK;clear hK K;show AWp _ _ _ _ _;apply aa;apply aa;refine aK ([0,1,2,3,4] ++ ([5])) rfl fun K hK=>?_;refine oSg fun L hL=>?_;simp[C.dz];refine ae (p7 a.e b.e ha) (by simp) (by simp) ?_;simp[C.dz];apply hL;clear hL L;refine oEn fun L hL=>?_;simp[C.dz];apply hL;clear hL L;simp[C.dz];apply hK;clear hK K;show AWp _ _ _ _ _;refine ap _ rfl (fun hc1=>?_) (fun hc1=>?_)
 ·have hc:=gk hc1;apply aa;refine aK ([0,1,2,3,4] ++ ([5])) rfl fun K hK=>?_;refine oSg fun L hL=>?_;simp[C.dz];refine ae (xX b.e a.e hb) (by simp) (by simp) ?_;simp[C.dz];apply hL;clear hL L;refine oEn fun L hL=>?_;simp[C.dz];apply hL;clear hL L;simp[C.dz];apply hK;clear hK K;show AWp _ _ _ _ _;apply aI;simp[C.dz,qlt,qk,Ne.symm hc]
 ·have hc:=gw hc1;apply au;show AWp _ _ _ _ _;apply aa;refine ab fun K hK=>?_;simp[C.dz];apply hK;clear hK K;show AWp _ _ _ _ _;apply aI;simp[C.dz,qlt,qk,hc]
set_option maxRecDepth 10000
set_option maxHeartbeats 2000000
theorem cY (f:Qsm) (hx:f.ts.length < 4611686018427387904) (hxe:∀ t∈f.ts,t.e.length < 4611686018427387904):af Tryz.prog F.aJ [aQ f] [] true (fun outs res=>outs=[]/\res=[.one (D.bool (decide (aL f)))]):=by
 refine af.ob (C:=C.aJ) (n:=Tryz.f106.ntmps) bC bD Tryz.func106 rfl rfl ?_;simp only[Tryz.f106];apply aa;refine ab fun K hK=>?_;simp[C.aJ,qS,qtS];apply hK;clear hK K;show AWp _ _ _ _ _;apply aa;apply aa;refine aK ([0,1,2] ++ ([3,4,5,6,7,8,9])) rfl fun K hK=>?_;have hJ:K ⟨ofL [(1,.pt (1,0) [] 0),(15,.bool (decide (¬ (1<=f.v/\f.v<=8)\/600 < (f.ts.length:Int))))],aF [((1,0),some (.bx (qS f)))]⟩:=by
  apply hK;clear hK K;show AWp _ _ _ _ _;refine ap _ rfl (fun hc1=>?_) (fun hc1=>?_)
  ·have hh:=d_t hc1;apply aa;refine ab fun K hK=>?_;simp[C.aJ,qS,qtS];apply hK;clear hK K;show AWp _ _ _ _ _;apply aI;simp[C.aJ,qS,qtS];intro hr;have:=hr.1;have:=hr.2.1;omega
  ·have hh0:=d_f hc1;have hh:(1<=f.v/\f.v<=8)/\f.ts.length<=600:=by omega
   apply au;show AWp _ _ _ _ _;apply aa;apply aa;refine ab fun K hK=>?_;simp[C.aJ,qS,qtS];apply hK;clear hK K;show AWp _ _ _ _ _;apply ak;refine bm (fun k:Nat=>⟨ofL [(1,.pt (1,0) [] 0),(3,.int k)],aF [((1,0),some (.bx (qS f)))]⟩) (fun k=>k<=f.ts.length/\(∀ t∈f.ts.take k,B3 f.v t)/\ib (f.ts.take k)) (fun k=>f.ts.length - k) 0 (by simp[C.aJ,qS]) (by simp[ib]) ?_;intro x1 hx1 R1 hR1;obtain⟨hk,hgood,hdesc⟩:=hx1;apply aa;apply aa;refine ab fun K hK=>?_;simp[C.aJ,qS,qtS];apply hK;clear hK K;show AWp _ _ _ _ _;refine ap _ rfl (fun hc2=>?_) (fun hc2=>?_)
   ·have h1:x1 < f.ts.length:=by simpa using hc2
    apply au;show AWp _ _ _ _ _;apply aa;apply ak;apply aa;refine ab fun K hK=>?_;simp[C.aJ,qS,qtS,h1,bI h1,bY h1,bW h1];apply hK;clear hK K;show AWp _ _ _ _ _;apply aa;apply aa;have hp:0 < x1->x1 - 1 < f.ts.length:=by omega
    refine bR [(true,0),(true,1),(true,2),(true,3),(true,4),(true,5),(true,6),(true,7),(true,8),(true,9),(true,10),(true,11),(true,12),(true,13),(false,14),(true,15),(true,16),(true,17),(true,18),(true,19),(false,20),(true,21),(true,22),(true,23),(true,24),(true,25),(true,26),(true,27),(true,28),(true,29),(true,30),(true,31),(true,32),(true,33),(false,34),(true,35),(true,36),(true,37)] ⟨by kernel_rfl,by kernel_rfl⟩ ([0,1,2,3,4,5,6,7,8,9,10,11,12,13,14] ++ ([15,16,17,18,19,20] ++ ([21,22,23,24,25,26,27,28,29,30,31,32,33,34] ++ ([35,36,37])))) rfl fun K hK=>?_;have hJ:K ⟨ofL [(1,.pt (1,0) [] 0),(3,.int x1),(4,.pt (4,0) [] 0),(65,.bool (!decide ((f.ts[x1].e.length:Int)=f.v/\f.ts[x1].c≠0/\(-1000000<=f.ts[x1].c/\f.ts[x1].c<=1000000)/\(-200<=f.ts[x1].h/\f.ts[x1].h<=200)/\(x1=0\/qlt (qk f.ts[x1]) (qk f.ts[x1 - 1])=true))))],aF [((1,0),some (.bx (qS f))),((4,0),some (.bx (qtS f.ts[x1])))]⟩:=by
     apply hK;clear hK K;show AWp _ _ _ _ _;refine ap _ rfl (fun hc3=>?_) (fun hc3=>?_)
     ·have hb:=gk hc3;apply aa;refine ab fun K hK=>?_;simp[C.aJ,qS,qtS];apply hK;clear hK K;show AWp _ _ _ _ _;apply aI;simp[C.aJ,qS,qtS];intro hr;have hg:=hr.2.2.1 _ (List.getElem_mem h1);exact hb ⟨hg.1,hg.2.1,hg.2.2.1,hg.2.2.2.1,uU h1 hr.2.2.2⟩
     ·have hb:=gw hc3;apply au;show AWp _ _ _ _ _;apply aa;refine ab fun K hK=>?_;simp[C.aJ,qS,qtS];apply hK;clear hK K;show AWp _ _ _ _ _;apply ak;refine bm (fun i:Nat=>⟨ofL [(1,.pt (1,0) [] 0),(3,.int x1),(4,.pt (4,0) [] 0),(5,.int i)],aF [((1,0),some (.bx (qS f))),((4,0),some (.bx (qtS f.ts[x1])))]⟩) (fun i=>i<=f.ts[x1].e.length/\∀ x∈f.ts[x1].e.take i,-20<=x/\x<=20) (fun i=>f.ts[x1].e.length - i) 0 (by simp[C.aJ,qS,qtS]) (by simp) ?_;intro x2 hx2 R2 hR2;obtain⟨hi,hin⟩:=hx2;apply aa;apply aa;refine ab fun K hK=>?_;simp[C.aJ,qS,qtS];apply hK;clear hK K;show AWp _ _ _ _ _;refine ap _ rfl (fun hc4=>?_) (fun hc4=>?_)
      ·have h2:x2 < f.ts[x1].e.length:=by have:=d_t hc4;omega
       apply au;show AWp _ _ _ _ _;apply aa;apply ak;apply aa;refine aK ([0,1,2,3,4,5] ++ ([6])) rfl fun K hK=>?_;refine oSg fun L hL=>?_;simp[C.aJ,qS,qtS,h1,h2,ao];refine ae (ca f.ts[x1].e[x2] (-20) 20) (by simp) (by simp) ?_;simp[C.aJ,qS,qtS,h1,h2,ao];apply hL;clear hL L;refine oEn fun L hL=>?_;simp[C.aJ,qS,qtS,h1,h2,ao];apply hL;clear hL L;simp[C.aJ,qS,qtS,h1,h2,ao];apply hK;clear hK K;show AWp _ _ _ _ _;refine ap _ rfl (fun hc5=>?_) (fun hc5=>?_)
       ·have hb2:¬ (-20<=f.ts[x1].e[x2]/\f.ts[x1].e[x2]<=20):=by simp at hc5;omega
        apply aa;refine ab fun K hK=>?_;simp[C.aJ,qS,qtS];apply hK;clear hK K;show AWp _ _ _ _ _;apply aI;simp[C.aJ,qS,qtS];intro hr;exact hb2 ((hr.2.2.1 _ (List.getElem_mem h1)).2.2.2.2 _ (List.getElem_mem h2))
       ·have hb2:-20<=f.ts[x1].e[x2]/\f.ts[x1].e[x2]<=20:=by simpa using hc5
        apply au;show AWp _ _ _ _ _;refine ab fun K hK=>?_;simp[C.aJ,qS,qtS,ay (show x2 < 4611686018427387904 by have:=hxe _ (List.getElem_mem h1);omega)];apply hK;clear hK K;simp[C.aJ,qS,qtS];refine hR2 (x2+1) ⟨h2,?_⟩ (by omega);rw[List.take_succ_eq_append_getElem h2];intro x hx;rcases List.mem_append.1 hx with hx | hx
        ·exact hin x hx
        ·simp only[List.mem_singleton] at hx;rw[hx];exact hb2
      ·have h2:x2=f.ts[x1].e.length:=by have:=d_f hc4;omega
       apply aZ;show AWp _ _ _ _ _;refine ab fun K hK=>?_;simp[C.aJ,qS,qtS,ay (show x1 < 4611686018427387904 by omega)];apply hK;clear hK K;simp[C.aJ,qS,qtS];refine hR1 (x1+1) ⟨h1,?_,uC h1 hdesc hb.2.2.2.2⟩ (by omega);rw[List.take_succ_eq_append_getElem h1];intro t ht;rcases List.mem_append.1 ht with ht | ht
       ·exact hgood t ht
       ·simp only[List.mem_singleton] at ht;rw[ht];refine⟨hb.1,hb.2.1,hb.2.2.1,hb.2.2.2.1,?_⟩;rw[h2,List.take_length] at hin;exact hin
    clear hK
    by_cases ha:(f.ts[x1].e.length:Int)=f.v
    ·by_cases hb:f.ts[x1].c=0
     ·refine oSg fun L hL=>?_;simp[C.aJ,qS,qtS,ha,hb];apply hL;clear hL L;refine oSg fun L hL=>?_;simp[C.aJ,qS,qtS,ha,hb];apply hL;clear hL L;refine oSg fun L hL=>?_;simp[C.aJ,qS,qtS,ha,hb];apply hL;clear hL L;refine oEn fun L hL=>?_;simp[C.aJ,qS,qtS,ha,hb];apply hL;clear hL L;simp[C.aJ,qS,qtS,ha,hb];refine cast (congrArg K ?_) hJ;simp[qS,qtS,ha,hb]
     ·by_cases hc:-1000000<=f.ts[x1].c/\f.ts[x1].c<=1000000
      ·by_cases he:-200<=f.ts[x1].h/\f.ts[x1].h<=200
       ·by_cases hd:0 < x1
        ·obtain⟨m,rfl⟩:∃ m,x1=m+1:=⟨x1 - 1,by omega⟩;have hm:m < f.ts.length:=by omega
         refine oSg fun L hL=>?_;simp[C.aJ,qS,qtS,hm,bI hm,bY hm,bW hm,dD (show m < 4611686018427387904 by omega),ha,hb,hc,he,hd];refine ae (ca f.ts[m+1].c (-1000000) 1000000) (by simp) (by simp) ?_;simp[C.aJ,qS,qtS,hm,bI hm,bY hm,bW hm,dD (show m < 4611686018427387904 by omega),ha,hb,hc,he,hd];apply hL;clear hL L;refine oSg fun L hL=>?_;simp[C.aJ,qS,qtS,hm,bI hm,bY hm,bW hm,dD (show m < 4611686018427387904 by omega),ha,hb,hc,he,hd];refine ae (ca f.ts[m+1].h (-200) 200) (by simp) (by simp) ?_;simp[C.aJ,qS,qtS,hm,bI hm,bY hm,bW hm,dD (show m < 4611686018427387904 by omega),ha,hb,hc,he,hd];apply hL;clear hL L;refine oSg fun L hL=>?_;simp[C.aJ,qS,qtS,hm,bI hm,bY hm,bW hm,dD (show m < 4611686018427387904 by omega),ha,hb,hc,he,hd];refine ae (pZ f.ts[m] f.ts[m+1] (hxe _ (List.getElem_mem hm)) (hxe _ (List.getElem_mem h1))) (by simp) (by simp) ?_;simp[C.aJ,qS,qtS,hm,bI hm,bY hm,bW hm,dD (show m < 4611686018427387904 by omega),ha,hb,hc,he,hd];apply hL;clear hL L;refine oEn fun L hL=>?_;simp[C.aJ,qS,qtS,hm,bI hm,bY hm,bW hm,dD (show m < 4611686018427387904 by omega),ha,hb,hc,he,hd];apply hL;clear hL L;simp[C.aJ,qS,qtS,hm,bI hm,bY hm,bW hm,dD (show m < 4611686018427387904 by omega),ha,hb,hc,he,hd];refine cast (congrArg K ?_) hJ;simp[qS,qtS,ha,hb,hc,he,hd]
        ·obtain rfl:x1=0:=by omega
         refine oSg fun L hL=>?_;simp[C.aJ,qS,qtS,ha,hb,hc,he,hd];refine ae (ca f.ts[0].c (-1000000) 1000000) (by simp) (by simp) ?_;simp[C.aJ,qS,qtS,ha,hb,hc,he,hd];apply hL;clear hL L;refine oSg fun L hL=>?_;simp[C.aJ,qS,qtS,ha,hb,hc,he,hd];refine ae (ca f.ts[0].h (-200) 200) (by simp) (by simp) ?_;simp[C.aJ,qS,qtS,ha,hb,hc,he,hd];apply hL;clear hL L;refine oSg fun L hL=>?_;simp[C.aJ,qS,qtS,ha,hb,hc,he,hd];apply hL;clear hL L;refine oEn fun L hL=>?_;simp[C.aJ,qS,qtS,ha,hb,hc,he,hd];apply hL;clear hL L;simp[C.aJ,qS,qtS,ha,hb,hc,he,hd];refine cast (congrArg K ?_) hJ;simp[qS,qtS,ha,hb,hc,he,hd]
       ·refine oSg fun L hL=>?_;simp[C.aJ,qS,qtS,ha,hb,hc,he];refine ae (ca f.ts[x1].c (-1000000) 1000000) (by simp) (by simp) ?_;simp[C.aJ,qS,qtS,ha,hb,hc,he];apply hL;clear hL L;refine oSg fun L hL=>?_;simp[C.aJ,qS,qtS,ha,hb,hc,he];refine ae (ca f.ts[x1].h (-200) 200) (by simp) (by simp) ?_;simp[C.aJ,qS,qtS,ha,hb,hc,he];apply hL;clear hL L;refine oSg fun L hL=>?_;simp[C.aJ,qS,qtS,ha,hb,hc,he];apply hL;clear hL L;refine oEn fun L hL=>?_;simp[C.aJ,qS,qtS,ha,hb,hc,he];apply hL;clear hL L;simp[C.aJ,qS,qtS,ha,hb,hc,he];refine cast (congrArg K ?_) hJ;simp[qS,qtS,ha,hb,hc,he]
      ·refine oSg fun L hL=>?_;simp[C.aJ,qS,qtS,ha,hb,hc];refine ae (ca f.ts[x1].c (-1000000) 1000000) (by simp) (by simp) ?_;simp[C.aJ,qS,qtS,ha,hb,hc];apply hL;clear hL L;refine oSg fun L hL=>?_;simp[C.aJ,qS,qtS,ha,hb,hc];apply hL;clear hL L;refine oSg fun L hL=>?_;simp[C.aJ,qS,qtS,ha,hb,hc];apply hL;clear hL L;refine oEn fun L hL=>?_;simp[C.aJ,qS,qtS,ha,hb,hc];apply hL;clear hL L;simp[C.aJ,qS,qtS,ha,hb,hc];refine cast (congrArg K ?_) hJ;simp[qS,qtS,ha,hb,hc]
    ·refine oSg fun L hL=>?_;simp[C.aJ,qS,qtS,ha];apply hL;clear hL L;refine oSg fun L hL=>?_;simp[C.aJ,qS,qtS,ha];apply hL;clear hL L;refine oSg fun L hL=>?_;simp[C.aJ,qS,qtS,ha];apply hL;clear hL L;refine oEn fun L hL=>?_;simp[C.aJ,qS,qtS,ha];apply hL;clear hL L;simp[C.aJ,qS,qtS,ha];refine cast (congrArg K ?_) hJ;simp[qS,qtS,ha]
   ·have h2:x1=f.ts.length:=by have:=d_f hc2;omega
    apply aZ;show AWp _ _ _ _ _;apply aa;refine ab fun K hK=>?_;simp[C.aJ,qS,qtS];apply hK;clear hK K;show AWp _ _ _ _ _;apply aI;simp[C.aJ,qS,qtS];rw[h2,List.take_length] at hgood hdesc;exact⟨hh.1,hh.2,hgood,hdesc⟩
 clear hK
 by_cases ha:1<=f.v/\f.v<=8
 ·refine oSg fun L hL=>?_;simp[C.aJ,qS,qtS,ha];refine ae (ca f.v 1 8) (by simp) (by simp) ?_;simp[C.aJ,qS,qtS,ha];apply hL;clear hL L;refine oEn fun L hL=>?_;simp[C.aJ,qS,qtS,ha];apply hL;clear hL L;simp[C.aJ,qS,qtS,ha];refine cast (congrArg K ?_) hJ;simp[qS,qtS,ha]
 ·refine oSg fun L hL=>?_;simp[C.aJ,qS,qtS,ha];refine ae (ca f.v 1 8) (by simp) (by simp) ?_;simp[C.aJ,qS,qtS,ha];apply hL;clear hL L;refine oEn fun L hL=>?_;simp[C.aJ,qS,qtS,ha];apply hL;clear hL L;simp[C.aJ,qS,qtS,ha];refine cast (congrArg K ?_) hJ;simp[qS,qtS,ha]
theorem cZ (f:Qsm) (hx:f.ts.length < 4611686018427387904) (hxe:∀ t∈f.ts,t.e.length < 4611686018427387904):af Tryz.prog F.aX [aQ f] [] true (fun outs res=>outs=[]/\res=[.one (D.bool (decide (aL f)))]):=by
 refine af.ob (C:=C.aX) (n:=Tryz.f58.ntmps) bC bD Tryz.func58 rfl rfl ?_;simp only[Tryz.f58];apply aa;refine ab fun K hK=>?_;simp[C.aX,qS,qtS];apply hK;clear hK K;show AWp _ _ _ _ _;apply aa;apply aa;refine aK ([0,1,2] ++ ([3,4,5,6,7,8,9])) rfl fun K hK=>?_;have hJ:K ⟨ofL [(1,.pt (1,0) [] 0),(14,.bool (decide (¬ (1<=f.v/\f.v<=8)\/600 < (f.ts.length:Int))))],aF [((1,0),some (.bx (qS f)))]⟩:=by
  apply hK;clear hK K;show AWp _ _ _ _ _;refine ap _ rfl (fun hc1=>?_) (fun hc1=>?_)
  ·have hh:=d_t hc1;apply aa;refine ab fun K hK=>?_;simp[C.aX,qS,qtS];apply hK;clear hK K;show AWp _ _ _ _ _;apply aI;simp[C.aX,qS,qtS];intro hr;have:=hr.1;have:=hr.2.1;omega
  ·have hh0:=d_f hc1;have hh:(1<=f.v/\f.v<=8)/\f.ts.length<=600:=by omega
   apply au;show AWp _ _ _ _ _;apply aa;apply aa;refine ab fun K hK=>?_;simp[C.aX,qS,qtS];apply hK;clear hK K;show AWp _ _ _ _ _;apply ak;refine bm (fun k:Nat=>⟨ofL [(1,.pt (1,0) [] 0),(16,.d (.sh 3 f.ts.length (rows qtS f.ts))),(17,.int f.ts.length),(18,.int k)],aF [((1,0),some (.bx (qS f)))]⟩) (fun k=>k<=f.ts.length/\(∀ t∈f.ts.take k,B3 f.v t)/\ib (f.ts.take k)) (fun k=>f.ts.length - k) 0 (by simp[C.aX,qS]) (by simp[ib]) ?_;intro x1 hx1 R1 hR1;obtain⟨hk,hgood,hdesc⟩:=hx1;apply aa;refine ab fun K hK=>?_;simp[C.aX,qS,qtS];apply hK;clear hK K;show AWp _ _ _ _ _;apply aa;refine ap _ rfl (fun hc2=>?_) (fun hc2=>?_)
   ·have h1:x1 < f.ts.length:=by have:=d_t hc2;omega
    apply au;show AWp _ _ _ _ _;apply aa;apply ak;apply aa;refine ab fun K hK=>?_;simp[C.aX,qS,qtS,h1,bI h1,bY h1,bW h1];apply hK;clear hK K;show AWp _ _ _ _ _;apply aa;apply aa;refine aK ([0,1,2,3,4] ++ ([5,6,7,8,9] ++ ([10,11,12,13,14,15] ++ ([16,17])))) rfl fun K hK=>?_;have hJ:K ⟨ofL [(1,.pt (1,0) [] 0),(3,.int x1),(4,.pt (4,0) [] 0),(16,.d (.sh 3 f.ts.length (rows qtS f.ts))),(17,.int f.ts.length),(18,.int x1),(40,.bool (!decide (okE f.ts[x1].e f.v=true/\(-200<=f.ts[x1].h/\f.ts[x1].h<=200)/\(f.ts[x1].c≠0/\-1000000<=f.ts[x1].c/\f.ts[x1].c<=1000000))))],aF [((1,0),some (.bx (qS f))),((4,0),some (.bx (qtS f.ts[x1])))]⟩:=by
     apply hK;clear hK K;show AWp _ _ _ _ _;refine ap _ rfl (fun hc3=>?_) (fun hc3=>?_)
     ·have hb:=gk hc3;apply aa;refine ab fun K hK=>?_;simp[C.aX,qS,qtS];apply hK;clear hK K;show AWp _ _ _ _ _;apply aI;simp[C.aX,qS,qtS];intro hr;have hg:=hr.2.2.1 _ (List.getElem_mem h1);exact hb ⟨sn.2 ⟨hg.1,hg.2.2.2.2⟩,hg.2.2.2.1,hg.2.1,hg.2.2.1⟩
     ·have hb:=gw hc3;apply au;show AWp _ _ _ _ _;apply aa;have hp:0 < x1->x1 - 1 < f.ts.length:=by omega
      refine bR [(true,0),(true,1),(true,2),(true,3),(true,4),(true,5),(true,6),(true,7),(true,8),(true,9),(true,10),(true,11),(true,12),(true,13),(true,14),(true,15),(true,16),(true,17),(true,18),(true,19),(true,20),(false,21),(true,22),(true,23)] ⟨by kernel_rfl,by kernel_rfl⟩ ([0,1,2,3,4,5,6,7,8,9,10,11,12,13,14,15,16,17,18,19,20,21] ++ ([22,23])) rfl fun K hK=>?_;have hJ:K ⟨ofL [(1,.pt (1,0) [] 0),(16,.d (.sh 3 f.ts.length (rows qtS f.ts))),(17,.int f.ts.length),(18,.int x1),(64,.bool (!decide (x1=0\/qlt (qk f.ts[x1]) (qk f.ts[x1 - 1])=true)))],aF [((1,0),some (.bx (qS f)))]⟩:=by
       apply hK;clear hK K;show AWp _ _ _ _ _;refine ap _ rfl (fun hc4=>?_) (fun hc4=>?_)
       ·have hb2:=gk hc4;apply aa;refine ab fun K hK=>?_;simp[C.aX,qS,qtS];apply hK;clear hK K;show AWp _ _ _ _ _;apply aI;simp[C.aX,qS,qtS];intro hr;exact hb2 (uU h1 hr.2.2.2)
       ·have hb2:=gw hc4;apply au;show AWp _ _ _ _ _;refine ab fun K hK=>?_;simp[C.aX,qS,qtS,ay (show x1 < 4611686018427387904 by omega)];apply hK;clear hK K;simp[C.aX,qS,qtS];refine hR1 (x1+1) ⟨h1,?_,uC h1 hdesc hb2⟩ (by omega);rw[List.take_succ_eq_append_getElem h1];intro t ht;rcases List.mem_append.1 ht with ht | ht
        ·exact hgood t ht
        ·simp only[List.mem_singleton] at ht;rw[ht];have ho:=sn.1 hb.1;exact⟨ho.1,hb.2.2.1,hb.2.2.2,hb.2.1,ho.2⟩
      clear hK
      by_cases hd:0 < x1
      ·obtain⟨m,rfl⟩:∃ m,x1=m+1:=⟨x1 - 1,by omega⟩;have hm:m < f.ts.length:=by omega
       refine oSg fun L hL=>?_;simp[C.aX,qS,qtS,hm,bI hm,bY hm,bW hm,dD (show m < 4611686018427387904 by omega),hd];refine ae (jJ f.ts[m].e f.ts[m].h f.ts[m+1].e f.ts[m+1].h (hxe _ (List.getElem_mem h1))) (by simp) (by simp) ?_;simp[C.aX,qS,qtS,hm,bI hm,bY hm,bW hm,dD (show m < 4611686018427387904 by omega),hd];apply hL;clear hL L;refine oEn fun L hL=>?_;simp[C.aX,qS,qtS,hm,bI hm,bY hm,bW hm,dD (show m < 4611686018427387904 by omega),hd];apply hL;clear hL L;simp[C.aX,qS,qtS,hm,bI hm,bY hm,bW hm,dD (show m < 4611686018427387904 by omega),hd];refine cast (congrArg K ?_) hJ;simp[z7,qk,qS,qtS,hd]
      ·obtain rfl:x1=0:=by omega
       refine oSg fun L hL=>?_;simp[C.aX,qS,qtS,hd];apply hL;clear hL L;refine oEn fun L hL=>?_;simp[C.aX,qS,qtS,hd];apply hL;clear hL L;simp[C.aX,qS,qtS,hd];refine cast (congrArg K ?_) hJ;simp[qS,qtS,hd]
    clear hK
    by_cases ha:okE f.ts[x1].e f.v=true
    ·by_cases he:-200<=f.ts[x1].h/\f.ts[x1].h<=200
     ·refine oSg fun L hL=>?_;simp[C.aX,qS,qtS,ha,he];refine ae (gI f.ts[x1].e f.v (hxe _ (List.getElem_mem h1))) (by simp) (by simp) ?_;simp[C.aX,qS,qtS,ha,he];apply hL;clear hL L;refine oSg fun L hL=>?_;simp[C.aX,qS,qtS,ha,he];refine ae (cg f.ts[x1].h (-200) 200) (by simp) (by simp) ?_;simp[C.aX,qS,qtS,ha,he];apply hL;clear hL L;refine oSg fun L hL=>?_;simp[C.aX,qS,qtS,ha,he];refine ae (mf f.ts[x1].c) (by simp) (by simp) ?_;simp[C.aX,qS,qtS,ha,he];apply hL;clear hL L;refine oEn fun L hL=>?_;simp[C.aX,qS,qtS,ha,he];apply hL;clear hL L;simp[C.aX,qS,qtS,ha,he];refine cast (congrArg K ?_) hJ;simp[qS,qtS,ha,he]
     ·refine oSg fun L hL=>?_;simp[C.aX,qS,qtS,ha,he];refine ae (gI f.ts[x1].e f.v (hxe _ (List.getElem_mem h1))) (by simp) (by simp) ?_;simp[C.aX,qS,qtS,ha,he];apply hL;clear hL L;refine oSg fun L hL=>?_;simp[C.aX,qS,qtS,ha,he];refine ae (cg f.ts[x1].h (-200) 200) (by simp) (by simp) ?_;simp[C.aX,qS,qtS,ha,he];apply hL;clear hL L;refine oSg fun L hL=>?_;simp[C.aX,qS,qtS,ha,he];apply hL;clear hL L;refine oEn fun L hL=>?_;simp[C.aX,qS,qtS,ha,he];apply hL;clear hL L;simp[C.aX,qS,qtS,ha,he];refine cast (congrArg K ?_) hJ;simp[qS,qtS,ha,he]
    ·refine oSg fun L hL=>?_;simp[C.aX,qS,qtS,ha];refine ae (gI f.ts[x1].e f.v (hxe _ (List.getElem_mem h1))) (by simp) (by simp) ?_;simp[C.aX,qS,qtS,ha];apply hL;clear hL L;refine oSg fun L hL=>?_;simp[C.aX,qS,qtS,ha];apply hL;clear hL L;refine oSg fun L hL=>?_;simp[C.aX,qS,qtS,ha];apply hL;clear hL L;refine oEn fun L hL=>?_;simp[C.aX,qS,qtS,ha];apply hL;clear hL L;simp[C.aX,qS,qtS,ha];refine cast (congrArg K ?_) hJ;simp[qS,qtS,ha]
   ·have h2:x1=f.ts.length:=by have:=d_f hc2;omega
    apply aZ;show AWp _ _ _ _ _;apply aa;refine ab fun K hK=>?_;simp[C.aX,qS,qtS];apply hK;clear hK K;show AWp _ _ _ _ _;apply aI;simp[C.aX,qS,qtS];rw[h2,List.take_length] at hgood hdesc;exact⟨hh.1,hh.2,hgood,hdesc⟩
 clear hK
 by_cases ha:1<=f.v/\f.v<=8
 ·refine oSg fun L hL=>?_;simp[C.aX,qS,qtS,ha];refine ae (cg f.v 1 8) (by simp) (by simp) ?_;simp[C.aX,qS,qtS,ha];apply hL;clear hL L;refine oEn fun L hL=>?_;simp[C.aX,qS,qtS,ha];apply hL;clear hL L;simp[C.aX,qS,qtS,ha];refine cast (congrArg K ?_) hJ;simp[qS,qtS,ha]
 ·refine oSg fun L hL=>?_;simp[C.aX,qS,qtS,ha];refine ae (cg f.v 1 8) (by simp) (by simp) ?_;simp[C.aX,qS,qtS,ha];apply hL;clear hL L;refine oEn fun L hL=>?_;simp[C.aX,qS,qtS,ha];apply hL;clear hL L;simp[C.aX,qS,qtS,ha];refine cast (congrArg K ?_) hJ;simp[qS,qtS,ha]
set_option maxRecDepth 10000
set_option maxHeartbeats 2000000
def at2 (fm:List (List Int)) (i j:Nat):Int:=(fm.getD i []).getD j 0
theorem i6 {fm:List (List Int)} {i:Nat} (h:i < fm.length):fm.getD i []=fm[i]:=by simp[List.getD_eq_getElem?_getD,h]
theorem gO {a:List Int} {i:Nat} (h:i < a.length):a.getD i 0=a[i]:=by simp[List.getD_eq_getElem?_getD,h]
theorem l5 {fm:List (List Int)} {i j:Nat} (h:i < fm.length) (h2:j < fm[i].length):at2 fm i j=fm[i][j]:=by
 unfold at2;rw[i6 h,gO h2]
def Skp (fm:List (List Int)) (i j:Nat):Prop:=(-99<=at2 fm i j/\at2 fm i j<=99)/\at2 fm i j+at2 fm j i=0
def bp (fm:List (List Int)):Prop:=(1<=(fm.length:Int)/\(fm.length:Int)<=8)/\(∀ i,i < fm.length->(fm.getD i []).length=fm.length)/\∀ i,i < fm.length->∀ j,j < fm.length->Skp fm i j
noncomputable instance (fm:List (List Int)):Decidable (bp fm):=Classical.propDecidable _
def I64 (fm:List (List Int)):Prop:=∀ r∈fm,∀ x∈r,-9223372036854775808<=x/\x<=9223372036854775807
theorem CU {a b:Int} (ha:-99<=a/\a<=99) (hb:-9223372036854775808<=b/\b<=9223372036854775807):IntKind.i64.wrap (a+b)=0↔a+b=0:=by
 rw[IntKind.wrap_i64];omega
theorem EF {a b:Int} (ha:-99<=a/\a<=99) (hb:-9223372036854775808<=b/\b<=9223372036854775807):a=IntKind.i64.wrap (-b)↔a+b=0:=by
 rw[IntKind.wrap_i64];omega
theorem d8 (fm:List (List Int)) (hx:fm.length < 4611686018427387904) (hI:I64 fm):af Tryz.prog F.bz [.d (.sh 1 fm.length (rows lS fm))] [] true (fun outs res=>outs=[]/\res=[.one (D.bool (decide (bp fm)))]):=by
 refine af.ob (C:=C.bz) (n:=Tryz.f102.ntmps) bC bD Tryz.func102 rfl rfl ?_;simp only[Tryz.f102];apply aa;refine ab fun K hK=>?_;simp[C.bz];apply hK;clear hK K;show AWp _ _ _ _ _;apply aa;refine ab fun K hK=>?_;simp[C.bz];apply hK;clear hK K;show AWp _ _ _ _ _;apply aa;apply aa;refine aK ([0,1] ++ ([2])) rfl fun K hK=>?_;refine oSg fun L hL=>?_;simp[C.bz];refine ae (ca fm.length 1 8) (by simp) (by simp) ?_;simp[C.bz];apply hL;clear hL L;refine oEn fun L hL=>?_;simp[C.bz];apply hL;clear hL L;simp[C.bz];apply hK;clear hK K;show AWp _ _ _ _ _;refine ap _ rfl (fun hc1=>?_) (fun hc1=>?_)
 ·have hc:¬ (1<=(fm.length:Int)/\(fm.length:Int)<=8):=by simp at hc1;omega
  apply aa;refine ab fun K hK=>?_;simp[C.bz];apply hK;clear hK K;show AWp _ _ _ _ _;apply aI;simp[C.bz];exact fun h=>hc h.1
 ·have hn:1<=(fm.length:Int)/\(fm.length:Int)<=8:=by simp at hc1;omega
  apply au;show AWp _ _ _ _ _;apply aa;apply aa;refine ab fun K hK=>?_;simp[C.bz];apply hK;clear hK K;show AWp _ _ _ _ _;apply ak;refine bm (fun x:Nat=>⟨ofL [(0,.d (.sh 1 fm.length (rows lS fm))),(3,.int fm.length),(4,.int x)],aF []⟩) (fun x=>x<=fm.length/\∀ i,i < x->(fm.getD i []).length=fm.length) (fun x=>fm.length - x) 0 (by simp[C.bz]) (by simp) ?_;intro x1 hx1 R1 hR1;obtain⟨g1,g2⟩:=hx1;apply aa;apply aa;refine ab fun K hK=>?_;simp[C.bz];apply hK;clear hK K;show AWp _ _ _ _ _;refine ap _ rfl (fun hc2=>?_) (fun hc2=>?_)
  ·have h1:x1 < fm.length:=by have:=d_t hc2;omega
   apply au;show AWp _ _ _ _ _;apply aa;apply ak;apply aa;refine ab fun K hK=>?_;simp[C.bz,h1,dI h1];apply hK;clear hK K;show AWp _ _ _ _ _;refine ap _ rfl (fun hc3=>?_) (fun hc3=>?_)
   ·have hb:¬ fm[x1].length=fm.length:=by intro e;simp[e] at hc3
    apply aa;refine ab fun K hK=>?_;simp[C.bz];apply hK;clear hK K;show AWp _ _ _ _ _;apply aI;simp[C.bz];exact fun h=>hb (by have:=h.2.1 x1 h1;rwa [i6 h1] at this)
   ·have hb:fm[x1].length=fm.length:=by simp at hc3;omega
    apply au;show AWp _ _ _ _ _;refine ab fun K hK=>?_;simp[C.bz,ay (show x1 < 4611686018427387904 by omega)];apply hK;clear hK K;simp[C.bz];refine hR1 (x1+1) ⟨h1,fun i hi=>?_⟩ (by omega);rcases Nat.lt_or_ge i x1 with q | q
    ·exact g2 i q
    ·obtain rfl:i=x1:=by omega
     rw[i6 h1];exact hb
  ·have h1:x1=fm.length:=by have:=d_f hc2;omega
   rw[h1] at g2;have hrl:∀ i (h:i < fm.length),fm[i].length=fm.length:=fun i h=>by have:=g2 i h;rwa [i6 h] at this
   apply aZ;show AWp _ _ _ _ _;apply aa;apply aa;refine ab fun K hK=>?_;simp[C.bz];apply hK;clear hK K;show AWp _ _ _ _ _;apply ak;refine bm (fun x:Nat=>⟨ofL [(0,.d (.sh 1 fm.length (rows lS fm))),(3,.int fm.length),(5,.int x)],aF []⟩) (fun x=>x<=fm.length/\∀ i,i < x->∀ j,j < fm.length->Skp fm i j) (fun x=>fm.length - x) 0 (by simp[C.bz]) (by simp) ?_;intro x2 hx2 R2 hR2;obtain⟨g3,g4⟩:=hx2;apply aa;apply aa;refine ab fun K hK=>?_;simp[C.bz];apply hK;clear hK K;show AWp _ _ _ _ _;refine ap _ rfl (fun hc4=>?_) (fun hc4=>?_)
   ·have h2:x2 < fm.length:=by have:=d_t hc4;omega
    apply au;show AWp _ _ _ _ _;apply aa;apply ak;apply aa;refine ab fun K hK=>?_;simp[C.bz];apply hK;clear hK K;show AWp _ _ _ _ _;apply ak;refine bm (fun x:Nat=>⟨ofL [(0,.d (.sh 1 fm.length (rows lS fm))),(3,.int fm.length),(5,.int x2),(6,.int x)],aF []⟩) (fun x=>x<=fm.length/\∀ j,j < x->Skp fm x2 j) (fun x=>fm.length - x) 0 (by simp[C.bz]) (by simp) ?_;intro x3 hx3 R3 hR3;obtain⟨g5,g6⟩:=hx3;apply aa;apply aa;refine ab fun K hK=>?_;simp[C.bz];apply hK;clear hK K;show AWp _ _ _ _ _;refine ap _ rfl (fun hc5=>?_) (fun hc5=>?_)
    ·have h3:x3 < fm.length:=by have:=d_t hc5;omega
     have h23:x3 < fm[x2].length:=by rw[hrl x2 h2];exact h3
     have h32:x2 < fm[x3].length:=by rw[hrl x3 h3];exact h2
     have hi2:=hI _ (List.getElem_mem h2) _ (List.getElem_mem h23);have hi3:=hI _ (List.getElem_mem h3) _ (List.getElem_mem h32);have hsk:Skp fm x2 x3↔(-99<=fm[x2][x3]/\fm[x2][x3]<=99)/\fm[x2][x3]+fm[x3][x2]=0:=by unfold Skp;rw[l5 h2 h23,l5 h3 h32]
     apply au;show AWp _ _ _ _ _;apply aa;apply ak;apply aa;refine bR [(true,0),(true,1),(true,2),(true,3),(true,4),(true,5),(true,6),(false,7),(true,8),(true,9),(true,10),(true,11),(true,12),(true,13),(true,14),(true,15),(true,16),(true,17),(true,18),(true,19),(true,20),(true,21),(true,22),(true,23),(true,24),(true,25),(true,26)] ⟨by kernel_rfl,by kernel_rfl⟩ ([0,1,2,3,4,5,6,7] ++ ([8,9,10,11,12,13,14,15,16,17,18,19,20,21,22,23,24,25,26])) rfl fun K hK=>?_;have hJ:K ⟨ofL [(0,.d (.sh 1 fm.length (rows lS fm))),(3,.int fm.length),(5,.int x2),(6,.int x3),(60,.bool (!decide ((-99<=fm[x2][x3]/\fm[x2][x3]<=99)/\fm[x2][x3]+fm[x3][x2]=0)))],aF []⟩:=by
      apply hK;clear hK K;show AWp _ _ _ _ _;refine ap _ rfl (fun hc6=>?_) (fun hc6=>?_)
      ·have hb:=gk hc6;apply aa;refine ab fun K hK=>?_;simp[C.bz];apply hK;clear hK K;show AWp _ _ _ _ _;apply aI;simp[C.bz];exact fun h=>hb (hsk.1 (h.2.2 x2 h2 x3 h3))
      ·have hb:=gw hc6;apply au;show AWp _ _ _ _ _;refine ab fun K hK=>?_;simp[C.bz,ay (show x3 < 4611686018427387904 by omega)];apply hK;clear hK K;simp[C.bz];refine hR3 (x3+1) ⟨h3,fun j hj=>?_⟩ (by omega);rcases Nat.lt_or_ge j x3 with q | q
       ·exact g6 j q
       ·obtain rfl:j=x3:=by omega
        exact hsk.2 hb
     clear hK
     by_cases ha:-99<=fm[x2][x3]/\fm[x2][x3]<=99
     ·refine oSg fun L hL=>?_;simp[C.bz,h2,h3,dI h2,dI h3,ao,h23,h32,ha];refine ae (ca fm[x2][x3] (-99) 99) (by simp) (by simp) ?_;simp[C.bz,h2,h3,dI h2,dI h3,ao,h23,h32,ha];apply hL;clear hL L;refine oEn fun L hL=>?_;simp[C.bz,h2,h3,dI h2,dI h3,ao,h23,h32,ha];apply hL;clear hL L;simp[C.bz,h2,h3,dI h2,dI h3,ao,h23,h32,ha];refine cast (congrArg K ?_) hJ;simp[CU ha hi3,il,ha]
     ·refine oSg fun L hL=>?_;simp[C.bz,h2,h3,dI h2,dI h3,ao,h23,h32,ha];refine ae (ca fm[x2][x3] (-99) 99) (by simp) (by simp) ?_;simp[C.bz,h2,h3,dI h2,dI h3,ao,h23,h32,ha];apply hL;clear hL L;refine oEn fun L hL=>?_;simp[C.bz,h2,h3,dI h2,dI h3,ao,h23,h32,ha];apply hL;clear hL L;simp[C.bz,h2,h3,dI h2,dI h3,ao,h23,h32,ha];refine cast (congrArg K ?_) hJ;simp[ha]
    ·have h3:x3=fm.length:=by have:=d_f hc5;omega
     apply aZ;show AWp _ _ _ _ _;refine ab fun K hK=>?_;simp[C.bz,ay (show x2 < 4611686018427387904 by omega)];apply hK;clear hK K;simp[C.bz];refine hR2 (x2+1) ⟨h2,fun i hi=>?_⟩ (by omega);rcases Nat.lt_or_ge i x2 with q | q
     ·exact g4 i q
     ·obtain rfl:i=x2:=by omega
      rw[h3] at g6;exact g6
   ·have h2:x2=fm.length:=by have:=d_f hc4;omega
    rw[h2] at g4;apply aZ;show AWp _ _ _ _ _;apply aa;refine ab fun K hK=>?_;simp[C.bz];apply hK;clear hK K;show AWp _ _ _ _ _;apply aI;simp[C.bz];exact⟨hn,g2,g4⟩
theorem ed (fm:List (List Int)) (hx:fm.length < 4611686018427387904) (hI:I64 fm):af Tryz.prog F.br [.d (.sh 1 fm.length (rows lS fm))] [] true (fun outs res=>outs=[]/\res=[.one (D.bool (decide (bp fm)))]):=by
 refine af.ob (C:=C.br) (n:=Tryz.f80.ntmps) bC bD Tryz.func80 rfl rfl ?_;simp only[Tryz.f80];apply aa;refine ab fun K hK=>?_;simp[C.br];apply hK;clear hK K;show AWp _ _ _ _ _;apply aa;refine ab fun K hK=>?_;simp[C.br];apply hK;clear hK K;show AWp _ _ _ _ _;apply aa;apply aa;refine aK ([0,1] ++ ([2])) rfl fun K hK=>?_;refine oSg fun L hL=>?_;simp[C.br];refine ae (cg fm.length 1 8) (by simp) (by simp) ?_;simp[C.br];apply hL;clear hL L;refine oEn fun L hL=>?_;simp[C.br];apply hL;clear hL L;simp[C.br];apply hK;clear hK K;show AWp _ _ _ _ _;refine ap _ rfl (fun hc1=>?_) (fun hc1=>?_)
 ·have hc:¬ (1<=(fm.length:Int)/\(fm.length:Int)<=8):=by simp at hc1;omega
  apply aa;refine ab fun K hK=>?_;simp[C.br];apply hK;clear hK K;show AWp _ _ _ _ _;apply aI;simp[C.br];exact fun h=>hc h.1
 ·have hn:1<=(fm.length:Int)/\(fm.length:Int)<=8:=by simp at hc1;omega
  apply au;show AWp _ _ _ _ _;apply aa;apply aa;refine ab fun K hK=>?_;simp[C.br];apply hK;clear hK K;show AWp _ _ _ _ _;apply ak;refine bm (fun x:Nat=>⟨ofL [(0,.d (.sh 1 fm.length (rows lS fm))),(3,.int fm.length),(14,.d (.sh 1 fm.length (rows lS fm))),(15,.int fm.length),(16,.int x)],aF []⟩) (fun x=>x<=fm.length/\∀ i,i < x->(fm.getD i []).length=fm.length) (fun x=>fm.length - x) 0 (by simp[C.br]) (by simp) ?_;intro x1 hx1 R1 hR1;obtain⟨g1,g2⟩:=hx1;apply aa;refine ab fun K hK=>?_;simp[C.br];apply hK;clear hK K;show AWp _ _ _ _ _;apply aa;refine ap _ rfl (fun hc2=>?_) (fun hc2=>?_)
  ·have h1:x1 < fm.length:=by have:=d_t hc2;omega
   apply au;show AWp _ _ _ _ _;apply aa;apply ak;apply aa;refine ab fun K hK=>?_;simp[C.br,h1,dI h1];apply hK;clear hK K;show AWp _ _ _ _ _;apply aa;refine ab fun K hK=>?_;simp[C.br];apply hK;clear hK K;show AWp _ _ _ _ _;refine ap _ rfl (fun hc3=>?_) (fun hc3=>?_)
   ·have hb:¬ fm[x1].length=fm.length:=by intro e;simp[e] at hc3
    apply aa;refine ab fun K hK=>?_;simp[C.br];apply hK;clear hK K;show AWp _ _ _ _ _;apply aI;simp[C.br];exact fun h=>hb (by have:=h.2.1 x1 h1;rwa [i6 h1] at this)
   ·have hb:fm[x1].length=fm.length:=by simp at hc3;omega
    apply au;show AWp _ _ _ _ _;refine ab fun K hK=>?_;simp[C.br,ay (show x1 < 4611686018427387904 by omega)];apply hK;clear hK K;simp[C.br];refine hR1 (x1+1) ⟨h1,fun i hi=>?_⟩ (by omega);rcases Nat.lt_or_ge i x1 with q | q
    ·exact g2 i q
    ·obtain rfl:i=x1:=by omega
     rw[i6 h1];exact hb
  ·have h1:x1=fm.length:=by have:=d_f hc2;omega
   rw[h1] at g2;have hrl:∀ i (h:i < fm.length),fm[i].length=fm.length:=fun i h=>by have:=g2 i h;rwa [i6 h] at this
   apply aZ;show AWp _ _ _ _ _;apply aa;apply aa;refine ab fun K hK=>?_;simp[C.br];apply hK;clear hK K;show AWp _ _ _ _ _;apply ak;refine bm (fun x:Nat=>⟨ofL [(0,.d (.sh 1 fm.length (rows lS fm))),(26,.int fm.length),(27,.int x)],aF []⟩) (fun x=>x<=fm.length/\∀ i,i < x->∀ j,j < fm.length->Skp fm i j) (fun x=>fm.length - x) 0 (by simp[C.br]) (by simp) ?_;intro x2 hx2 R2 hR2;obtain⟨g3,g4⟩:=hx2;apply aa;refine ab fun K hK=>?_;simp[C.br];apply hK;clear hK K;show AWp _ _ _ _ _;apply aa;refine ap _ rfl (fun hc4=>?_) (fun hc4=>?_)
   ·have h2:x2 < fm.length:=by have:=d_t hc4;omega
    apply au;show AWp _ _ _ _ _;apply aa;apply ak;apply aa;refine ab fun K hK=>?_;simp[C.br];apply hK;clear hK K;show AWp _ _ _ _ _;apply aa;refine ab fun K hK=>?_;simp[C.br,h2,dI h2];apply hK;clear hK K;show AWp _ _ _ _ _;apply ak;refine bm (fun x:Nat=>⟨ofL [(0,.d (.sh 1 fm.length (rows lS fm))),(6,.int x2),(26,.int fm.length),(27,.int x2),(33,.d (shI fm[x2])),(34,.int fm[x2].length),(35,.int x)],aF []⟩) (fun x=>x<=fm.length/\∀ j,j < x->Skp fm x2 j) (fun x=>fm.length - x) 0 (by simp[C.br]) (by simp) ?_;intro x3 hx3 R3 hR3;obtain⟨g5,g6⟩:=hx3;apply aa;refine ab fun K hK=>?_;simp[C.br];apply hK;clear hK K;show AWp _ _ _ _ _;apply aa;refine ap _ rfl (fun hc5=>?_) (fun hc5=>?_)
    ·have h3:x3 < fm.length:=by have:=d_t hc5;have:=hrl x2 h2;omega
     have h23:x3 < fm[x2].length:=by rw[hrl x2 h2];exact h3
     have h32:x2 < fm[x3].length:=by rw[hrl x3 h3];exact h2
     have hi2:=hI _ (List.getElem_mem h2) _ (List.getElem_mem h23);have hi3:=hI _ (List.getElem_mem h3) _ (List.getElem_mem h32);have hsk:Skp fm x2 x3↔(-99<=fm[x2][x3]/\fm[x2][x3]<=99)/\fm[x2][x3]+fm[x3][x2]=0:=by unfold Skp;rw[l5 h2 h23,l5 h3 h32]
     apply au;show AWp _ _ _ _ _;apply aa;apply ak;apply aa;refine ab fun K hK=>?_;simp[C.br,ao,h23];apply hK;clear hK K;show AWp _ _ _ _ _;apply aa;refine aK ([0,1] ++ ([2,3,4,5,6,7,8,9,10,11,12,13,14])) rfl fun K hK=>?_;have hJ:K ⟨ofL [(0,.d (.sh 1 fm.length (rows lS fm))),(6,.int x2),(26,.int fm.length),(27,.int x2),(33,.d (shI fm[x2])),(34,.int fm[x2].length),(35,.int x3),(54,.bool (!decide ((-99<=fm[x2][x3]/\fm[x2][x3]<=99)/\fm[x2][x3]+fm[x3][x2]=0)))],aF []⟩:=by
      apply hK;clear hK K;show AWp _ _ _ _ _;refine ap _ rfl (fun hc6=>?_) (fun hc6=>?_)
      ·have hb:=gk hc6;apply aa;refine ab fun K hK=>?_;simp[C.br];apply hK;clear hK K;show AWp _ _ _ _ _;apply aI;simp[C.br];exact fun h=>hb (hsk.1 (h.2.2 x2 h2 x3 h3))
      ·have hb:=gw hc6;apply au;show AWp _ _ _ _ _;refine ab fun K hK=>?_;simp[C.br,ay (show x3 < 4611686018427387904 by omega)];apply hK;clear hK K;simp[C.br];refine hR3 (x3+1) ⟨h3,fun j hj=>?_⟩ (by omega);rcases Nat.lt_or_ge j x3 with q | q
       ·exact g6 j q
       ·obtain rfl:j=x3:=by omega
        exact hsk.2 hb
     clear hK
     by_cases ha:-99<=fm[x2][x3]/\fm[x2][x3]<=99
     ·refine oSg fun L hL=>?_;simp[C.br,h2,h3,dI h2,dI h3,ao,h23,h32,ha];refine ae (cg fm[x2][x3] (-99) 99) (by simp) (by simp) ?_;simp[C.br,h2,h3,dI h2,dI h3,ao,h23,h32,ha];apply hL;clear hL L;refine oEn fun L hL=>?_;simp[C.br,h2,h3,dI h2,dI h3,ao,h23,h32,ha];apply hL;clear hL L;simp[C.br,h2,h3,dI h2,dI h3,ao,h23,h32,ha];refine cast (congrArg K ?_) hJ;simp[EF ha hi3,il,ha]
     ·refine oSg fun L hL=>?_;simp[C.br,h2,h3,dI h2,dI h3,ao,h23,h32,ha];refine ae (cg fm[x2][x3] (-99) 99) (by simp) (by simp) ?_;simp[C.br,h2,h3,dI h2,dI h3,ao,h23,h32,ha];apply hL;clear hL L;refine oEn fun L hL=>?_;simp[C.br,h2,h3,dI h2,dI h3,ao,h23,h32,ha];apply hL;clear hL L;simp[C.br,h2,h3,dI h2,dI h3,ao,h23,h32,ha];refine cast (congrArg K ?_) hJ;simp[ha]
    ·have h3:x3=fm.length:=by have:=d_f hc5;have:=hrl x2 h2;omega
     apply aZ;show AWp _ _ _ _ _;refine ab fun K hK=>?_;simp[C.br,ay (show x2 < 4611686018427387904 by omega)];apply hK;clear hK K;simp[C.br];refine hR2 (x2+1) ⟨h2,fun i hi=>?_⟩ (by omega);rcases Nat.lt_or_ge i x2 with q | q
     ·exact g4 i q
     ·obtain rfl:i=x2:=by omega
      rw[h3] at g6;exact g6
   ·have h2:x2=fm.length:=by have:=d_f hc4;omega
    rw[h2] at g4;apply aZ;show AWp _ _ _ _ _;apply aa;refine ab fun K hK=>?_;simp[C.br];apply hK;clear hK K;show AWp _ _ _ _ _;apply aI;simp[C.br];exact⟨hn,g2,g4⟩
end Go.Proofs.YtncfmemhjahpeaaGreat.Ab
