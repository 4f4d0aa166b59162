import Derived.Test.YtdcndpbmgpcgmaaGreatDoorY0
import Derived.Laws.Build
import Derived.IntWalk
import Derived.Laws.Strings
import Derived.Laws.BytesString
import Derived.Laws.RangeString
noncomputable section
namespace Go.Ab
open Go
variable{n i:Nat}{t:TypeId}{v:AV}{c:Value}{xs:bJ}{w':World}{bz:bm}{p m k:Nat}{g':Gh}{es:Nat}
theorem n8{P:Program}(g o:Nat)(t:TypeId)(r:Nat×Nat)(c:r.2<=o):∀(d:List Value)(i:Nat)(a:Array Value)(w:World),w.heap[g]?=some (.cells a t r)->o+i+d.length<=a.size->(∀v∈d,v.oneCell'=true)->
  (storeCells ⟨g,o,none⟩ d i).run P w=.ok () (w.setRow g (a.toList.take (o+i)++d++a.toList.drop (o+i+d.length)).toArray)
 |[],i,a,w,h,_,_=>by
  simp only[storeCells,oe,bc,iU,Jy,Array.toArray_toList];rw[setRow_self w g a t r h];rfl
 |v::n,i,a,w,h,m,y=>by
  have p:o+i<a.size:=by simp at m;omega
  have l:(⟨g,o,none⟩:Addr).add i=⟨g,o+i,none⟩:=by unfold Addr.add;split<;>simp_all
  have s:w.cell? ⟨g,o+i,none⟩=some a[o+i]:=by simp[World.cell?,h,p]
  have u:w.frozen? ⟨g,o+i,none⟩=false:=by
   simp only[World.frozen?,h,Bool.and_eq_false_iff,decide_eq_false_iff_not];right;omega
  have f:(store ((⟨g,o,none⟩:Addr).add i) v).run P w=.ok () (w.setRow g (a.setIfInBounds (o+i) v)):=by
   rw[l,run_store P w _ v _ (y v si),s];simp[u,setCell_eq_setRow w g (o+i) a t r v h]
  have b:=n8 (P:=P) g o t r c n (i+1) (a.setIfInBounds (o+i) v) (w.setRow g (a.setIfInBounds (o+i) v)) (setRow_heap w g a _ t _ h) (by simp at m⊢;omega) (fun x k=>y x (by simp[k]));simp only[storeCells,Sem.run_bind,f,Result.andThen_ok,b,setRow_setRow];congr 3;have e:=list_seg_step a.toList (o+i) v n (by simp at m⊢;omega);simpa[Rr,kJ]using e
theorem lM{mk:Nat->Nat}{w:World}(h:DR mk w (.sl xs) c):
  (xs=[]/\∃a,c=.slice a 0 0)\/∃(aw off cap es:Nat)(f:Nat->Nat->Value),c=.slice (some ⟨aw,off,none⟩) xs.length cap/\xs.length<=gJ/\xs.length<=cap/\(∀x,x∈xs->x.length=es)/\
   off+xs.length*es<=mk aw/\(∀i j,i<xs.length->j<es->w.cell? ⟨aw,off+(i*es+j),none⟩=some (f i j))/\(∀i j x y,xs[i]?=some x->x[j]?=some y->DR mk w y (f i j)):=by
 cases h with
 |slnil=>exact .inl ⟨rfl,none,rfl⟩
 |sle a=>exact .inl ⟨rfl,some a,rfl⟩
 |sl _ aw off cap es f e t o n s r=>exact .inr ⟨aw,off,cap,es,f,rfl,e,t,o,n,s,r⟩
theorem Ac(hi:i<xs.length):i*es+es<=xs.length*es:=by
 have:=k7 es (JC hi);rw[xf]at this;exact this
theorem DR.one{mk:Nat->Nat}{w:World}{v:DV}(h:DR mk w v c):c.oneCell'=true:=by cases h<;>rfl
theorem la{mk:Nat->Nat}{w:World}(h:DR mk w (.sl xs) c)(es:Nat)(d:∀x,x∈xs->x.length=es):
  (xs=[]/\∃a,c=.slice a 0 0)\/∃(aw off cap:Nat)(F:List Value),c=.slice (some ⟨aw,off,none⟩) xs.length cap/\xs.length<=gJ/\xs.length<=cap/\off+xs.length*es<=mk aw/\
   F.length=xs.length*es/\(∀j u,F[j]?=some u->w.cell? ⟨aw,off+j,none⟩=some u)/\(∀u,u∈F->u.oneCell'=true)/\
   ∀i j x y,xs[i]?=some x->x[j]?=some y->∃u,F[i*es+j]?=some u/\DR mk w y u:=by
 rcases lM h with h|⟨aw,off,cap,t,f,S,H,b,s,T,l,A⟩
 .exact .inl h
 .refine .inr ⟨aw,off,cap,(List.range (xs.length*es)).map fun q=>f (q/es) (q%es),S,H,b,?_,by simp,?_,?_,?_⟩
  .cases xs with
   |nil=>simpa using T
   |cons x r=>
    have U:=d x si;grind
  all_goals
   have m:xs≠[]->t=es:=by
    intro p;cases xs with
    |nil=>exact absurd rfl p
    |cons x r=>rw[<-d x si,<-s x si]
  .intro j u v;have o:j<xs.length*es:=by have:=(bV.1 v).1;simpa using this
   have p:xs≠[]:=by rintro rfl;simp at o
   have:=m p;subst this;have n:0<t:=Rj fun h=>by subst h;simp at o
   simp[o]at v;subst v;have g:j/t<xs.length:=Nat.div_lt_of_lt_mul (by rw[Ay];exact o);have O:=l (j/t) (j%t) g (Nat.mod_lt _ n);have e:j/t*t+j%t=j:=by rw[Ay];exact Nat.div_add_mod _ _
   rw[e]at O;exact O
  .intro u I;simp only[lH,rb]at I;obtain⟨q,g,rfl⟩:=I;have p:xs≠[]:=by rintro rfl;simp at g
   have:=m p;subst this;have n:0<t:=Rj fun h=>by subst h;simp at g
   have E:q/t<xs.length:=Nat.div_lt_of_lt_mul (by rw[Ay];exact g);have R:=Nat.mod_lt q n;have k:xs[q/t]?=some xs[q/t]:=dw E;have D:=s xs[q/t] (eu E);exact(A (q/t) (q%t) _ _ k (dw (by rw[D];exact R))).one
  .intro i j x y k N;have z:x∈xs:=cP.2 ⟨i,k⟩;have p:xs≠[]:=List.ne_nil_of_mem z;have:=m p;subst this;have E:=(bV.1 k).1;have v:j<t:=by have:=(bV.1 N).1;rw[d x z]at this;exact this
   have:=Ac (es:=t) E;refine⟨f i j,?_,A i j x y k N⟩;have o:i*t+j<xs.length*t:=by omega
   simp[o]
   have L:(i*t+j)/t=i:=by
    rw[Ay,Nat.mul_add_div om,Nat.div_eq_of_lt v];omega
   rw[L,Gk v]
theorem nN{mk:Nat->Nat}{w:World}{aw off cap:Nat}{F:List Value}(o:xs.length<=gJ)(e:xs.length<=cap)(t:∀x,x∈xs->x.length=es)(a:off+xs.length*es<=mk aw)(s:F.length=xs.length*es)(h:∀j u,F[j]?=some u->w.cell? ⟨aw,off+j,none⟩=some u)(r:∀i j x y,xs[i]?=some x->x[j]?=some y->∃u,F[i*es+j]?=some u/\DR mk w y u):DR mk w (.sl xs) (.slice (some ⟨aw,off,none⟩) xs.length cap):=by
 refine .sl xs aw off cap es (fun i j=>F.getD (i*es+j) undef) o e t a (fun i j n d=>?_) (fun i j x y l c=>?_)
 .have:=Ac (es:=es) n;grind
 grind
theorem zP{mk mk':Nat->Nat}{w:World}{ys:bJ}{F G:List Value}(s:F.length=xs.length*es)(h:∀i j x y,xs[i]?=some x->x[j]?=some y->∃u,F[i*es+j]?=some u/\DR mk w y u)(o:∀i j x y,ys[i]?=some x->x[j]?=some y->∃u,G[i*es+j]?=some u/\DR mk w y u)(a:∀y u,DR mk w y u->DR mk' w' y u):
  ∀i j x y,(xs++ys)[i]?=some x->x[j]?=some y->∃u,(F++G)[i*es+j]?=some u/\DR mk' w' y u:=by
 intro i j x y t n;rw[vb]at t;split at t
 .grind
 .rename_i r;obtain⟨u,d,l⟩:=o _ j x y t n;have e:i*es=xs.length*es+(i-xs.length)*es:=by rw[<-jb];congr 1;omega
  grind
theorem qu(e:Nat):gw (e+10000)=gw e:=congrArg Xx (Nat.add_mod_right e 10000)
theorem C0{e:Nat}(h:owned e=true):20000<=e/\e/10000%10=2:=by
 have t:Nat.mod (Nat.div e 10000) 10=2:=dL h;have a:e/10000%10=2:=t;exact⟨by omega,a⟩
theorem pS{α:Type}(xs:List α)(i:Nat)(v:α)(K:List α->Prop)(h:pz xs i v K):i<xs.length/\K (xs.set i v):=by
 induction xs generalizing i K with
 |nil=>exact h.elim
 |cons x r e=>
  cases i with
  |zero=>exact⟨by simp,h⟩
  |succ i=>obtain⟨t,a⟩:=e i _ h;exact⟨by simpa using t,a⟩
theorem pn{α:Type}(xs:List α)(i:Nat):nth xs i=xs[i]?:=by
 induction xs generalizing i with
 |nil=>rfl
 |cons x r e=>cases i with|zero=>rfl|succ i=>simpa[nth]using e i
theorem Cz{α:Type}(xs ys:List α)(K:List α->Prop)(h:Br xs ys K):K (xs++ys):=by
 induction xs generalizing K with
 |nil=>exact h
 |cons x r e=>exact e _ h
section
variable{L:Lk}{g:Gh}{nb:Nat}{bx:List Bx}{rl:bm}{w:World}
theorem Step.key{j e n' a:Nat}{mk:Nat->Nat}{o:Nat->xh}(c:rl[j]?=some (n,e))(y:10000<=e)(s:10000<=a)(r:gw a=gw e)(p:n<=n')(d:∀b,g.bD b<=mk b)(l:∀b,some b∉g.rw->mk b=g.bD b)(u:∀b,some b∉g.rw->o b=g.par b):Step g rl w {g with bD:=mk,par:=o} (rl.set j (n',a)) w where
 os:=rfl
 tape:=rfl
 output:=rfl
 size:=aQ _
 bD:=d
 cell _ _ _:=rfl
 bk _ _ h:=h
 row i m f h:=by
  by_cases t:j=i
  .subst t;rw[c]at h;cases h;exact⟨n',a,jD (bV.1 c).1,p,fun _=>rfl,r,fun h=>by omega,fun _=>s⟩
  .exact .of (by rw[jE t];exact h) (aQ _) fun _=>rfl
 shape _ _:=rfl
 jz _ h:=.inl h
 jA _ h:=.inl h
 frame _ _ _ _:=rfl
 lb b _ _ h:=l b h
 oi b _ _ h:=by show RG _ (o b);rw[u b h];exact .refl _
theorem aY.close(h:aY L g nb bx rl w){j e:Nat}(C:rl[j]?=some (n,e))(Q:owned e=true)(p:xh)(_:p≠.out):
  let g':Gh:={g with par:=fun b=>if g.rw[j]?=some (some b)then p else g.par b}
  Step g rl w g' (rl.set j (n,e+10000)) w/\aY L g' nb bx (rl.set j (n,e+10000)) w:=by
 intro g';obtain⟨e1,X⟩:=C0 Q;have M:=(bV.1 C).1
 have s:Step g rl w g' (rl.set j (n,e+10000)) w:=Step.key C om om (qu e) (aQ _) (fun _=>aQ _) (fun _ _=>rfl) (fun b d=>by
  show(if _ then _ else _)=_;rw[if_neg fun r=>d (cP.2 ⟨j,r⟩)])
 obtain⟨q,u⟩:=h.row j n e C;refine⟨s,h.nb,h.kt,fun i x a B G=>⟨(h.box i x a B G).1,(h.box i x a B G).2.bj s rfl⟩,h.inj,by show g.rw.length=_;rw[De];exact h.jv,?_,h.jI,h.fresh,fun i=>(h.jd i).bj s,?_⟩
 .intro i m f E;by_cases v:j=i
  .subst v;rw[jD M]at E;simp only[qZ,vh]at E;obtain⟨rfl,rfl⟩:=E;refine⟨by rw[qu];exact q,?_⟩;rcases u with I|⟨a,l,t,N,k,T,S,H,A,R,D,F,K,O⟩
   .exact .inl I
   .have U:D5 n (e+10000)=D5 n e:=by rw[lJ om,lJ om]
    refine .inr ⟨a,l,t,N,k,T,by rw[U];exact S,by rw[U];exact H,A,by rw[U];exact R,D,fun h=>by omega,⟨fun h=>by omega,fun h=>by omega⟩,fun _=>?_⟩;obtain⟨⟨i,z,Z,r2,r3,r4,r5⟩,r6⟩:=O om;have e3:(e+10000)/100000=e/100000:=by omega
    rw[U,e3];exact⟨⟨i,z,Z,r2,by rw[qu];exact r3,by rw[qu];exact r4,by rw[qu];exact r5⟩,r6⟩
  .rw[jE v]at E;obtain⟨h0,y⟩:=h.row i m f E;refine⟨h0,?_⟩;rcases y with y|⟨a,l,t,N,k,T,S,H,A,R,D,F⟩
   .exact .inl y
   .refine .inr ⟨a,l,t,N,k,T,S,H,A,R,D,?_⟩
    have:g'.par a=g.par a:=by
     show(if _ then _ else _)=_;rw[if_neg fun r=>v (h.jI j i a r k)]
    rw[this];exact F
 .have root:∀b,g.rw[j]?=some (some b)->g.par b=.root/\b<w.heap.size/\b∉g.bk:=fun b d=>by
   rcases u with⟨I,_⟩|⟨a,l,t,N,k,T,S,H,A,R,D,F,K,O⟩
   .rw[d]at I;cases I
   .rw[d]at k;cases k;exact⟨K.2 X,lt_of_heap T,A⟩
  refine⟨fun b d=>?_,fun b d=>?_,fun c o b Y len P J ho hv=>?_,fun c J=>?_⟩
  rotate_right
  .refine h.par.F3 c ?_;grind
  .show(if _ then _ else _)=_;rw[if_neg fun r=>by have:=(root b r).2.1;omega];exact h.par.fresh b d
  .show(if _ then _ else _)=_;rw[if_neg fun r=>(root b r).2.2 d];exact h.par.bk b d
  .have V:g.par c≠.out:=by
    by_cases r:g.rw[j]?=some (some c)
    .rw[(root c r).1];intro h;cases h
    .intro y;apply J;show(if _ then _ else _)=_;rw[if_neg r];exact y
   rcases h.par.sep c o b Y len P V ho hv with y|y
   .exact .inl y
   grind
theorem Kg{mk:Nat->Nat}{aw cap:Nat}(h:DR mk w (.sl xs) (.slice (some ⟨aw,0,none⟩) xs.length cap))(e:∀x,x∈xs->x.length=es):
  ∃F:List Value,F.length=xs.length*es/\(xs≠[]->xs.length*es<=mk aw)/\(∀j u,F[j]?=some u->w.cell? ⟨aw,j,none⟩=some u)/\(∀u,u∈F->u.oneCell'=true)/\
   ∀i j x y,xs[i]?=some x->x[j]?=some y->∃u,F[i*es+j]?=some u/\DR mk w y u:=by
 rcases la h es e with⟨t,_⟩|⟨b,a,r,F,t,_,_,d,l,c,m,f⟩
 .subst t;exact⟨[],by simp,fun h=>absurd rfl h,fun j u o=>by simp at o,fun u n=>by simp at n,fun i j x y s=>by simp at s⟩
 .cases t;grind
theorem aY.fill(h:aY L g nb bx rl w){n' e aw:Nat}(G:rl[k]?=some (n,e))(l:10000<=e)(R:g.rw[k]?=some (some aw)){ia cs:Array Value}{q:Nat×Nat}(z:w.heap[aw]?=some (.cells ia t q))(hs:cs.size=ia.size)(hn:n<=n')(p:∀o,o<n/2->cs[o]?=ia[o]?)(D:n'/2<=cs.size)(hz:Bq L e (n'/2) cs t)(Q:g.par aw≠.out->∀o,n/2<=o->o<n'/2->∀b E len T,cs[o]?=some (.slice (some ⟨b,E,none⟩) len T)->len=0\/g.par b=.at aw o):
  let g':Gh:={g with bD:=fun x=>if x=aw then n'/2 else g.bD x}
  Step g rl w g' (rl.set k (n',e)) (w.setRow aw cs)/\aY L g' nb bx (rl.set k (n',e)) (w.setRow aw cs):=by
 intro g';have U:=(bV.1 G).1;obtain⟨C,M⟩:=h.row k n e G;rcases M with⟨X,_⟩|⟨Z,ee,t',et,q1,q2,K,q4,q5,q6,q7,q8,q9,F⟩
 .rw[R]at X;cases X
 rw[R]at q1;cases q1;rw[z]at q2;cases q2;rw[lJ l]at K q4 q6 F;have A:some aw∈g.rw:=cP.2 ⟨k,R⟩
 have s:Step g rl w g' (rl.set k (n',e)) (w.setRow aw cs):={
  os:=rfl,tape:=rfl,output:=rfl,size:=by simp
  bD:=fun x=>by
   grind
  cell:=fun y o v=>by
   by_cases r:y=aw
   .subst r;rw[cell_setRow_same w y o ia cs t q z,cell_of_row w y o ia t q z,p o (by rw[<-K];exact v)]
   .exact World.cell?_of_block (a:=⟨y,o,none⟩) (setRow_other w aw y cs r)
  bk:=fun _ _ h=>h
  row:=fun i m f S=>by
   by_cases Y:k=i
   .subst Y;rw[G]at S;cases S;exact .of (jD U) hn fun _=>rfl
   .exact .of (by rw[jE Y];exact S) (aQ _) fun _=>rfl
  shape:=fun y _=>by
   by_cases r:y=aw
   .subst r;simp only[World.shape?,setRow_heap w y ia cs t q z,z,hs]
   .simp only[World.shape?,setRow_other w aw y cs r]
  jz:=fun _ h=> .inl h
  jA:=fun _ h=> .inl h
  frame:=fun y _ _ d=>setRow_other w aw y cs (fun h=>d (h▸A))
  lb:=fun y _ _ d=>by
   grind
  oi:=fun _ _ _ _=> .refl _}
 have r:=h.tH A;refine⟨s,h.nb,h.kt,?_,h.inj,by show g.rw.length=_;rw[De];exact h.jv,?_,h.jI,?_,fun i=>(h.jd i).bj s,?_⟩
 .intro i x b O S;obtain⟨d,J⟩:=h.box i x b O S;have I:b≠aw:=fun e=>r.2 (e▸cP.2 ⟨i,S⟩)
  refine⟨fun hd=>?_,J.bj s (setRow_other w aw b cs I)⟩;grind
 .intro j m f P;by_cases N:k=j
  .subst N;rw[jD U]at P;simp only[qZ,vh]at P;obtain⟨rfl,rfl⟩:=P;refine⟨C,.inr ⟨aw,cs,t,q,R,setRow_heap w aw ia cs t q z,?_,?_,r.2,?_,by omega,?_⟩⟩
   .rw[lJ l];show(if _ then _ else _)=_;rw[if_pos rfl]
   .rw[lJ l];exact D
   .rw[lJ l];omega
   .rw[lJ l];exact⟨fun h=>by omega,q9,fun _=>⟨hz,(F l).2⟩⟩
  .rw[jE N]at P;obtain⟨h0,d⟩:=h.row j m f P;refine⟨h0,?_⟩;rcases d with d|⟨b,ar,tt,q,d,J,h3,h4,h5,h6⟩
   .exact .inl d
   .have I:b≠aw:=fun e=>N (h.jI k j b (e▸R) d)
    refine .inr ⟨b,ar,tt,q,d,by rw[setRow_other w aw b cs I];exact J,?_,h4,h5,h6⟩;grind
 .intro x O;have O:w.heap.size<=x:=by simpa using O
  show(if _ then _ else _)=_;rw[if_neg om];exact h.fresh x O
 .refine⟨fun b O=>h.par.fresh b (by simpa using O),h.par.bk,fun c o b E len T H v V=>?_,fun c H=>?_⟩
  rotate_right
  .obtain⟨a1,t1,d⟩:=h.par.F3 c H;by_cases u:c=aw
   .subst u;rw[z]at d;cases d;exact⟨cs,t,setRow_heap w c ia cs t (0,0) z⟩
   .exact⟨a1,t1,by rw[setRow_other w aw c cs u];exact d⟩
  have H:g.par c≠.out:=H;by_cases u:c=aw
  .subst u;rw[cell_setRow_same w c o ia cs t q z]at V;have v:o<n'/2:=by have v:o<if _ then _ else _:=v;rwa [if_pos rfl]at v
   by_cases B:o<n/2
   .rw[p o B]at V;exact h.par.sep c o b E len T H (by rw[K];exact B) (by rw[cell_of_row w c o ia t q z];exact V)
   grind
  .have v:o<g.bD c:=by have v:o<if _ then _ else _:=v;rwa [if_neg u]at v
   rw[World.cell?_of_block (a:=⟨c,o,none⟩) (setRow_other w aw c cs u)]at V;exact h.par.sep c o b E len T H v V
theorem VR.wQ{ds zs:List DV}{v:Value}(h:VR L g rl w (.kh es p xs ds zs k) v):
  ∃(aw cap:Nat)(c:Nat->Value)(t:TypeId),v=.slice (some ⟨aw,0,none⟩) (xs.length+1) cap/\xs.length+1<=gJ/\xs.length+1<=cap/\(∀x,x∈xs->x.length=es)/\ds.length=p/\p+zs.length=es/\zs≠[]/\
   DR g.bD w (.sl xs) (.slice (some ⟨aw,0,none⟩) xs.length cap)/\xs.length*es+p<=g.bD aw/\(∀j,j<p->w.cell? ⟨aw,xs.length*es+j,none⟩=some (c j))/\
   (∀j y,ds[j]?=some y->DR g.bD w y (c j))/\w.shape? aw=some (t,cap*es)/\ZT L t es p zs/\uL g rl es (2*(xs.length*es+p)+1) k aw:=by
 cases h with
 |kh _ _ _ _ _ _ aw cap c t n s r d l u m f b e a o i=>exact⟨aw,cap,c,t,rfl,n,s,r,d,l,u,m,f,b,e,a,o,i⟩
theorem DR.snoc{mk:Nat->Nat}{aw cap:Nat}(h:DR mk w (.sl xs) (.slice (some ⟨aw,0,none⟩) xs.length cap))(a:∀x,x∈xs->x.length=es){y:List DV}(l:y.length=es)(m:xs.length+1<=gJ)(o:xs.length+1<=cap)(s:(xs.length+1)*es<=mk aw)(G:Nat->Value)(f:∀j,j<es->w.cell? ⟨aw,xs.length*es+j,none⟩=some (G j))(p:∀j v,y[j]?=some v->DR mk w v (G j)):DR mk w (.sl (xs++[y])) (.slice (some ⟨aw,0,none⟩) (xs.length+1) cap):=by
 obtain⟨F,r,_,k,q,z⟩:=Kg h a;have b:(xs.length+1)*es=xs.length*es+es:=by rw[jb,tU]
 have:=nN (mk:=mk) (w:=w) (xs:=xs++[y]) (aw:=aw) (off:=0) (cap:=cap) (es:=es) (F:=F++(List.range es).map G) (by simpa using m) (by simpa using o)
  (fun x t=>(nA.1 t).elim (a x) fun h=>by rw[dP.1 h];exact l) (by simpa using s) (by simp[r,b]) (fun j u n=>by
   rw[dK];by_cases g:j<xs.length*es
   .grind
   .rw[pI om,r,jU]at n
    have e:j-xs.length*es<es:=by
     grind
    rw[Gf e]at n;cases n;have:=f _ e;rwa [show xs.length*es+(j-xs.length*es)=j by omega]at this) (fun i j x v t c=>by
   by_cases hi:i<xs.length
   .grind
   .rw[pI om]at t;have d:i=xs.length:=by have:=(bV.1 t).1;simp at this;omega
    subst d;simp at t;subst t;have n:j<es:=by rw[<-l];exact(bV.1 c).1
    refine⟨G j,?_,p j v c⟩;rw[pI om,r,show xs.length*es+j-xs.length*es=j by omega,jU,Gf n];rfl)
 simpa using this
theorem Bq.mono{L:Lk}{e a:Nat}{arr:Array Value}(h:Bq L e m arr t)(u:m<=a):Bq L e a arr t:=by
 obtain⟨i,z,o,n,s,r,d⟩:=h;exact⟨i,z,o,n,s,r,fun j c l=>d j om l⟩
theorem aY.finish(h:aY L g nb bx rl w){ds zs:List DV}{e:Nat}{v:Value}(hv:VR L g rl w (.kh es p xs ds zs k) v)(D:rl[k]?=some (2*(xs.length*es+p)+1,e)):
  ∃g',Step g rl w g' (rl.set k (2*((xs.length+1)*es),e)) w/\aY L g' nb bx (rl.set k (2*((xs.length+1)*es),e)) w/\
   VR L g' (rl.set k (2*((xs.length+1)*es),e)) w (.aO (xs++[ds++zs]) (.fe k)) v/\g'.bk=g.bk/\g'.rw=g.rw/\g'.par=g.par:=by
 obtain⟨u,q,c,t,rfl,h1,Z,h3,h4,h5,h6,h7,h8,h9,C,E,M,n,e',r1,U,I,r4,N⟩:=hv.wQ;rw[D]at r1;cases r1;have N:=N rfl;have eo:=Co.2 h6;have F:=(bV.1 D).1;obtain⟨ee,S⟩:=h.row k _ e D;rcases S with⟨hr,_⟩|⟨et,a,H,Y,q1,R,q3,q4,q5,q6,q7,q8,q9,r⟩
 .rw[N]at hr;cases hr
 rw[N]at q1;cases q1;have r:=(r U).1;rw[lJ U]at q3 q4 q6 r;have d:(2*(xs.length*es+p)+1)/2=xs.length*es+p:=by omega
 rw[d]at q3 q4 q6 r;have hm:(xs.length+1)*es=xs.length*es+es:=by rw[jb,tU]
 have m:2*((xs.length+1)*es)/2=xs.length*es+es:=by rw[hm];omega
 have P:H=t/\a.size=q*es:=by
  simp only[World.shape?,R,qZ,vh]at E;exact E
 obtain⟨rfl,ei⟩:=P;have V:(xs.length+1)*es<=q*es:=k7 _ Z;obtain⟨i,z,z1,z2,z3,z4,z5⟩:=M;obtain⟨i',z',y1,y2,y3,y4,B⟩:=r;rw[z1]at y1;cases y1;rw[z2]at y2;cases y2;rw[I]at y3 B
 have T:∀j,p<=j->j<es->a[xs.length*es+j]?=z.cells[j]?:=fun j ed G=>by
  rw[B _ om om,JJ,Rs,Gk G]
 have A:=setRow_self w u a H Y R
 obtain⟨s,K⟩:=h.fill (n':=2*((xs.length+1)*es)) D U N R rfl om (fun _ _=>rfl) (by rw[m];omega) (by
  rw[m];refine⟨i,z,z1,z2,by rw[I];exact z3,by rw[I];exact z4,fun j hj hl=>?_⟩;rw[I];exact B j om hl) (fun _ o J Q b off len cp hc=>by
  rw[d]at J;rw[m]at Q;have e1:o=xs.length*es+(o-xs.length*es):=by omega
  rw[e1,T _ om om]at hc;have X:o-xs.length*es-p<zs.length:=by omega
  obtain⟨c',c1,c2,c3⟩:=z5 (o-xs.length*es-p) _ (dw X);rw[show p+(o-xs.length*es-p)=o-xs.length*es by omega,hc]at c1;cases c1;exact absurd rfl (c3 _ _ _))
 rw[A]at s K;rw[m]at s K;refine⟨_,s,K,?_,rfl,rfl,rfl⟩;have f:(xs++[ds++zs]).length=xs.length+1:=by simp
 refine .aO _ _ _ ?_ ⟨_,e,jD F,U,fun x hx=>?_,by rw[f,I];exact aQ _,fun _=> .inr ⟨u,q,H,by rw[f],N,by rw[I];exact E⟩⟩
 .refine DR.snoc (h7.bj s.bD s.cell) h3 (y:=ds++zs) (by simp;omega) h1 Z ?_ (fun j=>if j<p then c j else(z.cells[j]?).getD undef) (fun j hj=>?_) (fun j v O=>?_)
  .grind
  .rw[cell_of_row w u _ a H Y R];by_cases l:j<p
   .rw[if_pos l,<-h9 j l,cell_of_row w u _ a H Y R]
   grind
  .by_cases l:j<p
   .rw[if_pos l];rw[gL om]at O;exact(C j v O).bj s.bD s.cell
   .rw[if_neg l];rw[pI om,h4]at O;grind
 grind
structure E4(L:Lk)(g:Gh)(nb:Nat)(bx:List Bx)(rl:bm)(w:World)(fl:Bool)(T o:Nat)(c:Value)(d:DV)(bz:bm)(g':Gh):Prop where
 s:Step g rl w g' bz w
 sh:aY L g' nb bx bz w
 bk:g'.bk=g.bk
 rw:g'.rw=g.rw
 dr:DR g'.bD w d c
 own:fl=true->∀b off len cap,c=.slice (some ⟨b,off,none⟩) len cap->len=0\/g'.par b=.at T o
 par:∀b,g'.par b=g.par b\/g.par b=.root
theorem Hm(md:Nat)(K:Bool->Prop)(h:Aj md K):(md=1/\K false)\/(md=2/\K true):=by
 unfold Aj at h;grind
theorem aY.abZ(h:aY L g nb bx rl w){j e:Nat}(m:rl[j]?=some (n,e))(f:owned e=true)(T o:Nat)(v:DR g.bD w (.sl xs) c)(O:(∃a,c=.slice a 0 0)\/∃i r len d,c=.slice (some ⟨i,r,none⟩) len d/\g.rw[j]?=some (some i))(fl:Bool):
  ∃g',E4 L g nb bx rl w fl T o c (.sl xs) (rl.set j (n,e+10000)) g':=by
 obtain⟨s,k⟩:=h.close m f (.at T o) (by intro h;cases h);obtain⟨I,q⟩:=C0 f;refine⟨_,s,k,rfl,rfl,v.bj s.bD s.cell,fun _ b r len d x=>?_,fun b=>?_⟩
 .grind
 .by_cases u:g.rw[j]?=some (some b)
  .right;obtain⟨_,l⟩:=h.row j n e m;rcases l with⟨y,_⟩|⟨i,z,t,N,p,S,H,R,D,U,C,M,E,A⟩
   .rw[u]at y;cases y
   .rw[u]at p;cases p;exact E.2 q
  .exact .inl (if_neg u)
theorem OG{j e:Nat}(h:rl[j]?=some (n,e))(r:n=2*(xs.length*gw e))(s:sS g rl w xs (.fe j) c):
  (∃a,c=.slice a 0 0)\/∃t o len i,c=.slice (some ⟨t,o,none⟩) len i/\g.rw[j]?=some (some t):=by
 obtain⟨d,l,u,m,f,y,p⟩:=s;grind
theorem E4.pure(h:aY L g nb bx rl w){fl:Bool}(T o:Nat){d:DV}(t:DR g.bD w d c)(i:fl=true->∀a len e,c=.slice (some a) len e->len=0):E4 L g nb bx rl w fl T o c d rl g:=
 ⟨.refl _ _ _,h,rfl,rfl,t,fun n _ _ _ _ r=> .inl (i n _ _ _ r),fun _=> .inl rfl⟩
theorem adL(h:aY L g nb bx rl w)(fl:Bool)(A:VR L g rl w v c)(T o:Nat)(K:DV->bm->Prop)(i:qB fl v rl K):
  ∃d bz g',K d bz/\E4 L g nb bx rl w fl T o c d bz g':=by
 have f:fl=false->Lx v (fun d=>K d rl)->∃d bz g',K d bz/\E4 L g nb bx rl w fl T o c d bz g':=by
  intro G R;subst G;obtain⟨d,J,Q⟩:=Of A _ R;exact⟨d,rl,g,J,.pure h T o Q fun h=>by cases h⟩
 cases v with
 |kh es p xs ds zs k=>
  simp only[qB,pn]at i;split at i
  rotate_left
  .exact i.elim
  rename_i n e y;obtain⟨X,z,cc,t,Z,_⟩:=A.wQ;have D:=Hm _ _ i;clear i;rcases D with⟨I,i⟩|⟨I,i⟩
  .cases fl with
   |true=>exact i.elim
   |false=>
    obtain⟨l,i⟩:=i;subst l;have i:=Cz _ _ _ i;obtain⟨_,i⟩:=pS _ _ _ _ i;obtain⟨g',s,sh,O,U,M,F⟩:=h.finish A y;cases O with
    |aO _ _ _ r E=>exact⟨_,_,g',i,s,sh,U,M,r,(fun h=>by cases h),fun b=>by rw[F];exact .inl rfl⟩
  .obtain⟨l,i⟩:=i;subst l;have i:=Cz _ _ _ i;obtain⟨Y,i⟩:=pS _ _ _ _ i;obtain⟨g',s,sh,O,U,M,F⟩:=h.finish A y;have N:owned e=true:=by unfold owned;rw[I];rfl
   cases O with
   |aO _ _ _ r E=>
    have V:(rl.set k (2*((xs.length+1)*es),e))[k]?=some (2*((xs.length+1)*es),e):=jD Y
    have P:gw e=es:=by
     obtain⟨_,_,_,_,_,_,_,_,_,_,_,_,_,_,_,_,_,S⟩:=A.wQ;obtain⟨n',e',B,r2,r3,_⟩:=S;rw[y]at B;cases B;exact r3
    obtain⟨H,u⟩:=sh.abZ V N T o r (OG V (by rw[P];simp) E) fl;rw[List.set_set]at u;exact⟨_,_,H,i,s.trans u.s,u.sh,u.bk.trans U,u.rw.trans M,u.dr,u.own,fun b=>by rw[<-F];exact u.par b⟩
 |aO xs t=>
  cases A with
  |aO _ _ _ r E=>
  cases t with
  |nil=>
   simp only[qB]at i;cases fl with
   |false=>exact f rfl i
   |true=>
   refine⟨_,_,g,i,.pure h T o r fun _ a len z l=>?_⟩;have E:c=.slice none 0 0:=E;rw[E]at l;cases l
  |fe j=>
   simp only[qB]at i;cases fl with
   |false=>exact f rfl i
   |true=>
   simp only at i;rw[pn]at i;split at i
   rotate_left
   .exact i.elim
   rename_i n e y;split at i
   rotate_left
   .exact i.elim
   rename_i N;obtain⟨l,i⟩:=i;obtain⟨_,i⟩:=pS _ _ _ _ i;obtain⟨H,u⟩:=h.abZ y N T o r (OG y l E) true;exact⟨_,_,H,i,u⟩
  |sub j C=>
   simp only[qB]at i;cases fl with
   |false=>exact f rfl i
   |true=>
   simp only at i;rw[pn]at i;split at i
   rotate_left
   .exact i.elim
   rename_i n e y;split at i
   rotate_left
   .exact i.elim
   rename_i N;obtain⟨l,i⟩:=i;obtain⟨_,i⟩:=pS _ _ _ _ i;obtain⟨n',e',R,h2,h3,h4⟩:=E;rw[y]at R;cases R;obtain⟨H,u⟩:=h.abZ y N T o r (h4 l.symm) true;exact⟨_,_,H,i,u⟩
  |full=>(simp only[qB]at i;cases fl with|false=>exact f rfl i|true=>exact i.elim)
  |row j=>(simp only[qB]at i;cases fl with|false=>exact f rfl i|true=>exact i.elim)
  |uu j C o=>(simp only[qB]at i;cases fl with|false=>exact f rfl i|true=>exact i.elim)
 |d x=>
  cases A with
  |d _ _ r=>
  cases x with
  |bool b=>simp only[qB]at i;cases fl with
   |false=>exact f rfl i
   |true=>exact⟨_,_,g,i,.pure h T o r fun _ a len z l=>by rw[l]at r;cases r⟩
  |int q m=>simp only[qB]at i;cases fl with
   |false=>exact f rfl i
   |true=>exact⟨_,_,g,i,.pure h T o r fun _ a len z l=>by rw[l]at r;cases r⟩
  |str s=>simp only[qB]at i;cases fl with
   |false=>exact f rfl i
   |true=>exact⟨_,_,g,i,.pure h T o r fun _ a len z l=>by rw[l]at r;cases r⟩
  |_=>(simp only[qB]at i;cases fl with|false=>exact f rfl i|true=>exact i.elim)
 |_=>(simp only[qB]at i;cases fl with|false=>exact f rfl i|true=>exact i.elim)
def yW(g:Gh)(B e t T o b:Nat):xh:=
 match g.par b with
 | .at c q=>if c=B then(if q=e then .at T o else if q=t then .at T (o+1)else .at c q)else .at c q
 | .out=> .out
 | .root=>if b=B then .out else .root
theorem aY.ajT(h:aY L g nb bx rl w){e B:Nat}(R:rl[k]?=some (n,e))(he:owned e=true)(v:g.rw[k]?=some (some B))(T o j q:Nat):
  let g':Gh:={g with par:=yW g B j q T o}
  Step g rl w g' (rl.set k (n,e+10000)) w/\aY L g' nb bx (rl.set k (n,e+10000)) w:=by
 intro g';obtain⟨e1,e2⟩:=C0 he;have E:=(bV.1 R).1;obtain⟨A,O⟩:=h.row k n e R;rcases O with⟨Q,_⟩|⟨r,D,t,fr,X,q2,q3,q4,q5,q6,q7,q8,q9,U⟩
 .rw[v]at Q;cases Q
 rw[v]at X;cases X;have y:g.par B=.root:=q9.2 e2;have a:∀b,g.par b=.out->yW g B j q T o b=.out:=fun b u=>by unfold yW;rw[u]
 have l:∀b,g.par b=.root->b≠B->yW g B j q T o b=.root:=fun b u hn=>by unfold yW;rw[u];exact if_neg hn
 have pB:yW g B j q T o B=.out:=by unfold yW;rw[y];exact if_pos rfl
 have s:Step g rl w g' (rl.set k (n,e+10000)) w:={
  os:=rfl,tape:=rfl,output:=rfl,size:=aQ _,bD:=fun _=>aQ _,cell:=fun _ _ _=>rfl,bk:=fun _ _ h=>h
  row:=fun i m f h=>by
   by_cases d:k=i
   .subst d;rw[R]at h;cases h;exact⟨n,e+10000,jD E,aQ _,fun _=>rfl,qu e,fun h=>by omega,fun _=>by omega⟩
   .exact .of (by rw[jE d];exact h) (aQ _) fun _=>rfl
  shape:=fun _ _=>rfl,jz:=fun _ h=> .inl h,jA:=fun _ h=> .inl h,frame:=fun _ _ _ _=>rfl,lb:=fun _ _ _ _=>rfl
  oi:=fun b _ _ u=>⟨fun C=>a b C,fun C=>l b C fun e=>u (by rw[e];exact cP.2 ⟨k,v⟩)⟩}
 refine⟨s,h.nb,h.kt,fun i x r Z hk=>⟨(h.box i x r Z hk).1,(h.box i x r Z hk).2.bj s rfl⟩,h.inj,by show g.rw.length=_;rw[De];exact h.jv,?_,h.jI,h.fresh,fun i=>(h.jd i).bj s,?_⟩
 .intro i m f I;by_cases d:k=i
  .subst d;rw[jD E]at I;simp only[qZ,vh]at I;obtain⟨rfl,rfl⟩:=I;refine⟨by rw[qu];exact A,?_⟩;have S:D5 n (e+10000)=D5 n e:=by rw[lJ om,lJ om]
   refine .inr ⟨B,D,t,fr,v,q2,by rw[S];exact q3,by rw[S];exact q4,q5,by rw[S];exact q6,q7,fun h=>by omega,⟨fun h=>by omega,fun h=>by omega⟩,fun _=>?_⟩;obtain⟨⟨i,z,r1,r2,r3,r4,r5⟩,r6⟩:=U om;have e3:(e+10000)/100000=e/100000:=by omega
   rw[S,e3];exact⟨⟨i,z,r1,r2,by rw[qu];exact r3,by rw[qu];exact r4,by rw[qu];exact r5⟩,r6⟩
  .rw[jE d]at I;obtain⟨h0,p⟩:=h.row i m f I;refine⟨h0,?_⟩;rcases p with p|⟨r,ar,tt,M,y1,y2,y3,y4,y5,y6,y7,y8,y9,F⟩
   .exact .inl p
   .have Y:r≠B:=fun e=>d (h.jI k i r (by rw[e];exact v) y1)
    exact .inr ⟨r,ar,tt,M,y1,y2,y3,y4,y5,y6,y7,y8,⟨fun P=>a r (y9.1 P),fun P=>l r (y9.2 P) Y⟩,F⟩
 .refine⟨fun b u=>a b (h.par.fresh b u),fun b u=>a b (h.par.bk b u),fun c o' b V len G H ho hv=>?_,fun c H=>h.par.F3 c fun N=>H (a c N)⟩;have K:g.par c≠.out:=fun N=>H (a c N)
  have J:c≠B:=fun N=>H (by rw[N];exact pB)
  rcases h.par.sep c o' b V len G K ho hv with p|p
  .exact .inl p
  .right;show yW g B j q T o b=_;unfold yW;rw[p];exact if_neg J
structure zu(L:Lk)(g:Gh)(nb:Nat)(bx:List Bx)(rl:bm)(w:World)(fl:Bool)(T o m:Nat)(c:Nat->Value)(ds:List DV)(bz:bm)(g':Gh):Prop where
 s:Step g rl w g' bz w
 sh:aY L g' nb bx bz w
 bk:g'.bk=g.bk
 rw:g'.rw=g.rw
 len:ds.length=m
 dr:∀j d,ds[j]?=some d->DR g'.bD w d (c j)
 own:fl=true->(g'.par T=.out->g.par T=.out)->∀j,j<m->∀b off len cap,c j=.slice (some ⟨b,off,none⟩) len cap->len=0\/g'.par b=.at T (o+j)
 par:∀b,g'.par b=g.par b\/g.par b=.root\/∃c q,g.par b=.at c q/\g.par c=.root/\g'.par c=.out
 wP:∀b,g'.par b=.root->g.par b=.root
theorem E4.wP{fl:Bool}{T o:Nat}{d:DV}(h:E4 L g nb bx rl w fl T o c d bz g')(b:Nat)(t:g'.par b=.root):g.par b=.root:=by
 rcases h.par b with e|e
 .rw[<-e];exact t
 .exact e
theorem E4.one{fl:Bool}{T o:Nat}{c:Nat->Value}{d:DV}(h:E4 L g nb bx rl w fl T o (c 0) d bz g'):zu L g nb bx rl w fl T o 1 c [d] bz g' where
 s:=h.s
 sh:=h.sh
 bk:=h.bk
 rw:=h.rw
 len:=rfl
 dr j x e:=by
  cases j with
  |zero=>simp at e;subst e;exact h.dr
  |succ j=>simp at e
 own n _ j e b t len a r:=by
  have:j=0:=by omega
  subst this;exact h.own n b t len a r
 par b:=by
  rcases h.par b with i|i
  .exact .inl i
  .exact .inr (.inl i)
 wP:=h.wP
theorem zu.comp{fl:Bool}{T o i R:Nat}{c:Nat->Value}{D U:List DV}{u m:bm}{f A:Gh}(a:zu L g nb bx rl w fl T o i c D u f)(b:zu L f nb bx u w fl T (o+i) R (fun j=>c (j+i)) U m A):
  zu L g nb bx rl w fl T o (i+R) c (D++U) m A where
 s:=a.s.trans b.s
 sh:=b.sh
 bk:=b.bk.trans a.bk
 rw:=b.rw.trans a.rw
 len:=by rw[bG,a.len,b.len]
 dr j d y:=by
  by_cases h:j<i
  .rw[gL (by rw[a.len];exact h)]at y;exact(a.dr j d y).bj b.s.bD b.s.cell
  .rw[pI (by rw[a.len];omega),a.len]at y;have:=b.dr _ d y;rwa [show j-i+i=j by omega]at this
 own C I j y x p len v l:=by
  by_cases h:j<i
  .have r:f.par T=.out->g.par T=.out:=fun t=>by
    apply I;rcases b.par T with e|e|⟨c,q,e,_⟩
    .rw[e];exact t
    .rw[t]at e;cases e
    .rw[t]at e;cases e
   rcases a.own C r j h x p len v l with t|t
   .exact .inl t
   .right;rcases b.par x with e|e|⟨O,q,e,N,S⟩
    .rw[e];exact t
    .rw[t]at e;cases e
    .rw[t]at e;cases e;have:=I S;rw[a.wP T N]at this;cases this
  .have r:A.par T=.out->f.par T=.out:=fun t=>by
    have H:=I t;rcases a.par T with e|e|⟨c,q,e,_⟩
    .rw[e];exact H
    .rw[H]at e;cases e
    .rw[H]at e;cases e
   have:=b.own C r (j-i) om x p len v (by rw[show j-i+i=j by omega];exact l);rwa [show o+i+(j-i)=o+j by omega]at this
 par x:=by
  have n:∀c,f.par c=.out->A.par c=.out:=fun c l=>by
   rcases b.par c with e|e|⟨O,q,e,_⟩
   .rw[e];exact l
   .rw[l]at e;cases e
   .rw[l]at e;cases e
  rcases b.par x with e|e|⟨c,q,e,N,S⟩
  .rcases a.par x with t|t|⟨c,q,k,z,E⟩
   .exact .inl (e.trans t)
   .exact .inr (.inl t)
   .exact .inr (.inr ⟨c,q,k,z,n c E⟩)
  .rcases a.par x with t|t|⟨c,q,k,z,E⟩
   .exact .inr (.inl (by rw[<-t];exact e))
   .exact .inr (.inl t)
   .exact .inr (.inr ⟨c,q,k,z,n c E⟩)
  .rcases a.par x with t|t|⟨O,M,k,z,E⟩
   .exact .inr (.inr ⟨c,q,by rw[<-t];exact e,a.wP c N,S⟩)
   .exact .inr (.inl t)
   .exact .inr (.inr ⟨O,M,k,z,n O E⟩)
 wP x F:=a.wP x (b.wP x F)
theorem acz{u:AV}(h:XV v u=true):∃xs i k C o t,v=.aO xs (.uu k C o)/\u=.aO i (.uu k C t)/\o≠t:=by
 unfold XV at h;split at h
 .split at h
  .rename_i n;split at h
   .rename_i s;split at h
    .cases h
    .rename_i a;have r:=dL n;have d:=dL s;subst r;subst d;exact⟨_,_,_,_,_,_,rfl,rfl,fun e=>by rw[e,Nat.beq_refl]at a;cases a⟩
   .cases h
  .cases h
 .cases h
theorem adO(h:aY L g nb bx rl w){u:AV}(N:XV v u=true){c:Nat->Value}(J:VR L g rl w v (c 0))(Q:VR L g rl w u (c 1))(T o:Nat)(K:DV->DV->bm->Prop)(i:Yd v u rl K):
  ∃d U bz g',K d U bz/\zu L g nb bx rl w true T o 2 c [d,U] bz g':=by
 obtain⟨xs,ys,k,C,r,l,rfl,rfl,S⟩:=acz N;simp only[Yd,Jl,pn]at i;split at i
 rotate_left
 .exact i.elim
 rename_i n e H;split at i
 rotate_left
 .exact i.elim
 rename_i M;obtain⟨O,i⟩:=i;subst O;obtain⟨_,i⟩:=pS _ _ _ _ i;cases J with|aO _ _ _ hd X=>
 cases Q with|aO _ _ _ Z R=>
 obtain⟨m1,f1,F,_,_,p4⟩:=X;obtain⟨m2,f2,Y,_,_,r4⟩:=R;rw[H]at F Y;cases F;cases Y;obtain⟨B,I,P,b3⟩:=p4 rfl;obtain⟨B',y,p,D⟩:=r4 rfl;rw[I]at y;cases y;obtain⟨s,sh⟩:=h.ajT H M I T o r l;obtain⟨e1,e2⟩:=C0 M
 have a:g.par B=.root:=by
  obtain⟨_,x⟩:=h.row k n e H;rcases x with⟨V,_⟩|⟨ee,et,t,fr,G,q2,q3,q4,q5,q6,q7,q8,q9,eo⟩
  .rw[I]at V;cases V
  .rw[I]at G;cases G;exact q9.2 e2
 refine⟨_,_,_,_,i,s,sh,rfl,rfl,rfl,fun j d hj=>?_,fun _ _ j hj b z len E O=>?_,fun b=>?_,fun b f=>?_⟩
 .grind
 .have:j=0\/j=1:=by omega
  rcases this with rfl|rfl
  .rw[O]at P;rcases h.par.sep B r b z len E (by rw[a];intro h;cases h) b3 P with m|m
   .exact .inl m
   .right;show yW g B r l T o b=_;unfold yW;rw[m];simp
  .rw[O]at p;rcases h.par.sep B l b z len E (by rw[a];intro h;cases h) D p with m|m
   .exact .inl m
   .right;show yW g B r l T o b=_;unfold yW;rw[m];simp[k8 S]
 .show yW g B r l T o b=_\/_\/∃c q,_/\_/\yW g B r l T o c=_;cases f:g.par b with
  |out=>left;unfold yW;rw[f]
  |root=>exact .inr (.inl rfl)
  | _ c q=>
   by_cases A:c=B
   .subst A;right;right;refine⟨c,q,rfl,a,?_⟩;unfold yW;rw[a];exact if_pos rfl
   .left;unfold yW;rw[f];exact if_neg A
 .have f:yW g B r l T o b=.root:=f;unfold yW at f;grind
theorem FI(fl:Bool)(T:Nat){cs:List AV}:∀{g:Gh}{rl:bm}(_:aY L g nb bx rl w)(o:Nat){c:Nat->Value}(_:∀j x,cs[j]?=some x->VR L g rl w x (c j))(K:List DV->bm->Prop)(_:sa fl cs rl K),
  ∃ds bz g',K ds bz/\zu L g nb bx rl w fl T o cs.length c ds bz g':=by
 have main:∀n(cs:List AV),cs.length=n->∀{g:Gh}{rl:bm}(h:aY L g nb bx rl w)(o:Nat){c:Nat->Value}(a:∀j x,cs[j]?=some x->VR L g rl w x (c j))(K:List DV->bm->Prop)(e:sa fl cs rl K),
   ∃ds bz g',K ds bz/\zu L g nb bx rl w fl T o cs.length c ds bz g':=by
  intro n
  induction n using Nat.strongRecOn with
  |ind n z=>
   intro cs E g rl h o c a K e
   have t:∀v r,cs=v::r->qB fl v rl (fun d rl=>sa fl r rl fun ds rl=>K (d::ds) rl)->∃ds bz g',K ds bz/\zu L g nb bx rl w fl T o cs.length c ds bz g':=by
    intro v r m i;subst m;obtain⟨d,f,A,i,l⟩:=adL h fl (a 0 v rfl) T o _ i;obtain⟨ds,y,O,e,p⟩:=z r.length (by simp at E;omega) r rfl l.sh (o+1) (c:=fun j=>c (j+1)) (fun j x b=>(a (j+1) x (by simpa using b)).bj l.s) _ i;have:=l.one.comp p;grind
   match cs,e with
   |[],e=>exact⟨[],rl,g,e,.refl _ _ _,h,rfl,rfl,rfl,fun j d k=>by simp at k,fun _ _ j k=>absurd k si,fun _=> .inl rfl,fun _ h=>h⟩
   |[v],e=>exact t v [] rfl e
   |v::u::r,e=>
    cases fl with
    |false=>exact t v (u::r) rfl e
    |true=>
     simp only[sa]at e;split at e
     .rename_i q;obtain⟨d,I,f,A,e,l⟩:=adO h q (c:=c) (a 0 v rfl) (a 1 u rfl) T o _ e;obtain⟨ds,y,O,e,p⟩:=z r.length (by simp at E;omega) r rfl l.sh (o+2) (c:=fun j=>c (j+2)) (fun j x b=>(a (j+2) x (by simpa using b)).bj l.s) _ e;have:=l.comp p;grind
     .exact t v (u::r) rfl e
 exact fun{g rl}h o{c}a K e=>main _ cs rfl h o a K e
structure UpY(k m:Nat)(rN:List DV)(C es p:Nat)(xs:bJ)(ds zs:List DV)(y:AV)(c:Nat):Prop where
 hC:C=2*(xs.length*es+p)+1
 hm:m<=zs.length
 hy:(zs.drop m=[]/\y=.aO (xs++[ds++rN]) (.fe k)/\c=2*((xs.length+1)*es))\/
  (zs.drop m≠[]/\y=.kh es (p+m) xs (ds++rN) (zs.drop m) k/\c=2*(xs.length*es+(p+m))+1)
theorem aeA(k m:Nat)(e:List DV)(C:Nat)(cs:List AV)(K:List AV->Nat->Prop)(N:Prop)(h:F5 k m e C cs K N):
  N\/∃j es p xs ds zs y c,cs[j]?=some (.kh es p xs ds zs k)/\UpY k m e C es p xs ds zs y c/\K (cs.set j y) c:=by
 induction cs generalizing K with
 |nil=>exact .inl h
 |cons v r n=>
  have go:F5 k m e C r (fun l c=>K (v::l) c) N->N\/∃j es p xs ds zs y c,(v::r)[j]?=some (.kh es p xs ds zs k)/\UpY k m e C es p xs ds zs y c/\K ((v::r).set j y) c:=by
   intro h;rcases n _ h with h|⟨j,es,p,xs,ds,zs,y,c,t,a,s⟩
   .exact .inl h
   .exact .inr ⟨j+1,es,p,xs,ds,zs,y,c,by simpa using t,a,by simpa using s⟩
  cases v with
  |kh es p xs ds zs u=>
   simp only[F5]at h;split at h
   .rename_i d;have i:=dL d;subst i;obtain⟨t,h⟩:=h;have h:=Cz _ _ _ h;obtain⟨a,h⟩:=CO _ _ _ h;refine .inr ⟨0,es,p,xs,ds,zs,?_⟩;split at h
    .rename_i o;exact⟨_,_,rfl,⟨t,a,.inl ⟨o,rfl,rfl⟩⟩,by simpa using h⟩
    .rename_i z zr o;refine⟨_,_,rfl,⟨t,a,.inr ⟨by rw[o];simp,rfl,rfl⟩⟩,?_⟩;rw[o];simpa using h
   .exact go h
  |_=>exact go h
theorem aez(k m:Nat)(t:List DV)(C:Nat)(bx:List Bx)(K:List Bx->Nat->Prop)(h:F4 k m t C bx K):
  ∃i a e j es p xs ds zs y c,bx[i]?=some (.var a e)/\e[j]?=some (.kh es p xs ds zs k)/\UpY k m t C es p xs ds zs y c/\K (bx.set i (.var a (e.set j y))) c:=by
 induction bx generalizing K with
 |nil=>exact h.elim
 |cons b r d=>
  have go:F4 k m t C r (fun l c=>K (b::l) c)->∃i a e j es p xs ds zs y c,(b::r)[i]?=some (.var a e)/\e[j]?=some (.kh es p xs ds zs k)/\UpY k m t C es p xs ds zs y c/\K ((b::r).set i (.var a (e.set j y))) c:=by
   intro h;obtain⟨i,a,e,j,es,p,xs,ds,zs,y,c,u,o,n,s⟩:=d _ h;exact⟨i+1,a,e,j,es,p,xs,ds,zs,y,c,by simpa using u,o,n,by simpa using s⟩
  cases b with
  |var a e=>
   rcases aeA _ _ _ _ _ _ _ h with h|⟨j,es,p,xs,ds,zs,y,c,o,n,s⟩
   .exact go h
   .exact⟨0,a,e,j,es,p,xs,ds,zs,y,c,rfl,o,n,by simpa using s⟩
  |_=>exact go h
theorem aY.ajt{g0:Gh}{jg:Nat}{bZ:bm}{w0:World}(I:aY L g0 jg bx bZ w0)(h:aY L g nb bx rl w)(s:g.bk=g0.bk)(N:∀b,b∈g.bk->w.heap[b]?=w0.heap[b]?){ty j:Nat}{cs:List AV}{x y:AV}(r:bx[i]?=some (.var ty cs))(m:cs[j]?=some x)(d:∀v,VR L g0 bZ w0 x v->VR L g rl w y v):
  aY L g nb (bx.set i (.var ty (cs.set j y))) rl w:=by
 have l:=(bV.1 r).1;refine⟨by simpa using h.nb,by simpa using h.kt,?_,h.inj,h.jv,h.row,h.jI,h.fresh,h.jd,h.par⟩;intro q z e a o;by_cases f:i=q
 .subst f;rw[jD l]at a;cases a;obtain⟨S,c,t,k,H,R,D⟩:=h.box i _ e r o;obtain⟨_,E,C,T,M,U,_⟩:=I.box i _ e r (by rw[<-s];exact o);rw[<-N e (cP.2 ⟨i,o⟩),k]at T;cases T;refine⟨fun _=>S si,c,t,k,by simpa using H,fun p u v n A=>?_,D⟩;by_cases O:j=p
  .subst O;rw[jD (bV.1 m).1]at n;cases n;exact d v (U j x v m A)
  .rw[jE O]at n;exact R p u v n A
 .rw[jE f]at a;exact h.box q z e a o
theorem WN(h:aY L g nb bx rl w){C q aw tw e n0:Nat}(em:uL g rl tw C k aw)(_:rl[k]?=some (n0,e))(fl:Bool)(tb:(Nat.mod (Nat.div e 10000) 10=1/\fl=false)\/(Nat.mod (Nat.div e 10000) 10=2/\fl=true)){vs:List AV}{cv:Array Value}(hm:vs.length=m)(ef:cv.size=vs.length)(tg:∀(j:Nat)(x:AV)(y:Value),vs[j]?=some x->cv[j]?=some y->VR L g rl w x y)(ey:∀y,y∈cv.toList->y.oneCell'=true)(K:List Bx->bm->Prop)(l:sa fl vs rl fun ds rl=>match nth rl k with
     |some (n,e')=>bI (n=C/\C=2*q+1/\e'=e)<|F4 k m ds C bx fun bx c=>pz rl k (c,e) fun rl=>K bx rl
     |none=>False):
  ∃w' g' ep bz,(storeCells ⟨aw,q,none⟩ cv.toList 0).run L.P w=.ok () w'/\Step g rl w g' bz w'/\aY L g' nb ep bz w'/\K ep bz:=by
 obtain⟨ds,eg,g1,l,O⟩:=FI fl aw h q (c:=fun j=>cv.getD j undef) (fun j x B=>tg j x _ B (by
  have hj:j<cv.size:=by rw[ef];exact(bV.1 B).1
  simp[hj])) _ l
 rw[pn]at l;split at l
 rotate_left
 .exact l.elim
 rename_i n e' hn;obtain⟨⟨t0,ay,Z⟩,l⟩:=l;have Z:=Z.symm;subst Z;subst t0;obtain⟨i,ty,cs,j,es,p,xs,ee,zs,y,c,hb,hj,U,l⟩:=aez _ _ _ _ _ _ l;obtain⟨t6,l⟩:=pS _ _ _ _ l;obtain⟨_,_,s1,s2,s3,s4,s5⟩:=em.bj O.s;rw[hn]at s1;cases s1;have N:=s5 rfl;obtain⟨ar,hr⟩:=O.sh.row k _ _ hn;rcases hr with⟨hr,_⟩|⟨al,r,t,fr,q1,q2,q3,q4,q5,q6,q7,q8,q9,R⟩
 .rw[N]at hr;cases hr
 rw[N]at q1;cases q1;rw[lJ s2]at q3 q4 q6 R;have R:=(R s2).1;have et:n/2=q:=by omega
 rw[et]at q3 q4 q6 R
 obtain⟨ej,t7⟩:∃b,g1.bk[i]?=some b:=by
  have:=(bV.1 hb).1;exact⟨_,dw (by rw[O.sh.kt];exact this)⟩
 obtain⟨_,ez,bt,b2,b3,b4,_⟩:=O.sh.box i _ ej hb t7;have eo:j<ez.size:=by rw[b3];exact(bV.1 hj).1
 have e3:=b4 j _ _ hj (dZ eo);obtain⟨pb,e4,pc,pt,hv,p1,p2,p3,p4,p5,p6,p7,p8,p9,ap,e5,ag,e6⟩:=e3.wQ
 have V:gw e=es:=by
  obtain⟨_,_,t1,t2,t3,t4,t5⟩:=e6;rw[hn]at t1;cases t1;exact t3
 have G:∀b,uL g1 eg es (2*(xs.length*es+p)+1) k b->b=aw:=by
  rintro b ⟨_,_,t1,t2,t3,t4,t5⟩;rw[hn]at t1;cases t1;have:=t5 U.hC.symm;rw[N]at this;cases this;rfl
 have ei:=G pb e6;subst ei;have hq:q=xs.length*es+p:=by have:=U.hC;omega
 have aj:m<=zs.length:=U.hm;have e7:(xs.length+1)*es=xs.length*es+es:=by rw[jb,tU]
 have t8:(xs.length+1)*es<=e4*es:=k7 _ p2
 have f:t=pt/\r.size=e4*es:=by
  simp only[World.shape?,q2,qZ,vh]at e5;exact e5
 obtain⟨rfl,am⟩:=f;have te:cv.toList.length=m:=by simp[ef,hm]
 have tt:q+0+cv.toList.length<=r.size:=by rw[te];omega
 have ed:=n8 (P:=L.P) pb q t fr q6 cv.toList 0 r w q2 tt ey;simp only[iU,te]at ed;generalize S:(r.toList.take q++cv.toList++r.toList.drop (q+m)).toArray=d at ed;have E:d.size=r.size:=by rw[<-S];simp;omega
 have J:∀o,o<q->d[o]?=r[o]?:=fun o T=>by
  rw[<-S,tP,ga,gL (by simp;omega),jC T];simp
 have D:∀o,o<m->d[q+o]?=cv[o]?:=fun o T=>by
  rw[<-S,tP,ga,pI (by simp;omega),gL (by simp;omega)];simp only[ra,Gg];rw[show q+o-min q r.size=o by omega];simp
 have ta:∀o,q+m<=o->d[o]?=r[o]?:=fun o T=>by
  rw[<-S,tP,pI (by simp;omega),mE];simp only[bG,ra,Gg];rw[show q+m+(o-(min q r.size+cv.size))=o by omega];simp
 have M:c/2=q+m/\n<=c:=by
  rcases U.hy with⟨u1,_,u2⟩|⟨_,_,u2⟩
  .have:zs.length<=m:=by simpa using u1
   have e0:=Co.2 p6;have e1:zs.length=m:=by omega
   have e2:xs.length*es+es=q+m:=by omega
   rw[u2,e7,e2];omega
  .rw[u2];omega
 obtain⟨M,t9⟩:=M
 obtain⟨s,sh⟩:=O.sh.fill (n':=c) hn s2 N q2 E t9 (fun o T=>J o om) (by rw[M,E];omega) (by
  obtain⟨ii,z,z1,z2,z3,z4,z5⟩:=R;exact⟨ii,z,z1,z2,z3,z4,fun o T hl=>by rw[ta o om];exact z5 o om (by rw[<-E];exact hl)⟩) (fun Q o ax a0 b off len cp hc=>by
  have hf:fl=true:=by
   rcases tb with⟨f1,f2⟩|⟨_,f2⟩
   .exact absurd (q9.1 (by have:e/10000%10=1:=f1;omega)) Q
   .exact f2
  have e1:o=q+(o-q):=by omega
  rw[e1,D _ om]at hc;have ae:o-q<vs.length:=by omega
  have:=O.own hf (fun hh=>absurd hh Q) (o-q) ae b off len cp (by simp[hc]);rwa [<-e1]at this)
 refine⟨_,_,_,_,ed,O.s.trans s,O.sh.ajt sh rfl (fun b hb=>?_) hb hj fun v hv=>?_,l⟩
 .exact setRow_other w pb b d (fun e=>(O.sh.tH (cP.2 ⟨k,N⟩)).2 (e▸hb))
 .obtain⟨a,A,yc,aa,ao,y1,y2,y3,y4,y5,y6,y7,y8,y9,ai,ti,an,ah⟩:=hv.wQ;have ei:=G a ah;subst ei;subst ao
  have f:t=aa/\r.size=A*es:=by
   simp only[World.shape?,q2,qZ,vh]at ti;exact ti
  obtain⟨rfl,el⟩:=f;have ts:(xs.length+1)*es<=A*es:=k7 _ y2;have I:∀o,(w.setRow a d).cell? ⟨a,o,none⟩=d[o]?:=fun o=>cell_setRow_same w a o r d t fr q2
  have F:∀o,w.cell? ⟨a,o,none⟩=r[o]?:=fun o=>cell_of_row w a o r t fr q2
  have u:(w.setRow a d).shape? a=some (t,A*es):=by simp only[World.shape?,setRow_heap w a r d t fr q2,E,el]
  have Y:=y7.bj (mk':=fun x=>if x=a then c/2 else g1.bD x) (w':=w.setRow a d) s.bD s.cell
  have G1:∀o,o<p->(w.setRow a d).cell? ⟨a,xs.length*es+o,none⟩=some (yc o):=fun o T=>by
   rw[I,J _ om,<-F];exact y9 o T
  have G2:∀o,o<m->(w.setRow a d).cell? ⟨a,xs.length*es+(p+o),none⟩=some (cv.getD o undef):=fun o T=>by
   rw[I,<-kJ,<-hq,D o T];have:o<cv.size:=by omega
   simp[this]
  have a1:ds.length=m:=by rw[O.len,hm]
  have GD:∀o v,(ee++ds)[o]?=some v->DR (fun x=>if x=a then c/2 else g1.bD x) (w.setRow a d) v (if o<p then yc o else cv.getD (o-p) undef):=fun o v T=>by
   by_cases H:o<p
   .rw[if_pos H];rw[gL om]at T;exact(ai o v T).bj s.bD s.cell
   .rw[if_neg H];rw[pI om,y4]at T;exact(O.dr (o-p) v T).bj s.bD s.cell
  have GC:∀o,o<p+m->(w.setRow a d).cell? ⟨a,xs.length*es+o,none⟩=some (if o<p then yc o else cv.getD (o-p) undef):=fun o T=>by
   by_cases H:o<p
   .rw[if_pos H];exact G1 o H
   .rw[if_neg H];have:=G2 (o-p) om;rwa [show p+(o-p)=o by omega]at this
  have X:(eg.set k (c,e))[k]?=some (c,e):=jD t6;rcases U.hy with⟨u1,u2,u3⟩|⟨u1,u2,u3⟩
  .have a2:zs.length<=m:=by simpa using u1
   subst u2;have hl:(xs++[ee++ds]).length=xs.length+1:=by simp
   refine .aO _ _ _ (DR.snoc Y y3 (by simp;omega) y1 y2 ?_ _ (fun o T=>GC o om) GD) ⟨c,e,X,s2,fun x B=>?_,by rw[hl,V,u3];exact aQ _,fun _=> .inr ⟨a,A,t,by rw[hl],N,by rw[V];exact u⟩⟩
   .show _<=if _ then _ else _;rw[if_pos rfl,M];omega
   .rw[V];rcases nA.1 B with B|B
    .exact y3 x B
    .rw[dP.1 B];simp;omega
  .subst u2;have a3:(zs.drop m).length=zs.length-m:=tR;refine .kh es (p+m) xs (ee++ds) (zs.drop m) k a A _ t y1 y2 y3 (by simp;omega) om u1 Y ?_ GC GD u ?_ ⟨c,e,X,s2,V,by omega,fun _=>N⟩
   .show _<=if _ then _ else _;rw[if_pos rfl,M];omega
   .obtain⟨ii,z,z1,z2,z3,z4,z5⟩:=an;refine⟨ii,z,z1,z2,z3,z4,fun o v T=>?_⟩;rw[mE]at T;obtain⟨cc,c1,c2⟩:=z5 (m+o) v T;exact⟨cc,by rw[kJ];exact c1,c2⟩
end
variable{g:Gh}{rl:bm}{w:World}{nb:Nat}{bx:List Bx}{f:Nat}{o:Oper}{a:Act}{x:Operand}{ax:Arg}{args:List AV}{z:List DV}{b:Nat}
def CT(L:Lk)(f:Nat)(args:List AV)(nb:Nat)(bx:List Bx)(rl:bm)(v:AV)(fA:Nat)(cg:List Bx)(bz:bm):Prop:=
 ∀(g:Gh)(w:World)(t:Array Value),aY L g nb bx rl w->t.size=args.length->
  (∀(j:Nat)(x:AV)(y:Value),args[j]?=some x->t[j]?=some y->VR L g rl w x y)->
  Calls L.P (L.fn f) t w fun e w'=> ∃o a,e=.returned o/\Step g rl w a bz w'/\aY L a fA cg bz w'/\VR L a bz w' v o
def bA(L:Lk)(f:Nat)(args:List AV)(nb:Nat)(bx:List Bx)(rl:bm)(K:AV->Nat->List Bx->bm->Prop):Prop:=
 ∃v e t a,CT L f args nb bx rl v e t a/\K v e t a
structure Md where
 a:Nat
 b:Nat
 X:Option (AV->Prop)
def R6:AV->Bool
 | .oH _ (.d _)=>true
 | .oH _ (.agg e)=>e.all fun x=>match x with| .d _=>true|_=>false
 |_=>false
structure sQ(g:Gh)(w:World)(mk:Nat->Nat)(w':World):Prop where
 os:w'.os=w.os
 tape:w'.tape=w.tape
 output:w'.output=w.output
 size:w.heap.size<=w'.heap.size
 bD:∀b,g.bD b<=mk b
 cell:∀b o,o<g.bD b->w'.cell? ⟨b,o,none⟩=w.cell? ⟨b,o,none⟩
 shape:∀b,b<w.heap.size->w'.shape? b=w.shape? b
 frame:∀b,b<w.heap.size->b∉g.bk->some b∉g.rw->w'.heap[b]?=w.heap[b]?
 lb:∀b,b<w.heap.size->b∉g.bk->some b∉g.rw->mk b=g.bD b
 fresh:∀b,w'.heap.size<=b->mk b=0
theorem sQ.after{g0:Gh}{bZ:bm}{w0:World}{mk:Nat->Nat}(h:Step g0 bZ w0 g rl w)(k:sQ g w mk w'):sQ g0 w0 mk w' where
 os:=k.os.trans h.os
 tape:=k.tape.trans h.tape
 output:=k.output.trans h.output
 size:=gM h.size k.size
 bD b:=gM (h.bD b) (k.bD b)
 cell b o s:=(k.cell b o (jS s (h.bD b))).trans (h.cell b o s)
 shape b e:=(k.shape b (jS e h.size)).trans (h.shape b e)
 frame b e a i:=by
  rw[k.frame b (jS e h.size) (fun t=>(h.jz b t).elim a (fun n=>by omega)) (fun t=>(h.jA b t).elim i (fun n=>by omega)),h.frame b e a i]
 lb b e a i:=by
  rw[k.lb b (jS e h.size) (fun t=>(h.jz b t).elim a (fun n=>by omega)) (fun t=>(h.jA b t).elim i (fun n=>by omega)),h.lb b e a i]
 fresh:=k.fresh
theorem sQ.wide{g0:Gh}{mk:Nat->Nat}(k:sQ g0 w mk w')(e:g0.bD=g.bD)(o:∀b,b∈g0.bk->b∈g.bk)(i:∀b,some b∈g0.rw->some b∈g.rw):sQ g w mk w':=
 ⟨k.os,k.tape,k.output,k.size,by rw[<-e];exact k.bD,by rw[<-e];exact k.cell,k.shape,fun b h t a=>k.frame b h (fun q=>t (o b q)) (fun q=>a (i b q)),fun b h t a=>by rw[<-e];exact k.lb b h (fun q=>t (o b q)) (fun q=>a (i b q)),k.fresh⟩
def Bp(L:Lk)(X:AV->Prop)(g:Gh)(w:World)(a:List PanicEntry)(w':World):Prop:=
 ∃e t mk,a=[{v:=t,recovered:=false}]/\X e/\R6 e=true/\sQ g w mk w'/\VR L ⟨[],mk,[],fun _=> .out⟩ [] w' e t
theorem Bp.after{L:Lk}{X:AV->Prop}{g0 g:Gh}{bZ rl:bm}{w0 w w':World}{e:List PanicEntry}(h:Step g0 bZ w0 g rl w)(k:Bp L X g w e w'):Bp L X g0 w0 e w':=
 let⟨t,a,mk,o,i,n,s,r⟩:=k
 ⟨t,a,mk,o,i,n,sQ.after h s,r⟩
def CX(L:Lk)(f:Nat)(args:List AV)(nb:Nat)(bx:List Bx)(rl:bm)(X:AV->Prop):Prop:=
 ∀(g:Gh)(w:World)(t:Array Value),aY L g nb bx rl w->t.size=args.length->
  (∀(j:Nat)(x:AV)(y:Value),args[j]?=some x->t[j]?=some y->VR L g rl w x y)->
  Calls L.P (L.fn f) t w fun e w'=> ∃a,e=.panicked a/\Bp L X g w a w'
def xO(L:Lk)(X:AV->Prop)(f:Nat)(args:List AV)(nb:Nat)(bx:List Bx)(rl:bm)(K:AV->Nat->List Bx->bm->Prop):Prop:=
 bA L f args nb bx rl K\/(nb=bx.length/\CX L f args nb bx rl X)\/(nb≠bx.length/\∃v,args=[v]/\X v/\R6 v=true)
def uJ(L:Lk)(X:Option (AV->Prop)):Nat->List AV->Nat->List Bx->bm->(AV->Nat->List Bx->bm->Prop)->Prop:=
 match X with
 |none=>bA L
 |some X=>xO L X
theorem uJ.call{L:Lk}{X:Option (AV->Prop)}{K:AV->Nat->List Bx->bm->Prop}(h:uJ L X f args nb bx rl K)(t:nb=bx.length):
  bA L f args nb bx rl K\/∃e,X=some e/\CX L f args nb bx rl e:=by
 cases X with
 |none=>exact .inl h
 |some X=>
  rcases h with h|⟨_,h⟩|⟨h,_⟩
  .exact .inl h
  .exact .inr ⟨X,rfl,h⟩
  .exact(h t).elim
theorem uJ.pan{L:Lk}{X:Option (AV->Prop)}(h:uJ L X f args nb bx rl fun _ _ _ _=>False)(t:nb≠bx.length):
  ∃e,X=some e/\∃v,args=[v]/\e v/\R6 v=true:=by
 cases X with
 |none=>obtain⟨_,_,_,_,_,h⟩:=h;exact h.elim
 |some X=>
  rcases h with⟨_,_,_,_,_,h⟩|⟨h,_⟩|⟨_,h⟩
  .exact h.elim
  .exact(t h).elim
  .exact⟨X,rfl,h⟩
def CP(L:Lk)(f:Nat)(args:List AV)(v:AV):Prop:=∀nb bx rl,CT L f args nb bx rl v nb bx rl
def dk(L:Lk)(f:Nat)(args:List AV)(K:AV->Prop):Prop:=∃v,CP L f args v/\K v
def jM(L:Lk)(n:Nat)(o:Oper)(r:qp):Prop:=
 ∀(X:Option (AV->Prop))(σ:St)(K:AV->St->Prop)(g:Gh)(a:Act)(w:World)(next:Act->World->Prop)(Q:Exit->Act->World->Prop),
  dx L n g σ a w->cB L.gl (uJ L X) r σ K->
  (∀(av:AV)(e:St)(t:Gh)(i:Value)(w':World),Step g σ.rl w t e.rl w'->dx L n t e a w'->VR L t e.rl w' av i->K av e->next (a.put o.dst i) w')->
  (∀s,X=some s->∀(h:List PanicEntry)(w':World),Bp L s g w h w'->Q (.panic h) a w')->o.wp L.P a w next Q
theorem aW{P:Program}{v:Value}{next:Act->World->Prop}{Q:Exit->Act->World->Prop}(h:(execOp a.eval o).run P w=.ok (.value v) w')(k:next (a.put o.dst v) w'):o.wp P a w next Q:=by
 unfold Oper.wp;rw[h];exact k
theorem nO{P:Program}{next:Act->World->Prop}{Q:Exit->Act->World->Prop}(h:(execOp a.eval o).run P w=.ok .skip w')(k:next (a.put o.dst undef) w'):o.wp P a w next Q:=by
 unfold Oper.wp;rw[h];exact k
theorem VR.x7{L:Lk}{g:Gh}{rl:bm}{w:World}:VR L g rl w Go.Ab.x7 undef:=.b6 [] #[] rfl fun j x y h=>by simp at h
theorem VR.Uv{L:Lk}(h:VR L g rl w Go.Ab.x7 c):c=.tuple #[]:=by
 unfold Go.Ab.x7 at h;cases h with|b6 _ t e _=>rw[YH e]
theorem VR.me{L:Lk}{t:Bool}(h:VR L g rl w (.d (.bool t)) c):c=.bool t:=by
 cases h with|d _ _ h=>cases h;rfl
theorem VR.fV{L:Lk}{k:IntKind}{m:Int}(h:VR L g rl w (.d (.int k m)) c):c=.int k m/\eB k m:=by
 cases h with|d _ _ h=>cases h;exact⟨rfl,by assumption⟩
theorem VR.iB{L:Lk}{s:List UInt8}(h:VR L g rl w (.d (.str s)) c):c=.string ⟨s.toArray⟩/\s.length<=gJ:=by
 cases h with|d _ _ h=>cases h;exact⟨rfl,by assumption⟩
theorem VR.jH{L:Lk}{j:Nat}(h:VR L g rl w (.ptr b j) c):∃e,c=.pointer (some ⟨e,j,none⟩)/\g.bk[b]?=some e:=by
 cases h with|ptr _ _ e h=>exact⟨e,rfl,h⟩
theorem VR.aav{L:Lk}{j:Nat}(h:VR L g rl w (.ru b es i j) c):∃e,c=.pointer (some ⟨e,i*es+j,none⟩)/\g.bk[b]?=some e:=by
 cases h with|ru _ _ _ _ e h=>exact⟨e,rfl,h⟩
theorem VR.CR{L:Lk}{C q:Nat}(h:VR L g rl w (.kn k C q) c):∃e es,c=.pointer (some ⟨e,q,none⟩)/\uL g rl es C k e:=by
 cases h with|kn _ _ _ e es h=>exact⟨e,es,rfl,h⟩
theorem VR.kH{L:Lk}(t:Bool):VR L g rl w (.d (.bool t)) (.bool t):=.d _ _ (.bool t)
section
variable{L:Lk}{n:Nat}
theorem Uf(t:o.op=.move x\/o.op=.assign x)(s:cQ L x ax):jM L n o (.lR ax):=by
 intro X σ K g a w next Q h e k i;simp only[cB,force_eq]at e
 have r:(execOp a.eval o).run L.P w=.ok (.value (a.eval x)) w:=by
  rcases t with t|t<;>simp[execOp,t]
 exact aW r (k _ _ g _ w (Step.refl _ _ _) h (s.val h) e)
theorem aa2{c y:Operand}{f p:Arg}(E:o.op=.pick c x y)(v:cQ L c f)(b:cQ L x ax)(j:cQ L y p):jM L n o (.pick f ax p):=by
 intro X σ K g a w next Q h e k q;obtain⟨T,nb,bx,rl⟩:=σ;have r:=v.val h;simp only[cB]at e;split at e
 .rename_i t A;rw[A]at r;have z:=r.me
  have run:∀u:Bool,t=u->(execOp a.eval o).run L.P w=.ok (.value (if u then a.eval x else a.eval y)) w:=by
   intro u O;subst O;simp[execOp,E,z,asBool]
  simp only[ud,force_eq]at e;split at e
  .rename_i i;have m:a.tmps.getD i undef=.bool t:=by cases v;exact z
   cases s:t with
   |true=>
    rw[s]at e m;have l:=h.vp i (.d (.bool true)) (by rw[m];exact VR.kH true);exact aW (run true s) (k _ _ g _ w (Step.refl g rl w) l (b.val l) e)
   |false=>
    rw[s]at e m;have l:=h.vp i (.d (.bool false)) (by rw[m];exact VR.kH false);exact aW (run false s) (k _ _ g _ w (Step.refl g rl w) l (j.val l) e)
  .cases s:t with
   |true=>rw[s]at e;exact aW (run true s) (k _ _ g _ w (Step.refl _ _ _) h (b.val h) e)
   |false=>rw[s]at e;exact aW (run false s) (k _ _ g _ w (Step.refl _ _ _) h (j.val h) e)
 .exact e.elim
def ZR(z:List DV)(v:Value):Prop:=v.cells.size=z.length/\∀(j:Nat)(x:DV)(y:Value),z[j]?=some x->v.cells[j]?=some y->KR y x/\(x=.sl []->y=.slice none 0 0)
theorem Wx{i:TypeInfo}{l:Value}{ty:Nat}(q:o.op=.alloc t)(hi:L.P.info? t=some i)(E:i.zero=some l)(r:ZR z l)(m:ty=0\/t=L.tn ty):jM L n o (.alloc ty z):=by
 intro X σ K g a w next Q h e k v;obtain⟨T,nb,bx,rl⟩:=σ;simp only[cB]at e;have e:=pU _ _ _ (HK _ _ e)
 have A:(execOp a.eval o).run L.P w=.ok (.value (.pointer (some ⟨w.heap.size,0,none⟩))) (w.alloc (.cells l.cells t)):=by
  simp[execOp,q,Instr.alloc,zeroValue,typeInfo,hi,E,newVar,newRow]
 have s:=Step.box g rl w (.cells l.cells t) h.sh.fresh
 have f:=h.sh.Xg (.cells l.cells t) (.var ty (z.map Ga)) ⟨l.cells,t,heap_alloc_new w _,by simp[r.1],fun j x y u b=>by
  rw[jU]at u;cases c:z[j]? with
  |none=>rw[c]at u;cases u
  |some d=>rw[c]at u;cases u;exact Gb ((r.2 j d y c b).1 _ _) (r.2 j d y c b).2,m⟩
 refine aW A (k _ _ _ _ _ s (h.bj s f) (.ptr nb 0 w.heap.size ?_) e);have p:nb=bx.length:=h.sh.nb;rw[p,<-h.sh.kt];simp[Gh.box]
theorem aek(u:o.op=.box t x)(i:cQ L x ax):jM L n o (.box ax):=by
 intro X σ K g a w next Q h e k l;obtain⟨c,nb,bx,rl⟩:=σ;simp only[cB]at e;obtain⟨m,f,p,v,_⟩:=k9 (i.val h) _ e;have e:=pU _ _ _ f
 have b:(execOp a.eval o).run L.P w=.ok (.value (.pointer (some ⟨w.heap.size,0,none⟩))) (w.alloc (.cells (a.eval x).cells t)):=by
  simp[execOp,u,Instr.box,newVar,newRow]
 have s:=Step.box g rl w (.cells (a.eval x).cells t) h.sh.fresh;have r:=h.sh.Xg (.cells (a.eval x).cells t) (.var 0 m) ⟨_,t,heap_alloc_new w _,p,fun j x y i q=>(v j x y i q).bj s,.inl rfl⟩;refine aW b (k _ _ _ _ _ s (h.bj s r) (.ptr nb 0 w.heap.size ?_) e);have d:nb=bx.length:=h.sh.nb;rw[d,<-h.sh.kt];simp[Gh.box]
theorem mK{α:Type}(xs:List α)(i:Nat):nth xs i=xs[i]?:=by
 induction xs generalizing i with
 |nil=>rfl
 |cons x r e=>cases i with
  |zero=>rfl
  |succ i=>simp only[nth,AA];exact e i
theorem ot(P:Program)(w:World)(t:TypeId)(m:Nat)(e:Bool)(i:TypeInfo)(d:TypeDesc)(hi:P.info? t=some i)(r:i.size=m)(o:P.underlying t=some d)(n:JS d=e)(a:e=false->m=1)(aw off:Nat)(f:Nat->Value)(h:∀j,j<m->w.cell? ⟨aw,off+j,none⟩=some (f j)):
  (loadVar t ⟨aw,off,none⟩).run P w=.ok (if e then .agg ((List.range m).map f).toArray else f 0) w:=by
 have l:=run_loadCells (P:=P) w ⟨aw,off,none⟩ m f (fun j u=>by rw[Addr.add_lit];exact h j u);cases e with
 |true=>
  have:(isAgg t).run P w=.ok true w:=by
   unfold isAgg underlying;simp only[Sem.run_bind,run_program,Result.andThen_ok,o];cases d<;>simp[JS]at n<;>rfl
  simp[loadVar,this,sizeOf,typeInfo,hi,r,l]
 |false=>
  have c:=a rfl;subst c
  have:(isAgg t).run P w=.ok false w:=by
   unfold isAgg underlying;simp only[Sem.run_bind,run_program,Result.andThen_ok,o];cases d<;>simp[JS]at n<;>rfl
  have s:=h 0 om;simp only[iU]at s;simp[loadVar,this,run_load,s]
theorem ue{e:Bool}(t:e=false->m=1)(cs:List AV)(f:Nat->Value)(a:cs.length=m)(o:∀j x,cs[j]?=some x->VR L g rl w x (f j))(K:AV->Prop)(h:iO e cs K):∃v,K v/\VR L g rl w v (if e then .agg ((List.range m).map f).toArray else f 0):=by
 cases e with
 |true=>
  refine⟨_,h,.agg cs _ (by simp[a]) fun j x y i n=>?_⟩;grind
 |false=>
  have:=t rfl;subst this
  match cs,a with
  |[v],_=>simp only[iO,force_eq]at h;exact⟨v,h,o 0 v rfl⟩
theorem aaY{M:Bool}(ho:o.op=.load t x)(ht:UL L t m M)(p:cQ L x ax):jM L n o (.load m M ax):=by
 intro X σ K g a w next Q h s k Z;obtain⟨ee,nb,bx,rl⟩:=σ;obtain⟨⟨i,hi,hm⟩,⟨d,hd,ha⟩,z⟩:=ht;have u:=p.val h
 have S:∀e l(f:Nat->Value),a.eval x=.pointer (some ⟨e,l,none⟩)->(∀j,j<m->w.cell? ⟨e,l+j,none⟩=some (f j))->
   (execOp a.eval o).run L.P w=.ok (.value (if M then .agg ((List.range m).map f).toArray else f 0)) w:=by
  intro e l f Y hf;have hl:=ot L.P w t m M i d hi hm hd ha z e l f hf;simp[execOp,ho,Y,Instr.loadAt,Instr.sureAddr,hl]
 simp only[cB]at s;split at s
 .rename_i cs E;rw[E]at u;generalize H:a.eval x=xv at u;cases u with
  |gA _ e l c et hc hv=>
   obtain⟨T,F,R,V,D⟩:=zC _ _ _ _ s;have D:=WS _ _ D;have r:∀j,j<m->j<cs.length:=fun j A=>by rcases T with T|T<;>omega
   obtain⟨v,B,O⟩:=ue (L:=L) (g:=g) (rl:=rl) (w:=w) z (F.map .d) c (by simp[R]) (fun j x p=>by
    rw[jU]at p;cases A:F[j]? with
    |none=>rw[A]at p;cases p
    |some y=>
     rw[A]at p;cases p;have G:j<m:=by rw[<-R];exact(bV.1 A).1
     have:=V j G;rw[A,dK]at this;exact .d _ _ (hv j y this.symm)) _ D
   exact aW (S e l c H (fun j A=>hc j (r j A))) (k _ _ g _ w (Step.refl _ _ _) h O B)
 .rename_i b j E;rw[E]at u;obtain⟨e,Y,hb⟩:=u.jH;split at s
  .rename_i cs U;rw[mK]at U;obtain⟨_,I,ta,hh,J,N,_⟩:=h.sh.box b _ e U hb;obtain⟨T,F,R,V,D⟩:=zC _ _ _ _ s;have r:∀q,q<m->j+q<I.size:=fun q C=>by rw[J];rcases T with T|T<;>omega
   obtain⟨v,B,O⟩:=ue (L:=L) (g:=g) (rl:=rl) (w:=w) z F (fun q=>I.getD (j+q) undef) R (fun q x p=>by
    have C:q<m:=by rw[<-R];exact(bV.1 p).1
    have h5:=V q C;rw[p]at h5;refine N (j+q) x _ h5.symm ?_;simp[r q C]) _ D
   refine aW (S e j _ Y fun q C=>?_) (k _ _ g _ w (Step.refl _ _ _) h O B);rw[cell_of_row w e (j+q) I ta (0,0) hh];simp[r q C]
  .exact s.elim
 .exact s.elim
theorem WI{i:TypeInfo}{v:Operand}{av:Arg}(ho:o.op=.store t x v)(hi:L.P.info? t=some i)(hm:i.size=m)(A:cQ L x ax)(hv:cQ L v av):jM L n o (.store m ax av):=by
 intro X σ K g a w next Q h l k t2;obtain⟨eo,nb,bx,rl⟩:=σ;have F:=A.val h;have ei:=hv.val h;simp only[cB]at l;split at l
 .rename_i b j V;rw[V]at F;obtain⟨z,he,hb⟩:=F.jH;split at l
  .rename_i ty cs B;rw[mK]at B;obtain⟨E,d,G,hh,et,O,ej⟩:=h.sh.box b _ z B hb;have E:=E si;obtain⟨vs,R,J,Z,D⟩:=k9 ei _ l;obtain⟨U,R⟩:=kQ _ _ _ R;obtain⟨t3,R⟩:=FN _ _ _ _ R;obtain⟨_,R⟩:=sj _ _ _ _ R
   have T:j+0+(a.eval v).cells.toList.length<=d.size\/vs=[]:=by
    grind
   rcases T with T|ef
   .have S:=run_storeCells_at L.P z j G (a.eval v).cells.toList 0 d w hh T D;simp only[iU]at S
    have hr:(execOp a.eval o).run L.P w=.ok .skip (w.setRow z (d.toList.take j++(a.eval v).cells.toList++d.toList.drop (j+(a.eval v).cells.toList.length)).toArray):=by
     have I:(a.eval v).cells.size=i.size:=by rw[J,U,hm]
     generalize (w.setRow z (d.toList.take j++(a.eval v).cells.toList++d.toList.drop (j+(a.eval v).cells.toList.length)).toArray)=W' at S⊢;simp[execOp,ho,he,Instr.storeAt,Instr.sureAddr,storeVar,sizeOf,typeInfo,hi,I,S]
    have f:(d.toList.take j++(a.eval v).cells.toList++d.toList.drop (j+(a.eval v).cells.toList.length)).toArray.size=d.size:=by
     simp at T⊢;omega
    have ee:z∈g.bk:=cP.2 ⟨b,hb⟩;have s:=Step.xK (rl:=rl) ee E d _ G (0,0) hh f
    have ed:=h.sh.xK hb d _ G (0,0) hh f E (.var ty (cs.take j++vs++cs.drop (j+vs.length)))
     ⟨_,G,setRow_heap w z d _ G (0,0) hh,by rw[f,et];simp at T⊢;omega,fun q x y A N=>by
      have Y:(a.eval v).cells.toList.length=vs.length:=by simp[J]
      rw[tP]at N;rw[Y]at N;rw[ga]at A N;rw[vb]at A N;simp only[ra]at A N;have t5:j<=cs.length:=by simp at T;omega
      have e1:min j cs.length=j:=by omega
      have e2:min j d.toList.length=j:=by simp;omega
      rw[e1]at A;rw[e2]at N;split at A
      .rename_i hq;rw[if_pos hq]at N;rw[jC hq]at A N;exact(O q x y A (by simpa using N)).bj s
      .rename_i hq;rw[if_neg hq]at N;rw[vb]at A N;rw[Y]at N;split at A
       .rename_i el;rw[if_pos el]at N;exact(Z (q-j) x y A (by simpa using N)).bj s
       .rename_i el;rw[if_neg el]at N;rw[mE]at A N;exact(O _ x y A (by simpa using N)).bj s,ej⟩
    exact nO hr (k _ _ g _ _ s (h.bj s ed) (.bM _) R)
   .subst ef;have ez:(a.eval v).cells=#[]:=YH (by simpa using J)
    have hr:(execOp a.eval o).run L.P w=.ok .skip w:=by
     have I:(a.eval v).cells.size=i.size:=by rw[J,U,hm]
     simp[execOp,ho,he,Instr.storeAt,Instr.sureAddr,storeVar,sizeOf,typeInfo,hi,I];simp[ez,storeCells]
    have e:bx.set b (.var ty (cs.take j++[]++cs.drop (j+([]:List AV).length)))=bx:=by
     simp only[oe,bc,iU,Jy];apply Cq;grind
    rw[e]at R;exact nO hr (k _ _ g _ _ (Step.refl _ _ _) h (.bM _) R)
  .exact l.elim
 .rename_i b es H j V;rw[V]at F;obtain⟨z,he,hb⟩:=F.aav;split at l
  .rename_i e xs B;rw[mK]at B;obtain⟨E,d,G,hh,et,e3,ey,O⟩:=h.sh.box b _ z B hb;have E:=E si;obtain⟨vs,e4,J,Z,D⟩:=k9 ei _ l;obtain⟨U,e5⟩:=kQ _ _ _ e4
   obtain⟨ds,e6,t6,e7⟩:=EB (L:=L) (g:=g) (rl:=rl) (w:=w) vs (fun j=>(a.eval v).cells.getD j undef) (fun j x A=>Z j x _ A (by
    have hj:j<(a.eval v).cells.size:=by rw[J];exact(bV.1 A).1
    simp[hj])) _ e5
   obtain⟨⟨rfl,te,rfl,ep⟩,tt⟩:=e6;obtain⟨_,R⟩:=sj _ _ _ _ tt;have Y:(a.eval v).cells.toList.length=e:=by simp[J,U,te]
   have t4:H*e+e<=xs.length*e:=by
    have:=k7 e (JC ep);rw[xf]at this;exact this
   have T:H*e+0+0+(a.eval v).cells.toList.length<=d.size:=by rw[Y,et];omega
   have S:=run_storeCells_at L.P z (H*e+0) G (a.eval v).cells.toList 0 d w hh T D;simp only[iU]at S;simp only[iU]at he
   have hr:(execOp a.eval o).run L.P w=.ok .skip (w.setRow z (d.toList.take (H*e)++(a.eval v).cells.toList++d.toList.drop (H*e+(a.eval v).cells.toList.length)).toArray):=by
    have I:(a.eval v).cells.size=i.size:=by rw[J,U,hm]
    generalize (w.setRow z (d.toList.take (H*e)++(a.eval v).cells.toList++d.toList.drop (H*e+(a.eval v).cells.toList.length)).toArray)=W' at S⊢;simp[execOp,ho,he,Instr.storeAt,Instr.sureAddr,storeVar,sizeOf,typeInfo,hi,I,S]
   have f:(d.toList.take (H*e)++(a.eval v).cells.toList++d.toList.drop (H*e+(a.eval v).cells.toList.length)).toArray.size=d.size:=by
    simp at T⊢;omega
   have ee:z∈g.bk:=cP.2 ⟨b,hb⟩;have s:=Step.xK (rl:=rl) ee E d _ G (0,0) hh f
   have ed:=h.sh.xK hb d _ G (0,0) hh f E (.row e (xs.set H ds))
    ⟨_,G,setRow_heap w z d _ G (0,0) hh,by rw[f,et];simp,fun x A=>by
     obtain⟨q,hq⟩:=cP.1 A;by_cases ti:H=q
     .grind
     .rw[jE ti]at hq;exact e3 x (cP.2 ⟨q,hq⟩),by simpa using ey,fun p q x y u A N hu=>by
     rw[tP,Y,ga,vb,vb]at hu;simp only[ra,Y]at hu;have e1:min (H*e) d.toList.length=H*e:=by simp;omega
     rw[e1]at hu;have t7:p<xs.length:=by have:=(bV.1 A).1;simpa using this
     have t8:q<e:=by
      grind
     have M:∀r t:Nat,r<t->r*e+e<=t*e:=fun r t ts=>by
      have:=k7 e (JC ts);rw[xf]at this;exact this
     rcases Rm p H with tw|heq|tb
     .rw[jE om]at A;have:=M p H tw;rw[if_pos om,jC om]at hu;exact(O p q x y u A N (by simpa using hu)).bj s.bD s.cell
     .subst heq;rw[jD ep]at A;cases A;rw[if_neg om,if_pos om]at hu;have:=e7 q y N
      have tg:(a.eval v).cells[q]?=some u:=by
       grind
      simp only[dJ,tg,JE]at this;exact this.bj s.bD s.cell
     .rw[jE om]at A;have:=M H p tb;rw[if_neg om,if_neg om,mE]at hu;have e2:H*e+e+(p*e+q-H*e-e)=p*e+q:=by omega
      rw[e2]at hu;exact(O p q x y u A N (by simpa using hu)).bj s.bD s.cell⟩
   exact nO hr (k _ _ g _ _ s (h.bj s ed) (.bM _) R)
  .exact l.elim
 .rename_i kk C q V;rw[V]at F;obtain⟨z,t9,he,eg⟩:=F.CR;rw[mK]at l;split at l
  rotate_left
  .exact l.elim
  rename_i n0 e t0;have em:=Hm _ _ l;clear l
  have em:∃fl,((Nat.mod (Nat.div e 10000) 10=1/\fl=false)\/(Nat.mod (Nat.div e 10000) 10=2/\fl=true))/\cellsOf (bL L.gl eo av) fun vs=>rq vs m<|sa fl vs rl fun ds rl=>match nth rl kk with
     |some (n,e')=>bI (n=C/\C=2*q+1/\e'=e)<|F4 kk m ds C bx fun bx c=>pz rl kk (c,e) fun rl=>K .bM ⟨eo,nb,bx,rl⟩
     |none=>False:=by
   rcases em with⟨h1,h2⟩|⟨h1,h2⟩
   .exact⟨false,.inl ⟨h1,rfl⟩,h2⟩
   .exact⟨true,.inr ⟨h1,rfl⟩,h2⟩
  obtain⟨fl,t1,l⟩:=em;obtain⟨vs,R,J,Z,D⟩:=k9 ei _ l;obtain⟨U,R⟩:=kQ _ _ _ R;obtain⟨w',g',ae,aa,S,s,sh,R⟩:=WN h.sh eg t0 fl t1 U J Z D (fun bx rl=>K .bM ⟨eo,nb,bx,rl⟩) R
  have hr:(execOp a.eval o).run L.P w=.ok .skip w':=by
   have I:(a.eval v).cells.size=i.size:=by rw[J,U,hm]
   simp[execOp,ho,he,Instr.storeAt,Instr.sureAddr,storeVar,sizeOf,typeInfo,hi,I,S]
  exact nO hr (k _ _ g' _ _ s (h.bj s sh) (.bM _) R)
 .exact l.elim
end
variable{e:TypeId}
theorem vQ(k:IntKind)(m:Int):eB k (k.wrap m):=by
 cases k<;>simp[eB,IntKind.wrap,IntKind.bits,IntKind.signed]<;>(try split)<;>omega
theorem ZV{a b:IntKind}{K:Prop}(h:Hk a b K):a=b/\K:=by
 cases a<;>cases b<;>first|exact⟨rfl,h⟩|exact h.elim
theorem Zx{k:IntKind}{a b:Int}(o:eB k b)(i:eB k a)(e:b≠0):eB k (Int.tmod a b):=by
 have t:∀a b:Int,b≠0->(0<=a->0<=a.tmod b/\a.tmod b<=a)/\(a<=0->a<=a.tmod b/\a.tmod b<=0):=by
  intro a b h
  have pos:∀a:Int,0<=a->0<=a.tmod b/\a.tmod b<=a:=by
   intro a e;refine⟨Int.tmod_nonneg _ e,?_⟩;rw[<-Int.natAbs_of_nonneg (Int.tmod_nonneg b e),<-Int.natAbs_of_nonneg e,Int.natAbs_tmod];exact Int.ofNat_le.2 (by simpa using Nat.mod_le _ _)
  refine⟨pos a,fun e=>?_⟩;have:=pos (-a) om;rw[Int.neg_tmod]at this;omega
 have:=t a b e;cases k<;>simp only[eB]at* <;>omega
theorem toList_mk(s:List UInt8):(ByteArray.mk s.toArray).toList=s:=by rw[ByteArray.toList_eq]
section
variable{L:Lk}{n:Nat}
theorem Ug(r:o.op=.nilCheck x)(y:cQ L x ax):jM L n o (.vI ax):=by
 intro X σ K g a w next Q h t k l;obtain⟨p,z,E,rl⟩:=σ;have e:=y.val h;simp only[cB]at t;split at t
 .rename_i b j i;rw[i]at e;obtain⟨d,s,T⟩:=e.jH;exact aW (v:=a.eval x) (by simp[execOp,r,s]) (k _ _ g _ w (Step.refl g rl w) h e t)
 .rename_i A C q i;rw[i]at e;obtain⟨d,es,s,_⟩:=e.CR;exact aW (v:=a.eval x) (by simp[execOp,r,s]) (k _ _ g _ w (Step.refl g rl w) h e t)
 .rename_i O i;rw[i]at e;have:∃u,a.eval x=.pointer (some u):=by generalize a.eval x=v at e;cases e;exact⟨_,rfl⟩
  obtain⟨u,s⟩:=this;exact aW (v:=a.eval x) (by simp[execOp,r,s]) (k _ _ g _ w (Step.refl g rl w) h e t)
 .rename_i f c i;rw[i]at e;have:∃m,a.eval x=.func (.func (L.fn f)) #[] m:=by generalize a.eval x=v at e;cases e;exact⟨_,rfl⟩
  obtain⟨m,s⟩:=this;exact aW (v:=a.eval x) (by simp[execOp,r,s]) (k _ _ g _ w (Step.refl g rl w) h e t)
 .exact t.elim
def MM:BinOp->Gt->Prop
 | .add,.add| .sub,.sub| .mul,.mul| .quo,.quo| .rem,.rem| .eql,.eql| .neq,.neq| .lss,.lss| .leq,.leq| .gtr,.gtr| .geq,.geq=>True
 |_,_=>False
theorem Fk(P:Program)(w:World)(op:BinOp)(t:TypeId)(x y:Operand)(k k':IntKind)(a b:Int):(eqGuard op t x y (.int k a) (.int k' b)).run P w=.ok () w:=by
 unfold eqGuard;split<;>simp
theorem Pr(P:Program)(w:World)(op:BinOp)(t:TypeId)(x y:Operand)(a b:ByteArray):(eqGuard op t x y (.string a) (.string b)).run P w=.ok () w:=by
 unfold eqGuard;split<;>simp
theorem Mr(P:Program)(w:World)(op:BinOp)(t:TypeId)(x y:Operand)(a b:Bool):(eqGuard op t x y (.bool a) (.bool b)).run P w=.ok () w:=by
 unfold eqGuard;split<;>simp
theorem aaJ{op:BinOp}{r:Gt}{z:TypeId}{E:IntKind}{y:Operand}{b:Arg}(T:o.op=.binOp op t x y z)(m:MM op r)(A:cQ L x ax)(O:cQ L y b):jM L n o (.eO E r ax b):=by
 intro X σ K g a w next Q h s k j;obtain⟨f,I,N,rl⟩:=σ;have l:=A.val h;have u:=O.val h;simp only[cB]at s;split at s
 .rename_i c p B q S H;rw[S]at l;rw[H]at u;obtain⟨R,D⟩:=l.fV;obtain⟨U,C⟩:=u.fV;obtain⟨rfl,e⟩:=ZV s
  .have M:=Fk L.P w op t x y c c p q
   have i:∀(v:Value)(d:DV),(binOp op t (.int c p) (.int c q)).run L.P w=.ok v w->DR g.bD w d v->K (.d d) ⟨f,I,N,rl⟩->o.wp L.P a w next Q:=by
    intro v d F Y V;exact aW (by simp[execOp,T,R,U,M,F]) (k _ _ g _ w (Step.refl g rl w) h (.d _ _ Y) V)
   cases op<;>cases r<;>simp only[MM]at m<;>simp only[l8]at e
   .exact i _ _ (by simp[binOp,Op.intArith]) (.int _ _ (vQ _ _)) e
   .exact i _ _ (by simp[binOp,Op.intArith]) (.int _ _ (vQ _ _)) e
   .exact i _ _ (by simp[binOp,Op.intArith]) (.int _ _ (vQ _ _)) e
   .exact i _ _ (by simp[binOp,Op.intDiv,e.1]) (.int _ _ (vQ _ _)) e.2
   .exact i _ _ (by simp[binOp,Op.intDiv,e.1]) (.int _ _ (Zx C D e.1)) e.2
   .exact i (.bool (p==q)) _ (by simp[binOp,Op.intCmp]) (.bool _) (by
     have:(p==q)=jf p q:=by simp[jf,BEq.beq]
     rw[this];exact e)
   .exact i (.bool (p !=q)) _ (by simp[binOp,Op.intCmp]) (.bool _) (by
     have:(p !=q)= !jf p q:=by simp[jf,bne,BEq.beq]
     rw[this];exact e)
   .exact i (.bool (p<q)) _ (by simp[binOp,Op.intCmp]) (.bool _) e
   .exact i (.bool (p<=q)) _ (by simp[binOp,Op.intCmp]) (.bool _) e
   .exact i (.bool (p>q)) _ (by simp[binOp,Op.intCmp]) (.bool _) e
   .exact i (.bool (p>=q)) _ (by simp[binOp,Op.intCmp]) (.bool _) e
 .exact s.elim
theorem aaL{op:BinOp}{i:Gt}{z:TypeId}{y:Operand}{m:Arg}(E:o.op=.binOp op t x y z)(u:MM op i)(T:cQ L x ax)(A:cQ L y m):jM L n o (.oL i ax m):=by
 intro X σ K g a w next Q h e k f;obtain⟨c,O,I,rl⟩:=σ;have s:=T.val h;have r:=A.val h;simp only[cB]at e;split at e
 .rename_i p q b j;rw[b]at s;rw[j]at r;obtain⟨N,M⟩:=s.iB;obtain⟨S,F⟩:=r.iB;have H:=Pr L.P w op t x y ⟨p.toArray⟩ ⟨q.toArray⟩
  have l:∀(v:Value)(d:DV),(Op.stringOp op ⟨p.toArray⟩ ⟨q.toArray⟩).run L.P w=.ok v w->DR g.bD w d v->K (.d d) ⟨c,O,I,rl⟩->o.wp L.P a w next Q:=by
   intro v d R D U;have C:binOp op t (.string ⟨p.toArray⟩) (.string ⟨q.toArray⟩)=Op.stringOp op ⟨p.toArray⟩ ⟨q.toArray⟩:=by cases op<;>rfl
   exact aW (by simp[execOp,E,N,S,H,C,R]) (k _ _ g _ w (Step.refl g rl w) h (.d _ _ D) U)
  cases op<;>cases i<;>simp only[MM]at u<;>simp only[LS]at e
  .refine l (.string ⟨(p++q).toArray⟩) (.str (p++q)) ?_ (.str _ (by simpa[gJ]using e.1)) e.2
   have:=run_string_add_sum (P:=L.P) w ⟨p.toArray⟩ ⟨q.toArray⟩ (by
    have b:(ByteArray.mk p.toArray).size=p.length:=by simp[ByteArray.size]
    have j:(ByteArray.mk q.toArray).size=q.length:=by simp[ByteArray.size]
    have:=e.1;omega)
   rw[this,ByteArray.mk_append_mk]
  all_goals exact l _ _ (by simp only[Op.stringOp,toList_mk];rfl) (.bool _) e
 .exact e.elim
theorem aeo(m:o.op=.unOp .not t x)(r:cQ L x ax):jM L n o (.not ax):=by
 intro X σ K g a w next Q h e k l;obtain⟨f,p,v,rl⟩:=σ;have s:=r.val h;simp only[cB]at e;split at e
 .rename_i t y;rw[y]at s;have u:=s.me;have run:(execOp a.eval o).run L.P w=.ok (.value (.bool (!t))) w:=by simp[execOp,m,u,Op.unary]
  split at e
  .rename_i i;have c:a.tmps.getD i undef=.bool t:=by cases r;exact u
   cases t with
   |true=>exact aW run (k _ _ g _ w (Step.refl g rl w) (h.vp i (.d (.bool true)) (by rw[c];exact VR.kH true)) (VR.kH _) e)
   |false=>exact aW run (k _ _ g _ w (Step.refl g rl w) (h.vp i (.d (.bool false)) (by rw[c];exact VR.kH false)) (VR.kH _) e)
  .exact aW run (k _ _ g _ w (Step.refl g rl w) h (VR.kH _) e)
 .exact e.elim
theorem aen(l:o.op=.unOp .neg t x)(u:cQ L x ax):jM L n o (.neg ax):=by
 intro X σ K g a w next Q h e k s;obtain⟨c,p,b,rl⟩:=σ;have i:=u.val h;simp only[cB]at e;split at e
 .rename_i r m f;rw[f]at i;obtain⟨y,_⟩:=i.fV;exact aW (v:=.int r (r.wrap (0-m))) (by simp[execOp,l,y,Op.unary,Op.intArith]) (k _ _ g _ w (Step.refl g rl w) h (.d _ _ (.int _ _ (vQ _ _))) e)
 .exact e.elim
theorem aaP{s:TypeId}{u:TypeDesc}{r:IntKind}(c:o.op=.convert s t x)(f:L.P.underlying s=some u)(y:L.P.underlying t=some (.int r))(p:cQ L x ax):jM L n o (.conv r ax):=by
 intro X σ K g a w next Q h e k l;obtain⟨b,z,E,rl⟩:=σ;have i:=p.val h;simp only[cB]at e;split at e
 .rename_i T m j;rw[j]at i;obtain⟨q,_⟩:=i.fV;exact aW (v:=.int r (r.wrap m)) (by simp[execOp,c,q,convert,underlying,f,y,Conv.intToInt]) (k _ _ g _ w (Step.refl g rl w) h (.d _ _ (.int _ _ (vQ _ _))) e)
 .exact e.elim
theorem WC{s:TypeId}{z:Array Field}{f:Field}{E:TypeInfo}(O:o.op=.fieldAddr s x i)(I:L.P.underlying s=some (.struct z))(N:z[i]?=some f)(p:L.P.info? f.type=some E)(v:E.size≠0)(S:cQ L x ax):jM L n o (.mT f.offset ax):=by
 intro X σ K g a w next Q h e k T;obtain⟨H,G,J,rl⟩:=σ;have t:=S.val h
 have run:∀b j,a.eval x=.pointer (some ⟨b,j,none⟩)->(execOp a.eval o).run L.P w=.ok (.value (.pointer (some ⟨b,j+f.offset,none⟩))) w:=by
  intro b j l;simp[execOp,O,l,Instr.fieldAt,underlying,I,N,Instr.sureAddr,fieldPlace,sizeOf,typeInfo,p,v,Addr.add_lit]
 simp only[cB]at e;split at e
 .rename_i b j r;rw[r]at t;obtain⟨d,l,R⟩:=t.jH;exact aW (run _ _ l) (k _ _ g _ w (Step.refl g rl w) h (.ptr b _ d R) e)
 .rename_i Z r;rw[r]at t;generalize u:a.eval x=xv at t;cases t with
  |gA _ d D c U M F=>
   obtain⟨Y,e⟩:=CO _ _ _ e;refine aW (run _ _ u) (k _ _ g _ w (Step.refl g rl w) h (.gA _ d _ (fun j=>c (f.offset+j)) (by simp;omega) (fun j V=>?_) (fun j y A=>?_)) e)
   .simp at V;rw[kJ];exact M _ om
   .rw[mE]at A;exact F _ y A
 .rename_i B C q r;rw[r]at t;obtain⟨d,es,l,m⟩:=t.CR;exact aW (run _ _ l) (k _ _ g _ w (Step.refl g rl w) h (.kn B C _ d es m) e)
 .exact e.elim
theorem U7(h:DR g.bD w (.sl xs) c){x:List DV}(s:xs[i]?=some x):
  ∃e t a,c=.slice (some ⟨e,t,none⟩) xs.length a/\VR L g rl w (.gA x) (.pointer (some ⟨e,t+i*x.length,none⟩)):=by
 have d:i<xs.length:=(bV.1 s).1;rcases lM h with⟨rfl,_⟩|⟨e,t,a,es,f,l,_,_,r,u,o,m⟩
 .simp at s
 .have n:x.length=es:=r x (cP.2 ⟨i,s⟩);have:=Ac (es:=es) d;refine⟨e,t,a,l,.gA x e _ (fun j=>f i j) (by rw[n];omega) (fun j v=>?_) (fun j y p=>m i j x y s p)⟩;rw[n,kJ];exact o i j d om
theorem wv(a:VR L g rl w v c)(K:bJ->Prop)(h:zK v K):∃xs,K xs/\DR g.bD w (.sl xs) c:=by
 cases a with
 |d v c e=>cases v<;>first|exact h.elim|exact⟨_,h,e⟩
 |aO xs t v e o=>exact⟨xs,h,e⟩
 |_=>exact h.elim
theorem Ue{I:TypeInfo}{i:Operand}{Y:Arg}(J:o.op=.indexAddr t x i)(V:L.P.underlying t=some (.slice e))(Z:L.P.info? e=some I)(hx:cQ L x ax)(hi:cQ L i Y):jM L n o (.qI I.size ax Y):=by
 intro X σ K g a w next Q h l k B;obtain⟨R,nb,bx,rl⟩:=σ;have s:=hx.val h;have r:=hi.val h
 have run:∀b z len E u m,a.eval x=.slice (some ⟨b,z,none⟩) len E->a.eval i=.int u m->0<=m->m<len->(execOp a.eval o).run L.P w=.ok (.value (.pointer (some ⟨b,z+m.toNat*I.size,none⟩))) w:=by
  intro b z len E u m T v j f;simp[execOp,J,T,v,Instr.indexAt,asIntOf,underlying,V,j,f,sizeOf,typeInfo,Z,Addr.add_lit]
 have O:∀(xs:bJ)(u:IntKind)(m:Int),DR g.bD w (.sl xs) (a.eval x)->a.eval i=.int u m->(cf xs m fun D=>(∃y,D=y)/\D.length=I.size/\K (.gA D) ⟨R,nb,bx,rl⟩)->o.wp L.P a w next Q:=by
  rintro xs u m N v ⟨y,j,f,_,S,H⟩;obtain⟨A,z,E,hc,G⟩:=U7 (L:=L) (rl:=rl) N f;have ee:=(bV.1 f).1;rw[S]at G;exact aW (run _ _ _ _ u m hc v j om) (k _ _ g _ w (Step.refl g rl w) h G H)
 simp only[cB]at l;split at l
 .rename_i xs u m T v;rw[T]at s;rw[v]at r;cases s with|d _ _ N=>
  obtain⟨y,j,f,U,C⟩:=l;exact O xs u m N r.fV.1 ⟨y,j,f,⟨y,rfl⟩,U,C⟩
 .rename_i xs tg u m T v;rw[T]at s;rw[v]at r;generalize q:a.eval x=xv at s;cases s with|aO _ _ _ N V=>
  obtain⟨y,j,f,U,C⟩:=l;exact O xs u m (q▸N) r.fV.1 ⟨y,j,f,⟨y,rfl⟩,U,C⟩
 .rename_i b len u m T v;rw[T]at s;rw[v]at r;generalize q:a.eval x=xv at s;cases s with|rC _ _ A hb et=>
  obtain⟨⟨j,f⟩,H⟩:=l;have:=run _ _ _ _ u m q r.fV.1 j f;refine aW this (k _ _ g _ w (Step.refl g rl w) h ?_ H);have:=VR.ru (L:=L) (g:=g) (rl:=rl) (w:=w) b I.size m.toNat 0 A hb;simpa using this
 .rename_i eo p xs ds zs u kd m T v;rw[T]at s;rw[v]at r;obtain⟨A,E,c,t,M,p1,p2,p3,p4,p5,p6,p7,p8,p9,ed,el,em,F⟩:=s.wQ;obtain⟨⟨j,f⟩,H⟩:=l;subst f;have:=run _ _ _ _ kd m M r.fV.1 om om;refine aW this (k _ _ g _ w (Step.refl g rl w) h ?_ H);have e1:0+m.toNat*I.size=xs.length*I.size:=by rw[j];simp
  rw[e1];exact .kn u _ _ A _ F
 .exact l.elim
end
section
variable{L:Lk}{n:Nat}
def Gs(L:Lk)(xs:Array Operand)(as:List Arg):Prop:=
 xs.size=as.length/\∀(j:Nat)(x:Operand)(a:Arg),xs[j]?=some x->as[j]?=some a->cQ L x a
theorem GL(e:Nat->List DV)(env:Env)(as:List Arg)(K:List AV->Prop)(h:qM e env as K):K (as.map (bL e env)):=by
 induction as generalizing K with
 |nil=>exact h
 |cons x r t=>simp only[qM,force_eq]at h;exact t _ h
theorem abu{α:Type}(xs ys:List α)(K:List α->Prop)(h:Br xs ys K):K (xs++ys):=by
 induction xs generalizing K with
 |nil=>exact h
 |cons x r e=>exact e _ h
theorem Gs.aeD{xs:Array Operand}{as:List Arg}(h:Gs L xs as){σ:St}(s:dx L n g σ a w):
  (xs.map a.eval).size=(as.map (bL L.gl σ.env)).length/\∀(j:Nat)(x:AV)(y:Value),(as.map (bL L.gl σ.env))[j]?=some x->(xs.map a.eval)[j]?=some y->VR L g σ.rl w x y:=by
 refine⟨by simp[h.1],fun j x y t o=>?_⟩;rw[jU]at t;rw[Array.getElem?_map]at o;cases i:as[j]? with
 |none=>rw[i]at t;cases t
 |some ax=>
  cases e:xs[j]? with
  |none=>rw[e]at o;cases o
  |some r=>
   rw[i]at t;rw[e]at o;cases t;cases o;exact(h.2 j r ax e i).val s
def ij(L:Lk)(f:Nat):Prop:=∀e w,(callFunc (L.fn f) e).run L.P w=.ok (.enter (L.fn f) e) w
theorem aaO{xs:Array Operand}{p:Array TypeId}{as:List Arg}(b:o.op=.call {callee:=.value (.func (L.fn f)),args:=xs,argTypes:=p})(j:ij L f)(q:Gs L xs as):jM L n o (.call f as):=by
 intro X σ K g a w next Q h t k i;obtain⟨x,nb,bx,rl⟩:=σ;have t:=GL _ _ _ _ t;obtain⟨m,y⟩:=q.aeD h
 have z:(execOp a.eval o).run L.P w=.ok (.enter (L.fn f) (xs.map a.eval)) w:=by
  simp[execOp,b,resolve,Deferred.ofValue,Act.eval,invoke];exact j _ w
 unfold Oper.wp;rw[z,Oper.upon_enter];rcases t.call h.sh.nb with⟨v,E,T,A,r,O⟩|⟨I,N,d⟩
 .refine(r g w _ h.sh m y).mono ?_;rintro e l ⟨D,S,rfl,s,u,c⟩;exact k _ _ S _ l s (h.bj s u) c O
 .refine(d g w _ h.sh m y).mono ?_;rintro e l ⟨H,rfl,R⟩;exact i I N H l R
theorem VR.IG(h:VR L g rl w v c)(e:R6 v=true):VR L ⟨[],g.bD,[],fun _=> .out⟩ [] w v c:=by
 cases h with
 |oH t v y h=>
  refine .oH t v y ?_;cases h with
  |d v c h=>exact .d _ _ h
  |agg o i n s=>
   refine .agg o i n fun j x y a r=>?_
   have l:=s j x y a r;have u:=kI.1 e x (cP.2 ⟨j,a⟩);cases l with
   |d v c h=>exact .d _ _ h
   |_=>cases u
  |_=>cases e
 |_=>cases e
theorem sQ.refl(h:aY L g nb bx rl w):sQ g w g.bD w:=
 ⟨rfl,rfl,rfl,aQ _,fun _=>aQ _,fun _ _ _=>rfl,fun _ _=>rfl,fun _ _ _ _=>rfl,fun _ _ _ _=>rfl,h.fresh⟩
theorem WE(f:o.op=.panic x)(p:cQ L x ax):jM L n o (.panic ax):=by
 intro X σ K g a w next Q h s k r;obtain⟨d,nb,bx,rl⟩:=σ;simp only[cB,force_eq]at s;obtain⟨b,j,v,m,l,i⟩:=s.pan si;have e:=p.val h;simp only[List.cons.injEq,and_true]at m;subst m;generalize q:a.eval x=c at e;change VR L g rl w (bL L.gl d ax) c at e;have u:=e.IG i;generalize bL L.gl d ax=v at e l i u;cases e with
 |oH t v y E=>
  have z:(execOp a.eval o).run L.P w=.halt (.panic (.iface (L.tn t) y)) w:=by
   simp[execOp,f,q]
   first|rfl|skip
  unfold Oper.wp;rw[z,Oper.upon_panic];exact r b j _ _ ⟨_,_,_,rfl,l,i,sQ.refl h.sh,u⟩
 |_=>cases i
theorem WA{xs:Array Operand}{D:Array TypeId}{as:List Arg}(U:o.op=.call {callee:=.value x,args:=xs,argTypes:=D})(C:∀f,ij L f)(M:cQ L x ax)(p:Gs L xs as):jM L n o (.oB ax as):=by
 intro X σ K g a w next Q h t k l;obtain⟨b,nb,bx,rl⟩:=σ;have r:=M.val h;simp only[cB]at t;split at t
 .rename_i f u q;rw[q]at r;have t:=abu _ _ _ (GL _ _ _ _ t);obtain⟨z,F⟩:=p.aeD h;generalize c:a.eval x=xv at r;cases r with
  |fn _ _ E R T=>
  have Y:(execOp a.eval o).run L.P w=.ok (.enter (L.fn f) (xs.map a.eval++E)) w:=by
   simp[execOp,U,resolve,c,Deferred.ofValue,invoke,C f (xs.map a.eval++E)]
  unfold Oper.wp;rw[Y,Oper.upon_enter]
  have i:∀(j:Nat)(x:AV)(y:Value),(as.map (bL L.gl b)++u)[j]?=some x->(xs.map a.eval++E)[j]?=some y->VR L g rl w x y:=fun j x y m d=>by
   rw[vb]at m;rw[HR]at d;simp only[z]at d;split at m
   .rename_i A;rw[if_pos A]at d;exact F j x y m d
   .rename_i A;rw[if_neg A]at d;exact T _ x y m d
  rcases t.call h.sh.nb with⟨v,V,B,G,O,J⟩|⟨Z,hX,I⟩
  .refine(O g w _ h.sh (by simp[z,R]) i).mono ?_;rintro e N ⟨cv,g',rfl,s,S,H⟩;exact k _ _ g' _ N s (h.bj s S) H J
  .refine(I g w _ h.sh (by simp[z,R]) i).mono ?_;rintro e N ⟨ch,rfl,hp⟩;exact l Z hX ch N hp
 .exact t.elim
theorem aaZ{cs:Array Operand}{as:List Arg}(i:o.op=.makeFunc (.func (L.fn f)) #[] cs)(s:Gs L cs as):jM L n o (.uw f as):=by
 intro X σ K g a w next Q h e k t;obtain⟨r,nb,bx,rl⟩:=σ;have d:=GL _ _ _ _ e;obtain⟨l,u⟩:=s.aeD h;exact aW (v:=.func (.func (L.fn f)) #[] (cs.map a.eval)) (by simp[execOp,i,Instr.makeFunc]) (k _ _ g _ w (Step.refl g rl w) h (.fn f _ _ l u) d)
theorem ael(f:o.op=.extract x i)(y:cQ L x ax):jM L n o (.ext ax i):=by
 intro X σ K g a w next Q h e k u;obtain⟨p,nb,bx,rl⟩:=σ;have t:=y.val h;simp only[cB]at e;split at e
 .rename_i j r;rw[r]at t;generalize s:a.eval x=q at t;cases t with
  |b6 _ c b d=>
  split at e
  .rename_i v l;rw[mK]at l;rw[force_eq]at e;have m:i<c.size:=by rw[b];exact(bV.1 l).1
   refine aW (v:=c[i]) (by simp[execOp,f,s,Instr.extract,m]) (k _ _ g _ w (Step.refl g rl w) h (d i v _ l (dZ m)) e)
  .exact e.elim
 .exact e.elim
theorem FV{P:Program}(e:o.op=.call {callee:=.builtin .len,args:=#[x],argTypes:=#[t]}):
  (execOp a.eval o).run P w=((Builtin.len_ #[t] o.type #[a.eval x]).run P w).andThen fun v i=> .ok (.value v) i:=by
 unfold execOp;rw[e];simp only[resolve,Sem.run_bind,Sem.run_pure,Result.andThen_ok,invoke,builtin,Gl,sG,AK]
theorem yH(h:m<=gJ):eB .i64 (m:Int):=by unfold gJ at h;simp only[eB];omega
theorem aaX(c:o.op=.call {callee:=.builtin .len,args:=#[x],argTypes:=#[t]})(m:L.P.underlying t=some .string)(f:cQ L x ax):jM L n o (.xD ax):=by
 intro X σ K g a w next Q h e k l;obtain⟨y,nb,bx,rl⟩:=σ;have i:=f.val h;simp only[cB]at e;split at e
 .rename_i s r;rw[r]at i;obtain⟨p,u⟩:=i.iB;refine aW (v:=.int .i64 s.length) ?_ (k _ _ g _ w (Step.refl g rl w) h (.d _ _ (.int _ _ (yH u))) (e u));rw[FV c];simp[Builtin.len_,p,underlying,m,goInt];simp[ByteArray.size]
 .exact e.elim
theorem aaW(H:o.op=.call {callee:=.builtin .len,args:=#[x],argTypes:=#[t]})(A:L.P.underlying t=some (.slice e))(R:cQ L x ax):jM L n o (.pj ax):=by
 intro X σ K g a w next Q h s k O;obtain⟨j,nb,bx,rl⟩:=σ;have i:=R.val h
 have run:∀b m c,a.eval x=.slice b m c->(execOp a.eval o).run L.P w=.ok (.value (.int .i64 m)) w:=by
  intro b m c D;rw[FV H];simp[Builtin.len_,D,underlying,A,goInt]
 have u:∀(xs:bJ),DR g.bD w (.sl xs) (a.eval x)->(xs.length<=140737488355328->K (.d (.int .i64 xs.length)) ⟨j,nb,bx,rl⟩)->o.wp L.P a w next Q:=by
  intro xs y I;rcases lM y with⟨rfl,F,q⟩|⟨v,U,z,es,f,q,E,_⟩
  .exact aW (run _ _ _ q) (k _ _ g _ w (Step.refl g rl w) h (.d _ _ (.int _ _ (yH (cr _)))) (I (cr _)))
  .exact aW (run _ _ _ q) (k _ _ g _ w (Step.refl g rl w) h (.d _ _ (.int _ _ (yH E))) (I E))
 simp only[cB]at s;split at s
 .rename_i xs r;rw[r]at i;cases i with|d _ _ y=>exact u xs y s
 .rename_i xs Y r;rw[r]at i;generalize l:a.eval x=C at i;cases i with|aO _ _ _ y A=>exact u xs (l▸y) s
 .rename_i b m r;rw[r]at i;generalize l:a.eval x=C at i;cases i with|rC _ _ v E N=>
  exact aW (run _ _ _ l) (k _ _ g _ w (Step.refl g rl w) h (.d _ _ (.int _ _ (yH N))) (s N))
 .rename_i M p xs ds zs V r;rw[r]at i;obtain⟨v,z,c,t,T,S,_⟩:=i.wQ;exact aW (run _ _ _ T) (k _ _ g _ w (Step.refl g rl w) h (.d _ _ (.int _ _ (yH S))) (by simpa using s S))
 .exact s.elim
theorem aaV{i:Operand}{c:Arg}(p:o.op=.index t x i)(j:L.P.underlying t=some .string)(q:cQ L x ax)(hi:cQ L i c):jM L n o (.Fz ax c):=by
 intro X σ K g a w next Q h e k f;obtain⟨z,nb,bx,rl⟩:=σ;have r:=q.val h;have l:=hi.val h;simp only[cB]at e;split at e
 .rename_i s R m E T;rw[E]at r;rw[T]at l;obtain⟨A,D⟩:=r.iB;obtain⟨O,_⟩:=l.fV;obtain⟨b,I,y,N⟩:=e;refine aW (v:=.int .u8 b.toNat) ?_ (k _ _ g _ w (Step.refl g rl w) h (.d _ _ (.int _ _ ?_)) N)
  .have u:=(bV.1 y).1
   have S:(ByteArray.mk s.toArray)[m.toNat]?=some b:=by
    have:m.toNat<(ByteArray.mk s.toArray).size:=by simpa[ByteArray.size]using u
    rw[getElem?_pos (ByteArray.mk s.toArray) m.toNat this];obtain⟨_,H⟩:=bV.1 y;exact congrArg some H
   simp[execOp,p,A,O,Instr.index,asIntOf,underlying,j,I,S]
  .have:=b.toNat_lt;simp only[eB];omega
 .exact e.elim
theorem CD{L:Lk}{n:Nat}{σ:St}(i:dx L n g σ a w){x:Option Operand}{ax:Option Arg}(s:(x=none/\ax=none)\/∃y e,x=some y/\ax=some e/\cQ L y e)(d:Int)(K:Int->Prop)(h:vx (bL L.gl σ.env) ax d K):
  ∃m,K m/\((x=none/\m=d)\/∃y t,x=some y/\a.eval y=.int t m):=by
 rcases s with⟨rfl,rfl⟩|⟨y,e,rfl,rfl,r⟩
 .exact⟨d,h,.inl ⟨rfl,rfl⟩⟩
 .have o:=r.val i;simp only[vx]at h;split at h
  .rename_i t m l;rw[l]at o;exact⟨m,h,.inr ⟨y,t,rfl,o.fV.1⟩⟩
  .exact h.elim
def RE(L:Lk)(x:Option Operand)(ax:Option Arg):Prop:=(x=none/\ax=none)\/∃y e,x=some y/\ax=some e/\cQ L y e
theorem ry{P:Program}{ev:Operand->Value}{lo hi:Option Operand}{l h:Int}{len cap:Nat}(o:Bool)(u:(lo=none/\l=0)\/∃y e,lo=some y/\ev y=.int e l)(f:(hi=none/\h=len)\/∃y e,hi=some y/\ev y=.int e h)(t:0<=l)(i:l<=h)(n:h<=cap):(Instr.sliceBounds o len cap (lo.map ev) (hi.map ev) none).run P w=.ok (l.toNat,h.toNat,cap) w:=by
 have a:∀(e:IntKind)(m:Int)(y:Nat)(c:BoundsCode),0<=m->m<=y->(Instr.sliceBound (.int e m) y c).run P w=.ok m.toNat w:=by
  intro e m y c t i;simp[Instr.sliceBound,asIntOf,t,i]
 rcases u with⟨rfl,rfl⟩|⟨y,e,rfl,s⟩<;>rcases f with⟨rfl,rfl⟩|⟨z,r,rfl,d⟩
 .simp[Instr.sliceBounds]
 .simp[Instr.sliceBounds,d,a r h cap _ om n]
 .simp[Instr.sliceBounds,s,a e l len _ t om]
 .simp[Instr.sliceBounds,s,d,a r h cap _ om n,a e l h.toNat _ t om]
theorem aaT{lo hi:Option Operand}{b j:Option Arg}(z:o.op=.slice t x lo hi none)(E:L.P.underlying t=some .string)(T:cQ L x ax)(u:RE L lo b)(c:RE L hi j):jM L n o (.gR ax b j):=by
 intro X σ K g a w next Q h i k q;obtain⟨A,nb,bx,rl⟩:=σ;have r:=T.val h;simp only[cB]at i;split at i
 .rename_i s O;rw[O]at r;obtain⟨I,U⟩:=r.iB;obtain⟨l,i,N⟩:=CD h u _ _ i;obtain⟨m,i,f⟩:=CD h c _ _ i;obtain⟨⟨S,H,R⟩,D⟩:=i;have y:(ByteArray.mk s.toArray).size=s.length:=by simp[ByteArray.size]
  have p:=ry (P:=L.P) (w:=w) (ev:=a.eval) (len:=s.length) (cap:=s.length) false N f S H R;refine aW (v:=.string ⟨((s.take m.toNat).drop l.toNat).toArray⟩) ?_ (k _ _ g _ w (Step.refl g rl w) h (.d _ _ (.str _ ?_)) D)
  .have e:(ByteArray.mk s.toArray).extract l.toNat m.toNat=⟨((s.take m.toNat).drop l.toNat).toArray⟩:=by
    apply ByteArray.ext;simp[List.drop_take]
   simp only[execOp,z,Instr.sliceAt,underlying,Sem.run_bind,run_program,Result.andThen_ok,E,Sem.run_pure,I,Instr.slice,Gn,y,p,e,JB,jT,if_false]
  .simp;omega
 .exact i.elim
end
structure sP(P:Program)(w:World)(u:TypeId)(yv:Value)(sz m:Nat)(G:List Value):Prop where
 ty:∃d,P.underlying u=some d/\∀k,d≠.int k
 len:∀w',(Builtin.lenOf yv).run P w'=.ok m w'
 here:(Builtin.firstCells sz m yv).run P w=.ok G.toArray w
 drew:(Builtin.firstCells sz m yv).run P w.drew=.ok G.toArray w.drew
theorem Ar{P:Program}{w:World}{d:TypeDesc}(e:∀k,d≠.int k):(match d with| .int _=>true|_=>false)=false:=by
 cases d<;>first|rfl|exact absurd rfl (e _)
theorem oA(P:Program)(w:World)(t u ty e:TypeId)(i:TypeInfo)(z:Value)(r:P.underlying t=some (.slice e))(hi:P.info? e=some i)(l:i.zero=some z)(h:Value)(m:Nat)(G:List Value)(n:sP P w u h i.size m G)(c:0<m)(f:(m:Int)<=9223372036854775807)(y:m*i.bytes<=281474976710656):
  (Builtin.append_ #[t,u] ty #[.slice none 0 0,h]).run P w=
   .ok (.slice (some ⟨w.heap.size,0,none⟩) m (grownCap w m 0 e)) (w.drew.alloc (.cells (G.toArray++Builtin.zeroCells z.cells (grownCap w m 0 e-m)) e)):=by
 obtain⟨⟨d,p,v⟩,b,j,g⟩:=n;have k:m≠0:=by omega
 have a:¬(9223372036854775807<(m:Int)):=by omega
 have o:¬(281474976710656<Builtin.nextslicecap m 0*i.bytes):=by rw[nextslicecap_zero c];omega
 have s:=Ar (P:=P) (w:=w) v;simp[Builtin.append_,run_underlying r,run_underlying p,b,sizeOf,typeInfo,zeroValue,hi,l,k,a,o,Question.forced,run_firstCells_none,g,newRow,grownCap]
theorem lA(P:Program)(w:World)(t u ty e:TypeId)(i:TypeInfo)(z:Value)(g:P.underlying t=some (.slice e))(hi:P.info? e=some i)(k:i.zero=some z)(b:Addr)(a o:Nat)(n:List Value)(r:n.length=a*i.size)(holds:∀j v,n[j]?=some v->w.cell? (b.add j)=some v)(y:Value)(m:Nat)(G:List Value)(l:sP P w u y i.size m G)(I:o<a+m)(q:((a+m:Nat):Int)<=9223372036854775807)(p:Builtin.nextslicecap (a+m) o*i.bytes<=281474976710656):
  (Builtin.append_ #[t,u] ty #[.slice (some b) a o,y]).run P w=
   .ok (.slice (some ⟨w.heap.size,0,none⟩) (a+m) (grownCap w (a+m) o e))
    (w.drew.alloc (.cells (n.toArray++G.toArray++Builtin.zeroCells z.cells (grownCap w (a+m) o e-(a+m))) e)):=by
 obtain⟨⟨d,x,E⟩,T,N,A⟩:=l;have O:¬(a+m<=o):=by omega
 have s:¬(9223372036854775807<((a:Int)+(m:Int))):=by omega
 have h:¬(281474976710656<Builtin.nextslicecap (a+m) o*i.bytes):=by omega
 have c:=run_firstCells_some (P:=P) w.drew i.size a b a o n r (by simpa using holds);have f:=Ar (P:=P) (w:=w) E;simp[Builtin.append_,run_underlying g,run_underlying x,T,sizeOf,typeInfo,zeroValue,hi,k,O,s,h,Question.forced,c,A,newRow,grownCap];congr 2;apply nD;simp
theorem sf(P:Program)(w:World)(t u ty e:TypeId)(i:TypeInfo)(b:P.underlying t=some (.slice e))(hi:P.info? e=some i)(g a o:Nat)(n:Array Value)(p:TypeId)(l:Nat×Nat)(c:l.2<=a*i.size)(k:w.heap[g]?=some (.cells n p l))(v:Value)(m:Nat)(G:List Value)(f:sP P w u v i.size m G)(j:∀u∈G,u.oneCell'=true)(s:a+m<=o)(h:a*i.size+G.length<=n.size):
  (Builtin.append_ #[t,u] ty #[.slice (some ⟨g,0,none⟩) a o,v]).run P w=
   .ok (.slice (some ⟨g,0,none⟩) (a+m) o) (w.setRow g (n.toList.take (a*i.size)++G++n.toList.drop (a*i.size+G.length)).toArray):=by
 obtain⟨⟨d,q,x⟩,z,E,T⟩:=f;have r:=n8 (P:=P) g (a*i.size) p l c G 0 n w k (by simpa using h) j;simp only[iU]at r;have y:=Ar (P:=P) (w:=w) x;simp[Builtin.append_,run_underlying b,run_underlying q,z,sizeOf,typeInfo,hi,s,E,Addr.add_lit,r]
theorem mr(P:Program)(w:World)(t u ty e:TypeId)(i:TypeInfo)(l:P.underlying t=some (.slice e))(hi:P.info? e=some i)(b:Option Addr)(a o:Nat)(n:a<=o)(r:Value)(s:sP P w u r i.size 0 []):(Builtin.append_ #[t,u] ty #[.slice b a o,r]).run P w=.ok (.slice b a o) w:=by
 obtain⟨⟨d,c,m⟩,f,y,p⟩:=s;have h:=Ar (P:=P) (w:=w) m;cases b<;>simp[Builtin.append_,run_underlying l,run_underlying c,f,sizeOf,typeInfo,hi,n,y,storeCells]
def Gh.row(g:Gh)(b n:Nat)(e:YL):Gh:={bk:=g.bk,bD:=fun x=>if x=b then n else g.bD x,rw:=e,par:=g.par}
theorem Step.TZ(o:Obj)(n:Nat)(t:YL)(d:∀b,w.heap.size<=b->g.bD b=0)(a:∀(k n e:Nat),rl[k]?=some (n,e)->∃r,bz[k]?=some (r,e)/\n<=r/\(r=n->t[k]?=g.rw[k]?))(s:∀b,some b∈t->some b∈g.rw\/w.heap.size<=b):
  Step g rl w (g.row w.heap.size n t) bz (w.drew.alloc o) where
 os:=rfl
 tape:=rfl
 output:=rfl
 size:=by simp
 bD b:=by
  simp only[Gh.row];split
  .rename_i h;rw[d b om];exact cr _
  .exact aQ _
 cell b y l:=by
  by_cases u:b<w.heap.size
  .exact yn (w:=w.drew) o u
  .rw[d b om]at l;omega
 bk i b h:=h
 row k n e h:=by obtain⟨r,c,m,f⟩:=a k n e h;exact .of c m f
 shape b h:=vJ (w:=w.drew) o h
 jz b h:=.inl h
 jA:=s
 frame b h _ _:=heap_alloc_old w.drew o b h
 lb b h _ _:=by simp only[Gh.row];rw[if_neg om]
 oi _ _ _ _:=.refl _
theorem aY.TZ{L:Lk}(h:aY L g nb bx rl w){arr:Array Value}{n e:Nat}{o:YL}(s:Step g rl w (g.row w.heap.size (n*gw e) o) bz (w.drew.alloc (.cells arr t)))(q:o.length=bz.length)(z:e<10000)(S:0<gw e)(O:0<n)(I:e=1000->t=L.u8)(H:n*gw e<=arr.size)(A:bz[k]?=some (n,e)/\o[k]?=some (some w.heap.size))(a:∀j,j≠k->bz[j]?=rl[j]?/\o[j]?=g.rw[j]?):aY L (g.row w.heap.size (n*gw e) o) nb bx bz (w.drew.alloc (.cells arr t)):=by
 have l:∀b,b<w.heap.size->(w.drew.alloc (.cells arr t)).heap[b]?=w.heap[b]?:=fun b v=>heap_alloc_old w.drew _ b v
 have E:∀(j b:Nat),g.rw[j]?=some (some b)->b<w.heap.size:=fun j b d=>(h.tH (cP.2 ⟨j,d⟩)).1
 refine⟨h.nb,h.kt,?_,h.inj,q,?_,?_,?_,fun i=>(h.jd i).bj s,h.par.bj s rfl (fun c R=>?_) fun c _ arr t r=>⟨arr,t,by rw[l c (lt_of_heap r)];exact r⟩⟩
 rotate_right
 .simp only[Gh.row];rw[if_neg fun e:c=w.heap.size=>R (h.par.fresh c om)]
 .intro i x u D v;obtain⟨r,y⟩:=h.box i x u D v;have U:=h.qf (cP.2 ⟨i,v⟩);refine⟨fun C=>?_,y.bj s (l u U)⟩;simp only[Gh.row];rw[if_neg om];exact r C
 .intro j m f d;by_cases T:j=k
  .subst T;rw[A.1]at d;cases d;refine⟨S,.inr ⟨w.heap.size,arr,t,(0,0),A.2,heap_alloc_new w.drew _,by rw[vB z];simp[Gh.row],by rw[vB z];exact H,fun M=>?_,cr _,O,I,⟨fun _=>h.par.fresh _ (aQ _),fun r=>by omega⟩,fun r=>by omega⟩⟩;have:=h.qf M;omega
  .obtain⟨F,N⟩:=a j T;rw[F]at d;obtain⟨Y,r⟩:=h.row j m f d;refine⟨Y,?_⟩;show(o[j]?=some none/\m=0)\/_;rcases r with r|⟨u,P,V,B,r,y,G,K,J,Q⟩
   .exact .inl ⟨by rw[N];exact r.1,r.2⟩
   .refine .inr ⟨u,P,V,B,by show o[j]?=_;rw[N];exact r,by rw[l u (lt_of_heap y)];exact y,?_,K,J,Q⟩;have:=lt_of_heap y;simp only[Gh.row];rw[if_neg om];exact G
 .intro i j b p d;have p:o[i]?=some (some b):=p;have d:o[j]?=some (some b):=d;by_cases r:i=k<;>by_cases y:j=k
  .omega
  .subst r;rw[A.2]at p;cases p;rw[(a j y).2]at d;have:=E j _ d;omega
  .subst y;rw[A.2]at d;cases d;rw[(a i r).2]at p;have:=E i _ p;omega
  .rw[(a i r).2]at p;rw[(a j y).2]at d;exact h.jI i j b p d
 .intro b v;simp at v;simp only[Gh.row];rw[if_neg om];exact h.fresh b om
theorem Step.qK(e:Nat)(a:g.rw.length=rl.length):Step g rl w {g with rw:=g.rw++[none]} (rl++[(0,e)]) w where
 os:=rfl
 tape:=rfl
 output:=rfl
 size:=aQ _
 bD b:=aQ _
 cell b o h:=rfl
 bk i b h:=h
 row k n s h:=by
  have t:=(bV.1 h).1;refine .of (by rw[gL t];exact h) (aQ _) fun _=>?_
  show(g.rw++[none])[k]?=_;rw[gL om]
 shape b h:=rfl
 jz b h:=.inl h
 jA b h:=by
  have h:some b∈g.rw++[none]:=h;simp at h;exact .inl h
 frame b _ _ _:=rfl
 lb _ _ _ _:=rfl
 oi _ _ _ _:=.refl _
theorem aY.qK{L:Lk}{g:Gh}{nb:Nat}{bx:List Bx}{rl:bm}{w:World}(h:aY L g nb bx rl w)(e:Nat)(p:0<gw e):aY L {g with rw:=g.rw++[none]} nb bx (rl++[(0,e)]) w:=by
 have s:=Step.qK (w:=w) e h.jv
 have d:∀(j b:Nat),(g.rw++[none])[j]?=some (some b)->g.rw[j]?=some (some b):=by
  intro j b o;rw[vb]at o;split at o
  .exact o
  .have:=(bV.1 o).1;simp at this;simp[this]at o
 refine⟨h.nb,h.kt,fun i x a m f=>⟨(h.box i x a m f).1,(h.box i x a m f).2.bj s rfl⟩,h.inj,by simp[h.jv],?_,fun i j b v o=>h.jI i j b (d _ _ v) (d _ _ o),h.fresh,fun i=>(h.jd i).bj s,h.par.bj s rfl (fun _ _=>rfl) fun _ _ l t q=>⟨l,t,q⟩⟩;intro k n y r;show 0<gw y/\(((g.rw++[none])[k]?=some none/\n=0)\/∃a l t z,(g.rw++[none])[k]?=some (some a)/\_);rw[vb]at r;split at r
 .rename_i u;rw[gL (by rw[h.jv];exact u)];exact h.row k n y r
 .have:=(bV.1 r).1;simp at this;have c:k=rl.length:=by omega
  subst c;simp at r;obtain⟨rfl,rfl⟩:=r;exact⟨p,.inl ⟨by rw[<-h.jv];simp,rfl⟩⟩
theorem Step.LB{n:Nat}(f:some b∈g.rw)(ia cs:Array Value)(t:TypeId)(u:Nat×Nat)(c:w.heap[b]?=some (.cells ia t u))(y:cs.size=ia.size)(p:g.bD b<=n)(r:∀o,o<g.bD b->cs[o]?=ia[o]?)(d:∀(k n e:Nat),rl[k]?=some (n,e)->∃m,bz[k]?=some (m,e)/\n<=m):
  Step g rl w (g.row b n g.rw) bz (w.setRow b cs) where
 os:=rfl
 tape:=rfl
 output:=rfl
 size:=by simp
 bD x:=by
  simp only[Gh.row];split
  .rename_i h;subst h;exact p
  .exact aQ _
 cell s o v:=by
  by_cases h:s=b
  .subst h;rw[cell_setRow_same w s o ia cs t u c,cell_of_row w s o ia t u c,r o v]
  .exact World.cell?_of_block (a:=⟨s,o,none⟩) (setRow_other w b s cs h)
 bk i b h:=h
 row k n e h:=by
  obtain⟨m,l,j⟩:=d k n e h;exact .of l j fun _=>rfl
 shape s q:=by
  by_cases h:s=b
  .subst h;simp only[World.shape?,setRow_heap w s ia cs t u c,c,y]
  .simp only[World.shape?,setRow_other w b s cs h]
 jz b h:=.inl h
 jA b h:=.inl h
 frame s _ _ l:=setRow_other w b s cs (fun h=>l (h▸f))
 lb s _ _ l:=by
  simp only[Gh.row];rw[if_neg (fun h:s=b=>l (h▸f))]
 oi _ _ _ _:=.refl _
theorem aY.LB{L:Lk}(h:aY L g nb bx rl w){n e:Nat}{ia cs:Array Value}{p:Nat×Nat}(U:w.heap[b]?=some (.cells ia t p))(O:p.2<=n*gw e)(u:e<10000)(r:g.par b=.out)(s:Step g rl w (g.row b (n*gw e) g.rw) bz (w.setRow b cs))(v:bz.length=rl.length)(C:0<gw e)(I:0<n)(N:e=1000->t=L.u8)(M:n*gw e<=cs.size)(E:bz[k]?=some (n,e)/\g.rw[k]?=some (some b))(l:∀j,j≠k->bz[j]?=rl[j]?):aY L (g.row b (n*gw e) g.rw) nb bx bz (w.setRow b cs):=by
 have q:=h.tH (cP.2 ⟨k,E.2⟩);refine⟨h.nb,h.kt,?_,h.inj,by rw[v];exact h.jv,?_,h.jI,?_,fun i=>(h.jd i).bj s,h.par.bj s rfl (fun c S=>?_) fun c S H t o=>⟨H,t,by rw[setRow_other w b c cs (fun e=>S (e▸r))];exact o⟩⟩
 rotate_right
 .simp only[Gh.row];rw[if_neg fun e:c=b=>S (e▸r)]
 .intro i x a T D;obtain⟨o,R⟩:=h.box i x a T D;have z:a∈g.bk:=cP.2 ⟨i,D⟩;have d:a≠b:=fun e=>q.2 (e▸z)
  refine⟨fun F=>?_,R.bj s (setRow_other w b a cs d)⟩;simp only[Gh.row];rw[if_neg d];exact o F
 .intro j m f A;by_cases y:j=k
  .subst y;rw[E.1]at A;cases A;exact⟨C,.inr ⟨b,cs,t,p,E.2,setRow_heap w b ia cs t p U,by rw[vB u];simp[Gh.row],by rw[vB u];exact M,q.2,by rw[vB u];exact O,I,N,⟨fun _=>r,fun o=>by omega⟩,fun o=>by omega⟩⟩
  .rw[l j y]at A;obtain⟨Y,o⟩:=h.row j m f A;refine⟨Y,?_⟩;rcases o with o|⟨a,P,V,p,o,R,B,G,K,J⟩
   .exact .inl o
   .have d:a≠b:=fun e=>y (h.jI j k b (e▸o) E.2)
    refine .inr ⟨a,P,V,p,o,by rw[setRow_other w b a cs d];exact R,?_,G,K,J⟩;simp only[Gh.row];rw[if_neg d];exact B
 .intro x T;simp at T;simp only[Gh.row];rw[if_neg om];exact h.fresh x T
section
variable{L:Lk}{n:Nat}
theorem kS{P:Program}{y:Operand}{u:TypeId}(e:o.op=.call {callee:=.builtin .append,args:=#[x,y],argTypes:=#[t,u]}):
  (execOp a.eval o).run P w=((Builtin.append_ #[t,u] o.type #[a.eval x,a.eval y]).run P w).andThen fun v i=> .ok (.value v) i:=by
 unfold execOp;rw[e];simp only[resolve,Sem.run_bind,Sem.run_pure,Result.andThen_ok,invoke,builtin,Gl,sG,AK]
theorem B7{α:Type}(l:List α):DK l=l.length:=by induction l with|nil=>rfl|cons x r e=>simp[DK,e]
theorem ND{ys:bJ}{e sJ:Nat}{z:Value}{F G:List Value}(E:z.cells.size=es)(T:∀x,x∈xs->x.length=es)(A:∀x,x∈ys->x.length=es)(d:F.length=xs.length*es)(v:G.length=ys.length*es)(l:∀i j x y,xs[i]?=some x->x[j]?=some y->∃u,F[i*es+j]?=some u/\DR g.bD w y u)(c:∀i j x y,ys[i]?=some x->x[j]?=some y->∃u,G[i*es+j]?=some u/\DR g.bD w y u)(k:xs.length+ys.length<=gJ)(n:∀b,w.heap.size<=b->g.bD b=0)(s:YL)(cap:Nat)(r:cap=grownCap w (xs.length+ys.length) sJ e):
  let t:=F.toArray++G.toArray++Builtin.zeroCells z.cells (cap-(xs.length+ys.length))
  t.size=cap*es/\xs.length+ys.length<=cap/\
  DR (g.row w.heap.size ((xs.length+ys.length)*es) s).bD (w.drew.alloc (.cells t e)) (.sl (xs++ys)) (.slice (some ⟨w.heap.size,0,none⟩) (xs.length+ys.length) cap):=by
 intro t;have m:xs.length+ys.length<=cap:=r▸grownCap_ge w _ _ _
 have a:t.size=cap*es:=by
  simp only[t,Array.size_append,List.size_toArray,d,v,size_zeroCells,E];rw[<-jb,<-jb];congr 1;omega
 refine⟨a,m,?_⟩;have O:(xs++ys).length=xs.length+ys.length:=by simp
 have:=nN (mk:=(g.row w.heap.size ((xs.length+ys.length)*es) s).bD) (w:=w.drew.alloc (.cells t e)) (xs:=xs++ys) (aw:=w.heap.size) (off:=0) (cap:=cap) (es:=es) (F:=F++G)
  om om (fun x f=>(nA.1 f).elim (T x) (A x))
  (by simp[Gh.row]) (by simp[d,v,jb]) (fun j u q=>by
   rw[cell_of_row _ w.heap.size _ t e (0,0) (heap_alloc_new w.drew _)];have p:=(bV.1 q).1;simp only[t,dK];rw[Mj (by simpa using p)];have:(F.toArray++G.toArray)=(F++G).toArray:=by simp
   rw[this];simpa using q)
  (zP d l c fun y u I=>I.bj (fun b=>by
   simp only[Gh.row];split
   .rename_i h;rw[n b om];exact cr _
   .exact aQ _) (fun b o N=>by
   by_cases S:b<w.heap.size
   .exact yn (w:=w.drew) _ S
   .rw[n b om]at N;omega))
 rw[O]at this;exact this
theorem GI{y:Operand}{u:TypeId}{i:TypeInfo}{z:Value}(ho:o.op=.call {callee:=.builtin .append,args:=#[x,y],argTypes:=#[t,u]})(J:L.P.underlying t=some (.slice e))(hi:L.P.info? e=some i)(hz:i.zero=some z)(a4:z.cells.size=i.size)(o5:0<i.size)(a5:0<i.bytes)(hx:cQ L x ax){key:Nat}(ao:key<10000)(d:gw key=i.size)(a6:key=1000->e=L.u8){env:Env}{K:AV->St->Prop}{next:Act->World->Prop}{Q:Exit->Act->World->Prop}(h:dx L n g ⟨env,nb,bx,rl⟩ a w)(ys:bJ)(G:List Value)(hG:G.length=ys.length*i.size)(a8:∀u∈G,u.oneCell'=true)(X:∀p j x y,ys[p]?=some x->x[j]?=some y->∃u,G[p*i.size+j]?=some u/\DR g.bD w y u)(O:sP L.P w u (a.eval y) i.size ys.length G)(r:vw i.size i.bytes key (bL L.gl env ax) ys rl fun v rl=>K v ⟨env,nb,bx,rl⟩)(k:∀(av:AV)(σ':St)(g':Gh)(v':Value)(w':World),Step g rl w g' σ'.rl w'->dx L n g' σ' a w'->VR L g' σ'.rl w' av v'->K av σ'->next (a.put o.dst v') w'):o.wp L.P a w next Q:=by
 have ai:=hx.val h;unfold vw at r;split at r
 rotate_left
 .exact r.elim
 rename_i xs tg tb;rw[tb]at ai;generalize N:a.eval x=xv at ai;cases ai with
 |aO _ _ _ Z ez=>
 obtain⟨⟨e2,e3⟩,r⟩:=r
 have aa:xs.length+ys.length<=gJ:=by
  have:=Ml (xs.length+ys.length) a5;unfold gJ;omega
 have t0:((xs.length+ys.length:Nat):Int)<=9223372036854775807:=by unfold gJ at aa;omega
 have ee:0<ys.length->∀(sJ:Nat)(F:List Value)(bz:bm)(et:YL)(l:Nat)(v':Value)(W:World)(G:List Value),
   (∀x,x∈xs->x.length=i.size)->F.length=xs.length*i.size->G.length=ys.length*i.size->
   (∀p j x y,xs[p]?=some x->x[j]?=some y->∃u,F[p*i.size+j]?=some u/\DR g.bD w y u)->
   (∀p j x y,ys[p]?=some x->x[j]?=some y->∃u,G[p*i.size+j]?=some u/\DR g.bD w y u)->
   v'=.slice (some ⟨w.heap.size,0,none⟩) (xs.length+ys.length) (grownCap w (xs.length+ys.length) sJ e)->
   W=w.drew.alloc (.cells (F.toArray++G.toArray++Builtin.zeroCells z.cells (grownCap w (xs.length+ys.length) sJ e-(xs.length+ys.length))) e)->
   (execOp a.eval o).run L.P w=.ok (.value v') W->
   (∀(k n e:Nat),rl[k]?=some (n,e)->∃R,bz[k]?=some (R,e)/\n<=R/\(R=n->et[k]?=g.rw[k]?))->(∀b,some b∈et->some b∈g.rw\/w.heap.size<=b)->
   et.length=bz.length->(bz[l]?=some (xs.length+ys.length,key)/\et[l]?=some (some w.heap.size))->(∀j,j≠l->bz[j]?=rl[j]?/\et[j]?=g.rw[j]?)->
   K (.aO (xs++ys) (.row l)) ⟨env,nb,bx,bz⟩->o.wp L.P a w next Q:=by
  intro I sJ F bz et l v' W G c hF hG ta X a9 hW am e4 af ay an ap hk;obtain⟨h1,h2,h3⟩:=ND (g:=g) (w:=w) (e:=e) (sJ:=sJ) a4 c e3 hF hG ta X aa h.sh.fresh et _ rfl;subst a9;subst hW
  have s:=Step.TZ (g:=g) (rl:=rl) (bz:=bz) (w:=w) (.cells (F.toArray++G.toArray++Builtin.zeroCells z.cells (grownCap w (xs.length+ys.length) sJ e-(xs.length+ys.length))) e)
   ((xs.length+ys.length)*i.size) et h.sh.fresh e4 af
  have t1:=h.sh.TZ (e:=key) (by rw[d];exact s) ay ao om om a6 (by rw[h1,d];exact k7 _ h2) an ap;rw[d]at t1;refine aW am (k _ _ _ _ _ s (h.bj s t1) (.aO _ _ _ h3 ?_) hk);refine⟨xs.length+ys.length,key,an.1,fun x hx=>by rw[d];exact(nA.1 hx).elim (c x) (e3 x),by simp,fun _=> .inr ⟨w.heap.size,grownCap w (xs.length+ys.length) sJ e,e,by simp,an.2,?_⟩⟩;have hh:(w.drew.alloc (.cells (F.toArray++G.toArray++Builtin.zeroCells z.cells (grownCap w (xs.length+ys.length) sJ e-(xs.length+ys.length))) e)).heap[w.heap.size]?=some (.cells (F.toArray++G.toArray++Builtin.zeroCells z.cells (grownCap w (xs.length+ys.length) sJ e-(xs.length+ys.length))) e):=heap_alloc_new w.drew _;simp only[World.shape?,hh,h1,d]
 have T:rl.length=g.rw.length:=h.sh.jv.symm
 have S:∀(m:Nat),(∀(k n e:Nat),rl[k]?=some (n,e)->∃R,(rl++[(m,key)])[k]?=some (R,e)/\n<=R/\(R=n->(g.rw++[some w.heap.size])[k]?=g.rw[k]?)):=by
  intro m k' R e' D;have oo:=(bV.1 D).1;exact⟨R,by rw[gL oo];exact D,aQ _,fun _=>by rw[gL om]⟩
 have M:∀b,some b∈g.rw++[some w.heap.size]->some b∈g.rw\/w.heap.size<=b:=by
  intro b hb;simp at hb;rcases hb with hb|hb
  .exact .inl hb
  .exact .inr om
 have ef:∀m,(rl++[(m,key)])[rl.length]?=some (m,key)/\(g.rw++[some w.heap.size])[rl.length]?=some (some w.heap.size):=by
  intro m;exact⟨by simp,by rw[T];simp⟩
 have Y:∀m j,j≠rl.length->(rl++[(m,key)])[j]?=rl[j]?/\(g.rw++[some w.heap.size])[j]?=g.rw[j]?:=by
  intro m j hj;rcases nC j rl.length with hl|hl
  .exact⟨by rw[gL hl],by rw[gL om]⟩
  .exact⟨by rw[qY (by simp;omega),qY hl],by rw[qY (by simp;omega),qY om]⟩
 have t9:ys.length*i.bytes<=281474976710656:=by
  have:ys.length*i.bytes<=(xs.length+ys.length)*i.bytes:=k7 _ om;omega
 cases tg with
 |nil=>
  dsimp only at r;replace r:=pU _ _ _ r;rw[B7]at r;have U:xv=.slice none 0 0:=ez
  have V:xs=[]:=by
   rcases lM Z with⟨h1,_⟩|⟨aw,off,cap,es,f,hc,_⟩
   .exact h1
   .rw[U]at hc;cases hc
  subst V;by_cases ey:ys=[]
  .subst ey;have t2:G=[]:=Rc.1 (by simpa using hG);subst t2
   have hr:(execOp a.eval o).run L.P w=.ok (.value (.slice none 0 0)) w:=by
    rw[kS ho,N,U,mr L.P w t u o.type e i J hi none 0 0 (aQ _) _ O];rfl
   refine aW hr (k _ _ _ _ _ (Step.qK key h.sh.jv) (h.bj (Step.qK key h.sh.jv) (h.sh.qK key om)) (.aO [] _ _ .slnil ?_) r);exact⟨0,key,by simp,fun x hx=>(by cases hx),cr _,fun _=> .inl ⟨rfl,by rw[T];simp⟩⟩
  .have I:0<ys.length:=Co.2 ey;have hr:=oA L.P w t u o.type e i z J hi hz _ ys.length G O I (by simpa using t0) t9;refine ee I 0 [] (rl++[(ys.length,key)]) (g.rw++[some w.heap.size]) rl.length _ _ G (fun x hx=>by cases hx) si hG (fun p j x y hp=>by simp at hp) X rfl rfl ?_ (S _) M (by simp[T]) ?_ (Y _) (by simpa using r)
   .rw[kS ho,N,U,hr];simp
   .simpa using ef ys.length
 |full=>
  cases ys with
  |nil=>
   have t2:G=[]:=Rc.1 (by simpa using hG);subst t2
   have hr:(execOp a.eval o).run L.P w=.ok (.value xv) w:=by
    rcases lM Z with⟨_,a0,hc⟩|⟨aw,off,cap,es,f,hc,_,t3,_⟩
    .rw[kS ho,N,hc,mr L.P w t u o.type e i J hi a0 0 0 (aQ _) _ O];rfl
    .rw[kS ho,N,hc,mr L.P w t u o.type e i J hi (some _) _ cap t3 _ O];rfl
   exact aW hr (k _ _ g _ w (Step.refl g rl w) h (.aO xs .full xv Z ez) r)
  |cons y0 yr=>
   dsimp only at r;obtain⟨c,eo⟩:=r;have r:=pU _ _ _ eo;clear eo;rw[B7]at r;have I:0<(y0::yr).length:=by simp
   generalize it:y0::yr=ys at*;rcases la Z i.size c with⟨V,a0,B⟩|⟨xb,xo,E,F,B,on,ah,ag,hF,ae,ol,ta⟩
   .subst V
    have hr:(Builtin.append_ #[t,u] o.type #[.slice a0 0 0,a.eval y]).run L.P w=.ok (.slice (some ⟨w.heap.size,0,none⟩) ys.length (grownCap w ys.length 0 e)) (w.drew.alloc (.cells (G.toArray++Builtin.zeroCells z.cells (grownCap w ys.length 0 e-ys.length)) e)):=by
     cases a0 with
     |none=>exact oA L.P w t u o.type e i z J hi hz _ ys.length G O I (by simpa using t0) t9
     |some b=>
      have:=lA L.P w t u o.type e i z J hi hz b 0 0 [] si (fun j v hj=>by simp at hj) _ ys.length G O om (by simpa using t0) (by rw[dK,nextslicecap_zero I];exact t9);rw[this];simp
    refine ee I 0 [] (rl++[(ys.length,key)]) (g.rw++[some w.heap.size]) rl.length _ _ G (fun x hx=>by cases hx) si hG (fun p j x y hp=>by simp at hp) X rfl rfl ?_ (S _) M (by simp[T]) ?_ (Y _) (by simpa using r)
    .rw[kS ho,N,B,hr];simp
    .simpa using ef ys.length
   .have ow:E=xs.length:=by
     rcases ez with J|⟨a',J⟩
     .rw[B]at J;cases J
     .rw[B]at J;cases J;rfl
    have hr:=lA L.P w t u o.type e i z J hi hz ⟨xb,xo,none⟩ xs.length E F hF (fun j u hj=>by rw[Addr.add_lit];exact ae j u hj) _ ys.length G O
     om t0 (growslice_fits om e2)
    refine ee I E F (rl++[(xs.length+ys.length,key)]) (g.rw++[some w.heap.size]) rl.length _ _ G c hF hG ta X rfl rfl ?_ (S _) M (by simp[T]) (ef _) (Y _) r;rw[kS ho,N,B,hr];rfl
 |row l=>
  dsimp only at r;rw[mK]at r;split at r
  rotate_left
  .exact r.elim
  rename_i R e' ep;obtain⟨⟨ox,ar⟩,eo⟩:=r;obtain⟨_,r⟩:=sj _ _ _ _ eo;clear eo;obtain⟨L',io,h1,t4,h2,aj⟩:=ez;rw[ep]at h1;cases h1;have ar:=ar.symm;subst ar;subst ox;have c:=t4;rw[d]at c;have h3:=aj;simp only[d]at h3;have al:l<rl.length:=(bV.1 ep).1;have ei:(rl.set l (xs.length+ys.length,key))[l]?=some (xs.length+ys.length,key):=jD al
  have t5:∀(k n e:Nat),rl[k]?=some (n,e)->∃R,(rl.set l (xs.length+ys.length,key))[k]?=some (R,e)/\n<=R:=by
   intro k' R e' D;by_cases ti:l=k'
   .subst ti;rw[ep]at D;cases D;exact⟨_,ei,by omega⟩
   .exact⟨R,by rw[jE ti];exact D,aQ _⟩
  have a1:ys=[]->o.wp L.P a w next Q:=by
   intro ey;subst ey
   have e1:rl.set l (xs.length+([]:bJ).length,key)=rl:=by
    apply Cq;intro q;by_cases hq:l=q
    .subst hq;rw[jD al,ep];rfl
    .rw[jE hq]
   rw[e1,oe]at r;have t2:G=[]:=Rc.1 (by simpa using hG);subst t2
   have hr:(execOp a.eval o).run L.P w=.ok (.value xv) w:=by
    rcases lM Z with⟨_,a0,hc⟩|⟨aw,off,cap,es,f,hc,_,t3,_⟩
    .rw[kS ho,N,hc,mr L.P w t u o.type e i J hi a0 0 0 (aQ _) _ O];rfl
    .rw[kS ho,N,hc,mr L.P w t u o.type e i J hi (some _) _ cap t3 _ O];rfl
   exact aW hr (k _ _ g _ w (Step.refl g rl w) h (.aO xs (.row l) xv Z ⟨_,_,ep,t4,h2,aj⟩) r)
  .by_cases ey:ys=[]
   .exact a1 ey
   .have I:0<ys.length:=Co.2 ey;have a2:l<g.rw.length:=by rw[h.sh.jv];exact al
    have ed:(∀(k n e:Nat),rl[k]?=some (n,e)->∃R,(rl.set l (xs.length+ys.length,key))[k]?=some (R,e)/\n<=R/\(R=n->(g.rw.set l (some w.heap.size))[k]?=g.rw[k]?)):=by
     intro k' R e' D;by_cases ti:l=k'
     .subst ti;rw[ep]at D;cases D;exact⟨_,ei,by omega,fun hh=>by omega⟩
     .exact⟨R,by rw[jE ti];exact D,aQ _,fun _=>by rw[jE ti]⟩
    have e5:∀b,some b∈g.rw.set l (some w.heap.size)->some b∈g.rw\/w.heap.size<=b:=by
     intro b hb;rcases List.mem_or_eq_of_mem_set hb with hb|hb
     .exact .inl hb
     .cases hb;exact .inr (aQ _)
    have e6:(g.rw.set l (some w.heap.size)).length=(rl.set l (xs.length+ys.length,key)).length:=by simp[T]
    have t6:(rl.set l (xs.length+ys.length,key))[l]?=some (xs.length+ys.length,key)/\(g.rw.set l (some w.heap.size))[l]?=some (some w.heap.size):=⟨ei,jD a2⟩;have e7:∀j,j≠l->(rl.set l (xs.length+ys.length,key))[j]?=rl[j]?/\(g.rw.set l (some w.heap.size))[j]?=g.rw[j]?:=fun j hj=>⟨jE (k8 hj),jE (k8 hj)⟩
    rcases h3 trivial with⟨U,ts⟩|⟨xb,E,tt,U,ts,te⟩
    .have V:xs=[]:=by
      rcases lM Z with⟨h1,_⟩|⟨aw,off,cap,es,f,hc,_⟩
      .exact h1
      .rw[U]at hc;cases hc
     have hr:=oA L.P w t u o.type e i z J hi hz _ ys.length G O I om t9;refine ee I 0 [] _ _ l _ _ G c (by simp[V]) hG (fun p j x y hp=>by simp[V]at hp) X rfl rfl ?_ ed e5 e6 t6 e7 r;rw[kS ho,N,U,hr];simp[V]
    .obtain⟨o0,e4⟩:=h.sh.row l _ _ ep;simp only[vB ao,d]at e4;rcases e4 with⟨el,_⟩|⟨o6,A,tw,t7,el,H,t8,ii,o7,em⟩
     .rw[ts]at el;cases el
     .rw[ts]at el;cases el
      have tb:A.size=E*i.size:=by
       simp only[World.shape?,H,qZ,vh]at te;exact te.2
      rcases la Z i.size c with⟨V,a0,B⟩|⟨is,xo,o1,F,B,on,ah,ag,hF,ae,ol,ta⟩
      .exact absurd em.2.1 (by rw[V];simp)
      .rw[U]at B;cases B;by_cases eg:xs.length+ys.length<=E
       .have a3:xs.length*i.size+G.length<=A.size:=by rw[hG,tb,<-jb];exact k7 _ eg
        have hr:=sf L.P w t u o.type e i J hi xb xs.length E A tw t7 em.1 H _ ys.length G O a8 eg a3;have ej:(A.toList.take (xs.length*i.size)++G++A.toList.drop (xs.length*i.size+G.length)).toArray.size=A.size:=by simp;omega
        have o2:F=A.toList.take (xs.length*i.size):=by
         apply Cq;intro q;by_cases hq:q<xs.length*i.size
         .rw[jC hq];have h5:=ae q _ (dw om);rw[dK,cell_of_row w xb q A tw t7 H]at h5;rw[dw om];simpa using h5.symm
         .rw[qY om,qY (by simp;omega)]
        have s:=Step.LB (g:=g) (rl:=rl) (bz:=rl.set l (xs.length+ys.length,key)) (n:=(xs.length+ys.length)*i.size) (cP.2 ⟨l,ts⟩) A _ tw t7 H ej
         (by rw[t8];exact k7 _ om) (fun q hq=>by
          rw[t8]at hq;rw[tP,ga,gL (by simp;omega),jC hq];simp) t5
        have t1:=h.sh.LB (k:=l) (e:=key) H (by rw[d];exact gM em.1 (k7 _ om)) ao (em.2.2.2.1.1 om) (by rw[d];exact s) si om om em.2.2.1 (by rw[ej,tb,d];exact k7 _ eg) ⟨ei,ts⟩ (fun j hj=>jE (k8 hj));rw[d]at t1
        have o3:(execOp a.eval o).run L.P w=.ok (.value (.slice (some ⟨xb,0,none⟩) (xs.length+ys.length) E)) (w.setRow xb (A.toList.take (xs.length*i.size)++G++A.toList.drop (xs.length*i.size+G.length)).toArray):=by
         rw[kS ho,N,U,hr];rfl
        refine aW o3 (k _ _ _ _ _ s (h.bj s t1) (.aO (xs++ys) (.row l) _ ?_ ⟨_,_,ei,fun x hx=>by rw[d];exact(nA.1 hx).elim (c x) (e3 x),by simp,fun _=> .inr ⟨xb,E,tw,by simp,ts,?_⟩⟩) r)
        .have hl:(xs++ys).length=xs.length+ys.length:=by simp
         have:=nN (mk:=(g.row xb ((xs.length+ys.length)*i.size) g.rw).bD) (w:=w.setRow xb (A.toList.take (xs.length*i.size)++G++A.toList.drop (xs.length*i.size+G.length)).toArray)
          (xs:=xs++ys) (aw:=xb) (off:=0) (cap:=E) (es:=i.size) (F:=F++G) om om (fun x o4=>(nA.1 o4).elim (c x) (e3 x))
          (by simp[Gh.row]) (by simp[hF,hG,jb]) (fun j u hj=>by
           rw[cell_setRow_same w xb _ A _ tw t7 H,dK,tP,<-o2,gL (bV.1 hj).1];exact hj)
          (zP hF ta X fun y u hd=>hd.bj s.bD s.cell)
         rw[hl]at this;exact this
        .simp only[World.shape?,setRow_heap w xb A _ tw t7 H,ej,tb,d]
       .have hr:=lA L.P w t u o.type e i z J hi hz ⟨xb,0,none⟩ xs.length E F hF (fun j u hj=>by rw[Addr.add_lit];exact ae j u hj) _ ys.length G O
         om t0 (growslice_fits om e2)
        refine ee I E F _ _ l _ _ G c hF hG ta X rfl rfl ?_ ed e5 e6 t6 e7 r;rw[kS ho,N,U,hr];rfl
 |fe l=>exact r.elim
 |sub l C=>exact r.elim
 |uu l C o=>exact r.elim
theorem EC(h:gw (oR z es)=es):oR z es<10000:=by
 have e:∀k,gw k<10000:=fun k=>by
  unfold gw Xx;split
  .omega
  .exact Nat.mod_lt _ om
 unfold oR at h⊢;split
 .omega
 .rw[<-h];exact e _
theorem aei{y:Operand}{B:Arg}{i:TypeInfo}{z:Value}{S:List DV}(J:o.op=.call {callee:=.builtin .append,args:=#[x,y],argTypes:=#[t,t]})(H:L.P.underlying t=some (.slice e))(hi:L.P.info? e=some i)(Z:i.zero=some z)(f:z.cells.size=i.size)(r:0<i.size)(v:0<i.bytes)(N:gw (oR S i.size)=i.size)(q:oR S i.size=1000->e=L.u8)(hx:cQ L x ax)(hy:cQ L y B):jM L n o (.app i.size i.bytes S ax B):=by
 intro X σ K g a w next Q h s k ee;obtain⟨eo,nb,bx,rl⟩:=σ;have R:=hy.val h;simp only[cB]at s;obtain⟨m,s,D⟩:=wv R _ s
 have E:∀y,y∈m->y.length=i.size:=by
  unfold vw at s;split at s
  .exact s.1.2
  .exact s.elim
 have U:∃d,L.P.underlying t=some d/\∀k,d≠.int k:=⟨_,H,fun k h=>by cases h⟩;rcases la D i.size E with⟨C,a0,l⟩|⟨T,A,O,G,l,ei,M,et,F,I,Y,V⟩
 .subst C;refine GI J H hi Z f r v hx (EC N) N q h [] [] si (fun u hu=>by cases hu) (fun p j x y hp=>by simp at hp) ?_ s k;rw[l];cases a0 with
  |none=>exact⟨U,fun w'=>rfl,rfl,rfl⟩
  |some b=>exact⟨U,fun w'=>rfl,run_firstCells_some (P:=L.P) w i.size 0 b 0 0 [] si (fun j u c=>by simp at c),run_firstCells_some (P:=L.P) w.drew i.size 0 b 0 0 [] si (fun j u c=>by simp at c)⟩
 .refine GI J H hi Z f r v hx (EC N) N q h m G F Y V ?_ s k;rw[l]
  exact⟨U,fun w'=>rfl,run_firstCells_some (P:=L.P) w i.size m.length ⟨T,A,none⟩ m.length O G F (fun j u c=>by rw[Addr.add_lit];exact I j u c),
   run_firstCells_some (P:=L.P) w.drew i.size m.length ⟨T,A,none⟩ m.length O G F (fun j u c=>by rw[Addr.add_lit];exact I j u c)⟩
theorem RS(s:List UInt8)(p j:Nat)(x:List DV)(y:DV)(e:(s.map gX)[p]?=some x)(t:x[j]?=some y):
  ∃b,s[p]?=some b/\j=0/\y=.int .u8 b.toNat:=by
 rw[jU]at e;cases a:s[p]? with
 |none=>rw[a]at e;cases e
 |some b=>
  rw[a]at e;cases e;cases j with
  |zero=>simp[gX]at t;exact⟨b,rfl,rfl,t.symm⟩
  |succ j=>simp[gX]at t
theorem aaG{y:Operand}{T:Arg}{u:TypeId}{i:TypeInfo}{z:Value}(S:o.op=.call {callee:=.builtin .append,args:=#[x,y],argTypes:=#[t,u]})(H:L.P.underlying t=some (.slice e))(R:L.P.underlying u=some .string)(hi:L.P.info? e=some i)(D:i.zero=some z)(f:z.cells.size=i.size)(d:i.size=1)(q:i.bytes=1)(E:e=L.u8)(U:cQ L x ax)(C:cQ L y T):jM L n o (.HX ax T):=by
 intro X σ K g a w next Q h l k A;obtain⟨M,nb,bx,rl⟩:=σ;have c:=C.val h;simp only[cB]at l;split at l
 .rename_i s F;rw[F]at c;obtain⟨O,I⟩:=c.iB
  have r:∀m,(Builtin.firstCells i.size (s.map gX).length (a.eval y)).run L.P m=.ok (s.map fun b=>Value.int .u8 b.toNat).toArray m:=by
   intro m;rw[O];simp only[Builtin.firstCells,Sem.run_pure];congr 1;apply nD;simp[ByteArray.extract,ByteArray.copySlice]
  refine GI S H hi D f om om U (key:=1000) om (by rw[d];rfl) (fun _=>E) h (s.map gX) (s.map fun b=>Value.int .u8 b.toNat) (by simp[d]) (fun v N=>?_) (fun p j x y Y V=>?_) ⟨⟨_,R,fun k h=>by cases h⟩,fun m=>?_,r w,r w.drew⟩ (by rw[d,q];exact l) k
  .simp at N;obtain⟨b,_,rfl⟩:=N;rfl
  .obtain⟨b,B,rfl,rfl⟩:=RS s p j x y Y V;refine⟨.int .u8 b.toNat,by rw[d];simp[B],.int _ _ ?_⟩;have:=b.toNat_lt;simp only[eB];omega
  .rw[O];simp[Builtin.lenOf,ByteArray.size]
 .exact l.elim
end
theorem run_equal_bool(P:Program)(w:World)(t:TypeId)(e:P.underlying t=some .bool)(p q:Bool):(Op.equal t (.bool p) (.bool q)).run P w=.ok (p==q) w:=by
 show(Op.equalIn (9999+1) t _ _).run P w=_;unfold Op.equalIn;simp only[underlying,Sem.run_bind,run_program,Result.andThen_ok,e,Sem.run_pure]
theorem wT(P:Program)(w:World)(t e:TypeId)(a:P.underlying t=some (.pointer e))(p:Option Addr):(Op.equal t (.pointer p) (.pointer none)).run P w=.ok p.isNone w:=by
 show(Op.equalIn (9999+1) t _ _).run P w=_;unfold Op.equalIn;cases p<;>simp only[underlying,Sem.run_bind,run_program,Result.andThen_ok,a,Sem.run_pure]<;>rfl
theorem py(P:Program)(w:World)(t:TypeId)(x y:Value)(e r:Bool)(a:∀k m,x≠.int k m)(o:∀k m,x≠.float k m)(i:∀k p q,x≠.complex k p q)(n:∀s,x≠.string s)(h:(Op.equal t x y).run P w=.ok r w):(binOp (if e then .neq else .eql) t x y).run P w=.ok (.bool (e !=r)) w:=by
 have d:(binOp .eql t x y).run P w=.ok (.bool r) w:=by
  unfold binOp;cases x<;>first|exact absurd rfl (a _ _)|exact absurd rfl (o _ _)|exact absurd rfl (i _ _ _)|exact absurd rfl (n _)|simp only[Sem.run_bind,h,Result.andThen_ok,Sem.run_pure]
 have l:(binOp .neq t x y).run P w=.ok (.bool (!r)) w:=by
  unfold binOp;cases x<;>first|exact absurd rfl (a _ _)|exact absurd rfl (o _ _)|exact absurd rfl (i _ _ _)|exact absurd rfl (n _)|simp only[Sem.run_bind,h,Result.andThen_ok,Sem.run_pure]
 cases e<;>simp[d,l]
section
variable{L:Lk}{n:Nat}
theorem aaH{i:Bool}{m:TypeId}{y:Operand}{l:Arg}(f:o.op=.binOp (if i then .neq else .eql) t x y m)(b:L.P.underlying t=some .bool)(j:cQ L x ax)(z:cQ L y l):jM L n o (.ri i ax l):=by
 intro X σ K g a w next Q h e k u;obtain⟨E,N,S,rl⟩:=σ;have s:=j.val h;have r:=z.val h;simp only[cB]at e;split at e
 .rename_i p q T A;rw[T]at s;rw[A]at r;have O:=s.me;have I:=r.me;have c:=py L.P w t (.bool p) (.bool q) i _ si si si si (run_equal_bool L.P w t b p q);refine aW (v:=.bool (i !=(p==q))) ?_ (k (.d (.bool (i !=(p==q)))) _ g _ w (Step.refl g rl w) h (VR.kH _) ?_)
  .cases i<;>simp at c<;>simp[execOp,f,O,I,Mr,c]
  .cases i
   .simpa using e
   grind
 .exact e.elim
theorem VR.Hr(h:VR L g rl w (.d .cq) c):c=.pointer none:=by
 cases h with|d _ _ h=>cases h;rfl
theorem aaK{d:Bool}{I:TypeId}{y:Operand}{E:Arg}(T:o.op=.binOp (if d then .neq else .eql) t x y I)(A:L.P.underlying t=some (.pointer e))(N:cQ L x ax)(S:cQ L y E):jM L n o (.AM d ax E):=by
 intro X σ K g a w next Q h i k O;obtain⟨H,R,D,rl⟩:=σ;have s:=N.val h;have r:=S.val h
 have guard:∀op p q,(eqGuard op t x y (.pointer p) (.pointer q)).run L.P w=.ok () w:=by
  intro op p q;unfold eqGuard;split<;>simp
 simp only[cB]at i;split at i
 .rename_i b j u c;rw[u]at s;rw[c]at r;obtain⟨m,f,_⟩:=s.jH;have z:a.eval y=.pointer none:=r.Hr;have l:=py L.P w t (.pointer (some ⟨m,j,none⟩)) (.pointer none) d _ si si si si (wT L.P w t e A _);refine aW (v:=.bool d) ?_ (k _ _ g _ w (Step.refl g rl w) h (VR.kH _) i);cases d<;>simp at l<;>simp[execOp,T,f,z,guard,l]
 .rename_i u c;rw[u]at s;rw[c]at r;have f:a.eval x=.pointer none:=s.Hr;have z:a.eval y=.pointer none:=r.Hr;have l:=py L.P w t (.pointer none) (.pointer none) d _ si si si si (wT L.P w t e A _);refine aW (v:=.bool (!d)) ?_ (k _ _ g _ w (Step.refl g rl w) h (VR.kH _) i);cases d<;>simp at l<;>simp[execOp,T,f,z,guard,l]
 .exact i.elim
theorem aa3{s:TypeId}(u:o.op=.convert s t x)(c:L.P.underlying s=some .string)(m:L.P.underlying t=some .string)(f:cQ L x ax):jM L n o (.same ax):=by
 intro X σ K g a w next Q h e k l;obtain⟨y,q,z,rl⟩:=σ;have i:=f.val h;simp only[cB]at e;split at e
 .rename_i p r;rw[r]at i;obtain⟨b,j⟩:=i.iB;exact aW (v:=.string ⟨p.toArray⟩) (by simp[execOp,u,b,convert,underlying,c,m]) (k _ _ g _ w (Step.refl g rl w) h (.d _ _ (.str _ j)) e)
 .exact e.elim
theorem aa0{t:Nat}{d:TypeDesc}(r:o.op=.makeInterface (L.tn t) x)(l:L.P.underlying (L.tn t)=some d)(u:∀i,d≠.interface i)(c:cQ L x ax):jM L n o (.Ib t ax):=by
 intro X σ K g a w next Q h e k s;obtain⟨m,f,y,rl⟩:=σ;simp only[cB,force_eq]at e;refine aW (v:=.iface (L.tn t) (a.eval x)) ?_ (k _ _ g _ w (Step.refl g rl w) h (.oH t _ _ (c.val h)) e);cases d with
 |interface i=>exact absurd rfl (u i)
 |_=>simp[execOp,r,Instr.makeInterface,underlying,l]
theorem aa4{t:Nat}{s:TypeId}{d:TypeDesc}(f:o.op=.typeAssert x s (L.tn t) true)(b:L.P.underlying (L.tn t)=some d)(z:∀u,d≠.interface u)(E:cQ L x ax):jM L n o (.OL t ax):=by
 intro X σ K g a w next Q h e k m;obtain⟨T,N,S,rl⟩:=σ;have i:=E.val h;simp only[cB]at e;split at e
 .rename_i H v A;rw[A]at i;split at e
  .rename_i c;have c:=dL c;subst c;generalize O:a.eval x=R at i;cases i with
   |oH _ _ y I=>
   refine aW (v:=.tuple #[y,.bool true]) ?_ (k _ _ g _ w (Step.refl g rl w) h (.b6 _ _ rfl fun j p q r l=>?_) e)
   .cases d with
    |interface u=>exact absurd rfl (z u)
    |_=>simp[execOp,f,Instr.typeAssert,underlying,b,O]
   .match j with
    |0=>simp at r l;subst r;subst l;exact I
    |1=>simp at r l;subst r;subst l;exact VR.kH true
    |j+2=>simp at r
  .exact e.elim
 .exact e.elim
theorem TQ{a:Bool}(h:UL L t m a)(cs:Array Value)(off:Nat)(w:World)(n:off+m<=cs.size):
  (part t cs off).run L.P w=.ok (if a then .agg ((List.range m).map fun j=>cs.getD (off+j) undef).toArray else cs.getD off undef) w:=by
 obtain⟨⟨i,r,l⟩,⟨d,u,s⟩,o⟩:=h
 have e:(isAgg t).run L.P w=.ok a w:=by
  unfold isAgg underlying;simp only[Sem.run_bind,run_program,Result.andThen_ok,u];cases d<;>simp[JS]at s<;>subst s<;>rfl
 cases a with
 |true=>
  simp only[part,Sem.run_bind,e,Result.andThen_ok,if_true];simp[sizeOf,typeInfo,r,l];grind
 |false=>
  have c:=o rfl;subst c;simp only[part,Sem.run_bind,e,Result.andThen_ok,jT,if_false];have:off<cs.size:=by omega
  simp[this]
theorem aem{s:TypeId}{b:Array Field}{f:Field}{q:Bool}(O:o.op=.field s x i)(I:L.P.underlying s=some (.struct b))(N:b[i]?=some f)(z:UL L f.type m q)(S:cQ L x ax)(H:0<m):jM L n o (.U' f.offset m q ax):=by
 intro X σ K g a w next Q h e k E;obtain⟨R,B,G,rl⟩:=σ;have t:=S.val h;simp only[cB]at e;split at e
 .rename_i J d;rw[d]at t;generalize l:a.eval x=Z at t;cases t with
  |agg _ r hn u=>
  obtain⟨c,D,T,U,C⟩:=zC _ _ _ _ e;have p:f.offset+m<=r.size:=by rcases c with c|c<;>omega
  have M:=TQ (L:=L) z r f.offset w p
  obtain⟨v,F,Y⟩:=ue (L:=L) (g:=g) (rl:=rl) (w:=w) z.2.2 D (fun j=>r.getD (f.offset+j) undef) T (fun j y A=>by
   have V:j<m:=by rw[<-T];exact(bV.1 A).1
   have:=U j V;rw[A]at this;refine u (f.offset+j) y _ this.symm ?_;simp[show f.offset+j<r.size by omega]) _ C
  refine aW ?_ (k _ _ g _ w (Step.refl g rl w) h Y F);simp only[execOp,O,l,Instr.field,underlying,Sem.run_bind,run_program,Result.andThen_ok,I,Sem.run_pure,N,asAgg,M,iU]
 .exact e.elim
theorem WG(c:o.op=.range t x)(m:L.P.underlying t=some .string)(f:cQ L x ax):jM L n o (.range ax):=by
 intro X σ K g a w next Q h e k l;obtain⟨y,nb,p,rl⟩:=σ;have i:=f.val h;simp only[cB]at e;split at e
 .rename_i s v;rw[v]at i;obtain⟨b,j⟩:=i.iB;have e:=pU _ _ _ e
  have q:(execOp a.eval o).run L.P w=.ok (.value (.pointer (some ⟨w.heap.size,0,none⟩))) (w.alloc (.stringIter ⟨s.toArray⟩ 0)):=by
   simp[execOp,c,b,Instr.range,underlying,m]
  have u:=Step.box g rl w (.stringIter ⟨s.toArray⟩ 0) h.sh.fresh;have r:=h.sh.Xg (.stringIter ⟨s.toArray⟩ 0) (.iter s 0) ⟨heap_alloc_new w _,j⟩;refine aW q (k _ _ _ _ _ u (h.bj u r) (.uv nb w.heap.size ?_) e);have d:nb=p.length:=h.sh.nb;rw[d,<-h.sh.kt];simp[Gh.box]
 .exact e.elim
theorem Step.setIter(t:b∈g.bk)(l:g.bD b=0){s s':ByteArray}{p':Nat}(n:w.heap[b]?=some (.stringIter s p)):
  Step g rl w g rl {w with heap:=w.heap.setIfInBounds b (.stringIter s' p')} where
 os:=rfl
 tape:=rfl
 output:=rfl
 size:=by simp
 bD b:=aQ _
 cell e o u:=by
  have:b≠e:=by rintro rfl;omega
  exact World.cell?_of_block (a:=⟨e,o,none⟩) (by simp[this])
 bk i b h:=h
 row _ _ _ h:=.of h (aQ _) fun _=>rfl
 shape e r:=by
  by_cases h:b=e
  .subst h;have:(w.heap.setIfInBounds b (.stringIter s' p'))[b]?=some (.stringIter s' p'):=by simp[r]
   simp only[World.shape?,this,n]
  .simp[World.shape?,h]
 jz b h:=.inl h
 jA b h:=.inl h
 frame e _ d _:=by
  have:b≠e:=by rintro rfl;exact d t
  simp[this]
 lb _ _ _ _:=rfl
 oi _ _ _ _:=.refl _
theorem aY.setIter{g:Gh}{nb:Nat}{bx:List Bx}{rl:bm}{w:World}(h:aY L g nb bx rl w){i b:Nat}(hi:g.bk[i]?=some b)(z:g.bD b=0){s:List UInt8}{p p':Nat}(E:w.heap[b]?=some (.stringIter ⟨s.toArray⟩ p))(T:s.length<=gJ):aY L g nb (bx.set i (.iter s p')) rl {w with heap:=w.heap.setIfInBounds b (.stringIter ⟨s.toArray⟩ p')}:=by
 have o:b∈g.bk:=cP.2 ⟨i,hi⟩;have m:=Step.setIter (rl:=rl) (s':=⟨s.toArray⟩) (p':=p') o z E;have A:=lt_of_heap E;have a:∀x,x≠b->({w with heap:=w.heap.setIfInBounds b (.stringIter ⟨s.toArray⟩ p')}:World).heap[x]?=w.heap[x]?:=fun x O=>by simp[k8 O]
 refine⟨by simp[h.nb],by simp[h.kt],?_,h.inj,h.jv,?_,h.jI,fun b f=>h.fresh b (by simpa using f),fun i=>(h.jd i).bj m,h.par.bj m rfl (fun _ _=>rfl) fun c I v t l=>⟨v,t,by rw[a c (fun e=>I (e▸h.par.bk b o))];exact l⟩⟩
 .intro j y d u r;by_cases q:i=j
  .subst q;rw[hi]at r;cases r;have N:i<bx.length:=by rw[<-h.kt];exact(bV.1 hi).1
   rw[jD N]at u;cases u;refine⟨fun _=>z,?_,T⟩;grind
  .rw[jE q]at u;obtain⟨l,S⟩:=h.box j y d u r;exact⟨l,S.bj m (a d (fun f=>q (h.inj i j b hi (f▸r))))⟩
 .intro k n e r;obtain⟨H,l⟩:=h.row k n e r;grind
theorem decode_at(s:List UInt8)(p:Nat)(b:UInt8)(h:s[p]?=some b)(a:b.toNat<128):Utf8.decode ⟨s.toArray⟩ p=(b.toNat,1):=by
 obtain⟨o,i⟩:=bV.1 h;have e:p<(ByteArray.mk s.toArray).size:=by simpa[ByteArray.size]using o
 have t:(ByteArray.mk s.toArray)[p]=b:=i;have:=decode_ascii ⟨s.toArray⟩ p e (by rw[t];exact a);rw[this,t]
theorem aa1(S:o.op=.next x true)(e:cQ L x ax):jM L n o (.next ax):=by
 intro X σ K g a w next Q h r k H;obtain⟨U,Y,P,rl⟩:=σ;have l:=e.val h;simp only[cB]at r;split at r
 .rename_i b A;rw[A]at l;split at r
  .rename_i s p R;rw[mK]at R;generalize f:a.eval x=V at l;cases l with
   |uv _ u c=>
   obtain⟨i,m⟩:=h.sh.box b _ u R c;have i:=i si;obtain⟨m,O⟩:=m;have q:(ByteArray.mk s.toArray).size=s.length:=by simp[ByteArray.size]
   obtain⟨I,C⟩:=r;by_cases T:p<s.length
   .obtain⟨z,I⟩:=I s[p] (dw T);obtain⟨_,M⟩:=sj _ _ _ _ I;have F:=decode_at s p s[p] (dw T) z;have E:u∈g.bk:=cP.2 ⟨b,c⟩;have D:=Step.setIter (rl:=rl) (s':=⟨s.toArray⟩) (p':=p+1) E i m;have N:=h.sh.setIter c i (p':=p+1) m O;refine aW (v:=.tuple #[.bool true,.int .i64 p,.int .i32 s[p].toNat]) (w':={w with heap:=w.heap.setIfInBounds u (.stringIter ⟨s.toArray⟩ (p+1))}) ?_ (k _ _ g _ _ D (h.bj D N) ?_ M)
    .simp[execOp,S,f,Instr.next,getObj,Sem.run,m,q,T,F,setObj,goInt]
    .refine .b6 _ _ rfl fun j x y e t=>?_
     match j,e,t with
     |0,e,t=>simp at e t;subst e;subst t;exact VR.kH _
     |1,e,t=>
      simp at e t;subst e;subst t;refine .d _ _ (.int _ _ (yH om))
     |2,e,t=>
      simp at e t;subst e;subst t;refine .d _ _ (.int _ _ ?_);simp only[eB];omega
     |j+3,e,t=>simp at e
   .refine aW (v:=.tuple #[.bool false]) (w':=w) ?_ (k _ _ g _ _ (Step.refl g rl w) h ?_ (C om))
    .simp[execOp,S,f,Instr.next,getObj,Sem.run,m,q,T]
    .refine .b6 _ _ rfl fun j x y e t=>?_
     match j,e,t with
     |0,e,t=>simp at e t;subst e;subst t;exact VR.kH _
     |j+1,e,t=>simp at e
  .exact r.elim
 .exact r.elim
theorem Yq{mk:Nat->Nat}{aw off cap l h:Nat}(g:DR mk w (.sl xs) (.slice (some ⟨aw,off,none⟩) xs.length cap))(a:∀x,x∈xs->x.length=es)(k:l<=h)(q:h<=xs.length):
  DR mk w (.sl ((xs.take h).drop l)) (.slice (some (if cap=l then⟨aw,off,none⟩else⟨aw,off+l*es,none⟩)) (h-l) (cap-l)):=by
 rcases la g es a with⟨z,D,d⟩|⟨c,m,f,F,d,L,p,E,T,A,O,n⟩
 .grind
 .cases d;have t:((xs.take h).drop l).length=h-l:=by simp;omega
  by_cases o:cap=l
  .have I:(xs.take h).drop l=[]:=by
    apply mc;omega
   rw[if_pos o,I];have:h-l=0:=by omega
   rw[this];exact .sl [] aw off _ 0 (fun _ _=>undef) si si (fun x e=>by cases e) (by simp;omega) (fun i j N=>by simp at N) (fun i j x y e=>by simp at e)
  .rw[if_neg o];have S:h-l=((xs.take h).drop l).length:=t.symm;rw[S];have v:l*es+(h-l)*es=h*es:=by rw[<-jb];congr 1;omega
   have s:h*es<=xs.length*es:=k7 _ q;refine nN (F:=(F.take (h*es)).drop (l*es)) (es:=es) (by simp;omega) om (fun x e=>a x (Mn (List.mem_of_mem_drop e))) (by rw[t];omega) (by simp[T,Nat.sub_mul]) ?_ ?_
   .grind
   .intro i j x y e b;rw[mE,xa]at e;split at e
    .rename_i r;obtain⟨u,U,H⟩:=n _ j x y e b;refine⟨u,?_,H⟩;have C:j<es:=by have:=(bV.1 b).1;rw[a x (cP.2 ⟨_,e⟩)]at this;exact this
     have R:(l+i)*es+es<=h*es:=by have:=k7 es (JC r);rw[xf]at this;exact this
     grind
    .cases e
theorem aaS{lo hi:Option Operand}{H R:Option Arg}{D:TypeInfo}(j:o.op=.slice t x lo hi none)(q:L.P.underlying t=some (.slice e))(z:L.P.info? e=some D)(B:cQ L x ax)(E:RE L lo H)(T:RE L hi R):jM L n o (.BA D.size ax H R):=by
 intro X σ K g a w next Q h i k U;obtain⟨G,nb,bx,rl⟩:=σ;have A:=B.val h;simp only[cB]at i;obtain⟨xs,i,C⟩:=wv A _ i;obtain⟨l,i,M⟩:=CD h E _ _ i;obtain⟨F,i,r⟩:=CD h T _ _ i;obtain⟨⟨J,Z,h2,O⟩,Y⟩:=i;rcases lM C with⟨I,p,u⟩|⟨ee,et,cap,eo,f,u,hb,V,_⟩
 .subst I;have N:l=0/\F=0:=by simp at h2;omega
  obtain⟨rfl,rfl⟩:=N;have s:=ry (P:=L.P) (w:=w) (ev:=a.eval) (len:=0) (cap:=0) true M (by simpa using r) (Az _) (Az _) si;have S:DR g.bD w (.sl []) (.slice p 0 0):=by cases p with|none=>exact .slnil|some b=>exact .sle b
  refine aW (v:=.slice p 0 0) ?_ (k _ _ g _ w (Step.refl g rl w) h (.d _ _ (by simpa using S)) Y);cases p<;>simp[execOp,j,Instr.sliceAt,underlying,q,u,Instr.slice,sizeOf,typeInfo,z,s]
 .have s:=ry (P:=L.P) (w:=w) (ev:=a.eval) (len:=xs.length) (cap:=cap) true M r J Z om;have c:=C;rw[u]at c;have m:=Yq (l:=l.toNat) (h:=F.toNat) c O om om;refine aW ?_ (k _ _ g _ w (Step.refl g rl w) h (.d _ _ m) Y);by_cases y:cap=l.toNat
  .subst y;simp[execOp,j,Instr.sliceAt,underlying,q,u,Instr.slice,sizeOf,typeInfo,z,s]
  .simp[execOp,j,Instr.sliceAt,underlying,q,u,Instr.slice,sizeOf,typeInfo,z,s,y,Addr.add_lit]
theorem Bw(es:Nat):∀(n:Nat)(cs:List DV),cs.length=es*n->(chunks es n cs).length=n/\(∀x,x∈chunks es n cs->x.length=es)/\
  ∀i x,(chunks es n cs)[i]?=some x->∀j,j<es->x[j]?=cs[i*es+j]?
 |0,cs,h=>⟨rfl,fun x e=>by simp[chunks]at e,fun i x e=>by simp[chunks]at e⟩
 |m+1,cs,h=>by
  have a:(cs.drop es).length=es*m:=by simp[h,Nat.mul_succ]
  obtain⟨o,s,r⟩:=Bw es m (cs.drop es) a;have d:es<=cs.length:=by rw[h,Nat.mul_succ];omega
  refine⟨by simp[chunks,o],fun x e=>?_,fun i x e j t=>?_⟩
  .simp only[chunks,xe]at e;rcases e with rfl|e
   .simp;omega
   .exact s x e
  .cases i with
   |zero=>simp[chunks]at e;subst e;rw[jC t];simp
   |succ i=>
    simp only[chunks,AA]at e;rw[r i x e j t,mE];congr 1;rw[xf];omega
theorem Wv{cs:List DV}{aw off:Nat}{c:Nat->Value}(e:cs.length=es*m)(u:m<=gJ)(h:off+cs.length<=g.bD aw)(r:∀j,j<cs.length->w.cell? ⟨aw,off+j,none⟩=some (c j))(d:∀j y,cs[j]?=some y->DR g.bD w y (c j)):DR g.bD w (.sl (chunks es m cs)) (.slice (some ⟨aw,off,none⟩) m m):=by
 obtain⟨t,a,l⟩:=Bw es m cs e
 have:=DR.sl (mk:=g.bD) (w:=w) (chunks es m cs) aw off m es (fun i j=>c (i*es+j)) om om a (by rw[t,Ay];omega) (fun i j hi o=>by
  have:=Ac (es:=es) hi;rw[t,Ay m]at this;exact r _ om) (fun i j x y n s=>by
  have o:j<es:=by have:=(bV.1 s).1;rw[a x (cP.2 ⟨i,n⟩)]at this;exact this
  exact d _ y (by rw[<-l i x n j o];exact s))
 rw[t]at this;exact this
theorem aaQ{z:TypeInfo}(E:o.op=.slice t x none none none)(T:L.P.underlying t=some (.array m e))(A:L.P.info? e=some z)(I:m<=gJ)(N:cQ L x ax):jM L n o (.Fg z.size m ax none none):=by
 intro X σ K g a w next Q h i k O;obtain⟨S,U,C,rl⟩:=σ;have r:=N.val h;simp only[cB]at i;split at i
 .rename_i M p _ _;rw[p]at r;obtain⟨f,H⟩:=i;generalize y:a.eval x=F at r;cases r with
  |gA _ b j c q R D=>
  refine aW (v:=.slice (some ⟨b,j,none⟩) m m) ?_ (k _ _ g _ w (Step.refl g rl w) h (.d _ _ (Wv f I q R D)) H);have s:=ry (P:=L.P) (w:=w) (ev:=a.eval) (lo:=none) (hi:=none) (l:=0) (h:=m) (len:=m) (cap:=m) false (.inl ⟨rfl,rfl⟩) (.inl ⟨rfl,rfl⟩) om om om;simp only[Gn]at s;by_cases u:m=0
  .simp[execOp,E,Instr.sliceAt,underlying,T,y,Instr.sureAddr,sizeOf,typeInfo,A,u];subst u;simp[s]
  .simp[execOp,E,Instr.sliceAt,underlying,T,y,Instr.sureAddr,s,sizeOf,typeInfo,A,u,Addr.add_lit]
 .exact i.elim
theorem Ud{i:Operand}{E:Arg}{r:TypeInfo}(N:o.op=.indexAddr t x i)(S:L.P.underlying t=some (.array m e))(H:L.P.info? e=some r)(R:cQ L x ax)(hi:cQ L i E):jM L n o (.xC r.size m ax E):=by
 intro X σ K g a w next Q h s k T;obtain⟨D,Z,bx,rl⟩:=σ;have d:=R.val h;have l:=hi.val h;simp only[cB]at s;split at s
 .rename_i A kk q U C;rw[U]at d;rw[C]at l;obtain⟨u,O,M,I,F⟩:=s;obtain⟨e1,Y,e3⟩:=Bw r.size m A u;have p:=(bV.1 I).1;generalize b:a.eval x=xv at d;cases d with
  |gA _ f z c V B hv=>
  have G:q<m:=by omega
  have J:q.toNat*r.size+r.size<=A.length:=by
   have:=Ac (es:=r.size) p;grind
  have hl:=Y O (cP.2 ⟨_,I⟩);refine aW (v:=.pointer (some ⟨f,z+q.toNat*r.size,none⟩)) ?_ (k _ _ g _ w (Step.refl g rl w) h (.gA O f _ (fun j=>c (q.toNat*r.size+j)) om (fun j hj=>?_) (fun j y hy=>?_)) F)
  .simp[execOp,N,b,l.fV.1,Instr.indexAt,asIntOf,underlying,S,Instr.sureAddr,M,G,sizeOf,typeInfo,H,Addr.add_lit]
  .rw[kJ];exact B _ om
  grind
 .exact s.elim
end
end Go.Ab
