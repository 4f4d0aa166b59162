import Derived.Test.YtdcndpbmgpcgmaaGreatDoorY6
import Derived.Test.YtdcndpbmgpcgmaaGreatDoorY4
import Derived.Test.YtdcndpbmgpcgmaaGreatDoorY7
noncomputable section
namespace Go.Ab
open Go
section
variable{L:Lk}{f:Nat}{args:List AV}{nb fA:Nat}{bx cg:List Bx}{rl bz:bm}{v:AV}
theorem CT.ajD{n0:Nat}{dQ:List Bx}{bZ:bm}{v0:AV}(h:CT L f args nb bx rl v0 n0 dQ bZ)(c:cw v0 dQ bZ v fA cg bz)(n:nb<=fA)(r:rl.length<=bz.length):
  CT L f args nb bx rl v fA cg bz:=by
 intro g w t a d o;refine(h g w t a d o).mono ?_;rintro e q ⟨m,y,rfl,s,l,p⟩;obtain⟨b,k,u,j⟩:=c;have i:g.bk.length<=fA:=by rw[a.kt,<-a.nb];exact n
 refine⟨m,y.cut fA bz.length,rfl,s.cut u i r,l.cut k u j,?_⟩;have:=p.Uz b;rw[<-(uC u).1]at this;exact this
theorem Kl(k:Nat):∀e:List AV,XD k e e
 |[]=>trivial
 |_::r=>⟨.inl rfl,Kl k r⟩
theorem D7(k:Nat):∀bx:List Bx,H3 k bx bx
 |[]=>trivial
 |b::r=>⟨by cases b<;>first|exact⟨rfl,Kl k _⟩|exact rfl,D7 k r⟩
theorem bA.dE{K:AV->Nat->List Bx->bm->Prop}(e:Nat)(t:Nat.ble 1 (gw e)=true)(h:bA L f args nb bx (rl++[(0,e)]) K):bA L f args nb bx rl K:=by
 obtain⟨v,fA,cg,bz,a,o⟩:=h;exact⟨v,fA,cg,bz,CT.ghost e t (D7 _ _) a,o⟩
def T2(rl:bm)(x y:AV):Prop:=x=y\/(x=.aO [] .nil/\∃k e,y=.aO [] (.fe k)/\nth rl k=some (0,e)/\10000<=e)
def rtL(rl:bm):List AV->List AV->Prop
 |[],[]=>True
 |x::r,y::s=>T2 rl x y/\rtL rl r s
 |_,_=>False
def T1(rl:bm):AV->AV->Prop
 | .agg e,.agg t=>rtL rl e t
 |x,y=>T2 rl x y
def ad9(rl:bm):List AV->List AV->Prop
 |[],[]=>True
 |x::r,y::s=>T1 rl x y/\ad9 rl r s
 |_,_=>False
def rtT(rl:bm):AV->AV->Prop
 | .b6 e,.b6 t=>ad9 rl e t
 |x,y=>T1 rl x y
def rtB(rl:bm):Bx->Bx->Prop
 | .var t e,.var u ds=>t=u/\rtL rl e ds
 |x,y=>x=y
def B8(rl:bm):List Bx->List Bx->Prop
 |[],[]=>True
 |x::r,y::s=>rtB rl x y/\B8 rl r s
 |_,_=>False
theorem LF:∀{xs ys:List AV},rtL rl xs ys->xs.length=ys.length/\∀(j:Nat)(y:AV),ys[j]?=some y->∃x,xs[j]?=some x/\T2 rl x y
 |[],[],_=>⟨rfl,fun j y h=>by simp at h⟩
 |x::r,y::s,⟨t,a⟩=>by
  obtain⟨o,i⟩:=LF a;refine⟨by simp[o],fun j z e=>?_⟩;cases j with
  |zero=>simp at e;subst e;exact⟨x,rfl,t⟩
  |succ j=>exact i j z (by simpa using e)
 |[],_::_,h=>h.elim
 |_::_,[],h=>h.elim
theorem Om:∀{xs ys:List AV},ad9 rl xs ys->xs.length=ys.length/\∀(j:Nat)(y:AV),ys[j]?=some y->∃x,xs[j]?=some x/\T1 rl x y
 |[],[],_=>⟨rfl,fun j y h=>by simp at h⟩
 |x::r,y::s,⟨t,a⟩=>by
  obtain⟨o,i⟩:=Om a;refine⟨by simp[o],fun j z e=>?_⟩;cases j with
  |zero=>simp at e;subst e;exact⟨x,rfl,t⟩
  |succ j=>exact i j z (by simpa using e)
 |[],_::_,h=>h.elim
 |_::_,[],h=>h.elim
theorem Ol:∀{xs ys:List Bx},B8 rl xs ys->xs.length=ys.length/\∀(j:Nat)(y:Bx),ys[j]?=some y->∃x,xs[j]?=some x/\rtB rl x y
 |[],[],_=>⟨rfl,fun j y h=>by simp at h⟩
 |x::r,y::s,⟨t,a⟩=>by
  obtain⟨o,i⟩:=Ol a;refine⟨by simp[o],fun j z e=>?_⟩;cases j with
  |zero=>simp at e;subst e;exact⟨x,rfl,t⟩
  |succ j=>exact i j z (by simpa using e)
 |[],_::_,h=>h.elim
 |_::_,[],h=>h.elim
variable{g:Gh}{w:World}
theorem VR.T2(o:aY L g nb bx rl w){x y:AV}{c:Value}(h:VR L g rl w x c)(i:T2 rl x y):VR L g rl w y c:=by
 rcases i with rfl|⟨rfl,k,e,rfl,t,n⟩
 .exact h
 .rw[pn]at t;cases h with
  |aO _ _ _ s r=>
  refine .aO _ _ _ s ⟨0,e,t,n,fun x d=>(by cases d),by simp,fun _=> .inl ⟨r,?_⟩⟩;rcases(o.row k 0 e t).2 with a|⟨_,_,_,_,_,_,_,_,_,_,a,_⟩
  .exact a.1
  .omega
theorem VR.T1(a:aY L g nb bx rl w){x y:AV}{c:Value}(h:VR L g rl w x c)(e:T1 rl x y):VR L g rl w y c:=by
 unfold Ab.T1 at e;split at e
 .obtain⟨d,o⟩:=LF e;cases h with
  |agg _ l u i=>
  refine .agg _ _ om fun j y z n s=>?_
  obtain⟨x,r,t⟩:=o j y n;exact(i j x z r s).T2 a t
 .exact h.T2 a e
theorem VR.rtT(a:aY L g nb bx rl w){x y:AV}{c:Value}(h:VR L g rl w x c)(e:rtT rl x y):VR L g rl w y c:=by
 unfold Ab.rtT at e;split at e
 .obtain⟨d,o⟩:=Om e;cases h with
  |b6 _ l u i=>
  refine .b6 _ _ om fun j y z n s=>?_
  obtain⟨x,r,t⟩:=o j y n;exact(i j x z r s).T1 a t
 .exact h.T1 a e
theorem aY.B8(a:aY L g nb bx rl w)(m:B8 rl bx cg):aY L g nb cg rl w:=by
 obtain⟨d,f⟩:=Ol m;refine⟨by rw[a.nb,d],by rw[a.kt,d],?_,a.inj,a.jv,a.row,a.jI,a.fresh,a.jd,a.par⟩;intro i y o n p;obtain⟨x,b,e⟩:=f i y n;obtain⟨l,c⟩:=a.box i x o b p;unfold rtB at e;split at e
 .rename_i t N u ds;obtain⟨rfl,k⟩:=e;obtain⟨q,s⟩:=LF k;refine⟨fun _=>l si,?_⟩;obtain⟨h,z,E,S,T,A⟩:=c;refine⟨h,z,E,by omega,fun j y v n O=>?_,A⟩;obtain⟨I,r,e⟩:=s j y n;exact(T j I v r O).T2 a e
 .subst e;exact⟨l,c⟩
theorem CT.QJ(n:B8 rl bx cg){a:List Bx}(h:CT L f args nb cg rl v fA a bz):CT L f args nb bx rl v fA a bz:=
 fun g w e o i t=>h g w e (o.B8 n) i t
theorem CT.za{v0:AV}{dQ:List Bx}(h:CT L f args nb bx rl v0 fA dQ bz)(d:rtT bz v0 v)(l:B8 bz dQ cg):CT L f args nb bx rl v fA cg bz:=by
 intro g w t i n a;refine(h g w t i n a).mono ?_;rintro e m ⟨u,c,rfl,s,o,r⟩;exact⟨u,c,rfl,s,o.B8 l,r.rtT o d⟩
def pkR:Nat->bm->bm->List Nat->Prop
 |_,[],_,_=>True
 |i,(n,e)::r,(_,t)::a,k::κ=>(k=i\/(n=0/\gw t=gw e/\10000<=e/\10000<=t))/\pkR (i+1) r a κ
 |_,_,_,_=>False
theorem TU:∀{r o:bm}{κ:List Nat}{i:Nat},pkR i r o κ->∀(j n e:Nat),r[j]?=some (n,e)->∃s t k,o[j]?=some (s,t)/\κ[j]?=some k/\(k=i+j\/(n=0/\gw t=gw e/\10000<=e/\10000<=t))
 |[],_,_,_,_,j,n,e,h=>by simp at h
 |(n,e)::r,(s,t)::o,k::κ,i,⟨d,l⟩,j,m,f,h=>by
  cases j with
  |zero=>simp at h;obtain⟨rfl,rfl⟩:=h;exact⟨s,t,k,rfl,rfl,d⟩
  |succ j=>
   obtain⟨a,b,c,u,w,y⟩:=TU l j m f (by simpa using h);exact⟨a,b,c,by simpa using u,by simpa using w,by rwa [show i+1+j=i+(j+1) by omega]at y⟩
 |_::_,[],_,_,h,_,_,_,_=>h.elim
 |_::_,_::_,[],_,h,_,_,_,_=>h.elim
theorem CT.pick{n0:Nat}{a:List Bx}{bZ:bm}(ι κ:List Nat)(h:CT L f args nb bx rl (Be ι κ v) n0 (iX (mq ι κ) a) bZ)(z:ι=List.range a.length)(V:ub κ=true)(B:wf ι.length κ.length v=true)(G:kK (WU ι.length κ.length) a=true)(hr:xS bZ κ bz)(u:pkR 0 rl bz κ):CT L f args nb bx rl v n0 a bz:=by
 intro g w E U K T;refine(h g w E U K T).mono ?_;rintro e w' ⟨cv,A,rfl,s,o,hv⟩;obtain⟨J,C⟩:=CA hr;have Q:=tu V
 have M:∀b,b<ι.length->iL ι b=b:=fun b m=>by
  have:=jt m;rw[z]at this m;rw[Gf (by simpa using m)]at this;rw[z];simpa using this.symm
 have ee:ι.length=a.length:=by rw[z];simp
 have hm:∀(j:Nat)(x:Bx),a[j]?=some x->(iX (mq ι κ) a)[j]?=some (mq ι κ x):=fun j x Y=>by rw[j8,jU,Y];rfl
 have F:(iX (mq ι κ) a).length=a.length:=by rw[j8];simp
 let O:Gh:={A with rw:=κ.map fun k=>(A.rw[k]?).getD none}
 have I:∀k,k<κ.length->iL κ k<A.rw.length:=fun k u=>by
  rw[o.jv];have:k<bz.length:=by omega
  exact(bV.1 (C k _ (dw this))).1
 have r:∀k,k<κ.length->A.rw[iL κ k]?=O.rw[k]?:=fun k u=>by
  show _=(κ.map _)[k]?;rw[jU,jt u];show _=some ((A.rw[iL κ k]?).getD none);rw[dw (I k u)];rfl
 have l:∀k,k<κ.length->bZ[iL κ k]?=bz[k]?:=fun k u=>by
  have:k<bz.length:=by omega
  rw[dw this];exact C k _ (dw this)
 have R:Ren ι κ A bZ O bz:=⟨rfl,fun b m=>by rw[M b m],l,r⟩
 have y:∀b,some b∈O.rw->some b∈A.rw:=fun b m=>by
  obtain⟨k,u⟩:=cP.1 m;have t:k<κ.length:=by have:=(bV.1 u).1;simpa[O]using this
  rw[<-r k t]at u;exact cP.2 ⟨_,u⟩
 refine⟨cv,O,rfl,?_,?_,(R.val v cv B).1 hv⟩
 .refine⟨s.os,s.tape,s.output,s.size,s.bD,s.cell,s.bk,fun k n e d=>?_,s.shape,s.jz,fun b m=>s.jA b (y b m),s.frame,s.lb,s.oi⟩;obtain⟨n',e',k',q1,q2,P⟩:=TU u k n e d;have t:k<κ.length:=(bV.1 q2).1;have N:iL κ k=k':=by have:=jt t;rw[q2]at this;exact(vf this).symm
  rcases P with P|⟨P,q4,q5,q6⟩
  .have X:k'=k:=by omega
   obtain⟨n2,e2,p1,p2,p3,p4,p5,p6⟩:=s.row k n e d;rw[X]at N;have:=l k t;rw[N,p1]at this;refine⟨n2,e2,this.symm,p2,fun Z=>?_,p4,p5,p6⟩;rw[<-r k t,N];exact p3 Z
  .subst P;refine⟨n',e',q1,cr _,fun Z=>?_,q4,fun h=>by omega,fun _=>q6⟩;subst Z;have S:=(U.row k 0 e d).2;have h0:=l k t;rw[q1]at h0;have D:=(o.row _ 0 e' h0).2;rw[<-r k t];rcases S with S|⟨_,_,_,_,_,_,_,_,_,_,S,_⟩
   .rcases D with D|⟨_,_,_,_,_,_,_,_,_,_,D,_⟩
    .rw[S.1,D.1]
    .omega
   .omega
 .refine⟨by rw[o.nb,F],by rw[o.kt,F],?_,o.inj,?_,?_,?_,o.fresh,fun i=>?_,⟨o.par.fresh,o.par.bk,o.par.sep,o.par.F3⟩⟩
  .intro i x H Y t;obtain⟨p,q⟩:=o.box i _ H (hm i x Y) t;exact⟨fun hd=>p (by cases x<;>first|exact absurd rfl hd|simp[mq]),(R.box x H (mf G x (cP.2 ⟨i,Y⟩))).1 q⟩
  .show(κ.map _).length=_;rw[iT];omega
  .intro k n e d;have t:k<κ.length:=by rw[J];exact(bV.1 d).1
   rw[<-l k t]at d;obtain⟨p,q⟩:=o.row _ n e d;refine⟨p,?_⟩;rw[<-r k t];exact q
  .intro i j b hi hj;have p:i<κ.length:=by have:=(bV.1 hi).1;simpa[O]using this
   have q:j<κ.length:=by have:=(bV.1 hj).1;simpa[O]using this
   rw[<-r i p]at hi;rw[<-r j q]at hj;have he:=o.jI _ _ b hi hj;have S:=jt p;have D:=jt q;rw[he,<-D]at S;exact(Gj p Q).1 S
  .refine⟨?_,(o.jd i).2⟩;have:=(o.jd i).1;generalize (Value.pointer (some ⟨L.gn i,0,none⟩))=pv at this⊢;cases this with|gA cs H et c p q h3=>exact .gA _ _ _ _ p q h3
end
end Go.Ab
namespace Go.Ab
open Go
attribute [local irreducible] bI cf cw bW bA dk dT
variable{L:Lk}{n:Nat}
set_option maxHeartbeats 4000000
abbrev Lo(k:Nd)(i:Nat):AV:=.agg [dI k.sort,.aO (aR k.names) (.fe i),.aO (k.kids.map cK) (.fe (i+1))]
abbrev tC(ns:List ab)(ks:List Nd):bm:=[(2*(ns.length*1),20001),(2*(ks.length*3),1020003)]
def O3(L:Lk)(n:Nat):Prop:=∀(d:Int)(s:ab)(b:Bool)(k:Nd)(s':ab)(e:Bool),d=7-n->rI n s b k s' e->s.length<=800->
 CT L 220 [.ptr 0 0,dI d] 1 [fw s b] [(0,20001),(0,1020003)] (Lo k 0) 1 [fw s' e] (tC k.names k.kids)
abbrev VM(ns:List ab)(ks:List Nd):Bx:=.var 0 [dI 5,.aO (aR ns) (.fe 0),.aO (ks.map cK) (.fe 1)]
theorem afu(t:aJ L 290 UU)(hN:JL L)(r:n<=6)(a:O3 L n):∀(ns:List ab)(ks:List Nd)(s:ab)(k:Nd)(s2:ab)(e:Bool),(ns.length<=800/\ks.length<=800/\s.length<=800)->rI n (mX s false).1 (mX s false).2 k s2 e->
  CT L 290 [.ptr 0 0,.ptr 1 0,.ptr 2 0] 4 [VM ns ks,.var 0 [.ptr 3 0],.var 0 [dI (6-n)],fw s false] (tC ns ks) (.b6 []) 4 [VM (ns++[uy s]) (ks++[k]),.var 0 [.ptr 3 0],.var 0 [dI (6-n)],fw s2 e] (tC (ns++[uy s]) (ks++[k])):=by
 intro ns ks s k s2 e d h;have l:=ux s false;have o:=hN s false om;have i:=a (7-n) _ _ _ _ _ rfl h om;have u:=bl ns;have c:=dC ks;refine t.ct ?_
 repeat' ((conv=>whnf);first|rw[wrap64 om]|rw[show(6:Int)-n+1=7-n by omega]|refine ad (by rw[dC];omega) ?_|refine ad ⟨by rw[bl];omega,rfl⟩ ?_|refine ad ⟨by rw[dC];(show _*56<=_);omega,rfl⟩ ?_|refine ad ⟨by rw[bl],rfl⟩ ?_|refine ad ⟨by rw[dC],rfl⟩ ?_|refine ad (by rw[bl];rfl) ?_|refine ad (by rw[dC];rfl) ?_|refine bY ?_|refine az o [3] [] ?_|refine bA.dE 20001 rfl (bA.dE 1020003 rfl (az i [3] [2,3] ?_))|(apply dt<;>(repeat' first|(show(_:bJ)=_;simp[aR,uy,mA];done)|(refine pJ ?_ ?_<;>first|exact rfl|(simp[aR];done))|exact sz|apply And.intro);done)|fail)
def Ru(L:Lk)(n:Nat):Prop:=∀(m:Nat)(e:List ab)(t:List Nd)(s s':ab)(a:Bool),s.length<=800->
 ((cd s [125]/\e=[]/\t=[]/\s'=s.drop 1/\a=false)\/(¬cd s [125]/\ym (rI n) m [] [] s false e t s' a))->
 CT L 289 [.ptr 3 0,dS [125],.fn 290 [.ptr 0 0,.ptr 1 0,.ptr 2 0]] 4 [.var 0 [dI 5,.aO [] .nil,.aO [] .nil],.var 0 [.ptr 3 0],.var 0 [dI (6-n)],fw s false] [(0,20001),(0,1020003)] (.b6 []) 4
  [VM e t,.var 0 [.ptr 3 0],.var 0 [dI (6-n)],fw s' a] (tC e t)
theorem acJ(p:aJ L 289 J0)(t:xw L)(r:∀(ns:List ab)(ks:List Nd)(s:ab)(k:Nd)(s2:ab)(d:Bool),(ns.length<=800/\ks.length<=800/\s.length<=800)->rI n (mX s false).1 (mX s false).2 k s2 d->
  CT L 290 [.ptr 0 0,.ptr 1 0,.ptr 2 0] 4 [VM ns ks,.var 0 [.ptr 3 0],.var 0 [dI (6-n)],fw s false] (tC ns ks) (.b6 []) 4 [VM (ns++[uy s]) (ks++[k]),.var 0 [.ptr 3 0],.var 0 [dI (6-n)],fw s2 d] (tC (ns++[uy s]) (ks++[k]))):Ru L n:=by
 intro m c f s b g q h;refine CT.QJ (cg:=[VM [] [],.var 0 [.ptr 3 0],.var 0 [dI (6-n)],fw s false]) (by repeat' (first|exact trivial|exact rfl|exact Or.inl rfl|exact Or.inr ⟨rfl,_,_,rfl,rfl,by decide⟩|apply And.intro)) ?_;rcases h with⟨w,rfl,rfl,rfl,rfl⟩|⟨w,h⟩
 .refine p.ct ?_
  repeat' ((conv=>whnf);first|refine az ((t s [125] false).1 w) [3] [] ?_|exact fz|fail)
 .refine p.ct ?_
  repeat' ((conv=>whnf);first|refine az ((t s [125] false).2 w) [3] [] ?_|fail)
  all_goals(conv=>whnf)
  refine LW.gen (S:=Nat×List ab×List Nd×ab×Bool) (fun x=>x.1) (fun x=>ym (rI n) x.1 x.2.1 x.2.2.1 x.2.2.2.1 x.2.2.2.2 c f b g)
   (fun x=>⟨[(0,.ptr 3 0),(1,dS [125]),(2,.fn 290 [.ptr 0 0,.ptr 1 0,.ptr 2 0])],4,[VM x.2.1 x.2.2.1,.var 0 [.ptr 3 0],.var 0 [dI (6-n)],fw x.2.2.2.1 x.2.2.2.2],tC x.2.1 x.2.2.1⟩)
   (fun _=>⟨rfl,rfl,rfl⟩) ?_ (m,[],[],s,false) h _ lz
  rintro⟨m,ns,ks,a,z⟩ j l;cases j with
  |stop=>
   skip
   repeat' ((conv=>whnf);first|apply aq|apply bK|apply aD|apply aH|apply bp|apply aM|apply eA|apply ew|apply gQ|apply bS|rw[ca];intro _|rw[dC];intro _|rw[bl];intro _|refine bY ?_|exact fz|intro _)
  |last _ _ _ k s2 d o i e=>
   dsimp only at o i e
   repeat' ((conv=>whnf);first|refine cX (r ns ks a k _ _ o i) [0,1,2,3] [0,1] rfl ⟨rfl,rfl,rfl,rfl,trivial⟩ (And.intro rfl (And.intro rfl trivial)) ?_|refine ck ((t _ [125] _).1 e) [3] [] rfl ⟨rfl,trivial⟩ ?_|exact fz|fail)
  |step m _ _ _ k s2 d E T _ _ _ _ o i e v u=>
   dsimp only at o i e v u l;rcases v with⟨rfl,rfl,rfl⟩|⟨rfl,y,rfl,rfl⟩|⟨rfl,y,rfl,rfl⟩
   .skip
    repeat' ((conv=>whnf);first|refine cX (r ns ks a k _ _ o i) [0,1,2,3] [0,1] rfl ⟨rfl,rfl,rfl,rfl,trivial⟩ (And.intro rfl (And.intro rfl trivial)) ?_|refine ck ((t _ [125] _).2 e) [3] [] rfl ⟨rfl,trivial⟩ ?_|refine l (m,ns++[uy a],ks++[k],_,true) _ (tT _) u lz|fail)
   .skip
    repeat' ((conv=>whnf);first|refine cX (r ns ks a k _ _ o i) [0,1,2,3] [0,1] rfl ⟨rfl,rfl,rfl,rfl,trivial⟩ (And.intro rfl (And.intro rfl trivial)) ?_|refine ck ((t _ [125] _).2 e) [3] [] rfl ⟨rfl,trivial⟩ ?_|refine ck ((t _ [44] _).1 y) [3] [] rfl ⟨rfl,trivial⟩ ?_|refine l (m,ns++[uy a],ks++[k],_,false) _ (tT _) u lz|fail)
   .skip
    repeat' ((conv=>whnf);first|refine cX (r ns ks a k _ _ o i) [0,1,2,3] [0,1] rfl ⟨rfl,rfl,rfl,rfl,trivial⟩ (And.intro rfl (And.intro rfl trivial)) ?_|refine ck ((t _ [125] _).2 e) [3] [] rfl ⟨rfl,trivial⟩ ?_|refine ck ((t _ [44] _).2 y) [3] [] rfl ⟨rfl,trivial⟩ ?_|refine l (m,ns++[uy a],ks++[k],_,true) _ (tT _) u lz|fail)
theorem fJ(rl:bm):∀t:List Bx,B8 rl t t
 |[]=>trivial
 |b::r=>by
  have a:∀e:List AV,rtL rl e e:=fun e=>by
   induction e with
   |nil=>trivial
   |cons x r o=>exact⟨.inl rfl,o⟩
  exact⟨by cases b<;>first|exact⟨rfl,a _⟩|exact rfl,fJ rl r⟩
theorem acK(a:aJ L 220 abC)(e:xw L)(hN:JL L)(v:aJ L 290 UU)(g:aJ L 289 J0):∀n,n<=7->O3 L n:=by
 intro n
 induction n with
 |zero=>
  intro T d s b k t w A h O;obtain⟨rfl,rfl,rfl⟩:=h;refine CT.za (v0:=.agg [dI 0,.aO [] .nil,.aO [] .nil]) (dQ:=[fw t true]) ?_ tE (fJ _ _);refine a.ct ?_
  repeat' ((conv=>whnf);first|exact xo|apply aq|exact fz|intro _)
 |succ n j=>
  intro T d s b k t w A h O;have x:=j om;have I:Ru L n:=acJ g e (afu v hN om x);have N:d=6-n:=by omega
  subst N;have p:(6:Int)-n+1=7-n:=by omega
  rcases h with⟨rfl,rfl,rfl,rfl⟩|⟨rfl,⟨z,r,P,V,h,S,rfl⟩|⟨o,H,r,h,rfl⟩|⟨o,i,R,h⟩|⟨o,i,l,D,rfl,rfl,rfl⟩|⟨o,i,l,y,U,rfl,rfl,rfl⟩|⟨o,i,l,y,E,C,rfl,rfl,rfl⟩|⟨o,i,l,y,E,M,rfl,rfl,rfl⟩⟩
  .refine CT.za (v0:=.agg [dI 0,.aO [] .nil,.aO [] .nil]) (dQ:=[fw t true]) ?_ tE (fJ _ _);refine a.ct ?_
   repeat' ((conv=>whnf);first|exact xo|apply aq|exact fz|intro _)
  .have u:=x _ _ _ _ _ _ rfl h (by simp;omega);refine CT.za (v0:=.agg [dI 4,.aO [] .nil,.aO [cK r] (.fe 1)]) (dQ:=[fw t w]) ?_ tE (fJ _ _);refine CT.pick [0] [0,4] (bZ:=[(0,20001),(0,1020003),(2*(r.names.length*1),30001),(2*(r.kids.length*3),1030003),(6,1020003)]) ?_ rfl rfl rfl rfl (And.intro rfl (And.intro rfl trivial)) ⟨.inl rfl,.inr ⟨rfl,rfl,by decide,by decide⟩,trivial⟩;rcases S with⟨rfl,rfl,rfl⟩|⟨rfl,q,rfl,rfl⟩|⟨rfl,q,rfl,rfl⟩
   .refine a.ct ?_
    repeat' ((conv=>whnf);first|exact xo|rw[wrap64 om]|rw[p]|refine ad (by rw[bl];rfl) ?_|refine ad (by rw[dC];rfl) ?_|apply aq|refine bY ?_|refine az ((e s [91] false).1 z) [0] [] ?_|refine bA.dE 20001 rfl (bA.dE 1020003 rfl (az u [0] [2,3] ?_))|exact fx|intro _)
   .refine a.ct ?_
    repeat' ((conv=>whnf);first|exact xo|rw[wrap64 om]|rw[p]|refine ad (by rw[bl];rfl) ?_|refine ad (by rw[dC];rfl) ?_|apply aq|refine bY ?_|refine az ((e s [91] false).1 z) [0] [] ?_|refine bA.dE 20001 rfl (bA.dE 1020003 rfl (az u [0] [2,3] ?_))|refine ck ((e _ [93] _).1 q) [0] [] rfl ⟨rfl,trivial⟩ ?_|exact fx|intro _)
   .refine a.ct ?_
    repeat' ((conv=>whnf);first|exact xo|rw[wrap64 om]|rw[p]|refine ad (by rw[bl];rfl) ?_|refine ad (by rw[dC];rfl) ?_|apply aq|refine bY ?_|refine az ((e s [91] false).1 z) [0] [] ?_|refine bA.dE 20001 rfl (bA.dE 1020003 rfl (az u [0] [2,3] ?_))|refine ck ((e _ [93] _).2 q) [0] [] rfl ⟨rfl,trivial⟩ ?_|exact fx|intro _)
  .have u:=x _ _ _ _ _ _ rfl h (by simp;omega);refine CT.za (v0:=.agg [dI 6,.aO [] .nil,.aO [cK r] (.fe 1)]) (dQ:=[fw t w]) ?_ tE (fJ _ _);refine CT.pick [0] [0,4] (bZ:=[(0,20001),(0,1020003),(2*(r.names.length*1),30001),(2*(r.kids.length*3),1030003),(6,1020003)]) ?_ rfl rfl rfl rfl (And.intro rfl (And.intro rfl trivial)) ⟨.inl rfl,.inr ⟨rfl,rfl,by decide,by decide⟩,trivial⟩;refine a.ct ?_
   repeat' ((conv=>whnf);first|exact xo|rw[wrap64 om]|rw[p]|refine ad (by rw[bl];rfl) ?_|refine ad (by rw[dC];rfl) ?_|apply aq|refine bY ?_|refine az ((e s [91] false).2 o) [0] [] ?_|refine az ((e s [63] false).1 H) [0] [] ?_|refine bA.dE 20001 rfl (bA.dE 1020003 rfl (az u [0] [2,3] ?_))|exact fx|intro _)
  .have F:∃m c f,((cd (s.drop 1) [125]/\c=[]/\f=[]/\t=(s.drop 1).drop 1/\w=false)\/(¬cd (s.drop 1) [125]/\ym (rI n) m [] [] (s.drop 1) false c f t w))/\k=.mk 5 0 [] c f:=by
    rcases h with⟨q,rfl,rfl,rfl⟩|⟨q,m,c,f,h,rfl⟩
    .exact⟨0,[],[],.inl ⟨q,rfl,rfl,rfl,rfl⟩,rfl⟩
    .exact⟨m,c,f,.inr ⟨q,h⟩,rfl⟩
   obtain⟨m,c,f,Y,rfl⟩:=F;have u:=I m c f (s.drop 1) t w (by simp;omega) Y;refine a.ct ?_
   repeat' ((conv=>whnf);first|exact xo|apply aq|refine az ((e s [91] false).2 o) [0] [] ?_|refine az ((e s [63] false).2 i) [0] [] ?_|refine az ((e s [123] false).1 R) [0] [] ?_|refine az u [4,1,2,0] [0,1] ?_|exact fx|intro _)
  .refine CT.za (v0:=.agg [dI 1,.aO [] .nil,.aO [] .nil]) (dQ:=[fw (s.drop 3) false]) ?_ tE (fJ _ _);refine a.ct ?_
   repeat' ((conv=>whnf);first|exact xo|apply aq|refine az ((e s [91] false).2 o) [0] [] ?_|refine az ((e s [63] false).2 i) [0] [] ?_|refine az ((e s [123] false).2 l) [0] [] ?_|refine az ((e s [110,117,109] false).1 D) [0] [] ?_|exact fz|intro _)
  .refine CT.za (v0:=.agg [dI 2,.aO [] .nil,.aO [] .nil]) (dQ:=[fw (s.drop 4) false]) ?_ tE (fJ _ _);refine a.ct ?_
   repeat' ((conv=>whnf);first|exact xo|apply aq|refine az ((e s [91] false).2 o) [0] [] ?_|refine az ((e s [63] false).2 i) [0] [] ?_|refine az ((e s [123] false).2 l) [0] [] ?_|refine az ((e s [110,117,109] false).2 y) [0] [] ?_|refine az ((e s [116,101,120,116] false).1 U) [0] [] ?_|exact fz|intro _)
  .refine CT.za (v0:=.agg [dI 3,.aO [] .nil,.aO [] .nil]) (dQ:=[fw (s.drop 4) false]) ?_ tE (fJ _ _);refine a.ct ?_
   repeat' ((conv=>whnf);first|exact xo|apply aq|refine az ((e s [91] false).2 o) [0] [] ?_|refine az ((e s [63] false).2 i) [0] [] ?_|refine az ((e s [123] false).2 l) [0] [] ?_|refine az ((e s [110,117,109] false).2 y) [0] [] ?_|refine az ((e s [116,101,120,116] false).2 E) [0] [] ?_|refine az ((e s [102,108,97,103] false).1 C) [0] [] ?_|exact fz|intro _)
  .refine CT.za (v0:=.agg [dI 0,.aO [] .nil,.aO [] .nil]) (dQ:=[fw t true]) ?_ tE (fJ _ _);refine a.ct ?_
   repeat' ((conv=>whnf);first|exact xo|apply aq|refine az ((e t [91] false).2 o) [0] [] ?_|refine az ((e t [63] false).2 i) [0] [] ?_|refine az ((e t [123] false).2 l) [0] [] ?_|refine az ((e t [110,117,109] false).2 y) [0] [] ?_|refine az ((e t [116,101,120,116] false).2 E) [0] [] ?_|refine az ((e t [102,108,97,103] false).2 M) [0] [] ?_|exact fz|intro _)
end Go.Ab
namespace Go.Ab
open Go
variable{s:ab}{nv:ab->Int}
instance (s w:ab):Decidable (cd s w):=by unfold cd;infer_instance
def rL(s m:ab):Nat:=(s.takeWhile fun x=> !m.contains x).length
theorem Jd(s m:ab):rL s m<=s.length:=by
 unfold rL
 induction s with
 |nil=>simp
 |cons x r e=>
  simp only[List.takeWhile];split
  .simp only[aZ];omega
  .simp
theorem Xr(u r m:ab)(h:∀x,x∈u->x∉m)(a:r=[]\/∃x e,r=x::e/\x∈m):rL (u++r) m=u.length:=by
 unfold rL
 induction u with
 |nil=>
  rcases a with rfl|⟨x,e,rfl,o⟩
  .simp
  .simp[o]
 |cons x t i=>
  have n:=h x si;have:=i fun y s=>h y (by simp[s])
  simp[n];simpa using this
def isNum(s:ab):Prop:=∃n:Int,eB .i64 n/\dec n=s
def gS(P:ab->Bool->Nd×ab×Bool)(nm:Bool)(s:ab):Nd×ab×Bool:=if nm=true then P (mX s false).1 (mX s false).2 else P s false
def qa(nm:Bool)(ns:List ab)(s:ab):List ab:=if nm=true then ns++[uy s]else ns
def FP(P:ab->Bool->Nd×ab×Bool)(nm:Bool)(c:UInt8):Nat->List ab->List Nd->ab->Bool->List ab×List Nd×ab×Bool
 |0,e,t,s,b=>(e,t,s,b)
 |f+1,e,t,s,b=>
  if b=true then(e,t,s,true)else
  if cd (gS P nm s).2.1 [c]then(qa nm e s,t++[(gS P nm s).1],(gS P nm s).2.1.drop 1,(gS P nm s).2.2)
  else if(gS P nm s).2.2=true\/¬cd (gS P nm s).2.1 [44]then(qa nm e s,t++[(gS P nm s).1],(gS P nm s).2.1,true)
  else FP P nm c f (qa nm e s) (t++[(gS P nm s).1]) ((gS P nm s).2.1.drop 1) false
theorem QF(P:ab->Bool->Nd×ab×Bool)(nm:Bool)(c:UInt8)(f:Nat)(ns:List ab)(ks:List Nd)(s:ab):FP P nm c (f+1) ns ks s false=
  if cd (gS P nm s).2.1 [c]then(qa nm ns s,ks++[(gS P nm s).1],(gS P nm s).2.1.drop 1,(gS P nm s).2.2)
  else if(gS P nm s).2.2=true\/¬cd (gS P nm s).2.1 [44]then(qa nm ns s,ks++[(gS P nm s).1],(gS P nm s).2.1,true)
  else FP P nm c f (qa nm ns s) (ks++[(gS P nm s).1]) ((gS P nm s).2.1.drop 1) false:=by
 rw[FP,if_neg si]
theorem ad1(P:ab->Bool->Nd×ab×Bool)(nm:Bool)(c:UInt8)(f:Nat)(ns:List ab)(ks:List Nd)(s:ab):FP P nm c (f+1) ns ks s true=(ns,ks,s,true):=by
 rw[FP,if_pos rfl]
open Classical in
def se(P:ab->Bool->Nd×ab×Bool)(nm:Bool)(c:UInt8)(s:ab):List ab×List Nd×ab×Bool:=
 if cd s [c]then([],[],s.drop 1,false)else FP P nm c (s.length+1) [] [] s false
def Ai:ab:=[44,93,125]
def pT(nv:ab->Int):Nat->ab->Bool->Nd×ab×Bool
 |0,s,_=>(bX,s,true)
 |n+1,s,b=>
  if b=true then(bX,s,true)else
  if cd s [91]then(.mk 4 0 [] (se (pT nv n) false 93 (s.drop 1)).1 (se (pT nv n) false 93 (s.drop 1)).2.1,(se (pT nv n) false 93 (s.drop 1)).2.2.1,(se (pT nv n) false 93 (s.drop 1)).2.2.2)else
  if cd s [123]then(.mk 5 0 [] (se (pT nv n) true 125 (s.drop 1)).1 (se (pT nv n) true 125 (s.drop 1)).2.1,(se (pT nv n) true 125 (s.drop 1)).2.2.1,(se (pT nv n) true 125 (s.drop 1)).2.2.2)else
  if cd s [126]then(.mk 6 0 [] [] [],s.drop 1,false)else
  if cd s [63]then(.mk 6 0 [] [] [(pT nv n (s.drop 1) false).1],(pT nv n (s.drop 1) false).2.1,(pT nv n (s.drop 1) false).2.2)else
  if cd s [34]then(.mk 2 0 ((s.drop 1).take (cl (s.drop 1) 34)) [] [],if cd ((s.drop 1).drop (cl (s.drop 1) 34)) [34]then((s.drop 1).drop (cl (s.drop 1) 34)).drop 1 else(s.drop 1).drop (cl (s.drop 1) 34),!pb (cd ((s.drop 1).drop (cl (s.drop 1) 34)) [34]))else
  if cd s [121,101,115]then(.mk 3 1 [] [] [],s.drop 3,false)else
  if cd s [110,111]then(.mk 3 0 [] [] [],s.drop 2,false)else
  (.mk 1 (nv (s.take (rL s Ai))) [] [] [],s.drop (rL s Ai),!pb (isNum (s.take (rL s Ai))))
theorem ad0{P:ab->Bool->Nd×ab×Bool}(hP:∀s b,(P s b).2.1.length<=s.length)(nm:Bool)(c:UInt8):∀f e t s b,(FP P nm c f e t s b).2.2.1.length<=s.length:=by
 intro f
 induction f with
 |zero=>intro e t s b;exact aQ _
 |succ f a=>
  intro e t s b
  have o:(gS P nm s).2.1.length<=s.length:=by
   unfold gS;split
   .have:=hP (mX s false).1 (mX s false).2;have:=ux s false;omega
   .exact hP _ _
  cases b with
  |true=>rw[ad1];exact aQ _
  |false=>
   rw[QF];split
   .simp;omega
   .split
    .exact o
    .have:=a (qa nm e s) (t++[(gS P nm s).1]) ((gS P nm s).2.1.drop 1) false;simp at this⊢;omega
theorem TX{P:ab->Bool->Nd×ab×Bool}(hP:∀s b,(P s b).2.1.length<=s.length)(nm:Bool)(c:UInt8)(s:ab):(se P nm c s).2.2.1.length<=s.length:=by
 unfold se;split
 .simp
 .exact ad0 hP nm c _ _ _ _ _
theorem Ye(nv:ab->Int):∀n s b,(pT nv n s b).2.1.length<=s.length:=by
 intro n
 induction n with
 |zero=>intro s b;exact aQ _
 |succ n e=>
  intro s b;unfold pT;have t:=TX e false 93 (s.drop 1);have a:=TX e true 125 (s.drop 1);have o:=e (s.drop 1) false;simp only[tR]at t a o
  repeat' split
  all_goals(try dsimp only)
  all_goals(try simp only[tR])
  all_goals omega
def Dx:List ab->ab
 |[]=>[]
 |[x]=>x
 |x::y::r=>x++[44]++Dx (y::r)
theorem NP:∀(l:List ab)(x:ab),l≠[]->Dx (l++[x])=Dx l++[44]++x
 |[],_,h=>absurd rfl h
 |[y],x,_=>rfl
 |y::z::r,x,_=>by
  have:=NP (z::r) x si;show y++[44]++Dx (z::r++[x])=_;rw[this];simp[Dx]
def GV(e:Bool)(ns t:List ab)(j:Nat):ab:=(match e with|true=>ns.getD j []++[58]|false=>[])++t.getD j []
theorem NQ(e:Bool)(ns t:List ab):∀i,bQ e ns t i=Dx ((List.range i).map (GV e ns t)):=by
 intro i
 induction i with
 |zero=>rfl
 |succ i a=>
  rw[List.range_succ,sE];cases i with
  |zero=>
   cases e<;>simp[bQ,Dx,GV]
  |succ i=>
   rw[sG,AK,NP _ _ si,<-a];cases e<;>simp[bQ,GV]
theorem Oj{P:ab->Bool->Nd×ab×Bool}{nm:Bool}{c:UInt8}(m:c≠44)(r:ab):∀(l:List (ab×Nd×ab)),l≠[]->∀f a o,l.length<=f->
  (∀x,x∈l->∀i,gS P nm (x.2.2++(44::i))=(x.2.1,44::i,false)/\gS P nm (x.2.2++(c::i))=(x.2.1,c::i,false)/\(nm=true->∀t,uy (x.2.2++t)=x.1))->
  FP P nm c f a o (Dx (l.map fun x=>x.2.2)++(c::r)) false=(if nm=true then a++l.map (fun x=>x.1)else a,o++l.map (fun x=>x.2.1),r,false)
 |[],h,_,_,_,_,_=>absurd rfl h
 |[x],_,f,a,o,n,s=>by
  obtain⟨f,rfl⟩:∃g,f=g+1:=⟨f-1,by simp at n;omega⟩;obtain⟨_,p,d⟩:=s x si r;show FP P nm c (f+1) a o (x.2.2++(c::r)) false=_
  have u:qa nm a (x.2.2++(c::r))=if nm=true then a++[x.1]else a:=by
   unfold qa;split
   .rename_i h;rw[d h]
   .rfl
  rw[QF,p,if_pos (show cd (c::r) [c]from iq [c] r),u];rfl
 |x::y::l,_,f,a,o,n,s=>by
  obtain⟨f,rfl⟩:∃g,f=g+1:=⟨f-1,by simp at n;omega⟩
  have e:Dx ((x::y::l).map fun x=>x.2.2)++(c::r)=x.2.2++(44::(Dx ((y::l).map fun x=>x.2.2)++(c::r))):=by
   show x.2.2++[44]++Dx (y.2.2::l.map _)++_=_;simp
  rw[e];generalize v:Dx ((y::l).map fun x=>x.2.2)++(c::r)=t;obtain⟨b,_,d⟩:=s x si t
  have u:qa nm a (x.2.2++(44::t))=if nm=true then a++[x.1]else a:=by
   unfold qa;split
   .rename_i h;rw[d h]
   .rfl
  rw[QF,b,if_neg (show¬cd (44::t) [c]from cY (k8 m)),if_neg (show¬((false=true)\/¬cd (44::t) [44])from fun h=>h.elim (fun h=>by cases h) fun h=>h (iq [44] t)),u];have:=Oj m r (y::l) si f (if nm=true then a++[x.1]else a) (o++[x.2.1]) (by simp at n⊢;omega) fun z w=>s z (by simp at w⊢;exact .inr w)
  rw[v]at this;show FP P nm c f _ _ t false=_;rw[this];cases nm<;>simp
theorem XZ:∀(l:List ab),(∀x,x∈l->x≠[])->l.length<=(Dx l).length
 |[],_=>aQ _
 |[x],h=>by have:=Co.2 (h x si);show 1<=x.length;exact this
 |x::y::r,h=>by
  have a:=Co.2 (h x si);have t:=XZ (y::r) fun z e=>h z (by simp at e⊢;exact .inr e)
  simp[Dx]at t⊢;omega
theorem Oi{P:ab->Bool->Nd×ab×Bool}{nm:Bool}{c:UInt8}(h:c≠44)(r:ab)(l:List (ab×Nd×ab))(s:∀x,x∈l->∃a b,x.2.2=a::b/\a≠c)(d:∀x,x∈l->∀o,gS P nm (x.2.2++(44::o))=(x.2.1,44::o,false)/\gS P nm (x.2.2++(c::o))=(x.2.1,c::o,false)/\(nm=true->∀t,uy (x.2.2++t)=x.1)):
  se P nm c (Dx (l.map fun x=>x.2.2)++(c::r))=(if nm=true then l.map (fun x=>x.1)else[],l.map (fun x=>x.2.1),r,false):=by
 unfold se;cases l with
 |nil=>
  rw[if_pos (by exact iq [c] r)];cases nm<;>rfl
 |cons x l=>
  obtain⟨a,b,e,i⟩:=s x si
  have n:∃t,Dx ((x::l).map fun x=>x.2.2)++(c::r)=a::t:=by
   cases l with
   |nil=>exact⟨b++c::r,by show x.2.2++_=_;rw[e];rfl⟩
   |cons y l=>exact⟨_,by show x.2.2++[44]++_++_=_;rw[e];rfl⟩
  obtain⟨t,n⟩:=n;rw[if_neg (by rw[n];exact cY i)]
  have u:=XZ ((x::l).map fun x=>x.2.2) fun z m=>by
   obtain⟨w,f,rfl⟩:=lH.1 m;obtain⟨a,b,e,_⟩:=s w f;rw[e];simp
  rw[Oj h r (x::l) si _ [] [] (by simp at u⊢;omega) d];cases nm<;>simp
theorem Nn:∀n x,x∈iI n->48<=x.toNat/\x.toNat<=57:=by
 intro n
 induction n using Nat.strongRecOn with
 |ind n t=>
  intro x e;rw[iI]at e;split at e
  .rw[dP.1 e,Gi];omega
  .rename_i a;rcases nA.1 e with e|e
   .exact t _ om x e
   .rw[dP.1 e,Gi];omega
theorem Fj(n:Int):∀x,x∈dec n->x.toNat=45\/(48<=x.toNat/\x.toNat<=57):=by
 intro x e;unfold dec at e;split at e
 .rcases xe.1 e with rfl|e
  .exact .inl rfl
  .exact .inr (Nn _ x e)
 .exact .inr (Nn _ x e)
theorem abc{t:Nd}:∃a b,cM t=a::b/\a≠93/\a≠125:=by
 have o:∀n:Int,∃a b,dec n=a::b/\a≠93/\a≠125:=fun n=>by
  cases e:dec n with
  |nil=>exact absurd e (zG n)
  |cons a b=>
   have:=Fj n a (by rw[e];simp);refine⟨a,b,rfl,fun h=>?_,fun h=>?_⟩<;>(rw[h]at this;revert this;decide)
 rw[qL];split
 .exact o _
 split
 .exact⟨_,_,rfl,by decide,by decide⟩
 split
 .split
  .exact⟨_,_,rfl,by decide,by decide⟩
  .exact⟨_,_,rfl,by decide,by decide⟩
 split
 .split
  .exact⟨_,_,rfl,by decide,by decide⟩
  .exact⟨_,_,rfl,by decide,by decide⟩
 split
 .exact⟨_,_,rfl,by decide,by decide⟩
 .exact⟨_,_,rfl,by decide,by decide⟩
def akY(r:ab):Prop:=r=[]\/∃x e,r=x::e/\(x=44\/x=93\/x=125)
theorem WQ(h:C9 s):∀x,x∈s->x≠34:=by
 intro x a e;obtain⟨i,t,rfl⟩:=HT a;have:=h.2 i t t;unfold xA at this;rw[e]at this;have:(34:UInt8).toNat=34:=rfl;omega
theorem abM(t r:ab)(h:∀x,x∈t->x≠34):cl (t++34::r) 34=t.length:=by
 unfold cl
 induction t with
 |nil=>simp
 |cons x t e=>
  have a:=h x si;have:=e fun y o=>h y (by simp[o])
  simp[a];simpa using this
theorem Ao(a:UInt8)(r:ab):cd (a::r) [a]:=iq [a] r
theorem qC(nv:ab->Int)(n:Nat)(s:ab):pT nv (n+1) s false=
  if cd s [91]then(.mk 4 0 [] (se (pT nv n) false 93 (s.drop 1)).1 (se (pT nv n) false 93 (s.drop 1)).2.1,(se (pT nv n) false 93 (s.drop 1)).2.2.1,(se (pT nv n) false 93 (s.drop 1)).2.2.2)else
  if cd s [123]then(.mk 5 0 [] (se (pT nv n) true 125 (s.drop 1)).1 (se (pT nv n) true 125 (s.drop 1)).2.1,(se (pT nv n) true 125 (s.drop 1)).2.2.1,(se (pT nv n) true 125 (s.drop 1)).2.2.2)else
  if cd s [126]then(.mk 6 0 [] [] [],s.drop 1,false)else
  if cd s [63]then(.mk 6 0 [] [] [(pT nv n (s.drop 1) false).1],(pT nv n (s.drop 1) false).2.1,(pT nv n (s.drop 1) false).2.2)else
  if cd s [34]then(.mk 2 0 ((s.drop 1).take (cl (s.drop 1) 34)) [] [],if cd ((s.drop 1).drop (cl (s.drop 1) 34)) [34]then((s.drop 1).drop (cl (s.drop 1) 34)).drop 1 else(s.drop 1).drop (cl (s.drop 1) 34),!pb (cd ((s.drop 1).drop (cl (s.drop 1) 34)) [34]))else
  if cd s [121,101,115]then(.mk 3 1 [] [] [],s.drop 3,false)else
  if cd s [110,111]then(.mk 3 0 [] [] [],s.drop 2,false)else
  (.mk 1 (nv (s.take (rL s Ai))) [] [] [],s.drop (rL s Ai),!pb (isNum (s.take (rL s Ai)))):=by
 rw[pT,if_neg si]
theorem Lq(G:∀n:Int,eB .i64 n->nv (dec n)=n):∀(t:Nd)(d:Int)(n:Nat)(r:ab),pw d t->d=7-n->akY r->pT nv n (cM t++r) false=(t,r,false):=by
 refine Nd.ind fun t K=>fun d n r J hn hr=>?_
 obtain⟨ei,v⟩:=r8 J;obtain⟨n,rfl⟩:∃m,n=m+1:=⟨n-1,by omega⟩;obtain⟨A,p,tx,f,o⟩:=t;have e:=Q4 A p tx f o;unfold mg at v;simp only[Nd.sort,Nd.num,Nd.text,Nd.names,Nd.kids]at v K;have u:∀{α:Type}{l:List α},l.length=0->l=[]:=fun h=>mc h
 by_cases V:A=1
 .rw[if_pos V]at e
  obtain⟨_,eo,rfl,y,g⟩:A=1/\(-999999999<=p/\p<=999999999)/\tx=[]/\f.length=0/\o.length=0:=by
   rcases v with h|h|h|h|h|h
   .exact h
   all_goals omega
  obtain rfl:=u y;obtain rfl:=u g;subst V;rw[e,qC];have U:eB .i64 p:=by unfold eB;simp only;omega
  have C:=Fj p
  have R:rL (dec p++r) Ai=(dec p).length:=Xr _ _ _ (fun x O Q=>by
   have:=C x O;unfold Ai at Q;simp only[xe,List.not_mem_nil,or_false]at Q;rcases Q with rfl|rfl|rfl<;>(revert this;decide)) (by
   rcases hr with rfl|⟨x,z,rfl,O⟩
   .exact .inl rfl
   .exact .inr ⟨x,z,rfl,by unfold Ai;simp;exact O⟩)
  have E:∀(c:UInt8)(w:ab),c.toNat≠45->¬(48<=c.toNat/\c.toNat<=57)->¬cd (dec p++r) (c::w):=fun c w V B=>by
   cases M:dec p with
   |nil=>exact absurd M (zG p)
   |cons a b=>
    have:=C a (by rw[M];simp);exact cY fun e=>by rw[e]at this;omega
  rw[if_neg (E _ _ de de),if_neg (E _ _ de de),if_neg (E _ _ de de),if_neg (E _ _ de de),if_neg (E _ _ de de),if_neg (E _ _ de de),if_neg (E _ _ de de),R,
   Df rfl,ET rfl,G p U,iA ⟨p,U,rfl⟩]
  rfl
 rw[if_neg V]at e;by_cases B:A=2
 .rw[if_pos B]at e
  obtain⟨_,rfl,X,y,g⟩:A=2/\p=0/\C9 tx/\f.length=0/\o.length=0:=by
   rcases v with h|h|h|h|h|h
   .omega
   .exact h
   all_goals omega
  obtain rfl:=u y;obtain rfl:=u g;subst B;have I:cM (.mk 2 0 tx [] [])++r=34::(tx++34::r):=by rw[e];simp
  rw[I,qC,if_neg (cY de),if_neg (cY de),if_neg (cY de),if_neg (cY de),if_pos (Ao 34 _)];have R:=abM tx r (WQ X);rw[show(34::(tx++34::r)).drop 1=tx++34::r from rfl,R,Df rfl,ET rfl,if_pos (Ao 34 r),iA (Ao 34 r)];rfl
 rw[if_neg B]at e;by_cases Z:A=3
 .rw[if_pos Z]at e
  obtain⟨_,ed,rfl,y,g⟩:A=3/\(0<=p/\p<=1)/\tx=[]/\f.length=0/\o.length=0:=by
   rcases v with h|h|h|h|h|h
   .omega
   .omega
   .exact h
   all_goals omega
  obtain rfl:=u y;obtain rfl:=u g;subst Z;by_cases h0:p=1
  .subst h0;rw[if_pos rfl]at e;have I:cM (.mk 3 1 [] [] [])++r=121::101::115::r:=by rw[e];rfl
   rw[I,qC];rw[if_neg (cY de),if_neg (cY de),if_neg (cY de),if_neg (cY de),if_neg (cY de),if_pos (show cd (121::101::115::r) _ from iq [121,101,115] r)];rfl
  .obtain rfl:p=0:=by omega
   rw[if_neg h0]at e;have I:cM (.mk 3 0 [] [] [])++r=110::111::r:=by rw[e];rfl
   rw[I,qC];rw[if_neg (cY de),if_neg (cY de),if_neg (cY de),if_neg (cY de),if_neg (cY de),if_neg (cY de),if_pos (show cd (110::111::r) _ from iq [110,111] r)];rfl
 rw[if_neg Z]at e;by_cases h6:A=6
 .rw[if_pos h6]at e
  obtain⟨_,rfl,rfl,y,g⟩:A=6/\p=0/\tx=[]/\f.length=0/\o.length<=1:=by
   rcases v with h|h|h|h|h|h
   all_goals first|exact h|omega
  obtain rfl:=u y;subst h6;by_cases hk:o.length=0
  .obtain rfl:=u hk;rw[if_pos (show([]:List Nd).length=0 from rfl)]at e;have I:cM (.mk 6 0 [] [] [])++r=126::r:=by rw[e];rfl
   rw[I,qC,if_neg (cY de),if_neg (cY de),if_pos (Ao 126 r)];rfl
  .rw[if_neg hk]at e
   match o,hk,g with
   |[k],_,_=>
    have q:=K k si (d+1) n r (wN (t:=.mk 6 0 [] [] [k]) J (i:=0) (by simp[Nd.kids])) om hr;have I:cM (.mk 6 0 [] [] [k])++r=63::(cM k++r):=by rw[e];simp
    rw[I,qC,if_neg (cY de),if_neg (cY de),if_neg (cY de),if_pos (Ao 63 _),show(63::(cM k++r)).drop 1=cM k++r from rfl,q]
 rw[if_neg h6]at e;have gd:∀(j:Nat)(s:j<o.length),(o.map cM).getD j []=cM o[j]:=fun j s=>by simp[List.getD,s]
 have T:∀(j:Nat)(s:j<o.length)(x:UInt8)(z:ab),(x=44\/x=93\/x=125)->pT nv n (cM o[j]++(x::z)) false=(o[j],x::z,false):=fun j s x z O=>
  K o[j] (eu s) (d+1) n (x::z) (wN (t:=.mk A p tx f o) J s) om (.inr ⟨x,z,rfl,O⟩)
 by_cases h5:A=5
 .rw[if_pos h5]at e
  obtain⟨_,rfl,rfl,y,H⟩:A=5/\p=0/\tx=[]/\f.length=o.length/\wS f:=by
   rcases v with h|h|h|h|h|h
   all_goals first|exact h|omega
  subst h5;have F:∀(j:Nat)(s:j<o.length),f.getD j []=f[j]'om:=fun j s=>by simp[List.getD,show j<f.length by omega]
  let l:List (ab×Nd×ab):=(List.range o.length).map fun j=>(f.getD j [],o.getD j bX,GV true f (o.map cM) j)
  have hl:l.map (fun x=>x.2.2)=(List.range o.length).map (GV true f (o.map cM)):=by simp[l]
  have ee:l.map (fun x=>x.1)=f:=by
   apply Dd (by simp[l,y]);intro j a b;simp only[l,List.getElem_map,List.getElem_range];exact F j om
  have D:l.map (fun x=>x.2.1)=o:=by
   apply Dd (by simp[l]);intro j a b;simp[l,List.getD,b]
  have q:=Oi (P:=pT nv n) (nm:=true) (c:=125) de r l (fun x O=>by
   obtain⟨j,s,rfl⟩:=lH.1 O;have s:=rb.1 s;have N:=(H j om om).1;have et:f.getD j []≠[]:=by rw[F j s];exact fun e=>by have:=N.1.1;rw[e]at this;simp at this
   cases S:f.getD j []with
   |nil=>exact absurd S et
   |cons a b=>
    refine⟨a,b++[58]++(o.map cM).getD j [],by simp only[GV];rw[S];simp only[yg,ga],fun e=>?_⟩;rw[F j s]at S;have:=(N.2 0 (by rw[S];simp) (by rw[S];simp)).1;simp only[S,yf]at this;unfold Bv rK at this;rw[e]at this;revert this;decide) (fun x O z=>by
   obtain⟨j,s,rfl⟩:=lH.1 O;have s:=rb.1 s;have N:=(H j om om).1;have L:∀t,GV true f (o.map cM) j++t=f[j]'om++[58]++(cM o[j]++t):=fun t=>by simp only[GV];rw[F j s,gd j s];simp
   dsimp only;have Y:o.getD j bX=o[j]:=by simp[List.getD,s]
   refine⟨?_,?_,fun _ t=>?_⟩
   .obtain⟨g1,g2⟩:=yN (r:=cM o[j]++(44::z)) N;rw[L];unfold gS;rw[if_pos rfl,g1,Y];exact T j s 44 z si
   .obtain⟨g1,g2⟩:=yN (r:=cM o[j]++(125::z)) N;rw[L];unfold gS;rw[if_pos rfl,g1,Y];exact T j s 125 z si
   .rw[L,(yN N).2,F j s])
  rw[hl,ee,D,if_pos rfl,<-NQ]at q;have I:cM (.mk 5 0 [] f o)++r=123::(bQ true f (o.map cM) o.length++125::r):=by rw[e];simp
  rw[I,qC,if_neg (cY de),if_pos (Ao 123 _),show(123::(bQ true f (o.map cM) o.length++125::r)).drop 1=bQ true f (o.map cM) o.length++125::r from rfl,q]
 rw[if_neg h5]at e
 obtain⟨h4,rfl,rfl,y,_⟩:A=4/\p=0/\tx=[]/\f.length=0/\o.length<=20:=by
  rcases v with h|h|h|h|h|h
  all_goals first|exact h|omega
 obtain rfl:=u y;subst h4;let l:List (ab×Nd×ab):=(List.range o.length).map fun j=>([],o.getD j bX,GV false [] (o.map cM) j)
 have hl:l.map (fun x=>x.2.2)=(List.range o.length).map (GV false [] (o.map cM)):=by simp[l]
 have D:l.map (fun x=>x.2.1)=o:=by
  apply Dd (by simp[l]);intro j a b;simp[l,List.getD,b]
 have q:=Oi (P:=pT nv n) (nm:=false) (c:=93) de r l (fun x O=>by
  obtain⟨j,s,rfl⟩:=lH.1 O;have s:=rb.1 s;obtain⟨a,b,q1,q2,_⟩:=abc (t:=o[j]);exact⟨a,b,by simp only[GV,Cr];rw[gd j s,q1],q2⟩) (fun x O z=>by
  obtain⟨j,s,rfl⟩:=lH.1 O;have s:=rb.1 s;have L:∀t,GV false [] (o.map cM) j++t=cM o[j]++t:=fun t=>by simp only[GV];rw[gd j s];simp
  have Y:o.getD j bX=o[j]:=by simp[List.getD,s]
  refine⟨?_,?_,fun h=>by cases h⟩
  .dsimp only;rw[L,Y];exact T j s 44 z si
  .dsimp only;rw[L,Y];exact T j s 93 z si)
 rw[hl,D,if_neg si,<-NQ]at q;have I:cM (.mk 4 0 [] [] o)++r=91::(bQ false [] (o.map cM) o.length++93::r):=by rw[e];simp
 rw[I,qC,if_pos (Ao 91 _),show(91::(bQ false [] (o.map cM) o.length++93::r)).drop 1=bQ false [] (o.map cM) o.length++93::r from rfl,q]
end Go.Ab
namespace Go.Ab
open Go
attribute [local irreducible] bI cf cw bW bA dk dT
variable{L:Lk}{n:Nat}{nv:ab->Int}
set_option maxHeartbeats 4000000
theorem R4(s:ab)(c:UInt8):rL s [c]=cl s c:=by
 unfold rL cl;congr 2;funext x;by_cases h:x=c<;>simp[h]
def xW(s m:ab):Int:=if rL s m<s.length then(rL s m:Int)else -1
def Gz(L:Lk)(m:ab):Prop:=∀(s:ab)(b:Bool),s.length<=1000000->CT L 328 [.ptr 0 0,dS m] 1 [fw s b] [] (dS (s.take (rL s m))) 1 [fw (s.drop (rL s m)) b] []
theorem NV(a:aJ L 328 abJ)(m:ab)(o:∀s:ab,s.length<=1000000->CP L 338 [dS s,dS m] (dI (xW s m))):Gz L m:=by
 intro s b i;have r:=Jd s m;by_cases h:rL s m<s.length
 .have e:xW s m=(rL s m:Int):=by rw[xW,if_pos h]
  have t:=o s i;rw[e]at t;refine a.ct ?_
  repeat' ((conv=>whnf);first|refine bY ?_|refine ak t ?_|exact xo|exact fx|fail)
 .have e:xW s m=-1:=by rw[xW,if_neg h]
  have t:=o s i;rw[e]at t;have n:rL s m=s.length:=by omega
  rw[n];refine a.ct ?_
  repeat' ((conv=>whnf);first|refine bY ?_|refine ak t ?_|exact xo|exact fx|intro _)
def sO(L:Lk)(nv:ab->Int):Prop:=∀s:ab,s.length<=1000000->eB .i64 (nv s)/\CP L 268 [dS s] (.b6 [dI (nv s),dB (pb (isNum s))])
abbrev AR(t:Nd)(i:Nat):AV:=.agg [dI t.sort,dI t.num,dS t.text,.aO (aR t.names) (.fe i),.aO (t.kids.map cT) (.fe (i+1))]
abbrev qT(ns:List ab)(ks:List Nd):bm:=[(2*(ns.length*1),20001),(2*(ks.length*5),1120005)]
def W9(L:Lk)(nv:ab->Int)(n:Nat):Prop:=∀(d:Int)(s:ab)(b:Bool),d=7-n->s.length<=10000->
 CT L 266 [.ptr 0 0,dI d] 1 [fw s b] [(0,20001),(0,1120005)] (AR (pT nv n s b).1 0) 1 [fw (pT nv n s b).2.1 (pT nv n s b).2.2] (qT (pT nv n s b).1.names (pT nv n s b).1.kids)
abbrev QY(so:Int)(ns:List ab)(ks:List Nd):Bx:=.var 0 [dI so,dI 0,dS [],.aO (aR ns) (.fe 0),.aO (ks.map cT) (.fe 1)]
theorem adp(e:aJ L 326 abH)(h:n<=6)(t:W9 L nv n)(ns:List ab)(ks:List Nd)(s:ab)(r:ks.length<=10001/\s.length<=10000):
  CT L 326 [.ptr 0 0,.ptr 1 0,.ptr 2 0] 4 [QY 4 ns ks,.var 0 [.ptr 3 0],.var 0 [dI (6-n)],fw s false] (qT ns ks) (.b6 []) 4
   [QY 4 (qa false ns s) (ks++[(gS (pT nv n) false s).1]),.var 0 [.ptr 3 0],.var 0 [dI (6-n)],fw (gS (pT nv n) false s).2.1 (gS (pT nv n) false s).2.2] (qT (qa false ns s) (ks++[(gS (pT nv n) false s).1])):=by
 have a:=t (7-n) s false rfl om;have o:gS (pT nv n) false s=pT nv n s false:=if_neg si;have i:qa false ns s=ns:=if_neg si;rw[o,i];generalize pT nv n s false=z at*;have d:=ca ks;refine e.ct ?_
 repeat' ((conv=>whnf);first|rw[wrap64 om]|rw[show(6:Int)-n+1=7-n by omega]|refine ad (by rw[ca];omega) ?_|refine ad ⟨by rw[ca];(show _*80<=_);omega,rfl⟩ ?_|refine ad ⟨by rw[ca],rfl⟩ ?_|refine ad (by rw[bl];rfl) ?_|refine ad (by rw[ca];rfl) ?_|refine bY ?_|refine bA.dE 20001 rfl (bA.dE 1120005 rfl (az a [3] [2,3] ?_))|(apply dt<;>(repeat' first|(refine pJ ?_ ?_<;>first|exact rfl|(simp;done))|exact sx|apply And.intro);done)|fail)
theorem adq(e:aJ L 327 abI)(hN:JL L)(r:n<=6)(t:W9 L nv n)(ns:List ab)(ks:List Nd)(s:ab)(d:ns.length<=10001/\ks.length<=10001/\s.length<=10000):
  CT L 327 [.ptr 0 0,.ptr 1 0,.ptr 2 0] 4 [QY 5 ns ks,.var 0 [.ptr 3 0],.var 0 [dI (6-n)],fw s false] (qT ns ks) (.b6 []) 4
   [QY 5 (qa true ns s) (ks++[(gS (pT nv n) true s).1]),.var 0 [.ptr 3 0],.var 0 [dI (6-n)],fw (gS (pT nv n) true s).2.1 (gS (pT nv n) true s).2.2] (qT (qa true ns s) (ks++[(gS (pT nv n) true s).1])):=by
 have l:=ux s false;have a:=hN s false om;have o:=t (7-n) (mX s false).1 (mX s false).2 rfl om;have i:gS (pT nv n) true s=pT nv n (mX s false).1 (mX s false).2:=if_pos rfl;have h:qa true ns s=ns++[uy s]:=if_pos rfl;rw[i,h];generalize pT nv n (mX s false).1 (mX s false).2=z at*;have u:=ca ks;have c:=bl ns;refine e.ct ?_
 repeat' ((conv=>whnf);first|rw[wrap64 om]|rw[show(6:Int)-n+1=7-n by omega]|refine ad (by rw[ca];omega) ?_|refine ad ⟨by rw[bl];omega,rfl⟩ ?_|refine ad ⟨by rw[ca];(show _*80<=_);omega,rfl⟩ ?_|refine ad ⟨by rw[bl],rfl⟩ ?_|refine ad ⟨by rw[ca],rfl⟩ ?_|refine ad (by rw[bl];rfl) ?_|refine ad (by rw[ca];rfl) ?_|refine bY ?_|refine az a [3] [] ?_|refine bA.dE 20001 rfl (bA.dE 1120005 rfl (az o [3] [2,3] ?_))|(apply dt<;>(repeat' first|(show(_:bJ)=_;simp[DQ,aR,uy];done)|(refine pJ ?_ ?_<;>first|exact rfl|(simp[aR];done))|exact sz|apply And.intro);done)|fail)
theorem QG(P:ab->Bool->Nd×ab×Bool)(nm:Bool)(c:UInt8)(f:Nat)(ns:List ab)(ks:List Nd)(s:ab):FP P nm c f ns ks s true=(ns,ks,s,true):=by
 cases f with
 |zero=>rfl
 |succ f=>exact ad1 P nm c f ns ks s
structure RdI(P:ab->Bool->Nd×ab×Bool)(nm:Bool)(c:UInt8)(R:List ab×List Nd×ab×Bool)(x:Nat×List ab×List Nd×ab×Bool):Prop where
 run:FP P nm c x.1 x.2.1 x.2.2.1 x.2.2.2.1 x.2.2.2.2=R
 fuel:x.2.2.2.2=false->x.2.2.2.1.length<x.1
 len:x.2.1.length+x.2.2.2.1.length<=10000/\x.2.2.1.length+x.2.2.2.1.length<=10000\/x.2.2.2.2=true
theorem aah(nm:Bool)(ns:List ab)(s:ab):(qa nm ns s).length<=ns.length+1:=by
 unfold qa;split<;>simp
theorem Tr(p:aJ L 289 J0)(i:xw L){P:ab->Bool->Nd×ab×Bool}(hP:∀s b,(P s b).2.1.length<=s.length){nm:Bool}{c:UInt8}{fn:Nat}{so lv:Int}(v:∀(ns:List ab)(ks:List Nd)(s:ab),ns.length<=10001/\ks.length<=10001/\s.length<=10000->CT L fn [.ptr 0 0,.ptr 1 0,.ptr 2 0] 4 [QY so ns ks,.var 0 [.ptr 3 0],.var 0 [dI lv],fw s false] (qT ns ks) (.b6 []) 4
   [QY so (qa nm ns s) (ks++[(gS P nm s).1]),.var 0 [.ptr 3 0],.var 0 [dI lv],fw (gS P nm s).2.1 (gS P nm s).2.2] (qT (qa nm ns s) (ks++[(gS P nm s).1])))(s:ab)(N:s.length<=9999):
  CT L 289 [.ptr 3 0,dS [c],.fn fn [.ptr 0 0,.ptr 1 0,.ptr 2 0]] 4 [.var 0 [dI so,dI 0,dS [],.aO [] .nil,.aO [] .nil],.var 0 [.ptr 3 0],.var 0 [dI lv],fw s false] [(0,20001),(0,1120005)] (.b6 []) 4
   [QY so (se P nm c s).1 (se P nm c s).2.1,.var 0 [.ptr 3 0],.var 0 [dI lv],fw (se P nm c s).2.2.1 (se P nm c s).2.2.2] (qT (se P nm c s).1 (se P nm c s).2.1):=by
 refine CT.QJ (cg:=[QY so [] [],.var 0 [.ptr 3 0],.var 0 [dI lv],fw s false]) tE ?_;unfold se;by_cases w:cd s [c]
 .rw[if_pos w];refine p.ct ?_
  repeat' ((conv=>whnf);first|refine az ((i s [c] false).1 w) [3] [] ?_|exact fz|fail)
 .rw[if_neg w];generalize j:FP P nm c (s.length+1) [] [] s false=R;refine p.ct ?_
  repeat' ((conv=>whnf);first|refine az ((i s [c] false).2 w) [3] [] ?_|fail)
  all_goals(conv=>whnf)
  refine LW.gen (S:=Nat×List ab×List Nd×ab×Bool) (fun x=>x.1) (RdI P nm c R)
   (fun x=>⟨[(0,.ptr 3 0),(1,dS [c]),(2,.fn fn [.ptr 0 0,.ptr 1 0,.ptr 2 0])],4,[QY so x.2.1 x.2.2.1,.var 0 [.ptr 3 0],.var 0 [dI lv],fw x.2.2.2.1 x.2.2.2.2],qT x.2.1 x.2.2.1⟩)
   (fun _=>⟨rfl,rfl,rfl⟩) ?_ (s.length+1,[],[],s,false) ⟨j,fun _=>tT _,.inl ⟨by simp;omega,by simp;omega⟩⟩ _ lz
  rintro⟨f,ns,ks,o,q⟩ d y;obtain⟨e,l,n⟩:=d;dsimp only at e l n y;cases q with
  |true=>
   rw[QG]at e;subst e
   repeat' ((conv=>whnf);first|apply aq|apply bK|apply aD|apply aH|apply bp|apply aM|apply eA|apply ew|apply gQ|apply bS|rw[ca];intro _|rw[dC];intro _|rw[bl];intro _|refine bY ?_|exact fz|intro _)
  |false=>
   have l:=l rfl;obtain⟨E,T⟩:=n.resolve_right si;obtain⟨f,rfl⟩:∃g,f=g+1:=⟨f-1,by omega⟩;have u:=v ns ks o ⟨by omega,by omega,by omega⟩
   have A:(gS P nm o).2.1.length<=o.length:=by
    unfold gS;split
    .have:=hP (mX o false).1 (mX o false).2;have:=ux o false;omega
    .exact hP _ _
   have O:=aah nm ns o;rw[QF]at e;generalize qa nm ns o=t at*;generalize gS P nm o=z at*;obtain⟨k,r,I⟩:=z;dsimp only at e A u;by_cases a:cd r [c]
   .rw[if_pos a]at e;subst e
    repeat' ((conv=>whnf);first|refine az u [0,1,2,3] [0,1] ?_|refine ck ((i _ [c] _).1 a) [3] [] rfl ⟨rfl,trivial⟩ ?_|exact fz|fail)
   rw[if_neg a]at e;cases I with
   |true=>
    rw[if_pos (.inl rfl)]at e;have d:RdI P nm c R (f,t,ks++[k],r,true):=⟨by rw[QG];exact e,fun h=>by(cases h),.inr rfl⟩
    repeat' ((conv=>whnf);first|refine az u [0,1,2,3] [0,1] ?_|refine ck ((i _ [c] _).2 a) [3] [] rfl ⟨rfl,trivial⟩ ?_|refine y (f,t,ks++[k],r,true) _ (tT _) d lz|fail)
   |false=>
    by_cases m:cd r [44]
    .rw[if_neg (fun h=>h.elim (fun h=>by cases h) fun h=>h m)]at e;have:=m.1;simp at this;have d:RdI P nm c R (f,t,ks++[k],r.drop 1,false):=⟨e,fun _=>by simp;omega,.inl ⟨by simp;omega,by simp;omega⟩⟩
     repeat' ((conv=>whnf);first|refine az u [0,1,2,3] [0,1] ?_|refine ck ((i _ [c] _).2 a) [3] [] rfl ⟨rfl,trivial⟩ ?_|refine ck ((i _ [44] _).1 m) [3] [] rfl ⟨rfl,trivial⟩ ?_|refine y (f,t,ks++[k],r.drop 1,false) _ (tT _) d lz|fail)
    .rw[if_pos (.inr m)]at e;have d:RdI P nm c R (f,t,ks++[k],r,true):=⟨by rw[QG];exact e,fun h=>by(cases h),.inr rfl⟩
     repeat' ((conv=>whnf);first|refine az u [0,1,2,3] [0,1] ?_|refine ck ((i _ [c] _).2 a) [3] [] rfl ⟨rfl,trivial⟩ ?_|refine ck ((i _ [44] _).2 m) [3] [] rfl ⟨rfl,trivial⟩ ?_|refine y (f,t,ks++[k],r,true) _ (tT _) d lz|fail)
theorem adg(o:aJ L 266 ahd)(t:xw L)(hN:JL L)(x:aJ L 326 abH)(E:aJ L 327 abI)(g:aJ L 289 J0)(T:Gz L [34])(A:Gz L Ai)(D:sO L nv):∀n,n<=7->W9 L nv n:=by
 intro n
 induction n with
 |zero=>
  intro U d s b C M;refine CT.za (v0:=.agg [dI 0,dI 0,dS [],.aO [] .nil,.aO [] .nil]) (dQ:=[fw s true]) ?_ tE (fJ _ _);refine o.ct ?_
  repeat' ((conv=>whnf);first|exact xo|apply aq|exact fz|intro _)
 |succ n O=>
  intro U d s b C M;have I:=O om;have F:d=6-n:=by omega
  subst F;have Y:(6:Int)-n+1=7-n:=by omega
  cases b with
  |true=>
   have e:pT nv (n+1) s true=(bX,s,true):=by rw[pT,if_pos rfl]
   rw[e];refine CT.za (v0:=.agg [dI 0,dI 0,dS [],.aO [] .nil,.aO [] .nil]) (dQ:=[fw s true]) ?_ tE (fJ _ _);refine o.ct ?_
   repeat' ((conv=>whnf);first|exact xo|apply aq|exact fz|intro _)
  |false=>
   rw[qC];by_cases a:cd s [91]
   .rw[if_pos a];have N:=a.1;simp at N;have k:=Tr g t (Ye nv n) (nm:=false) (c:=93) (so:=4) (lv:=6-n) (fun S H s h=>adp x om I S H s ⟨h.2.1,h.2.2⟩) (s.drop 1) (by simp;omega);generalize se (pT nv n) false 93 (s.drop 1)=z at*;refine o.ct ?_
    repeat' ((conv=>whnf);first|exact xo|apply aq|refine az ((t s [91] false).1 a) [0] [] ?_|refine az k [4,1,2,0] [0,1] ?_|exact fz|intro _)
   rw[if_neg a];by_cases i:cd s [123]
   .rw[if_pos i];have N:=i.1;simp at N;have k:=Tr g t (Ye nv n) (nm:=true) (c:=125) (so:=5) (lv:=6-n) (fun S H s h=>adq E hN om I S H s h) (s.drop 1) (by simp;omega);generalize se (pT nv n) true 125 (s.drop 1)=z at*;refine o.ct ?_
    repeat' ((conv=>whnf);first|exact xo|apply aq|refine az ((t s [91] false).2 a) [0] [] ?_|refine az ((t s [123] false).1 i) [0] [] ?_|refine az k [4,1,2,0] [0,1] ?_|exact fz|intro _)
   rw[if_neg i];by_cases r:cd s [126]
   .rw[if_pos r];refine CT.za (v0:=.agg [dI 6,dI 0,dS [],.aO [] .nil,.aO [] .nil]) (dQ:=[fw (s.drop 1) false]) ?_ tE (fJ _ _);refine o.ct ?_
    repeat' ((conv=>whnf);first|exact xo|apply aq|refine az ((t s [91] false).2 a) [0] [] ?_|refine az ((t s [123] false).2 i) [0] [] ?_|refine az ((t s [126] false).1 r) [0] [] ?_|exact fz|intro _)
   rw[if_neg r];by_cases l:cd s [63]
   .rw[if_pos l];have k:=I (7-n) (s.drop 1) false rfl (by simp;omega);generalize pT nv n (s.drop 1) false=z at*;refine CT.za (v0:=.agg [dI 6,dI 0,dS [],.aO [] .nil,.aO [cT z.1] (.fe 1)]) (dQ:=[fw z.2.1 z.2.2]) ?_ tE (fJ _ _);refine CT.pick [0] [0,4] (bZ:=[(0,20001),(0,1120005),(2*(z.1.names.length*1),30001),(2*(z.1.kids.length*5),1130005),(10,1120005)]) ?_ rfl rfl rfl rfl (And.intro rfl (And.intro rfl trivial)) ⟨.inl rfl,.inr ⟨rfl,rfl,by decide,by decide⟩,trivial⟩;refine o.ct ?_
    repeat' ((conv=>whnf);first|exact xo|rw[wrap64 om]|rw[Y]|refine ad (by rw[bl];rfl) ?_|refine ad (by rw[ca];rfl) ?_|apply aq|refine bY ?_|refine az ((t s [91] false).2 a) [0] [] ?_|refine az ((t s [123] false).2 i) [0] [] ?_|refine az ((t s [126] false).2 r) [0] [] ?_|refine az ((t s [63] false).1 l) [0] [] ?_|refine bA.dE 20001 rfl (bA.dE 1120005 rfl (az k [0] [2,3] ?_))|exact fx|intro _)
   rw[if_neg l];by_cases m:cd s [34]
   .rw[if_pos m];have f:=T (s.drop 1) false (by simp;omega);rw[R4]at f;generalize (s.drop 1).drop (cl (s.drop 1) 34)=v at*;generalize (s.drop 1).take (cl (s.drop 1) 34)=w at*;refine CT.za (v0:=.agg [dI 2,dI 0,dS w,.aO [] .nil,.aO [] .nil]) (dQ:=[fw (if cd v [34]then v.drop 1 else v) (!pb (cd v [34]))]) ?_ tE (fJ _ _);by_cases y:cd v [34]
    .rw[if_pos y,iA y];refine o.ct ?_
     repeat' ((conv=>whnf);first|exact xo|apply aq|refine bY ?_|refine az ((t s [91] false).2 a) [0] [] ?_|refine az ((t s [123] false).2 i) [0] [] ?_|refine az ((t s [126] false).2 r) [0] [] ?_|refine az ((t s [63] false).2 l) [0] [] ?_|refine az ((t s [34] false).1 m) [0] [] ?_|refine az f [0] [] ?_|refine az ((t v [34] false).1 y) [0] [] ?_|exact fz|intro _)
    .rw[if_neg y,ig y];refine o.ct ?_
     repeat' ((conv=>whnf);first|exact xo|apply aq|refine bY ?_|refine az ((t s [91] false).2 a) [0] [] ?_|refine az ((t s [123] false).2 i) [0] [] ?_|refine az ((t s [126] false).2 r) [0] [] ?_|refine az ((t s [63] false).2 l) [0] [] ?_|refine az ((t s [34] false).1 m) [0] [] ?_|refine az f [0] [] ?_|refine az ((t v [34] false).2 y) [0] [] ?_|exact fz|intro _)
   rw[if_neg m];by_cases p:cd s [121,101,115]
   .rw[if_pos p];refine CT.za (v0:=.agg [dI 3,dI 1,dS [],.aO [] .nil,.aO [] .nil]) (dQ:=[fw (s.drop 3) false]) ?_ tE (fJ _ _);refine o.ct ?_
    repeat' ((conv=>whnf);first|exact xo|apply aq|refine az ((t s [91] false).2 a) [0] [] ?_|refine az ((t s [123] false).2 i) [0] [] ?_|refine az ((t s [126] false).2 r) [0] [] ?_|refine az ((t s [63] false).2 l) [0] [] ?_|refine az ((t s [34] false).2 m) [0] [] ?_|refine az ((t s [121,101,115] false).1 p) [0] [] ?_|exact fz|intro _)
   rw[if_neg p];by_cases j:cd s [110,111]
   .rw[if_pos j];refine CT.za (v0:=.agg [dI 3,dI 0,dS [],.aO [] .nil,.aO [] .nil]) (dQ:=[fw (s.drop 2) false]) ?_ tE (fJ _ _);refine o.ct ?_
    repeat' ((conv=>whnf);first|exact xo|apply aq|refine az ((t s [91] false).2 a) [0] [] ?_|refine az ((t s [123] false).2 i) [0] [] ?_|refine az ((t s [126] false).2 r) [0] [] ?_|refine az ((t s [63] false).2 l) [0] [] ?_|refine az ((t s [34] false).2 m) [0] [] ?_|refine az ((t s [121,101,115] false).2 p) [0] [] ?_|refine az ((t s [110,111] false).1 j) [0] [] ?_|exact fz|intro _)
   rw[if_neg j];have f:=A s false om;have P:=Jd s Ai;obtain⟨_,q⟩:=D (s.take (rL s Ai)) (by simp;omega);generalize s.drop (rL s Ai)=u at*;generalize s.take (rL s Ai)=v at*;refine CT.za (v0:=.agg [dI 1,dI (nv v),dS [],.aO [] .nil,.aO [] .nil]) (dQ:=[fw u (!pb (isNum v))]) ?_ tE (fJ _ _);by_cases R:isNum v
   .rw[iA R]at q⊢;refine o.ct ?_
    repeat' ((conv=>whnf);first|exact xo|apply aq|refine bY ?_|refine az ((t s [91] false).2 a) [0] [] ?_|refine az ((t s [123] false).2 i) [0] [] ?_|refine az ((t s [126] false).2 r) [0] [] ?_|refine az ((t s [63] false).2 l) [0] [] ?_|refine az ((t s [34] false).2 m) [0] [] ?_|refine az ((t s [121,101,115] false).2 p) [0] [] ?_|refine az ((t s [110,111] false).2 j) [0] [] ?_|refine az f [0] [] ?_|refine ak q ?_|exact fz|intro _)
   .rw[ig R]at q⊢;refine o.ct ?_
    repeat' ((conv=>whnf);first|exact xo|apply aq|refine bY ?_|refine az ((t s [91] false).2 a) [0] [] ?_|refine az ((t s [123] false).2 i) [0] [] ?_|refine az ((t s [126] false).2 r) [0] [] ?_|refine az ((t s [63] false).2 l) [0] [] ?_|refine az ((t s [34] false).2 m) [0] [] ?_|refine az ((t s [121,101,115] false).2 p) [0] [] ?_|refine az ((t s [110,111] false).2 j) [0] [] ?_|refine az f [0] [] ?_|refine ak q ?_|exact fz|intro _)
def vu(L:Lk)(f:Nat):Prop:=∀s:ab,CT L f [dS s] 0 [] [(0,20001),(0,1120005)] (.b6 [AR ((fX s).getD bX) 0,dB ((fX s).isSome)]) 0 [] (qT ((fX s).getD bX).names ((fX s).getD bX).kids)
theorem afM(nv:ab->Int)(n:Nat):(pT nv (n+1) [] false).2.2=true:=by
 have e:∀x w,¬cd [] (x::w):=fun x w h=>by have:=h.1;simp at this
 rw[qC,if_neg (e _ _),if_neg (e _ _),if_neg (e _ _),if_neg (e _ _),if_neg (e _ _),if_neg (e _ _),if_neg (e _ _)];have:¬isNum []:=fun⟨n,_,h⟩=>zG n h
 show(!pb (isNum (List.take _ [])))=true;rw[List.take_nil,ig this];rfl
theorem agb{t:Nd}(h:jk t):(cM t).length<=8640:=by
 have e:=uE t 1 h.1;have a:=h.2;omega
theorem Qk(d:aJ L 200 agS)(c:∀n:Int,eB .i64 n->nv (dec n)=n)(p:∀n,n<=7->W9 L nv n)(m:∀t:Nd,(jk t->CP L 267 [aT t] (dS (cM t)))/\(¬jk t->CP L 267 [aT t] (dS []))):vu L 200:=by
 intro s;unfold fX;split
 .rename_i v;obtain⟨a,f⟩:=v.choose_spec;generalize v.choose=t at*;have l:=agb a;rw[f]at l;have b:=Lq c t 1 6 [] a.1 rfl (.inl rfl);rw[oe,f]at b;have i:=p 6 om 1 s false rfl om;rw[b]at i;have r:=(m t).1 a;rw[f]at r;show CT L 200 _ 0 [] _ (.b6 [AR t 0,dB true]) 0 [] (qT t.names t.kids);refine CT.pick [] [2,3] (bZ:=[(0,20001),(0,1120005),(2*(t.names.length*1),20001),(2*(t.kids.length*5),1120005)]) ?_ rfl rfl rfl rfl (And.intro rfl (And.intro rfl trivial)) ⟨.inr ⟨rfl,rfl,by decide,by decide⟩,.inr ⟨rfl,rfl,by decide,by decide⟩,trivial⟩;refine d.ct ?_
  repeat' ((conv=>whnf);first|exact xc|apply aq|apply aH|apply aM|refine bA.dE 20001 rfl (bA.dE 1120005 rfl (az i [1] [2,3] ?_))|refine ak (CP.pu r) ?_|exact fz|exfalso;simp at*;done|intro _)
 .rename_i w;show CT L 200 _ 0 [] _ (.b6 [AR bX 0,dB false]) 0 [] (qT [] []);refine CT.za (v0:=.b6 [.agg [dI 0,dI 0,dS [],.aO [] .nil,.aO [] .nil],dB false]) (dQ:=[]) ?_ tE (fJ _ _);by_cases g:s.length<=10000
  .have i:=p 6 om 1 s false rfl g;have u:=afM nv 5;have o:∀t:Nd,(pT nv 6 s false).2.2=false->s≠[]:=fun _ h e=>by rw[e,u]at h;cases h
   generalize pT nv 6 s false=z at*;obtain⟨t,j,y⟩:=z;have k:y=true\/y=false:=by cases y<;>simp
   rcases k with rfl|rfl
   .refine d.ct ?_
    repeat' ((conv=>whnf);first|exact xo|apply aq|refine bA.dE 20001 rfl (bA.dE 1120005 rfl (az i [1] [2,3] ?_))|exact fz|intro _)
   .have o:=o t rfl;by_cases a:jk t
    .have r:=(m t).1 a;refine d.ct ?_
     repeat' ((conv=>whnf);first|exact xo|apply aq|apply aH|apply aM|refine bA.dE 20001 rfl (bA.dE 1120005 rfl (az i [1] [2,3] ?_))|refine ak (CP.pu r) ?_|exact fz|exact absurd ⟨t,a,by assumption⟩ w|intro _)
    .have r:=(m t).2 a;refine d.ct ?_
     repeat' ((conv=>whnf);first|exact xo|apply aq|apply aH|apply aM|refine bA.dE 20001 rfl (bA.dE 1120005 rfl (az i [1] [2,3] ?_))|refine ak (CP.pu r) ?_|exact fz|exact absurd (Eq.symm asm) o|intro _)
  .refine d.ct ?_
   repeat' ((conv=>whnf);first|exact xo|apply aq|exact fz|intro _)
def OZ(L:Lk):Prop:=∀(s:ab)(c:UInt8),c.toNat<128->s.length<=1000000->CP L 122 [dS s,dS [c]] (.b6 [dS (s.take (cl s c)),dS (s.drop (cl s c+1)),dB (pb (cl s c<s.length))])
def O1(L:Lk):Prop:=∀(s:ab)(c:UInt8),s.length<=1000000->CP L 269 [dS s,.d (.int .u8 c.toNat)] (dI (nV s c))
theorem Xt(t r:ab)(c:UInt8)(h:∀x,x∈t->x≠c):cl (t++c::r) c=t.length:=by
 unfold cl
 induction t with
 |nil=>simp
 |cons x t e=>
  have a:=h x si;have:=e fun y o=>h y (by simp[o])
  simp[a];simpa using this
theorem LX(e:∀n:Int,eB .i64 n->nv (dec n)=n){t:Nd}(h:jk t):fX (cM t)=some t:=by
 unfold fX;have a:∃i,jk i/\cM i=cM t:=⟨t,h,rfl⟩;rw[dif_pos a];obtain⟨r,d⟩:=a.choose_spec;have s:=Lq e t 1 6 [] h.1 rfl (.inl rfl);have o:=Lq e a.choose 1 6 [] r.1 rfl (.inl rfl);rw[oe]at s o;rw[d,s]at o;exact congrArg some (Prod.mk.inj o).1.symm
abbrev adM(e:Ev)(i:Nat):AV:=.agg [dS e.xq,dI e.pC,dI e.body.sort,dI e.body.num,dS e.body.text,.aO (aR e.body.names) (.fe i),.aO (e.body.kids.map cT) (.fe (i+1))]
def DF(L:Lk)(f:Nat):Prop:=∀s:ab,s.length<=1000000->CT L f [dS s] 0 [] [(0,20001),(0,1120005)] (.b6 [adM ((ic s).getD pV) 0,dB ((ic s).isSome)]) 0 [] (qT ((ic s).getD pV).body.names ((ic s).getD pV).body.kids)
theorem My(p:aJ L 203 c203)(b:∀n:Int,eB .i64 n->nv (dec n)=n)(Q:OZ L)(F:O1 L)(hN:sO L nv)(Y:vu L 200)(P:∀e:Ev,(ir e->CP L 270 [.agg (av (eD e))] (dS (DD e)))/\(¬ir e->CP L 270 [.agg (av (eD e))] (dS []))):DF L 203:=by
 intro s I;have o:=Q s 64 de I;unfold ic;split
 .rename_i V;obtain⟨N,S⟩:=V.choose_spec;generalize V.choose=e at*;have g:=Up N;rw[S]at g;obtain⟨X,h2,Z,h4⟩:=id N;have c:s=e.xq++64::(dec e.pC++cM e.body):=by rw[<-S];simp[DD]
  have k:∀x,x∈e.xq->x≠64:=fun x O H=>by
   obtain⟨i,B,rfl⟩:=HT O;have:=(X.2 i B B).1;unfold Bv rK at this;rw[H]at this;revert this;decide
  have f:=Xt e.xq (dec e.pC++cM e.body) 64 k;rw[<-c]at f;have R:s.take (cl s 64)=e.xq:=by rw[f,c];exact Df rfl
  have D:s.drop (cl s 64+1)=dec e.pC++cM e.body:=by rw[f,c,show e.xq.length+1=(e.xq++[64]).length by simp];rw[show e.xq++64::(dec e.pC++cM e.body)=(e.xq++[64])++(dec e.pC++cM e.body) by simp];exact ET rfl
  rw[R,D]at o;obtain⟨G,j⟩:∃G,cM e.body=123::G:=by rw[qL,if_neg om,if_neg om,if_neg om,if_neg om,if_pos Z];exact⟨_,rfl⟩
  have et:=qt (n:=e.pC) (by unfold eB;simp only;omega);have r:=F (dec e.pC++cM e.body) 123 (by have:=congrArg List.length c;simp at this⊢;omega)
  have q:cl (dec e.pC++cM e.body) 123=(dec e.pC).length:=by
   rw[j];refine Xt _ _ _ fun x O H=>?_
   have:=Fj e.pC x O;rw[H]at this;revert this;decide
  have z:nV (dec e.pC++cM e.body) 123=((dec e.pC).length:Int):=by unfold nV;rw[q,if_pos (by rw[j];simp)]
  rw[z]at r;have a:=(hN (dec e.pC) om).2;rw[b _ (by unfold eB;simp only;omega),iA ⟨e.pC,by unfold eB;simp only;omega,rfl⟩]at a;have eo:(dec e.pC++cM e.body).length=(dec e.pC).length+(cM e.body).length:=bG;have l:(dec e.pC++cM e.body).take ((dec e.pC).length:Int).toNat=dec e.pC:=Df rfl
  have u:((dec e.pC++cM e.body).take ((dec e.pC++cM e.body).length:Int).toNat).drop ((dec e.pC).length:Int).toNat=cM e.body:=by
   rw[qo,qo,xd];exact ET rfl
  have d:=Y (cM e.body);rw[LX b h4]at d;have v:=(P e).1 N;rw[S]at v;show CT L 203 _ 0 [] _ (.b6 [adM e 0,dB true]) 0 [] (qT e.body.names e.body.kids);refine CT.pick [] [2,3] (bZ:=[(0,20001),(0,1120005),(2*(e.body.names.length*1),20001),(2*(e.body.kids.length*5),1120005)]) ?_ rfl rfl rfl rfl (And.intro rfl (And.intro rfl trivial)) ⟨.inr ⟨rfl,rfl,by decide,by decide⟩,.inr ⟨rfl,rfl,by decide,by decide⟩,trivial⟩;refine p.ct ?_
  repeat' ((conv=>whnf);first|exact xc|rw[u]|apply aq|apply aH|apply aM|refine bY ?_|refine ak o ?_|refine ak r ?_|refine ak ((l▸a)) ?_|refine bA.dE 20001 rfl (bA.dE 1120005 rfl (az d [] [2,3] ?_))|refine ak (CP.pu v) ?_|exact fz|exfalso;simp at*;done|intro _)
 .rename_i U;show CT L 203 _ 0 [] _ (.b6 [adM pV 0,dB false]) 0 [] (qT [] []);refine CT.za (v0:=.b6 [.agg [dS [],dI 0,dI 0,dI 0,dS [],.aO [] .nil,.aO [] .nil],dB false]) (dQ:=[]) ?_ tE (fJ _ _);have O:(s.take (cl s 64)).length<=s.length:=by rw[ra];omega
  have hy:(s.drop (cl s 64+1)).length<=s.length:=by rw[tR];omega
  have r:=F (s.drop (cl s 64+1)) 123 om;have w:0<(s.drop (cl s 64+1)).length->s≠[]:=fun h e=>by rw[e]at h;simp at h
  generalize s.take (cl s 64)=x at*;generalize s.drop (cl s 64+1)=y at*;by_cases K:cl y 123<y.length
  .have C:nV y 123=(cl y 123:Int):=by unfold nV;rw[if_pos K]
   rw[C]at r;have w:=w om;obtain⟨ei,a⟩:=hN (y.take (cl y 123)) (by simp;omega);have d:=Y (y.drop (cl y 123));have l:y.take ((cl y 123:Nat):Int).toNat=y.take (cl y 123):=by rw[qo]
   have u:(y.take (y.length:Int).toNat).drop ((cl y 123:Nat):Int).toNat=y.drop (cl y 123):=by rw[qo,qo,xd]
   have E:=fun t=>P ⟨x,nv (y.take (cl y 123)),t⟩
   generalize cl y 123=m at*;generalize nv (y.take m)=J at*;by_cases T:isNum (y.take m)
   .rw[iA T]at a;cases A:fX (y.drop m)with
    |none=>
     rw[A]at d;refine p.ct ?_
     repeat' ((conv=>whnf);first|rw[u]|apply aq|refine bY ?_|refine ak o ?_|refine ak r ?_|refine ak ((l▸a)) ?_|refine bA.dE 20001 rfl (bA.dE 1120005 rfl (az d [] [2,3] ?_))|exact fz|intro _)
    |some t=>
     rw[A]at d;by_cases M:ir ⟨x,J,t⟩
     .have v:=(E t).1 M;have ed:DD ⟨x,J,t⟩≠s:=fun h=>U ⟨_,M,h⟩
      refine p.ct ?_
      repeat' ((conv=>whnf);first|rw[u]|apply aq|apply aH|apply aM|refine bY ?_|refine ak o ?_|refine ak r ?_|refine ak ((l▸a)) ?_|refine bA.dE 20001 rfl (bA.dE 1120005 rfl (az d [] [2,3] ?_))|refine ak (CP.pu v) ?_|exact fz|exact xc|intro _)
     .have v:=(E t).2 M;refine p.ct ?_
      repeat' ((conv=>whnf);first|rw[u]|apply aq|apply aH|apply aM|refine bY ?_|refine ak o ?_|refine ak r ?_|refine ak ((l▸a)) ?_|refine bA.dE 20001 rfl (bA.dE 1120005 rfl (az d [] [2,3] ?_))|refine ak (CP.pu v) ?_|exact fz|exact absurd (Eq.symm asm) w|intro _)
   .rw[ig T]at a;refine p.ct ?_
    repeat' ((conv=>whnf);first|rw[u]|apply aq|refine bY ?_|refine ak o ?_|refine ak r ?_|refine ak ((l▸a)) ?_|refine bA.dE 20001 rfl (bA.dE 1120005 rfl (az d [] [2,3] ?_))|exact fz|intro _)
  .have C:nV y 123=-1:=by unfold nV;rw[if_neg K]
   rw[C]at r;refine p.ct ?_
   repeat' ((conv=>whnf);first|apply aq|refine ak o ?_|refine ak r ?_|exact fz|intro _)
variable{s:ab}{p:Nat}
theorem Ni{m:ab}{e:Nat}(l:p<=e)(u:e<=s.length)(h:∀i,p<=i->i<e->∀h:i<s.length,s[i]∉m)(t:e=s.length\/∃h:e<s.length,s[e]∈m):rL (s.drop p) m=e-p:=by
 have a:s.drop p=(s.take e).drop p++s.drop e:=by
  have:=congrArg (List.drop p) (Jy e s);rw[<-this,List.drop_append_of_le_length (by simp;omega)]
 rw[a,Xr]
 .simp;omega
 .intro x o;obtain⟨i,n,rfl⟩:=HT o;simp only[List.getElem_drop,List.getElem_take];simp at n;exact h (p+i) om om om
 .rcases t with rfl|⟨r,d⟩
  .exact .inl (AG ..)
  .exact .inr ⟨s[e],s.drop (e+1),ye r,d⟩
theorem X4(c:UInt8):c∈([32,10]:ab)↔DB c.toNat:=by
 unfold DB;simp only[xe,List.not_mem_nil,or_false];constructor
 .rintro(rfl|rfl)
  .exact .inl rfl
  .exact .inr rfl
 .rintro(h|h)
  .exact .inl (AH.1 h)
  .exact .inr (AH.1 h)
theorem zx.rL{s:ab}{p e:Nat}(h:zx s (p+1) e)(c:p<s.length)(n:¬DB (bE s p)):Ab.rL (s.drop p) [32,10]=e-p:=by
 obtain⟨m,l,u,t⟩:=h;refine Ni om l (fun i a b r o=>?_) ?_
 .rw[X4]at o;by_cases e:i=p
  .subst e;rw[cW r]at n;exact n o
  .have:=u i om b;rw[cW r]at this;exact this o
 .rcases t with t|t
  .exact .inl t
  .by_cases d:e<s.length
   .exact .inr ⟨d,by rw[X4];rwa [cW d]at t⟩
   .exact .inl om
theorem mO.cl{s:ab}{p q:Nat}(h:mO s p q):Ab.cl (s.drop p) 34=q-p:=by
 obtain⟨n,r,d,e⟩:=h;rw[<-R4];refine Ni n r (fun i a b l t=>?_) ?_
 .rw[dP]at t;have:=d i a b;rw[cW l,t]at this;exact this rfl
 .rcases e with e|e
  .exact .inl e
  .by_cases o:q<s.length
   .refine .inr ⟨o,?_⟩;rw[cW o]at e;rw[dP];exact AH.1 e
   .exact .inl om
def wdP(s:ab)(p:Nat):List ab->St
 |[]=>⟨[(0,.d (.str (s.drop p))),(3,.aO [] .full)],0,[],[]⟩
 |x::r=>⟨[(0,.d (.str (s.drop p))),(3,.aO (aR (x::r)) (.row 0))],0,[],[((x::r).length,1)]⟩
theorem age(s:ab)(p:Nat)(o:List ab):yQ ⟨0,0,none⟩ (wdP s p o):=by cases o<;>exact⟨rfl,rfl,rfl⟩
def O2(L:Lk):Prop:=∀u:ab,u.length<=1000000->CP L 338 [dS u,dS [32,10]] (dI (xW u [32,10]))
theorem ZS(K:aJ L 293 ahr)(J:O2 L)(G:O1 L):Cu L 293:=by
 intro s r hs Q;refine K.cp ?_
 repeat' ((conv=>whnf);first|apply aq|apply bK|apply aD|apply aH|apply bp|apply aM|apply eA|apply ew|apply gQ|apply bS|rw[ca];intro _|rw[dC];intro _|rw[bl];intro _|refine bY ?_|intro _)
 all_goals(conv=>whnf)
 refine LW.gen (S:=Nat×List ab) (fun x=>s.length-x.1) (fun x=>sT s x.1 x.2 r/\x.2.length<=x.1/\x.1<=s.length) (fun x=>wdP s x.1 x.2) (fun _=>age _ _ _) ?_ (0,[]) ⟨Q,aQ _,cr _⟩ _ lz;rintro⟨p,o⟩ ⟨U,C,M⟩ F;dsimp only at U C M F⊢;have f:(aR o).length=o.length:=bl _;have d:∀(p':Nat)(H:List ab)(σ:St),p<p'->p'<=s.length->H.length<=p'->sT s p' H r->ph (wdP s p' H) σ->_:=fun p' H σ h1 X Z h4 h5=>F (p',H) σ (by show s.length-p'<s.length-p;omega) ⟨h4,Z,X⟩ h5
 clear F;have w:(s.drop p).length=s.length-p:=tR;have j:=J (s.drop p) om
 have i:∀e,p<=e->(List.take ((s.drop p).length:Int).toNat (s.drop p)).drop (((e-p:Nat):Int).toNat)=s.drop e:=fun e A=>by
  rw[qo,qo,xd,Dg];congr 1;omega
 have a:(List.take ((s.drop p).length:Int).toNat (s.drop p)).drop (Int.toNat 1)=s.drop (p+1):=by
  rw[qo,xd];show(s.drop p).drop 1=_;rw[Dg]
 have n:(List.take ((s.drop p).length:Int).toNat (s.drop p)).drop (Int.toNat 0)=(s.take s.length).drop p:=by
  rw[qo,xd,xd];rfl
 have b:∀e,p<=e->(List.take (((e-p:Nat):Int).toNat) (s.drop p)).drop (Int.toNat 0)=(s.take e).drop p:=fun e A=>by
  rw[qo];show List.take _ (s.drop p)=_;rw[List.drop_take]
 cases o with
 |nil=>
  cases U with
  |done=>
   have R:s.drop s.length=[]:=AG ..
   repeat' ((conv=>whnf);first|exact xc|apply aH|apply aM|exact fz|intro _)
  |skip _ _ _ g h k=>
   rw[cW g]at h;have E:(s.drop p)[0]'om=s[p]:=by simp
   have O:s.drop p≠[]:=fun e=>by rw[e]at w;simp at w;omega
   rw[<-E]at h;rcases h with h|h
   .skip
    repeat' ((conv=>whnf);first|exact xc|apply aD|apply aH|apply aM|refine bY ?_|refine d (p+1) _ _ om om (by simp only[bc,aZ]at*;omega) k (by refine⟨?_,?_,?_⟩<;>repeat' first|(refine dG ?_;exact a)|exact sz|exact dV om|apply And.intro)|intro _)
   .skip
    repeat' ((conv=>whnf);first|exact xc|apply aD|apply aH|apply aM|refine bY ?_|refine d (p+1) _ _ om om (by simp only[bc,aZ]at*;omega) k (by refine⟨?_,?_,?_⟩<;>repeat' first|(refine dG ?_;exact a)|exact sz|exact dV om|apply And.intro)|intro _)
  |word _ e _ _ g h A k=>
   have Y:=A.le g;have E:(s.drop p)[0]'om=s[p]:=by simp
   have O:s.drop p≠[]:=fun e=>by rw[e]at w;simp at w;omega
   have g1:((s.drop p)[0]'om).toNat≠32:=fun e=>h (.inl (by rw[cW g,<-E];exact e))
   have g2:((s.drop p)[0]'om).toNat≠10:=fun e=>h (.inr (by rw[cW g,<-E];exact e))
   have t:(List.take ((s.drop p).length:Int).toNat (s.drop p)).drop (((s.drop p).length:Nat):Int).toNat=s.drop s.length:=by
    rw[qo,xd,AG,AG]
   rcases A with⟨I,q,T,P⟩|⟨I,T⟩
   .rw[cW g,<-E]at I;generalize xW (s.drop p) [32,10]=v at j;have c:=G (s.drop (p+1)) 34 (by rw[tR];omega);have m:=T.cl;have V:=T.2.1;have B:=T.1;rcases P with⟨D,rfl⟩|⟨D,rfl⟩
    .have l:nV (s.drop (p+1)) 34=((q-(p+1):Nat):Int):=by unfold nV;rw[m,if_pos (by rw[tR];omega)]
     rw[l]at c;have N:IntKind.i64.wrap (((q-(p+1):Nat):Int)+2)=((q+1-p:Nat):Int):=by rw[wrap64 om];omega
     repeat' ((conv=>whnf);first|exact xc|rw[a]|rw[N]|apply aD|apply aH|apply aM|refine bY ?_|refine ak j ?_|refine ak c ?_|refine ad ⟨by simp only[bc,aZ];omega,by intro y z;rw[dP.1 z];rfl⟩ ?_|refine d (q+1) _ _ om om (by simp only[bG,bc,aZ]at*;omega) k (by refine⟨?_,?_,?_⟩<;>repeat' first|(refine dG ?_;first|exact i _ om|exact t)|(show(_:bJ)=_;first|(rw[b _ om];simp[aR];done)|(rw[n];simp[aR];done))|exact sx|apply And.intro)|intro _)
    .have l:nV (s.drop (p+1)) 34=-1:=by unfold nV;rw[m,if_neg (by rw[tR];omega)]
     rw[l]at c;obtain rfl:e=s.length:=D
     repeat' ((conv=>whnf);first|exact xc|rw[a]|apply aD|apply aH|apply aM|refine bY ?_|refine ak j ?_|refine ak c ?_|refine ad ⟨by simp only[bc,aZ];omega,by intro y z;rw[dP.1 z];rfl⟩ ?_|refine d s.length _ _ om om (by simp only[bG,bc,aZ]at*;omega) k (by refine⟨?_,?_,?_⟩<;>repeat' first|(refine dG ?_;first|exact i _ om|exact t)|(show(_:bJ)=_;first|(rw[b _ om];simp[aR];done)|(rw[n];simp[aR];done))|exact sx|apply And.intro)|intro _)
   .have m:=T.rL g h;rw[cW g,<-E]at I
    have l:xW (s.drop p) [32,10]=if e<s.length then((e-p:Nat):Int)else -1:=by
     unfold xW;rw[m];by_cases u:e<s.length
     .rw[if_pos om,if_pos u]
     .rw[if_neg om,if_neg u]
    rw[l]at j;by_cases u:e<s.length
    .rw[if_pos u]at j
     repeat' ((conv=>whnf);first|exact xc|apply aD|apply aH|apply aM|refine bY ?_|refine ak j ?_|refine ad ⟨by simp only[bc,aZ];omega,by intro y z;rw[dP.1 z];rfl⟩ ?_|refine d e _ _ om om (by simp only[bG,bc,aZ]at*;omega) k (by refine⟨?_,?_,?_⟩<;>repeat' first|(refine dG ?_;first|exact i _ om|exact t)|(show(_:bJ)=_;first|(rw[b _ om];simp[aR];done)|(rw[n];simp[aR];done))|exact sx|apply And.intro)|intro _)
    .rw[if_neg u]at j;obtain rfl:e=s.length:=by omega
     repeat' ((conv=>whnf);first|exact xc|apply aD|apply aH|apply aM|refine bY ?_|refine ak j ?_|refine ad ⟨by simp only[bc,aZ];omega,by intro y z;rw[dP.1 z];rfl⟩ ?_|refine d s.length _ _ om om (by simp only[bG,bc,aZ]at*;omega) k (by refine⟨?_,?_,?_⟩<;>repeat' first|(refine dG ?_;first|exact i _ om|exact t)|(show(_:bJ)=_;first|(rw[b _ om];simp[aR];done)|(rw[n];simp[aR];done))|exact sx|apply And.intro)|intro _)
 |cons x o=>
  cases U with
  |done=>
   have R:s.drop s.length=[]:=AG ..
   repeat' ((conv=>whnf);first|exact xc|apply aH|apply aM|exact fz|intro _)
  |skip _ _ _ g h k=>
   rw[cW g]at h;have E:(s.drop p)[0]'om=s[p]:=by simp
   have O:s.drop p≠[]:=fun e=>by rw[e]at w;simp at w;omega
   rw[<-E]at h;rcases h with h|h
   .skip
    repeat' ((conv=>whnf);first|exact xc|apply aD|apply aH|apply aM|refine bY ?_|refine d (p+1) _ _ om om (by simp only[bc,aZ]at*;omega) k (by refine⟨?_,?_,?_⟩<;>repeat' first|(refine dG ?_;exact a)|exact sz|exact dV om|apply And.intro)|intro _)
   .skip
    repeat' ((conv=>whnf);first|exact xc|apply aD|apply aH|apply aM|refine bY ?_|refine d (p+1) _ _ om om (by simp only[bc,aZ]at*;omega) k (by refine⟨?_,?_,?_⟩<;>repeat' first|(refine dG ?_;exact a)|exact sz|exact dV om|apply And.intro)|intro _)
  |word _ e _ _ g h A k=>
   have Y:=A.le g;have E:(s.drop p)[0]'om=s[p]:=by simp
   have O:s.drop p≠[]:=fun e=>by rw[e]at w;simp at w;omega
   have g1:((s.drop p)[0]'om).toNat≠32:=fun e=>h (.inl (by rw[cW g,<-E];exact e))
   have g2:((s.drop p)[0]'om).toNat≠10:=fun e=>h (.inr (by rw[cW g,<-E];exact e))
   have t:(List.take ((s.drop p).length:Int).toNat (s.drop p)).drop (((s.drop p).length:Nat):Int).toNat=s.drop s.length:=by
    rw[qo,xd,AG,AG]
   rcases A with⟨I,q,T,P⟩|⟨I,T⟩
   .rw[cW g,<-E]at I;generalize xW (s.drop p) [32,10]=v at j;have c:=G (s.drop (p+1)) 34 (by rw[tR];omega);have m:=T.cl;have V:=T.2.1;have B:=T.1;rcases P with⟨D,rfl⟩|⟨D,rfl⟩
    .have l:nV (s.drop (p+1)) 34=((q-(p+1):Nat):Int):=by unfold nV;rw[m,if_pos (by rw[tR];omega)]
     rw[l]at c;have N:IntKind.i64.wrap (((q-(p+1):Nat):Int)+2)=((q+1-p:Nat):Int):=by rw[wrap64 om];omega
     repeat' ((conv=>whnf);first|exact xc|rw[a]|rw[N]|apply aD|apply aH|apply aM|refine bY ?_|refine ak j ?_|refine ak c ?_|refine ad ⟨by simp only[f,bc,aZ]at*;omega,by intro y z;rw[dP.1 z];rfl⟩ ?_|refine ad ⟨f,rfl⟩ ?_|refine d (q+1) _ _ om om (by simp only[bG,bc,aZ]at*;omega) k (by refine⟨?_,?_,?_⟩<;>repeat' first|(refine dG ?_;first|exact i _ om|exact t)|(show(_:bJ)=_;first|(rw[b _ om];simp[aR];done)|(rw[n];simp[aR];done))|exact sx|apply And.intro)|intro _)
    .have l:nV (s.drop (p+1)) 34=-1:=by unfold nV;rw[m,if_neg (by rw[tR];omega)]
     rw[l]at c;obtain rfl:e=s.length:=D
     repeat' ((conv=>whnf);first|exact xc|rw[a]|apply aD|apply aH|apply aM|refine bY ?_|refine ak j ?_|refine ak c ?_|refine ad ⟨by simp only[f,bc,aZ]at*;omega,by intro y z;rw[dP.1 z];rfl⟩ ?_|refine ad ⟨f,rfl⟩ ?_|refine d s.length _ _ om om (by simp only[bG,bc,aZ]at*;omega) k (by refine⟨?_,?_,?_⟩<;>repeat' first|(refine dG ?_;first|exact i _ om|exact t)|(show(_:bJ)=_;first|(rw[b _ om];simp[aR];done)|(rw[n];simp[aR];done))|exact sx|apply And.intro)|intro _)
   .have m:=T.rL g h;rw[cW g,<-E]at I
    have l:xW (s.drop p) [32,10]=if e<s.length then((e-p:Nat):Int)else -1:=by
     unfold xW;rw[m];by_cases u:e<s.length
     .rw[if_pos om,if_pos u]
     .rw[if_neg om,if_neg u]
    rw[l]at j;by_cases u:e<s.length
    .rw[if_pos u]at j
     repeat' ((conv=>whnf);first|exact xc|apply aD|apply aH|apply aM|refine bY ?_|refine ak j ?_|refine ad ⟨by simp only[f,bc,aZ]at*;omega,by intro y z;rw[dP.1 z];rfl⟩ ?_|refine ad ⟨f,rfl⟩ ?_|refine d e _ _ om om (by simp only[bG,bc,aZ]at*;omega) k (by refine⟨?_,?_,?_⟩<;>repeat' first|(refine dG ?_;first|exact i _ om|exact t)|(show(_:bJ)=_;first|(rw[b _ om];simp[aR];done)|(rw[n];simp[aR];done))|exact sx|apply And.intro)|intro _)
    .rw[if_neg u]at j;obtain rfl:e=s.length:=by omega
     repeat' ((conv=>whnf);first|exact xc|apply aD|apply aH|apply aM|refine bY ?_|refine ak j ?_|refine ad ⟨by simp only[f,bc,aZ]at*;omega,by intro y z;rw[dP.1 z];rfl⟩ ?_|refine ad ⟨f,rfl⟩ ?_|refine d s.length _ _ om om (by simp only[bG,bc,aZ]at*;omega) k (by refine⟨?_,?_,?_⟩<;>repeat' first|(refine dG ?_;first|exact i _ om|exact t)|(show(_:bJ)=_;first|(rw[b _ om];simp[aR];done)|(rw[n];simp[aR];done))|exact sx|apply And.intro)|intro _)
end Go.Ab
namespace Go.Ab
open Go
attribute [local irreducible] bI cf cw bW bA dk dT
attribute [local irreducible] xO
variable{L:Lk}{rl:bm}{nb:Nat}{bx:List Bx}{f:Nat}{v:AV}
set_option maxHeartbeats 4000000
def okV(nb e:Nat):AV->Bool
 | .d _=>true
 | .ptr b _=>Bc b nb
 | .gA _=>true
 | .aO _ t=>wfT e t
 | .rC b _=>Bc b nb
 | .uv b=>Bc b nb
 | .bM=>true
 | .kh _ _ _ _ _ k=>Bc k e
 |_=>false
def Wg(nb e:Nat):Bx->Bool
 | .var _ t=>kK (okV nb e) t
 |_=>true
theorem abf{e:Nat}(h:okV nb e v=true):L6 nb e v v:=by
 cases v with
 |d x=>exact rfl
 |ptr b j=>exact⟨rfl,rfl,gP h⟩
 |gA i=>exact rfl
 |aO a t=>
  cases t with
  |nil=>exact rfl
  |full=>exact rfl
  |row k=>exact⟨rfl,gP h,rfl⟩
  |fe k=>exact⟨rfl,gP h,rfl⟩
  |sub k C=>exact⟨rfl,gP h,rfl,rfl⟩
  |uu k C o=>exact⟨rfl,gP h,rfl,rfl,rfl⟩
 |rC b n=>exact⟨rfl,rfl,gP h⟩
 |uv b=>exact⟨rfl,gP h⟩
 |bM=>exact trivial
 |kh es p a ds zs k=>exact⟨rfl,gP h,rfl,rfl,rfl,rfl,rfl⟩
 |_=>cases h
theorem OT{nb e:Nat}:∀{cs:List AV},kK (okV nb e) cs=true->wkL nb e cs cs
 |[],_=>trivial
 |v::r,h=>by
  have t:=mf h
  exact⟨abf (t v si),OT (by
   unfold kK at h;split at h
   .exact h
   .cases h)⟩
theorem qU{nb e:Nat}:∀{bx:List Bx},kK (Wg nb e) bx=true->wY nb e bx bx
 |[],_=>trivial
 |b::r,h=>by
  have a:=mf h b si
  refine⟨?_,qU (by
   unfold kK at h;split at h
   .exact h
   .cases h)⟩
  cases b with
  |var t o=>exact⟨.inr rfl,OT a⟩
  |row es i=>exact⟨rfl,rfl⟩
  |iter s p=>exact⟨rfl,rfl⟩
  |dead=>exact trivial
theorem nX:∀rl:bm,B4 rl rl
 |[]=>trivial
 |_::r=>⟨rfl,nX r⟩
abbrev l9(ws:List ab)(a nd:Nat):Bx:=.var 0 [.d (.sl (aR ws)),dI (a:Int),dI (nd:Int)]
def XF:AV->Prop:=fun v=> ∃c a:Int,c≠0/\v=.oH 1 (.agg [dI c,dI a])
theorem CV(e:aJ L 337 Nb)(ws:List ab)(a nd:Nat)(c:Int)(t:c≠0):CX L 337 [.ptr 0 0,dI c] 1 [l9 ws a nd] [] XF:=by
 refine CX.enter e rfl ?_
 repeat' ((conv=>whnf);first|refine akN ⟨_,_,t,rfl⟩ rfl|fail)
theorem vH(s:aJ L 384 Nc)(ws:List ab)(r:ws.length<=1000000)(a nd:Nat)(d:a<ws.length){kj:List AV}{cg:List Bx}(o:nb=cg.length+1)(i:kK (Wg nb rl.length) cg=true)(e:CT L f (dS (ws[a])::kj) nb (l9 ws a nd::bx) rl (dB true) nb (l9 ws a nd::cg) rl):
  CT L 384 [.ptr 0 0,.fn f kj] nb (l9 ws a nd::bx) rl (dS (ws[a])) nb (l9 ws (a+1) nd::cg) rl:=by
 have h:(aR ws).length=ws.length:=bl _;have t:IntKind.i64.wrap ((a:Int)+1)=((a+1:Nat):Int):=by rw[wrap64 om];omega
 have n:IntKind.i64.wrap (IntKind.i64.wrap ((a:Int)+1)-1)=(a:Int):=by rw[t,wrap64 om];omega
 refine s.ct ?_
 repeat' ((conv=>whnf);first|exact xo|rw[n]|refine bY ?_|apply bK|refine iv e ?_|intro _)
 all_goals(conv=>whnf)
 refine dt rfl ⟨⟨.inr rfl,rfl,c8 t,rfl,trivial⟩,qU i⟩ (nX _) ?_;simp[o]
theorem mm(n:aJ L 384 Nc)(s:aJ L 337 Nb)(ws:List ab)(l:ws.length<=1000000)(a nd:Nat)(u:a<=ws.length){kj:List AV}{cg:List Bx}(r:nb=cg.length+1)(o:nb=bx.length+1)(e:∀h:a<ws.length,CT L f (dS (ws[a])::kj) nb (l9 ws a nd::bx) rl (dB false) nb (l9 ws a nd::cg) rl):
  CX L 384 [.ptr 0 0,.fn f kj] nb (l9 ws a nd::bx) rl XF:=by
 have d:(aR ws).length=ws.length:=bl _;have i:=CV s ws a nd 2 de;refine CX.enter n rfl ?_;by_cases t:a<ws.length
 .have e:=e t
  repeat' ((conv=>whnf);first|exact xo|refine bY ?_|apply bK|refine iv e ?_|refine iH i [0] [] (by simp only[aZ];omega) rfl rfl rfl (And.intro rfl trivial) trivial (fun _ h=>h)|intro _)
 .skip
  repeat' ((conv=>whnf);first|exact xo|apply bK|refine bY ?_|refine iH i [0] [] (by simp only[aZ];omega) rfl rfl rfl (And.intro rfl trivial) trivial (fun _ h=>h)|intro _)
end Go.Ab
namespace Go.Ab
open Go
attribute [local irreducible] bI cf cw bW bA dk dT
variable{L:Lk}{nv:ab->Int}
set_option maxHeartbeats 4000000
abbrev qA(op num:Int)(tx:ab)(ns:List ab)(ks:List Nd):Bx:=.var 0 [dI op,dI num,dS tx,.aO (aR ns) (.fe 0),.aO (ks.map cT) (.fe 1)]
abbrev kG(ns:List ab)(ks:List Nd):bm:=[(2*(ns.length*1),20001),(2*(ks.length*5),1220005)]
structure ID(L:Lk)(nv:ab->Int):Prop where
 qR:lI L 89
 Yv:GA L 365
 opK:Ct L 386
 row:∀op:Int,CP L 254 [dI op] (.b6 [.agg [dS (fQ op),dS (iz op)],dB (pb (5<=op/\op<=43))])
 has:∀(l:List ab)(w:ab),CP L 366 [.d (.sl (aR l)),dS w] (dB (pb (w∈l)))
 akK:∀op n:Int,CP L 368 [dI op,dI n] (dB (pb (if op=37 then 0<=n/\n<=99 else 1<=n/\n<=12)))
 ajO:∀op:Int,CP L 315 [dI op] (dB (pb (36<=op/\op<=43)))
 inK:pW L 163
 kind:EZ L 138
 tree:vu L 200
 aix:sO L nv
theorem afp(C:ID L nv)(e:aJ L 417 Xk)(ws:List ab)(a nd:Nat)(w:ab)(op num:Int)(tx:ab)(ns:List ab)(ks:List Nd):
  CT L 417 [dS w,.ptr 1 0] 3 [l9 ws a nd,.var 0 [.ptr 2 0],qA op num tx ns ks] (kG ns ks) (dB (pb (ng w/\w∉ns))) 3 [l9 ws a nd,.var 0 [.ptr 2 0],qA op num tx ns ks] (kG ns ks):=by
 refine e.ct ?_
 repeat' ((conv=>whnf);first|apply bp|refine ak (C.Yv _) ?_|refine ak (CP.pu (C.has _ _)) ?_|(apply dt<;>(repeat' first|(refine congrArg DV.bool (AJ.2 ?_);(try simp only[lk,jT]);grind)|exact sz|apply And.intro);done)|intro _)
theorem afm(C:ID L nv)(o:aJ L 416 Ng)(ws:List ab)(a nd:Nat)(w:ab)(op num:Int)(tx:ab)(ns:List ab)(i:ns.length<=1000000)(ks:List Nd):
  CT L 416 [dS w,.ptr 1 0] 3 [l9 ws a nd,.var 0 [.ptr 2 0],qA op num tx ns ks] (kG ns ks) (dB (pb (w=qm\/¬tc w ns))) 3 [l9 ws a nd,.var 0 [.ptr 2 0],qA op num tx ns ks] (kG ns ks):=by
 have n:(aR ns).length=ns.length:=bl _;by_cases s:ns.length=0
 .obtain rfl:=mc s;have e:¬tc w []↔bO w:=by unfold tc;simp
  rw[vR (or_congr Iff.rfl e)];refine o.ct ?_
  repeat' ((conv=>whnf);first|rw[wrap64 si]|apply aH|apply bp|rw[bl];intro _|refine ak (C.qR _) ?_|(apply dt<;>(repeat' first|(refine congrArg DV.bool (AJ.2 ?_);(try simp only[lk,jT,qm]);grind)|exact sz|apply And.intro);done)|intro _)
 .have e:¬tc w ns↔bO w/\dT (ns[ns.length-1]'om) w=true:=by
   unfold tc;rw[FC om];simp
  rw[vR (or_congr Iff.rfl e)];have t:IntKind.i64.wrap ((ns.length:Int)-1)=((ns.length-1:Nat):Int):=by rw[wrap64 om];omega
  refine o.ct ?_
  repeat' ((conv=>whnf);first|rw[t]|refine bY ?_|apply aH|apply bp|rw[bl];intro _|refine ak (C.qR _) ?_|(apply dt<;>(repeat' first|(refine congrArg DV.bool (AJ.2 ?_);(try simp only[lk,jT,qm]);grind)|exact sz|apply And.intro);done)|intro _)
theorem afn(C:ID L nv)(e:aJ L 418 Xl)(w:ab):CP L 418 [dS w] (dB ((kindOf w).isSome)):=by
 have t:=C.kind w;refine e.cp ?_
 repeat' ((conv=>whnf);first|refine ak t ?_|exact fz|fail)
theorem afo(C:ID L nv)(e:aJ L 419 Xm)(ws:List ab)(a nd:Nat)(w:ab)(t:w.length<=1000000)(op num:Int)(tx:ab)(ns:List ab)(ks:List Nd):
  CT L 419 [dS w,.ptr 1 0] 3 [l9 ws a nd,.var 0 [.ptr 2 0],qA op num tx ns ks] (kG ns ks) (dB (pb (isNum w/\(if op=37 then 0<=nv w/\nv w<=99 else 1<=nv w/\nv w<=12)))) 3 [l9 ws a nd,.var 0 [.ptr 2 0],qA op num tx ns ks] (kG ns ks):=by
 obtain⟨_,o⟩:=C.aix w t;refine e.ct ?_
 repeat' ((conv=>whnf);first|apply bp|refine ak o ?_|refine ak (C.akK _ _) ?_|(apply dt<;>(repeat' first|(refine congrArg DV.bool (AJ.2 ?_);(try simp only[lk,jT]);grind)|exact sz|apply And.intro);done)|intro _)
theorem I3(e:aJ L 387 Xj)(t:Nd)(o:1<=t.sort/\t.sort<=3):CP L 387 [aT t] (.agg [dI t.sort,dI t.num,dS t.text,.aO [] .nil,.aO [] .nil]):=by
 have a:IntKind.i64.wrap (IntKind.i64.wrap (t.sort-1)+1)=t.sort:=by rw[wrap64 (n:=t.sort-1) om,wrap64 om];omega
 refine e.cp ?_
 repeat' ((conv=>whnf);first|apply aq|apply bK|apply aD|apply aH|apply bp|apply aM|apply eA|apply ew|apply gQ|apply bS|rw[ca];intro _|rw[dC];intro _|rw[bl];intro _|refine bY ?_|rw[a];exact fz|intro _)
abbrev jg(op num:Int)(tx:ab):Bx:=.var 0 [dI op,dI num,dS tx,.aO [] .nil,.aO [] .nil]
abbrev zy(act:Bool):Bx:=.var 0 [dB act]
theorem N7{w:ab}(h:c6 w≠0):5<=c6 w/\c6 w<=43:=FF h
theorem afi(C:ID L nv)(i:aJ L 385 Nf)(ws:List ab)(a nd:Nat)(act:Bool)(w:ab)(h:c6 w≠0):
  CT L 385 [dS w,.ptr 1 0,.ptr 2 0] 3 [l9 ws a nd,jg 0 0 [],zy act] [] (dB (pb (36<=c6 w)==act)) 3 [l9 ws a nd,jg (c6 w) 0 [],zy act] []:=by
 have n:=N7 h;have t:=C.tree w;have s:=C.opK w;generalize c6 w=o at*;have e:=C.ajO o;rw[vR (q:=36<=o) ⟨fun h=>h.1,fun h=>⟨h,n.2⟩⟩]at e;refine i.ct ?_
 repeat' ((conv=>whnf);first|exact xo|apply aD|apply aM|refine bA.dE 20001 rfl (bA.dE 1120005 rfl (az t [] [0,1] ?_))|refine ak s ?_|refine iu e ?_|exact fz|intro _)
theorem afj(C:ID L nv)(o:aJ L 385 Nf)(ws:List ab)(a nd:Nat)(w:ab)(h:c6 w=0):
  CT L 385 [dS w,.ptr 1 0,.ptr 2 0] 3 [l9 ws a nd,jg 0 0 [],zy true] [] (dB false) 3 [l9 ws a nd,jg 0 0 [],zy true] []:=by
 have e:=C.tree w;have t:=C.opK w;rw[h]at t;refine o.ct ?_
 repeat' ((conv=>whnf);first|refine bA.dE 20001 rfl (bA.dE 1120005 rfl (az e [] [0,1] ?_))|refine ak t ?_|exact fz|fail)
theorem afk(C:ID L nv)(i:aJ L 385 Nf)(n:aJ L 387 Xj)(ws:List ab)(a nd:Nat)(w:ab)(h:c6 w=0)(t:Nd)(s:fX w=some t)(r:1<=t.sort/\t.sort<=3):
  CT L 385 [dS w,.ptr 1 0,.ptr 2 0] 3 [l9 ws a nd,jg 0 0 [],zy false] [] (dB true) 3 [l9 ws a nd,jg t.sort t.num t.text,zy false] []:=by
 have e:=C.tree w;have o:=C.opK w;have d:=I3 n t r;rw[h]at o;rw[s]at e;refine i.ct ?_
 repeat' ((conv=>whnf);first|apply bp|refine bA.dE 20001 rfl (bA.dE 1120005 rfl (az e [] [0,1] ?_))|refine ak o ?_|refine ak (C.inK _ _ _) ?_|refine ak (C.Yv _) ?_|refine ak (CP.pu d) ?_|exact fz|exact xc|intro _)
theorem afl(C:ID L nv)(n:aJ L 385 Nf)(ws:List ab)(a nd:Nat)(w:ab)(h:c6 w=0)(s:∀t,fX w=some t->¬(1<=t.sort/\t.sort<=3)):
  CT L 385 [dS w,.ptr 1 0,.ptr 2 0] 3 [l9 ws a nd,jg 0 0 [],zy false] [] (dB (pb (ng w))) 3 [l9 ws a nd,jg 4 0 [],zy false] []:=by
 have e:=C.tree w;have o:=C.opK w;rw[h]at o;cases i:fX w with
 |none=>
  rw[i]at e;refine n.ct ?_
  repeat' ((conv=>whnf);first|refine bA.dE 20001 rfl (bA.dE 1120005 rfl (az e [] [0,1] ?_))|refine ak o ?_|refine ak (C.Yv _) ?_|exact fz|fail)
 |some t=>
  have s:=s t i;rw[i]at e;refine n.ct ?_
  repeat' ((conv=>whnf);first|apply bp|refine bA.dE 20001 rfl (bA.dE 1120005 rfl (az e [] [0,1] ?_))|refine ak o ?_|refine ak (C.inK _ _ _) ?_|refine ak (C.Yv _) ?_|exact fz|exact xc|intro _)
end Go.Ab
namespace Go.Ab
open Go
variable{ws:List ab}{nv:ab->Int}
structure Bo where
 num:Int
 tx:ab
 ns:List ab
 ks:List Nd
 a:Nat
 nd:Nat
def Qw(op n:Int):Prop:=if op=37 then 0<=n/\n<=99 else 1<=n/\n<=12
open Classical in
def fh(ws:List ab)(nv:ab->Int)(P:Bool->Nat->Nat->Option (Nd×Nat×Nat))(op:Int)(c:UInt8)(x:Bo):Option Bo:=
 if c=86\/c=65 then(P (c==65) x.a x.nd).map fun y=>⟨x.num,x.tx,x.ns,x.ks++[y.1],y.2.1,y.2.2⟩
 else if¬x.a<ws.length then none
 else if c=78 then(if bO (bP ws x.a)then some ⟨x.num,x.tx,x.ns++[bP ws x.a],x.ks,x.a+1,x.nd⟩else none)
 else if c=88 then(if ng (bP ws x.a)/\bP ws x.a∉x.ns then some ⟨x.num,x.tx,x.ns++[bP ws x.a],x.ks,x.a+1,x.nd⟩else none)
 else if c=75 then(if(kindOf (bP ws x.a)).isSome=true then some ⟨x.num,bP ws x.a,x.ns,x.ks,x.a+1,x.nd⟩else none)
 else if isNum (bP ws x.a)/\Qw op (nv (bP ws x.a))then some ⟨nv (bP ws x.a),x.tx,x.ns,x.ks,x.a+1,x.nd⟩else none
def oI(ws:List ab)(nv:ab->Int)(P:Bool->Nat->Nat->Option (Nd×Nat×Nat))(op:Int):List UInt8->Bo->Option Bo
 |[],x=>some x
 |c::r,x=>match fh ws nv P op c x with
  |some e=>oI ws nv P op r e
  |none=>none
open Classical in
def Ez(ws:List ab)(P:Bool->Nat->Nat->Option (Nd×Nat×Nat)):Nat->List ab->List Nd->Nat->Nat->Option (List ab×List Nd×Nat×Nat)
 |0,_,_,_,_=>none
 |f+1,ns,ks,a,nd=>
  if¬a<ws.length then none else if bP ws a=qm then some (ns,ks,a+1,nd)else if tc (bP ws a) ns then none else
  match P false (a+1) nd with
  |none=>none
  |some y=>Ez ws P f (ns++[bP ws a]) (ks++[y.1]) y.2.1 y.2.2
open Classical in
def Lp(w:ab):Option Nd:=
 if∃t,fX w=some t/\(1<=t.sort/\t.sort<=3)then(fX w).map fun t=> .mk t.sort t.num t.text [] []
 else if ng w then some (.mk 4 0 [] [w] [])else none
open Classical in
def cE(ws:List ab)(nv:ab->Int):Nat->Bool->Nat->Nat->Option (Nd×Nat×Nat)
 |0,_,_,_=>none
 |n+1,act,a,nd=>
  if 200<nd+1 then none else if¬a<ws.length then none else
  if c6 (bP ws a)≠0 then
   (if pb (36<=c6 (bP ws a))≠act then none else
    if c6 (bP ws a)=24 then(Ez ws (cE ws nv n) (ws.length+1) [] [] (a+1) (nd+1)).map fun y=>(.mk 24 0 [] y.1 y.2.1,y.2.2.1,y.2.2.2)
    else(oI ws nv (cE ws nv n) (c6 (bP ws a)) (iz (c6 (bP ws a))) ⟨0,[],[],[],a+1,nd+1⟩).map fun x=>(.mk (c6 (bP ws a)) x.num x.tx x.ns x.ks,x.a,x.nd))
  else if act=true then none else(Lp (bP ws a)).map fun k=>(k,a+1,nd+1)
def RF(ws:List ab)(P:Bool->Nat->Nat->Option (Nd×Nat×Nat)):Prop:=∀t a i k o e,a<=ws.length->i<=200->P t a i=some (k,o,e)->a<=o/\o<=ws.length/\e<=200
theorem N'{P:Bool->Nat->Nat->Option (Nd×Nat×Nat)}(hP:RF ws P){op:Int}{c:UInt8}{x t:Bo}(h:fh ws nv P op c x=some t)(n:x.a<=ws.length)(i:x.nd<=200):
  x.a<=t.a/\t.a<=ws.length/\t.nd<=200/\t.ns.length<=x.ns.length+1/\t.ks.length<=x.ks.length+1:=by
 unfold fh at h;split at h
 .cases o:P (c==65) x.a x.nd with
  |none=>rw[o]at h;cases h
  |some y=>
   rw[o]at h;cases h;obtain⟨k,u,s⟩:=y;obtain⟨r,d,l⟩:=hP _ _ _ _ _ _ n i o;exact⟨r,d,l,xg _,by simp⟩
 split at h
 .cases h
 rename_i e;have e:x.a<ws.length:=HW.1 e
 repeat' split at h
 all_goals first
  |(cases h;done)
  |(cases h;refine⟨xg _,e,i,?_,?_⟩<;>simp)
theorem Qz{ws:List ab}{nv:ab->Int}{P:Bool->Nat->Nat->Option (Nd×Nat×Nat)}(hP:RF ws P){op:Int}:∀(r:List UInt8)(x e:Bo),oI ws nv P op r x=some e->x.a<=ws.length->x.nd<=200->x.a<=e.a/\e.a<=ws.length/\e.nd<=200
 |[],x,e,h,t,o=>by cases h;exact⟨aQ _,t,o⟩
 |c::r,x,e,h,t,o=>by
  unfold oI at h;split at h
  .rename_i i n;obtain⟨m,s,d,_⟩:=N' hP n t o;obtain⟨f,l,u⟩:=Qz hP r i e h s d;exact⟨by omega,l,u⟩
  .cases h
theorem afL{P:Bool->Nat->Nat->Option (Nd×Nat×Nat)}(hP:RF ws P):∀f o i a t y,Ez ws P f o i a t=some y->a<=ws.length->t<=200->a<=y.2.2.1/\y.2.2.1<=ws.length/\y.2.2.2<=200:=by
 intro f
 induction f with
 |zero=>intro o i a t y h;cases h
 |succ f s=>
  intro o i a t y h p n;unfold Ez at h;split at h
  .cases h
  rename_i e;have e:a<ws.length:=HW.1 e;split at h
  .cases h;exact⟨xg _,e,n⟩
  split at h
  .cases h
  split at h
  .cases h
  .rename_i z r;obtain⟨k,v,d⟩:=z;obtain⟨b,l,u⟩:=hP _ _ _ _ _ _ om n r;obtain⟨c,m,w⟩:=s _ _ _ _ _ h l u;dsimp only at c;exact⟨by omega,m,w⟩
theorem yS(ws:List ab)(nv:ab->Int):∀n,RF ws (cE ws nv n):=by
 intro n
 induction n with
 |zero=>intro i a o k c s m f h;cases h
 |succ n l=>
  intro i a o k c s m f h;unfold cE at h;split at h
  .cases h
  split at h
  .cases h
  rename_i w t;have t:a<ws.length:=HW.1 t;split at h
  .split at h
   .cases h
   split at h
   .cases e:Ez ws (cE ws nv n) (ws.length+1) [] [] (a+1) (o+1)with
    |none=>rw[e]at h;cases h
    |some y=>
     rw[e]at h;cases h;obtain⟨u,r,d⟩:=afL l _ _ _ _ _ _ e om om;exact⟨by omega,r,d⟩
   .cases e:oI ws nv (cE ws nv n) (c6 (bP ws a)) (iz (c6 (bP ws a))) ⟨0,[],[],[],a+1,o+1⟩with
    |none=>rw[e]at h;cases h
    |some y=>
     rw[e]at h;cases h;obtain⟨u,r,d⟩:=Qz l _ _ _ e (by show a+1<=_;omega) (by show o+1<=_;omega);dsimp only at u;exact⟨by omega,r,d⟩
  .split at h
   .cases h
   .cases e:Lp (bP ws a)with
    |none=>rw[e]at h;cases h
    |some y=>rw[e]at h;cases h;exact⟨by omega,by omega,by omega⟩
end Go.Ab
namespace Go.Ab
open Go
attribute [local irreducible] bI cf cw bW bA dk dT
attribute [local irreducible] xO uJ
variable{n:Nat}{ws:List ab}{nv:ab->Int}{d:Int}
set_option maxHeartbeats 4000000
section
variable{L:Lk}{f:Nat}{args:List AV}{nb:Nat}{bx:List Bx}{rl:bm}{K:AV->Nat->List Bx->bm->Prop}
theorem mR{X:Option (AV->Prop)}(h:bA L f args nb bx rl K):uJ L X f args nb bx rl K:=by
 cases X with
 |none=>unfold uJ;exact h
 |some X=>unfold uJ;exact aeZ h
theorem jY{X:AV->Prop}(h:xO L X f args nb bx rl K):uJ L (some X) f args nb bx rl K:=by
 unfold uJ;exact h
end
theorem Wj{p q:Prop}(h:p):p\/q:=.inl h
theorem Ln{p q:Prop}(h:q):p\/q:=.inr h
def pX(X:Option (AV->Prop)):Prop:=∃e,X=some e/\∀v,XF v->e v
def JN(L:Lk)(ws:List ab)(nv:ab->Int)(n:Nat):Prop:=∀(act:Bool)(a nd:Nat)(d:Int),d=25-n->a<=ws.length->nd<=200->
 (∀k t e,cE ws nv n act a nd=some (k,t,e)->CT L 336 [.ptr 0 0,dB act,dI d] 1 [l9 ws a nd] [(0,20001),(0,1220005)] (AR k 0) 1 [l9 ws t e] (kG k.names k.kids))/\
 (cE ws nv n act a nd=none->CX L 336 [.ptr 0 0,dB act,dI d] 1 [l9 ws a nd] [] XF)
def ajo:AC:=match RV.body with| .seq _ (.block _ (.loop c))=>c|_=> .skip
theorem S6{L:Lk}(C:ID L nv)(w:aJ L 384 Nc)(z:aJ L 337 Nb)(b:aJ L 416 Ng)(p:ws.length<=1000000)(D:n<=24)(hP:JN L ws nv n)(A:d=24-n)(X:Option (AV->Prop))(Q:AE->St->Prop)(op num:Int)(tx:ab):∀(f:Nat)(ns:List ab)(ks:List Nd)(a nd:Nat),ws.length+2<=f+a->ns.length<=a->ks.length<=a->a<=ws.length->nd<=200->
  (∀y,Ez ws (cE ws nv n) f ns ks a nd=some y->∀g,Q .ret ⟨g,3,[l9 ws y.2.2.1 y.2.2.2,qA op num tx y.1 y.2.1,.var 0 [.ptr 1 0]],kG y.1 y.2.1⟩)->
  (Ez ws (cE ws nv n) f ns ks a nd=none->pX X)->
  LW L 51 ⟨2,2,X⟩ ajo ⟨[(0,.ptr 0 0),(1,.ptr 1 0),(2,dI d),(4,.ptr 2 0)],3,[l9 ws a nd,qA op num tx ns ks,.var 0 [.ptr 1 0]],kG ns ks⟩ Q:=by
 subst A;intro f
 induction f with
 |zero=>intro ns ks a nd o _ _ i;omega
 |succ f j=>
  intro ns ks a nd O I N E u t hN;have U:=ca ks;have M:=bl ns;unfold Ez at t hN;refine LW.unfold ?_;by_cases e:a<ws.length
  case neg=>
   rw[if_pos e]at hN;obtain⟨T,rfl,c⟩:=hN rfl;have o:=mm (bx:=[.var 0 [.ptr 2 0],qA op num tx ns ks]) (cg:=[.var 0 [.ptr 2 0],qA op num tx ns ks]) (rl:=kG ns ks) (f:=416) (kj:=[.ptr 1 0]) w z ws p a nd E rfl rfl (fun h=>absurd h e)
   repeat' ((conv=>whnf);first|refine jY (iH o [0,2,1] [0,1] rfl rfl rfl rfl ⟨rfl,rfl,rfl,trivial⟩ ⟨rfl,rfl,trivial⟩ c)|fail)
  rw[if_neg (not_not_intro e)]at t hN;have v:bP ws a=ws[a]:=by simp[bP,e]
  have r:=afm C b ws a nd ws[a] op num tx ns om ks;by_cases s:bP ws a=qm
  .rw[if_pos s]at t;have t:=t _ rfl;dsimp only at t;rw[v]at s;rw[iA (.inl s)]at r;have o:=vH (nb:=3) (cg:=[.var 0 [.ptr 2 0],qA op num tx ns ks]) w ws p a nd e rfl rfl r;rw[s]at o
   repeat' ((conv=>whnf);first|refine mR (az o [0,2,1] [0,1] ?_)|exact t _|fail)
  rw[if_neg s]at t hN;rw[v]at s;by_cases l:tc (bP ws a) ns
  .rw[if_pos l]at hN;obtain⟨T,rfl,c⟩:=hN rfl;rw[v]at l;rw[ig (fun h=>h.elim s fun h=>h l)]at r;have o:=mm (nb:=3) (bx:=[.var 0 [.ptr 2 0],qA op num tx ns ks]) (cg:=[.var 0 [.ptr 2 0],qA op num tx ns ks]) w z ws p a nd E rfl rfl (fun h=>r)
   repeat' ((conv=>whnf);first|refine jY (iH o [0,2,1] [0,1] rfl rfl rfl rfl ⟨rfl,rfl,rfl,trivial⟩ ⟨rfl,rfl,trivial⟩ c)|fail)
  rw[if_neg l]at t hN;rw[v]at l t hN;rw[iA (.inr l)]at r;have o:=vH (nb:=3) (cg:=[.var 0 [.ptr 2 0],qA op num tx ns ks]) w ws p a nd e rfl rfl r;have i:=hP false (a+1) nd (25-n) rfl e u;have q:=yS ws nv n false (a+1) nd;cases m:cE ws nv n false (a+1) nd with
  |none=>
   rw[m]at hN;obtain⟨T,rfl,c⟩:=hN rfl;have i:=i.2 m
   repeat' ((conv=>whnf);first|rw[wrap64 om]|rw[show(24:Int)-n+1=25-n by omega]|refine ad (by rw[ca];omega) ?_|refine ad (by rw[bl];omega) ?_|refine ad ⟨by rw[bl];omega,rfl⟩ ?_|apply aH|refine bY ?_|refine mR (az o [0,2,1] [0,1] ?_)|exact xc|refine rj ?_ ?_|refine Ln ?_|refine jY (iH i [0] [] rfl rfl rfl rfl ⟨rfl,trivial⟩ trivial c)|intro _)
  |some y=>
   obtain⟨k,S,x⟩:=y;rw[m]at t hN;have i:=i.1 _ _ _ m;obtain⟨F,H,R⟩:=q _ _ _ e u m;have j:=j (ns++[ws[a]]) (ks++[k]) S x om (by simp;omega) (by simp;omega) H R t hN;skip
   repeat' ((conv=>whnf);first|rw[wrap64 om]|rw[show(24:Int)-n+1=25-n by omega]|refine ad ⟨rfl,rfl⟩ ?_|refine ad (by rw[ca];omega) ?_|refine ad (by rw[bl];omega) ?_|refine ad ⟨by rw[bl];omega,rfl⟩ ?_|refine ad ⟨by rw[ca];(show _*80<=_);omega,rfl⟩ ?_|refine ad (by rw[bl];rfl) ?_|refine ad (by rw[ca];rfl) ?_|apply aH|refine bY ?_|refine mR (az o [0,2,1] [0,1] ?_)|exact xc|refine rj ?_ ?_|refine Wj ?_|refine bA.dE 20001 rfl (bA.dE 1220005 rfl (az i [0] [2,3] ?_))|refine LW.drop j ⟨rfl,rfl,rfl⟩ (by refine⟨?_,?_,?_⟩<;>repeat' first|(refine pJ ?_ ?_<;>first|exact rfl|(simp[aR];done))|exact sx|apply And.intro)|intro _)
variable{L:Lk}{rl:bm}{nb:Nat}{bx:List Bx}{s:ab}{f:Nat}{args:List AV}{p:Nat}
theorem CX.dE{X:AV->Prop}(e:Nat)(s:Nat.ble 1 (gw e)=true)(h:CX L f args nb bx (rl++[(0,e)]) X):CX L f args nb bx rl X:=by
 intro g w t o i a;obtain⟨n,r⟩:=Ab.ghost e (cb s) o (D7 _ _);refine(h _ w t r i fun j x y d l=>(a j x y d l).bj n).mono ?_;rintro m p ⟨u,rfl,c⟩;exact⟨u,rfl,c.after n⟩
theorem CX.QJ{cg:List Bx}{X:AV->Prop}(i:B8 rl bx cg)(h:CX L f args nb cg rl X):CX L f args nb bx rl X:=
 fun g w e a o t=>h g w e (a.B8 i) o t
theorem xO.dE{L:Lk}{f:Nat}{args:List AV}{nb:Nat}{bx:List Bx}{rl:bm}{K:AV->Nat->List Bx->bm->Prop}{X:AV->Prop}(e:Nat)(t:Nat.ble 1 (gw e)=true)(h:xO L X f args nb bx (rl++[(0,e)]) K):xO L X f args nb bx rl K:=by
 unfold xO at h⊢;rcases h with h|⟨a,o⟩|h
 .exact .inl (h.dE e t)
 .exact .inr (.inl ⟨a,o.dE e t⟩)
 .exact .inr (.inr h)
def ajp:AC:=match RX.body with| .seq _ (.seq _ (.block _ (.loop c)))=>c|_=> .skip
theorem drop_at{c:UInt8}{r:List UInt8}(h:s.drop p=c::r):s[p]?=some c/\s.drop (p+1)=r:=by
 refine⟨?_,?_⟩
 .have:=congrArg (·[0]?) h;simpa[mE]using this
 .have:=congrArg (List.drop 1) h;simpa[Dg]using this
structure IE(L:Lk)(ws:List ab)(nv:ab->Int)(n:Nat):Prop where
 C:ID L nv
 take:aJ L 384 Nc
 ref:aJ L 337 Nb
 hX:aJ L 417 Xk
 hK:aJ L 418 Xl
 hM:aJ L 419 Xm
 wl:ws.length<=1000000
 ww:∀w∈ws,w.length<=1000000
 lv:n<=24
 node:JN L ws nv n
 go:RF ws (cE ws nv n)
abbrev LP(L:Lk)(n:Nat)(ws:List ab)(X:Option (AV->Prop))(Q:AE->St->Prop)(op:Int)(s:ab)(p:Nat)(x:Bo):Prop:=
 LW L 96 ⟨2,2,X⟩ ajp ⟨[(0,.ptr 0 0),(1,.ptr 1 0),(2,dS s),(3,dI (24-n)),(5,.ptr 2 0),(11,.uv 3)],4,[l9 ws x.a x.nd,qA op x.num x.tx x.ns x.ks,.var 0 [.ptr 1 0],.iter s p],kG x.ns x.ks⟩ Q
structure UI(ws:List ab)(x:Bo):Prop where
 ns:x.ns.length<=1000
 ks:x.ks.length<=1000
 a:x.a<=ws.length
 nd:x.nd<=200
theorem ac8(T:IE L ws nv n){X:Option (AV->Prop)}{Q:AE->St->Prop}{op:Int}{x:Bo}(B:UI ws x)(t:s[p]?=some 86)(d:∀w,fh ws nv (cE ws nv n) op 86 x=some w->LP L n ws X Q op s (p+1) w)(hN:fh ws nv (cE ws nv n) op 86 x=none->pX X):LP L n ws X Q op s p x:=by
 obtain⟨num,v,l,u,a,h⟩:=x;obtain⟨c,m,b,o⟩:=B;have j:=T.lv;have q:=T.wl;dsimp only at c m b o;have A:=ca u;have O:=bl l;have i:(86:UInt8).toNat<128:=by decide
 have f:fh ws nv (cE ws nv n) op 86 ⟨num,v,l,u,a,h⟩=(cE ws nv n false a h).map fun y=>⟨num,v,l,u++[y.1],y.2.1,y.2.2⟩:=by
  unfold fh;rw[if_pos (.inl rfl)];rfl
 rw[f]at d hN;dsimp only[LP];refine LW.unfold ?_;have e:=T.node false a h (25-n) rfl b o;cases r:cE ws nv n false a h with
 |none=>
  rw[r]at hN;obtain⟨I,rfl,z⟩:=hN rfl;have e:=e.2 r
  repeat' ((conv=>whnf);first|rw[wrap64 om]|rw[show(24:Int)-n+1=25-n by omega]|refine bY ?_|refine mn _ t i ?_|refine rj ?_ ?_|refine Ln ?_|refine jY (iH e [0] [] rfl rfl rfl rfl ⟨rfl,trivial⟩ trivial z)|fail)
 |some y=>
  obtain⟨k,N,E⟩:=y;rw[r]at d;have e:=e.1 _ _ _ r;have g:=d _ rfl;dsimp only[LP]at g
  repeat' ((conv=>whnf);first|rw[wrap64 om]|rw[show(24:Int)-n+1=25-n by omega]|refine ad ⟨rfl,rfl⟩ ?_|refine ad (by rw[ca];omega) ?_|refine ad ⟨by rw[ca];(show _*80<=_);omega,rfl⟩ ?_|refine ad (by rw[bl];rfl) ?_|refine ad (by rw[ca];rfl) ?_|refine bY ?_|refine mn _ t i ?_|refine rj ?_ ?_|refine Wj ?_|refine bA.dE 20001 rfl (bA.dE 1220005 rfl (az e [0] [2,3] ?_))|refine LW.drop g ⟨rfl,rfl,rfl⟩ (by refine⟨?_,?_,?_⟩<;>repeat' first|(refine pJ ?_ ?_<;>first|exact rfl|(simp[aR];done))|exact sx|apply And.intro)|fail)
theorem ac4(T:IE L ws nv n){X:Option (AV->Prop)}{Q:AE->St->Prop}{op:Int}{x:Bo}(B:UI ws x)(t:s[p]?=some 65)(d:∀w,fh ws nv (cE ws nv n) op 65 x=some w->LP L n ws X Q op s (p+1) w)(hN:fh ws nv (cE ws nv n) op 65 x=none->pX X):LP L n ws X Q op s p x:=by
 obtain⟨num,v,l,u,a,h⟩:=x;obtain⟨c,m,b,o⟩:=B;have j:=T.lv;have q:=T.wl;dsimp only at c m b o;have A:=ca u;have O:=bl l;have i:(65:UInt8).toNat<128:=by decide
 have f:fh ws nv (cE ws nv n) op 65 ⟨num,v,l,u,a,h⟩=(cE ws nv n true a h).map fun y=>⟨num,v,l,u++[y.1],y.2.1,y.2.2⟩:=by
  unfold fh;rw[if_pos (.inr rfl)];rfl
 rw[f]at d hN;dsimp only[LP];refine LW.unfold ?_;have e:=T.node true a h (25-n) rfl b o;cases r:cE ws nv n true a h with
 |none=>
  rw[r]at hN;obtain⟨I,rfl,z⟩:=hN rfl;have e:=e.2 r
  repeat' ((conv=>whnf);first|rw[wrap64 om]|rw[show(24:Int)-n+1=25-n by omega]|refine bY ?_|refine mn _ t i ?_|refine rj ?_ ?_|refine Ln ?_|refine jY (iH e [0] [] rfl rfl rfl rfl ⟨rfl,trivial⟩ trivial z)|fail)
 |some y=>
  obtain⟨k,N,E⟩:=y;rw[r]at d;have e:=e.1 _ _ _ r;have g:=d _ rfl;dsimp only[LP]at g
  repeat' ((conv=>whnf);first|rw[wrap64 om]|rw[show(24:Int)-n+1=25-n by omega]|refine ad ⟨rfl,rfl⟩ ?_|refine ad (by rw[ca];omega) ?_|refine ad ⟨by rw[ca];(show _*80<=_);omega,rfl⟩ ?_|refine ad (by rw[bl];rfl) ?_|refine ad (by rw[ca];rfl) ?_|refine bY ?_|refine mn _ t i ?_|refine rj ?_ ?_|refine Wj ?_|refine bA.dE 20001 rfl (bA.dE 1220005 rfl (az e [0] [2,3] ?_))|refine LW.drop g ⟨rfl,rfl,rfl⟩ (by refine⟨?_,?_,?_⟩<;>repeat' first|(refine pJ ?_ ?_<;>first|exact rfl|(simp[aR];done))|exact sx|apply And.intro)|fail)
theorem ac7(T:IE L ws nv n){X:Option (AV->Prop)}{Q:AE->St->Prop}{op:Int}{x:Bo}(B:UI ws x)(o:s[p]?=some 78)(A:∀z,fh ws nv (cE ws nv n) op 78 x=some z->LP L n ws X Q op s (p+1) z)(hN:fh ws nv (cE ws nv n) op 78 x=none->pX X):LP L n ws X Q op s p x:=by
 obtain⟨num,y,c,m,a,i⟩:=x;obtain⟨v,b,g,k⟩:=B;have O:=T.lv;have r:=T.wl;dsimp only at v b g k;have S:=ca m;have H:=bl c;have d:(78:UInt8).toNat<128:=by decide
 have t:a<ws.length->fh ws nv (cE ws nv n) op 78 ⟨num,y,c,m,a,i⟩=open Classical in if(bO (bP ws a))then some ⟨num,y,c++[bP ws a],m,a+1,i⟩else none:=by
  intro e;unfold fh;rw[if_neg de,if_neg (not_not_intro e),if_pos rfl]
 have j:¬a<ws.length->fh ws nv (cE ws nv n) op 78 ⟨num,y,c,m,a,i⟩=none:=by
  intro e;unfold fh;rw[if_neg de,if_pos e]
 dsimp only[LP];refine LW.unfold ?_;by_cases e:a<ws.length
 case neg=>
  obtain⟨I,rfl,q⟩:=hN (j e);have u:=mm (nb:=1) (bx:=[]) (cg:=[]) (rl:=[]) (f:=89) (kj:=[]) T.take T.ref ws r a i g rfl rfl (fun h=>absurd h e)
  repeat' ((conv=>whnf);first|refine mn _ o d ?_|refine Ln ?_|refine jY (iH u [0] [] rfl rfl rfl rfl ⟨rfl,trivial⟩ trivial q)|fail)
 have N:bP ws a=ws[a]:=by simp[bP,e]
 have t:=t e;have l:=T.C.qR ws[a];have l:=l 1 [l9 ws a i] [];rw[N]at t;by_cases w:(bO (ws[a]))
 .rw[if_pos w]at t;rw[iA w]at l;have u:=vH (nb:=1) (cg:=[]) T.take ws r a i e rfl rfl l;have E:=A _ t;dsimp only[LP]at E
  repeat' ((conv=>whnf);first|refine ad (by rw[bl];omega) ?_|refine ad ⟨by rw[bl];omega,rfl⟩ ?_|refine bY ?_|refine mn _ o d ?_|refine Wj ?_|refine az u [0] [] ?_|refine LW.drop E ⟨rfl,rfl,rfl⟩ (by refine⟨?_,?_,?_⟩<;>repeat' first|(refine pJ ?_ ?_<;>first|exact rfl|(simp[aR];done))|exact sx|apply And.intro)|fail)
 .rw[if_neg w]at t;obtain⟨I,rfl,q⟩:=hN t;rw[ig w]at l;have u:=mm (nb:=1) (bx:=[]) (cg:=[]) T.take T.ref ws r a i g rfl rfl (fun _=>l)
  repeat' ((conv=>whnf);first|refine mn _ o d ?_|refine Ln ?_|refine jY (iH u [0] [] rfl rfl rfl rfl ⟨rfl,trivial⟩ trivial q)|fail)
theorem ac9(T:IE L ws nv n){X:Option (AV->Prop)}{Q:AE->St->Prop}{op:Int}{x:Bo}(B:UI ws x)(d:s[p]?=some 88)(E:∀q,fh ws nv (cE ws nv n) op 88 x=some q->LP L n ws X Q op s (p+1) q)(hN:fh ws nv (cE ws nv n) op 88 x=none->pX X):LP L n ws X Q op s p x:=by
 obtain⟨num,r,o,i,a,l⟩:=x;obtain⟨v,b,g,k⟩:=B;have A:=T.lv;have u:=T.wl;dsimp only at v b g k;have N:=ca i;have S:=bl o;have c:(88:UInt8).toNat<128:=by decide
 have t:a<ws.length->fh ws nv (cE ws nv n) op 88 ⟨num,r,o,i,a,l⟩=open Classical in if(ng (bP ws a)/\bP ws a∉o)then some ⟨num,r,o++[bP ws a],i,a+1,l⟩else none:=by
  intro e;unfold fh;rw[if_neg de,if_neg (not_not_intro e),if_neg de,if_pos rfl]
 have j:¬a<ws.length->fh ws nv (cE ws nv n) op 88 ⟨num,r,o,i,a,l⟩=none:=by
  intro e;unfold fh;rw[if_neg de,if_pos e]
 dsimp only[LP];refine LW.unfold ?_;by_cases e:a<ws.length
 case neg=>
  obtain⟨O,rfl,hX⟩:=hN (j e);have m:=mm (nb:=3) (bx:=[.var 0 [.ptr 2 0],qA op num r o i]) (cg:=[.var 0 [.ptr 2 0],qA op num r o i]) (rl:=kG o i) (f:=417) (kj:=[.ptr 1 0]) T.take T.ref ws u a l g rfl rfl (fun h=>absurd h e)
  repeat' ((conv=>whnf);first|refine mn _ d c ?_|refine Ln ?_|refine jY (iH m [0,2,1] [0,1] rfl rfl rfl rfl ⟨rfl,rfl,rfl,trivial⟩ ⟨rfl,rfl,trivial⟩ hX)|fail)
 have I:bP ws a=ws[a]:=by simp[bP,e]
 have t:=t e;have w:=afp T.C T.hX ws a l ws[a] op num r o i;rw[I]at t;by_cases y:(ng (ws[a])/\ws[a]∉o)
 .rw[if_pos y]at t;rw[iA y]at w;have m:=vH (nb:=3) (cg:=[.var 0 [.ptr 2 0],qA op num r o i]) T.take ws u a l e rfl rfl w;have z:=E _ t;dsimp only[LP]at z
  repeat' ((conv=>whnf);first|refine ad (by rw[bl];omega) ?_|refine ad ⟨by rw[bl];omega,rfl⟩ ?_|refine bY ?_|refine mn _ d c ?_|refine Wj ?_|refine az m [0,2,1] [0,1] ?_|refine LW.drop z ⟨rfl,rfl,rfl⟩ (by refine⟨?_,?_,?_⟩<;>repeat' first|(refine pJ ?_ ?_<;>first|exact rfl|(simp[aR];done))|exact sx|apply And.intro)|fail)
 .rw[if_neg y]at t;obtain⟨O,rfl,hX⟩:=hN t;rw[ig y]at w;have m:=mm (nb:=3) (bx:=[.var 0 [.ptr 2 0],qA op num r o i]) (cg:=[.var 0 [.ptr 2 0],qA op num r o i]) T.take T.ref ws u a l g rfl rfl (fun _=>w)
  repeat' ((conv=>whnf);first|refine mn _ d c ?_|refine Ln ?_|refine jY (iH m [0,2,1] [0,1] rfl rfl rfl rfl ⟨rfl,rfl,rfl,trivial⟩ ⟨rfl,rfl,trivial⟩ hX)|fail)
theorem ac5(T:IE L ws nv n){X:Option (AV->Prop)}{Q:AE->St->Prop}{op:Int}{x:Bo}(B:UI ws x)(o:s[p]?=some 75)(O:∀z,fh ws nv (cE ws nv n) op 75 x=some z->LP L n ws X Q op s (p+1) z)(hN:fh ws nv (cE ws nv n) op 75 x=none->pX X):LP L n ws X Q op s p x:=by
 obtain⟨num,E,c,m,a,i⟩:=x;obtain⟨y,v,g,k⟩:=B;have I:=T.lv;have r:=T.wl;dsimp only at y v g k;have H:=ca m;have R:=bl c;have d:(75:UInt8).toNat<128:=by decide
 have t:a<ws.length->fh ws nv (cE ws nv n) op 75 ⟨num,E,c,m,a,i⟩=open Classical in if((kindOf (bP ws a)).isSome=true)then some ⟨num,bP ws a,c,m,a+1,i⟩else none:=by
  intro e;unfold fh;rw[if_neg de,if_neg (not_not_intro e),if_neg de,if_neg de,if_pos rfl]
 have j:¬a<ws.length->fh ws nv (cE ws nv n) op 75 ⟨num,E,c,m,a,i⟩=none:=by
  intro e;unfold fh;rw[if_neg de,if_pos e]
 dsimp only[LP];refine LW.unfold ?_;by_cases e:a<ws.length
 case neg=>
  obtain⟨N,rfl,q⟩:=hN (j e);have u:=mm (nb:=1) (bx:=[]) (cg:=[]) (rl:=[]) (f:=418) (kj:=[]) T.take T.ref ws r a i g rfl rfl (fun h=>absurd h e)
  repeat' ((conv=>whnf);first|refine mn _ o d ?_|refine Ln ?_|refine jY (iH u [0] [] rfl rfl rfl rfl ⟨rfl,trivial⟩ trivial q)|fail)
 have S:bP ws a=ws[a]:=by simp[bP,e]
 have t:=t e;have l:=afn T.C T.hK ws[a];have l:=l 1 [l9 ws a i] [];rw[<-adQ (b:=(kindOf ws[a]).isSome)]at l;rw[S]at t;by_cases w:((kindOf (ws[a])).isSome=true)
 .rw[if_pos w]at t;rw[iA w]at l;have u:=vH (nb:=1) (cg:=[]) T.take ws r a i e rfl rfl l;have A:=O _ t;dsimp only[LP]at A
  repeat' ((conv=>whnf);first|refine bY ?_|refine mn _ o d ?_|refine Wj ?_|refine az u [0] [] ?_|refine LW.drop A ⟨rfl,rfl,rfl⟩ (by refine⟨?_,?_,?_⟩<;>repeat' first|(refine pJ ?_ ?_<;>first|exact rfl|(simp[aR];done))|exact sx|apply And.intro)|fail)
 .rw[if_neg w]at t;obtain⟨N,rfl,q⟩:=hN t;rw[ig w]at l;have u:=mm (nb:=1) (bx:=[]) (cg:=[]) T.take T.ref ws r a i g rfl rfl (fun _=>l)
  repeat' ((conv=>whnf);first|refine mn _ o d ?_|refine Ln ?_|refine jY (iH u [0] [] rfl rfl rfl rfl ⟨rfl,trivial⟩ trivial q)|fail)
theorem ac6(T:IE L ws nv n){X:Option (AV->Prop)}{Q:AE->St->Prop}{op:Int}{x:Bo}(B:UI ws x){c:UInt8}(i:c.toNat<128)(t:c.toNat≠86/\c.toNat≠65/\c.toNat≠78/\c.toNat≠88/\c.toNat≠75)(u:s[p]?=some c)(I:∀A,fh ws nv (cE ws nv n) op c x=some A->LP L n ws X Q op s (p+1) A)(hN:fh ws nv (cE ws nv n) op c x=none->pX X):LP L n ws X Q op s p x:=by
 obtain⟨num,l,r,d,a,m⟩:=x;obtain⟨g,k,j,q⟩:=B;have N:=T.lv;have w:=T.wl;dsimp only at g k j q;have D:=ca d;have U:=bl r;have i:(c:UInt8).toNat<128:=i
 have o:a<ws.length->fh ws nv (cE ws nv n) op c ⟨num,l,r,d,a,m⟩=open Classical in if(isNum (bP ws a)/\Qw op (nv (bP ws a)))then some ⟨nv (bP ws a),l,r,d,a+1,m⟩else none:=by
  intro e;unfold fh;rw[if_neg (fun h=>h.elim (fun h=>t.1 (by rw[h];rfl)) fun h=>t.2.1 (by rw[h];rfl)),if_neg (not_not_intro e),if_neg (fun h=>t.2.2.1 (by rw[h];rfl)),if_neg (fun h=>t.2.2.2.1 (by rw[h];rfl)),if_neg (fun h=>t.2.2.2.2 (by rw[h];rfl))]
 have z:¬a<ws.length->fh ws nv (cE ws nv n) op c ⟨num,l,r,d,a,m⟩=none:=by
  intro e;unfold fh;rw[if_neg (fun h=>h.elim (fun h=>t.1 (by rw[h];rfl)) fun h=>t.2.1 (by rw[h];rfl)),if_pos e]
 dsimp only[LP];refine LW.unfold ?_;by_cases e:a<ws.length
 case neg=>
  obtain⟨S,rfl,E⟩:=hN (z e);have v:=mm (nb:=3) (bx:=[.var 0 [.ptr 2 0],qA op num l r d]) (cg:=[.var 0 [.ptr 2 0],qA op num l r d]) (rl:=kG r d) (f:=419) (kj:=[.ptr 1 0]) T.take T.ref ws w a m j rfl rfl (fun h=>absurd h e)
  repeat' ((conv=>whnf);first|exact xo|apply aD|refine mn _ u i ?_|refine Ln ?_|refine jY (iH v [0,2,1] [0,1] rfl rfl rfl rfl ⟨rfl,rfl,rfl,trivial⟩ ⟨rfl,rfl,trivial⟩ E)|intro _)
 have H:bP ws a=ws[a]:=by simp[bP,e]
 have o:=o e;have b:=afo T.C T.hM ws a m ws[a] (T.ww _ (eu e)) op num l r d;rw[H]at o;by_cases y:(isNum (ws[a])/\Qw op (nv (ws[a])))
 .rw[if_pos y]at o;unfold Qw at y;rw[iA y]at b;have v:=vH (nb:=3) (cg:=[.var 0 [.ptr 2 0],qA op num l r d]) T.take ws w a m e rfl rfl b;have O:=I _ o;dsimp only[LP]at O;obtain⟨_,R⟩:=T.C.aix ws[a] (T.ww _ (eu e))
  repeat' ((conv=>whnf);first|exact xo|apply aD|refine bY ?_|refine mn _ u i ?_|refine iu R ?_|refine Wj ?_|refine az v [0,2,1] [0,1] ?_|refine LW.drop O ⟨rfl,rfl,rfl⟩ (by refine⟨?_,?_,?_⟩<;>repeat' first|(refine pJ ?_ ?_<;>first|exact rfl|(simp[aR];done))|exact sx|apply And.intro)|intro _)
 .rw[if_neg y]at o;obtain⟨S,rfl,E⟩:=hN o;unfold Qw at y;rw[ig y]at b;have v:=mm (nb:=3) (bx:=[.var 0 [.ptr 2 0],qA op num l r d]) (cg:=[.var 0 [.ptr 2 0],qA op num l r d]) T.take T.ref ws w a m j rfl rfl (fun _=>b)
  repeat' ((conv=>whnf);first|exact xo|apply aD|refine mn _ u i ?_|refine Ln ?_|refine jY (iH v [0,2,1] [0,1] rfl rfl rfl rfl ⟨rfl,rfl,rfl,trivial⟩ ⟨rfl,rfl,trivial⟩ E)|intro _)
theorem NT(T:IE L ws nv n){X:Option (AV->Prop)}{Q:AE->St->Prop}{op:Int}:∀(r:List UInt8)(p:Nat)(x:Bo),s.drop p=r->(∀c∈r,c.toNat<128)->
  x.ns.length+r.length<=1000->x.ks.length+r.length<=1000->x.a<=ws.length->x.nd<=200->
  (∀o,oI ws nv (cE ws nv n) op r x=some o->∀b q,Q (.exit 0) ⟨b,4,[l9 ws o.a o.nd,qA op o.num o.tx o.ns o.ks,.var 0 [.ptr 1 0],.iter s q],kG o.ns o.ks⟩)->
  (oI ws nv (cE ws nv n) op r x=none->pX X)->LP L n ws X Q op s p x:=by
 intro r
 induction r with
 |nil=>
  intro p x m _ _ _ _ _ u _
  have t:s[p]?=none:=by
   have:=congrArg List.length m;simp at this;simp;omega
  have u:=u x rfl;refine LW.unfold ?_
  repeat' ((conv=>whnf);first|refine X8 t ?_|exact u _ _|fail)
 |cons c r D=>
  intro p x m f g j O w u hN;obtain⟨t,m⟩:=drop_at m;have z:=f c (iE ..);have E:∀c∈r,c.toNat<128:=fun c h=>f c (iS _ h)
  simp only[aZ]at g j;have B:UI ws x:=⟨by omega,by omega,O,w⟩
  have i:∀o,fh ws nv (cE ws nv n) op c x=some o->LP L n ws X Q op s (p+1) o:=by
   intro o v;obtain⟨M,U,C,F,Y⟩:=N' T.go v O w;refine D (p+1) o m E om om U C ?_ ?_
   .intro y A;exact u y (by unfold oI;rw[v];exact A)
   .intro A;exact hN (by unfold oI;rw[v];exact A)
  have d:fh ws nv (cE ws nv n) op c x=none->pX X:=fun v=>hN (by unfold oI;rw[v])
  clear u hN;by_cases I:c=86
  .subst I;exact ac8 T B t i d
  by_cases N:c=65
  .subst N;exact ac4 T B t i d
  by_cases S:c=78
  .subst S;exact ac7 T B t i d
  by_cases H:c=88
  .subst H;exact ac9 T B t i d
  by_cases R:c=75
  .subst R;exact ac5 T B t i d
  have l:∀k:UInt8,c≠k->c.toNat≠k.toNat:=fun k h e=>h (AH.1 e)
  exact ac6 T B z ⟨l 86 I,l 65 N,l 78 S,l 88 H,l 75 R⟩ t i d
theorem acF(T:IE L ws nv n)(s:aJ L 388 RV)(e:aJ L 416 Ng)(op num:Int)(tx:ab){a nd:Nat}(r:1<=a)(d:a<=ws.length)(t:nd<=200){y:List ab×List Nd×Nat×Nat}(h:Ez ws (cE ws nv n) (ws.length+1) [] [] a nd=some y):
  CT L 388 [.ptr 0 0,.ptr 1 0,dI (24-n)] 2 [l9 ws a nd,jg op num tx] [(0,20001),(0,1220005)] (.b6 []) 2 [l9 ws y.2.2.1 y.2.2.2,qA op num tx y.1 y.2.1] (kG y.1 y.2.1):=by
 refine CT.QJ (cg:=[l9 ws a nd,qA op num tx [] []]) tE ?_;refine s.ct ?_
 repeat' ((conv=>whnf);first|apply aq|apply bK|apply aD|apply aH|apply bp|apply aM|apply eA|apply ew|apply gQ|apply bS|rw[ca];intro _|rw[dC];intro _|rw[bl];intro _|refine bY ?_|intro _)
 all_goals(conv=>whnf)
 refine LW.drop (S6 T.C T.take T.ref e T.wl T.lv T.node rfl none _ op num tx (ws.length+1) [] [] a nd om (cr _) (cr _) d t ?_ (fun o=>by rw[h]at o;cases o)) ⟨rfl,rfl,rfl⟩ lz;intro u i l;rw[h]at i;cases i
 repeat' ((conv=>whnf);first|apply aq|apply bK|apply aD|apply aH|apply bp|apply aM|apply eA|apply ew|apply gQ|apply bS|rw[ca];intro _|rw[dC];intro _|rw[bl];intro _|refine bY ?_|exact fz|intro _)
theorem acE(T:IE L ws nv n)(i:aJ L 388 RV)(e:aJ L 416 Ng)(op num:Int)(tx:ab){a nd:Nat}(s:1<=a)(r:a<=ws.length)(t:nd<=200)(h:Ez ws (cE ws nv n) (ws.length+1) [] [] a nd=none):
  CX L 388 [.ptr 0 0,.ptr 1 0,dI (24-n)] 2 [l9 ws a nd,jg op num tx] [(0,20001),(0,1220005)] XF:=by
 refine CX.QJ (cg:=[l9 ws a nd,qA op num tx [] []]) tE ?_;refine CX.enter i rfl ?_
 repeat' ((conv=>whnf);first|apply aq|apply bK|apply aD|apply aH|apply bp|apply aM|apply eA|apply ew|apply gQ|apply bS|rw[ca];intro _|rw[dC];intro _|rw[bl];intro _|refine bY ?_|intro _)
 all_goals(conv=>whnf)
 refine LW.drop (S6 T.C T.take T.ref e T.wl T.lv T.node rfl (some XF) _ op num tx (ws.length+1) [] [] a nd om (cr _) (cr _) r t ?_ (fun _=>⟨_,rfl,fun _ h=>h⟩)) ⟨rfl,rfl,rfl⟩ lz;intro l o d;rw[h]at o;cases o
theorem NU(T:IE L ws nv n)(r:aJ L 389 RX)(op num:Int)(tx:ab)(e:(∀c∈s,c.toNat<128)/\s.length<=1000){a nd:Nat}(d:a<=ws.length)(t:nd<=200){y:Bo}(h:oI ws nv (cE ws nv n) op s ⟨num,tx,[],[],a,nd⟩=some y):
  CT L 389 [.ptr 0 0,.ptr 1 0,dS s,dI (24-n)] 2 [l9 ws a nd,jg op num tx] [(0,20001),(0,1220005)] (.b6 []) 2 [l9 ws y.a y.nd,qA op y.num y.tx y.ns y.ks] (kG y.ns y.ks):=by
 refine CT.QJ (cg:=[l9 ws a nd,qA op num tx [] []]) tE ?_;refine r.ct ?_
 repeat' ((conv=>whnf);first|apply aq|apply bK|apply aD|apply aH|apply bp|apply aM|apply eA|apply ew|apply gQ|apply bS|rw[ca];intro _|rw[dC];intro _|rw[bl];intro _|refine bY ?_|intro _)
 all_goals(conv=>whnf)
 refine LW.drop (NT T (X:=none) (op:=op) s 0 ⟨num,tx,[],[],a,nd⟩ rfl e.1 (by simpa using e.2) (by simpa using e.2) d t ?_ (fun o=>by rw[h]at o;cases o)) ⟨rfl,rfl,rfl⟩ lz;intro u i l q;rw[h]at i;cases i
 repeat' ((conv=>whnf);first|apply aq|apply bK|apply aD|apply aH|apply bp|apply aM|apply eA|apply ew|apply gQ|apply bS|rw[ca];intro _|rw[dC];intro _|rw[bl];intro _|refine bY ?_|exact fz|intro _)
theorem ZM(T:IE L ws nv n)(i:aJ L 389 RX)(op num:Int)(tx:ab)(e:(∀c∈s,c.toNat<128)/\s.length<=1000){a nd:Nat}(r:a<=ws.length)(t:nd<=200)(h:oI ws nv (cE ws nv n) op s ⟨num,tx,[],[],a,nd⟩=none):
  CX L 389 [.ptr 0 0,.ptr 1 0,dS s,dI (24-n)] 2 [l9 ws a nd,jg op num tx] [(0,20001),(0,1220005)] XF:=by
 refine CX.QJ (cg:=[l9 ws a nd,qA op num tx [] []]) tE ?_;refine CX.enter i rfl ?_
 repeat' ((conv=>whnf);first|apply aq|apply bK|apply aD|apply aH|apply bp|apply aM|apply eA|apply ew|apply gQ|apply bS|rw[ca];intro _|rw[dC];intro _|rw[bl];intro _|refine bY ?_|intro _)
 all_goals(conv=>whnf)
 refine LW.drop (NT T (X:=some XF) (op:=op) s 0 ⟨num,tx,[],[],a,nd⟩ rfl e.1 (by simpa using e.2) (by simpa using e.2) r t ?_ (fun _=>⟨_,rfl,fun _ h=>h⟩)) ⟨rfl,rfl,rfl⟩ lz;intro l o d q;rw[h]at o;cases o
end Go.Ab
namespace Go.Ab
open Go
attribute [local irreducible] bI cf cw bW bA dk dT
attribute [local irreducible] xO uJ W
variable{L:Lk}{n:Nat}{ws:List ab}{nv:ab->Int}
set_option maxHeartbeats 4000000
theorem Wi(op:Int):(∀c∈iz op,c.toNat<128)/\(iz op).length<=1000:=by
 have h:∀s∈yR,(∀c∈s,c.toNat<128)/\s.length<=1000:=by decide
 unfold iz;split
 .rw[ny];cases e:yR[(op-5).toNat]? with
  |none=>exact⟨fun c h=>by simp at h,by simp⟩
  |some s=>exact h s (vc e)
 .exact⟨fun c h=>by simp at h,by simp⟩
structure YK(L:Lk)(ws:List ab)(nv:ab->Int):Prop where
 C:ID L nv
 take:aJ L 384 Nc
 ref:aJ L 337 Nb
 hX:aJ L 417 Xk
 hK:aJ L 418 Xl
 hM:aJ L 419 Xm
 hF:aJ L 416 Ng
 h1:aJ L 385 Nf
 lit:aJ L 387 Xj
 form:aJ L 388 RV
 parts:aJ L 389 RX
 node:aJ L 336 ahA
 wl:ws.length<=1000000
 ww:∀w∈ws,w.length<=1000000
theorem YK.pt(T:YK L ws nv)(e:n<=24)(hP:JN L ws nv n):IE L ws nv n:=⟨T.C,T.take,T.ref,T.hX,T.hK,T.hM,T.wl,T.ww,e,hP,yS ws nv n⟩
theorem acY(T:YK L ws nv):JN L ws nv 0:=by
 rintro e a nd d rfl s t;refine⟨fun k r o h=>(by unfold cE at h;cases h),fun _=>?_⟩;have i:=CV T.ref ws a (nd+1) 3 de;have n:IntKind.i64.wrap ((nd:Int)+1)=((nd+1:Nat):Int):=by rw[wrap64 om];omega
 refine CX.jq T.node rfl ?_
 repeat' ((conv=>whnf);first|refine eY ?_|refine dW ?_|refine eb ?_|refine fT ?_|rw[n]|refine jY (iH i [0] [] rfl rfl rfl rfl (And.intro rfl trivial) trivial (fun _ h=>h))|fail)
theorem acZ(T:YK L ws nv)(H:n<=24)(hP:JN L ws nv n):JN L ws nv (n+1):=by
 rintro i a nd d rfl E R;have D:(25:Int)-(n+1:Nat)=24-n:=by omega
 rw[D];have w:IntKind.i64.wrap ((nd:Int)+1)=((nd+1:Nat):Int):=by rw[wrap64 om];omega
 have u:=T.wl;have P:=T.pt H hP;unfold cE;by_cases g:200<nd+1
 .rw[if_pos g];refine⟨fun k v r h=>(by cases h),fun _=>?_⟩;have U:=CV T.ref ws a (nd+1) 4 de;refine CX.jq T.node rfl ?_
  repeat' ((conv=>whnf);first|refine eY ?_|refine dW ?_|refine eb ?_|refine fT ?_|refine eM ?_|exact xo|rw[w]|apply aq|refine jY (iH U [0] [] rfl rfl rfl rfl (And.intro rfl trivial) trivial (fun _ h=>h))|intro _)
 rw[if_neg g];by_cases o:a<ws.length
 case neg=>
  rw[if_pos o];refine⟨fun k v r h=>(by cases h),fun _=>?_⟩;have h1:=mm (nb:=3) (bx:=[jg 0 0 [],zy i]) (cg:=[jg 0 0 [],zy i]) (rl:=[]) (f:=385) (kj:=[.ptr 1 0,.ptr 2 0]) T.take T.ref ws u a (nd+1) E rfl rfl (fun h=>absurd h o);refine CX.jq T.node rfl ?_
  repeat' ((conv=>whnf);first|refine eY ?_|refine dW ?_|refine eb ?_|refine fT ?_|refine eM ?_|exact xo|rw[w]|apply aq|refine jY (iH h1 [0,3,1] [] rfl rfl rfl rfl ⟨rfl,rfl,rfl,trivial⟩ trivial (fun _ h=>h))|intro _)
 rw[if_neg (not_not_intro o)];have I:bP ws a=ws[a]:=by simp[bP,o]
 rw[I];by_cases l:c6 ws[a]≠0
 .rw[if_pos l];have M:=N7 l;have m:=afi T.C T.h1 ws a (nd+1) i ws[a] l;have e:=T.C.row (c6 ws[a]);have q:=Wi (c6 ws[a]);by_cases b:pb (36<=c6 ws[a])≠i
  .rw[if_pos b];refine⟨fun k v r h=>(by cases h),fun _=>?_⟩;have e0:(pb (36<=c6 ws[a])==i)=false:=by simpa using b
   rw[e0]at m;have h1:=mm (nb:=3) (bx:=[jg 0 0 [],zy i]) (cg:=[jg (c6 ws[a]) 0 [],zy i]) (rl:=[]) (f:=385) (kj:=[.ptr 1 0,.ptr 2 0]) T.take T.ref ws u a (nd+1) E rfl rfl (fun _=>m);refine CX.jq T.node rfl ?_
   repeat' ((conv=>whnf);first|refine eY ?_|refine dW ?_|refine eb ?_|refine fT ?_|refine eM ?_|exact xo|rw[w]|apply aq|refine jY (iH h1 [0,3,1] [] rfl rfl rfl rfl ⟨rfl,rfl,rfl,trivial⟩ trivial (fun _ h=>h))|intro _)
  rw[if_neg b];have e0:(pb (36<=c6 ws[a])==i)=true:=by simpa using b
  rw[e0]at m;have h1:=vH (nb:=3) (cg:=[jg (c6 ws[a]) 0 [],zy i]) (rl:=[]) T.take ws u a (nd+1) o rfl rfl m;generalize c6 ws[a]=x at*;by_cases j:x=24
  .rw[if_pos j];subst j;cases z:Ez ws (cE ws nv n) (ws.length+1) [] [] (a+1) (nd+1)with
   |none=>
    refine⟨fun k v r h=>(by cases h),fun _=>?_⟩;have p:=acE P T.form T.hF 24 0 [] (Nat.succ_le_succ (cr a)) o om z;refine CX.jq T.node rfl ?_
    repeat' ((conv=>whnf);first|refine eY ?_|refine dW ?_|refine eb ?_|refine fT ?_|refine eM ?_|exact xo|rw[w]|apply aq|refine mR (az h1 [0,3,1] [] ?_)|refine mR (ak e ?_)|refine jY (xO.dE 20001 rfl (xO.dE 1220005 rfl (iH p [0,3] [0,1] rfl rfl rfl rfl ⟨rfl,rfl,trivial⟩ ⟨rfl,rfl,trivial⟩ (fun _ h=>h))))|intro _)
   |some y=>
    refine⟨fun k v r h=>?_,fun h=>(by cases h)⟩;cases h;have p:=acF P T.form T.hF 24 0 [] (Nat.succ_le_succ (cr a)) o om z;refine CT.jq T.node rfl (aQ _) (aQ _) ?_
    repeat' ((conv=>whnf);first|refine eY ?_|refine dW ?_|refine eb ?_|refine fT ?_|refine mQ ?_|refine eM ?_|exact xo|rw[w]|apply aq|refine mR (az h1 [0,3,1] [] ?_)|refine mR (ak e ?_)|refine mR (az p [0,3] [0,1] ?_)|exact fz|intro _)
  rw[if_neg j];cases z:oI ws nv (cE ws nv n) x (iz x) ⟨0,[],[],[],a+1,nd+1⟩with
  |none=>
   refine⟨fun k v r h=>(by cases h),fun _=>?_⟩;have p:=ZM P T.parts x 0 [] q o om z;refine CX.jq T.node rfl ?_
   repeat' ((conv=>whnf);first|refine eY ?_|refine dW ?_|refine eb ?_|refine fT ?_|refine eM ?_|exact xo|rw[w]|apply aq|apply aD|refine mR (az h1 [0,3,1] [] ?_)|refine mR (ak e ?_)|refine jY (xO.dE 20001 rfl (xO.dE 1220005 rfl (iH p [0,3] [0,1] rfl rfl rfl rfl ⟨rfl,rfl,trivial⟩ ⟨rfl,rfl,trivial⟩ (fun _ h=>h))))|intro _)
  |some y=>
   refine⟨fun k v r h=>?_,fun h=>(by cases h)⟩;cases h;have p:=NU P T.parts x 0 [] q o om z;refine CT.jq T.node rfl (aQ _) (aQ _) ?_
   repeat' ((conv=>whnf);first|refine eY ?_|refine dW ?_|refine eb ?_|refine fT ?_|refine mQ ?_|refine eM ?_|exact xo|rw[w]|apply aq|apply aD|refine mR (az h1 [0,3,1] [] ?_)|refine mR (ak e ?_)|refine mR (az p [0,3] [0,1] ?_)|exact fz|intro _)
 rw[if_neg l];have l:c6 ws[a]=0:=HW.1 l;cases i with
 |true=>
  rw[if_pos rfl];refine⟨fun k v r h=>(by cases h),fun _=>?_⟩;have m:=afj T.C T.h1 ws a (nd+1) ws[a] l;have h1:=mm (nb:=3) (bx:=[jg 0 0 [],zy true]) (cg:=[jg 0 0 [],zy true]) (rl:=[]) (f:=385) (kj:=[.ptr 1 0,.ptr 2 0]) T.take T.ref ws u a (nd+1) E rfl rfl (fun _=>m);refine CX.jq T.node rfl ?_
  repeat' ((conv=>whnf);first|refine eY ?_|refine dW ?_|refine eb ?_|refine fT ?_|refine eM ?_|exact xo|rw[w]|apply aq|refine jY (iH h1 [0,3,1] [] rfl rfl rfl rfl ⟨rfl,rfl,rfl,trivial⟩ trivial (fun _ h=>h))|intro _)
 |false=>
  rw[if_neg si];unfold Lp;by_cases A:∃t,fX ws[a]=some t/\(1<=t.sort/\t.sort<=3)
  .rw[if_pos A];obtain⟨t,S,F⟩:=A;rw[S];refine⟨fun k v r h=>?_,fun h=>(by cases h)⟩;cases h;have m:=afk T.C T.h1 T.lit ws a (nd+1) ws[a] l t S F;have h1:=vH (nb:=3) (cg:=[jg t.sort t.num t.text,zy false]) (rl:=[]) T.take ws u a (nd+1) o rfl rfl m;have e:=T.C.row t.sort;have N:iz t.sort=[]:=if_neg om;rw[N]at e;have p:=NU P T.parts t.sort t.num t.text (s:=[]) ⟨fun c h=>(by simp at h),by simp⟩ (a:=a+1) (nd:=nd+1) o om rfl;refine CT.jq T.node rfl (aQ _) (aQ _) ?_
   repeat' ((conv=>whnf);first|refine eY ?_|refine dW ?_|refine eb ?_|refine fT ?_|refine mQ ?_|refine eM ?_|exact xo|rw[w]|apply aq|apply aD|refine mR (az h1 [0,3,1] [] ?_)|refine mR (ak e ?_)|refine mR (az p [0,3] [0,1] ?_)|exact fz|intro _)
  rw[if_neg A];have m:=afl T.C T.h1 ws a (nd+1) ws[a] l (fun t h1 p=>A ⟨t,h1,p⟩);by_cases O:ng ws[a]
  .rw[if_pos O];rw[iA O]at m;refine⟨fun k v r h=>?_,fun h=>(by cases h)⟩;cases h;have e:=T.C.row 4;have h1:=vH (nb:=3) (cg:=[jg 4 0 [],zy false]) (rl:=[]) T.take ws u a (nd+1) o rfl rfl m;refine CT.za (v0:=.agg [dI 4,dI 0,dS [],.aO [[.str ws[a]]] (.fe 0),.aO [] .nil]) (dQ:=[l9 ws (a+1) (nd+1)]) ?_ tE (fJ _ _);refine CT.pick [0] [2,1] (bZ:=[(0,20001),(0,1220005),(2,20001)]) ?_ rfl rfl rfl rfl (And.intro rfl (And.intro rfl trivial)) ⟨.inr ⟨rfl,rfl,by decide,by decide⟩,.inl rfl,trivial⟩;refine CT.jq T.node rfl (aQ _) (cb rfl) ?_
   repeat' ((conv=>whnf);first|refine eY ?_|refine dW ?_|refine eb ?_|refine fT ?_|refine mQ ?_|refine eM ?_|exact xo|rw[w]|apply aq|refine bY ?_|refine mR (az h1 [0,3,1] [] ?_)|refine mR (ak e ?_)|exact fz|intro _)
  .rw[if_neg O];rw[ig O]at m;refine⟨fun k v r h=>(by cases h),fun _=>?_⟩;have h1:=mm (nb:=3) (bx:=[jg 0 0 [],zy false]) (cg:=[jg 4 0 [],zy false]) (rl:=[]) (f:=385) (kj:=[.ptr 1 0,.ptr 2 0]) T.take T.ref ws u a (nd+1) E rfl rfl (fun _=>m);refine CX.jq T.node rfl ?_
   repeat' ((conv=>whnf);first|refine eY ?_|refine dW ?_|refine eb ?_|refine fT ?_|refine eM ?_|exact xo|rw[w]|apply aq|refine jY (iH h1 [0,3,1] [] rfl rfl rfl rfl ⟨rfl,rfl,rfl,trivial⟩ trivial (fun _ h=>h))|intro _)
theorem Tm{L:Lk}{ws:List ab}{nv:ab->Int}(T:YK L ws nv):∀n,n<=25->JN L ws nv n
 |0,_=>acY T
 |n+1,h=>acZ T om (Tm T n om)
end Go.Ab
namespace Go.Ab
open Go
variable{ws:List ab}{nv:ab->Int}{ns:List ab}{ks:List Nd}
abbrev iZ(a nd:Nat):PS:=⟨a,nd,0,0⟩
structure Sim(ws:List ab)(P:Bool->Nat->Nat->Option (Nd×Nat×Nat))(S:Bool->PS->Nd×PS):Prop where
 y:∀act a nd k a' j1,a<=ws.length->nd<=200->P act a nd=some (k,a',j1)->S act (iZ a nd)=(k,iZ a' j1)
 n:∀act a nd,a<=ws.length->nd<=200->P act a nd=none->(S act (iZ a nd)).2.fc≠0
theorem Ch{a:Nat}(h:¬a<ws.length):bP ws a=[]:=by
 unfold bP;rw[ny,qY om];rfl
theorem Ca{b:Bool}{un:ab}{s:PS}(h:yM b un (bP ws s.br)):lC ws b un s=(bP ws s.br,s.next):=by unfold lC;rw[if_pos h]
theorem FX{b:Bool}{un:ab}{s:PS}(h:¬yM b un (bP ws s.br)):lC ws b un s=([],s.fail 2):=by unfold lC;rw[if_neg h]
theorem jG{c:Int}{s:PS}(e:c≠0):(s.fail c).fc≠0:=by
 unfold PS.fail;dsimp only;split<;>assumption
theorem aax{b:Bool}{un:ab}{s:PS}(h:s.fc≠0):(lC ws b un s).2.fc≠0:=by
 by_cases e:yM b un (bP ws s.br)
 .rw[Ca e];exact h
 .rw[FX e];exact jG de
theorem FJ{ws:List ab}{nv:ab->Int}{P:Bool->Nat->Nat->Option (Nd×Nat×Nat)}{op:Int}:∀(r t:List UInt8)(x:Bo),oI ws nv P op (r++t) x=match oI ws nv P op r x with|some y=>oI ws nv P op t y|none=>none
 |[],t,x=>rfl
 |c::r,t,x=>by
  simp only[yg,oI];cases h:fh ws nv P op c x with
  |none=>rfl
  |some y=>exact FJ r t y
open Classical in
theorem Oa{P:Bool->Nat->Nat->Option (Nd×Nat×Nat)}{op num:Int}{tx:ab}{b:Bool}{a nd:Nat}{un:ab}(hun:(ns=[]/\un=[])\/(b=true/\ns=[un])):
  fh ws nv P op (if b then 88 else 78) ⟨num,tx,ns,ks,a,nd⟩=if yM b un (bP ws a)then some ⟨num,tx,ns++[bP ws a],ks,a+1,nd⟩else none:=by
 unfold fh;dsimp only;by_cases aL:a<ws.length
 .cases b with
  |false=>
   obtain⟨rfl,rfl⟩:=hun.resolve_right (fun h=>by cases h.1);have e:yM false [] (bP ws a)↔bO (bP ws a):=⟨fun h=>h.1,fun h=>⟨h,fun h=>(by cases h),kE h⟩⟩;rw[if_neg de,if_neg (not_not_intro aL),if_pos de];by_cases hn:bO (bP ws a)
   .rw[if_pos hn,if_pos (e.2 hn)]
   .rw[if_neg hn,if_neg (fun h=>hn (e.1 h))]
  |true=>
   have e:yM true un (bP ws a)↔ng (bP ws a)/\bP ws a∉ns:=by
    rcases hun with⟨rfl,rfl⟩|⟨_,rfl⟩
    .exact⟨fun h=>⟨h.2.1 rfl,by simp⟩,fun h=>⟨h.1.1,fun _=>h.1,kE h.1.1⟩⟩
    .exact⟨fun h=>⟨h.2.1 rfl,by simpa using h.2.2⟩,fun h=>⟨h.1.1,fun _=>h.1,by simpa using h.2⟩⟩
   rw[if_neg de,if_neg (not_not_intro aL),if_neg de,if_pos de];by_cases hn:ng (bP ws a)/\bP ws a∉ns
   .rw[if_pos hn,if_pos (e.2 hn)]
   .rw[if_neg hn,if_neg (fun h=>hn (e.1 h))]
 .have e:¬yM b un (bP ws a):=fun h=>kE h.1 (Ch aL)
  rw[if_neg e,if_neg (by cases b<;>decide),if_pos aL]
theorem Ld{P:Bool->Nat->Nat->Option (Nd×Nat×Nat)}{op:Int}{b:Bool}{a nd:Nat}:∀i,i<=2->(2<=i->b=true)->
  (∃ns,oI ws nv P op (List.replicate i (if b then 88 else 78)) ⟨0,[],[],[],a,nd⟩=some ⟨0,[],ns,[],a+i,nd⟩/\n9 ws b (iZ a nd) i=(ns,iZ (a+i) nd))\/
  (oI ws nv P op (List.replicate i (if b then 88 else 78)) ⟨0,[],[],[],a,nd⟩=none/\(n9 ws b (iZ a nd) i).2.fc≠0):=by
 intro i r n;have o:=Oa (ws:=ws) (nv:=nv) (P:=P) (op:=op) (num:=0) (tx:=[]) (b:=b) (ns:=[]) (ks:=[]) (a:=a) (nd:=nd) (un:=[]) (.inl ⟨rfl,rfl⟩)
 match i with
 |0=>exact .inl ⟨[],rfl,rfl⟩
 |1=>
  simp only[List.replicate,oI,o];by_cases e:yM b [] (bP ws a)
  .rw[if_pos e];refine .inl ⟨[bP ws a],rfl,?_⟩;simp only[n9,List.headD];rw[Ca e];rfl
  .rw[if_neg e];refine .inr ⟨rfl,?_⟩;simp only[n9,List.headD];rw[FX e];exact jG de
 |2=>
  obtain rfl:=n (aQ _);have h:=Oa (ws:=ws) (nv:=nv) (P:=P) (op:=op) (num:=0) (tx:=[]) (b:=true) (ns:=[bP ws a]) (ks:=[]) (a:=a+1) (nd:=nd) (un:=bP ws a) (.inr ⟨rfl,rfl⟩);generalize (if true=true then(88:UInt8)else 78)=c at*;simp only[List.replicate,oI,o];by_cases e:yM true [] (bP ws a)
  .rw[if_pos e];simp only[Cr,h];by_cases t:yM true (bP ws a) (bP ws (a+1))
   .rw[if_pos t];refine .inl ⟨[bP ws a,bP ws (a+1)],rfl,?_⟩;simp only[n9,List.headD_nil,Cr,List.headD_cons];rw[Ca (s:=iZ a nd) e];rw[Ca (s:=(iZ a nd).next) t];rfl
   .rw[if_neg t];refine .inr ⟨rfl,?_⟩;simp only[n9,List.headD_nil,Cr,List.headD_cons];rw[Ca (s:=iZ a nd) e];rw[FX (s:=(iZ a nd).next) t];exact jG de
  .rw[if_neg e];refine .inr ⟨rfl,?_⟩;simp only[n9,List.headD_nil,Cr,List.headD_cons];rw[FX (s:=iZ a nd) e];exact aax (jG de)
def lL(op:Int):List UInt8:=if op=5\/op=6 then[75]else if op=37\/op=39 then[35]else[]
theorem We(e:∀n:Int,eB .i64 n->nv (dec n)=n){w:ab}{lo hi:Int}(u: -999999999<=lo)(c:hi<=999999999):
  (isNum w/\lo<=nv w/\nv w<=hi->numOf w lo hi=some (nv w))/\(¬(isNum w/\lo<=nv w/\nv w<=hi)->numOf w lo hi=none):=by
 refine⟨?_,?_⟩
 .rintro⟨⟨n,i,rfl⟩,s,r⟩;rw[e n i]at s r⊢;cases t:numOf (dec n) lo hi with
  |none=>exact absurd ⟨n,⟨⟨by omega,by omega⟩,rfl⟩,s,r⟩ (Ig t)
  |some m=>
   obtain⟨⟨l,a⟩,_,_⟩:=uz t;have o:=e m (by(show _/\_);exact⟨by omega,by omega⟩);rw[a,e n i]at o;rw[o]
 .intro h;cases t:numOf w lo hi with
  |none=>rfl
  |some m=>
   obtain⟨⟨l,a⟩,f,y⟩:=uz t;have d:eB .i64 m:=by(show _/\_);exact⟨by omega,by omega⟩
   have o:=e m d;rw[a]at o;exact absurd ⟨⟨m,d,a⟩,by omega,by omega⟩ h
theorem H9{w:ab}:(kindOf w).isSome=true↔∃k,jj k/\fR k=w:=by
 unfold kindOf;split
 .rename_i h;exact⟨fun _=>h,fun _=>rfl⟩
 .rename_i h;exact⟨fun h=>(by cases h),fun e=>absurd e h⟩
theorem H':¬ ∃k,jj k/\fR k=[]:=fun⟨_,_,h⟩=>LZ h
theorem VJ:¬isNum []:=fun⟨n,_,h⟩=>zG n h
theorem Z7(p:∀n:Int,eB .i64 n->nv (dec n)=n){P:Bool->Nat->Nat->Option (Nd×Nat×Nat)}{op:Int}{a nd:Nat}:
  (∃num l o,oI ws nv P op (lL op) ⟨0,[],ns,[],a,nd⟩=some ⟨num,l,ns,[],o,nd⟩/\jQ ws op (iZ a nd)=(num,l,iZ o nd)/\(a<=ws.length->o<=ws.length))\/
  (oI ws nv P op (lL op) ⟨0,[],ns,[],a,nd⟩=none/\(jQ ws op (iZ a nd)).2.2.fc≠0):=by
 unfold lL jQ;by_cases m:op=5\/op=6
 .rw[if_pos m,if_pos m];simp only[oI];unfold fh;dsimp only;rw[if_neg de];by_cases e:a<ws.length
  .rw[if_neg (not_not_intro e),if_neg de,if_neg de,if_pos rfl];by_cases t:(kindOf (bP ws a)).isSome=true
   .rw[if_pos t,if_pos (H9.1 t)];exact .inl ⟨0,bP ws a,a+1,rfl,rfl,fun _=>e⟩
   .rw[if_neg t,if_neg (fun h=>t (H9.2 h))];exact .inr ⟨rfl,jG (s:=iZ a nd) (c:=2) de⟩
  .rw[if_pos e,if_neg (by rw[Ch e];exact H')];exact .inr ⟨rfl,jG (s:=iZ a nd) (c:=2) de⟩
 rw[if_neg m,if_neg m]
 have u:∀i r:Int,-999999999<=i->r<=999999999->(∀n,Qw op n↔i<=n/\n<=r)->
   (∃num l o,oI ws nv P op [35] ⟨0,[],ns,[],a,nd⟩=some ⟨num,l,ns,[],o,nd⟩/\((ou ws i r (iZ a nd)).1,([]:ab),(ou ws i r (iZ a nd)).2)=(num,l,iZ o nd)/\(a<=ws.length->o<=ws.length))\/
   (oI ws nv P op [35] ⟨0,[],ns,[],a,nd⟩=none/\(ou ws i r (iZ a nd)).2.fc≠0):=by
  intro i r b g f;obtain⟨k,v⟩:=We p (w:=bP ws a) b g;have f:=f (nv (bP ws a));unfold ou;simp only[oI];unfold fh;dsimp only;rw[if_neg de];by_cases e:a<ws.length
  .rw[if_neg (not_not_intro e),if_neg de,if_neg de,if_neg de];by_cases t:isNum (bP ws a)/\Qw op (nv (bP ws a))
   .rw[if_pos t,k ⟨t.1,f.1 t.2⟩];exact .inl ⟨nv (bP ws a),[],a+1,rfl,rfl,fun _=>e⟩
   .rw[if_neg t,v (fun h=>t ⟨h.1,f.2 h.2⟩)];exact .inr ⟨rfl,jG (s:=iZ a nd) (c:=2) de⟩
  .rw[if_pos e,v (fun h=>VJ (by rw[<-Ch e];exact h.1))];exact .inr ⟨rfl,jG (s:=iZ a nd) (c:=2) de⟩
 by_cases d:op=37
 .rw[if_pos (.inl d),if_pos d];exact u 0 99 de de (fun n=>by unfold Qw;rw[if_pos d])
 rw[if_neg d];by_cases y:op=39
 .rw[if_pos (.inr y),if_pos y];exact u 1 12 de de (fun n=>by unfold Qw;rw[if_neg d])
 rw[if_neg (fun h=>h.elim d y),if_neg y];exact .inl ⟨0,[],a,rfl,rfl,fun h=>h⟩
def kl(c:UInt8):UInt8:=if c=97 then 65 else 86
theorem ZU{P:Bool->Nat->Nat->Option (Nd×Nat×Nat)}{S:Bool->PS->Nd×PS}(g:Sim ws P S)(hP:RF ws P){op num:Int}{tx kd:ab}{a nd:Nat}(j:a<=ws.length)(l:nd<=200):∀i,i<=kd.length->
  (∃s o t,oI ws nv P op ((kd.take i).map kl) ⟨num,tx,ns,[],a,nd⟩=some ⟨num,tx,ns,s,o,t⟩/\lS S kd (iZ a nd) i=(s,iZ o t)/\o<=ws.length/\t<=200)\/
  (oI ws nv P op ((kd.take i).map kl) ⟨num,tx,ns,[],a,nd⟩=none/\(lS S kd (iZ a nd) i).2.fc≠0):=by
 intro i
 induction i with
 |zero=>intro _;exact .inl ⟨[],a,nd,rfl,rfl,j,l⟩
 |succ i q=>
  intro O;have e:(kd.take (i+1)).map kl=(kd.take i).map kl++[kl kd[i]]:=by rw[YF om,sE];rfl
  rw[e,FJ];rcases q om with⟨s,o,t,u,r,c,m⟩|⟨u,r⟩
  .rw[u]
   have f:lS S kd (iZ a nd) (i+1)=(s++[(S (jf ((kd.getD i 0).toNat:Int) 97) (iZ o t)).1],(S (jf ((kd.getD i 0).toNat:Int) 97) (iZ o t)).2):=by
    simp only[lS,r];rw[if_neg si]
   rw[f];have x:kd.getD i 0=kd[i]:=by rw[ny,dw om];rfl
   rw[x]
   have z:(kl kd[i]==65)=jf ((kd[i].toNat:Nat):Int) 97:=by
    unfold kl jf;by_cases d:kd[i]=97
    .rw[if_pos d,d];rfl
    .rw[if_neg d];have:kd[i].toNat≠97:=fun h=>d (AH.1 h)
     rw[show((86:UInt8)==65)=false from rfl]
     symm
     simp;omega
   have w:fh ws nv P op (kl kd[i]) ⟨num,tx,ns,s,o,t⟩=(P (jf ((kd[i].toNat:Nat):Int) 97) o t).map fun y=>⟨num,tx,ns,s++[y.1],y.2.1,y.2.2⟩:=by
    unfold fh;rw[if_pos (by unfold kl;split;exact .inr rfl;exact .inl rfl),z]
   simp only[oI,w];generalize jf ((kd[i].toNat:Nat):Int) 97=b at*;cases p:P b o t with
   |none=>exact .inr ⟨rfl,g.n _ _ _ c m p⟩
   |some y=>
    obtain⟨k,E,v⟩:=y;obtain⟨I,T,A⟩:=hP _ _ _ _ _ _ c m p;refine .inl ⟨s++[k],E,v,rfl,?_,T,A⟩;rw[g.y _ _ _ _ _ _ c m p]
  .rw[u];refine .inr ⟨rfl,?_⟩;simp only[lS];rw[if_pos r];exact r
theorem Y'{P:Bool->Nat->Nat->Option (Nd×Nat×Nat)}{S:Bool->PS->Nd×PS}(l:Sim ws P S)(hP:RF ws P):∀(f m:Nat)(ns:List ab)(ks:List Nd)(a nd:Nat),ws.length+2<=f+a->ws.length+2<=m+a->a<=ws.length->nd<=200->
  (∀y,Ez ws P f ns ks a nd=some y->lB ws S m ns ks (iZ a nd)=(y.1,y.2.1,iZ y.2.2.1 y.2.2.2))/\(Ez ws P f ns ks a nd=none->(lB ws S m ns ks (iZ a nd)).2.2.fc≠0):=by
 intro f
 induction f with
 |zero=>intro m ns ks a nd c w p;omega
 |succ f v=>
  intro m ns ks a nd c w p t;obtain⟨m,rfl⟩:∃q,m=q+1:=⟨m-1,by omega⟩;simp only[Ez,lB];by_cases e:a<ws.length
  .rw[if_neg (not_not_intro e)];by_cases i:bP ws a=qm
   .rw[if_pos i,if_pos (.inr i)];exact⟨fun y h=>(by cases h;rfl),fun h=>(by cases h)⟩
   rw[if_neg i,if_neg (show¬((0:Int)≠0\/bP ws a=qm)from fun h=>h.elim (fun h=>h rfl) i)];by_cases s:tc (bP ws a) ns
   .rw[if_pos s,if_pos s];exact⟨fun y h=>(by cases h),fun _=>jG de⟩
   rw[if_neg s,if_neg s];show(∀y,_->lB ws S m (ns++[bP ws a]) (ks++[(S false (iZ (a+1) nd)).1]) (S false (iZ (a+1) nd)).2=_)/\(_->(lB ws S m (ns++[bP ws a]) (ks++[(S false (iZ (a+1) nd)).1]) (S false (iZ (a+1) nd)).2).2.2.fc≠0);cases r:P false (a+1) nd with
   |none=>exact⟨fun y h=>(by cases h),fun _=>LG _ _ _ _ (l.n _ _ _ e t r)⟩
   |some y=>
    obtain⟨k,b,d⟩:=y;obtain⟨x,g,j⟩:=hP _ _ _ _ _ _ e t r;rw[l.y _ _ _ _ _ _ e t r];exact v m _ _ b d om om g j
  .rw[if_pos e];have u:=Ch e;have o:tc (bP ws a) ns:=by rw[u];exact .inl (fun h=>kE h rfl)
   rw[if_neg (show¬((0:Int)≠0\/bP ws a=qm)from fun h=>h.elim (fun h=>h rfl) (fun h=>by rw[u]at h;cases h)),if_pos o];exact⟨fun y h=>(by cases h),fun _=>jG de⟩
end Go.Ab
