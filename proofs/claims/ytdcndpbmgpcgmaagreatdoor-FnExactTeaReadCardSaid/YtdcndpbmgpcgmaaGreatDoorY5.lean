import Derived.Test.YtdcndpbmgpcgmaaGreatDoorY4
import Derived.IntWalk
noncomputable section
namespace Go.Ab
open Go
variable{L:Lk}{rl:bm}{nb:Nat}{bx:List Bx}{n:Nat}
theorem abh{e:Nat}(bx:List Bx):wY nb e bx []:=by cases bx<;>trivial
theorem aar(rl:bm):B4 rl []:=by cases rl<;>trivial
theorem cu{x y:DV}(h:x=y):cw (.d x) bx rl (.d y) 0 [] []:=⟨h,abh _,aar _,rfl⟩
def leE(nb t:Nat):Env->Env->Prop
 |[],_=>True
 |(s,v)::r,e=>I6 nb t (look e s) v/\leE nb t r e
theorem X2{t:Nat}{τ σ:Env}(h:leE nb t τ σ)(s:Nat):look τ s=.bM\/I6 nb t (look σ s) (look τ s):=by
 induction τ with
 |nil=>exact .inl rfl
 |cons p r a=>
  obtain⟨k,v⟩:=p;obtain⟨o,i⟩:=h;rw[aE];split
  .rename_i e;subst e;exact .inr o
  .exact a i
def ph(τ σ:St):Prop:=leE τ.bx.length τ.rl.length τ.env σ.env/\wY τ.bx.length τ.rl.length σ.bx τ.bx/\B4 σ.rl τ.rl
def yQ(m:Md)(τ:St):Prop:=τ.nb=τ.bx.length/\Nat.ble m.1 τ.bx.length=true/\Nat.ble m.2 τ.rl.length=true
theorem LW.drop{m:Md}{c:AC}{Q:AE->St->Prop}{τ σ:St}(h:LW L n m c τ Q)(f:yQ m τ)(y:ph τ σ):LW L n m c σ Q:=by
 unfold LW at h⊢;intro x p r v g a w b k s o;obtain⟨j,q,d⟩:=y;obtain⟨z,l,u⟩:=f;have l:=cb l;have u:=cb u;have t:=o.sh.cut q d rfl;refine h x p r v (g.cut τ.bx.length τ.rl.length) a w b k (s.cut d om om) ⟨o.defers,o.size,fun i=>?_,by rw[z];exact t⟩;rcases X2 j i with e|e
 .rw[e];exact .bM _
 .have:=(o.slot i).I6 e;rw[<-(uC d).1]at this;exact this
theorem LW.gen{m:Md}{c:AC}{Q:AE->St->Prop}{S:Type}(μ:S->Nat)(I:S->Prop)(o:S->St)(i:∀s,yQ m (o s))(h:∀s,I s->(∀a(σ:St),μ a<μ s->I a->ph (o a) σ->LW L n m c σ Q)->
   zL L n m c (o s) fun e t=>match e with| .normal=>LW L n m c t Q| .exit j=>Q (.exit j) t| .ret=>Q .ret t)(s:S)(l:I s)(σ:St)(u:ph (o s) σ):LW L n m c σ Q:=by
 have r:∀k s,μ s=k->I s->LW L n m c (o s) Q:=by
  intro k
  induction k using Nat.strongRecOn with
  |ind k f=>
   intro s v w;exact LW.unfold (h s w fun a σ y d p=>(f _ om a rfl d).drop (i a) p)
 exact(r _ s rfl l).drop (i s) u
theorem LW.count{m:Md}{c:AC}{Q:AE->St->Prop}(N:Nat)(I:Nat->Prop)(a:Nat->St)(o:∀i,yQ m (a i))(h:∀i,i<=N->I i->(∀σ:St,i<N->I (i+1)->ph (a (i+1)) σ->LW L n m c σ Q)->
   zL L n m c (a i) fun e t=>match e with| .normal=>LW L n m c t Q| .exit j=>Q (.exit j) t| .ret=>Q .ret t)(l:I 0)(σ:St)(u:ph (a 0) σ):LW L n m c σ Q:=
 LW.gen (fun i=>N-i) (fun i=>i<=N/\I i) a o (fun i d f=>h i d.1 d.2 fun σ s r w=>f (i+1) σ om ⟨s,r⟩ w) 0 ⟨cr _,l⟩ σ u
theorem yG{a b:Int}(h:vF a b=true):a<=b:=of_decide_eq_true h
theorem Ae{a b:Int}(h:vF a b=false):b<a:=by have:=of_decide_eq_false h;omega
theorem vP{a b:Int}(h:qy a b=true):a<b:=of_decide_eq_true h
theorem qP{a b:Int}(h:qy a b=false):b<=a:=by have:=of_decide_eq_false h;omega
theorem NL{a b:Int}(h:jf a b=true):a=b:=of_decide_eq_true h
theorem KS{a b:Int}(h:jf a b=false):a≠b:=of_decide_eq_false h
theorem wrap64{n:Int}(h: -9223372036854775808<=n/\n<=9223372036854775807):IntKind.i64.wrap n=n:=IntWalk.i64_in n h
theorem Q7{n:Int}(h:0<=n/\n<=255):IntKind.u8.wrap n=n:=IntWalk.u8_in n h
variable{g:Gh}{w:World}{i f:Nat}{v:AV}{bz:bm}{args:List AV}
def pb(p:Prop):Bool:=@decide p (Classical.propDecidable p)
@[simp] theorem mo{p:Prop}:pb p=true↔p:=by unfold pb;simp
@[simp] theorem Ht{p:Prop}:pb p=false↔¬p:=by unfold pb;simp
theorem iA{p:Prop}(h:p):pb p=true:=mo.2 h
theorem ig{p:Prop}(h:¬p):pb p=false:=Ht.2 h
theorem adQ{b:Bool}:pb (b=true)=b:=by cases b<;>simp
theorem vR{p q:Prop}(h:p↔q):pb p=pb q:=by rw[propext h]
@[simp] theorem SN{a b:Int}:vF a b=true↔a<=b:=by simp[vF]
@[simp] theorem SP{a b:Int}:qy a b=true↔a<b:=by simp[qy]
@[simp] theorem acv{a b:Int}:jf a b=true↔a=b:=by simp[jf]
@[simp] theorem sW{a b:List UInt8}:uh a b=true↔a=b:=by simp[uh]
theorem aae{a b:Int}:(!vF a b)=true↔¬a<=b:=by simp[vF]
theorem aag{a b:Int}:(!qy a b)=true↔¬a<b:=by simp[qy]
theorem aac{a b:Int}:(!jf a b)=true↔¬a=b:=by simp[jf]
theorem Wa{a b:List UInt8}:(!uh a b)=true↔¬a=b:=by simp[uh]
theorem adG{p:Prop}:(!pb p)=true↔¬p:=by simp
theorem bK{a b:Int}{x y:Prop}(e:a<=b->x)(t:b<a->y):ov (vF a b) x y:=
 bS (fun h=>e (yG h)) fun h=>t (Ae h)
theorem aq{a b:Int}{x y:Prop}(e:a<b->x)(t:b<=a->y):ov (qy a b) x y:=
 bS (fun h=>e (vP h)) fun h=>t (qP h)
theorem aD{a b:Int}{x y:Prop}(e:a=b->x)(t:a≠b->y):ov (jf a b) x y:=
 bS (fun h=>e (NL h)) fun h=>t (KS h)
theorem aH{a b:List UInt8}{x y:Prop}(t:a=b->x)(o:a≠b->y):ov (uh a b) x y:=
 bS (fun h=>t (sW.1 h)) fun h=>o (fun e=>by rw[e]at h;simp[uh]at h)
theorem bp{p x y:Prop}(e:p->x)(t:¬p->y):ov (pb p) x y:=
 bS (fun h=>e (mo.1 h)) fun h=>t (Ht.1 h)
theorem aM{b:Bool}{x y:Prop}(h:ov b y x):ov (!b) x y:=by cases b<;>exact h
theorem eA{b:Bool}{x y:Prop}(h:ov b y x):ov (true !=b) x y:=by cases b<;>exact h
theorem ew{b:Bool}{x y:Prop}(h:ov b x y):ov (false !=b) x y:=by cases b<;>exact h
theorem aaC{b:Bool}{x y:Prop}(h:ov b x y):ov (true==b) x y:=by cases b<;>exact h
theorem aaB{b:Bool}{x y:Prop}(h:ov b y x):ov (false==b) x y:=by cases b<;>exact h
theorem gQ{a b:Bool}{x y:Prop}(e:a=true\/b=true->x)(t:a=false->b=false->y):ov (a||b) x y:=by
 cases a<;>cases b<;>simp_all[ov]
theorem acu{α:Type}{xs:List α}{K:α->Prop}(h:i<xs.length)(k:K xs[i]):cf xs (i:Int) K:=
 ⟨xs[i],by omega,by simp[h],k⟩
theorem Ad{α β:Type}{f:α->β}{xs:List α}{K:β->Prop}(h:i<xs.length)(k:K (f xs[i])):cf (xs.map f) (i:Int) K:=
 ⟨f xs[i],by omega,by simp[h],k⟩
theorem aje{α:Type}{xs:List α}{K:α->Prop}(h:0<xs.length)(k:K xs[0]):cf xs 0 K:=⟨xs[0],by omega,by simp[h],k⟩
theorem P5{α:Type}{x:α}{xs:List α}{K:α->Prop}(k:K x):cf (x::xs) 0 K:=⟨x,by omega,rfl,k⟩
theorem kx{b:Bool}{p:Prop}(h:b=true↔p):cw (.d (.bool b)) bx rl (.d (.bool (pb p))) 0 [] []:=by
 refine cu ?_;congr 1;cases b
 .exact(ig (fun k=>by have:=h.2 k;contradiction)).symm
 .exact(iA (h.1 rfl)).symm
theorem D2{p:Prop}(h:p):cw (.d (.bool true)) bx rl (.d (.bool (pb p))) 0 [] []:=kx ⟨fun _=>h,fun _=>rfl⟩
theorem qg{p:Prop}(h:¬p):cw (.d (.bool false)) bx rl (.d (.bool (pb p))) 0 [] []:=kx ⟨fun e=>Bool.noConfusion e,fun k=>(h k).elim⟩
theorem dt{v0:AV}{dQ:List Bx}{bZ:bm}(e:Uz nb rl.length v0 v)(t:wY nb rl.length dQ bx)(a:B4 bZ rl)(o:nb=bx.length):cw v0 dQ bZ v nb bx rl:=⟨e,t,a,o⟩
structure Pf(p:Prop):Prop where
 get:p
theorem dV(h:i<=140737488355328):DV.int .i64 (IntKind.i64.wrap ((i:Int)+1))=DV.int .i64 ((i+1:Nat):Int):=by
 rw[wrap64 om];rfl
def jc(n:Nat)(P:Nat->Prop):Prop:=∀j,j<n->P j
theorem jc.zero{P:Nat->Prop}:jc 0 P:=fun j h=>by omega
theorem jc.snoc{P:Nat->Prop}(h:jc n P)(p:P n):jc (n+1) P:=fun j t=>by
 rcases nC j n with e|e
 .exact h j e
 .have:j=n:=by omega
  rw[this];exact p
theorem iu{K:AV->Prop}(h:CP L f args v)(e:K v):dk L f args K:=⟨v,h,e⟩
def pu1:AV->AV
 | .aO e _=> .d (.sl e)
 |v=>v
def pu:AV->AV
 | .agg e=> .agg (iX pu1 e)
 |v=>pu1 v
theorem VR.pu1{L:Lk}{g:Gh}{rl:bm}{w:World}{v:AV}{c:Value}(h:VR L g rl w v c):VR L g rl w (Ab.pu1 v) c:=by
 cases h with
 |aO e t v h a=>exact .d _ _ h
 |_=>first|assumption|(constructor<;>assumption)
theorem VR.pu{L:Lk}{g:Gh}{rl:bm}{w:World}{v:AV}{c:Value}(h:VR L g rl w v c):VR L g rl w (Ab.pu v) c:=by
 cases h with
 |agg o r i n=>
  refine .agg _ _ (by rw[j8];simpa using i) fun j x y e s=>?_
  rw[j8,jU]at e;cases a:o[j]? with
  |none=>rw[a]at e;cases e
  |some d=>rw[a]at e;cases e;exact(n j d y a s).pu1
 |aO l t v h u=>exact .d _ _ h
 |_=>first|assumption|(constructor<;>assumption)
theorem CT.pu{L:Lk}{f:Nat}{args:List AV}{nb fA:Nat}{bx cg:List Bx}{rl bz:bm}{v:AV}(h:CT L f (iX Ab.pu args) nb bx rl v fA cg bz):CT L f args nb bx rl v fA cg bz:=by
 intro g w e o i t;refine h g w e o (by rw[j8];simpa using i) fun j x y a s=>?_
 rw[j8,jU]at a;cases n:args[j]? with
 |none=>rw[n]at a;cases a
 |some d=>rw[n]at a;cases a;exact(t j d y n s).pu
theorem CP.pu{L:Lk}{f:Nat}{args:List AV}{v:AV}(h:CP L f (iX Ab.pu args) v):CP L f args v:=fun nb bx rl=>CT.pu (h nb bx rl)
def ghC(k:Nat)(x y:AV):Prop:=x=y\/(x=.aO [] .nil/\y=.aO [] (.row k))
def XD(k:Nat):List AV->List AV->Prop
 |[],[]=>True
 |x::r,y::s=>ghC k x y/\XD k r s
 |_,_=>False
def ghB(k:Nat):Bx->Bx->Prop
 | .var t e,.var u ds=>t=u/\XD k e ds
 |x,y=>x=y
def H3(k:Nat):List Bx->List Bx->Prop
 |[],[]=>True
 |x::r,y::s=>ghB k x y/\H3 k r s
 |_,_=>False
theorem NA{k:Nat}:∀{xs ys:List AV},XD k xs ys->xs.length=ys.length/\∀(j:Nat)(y:AV),ys[j]?=some y->∃x,xs[j]?=some x/\ghC k x y
 |[],[],_=>⟨rfl,fun j y h=>by simp at h⟩
 |x::r,y::s,⟨t,a⟩=>by
  obtain⟨o,i⟩:=NA a;refine⟨by simp[o],fun j z e=>?_⟩;cases j with
  |zero=>simp at e;subst e;exact⟨x,rfl,t⟩
  |succ j=>exact i j z (by simpa using e)
 |[],_::_,h=>h.elim
 |_::_,[],h=>h.elim
theorem Nz{k:Nat}:∀{xs ys:List Bx},H3 k xs ys->xs.length=ys.length/\∀(j:Nat)(y:Bx),ys[j]?=some y->∃x,xs[j]?=some x/\ghB k x y
 |[],[],_=>⟨rfl,fun j y h=>by simp at h⟩
 |x::r,y::s,⟨t,a⟩=>by
  obtain⟨o,i⟩:=Nz a;refine⟨by simp[o],fun j z e=>?_⟩;cases j with
  |zero=>simp at e;subst e;exact⟨x,rfl,t⟩
  |succ j=>exact i j z (by simpa using e)
 |[],_::_,h=>h.elim
 |_::_,[],h=>h.elim
theorem ghost{cg:List Bx}(e:Nat)(D:0<gw e)(a:aY L g nb bx rl w)(U:H3 rl.length bx cg):
  Step g rl w {g with rw:=g.rw++[none]} (rl++[(0,e)]) w/\aY L {g with rw:=g.rw++[none]} nb cg (rl++[(0,e)]) w:=by
 have f:Step g rl w {g with rw:=g.rw++[none]} (rl++[(0,e)]) w:=by
  refine⟨rfl,rfl,rfl,aQ _,fun _=>aQ _,fun _ _ _=>rfl,fun _ _ h=>h,fun k n z h=> .of (n':=n) ?_ (aQ _) fun _=>?_,fun _ _=>rfl,fun _ h=> .inl h,fun b h=>?_,fun _ _ _ _=>rfl,fun _ _ _ _=>rfl,fun _ _ _ _=> .refl _⟩
  .have r:=(bV.1 h).1;rw[gL r];exact h
  .have r:=(bV.1 h).1;show(g.rw++[none])[k]?=_;rw[gL (by rw[a.jv];exact r)]
  .have:some b∈g.rw++[none]:=h;simp at this;exact .inl this
 refine⟨f,?_⟩;obtain⟨H,C⟩:=Nz U;refine⟨by rw[a.nb,H],by show g.bk.length=_;rw[a.kt,H],?_,a.inj,by show(g.rw++[none]).length=_;simp[a.jv],?_,?_,a.fresh,fun i=>(a.jd i).bj f,a.par.bj f rfl (fun _ _=>rfl) fun _ _ d t p=>⟨d,t,p⟩⟩
 .intro i x E T r;obtain⟨y,A,o⟩:=C i x T;obtain⟨p,M⟩:=a.box i y E A r;have l:=M.bj f rfl;unfold ghB at o;split at o
  .rename_i t cs u ds;obtain⟨rfl,F⟩:=o;obtain⟨Y,O⟩:=NA F;refine⟨fun _=>p si,?_⟩;obtain⟨d,P,V,q2,B,G⟩:=l;refine⟨d,P,V,by omega,fun j y v A K=>?_,G⟩;obtain⟨J,I,N⟩:=O j y A;have c:=B j J v I K;rcases N with rfl|⟨rfl,rfl⟩
   .exact c
   .cases c with
    |aO _ _ _ Q X=>
    refine .aO _ _ _ Q ⟨0,e,by simp,fun x T=>(by cases T),aQ _,fun _=> .inl ⟨X,?_⟩⟩;show(g.rw++[none])[rl.length]?=some none;rw[<-a.jv];simp
  .subst o;exact⟨p,l⟩
 .intro k n z h;show 0<gw z/\(((g.rw++[none])[k]?=some none/\n=0)\/_);by_cases r:k<rl.length
  .rw[gL r]at h;rw[gL (by rw[a.jv];exact r)];exact a.row k n z h
  .have S:k=rl.length:=by have:=(bV.1 h).1;simp at this;omega
   subst S;simp at h;obtain⟨rfl,rfl⟩:=h;exact⟨D,.inl ⟨by rw[<-a.jv];simp,rfl⟩⟩
 .intro i j b s Z
  have m:∀i,(g.rw++[none])[i]?=some (some b)->g.rw[i]?=some (some b):=fun i s=>by
   by_cases h:i<g.rw.length
   .rw[gL h]at s;exact s
   .rw[pI om]at s;cases R:i-g.rw.length with
    |zero=>rw[R]at s;simp at s
    |succ q=>rw[R]at s;simp at s
  exact a.jI i j b (m i s) (m j Z)
theorem LW.ghost{L:Lk}{n:Nat}{m:Md}{c:AC}{Q:AE->St->Prop}{env:Env}{nb:Nat}{bx cg:List Bx}{rl:bm}(e:Nat)(d:Nat.ble 1 (gw e)=true)(l:H3 rl.length bx cg)(h:LW L n m c ⟨env,nb,cg,rl++[(0,e)]⟩ Q):LW L n m c ⟨env,nb,bx,rl⟩ Q:=by
 unfold LW at h⊢;intro x u o f g a w y p s t;obtain⟨r,v⟩:=Ab.ghost e (cb d) t.sh l;exact h x u o f _ a w y p (s.trans r) ⟨t.defers,t.size,fun i=>(t.slot i).bj r,v⟩
theorem CT.ghost{L:Lk}{f:Nat}{args:List AV}{nb fA:Nat}{bx cg o:List Bx}{rl i:bm}{v:AV}(e:Nat)(u:Nat.ble 1 (gw e)=true)(c:H3 rl.length bx cg)(h:CT L f args nb cg (rl++[(0,e)]) v fA o i):CT L f args nb bx rl v fA o i:=by
 intro g w t n r a;obtain⟨l,m⟩:=Ab.ghost e (cb u) n c;refine(h _ w t m r fun j x y p b=>(a j x y p b).bj l).mono ?_;rintro E T ⟨k,q,rfl,s,d,z⟩;exact⟨k,q,rfl,l.trans s,d,z⟩
def ghD(k e:Nat)(x y:AV):Prop:=x=y\/(x=.aO [] .nil/\y=.aO [] (.fe k)/\Nat.ble 10000 e=true)
def abY(k e:Nat):List AV->List AV->Prop
 |[],[]=>True
 |x::r,y::s=>ghD k e x y/\abY k e r s
 |_,_=>False
def ghE(k e:Nat):Bx->Bx->Prop
 | .var t a,.var u ds=>t=u/\abY k e a ds
 |x,y=>x=y
def BD(k e:Nat):List Bx->List Bx->Prop
 |[],[]=>True
 |x::r,y::s=>ghE k e x y/\BD k e r s
 |_,_=>False
theorem NB{k e:Nat}:∀{xs ys:List AV},abY k e xs ys->xs.length=ys.length/\∀(j:Nat)(y:AV),ys[j]?=some y->∃x,xs[j]?=some x/\ghD k e x y
 |[],[],_=>⟨rfl,fun j y h=>by simp at h⟩
 |x::r,y::s,⟨a,o⟩=>by
  obtain⟨i,n⟩:=NB o;refine⟨by simp[i],fun j z t=>?_⟩;cases j with
  |zero=>simp at t;subst t;exact⟨x,rfl,a⟩
  |succ j=>exact n j z (by simpa using t)
 |[],_::_,h=>h.elim
 |_::_,[],h=>h.elim
theorem NC{k e:Nat}:∀{xs ys:List Bx},BD k e xs ys->xs.length=ys.length/\∀(j:Nat)(y:Bx),ys[j]?=some y->∃x,xs[j]?=some x/\ghE k e x y
 |[],[],_=>⟨rfl,fun j y h=>by simp at h⟩
 |x::r,y::s,⟨a,o⟩=>by
  obtain⟨i,n⟩:=NC o;refine⟨by simp[i],fun j z t=>?_⟩;cases j with
  |zero=>simp at t;subst t;exact⟨x,rfl,a⟩
  |succ j=>exact n j z (by simpa using t)
 |[],_::_,h=>h.elim
 |_::_,[],h=>h.elim
theorem rP{cg:List Bx}(e:Nat)(U:0<gw e)(a:aY L g nb bx rl w)(C:BD rl.length e bx cg):
  Step g rl w {g with rw:=g.rw++[none]} (rl++[(0,e)]) w/\aY L {g with rw:=g.rw++[none]} nb cg (rl++[(0,e)]) w:=by
 have f:Step g rl w {g with rw:=g.rw++[none]} (rl++[(0,e)]) w:=by
  refine⟨rfl,rfl,rfl,aQ _,fun _=>aQ _,fun _ _ _=>rfl,fun _ _ h=>h,fun k n z h=> .of (n':=n) ?_ (aQ _) fun _=>?_,fun _ _=>rfl,fun _ h=> .inl h,fun b h=>?_,fun _ _ _ _=>rfl,fun _ _ _ _=>rfl,fun _ _ _ _=> .refl _⟩
  .have r:=(bV.1 h).1;rw[gL r];exact h
  .have r:=(bV.1 h).1;show(g.rw++[none])[k]?=_;rw[gL (by rw[a.jv];exact r)]
  .have:some b∈g.rw++[none]:=h;simp at this;exact .inl this
 refine⟨f,?_⟩;obtain⟨R,M⟩:=NC C;refine⟨by rw[a.nb,R],by show g.bk.length=_;rw[a.kt,R],?_,a.inj,by show(g.rw++[none]).length=_;simp[a.jv],?_,?_,a.fresh,fun i=>(a.jd i).bj f,a.par.bj f rfl (fun _ _=>rfl) fun _ _ d t p=>⟨d,t,p⟩⟩
 .intro i x E T r;obtain⟨y,A,o⟩:=M i x T;obtain⟨p,F⟩:=a.box i y E A r;have l:=F.bj f rfl;unfold ghE at o;split at o
  .rename_i t cs u ds;obtain⟨rfl,Y⟩:=o;obtain⟨P,O⟩:=NB Y;refine⟨fun _=>p si,?_⟩;obtain⟨d,V,B,q2,G,K⟩:=l;refine⟨d,V,B,by omega,fun j y v A J=>?_,K⟩;obtain⟨Q,I,N⟩:=O j y A;have c:=G j Q v I J;rcases N with rfl|⟨rfl,rfl,S⟩
   .exact c
   .cases c with
    |aO _ _ _ X Z=>
    refine .aO _ _ _ X ⟨0,e,by simp,cb S,fun x T=>(by cases T),by simp,fun _=> .inl ⟨Z,?_⟩⟩;show(g.rw++[none])[rl.length]?=some none;rw[<-a.jv];simp
  .subst o;exact⟨p,l⟩
 .intro k n z h;show 0<gw z/\(((g.rw++[none])[k]?=some none/\n=0)\/_);by_cases r:k<rl.length
  .rw[gL r]at h;rw[gL (by rw[a.jv];exact r)];exact a.row k n z h
  .have H:k=rl.length:=by have:=(bV.1 h).1;simp at this;omega
   subst H;simp at h;obtain⟨rfl,rfl⟩:=h;exact⟨U,.inl ⟨by rw[<-a.jv];simp,rfl⟩⟩
 .intro i j b s hj
  have m:∀i,(g.rw++[none])[i]?=some (some b)->g.rw[i]?=some (some b):=fun i s=>by
   by_cases h:i<g.rw.length
   .rw[gL h]at s;exact s
   .rw[pI om]at s;cases D:i-g.rw.length with
    |zero=>rw[D]at s;simp at s
    |succ q=>rw[D]at s;simp at s
  exact a.jI i j b (m i s) (m j hj)
theorem LW.rP{L:Lk}{n:Nat}{m:Md}{c:AC}{Q:AE->St->Prop}{env:Env}{nb:Nat}{bx cg:List Bx}{rl:bm}(e:Nat)(d:Nat.ble 1 (gw e)=true)(l:BD rl.length e bx cg)(h:LW L n m c ⟨env,nb,cg,rl++[(0,e)]⟩ Q):LW L n m c ⟨env,nb,bx,rl⟩ Q:=by
 unfold LW at h⊢;intro x u o f g a w y p s t;obtain⟨r,v⟩:=Ab.rP e (cb d) t.sh l;exact h x u o f _ a w y p (s.trans r) ⟨t.defers,t.size,fun i=>(t.slot i).bj r,v⟩
theorem CT.rP{L:Lk}{f:Nat}{args:List AV}{nb fA:Nat}{bx cg o:List Bx}{rl i:bm}{v:AV}(e:Nat)(u:Nat.ble 1 (gw e)=true)(c:BD rl.length e bx cg)(h:CT L f args nb cg (rl++[(0,e)]) v fA o i):CT L f args nb bx rl v fA o i:=by
 intro g w t n r a;obtain⟨l,m⟩:=Ab.rP e (cb u) n c;refine(h _ w t m r fun j x y p b=>(a j x y p b).bj l).mono ?_;rintro E T ⟨k,q,rfl,s,d,z⟩;exact⟨k,q,rfl,l.trans s,d,z⟩
theorem W.rP{L:Lk}{n:Nat}{m:Md}{c:AC}{Q:AE->St->Prop}{env:Env}{nb:Nat}{bx cg:List Bx}{rl:bm}(e:Nat)(d:Nat.ble 1 (gw e)=true)(l:BD rl.length e bx cg)(h:W L n m c ⟨env,nb,cg,rl++[(0,e)]⟩ Q):W L n m c ⟨env,nb,bx,rl⟩ Q:=by
 intro x u o f g a w y p s t;obtain⟨r,v⟩:=Ab.rP e (cb d) t.sh l;exact h x u o f _ a w y p (s.trans r) ⟨t.defers,t.size,fun i=>(t.slot i).bj r,v⟩
theorem aai{P:Nat->Prop}(h:¬jc n P):∃i,i<n/\jc i P/\¬P i:=by
 induction n with
 |zero=>exact absurd jc.zero h
 |succ n t=>
  by_cases e:jc n P
  .exact⟨n,by omega,e,fun a=>h (e.snoc a)⟩
  .obtain⟨i,s,o⟩:=t e;exact⟨i,by omega,o⟩
abbrev dI(n:Int):AV:=.d (.int .i64 n)
abbrev dS(s:List UInt8):AV:=.d (.str s)
abbrev dB(b:Bool):AV:=.d (.bool b)
theorem ala{p K:Prop}(k:K)(h:p:=by first|omega|exact rfl|decide):bI p K:=ad h k
theorem lz{p:Prop}(h:p:=by refine⟨?_,?_,?_⟩<;>(repeat' first|exact sz|exact dV om|apply And.intro)<;>fail):p:=h
theorem fz{p:Prop}(h:p:=by apply dt<;>(repeat' first|exact sz|apply And.intro)<;>fail):p:=h
theorem lk:(∀{a b:Int},jf a b=true↔a=b)/\(∀{a b:Int},vF a b=true↔a<=b)/\(∀{a b:Int},qy a b=true↔a<b)/\(∀{p:Prop},pb p=true↔p)/\(∀{a b:List UInt8},uh a b=true↔a=b)/\(∀{a b:Int},(!jf a b)=true↔¬a=b)/\(∀{a b:Int},(!vF a b)=true↔¬a<=b)/\(∀{a b:Int},(!qy a b)=true↔¬a<b)/\(∀{p:Prop},(!pb p)=true↔¬p)/\∀{a b:List UInt8},(!uh a b)=true↔¬a=b:=⟨acv,SN,SP,mo,sW,aac,aae,aag,adG,Wa⟩
theorem aJ.ct{af:AF}{fA:Nat}{cg:List Bx}(o:aJ L f af)(h:zL L af.nt ⟨nb,rl.length,none⟩ af.body ⟨ki 0 args,nb,bx,rl⟩ (xx af.res v fA cg bz))(e:args.length=af.np:=by rfl)(t:nb<=fA:=by first|exact aQ _|exact nbz)(a:rl.length<=bz.length:=by first|exact aQ _|exact nbz):CT L f args nb bx rl v fA cg bz:=CT.enter o e t a h
theorem aJ.cp{af:AF}(t:aJ L f af)(h:zL L af.nt ⟨0,0,none⟩ af.body ⟨ki 0 args,0,[],[]⟩ (xx af.res v 0 [] []))(e:args.length=af.np:=by rfl)(a:kK (wf 0 0) args=true:=by rfl)(o:wf 0 0 v=true:=by rfl):CP L f args v:=CP.enter t e a o h
theorem az{e:List AV}{jg:Nat}{dQ jV:List Bx}{bZ lg:bm}{v0:AV}(h:CT L f e jg dQ bZ v0 jg jV lg)(ι κ:List Nat){K:AV->Nat->List Bx->bm->Prop}(n:xM bx ι (iX (mq ι κ) jV) fun bx=>xM rl κ lg fun rl=>K (Be ι κ v0) nb bx rl)(t:jg=dQ.length:=by rfl)(a:jV.length=dQ.length:=by rfl)(o:lg.length=bZ.length:=by rfl)(i:Fo ι κ e dQ jV v0=true:=by rfl)(s:args=iX (Be ι κ) e:=by rfl)(r:xS bx ι (iX (mq ι κ) dQ):=by exact rfz)(d:xS rl κ bZ:=by exact rfz):bA L f args nb bx rl K:=Pm h ι κ t a o i s r d n
theorem ck{e:List AV}{jg:Nat}{dQ jV:List Bx}{bZ lg:bm}{v0:AV}(h:CT L f e jg dQ bZ v0 jg jV lg)(ι κ:List Nat){K:AV->Nat->List Bx->bm->Prop}(n:args=iX (Be ι κ) e)(s:xS bx ι (iX (mq ι κ) dQ))(r:xM bx ι (iX (mq ι κ) jV) fun bx=>xM rl κ lg fun rl=>K (Be ι κ v0) nb bx rl)(t:jg=dQ.length:=by rfl)(a:jV.length=dQ.length:=by rfl)(o:lg.length=bZ.length:=by rfl)(i:Fo ι κ e dQ jV v0=true:=by rfl)(d:xS rl κ bZ:=by exact rfz):bA L f args nb bx rl K:=Pm h ι κ t a o i n s d r
theorem cX{e:List AV}{jg:Nat}{dQ jV:List Bx}{bZ lg:bm}{v0:AV}(h:CT L f e jg dQ bZ v0 jg jV lg)(ι κ:List Nat){K:AV->Nat->List Bx->bm->Prop}(n:args=iX (Be ι κ) e)(s:xS bx ι (iX (mq ι κ) dQ))(r:xS rl κ bZ)(d:xM bx ι (iX (mq ι κ) jV) fun bx=>xM rl κ lg fun rl=>K (Be ι κ v0) nb bx rl)(t:jg=dQ.length:=by rfl)(a:jV.length=dQ.length:=by rfl)(o:lg.length=bZ.length:=by rfl)(i:Fo ι κ e dQ jV v0=true:=by rfl):bA L f args nb bx rl K:=Pm h ι κ t a o i n s r d
end Go.Ab
namespace Go.Ab
open Go
variable{i m:Nat}{d:Int}
abbrev ab:=List UInt8
inductive Nd where
 |mk (sort num:Int) (text:ab) (names:List ab) (kids:List Nd)
namespace Nd
def sort:Nd->Int| .mk s _ _ _ _=>s
def num:Nd->Int| .mk _ n _ _ _=>n
def text:Nd->ab| .mk _ _ t _ _=>t
def names:Nd->List ab| .mk _ _ _ e _=>e
def kids:Nd->List Nd| .mk _ _ _ _ e=>e
theorem afC{t k:Nd}(h:k∈t.kids):SizeOf.sizeOf k<SizeOf.sizeOf t:=by
 cases t with
 |mk s n t a e=>
  have:=List.sizeOf_lt_of_mem (show k∈e from h);simp only[Nd.mk.sizeOf_spec];omega
theorem ind{P:Nd->Prop}(h:∀t,(∀k,k∈t.kids->P k)->P t)(t:Nd):P t:=by
 have e:∀n t,SizeOf.sizeOf t=n->P t:=by
  intro n
  induction n using Nat.strongRecOn with
  |ind n a=>exact fun t i=>h t fun k o=>a _ (by have:=afC o;omega) k rfl
 exact e _ t rfl
end Nd
def aR(l:List ab):bJ:=l.map fun s=>[.str s]
mutual
def cT:Nd->List DV
 | .mk s n t e a=>[.int .i64 s,.int .i64 n,.str t,.sl (aR e),.sl (cTs a)]
def cTs:List Nd->bJ
 |[]=>[]
 |k::r=>cT k::cTs r
end
mutual
def cK:Nd->List DV
 | .mk s _ _ e t=>[.int .i64 s,.sl (aR e),.sl (cKs t)]
def cKs:List Nd->bJ
 |[]=>[]
 |k::r=>cK k::cKs r
end
theorem Fc:∀l,cTs l=l.map cT
 |[]=>rfl
 |k::r=>by rw[cTs,Fc r];rfl
theorem Jc:∀l,cKs l=l.map cK
 |[]=>rfl
 |k::r=>by rw[cKs,Jc r];rfl
theorem DQ(t:Nd):cT t=[.int .i64 t.sort,.int .i64 t.num,.str t.text,.sl (aR t.names),.sl (t.kids.map cT)]:=by
 cases t;rw[cT,Fc];rfl
theorem mA(t:Nd):cK t=[.int .i64 t.sort,.sl (aR t.names),.sl (t.kids.map cK)]:=by
 cases t;rw[cK,Jc];rfl
def aT(t:Nd):AV:=.agg [dI t.sort,dI t.num,dS t.text,.d (.sl (aR t.names)),.d (.sl (t.kids.map cT))]
def aK(t:Nd):AV:=.agg [dI t.sort,.d (.sl (aR t.names)),.d (.sl (t.kids.map cK))]
theorem acs{xs:List Nd}{K:List DV->Prop}(h:i<xs.length)(k:K [.int .i64 xs[i].sort,.int .i64 xs[i].num,.str xs[i].text,.sl (aR xs[i].names),.sl (xs[i].kids.map cT)]):cf (xs.map cT) (i:Int) K:=
 Ad h (by rw[DQ];exact k)
theorem acr{xs:List Nd}{K:List DV->Prop}(h:i<xs.length)(k:K [.int .i64 xs[i].sort,.sl (aR xs[i].names),.sl (xs[i].kids.map cK)]):cf (xs.map cK) (i:Int) K:=
 Ad h (by rw[mA];exact k)
theorem oG{xs:List ab}{K:List DV->Prop}(h:i<xs.length)(k:K [.str xs[i]]):cf (aR xs) (i:Int) K:=
 Ad h k
theorem afd{xs:List ab}{K:List DV->Prop}(e:i<=140737488355328)(t:0<i)(h:i-1<xs.length)(k:K [.str xs[i-1]]):cf (aR xs) (IntKind.i64.wrap ((i:Int)-1)) K:=by
 rw[wrap64 om,show(i:Int)-1=((i-1:Nat):Int) by omega];exact oG h k
theorem XU{xs:List Nd}{K:List DV->Prop}(h:0<xs.length)(k:K [.int .i64 xs[0].sort,.int .i64 xs[0].num,.str xs[0].text,.sl (aR xs[0].names),.sl (xs[0].kids.map cT)]):cf (xs.map cT) 0 K:=
 acs (i:=0) h k
theorem Jk{xs:List Nd}{K:List DV->Prop}(h:0<xs.length)(k:K [.int .i64 xs[0].sort,.sl (aR xs[0].names),.sl (xs[0].kids.map cK)]):cf (xs.map cK) 0 K:=
 acr (i:=0) h k
theorem XT{xs:List ab}{K:List DV->Prop}(h:0<xs.length)(k:K [.str xs[0]]):cf (aR xs) 0 K:=oG (i:=0) h k
theorem ca(l:List Nd):(l.map cT).length=l.length:=by simp
theorem dC(l:List Nd):(l.map cK).length=l.length:=by simp
theorem bl(l:List ab):(aR l).length=l.length:=by simp[aR]
@[simp] theorem ajK(l:List ab):(aR l).length=l.length:=by simp[aR]
mutual
def Nd.size:Nd->Nat
 | .mk _ _ _ _ e=>bU e+1
def bU:List Nd->Nat
 |[]=>0
 |k::r=>k.size+bU r
end
theorem Nd.size_eq(t:Nd):t.size=bU t.kids+1:=by cases t;rfl
theorem Nd.size_pos(t:Nd):1<=t.size:=by rw[t.size_eq];omega
theorem rA:∀(l:List Nd)(k:Nd),bU (l++[k])=bU l+k.size
 |[],k=>by simp[bU]
 |x::r,k=>by simp[bU,rA r k];omega
theorem gj{l:List Nd}(h:i<l.length):bU (l.take (i+1))=bU (l.take i)+l[i].size:=by
 rw[tQ,dw h];exact rA _ _
theorem rz:∀(l:List Nd)(i:Nat),bU (l.take i)<=bU l
 |[],i=>by simp[bU]
 |x::r,0=>by simp[bU]
 |x::r,i+1=>by simp[bU];exact rz r i
theorem pA{l:List Nd}(h:l.length<=i):bU (l.take i)=bU l:=by rw[nz h]
inductive nE(al:Bool->Nd->Prop)(ka:Nd->Nat->Bool)(mx:Int):Bool->Int->Nd->Prop where
 |mk (a:Bool) (d:Int) (t:Nd) (hd:d<=mx) (h:al a t) (hk:∀i(h:i<t.kids.length),nE al ka mx (ka t i) (d+1) t.kids[i]):nE al ka mx a d t
theorem nE.iff{e:Bool->Nd->Prop}{ka:Nd->Nat->Bool}{o:Int}{a:Bool}{t:Nd}:
  nE e ka o a d t↔d<=o/\e a t/\∀i(h:i<t.kids.length),nE e ka o (ka t i) (d+1) t.kids[i]:=
 ⟨fun h=>by cases h with|mk _ _ _ n s r=>exact⟨n,s,r⟩,fun⟨n,s,r⟩=> .mk _ _ _ n s r⟩
theorem nE.K0{e:Bool->Nd->Prop}{ka:Nd->Nat->Bool}{o:Int}{a:Bool}{t:Nd}(h:nE e ka o a d t/\t.size<=m)(hi:i<t.kids.length):
  nE e ka o (ka t i) (d+1) t.kids[i]/\1+bU (t.kids.take i)+t.kids[i].size<=m/\d<=o/\e a t:=by
 obtain⟨n,s,r⟩:=nE.iff.1 h.1;have:=t.size_eq;have:=gj hi;have:=rz t.kids (i+1);exact⟨r i hi,by omega,n,s⟩
theorem nE.done{e:Bool->Nd->Prop}{ka:Nd->Nat->Bool}{o:Int}{a:Bool}{t:Nd}(n:d<=o)(s:e a t)(hi:t.kids.length<=i)(r:jc i fun j=> ∀h:j<t.kids.length,nE e ka o (ka t j) (d+1) t.kids[j]):nE e ka o a d t/\t.size=1+bU (t.kids.take i):=
 ⟨nE.iff.2 ⟨n,s,fun j h=>r j om h⟩,by rw[t.size_eq,pA hi];omega⟩
theorem c8{k:IntKind}{a b:Int}(h:a=b):DV.int k a=DV.int k b:=congrArg _ h
theorem sx{p:Prop}(h:p:=by first|exact sz|exact dV om|(refine c8 ?_;(try rw[wrap64 om]);omega)|(show(_:bJ)=_;simp[aR,DQ,mA,Nd.kids,Nd.names,Nd.sort,Nd.num,Nd.text]<;>exact sz)|(show(_,_)=(_,_);first|exact congrArg (fun x:ab=>(x.length,1000)) si|(simp[aR]<;>exact sz)|(congr 1;simp;omega))|(show DV.str _=DV.str _;congr 1;simp<;>exact sz)|exact ES (ES (ES (Dc _)))|exact ES (ES (ES (ES (Dc _))))):p:=h
theorem lx{p:Prop}(h:p:=by refine⟨?_,?_,?_⟩<;>(repeat' first|exact sx|apply And.intro)<;>fail):p:=h
theorem fx{p:Prop}(h:p:=by apply dt<;>(repeat' first|exact sx|apply And.intro)<;>fail):p:=h
structure SD(b:Bool)(p q:Prop):Prop where
 t:b=true->p
 f:b=false->q
theorem SD.n{b:Bool}{p q:Prop}(h:SD b p q):SD (!b) q p:=⟨fun e=>h.f (by simpa using e),fun e=>h.t (by simpa using e)⟩
theorem sD{a b:List UInt8}:SD (uh a b) (a=b) (a≠b):=⟨sW.1,fun h e=>by rw[e]at h;simp[uh]at h⟩
theorem sC{b:Bool}{p q:Prop}(h:SD b p q:=by first|exact⟨vP,qP⟩|exact⟨yG,Ae⟩|exact⟨NL,KS⟩|exact sD|exact⟨mo.1,Ht.1⟩):SD b p q:=h
theorem sA{b:Bool}{x y p q:Prop}(a:p->x)(o:q->y)(h:SD b p q:=by first|exact sC|exact SD.n sC|exact SD.n (SD.n sC)|exact SD.n ⟨id,id⟩|exact⟨id,id⟩):ov b x y:=bS (fun e=>a (h.t e)) fun e=>o (h.f e)
theorem bY{P Q:Prop}(k:Q)(h:Q->P:=by first|exact ad (by first|omega|exact rfl|decide)|exact XU om|exact Jk om|exact XT om|exact acs om|exact acr om|exact oG om|exact afd om om om|exact aje om|exact acu om):P:=h k
end Go.Ab
namespace Go.Ab
open Go
attribute [local irreducible] bI cf cw bW bA dk dT
variable{L:Lk}{i:Nat}
set_option maxHeartbeats 4000000
def pW(L:Lk)(f:Nat):Prop:=∀n a b:Int,CP L f [dI n,dI a,dI b] (dB (pb (a<=n/\n<=b)))
theorem afq(e:aJ L 65 c65):pW L 65:=by
 intro n a b;refine e.cp ?_
 repeat' ((conv=>whnf);first|apply bK|exact kx (by simp;try omega)|intro _)
theorem acG(e:aJ L 163 agC):pW L 163:=by
 intro n a b;refine e.cp ?_
 repeat' ((conv=>whnf);first|apply bK|exact kx (by simp;try omega)|intro _)
def iI(n:Nat):List UInt8:=if n<10 then[UInt8.ofNat (48+n)]else iI (n/10)++[UInt8.ofNat (48+n%10)]
def dec(n:Int):List UInt8:=if n<0 then 45::iI n.natAbs else iI n.toNat
theorem vO(k:Nat):∀n:Nat,n<10^(k+1)->(iI n).length<=k+1:=by
 induction k with
 |zero=>intro n h;rw[iI,if_pos om];simp
 |succ k e=>
  intro n h;rw[iI];split
  .simp
  .have:=e (n/10) (by rw[Nat.pow_succ]at h;omega);simp;omega
theorem qt{n:Int}(h:eB .i64 n):(dec n).length<=20:=by
 obtain⟨e,t⟩:=h;unfold dec;split
 .have:=vO 18 n.natAbs om;simp;omega
 .have:=vO 18 n.toNat om;omega
def E0(L:Lk):Prop:=∀n:Int,eB .i64 n->CP L 77 [dI n] (dS (dec n))
theorem FB(o:aJ L 77 c77)(m:Nat):(m:Int)<=9223372036854775807->CP L 77 [dI m] (dS (iI m)):=by
 induction m using Nat.strongRecOn with
 |ind m i=>
 intro s;refine o.cp ?_
 conv=>whnf
 refine bS (fun h=>?_) (fun h=>?_)
 .have t:=vP h
  conv=>whnf
  refine ad (fun x a=>⟨_,dP.1 a⟩) ?_
  conv=>whnf
  have e:IntKind.u8.wrap (IntKind.i64.wrap (48+(m:Int)))=((48+m:Nat):Int):=by
   rw[wrap64 om,Q7 om];omega
  refine cu ?_;rw[e,iI,if_pos om];rfl
 .have t:=qP h
  conv=>whnf
  refine ad de ?_
  conv=>whnf
  have e:IntKind.i64.wrap ((m:Int).tdiv 10)=((m/10:Nat):Int):=by
   rw[Int.tdiv_eq_ediv_of_nonneg om,wrap64 om];omega
  refine iu (by rw[e];exact i (m/10) om om) ?_
  conv=>whnf
  refine ad de ?_
  conv=>whnf
  refine ad (fun x a=>⟨_,dP.1 a⟩) ?_
  conv=>whnf
  have n:IntKind.u8.wrap (IntKind.i64.wrap (48+(m:Int).tmod 10))=((48+m%10:Nat):Int):=by
   rw[Int.tmod_eq_emod_of_nonneg om,wrap64 om,Q7 om];omega
  have r:=vO 18 (m/10) om;refine ad ?_ ?_
  .simp;omega
  conv=>whnf
  refine cu ?_;rw[n]
  conv=>rhs;rw[iI,if_neg (show¬m<10 by omega)]
  rfl
theorem acO(t:aJ L 77 c77):E0 L:=by
 intro n o;by_cases i:n<0
 .refine t.cp ?_;have s: -9223372036854775808<=n:=o.1
  conv=>whnf
  refine bS (fun h=>?_) (fun h=>?_)
  .have:=vP h;have a:n=-9223372036854775808:=by omega
   subst a
   conv=>whnf
   refine cu ?_;rw[dec,if_pos om];simp[iI]
  .have r:=qP h
   conv=>whnf
   refine bS (fun h=>?_) (fun h=>?_)
   .conv=>whnf
    have e:IntKind.i64.wrap (0-n)=(n.natAbs:Int):=by rw[wrap64 om];omega
    refine ak (by rw[e];exact FB t n.natAbs om) ?_
    conv=>whnf
    have d:=vO 18 n.natAbs om;refine ad (by simp;omega) ?_
    conv=>whnf
    refine cu ?_;rw[dec,if_pos i];rfl
   .have:=qP h;omega
 .obtain⟨m,rfl⟩:=Int.eq_ofNat_of_zero_le (show 0<=n by omega);have:=FB t m o.2;rw[dec,if_neg i];exact this
def fU(l:List Int):bJ:=l.map fun n=>[.int .i64 n]
theorem Jm(l:List Int):(fU l).length=l.length:=by simp[fU]
theorem Em{xs:List Int}{K:List DV->Prop}(h:i<xs.length)(k:K [.int .i64 xs[i]]):cf (fU xs) (i:Int) K:=Ad h k
def Am(n:Int):Prop:=0<=n/\n<=999999
def xG(l:List Int):Prop:=jc l.length fun i=> ∀h:i<l.length,Am l[i]
def O7(L:Lk)(f:Nat):Prop:=∀l:List Int,CP L f [.d (.sl (fU l))] (dB (pb (xG l)))
def rK(c:UInt8):Prop:=97<=c.toNat/\c.toNat<=122
def Bv(c:UInt8):Prop:=rK c\/(48<=c.toNat/\c.toNat<=57)
def bO(s:ab):Prop:=(1<=s.length/\s.length<=8)/\jc s.length fun i=> ∀h:i<s.length,Bv s[i]/\(i=0->rK s[i])
def lI(L:Lk)(f:Nat):Prop:=∀s:ab,CP L f [dS s] (dB (pb (bO s)))
theorem Tf(n:aJ L 68 c68)(t:pW L 65):lI L 68:=by
 intro s;refine n.cp ?_
 repeat' ((conv=>whnf);first|apply aq|apply bK|apply bp|refine bY ?_|refine ak (t _ _ _) ?_|refine a _ om (o.snoc fun _=>Pf.get ?_) lz|exact xo|(fail_if_success (have r:=a));refine LW.count s.length (fun i=>jc i fun j=> ∀h:j<s.length,Bv s[j]) (fun i=>⟨[(3,dI i),(0,dS s)],0,[],[]⟩) (fun _=>⟨rfl,rfl,rfl⟩) (fun i d o a=>?_) (.zero) _ lz|exact qg fun h=>by have:=h.1;omega|exact qg fun h=>by have:=(h.2 0 om om).2 rfl;unfold rK at this;omega|exact qg fun h=>by have:=(h.2 i om om).1;unfold Bv rK at this;omega|exact⟨by unfold Bv rK;omega⟩|exact D2 ⟨by omega,fun j l h=>⟨o j om h,fun e=>by subst e;unfold rK;omega⟩⟩|intro _)
theorem ZB(o:aJ L 89 c89)(e:pW L 163):lI L 89:=by
 intro s;refine o.cp ?_
 repeat' ((conv=>whnf);first|apply aq|apply bK|apply aD|refine bY ?_|refine ak (e _ _ _) ?_|refine t _ om (a.snoc fun _=>Pf.get ?_) lz|exact xo|(fail_if_success (have n:=t));refine LW.count s.length (fun i=>jc i fun j=> ∀h:j<s.length,Bv s[j]/\(j=0->rK s[j])) (fun i=>⟨[(7,dI i),(0,dS s),(6,dI s.length)],0,[],[]⟩) (fun _=>⟨rfl,rfl,rfl⟩) (fun i r a t=>?_) (.zero) _ lz|exact qg fun h=>by have:=(h.2 i om om);unfold Bv rK at this;omega|exact⟨by unfold Bv rK;omega⟩|exact kx (by simp only[mo];exact⟨fun k=>⟨by omega,fun j d h=>a j om h⟩,fun k=>by have:=k.1;omega⟩)|intro _)
def xA(c:UInt8):Prop:=32<=c.toNat/\c.toNat<=126/\c.toNat≠34
def C9(s:ab):Prop:=s.length<=60/\jc s.length fun i=> ∀h:i<s.length,xA s[i]
def I9(L:Lk)(f:Nat):Prop:=∀s:ab,CP L f [dS s] (dB (pb (C9 s)))
theorem Td(a:aJ L 362 ahB):I9 L 362:=by
 intro s;refine a.cp ?_
 repeat' ((conv=>whnf);first|apply aq|apply aD|refine bY ?_|refine e _ om (t.snoc fun _=>Pf.get ?_) lz|(fail_if_success (have o:=e));refine LW.count s.length (fun i=>jc i fun j=> ∀h:j<s.length,xA s[j]) (fun i=>⟨[(3,dI i),(0,dS s)],0,[],[]⟩) (fun _=>⟨rfl,rfl,rfl⟩) (fun i n t e=>?_) (.zero) _ lz|exact qg fun h=>by have:=h.1;omega|exact qg fun h=>by have:=(h.2 i om om);unfold xA at this;omega|exact⟨by unfold xA;omega⟩|exact D2 ⟨by omega,fun j r h=>t j om h⟩|intro _)
theorem ZC(a:aJ L 402 ahK):I9 L 402:=by
 intro s;refine a.cp ?_
 repeat' ((conv=>whnf);first|apply aq|apply aD|refine bY ?_|refine e _ om (t.snoc fun _=>Pf.get ?_) lz|(fail_if_success (have o:=e));refine LW.count s.length (fun i=>jc i fun j=> ∀h:j<s.length,xA s[j]) (fun i=>⟨[(6,dI i),(0,dS s),(5,dI s.length)],0,[],[]⟩) (fun _=>⟨rfl,rfl,rfl⟩) (fun i n t e=>?_) (.zero) _ lz|exact qg fun h=>by have:=(h.2 i om om);unfold xA at this;omega|exact⟨by unfold xA;omega⟩|exact kx (by simp only[SN];exact⟨fun k=>⟨by omega,fun j r h=>t j om h⟩,fun k=>by have:=k.1;omega⟩)|intro _)
def wS(l:List ab):Prop:=jc l.length fun i=> ∀h:i<l.length,bO l[i]/\∀_:0<i,dT l[i-1] l[i]=true
def zq(L:Lk)(f:Nat):Prop:=∀l:List ab,CP L f [.d (.sl (aR l))] (dB (pb (wS l)))
theorem ZE(a:aJ L 238 agY)(hN:lI L 68):zq L 238:=by
 intro l;refine a.cp ?_
 repeat' ((conv=>whnf);first|apply aq|apply bp|apply aM|apply bS|rw[bl];intro _|refine bY ?_|refine iu (hN _) ?_|refine e _ om (t.snoc fun _=>Pf.get ?_) lz|(fail_if_success (have o:=e));refine LW.count l.length (fun i=>jc i fun j=> ∀h:j<l.length,bO l[j]/\∀_:0<j,dT l[j-1] l[j]=true) (fun i=>⟨[(3,dI i),(0,.d (.sl (aR l)))],0,[],[]⟩) (fun _=>⟨rfl,rfl,rfl⟩) (fun i n t e=>?_) (.zero) _ lz|exact qg fun h=>by have:=h i om om;clear e;grind|exact⟨by clear e;grind⟩|exact D2 fun j s h=>t j om h|intro _)
theorem S2(a:aJ L 314 ahv)(hN:lI L 89):zq L 314:=by
 intro l;refine a.cp ?_
 repeat' ((conv=>whnf);first|apply aq|apply bp|apply aM|apply bS|rw[bl];intro _|refine bY ?_|refine ak (hN _) ?_|refine e _ om (t.snoc fun _=>Pf.get ?_) lz|(fail_if_success (have o:=e));refine LW.count l.length (fun i=>jc i fun j=> ∀h:j<l.length,bO l[j]/\∀_:0<j,dT l[j-1] l[j]=true) (fun i=>⟨[(7,dI i),(0,.d (.sl (aR l))),(5,.d (.sl (aR l))),(6,dI l.length)],0,[],[]⟩) (fun _=>⟨rfl,rfl,rfl⟩) (fun i n t e=>?_) (.zero) _ lz|exact qg fun h=>by have:=h i om om;clear e;grind|exact⟨by clear e;grind⟩|exact D2 fun j s h=>t j om h|intro _)
variable{rl:bm}{nb:Nat}{bx:List Bx}{n f:Nat}{args:List AV}{m:Nat}{d:Int}
def mg(t:Nd):Prop:=
 (t.sort=1/\(-999999999<=t.num/\t.num<=999999999)/\t.text=[]/\t.names.length=0/\t.kids.length=0)\/
 (t.sort=2/\t.num=0/\C9 t.text/\t.names.length=0/\t.kids.length=0)\/
 (t.sort=3/\(0<=t.num/\t.num<=1)/\t.text=[]/\t.names.length=0/\t.kids.length=0)\/
 (t.sort=4/\t.num=0/\t.text=[]/\t.names.length=0/\t.kids.length<=20)\/
 (t.sort=5/\t.num=0/\t.text=[]/\t.names.length=t.kids.length/\wS t.names)\/
 (t.sort=6/\t.num=0/\t.text=[]/\t.names.length=0/\t.kids.length<=1)
def yi(L:Lk)(f:Nat):Prop:=∀t:Nd,CP L f [aT t] (dB (pb (mg t)))
theorem VQ(a:aJ L 311 ahs)(e:pW L 65)(o:I9 L 362)(i:zq L 238):yi L 311:=by
 intro t;refine a.cp ?_
 repeat' ((conv=>whnf);first|apply aD|apply aH|apply bp|rw[ca];intro _|rw[bl];intro _|refine ak (e _ _ _) ?_|refine ak (o _) ?_|refine ak (i _) ?_|exact kx (by simp only[mg,lk];grind)|intro _)
theorem Tp(o:aJ L 364 ahD)(a:pW L 163)(i:I9 L 402)(s:zq L 314)(_:pW L 163)(e:∀n:Int,CP L 401 [dI n] (dB (pb (-999999999<=n/\n<=999999999)))):yi L 364:=by
 intro t;refine o.cp ?_
 repeat' ((conv=>whnf);first|rw[wrap64 om]|apply aD|apply aH|apply bp|rw[ca];intro _|rw[bl];intro _|refine ak (a _ _ _) ?_|refine ak (i _) ?_|refine ak (s _) ?_|refine ak (e _) ?_|exact kx (by simp only[mg,lk];grind)|intro _)
theorem acH(t:aJ L 401 ahJ)(e:pW L 163):∀n:Int,CP L 401 [dI n] (dB (pb (-999999999<=n/\n<=999999999))):=by
 intro n;refine t.cp ?_
 repeat' ((conv=>whnf);first|refine ak (e _ _ _) ?_|exact cu rfl|fail)
def qJ(e:Nat)(p:Prop)(n:Nat):Int:=if pb (p/\n<=e)=true then n else -1
theorem yU{e:Nat}{p:Prop}(h:p/\n<=e):qJ e p n=n:=by rw[qJ,if_pos (iA h)]
theorem rr{e:Nat}{p:Prop}(h:¬(p/\n<=e)):qJ e p n=-1:=by rw[qJ,ig h];rfl
theorem Ff{e:Nat}{p:Prop}{K:AV->Nat->List Bx->bm->Prop}(h:CP L f args (dI (qJ e p n)))(a:p/\n<=e->K (dI n) nb bx rl)(o:¬(p/\n<=e)->K (dI (-1)) nb bx rl):bA L f args nb bx rl K:=by
 by_cases t:p/\n<=e
 .rw[yU t]at h;exact ak h (a t)
 .rw[rr t]at h;exact ak h (o t)
def alT:Bool->Nd->Prop:=fun _ t=>mg t
def kaT:Nd->Nat->Bool:=fun _ _=>false
def pw(d:Int)(t:Nd):Prop:=nE alT kaT 6 false d t
theorem rZ{t:Nd}(h:pw d t/\t.size<=m)(hi:i<t.kids.length):pw (d+1) t.kids[i]/\1+bU (t.kids.take i)+t.kids[i].size<=m:=⟨(nE.K0 h hi).1,(nE.K0 h hi).2.1⟩
theorem r8{d:Int}{t:Nd}(h:pw d t):d<=6/\mg t:=⟨(nE.iff.1 h).1,(nE.iff.1 h).2.1⟩
theorem N6{t:Nd}(e:d<=6)(a:mg t)(hi:t.kids.length<=i)(o:jc i fun j=> ∀h:j<t.kids.length,pw (d+1) t.kids[j]):pw d t/\t.size=1+bU (t.kids.take i):=nE.done e a hi o
theorem VS(r:aJ L 237 agX)(l:yi L 311):∀(t:Nd)(d:Int),0<=d/\d<=7->CP L 237 [aT t,dI d] (dI (qJ 120 (pw d t) t.size)):=by
 refine Nd.ind fun t o=>?_
 intro d u;refine r.cp ?_
 repeat' ((conv=>whnf);first|rw[wrap64 om]|apply aq|apply bp|rw[ca];intro _|refine bY ?_|refine ak (l _) ?_|refine Ff (o _ (eu om) (d+1) om) (fun e=>?_) (fun e=>?_)|refine n _ om (Pf.get ?_) (by refine⟨?_,?_,?_⟩<;>repeat' first|(refine c8 ?_;(try rw[wrap64 om]);rw[gj om];omega)|exact sz|exact dV om|apply And.intro)|(fail_if_success (have c:=n));refine LW.count t.kids.length (fun i=>(jc i fun j=> ∀h:j<t.kids.length,pw (d+1) t.kids[j])/\1+bU (t.kids.take i)<=120) (fun i=>⟨[(6,dI i),(1,dI d),(5,dI ((1+bU (t.kids.take i):Nat):Int)),(2,.ptr 0 0)],1,[.var 0 [dI t.sort,dI t.num,dS t.text,.d (.sl (aR t.names)),.d (.sl (t.kids.map cT))]],[]⟩) (fun _=>⟨rfl,rfl,rfl⟩) (fun i m s n=>?_) (Pf.get ?_) _ lz|intro _)
 all_goals(conv=>whnf)
 all_goals try first
  |exact cu (congrArg _ (rr (fun h=>by have a:=rZ (i:=i) h om;first|exact e ⟨a.1,by omega⟩|(have:=e.2;omega))).symm)
  |exact cu (congrArg _ (rr (fun h=>by have a:=r8 h.1;grind)).symm)
  |exact⟨⟨.zero,by simp[bU]⟩⟩
  |exact⟨⟨s.1.snoc fun _=>e.1,by rw[gj om];omega⟩⟩
  |(have a:=N6 (i:=i) (d:=d) (t:=t) om asm om s.1
    exact cu (congrArg _ (by rw[yU ⟨a.1,by omega⟩];omega)))
def I7(L:Lk)(f:Nat)(a:Nd->AV)(o mp:Nat)(e:Int->Nd->Prop)(t:Nd):Prop:=∀(d:Int)(p:Nat),0<=d/\d<=o+1->p<=mp->
 (e d t/\p+t.size<=mp->CT L f [a t,dI d,.ptr 0 0] 1 [.var 0 [dI p]] [] (dB true) 1 [.var 0 [dI ((p+t.size:Nat):Int)]] [])/\
 (¬(e d t/\p+t.size<=mp)->CT L f [a t,dI d,.ptr 0 0] 1 [.var 0 [dI p]] [] (dB false) 1 [.var 0 [.bM]] [])
theorem acU(r:aJ L 313 ahu)(u:yi L 364):∀t:Nd,I7 L 313 aT 6 120 pw t:=by
 refine Nd.ind fun t e=>?_
 intro d p y v;refine⟨fun a=>?_,fun n=>?_⟩
 .refine r.ct ?_
  repeat' ((conv=>whnf);first|rw[wrap64 om]|apply aq|apply bp|rw[ca];intro _|refine bY ?_|refine ak (u _) ?_|refine ck ((e _ (eu om) (d+1) (p+1+bU (t.kids.take i)) om (by have:=rZ (i:=i) (m:=120-p) ⟨a.1,by omega⟩ om;omega)).1 (by have:=rZ (i:=i) (m:=120-p) ⟨a.1,by omega⟩ om;exact⟨this.1,by omega⟩)) [0] [] rfl ⟨rfl,trivial⟩ ?_|refine o _ om (trivial) (by refine⟨?_,?_,?_⟩<;>repeat' first|(refine c8 ?_;rw[gj om];omega)|(refine c8 ?_;simp)|exact sz|exact dV om|apply And.intro)|(fail_if_success (have f:=o));refine LW.count t.kids.length (fun i=>True) (fun i=>⟨[(30,dI i),(1,dI d),(2,.ptr 0 0),(28,.d (.sl (t.kids.map cT))),(29,dI t.kids.length)],1,[.var 0 [dI ((p+1+bU (t.kids.take i):Nat):Int)]],[]⟩) (fun _=>⟨rfl,rfl,rfl⟩) (fun i w s o=>?_) (trivial) _ (by refine⟨?_,?_,?_⟩<;>repeat' first|(refine c8 ?_;simp[bU])|exact sz|exact dV om|apply And.intro)|exact absurd a (by have c:=t.size_pos;have b:=fun h=>@r8 d t h;grind)|(apply dt<;>(repeat' first|(refine c8 ?_;rw[t.size_eq,<-pA (l:=t.kids) (i:=i) om];omega)|exact sz|apply And.intro);done)|intro _)
 .refine r.ct ?_
  repeat' ((conv=>whnf);first|rw[wrap64 om]|apply aq|apply bp|rw[ca];intro _|refine bY ?_|refine ak (u _) ?_|(refine Or.elim (Gr (pw (d+1) (t.kids[i]'om)/\(p+1+bU (t.kids.take i))+(t.kids[i]'om).size<=120)) (fun hP=>?_) (fun hP=>?_)<;>first|refine ck ((e _ (eu om) (d+1) (p+1+bU (t.kids.take i)) om om).1 hP) [0] [] rfl ⟨rfl,trivial⟩ ?_|refine ck ((e _ (eu om) (d+1) (p+1+bU (t.kids.take i)) om om).2 hP) [0] [] rfl ⟨rfl,trivial⟩ ?_)|refine o _ om (Pf.get ?_) (by refine⟨?_,?_,?_⟩<;>repeat' first|(refine c8 ?_;rw[gj om];omega)|(refine c8 ?_;simp)|exact sz|exact dV om|apply And.intro)|(fail_if_success (have f:=o));refine LW.count t.kids.length (fun i=>(jc i fun j=> ∀h:j<t.kids.length,pw (d+1) t.kids[j])/\p+1+bU (t.kids.take i)<=120) (fun i=>⟨[(30,dI i),(1,dI d),(2,.ptr 0 0),(28,.d (.sl (t.kids.map cT))),(29,dI t.kids.length)],1,[.var 0 [dI ((p+1+bU (t.kids.take i):Nat):Int)]],[]⟩) (fun _=>⟨rfl,rfl,rfl⟩) (fun i w s o=>?_) (Pf.get ?_) _ (by refine⟨?_,?_,?_⟩<;>repeat' first|(refine c8 ?_;simp[bU])|exact sz|exact dV om|apply And.intro)|intro _)
  all_goals(conv=>whnf)
  all_goals try first
   |exact fz
   |exact⟨⟨.zero,by simp[bU];omega⟩⟩
   |exact⟨⟨s.1.snoc fun _=>hP.1,by rw[gj om];omega⟩⟩
   |(have c:=N6 (i:=i) (d:=d) (t:=t) om asm om s.1
     exact absurd ⟨c.1,by omega⟩ n)
theorem Qj(e:aJ L 243 ag0)(a:∀t:Nd,I7 L 313 aT 6 120 pw t):∀t:Nd,CP L 243 [aT t] (dI (if pb (pw 1 t/\t.size<=120)=true then t.size else 0)):=by
 intro t;by_cases hP:pw 1 t/\0+t.size<=120
 .refine e.cp ?_
  repeat' ((conv=>whnf);first|refine ck ((a t 1 0 om om).1 hP) [1] [] rfl ⟨rfl,trivial⟩ ?_|exact cu (c8 (by rw[if_pos (iA ⟨hP.1,by omega⟩)];omega))|fail)
 .refine e.cp ?_
  repeat' ((conv=>whnf);first|refine ck ((a t 1 0 om om).2 hP) [1] [] rfl ⟨rfl,trivial⟩ ?_|exact cu (c8 (by rw[ig (fun h=>hP ⟨h.1,by omega⟩)];rfl))|fail)
def jk(t:Nd):Prop:=pw 1 t/\t.size<=120
def vN(L:Lk)(f:Nat):Prop:=∀t:Nd,CP L f [aT t] (dB (pb (jk t)))
theorem S0(e:aJ L 150 agz)(a:∀(t:Nd)(d:Int),0<=d/\d<=7->CP L 237 [aT t,dI d] (dI (qJ 120 (pw d t) t.size))):vN L 150:=by
 intro t;refine e.cp ?_
 repeat' ((conv=>whnf);first|refine Ff (a _ _ om) (fun _=>?_) (fun _=>?_)|exact kx (by have:=t.size_pos;simp only[jk,lk];grind)|fail)
theorem SZ(e:aJ L 164 c164)(a:∀t:Nd,CP L 243 [aT t] (dI (if pb (pw 1 t/\t.size<=120)=true then t.size else 0))):vN L 164:=by
 intro t;refine e.cp ?_
 repeat' ((conv=>whnf);first|refine ak (a _) ?_|exact kx (by have:=t.size_pos;by_cases hP:pw 1 t/\t.size<=120<;>simp[hP,jk]<;>omega)|fail)
def kU(t:Nd):Prop:=
 ((t.sort=1\/t.sort=2\/t.sort=3)/\t.names.length=0/\t.kids.length=0)\/
 ((t.sort=4\/t.sort=6)/\t.names.length=0/\t.kids.length=1)\/
 (t.sort=5/\t.names.length=t.kids.length/\wS t.names)
def alK:Bool->Nd->Prop:=fun _ t=>kU t
def tz(d:Int)(t:Nd):Prop:=nE alK kaT 6 false d t
theorem wL{t:Nd}(h:tz d t/\t.size<=m)(hi:i<t.kids.length):tz (d+1) t.kids[i]/\1+bU (t.kids.take i)+t.kids[i].size<=m:=⟨(nE.K0 h hi).1,(nE.K0 h hi).2.1⟩
theorem uA{d:Int}{t:Nd}(h:tz d t):d<=6/\kU t:=⟨(nE.iff.1 h).1,(nE.iff.1 h).2.1⟩
theorem N5{t:Nd}(e:d<=6)(a:kU t)(hi:t.kids.length<=i)(o:jc i fun j=> ∀h:j<t.kids.length,tz (d+1) t.kids[j]):tz d t/\t.size=1+bU (t.kids.take i):=nE.done e a hi o
def MS(L:Lk)(f:Nat):Prop:=∀t:Nd,CP L f [aK t] (dB (pb (kU t)))
theorem To(e:aJ L 245 ag2)(a:zq L 314):MS L 245:=by
 intro t;refine e.cp ?_
 repeat' ((conv=>whnf);first|rw[wrap64 om]|apply aD|apply bp|rw[dC];intro _|rw[bl];intro _|refine ak (a _) ?_|exact kx (by simp only[kU,lk];grind)|intro _)
theorem acT(r:aJ L 167 c167)(u:MS L 245):∀t:Nd,I7 L 167 aK 6 40 tz t:=by
 refine Nd.ind fun t e=>?_
 intro d p y v;refine⟨fun a=>?_,fun n=>?_⟩
 .refine r.ct ?_
  repeat' ((conv=>whnf);first|rw[wrap64 om]|apply aq|apply bp|rw[dC];intro _|refine bY ?_|refine ak (u _) ?_|refine ck ((e _ (eu om) (d+1) (p+1+bU (t.kids.take i)) om (by have:=wL (i:=i) (m:=40-p) ⟨a.1,by omega⟩ om;omega)).1 (by have:=wL (i:=i) (m:=40-p) ⟨a.1,by omega⟩ om;exact⟨this.1,by omega⟩)) [0] [] rfl ⟨rfl,trivial⟩ ?_|refine o _ om (trivial) (by refine⟨?_,?_,?_⟩<;>repeat' first|(refine c8 ?_;rw[gj om];omega)|(refine c8 ?_;simp)|exact sz|exact dV om|apply And.intro)|(fail_if_success (have f:=o));refine LW.count t.kids.length (fun i=>True) (fun i=>⟨[(30,dI i),(1,dI d),(2,.ptr 0 0),(28,.d (.sl (t.kids.map cK))),(29,dI t.kids.length)],1,[.var 0 [dI ((p+1+bU (t.kids.take i):Nat):Int)]],[]⟩) (fun _=>⟨rfl,rfl,rfl⟩) (fun i w s o=>?_) (trivial) _ (by refine⟨?_,?_,?_⟩<;>repeat' first|(refine c8 ?_;simp[bU])|exact sz|exact dV om|apply And.intro)|exact absurd a (by have c:=t.size_pos;have b:=fun h=>@uA d t h;grind)|(apply dt<;>(repeat' first|(refine c8 ?_;rw[t.size_eq,<-pA (l:=t.kids) (i:=i) om];omega)|exact sz|apply And.intro);done)|intro _)
 .refine r.ct ?_
  repeat' ((conv=>whnf);first|rw[wrap64 om]|apply aq|apply bp|rw[dC];intro _|refine bY ?_|refine ak (u _) ?_|(refine Or.elim (Gr (tz (d+1) (t.kids[i]'om)/\(p+1+bU (t.kids.take i))+(t.kids[i]'om).size<=40)) (fun hP=>?_) (fun hP=>?_)<;>first|refine ck ((e _ (eu om) (d+1) (p+1+bU (t.kids.take i)) om om).1 hP) [0] [] rfl ⟨rfl,trivial⟩ ?_|refine ck ((e _ (eu om) (d+1) (p+1+bU (t.kids.take i)) om om).2 hP) [0] [] rfl ⟨rfl,trivial⟩ ?_)|refine o _ om (Pf.get ?_) (by refine⟨?_,?_,?_⟩<;>repeat' first|(refine c8 ?_;rw[gj om];omega)|(refine c8 ?_;simp)|exact sz|exact dV om|apply And.intro)|(fail_if_success (have f:=o));refine LW.count t.kids.length (fun i=>(jc i fun j=> ∀h:j<t.kids.length,tz (d+1) t.kids[j])/\p+1+bU (t.kids.take i)<=40) (fun i=>⟨[(30,dI i),(1,dI d),(2,.ptr 0 0),(28,.d (.sl (t.kids.map cK))),(29,dI t.kids.length)],1,[.var 0 [dI ((p+1+bU (t.kids.take i):Nat):Int)]],[]⟩) (fun _=>⟨rfl,rfl,rfl⟩) (fun i w s o=>?_) (Pf.get ?_) _ (by refine⟨?_,?_,?_⟩<;>repeat' first|(refine c8 ?_;simp[bU])|exact sz|exact dV om|apply And.intro)|intro _)
  all_goals(conv=>whnf)
  all_goals try first
   |exact fz
   |exact⟨⟨.zero,by simp[bU];omega⟩⟩
   |exact⟨⟨s.1.snoc fun _=>hP.1,by rw[gj om];omega⟩⟩
   |(have c:=N5 (i:=i) (d:=d) (t:=t) om asm om s.1
     exact absurd ⟨c.1,by omega⟩ n)
def jj(t:Nd):Prop:=tz 1 t/\t.size<=40
def Cs(L:Lk)(f:Nat):Prop:=∀t:Nd,CP L f [aK t] (dB (pb (jj t)))
theorem SV(e:aJ L 93 c93)(a:∀t:Nd,I7 L 167 aK 6 40 tz t):Cs L 93:=by
 intro t;by_cases hP:tz 1 t/\0+t.size<=40
 .refine e.cp ?_
  repeat' ((conv=>whnf);first|refine ck ((a t 1 0 om om).1 hP) [1] [] rfl ⟨rfl,trivial⟩ ?_|exact D2 ⟨hP.1,by omega⟩|fail)
 .refine e.cp ?_
  repeat' ((conv=>whnf);first|refine ck ((a t 1 0 om om).2 hP) [1] [] rfl ⟨rfl,trivial⟩ ?_|exact qg fun h=>hP ⟨h.1,by have:=h.2;omega⟩|fail)
theorem VT(l:aJ L 151 agA)(n:pW L 65)(u:zq L 238):∀(t:Nd)(d:Int),0<=d/\d<=7->CP L 151 [aK t,dI d] (dI (qJ 40 (tz d t) t.size)):=by
 refine Nd.ind fun t e=>?_
 intro d c;refine l.cp ?_
 repeat' ((conv=>whnf);first|rw[wrap64 om]|apply aq|apply aD|apply bp|apply aM|rw[dC];intro _|rw[bl];intro _|refine bY ?_|refine ak (n _ _ _) ?_|refine ak (u _) ?_|refine Ff (e _ (eu om) (d+1) om) (fun o=>?_) (fun o=>?_)|refine s _ om (Pf.get ?_) (by refine⟨?_,?_,?_⟩<;>repeat' first|(refine c8 ?_;(try rw[wrap64 om]);rw[gj om];omega)|exact sz|exact dV om|apply And.intro)|exact xo|(fail_if_success (have m:=s));refine LW.count t.kids.length (fun i=>(jc i fun j=> ∀h:j<t.kids.length,tz (d+1) t.kids[j])/\1+bU (t.kids.take i)<=40) (fun i=>⟨[(7,dI i),(1,dI d),(5,dI t.kids.length),(6,dI ((1+bU (t.kids.take i):Nat):Int)),(2,.ptr 0 0)],1,[.var 0 [dI t.sort,.d (.sl (aR t.names)),.d (.sl (t.kids.map cK))]],[]⟩) (fun _=>⟨rfl,rfl,rfl⟩) (fun i f r s=>?_) (Pf.get ?_) _ lz|intro _)
 all_goals(conv=>whnf)
 all_goals try first
  |exact cu (congrArg _ (rr (fun h=>by have a:=wL (i:=i) h om;first|exact o ⟨a.1,by omega⟩|(have:=o.2;omega))).symm)
  |exact cu (congrArg _ (rr (fun h=>by have a:=uA h.1;unfold kU at a;clear e;grind)).symm)
  |exact⟨⟨.zero,by simp[bU]⟩⟩
  |exact⟨⟨r.1.snoc fun _=>o.1,by rw[gj om];omega⟩⟩
  |(have a:=N5 (i:=i) (d:=d) (t:=t) om (by unfold kU;clear s e;grind) om r.1
    exact cu (congrArg _ (by rw[yU ⟨a.1,by omega⟩];omega)))
theorem SW(e:aJ L 71 c71)(a:∀(t:Nd)(d:Int),0<=d/\d<=7->CP L 151 [aK t,dI d] (dI (qJ 40 (tz d t) t.size))):Cs L 71:=by
 intro t;refine e.cp ?_
 repeat' ((conv=>whnf);first|refine Ff (a _ _ om) (fun _=>?_) (fun _=>?_)|exact kx (by have:=t.size_pos;simp only[jj,lk];grind)|fail)
def av(l:List DV):List AV:=l.map .d
def tD(t:Nd):List DV:=[.int .i64 t.sort,.int .i64 t.num,.str t.text,.sl (aR t.names),.sl (t.kids.map cT)]
def kD(t:Nd):List DV:=[.int .i64 t.sort,.sl (aR t.names),.sl (t.kids.map cK)]
structure Ev where
 xq:ab
 pC:Int
 body:Nd
def eD(e:Ev):List DV:=.str e.xq:: .int .i64 e.pC::tD e.body
structure Pw where
 kind:Int
 data:ab
 mj:Bool
 after:Int
 BV:Int
 bj:List Int
def wD(p:Pw):List DV:=[.int .i64 p.kind,.str p.data,.bool p.mj,.int .i64 p.after,.int .i64 p.BV,.sl (fU p.bj)]
structure Fs where
 kind:Nd
 save:Nd
 lift:Nd
def qh(s:Fs):List DV:=kD s.kind++(tD s.save++tD s.lift)
structure Ft where
 xq:ab
 act:Nd
def qN(s:Ft):List DV:=.str s.xq::tD s.act
structure Pl where
 name:ab
 As:List Fs
 start:Nd
 steps:List Ft
def Wl(p:Pl):List DV:=.str p.name:: .sl (p.As.map qh)::(tD p.start++[.sl (p.steps.map qN)])
structure Te where
 kind:Int
 key:ab
 event:Ev
 part:Int
 many:Int
 name:ab
 form:Nd
 lift:Nd
 AU:Pl
 ly:Pw
def gH(e:Te):List DV:=.int .i64 e.kind:: .str e.key::(eD e.event++(.int .i64 e.part:: .int .i64 e.many:: .str e.name::(kD e.form++(tD e.lift++(Wl e.AU++wD e.ly)))))
theorem V4(l:List Fs):(l.map qh).length=l.length:=by simp
theorem V5(l:List Ft):(l.map qN).length=l.length:=by simp
def ir(e:Ev):Prop:=bO e.xq/\(1<=e.pC/\e.pC<=12)/\e.body.sort=5/\jk e.body
def vZ(L:Lk)(f:Nat):Prop:=∀e:Ev,CP L f [.agg (av (eD e))] (dB (pb (ir e)))
theorem Qc(a:aJ L 69 c69)(hN:lI L 68)(t:pW L 65)(o:vN L 150):vZ L 69:=by
 intro e;refine a.cp ?_
 repeat' ((conv=>whnf);first|apply aD|apply bp|refine ak (hN _) ?_|refine ak (t _ _ _) ?_|refine ak (o e.body) ?_|exact kx (by simp only[ir,lk];grind)|intro _)
theorem Qb(a:aJ L 90 c90)(hN:lI L 89)(t:pW L 163)(o:vN L 164):vZ L 90:=by
 intro e;refine a.cp ?_
 repeat' ((conv=>whnf);first|apply aD|apply bp|refine ak (hN _) ?_|refine ak (t _ _ _) ?_|refine ak (o e.body) ?_|exact kx (by simp only[ir,lk];grind)|intro _)
theorem Qn(t:aJ L 166 agE)(e:pW L 163):∀n:Int,CP L 166 [dI n] (dB (!pb (Am n))):=by
 intro n;refine t.cp ?_
 repeat' ((conv=>whnf);first|apply bp|refine ak (e _ _ _) ?_|exact cu (by congr 1;simp only[Am];first|rw[iA asm];rfl|rw[ig asm];rfl)|intro _)
theorem Hi(a:aJ L 244 ag1)(o:∀n:Int,CP L 166 [dI n] (dB (!pb (Am n)))):∀l:List Int,
  (xG l->CP L 244 [.d (.sl (fU l)),.fn 166 []] (dI (-1)))/\(∀k,∀h:k<l.length,(jc k fun j=> ∀h:j<l.length,Am l[j])->¬Am l[k]->CP L 244 [.d (.sl (fU l)),.fn 166 []] (dI k)):=by
 intro l;refine⟨fun s=>?_,fun k f r s=>?_⟩
 .refine a.cp ?_
  repeat' ((conv=>whnf);first|rw[Jm];intro _|apply aq|apply bp|apply aM|refine bY ?_|refine ak (o _) ?_|refine Em om ?_|refine e _ om (trivial) lz|(fail_if_success (have u:=e));refine LW.count l.length (fun i=>True) (fun i=>⟨[(8,dI i),(7,dI l.length),(0,.d (.sl (fU l))),(1,.fn 166 [])],0,[],[]⟩) (fun _=>⟨rfl,rfl,rfl⟩) (fun i c m e=>?_) (trivial) _ lz|exact cu rfl|exact absurd (s i om om) asm|intro _)
 .refine a.cp ?_
  repeat' ((conv=>whnf);first|rw[Jm];intro _|apply aq|apply bp|apply aM|refine bY ?_|refine ak (o _) ?_|refine Em om ?_|refine e _ om (Pf.get ?_) lz|exact xo|(fail_if_success (have u:=e));refine LW.count l.length (fun i=>i<=k) (fun i=>⟨[(8,dI i),(7,dI l.length),(0,.d (.sl (fU l))),(1,.fn 166 [])],0,[],[]⟩) (fun _=>⟨rfl,rfl,rfl⟩) (fun i c m e=>?_) (cr _) _ lz|intro _)
  all_goals(conv=>whnf)
  all_goals try first
   |exact⟨by
     by_cases t:i=k
     .subst t;contradiction
     .omega⟩
   |exact cu (c8 (by
     by_cases t:i=k
     .rw[t]
     .exact absurd (r i om om) asm))
theorem Dy(t:aJ L 165 agD)(a:∀l:List Int,
  (xG l->CP L 244 [.d (.sl (fU l)),.fn 166 []] (dI (-1)))/\(∀k,∀h:k<l.length,(jc k fun j=> ∀h:j<l.length,Am l[j])->¬Am l[k]->CP L 244 [.d (.sl (fU l)),.fn 166 []] (dI k))):
  ∀l:List Int,CP L 165 [.d (.sl (fU l)),.fn 166 []] (dB (!pb (xG l))):=by
 intro l;by_cases e:xG l
 .refine t.cp ?_
  repeat' ((conv=>whnf);first|refine ak ((a l).1 e) ?_|exact cu (by rw[iA e];rfl)|fail)
 .obtain⟨k,o,i,n⟩:=aai e;have s:¬Am l[k]:=fun h=>n fun _=>h
  refine t.cp ?_
  repeat' ((conv=>whnf);first|refine ak ((a l).2 k o i s) ?_|exact cu (by rw[ig e];simp[vF])|fail)
theorem S5(e:aJ L 91 c91)(t:∀l:List Int,CP L 165 [.d (.sl (fU l)),.fn 166 []] (dB (!pb (xG l)))):O7 L 91:=by
 intro l;refine e.cp ?_
 repeat' ((conv=>whnf);first|apply bp|apply aM|refine ak (t l) ?_|exact D2 asm|exact qg asm|intro _)
variable{ns:List ab}{ks:List Nd}
theorem dG{a b:ab}(h:a=b):DV.str a=DV.str b:=congrArg _ h
def bQ(e:Bool)(ns t:List ab):Nat->ab
 |0=>[]
 |i+1=>(match e with
   |true=>(if 0<i then bQ e ns t i++[44]else bQ e ns t i)++ns.getD i []++[58]
   |false=>(if 0<i then bQ e ns t i++[44]else bQ e ns t i))++t.getD i []
theorem jN{f:Nd->ab}(e:0<i)(t:i<ns.length)(a:i<ks.length):
  bQ true ns (ks.map f) (i+1)=bQ true ns (ks.map f) i++[44]++ns[i]++[58]++f ks[i]:=by
 simp[bQ,e,t,a]
theorem jO{f:Nd->ab}(e:¬0<i)(t:i<ns.length)(a:i<ks.length):
  bQ true ns (ks.map f) (i+1)=bQ true ns (ks.map f) i++ns[i]++[58]++f ks[i]:=by
 simp[bQ,e,t,a]
theorem yJ{f:Nd->ab}(e:0<i)(t:i<ks.length):
  bQ false ns (ks.map f) (i+1)=bQ false ns (ks.map f) i++[44]++f ks[i]:=by
 simp[bQ,e,t]
theorem yK{f:Nd->ab}(e:¬0<i)(t:i<ks.length):
  bQ false ns (ks.map f) (i+1)=bQ false ns (ks.map f) i++f ks[i]:=by
 simp[bQ,e,t]
mutual
def fR:Nd->ab
 | .mk s _ _ ns ks=>if s=1 then[110,117,109]else if s=2 then[116,101,120,116]else if s=3 then[102,108,97,103]else
  if s=4 then[91]++(OM ks).headD []++[93]else if s=6 then[63]++(OM ks).headD []else[123]++bQ true ns (OM ks) ks.length++[125]
def OM:List Nd->List ab
 |[]=>[]
 |k::r=>fR k::OM r
end
theorem Uq:∀l,OM l=l.map fR
 |[]=>rfl
 |k::r=>by rw[OM,Uq r];rfl
theorem vL(t:Nd):fR t=if t.sort=1 then[110,117,109]else if t.sort=2 then[116,101,120,116]else if t.sort=3 then[102,108,97,103]else
  if t.sort=4 then[91]++(t.kids.map fR).headD []++[93]else if t.sort=6 then[63]++(t.kids.map fR).headD []else[123]++bQ true t.names (t.kids.map fR) t.kids.length++[125]:=by
 cases t;rw[fR,Uq];rfl
theorem headD_map{f:Nd->ab}(h:0<ks.length):(ks.map f).headD []=f ks[0]:=by
 cases ks with
 |nil=>simp at h
 |cons k r=>rfl
theorem tp{f:Nd->ab}{c:Nat}(t:jc ns.length fun i=> ∀h:i<ns.length,ns[i].length<=8)(s:ns.length=ks.length)(a:∀i(h:i<ks.length),(f ks[i]).length+10<=c*ks[i].size):∀i,i<=ks.length->(bQ true ns (ks.map f) i).length<=c*bU (ks.take i):=by
 intro i
 induction i with
 |zero=>intro _;simp[bQ]
 |succ i o=>
  intro h;have r:=o om;have d:=a i om;have u:=t i om om;have n:=gj (l:=ks) (i:=i) om;rw[n,Nat.mul_add];by_cases e:0<i
  .rw[jN e om om];simp only[bG,aZ,bc];omega
  .rw[jO e om om];simp only[bG,aZ,bc];omega
theorem BT{f:Nd->ab}{c:Nat}(t:∀i(h:i<ks.length),(f ks[i]).length+10<=c*ks[i].size):∀i,i<=ks.length->(bQ false ns (ks.map f) i).length<=c*bU (ks.take i):=by
 intro i
 induction i with
 |zero=>intro _;simp[bQ]
 |succ i a=>
  intro h;have n:=a om;have s:=t i om;have o:=gj (l:=ks) (i:=i) om;rw[o,Nat.mul_add];by_cases e:0<i
  .rw[yJ e om];simp only[bG,aZ,bc];omega
  .rw[yK e om];simp only[bG];omega
theorem vU{l:List ab}(h:wS l):jc l.length fun i=> ∀h:i<l.length,l[i].length<=8:=fun i e t=>((h i e t).1).1.2
theorem po{t:Nd}(h:tz d t)(hi:i<t.kids.length):tz (d+1) t.kids[i]:=(wL ⟨h,aQ _⟩ hi).1
theorem ze:∀(t:Nd)(d:Int),tz d t->(fR t).length+10<=14*t.size:=by
 refine Nd.ind fun t r=>fun d h=>?_
 have e:∀i(h:i<t.kids.length),(fR t.kids[i]).length+10<=14*t.kids[i].size:=fun i a=>r _ (eu a) _ (po h a)
 have u:=(uA h).2;have c:=t.size_eq;rw[vL];unfold kU at u
 have o:∀n:0<t.kids.length,t.kids.length=1->t.kids[0].size=bU t.kids:=fun n m=>by
  have:=gj (l:=t.kids) (i:=0) n;rw[pA om]at this;simpa[bU]using this.symm
 repeat' split
 .simp;omega
 .simp;omega
 .simp;omega
 .have:=o om om;have:=e 0 om;rw[headD_map om];simp;omega
 .have:=o om om;have:=e 0 om;rw[headD_map om];simp;omega
 .have s:t.names.length=t.kids.length/\wS t.names:=by grind
  have:=tp (vU s.2) s.1 e t.kids.length (aQ _);rw[pA (aQ _)]at this;simp;omega
def E1(L:Lk)(f:Nat):Prop:=∀(t:Nd)(d:Int),tz d t/\t.size<=40->CP L f [aK t] (dS (fR t))
theorem ZH(y:aJ L 79 c79):E1 L 79:=by
 refine Nd.ind fun t r=>?_
 intro d l;have u:∀i(h:i<t.kids.length),(fR t.kids[i]).length+10<=14*t.kids[i].size:=fun i n=>ze _ _ (po l.1 n)
 have f:=(uA l.1).2;have c:t.sort=5->Pf (t.names.length=t.kids.length/\wS t.names):=fun a=>⟨by unfold kU at f;grind⟩
 have s:∀i(h:i<t.kids.length),tz (d+1) t.kids[i]/\t.kids[i].size<=40:=fun i n=>by have:=wL l n;exact⟨this.1,by omega⟩
 have p:=t.size_eq;have o:Pf ((t.sort=1\/t.sort=2\/t.sort=3\/t.sort=4\/t.sort=5\/t.sort=6)/\(t.sort=4\/t.sort=6->t.kids.length=1)/\(t.sort=5->t.names.length=t.kids.length)):=⟨by unfold kU at f;grind⟩
 have w:t.sort=5->∀i,i<=t.kids.length->(bQ true t.names (t.kids.map fR) i).length<=14*bU (t.kids.take i)/\bU (t.kids.take i)<=bU t.kids:=fun a i n=>
  ⟨tp (vU (c a).get.2) (c a).get.1 u i n,rz _ _⟩
 have m:t.sort=5->∀i(h:i<t.names.length),t.names[i].length<=8:=fun a i n=>vU (c a).get.2 i n n
 have e:=vL t;refine y.cp ?_;have a:t.sort≠1->t.sort≠2->t.sort≠3->t.sort≠4->t.sort≠6->t.sort=5:=fun _ _ _ _ _=>by have:=o.get;omega
 repeat' ((conv=>whnf);first|refine ad (by have:=w a i om;have:=m a i (by have:=o.get.2.2 a;omega);have:=u i om;have:=s i om;(try simp only[bG,aZ,bc]);omega) ?_|refine ad (by have:=w a i om;(try simp only[bG,aZ,bc]);omega) ?_|refine ad (by have:=u 0 (by have:=o.get.2.1;omega);have:=s 0 (by have:=o.get.2.1;omega);(try simp only[bG,aZ,bc]);omega) ?_|refine v _ om trivial (by refine⟨?_,?_,?_⟩<;>repeat' first|exact dG (jN om (by have:=o.get.2.2 a;omega) om).symm|exact dG (jO om (by have:=o.get.2.2 a;omega) om).symm|exact sz|exact dV om|apply And.intro)|apply aq|apply aD|rw[dC];intro _|refine bY ?_|refine iu (r _ (eu om) (d+1) (s _ om)) ?_|refine ak (r _ (eu (by have:=o.get.2.1;omega)) (d+1) (s _ (by have:=o.get.2.1;omega))) ?_|refine Jk (by have:=o.get.2.1;omega) ?_|refine oG (by have:=o.get.2.2 a;omega) ?_|have a:=a asm asm asm asm asm;refine LW.count t.kids.length (fun i=>True) (fun i=>⟨[(4,dI i),(3,dS (bQ true t.names (t.kids.map fR) i)),(1,.ptr 0 0)],1,[.var 0 [dI t.sort,.d (.sl (aR t.names)),.d (.sl (t.kids.map cK))]],[]⟩) (fun _=>⟨rfl,rfl,rfl⟩) (fun i n b v=>?_) trivial _ lz|exact cu (dG (by rw[e,if_pos asm]))|exact cu (dG (by rw[e,if_neg asm,if_pos asm]))|exact cu (dG (by rw[e,if_neg asm,if_neg asm,if_pos asm]))|exact cu (dG (by rw[e,if_neg asm,if_neg asm,if_neg asm,if_pos asm,headD_map (by have:=o.get.2.1;omega)]))|exact cu (dG (by rw[e,if_neg asm,if_neg asm,if_neg asm,if_neg asm,if_pos asm,headD_map (by have:=o.get.2.1;omega)]))|exact cu (dG (by rw[e,if_neg asm,if_neg asm,if_neg asm,if_neg asm,if_neg asm,show i=t.kids.length by omega]))|intro _)
mutual
def cM:Nd->ab
 | .mk s n t a e=>if s=1 then dec n else if s=2 then[34]++t++[34]else if s=3 then(if n=1 then[121,101,115]else[110,111])else
  if s=6 then(if e.length=0 then[126]else[63]++(ON e).headD [])else if s=5 then[123]++bQ true a (ON e) e.length++[125]else[91]++bQ false a (ON e) e.length++[93]
def ON:List Nd->List ab
 |[]=>[]
 |k::r=>cM k::ON r
end
theorem L1:∀l,ON l=l.map cM
 |[]=>rfl
 |k::r=>by rw[ON,L1 r];rfl
theorem qL(t:Nd):cM t=if t.sort=1 then dec t.num else if t.sort=2 then[34]++t.text++[34]else if t.sort=3 then(if t.num=1 then[121,101,115]else[110,111])else
  if t.sort=6 then(if t.kids.length=0 then[126]else[63]++(t.kids.map cM).headD [])else if t.sort=5 then[123]++bQ true t.names (t.kids.map cM) t.kids.length++[125]else[91]++bQ false t.names (t.kids.map cM) t.kids.length++[93]:=by
 cases t;rw[cM,L1];rfl
theorem wN{t:Nd}(h:pw d t)(hi:i<t.kids.length):pw (d+1) t.kids[i]:=(rZ ⟨h,aQ _⟩ hi).1
structure ShT(t:Nd):Prop where
 any:t.sort=1\/t.sort=2\/t.sort=3\/t.sort=4\/t.sort=5\/t.sort=6
 num:t.sort=1->eB .i64 t.num
 text:t.sort=2->t.text.length<=60
 form:t.sort=5->t.names.length=t.kids.length/\jc t.names.length fun i=> ∀h:i<t.names.length,t.names[i].length<=8
 maybe:t.sort=6->t.kids.length<=1
theorem shT{t:Nd}(h:pw d t):ShT t:=by
 have e:=(r8 h).2;unfold mg at e;refine⟨by omega,fun h=>?_,fun h=>?_,fun h=>?_,by omega⟩
 .unfold eB;simp only;omega
 .have:C9 t.text:=by grind
  exact this.1
 .have:wS t.names:=by grind
  exact⟨by omega,vU this⟩
theorem uE:∀(t:Nd)(d:Int),pw d t->(cM t).length+10<=72*t.size:=by
 refine Nd.ind fun t r=>fun d h=>?_
 have a:∀i(h:i<t.kids.length),(cM t.kids[i]).length+10<=72*t.kids[i].size:=fun i o=>r _ (eu o) _ (wN h o)
 have e:=shT h;have c:=t.size_eq;rw[qL]
 have u:∀n:0<t.kids.length,t.kids.length=1->t.kids[0].size=bU t.kids:=fun n m=>by
  have:=gj (l:=t.kids) (i:=0) n;rw[pA om]at this;simpa[bU]using this.symm
 repeat' split
 .have:=qt (e.num asm);omega
 .have:=e.text asm;simp;omega
 .simp;omega
 .simp;omega
 .simp;omega
 .have:=e.maybe asm;have:=u om om;have:=a 0 om;rw[headD_map om];simp;omega
 .have s:=e.form asm;have:=tp s.2 s.1 a t.kids.length (aQ _);rw[pA (aQ _)]at this;simp;omega
 .have:=BT (ns:=t.names) a t.kids.length (aQ _);rw[pA (aQ _)]at this;simp;omega
def uf(L:Lk)(f:Nat):Prop:=∀(t:Nd)(d:Int),pw d t/\t.size<=120->CP L f [aT t] (dS (cM t))
theorem ZF(y:aJ L 154 c154)(v:E0 L):uf L 154:=by
 refine Nd.ind fun t r=>?_
 intro d m;have l:∀i(h:i<t.kids.length),(cM t.kids[i]).length+10<=72*t.kids[i].size:=fun i a=>uE _ _ (wN m.1 a)
 have n:=shT m.1;have o:∀i(h:i<t.kids.length),pw (d+1) t.kids[i]/\t.kids[i].size<=120:=fun i a=>by have:=rZ m a;exact⟨this.1,by omega⟩
 have b:=t.size_eq;have u:∀i,i<=t.kids.length->(bQ false t.names (t.kids.map cM) i).length<=72*bU (t.kids.take i)/\bU (t.kids.take i)<=bU t.kids:=fun i a=>⟨BT (ns:=t.names) l i a,rz _ _⟩
 have e:=qL t;by_cases s:t.sort=5
 .have p:∀i,i<=t.kids.length->(bQ true t.names (t.kids.map cM) i).length<=72*bU (t.kids.take i)/\bU (t.kids.take i)<=bU t.kids:=fun i a=>⟨tp (n.form s).2 (n.form s).1 l i a,rz _ _⟩
  have f:∀i(h:i<t.names.length),t.names[i].length<=8:=fun i a=>(n.form s).2 i a a
  have g:=(n.form s).1;refine y.cp ?_
  repeat' ((conv=>whnf);first|refine ad (by have:=p i om;have:=f i om;have:=l i om;have:=o i om;(try simp only[bG,aZ,bc]);omega) ?_|refine ad (by have:=p i om;(try simp only[bG,aZ,bc]);omega) ?_|exact xo|apply aq|apply aD|rw[ca];intro _|refine bY ?_|refine ak (r _ (eu om) (d+1) (o _ om)) ?_|refine c _ om (trivial) (by refine⟨?_,?_,?_⟩<;>repeat' first|exact dG (jN om om om).symm|exact dG (jO om om om).symm|exact sz|exact dV om|apply And.intro)|(fail_if_success (have k:=c));refine LW.count t.kids.length (fun i=>True) (fun i=>⟨[(4,dI i),(3,dS (bQ true t.names (t.kids.map cM) i)),(1,.ptr 0 0)],1,[.var 0 [dI t.sort,dI t.num,dS t.text,.d (.sl (aR t.names)),.d (.sl (t.kids.map cT))]],[]⟩) (fun _=>⟨rfl,rfl,rfl⟩) (fun i a j c=>?_) (trivial) _ lz|exact cu (dG (by rw[e];simp[s,show i=t.kids.length by omega]))|intro _)
 .refine y.cp ?_
  repeat' ((conv=>whnf);first|exact xc|refine ad (by have:=u i om;have:=l i om;have:=o i om;(try simp only[bG,aZ,bc]);omega) ?_|refine ad (by have:=u i om;(try simp only[bG,aZ,bc]);omega) ?_|refine ad (by have:=n.text asm;(try simp only[bG,aZ,bc]);omega) ?_|refine ad (by have:=l 0 om;have:=o 0 om;(try simp only[aZ,bc]);omega) ?_|apply aq|apply aD|rw[ca];intro _|refine bY ?_|refine ak (r _ (eu om) (d+1) (o _ om)) ?_|refine ak (v t.num (n.num asm)) ?_|refine c _ om (trivial) (by refine⟨?_,?_,?_⟩<;>repeat' first|exact dG (yJ om om).symm|exact dG (yK om om).symm|exact sz|exact dV om|apply And.intro)|(fail_if_success (have k:=c));refine LW.count t.kids.length (fun i=>True) (fun i=>⟨[(4,dI i),(3,dS (bQ false t.names (t.kids.map cM) i)),(1,.ptr 0 0)],1,[.var 0 [dI t.sort,dI t.num,dS t.text,.d (.sl (aR t.names)),.d (.sl (t.kids.map cT))]],[]⟩) (fun _=>⟨rfl,rfl,rfl⟩) (fun i a j c=>?_) (trivial) _ lz|intro _)
  all_goals(conv=>whnf)
  all_goals try first
   |exact absurd asm s
   |(have w:i=t.kids.length:=by omega
     exact cu (dG (by rw[e,w];simp_all)))
   |exact cu (dG (by rw[e,if_neg asm,if_neg asm,if_neg asm,if_pos asm,if_neg om,headD_map om]))
   |exact cu (dG (by rw[e];simp_all))
variable{s:ab}{p:Nat}
def kq(s:ab)(p:Nat)(b:Bool):Bx:=.var 0 [dS s,dI p,dB b]
def bE(s:ab)(p:Nat):Nat:=match s[p]? with|some c=>c.toNat|none=>0
theorem cW(h:p<s.length):bE s p=s[p].toNat:=by simp[bE,h]
theorem tr(h:s.length<=p):bE s p=0:=by simp[bE,h]
def v7(L:Lk):Prop:=∀(s:ab)(p:Nat)(b:Bool),s.length<=1000000->CT L 259 [.ptr 0 0] 1 [kq s p b] [] (.d (.int .u8 (bE s p))) 1 [kq s p b] []
theorem acS(e:aJ L 259 ahb):v7 L:=by
 intro s p b t;refine e.ct ?_
 repeat' ((conv=>whnf);first|apply aq|refine bY ?_|(apply dt<;>(repeat' first|(refine c8 ?_;rw[cW om])|exact sz|apply And.intro);done)|(apply dt<;>(repeat' first|(refine c8 ?_;rw[tr om];rfl)|exact sz|apply And.intro);done)|intro _)
def br(s w:ab)(p:Nat):Prop:=p+w.length<=s.length/\(s.take (p+w.length)).drop p=w
def abk(L:Lk):Prop:=∀(s w:ab)(p:Nat)(b:Bool),s.length<=1000000->w.length<=100->p<=s.length+7->
 (br s w p->CT L 191 [.ptr 0 0,dS w] 1 [kq s p b] [] (.b6 []) 1 [kq s (p+w.length) b] [])/\
 (¬br s w p->CT L 191 [.ptr 0 0,dS w] 1 [kq s p b] [] (.b6 []) 1 [kq s p true] [])
theorem ajg(t:aJ L 191 agP):abk L:=by
 intro s w p b a o i;refine⟨fun e=>?_,fun e=>?_⟩
 .have n:=e.1;refine t.ct ?_
  repeat' ((conv=>whnf);first|rw[wrap64 om]|apply aq|apply aH|apply aM|refine bY ?_|exact xo|exact absurd e.2 asm|exact fx|intro _)
 .refine t.ct ?_
  repeat' ((conv=>whnf);first|rw[wrap64 om]|apply aq|apply aH|apply aM|refine bY ?_|exact absurd ⟨by omega,by assumption⟩ e|exact fz|intro _)
def Es(n:Nat):Prop:=(97<=n/\n<=122)\/(48<=n/\n<=57)
def mM(s:ab)(p q:Nat):Prop:=p<=q/\q<=s.length/\(∀i,p<=i->i<q->Es (bE s i))/\¬Es (bE s q)
def Bm(L:Lk):Prop:=∀(s:ab)(p:Nat)(b:Bool)(q:Nat),s.length<=1000000->mM s p q->CT L 190 [.ptr 0 0] 1 [kq s p b] [] (dS ((s.take q).drop p)) 1 [kq s q b] []
theorem acX(r:aJ L 190 agO)(d:v7 L):Bm L:=by
 intro s p b q l u;obtain⟨f,w,c,m⟩:=u
 have a:∀i,i<=q-p->Es (bE s (p+i))->i<q-p:=fun i e t=>by
  by_cases h:i=q-p
  .rw[h,show p+(q-p)=q by omega]at t;exact absurd t m
  .omega
 have o:∀i,i<=q-p->¬Es (bE s (p+i))->p+i=q:=fun i e t=>by
  by_cases h:i=q-p
  .omega
  .exact absurd (c _ om om) t
 refine r.ct ?_
 repeat' ((conv=>whnf);first|rw[wrap64 om]|apply bK|refine bY ?_|refine az (d s (p+i) b l) [0] [] ?_|refine n _ (a i e (by unfold Es;omega)) trivial lx|(fail_if_success (have y:=n));refine LW.count (q-p) (fun _=>True) (fun i=>⟨[(0,.ptr 0 0),(3,dI p)],1,[kq s (p+i) b],[]⟩) (fun _=>⟨rfl,rfl,rfl⟩) (fun i e v n=>?_) trivial _ lz|rw[<-o i e (by unfold Es;omega)];exact fz|exact xo|intro _)
def gW(s w:ab)(p:Nat)(b:Bool)(p':Nat)(e:Bool):Prop:=(br s w p/\p'=p+w.length/\e=b)\/(¬br s w p/\p'=p/\e=true)
def Bk(L:Lk):Prop:=∀(s w:ab)(p:Nat)(b:Bool)(p':Nat)(e:Bool),gW s w p b p' e->s.length<=1000000->w.length<=100->p<=s.length+7->
 CT L 191 [.ptr 0 0,dS w] 1 [kq s p b] [] (.b6 []) 1 [kq s p' e] []
theorem ajf(h:abk L):Bk L:=by
 intro s w p b i n r t a o;rcases r with⟨e,rfl,rfl⟩|⟨e,rfl,rfl⟩
 .exact(h s w p n t a o).1 e
 .exact(h s w i b t a o).2 e
inductive GF(s:ab)(P:Nat->Bool->Nd->Nat->Bool->Prop):Nat->List ab->List Nd->Nat->Bool->List ab->List Nd->Nat->Bool->Prop where
 |stop (ns:List ab) (ks:List Nd) (p:Nat) (b:Bool) (h:b=true\/bE s p=125):GF s P 0 ns ks p b ns ks p b
 |step (m:Nat) (ns:List ab) (ks:List Nd) (p p1:Nat) (b1:Bool) (q p2:Nat) (b2:Bool) (k:Nd) (p3:Nat) (b3:Bool) (jP:List ab) (j0:List Nd) (p':Nat) (b':Bool)
   (hl:bE s p≠125) (hp:p<=s.length) (hn:ns.length<=s.length) (hk:ks.length<=s.length) (h1:(ks.length=0/\p1=p/\b1=false)\/(0<ks.length/\gW s [44] p false p1 b1)) (h2:mM s p1 q) (h3:gW s [58] q b1 p2 b2)
   (h4:P p2 b2 k p3 b3) (h5:GF s P m (ns++[(s.take q).drop p1]) (ks++[k]) p3 b3 jP j0 p' b'):GF s P (m+1) ns ks p false jP j0 p' b'
def bX:Nd:=.mk 0 0 [] [] []
def DP(s:ab):Nat->Nat->Bool->Nd->Nat->Bool->Prop
 |0,p,_,k,e,t=>k=bX/\e=p/\t=true
 |n+1,p,b,k,e,t=>(b=true/\k=bX/\e=p/\t=true)\/(b=false/\(
   (bE s p=110/\gW s [110,117,109] p false e t/\k=.mk 1 0 [] [] [])\/
   (bE s p=116/\gW s [116,101,120,116] p false e t/\k=.mk 2 0 [] [] [])\/
   (bE s p=102/\gW s [102,108,97,103] p false e t/\k=.mk 3 0 [] [] [])\/
   (bE s p=63/\∃a o i,gW s [63] p false a o/\DP s n a o i e t/\k=.mk 6 0 [] [] [i])\/
   (bE s p=91/\∃a o i h r,gW s [91] p false a o/\DP s n a o i h r/\gW s [93] h r e t/\k=.mk 4 0 [] [] [i])\/
   ((bE s p≠110/\bE s p≠116/\bE s p≠102/\bE s p≠63/\bE s p≠91)/\∃m a o d l h,gW s [123] p false a o/\GF s (DP s n) m [] [] a o d l h t/\e=h+1/\k=.mk 5 0 [] d l)))
theorem gW.le{w:ab}{p':Nat}{b e:Bool}(h:gW s w p b p' e)(a:p<=s.length):p<=p'/\p'<=s.length/\(e=false->b=false/\p'=p+w.length):=by
 rcases h with⟨t,rfl,rfl⟩|⟨t,rfl,rfl⟩
 .exact⟨by omega,t.1,fun h=>⟨h,rfl⟩⟩
 .exact⟨aQ _,a,fun h=>by cases h⟩
theorem GF.le{s:ab}{P:Nat->Bool->Nd->Nat->Bool->Prop}{c:Nat}(hP:∀p b k p' t,P p b k p' t->p<=s.length->p<=p'/\p'<=s.length+c/\(t=false->p'<=s.length)){m:Nat}{ns:List ab}{ks:List Nd}{p:Nat}{b:Bool}{a:List ab}{o:List Nd}{p':Nat}{t:Bool}(h:GF s P m ns ks p b a o p' t)(u:p<=s.length+c)(f:b=false->p<=s.length):
  p<=p'/\p'<=s.length+c/\(t=false->p'<=s.length/\bE s p'=125):=by
 induction h with
 |stop ns ks p b h=>exact⟨aQ _,u,fun i=>⟨f i,h.resolve_left (by rw[i];simp)⟩⟩
 |step m ns ks p n z q E T k A O a o p' t I r N S w d y v H g=>
  have R:p<=n/\n<=s.length:=by
   rcases w with⟨_,rfl,_⟩|⟨_,e⟩
   .exact⟨aQ _,r⟩
   .have:=e.le r;exact⟨this.1,this.2.1⟩
  have D:=d.1;have j:=y.le d.2.1;have l:=hP _ _ _ _ _ v j.2.1;have x:=g l.2.1 l.2.2;exact⟨by omega,x.2⟩
theorem DP.le{s:ab}:∀{n:Nat}{p:Nat}{b:Bool}{k:Nd}{p':Nat}{t:Bool},DP s n p b k p' t->p<=s.length->p<=p'/\p'<=s.length+n/\(t=false->p'<=s.length):=by
 intro n
 induction n with
 |zero=>intro p b k p' t h e;obtain⟨_,rfl,rfl⟩:=h;exact⟨aQ _,e,fun h=>by cases h⟩
 |succ n i=>
  intro p b k p' t h e;rcases h with⟨_,_,rfl,rfl⟩|⟨_,⟨_,h,_⟩|⟨_,h,_⟩|⟨_,h,_⟩|⟨_,u,f,v,h,o,_⟩|⟨_,u,f,v,r,j,h,o,w,_⟩|⟨_,m,u,f,q,x,r,h,o,rfl,_⟩⟩
  .exact⟨aQ _,by omega,fun h=>by cases h⟩
  .have:=h.le e;exact⟨this.1,by omega,fun _=>this.2.1⟩
  .have:=h.le e;exact⟨this.1,by omega,fun _=>this.2.1⟩
  .have:=h.le e;exact⟨this.1,by omega,fun _=>this.2.1⟩
  .have a:=h.le e;have b:=i o a.2.1;exact⟨by omega,by omega,b.2.2⟩
  .have a:=h.le e;have c:=i o a.2.1;by_cases l:r<=s.length
   .have d:=w.le l;exact⟨by omega,by omega,fun _=>d.2.1⟩
   .rcases w with⟨y,rfl,rfl⟩|⟨y,rfl,rfl⟩
    .have:=y.1;omega
    .exact⟨by omega,by omega,fun h=>by cases h⟩
  .have a:=h.le e;have c:=GF.le (c:=n) (fun p b k p' t h e=>i h e) o om (fun _=>a.2.1);refine⟨by omega,by omega,fun g=>?_⟩;have:=c.2.2 g;by_cases z:r<s.length
   .omega
   .rw[tr om]at this;omega
def UG(L:Lk)(s:ab)(n:Nat):Prop:=∀(d:Int)(p:Nat)(b:Bool)(k:Nd)(p':Nat)(e:Bool),d=7-n->DP s n p b k p' e->p<=s.length->
 CT L 205 [.ptr 0 0,dI d] 1 [kq s p b] [] (aK k) 1 [kq s p' e] []
theorem ZG(f:aJ L 205 agT)(a:v7 L)(t:Bk L)(hN:Bm L)(s:ab)(e:s.length<=1000000):∀n,n<=7->UG L s n:=by
 intro n
 induction n with
 |zero=>
  intro Z d p b k P N hd h v;obtain⟨rfl,rfl,rfl⟩:=h;refine f.ct ?_
  repeat' ((conv=>whnf);first|apply aq|apply bS|exact fz|exact xo|intro _)
 |succ n o=>
  intro Z d p b k P N hd h v;rcases h with⟨rfl,rfl,rfl,rfl⟩|⟨rfl,⟨g,h,rfl⟩|⟨g,h,rfl⟩|⟨g,h,rfl⟩|⟨g,z,E,k1,h,w,rfl⟩|⟨g,z,E,k1,V,b2,h,w,h3,rfl⟩|⟨g,m,z,E,ns,ks,V,h,w,rfl,rfl⟩⟩
  .refine f.ct ?_
   repeat' ((conv=>whnf);first|apply aq|apply bK|apply aD|apply aH|apply bp|apply aM|apply eA|apply ew|apply gQ|apply bS|rw[ca];intro _|rw[dC];intro _|rw[bl];intro _|refine bY ?_|exact fz|intro _)
  .refine f.ct ?_
   repeat' ((conv=>whnf);first|exact xo|apply aq|apply aD|refine az (a s p false e) [0] [] ?_|refine ck (t _ _ _ _ _ _ h e de om) [0] [] rfl ⟨rfl,trivial⟩ ?_|exact fz|intro _)
  .refine f.ct ?_
   repeat' ((conv=>whnf);first|exact xo|apply aq|apply aD|refine az (a s p false e) [0] [] ?_|refine ck (t _ _ _ _ _ _ h e de om) [0] [] rfl ⟨rfl,trivial⟩ ?_|exact fz|intro _)
  .refine f.ct ?_
   repeat' ((conv=>whnf);first|exact xo|apply aq|apply aD|refine az (a s p false e) [0] [] ?_|refine ck (t _ _ _ _ _ _ h e de om) [0] [] rfl ⟨rfl,trivial⟩ ?_|exact fz|intro _)
  .refine f.ct ?_;have j:=h.le v
   repeat' ((conv=>whnf);first|exact xo|rw[wrap64 om]|apply aq|apply aD|refine az (a s p false e) [0] [] ?_|refine ck (t _ _ _ _ _ _ h e de om) [0] [] rfl ⟨rfl,trivial⟩ ?_|refine ck (o om (d+1) _ _ _ _ _ om w j.2.1) [0] [] rfl ⟨rfl,trivial⟩ ?_|exact fx|intro _)
  .refine f.ct ?_;have j:=h.le v;have h4:=w.le j.2.1
   repeat' ((conv=>whnf);first|exact xo|rw[wrap64 om]|apply aq|apply aD|refine az (a s p false e) [0] [] ?_|refine ck (t _ _ _ _ _ _ h e de om) [0] [] rfl ⟨rfl,trivial⟩ ?_|refine ck (t _ _ _ _ _ _ h3 e de om) [0] [] rfl ⟨rfl,trivial⟩ ?_|refine ck (o om (d+1) _ _ _ _ _ om w j.2.1) [0] [] rfl ⟨rfl,trivial⟩ ?_|exact fx|intro _)
  .refine f.ct ?_;have j:=h.le v;have H:=GF.le (c:=n) (fun p b k P N h v=>h.le v) w om (fun _=>j.2.1);have T:=H.2.1
   repeat' ((conv=>whnf);first|exact xo|apply aq|apply aD|refine az (a s p false e) [0] [] ?_|refine ck (t _ _ _ _ _ _ h e de om) [0] [] rfl ⟨rfl,trivial⟩ ?_|intro _)
   all_goals(conv=>whnf)
   refine LW.ghost (cg:=[kq s z E,.var 0 [dI 0,.aO [] .nil,.aO [] .nil],.var 0 [dI 5,.aO [] (.row 0),.aO [] .nil]]) 1 rfl ⟨⟨rfl,.inl rfl,.inl rfl,.inl rfl,trivial⟩,⟨rfl,.inl rfl,.inl rfl,.inl rfl,trivial⟩,⟨rfl,.inl rfl,.inr ⟨rfl,rfl⟩,.inl rfl,trivial⟩,trivial⟩ ?_;refine LW.ghost (cg:=[kq s z E,.var 0 [dI 0,.aO [] .nil,.aO [] .nil],.var 0 [dI 5,.aO [] (.row 0),.aO [] (.row 1)]]) 3 rfl ⟨⟨rfl,.inl rfl,.inl rfl,.inl rfl,trivial⟩,⟨rfl,.inl rfl,.inl rfl,.inl rfl,trivial⟩,⟨rfl,.inl rfl,.inl rfl,.inr ⟨rfl,rfl⟩,trivial⟩,trivial⟩ ?_
   refine LW.gen (S:=Nat×List ab×List Nd×Nat×Bool) (fun x=>x.1) (fun x=>GF s (DP s n) x.1 x.2.1 x.2.2.1 x.2.2.2.1 x.2.2.2.2 ns ks V N)
    (fun x=>⟨[(0,.ptr 0 0),(1,dI d),(4,.ptr 1 0),(6,.ptr 2 0)],3,[kq s x.2.2.2.1 x.2.2.2.2,.var 0 [dI 0,.aO [] .nil,.aO [] .nil],.var 0 [dI 5,.aO (aR x.2.1) (.row 0),.aO (x.2.2.1.map cK) (.row 1)]],[(x.2.1.length,1),(x.2.2.1.length,3)]⟩)
    (fun _=>⟨rfl,rfl,rfl⟩) ?_ (m,[],[],z,E) w _ lz
   rintro⟨m,i,r,p0,R⟩ hI O;cases hI with
   |stop _ _ _ _ B=>
    dsimp only at O B T⊢
    have D:R=true\/(R=false/\bE s p0=125):=by
     cases R with
     |true=>exact .inl rfl
     |false=>exact .inr ⟨rfl,B.resolve_left si⟩
    rcases D with rfl|⟨rfl,g⟩
    .skip
     repeat' ((conv=>whnf);first|rw[wrap64 om]|exact fx|fail)
    .skip
     repeat' ((conv=>whnf);first|exact xo|rw[wrap64 om]|apply aD|apply aM|refine ck (a s _ false e) [0] [] rfl ⟨rfl,trivial⟩ ?_|exact fx|intro _)
   |step m _ _ _ ee et q eo ei k G K _ _ _ _ e1 J U C A I M Q F=>
    dsimp only at U C e1 J A F O⊢;have a2:=I.2.1;have X:=M.le a2;have a6:=I.1;have l:(aR i).length=i.length:=bl _;have u:(r.map cK).length=r.length:=dC _;rcases A with⟨e0,rfl,rfl⟩|⟨e0,A⟩
    .skip
     repeat' ((conv=>whnf);first|exact xo|rw[wrap64 om]|apply aq|apply aD|apply aM|rw[dC];intro _|refine bY ?_|refine ck (a s _ false e) [0] [] rfl ⟨rfl,trivial⟩ ?_|refine ck (hN s _ _ q e I) [0] [] rfl ⟨rfl,trivial⟩ ?_|refine ck (t _ _ _ _ _ _ M e de om) [0] [] rfl ⟨rfl,trivial⟩ ?_|refine ck (o om (d+1) _ _ _ _ _ om Q X.2.1) [0] [] rfl ⟨rfl,trivial⟩ ?_|refine ad ⟨by simp only[l,u,aZ,bc];omega,by intro y Y;rw[dP.1 Y];rfl⟩ ?_|refine ad ⟨by simp only[l,u],rfl⟩ ?_|refine O (m,i++[(s.take q).drop _],r++[k],G,K) _ (by show m<m+1;omega) F lx|exact fz|intro _)
    .skip;have a4:=A.le J
     repeat' ((conv=>whnf);first|exact xo|rw[wrap64 om]|apply aq|apply aD|apply aM|rw[dC];intro _|refine bY ?_|refine ck (a s _ false e) [0] [] rfl ⟨rfl,trivial⟩ ?_|refine ck (hN s _ _ q e I) [0] [] rfl ⟨rfl,trivial⟩ ?_|refine ck (t _ _ _ _ _ _ M e de om) [0] [] rfl ⟨rfl,trivial⟩ ?_|refine ck (t _ _ _ _ _ _ A e de om) [0] [] rfl ⟨rfl,trivial⟩ ?_|refine ck (o om (d+1) _ _ _ _ _ om Q X.2.1) [0] [] rfl ⟨rfl,trivial⟩ ?_|refine ad ⟨by simp only[l,u,aZ,bc];omega,by intro y Y;rw[dP.1 Y];rfl⟩ ?_|refine ad ⟨by simp only[l,u],rfl⟩ ?_|refine O (m,i++[(s.take q).drop _],r++[k],G,K) _ (by show m<m+1;omega) F lx|exact fz|intro _)
theorem dm{a b:ab}:br s (a++b) p↔br s a p/\br s b (p+a.length):=by
 unfold br;simp only[bG];constructor
 .rintro⟨t,e⟩;refine⟨⟨by omega,?_⟩,by omega,?_⟩
  .have:=congrArg (List.take a.length) e;rw[Df,List.take_drop,List.take_take]at this
   .rw[show min (p+a.length) (p+(a.length+b.length))=p+a.length by omega]at this;exact this
   .rfl
  .have:=congrArg (List.drop a.length) e;rw[ET,Dg]at this
   .rw[kJ];first|exact this|(rw[JJ a.length p]at this;exact this)
   .rfl
 .rintro⟨⟨t,e⟩,h,o⟩;refine⟨by omega,?_⟩;apply Cq;intro i;simp only[mE,xa];by_cases n:i<a.length
  .rw[gL n];have:=congrArg (·[i]?) e;simp only[mE,xa]at this;rw[if_pos om]at this;rw[if_pos om];exact this
  .rw[pI om];have:=congrArg (·[i-a.length]?) o;simp only[mE,xa]at this;rw[show p+a.length+(i-a.length)=p+i by omega]at this;rw[kJ]at this;exact this
theorem fL{a:ab}(h:br s a p)(hi:i<a.length):bE s (p+i)=a[i].toNat:=by
 have:=congrArg (·[i]?) h.2;simp only[mE,xa]at this;rw[if_pos om,dw hi]at this;simp[bE,this]
theorem E7{a:ab}(h:br s a p):(s.take (p+a.length)).drop p=a:=h.2
theorem gW.yes{w:ab}{b:Bool}(h:br s w p):gW s w p b (p+w.length) b:=.inl ⟨h,rfl,rfl⟩
theorem gW.ex(s w:ab)(p:Nat)(b:Bool):∃e t,gW s w p b e t:=by
 by_cases h:br s w p
 .exact⟨_,_,.inl ⟨h,rfl,rfl⟩⟩
 .exact⟨_,_,.inr ⟨h,rfl,rfl⟩⟩
theorem mM.ex(s:ab):∀d p,s.length-p=d->p<=s.length->∃q,mM s p q:=by
 intro d
 induction d with
 |zero=>intro p h e;exact⟨p,aQ _,e,fun i a t=>by omega,by rw[tr om];unfold Es;omega⟩
 |succ d n=>
  intro p h e;by_cases o:Es (bE s p)
  .obtain⟨q,m,r,l,u⟩:=n (p+1) om om;refine⟨q,by omega,r,fun i a t=>?_,u⟩;by_cases c:i=p
   .rw[c];exact o
   .exact l i om t
  .exact⟨p,aQ _,e,fun i a t=>by omega,o⟩
theorem GF.ex{s:ab}{P:Nat->Bool->Nd->Nat->Bool->Prop}{c:Nat}(hP:∀p b k t o,P p b k t o->p<=s.length->p<=t/\t<=s.length+c/\(o=false->t<=s.length))(R:∀p k t o,P p true k t o->o=true)(D:∀p b,p<=s.length->∃k t o,P p b k t o):∀d r i p b,s.length-p=d->(b=false->p<=s.length)->(b=false->r.length<=p/\i.length=r.length)->∃m u f t o,GF s P m r i p b u f t o:=by
 intro d
 induction d using Nat.strongRecOn with
 |ind d L=>
 intro r i p b V w H;by_cases O:b=true\/bE s p=125
 .exact⟨_,_,_,_,_,.stop r i p b O⟩
 .have U:b=false:=by cases b<;>simp_all
  subst U;have w:=w rfl;have H:=H rfl
  have j:∃a l,(i.length=0/\a=p/\l=false)\/(0<i.length/\gW s [44] p false a l):=by
   by_cases C:i.length=0
   .exact⟨p,false,.inl ⟨C,rfl,rfl⟩⟩
   .obtain⟨a,l,h⟩:=gW.ex s [44] p false;exact⟨a,l,.inr ⟨by omega,h⟩⟩
  obtain⟨a,l,j⟩:=j
  have S:p<=a/\a<=s.length:=by
   rcases j with⟨_,rfl,_⟩|⟨_,e⟩
   .exact⟨aQ _,w⟩
   .have:=e.le w;exact⟨this.1,this.2.1⟩
  obtain⟨q,z⟩:=mM.ex s _ a rfl S.2;obtain⟨I,x,N⟩:=gW.ex s [58] q l;have y:=N.le z.2.1;obtain⟨k,E,v,T⟩:=D I x y.2.1;have A:=hP _ _ _ _ _ T y.2.1;have M:=z.1;by_cases g:x=false
  .have F:=(y.2.2 g).2;simp at F;by_cases n:v=false
   .obtain⟨m,u,f,t,o,Y⟩:=L (s.length-E) (by have:=A.2.2 n;omega) (r++[(s.take q).drop a]) (i++[k]) E v rfl A.2.2 (fun _=>by simp;omega);exact⟨_,_,_,_,_,.step m r i p a l q I x k E v u f t o (fun e=>O (.inr e)) w om om j z N T Y⟩
   .have n:v=true:=by cases v<;>simp_all
    exact⟨_,_,_,_,_,.step 0 r i p a l q I x k E v _ _ _ _ (fun e=>O (.inr e)) w om om j z N T (.stop _ _ _ _ (.inl n))⟩
  .have g:x=true:=by cases x<;>simp_all
   subst g;have n:=R _ _ _ _ T;exact⟨_,_,_,_,_,.step 0 r i p a l q I true k E v _ _ _ _ (fun e=>O (.inr e)) w om om j z N T (.stop _ _ _ _ (.inl n))⟩
theorem DP.bad{k:Nd}{p':Nat}{e:Bool}(h:DP s n p true k p' e):e=true:=by
 cases n with
 |zero=>exact h.2.2
 |succ n=>rcases h with h|⟨h,_⟩;exact h.2.2.2;cases h
theorem DP.ex(s:ab):∀n p b,p<=s.length->∃k t e,DP s n p b k t e:=by
 intro n
 induction n with
 |zero=>intro p b _;exact⟨_,_,_,rfl,rfl,rfl⟩
 |succ n l=>
  intro p b i;cases b with
  |true=>exact⟨_,_,_,.inl ⟨rfl,rfl,rfl,rfl⟩⟩
  |false=>
   by_cases f:bE s p=110
   .obtain⟨t,e,h⟩:=gW.ex s [110,117,109] p false;exact⟨_,_,_,.inr ⟨rfl,.inl ⟨f,h,rfl⟩⟩⟩
   by_cases w:bE s p=116
   .obtain⟨t,e,h⟩:=gW.ex s [116,101,120,116] p false;exact⟨_,_,_,.inr ⟨rfl,.inr (.inl ⟨w,h,rfl⟩)⟩⟩
   by_cases y:bE s p=102
   .obtain⟨t,e,h⟩:=gW.ex s [102,108,97,103] p false;exact⟨_,_,_,.inr ⟨rfl,.inr (.inr (.inl ⟨y,h,rfl⟩))⟩⟩
   by_cases v:bE s p=63
   .obtain⟨a,o,h⟩:=gW.ex s [63] p false;obtain⟨k,t,e,r⟩:=l a o (h.le i).2.1;exact⟨_,_,_,.inr ⟨rfl,.inr (.inr (.inr (.inl ⟨v,a,o,k,h,r,rfl⟩)))⟩⟩
   by_cases r:bE s p=91
   .obtain⟨a,o,h⟩:=gW.ex s [91] p false;obtain⟨k,d,g,u⟩:=l a o (h.le i).2.1;obtain⟨t,e,j⟩:=gW.ex s [93] d g;exact⟨_,_,_,.inr ⟨rfl,.inr (.inr (.inr (.inr (.inl ⟨r,a,o,k,d,g,h,u,j,rfl⟩))))⟩⟩
   .obtain⟨a,o,h⟩:=gW.ex s [123] p false;obtain⟨m,q,x,d,e,u⟩:=GF.ex (P:=DP s n) (c:=n) (fun p b k t e h i=>h.le i) (fun p k t e h=>h.bad) l _ [] [] a o rfl (fun _=>(h.le i).2.1) (fun _=>⟨cr _,rfl⟩);exact⟨_,_,_,.inr ⟨rfl,.inr (.inr (.inr (.inr (.inr ⟨⟨f,w,y,v,r⟩,m,a,o,q,x,d,h,u,rfl,rfl⟩))))⟩⟩
theorem Xn{k k':Nd}(h:cK k=cK k'):k.sort=k'.sort/\k.names=k'.names/\k.kids.map cK=k'.kids.map cK:=by
 rw[mA,mA]at h;simp only[List.cons.injEq,DV.int.injEq,DV.sl.injEq,true_and,and_true]at h;obtain⟨t,o,i⟩:=h;refine⟨t,?_,i⟩;have n:Function.Injective fun s:ab=>[DV.str s]:=fun a b e=>by simpa using e
 exact(List.map_inj_right fun _ _ e=>n e).1 o
theorem ail{l l':List Nd}(h:l.map cK=l'.map cK):l.length=l'.length/\∀i(e:i<l.length)(t:i<l'.length),cK l[i]=cK l'[i]:=by
 have a:l.length=l'.length:=by simpa using congrArg List.length h
 refine⟨a,fun i e t=>?_⟩;have:=congrArg (·[i]?) h;simpa[e,t]using this
theorem Wu{l l':List Nd}(e:l.length=l'.length)(h:∀i(a:i<l.length)(o:i<l'.length),l[i].size=l'[i].size):bU l=bU l':=by
 induction l generalizing l' with
 |nil=>cases l' with|nil=>rfl|cons x r=>simp at e
 |cons x r n=>
  cases l' with
  |nil=>simp at e
  |cons y s=>
   have t:=h 0 si si;have:=n (l':=s) (by simpa using e) (fun i a o=>by have:=h (i+1) (by simp;omega) (by simp;omega);simpa using this);simp at t;simp[bU,t,this]
theorem Fb:∀(k k':Nd),cK k=cK k'->k.size=k'.size/\fR k=fR k'/\∀d,tz d k->tz d k':=by
 refine Nd.ind fun k r=>fun k' h=>?_
 obtain⟨o,n,l⟩:=Xn h;obtain⟨e,u⟩:=ail l;have t:∀i(a:i<k.kids.length)(b:i<k'.kids.length),k.kids[i].size=k'.kids[i].size/\fR k.kids[i]=fR k'.kids[i]/\∀d,tz d k.kids[i]->tz d k'.kids[i]:=fun i a b=>r _ (eu a) _ (u i a b)
 refine⟨?_,?_,fun d s=>?_⟩
 .rw[k.size_eq,k'.size_eq,Wu e fun i a b=>(t i a b).1]
 .rw[vL,vL,o,n,e];have:k.kids.map fR=k'.kids.map fR:=Dd (by simpa using e) fun i a b=>by simpa using(t i (by simpa using a) (by simpa using b)).2.1
  rw[this]
 .have a:=uA s;refine nE.iff.2 ⟨a.1,?_,fun i c=>(t i om c).2.2 _ (po s om)⟩;have:=a.2;unfold kU at this;show kU k';unfold kU;rw[<-o,<-n,<-e];exact this
theorem abt{k k':Nd}(h:cK k=cK k'):aK k=aK k':=by
 have e:∀k:Nd,aK k=.agg (av (cK k)):=fun k=>by rw[mA];rfl
 rw[e,e,h]
theorem DM{k k':Nd}(h:cK k=cK k')(e:jj k):jj k':=by
 obtain⟨t,_,a⟩:=Fb k k' h;exact⟨a _ e.1,by rw[<-t];exact e.2⟩
theorem Zy{f:Nd->ab}:∀i,i<=ns.length->i<=ks.length->i<=(bQ true ns (ks.map f) i).length:=by
 intro i
 induction i with
 |zero=>intro _ _;omega
 |succ i t=>
  intro a o;have:=t om om;by_cases e:0<i
  .rw[jN e om om];simp;omega
  .rw[jO e om om];simp;omega
theorem YN{f:Nd->ab}{q:Nat}(r:n<=ns.length)(l:n<=ks.length)(h:br s (bQ true ns (ks.map f) n) q):∀d i,i+d=n->br s (bQ true ns (ks.map f) i) q:=by
 intro d
 induction d with
 |zero=>intro i a;rw[show i=n by omega];exact h
 |succ d o=>
  intro i a;have e:=o (i+1) om;by_cases t:0<i
  .rw[jN t om om,ga,ga,ga]at e;exact(dm.1 e).1
  .rw[jO t om om,ga,ga]at e;exact(dm.1 e).1
theorem CZ(h:bO s)(hi:i<s.length):Es s[i].toNat:=by
 have:=(h.2 i hi hi).1;unfold Bv rK at this;unfold Es;omega
theorem Ie{nm:ab}(o:bO nm)(h:br s (nm++[58]) p):mM s p (p+nm.length)/\br s nm p/\br s [58] (p+nm.length):=by
 obtain⟨e,t⟩:=dm.1 h;refine⟨⟨by omega,e.1,fun i a b=>?_,?_⟩,e,t⟩
 .have:=fL (i:=i-p) e om;rw[show p+(i-p)=i by omega]at this;rw[this];exact CZ o _
 .have:=fL (i:=0) t si;rw[iU]at this;rw[this];unfold Es;decide
theorem YM(s:ab):∀(k:Nd)(d:Int)(n p:Nat),tz d k->d=7-n->br s (fR k) p->∃G,cK G=cK k/\DP s n p false G (p+(fR k).length) false:=by
 refine Nd.ind fun k R=>fun d n p H hn l=>?_
 have Q:=uA H;have D:=Q.2;obtain⟨n,rfl⟩:∃m,n=m+1:=⟨n-1,by omega⟩;have e:=vL k;unfold kU at D
 have leaf:k.names.length=0->k.kids.length=0->cK (.mk k.sort 0 [] [] [])=cK k:=fun q x=>by
  rw[mA,mA,mc q,mc x];rfl
 have one:k.names.length=0->∀h:k.kids.length=1,∀u,cK u=cK (k.kids[0]'om)->cK (.mk k.sort 0 [] [] [u])=cK k:=fun q x u O=>by
  have:k.kids=[k.kids[0]'om]:=by
   apply Dd (by simp[x]);intro i a b;have:i=0:=by omega
   subst this;rfl
  rw[mA,mA k,mc q,this];simp[Nd.sort,Nd.names,Nd.kids,O]
 by_cases q:k.sort=1
 .rw[if_pos q]at e;rw[e]at l⊢;refine⟨.mk 1 0 [] [] [],by rw[<-q];exact leaf om om,.inr ⟨rfl,.inl ⟨?_,gW.yes l,rfl⟩⟩⟩;exact fL (i:=0) l si
 rw[if_neg q]at e;by_cases x:k.sort=2
 .rw[if_pos x]at e;rw[e]at l⊢;refine⟨.mk 2 0 [] [] [],by rw[<-x];exact leaf om om,.inr ⟨rfl,.inr (.inl ⟨?_,gW.yes l,rfl⟩)⟩⟩;exact fL (i:=0) l si
 rw[if_neg x]at e;by_cases O:k.sort=3
 .rw[if_pos O]at e;rw[e]at l⊢;refine⟨.mk 3 0 [] [] [],by rw[<-O];exact leaf om om,.inr ⟨rfl,.inr (.inr (.inl ⟨?_,gW.yes l,rfl⟩))⟩⟩;exact fL (i:=0) l si
 rw[if_neg O]at e;by_cases L:k.sort=4
 .have U:k.kids.length=1:=by omega
  rw[if_pos L,headD_map om]at e;rw[e]at l⊢;obtain⟨c,C⟩:=dm.1 l;obtain⟨c,I⟩:=dm.1 c;obtain⟨u,N,z⟩:=R _ (eu (show 0<k.kids.length by omega)) (d+1) n _ (po H om) om I;refine⟨.mk 4 0 [] [] [u],by rw[<-L];exact one om U _ N,.inr ⟨rfl,.inr (.inr (.inr (.inr (.inl ⟨?_,_,_,u,_,_,gW.yes c,z,?_,rfl⟩))))⟩⟩
  .exact fL (i:=0) c si
  .have:=gW.yes (b:=false) C;simp only[bG,aZ,bc]at this⊢;simp only[kJ]at this⊢;exact this
 rw[if_neg L]at e;by_cases M:k.sort=6
 .have U:k.kids.length=1:=by omega
  rw[if_pos M,headD_map om]at e;rw[e]at l⊢;obtain⟨c,I⟩:=dm.1 l;obtain⟨u,N,z⟩:=R _ (eu (show 0<k.kids.length by omega)) (d+1) n _ (po H om) om I;refine⟨.mk 6 0 [] [] [u],by rw[<-M];exact one om U _ N,.inr ⟨rfl,.inr (.inr (.inr (.inl ⟨?_,_,_,u,gW.yes c,?_,rfl⟩)))⟩⟩
  .exact fL (i:=0) c si
  .simp only[bG,aZ,bc]at z⊢;simp only[kJ]at z⊢;exact z
 rw[if_neg M]at e;have X:k.sort=5:=by omega
 have Z:k.names.length=k.kids.length/\wS k.names:=by grind
 obtain⟨hl,E⟩:=Z;rw[e]at l⊢;obtain⟨c,C⟩:=dm.1 l;obtain⟨c,I⟩:=dm.1 c;have K:=YN (n:=k.kids.length) om (aQ _) I
 have F:∀r i,i+r=k.kids.length->∀t:List Nd,t.map cK=(k.kids.take i).map cK->∃o m,o.map cK=k.kids.map cK/\
   GF s (DP s n) m (k.names.take i) t (p+([123]:ab).length+(bQ true k.names (k.kids.map fR) i).length) false k.names o (p+([123]:ab).length+(bQ true k.names (k.kids.map fR) k.kids.length).length) false:=by
  intro r
  induction r with
  |zero=>
   intro i hi t w;rw[show i=k.kids.length by omega]at w⊢;rw[nz (aQ _)]at w;rw[nz om];refine⟨t,0,w,.stop _ _ _ _ (.inr ?_)⟩;have:=fL (i:=0) C si;simp only[bG,iU]at this;rw[kJ];exact this
  |succ r Y=>
   intro i hi t w;have J:t.length=i:=by have:=(ail w).1;simp at this;omega
   have y:=K (k.kids.length-(i+1)) (i+1) om;have v:bO (k.names[i]'om):=(E i om om).1;have ee:=Zy (ns:=k.names) (ks:=k.kids) (f:=fR) i om om;have et:=(K (k.kids.length-i) i om).1
   have T:∃j,((t.length=0/\j=p+([123]:ab).length+(bQ true k.names (k.kids.map fR) i).length/\false=false)\/(0<t.length/\gW s [44] (p+([123]:ab).length+(bQ true k.names (k.kids.map fR) i).length) false j false))/\
     br s (k.names[i]'om++[58]++fR k.kids[i]) j/\p+([123]:ab).length+(bQ true k.names (k.kids.map fR) (i+1)).length=j+(k.names[i]'om++[58]++fR k.kids[i]).length/\bE s (p+([123]:ab).length+(bQ true k.names (k.kids.map fR) i).length)≠125:=by
    by_cases w:0<i
    .rw[jN w om om,ga,ga,ga]at y;obtain⟨P,g⟩:=dm.1 y;obtain⟨g,V⟩:=dm.1 g;refine⟨_,.inr ⟨by omega,gW.yes g⟩,by rw[ga];exact V,by rw[jN w om om];simp;omega,?_⟩;have:=fL (i:=0) g si;rw[iU]at this;rw[this];decide
    .rw[jO w om om,ga,ga]at y;obtain⟨P,g⟩:=dm.1 y;refine⟨_,.inl ⟨by omega,rfl,rfl⟩,by rw[ga];exact g,by rw[jO w om om];simp;omega,?_⟩;have V:=(dm.1 g).1;have:=fL (i:=0) V (by have:=v.1;omega);rw[iU]at this;rw[this];have:=CZ v (i:=0) (by have:=v.1;omega);unfold Es at this;omega
   obtain⟨j,g1,g2,g3,g4⟩:=T;obtain⟨P,g⟩:=dm.1 g2;obtain⟨c1,c2,c3⟩:=Ie v P;obtain⟨u,N,z⟩:=R _ (eu (show i<k.kids.length by omega)) (d+1) n _ (po H om) om g
   obtain⟨o,m,B,A⟩:=Y (i+1) om (t++[u]) (by
    have e1:(k.kids.take (i+1)).map cK=(k.kids.take i).map cK++[cK (k.kids[i]'om)]:=by rw[tQ,dw om,sE];rfl
    rw[e1,sE,w];show _++[cK u]=_;rw[N])
   refine⟨o,m+1,B,?_⟩;rw[g3]at A;have S:=E7 c2
   refine .step m _ _ _ j false (j+(k.names[i]'om).length) (j+(k.names[i]'om).length+([58]:ab).length) false u _ false _ _ _ _ g4 om (by simp;omega) om g1 c1 (gW.yes c3) (by
    have:=z;simp only[bG]at this;simp only[kJ]at this⊢;exact this) (by
    rw[S];have:k.names.take i++[k.names[i]'om]=k.names.take (i+1):=by rw[tQ,dw om];rfl
    rw[this];simp only[bG]at A;simp only[kJ]at A⊢;exact A)
 obtain⟨o,m,B,A⟩:=F k.kids.length 0 om [] rfl;refine⟨.mk 5 0 [] k.names o,?_,.inr ⟨rfl,.inr (.inr (.inr (.inr (.inr ⟨?_,m,_,_,k.names,o,_,gW.yes c,A,?_,rfl⟩))))⟩⟩
 .rw[mA];show[DV.int .i64 5,.sl (aR k.names),.sl (o.map cK)]=cK k;rw[mA k,X,B]
 .have:=fL (i:=0) c si;rw[iU]at this;rw[this];decide
 .simp only[bG,aZ,bc];omega
def re(L:Lk)(f:Nat):Prop:=∀s:ab,(∀k,jj k->fR k=s->CP L f [dS s] (.b6 [aK k,dB true]))/\
 ((¬ ∃k,jj k/\fR k=s)->CP L f [dS s] (.b6 [aK bX,dB false]))
theorem MA(o:aJ L 127 c127)(f:∀s:ab,s.length<=1000000->∀n,n<=7->UG L s n)(w:Cs L 71)(y:E1 L 79):re L 127:=by
 intro s;refine⟨fun k i r=>?_,fun d=>?_⟩
 .have t:=ze k 1 i.1;have v:=i.2;rw[r]at t;have b:br s (fR k) 0:=by rw[r];exact⟨by simp,by simp⟩
  obtain⟨e,l,p⟩:=YM s k 1 6 0 i.1 rfl b;have a:=DM l.symm i;have u:=(Fb e k l).2.1;rw[r]at u p;have h:=f s om 6 om 1 0 false e _ _ rfl p om;rw[<-abt l];refine o.cp ?_
  repeat' ((conv=>whnf);first|exact xc|apply aq|apply aD|apply aH|apply bp|apply aM|refine az h [1] [] ?_|refine ak (w e) ?_|refine ak (y e 1 ⟨a.1,by have:=a.2;omega⟩) ?_|exact fz|exfalso;simp at*;done|intro _)
 .by_cases j:s.length<=800
  .obtain⟨e,q,c,m⟩:=DP.ex s 6 0 false om;have h:=f s om 6 om 1 0 false e _ _ rfl m om;have g:c=true\/c=false:=by cases c<;>simp
   rcases g with rfl|rfl
   .refine o.cp ?_
    repeat' ((conv=>whnf);first|exact xo|apply aq|refine az h [1] [] ?_|exact fz|intro _)
   .refine o.cp ?_
    repeat' ((conv=>whnf);first|exact xo|apply aq|apply aD|apply aH|apply bp|apply aM|refine az h [1] [] ?_|refine ak (w e) ?_|refine ak (y e 1 asm) ?_|exact fz|exact absurd ⟨e,by assumption,by assumption⟩ d|intro _)
  .refine o.cp ?_
   repeat' ((conv=>whnf);first|exact xo|apply aq|exact fz|intro _)
theorem P4{xs:List ab}{i:Int}{K:List DV->Prop}(n:Nat)(e:i=(n:Int))(h:n<xs.length)(k:K [.str xs[n]]):cf (aR xs) i K:=by subst e;exact oG h k
def eK:List ab:=[[110,111,110,101],[101,109,112,116,121],[115,111,109,101],[111,110,101],[97,100,100],[115,117,98],[109,117,108],[100,105,118],[114,101,109],[108,101,115,115],[115,97,109,101],[97,110,100],[111,114],[110,111,116],[105,102],[108,101,116],[103,101,116],[112,117,116],[99,117,116],[102,111,114,109],[97,116],[115,105,122,101],[106,111,105,110],[112,97,114,116],[115,104,111,119],[114,101,97,100],[101,108,115,101],[99,97,115,101],[109,97,112],[107,101,101,112],[102,111,108,100],[100,114,111,112],[102,97,105,108],[101,109,105,116],[115,101,110,100],[98,111,116,104],[99,104,111,111,115,101],[116,97,107,101],[101,97,99,104]]
def fQ(op:Int):ab:=if 5<=op/\op<=43 then eK.getD (op-5).toNat []else[]
theorem An(h:n<eK.length):fQ (5+n)=eK[n]:=by
 have e:eK.length=39:=rfl;rw[fQ,if_pos om,show((5:Int)+n-5).toNat=n by omega,ny,dw h];rfl
theorem Ik{op:Int}(h:¬(5<=op/\op<=43)):fQ op=[]:=by rw[fQ,if_neg h]
theorem VP(a:aJ L 155 agB)(t:pW L 65):∀e:Int,CP L 155 [dI e] (dS (fQ e)):=by
 intro e;refine a.cp ?_
 repeat' ((conv=>whnf);first|rw[wrap64 om]|refine P4 (xs:=eK) (e-5).toNat om (by show _<39;omega) ?_|apply bp|refine bY ?_|refine ak (t _ _ _) ?_|intro _)
 all_goals(conv=>whnf)
 .have:=An (n:=(e-5).toNat) (by show _<39;omega);rw[show(5:Int)+((e-5).toNat:Int)=e by omega]at this;exact cu (dG this.symm)
 .exact cu (dG (Ik asm).symm)
def firstIdx:List ab->ab->Nat
 |[],_=>0
 |x::r,w=>if x=w then 0 else firstIdx r w+1
theorem vA:∀{l:List ab}{w:ab}{i:Nat}(h:i<l.length),l[i]=w->(∀j(h:j<l.length),j<i->l[j]≠w)->firstIdx l w=i
 |x::r,w,0,h,e,t=>by simp at e;simp[firstIdx,e]
 |x::r,w,i+1,h,e,t=>by
  have a:=t 0 si om;simp at a e;have:=vA (l:=r) (i:=i) (by simpa using h) e (fun j n o=>by have:=t (j+1) (by simp;omega) om;simpa using this);simp[firstIdx,a,this]
theorem firstIdx_none:∀{l:List ab}{w:ab},(∀j(h:j<l.length),l[j]≠w)->firstIdx l w=l.length
 |[],w,_=>rfl
 |x::r,w,e=>by
  have t:=e 0 si;simp at t;have:=firstIdx_none (l:=r) (w:=w) fun j a=>by have:=e (j+1) (by simp;omega);simpa using this
  simp[firstIdx,t,this]
def c6(w:ab):Int:=if firstIdx eK w<39 then 5+(firstIdx eK w:Int)else 0
def Ct(L:Lk)(f:Nat):Prop:=∀w:ab,CP L f [dS w] (dI (c6 w))
theorem acN(r:aJ L 273 ahj)(d:∀o:Int,CP L 155 [dI o] (dS (fQ o))):Ct L 273:=by
 intro w;refine r.cp ?_
 repeat' ((conv=>whnf);first|rw[wrap64 om]|apply bK|apply aH|refine ak (d _) ?_|refine n _ om (Pf.get ?_) lx|(fail_if_success (have f:=n));refine LW.count 39 (fun i=> ∀j(h:j<eK.length),j<i->eK[j]≠w) (fun i=>⟨[(3,dI (5+i)),(0,dS w)],0,[],[]⟩) (fun _=>⟨rfl,rfl,rfl⟩) (fun i y a n=>?_) (fun j s l=>by omega) _ lx|intro _)
 all_goals(conv=>whnf)
 .have t:i<eK.length:=by show i<39;omega
  have e:=An t;have u:eK[i]=w:=by rw[<-e];assumption
  exact cu (c8 (by rw[c6,vA t u a,if_pos om]))
 .have t:i<eK.length:=by show i<39;omega
  have e:=An t;refine⟨fun j s l=>?_⟩;by_cases c:j=i
  .subst c;rw[<-e];assumption
  .exact a j s om
 .have m:eK.length=39:=rfl;exact cu (c8 (by rw[c6,firstIdx_none fun j h=>a j h om,m];rfl))
def ng(s:ab):Prop:=bO s/\c6 s=0/\s≠[121,101,115]/\s≠[110,111]/\s≠[101,110,100]
def GA(L:Lk)(f:Nat):Prop:=∀w:ab,CP L f [dS w] (dB (pb (ng w)))
theorem KZ(e:aJ L 330 ahy)(hN:lI L 68)(t:Ct L 273):GA L 330:=by
 intro w;refine e.cp ?_
 repeat' ((conv=>whnf);first|apply aD|apply aH|apply bp|apply aM|refine ak (hN _) ?_|refine ak (t _) ?_|exact kx (by simp only[ng,lk];grind)|intro _)
def eW(op:Int):Int:=if op=4\/op=20\/op=21\/op=22\/op=23\/op=32\/op=33\/op=34\/op=39\/op=42\/op=43 then 1 else if op=35 then 2 else 0
theorem Tb(t:aJ L 275 ahk):∀e:Int,CP L 275 [dI e] (dI (eW e)):=by
 intro e;refine t.cp ?_
 repeat' ((conv=>whnf);first|apply aD|exact cu (c8 (by unfold eW;grind))|intro _)
def binds(op:Int):Prop:=op=4\/op=20\/op=32\/op=33\/op=34\/op=35\/op=42\/op=43
theorem Ta(t:aJ L 277 ahm):∀e:Int,CP L 277 [dI e] (dB (pb (binds e))):=by
 intro e;refine t.cp ?_
 repeat' ((conv=>whnf);first|apply aD|exact kx (by simp only[binds];grind)|intro _)
def eQ(op:Int):ab:=
 if op=7\/op=8\/op=18\/op=21\/op=23\/op=26\/op=29\/op=30\/op=38\/op=39 then[118]else if op=19\/op=28\/op=32\/op=35 then[118,118,118]else
 if op=40 then[97,97]else if op=41 then[118,97,97]else if op=42\/op=43 then[118,97]else if(9<=op/\op<=31)\/op=33\/op=34 then[118,118]else[]
theorem VN(a:aJ L 279 aho)(e:pW L 65):∀t:Int,CP L 279 [dI t] (dS (eQ t)):=by
 intro t;refine a.cp ?_
 repeat' ((conv=>whnf);first|apply aD|apply bp|refine ak (e _ _ _) ?_|exact cu (dG (by unfold eQ;grind))|intro _)
theorem acP(a:aJ L 363 ahC):∀(l:List ab)(w:ab),CP L 363 [.d (.sl (aR l)),dS w] (dB (pb (w∈l))):=by
 intro l w;refine a.cp ?_
 repeat' ((conv=>whnf);first|apply aq|apply aH|rw[bl];intro _|refine bY ?_|refine e _ om (t.snoc fun _=>Pf.get ?_) lz|(fail_if_success (have s:=e));refine LW.count l.length (fun i=>jc i fun j=> ∀h:j<l.length,l[j]≠w) (fun i=>⟨[(5,dI i),(0,.d (.sl (aR l))),(1,dS w)],0,[],[]⟩) (fun _=>⟨rfl,rfl,rfl⟩) (fun i r t e=>?_) (.zero) _ lz|exact D2 (by rw[<-(by assumption:l[i]=w)];exact eu _)|exact⟨by assumption⟩|exact qg fun h=>by obtain⟨j,o,n⟩:=HT h;exact t j om o n|intro _)
set_option maxHeartbeats 40000000
def kX:List ab->Nat
 |[]=>0
 |s::r=>s.length+1+kX r
mutual
def Nd.wt:Nd->Nat
 | .mk _ _ t e a=>1+t.length+kX e+lD a
def lD:List Nd->Nat
 |[]=>0
 |k::r=>k.wt+lD r
end
theorem Nd.uW(t:Nd):t.wt=1+t.text.length+kX t.names+lD t.kids:=by cases t;rfl
theorem F':∀l:List ab,l.length<=kX l
 |[]=>by simp[kX]
 |s::r=>by have:=F' r;simp[kX];omega
theorem L7:∀(l:List ab)(i:Nat)(h:i<l.length),l[i].length+1<=kX l
 |s::r,0,h=>by simp[kX]
 |s::r,i+1,h=>by have:=L7 r i (by simpa using h);simp[kX];omega
theorem L9:∀(l:List Nd)(i:Nat)(h:i<l.length),l[i].wt<=lD l
 |s::r,0,h=>by simp[lD]
 |s::r,i+1,h=>by have:=L9 r i (by simpa using h);simp[lD];omega
theorem Nd.agf(t:Nd):1<=t.wt:=by rw[t.uW];omega
theorem UA:∀l:List Nd,l.length<=lD l
 |[]=>by simp[lD]
 |s::r=>by have:=UA r;have:=s.agf;simp[lD];omega
structure Sm(t:Nd):Prop where
 wt:t.wt<=4000000
theorem Sm.kids{t:Nd}(h:Sm t):t.kids.length<=4000000:=by have:=t.uW;have:=UA t.kids;have:=h.wt;omega
theorem Sm.names{t:Nd}(h:Sm t):t.names.length<=4000000:=by have:=t.uW;have:=F' t.names;have:=h.wt;omega
theorem Sm.name{t:Nd}(h:Sm t)(i:Nat)(hi:i<t.names.length):t.names[i].length<=4000000:=by have:=t.uW;have:=L7 t.names i hi;have:=h.wt;omega
theorem Sm.text{t:Nd}(h:Sm t):t.text.length<=4000000:=by have:=t.uW;have:=h.wt;omega
theorem Sm.K0{t:Nd}(h:Sm t)(hi:i<t.kids.length):Sm t.kids[i]:=⟨by have:=t.uW;have:=L9 t.kids i hi;have:=h.wt;omega⟩
def Lc(n:Nd):Prop:=jc n.names.length fun i=> ∀h:i<n.names.length,bO n.names[i]/\(binds n.sort->ng n.names[i])/\(∀e:0<i,n.names[i]≠n.names[0])
def CW(n:Nd):Prop:=
 (n.sort=1\/n.sort=2\/n.sort=3->mg (.mk n.sort n.num n.text [] []))/\
 (n.sort=5\/n.sort=6->n.num=0/\∃k,jj k/\fR k=n.text)/\
 (n.sort=37->(0<=n.num/\n.num<=99)/\n.text=[])/\
 (n.sort=39->(1<=n.num/\n.num<=12)/\n.text=[])/\
 (¬(n.sort=1\/n.sort=2\/n.sort=3\/n.sort=5\/n.sort=6\/n.sort=37\/n.sort=39)->n.num=0/\n.text=[])
def tX(act:Bool)(n:Nd):Prop:=
 (1<=n.sort/\n.sort<=43)/\(act=true↔36<=n.sort)/\
 (n.sort=24->n.num=0/\n.text=[]/\wS n.names/\n.names.length=n.kids.length/\[101,110,100]∉n.names)/\
 (n.sort≠24->n.kids.length=(eQ n.sort).length/\(n.names.length:Int)=eW n.sort/\Lc n/\CW n)
theorem H8(op:Int):(eQ op).length<=3:=by unfold eQ;grind
theorem S'(f:aJ L 312 aht)(u:pW L 65)(y:zq L 238)(p:∀(l:List ab)(w:ab),CP L 363 [.d (.sl (aR l)),dS w] (dB (pb (w∈l))))(v:∀o:Int,CP L 279 [dI o] (dS (eQ o)))(c:∀o:Int,CP L 275 [dI o] (dI (eW o)))(b:∀o:Int,CP L 277 [dI o] (dB (pb (binds o))))(hN:lI L 68)(g:GA L 330)(q:yi L 311)(a:re L 127):
  ∀(n:Nd)(act:Bool),Sm n->CP L 312 [aT n,dB act] (dB (pb (tX act n))):=by
 intro n act x;have I:=x.kids;have N:=x.names;have z:=H8 n.sort;have S:=ca n.kids;have H:=bl n.names;cases act
 .refine f.cp ?_
  repeat' ((conv=>whnf);first|refine ad (by rw[ca];omega) ?_|refine ad (by rw[bl];omega) ?_|refine aaB ?_|apply aq|apply bK|apply aD|apply aH|apply bp|apply aM|rw[ca];intro _|rw[bl];intro _|refine bY ?_|refine ak (u _ _ _) ?_|refine ak (y _) ?_|refine ak (p _ _) ?_|refine iu (v _) ?_|refine iu (c _) ?_|refine iu (b _) ?_|refine iu (hN _) ?_|refine iu (g _) ?_|refine ak (CP.pu (q (.mk n.sort n.num n.text [] []))) ?_|refine Or.elim (Gr (∃k,jj k/\fR k=n.text)) (fun t=>ak ((a _).1 t.choose t.choose_spec.1 t.choose_spec.2) ?_) (fun t=>ak ((a _).2 t) ?_)|refine e _ om (s.snoc fun _=>Pf.get ?_) lz|exact xo|(fail_if_success (have E:=e));refine LW.count n.names.length (fun i=>jc i fun i=> ∀h:i<n.names.length,bO n.names[i]/\(binds n.sort->ng n.names[i])/\(∀T:0<i,n.names[i]≠n.names[0])) (fun i=>⟨[(5,dI i),(2,.ptr 0 0)],1,[.var 0 [dI n.sort,dI n.num,dS n.text,.d (.sl (aR n.names)),.d (.sl (n.kids.map cT))]],[]⟩) (fun _=>⟨rfl,rfl,rfl⟩) (fun i A s e=>?_) (.zero) _ lz|intro _)
  all_goals(conv=>whnf)
  all_goals try first
   |(have r:=e
     first
     |exact⟨by clear e r;grind⟩
     |exact qg fun h=>by have:=(h.2.2.2 om).2.2.1 i om om;clear e r;grind
     |(have m:Lc n:=fun j O h=>s j om h
       clear e r s;exact kx (by simp only[tX,CW,lk];grind)))
   |exact kx (by simp only[tX];grind)
 .refine f.cp ?_
  repeat' ((conv=>whnf);first|refine ad (by rw[ca];omega) ?_|refine ad (by rw[bl];omega) ?_|refine aaC ?_|apply aq|apply bK|apply aD|apply aH|apply bp|apply aM|rw[ca];intro _|rw[bl];intro _|refine bY ?_|refine ak (u _ _ _) ?_|refine ak (y _) ?_|refine ak (p _ _) ?_|refine iu (v _) ?_|refine iu (c _) ?_|refine iu (b _) ?_|refine iu (hN _) ?_|refine iu (g _) ?_|refine ak (CP.pu (q (.mk n.sort n.num n.text [] []))) ?_|refine Or.elim (Gr (∃k,jj k/\fR k=n.text)) (fun t=>ak ((a _).1 t.choose t.choose_spec.1 t.choose_spec.2) ?_) (fun t=>ak ((a _).2 t) ?_)|refine e _ om (s.snoc fun _=>Pf.get ?_) lz|exact xo|(fail_if_success (have E:=e));refine LW.count n.names.length (fun i=>jc i fun i=> ∀h:i<n.names.length,bO n.names[i]/\(binds n.sort->ng n.names[i])/\(∀T:0<i,n.names[i]≠n.names[0])) (fun i=>⟨[(5,dI i),(2,.ptr 0 0)],1,[.var 0 [dI n.sort,dI n.num,dS n.text,.d (.sl (aR n.names)),.d (.sl (n.kids.map cT))]],[]⟩) (fun _=>⟨rfl,rfl,rfl⟩) (fun i A s e=>?_) (.zero) _ lz|intro _)
  all_goals(conv=>whnf)
  all_goals try first
   |(have r:=e
     first
     |exact⟨by clear e r;grind⟩
     |exact qg fun h=>by have:=(h.2.2.2 om).2.2.1 i om om;clear e r;grind
     |(have m:Lc n:=fun j O h=>s j om h
       clear e r s;exact kx (by simp only[tX,CW,lk];grind)))
   |exact kx (by simp only[tX];grind)
set_option maxHeartbeats 4000000
theorem Xp{e:Nat}{p:Prop}{K:AV->Prop}(h:CP L f args (dI (qJ e p n)))(a:p/\n<=e->K (dI n))(o:¬(p/\n<=e)->K (dI (-1))):dk L f args K:=by
 by_cases t:p/\n<=e
 .rw[yU t]at h;exact iu h (a t)
 .rw[rr t]at h;exact iu h (o t)
def Dz(n:Nd)(i:Nat):Bool:=if n.sort=24 then false else match (eQ n.sort)[i]? with|some c=>jf c.toNat 97|none=>false
theorem ajl{n:Nd}(h:n.sort=24):false=Dz n i:=by rw[Dz,if_pos h]
theorem adv{n:Nd}(h:n.sort≠24)(hi:i<(eQ n.sort).length):jf ((eQ n.sort)[i].toNat:Int) 97=Dz n i:=by
 rw[Dz,if_neg h,dw hi]
def uB(a:Bool)(d:Int)(n:Nd):Prop:=nE tX Dz 24 a d n
theorem TH{a:Bool}{t:Nd}(h:uB a d t/\t.size<=m)(hi:i<t.kids.length):uB (Dz t i) (d+1) t.kids[i]/\1+bU (t.kids.take i)+t.kids[i].size<=m:=⟨(nE.K0 h hi).1,(nE.K0 h hi).2.1⟩
theorem yP{a:Bool}{t:Nd}(h:uB a d t):d<=24/\tX a t:=⟨(nE.iff.1 h).1,(nE.iff.1 h).2.1⟩
theorem wM{a:Bool}{t:Nd}(h:uB a d t)(hi:i<t.kids.length):uB (Dz t i) (d+1) t.kids[i]:=(TH ⟨h,aQ _⟩ hi).1
theorem aak{a:Bool}{t:Nd}(e:d<=24)(o:tX a t)(hi:t.kids.length<=i)(n:jc i fun j=> ∀h:j<t.kids.length,uB (Dz t j) (d+1) t.kids[j]):uB a d t/\t.size=1+bU (t.kids.take i):=nE.done e o hi n
def Rv(L:Lk):Prop:=∀(n:Nd)(a:Bool)(d:Int),Sm n->0<=d/\d<=25->CP L 239 [aT n,dB a,dI d] (dI (qJ 200 (uB a d n) n.size))
theorem Tc(p:aJ L 239 agZ)(v:∀(n:Nd)(act:Bool),Sm n->CP L 312 [aT n,dB act] (dB (pb (tX act n))))(b:∀u:Int,CP L 279 [dI u] (dS (eQ u))):Rv L:=by
 refine Nd.ind fun t l=>?_
 intro a d c m
 have f:∀i(h:i<t.kids.length)(x:Bool),x=Dz t i->0<=d+1/\d+1<=25->CP L 239 [aT t.kids[i],dB x,dI (d+1)] (dI (qJ 200 (uB (Dz t i) (d+1) t.kids[i]) t.kids[i].size)):=
  fun i h x e m=>by rw[e];exact l _ (eu h) _ _ (c.K0 h) m
 have s:tX a t->t.sort≠24->t.kids.length=(eQ t.sort).length:=fun h g=>(h.2.2.2 g).1
 refine p.cp ?_
 repeat' ((conv=>whnf);first|rw[wrap64 om]|refine acu (by have:=s asm asm;omega) ?_|apply aq|apply aD|apply bp|apply aM|rw[ca];intro _|refine bY ?_|refine ak (v _ _ c) ?_|refine ak (b _) ?_|refine Xp (f i om _ (ajl asm) om) (fun o=>?_) (fun o=>?_)|refine Xp (f i om _ (adv asm (by have:=s asm asm;omega)) om) (fun o=>?_) (fun o=>?_)|refine w _ om (Pf.get ?_) (by refine⟨?_,?_,?_⟩<;>repeat' first|(refine c8 ?_;(try rw[wrap64 om]);rw[gj om];omega)|exact sz|exact dV om|apply And.intro)|(fail_if_success (have k:=w));refine LW.count t.kids.length (fun i=>(jc i fun j=> ∀h:j<t.kids.length,uB (Dz t j) (d+1) t.kids[j])/\1+bU (t.kids.take i)<=200) (fun i=>⟨[(9,dI i),(2,dI d),(7,dS (eQ t.sort)),(8,dI ((1+bU (t.kids.take i):Nat):Int)),(3,.ptr 0 0)],1,[.var 0 [dI t.sort,dI t.num,dS t.text,.d (.sl (aR t.names)),.d (.sl (t.kids.map cT))]],[]⟩) (fun _=>⟨rfl,rfl,rfl⟩) (fun i q y w=>?_) (Pf.get ?_) _ lz|intro _)
 all_goals(conv=>whnf)
 all_goals try first
  |exact cu (congrArg _ (rr (fun h=>by have r:=TH (i:=i) h om;first|exact o ⟨r.1,by omega⟩|(have:=o.2;omega))).symm)
  |exact cu (congrArg _ (rr (fun h=>by have r:=yP h.1;first|omega|exact absurd r.2 asm)).symm)
  |exact⟨⟨.zero,by simp[bU]⟩⟩
  |exact⟨⟨y.1.snoc fun _=>o.1,by rw[gj om];omega⟩⟩
  |(have r:=aak (a:=a) (i:=i) (d:=d) (t:=t) om asm om y.1
    exact cu (congrArg _ (by rw[yU ⟨r.1,by omega⟩];omega)))
def qF(b:ab)(l:List ab):Nat->ab
 |0=>b
 |i+1=>qF b l i++[32]++l.getD i []
theorem WL{b:ab}{l:List ab}(h:i<l.length):qF b l (i+1)=qF b l i++[32]++l[i]:=by simp[qF,h]
theorem WK{b:ab}{l:List Nd}{f:Nd->ab}(h:i<l.length):qF b (l.map f) (i+1)=qF b (l.map f) i++[32]++f l[i]:=by simp[qF,h]
def uO(ns e:List ab):Nat->ab
 |0=>[102,111,114,109]
 |i+1=>uO ns e i++[32]++ns.getD i []++[32]++e.getD i []
theorem Kj{l:List Nd}{f:Nd->ab}(h:i<l.length)(e:i<ns.length):uO ns (l.map f) (i+1)=uO ns (l.map f) i++[32]++ns[i]++[32]++f l[i]:=by simp[uO,h,e]
def AQ(s n:Int)(t b:ab):ab:=
 let c:=if t≠[]then b++[32]++t else b
 if s=37\/s=39 then c++[32]++dec n else c
mutual
def rH:Nd->ab
 | .mk s n t ns e=>if s=1\/s=2\/s=3 then cM (.mk s n t [] [])else if s=4 then ns.headD []else if s=24 then uO ns (Us e) e.length++[32,101,110,100]else
  qF (AQ s n t (qF (fQ s) ns ns.length)) (Us e) e.length
def Us:List Nd->List ab
 |[]=>[]
 |k::r=>rH k::Us r
end
theorem Ut:∀l,Us l=l.map rH
 |[]=>rfl
 |k::r=>by rw[Us,Ut r];rfl
theorem Ju(t:Nd):rH t=if t.sort=1\/t.sort=2\/t.sort=3 then cM (.mk t.sort t.num t.text [] [])else if t.sort=4 then t.names.headD []else if t.sort=24 then uO t.names (t.kids.map rH) t.kids.length++[32,101,110,100]else
  qF (AQ t.sort t.num t.text (qF (fQ t.sort) t.names t.names.length)) (t.kids.map rH) t.kids.length:=by
 cases t;rw[rH,Ut];rfl
theorem LN{b:ab}:∀(l:List ab)(i:Nat),i<=l.length->(qF b l i).length+kX (l.drop i)<=b.length+kX l
 |l,0,_=>by simp[qF]
 |l,i+1,h=>by
  have e:=LN (b:=b) l i om;rw[WL om];have t:l.drop i=l[i]::l.drop (i+1):=by rw[ye om]
  rw[t,kX]at e;simp only[bG,aZ,bc];omega
theorem Ij(s:Int):(fQ s).length<=6:=by
 unfold fQ;split
 .have e:∀n:Nat,(eK.getD n []).length<=6:=fun n=>by
   by_cases h:n<39
   .have:∀m:Fin 39,(eK.getD m.1 []).length<=6:=by decide
    exact this ⟨n,h⟩
   .rw[ny,qY (by show 39<=n;omega)];simp
  exact e _
 .simp
theorem HI{l:List Nd}(h:i<l.length):lD (l.take (i+1))=lD (l.take i)+l[i].wt:=by
 have e:∀(l:List Nd)(k:Nd),lD (l++[k])=lD l+k.wt:=by
  intro l
  induction l with
  |nil=>intro k;simp[lD]
  |cons x r t=>intro k;simp[lD,t k];omega
 rw[tQ,dw h];exact e _ _
theorem Q8:∀(l:List Nd)(i:Nat),lD (l.take i)<=lD l
 |[],i=>by simp[lD]
 |x::r,0=>by simp[lD]
 |x::r,i+1=>by simp[lD];exact Q8 r i
theorem OE{b:ab}{f:Nd->ab}(e:∀i(h:i<ks.length),(f ks[i]).length+10<=60*ks[i].wt):∀i,i<=ks.length->(qF b (ks.map f) i).length<=b.length+60*lD (ks.take i):=by
 intro i
 induction i with
 |zero=>intro _;simp[qF,lD]
 |succ i t=>
  intro h;have a:=t om;have o:=e i om;rw[HI om,WK om];simp only[bG,aZ,bc];omega
theorem Ki{f:Nd->ab}(n:ns.length=ks.length)(e:∀i(h:i<ks.length),(f ks[i]).length+10<=60*ks[i].wt):∀i,i<=ks.length->(uO ns (ks.map f) i).length+kX (ns.drop i)<=4+kX ns+60*lD (ks.take i):=by
 intro i
 induction i with
 |zero=>intro _;simp[uO,lD]
 |succ i t=>
  intro h;have a:=t om;have s:=e i om;rw[HI om,Kj om om];have o:ns.drop i=ns[i]::ns.drop (i+1):=by rw[ye om]
  rw[o,kX]at a;simp only[bG,aZ,bc];omega
structure ShN(t:Nd):Prop where
 lit:t.sort=1\/t.sort=2\/t.sort=3->pw 1 (.mk t.sort t.num t.text [] [])
 one:t.sort=4->t.names.length=1
 form:t.sort=24->t.names.length=t.kids.length
 num:t.sort=37\/t.sort=39->eB .i64 t.num
theorem Wr{a:Bool}{t:Nd}(h:uB a d t):ShN t:=by
 obtain⟨r,l,n,o⟩:=(yP h).2;refine⟨fun h=>?_,fun h=>?_,fun h=>(n h).2.2.2.1,fun h=>?_⟩
 .have:=(o om).2.2.2.1 h;exact nE.iff.2 ⟨by omega,this,fun i s=>by simp[Nd.kids]at s⟩
 .have:=(o om).2.1;rw[h]at this;have e:eW 4=1:=by decide
  rw[e]at this;omega
 .have:=(o om).2.2.2;unfold CW at this;unfold eB;simp only;rcases h with h|h
  .have:=(this.2.2.1 h).1;omega
  .have:=(this.2.2.2.1 h).1;omega
theorem NZ{s n:Int}{t b:ab}(h:s=37\/s=39->eB .i64 n):(AQ s n t b).length<=b.length+t.length+22:=by
 unfold AQ;by_cases e:s=37\/s=39
 .have:=qt (h e);by_cases a:t=[]<;>simp[e,a]<;>omega
 .by_cases a:t=[]<;>simp[e,a]<;>omega
theorem Eb{l:List ab}(h:0<l.length):l.headD []=l[0]:=by
 cases l with
 |nil=>simp at h
 |cons x r=>rfl
theorem adB{s n:Int}{t:ab}(h:pw 1 (.mk s n t [] []))(a:s=1\/s=2\/s=3):(cM (.mk s n t [] [])).length<=t.length+22:=by
 have o:=shT h;have i:cM (.mk s n t [] [])=if s=1 then dec n else if s=2 then[34]++t++[34]else if s=3 then(if n=1 then[121,101,115]else[110,111])else _:=qL (.mk s n t [] []);rw[i];rcases a with a|a|a
 .have:=qt (o.num a);rw[if_pos a];have e:(Nd.mk s n t [] []).num=n:=rfl;rw[e]at this;omega
 .rw[if_neg om,if_pos a];simp
 .rw[if_neg om,if_neg om,if_pos a];split<;>simp
theorem Ur:∀(t:Nd)(a:Bool)(d:Int),uB a d t->(rH t).length+10<=60*t.wt:=by
 refine Nd.ind fun t c=>fun a d h=>?_
 have r:∀i(h:i<t.kids.length),(rH t.kids[i]).length+10<=60*t.kids[i].wt:=fun i l=>c _ (eu l) _ _ (wM h l)
 have o:=Wr h;have f:=t.uW;rw[Ju]
 repeat' split
 .rename_i e;have u:=adB (o.lit e) e;omega
 .rename_i e;have:=o.one e;have m:=L7 t.names 0 om;rw[Eb om];omega
 .rename_i e;have:=Ki (o.form e) r t.kids.length (aQ _);rw[nz (aQ _)]at this;simp;omega
 .have u:=OE (b:=AQ t.sort t.num t.text (qF (fQ t.sort) t.names t.names.length)) r t.kids.length (aQ _);have m:=NZ (s:=t.sort) (n:=t.num) (t:=t.text) (b:=qF (fQ t.sort) t.names t.names.length) o.num;have w:=LN (b:=fQ t.sort) t.names t.names.length (aQ _);have y:=Ij t.sort;rw[nz (aQ _)]at u;omega
def Bn(L:Lk)(f:Nat):Prop:=∀(t:Nd)(a:Bool)(d:Int),uB a d t->Sm t->CP L f [aT t] (dS (rH t))
theorem VO(E:aJ L 80 c80)(S:E0 L)(H:uf L 154)(R:∀T:Int,CP L 155 [dI T] (dS (fQ T))):Bn L 80:=by
 refine Nd.ind fun t v=>?_
 intro a d g p;have k:∀i(h:i<t.kids.length),(rH t.kids[i]).length+10<=60*t.kids[i].wt:=fun i o=>Ur _ _ _ (wM g o)
 have u:=Wr g;have Y:=t.uW;have D:=p.wt;have A:∀i(h:i<t.kids.length),CP L 80 [aT t.kids[i]] (dS (rH t.kids[i])):=fun i o=>v _ (eu o) _ _ (wM g o) (p.K0 o)
 have f:∀i(h:i<t.kids.length),(rH t.kids[i]).length<=240000000:=fun i o=>by have:=k i o;have:=L9 t.kids i o;omega
 have w:∀i(h:i<t.names.length),t.names[i].length<=4000000:=fun i o=>p.name i o
 have U:=p.text
 have r:∀i,i<=t.names.length->(qF (fQ t.sort) t.names i).length<=4000006:=fun i o=>by
  have P:=LN (b:=fQ t.sort) t.names i o;have V:=Ij t.sort;omega
 have C:=NZ (s:=t.sort) (n:=t.num) (t:=t.text) (b:=qF (fQ t.sort) t.names t.names.length) u.num;have O:=r t.names.length (aQ _)
 have q:∀i,i<=t.kids.length->(qF (AQ t.sort t.num t.text (qF (fQ t.sort) t.names t.names.length)) (t.kids.map rH) i).length<=300000000:=fun i o=>by
  have M:=OE (b:=AQ t.sort t.num t.text (qF (fQ t.sort) t.names t.names.length)) k i o;have:=Q8 t.kids i;omega
 have l:t.sort=24->∀i,i<=t.kids.length->(uO t.names (t.kids.map rH) i).length<=300000000:=fun h i o=>by
  have:=Ki (u.form h) k i o;have:=Q8 t.kids i;omega
 have e:=Ju t;by_cases c:t.sort=24
 .have x:=u.form c;have l:=l c;refine E.cp ?_
  repeat' ((conv=>whnf);first|exact xo|refine ad (by have:=l i om;have:=w i om;have:=f i om;(try simp only[bG,aZ,bc]);omega) ?_|refine ad (by have:=l i om;(try simp only[aZ,bc]);omega) ?_|apply aq|apply aD|rw[ca];intro _|refine bY ?_|refine iu (A i om) ?_|refine y _ om (trivial) (by refine⟨?_,?_,?_⟩<;>repeat' first|exact dG (Kj om om).symm|exact sz|exact dV om|apply And.intro)|(fail_if_success (have I:=y));refine LW.count t.kids.length (fun i=>True) (fun i=>⟨[(4,dI i),(3,dS (uO t.names (t.kids.map rH) i)),(1,.ptr 0 0)],1,[.var 0 [dI t.sort,dI t.num,dS t.text,.d (.sl (aR t.names)),.d (.sl (t.kids.map cT))]],[]⟩) (fun _=>⟨rfl,rfl,rfl⟩) (fun i o F y=>?_) (trivial) _ lz|intro _)
  all_goals(conv=>whnf)
  all_goals try first
   |(have m:i=t.kids.length:=by omega
     exact cu (dG (by rw[e,m,if_neg om,if_neg om,if_pos c])))
 .refine E.cp ?_
  repeat' ((conv=>whnf);first|exact xc|refine XT (by have:=u.one asm;omega) ?_|refine ad (by have:=q j om;have:=f j om;(try simp only[bG,aZ,bc]);omega) ?_|refine ad (by have:=r i om;have:=w i om;(try simp only[bG,aZ,bc]);omega) ?_|refine ad (by have:=r i om;have:=qt (u.num om);(try simp only[bG,aZ,bc]);omega) ?_|refine ad (by have:=r i om;(try simp only[bG,aZ,bc]);omega) ?_|refine N _ om trivial (by refine⟨?_,?_,?_⟩<;>repeat' first|exact dG (WK om).symm|exact sz|exact dV om|apply And.intro)|apply aq|apply aD|apply aH|apply aM|rw[ca];intro _|rw[bl];intro _|refine bY ?_|refine ak (A j om) ?_|refine ak (R _) ?_|refine ak (S _ (u.num om)) ?_|refine ak (CP.pu (H (.mk t.sort t.num t.text [] []) 1 ⟨u.lit om,(by show 0+1<=120;omega)⟩)) ?_|refine y _ om (trivial) (by refine⟨?_,?_,?_⟩<;>repeat' first|exact dG (WL om).symm|exact sz|exact dV om|apply And.intro)|(fail_if_success (have I:=y));refine LW.count t.names.length (fun i=>True) (fun i=>⟨[(6,dI i),(5,dS (qF (fQ t.sort) t.names i)),(1,.ptr 0 0)],1,[.var 0 [dI t.sort,dI t.num,dS t.text,.d (.sl (aR t.names)),.d (.sl (t.kids.map cT))]],[]⟩) (fun _=>⟨rfl,rfl,rfl⟩) (fun i o F y=>?_) (trivial) _ lz|(fail_if_success (have I:=N));(have m:i=t.names.length:=by omega);refine LW.count t.kids.length (fun _=>True) (fun j=>⟨[(7,dI j),(5,dS (qF (AQ t.sort t.num t.text (qF (fQ t.sort) t.names t.names.length)) (t.kids.map rH) j)),(1,.ptr 0 0)],1,[.var 0 [dI t.sort,dI t.num,dS t.text,.d (.sl (aR t.names)),.d (.sl (t.kids.map cT))]],[]⟩) (fun _=>⟨rfl,rfl,rfl⟩) (fun j B G N=>?_) trivial _ (by refine⟨?_,?_,?_⟩<;>repeat' first|exact dG (by rw[m];simp[AQ,qF, *])|exact sz|exact dV om|apply And.intro)|intro _)
  all_goals(conv=>whnf)
  all_goals try first
   |(have z:j=t.kids.length:=by omega
     exact cu (dG (by rw[e,z,if_neg om,if_neg om,if_neg om])))
   |exact cu (dG (by rw[e,if_pos om]))
   |exact cu (dG (by
     have M:=u.one asm;rw[e,if_neg om,if_pos asm,Eb om]))
def tW(a:Bool)(n:Nd):Prop:=(uB a 1 n/\n.size<=200)/\(rH n).length<=3000
def MR(L:Lk)(f:Nat):Prop:=∀n:Nd,Sm n->CP L f [aT n] (dB (pb (tW true n)))
theorem acM(o:aJ L 152 c152)(hN:Rv L)(i:Bn L 80):∀(n:Nd)(a:Bool),Sm n->CP L 152 [aT n,dB a] (dB (pb (tW a n))):=by
 intro n a t;have s:=n.size_pos;refine o.cp ?_
 repeat' ((conv=>whnf);first|apply aq|refine Ff (hN n a 1 t om) (fun e=>?_) (fun e=>?_)|refine ak (i n a 1 e.1 t) ?_|exact kx (by simp only[tW,lk];exact⟨fun h=>⟨e,by omega⟩,fun h=>by have:=h.2;omega⟩)|exact qg fun h=>e h.1|exact xo|intro _)
theorem SX(e:aJ L 73 c73)(t:∀(n:Nd)(a:Bool),Sm n->CP L 152 [aT n,dB a] (dB (pb (tW a n)))):MR L 73:=by
 intro n o;refine e.cp ?_
 repeat' ((conv=>whnf);first|refine ak (t n true o) ?_|exact cu rfl|fail)
def Yu(n:Nd):Nd:=.mk 38 0 [] [] [n]
theorem Sm.val{n:Nd}(h:n.wt<=3000000):Sm (Yu n):=⟨by have:=(Yu n).uW;show(Yu n).wt<=_;rw[this];simp only[Yu,Nd.text,Nd.names,Nd.kids,kX,lD];simp;omega⟩

def DD(e:Ev):ab:=e.xq++[64]++dec e.pC++cM e.body
theorem ir.len{e:Ev}(h:ir e):e.xq.length<=8/\eB .i64 e.pC/\(cM e.body).length<=8640:=by
 obtain⟨a,o,_,t⟩:=h;have:=uE _ _ t.1;have:=t.2;exact⟨a.1.2,by unfold eB;simp only;omega,by omega⟩
theorem Up{e:Ev}(h:ir e):(DD e).length<=8670:=by
 have t:=h.len;have:=qt t.2.1;simp[DD];omega
def tV(L:Lk)(f:Nat):Prop:=∀e:Ev,ir e->CP L f [.agg (av (eD e))] (dS (DD e))
theorem I1(o:aJ L 82 c82)(i:vZ L 69)(n:E0 L)(s:uf L 154):tV L 82:=by
 intro e a;have t:=a.len;have h:=qt t.2.1;have r:=t.1;have d:=t.2.2;refine o.cp ?_
 repeat' ((conv=>whnf);first|apply bp|refine ak (i e) ?_|refine iu (n _ t.2.1) ?_|refine iu (s e.body 1 a.2.2.2) ?_|refine ad (by(try simp only[bG,aZ,bc]);omega) ?_|exact cu rfl|exact xc|intro _)
def oY:List ab:=[[],[97,112,112,101,110,100],[115,121,110,99],[114,111,108,108],[109,101,110,100],[114,101,119,114,105,116,101],[118,101,114,115,105,111,110],[102,111,108,100],[115,110,97,112]]
theorem Th(e:aJ L 81 c81):CP L 81 [] (.d (.sl (aR oY))):=by
 refine e.cp ?_
 repeat' ((conv=>whnf);first|apply aq|apply bK|apply aD|apply aH|apply bp|apply aM|apply eA|apply ew|apply gQ|apply bS|rw[ca];intro _|rw[dC];intro _|rw[bl];intro _|refine bY ?_|exact fz|intro _)
theorem adz(l:List Te):(l.map gH).length=l.length:=by simp
def yR:List ab:=[[75],[75],[86],[86],[86,86],[86,86],[86,86],[86,86],[86,86],[86,86],[86,86],[86,86],[86,86],[86],[86,86,86],[88,86,86],[78,86],[78,86,86],[78,86],[70],[86,86],[86],[86,86],[86,86,86],[86],[86],[86,86],[88,86,86,86],[88,86,86],[88,86,86],[88,88,86,86,86],[],[35],[86],[78,35,86],[65,65],[86,65,65],[88,86,65],[88,86,65]]
def opRows:List (ab×ab):=eK.zip yR
def It(r:ab×ab):List DV:=[.str r.1,.str r.2]
def ED:List DV:=opRows.flatMap It
def iz(op:Int):ab:=if 5<=op/\op<=43 then yR.getD (op-5).toNat []else[]
theorem aan(h:n<39):opRows[n]'(by show n<39;exact h)=(fQ (5+n),iz (5+n)):=by
 have e:=An (n:=n) (by show n<39;exact h)
 have t:iz (5+n)=yR[n]'(by show n<39;exact h):=by
  rw[iz,if_pos om,show((5:Int)+n-5).toNat=n by omega,ny,dw (by show n<39;exact h)];rfl
 rw[e,t];simp[opRows]
theorem adi(i:aJ L 254 ag7)(a:pW L 163)(o:L.gl 1=ED):∀t:Int,CP L 254 [dI t] (.b6 [.agg [dS (fQ t),dS (iz t)],dB (pb (5<=t/\t<=43))]):=by
 intro t;refine i.cp ?_
 repeat' ((conv=>whnf);first|rw[wrap64 om]|rw[o]|rw[show t-5=(((t-5).toNat:Nat):Int) by omega];refine Ad (f:=It) (xs:=opRows) (by show(t-5).toNat<39;omega) ?_|apply bp|refine bY ?_|refine ak (a _ _ _) ?_|intro _)
 all_goals(conv=>whnf)
 .have e:=aan (n:=(t-5).toNat) om;rw[show(5:Int)+((t-5).toNat:Int)=t by omega]at e;rw[e,iA asm];exact fz
 .rw[Ik asm,iz,if_neg asm,ig asm];exact fz
def SS(w:ab):Int:=if firstIdx eK w<39 then(firstIdx eK w:Int)else -1
theorem ac3(e:aJ L 415 ahN):∀(r:ab×ab)(w:ab),CT L 415 [.agg [dS r.1,dS r.2],.ptr 0 0] 1 [.var 0 [dS w]] [] (dB (uh r.1 w)) 1 [.var 0 [dS w]] []:=by
 intro r w;refine e.ct ?_
 repeat' ((conv=>whnf);first|apply aq|apply bK|apply aD|apply aH|apply bp|apply aM|apply eA|apply ew|apply gQ|apply bS|rw[ca];intro _|rw[dC];intro _|rw[bl];intro _|refine bY ?_|exact fz|intro _)
theorem Hj(u:aJ L 414 ahM)(c:∀(r:ab×ab)(w:ab),CT L 415 [.agg [dS r.1,dS r.2],.ptr 0 0] 1 [.var 0 [dS w]] [] (dB (uh r.1 w)) 1 [.var 0 [dS w]] []):
  ∀w:ab,CT L 414 [.d (.sl (opRows.map It)),.fn 415 [.ptr 0 0]] 1 [.var 0 [dS w]] [] (dI (SS w)) 1 [.var 0 [dS w]] []:=by
 intro w;have m:(opRows.map It).length=39:=rfl;have v:opRows.length=39:=rfl;have t:∀i(h:i<opRows.length),opRows[i].1=eK[i]'(by show i<39;omega):=fun i h=>by simp[opRows]
 refine u.ct ?_
 repeat' ((conv=>whnf);first|rw[m];intro _|refine Ad (f:=It) (xs:=opRows) om ?_|apply aq|apply aH|refine bY ?_|refine ck (c (opRows[i]'om) w) [0] [] rfl ⟨rfl,trivial⟩ ?_|refine n _ om (Pf.get ?_) lz|(fail_if_success (have b:=n));refine LW.count 39 (fun i=> ∀j(h:j<eK.length),j<i->eK[j]≠w) (fun i=>⟨[(8,dI i),(7,dI 39),(0,.d (.sl (opRows.map It))),(1,.fn 415 [.ptr 0 0])],1,[.var 0 [dS w]],[]⟩) (fun _=>⟨rfl,rfl,rfl⟩) (fun i g a n=>?_) (fun j s y=>by omega) _ lz|intro _)
 all_goals(conv=>whnf)
 all_goals try first
  |(have o:eK[i]'(by show i<39;omega)=w:=by rw[<-t i om];assumption
    have e:=vA (l:=eK) (by show i<39;omega) o a
    (apply dt<;>(repeat' first|(refine c8 ?_;rw[SS,e,if_pos om])|exact sz|apply And.intro);done))
  |(have o:eK[i]'(by show i<39;omega)≠w:=by rw[<-t i om];assumption
    refine⟨fun j s y=>?_⟩;by_cases p:j=i
    .subst p;exact o
    .exact a j s om)
  |(have e:=firstIdx_none (l:=eK) (w:=w) fun j h=>a j h (by have:eK.length=39:=rfl;omega)
    (apply dt<;>(repeat' first|(refine c8 ?_;rw[SS,e];rfl)|exact sz|apply And.intro);done))
theorem Pn:chunks 2 39 ED=opRows.map It:=rfl
theorem afv(o:aJ L 386 ahI)(e:L.gl 1=ED)(i:∀w:ab,CT L 414 [.d (.sl (opRows.map It)),.fn 415 [.ptr 0 0]] 1 [.var 0 [dS w]] [] (dI (SS w)) 1 [.var 0 [dS w]] []):Ct L 386:=by
 intro w;refine o.cp ?_
 repeat' ((conv=>whnf);first|rw[e]|rw[Pn]|apply aq|refine bY ?_|refine az (i w) [0] [] ?_|intro _)
 all_goals(conv=>whnf)
 all_goals
  by_cases h:firstIdx eK w<39
  .have a:SS w=(firstIdx eK w:Int):=by rw[SS,if_pos h]
   have t:c6 w=5+(firstIdx eK w:Int):=by rw[c6,if_pos h]
   first
    |exact xo
    |exact cu (c8 (by rw[a,t,wrap64 om];omega))
  .have a:SS w=-1:=by rw[SS,if_neg h]
   have t:c6 w=0:=by rw[c6,if_neg h]
   first
    |exact xo
    |exact cu (c8 (by rw[t]))
theorem acI(e:aJ L 365 ahE)(hN:lI L 89)(t:Ct L 386):GA L 365:=by
 intro w;refine e.cp ?_
 repeat' ((conv=>whnf);first|apply aD|apply aH|apply bp|apply aM|refine ak (hN _) ?_|refine ak (t _) ?_|exact kx (by simp only[ng,lk];grind)|intro _)
theorem ac1(a:aJ L 368 ahG)(e:pW L 163):∀t n:Int,CP L 368 [dI t,dI n] (dB (pb (if t=37 then 0<=n/\n<=99 else 1<=n/\n<=12))):=by
 intro t n;refine a.cp ?_
 repeat' ((conv=>whnf);first|apply aD|refine ak (e _ _ _) ?_|exact kx (by simp only[lk];grind)|intro _)
theorem S8(a:aJ L 315 ahw)(t:pW L 163):∀e:Int,CP L 315 [dI e] (dB (pb (36<=e/\e<=43))):=by
 intro e;refine a.cp ?_
 repeat' ((conv=>whnf);first|refine ak (t _ _ _) ?_|exact cu rfl|fail)
theorem Qp(a:aJ L 252 ag5)(t:pW L 163):∀e:Int,CP L 252 [dI e] (dB (pb (1<=e/\e<=3))):=by
 intro e;refine a.cp ?_
 repeat' ((conv=>whnf);first|refine ak (t _ _ _) ?_|exact cu rfl|fail)
theorem VU(e:aJ L 253 ag6):∀t:Nd,1<=t.sort/\t.sort<=3->CP L 253 [aT t] (aT (.mk t.sort t.num t.text [] [])):=by
 intro t h;refine e.cp ?_
 repeat' ((conv=>whnf);first|rw[wrap64 om]|apply aq|apply bK|apply aD|apply aH|apply bp|apply aM|apply eA|apply ew|apply gQ|apply bS|rw[ca];intro _|rw[dC];intro _|rw[bl];intro _|refine bY ?_|(apply dt<;>(repeat' first|(refine c8 ?_;(rw[wrap64 (n:=t.sort-1) om,wrap64 om]);show t.sort-1+1=t.sort;omega)|exact sz|apply And.intro);done)|intro _)
def yI(l:List ab)(w:ab):Int:=if firstIdx l w<l.length then(firstIdx l w:Int)else -1
theorem Qe(n:aJ L 123 agx):∀(l:List ab)(w:ab),CP L 123 [.d (.sl (aR l)),dS w] (dI (yI l w)):=by
 intro l w;refine n.cp ?_
 repeat' ((conv=>whnf);first|apply aq|apply aH|rw[bl];intro _|refine bY ?_|refine a _ om (Pf.get ?_) lz|(fail_if_success (have c:=a));refine LW.count l.length (fun i=> ∀j(h:j<l.length),j<i->l[j]≠w) (fun i=>⟨[(8,dI i),(7,dI l.length),(0,.d (.sl (aR l))),(1,dS w)],0,[],[]⟩) (fun _=>⟨rfl,rfl,rfl⟩) (fun i m t a=>?_) (fun j o s=>by omega) _ lz|intro _)
 all_goals(conv=>whnf)
 all_goals try first
  |(have r:l[i]=w:=Eq.symm asm
    exact cu (c8 (by rw[yI,vA om r t,if_pos om])))
  |(refine⟨fun j o s=>?_⟩
    by_cases u:j=i
    .subst u;exact k8 asm
    .exact t j o om)
  |(have e:=firstIdx_none (l:=l) (w:=w) fun j h=>t j h om
    exact cu (c8 (by rw[yI,e,if_neg om])))
theorem Ty{l:List ab}{w:ab}:w∈l↔0<=yI l w:=by
 by_cases h:w∈l
 .obtain⟨j,o,e⟩:=HT h
  have:firstIdx l w<l.length:=by
   have t:∀(l:List ab),w∈l->firstIdx l w<l.length:=by
    intro l
    induction l with
    |nil=>intro h;cases h
    |cons x r i=>
     intro h;by_cases a:x=w
     .simp[firstIdx,a]
     .have:=i (by cases h with|head=>exact absurd rfl a|tail _ h=>exact h);simp[firstIdx,a];omega
   exact t l h
  simp[yI,this,h]
 .have:firstIdx l w=l.length:=firstIdx_none fun j o e=>h (by rw[<-e];exact eu o)
  simp[yI,this,h]
theorem IY(e:aJ L 366 ahF)(t:∀(l:List ab)(w:ab),CP L 123 [.d (.sl (aR l)),dS w] (dI (yI l w))):∀(l:List ab)(w:ab),CP L 366 [.d (.sl (aR l)),dS w] (dB (pb (w∈l))):=by
 intro l w;refine e.cp ?_
 repeat' ((conv=>whnf);first|refine ak (t _ _) ?_|exact kx (by simp only[lk];exact Ty.symm)|fail)
def xi(pv:AV)(s:ab):Bx:=.var 5 [pv,.aO (s.map gX) (.row 0)]
def YP(pv:AV):Prop:=pv=.d .cq\/pv=.ptr 0 0
def W7(L:Lk):Prop:=∀(pv x:AV)(rl:bm),YP pv->CT L 100 [.ptr 0 0] 1 [.var 5 [pv,x]] rl (.b6 []) 1 [.var 5 [.ptr 0 0,x]] rl
theorem NY(s:ab):(s.map gX).map km=s:=by
 rw[List.map_map];refine(Ri fun b _=>?_).trans (List.map_id s);show UInt8.ofNat ((b.toNat:Int)).toNat=b;simp
def Xb(L:Lk):Prop:=∀(pv:AV)(s t:ab),YP pv->s.length+t.length<=1000000000000->
 CT L 26 [.ptr 0 0,dS t] 1 [xi pv s] [(s.length,1000)] (.b6 [dI t.length,.d .mW]) 1 [xi (.ptr 0 0) (s++t)] [((s++t).length,1000)]
theorem KY(a:aJ L 26 c26)(o:W7 L):Xb L:=by
 intro n s t i h;rcases i with rfl|rfl
 .refine a.ct ?_
  repeat' ((conv=>whnf);first|refine az (o (.d .cq) (.aO (s.map gX) (.row 0)) [(s.length,1000)] (.inl rfl)) [0] [0] ?_|refine ad ⟨by simp only[iT];omega,by intro y e;obtain⟨b,_,rfl⟩:=lH.1 e;rfl⟩ ?_|refine ad ⟨by simp only[iT],rfl⟩ ?_|exact fx|intro _)
 .refine a.ct ?_
  repeat' ((conv=>whnf);first|refine az (o (.ptr 0 0) (.aO (s.map gX) (.row 0)) [(s.length,1000)] (.inr rfl)) [0] [0] ?_|refine ad ⟨by simp only[iT];omega,by intro y e;obtain⟨b,_,rfl⟩:=lH.1 e;rfl⟩ ?_|refine ad ⟨by simp only[iT],rfl⟩ ?_|exact fx|intro _)
def Xa(L:Lk):Prop:=∀(pv:AV)(s:ab)(c:UInt8),YP pv->s.length<=1000000000000->
 CT L 250 [.ptr 0 0,.d (.int .u8 c.toNat)] 1 [xi pv s] [(s.length,1000)] (.d .mW) 1 [xi (.ptr 0 0) (s++[c])] [((s++[c]).length,1000)]
theorem Qm(t:aJ L 250 ag4)(a:W7 L):Xa L:=by
 intro i s c o n;rcases o with rfl|rfl
 .refine t.ct ?_
  repeat' ((conv=>whnf);first|refine az (a (.d .cq) (.aO (s.map gX) (.row 0)) [(s.length,1000)] (.inl rfl)) [0] [0] ?_|refine ad ⟨by simp only[iT,aZ,bc];omega,by intro y e;rw[dP.1 e];rfl⟩ ?_|refine ad ⟨by simp only[iT],rfl⟩ ?_|(apply dt<;>(repeat' first|(show(_:bJ)=_;simp[gX])|exact sx|apply And.intro);done)|fail)
 .refine t.ct ?_
  repeat' ((conv=>whnf);first|refine az (a (.ptr 0 0) (.aO (s.map gX) (.row 0)) [(s.length,1000)] (.inr rfl)) [0] [0] ?_|refine ad ⟨by simp only[iT,aZ,bc];omega,by intro y e;rw[dP.1 e];rfl⟩ ?_|refine ad ⟨by simp only[iT],rfl⟩ ?_|(apply dt<;>(repeat' first|(show(_:bJ)=_;simp[gX])|exact sx|apply And.intro);done)|fail)
def O5(L:Lk):Prop:=∀(pv:AV)(s:ab),YP pv->s.length<=1000000000000->CT L 29 [.ptr 0 0] 1 [xi pv s] [(s.length,1000)] (dS s) 1 [xi pv s] [(s.length,1000)]
theorem Zz(e:aJ L 29 c29):O5 L:=by
 intro i s a n;have t:∀x,x∈s.map gX->∃b:UInt8,x=gX b:=fun x o=>by obtain⟨b,_,rfl⟩:=lH.1 o;exact⟨b,rfl⟩
 rcases a with rfl|rfl
 .refine e.ct ?_
  repeat' ((conv=>whnf);first|refine bY ?_|refine ad ⟨by simp only[iT],by simp only[iT],rfl,t⟩ ?_|refine ad (by simp only[iT];omega) ?_|refine ad (by simp only[iT]) ?_|(apply dt<;>(repeat' first|exact congrArg DV.str (NY s)|exact sz|apply And.intro);done)|fail)
 .refine e.ct ?_
  repeat' ((conv=>whnf);first|refine bY ?_|refine ad ⟨by simp only[iT],by simp only[iT],rfl,t⟩ ?_|refine ad (by simp only[iT];omega) ?_|refine ad (by simp only[iT]) ?_|(apply dt<;>(repeat' first|exact congrArg DV.str (NY s)|exact sz|apply And.intro);done)|fail)
end Go.Ab
