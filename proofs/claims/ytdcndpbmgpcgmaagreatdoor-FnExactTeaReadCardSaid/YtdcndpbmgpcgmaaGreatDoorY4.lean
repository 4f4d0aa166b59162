import Derived.Test.YtdcndpbmgpcgmaaGreatDoorY3
import Derived.Test.YtdcndpbmgpcgmaaGreatDoorY2
import Derived.Test.YtdcndpbmgpcgmaaGreatDoorY0
noncomputable section
namespace Go.Ab
open Go
variable{nb:Nat}{bx:List Bx}{f:Nat}{v:AV}{xs:bJ}{args:List AV}{k es:Nat}
def iL:List Nat->Nat->Nat
 |[],_=>0
 |x::_,0=>x
 |_::r,n+1=>iL r n
def iX{α β:Type}(f:α->β):List α->List β
 |[]=>[]
 |x::r=>f x::iX f r
def kK{α:Type}(p:α->Bool):List α->Bool
 |[]=>true
 |x::r=>match p x with|true=>kK p r|false=>false
def Bc:Nat->Nat->Bool
 |_,0=>false
 |0,_+1=>true
 |a+1,b+1=>Bc a b
def Ir(κ:List Nat):Tag->Tag
 | .nil=> .nil
 | .full=> .full
 | .row k=> .row (iL κ k)
 | .fe k=> .fe (iL κ k)
 | .sub k C=> .sub (iL κ k) C
 | .uu k C o=> .uu (iL κ k) C o
def B5(ι κ:List Nat)(r:AV->AV):AV->AV
 | .d v=> .d v
 | .ptr b j=> .ptr (iL ι b) j
 | .ru b e i j=> .ru (iL ι b) e i j
 | .gA a=> .gA a
 | .aO xs t=> .aO xs (Ir κ t)
 | .rC b n=> .rC (iL ι b) n
 | .oQ xs t=> .oQ xs (Ir κ t)
 | .agg a=> .agg (iX r a)
 | .b6 o=> .b6 (iX r o)
 | .fn f a=> .fn f (iX r a)
 | .oH t v=> .oH t (r v)
 | .uv b=> .uv (iL ι b)
 | .bM=> .bM
 | .kh es p xs ds zs k=> .kh es p xs ds zs (iL κ k)
 | .kn k C q=> .kn (iL κ k) C q
 | .lit a=> .lit a
 | .ni b=> .ni b
def wfT(e:Nat):Tag->Bool
 | .row k=>Bc k e
 | .fe k=>Bc k e
 | .sub k _=>Bc k e
 | .uu k _ _=>Bc k e
 |_=>true
def wfF(ni e:Nat)(p:AV->Bool):AV->Bool
 | .d _=>true
 | .ptr b _=>Bc b ni
 | .ru b _ _ _=>Bc b ni
 | .gA _=>true
 | .aO _ t=>wfT e t
 | .rC b _=>Bc b ni
 | .oQ _ t=>wfT e t
 | .agg a=>kK p a
 | .b6 o=>kK p o
 | .fn _ a=>kK p a
 | .oH _ v=>p v
 | .uv b=>Bc b ni
 | .bM=>true
 | .kh _ _ _ _ _ k=>Bc k e
 | .kn k _ _=>Bc k e
 | .lit _=>false
 | .ni _=>true
def aiw(ι κ:List Nat):AV->AV:=B5 ι κ fun _=> .bM
def ad4(ι κ:List Nat):AV->AV:=B5 ι κ (aiw ι κ)
def Be(ι κ:List Nat):AV->AV:=B5 ι κ (ad4 ι κ)
def wf0(ni e:Nat):AV->Bool:=wfF ni e fun _=>false
def wf1(ni e:Nat):AV->Bool:=wfF ni e (wf0 ni e)
def wf(ni e:Nat):AV->Bool:=wfF ni e (wf1 ni e)
def mq(ι κ:List Nat):Bx->Bx
 | .var t a=> .var t (iX (ad4 ι κ) a)
 | .row e xs=> .row e xs
 | .iter s p=> .iter s p
 | .dead=> .dead
def WU(ni e:Nat):Bx->Bool
 | .var _ t=>kK (wf1 ni e) t
 |_=>true
theorem j8{α β:Type}(f:α->β)(xs:List α):iX f xs=xs.map f:=by
 induction xs with
 |nil=>rfl
 |cons x r e=>simp[iX,e]
theorem mf{α:Type}{p:α->Bool}{xs:List α}(h:kK p xs=true):∀x,x∈xs->p x=true:=by
 induction xs with
 |nil=>intro x e;cases e
 |cons y r t=>
  simp only[kK]at h;split at h
  .rename_i a;intro x e;cases e with
   |head=>exact a
   |tail _ e=>exact t h x e
  .cases h
theorem gP:∀{a b:Nat},Bc a b=true->a<b
 |_,0,h=>by simp[Bc]at h
 |0,_+1,_=>by omega
 |a+1,b+1,h=>by have:=gP (a:=a) (b:=b) h;omega
structure Ren(ι κ:List Nat)(g:Gh)(rl:bm)(g0:Gh)(bZ:bm):Prop where
 bD:g0.bD=g.bD
 bk:∀b,b<ι.length->g.bk[iL ι b]?=g0.bk[b]?
 rl:∀k,k<κ.length->rl[iL κ k]?=bZ[k]?
 rw:∀k,k<κ.length->g.rw[iL κ k]?=g0.rw[k]?
section
variable{L:Lk}{ι κ:List Nat}{g g0:Gh}{rl bZ:bm}{w:World}
theorem Ren.tag(h:Ren ι κ g rl g0 bZ){t:Tag}{v:Value}(a:wfT κ.length t=true):sS g rl w xs (Ir κ t) v↔sS g0 bZ w xs t v:=by
 cases t with
 |nil=>exact Iff.rfl
 |full=>exact Iff.rfl
 |row k=>
  have e:=gP a;simp only[Ir,sS,h.rl k e,h.rw k e]
 |fe k=>
  have e:=gP a;simp only[Ir,sS,h.rl k e,h.rw k e]
 |sub k C=>
  have e:=gP a;simp only[Ir,sS,h.rl k e,h.rw k e]
 |uu k C o=>
  have e:=gP a;simp only[Ir,sS,h.rl k e,h.rw k e,h.bD]
theorem Ren.at(h:Ren ι κ g rl g0 bZ){C aw:Nat}(t:Bc k κ.length=true):uL g rl es C (iL κ k) aw↔uL g0 bZ es C k aw:=by
 have e:=gP t;simp only[uL,h.rl k e,h.rw k e]
theorem Ren.aeC(h:Ren ι κ g rl g0 bZ){r:AV->AV}{p:AV->Bool}(H:∀v c,p v=true->(VR L g rl w (r v) c↔VR L g0 bZ w v c))(v:AV)(c:Value)(s:wfF ι.length κ.length p v=true):
  VR L g rl w (B5 ι κ r v) c↔VR L g0 bZ w v c:=by
 have cZ:∀(cs:List AV)(u:Array Value),kK p cs=true->u.size=cs.length->
   ((∀(j:Nat)(x:AV)(y:Value),(iX r cs)[j]?=some x->u[j]?=some y->VR L g rl w x y)↔(∀(j:Nat)(x:AV)(y:Value),cs[j]?=some x->u[j]?=some y->VR L g0 bZ w x y)):=by
  intro cs u V l;rw[j8];constructor
  .intro D j x y A U;exact(H x y (mf V x (cP.2 ⟨j,A⟩))).1 (D j (r x) y (by simp[A]) U)
  .intro D j x y A U;rw[jU]at A;cases R:cs[j]? with
   |none=>rw[R]at A;cases A
   |some d=>rw[R]at A;cases A;exact(H d y (mf V d (cP.2 ⟨j,R⟩))).2 (D j d y R U)
 have z:=h.bD;cases v with
 |d v=>constructor<;>intro a<;>cases a with|d _ _ q=>exact .d _ _ (by first|rw[z];exact q|rw[<-z];exact q)
 |ptr b j=>
  have E:=h.bk b (gP s);constructor<;>intro a<;>cases a with|ptr _ _ o q=>exact .ptr _ _ o (by first|rw[<-E];exact q|rw[E];exact q)
 |ru b e i j=>
  have E:=h.bk b (gP s);constructor<;>intro a<;>cases a with|ru _ _ _ _ o q=>exact .ru _ _ _ _ o (by first|rw[<-E];exact q|rw[E];exact q)
 |gA cs=>
  constructor<;>intro a<;>cases a with
  |gA _ o J c O T B=>exact .gA _ _ _ _ (by first|rw[z];exact O|rw[<-z];exact O) T (by first|rw[z];exact B|rw[<-z];exact B)
 |aO xs t=>
  constructor<;>intro a<;>cases a with
  |aO _ _ _ O T=>exact .aO _ _ _ (by first|rw[z];exact O|rw[<-z];exact O) (by first|exact(h.tag s).1 T|exact(h.tag s).2 T)
 |oQ xs t=>
  constructor<;>intro a<;>cases a with
  |oQ _ _ _ _ _ O T=>exact .oQ _ _ _ _ _ (by first|rw[z];exact O|rw[<-z];exact O) (by first|exact(h.tag s).1 T|exact(h.tag s).2 T)
 |rC b m=>
  have E:=h.bk b (gP s);constructor<;>intro a<;>cases a with|rC _ _ o q T=>exact .rC _ _ o (by first|rw[<-E];exact q|rw[E];exact q) T
 |agg cs=>
  constructor<;>intro a
  .cases a with|agg _ u l q=>
   rw[j8,iT]at l;exact .agg _ _ l ((cZ cs u s l).1 q)
  .cases a with|agg _ u l q=>exact .agg _ _ (by rw[j8,iT];exact l) ((cZ cs u s l).2 q)
 |b6 cs=>
  constructor<;>intro a
  .cases a with|b6 _ u l q=>
   rw[j8,iT]at l;exact .b6 _ _ l ((cZ cs u s l).1 q)
  .cases a with|b6 _ u l q=>exact .b6 _ _ (by rw[j8,iT];exact l) ((cZ cs u s l).2 q)
 |fn f cs=>
  constructor<;>intro a
  .cases a with|fn _ _ u l q=>
   rw[j8,iT]at l;exact .fn _ _ _ l ((cZ cs u s l).1 q)
  .cases a with|fn _ _ u l q=>exact .fn _ _ _ (by rw[j8,iT];exact l) ((cZ cs u s l).2 q)
 |oH t v=>
  constructor<;>intro a
  .cases a with|oH _ _ y q=>exact .oH _ _ _ ((H v y s).1 q)
  .cases a with|oH _ _ y q=>exact .oH _ _ _ ((H v y s).2 q)
 |uv b=>
  have E:=h.bk b (gP s);constructor<;>intro a<;>cases a with|uv _ o q=>exact .uv _ o (by first|rw[<-E];exact q|rw[E];exact q)
 |bM=>exact⟨fun _=> .bM _,fun _=> .bM _⟩
 |kh es p xs ds zs k=>
  constructor<;>intro a<;>cases a with
  |kh _ _ _ _ _ _ o M c t I F Q X Z h6 G K h9 N Y P S=>
   exact .kh _ _ _ _ _ _ o M c t I F Q X Z h6 (by first|rw[z];exact G|rw[<-z];exact G) (by first|rw[z];exact K|rw[<-z];exact K) h9 (by first|rw[z];exact N|rw[<-z];exact N) Y P
    (by first|exact(h.at s).1 S|exact(h.at s).2 S)
 |kn k C q=>
  constructor<;>intro a<;>cases a with
  |kn _ _ _ o es I=>exact .kn _ _ _ o es (by first|exact(h.at s).1 I|exact(h.at s).2 I)
 |lit cs=>cases s
 |ni b=>constructor<;>intro a<;>cases a with|ni _ n I F=>exact .ni b n I F
theorem Ren.ak0(h:Ren ι κ g rl g0 bZ)(v:AV)(c:Value)(e:wf0 ι.length κ.length v=true):VR L g rl w (aiw ι κ v) c↔VR L g0 bZ w v c:=
 h.aeC (fun _ _ t=>by cases t) v c e
theorem Ren.aeB(h:Ren ι κ g rl g0 bZ)(v:AV)(c:Value)(e:wf1 ι.length κ.length v=true):VR L g rl w (ad4 ι κ v) c↔VR L g0 bZ w v c:=
 h.aeC (fun v c t=>h.ak0 v c t) v c e
theorem Ren.val(h:Ren ι κ g rl g0 bZ)(v:AV)(c:Value)(e:wf ι.length κ.length v=true):VR L g rl w (Be ι κ v) c↔VR L g0 bZ w v c:=
 h.aeC (fun v c t=>h.aeB v c t) v c e
theorem Ren.box(h:Ren ι κ g rl g0 bZ)(x:Bx)(aw:Nat)(c:WU ι.length κ.length x=true):Gu L g rl w (mq ι κ x) aw↔Gu L g0 bZ w x aw:=by
 have m:=h.bD;cases x with
 |var v f=>
  simp only[mq,Gu,j8,iT];constructor
  .rintro⟨a,t,i,n,r,l⟩;refine⟨a,t,i,n,fun j x y e u=>?_,l⟩;exact(h.aeB x y (mf c x (cP.2 ⟨j,e⟩))).1 (r j _ y (by simp[e]) u)
  .rintro⟨a,t,i,n,r,l⟩;refine⟨a,t,i,n,fun j x y e u=>?_,l⟩;rw[jU]at e;cases o:f[j]? with
   |none=>rw[o]at e;cases e
   |some d=>rw[o]at e;cases e;exact(h.aeB d y (mf c d (cP.2 ⟨j,o⟩))).2 (r j d y o u)
 |row es xs=>simp only[mq,Gu,m]
 |iter s p=>exact Iff.rfl
 |dead=>exact Iff.rfl
end
def Av{α:Type}:List α->List Nat->List α->List α
 |l,i::r,x::s=>Av (l.set i x) r s
 |l,_,_=>l
def Pz(n:Nat):List Nat->Bool
 |[]=>true
 |x::r=>match Nat.beq n x with|true=>false|false=>Pz n r
def ub:List Nat->Bool
 |[]=>true
 |x::r=>match Pz x r with|true=>ub r|false=>false
theorem Ny{n:Nat}:∀{xs:List Nat},Pz n xs=true->n∉xs
 |[],_=>by simp
 |x::r,h=>by
  simp only[Pz]at h;split at h
  .cases h
  .rename_i t;have e:n≠x:=by rintro rfl;simp at t
   simp[e,Ny h]
theorem tu:∀{xs:List Nat},ub xs=true->xs.Nodup
 |[],_=>by simp
 |x::r,h=>by
  simp only[ub]at h;split at h
  .rename_i e;exact List.nodup_cons.2 ⟨Ny e,tu h⟩
  .cases h
theorem jt:∀{xs:List Nat}{i:Nat},i<xs.length->xs[i]?=some (iL xs i)
 |x::r,0,_=>rfl
 |x::r,i+1,h=>by simpa[iL]using jt (xs:=r) (i:=i) (by simpa using h)
theorem uF{α:Type}:∀(ι:List Nat)(l xs:List α),(Av l ι xs).length=l.length
 |[],l,xs=>by cases xs<;>rfl
 |i::r,l,[]=>rfl
 |i::r,l,x::s=>by simp[Av,uF r]
theorem wX{α:Type}:∀(ι:List Nat)(l xs:List α)(j:Nat),j∉ι->(Av l ι xs)[j]?=l[j]?
 |[],l,xs,j,_=>by cases xs<;>rfl
 |i::r,l,[],j,_=>rfl
 |i::r,l,x::s,j,h=>by
  simp only[xe,not_or]at h;rw[Av,wX r _ s j h.2,jE (k8 h.1)]
theorem Jw{α:Type}:∀(ι:List Nat)(l xs:List α)(j:Nat),ι.Nodup->ι.length=xs.length->j<ι.length->iL ι j<l.length->(Av l ι xs)[iL ι j]?=xs[j]?
 |[],l,xs,j,_,_,a,_=>by simp at a
 |i::r,l,[],j,_,t,_,_=>by simp at t
 |i::r,l,x::s,0,o,t,_,e=>by
  have:=(List.nodup_cons.1 o).1;simp only[iL]at e⊢;rw[Av,wX r _ s i this,jD e];rfl
 |i::r,l,x::s,j+1,o,t,a,e=>by
  simp only[iL]at e⊢;rw[Av,Jw r (l.set i x) s j (List.nodup_cons.1 o).2 (by simpa using t) (by simpa using a) (by simpa using e)];simp
def xS{α:Type}(l:List α):List Nat->List α->Prop
 |[],[]=>True
 |i::r,x::s=>nth l i=some x/\xS l r s
 |_,_=>False
theorem CA{α:Type}{l:List α}:∀{ι:List Nat}{xs:List α},xS l ι xs->ι.length=xs.length/\∀(j:Nat)(x:α),xs[j]?=some x->l[iL ι j]?=some x
 |[],[],_=>⟨rfl,fun j x h=>by simp at h⟩
 |i::r,x::s,⟨t,a⟩=>by
  obtain⟨o,n⟩:=CA a;refine⟨by simp[o],fun j y e=>?_⟩;cases j with
  |zero=>simp at e;subst e;rw[<-mK];exact t
  |succ j=>exact n j y (by simpa using e)
 |[],_::_,h=>h.elim
 |_::_,[],h=>h.elim
section
variable{L:Lk}
theorem CT.frame{f:Nat}{A0:List AV}{jg nb:Nat}{dQ jV bx:List Bx}{bZ lg rl:bm}{v0:AV}(h:CT L f A0 jg dQ bZ v0 jg jV lg)(ι κ:List Nat)(ts:jg=dQ.length)(t4:jV.length=dQ.length)(tw:lg.length=bZ.length)(e2:ub ι=true)(e3:ub κ=true)(tb:kK (wf ι.length κ.length) A0=true)(tg:kK (WU ι.length κ.length) dQ=true)(e4:kK (WU ι.length κ.length) jV=true)(t0:wf ι.length κ.length v0=true)(H:xS bx ι (iX (mq ι κ) dQ))(hr:xS rl κ bZ):
  CT L f (iX (Be ι κ) A0) nb bx rl (Be ι κ v0) nb (Av bx ι (iX (mq ι κ) jV)) (Av rl κ lg):=by
 intro g w J o ep Q;rw[j8]at H ep Q⊢;obtain⟨e5,t1⟩:=CA H;obtain⟨e6,e7⟩:=CA hr;rw[iT]at e5 ep;have X:=tu e2;have Y:=tu e3;have em:∀(i:Nat)(x:Bx),dQ[i]?=some x->bx[iL ι i]?=some (mq ι κ x):=fun i x D=>t1 i _ (by simp[D])
 have Z:∀i,i<ι.length->iL ι i<bx.length:=fun i v=>by
  obtain⟨x,D⟩:∃x,dQ[i]?=some x:=⟨_,dw om⟩;exact(bV.1 (em i x D)).1
 have P:∀k,k<κ.length->iL κ k<rl.length:=fun k d=>by
  obtain⟨x,D⟩:∃x,bZ[k]?=some x:=⟨_,dw om⟩;exact(bV.1 (e7 k x D)).1
 let g0:Gh:={bk:=ι.map fun i=>g.bk.getD i 0,bD:=g.bD,rw:=κ.map fun k=>g.rw.getD k none,par:=g.par}
 have I:∀b,b<ι.length->g.bk[iL ι b]?=g0.bk[b]?:=fun b H=>by
  have r:=jt H;have l:=Z b H;rw[<-o.kt]at l;show _=(ι.map _)[b]?;simp[r,dw l]
 have N:∀k,k<κ.length->g.rw[iL κ k]?=g0.rw[k]?:=fun k d=>by
  have r:=jt d;have l:=P k d;rw[<-o.jv]at l;show _=(κ.map _)[k]?;simp[r,dw l]
 have ee:∀k,k<κ.length->rl[iL κ k]?=bZ[k]?:=fun k d=>by
  obtain⟨x,D⟩:∃x,bZ[k]?=some x:=⟨_,dw om⟩;rw[D,e7 k x D]
 have R:Ren ι κ g rl g0 bZ:=⟨rfl,I,ee,N⟩
 have E:∀b,b∈g0.bk->b∈g.bk:=fun b H=>by
  obtain⟨i,v⟩:=cP.1 H;have:i<ι.length:=by have:=(bV.1 v).1;simpa[g0]using this
  rw[<-I i this]at v;exact cP.2 ⟨_,v⟩
 have m:∀b,some b∈g0.rw->some b∈g.rw:=fun b H=>by
  obtain⟨i,v⟩:=cP.1 H;have:i<κ.length:=by have:=(bV.1 v).1;simpa[g0]using this
  rw[<-N i this]at v;exact cP.2 ⟨_,v⟩
 have te:∀i j,i<ι.length->j<ι.length->iL ι i=iL ι j->i=j:=fun i j v u he=>by
  have r:=jt v;have l:=jt u;rw[he,<-l]at r;exact(Gj v X).1 r
 have eo:∀i j,i<κ.length->j<κ.length->iL κ i=iL κ j->i=j:=fun i j v u he=>by
  have r:=jt v;have l:=jt u;rw[he,<-l]at r;exact(Gj v Y).1 r
 have t2:aY L g0 jg dQ bZ w:=by
  refine⟨ts,by simp[g0];omega,?_,?_,by simp[g0];omega,?_,?_,o.fresh,fun i=>?_,⟨o.par.fresh,fun b H=>o.par.bk b (E b H),o.par.sep,o.par.F3⟩⟩
  .intro i x a D d;have v:i<ι.length:=by rw[e5];exact(bV.1 D).1
   rw[<-I i v]at d;obtain⟨r,l⟩:=o.box _ _ a (em i x D) d;exact⟨fun hd=>r (by cases x<;>first|exact absurd rfl hd|simp[mq]),(R.box x a (mf tg x (cP.2 ⟨i,D⟩))).1 l⟩
  .intro i j a v u;have r:i<ι.length:=by have:=(bV.1 v).1;simpa[g0]using this
   have l:j<ι.length:=by have:=(bV.1 u).1;simpa[g0]using this
   rw[<-I i r]at v;rw[<-I j l]at u;exact te i j r l (o.inj _ _ a v u)
  .intro k n e d;have tt:k<κ.length:=by rw[e6];exact(bV.1 d).1
   rw[<-ee k tt]at d;obtain⟨r,l⟩:=o.row _ n e d;refine⟨r,?_⟩;rw[<-N k tt];rcases l with l|⟨a,C,t,fr,q1,q2,q3,q4,q5,q6⟩
   .exact .inl l
   .exact .inr ⟨a,C,t,fr,q1,q2,q3,q4,fun z=>q5 (E _ z),q6⟩
  .intro i j b v u;have r:i<κ.length:=by have:=(bV.1 v).1;simpa[g0]using this
   have l:j<κ.length:=by have:=(bV.1 u).1;simpa[g0]using this
   rw[<-N i r]at v;rw[<-N j l]at u;exact eo i j r l (o.jI _ _ b v u)
  .refine⟨?_,(o.jd i).2⟩;have:=(o.jd i).1;generalize (Value.pointer (some ⟨L.gn i,0,none⟩))=pv at this⊢;cases this with|gA cs a t5 c r l h3=>exact .gA _ _ _ _ r l h3
 have eg:∀(j:Nat)(x:AV)(y:Value),A0[j]?=some x->J[j]?=some y->VR L g0 bZ w x y:=fun j x y D hy=>
  (R.val x y (mf tb x (cP.2 ⟨j,D⟩))).1 (Q j _ y (by simp[D]) hy)
 refine(h g0 w J t2 ep eg).mono ?_;rintro e w' ⟨cv,A,rfl,s,M,hv⟩;let g':Gh:={bk:=g.bk,bD:=A.bD,rw:=Av g.rw κ A.rw,par:=A.par}
 have ef:∀i,i<ι.length->A.bk[i]?=g0.bk[i]?:=fun i v=>by
  obtain⟨b,H⟩:∃b,g0.bk[i]?=some b:=⟨_,dw (by simpa[g0]using v)⟩;rw[H,s.bk i b H]
 have ej:A.rw.length=κ.length:=by rw[M.jv,tw,e6]
 have U:∀k,k<κ.length->g'.rw[iL κ k]?=A.rw[k]?:=fun k d=>Jw κ g.rw A.rw k Y ej.symm d (by rw[o.jv];exact P k d)
 have V:∀k,k<κ.length->(Av rl κ lg)[iL κ k]?=lg[k]?:=fun k d=>Jw κ rl lg k Y om d (P k d)
 have K:∀k,k∉κ->g'.rw[k]?=g.rw[k]?:=fun k d=>wX κ g.rw A.rw k d
 have ey:∀k,k∉κ->(Av rl κ lg)[k]?=rl[k]?:=fun k d=>wX κ rl lg k d
 have ei:∀{k:Nat},k∈κ->∃j,j<κ.length/\iL κ j=k:=fun{k}d=>by
  obtain⟨j,u⟩:=cP.1 d;have hl:=(bV.1 u).1;exact⟨j,hl,by have:=jt hl;rw[u]at this;exact(vf this).symm⟩
 have ez:∀{k:Nat},k∈ι->∃j,j<ι.length/\iL ι j=k:=fun{k}d=>by
  obtain⟨j,u⟩:=cP.1 d;have hl:=(bV.1 u).1;exact⟨j,hl,by have:=jt hl;rw[u]at this;exact(vf this).symm⟩
 have R':Ren ι κ g' (Av rl κ lg) A lg:=⟨rfl,fun b H=>by rw[ef b H];exact I b H,V,U⟩
 have ed:∀b,some b∈g'.rw->some b∈g.rw\/w.heap.size<=b:=fun b H=>by
  obtain⟨k,d⟩:=cP.1 H;by_cases z:k∈κ
  .obtain⟨j,u,rfl⟩:=ei z;rw[U j u]at d;rcases s.jA b (cP.2 ⟨j,d⟩)with r|r
   .exact .inl (m b r)
   .exact .inr r
  .rw[K k z]at d;exact .inl (cP.2 ⟨k,d⟩)
 have S:Step g rl w g' (Av rl κ lg) w':=by
  refine⟨s.os,s.tape,s.output,s.size,s.bD,s.cell,fun i b h=>h,?_,s.shape,fun b H=> .inl H,ed,?_,?_,fun b O r l=>s.oi b O (fun z=>r (E b z)) (fun z=>l (m b z))⟩
  .intro k n e d;by_cases z:k∈κ
   .obtain⟨j,u,rfl⟩:=ei z;rw[ee j u]at d;obtain⟨n',e',r,l,h3,h4⟩:=s.row j n e d;exact⟨n',e',by rw[V j u];exact r,l,fun hn=>by rw[U j u,h3 hn,N j u],h4⟩
   .exact .of (by rw[ey k z];exact d) (aQ _) fun _=>K k z
  .exact fun b O r l=>s.frame b O (fun z=>r (E b z)) (fun z=>l (m b z))
  .exact fun b O r l=>s.lb b O (fun z=>r (E b z)) (fun z=>l (m b z))
 have ta:∀i,i∉ι->(Av bx ι (jV.map (mq ι κ)))[i]?=bx[i]?:=fun i v=>wX ι bx _ i v
 have e1:∀i,i<ι.length->(Av bx ι (jV.map (mq ι κ)))[iL ι i]?=(jV.map (mq ι κ))[i]?:=fun i v=>
  Jw ι bx _ i X (by rw[iT];omega) v (Z i v)
 refine⟨cv,g',rfl,S,?_,(R'.val v0 cv t0).2 hv⟩;refine⟨by rw[uF];exact o.nb,by rw[uF];exact o.kt,?_,o.inj,by show(Av g.rw κ A.rw).length=_;rw[uF,uF];exact o.jv,?_,?_,M.fresh,fun i=>(o.jd i).bj S,⟨M.par.fresh,fun b H=>?_,M.par.sep,M.par.F3⟩⟩
 rotate_right
 .by_cases z:b∈g0.bk
  .obtain⟨i,v⟩:=cP.1 z;exact M.par.bk b (cP.2 ⟨i,s.bk i b v⟩)
  .exact(s.oi b (o.qf H) z (fun h=>(o.tH (m b h)).2 H)).1 (o.par.bk b H)
 .intro i x a D d;by_cases z:i∈ι
  .obtain⟨j,u,rfl⟩:=ez z;rw[e1 j u,jU]at D;have d:g.bk[iL ι j]?=some a:=d;rw[I j u,<-ef j u]at d;cases el:jV[j]? with
   |none=>rw[el]at D;cases D
   |some y=>
    rw[el]at D;cases D;obtain⟨r,l⟩:=M.box j y a el d;refine⟨fun hd=>r (fun e=>hd (by rw[e];rfl)),(R'.box y a (mf e4 y (cP.2 ⟨j,el⟩))).2 l⟩
  .rw[ta i z]at D;obtain⟨r,l⟩:=o.box i x a D d;have O:=o.qf (cP.2 ⟨i,d⟩)
   have B:a∉g0.bk:=fun T=>by
    obtain⟨j,u⟩:=cP.1 T;have F:j<ι.length:=by have:=(bV.1 u).1;simpa[g0]using this
    rw[<-I j F]at u;have:iL ι j=i:=o.inj _ _ a u d;exact z (this▸cP.2 ⟨j,jt F⟩)
   have G:some a∉g0.rw:=fun T=>(o.tH (m a T)).2 (cP.2 ⟨i,d⟩)
   refine⟨fun hd=>?_,l.bj S (s.frame a O B G)⟩;show A.bD a=0;rw[s.lb a O B G];exact r hd
 .intro k n e d;show 0<gw e/\((g'.rw[k]?=some none/\n=0)\/∃a C t fr,g'.rw[k]?=some (some a)/\w'.heap[a]?=some (.cells C t fr)/\A.bD a=D5 n e/\D5 n e<=C.size/\a∉g.bk/\fr.2<=D5 n e/\0<n/\agk L e (D5 n e) C t (A.par a));by_cases z:k∈κ
  .obtain⟨j,u,rfl⟩:=ei z;rw[V j u]at d;obtain⟨h0,r⟩:=M.row j n e d;refine⟨h0,?_⟩;rw[U j u];rcases r with r|⟨a,C,t,fr,q1,q2,q3,q4,q5,q6⟩
   .exact .inl r
   .refine .inr ⟨a,C,t,fr,q1,q2,q3,q4,fun T=>?_,q6⟩;rcases s.jA a (cP.2 ⟨j,q1⟩)with l|l
    .exact(o.tH (m a l)).2 T
    .have:=o.qf T;omega
  .rw[ey k z]at d;obtain⟨h0,r⟩:=o.row k n e d;refine⟨h0,?_⟩;rw[K k z];rcases r with r|⟨a,C,t,fr,q1,q2,q3,q4,q5,q6⟩
   .exact .inl r
   .have O:=lt_of_heap q2;have B:a∉g0.bk:=fun T=>q5 (E a T)
    have G:some a∉g0.rw:=fun T=>by
     obtain⟨j,u⟩:=cP.1 T;have F:j<κ.length:=by have:=(bV.1 u).1;simpa[g0]using this
     rw[<-N j F]at u;have:iL κ j=k:=o.jI _ _ a u q1;exact z (this▸cP.2 ⟨j,jt F⟩)
    exact .inr ⟨a,C,t,fr,q1,by rw[s.frame a O B G];exact q2,by rw[s.lb a O B G];exact q3,q4,q5,q6.1,q6.2.1,q6.2.2.1,⟨fun he=>(s.oi a O B G).1 (q6.2.2.2.1.1 he),fun r=>(s.oi a O B G).2 (q6.2.2.2.1.2 r)⟩,q6.2.2.2.2⟩
 .intro i j b v u
  have ti:∀i,g'.rw[i]?=some (some b)->(∃p,p<κ.length/\iL κ p=i/\A.rw[p]?=some (some b))\/(i∉κ/\g.rw[i]?=some (some b)):=fun i v=>by
   by_cases z:i∈κ
   .obtain⟨p,hp,rfl⟩:=ei z;exact .inl ⟨p,hp,rfl,by rw[<-U p hp];exact v⟩
   .exact .inr ⟨z,by rw[<-K i z];exact v⟩
  have et:∀p q,p<κ.length->A.rw[p]?=some (some b)->q∉κ->g.rw[q]?=some (some b)->False:=fun p q hp r hq l=>by
   rcases s.jA b (cP.2 ⟨p,r⟩)with h3|h3
   .obtain⟨j,u⟩:=cP.1 h3;have F:j<κ.length:=by have:=(bV.1 u).1;simpa[g0]using this
    rw[<-N j F]at u;have:iL κ j=q:=o.jI _ _ b u l;exact hq (this▸cP.2 ⟨j,jt F⟩)
   .have:=(o.tH (cP.2 ⟨q,l⟩)).1;omega
  rcases ti i v with⟨p,hp,rfl,r⟩|⟨z,r⟩<;>rcases ti j u with⟨q,hq,rfl,l⟩|⟨t3,l⟩
  .rw[M.jI p q b r l]
  .exact(et p j hp r t3 l).elim
  .exact(et q i hq l z r).elim
  .exact o.jI i j b r l
theorem CX.frame{J:List AV}{jg:Nat}{dQ:List Bx}{bZ rl:bm}{X:AV->Prop}(h:CX L f J jg dQ bZ X)(ι κ:List Nat)(Q:jg=dQ.length)(F:ub ι=true)(Y:ub κ=true)(Z:kK (wf ι.length κ.length) J=true)(ee:kK (WU ι.length κ.length) dQ=true)(v:xS bx ι (iX (mq ι κ) dQ))(hr:xS rl κ bZ):
  CX L f (iX (Be ι κ) J) nb bx rl X:=by
 intro g w q a S z;rw[j8]at v S z;obtain⟨P,et⟩:=CA v;obtain⟨eo,V⟩:=CA hr;rw[iT]at P S;have H:=tu F;have D:=tu Y;have I:∀(i:Nat)(x:Bx),dQ[i]?=some x->bx[iL ι i]?=some (mq ι κ x):=fun i x m=>et i _ (by simp[m])
 have U:∀i,i<ι.length->iL ι i<bx.length:=fun i o=>by
  obtain⟨x,m⟩:∃x,dQ[i]?=some x:=⟨_,dw om⟩;exact(bV.1 (I i x m)).1
 have C:∀k,k<κ.length->iL κ k<rl.length:=fun k E=>by
  obtain⟨x,m⟩:∃x,bZ[k]?=some x:=⟨_,dw om⟩;exact(bV.1 (V k x m)).1
 let g0:Gh:={bk:=ι.map fun i=>g.bk.getD i 0,bD:=g.bD,rw:=κ.map fun k=>g.rw.getD k none,par:=g.par}
 have l:∀b,b<ι.length->g.bk[iL ι b]?=g0.bk[b]?:=fun b v=>by
  have r:=jt v;have s:=U b v;rw[<-a.kt]at s;show _=(ι.map _)[b]?;simp[r,dw s]
 have u:∀k,k<κ.length->g.rw[iL κ k]?=g0.rw[k]?:=fun k E=>by
  have r:=jt E;have s:=C k E;rw[<-a.jv]at s;show _=(κ.map _)[k]?;simp[r,dw s]
 have N:∀k,k<κ.length->rl[iL κ k]?=bZ[k]?:=fun k E=>by
  obtain⟨x,m⟩:∃x,bZ[k]?=some x:=⟨_,dw om⟩;rw[m,V k x m]
 have R:Ren ι κ g rl g0 bZ:=⟨rfl,l,N,u⟩
 have d:∀b,b∈g0.bk->b∈g.bk:=fun b v=>by
  obtain⟨i,o⟩:=cP.1 v;have:i<ι.length:=by have:=(bV.1 o).1;simpa[g0]using this
  rw[<-l i this]at o;exact cP.2 ⟨_,o⟩
 have A:∀b,some b∈g0.rw->some b∈g.rw:=fun b v=>by
  obtain⟨i,o⟩:=cP.1 v;have:i<κ.length:=by have:=(bV.1 o).1;simpa[g0]using this
  rw[<-u i this]at o;exact cP.2 ⟨_,o⟩
 have B:∀i j,i<ι.length->j<ι.length->iL ι i=iL ι j->i=j:=fun i j o T G=>by
  have r:=jt o;have s:=jt T;rw[G,<-s]at r;exact(Gj o H).1 r
 have O:∀i j,i<κ.length->j<κ.length->iL κ i=iL κ j->i=j:=fun i j o T G=>by
  have r:=jt o;have s:=jt T;rw[G,<-s]at r;exact(Gj o D).1 r
 have ei:aY L g0 jg dQ bZ w:=by
  refine⟨Q,by simp[g0];omega,?_,?_,by simp[g0];omega,?_,?_,a.fresh,fun i=>?_,⟨a.par.fresh,fun b v=>a.par.bk b (d b v),a.par.sep,a.par.F3⟩⟩
  .intro i x p m E;have o:i<ι.length:=by rw[P];exact(bV.1 m).1
   rw[<-l i o]at E;obtain⟨r,s⟩:=a.box _ _ p (I i x m) E;exact⟨fun hd=>r (by cases x<;>first|exact absurd rfl hd|simp[mq]),(R.box x p (mf ee x (cP.2 ⟨i,m⟩))).1 s⟩
  .intro i j p o T;have r:i<ι.length:=by have:=(bV.1 o).1;simpa[g0]using this
   have s:j<ι.length:=by have:=(bV.1 T).1;simpa[g0]using this
   rw[<-l i r]at o;rw[<-l j s]at T;exact B i j r s (a.inj _ _ p o T)
  .intro k n e E;have K:k<κ.length:=by rw[eo];exact(bV.1 E).1
   rw[<-N k K]at E;obtain⟨r,s⟩:=a.row _ n e E;refine⟨r,?_⟩;rw[<-u k K];rcases s with s|⟨p,ed,t,fr,q1,q2,q3,q4,q5,q6⟩
   .exact .inl s
   .exact .inr ⟨p,ed,t,fr,q1,q2,q3,q4,fun hm=>q5 (d _ hm),q6⟩
  .intro i j b o T;have r:i<κ.length:=by have:=(bV.1 o).1;simpa[g0]using this
   have s:j<κ.length:=by have:=(bV.1 T).1;simpa[g0]using this
   rw[<-u i r]at o;rw[<-u j s]at T;exact O i j r s (a.jI _ _ b o T)
  .refine⟨?_,(a.jd i).2⟩;have:=(a.jd i).1;generalize (Value.pointer (some ⟨L.gn i,0,none⟩))=pv at this⊢;cases this with|gA cs p el c r s h3=>exact .gA _ _ _ _ r s h3
 have M:∀(j:Nat)(x:AV)(y:Value),J[j]?=some x->q[j]?=some y->VR L g0 bZ w x y:=fun j x y m hy=>
  (R.val x y (mf Z x (cP.2 ⟨j,m⟩))).1 (z j _ y (by simp[m]) hy)
 refine(h g0 w q ei S M).mono ?_;rintro e w' ⟨ch,G,pv,cv,mk,q1,q2,q3,q4,q5⟩;exact⟨ch,G,pv,cv,mk,q1,q2,q3,q4.wide rfl d A,q5⟩
def xM{α:Type}:List α->List Nat->List α->(List α->Prop)->Prop
 |l,i::r,x::s,K=>pz l i x fun l=>xM l r s K
 |l,_,_,K=>K l
theorem L3{α:Type}:∀(ι:List Nat)(l xs:List α)(K:List α->Prop),xM l ι xs K->K (Av l ι xs)
 |[],l,xs,K,h=>by cases xs<;>exact h
 |i::r,l,[],K,h=>h
 |i::r,l,x::s,K,h=>L3 r _ s K (sj _ _ _ _ h).2
def Fo(ι κ:List Nat)(e:List AV)(dQ jV:List Bx)(v0:AV):Bool:=
 match ub ι with
 |true=>match ub κ with
  |true=>match kK (wf ι.length κ.length) e with
   |true=>match kK (WU ι.length κ.length) dQ with
    |true=>match kK (WU ι.length κ.length) jV with
     |true=>wf ι.length κ.length v0
     |false=>false
    |false=>false
   |false=>false
  |false=>false
 |false=>false
theorem Pm{t:List AV}{jg:Nat}{dQ jV:List Bx}{bZ lg:bm}{v0:AV}(h:CT L f t jg dQ bZ v0 jg jV lg)(ι κ:List Nat){rl:bm}{K:AV->Nat->List Bx->bm->Prop}(a:jg=dQ.length)(o:jV.length=dQ.length)(i:lg.length=bZ.length)(e:Fo ι κ t dQ jV v0=true)(n:args=iX (Be ι κ) t)(s:xS bx ι (iX (mq ι κ) dQ))(r:xS rl κ bZ)(d:xM bx ι (iX (mq ι κ) jV) fun bx=>xM rl κ lg fun rl=>K (Be ι κ v0) nb bx rl):bA L f args nb bx rl K:=by
 unfold Fo at e
 repeat' split at e
 all_goals first|cases e;done|skip
 subst n;exact⟨_,_,_,_,h.frame ι κ a o i ‹_› ‹_› ‹_› ‹_› ‹_› e s r,L3 κ _ _ _ (L3 ι _ _ _ d)⟩
theorem Tw{f:AV->AV}{xs:List AV}(h:∀x,x∈xs->f x=x):iX f xs=xs:=by
 rw[j8];exact(Ri h).trans si
theorem TY{t:Tag}(h:wfT 0 t=true):Ir [] t=t:=by
 cases t with
 |row k=>have:=gP h;omega
 |fe k=>have:=gP h;omega
 |sub k C=>have:=gP h;omega
 |uu k C o=>have:=gP h;omega
 |_=>rfl
theorem LA{r:AV->AV}{p:AV->Bool}(o:∀v,p v=true->r v=v)(v:AV)(h:wfF 0 0 p v=true):B5 [] [] r v=v:=by
 have cZ:∀a,kK p a=true->iX r a=a:=fun a s=>Tw fun x l=>o x (mf s x l)
 cases v with
 |d v=>rfl
 |ptr b j=>have:=gP h;omega
 |ru b e i j=>have:=gP h;omega
 |gA a=>rfl
 |aO xs t=>simp only[B5];rw[TY h]
 |rC b n=>have:=gP h;omega
 |oQ xs t=>simp only[B5];rw[TY h]
 |agg a=>simp only[B5];rw[cZ a h]
 |b6 a=>simp only[B5];rw[cZ a h]
 |fn f a=>simp only[B5];rw[cZ a h]
 |oH t v=>simp only[B5];rw[o v h]
 |uv b=>have:=gP h;omega
 |bM=>rfl
 |kh es p xs ds zs k=>have:=gP h;omega
 |kn k C q=>have:=gP h;omega
 |lit a=>cases h
 |ni b=>rfl
theorem Yj(v:AV)(h:wf 0 0 v=true):Be [] [] v=v:=
 LA (fun v h=>LA (fun v h=>LA (fun v h=>by cases h) v h) v h) v h
theorem CP.of{e:List AV}{v0:AV}(t:kK (wf 0 0) e=true)(a:wf 0 0 v0=true)(h:CT L f e 0 [] [] v0 0 [] []):CP L f e v0:=by
 intro nb bx rl;have:=h.frame (nb:=nb) (bx:=bx) (rl:=rl) [] [] rfl rfl rfl rfl rfl t rfl rfl a trivial trivial;rw[Yj v0 a,Tw fun x o=>Yj x (mf t x o)]at this;exact this
theorem CP.enter{f:Nat}{af:AF}{args:List AV}{v:AV}(t:aJ L f af)(e:args.length=af.np)(a:kK (wf 0 0) args=true)(o:wf 0 0 v=true)(h:zL L af.nt ⟨0,0,none⟩ af.body ⟨ki 0 args,0,[],[]⟩ (xx af.res v 0 [] [])):CP L f args v:=
 CP.of a o (CT.enter t e (aQ _) (aQ _) h)
theorem CP.jq{f:Nat}{af:AF}{args:List AV}{v:AV}(t:aJ L f af)(e:args.length=af.np)(a:kK (wf 0 0) args=true)(o:wf 0 0 v=true)(h:W L af.nt ⟨0,0,none⟩ af.body ⟨ki 0 args,0,[],[]⟩ (xx af.res v 0 [] [])):CP L f args v:=
 CP.of a o (CT.jq t e (aQ _) (aQ _) h)
theorem ak{rl:bm}{K:AV->Nat->List Bx->bm->Prop}(h:CP L f args v)(e:K v nb bx rl):bA L f args nb bx rl K:=
 ⟨v,nb,bx,rl,h nb bx rl,e⟩
theorem aeZ{X:AV->Prop}{rl:bm}{K:AV->Nat->List Bx->bm->Prop}(h:bA L f args nb bx rl K):xO L X f args nb bx rl K:=.inl h
theorem iH{t:List AV}{jg:Nat}{dQ:List Bx}{bZ:bm}{X o:AV->Prop}(h:CX L f t jg dQ bZ o)(ι κ:List Nat){rl:bm}{K:AV->Nat->List Bx->bm->Prop}(i:nb=bx.length)(a:jg=dQ.length)(e:Fo ι κ t dQ [] .bM=true)(n:args=iX (Be ι κ) t)(s:xS bx ι (iX (mq ι κ) dQ))(r:xS rl κ bZ)(d:∀v,o v->X v):xO L X f args nb bx rl K:=by
 unfold Fo at e
 repeat' split at e
 all_goals first|cases e;done|skip
 subst n;exact .inr (.inl ⟨i,(h.frame ι κ a ‹_› ‹_› ‹_› ‹_› s r).mono d⟩)
theorem akN{X:AV->Prop}{K:AV->Nat->List Bx->bm->Prop}(e:X v)(t:R6 v=true):xO L X 0 [v] 1 [] [] K:=.inr (.inr ⟨by decide,v,rfl,e,t⟩)
end
variable{n:Nat}{t:TypeId}{o:Oper}{x:Operand}{m:Nat}{z:List DV}
def acx:IntKind->Int->Bool
 | .i8,n=>decide (-128<=n)&&decide (n<=127)
 | .i16,n=>decide (-32768<=n)&&decide (n<=32767)
 | .i32,n=>decide (-2147483648<=n)&&decide (n<=2147483647)
 | .i64,n=>decide (-9223372036854775808<=n)&&decide (n<=9223372036854775807)
 | .u8,n=>decide (0<=n)&&decide (n<=255)
 | .u16,n=>decide (0<=n)&&decide (n<=65535)
 | .u32,n=>decide (0<=n)&&decide (n<=4294967295)
 | .u64,n=>decide (0<=n)&&decide (n<=18446744073709551615)
theorem acy{k:IntKind}{n:Int}(h:acx k n=true):eB k n:=by
 cases k<;>simpa[acx,eB]using h
def Qr:IntKind->IntKind->Bool
 | .i8,.i8| .i16,.i16| .i32,.i32| .i64,.i64| .u8,.u8| .u16,.u16| .u32,.u32| .u64,.u64=>true
 |_,_=>false
theorem NW{a b:IntKind}(h:Qr a b=true):a=b:=by
 cases a<;>cases b<;>first|rfl|(simp[Qr]at h;done)
def CE:List UInt8->List UInt8->Bool
 |[],[]=>true
 |x::r,y::s=>Nat.beq x.toNat y.toNat&&CE r s
 |_,_=>false
theorem JZ:∀{xs ys:List UInt8},CE xs ys=true->xs=ys
 |[],[],_=>rfl
 |x::r,y::s,h=>by
  simp only[CE,bT]at h;rw[JZ h.2,AH.1 (dL h.1)]
 |[],_::_,h=>by simp[CE]at h
 |_::_,[],h=>by simp[CE]at h
def krB:Value->DV->Bool
 | .bool b,.bool c=>match b,c with|true,true|false,false=>true|_,_=>false
 | .int k n,.int j m=>Qr k j&&decide (n=m)&&acx k n
 | .string s,.str l=>CE s.data.toList l&&Nat.ble l.length 140737488355328
 | .slice none n m,.sl []=>Nat.beq n 0&&Nat.beq m 0
 | .pointer none,.cq=>true
 | .nilIface,.mW=>true
 | .nilFunc,.Le=>true
 | .map none,.Lf=>true
 |_,_=>false
theorem Qs{v:Value}{d:DV}(h:krB v d=true):KR v d/\(d=.sl []->v=.slice none 0 0):=by
 unfold krB at h;split at h
 .rename_i b c;cases b<;>cases c<;>first|(simp at h;done)|exact⟨fun mk w=> .bool _,fun h=>by cases h⟩
 .simp only[bT,decide_eq_true_eq]at h;obtain⟨⟨e,t⟩,o⟩:=h;rw[<-NW e,<-t];exact⟨fun mk w=> .int _ _ (acy o),fun h=>by cases h⟩
 .rename_i s l;simp only[bT]at h;have e:=JZ h.1;refine⟨fun mk w=>?_,fun h=>by cases h⟩
  have:s=⟨l.toArray⟩:=by
   cases s with|mk a=>simp at e;rw[<-e]
  rw[this];exact .str l (cb h.2)
 .simp only[bT]at h;rw[dL h.1,dL h.2];exact⟨fun mk w=> .slnil,fun _=>rfl⟩
 .exact⟨fun mk w=> .cq,fun h=>by cases h⟩
 .exact⟨fun mk w=> .mW,fun h=>by cases h⟩
 .exact⟨fun mk w=> .Le,fun h=>by cases h⟩
 .exact⟨fun mk w=> .Lf,fun h=>by cases h⟩
 .cases h
def K2:List Value->List DV->Bool
 |[],[]=>true
 |v::r,d::s=>krB v d&&K2 r s
 |_,_=>false
theorem K3:∀{e:List Value}{ds:List DV},K2 e ds=true->e.length=ds.length/\∀(j:Nat)(x:DV)(y:Value),ds[j]?=some x->e[j]?=some y->KR y x/\(x=.sl []->y=.slice none 0 0)
 |[],[],_=>⟨rfl,fun j x y h=>by simp at h⟩
 |v::r,d::s,h=>by
  simp only[K2,bT]at h;obtain⟨o,i⟩:=K3 h.2;refine⟨by simp[o],fun j x y t a=>?_⟩;cases j with
  |zero=>simp at t a;subst t;subst a;exact Qs h.1
  |succ j=>exact i j x y (by simpa using t) (by simpa using a)
 |[],_::_,h=>by simp[K2]at h
 |_::_,[],h=>by simp[K2]at h
def zrB(z:List DV)(v:Value):Bool:=K2 v.cells.toList z
theorem agh{v:Value}(h:zrB z v=true):ZR z v:=by
 obtain⟨e,t⟩:=K3 h;exact⟨by simpa using e,fun j x y a o=>t j x y a (by simpa using o)⟩
section
variable(L:Lk)
def du:Operand->Arg->Bool
 | .tmp i,.t j=>Nat.beq i j
 | .const v,.k d=>krB v d
 | .const (.agg e),.ka ds=>K2 e.toList ds
 | .global g,.g i=>Nat.beq g (L.gn i)
 | .func f,.f i=>Nat.beq f (L.fn i)
 |_,_=>false
def sU:List Operand->List Arg->Bool
 |[],[]=>true
 |x::r,a::s=>du L x a&&sU r s
 |_,_=>false
def N9:Option Operand->Option Arg->Bool
 |none,none=>true
 |some x,some a=>du L x a
 |_,_=>false
variable{L}
theorem bn{a:Arg}(h:du L x a=true):cQ L x a:=by
 unfold du at h;split at h
 .rw[dL h];exact .t _
 .exact .k _ _ (Qs h).1 (Qs h).2
 .obtain⟨e,o⟩:=K3 h;exact .ka _ _ (by simpa using e) fun j x y i n=>o j x y i (by simpa using n)
 .rw[dL h];exact .g _
 .rw[dL h];exact .f _
 .cases h
theorem JU:∀{xs:List Operand}{as:List Arg},sU L xs as=true->xs.length=as.length/\∀(j:Nat)(x:Operand)(a:Arg),xs[j]?=some x->as[j]?=some a->cQ L x a
 |[],[],_=>⟨rfl,fun j x a h=>by simp at h⟩
 |x::r,a::s,h=>by
  simp only[sU,bT]at h;obtain⟨o,i⟩:=JU h.2;refine⟨by simp[o],fun j x y e t=>?_⟩;cases j with
  |zero=>simp at e t;subst e;subst t;exact bn h.1
  |succ j=>exact i j x y (by simpa using e) (by simpa using t)
 |[],_::_,h=>by simp[sU]at h
 |_::_,[],h=>by simp[sU]at h
theorem GK{xs:Array Operand}{as:List Arg}(h:sU L xs.toList as=true):Gs L xs as:=by
 obtain⟨e,t⟩:=JU h;exact⟨by simpa using e,fun j x a o i=>t j x a (by simpa using o) i⟩
theorem FH{x:Option Operand}{a:Option Arg}(h:N9 L x a=true):RE L x a:=by
 unfold N9 at h;split at h
 .exact .inl ⟨rfl,rfl⟩
 .exact .inr ⟨_,_,rfl,rfl,bn h⟩
 .cases h
variable(L)
def Uu(t:TypeId)(n:Nat)(e:Bool):Bool:=
 match L.P.info? t,L.P.underlying t with
 |some i,some d=>Nat.beq i.size n&&(JS d==e)&&(e||Nat.beq n 1)
 |_,_=>false
theorem Au{e:Bool}(h:Uu L t n e=true):UL L t n e:=by
 unfold Uu at h;split at h
 .rename_i i d a o;simp only[bT,vg,beq_iff_eq]at h;obtain⟨⟨s,r⟩,l⟩:=h;exact⟨⟨i,a,dL s⟩,⟨d,o,r⟩,fun u=>l.elim (fun h=>by rw[u]at h;cases h) dL⟩
 .cases h
def Xf:BinOp->Gt->Bool
 | .add,.add| .sub,.sub| .mul,.mul| .quo,.quo| .rem,.rem| .eql,.eql| .neq,.neq| .lss,.lss| .leq,.leq| .gtr,.gtr| .geq,.geq=>true
 |_,_=>false
theorem JY{a:BinOp}{b:Gt}(h:Xf a b=true):MM a b:=by
 cases a<;>cases b<;>first|trivial|(simp[Xf]at h;done)
def Cj(t:TypeId)(z:List DV):Bool:=
 match L.P.info? t with
 |some i=>match i.zero with
  |some e=>zrB z e
  |none=>false
 |none=>false
theorem vY(h:Cj L t z=true):∃i e,L.P.info? t=some i/\i.zero=some e/\ZR z e:=by
 unfold Cj at h;split at h
 .rename_i i a;split at h
  .rename_i e o;exact⟨i,e,a,o,agh h⟩
  .cases h
 .cases h
def Cd(t:TypeId)(m:Nat):Bool:=
 match L.P.info? t with
 |some i=>Nat.beq i.size m
 |none=>false
theorem tJ(h:Cd L t m=true):∃i,L.P.info? t=some i/\i.size=m:=by
 unfold Cd at h;split at h
 .rename_i i e;exact⟨i,e,dL h⟩
 .cases h
def rO(t:TypeId)(p:TypeId->TypeInfo->Bool):Bool:=
 match L.P.underlying t with
 |some (.slice e)=>match L.P.info? e with
  |some i=>p e i
  |none=>false
 |_=>false
theorem lj{p:TypeId->TypeInfo->Bool}(h:rO L t p=true):∃e i,L.P.underlying t=some (.slice e)/\L.P.info? e=some i/\p e i=true:=by
 unfold rO at h;grind
def C1(t:Array Field):List (Nat×Operand)->List (Nat×Nat×Arg)->Bool
 |[],[]=>true
 |(i,x)::r,(e,m,a)::s=>(match t[i]? with
  |some f=>Nat.beq f.offset e&&Nat.beq (L.P.cellsOf f.type) m&&Nat.ble 1 m&&du L x a
  |none=>false)&&C1 t r s
 |_,_=>false
theorem Ls{o:Array Field}:∀{ps:List (Nat×Operand)}{e:List (Nat×Nat×Arg)},C1 L o ps e=true->Cw L (fun i=>(o[i]?).map fun(f:Field)=>(f.offset,L.P.cellsOf f.type)) ps e
 |[],[],_=>trivial
 |(i,x)::r,(n,m,a)::s,h=>by
  simp only[C1,bT]at h;obtain⟨t,d⟩:=h;split at t
  .rename_i f l;simp only[bT]at t;obtain⟨⟨⟨u,c⟩,w⟩,y⟩:=t;refine⟨?_,cb w,bn y,Ls d⟩;simp only[l,Gq];rw[dL u,dL c]
  .cases t
 |[],_::_,h=>by simp[C1]at h
 |_::_,[],h=>by simp[C1]at h
def yT(es:Nat):List (Nat×Operand)->List (Nat×Nat×Arg)->Bool
 |[],[]=>true
 |(i,x)::r,(e,m,a)::s=>Nat.beq (i*es) e&&Nat.beq es m&&Nat.ble 1 m&&du L x a&&yT es r s
 |_,_=>false
theorem Io{es:Nat}:∀{ps:List (Nat×Operand)}{e:List (Nat×Nat×Arg)},yT L es ps e=true->Cw L (fun i=>some (i*es,es)) ps e
 |[],[],_=>trivial
 |(i,x)::r,(t,m,a)::s,h=>by
  simp only[yT,bT]at h;obtain⟨⟨⟨⟨o,n⟩,d⟩,l⟩,u⟩:=h;refine⟨?_,cb d,bn l,Io u⟩;show some (i*es,es)=_;rw[dL o,dL n]
 |[],_::_,h=>by simp[yT]at h
 |_::_,[],h=>by simp[yT]at h
def Nt:List (Nat×Operand)->List (Nat×Arg)->Bool
 |[],[]=>true
 |(i,x)::r,(j,a)::s=>Nat.beq i j&&du L x a&&Nt r s
 |_,_=>false
theorem Sf:∀{ps:List (Nat×Operand)}{e:List (Nat×Arg)},Nt L ps e=true->W4 L ps e
 |[],[],_=>trivial
 |(i,x)::r,(j,a)::s,h=>by
  simp only[Nt,bT]at h;exact⟨dL h.1.1,bn h.1.2,Sf h.2⟩
 |[],_::_,h=>by simp[Nt]at h
 |_::_,[],h=>by simp[Nt]at h
def abU(e:List Field):Bool:=e.all fun f=>(L.P.info? f.type).isSome
def P8(t:TypeId):Bool:=match L.P.underlying t with|some (.int _)=>true|_=>false
theorem NM(h:P8 L t=true):∃k,L.P.underlying t=some (.int k):=by
 unfold P8 at h;grind
def aew(t:TypeId):Bool:=
 (match L.P.underlying t with
 |some (.struct o)=>match o.toList with
  |[e,a]=>decide (e.name≠ "_")&&decide (a.name≠ "_")&&Nat.beq e.offset 0&&Nat.beq a.offset 1&&P8 L e.type&&P8 L a.type
  |_=>false
 |_=>false)&&(!L.P.stoodInHeld t&& !L.P.eqGuardType L.P.depth t)
theorem aex(h:aew L t=true):abp L.P t:=by
 unfold aew at h;obtain⟨e,a⟩:=JA.1 h;obtain⟨a,o⟩:=JA.1 a;refine⟨?_,by simpa using a,by simpa using o⟩;split at e
 .rename_i i n;split at e
  .rename_i s r d;simp only[bT,decide_eq_true_eq]at e;obtain⟨⟨⟨⟨⟨l,u⟩,c⟩,m⟩,f⟩,w⟩:=e;obtain⟨y,p⟩:=NM L f;obtain⟨v,b⟩:=NM L w;exact⟨i,s,r,y,v,n,d,l,u,dL c,dL m,p,b⟩
  .cases e
 .cases e
def P6(t:TypeId):Bool:=match L.P.underlying t with|some (.interface _)=>true|_=>false
theorem VI(h:P6 L t=true):∃e,L.P.underlying t=some (.interface e):=by
 unfold P6 at h;grind
def Wc:Arg->Bool
 | .k .mW=>true
 |_=>false
theorem aad{q:Arg}(h:Wc q=true):q=.k .mW:=by
 unfold Wc at h;split at h
 .rfl
 .cases h
def Ph(o:Oper)(e:Bool)(a:bm)(p q:Arg):Bool:=
 match a with
 |_::_=>(match o.op with
  | .binOp op t x y _=>decide (op=if e then .neq else .eql)&&aew L t&&du L x p&&du L y q
  |_=>false)
 |[]=>(match o.op with
  | .binOp op t x (.const .nilIface) _=>decide (op=if e then .neq else .eql)&&P6 L t&&du L x p&&Wc q
  |_=>false)
theorem YQ{l:Bool}{e:bm}{p q:Arg}(h:Ph L o l e p q=true):jM L n o (.AL l e p q):=by
 cases e with
 |cons f e=>
  simp only[Ph]at h;split at h
  .rename_i u t x y c a;simp only[bT,decide_eq_true_eq]at h;obtain⟨⟨⟨i,s⟩,r⟩,d⟩:=h;subst i;exact aaI a (aex L s) (bn r) (bn d)
  .cases h
 |nil=>
  simp only[Ph]at h;split at h
  .rename_i u t x c a;simp only[bT,decide_eq_true_eq]at h;obtain⟨⟨⟨i,s⟩,r⟩,d⟩:=h;obtain⟨w,m⟩:=VI L s;subst i;exact Wy a m (bn r) (aad d)
  .cases h
def DA(o:Oper)(R:qp):Bool:=
 match R with
 | .lR a=>match o.op with| .move x=>du L x a| .assign x=>du L x a|_=>false
 | .pick c a b=>match o.op with| .pick x y z=>du L x c&&du L y a&&du L z b|_=>false
 | .alloc H z=>match o.op with| .alloc t=>Cj L t z&&(Nat.beq H 0||Nat.beq t (L.tn H))|_=>false
 | .box a=>match o.op with| .box _ x=>du L x a|_=>false
 | .build z n=>match o.op with
  | .build t r=>Cj L t z&&(match L.P.underlying t with|some (.struct d)=>abU L d.toList&&C1 L d r.toList n|some (.array _ e)=>(match L.P.info? e with|some E=>yT L E.size r.toList n|none=>false)|_=>false)
  |_=>false
 | .vy es _ m n=>match o.op with
  | .buildSlice t k r=>Nat.beq k m&&rO L t (fun _ i=>Nat.beq i.size es&&Nat.ble 1 es&&Nat.ble (m*es) 16777216&&(match i.zero with|some T=>Nat.beq T.cells.size i.size|none=>false))&&Nt L r.toList n
  |_=>false
 | .load m A a=>match o.op with| .load t x=>Uu L t m A&&du L x a|_=>false
 | .store m a b=>match o.op with| .store t x v=>Cd L t m&&du L x a&&du L v b|_=>false
 | .vI a=>match o.op with| .nilCheck x=>du L x a|_=>false
 | .eO _ b p q=>match o.op with| .binOp op _ x y _=>Xf op b&&du L x p&&du L y q|_=>false
 | .oL b p q=>match o.op with| .binOp op _ x y _=>Xf op b&&du L x p&&du L y q|_=>false
 | .ri O p q=>match o.op with
  | .binOp op t x y _=>decide (op=if O then .neq else .eql)&&(match L.P.underlying t with|some .bool=>true|_=>false)&&du L x p&&du L y q
  |_=>false
 | .AM O p q=>match o.op with
  | .binOp op t x y _=>decide (op=if O then .neq else .eql)&&(match L.P.underlying t with|some (.pointer _)=>true|_=>false)&&du L x p&&du L y q
  |_=>false
 | .AL O d p q=>Ph L o O d p q
 | .not a=>match o.op with| .unOp .not _ x=>du L x a|_=>false
 | .neg a=>match o.op with| .unOp .neg _ x=>du L x a|_=>false
 | .conv k a=>match o.op with
  | .convert s t x=>(L.P.underlying s).isSome&&(match L.P.underlying t with|some (.int j)=>Qr j k|_=>false)&&du L x a
  |_=>false
 | .Mp a=>match o.op with
  | .convert s t x=>(match L.P.underlying s with|some (.slice e)=>(match L.P.underlying e with|some (.int .u8)=>true|_=>false)|_=>false)&&(match L.P.underlying t with|some .string=>true|_=>false)&&du L x a
  |_=>false
 | .same a=>match o.op with
  | .convert s t x=>(match L.P.underlying s with|some .string=>true|_=>false)&&(match L.P.underlying t with|some .string=>true|_=>false)&&du L x a
  |_=>false
 | .uw f as=>match o.op with
  | .makeFunc (.func g) fst D=>Nat.beq g (L.fn f)&&fst.toList.isEmpty&&sU L D.toList as
  |_=>false
 | .wK es bytes z p q=>match o.op with
  | .makeSlice t x y=>rO L t (fun e i=>Nat.beq i.size es&&Nat.beq i.bytes bytes&&Cj L e z)&&du L x p&&du L y q
  |_=>false
 | .gR a I N=>match o.op with
  | .slice t x l h none=>(match L.P.underlying t with|some .string=>true|_=>false)&&du L x a&&N9 L l I&&N9 L h N
  |_=>false
 | .BA es a I N=>match o.op with
  | .slice t x l h none=>rO L t (fun _ i=>Nat.beq i.size es)&&du L x a&&N9 L l I&&N9 L h N
  |_=>false
 | .Fg es m a none none=>match o.op with
  | .slice t x none none none=>(match L.P.underlying t with|some (.array k e)=>Nat.beq k m&&Nat.ble m 140737488355328&&Cd L e es|_=>false)&&du L x a
  |_=>false
 | .mT w a=>match o.op with
  | .fieldAddr s x i=>(match L.P.underlying s with
   |some (.struct d)=>(match d[i]? with
    |some f=>Nat.beq f.offset w&&(match L.P.info? f.type with|some U=>Nat.ble 1 U.size|none=>false)
    |none=>false)
   |_=>false)&&du L x a
  |_=>false
 | .U' w m A a=>match o.op with
  | .field s x i=>(match L.P.underlying s with
   |some (.struct d)=>(match d[i]? with
    |some f=>Nat.beq f.offset w&&Uu L f.type m A&&Nat.ble 1 m
    |none=>false)
   |_=>false)&&du L x a
  |_=>false
 | .qI es a b=>match o.op with| .indexAddr t x i=>rO L t (fun _ E=>Nat.beq E.size es)&&du L x a&&du L i b|_=>false
 | .xC es m a b=>match o.op with
  | .indexAddr t x i=>(match L.P.underlying t with|some (.array k e)=>Nat.beq k m&&Cd L e es|_=>false)&&du L x a&&du L i b
  |_=>false
 | .Fz a b=>match o.op with| .index t x i=>(match L.P.underlying t with|some .string=>true|_=>false)&&du L x a&&du L i b|_=>false
 | .H6 es m A a b=>match o.op with
  | .index t x i=>Nat.beq es 1&&(!A)&&(match L.P.underlying t with|some (.array k e)=>Nat.beq k m&&Uu L e 1 false|_=>false)&&du L x a&&du L i b
  |_=>false
 | .range a=>match o.op with| .range t x=>(match L.P.underlying t with|some .string=>true|_=>false)&&du L x a|_=>false
 | .next a=>match o.op with| .next x true=>du L x a|_=>false
 | .ext a k=>match o.op with| .extract x i=>Nat.beq i k&&du L x a|_=>false
 | .call f as=>match o.op with
  | .call c=>(match c.callee with| .value (.func g)=>Nat.beq g (L.fn f)|_=>false)&&sU L c.args.toList as
  |_=>false
 | .oB a as=>match o.op with
  | .call c=>(match c.callee with| .value x=>du L x a|_=>false)&&sU L c.args.toList as
  |_=>false
 | .xD a=>match o.op with
  | .call c=>(match c.callee with| .builtin .len=>true|_=>false)&&(match c.args.toList,c.argTypes.toList with|[x],[t]=>(match L.P.underlying t with|some .string=>true|_=>false)&&du L x a|_,_=>false)
  |_=>false
 | .pj a=>match o.op with
  | .call c=>(match c.callee with| .builtin .len=>true|_=>false)&&(match c.args.toList,c.argTypes.toList with|[x],[t]=>(match L.P.underlying t with|some (.slice _)=>true|_=>false)&&du L x a|_,_=>false)
  |_=>false
 | .app es bytes z a b=>match o.op with
  | .call c=>(match c.callee with| .builtin .append=>true|_=>false)&&(match c.args.toList,c.argTypes.toList with
   |[x,y],[t,s]=>Nat.beq t s&&Nat.beq (gw (oR z es)) es&&rO L t (fun e i=>(!Nat.beq (oR z es) 1000||Nat.beq e L.u8)&&Nat.beq i.size es&&Nat.beq i.bytes bytes&&Nat.ble 1 es&&Nat.ble 1 bytes&&(match i.zero with|some T=>Nat.beq T.cells.size i.size|none=>false))&&du L x a&&du L y b
   |_,_=>false)
  |_=>false
 | .HX a b=>match o.op with
  | .call c=>(match c.callee with| .builtin .append=>true|_=>false)&&(match c.args.toList,c.argTypes.toList with
   |[x,y],[t,s]=>(match L.P.underlying s with|some .string=>true|_=>false)&&rO L t (fun e i=>Nat.beq e L.u8&&Nat.beq i.size 1&&Nat.beq i.bytes 1&&(match i.zero with|some T=>Nat.beq T.cells.size i.size|none=>false))&&du L x a&&du L y b
   |_,_=>false)
  |_=>false
 | .Cb a=>match o.op with
  | .call c=>(match c.callee with| .builtin .unsafeSliceData=>true|_=>false)&&(match c.args.toList,c.argTypes.toList with|[x],[_]=>du L x a|_,_=>false)
  |_=>false
 | .Iy p m=>match o.op with
  | .call c=>(match c.callee with| .builtin .unsafeString=>true|_=>false)&&(match c.args.toList,c.argTypes.toList with
   |[x,y],[t,_]=>(match L.P.underlying t with|some (.pointer e)=>Nat.beq e L.u8|_=>false)&&Nat.beq (L.P.cellsOf L.u8) 1&&du L x p&&du L y m
   |_,_=>false)
  |_=>false
 | .pZ es _ a=>match o.op with
  | .buildSlice t k r=>Nat.beq k 1&&(match r.toList with|[(0,x)]=>du L x a|_=>false)&&rO L t (fun _ i=>Nat.beq i.size es&&Nat.ble 1 es&&Nat.ble es 16777216&&i.zero.isSome)
  |_=>false
 | .Bt S es z a=>match o.op with
  | .buildSlice t k r=>Nat.beq k 1&&(match r.toList with|[(0,x)]=>du L x a|_=>false)&&rO L t (fun e i=>Nat.beq i.size es&&Nat.ble 1 es&&Nat.ble es 999&&Nat.beq e (L.tn (S/10))&&Cj L e z)
  |_=>false
 | .pY S _ es bytes z a b=>match o.op with
  | .call c=>(match c.callee with| .builtin .append=>true|_=>false)&&(match c.args.toList,c.argTypes.toList with
   |[x,y],[t,s]=>Nat.beq t s&&rO L t (fun e i=>Nat.beq i.size es&&Nat.beq i.bytes bytes&&Nat.ble 1 es&&Nat.ble es 999&&Nat.ble 1 bytes&&Nat.beq e (L.tn (S/10))&&Cj L e z)&&du L x a&&du L y b
   |_,_=>false)
  |_=>false
 | .H0 es I a=>match o.op with
  | .slice t x (some l) none none=>rO L t (fun _ i=>Nat.beq i.size es)&&du L x a&&(match l with| .const (.int _ v)=>decide (v=I)|_=>false)
  |_=>false
 | .CU es a b=>match o.op with| .indexAddr t x i=>rO L t (fun _ E=>Nat.beq E.size es)&&du L x a&&du L i b|_=>false
 | .Hl m a b=>match b with
  | .t _=>match o.op with| .load t x=>Uu L t m true&&du L x a|_=>false
  |_=>false
 | .other=>true
 | .panic a=>match o.op with
  | .panic x=>du L x a
  |_=>false
 | .Ib t a=>match o.op with
  | .makeInterface u x=>Nat.beq u (L.tn t)&&(match L.P.underlying u with|some (.interface _)=>false|some _=>true|none=>false)&&du L x a
  |_=>false
 | .OL t a=>match o.op with
  | .typeAssert x _ u true=>Nat.beq u (L.tn t)&&(match L.P.underlying u with|some (.interface _)=>false|some _=>true|none=>false)&&du L x a
  |_=>false
 |_=>false
theorem afJ{L:Lk}(hc:∀f,ij L f){ao:qp}(h:DA L o ao=true):jM L n o ao:=by
 have beq:∀{a b:Nat},Nat.beq a b=true->a=b:=fun h=>dL h
 cases ao<;>simp only[DA]at h
 case lR a=>
  split at h
  .rename_i x T;exact Uf (.inl T) (bn h)
  .rename_i x T;exact Uf (.inr T) (bn h)
  .cases h
 case pick c a b=>
  split at h
  .rename_i x y z T;simp only[bT]at h;exact aa2 T (bn h.1.1) (bn h.1.2) (bn h.2)
  .cases h
 case alloc ty z=>
  split at h
  .rename_i t T;simp only[bT,vg]at h;obtain⟨i,zv,r,E,R⟩:=vY L h.1;exact Wx T r E R (h.2.imp beq beq)
  .cases h
 case box a=>
  split at h
  .rename_i t x T;exact aek T (bn h)
  .cases h
 case build z et=>
  split at h
  .rename_i t ps T;simp only[bT]at h;obtain⟨r,E⟩:=h;obtain⟨i,zv,O,S,H⟩:=vY L r;split at E
   .rename_i fs P;simp only[bT]at E;refine Wz T O S H P (fun f hf=>?_) (Ls L E.2);have:=kI.1 E.1 f hf;exact HQ.1 this
   .rename_i m e P;split at E
    .rename_i ei he;exact Ub T O S H P he (Io L E)
    .cases E
   .cases E
  .cases h
 case vy es z m et=>
  split at h
  .rename_i t k ps T;simp only[bT]at h;obtain⟨⟨J,r⟩,E⟩:=h;obtain⟨e,i,O,S,H⟩:=lj L r;simp only[bT]at H;obtain⟨⟨⟨U,C⟩,F⟩,r4⟩:=H;have M:=beq U;split at r4
   .rename_i zv hz;have Z:=beq J;subst Z;subst M;exact Ua T O S hz (beq r4) (cb C) (cb F) (Sf L E)
   .cases r4
  .cases h
 case load m ag a=>
  split at h
  .rename_i t x T;simp only[bT]at h;exact aaY T (Au L h.1) (bn h.2)
  .cases h
 case store m a b=>
  split at h
  .rename_i t x v T;simp only[bT]at h;obtain⟨i,r,E⟩:=tJ L h.1.1;exact WI T r E (bn h.1.2) (bn h.2)
  .cases h
 case vI a=>
  split at h
  .rename_i x T;exact Ug T (bn h)
  .cases h
 case eO k b p q=>
  split at h
  .rename_i op t x y t' T;simp only[bT]at h;exact aaJ T (JY h.1.1) (bn h.1.2) (bn h.2)
  .cases h
 case oL b p q=>
  split at h
  .rename_i op t x y t' T;simp only[bT]at h;exact aaL T (JY h.1.1) (bn h.1.2) (bn h.2)
  .cases h
 case ri ne p q=>
  split at h
  .rename_i op t x y t' T;simp only[bT,decide_eq_true_eq]at h;obtain⟨⟨⟨r,E⟩,R⟩,h4⟩:=h;split at E
   .rename_i D;subst r;exact aaH T D (bn R) (bn h4)
   .cases E
  .cases h
 case AM ne p q=>
  split at h
  .rename_i op t x y t' T;simp only[bT,decide_eq_true_eq]at h;obtain⟨⟨⟨r,E⟩,R⟩,h4⟩:=h;split at E
   .rename_i D;subst r;exact aaK T D (bn R) (bn h4)
   .cases E
  .cases h
 case AL ne fs p q=>exact YQ L h
 case not a=>
  split at h
  .rename_i t x T;exact aeo T (bn h)
  .cases h
 case neg a=>
  split at h
  .rename_i t x T;exact aen T (bn h)
  .cases h
 case conv k a=>
  split at h
  .rename_i s t x T;simp only[bT]at h;obtain⟨⟨r,E⟩,R⟩:=h;obtain⟨ss,hs⟩:=HQ.1 r;split at E
   .rename_i j D;have:=NW E;subst this;exact aaP T hs D (bn R)
   .cases E
  .cases h
 case Mp a=>
  split at h
  .rename_i s t x T;simp only[bT]at h;obtain⟨⟨r,E⟩,R⟩:=h;split at r
   .rename_i e hs;split at r
    .rename_i he;split at E
     .rename_i D;exact aej T hs D he (bn R)
     .cases E
    .cases r
   .cases r
  .cases h
 case same a=>
  split at h
  .rename_i s t x T;simp only[bT]at h;obtain⟨⟨r,E⟩,R⟩:=h;split at r
   .rename_i hs;split at E
    .rename_i D;exact aa3 T hs D (bn R)
    .cases E
   .cases r
  .cases h
 case uw f as=>
  split at h
  .rename_i g fst cs T;simp only[bT,List.isEmpty_iff,Array.toList_eq_nil_iff]at h;obtain⟨⟨r,E⟩,R⟩:=h;have r:=beq r;subst r;subst E;exact aaZ T (GK R)
  .cases h
 case wK es bytes z p q=>
  split at h
  .rename_i t x y T;simp only[bT]at h;obtain⟨⟨r,E⟩,R⟩:=h;obtain⟨e,i,O,S,H⟩:=lj L r;simp only[bT]at H;obtain⟨⟨U,C⟩,F⟩:=H;obtain⟨i',zv,B,G,s3⟩:=vY L F;rw[S]at B;cases B;have U:=beq U;have C:=beq C;subst U;subst C;exact QV T O S G s3 (bn E) (bn R)
  .cases h
 case gR a lo hi=>
  split at h
  .rename_i t x l hh T;simp only[bT]at h;obtain⟨⟨⟨r,E⟩,R⟩,h4⟩:=h;split at r
   .rename_i D;exact aaT T D (bn E) (FH R) (FH h4)
   .cases r
  .cases h
 case BA es a lo hi=>
  split at h
  .rename_i t x l hh T;simp only[bT]at h;obtain⟨⟨⟨r,E⟩,R⟩,h4⟩:=h;obtain⟨e,i,O,S,H⟩:=lj L r;have H:=beq H;subst H;exact aaS T O S (bn E) (FH R) (FH h4)
  .cases h
 case Fg es m a lo hi=>
  cases lo<;>cases hi<;>simp only[]at h<;>first|(cases h;done)|skip
  split at h
  .rename_i t x T;simp only[bT]at h;obtain⟨r,E⟩:=h;split at r
   .rename_i k e D;simp only[bT]at r;obtain⟨⟨O,S⟩,H⟩:=r;obtain⟨i,U,C⟩:=tJ L H;have O:=beq O;subst O;subst C;exact aaQ T D U (cb S) (bn E)
   .cases r
  .cases h
 case mT eo a=>
  split at h
  .rename_i s x i T;simp only[bT]at h;obtain⟨r,E⟩:=h;split at r
   .rename_i fs P;split at r
    .rename_i f hf;simp only[bT]at r;obtain⟨O,S⟩:=r;split at S
     .rename_i fi ed;have O:=beq O;subst O;have:=cb S;exact WC T P hf ed om (bn E)
     .cases S
    .cases r
   .cases r
  .cases h
 case U' eo m ag a=>
  split at h
  .rename_i s x i T;simp only[bT]at h;obtain⟨r,E⟩:=h;split at r
   .rename_i fs P;split at r
    .rename_i f hf;simp only[bT]at r;obtain⟨⟨O,S⟩,H⟩:=r;have O:=beq O;subst O;exact aem T P hf (Au L S) (bn E) (cb H)
    .cases r
   .cases r
  .cases h
 case qI es a b=>
  split at h
  .rename_i t x i T;simp only[bT]at h;obtain⟨⟨r,E⟩,R⟩:=h;obtain⟨e,ei,O,S,H⟩:=lj L r;have H:=beq H;subst H;exact Ue T O S (bn E) (bn R)
  .cases h
 case xC es m a b=>
  split at h
  .rename_i t x i T;simp only[bT]at h;obtain⟨⟨r,E⟩,R⟩:=h;split at r
   .rename_i k e D;simp only[bT]at r;obtain⟨O,S⟩:=r;obtain⟨ei,U,C⟩:=tJ L S;have O:=beq O;subst O;subst C;exact Ud T D U (bn E) (bn R)
   .cases r
  .cases h
 case Fz a b=>
  split at h
  .rename_i t x i T;simp only[bT]at h;obtain⟨⟨r,E⟩,R⟩:=h;split at r
   .rename_i D;exact aaV T D (bn E) (bn R)
   .cases r
  .cases h
 case H6 es m ag a b=>
  split at h
  .rename_i t x i T;simp only[bT,JD]at h;obtain⟨⟨⟨⟨J,r⟩,E⟩,R⟩,h4⟩:=h;have J:=beq J;subst J;subst r;split at E
   .rename_i k e D;simp only[bT]at E;have O:=beq E.1;subst O;exact aaU T D (Au L E.2) (bn R) (bn h4)
   .cases E
  .cases h
 case range a=>
  split at h
  .rename_i t x T;simp only[bT]at h;obtain⟨r,E⟩:=h;split at r
   .rename_i D;exact WG T D (bn E)
   .cases r
  .cases h
 case next a=>
  split at h
  .rename_i x T;exact aa1 T (bn h)
  .cases h
 case ext a k=>
  split at h
  .rename_i x i T;simp only[bT]at h;have O:=beq h.1;subst O;exact ael T (bn h.2)
  .cases h
 case call f as=>
  split at h
  .rename_i c T;simp only[bT]at h;obtain⟨r,E⟩:=h;obtain⟨N,A,I⟩:=c;simp only at r E;split at r
   .rename_i g;have r:=beq r;subst r;exact aaO T (hc f) (GK E)
   .cases r
  .cases h
 case oB a as=>
  split at h
  .rename_i c T;simp only[bT]at h;obtain⟨r,E⟩:=h;obtain⟨N,A,I⟩:=c;simp only at r E;split at r
   .exact WA T hc (bn r) (GK E)
   .cases r
  .cases h
 case xD a=>
  split at h
  .rename_i c T;simp only[bT]at h;obtain⟨r,E⟩:=h;obtain⟨N,A,I⟩:=c;obtain⟨A⟩:=A;obtain⟨I⟩:=I;simp only at r E;split at r
   .split at E
    .rename_i x t;simp only[bT]at E;obtain⟨O,S⟩:=E;split at O
     .rename_i D;exact aaX T D (bn S)
     .cases O
    .cases E
   .cases r
  .cases h
 case pj a=>
  split at h
  .rename_i c T;simp only[bT]at h;obtain⟨r,E⟩:=h;obtain⟨N,A,I⟩:=c;obtain⟨A⟩:=A;obtain⟨I⟩:=I;simp only at r E;split at r
   .split at E
    .rename_i x t;simp only[bT]at E;obtain⟨O,S⟩:=E;split at O
     .rename_i D;exact aaW T D (bn S)
     .cases O
    .cases E
   .cases r
  .cases h
 case app es bytes z a b=>
  split at h
  .rename_i c T;simp only[bT]at h;obtain⟨r,E⟩:=h;obtain⟨N,A,I⟩:=c;obtain⟨A⟩:=A;obtain⟨I⟩:=I;simp only at r E;split at r
   .split at E
    .rename_i x y t s;simp only[bT]at E;obtain⟨⟨⟨⟨Y,qk⟩,O⟩,S⟩,H⟩:=E;have Y:=beq Y;subst Y;obtain⟨e,i,U,C,F⟩:=lj L O;simp only[bT,vg,JD]at F;obtain⟨⟨⟨⟨⟨s0,B⟩,G⟩,s3⟩,s4⟩,s5⟩:=F
     have el:oR z es=1000->e=L.u8:=fun Z=>by
      rcases s0 with s0|s0
      .rw[Z]at s0;cases s0
      .exact beq s0
     split at s5
     .rename_i zv hz;have B:=beq B;have G:=beq G;subst B;subst G;exact aei T U C hz (beq s5) (cb s3) (cb s4) (beq qk) el (bn S) (bn H)
     .cases s5
    .cases E
   .cases r
  .cases h
 case HX a b=>
  split at h
  .rename_i c T;simp only[bT]at h;obtain⟨r,E⟩:=h;obtain⟨N,A,I⟩:=c;obtain⟨A⟩:=A;obtain⟨I⟩:=I;simp only at r E;split at r
   .split at E
    .rename_i x y t s;simp only[bT]at E;obtain⟨⟨⟨Y,O⟩,S⟩,H⟩:=E;split at Y
     .rename_i hu;obtain⟨e,i,U,C,F⟩:=lj L O;simp only[bT]at F;obtain⟨⟨⟨s0,B⟩,G⟩,s5⟩:=F;split at s5
      .rename_i zv hz;exact aaG T U hu C hz (beq s5) (beq B) (beq G) (beq s0) (bn S) (bn H)
      .cases s5
     .cases Y
    .cases E
   .cases r
  .cases h
 case Cb a=>
  split at h
  .rename_i c T;simp only[bT]at h;obtain⟨r,E⟩:=h;obtain⟨N,A,I⟩:=c;obtain⟨A⟩:=A;obtain⟨I⟩:=I;simp only at r E;split at r
   .split at E
    .exact WH T (bn E)
    .cases E
   .cases r
  .cases h
 case Iy p m=>
  split at h
  .rename_i c T;simp only[bT]at h;obtain⟨r,E⟩:=h;obtain⟨N,A,I⟩:=c;obtain⟨A⟩:=A;obtain⟨I⟩:=I;simp only at r E;split at r
   .split at E
    .rename_i x y t s;simp only[bT]at E;obtain⟨⟨⟨Y,O⟩,S⟩,H⟩:=E;split at Y
     .rename_i e D;have Y:=beq Y;subst Y;exact aa5 T D (beq O) (bn S) (bn H)
     .cases Y
    .cases E
   .cases r
  .cases h
 case other=>intro X σ K g a w next Q _ em;exact em.elim
 case panic a=>
  split at h
  .rename_i x T;exact WE T (bn h)
  .cases h
 case Ib t a=>
  split at h
  .rename_i u x T;simp only[bT]at h;obtain⟨⟨r,E⟩,R⟩:=h;have r:=beq r;subst r;split at E
   .cases E
   .rename_i d hd ee;exact aa0 T ee hd (bn R)
   .cases E
  .cases h
 case OL t a=>
  split at h
  .rename_i x s u T;simp only[bT]at h;obtain⟨⟨r,E⟩,R⟩:=h;have r:=beq r;subst r;split at E
   .cases E
   .rename_i d ee hd;exact aa4 T hd (fun ms e=>ee ms e) (bn R)
   .cases E
  .cases h
 case pZ es z a=>
  split at h
  .rename_i t k ps T;simp only[bT]at h;obtain⟨⟨J,r⟩,E⟩:=h;obtain⟨e,i,O,S,H⟩:=lj L E;simp only[bT]at H;obtain⟨⟨⟨U,C⟩,F⟩,r4⟩:=H;obtain⟨zv,hz⟩:=HQ.1 r4;split at r
   .rename_i x V;have V:ps=#[(0,x)]:=by apply nD;exact V
    have Z:=beq J;subst Z;subst V;have M:=beq U;subst M;exact aaM T O S hz (cb C) (cb F) (bn r)
   .cases r
  .cases h
 case Bt md es z a=>
  split at h
  .rename_i t k ps T;simp only[bT]at h;obtain⟨⟨J,r⟩,E⟩:=h;obtain⟨e,i,O,S,H⟩:=lj L E;simp only[bT]at H;obtain⟨⟨⟨⟨U,C⟩,F⟩,r4⟩,r5⟩:=H;obtain⟨i',zv,z1,z2,z3⟩:=vY L r5;rw[S]at z1;cases z1;split at r
   .rename_i x V;have V:ps=#[(0,x)]:=by apply nD;exact V
    have Z:=beq J;subst Z;subst V;have M:=beq U;subst M;exact aaN T O S z2 z3 (cb C) (Rn (cb F)) (beq r4) (bn r)
   .cases r
  .cases h
 case pY md p es bytes z a b=>
  split at h
  .rename_i c T;simp only[bT]at h;obtain⟨r,E⟩:=h;obtain⟨N,A,I⟩:=c;obtain⟨A⟩:=A;obtain⟨I⟩:=I;simp only at r E;split at r
   .split at E
    .rename_i x y t s;simp only[bT]at E;obtain⟨⟨⟨Y,O⟩,S⟩,H⟩:=E;have Y:=beq Y;subst Y;obtain⟨e,i,U,C,F⟩:=lj L O;simp only[bT]at F;obtain⟨⟨⟨⟨⟨⟨B,G⟩,s3⟩,s4⟩,s5⟩,s6⟩,s7⟩:=F;obtain⟨i',zv,z1,z2,z3⟩:=vY L s7;rw[C]at z1;cases z1;have B:=beq B;have G:=beq G;subst B;subst G;exact aaF T U ⟨_,U,fun k Z=>by cases Z⟩ C z2 z3 (cb s3) (Rn (cb s4)) (cb s5) (beq s6) (bn S) (bn H)
    .cases E
   .cases r
  .cases h
 case H0 es lo a=>
  split at h
  .rename_i t x l T;simp only[bT]at h;obtain⟨⟨r,E⟩,R⟩:=h;obtain⟨e,i,O,S,H⟩:=lj L r;have M:=beq H;subst M;split at R
   .rename_i kk v;have hv:v=lo:=of_decide_eq_true R;subst hv;exact aaR T O S rfl (bn E)
   .cases R
  .cases h
 case CU es a b=>
  split at h
  .rename_i t x i T;simp only[bT]at h;obtain⟨⟨r,E⟩,R⟩:=h;obtain⟨e,ei,O,S,H⟩:=lj L r;have M:=beq H;subst M;exact Uc T O S (bn E) (bn R)
  .cases h
 case Hl m a b=>
  split at h
  .rename_i i;split at h
   .rename_i t x T;simp only[bT]at h;exact WD T (Au L h.1) (bn h.2) ⟨_,cQ.t i⟩
   .cases h
  .cases h
 all_goals cases h
end
variable{i p:Nat}{ops:Array Oper}
def wO:Option Nat->Option Nat->Bool
 |none,none=>true
 |some a,some b=>Nat.beq a b
 |_,_=>false
theorem mY{a b:Option Nat}(h:wO a b=true):a=b:=by
 unfold wO at h;split at h
 .rfl
 .rw[dL h]
 .cases h
def ltO(d:Option Nat)(n:Nat):Bool:=
 match d with
 |none=>true
 |some i=>Nat.ble (i+1) n
def Jh(ops:List Oper):Option (Nat×Bool)->Option (Nat×Bool)->Bool
 |none,none=>true
 |some (j,w),some (s,e)=>(w==e)&&(match ops[j]? with
  |some o=>wO o.dst (some s)
  |none=>false)
 |_,_=>false
def XW(L:Lk)(n:Nat)(ops:List Oper)(o:Oper)(e:AI):Bool:=wO o.dst e.d&&ltO e.d n&&Jh ops o.guard e.g&&DA L o e.o
def AY(L:Lk)(n:Nat)(ops:List Oper):List Oper->List AI->Bool
 |[],[]=>true
 |o::r,e::s=>XW L n ops o e&&AY L n ops r s
 |_,_=>false
section
variable{L:Lk}{n:Nat}(hc:∀f,ij L f)
include hc
theorem acA{l:AI}(h:XW L n ops.toList o l=true):MO L n ops o l:=by
 simp only[XW,bT]at h;obtain⟨⟨⟨c,u⟩,e⟩,m⟩:=h;refine⟨mY c,fun i f=>?_,afJ hc m,?_⟩
 .rw[f]at u;exact cb u
 .unfold Jh at e;split at e
  .rename_i t a;exact .inl ⟨t,a⟩
  .rename_i j w s v t a;simp only[bT,beq_iff_eq]at e;obtain⟨y,r⟩:=e;split at r
   .rename_i p d;refine .inr ⟨j,w,s,p,t,by simpa using d,mY r,by rw[a,y]⟩
   .cases r
  .cases e
theorem Hy{ops:Array Oper}:∀{t:List Oper}{aV:List AI},AY L n ops.toList t aV=true->t.length=aV.length/\∀(i:Nat)(e:AI),aV[i]?=some e->∃o,t[i]?=some o/\MO L n ops o e
 |[],[],_=>⟨rfl,fun i e h=>by simp at h⟩
 |o::r,e::s,h=>by
  simp only[AY,bT]at h;obtain⟨d,l⟩:=Hy h.2;refine⟨by simp[d],fun i u a=>?_⟩;cases i with
  |zero=>simp at a;subst a;exact⟨o,rfl,acA hc h.1⟩
  |succ i=>exact l i u (by simpa using a)
 |[],_::_,h=>by simp[AY]at h
 |_::_,[],h=>by simp[AY]at h
theorem ad3{aV:List AI}(h:AY L n ops.toList ops.toList aV=true):RI L n ops aV:=by
 obtain⟨e,t⟩:=Hy hc h;exact⟨by simpa using e,fun i a s=>by obtain⟨o,r,d⟩:=t i a s;exact⟨o,by simpa using r,d⟩⟩
end
def Qu:List Oper->List Nat->List Nat
 |[],t=>t
 |o::r,t=>Qu r (t++[o.after.toList.foldl (fun m e=>if Region.binds .any e then m|||2^e.on|||t.getD e.on 0 else m) 0])
def bit(ms:List Nat)(i j:Nat):Bool:=Nat.ble (i+1) j&&Nat.testBit (ms.getD j 0) i
def Jn(e:AI)(s:Nat):Bool:=
 ((ik e.o).any fun a=>match a with| .t i=>Nat.beq i s|_=>false)||(match e.g with|some (i,_)=>Nat.beq i s|none=>false)
def XX:qp->Bool
 | .load .. =>true
 |_=>false
def ak1(ms:List Nat)(ops:List Oper):Bool:=
 ops.zipIdx.all fun p=>(p.1.after.toList.all fun e=> !Region.binds .any e||Nat.ble (e.on+1) p.2)&&
  (List.range p.2).all fun i=> !bit ms i p.2||p.1.after.toList.any fun e=>Region.binds .any e&&(Nat.beq e.on i||bit ms i e.on)
def afY(ms:List Nat)(aV:List AI):Bool:=
 aV.zipIdx.all fun p=>match p.1.d with
  |none=>true
  |some s=>aV.zipIdx.all fun q=>Nat.beq q.2 p.2|| !(Jn q.1 s||wO q.1.d (some s))||bit ms q.2 p.2||bit ms p.2 q.2
def ajq(ms e:List Nat)(N:Nat):Bool:=
 (List.range N).all fun j=> !dU e j||(List.range j).all fun i=> !dU e i||bit ms i j
def afS(ms t:List Nat)(e:bm)(aV:List AI):Bool:=
 aV.zipIdx.all fun p=> !XX p.1.o||(List.range aV.length).all fun m=>Nat.beq p.2 m|| !dU t m||bit ms p.2 m||bit ms m p.2||sL e p.2 m
def afG(e:List Nat)(aV:List AI):Bool:=aV.zipIdx.all fun p=> !dU e p.2||Ho p.1.o
def GU(L:Lk)(n:Nat)(e ops:List Oper)(aV:List AI)(t:List Nat)(a:bm):Bool:=
 AY L n e ops aV&&(let ms:=Qu ops []
  ak1 ms ops&&afY ms aV&&ajq ms t aV.length&&afS ms t a aV&&afG t aV)
theorem rB{α:Type}{xs:List α}{x:α}(h:xs[i]?=some x):(x,i)∈xs.zipIdx:=by
 rw[List.mem_zipIdx_iff_getElem?];exact h
theorem K9{e:AI}{s:Nat}(h:looks e s):Jn e s=true:=by
 simp only[Jn,vg,Gm];rcases h with h|⟨w,h⟩
 .exact .inl ⟨.t s,h,by simp⟩
 .refine .inr ?_;rw[h];simp
section
variable{L:Lk}{n:Nat}(hc:∀f,ij L f)
include hc
theorem CN{a:List Oper}{aV:List AI}{E:List Nat}{u:bm}(I:a.length<=ops.size)(d:∀i,i<a.length->ops[i]?=a[i]?)(h:GU L n ops.toList a aV E u=true):
  zw L n ops aV E u (bit (Qu a []))/\a.length=aV.length:=by
 simp only[GU,bT]at h;obtain⟨N,⟨⟨⟨T,S⟩,H⟩,R⟩,D⟩:=h;generalize Qu a []=U at*;obtain⟨C,M⟩:=Hy hc N
 have A:∀{i j:Nat},bit U i j=true->i<j:=fun{i j}h=>by
  simp only[bit,bT]at h;exact cb h.1
 refine⟨⟨by omega,fun i y c _=>by
  obtain⟨o,O,t⟩:=M i y c;have:=(bV.1 O).1;exact⟨o,by rw[d i this];exact O,t⟩,fun i j=>A,?_,?_,?_,?_,?_,?_⟩,C⟩
 .intro i j o f r p;have r:a[j]?=some o:=by rw[<-d j om];exact r
  have q:=kI.1 T _ (rB (xs:=a) (i:=j) (x:=o) r);simp only[bT]at q;have t:=kI.1 q.2 i (rb.2 (A p));simp only[p,Dh,JI,Gm,bT,vg]at t;obtain⟨e,v,b,F⟩:=t;exact⟨e,by simpa using v,b,F.imp (fun h=>dL h) id⟩
 .intro j o e f r v p;have r:a[j]?=some o:=by rw[<-d j om];exact r
  have q:=kI.1 T _ (rB (xs:=a) (i:=j) (x:=o) r);simp only[bT]at q;have t:=kI.1 q.1 e (by simpa using v);simp only[p,Dh,JI]at t;exact cb t
 .intro i j y K s c f l Y w;have q:=kI.1 S _ (rB f);simp only[Y]at q;have t:=kI.1 q _ (rB c);simp only[vg,JD]at t;rcases t with((t|t)|t)|t
  .exact absurd (dL t) l
  .rcases w with w|w
   .rw[K9 w]at t;simp at t
   .rw[w]at t;simp[wO]at t
  .exact .inl t
  .exact .inr t
 .intro i j P f V B;have q:=kI.1 H j (rb.2 f);grind
 .intro i m k J x y c r g l z;have q:=kI.1 R _ (rB c);simp only[r,XX,Dh,JI]at q;have t:=kI.1 q m (rb.2 g);simp only[z,Dh,Bool.or_false,vg]at t;rcases t with((t|t)|t)|t
  .exact absurd (dL t) l
  .exact .inl t
  .exact .inr (.inl t)
  .exact .inr (.inr t)
 .intro k y G g;have q:=kI.1 D _ (rB G);simpa[g]using q
end
def wu(o:Oper)(q:Nat):Bool:=o.after.toList.any fun e=>Region.binds .any e&&Nat.beq e.on q
theorem pL{q:Nat}(h:wu o q=true):∃e,e∈o.after/\Region.binds .any e=true/\e.on=q:=by
 simp only[wu,Gm,bT]at h;obtain⟨e,t,a,i⟩:=h;exact⟨e,by simpa using t,a,dL i⟩
def zA(o:Oper)(j:Nat):Bool:=o.after.toList.all fun e=> !Region.binds .any e||Nat.ble (e.on+1) j
theorem rh{j:Nat}(h:zA o j=true)(e:Edge)(t:e∈o.after)(a:Region.binds .any e=true):e.on<j:=by
 have:=kI.1 h e (by simpa using t);simp only[a,Dh,JI]at this;exact cb this
def rY(x:Operand)(d:Nat):Bool:=match x with| .tmp s=> !Nat.beq s d|_=>true
theorem nW{d:Nat}(h:rY x d=true):x≠.tmp d:=by
 intro e;subst e;simp[rY]at h
def xX{α:Type}:Option α->Bool|none=>true|some _=>false
theorem pP{α:Type}{x:Option α}(h:xX x=true):x=none:=by cases x with|none=>rfl|some _=>cases h
def QZ(L:Lk)(n:Nat)(ops:List Oper)(p:Nat)(T:uI):Bool:=
 match ops.drop p with
 |[l,u,o,h,r]=>match l.op,u.op,o.op,h.op,r.op with
  | .call c,.indexAddr E A m,.store w g v,.fieldAddr s base fj,.store O k j=>
   (match c.callee with| .builtin .append=>true|_=>false)&&(match c.args.toList,c.argTypes.toList with
   |[x,y],[t,I]=>Nat.beq t I&&Nat.beq E t&&(match A,g,k,j with| .tmp a,.tmp b,.tmp c,.tmp d=>Nat.beq a T.d&&Nat.beq b T.e&&Nat.beq c T.q&&Nat.beq d T.d|_,_,_,_=>false)&&
    rO L t (fun e i=>(Nat.beq T.md 0||(Nat.ble i.size 999&&Nat.beq e (L.tn (T.md/10))&&Cj L e T.z))&&Nat.beq w e&&(!Nat.beq (oR T.z i.size) 1000||Nat.beq e L.u8)&&Nat.beq T.es i.size&&Nat.beq T.bytes i.bytes&&Nat.ble 1 i.size&&Nat.ble 1 i.bytes&&Nat.beq (gw (oR T.z i.size)) i.size&&(match i.zero with|some N=>Nat.beq N.cells.size i.size|none=>false))&&
    du L x T.x&&du L m T.n&&du L y T.y&&du L v T.v&&du L base T.base&&
    (match L.P.underlying s with
     |some (.struct S)=>(match S[fj]? with
      |some f=>Nat.beq f.offset T.off&&(match L.P.info? f.type with|some H=>Nat.ble 1 H.size|none=>false)
      |none=>false)
     |_=>false)&&Cd L O 1
   |_,_=>false)&&
   wO l.dst (some T.d)&&wO u.dst (some T.e)&&wO o.dst none&&wO h.dst (some T.q)&&wO r.dst none&&xX l.guard&&xX u.guard&&xX o.guard&&xX h.guard&&xX r.guard&&
   Nat.ble (T.d+1) n&&Nat.ble (T.e+1) n&&Nat.ble (T.q+1) n&& !Nat.beq T.d T.e&& !Nat.beq T.d T.q&& !Nat.beq T.e T.q&&
   rY m T.d&&rY m T.e&&rY m T.q&&rY v T.d&&rY v T.e&&rY v T.q&&rY base T.d&&rY base T.e&&rY base T.q&&
   ((List.range p).all fun i=>wu l i)&&wu u p&&wu o (p+1)&&wu h p&&wu r (p+3)&&
   zA l p&&zA u (p+1)&&zA o (p+2)&&zA h (p+3)&&zA r (p+4)
  |_,_,_,_,_=>false
 |_=>false
def UZ(L:Lk)(n:Nat)(ops:List Oper)(d r:Nat):Bool:=
 match ops with
 |[h,o,s,a]=>match h.op,o.op,s.op,a.op with
  | .alloc t,.store l (.tmp u) (.const (.bool true)),.store c (.tmp m) (.const (.bool false)),.load f (.tmp w)=>
   Nat.beq u d&&Nat.beq m d&&Nat.beq w d&&wO h.dst (some d)&&wO o.dst none&&wO s.dst none&&wO a.dst (some r)&&xX h.guard&&xX o.guard&&xX s.guard&&xX a.guard&&
   (match L.P.info? t with|some i=>(match i.zero with|some (.bool false)=>true|_=>false)|none=>false)&&Cd L l 1&&Cd L c 1&&Uu L f 1 false&&Nat.ble (d+1) n&&Nat.ble (r+1) n&&
   (h.after.toList.all fun e=> !Region.binds .any e)&&wu o 0&&zA o 1&&wu s 0&&zA s 1&&wu a 1&&wu a 2&&zA a 3
  |_,_,_,_=>false
 |_=>false
theorem YT{L:Lk}{n d r:Nat}(h:UZ L n ops.toList d r=true):OX L n ops d r:=by
 unfold UZ at h;split at h
 rotate_left
 .cases h
 rename_i w y p v b;split at h
 rotate_left
 .cases h
 rename_i t g x1 k x2 j x3 q x z E;simp only[bT]at h;obtain⟨⟨⟨⟨⟨⟨⟨⟨⟨⟨⟨⟨⟨⟨⟨⟨⟨⟨⟨⟨⟨⟨⟨⟨u,c⟩,m⟩,d0⟩,T⟩,A⟩,O⟩,I⟩,N⟩,S⟩,H⟩,l⟩,R⟩,D⟩,U⟩,C⟩,M⟩,e0⟩,F⟩,Y⟩,P⟩,V⟩,B⟩,G⟩,K⟩:=h;have u:=dL u;have c:=dL c;have m:=dL m;subst u;subst c;subst m;have o:ops=#[w,y,p,v]:=by apply nD;exact b
 split at l
 rotate_left
 .cases l
 rename_i i J;split at l
 rotate_left
 .cases l
 rename_i f;obtain⟨Q,X,Z⟩:=tJ L R;obtain⟨i2,u3,u4⟩:=tJ L D;obtain⟨⟨i3,u5,u6⟩,⟨dd,u7,u8⟩,_⟩:=Au L U
 refine .mk w y p v t g k j i Q i2 i3 dd o q x z E (mY d0) (mY T) (mY A) (mY O) (pP I) (pP N) (pP S) (pP H) J f X Z u3 u4 u5 u6 u7 u8
  (cb C) (cb M) (fun e a=>?_) ⟨pL F,fun e a s=>?_⟩ ⟨pL P,fun e a s=>?_⟩ ⟨pL B,pL G,fun e a s=>rh K e a s⟩
 .grind
 .have:=rh Y e a s;omega
 .have:=rh V e a s;omega
theorem Y3{α:Type}{xs r:List α}(h:xs.drop p=r)(i:Nat):xs[p+i]?=r[i]?:=by rw[<-h,mE]
set_option maxHeartbeats 1000000 in
theorem OH{L:Lk}{n:Nat}{T:uI}(hp:p<=ops.size)(h:QZ L n ops.toList p T=true):∃D,GH L n ops p T D:=by
 unfold QZ at h;split at h
 rotate_left
 .cases h
 rename_i o8 o9 w b g hd;split at h
 rotate_left
 .cases h
 rename_i c t9 x9 nn e10 ed v s base fj th el em q8 q9 H R U;simp only[bT]at h;obtain⟨⟨⟨⟨⟨⟨⟨⟨⟨⟨⟨⟨⟨⟨⟨⟨⟨⟨⟨⟨⟨⟨⟨⟨⟨⟨⟨⟨⟨⟨⟨⟨⟨⟨⟨⟨hc,k⟩,d8⟩,d9⟩,d10⟩,d11⟩,d12⟩,g8⟩,g9⟩,g10⟩,g11⟩,g12⟩,l1⟩,l2⟩,l3⟩,n1⟩,n2⟩,n3⟩,m1⟩,m2⟩,m3⟩,m4⟩,m5⟩,m6⟩,m7⟩,m8⟩,m9⟩,e8⟩,e9⟩,z⟩,e11⟩,e12⟩,b8⟩,b9⟩,C⟩,M⟩,F⟩:=h;obtain⟨I,r,E⟩:=c;obtain⟨r⟩:=r;obtain⟨E⟩:=E;simp only at hc k;split at hc
 rotate_left
 .cases hc
 split at k
 rotate_left
 .cases k
 rename_i x y t t2;simp only[bT]at k;obtain⟨⟨⟨⟨⟨⟨⟨⟨⟨⟨Y,P⟩,N⟩,k4⟩,a1⟩,a2⟩,a3⟩,a4⟩,a5⟩,m⟩,k6⟩:=k;have Y:=dL Y;subst Y;have P:=dL P;subst P;split at N
 rotate_left
 .cases N
 simp only[bT]at N;obtain⟨⟨⟨V,B⟩,G⟩,K⟩:=N;have V:=dL V;have B:=dL B;have G:=dL G;have K:=dL K;subst V;subst B;subst G;subst K;obtain⟨e,i,s1,s2,s3⟩:=lj L k4;simp only[bT]at s3;obtain⟨⟨⟨⟨⟨⟨⟨⟨S,J⟩,d⟩,u3⟩,u4⟩,u5⟩,u6⟩,u7⟩,Q⟩:=s3;have J:=dL J;subst J;split at Q
 rotate_left
 .cases Q
 rename_i zv hz;split at m
 rotate_left
 .cases m
 rename_i fs X;split at m
 rotate_left
 .cases m
 rename_i f hf;simp only[bT]at m;obtain⟨v1,Z⟩:=m;split at Z
 rotate_left
 .cases Z
 rename_i fi IK;obtain⟨ih,w1,w2⟩:=tJ L k6;have a:∀i,ops[p+i]?=[o8,o9,w,b,g][i]?:=fun i=>by rw[<-Y3 hd i];simp
 have cz:ops.size=p+5:=by
  have:=congrArg List.length hd;simp at this;omega
 refine⟨⟨o8,o9,w,b,g,x,nn,y,v,base,t9,e10,s,th,i,ih,fi,zv,fs,f,fj⟩,?_⟩
 exact {
  size:=cz
  h8:=a 0
  h9:=a 1
  yu:=a 2
  Dm:=a 3
  Fq:=a 4
  op8:=q8
  op9:=q9
  aim:=H
  ain:=R
  aio:=U
  d8:=mY d8
  d9:=mY d9
  d10:=mY d10
  d11:=mY d11
  d12:=mY d12
  g8:=pP g8
  g9:=pP g9
  g10:=pP g10
  g11:=pP g11
  g12:=pP g12
  ht:=s1
  hi:=s2
  hz:=hz
  yF:=dL Q
  eP:=cb u5
  pM:=cb u6
  ahY:=fun ee=>by
   simp only[vg,bT]at S;rcases S with S|⟨⟨et,eo⟩,ei⟩
   .exact absurd (dL S) ee
   .obtain⟨i',ef,z1,z2,z3⟩:=vY L ei;rw[s2]at z1;cases z1;rw[hz]at z2;cases z2;exact⟨Rn (cb et),z3,dL eo⟩
  kM:=dL u7
  Ky:=fun hk=>by
   simp only[vg,JD]at d;rcases d with d|d
   .simp only at hk;rw[hk]at d;cases d
   .exact dL d
  dF:=dL u3
  xl:=dL u4
  hx:=bn a1
  hn:=bn a2
  hy:=bn a3
  hv:=bn a4
  wz:=bn a5
  hs:=X
  hf:=hf
  IK:=IK
  cz:=by have:=cb Z;simp only;omega
  yB:=dL v1
  hth:=w1
  hih:=w2
  ltd:=cb l1
  lte:=cb l2
  ltq:=cb l3
  de:=fun e=>by rw[e]at n1;simp at n1
  dq:=fun e=>by rw[e]at n2;simp at n2
  eq:=fun e=>by rw[e]at n3;simp at n3
  nnd:=nW m1
  nne:=nW m2
  nnq:=nW m3
  vd:=nW m4
  ve:=nW m5
  vq:=nW m6
  bd:=nW m7
  be:=nW m8
  bq:=nW m9
  e8:=fun i hi=>pL (kI.1 e8 i (rb.2 hi))
  e9:=pL e9
  e10:=pL z
  e11:=pL e11
  e12:=pL e12
  back:=fun j o e hj l A O=>by
   have ey:=(nx.1 l).1;have u:∃q,j=p+q/\q<5:=⟨j-p,by omega,by omega⟩;obtain⟨q,rfl,hq⟩:=u;rw[a q]at l
   match q,hq with
   |0,_=>cases l;exact rh b8 e A O
   |1,_=>cases l;exact rh b9 e A O
   |2,_=>cases l;exact rh C e A O
   |3,_=>cases l;exact rh M e A O
   |4,_=>cases l;exact rh F e A O}
def Yf(l:List Oper)(aV:List AI)(ms:List Nat)(p:Nat):Bool:=
 let q:=(qD p aV).length
 Nat.ble (p+1) aV.length&&dU ms p&&Nat.ble (p+1) q&&Nat.ble q aV.length&&(l.zipIdx.all fun x=>Nat.ble (x.2+1) q||x.1.after.toList.any fun e=>Region.binds .any e&&(Nat.beq e.on p||Nat.ble q e.on))&&
  ((List.range q).all fun j=>Nat.ble j p||(!dU ms j&&match aV[j]?,aV[p]? with
   |some t,some a=>(match t.d with|some s=> !Jn a s|none=>true)
   |_,_=>false))
theorem TP{aV:List AI}{ms:List Nat}(h:Yf ops.toList aV ms p=true):Xc ops aV ms p (qD p aV).length:=by
 simp only[Yf,bT]at h;obtain⟨⟨⟨⟨⟨n,r⟩,d⟩,l⟩,u⟩,c⟩:=h;refine⟨cb n,r,cb d,cb l,fun j o m f=>?_,fun j m w=>?_⟩
 .have y:(o,j)∈ops.toList.zipIdx:=cP.2 ⟨j,by simp[List.getElem?_zipIdx,f]⟩;have t:=kI.1 u _ y;simp only[vg]at t;rcases t with t|t
  .have:=cb t;omega
  .obtain⟨e,v,a⟩:=Gm.1 t;simp only[bT,vg]at a;exact⟨e,by simpa using v,a.1,a.2.imp dL cb⟩
 .have t:=kI.1 c j (rb.2 w);simp only[vg,bT]at t;rcases t with t|⟨t,i⟩
  .have:=cb t;omega
  .refine⟨by simpa using t,fun x z s b g k q=>?_⟩;rw[b,g]at i;simp only[k,K9 q]at i;cases i
def fy(L:Lk)(n:Nat):Code->AC->Bool
 |_,.bad=>true
 | .skip,.skip=>true
 | .seq x y,.seq a b=>fy L n x a&&fy L n y b
 | .cond c x y,.cond s a b=>du L c s&&fy L n x a&&fy L n y b
 | .block i x,.block j a=>Nat.beq i j&&fy L n x a
 | .loop x,.loop a=>fy L n x a
 | .exit i,.exit j=>Nat.beq i j
 | .ret,.ret=>true
 | .region _ ops false,.j9 e false=>AY L n ops.toList ops.toList e
 | .region _ ops true,.yY e o t=>GU L n ops.toList ops.toList e o t
 | .region _ ops true,.yX e o t T=>GU L n ops.toList (ops.toList.take e.length) e o t&&QZ L n ops.toList e.length T
 | .region _ ops true,.uD e o t p=>GU L n ops.toList ops.toList e o t&&Yf ops.toList e o p
 | .region _ ops true,.Bz d r=>UZ L n ops.toList d r
 | .region _ ops true,.FQ e o t T p=>GU L n ops.toList (ops.toList.take e.length) e o t&&QZ L n ops.toList e.length T&&Yf ops.toList e o p
 |_,_=>false
section
variable{L:Lk}{n:Nat}(hc:∀f,ij L f)(hm:L.P.follows .mixedOrders=true)
include hc hm
theorem YS:∀(c:Code)(a:AC),fy L n c a=true->fS L n c a:=by
 intro c
 induction c with
 |skip=>intro a h;cases a<;>first|exact .bad _|exact .skip|(simp[fy]at h;done)
 |ret=>intro a h;cases a<;>first|exact .bad _|exact .ret|(simp[fy]at h;done)
 |exit i=>intro a h;cases a<;>first|exact .bad _|(simp[fy]at h;done)|(rw[dL h];exact .exit _)
 |seq x y t o=>
  intro a h;cases a<;>first|exact .bad _|(simp[fy]at h;done)|skip
  simp only[fy,bT]at h;exact .seq (t _ h.1) (o _ h.2)
 |cond c x y t o=>
  intro a h;cases a<;>first|exact .bad _|(simp[fy]at h;done)|skip
  simp only[fy,bT]at h;exact .cond (bn h.1.1) (t _ h.1.2) (o _ h.2)
 |block i x m=>
  intro a h;cases a<;>first|exact .bad _|(simp[fy]at h;done)|skip
  simp only[fy,bT]at h;rw[dL h.1];exact .block (m _ h.2)
 |loop x m=>
  intro a h;cases a<;>first|exact .bad _|(simp[fy]at h;done)|skip
  exact .loop (m _ h)
 |region i ops d=>
  intro a h;cases d with
  |false=>
   cases a with
   |j9 e b=>
    cases b with
    |false=>exact .j9 (ad3 hc h)
    |true=>simp[fy]at h
   |bad=>exact .bad _
   |_=>simp[fy]at h
  |true=>
   cases a with
   |yY e f s=>
    obtain⟨l,u⟩:=CN hc si (fun i _=>by simp) h;exact .yY hm l (by simpa using u)
   |yX e f s T=>
    simp only[fy,bT]at h;obtain⟨l,u⟩:=CN hc (by simp;omega) (fun i w=>by rw[ra]at w;rw[jC om];simp) h.1;obtain⟨D,v⟩:=OH (by simp at u;omega) h.2;exact .yX hm l v
   |uD e f s p=>
    simp only[fy,bT]at h;obtain⟨l,u⟩:=CN hc si (fun i _=>by simp) h.1;exact .uD hm l (by simpa using u) (TP h.2)
   |FQ e f s T p=>
    simp only[fy,bT]at h;obtain⟨l,u⟩:=CN hc (by simp;omega) (fun i w=>by rw[ra]at w;rw[jC om];simp) h.1.1;obtain⟨D,v⟩:=OH (by simp at u;omega) h.1.2;exact .FQ hm l v (TP h.2)
   |Bz d r=>exact .Bz hm (YT h)
   |bad=>exact .bad _
   |_=>simp[fy]at h
 |_=>intro a h;cases a<;>first|exact .bad _|(simp[fy]at h;done)
end
def wR(L:Lk):List ResultVar->List yh->Bool
 |[],[]=>true
 | .tmp i::r,.t j::s=>Nat.beq i j&&wR L r s
 | .cell i t::r,.c j m e::s=>Nat.beq i j&&Uu L t m e&&wR L r s
 |_,_=>false
theorem Hz{L:Lk}:∀{n:List ResultVar}{as:List yh},wR L n as=true->n.length=as.length/\∀(j:Nat)(r:ResultVar)(a:yh),n[j]?=some r->as[j]?=some a->GG L r a
 |[],[],_=>⟨rfl,fun j r a h=>by simp at h⟩
 | .tmp i::r,.t j::s,h=>by
  simp only[wR,bT]at h;obtain⟨d,l⟩:=Hz h.2;refine⟨by simp[d],fun k x y e o=>?_⟩;cases k with
  |zero=>simp at e o;subst e;subst o;rw[dL h.1];exact .t _
  |succ k=>exact l k x y (by simpa using e) (by simpa using o)
 | .cell i t::r,.c j m u::s,h=>by
  simp only[wR,bT]at h;obtain⟨d,l⟩:=Hz h.2;refine⟨by simp[d],fun k x y e o=>?_⟩;cases k with
  |zero=>simp at e o;subst e;subst o;rw[dL h.1.1];exact .c _ _ _ _ (Au L h.1.2)
  |succ k=>exact l k x y (by simpa using e) (by simpa using o)
 |[],_::_,h=>by simp[wR]at h
 | .tmp _::_,[],h=>by simp[wR]at h
 | .cell _ _::_,[],h=>by simp[wR]at h
 | .tmp _::_,.c _ _ _::_,h=>by simp[wR]at h
 | .cell _ _::_,.t _::_,h=>by simp[wR]at h
def II(L:Lk)(f:Nat)(af:AF):Bool:=
 match L.P.funcs[L.fn f]? with
 |some fn=>match fn.body with
  |some e=>fy L af.nt e af.body&&Nat.beq fn.ntmps af.nt&&wR L fn.results.toList af.res&&Nat.ble af.np af.nt
  |none=>false
 |none=>false
theorem XA{L:Lk}(hc:∀f,ij L f)(hm:L.P.follows .mixedOrders=true){af:AF}(h:II L f af=true):aJ L f af:=by
 unfold II at h;split at h
 .rename_i fn t;split at h
  .rename_i e o;simp only[bT]at h;obtain⟨⟨⟨i,n⟩,s⟩,d⟩:=h;obtain⟨l,u⟩:=Hz s;exact⟨⟨fn,e,t,o,YS hc hm e _ i,dL n,by simpa using l,fun j r a c m=>u j r a (by simpa using c) m⟩,cb d⟩
  .cases h
 .cases h
def Fe(P:Program)(f:FuncId):Bool:=
 match P.funcs[f]? with
 |some fn=>(fn.name != "runtime.NumGoroutine")&&fn.body.isSome
 |none=>false
theorem RY{L:Lk}(h:Fe L.P (L.fn f)=true):ij L f:=by
 unfold Fe at h;split at h
 .rename_i fn a;simp only[bT,bne_iff_ne,ne_eq]at h;obtain⟨o,i⟩:=h;obtain⟨c,e⟩:=HQ.1 i;intro t w;simp[callFunc,a,o,e]
 .cases h
def c10:AF:=aU (bw 2 27 [.t 4] [J 4,bo,aG [J 6,0,dA,1,dA,lh 7 9,bg 10 [J 4,bo]],aG [eG,fG 0 [aG [J 11,5,0,dA,gu 11 13,fI 14 0],cU 1 [ea [J 17,0,5,pF 34 17,iY 34,1,5,pF 34 21,iY 34,dY 30 [20,24]] [] [],bg 26 [J 4,bo]],J 15,5,gm 5]],J 4,fP,aX])
def c26:AF:=aU (bw 2 19 [.t 4,.t 5] [J 4,eG,lE (.k .mW),.s,0,cG 100,.s,0,0,dc,1,fk (.HX (.t 12) (.t 13)),fE 8 1 16 14,.s,1,gO,gC,EL 5 (uY (.k .mW)),aX])
def c29:AF:=aU (bw 1 14 [.t 2] [J 2,fK,ea [0,dc,fk (.Cb 6),0,dc,dA,fk (.Iy (.t 7) (.t 12)),fu] [4,10] [(8,4)],aX])
def c30:AF:=aU (bw 2 60 [.t 4] [mD 0,mD 1,bo,aG [iR 0 0 3,lh 6 8,bg 9 [J 4,bo]],aG [J 10,iR 1 1 3,sM 11 13,bg 14 [J 4,bo]],aG [J 15,jR 2 2 7,jR 2 3 7,dY 106 [16,18],bg 20 [J 4,bo]],aG [J 21,iR 9 9 3,lh 22 24,bg 25 [J 4,bo]],aG [J 26,iR 10 10 3,lh 27 29,bg 30 [J 4,bo]],aG [J 31,iR 11 11 3,sM 32 34,bg 35 [J 4,bo]],aG [J 36,jR 12 2 3,jR 12 3 3,dY 107 [37,39],bg 41 [J 4,bo]],aG [J 42,jR 15 2 5,jR 15 3 5,dY 108 [43,45],bg 47 [J 4,bo]],aG [J 48,jR 20 2 8,jR 20 3 8,dY 109 [49,51],bg 53 [J 4,bo]],aG [J 54,jR 28 2 6,jR 28 3 6,dY 110 [55,57],bg 59 [J 4,bo]],J 4,fP,aX])
def c65:AF:=aU (bw 3 15 [.t 6] [J 6,bo,.s,0,1,YD 7 8,9,cO 10 [0,2,YE 11 12],er 10 13 6,aX])
def c68:AF:=aU (bw 1 47 [.t 2] [J 2,bo,aG [J 4,0,gO,dY 65 [5,zi 1,zi 8],7,dM 8 [0,zqX 9 (zi 0),Mh 97],cL 8,12,dM 13 [0,zqX 14 (zi 0),Mg 122],cL 13,bg 17 [J 2,bo]],aG [eG,fG 0 [aG [J 18,3,0,gO,gu 18 20,fI 21 0],cU 1 [J 24,0,3,mG 24,EN 97,27,cO 28 [0,3,mG 29,EO 122],di 28 32,33,dM 34 [0,3,mG 35,EN 48,38],cO 39 [0,3,mG 40,EO 57],dM 34 [di 39 43],cL 34,nq,bg 46 [J 2,bo]],J 22,3,gm 3]],J 2,fP,aX])
def c69:AF:=aU (bw 1 22 [.t 2] [jx,bo,.s,cA 0,cG 68,5,cO 6 [cA 1,db 65 [8,zi 1,zi 12]],di 6 9,10,cO 11 [Ma 2 1,kY 0,gz 5],di 11 15,16,cO 17 [jR 2 1 5,cG 150],er 17 20 2,aX])
def c71:AF:=aU (bw 1 6 [.t 2] [jx,bo,.s,mJ 3 1,db 151 [3,zi 1],dO 0,fu,aX])
def c73:AF:=aU (bw 1 5 [.t 2] [jx,bo,.s,fv 1,ek 152 [3,ob] 2,aX])
def c77:AF:=aU (bw 1 28 [.t 2] [J 2,fK,aG [0,pH (-9223372036854775807),bg 4 [J 2,lE (aP [45,57,50,50,51,51,55,50,48,51,54,56,53,52,55,55,53,56,48,56])]],aG [J 5,0,pH 0,bg 6 [0,fk (.neg 7),cG 77,lV (aP [45]) 9,fu]],aG [0,pH 10,bg 12 [0,sw (zi 48) 13,fk (.conv .u8 (.t 14)),jX 1 HO,fk (.Mp 16),fu]],ea [0,fk (.eO .i64 .quo 18 (zi 10)),cG 77,0,fk (.eO .i64 .rem 21 (zi 10)),sw (zi 48) 22,fk (.conv .u8 (.t 23)),jX 1 HO,fk (.Mp 25),lV 20 26,fu] [] [],aX])
def c79:AF:=aU (bw 1 59 [.t 2] [jx,fK,aG [J 5,cA 0,cU 0 [J 8,fY 6 (zi 1) 7,bB 7 [J 2,lE (aP [110,117,109]),aX] [J 10,fY 6 (zi 2) 9,bB 9 [J 2,lE (aP [116,101,120,116]),aX] [J 12,fY 6 (zi 3) 11,bB 11 [J 2,lE (aP [102,108,97,103]),aX] [J 14,fY 6 (zi 4) 13,bB 13 [cA 2,nh 3 16,iY 3,cG 79,lV (aP [91]) 19,pG (aP [93]),fu,aX] [J 23,fY 6 (zi 6) 22,bg 22 [cA 2,nh 3 25,iY 3,cG 79,lV (aP [63]) 28,fu]]]]]]],J 3,fK,aG [eG,fG 1 [aG [J 30,4,iD 2,gu 30 33,fI 34 1],cU 2 [aG [J 37,4,dO 0,gI 38 [3,pG (aP [44]),bC 3]],ea [3,cA 1,4,iQ 1 43,lV 41 46,pG (aP [58]),cA 2,4,pF 3 50,iY 3,cG 79,lV 48 54,bC 3] [] []],J 35,4,gm 4]],J 56,3,lV (aP [123]) 56,pG (aP [125]),fu,aX])
def c80:AF:=aU (bw 1 112 [.t 2] [jx,fK,aG [J 8,cA 0,cU 0 [aG [J 11,fY 9 (zi 1) 10,bB 10 [] [fY 9 (zi 2) 10,bB 10 [] [fY 9 (zi 3) 10]]],bB 10 [cA 0,cA 1,cA 2,ji df [(0,1,15),(1,1,17),(2,1,19)],mb 154 2,aX] [J 23,fY 9 (zi 4) 22,bB 22 [cA 3,nh 1 25,nP,fu,aX] [J 29,fY 9 (zi 24) 28,bg 28 [J 3,lE (aP [102,111,114,109]),aG [eG,fG 1 [aG [J 30,4,iD 4,gu 30 33,fI 34 1],cU 2 [ea [J 37,3,EM,cA 3,4,iQ 1 40,lV 38 43,EM,cA 4,4,pF 5 47,iY 5,cG 80,lV 45 51,bC 3] [] []],J 35,4,gm 4]],J 53,3,pG (aP [32,101,110,100]),fu]]]]],cA 0,mb 155 5,aG [J 6,eG,fG 3 [aG [J 58,6,iD 3,gu 58 61,fI 62 3],cU 4 [J 65,5,EM,cA 3,6,iQ 1 68,lV 66 71,bC 5],J 63,6,gm 6]],aG [J 73,cA 2,wZ Ax,gI 75 [5,EM,cA 2,lV 77 79,bC 5]],aG [cA 0,gz 37,83,dM 84 [cA 0,gz 39],cL 84,gI 88 [5,EM,cA 1,cG 77,lV 90 93,bC 5]],aG [J 7,eG,fG 5 [aG [J 95,7,iD 4,gu 95 98,fI 99 5],cU 6 [J 102,5,EM,cA 4,7,pF 5 105,iY 5,cG 80,lV 103 109,bC 5],J 100,7,gm 7]],J 111,5,fu,aX])
def c81:AF:=aU (bw 0 2 [.t 0] [lE qV,.s,DE 1 dy 9 [(0,Ax),(1,aP [97,112,112,101,110,100]),(2,aP [115,121,110,99]),(3,aP [114,111,108,108]),(4,aP [109,101,110,100]),(5,aP [114,101,119,114,105,116,101]),(6,aP [118,101,114,115,105,111,110]),(7,aP [102,111,108,100]),(8,aP [115,110,97,112])],bC 0,aX])
def c82:AF:=aU (bw 1 17 [.t 2] [jx,fK,aG [mJ 7 1,kf 69,bg 5 [J 2,fK]],ea [J 6,cA 0,pG (aP [64]),cA 1,cG 77,lV 8 11,jR 2 1 5,cG 154,lV 12 15,fu] [] [],aX])
def c89:AF:=aU (bw 1 42 [.t 2] [J 2,bo,aG [J 5,0,gO,eG,fG 0 [gu 7 6,fI 8 0,cU 1 [7,bC 3,.s,0,3,mG 10,EN 48,13,cO 14 [0,3,mG 15,EO 57],er 14 18 4,.s,0,3,mG 20,Mh 97,23,dM 24 [0,3,mG 25,Mg 122],cL 24,29,cO 30 [4,nq,32],dM 33 [3,gy],cO 30 [cL 33],di 30 36,bg 37 [J 2,bo]],J 38,su 7,bC 7]],0,gO,ek 163 [40,zi 1,zi 8] 2,aX])
def c90:AF:=aU (bw 1 22 [.t 2] [jx,bo,.s,cA 0,cG 89,5,cO 6 [cA 1,db 163 [8,zi 1,zi 12]],di 6 9,10,cO 11 [Ma 2 1,kY 0,gz 5],di 11 15,16,cO 17 [jR 2 1 5,cG 164],er 17 20 2,aX])
def c91:AF:=aU (bw 1 6 [.t 2] [J 2,bo,.s,0,dY 165 [3,.f 166],fu,aX])
def c93:AF:=aU (bw 1 6 [.t 2] [jx,bo,.s,zh 0 [cJ 0],iP 3 (zi 0),.s,mJ 3 1,ek 167 [4,zi 1,3] 2,aX])
def agn:AF:=aU (bw 1 14 [.t 2] [jx,fK,ea [cA 0,pG (aP [64]),cA 1,cG 174,lV 5 8,jR 2 1 5,cG 175,lV 9 12,fu] [] [],aX])
def ago:AF:=aU (bw 1 7 [.t 2] [jx,fK,.s,zh 5 [.cq,dN],.s,mJ 3 1,db 176 [4,3],.s,ek 29 [3] 2,aX])
def agp:AF:=aU (bw 1 6 [.t 2] [jx,fK,.s,fv 1,db 178 [3,qV],ek 177 [4,aP [32]] 2,aX])
def agq:AF:=aU (bw 2 21 [.t 4] [mD 0,mD 1,bo,aG [iR 0 0 3,sM 6 8,bg 9 [J 4,bo]],aG [J 10,iR 1 1 3,lh 11 13,bg 14 [J 4,bo]],aG [J 15,jR 2 2 5,jR 2 3 5,dY 179 [16,18],bg 20 [J 4,bo]],J 4,fP,aX])
def c107:AF:=aU (bw 2 22 [.t 4] [mD 0,mD 1,bo,aG [iR 0 0 3,lh 6 8,bg 9 [J 4,bo]],aG [J 10,iR 1 1 3,dY 180 [11,13],bg 15 [J 4,bo]],aG [J 16,iR 2 2 3,dY 181 [17,19],bg 21 [J 4,bo]],J 4,fP,aX])
def agr:AF:=aU (bw 2 32 [.t 4] [mD 0,mD 1,bo,aG [iR 0 0 3,lh 6 8,bg 9 [J 4,bo]],aG [J 10,iR 1 1 3,lh 11 13,bg 14 [J 4,bo]],aG [J 15,iR 2 2 3,sM 16 18,bg 19 [J 4,bo]],aG [J 20,iR 3 3 3,dY 180 [21,23],bg 25 [J 4,bo]],aG [J 26,iR 4 4 3,dY 182 [27,29],bg 31 [J 4,bo]],J 4,fP,aX])
def c109:AF:=aU (bw 2 28 [.t 4] [mD 0,mD 1,bo,aG [iR 0 0 3,sM 6 8,bg 9 [J 4,bo]],aG [J 10,iR 1 1 3,dY 183 [11,13],bg 15 [J 4,bo]],aG [J 16,jR 2 2 5,jR 2 3 5,dY 179 [17,19],bg 21 [J 4,bo]],aG [J 22,iR 7 7 3,dY 184 [23,25],bg 27 [J 4,bo]],J 4,fP,aX])
def ags:AF:=aU (bw 2 36 [.t 4] [mD 0,mD 1,bo,aG [iR 0 0 3,lh 6 8,bg 9 [J 4,bo]],aG [J 10,iR 1 1 3,sM 11 13,bg 14 [J 4,bo]],aG [J 15,iR 2 2 3,fk (.ri true (.t 16) (.t 18)),bg 19 [J 4,bo]],aG [J 20,iR 3 3 3,lh 21 23,bg 24 [J 4,bo]],aG [J 25,iR 4 4 3,lh 26 28,bg 29 [J 4,bo]],aG [J 30,iR 5 5 3,dY 185 [31,33],bg 35 [J 4,bo]],J 4,fP,aX])
def agx:AF:=aU (bw 2 19 [.t 4] [J 4,eG,aG [J 6,0,dA,eG,fG 0 [gu 8 7,fI 9 0,cU 1 [8,bC 5,.s,1,0,5,iQ 1 12,qd 11 15,bg 16 [5,gC]],su 8,bC 8]],J 4,sr,aX])
def c127:AF:=aU (bw 1 41 [.c 2 3 true,.t 3] [J 2,zh 0 eL,bo,aG [J 6,0,gO,dO 800,bg 8 [fD eL,fM 3 2,qH 3]],0,ji [fq,cJ 0,uX] [(0,1,10)],jx,gC,.s,4,db 205 [13,zi 1],oV 5 eL,fM 3 5,aG [4,eU 2,18,dM 19 [4,dc,0,gO,lh 23 25],cL 19,27,dM 28 [mJ 3 5,kf 71],cL 28,32,dM 33 [mJ 3 5,cG 79,0,sM 35 36],cL 33,bg 38 [fD eL,fM 3 2,qH 3]],mJ 3 5,fM 3 2,tM 3,aX])
def c138:AF:=aU (bw 1 34 [.c 2 3 true,.t 3] [J 2,zh 0 eL,bo,aG [J 6,0,gO,dO 800,bg 8 [fD eL,fM 3 2,qH 3]],0,ji [fq,uX] [(0,1,10)],jx,gC,.s,4,db 220 [13,zi 1],oV 5 eL,fM 3 5,aG [4,dc,18,dM 19 [4,eU 0,wZ Ax],cL 19,25,dM 26 [mJ 3 5,cG 221,0,sM 28 29],cL 26,bg 31 [fD eL,fM 3 2,qH 3]],mJ 3 5,fM 3 2,tM 3,aX])
def agz:AF:=aU (bw 1 6 [.t 2] [jx,bo,.s,fv 1,db 237 [3,zi 1],dO 0,fu,aX])
def agA:AF:=aU (bw 2 93 [.t 4] [mD 0,EL 4 (uY (zi 0)),.s,J 9,cC 2,dA,bC 5,aG [1,dO 6,13,dM 14 [cC 0,dY 65 [16,zi 1,zi 6]],cL 14,bg 19 [J 4,sr]],aG [J 20,cC 0,gz 5,22,cO 23 [cC 1,dA,5,lh 26 27,28],dM 29 [cC 1,kf 238],cO 23 [cL 29],di 23 34,35,dM 36 [cC 0,sy 5,39],cO 40 [cC 1,dA,dO 0],dM 36 [di 40 44],cL 36,bg 46 [J 4,sr]],aG [J 47,cC 0,pH 4,49,cO 50 [5,dO 0],di 50 52,53,dM 54 [cC 0,gz 4,57],dM 58 [cC 0,gz 6],dM 54 [cL 58,62],cO 63 [5,sy 1],dM 54 [di 63 65],cL 54,bg 67 [J 4,sr]],J 6,lE (zi 1),aG [eG,fG 0 [aG [J 68,7,5,gu 68 69,fI 70 0],cU 1 [J 73,cC 2,7,pF 3 74,iY 3,1,dX,ek 151 [77,79] 8,aG [8,pH 0,82,dM 83 [6,8,sw 84 85,dO 40],cL 83,bg 88 [J 4,sr]],J 89,6,8,sw 89 90,bC 6],J 71,7,gm 7]],J 92,6,gC,aX])
def c152:AF:=aU (bw 2 15 [.t 4] [mD 0,qH 4,.s,J 5,fv 2,1,db 239 [5,6,zi 1],dO 0,8,cO 9 [fv 2,cG 80,gO,u9 3000],er 9 13 4,aX])
def c154:AF:=aU (bw 1 74 [.t 2] [jx,fK,aG [J 5,cA 0,cU 0 [J 8,fY 6 (zi 1) 7,bB 7 [cA 1,mb 77 2,aX] [J 13,fY 6 (zi 2) 12,bB 12 [cA 2,lV (aP [34]) 15,pG (aP [34]),fu,aX] [J 19,fY 6 (zi 3) 18,bB 18 [aG [cA 1,gz 1,bg 22 [J 2,lE (aP [121,101,115])]],J 2,lE (aP [110,111]),aX] [J 24,fY 6 (zi 6) 23,bg 23 [aG [iD 4,gy,bg 28 [J 2,lE (aP [126])]],J 29,cA 4,nh 5 30,iY 5,cG 154,lV (aP [63]) 33,fu]]]]]],J 3,fK,aG [eG,fG 1 [aG [J 35,4,iD 4,gu 35 38,fI 39 1],cU 2 [aG [J 42,4,dO 0,gI 43 [3,pG (aP [44]),bC 3]],aG [cA 0,gz 5,gI 48 [3,cA 3,4,iQ 1 51,lV 49 54,pG (aP [58]),bC 3]],3,cA 4,4,pF 5 59,iY 5,cG 154,lV 57 63,bC 3],J 40,4,gm 4]],aG [J 65,cA 0,gz 5,bg 67 [3,lV (aP [123]) 68,pG (aP [125]),fu]],3,lV (aP [91]) 71,pG (aP [93]),fu,aX])
def agB:AF:=aU (bw 1 11 [.t 2] [J 2,fK,aG [0,dY 65 [3,zi 5,zi 43],bg 5 [J 2,fK]],J 6,DE 1 dy 39 [(0,aP [110,111,110,101]),(1,aP [101,109,112,116,121]),(2,aP [115,111,109,101]),(3,aP [111,110,101]),(4,aP [97,100,100]),(5,aP [115,117,98]),(6,aP [109,117,108]),(7,aP [100,105,118]),(8,aP [114,101,109]),(9,aP [108,101,115,115]),(10,aP [115,97,109,101]),(11,aP [97,110,100]),(12,aP [111,114]),(13,aP [110,111,116]),(14,aP [105,102]),(15,aP [108,101,116]),(16,aP [103,101,116]),(17,aP [112,117,116]),(18,aP [99,117,116]),(19,aP [102,111,114,109]),(20,aP [97,116]),(21,aP [115,105,122,101]),(22,aP [106,111,105,110]),(23,aP [112,97,114,116]),(24,aP [115,104,111,119]),(25,aP [114,101,97,100]),(26,aP [101,108,115,101]),(27,aP [99,97,115,101]),(28,aP [109,97,112]),(29,aP [107,101,101,112]),(30,aP [102,111,108,100]),(31,aP [100,114,111,112]),(32,aP [102,97,105,108]),(33,aP [101,109,105,116]),(34,aP [115,101,110,100]),(35,aP [98,111,116,104]),(36,aP [99,104,111,111,115,101]),(37,aP [116,97,107,101]),(38,aP [101,97,99,104])],0,va 5,iQ 1 6,fu,aX])
def agC:AF:=aU (bw 3 15 [.t 6] [J 6,bo,.s,1,0,YE 7 8,9,cO 10 [0,2,YE 11 12],er 10 13 6,aX])
def c164:AF:=aU (bw 1 6 [.t 2] [jx,bo,.s,fv 1,cG 243,dO 0,fu,aX])
def agD:AF:=aU (bw 2 9 [.t 4] [J 4,bo,.s,0,1,db 244 [5,6],yd 0,gC,aX])
def agE:AF:=aU (bw 1 6 [.t 2] [J 2,bo,.s,0,dY 163 [3,zi 0,zi 999999],fu,aX])
def c167:AF:=aU (bw 3 41 [.t 6] [mD 0,qH 6,.s,J 9,2,Mi,nP,dX,zqy 9,iP 13 12,aG [1,dO 6,15,dM 16 [2,Mi,nP,dO 40],cL 16,21,dM 22 [mJ 3 3,kf 245],cL 22,bg 26 [J 6,bo]],aG [J 27,gr 2 3,dA,eG,fG 0 [gu 30 29,fI 31 0,cU 1 [Ck 3 28 30,iY 3,oV 8 eL,fM 3 8,.s,mJ 3 8,1,dX,2,dY 167 [34,36,37],bg 39 [J 6,bo]],J 40,su 30,bC 30]],J 6,fP,aX])
def c175:AF:=aU (bw 1 7 [.t 2] [jx,fK,.s,zh 5 [.cq,dN],.s,fv 1,db 249 [4,3],.s,ek 29 [3] 2,aX])
def agF:AF:=aU (bw 2 70 [] [mD 0,.s,J 6,cC 0,cU 0 [J 37,fY 7 (zi 1) 36,bB 36 [1,db 26 [38,aP [110,117,109]]] [J 41,fY 7 (zi 2) 40,bB 40 [1,db 26 [42,aP [116,101,120,116]]] [J 45,fY 7 (zi 3) 44,bB 44 [1,db 26 [46,aP [102,108,97,103]]] [J 49,fY 7 (zi 4) 48,bB 48 [1,db 250 [50,jB 91],.s,cC 2,nh 3 53,iY 3,1,db 176 [55,56],.s,1,db 250 [58,jB 93]] [J 61,fY 7 (zi 6) 60,bB 60 [1,db 250 [62,jB 63],.s,cC 2,nh 3 65,iY 3,1,db 176 [67,68]] [J 8,1,db 250 [8,jB 123],aG [cC 2,dA,eG,fG 1 [gu 13 12,fI 14 1,cU 2 [13,Ck 3 11 13,iY 3,oV 5 eL,uH 4 15,fM 3 5,aG [4,dO 0,gI 19 [1,db 250 [20,jB 44]]],1,cC 1,4,iQ 1 24,pG (aP [58]),db 26 [22,28],.s,mJ 3 5,1,db 176 [30,31]],su 13,bC 13]],1,db 250 [34,jB 125]]]]]]]])
def abz:AF:=aU (bw 2 120 [.t 4] [mD 0,EL 4 (uY qV),cU 0 [J 14,cC 0,mb 252 13,bB 13 [1,fv 2,cG 253,cG 175,jX 1 dy,sI 1 16 dy 17,gC,aX] [J 24,cC 0,gz 4,bC 23,bB 23 [1,cC 3,nh 1 29,nP,jX 1 dy,sI 1 16 dy 27,gC,aX] [J 35,cC 0,gz 24,bC 34,bg 34 [1,DE 1 dy 1 [(0,aP [102,111,114,109])],sI 1 16 dy 38,bC 1,aG [cC 4,dA,eG,fG 1 [gu 44 43,fI 45 1,cU 2 [44,Ck 5 42 44,iY 5,ja 6,uH 5 46,eT 6,ea [fv 6,1,cC 3,5,iQ 1 52,jX 1 dy,sI 1 16 dy 50,ek 178 [49,57] 1] [8,9] [(0,8)]],su 44,bC 44]],1,DE 1 dy 1 [(0,aP [101,110,100])],sI 1 16 dy 60,gC]]]],J 64,cC 0,dH 254 63 63 63,oV 7 [fq,fq],ke 2 7 67,bC 8,.s,1,gr 0 7,jX 1 dy,sI 1 16 dy 69,bC 1,ea [cC 3,cC 4,fb 9 75 10] [] [],aG [gr 1 7,aeR,fG 3 [aeT,YA 0,fI 82 3,cU 4 [HL 2 81,bC 12,.s,12,cU 5 [aG [J 92,Cm 84 86,bC 91,bB 91 [] [Cm 84 65,bC 91]],bB 91 [ea [10,nh 5 94,iY 5,1,db 178 [96,97],10,fk (.BA 5 (.t 99) (some (zi 1)) none),fb 1 98 10] [4] []] [aG [J 102,Cm 84 78,bC 101,bB 101 [] [Cm 84 88,bC 101]],bB 101 [ea [1,9,nh 1 105,nP,jX 1 dy,sI 1 16 dy 104,9,fk (.BA 1 (.t 110) (some (zi 1)) none),fb 1 109 9] [5] []] [J 113,Cm 84 75,bC 112,bB 112 [1,cC 2,jX 1 dy,sI 1 16 dy 114,bC 1] [J 85,1,cC 1,cG 174,jX 1 dy,sI 1 16 dy 85,bC 1]]]]]]],J 119,1,gC,aX])
def agG:AF:=aU (bw 2 32 [.t 4] [mD 0,mD 1,bo,aG [iR 0 0 3,lh 6 8,bg 9 [J 4,bo]],aG [J 10,iR 1 1 3,lh 11 13,bg 14 [J 4,bo]],aG [J 15,iR 2 2 3,sM 16 18,bg 19 [J 4,bo]],aG [J 20,iR 3 3 3,dY 180 [21,23],bg 25 [J 4,bo]],aG [J 26,iR 4 4 3,dY 255 [27,29],bg 31 [J 4,bo]],J 4,fP,aX])
def agH:AF:=aU (bw 2 26 [.t 4] [J 4,bo,aG [J 6,0,dA,1,dA,lh 7 9,bg 10 [J 4,bo]],aG [eG,fG 0 [aG [J 11,5,0,dA,gu 11 13,fI 14 0],cU 1 [ea [J 17,0,5,iQ 1 17,1,5,iQ 1 21,sM 20 24] [] [],bg 25 [J 4,bo]],J 15,5,gm 5]],J 4,fP,aX])
def abA:AF:=aU (bw 2 27 [.t 4] [J 4,bo,aG [J 6,0,dA,1,dA,lh 7 9,bg 10 [J 4,bo]],aG [eG,fG 0 [aG [J 11,5,0,dA,gu 11 13,fI 14 0],cU 1 [ea [J 17,0,5,pF 3 17,iY 3,1,5,pF 3 21,iY 3,dY 107 [20,24]] [] [],bg 26 [J 4,bo]],J 15,5,gm 5]],J 4,fP,aX])
def c182:AF:=aU (bw 2 27 [.t 4] [J 4,bo,aG [J 6,0,dA,1,dA,lh 7 9,bg 10 [J 4,bo]],aG [eG,fG 0 [aG [J 11,5,0,dA,gu 11 13,fI 14 0],cU 1 [ea [J 17,0,5,pF 5 17,iY 5,1,5,pF 5 21,iY 5,dY 108 [20,24]] [] [],bg 26 [J 4,bo]],J 15,5,gm 5]],J 4,fP,aX])
def c183:AF:=aU (bw 2 27 [.t 4] [J 4,bo,aG [J 6,0,dA,1,dA,lh 7 9,bg 10 [J 4,bo]],aG [eG,fG 0 [aG [J 11,5,0,dA,gu 11 13,fI 14 0],cU 1 [ea [J 17,0,5,pF 13 17,iY 13,1,5,pF 13 21,iY 13,dY 256 [20,24]] [] [],bg 26 [J 4,bo]],J 15,5,gm 5]],J 4,fP,aX])
def agI:AF:=aU (bw 2 27 [.t 4] [J 4,bo,aG [J 6,0,dA,1,dA,lh 7 9,bg 10 [J 4,bo]],aG [eG,fG 0 [aG [J 11,5,0,dA,gu 11 13,fI 14 0],cU 1 [ea [J 17,0,5,pF 6 17,iY 6,1,5,pF 6 21,iY 6,dY 257 [20,24]] [] [],bg 26 [J 4,bo]],J 15,5,gm 5]],J 4,fP,aX])
def agJ:AF:=aU (bw 2 26 [.t 4] [J 4,bo,aG [J 6,0,dA,1,dA,lh 7 9,bg 10 [J 4,bo]],aG [eG,fG 0 [aG [J 11,5,0,dA,gu 11 13,fI 14 0],cU 1 [ea [J 17,0,5,iQ 1 17,1,5,iQ 1 21,lh 20 24] [] [],bg 25 [J 4,bo]],J 15,5,gm 5]],J 4,fP,aX])
def agO:AF:=aU (bw 1 44 [.t 2] [J 2,fK,.s,J 4,0,dc,bC 3,fG 0 [aG [0,cG 259,EN 97,10,cO 11 [0,cG 259,EO 122],di 11 14,15,dM 16 [0,cG 259,EN 48,19],cO 20 [0,cG 259,EO 57],dM 16 [di 20 23],cL 16,fI 25 0],cU 1 [0,0,dc,dX,fE 26 1 33 31]],ea [0,eU 0,3,0,dc,x8 37 (some (.t 38)) (some (.t 42)),fu] [] [],aX])
def agP:AF:=aU (bw 2 50 [] [aG [ea [J 4,0,dc,1,gO,sw 7 9,0,eU 0,gO,aiF 10 15,16,dM 17 [0,eU 0,0,dc,0,dc,1,gO,sw 29 31,x8 21 (some (.t 25)) (some (.t 32)),1,sM 33 34],cL 17] [] [],bg 36 [0,gV 2,iP 39 ob]],0,0,dc,1,gO,sw 44 46,fE 40 1 49 47])
def agT:AF:=aU (bw 2 105 [.c 4 3 true] [oV 4 eL,aG [J 7,0,eU 2,10,dM 11 [1,dO 6],cL 11,bg 14 [0,gV 2,iP 17 ob,.s,fD eL,fM 3 4]],aG [0,cG 259,cU 0 [J 22,zj 20 110,bC 21,bB 21 [0,od [23,aP [110,117,109]],.s,ji eL [(0,1,zi 1)],fM 3 4,aX] [J 27,zj 20 116,bC 26,bB 26 [0,od [28,aP [116,101,120,116]],.s,ji eL [(0,1,zi 2)],fM 3 4,aX] [J 32,zj 20 102,bC 31,bB 31 [0,od [33,aP [102,108,97,103]],.s,ji eL [(0,1,zi 3)],fM 3 4,aX] [J 37,zj 20 63,bC 36,bB 36 [0,od [38,aP [63]],.s,0,1,dX,db 205 [40,42],jX 3 eL,ji eL [(0,1,zi 6),(2,1,44)],fM 3 4,aX] [J 47,zj 20 91,bC 46,bg 46 [0,od [48,aP [91]],.s,0,1,dX,db 205 [50,52],jX 3 eL,ji eL [(0,1,zi 4),(2,1,54)],oV 5 eL,fM 3 5,.s,0,od [56,aP [93]],.s,mJ 3 5,fM 3 4]]]]]]],0,od [59,aP [123]],.s,ji eL [(0,1,zi 5)],oV 6 eL,fM 3 6,fG 1 [aG [0,eU 2,nq,66,cO 67 [0,cG 259,HM 125],di 67 70,fI 71 1],cU 2 [aG [gr 2 6,dA,dO 0,gI 75 [0,od [76,aP [44]]]],ea [gr 1 6,0,cG 190,jX 1 dy,sI 1 16 dy 79,gp 1 6 84 83] [3,5,7] [(1,3)],0,od [85,aP [58]],ea [gr 2 6,0,1,dX,db 205 [89,91],jX 3 eL,sI 3 56 eL 88,gp 2 6 95 94] [5,7,9] [(1,5)]]],0,0,dc,dX,fE 96 1 103 101,.s,mJ 3 6,fM 3 4,aX])
def agV:AF:=aU (bw 2 70 [.c 4 3 true] [mD 0,mD 1,zh 0 eL,aG [J 6,gB 3,dO 6,gI 7 [dD,gV 1,iP 10 ob]],fD eL,oV 5 eL,fM 3 5,cU 0 [J 16,dD,dc,bC 15,bB 15 [] [J 21,dD,nj [21,aP [91]] 20,bB 20 [dD,gB 3,dX,db 220 [23,25],jX 3 eL,ji eL [(0,1,zi 4),(2,1,27)],fM 3 5,ea [dD,dD,dc,33,dM 34 [dD,dY 288 [35,aP [93]]],cL 34,fE 29 1 40 38] [7,12] [(0,7)]] [J 42,dD,nj [42,aP [63]] 41,bB 41 [dD,gB 3,dX,db 220 [44,46],jX 3 eL,ji eL [(0,1,zi 6),(2,1,48)],fM 3 5] [J 51,dD,nj [51,aP [123]] 50,bB 50 [gp 0 5 53 (zi 5),.s,dD,fk (.uw 290 [.t 5,.t 2,.t 3]),db 289 [54,aP [125],55]] [J 58,dD,nj [58,aP [110,117,109]] 57,bB 57 [gp 0 5 60 (zi 1)] [J 62,dD,nj [62,aP [116,101,120,116]] 61,bB 61 [gp 0 5 64 (zi 2)] [J 66,dD,nj [66,aP [102,108,97,103]] 65,bB 65 [gp 0 5 68 (zi 3)] [J 12,dD,gV 1,iP 14 ob]]]]]]]],J 69,mJ 3 5,fM 3 4,aX])
def agW:AF:=aU (bw 1 8 [.t 2] [jx,fK,aG [mJ 3 1,kf 93,bg 5 [J 2,fK]],J 6,mJ 3 1,mb 103 2,aX])
def agX:AF:=aU (bw 2 42 [.t 4] [mD 0,EL 4 (uY (zi 0)),aG [J 8,1,dO 6,9,dM 10 [fv 2,kf 311],cL 10,bg 14 [J 4,sr]],lE (zi 1),aG [eG,fG 0 [aG [J 15,6,cC 4,dA,gu 15 18,fI 19 0],cU 1 [J 22,cC 4,6,pF 5 23,iY 5,1,dX,ek 237 [26,28] 7,aG [7,pH 0,31,dM 32 [5,7,sw 33 34,dO 120],cL 32,bg 37 [J 4,sr]],J 38,5,7,sw 38 39,bC 5],J 20,6,gm 6]],J 41,5,gC,aX])
def agY:AF:=aU (bw 1 32 [.t 2] [J 2,bo,aG [eG,fG 0 [aG [3,0,dA,gu 4 6,fI 7 0],cU 1 [ea [J 10,0,3,iQ 1 10,kf 68,15,dM 16 [3,dO 0,18],cO 19 [0,3,va 1,iQ 1 20,0,3,iQ 1 25,YC 24 28],dM 16 [di 19 29],cL 16] [] [],bg 31 [J 2,bo]],J 8,3,gm 3]],J 2,fP,aX])
def agZ:AF:=aU (bw 3 58 [.t 6] [mD 0,EL 6 (uY (zi 0)),aG [J 11,2,dO 24,12,dM 13 [fv 3,1,dY 312 [14,15]],cL 13,bg 18 [J 6,sr]],J 19,gr 0 3,mb 279 7,.s,J 8,lE (zi 1),aG [eG,fG 0 [aG [J 22,9,gr 4 3,dA,gu 22 25,fI 26 0],cU 1 [ea [J 29,gr 4 3,9,pF 5 30,iY 5,gr 0 3,sy 24,36,cO 37 [7,9,mG 38,qW 97],di 37 41,2,dX,ek 239 [33,42,44] 10] [] [],aG [10,pH 0,47,dM 48 [8,10,sw 49 50,dO 200],cL 48,bg 53 [J 6,sr]],J 54,8,10,sw 54 55,bC 8],J 27,9,gm 9]],J 57,8,bC 6,aX])
def ag0:AF:=aU (bw 1 8 [.t 2] [jx,eG,.s,zh 0 [cJ 0],iP 3 (zi 0),aG [fv 1,dY 313 [4,zi 1,3],bg 6 [J 2,eG]],J 7,gB 3,fu,aX])
def ag1:AF:=aU (bw 2 19 [.t 4] [J 4,eG,aG [J 6,0,dA,eG,fG 0 [gu 8 7,fI 9 0,cU 1 [8,bC 5,.s,1,0,5,iQ 1 12,fk (.oB 11 [15]),bg 16 [5,gC]],su 8,bC 8]],J 4,sr,aX])
def ag2:AF:=aU (bw 1 47 [.t 2] [jx,bo,aG [cA 0,cU 0 [aG [J 6,fY 4 (zi 1) 5,bB 5 [] [fY 4 (zi 2) 5,bB 5 [] [fY 4 (zi 3) 5]]],bB 5 [iD 1,iD 2,sw 11 14,gy,fu,aX] [aG [J 18,fY 4 (zi 4) 17,bB 17 [] [fY 4 (zi 6) 17]],bg 17 [iD 1,gy,23,cO 24 [iD 2,gz 1],er 24 28 2]]]],cA 0,gz 5,32,cO 33 [cA 1,cG 314],di 33 36,37,cO 38 [iD 1,iD 2,Mf 41 44],er 38 45 2,aX])
def ag3:AF:=aU (bw 2 61 [] [mD 0,.s,J 4,cC 0,cU 0 [J 21,fY 5 (zi 1) 20,bB 20 [1,cC 1,cG 174,db 26 [22,25]] [J 28,fY 5 (zi 2) 27,bB 27 [1,cC 2,lV (aP [34]) 31,pG (aP [34]),db 26 [29,33]] [J 36,fY 5 (zi 3) 35,bB 35 [1,ji [fq,fq] [(0,1,aP [110,111]),(1,1,aP [121,101,115])],cC 1,fk (.H6 1 2 false (.t 38) (.t 40)),db 26 [37,41]] [J 44,fY 5 (zi 4) 43,bB 43 [1,db 250 [45,jB 91],.s,fv 2,1,db 319 [47,48],.s,1,db 250 [50,jB 93]] [J 53,fY 5 (zi 5) 52,bB 52 [1,db 250 [54,jB 123],.s,fv 2,1,db 319 [56,57],.s,1,db 250 [59,jB 125]] [aG [J 6,cC 4,dA,gy,bg 9 [1,db 250 [10,jB 126]]],1,db 250 [12,jB 63],.s,cC 4,nh 5 15,iY 5,1,db 249 [17,18]]]]]]]])
def ag4:AF:=aU (bw 2 17 [.t 4] [J 4,lE (.k .mW),.s,0,cG 100,.s,0,0,dc,1,jX 1 HO,sI 1 1 HO 11,fE 7 1 16 14,.s,J 4,lE (.k .mW),aX])
def ag5:AF:=aU (bw 1 5 [.t 2] [J 2,bo,.s,0,ek 163 [3,zi 1,zi 3] 2,aX])
def ag6:AF:=aU (bw 1 12 [.c 2 5 true] [jx,zh 0 df,.s,cA 0,va 1,dX,cA 1,cA 2,ji df [(0,1,6),(1,1,8),(2,1,10)],eT 2,aX])
def ag7:AF:=aU (bw 1 12 [.c 2 2 true,.t 3] [J 2,zh 0 [fq,fq],bo,aG [0,dY 163 [4,zi 5,zi 43],bg 6 [fD [fq,fq],fM 2 2,qH 3]],0,va 5,fk (.xC 2 39 (.g 1) (.t 9)),iY 2,fM 2 2,tM 3,aX])
def abD:AF:=aU (bw 2 27 [.t 4] [J 4,bo,aG [J 6,0,dA,1,dA,lh 7 9,bg 10 [J 4,bo]],aG [eG,fG 0 [aG [J 11,5,0,dA,gu 11 13,fI 14 0],cU 1 [ea [J 17,0,5,pF 5 17,iY 5,1,5,pF 5 21,iY 5,dY 179 [20,24]] [] [],bg 26 [J 4,bo]],J 15,5,gm 5]],J 4,fP,aX])
def ag8:AF:=aU (bw 2 23 [.t 4] [mD 0,mD 1,bo,aG [jR 0 2 3,jR 0 3 3,dY 107 [6,8],bg 10 [J 4,bo]],aG [J 11,jR 3 2 5,jR 3 3 5,dY 108 [12,14],bg 16 [J 4,bo]],aG [J 17,jR 8 2 5,jR 8 3 5,dY 108 [18,20],bg 22 [J 4,bo]],J 4,fP,aX])
def ag9:AF:=aU (bw 2 16 [.t 4] [mD 0,mD 1,bo,aG [iR 0 0 3,sM 6 8,bg 9 [J 4,bo]],aG [J 10,jR 1 2 5,jR 1 3 5,dY 108 [11,13],bg 15 [J 4,bo]],J 4,fP,aX])
def ahb:AF:=aU (bw 1 22 [.t 2] [J 2,lE (jB 0),aG [ea [0,dc,0,eU 0,gO,gu 6 11] [] [],bg 12 [ea [0,eU 0,0,dc,mG 16,fu] [] []]],J 2,lE (jB 0),aX])
def ahj:AF:=aU (bw 1 13 [.t 2] [J 2,eG,aG [lE (zi 5),fG 0 [aG [3,u9 43,fI 5 0],cU 1 [J 8,3,cG 155,0,qd 9 10,bg 11 [3,fu]],J 6,3,gm 3]],J 2,eG,aX])
def ahk:AF:=aU (bw 1 18 [.t 2] [J 2,eG,aG [0,cU 0 [aG [J 5,gq (zi 4) 4,bB 4 [] [gq (zi 20) 4,bB 4 [] [gq (zi 21) 4,bB 4 [] [gq (zi 22) 4,bB 4 [] [gq (zi 23) 4,bB 4 [] [gq (zi 32) 4,bB 4 [] [gq (zi 33) 4,bB 4 [] [gq (zi 34) 4,bB 4 [] [gq (zi 39) 4,bB 4 [] [gq (zi 42) 4,bB 4 [] [gq (zi 43) 4]]]]]]]]]]],bB 4 [J 2,lE (zi 1),aX] [J 17,gq (zi 35) 16,bg 16 [J 2,lE (zi 2)]]]],J 2,eG,aX])
def ahm:AF:=aU (bw 1 13 [.t 2] [J 2,bo,aG [0,cU 0 [aG [J 5,gq (zi 4) 4,bB 4 [] [gq (zi 20) 4,bB 4 [] [gq (zi 32) 4,bB 4 [] [gq (zi 33) 4,bB 4 [] [gq (zi 34) 4,bB 4 [] [gq (zi 35) 4,bB 4 [] [gq (zi 42) 4,bB 4 [] [gq (zi 43) 4]]]]]]]],bg 4 [J 2,fP]]],J 2,bo,aX])
def aho:AF:=aU (bw 1 37 [.t 2] [J 2,fK,aG [0,cU 0 [aG [J 5,gq (zi 7) 4,bB 4 [] [gq (zi 8) 4,bB 4 [] [gq (zi 18) 4,bB 4 [] [gq (zi 21) 4,bB 4 [] [gq (zi 23) 4,bB 4 [] [gq (zi 26) 4,bB 4 [] [gq (zi 29) 4,bB 4 [] [gq (zi 30) 4,bB 4 [] [gq (zi 38) 4,bB 4 [] [gq (zi 39) 4]]]]]]]]]],bB 4 [J 2,lE (aP [118]),aX] [aG [J 16,gq (zi 19) 15,bB 15 [] [gq (zi 28) 15,bB 15 [] [gq (zi 32) 15,bB 15 [] [gq (zi 35) 15]]]],bB 15 [J 2,lE (aP [118,118,118]),aX] [J 21,gq (zi 40) 20,bB 20 [J 2,lE (aP [97,97]),aX] [J 23,gq (zi 41) 22,bB 22 [J 2,lE (aP [118,97,97]),aX] [aG [J 25,gq (zi 42) 24,bB 24 [] [gq (zi 43) 24]],bg 24 [J 2,lE (aP [118,97])]]]]]]],aG [J 27,0,db 65 [27,zi 9,zi 31],28,dM 29 [0,gz 33],cL 29,32,dM 33 [0,gz 34],cL 33,bg 36 [J 2,lE (aP [118,118])]],J 2,fK,aX])
def ahp:AF:=aU (bw 2 21 [.t 4] [J 4,bo,.s,J 8,0,eU 0,1,ek 334 [11,12] 7,uZ 0 7 1 7,fb 5 14 6,.s,0,5,fE 16 0 19 17,.s,6,gC,aX])
def J0:AF:=aU (bw 3 31 [] [aG [J 6,0,1,db 288 [6,7],gI 8 [aX]],fG 0 [aG [0,dc,nq,fI 13 0],cU 1 [2,fk (.oB 14 []),aG [0,1,db 288 [16,17],gI 18 [aX]],0,0,dc,23,dM 24 [0,dY 288 [25,aP [44]]],cL 24,fE 19 1 30 28]]])
def abG:AF:=aU (bw 3 21 [] [ea [gr 1 0,gB 1,cG 291,jX 1 dy,sI 1 16 dy 4,gp 1 0 9 8] [3,5,7] [(1,3)],zo [gr 2 0,gB 1,dD,dX,db 220 [12,14],W0 11,DE 3 eL 1 [(0,.ka eL)]] fun l=> .yX l [5] [(1,5)] {x:=.t 11,n:=.t 16,y:=.t 17,v:=.t 15,es:=3,bytes:=56,z:=[.int .i64 0,.sl [],.sl []],d:=18,e:=19,base:=.t 0,off:=2,q:=20}])
def ahq:AF:=aU (bw 1 24 [.t 2] [J 2,fK,.s,J 4,0,ek 328 [4,aP [58]] 3,.s,0,0,dc,10,dM 11 [0,dY 288 [12,aP [58]]],cL 11,15,dM 16 [3,kf 89],cL 16,fE 6 1 22 20,.s,3,fu,aX])
def ahs:AF:=aU (bw 1 131 [.t 2] [jx,bo,.s,J 4,iD 4,bC 3,aG [cA 0,cU 0 [J 10,fY 8 (zi 1) 9,bB 9 [cA 1,db 65 [12,zi (-999999999),zi 999999999],13,cO 14 [cA 2,oc],di 14 17,18,cO 19 [iD 3,gy],di 19 23,24,cO 25 [3,gy],er 25 27 2,aX] [J 30,fY 8 (zi 2) 29,bB 29 [cA 1,gy,33,cO 34 [cA 2,cG 362],di 34 37,38,cO 39 [iD 3,gy],di 39 43,44,cO 45 [3,gy],er 45 47 2,aX] [J 50,fY 8 (zi 3) 49,bB 49 [cA 1,db 65 [52,zi 0,zi 1],53,cO 54 [cA 2,oc],di 54 57,58,cO 59 [iD 3,gy],di 59 63,64,cO 65 [3,gy],er 65 67 2,aX] [J 70,fY 8 (zi 4) 69,bB 69 [cA 1,gy,73,cO 74 [cA 2,oc],di 74 77,78,cO 79 [iD 3,gy],di 79 83,84,cO 85 [3,u9 20],er 85 87 2,aX] [J 90,fY 8 (zi 5) 89,bB 89 [cA 1,gy,93,cO 94 [cA 2,oc],di 94 97,98,cO 99 [iD 3,3,Mf 102 103],di 99 104,105,cO 106 [cA 3,cG 238],er 106 109 2,aX] [J 112,fY 8 (zi 6) 111,bg 111 [cA 1,gy,115,cO 116 [cA 2,oc],di 116 119,120,cO 121 [iD 3,gy],di 121 125,126,cO 127 [3,u9 1],er 127 129 2]]]]]]]],J 2,bo,aX])
def aht:AF:=aU (bw 2 168 [.t 4] [mD 0,qH 4,aG [J 8,cC 0,dY 65 [9,zi 1,zi 43],11,dM 12 [1,cC 0,yd 36,fk (.ri true (.t 13) (.t 16))],cL 12,bg 18 [J 4,bo]],aG [J 19,cC 0,gz 24,bg 21 [cC 1,gy,24,cO 25 [cC 2,oc],di 25 28,29,cO 30 [cC 3,cG 238],di 30 33,34,cO 35 [cC 3,dA,cC 4,dA,Mf 38 41],di 35 42,43,cO 44 [cC 3,dY 363 [46,aP [101,110,100]]],er 44 48 4]],aG [ea [cC 4,dA,cC 0,cG 279,gO,lh 52 56,57,dM 58 [cC 3,dA,cC 0,cG 275,lh 61 64],cL 58] [] [],bg 66 [J 4,bo]],aG [eG,fG 0 [aG [J 67,5,cC 3,dA,gu 67 70,fI 71 0],cU 1 [ea [J 74,cC 3,5,iQ 1 75,kf 68,80,dM 81 [cC 0,cG 277,84],cO 85 [cC 3,5,iQ 1 87,kf 330],dM 81 [di 85 92],cL 81,94,dM 95 [5,dO 0,97],cO 98 [cC 3,5,iQ 1 100,cC 3,nh 1 105,nP,qd 103 107],dM 95 [di 98 108],cL 95] [] [],bg 110 [J 4,bo]],J 72,5,gm 5]],aG [J 111,cC 0,cU 2 [aG [J 114,fY 112 (zi 1) 113,bB 113 [] [fY 112 (zi 2) 113,bB 113 [] [fY 112 (zi 3) 113]]],bB 113 [cC 0,cC 1,cC 2,ji df [(0,1,118),(1,1,120),(2,1,122)],mb 311 4,aX] [aG [J 126,fY 112 (zi 5) 125,bB 125 [] [fY 112 (zi 6) 125]],bB 125 [J 129,cC 2,dH 127 128 128 128,oV 6 eL,ke 3 6 132,bC 7,.s,cC 1,gy,136,cO 137 [7],er 137 138 4,aX] [J 141,fY 112 (zi 37) 140,bB 140 [cC 1,db 65 [143,zi 0,zi 99],144,cO 145 [cC 2,oc],er 145 148 4,aX] [J 151,fY 112 (zi 39) 150,bg 150 [cC 1,db 65 [153,zi 1,zi 12],154,cO 155 [cC 2,oc],er 155 158 4]]]]]],cC 1,gy,162,cO 163 [cC 2,oc],er 163 166 4,aX])
def ahu:AF:=aU (bw 3 41 [.t 6] [mD 0,qH 6,.s,J 9,2,Mi,nP,dX,zqy 9,iP 13 12,aG [1,dO 6,15,dM 16 [2,Mi,nP,dO 120],cL 16,21,dM 22 [fv 3,kf 364],cL 22,bg 26 [J 6,bo]],aG [J 27,gr 4 3,dA,eG,fG 0 [gu 30 29,fI 31 0,cU 1 [Ck 5 28 30,iY 5,ja 8,eT 8,.s,fv 8,1,dX,2,dY 313 [34,36,37],bg 39 [J 6,bo]],J 40,su 30,bC 30]],J 6,fP,aX])
def ahv:AF:=aU (bw 1 29 [.t 2] [J 2,bo,aG [J 5,0,dA,eG,fG 0 [gu 7 6,fI 8 0,cU 1 [7,Ck 1 5 7,nP,fb 3 9 4,.s,4,kf 89,14,dM 15 [3,dO 0,17],cO 18 [0,3,va 1,iQ 1 19,4,YC 23 24],dM 15 [di 18 25],cL 15,bg 27 [J 2,bo]],J 28,su 7,bC 7]],J 2,fP,aX])
def ahw:AF:=aU (bw 1 5 [.t 2] [J 2,bo,.s,0,ek 163 [3,zi 36,zi 43] 2,aX])
def ahx:AF:=aU (bw 2 33 [] [mD 0,.s,J 6,cC 4,dA,eG,fG 0 [gu 9 8,fI 10 0,cU 1 [9,Ck 5 7 9,iY 5,ja 5,uH 4 11,eT 5,aG [4,dO 0,gI 15 [1,db 250 [16,jB 44]]],aG [cC 0,gz 5,gI 20 [1,cC 3,4,iQ 1 23,pG (aP [58]),db 26 [21,27]]],fv 5,1,db 249 [29,30]],su 9,bC 9]])
def abJ:AF:=aU (bw 2 36 [.t 4] [J 4,fK,.s,J 7,0,eU 0,1,ek 338 [10,11] 5,aG [5,pH 0,gI 14 [0,eU 0,gO,bC 5]],0,eU 0,5,x8 23 none (some (.t 24)),bC 6,.s,0,0,eU 0,5,x8 30 (some (.t 31)) none,fE 26 0 34 32,.s,6,gC,aX])
def ahy:AF:=aU (bw 1 22 [.t 2] [J 2,bo,.s,0,cG 68,4,cO 5 [0,cG 273,gy],di 5 8,9,cO 10 [0,wZ (aP [121,101,115])],di 10 12,13,cO 14 [0,wZ (aP [110,111])],di 14 16,17,cO 18 [0,Mc],er 18 20 2,aX])
def ahz:AF:=aU (bw 2 11 [.t 4,.t 5] [J 4,fK,bo,.s,0,1,db 383 [6,7],YA 0,HL 1 8,fb 4 9 5,aX])
def ahB:AF:=aU (bw 1 29 [.t 2] [J 2,bo,aG [J 4,0,gO,dO 60,bg 6 [J 2,bo]],aG [eG,fG 0 [aG [J 7,3,0,gO,gu 7 9,fI 10 0],cU 1 [J 13,0,3,mG 13,Mh 32,16,dM 17 [0,3,mG 18,Mg 126],cL 17,22,dM 23 [0,3,mG 24,qW 34],cL 23,bg 28 [J 2,bo]],J 11,3,gm 3]],J 2,fP,aX])
def ahC:AF:=aU (bw 2 18 [.t 4] [J 4,bo,aG [eG,fG 0 [aG [5,0,dA,gu 6 8,fI 9 0],cU 1 [J 12,0,5,iQ 1 12,1,qd 15 16,bg 17 [J 4,fP]],J 10,5,gm 5]],J 4,bo,aX])
def ahD:AF:=aU (bw 1 133 [.t 2] [jx,bo,aG [cA 0,cU 0 [J 6,fY 4 (zi 1) 5,bB 5 [cA 1,cG 401,9,cO 10 [cA 2,oc],di 10 13,14,cO 15 [iD 3,iD 4,sw 18 21,gy],er 15 23 2,aX] [J 26,fY 4 (zi 2) 25,bB 25 [cA 1,gy,29,cO 30 [cA 2,cG 402],di 30 33,34,cO 35 [iD 3,iD 4,sw 38 41,gy],er 35 43 2,aX] [J 46,fY 4 (zi 3) 45,bB 45 [cA 1,db 163 [48,zi 0,zi 1],49,cO 50 [cA 2,oc],di 50 53,54,cO 55 [iD 3,iD 4,sw 58 61,gy],er 55 63 2,aX] [J 66,fY 4 (zi 4) 65,bB 65 [cA 1,gy,69,cO 70 [cA 2,oc],di 70 73,74,cO 75 [iD 3,gy],di 75 79,80,cO 81 [iD 4,u9 20],er 81 85 2,aX] [J 88,fY 4 (zi 5) 87,bB 87 [cA 1,gy,91,cO 92 [cA 2,oc],di 92 95,96,cO 97 [cA 3,cG 314],di 97 100,101,cO 102 [iD 3,iD 4,Mf 105 108],er 102 109 2,aX] [J 112,fY 4 (zi 6) 111,bg 111 [cA 1,gy,115,cO 116 [cA 2,oc],di 116 119,120,cO 121 [iD 3,gy],di 121 125,126,cO 127 [iD 4,u9 1],er 127 131 2]]]]]]]],J 2,bo,aX])
def ahE:AF:=aU (bw 1 22 [.t 2] [J 2,bo,.s,0,cG 89,4,cO 5 [0,cG 386,gy],di 5 8,9,cO 10 [0,wZ (aP [121,101,115])],di 10 12,13,cO 14 [0,wZ (aP [110,111])],di 14 16,17,cO 18 [0,Mc],er 18 20 2,aX])
def ahF:AF:=aU (bw 2 9 [.t 4] [J 4,bo,.s,0,1,db 123 [5,6],yd 0,gC,aX])
def ahG:AF:=aU (bw 2 11 [.t 4] [J 4,bo,aG [0,gz 37,bg 6 [1,ek 163 [7,zi 0,zi 99] 4]],1,ek 163 [9,zi 1,zi 12] 4,aX])
def ahH:AF:=aU (bw 2 15 [.t 4,.t 5] [J 4,fK,bo,aG [0,1,dY 413 [6,7],bg 9 [J 4,uH 10 0,10,bo]],J 11,0,1,gO,x8 11 (some (.t 13)) none,gC,tM 5,aX])
def ahI:AF:=aU (bw 1 11 [.t 2] [jx,eG,.s,J 4,fk (.Fg 2 39 (.g 1) none none),fk (.uw 415 [.t 1]),ek 414 [4,5] 3,aG [3,pH 0,bg 8 [J 2,eG]],J 9,3,Me 5,fu,aX])
def ahJ:AF:=aU (bw 1 5 [.t 2] [J 2,bo,.s,0,ek 163 [3,zi (-999999999),zi 999999999] 2,aX])
def ahK:AF:=aU (bw 1 29 [.t 2] [J 2,bo,aG [J 4,0,gO,eG,fG 0 [gu 6 5,fI 7 0,cU 1 [6,bC 3,.s,0,3,mG 9,Mh 32,12,dM 13 [0,3,mG 14,Mg 126],cL 13,18,dM 19 [0,3,mG 20,qW 34],cL 19,bg 24 [J 2,bo]],J 25,su 6,bC 6]],0,gO,u9 60,fu,aX])
def ahL:AF:=aU (bw 2 18 [.t 4] [J 4,bo,.s,0,gO,1,gO,YD 6 8,9,cO 10 [0,1,gO,x8 11 none (some (.t 13)),1,qd 14 15],er 10 16 4,aX])
def ahM:AF:=aU (bw 2 19 [.t 4] [J 4,eG,aG [J 6,0,dA,eG,fG 0 [gu 8 7,fI 9 0,cU 1 [8,bC 5,.s,1,0,5,pF 2 12,iY 2,fk (.oB 11 [15]),bg 16 [5,gC]],su 8,bC 8]],J 4,sr,aX])
def ahN:AF:=aU (bw 2 8 [.t 3] [mD 0,bo,.s,cC 0,gB 1,qd 5 6,bC 3,aX])
def c4:AF:=aU (bw 1 66 [.t 2] [J 2,bo,aG [J 11,0,gO,dO 1048576,bg 13 [J 2,fP]],J 15,0,dH 11 14 14 14,fb 3 17 4,.s,J 20,0,dH 12 19 19 19,fb 5 22 6,aG [5,3,dY 10 [24,25],27,dM 28 [6,4,lh 29 30],cL 28,bg 32 [J 2,bo]],J 7,lE (zi 1),.s,J 33,5,7,ek 13 [33,34] 7,.s,J 8,lE (zi 1),.s,J 36,5,8,ek 14 [36,37] 8,aG [8,pH 0,bg 40 [J 2,bo]],aG [J 41,8,7,lh 41 42,bg 43 [J 2,bo]],J 45,0,dH 12 44 44 44,fb 9 47 10,aG [9,3,dY 10 [49,50],52,dM 53 [10,4,lh 54 55],cL 53,bg 57 [J 2,bo]],J 8,lE (zi 1),.s,J 58,5,8,ek 14 [58,59] 8,aG [8,pH 0,bg 62 [J 2,bo]],aG [J 63,8,7,lh 63 64,bg 65 [J 2,bo]],J 2,fP,aX])
def c11:AF:=aU (bw 1 51 [.t 2,.t 3] [J 2,lE qV,eG,.s,J 8,DE 34 nw 0 [],gC,aG [0,gO,dO 60000,bg 11 [J 2,uH 12 4,12,sr]],J 13,fD [dN,cJ 0,fq,uX,cJ 0,cJ 0,dN,uX,fq,dN,cJ 0,cJ 0,fq,dN,dN,dN,cJ 0],jx,bC 5,.s,0,mb 31 6,aG [J 7,eG,fG 0 [aG [J 17,7,6,dA,gu 17 19,fI 20 0],cU 1 [J 23,5,6,7,iQ 1 24,dY 32 [23,27],bg 29 [4,7,dX,fb 2 30 3]],J 21,7,gm 7]],aG [J 33,5,eU 7,36,dM 37 [5,gV 1,kY 2],cL 37,bg 43 [4,6,dA,fb 2 44 3]],5,eU 0,fu,EL 3 (uY (zi 0)),aX])
def c31:AF:=aU (bw 1 32 [.t 2] [J 2,lE qV,.s,J 6,DE 1 dy 0 [],bC 3,.s,J 4,eG,aG [eG,fG 0 [aG [J 7,5,0,gO,gu 7 9,fI 10 0],cU 1 [J 13,0,5,mG 13,qW 10,gI 16 [3,0,4,5,x8 18 (some (.t 19)) (some (.t 20)),jX 1 dy,sI 1 16 dy 17,bC 3,.s,5,gm 4]],J 11,5,gm 5]],J 26,3,0,4,x8 27 (some (.t 28)) none,jX 1 dy,sI 1 16 dy 26,fu,aX])
def UW:AF:=aU (bw 2 120 [.t 4] [J 4,bo,aG [J 12,0,eU 7,bg 15 [0,1,ek 111 [16,17] 4]],J 20,1,dH 112 19 19 19,fb 5 22 6,cU 0 [J 25,1,oc,bC 24,bB 24 [J 4,fP,aX] [J 28,0,eU 0,dA,yd 200,bC 27,bB 27 [J 4,bo,aX] [J 35,5,kg (aP [112,111,119,101,114]),bC 34,bB 34 [0,6,ek 113 [37,38] 4,aX] [J 41,5,Mb,bC 40,bB 40 [0,gV 7,iP 45 ob,.s,0,fD [fq,dN,cJ 0,cJ 0,fq,dN,dN,dN,cJ 0],qn 46 8,ke 9 49 47,.s,0,gV 1,kY 2,nq,55,cO 56 [0,gV 8,1,db 114 [59,60]],er 56 61 4,aX] [J 64,5,kg (aP [118,101,114,115,105,111,110]),bC 63,bB 63 [0,6,ek 115 [66,67] 4,aX] [J 70,5,kg (aP [97,112,112,101,110,100]),bC 69,bB 69 [J 73,6,dH 112 72 72 72,fb 7 75 8,.s,J 78,8,dH 116 77 77 77,oV 9 tO,ke 7 9 80,bC 10,.s,10,82,cO 83 [7,cG 68],di 83 85,86,cO 87 [0,7,mJ 7 9,ji nw [(0,1,zi 1),(1,1,89),(2,7,90)],db 117 [88,91]],er 87 92 4,aX] [J 95,5,kg (aP [114,101,119,114,105,116,101]),bC 94,bB 94 [0,6,ek 118 [97,zi 5,98] 4,aX] [J 101,5,kg (aP [115,110,97,112]),bC 100,bg 100 [0,6,ek 118 [103,zi 8,104] 4]]]]]]]]],aG [J 11,lE (zi 2),fG 1 [aG [J 106,11,u9 4,fI 107 1],cU 2 [J 110,1,db 81 [],11,iQ 1 111,qd 110 114,bg 115 [0,11,ji nw [(0,1,117)],ek 117 [116,118] 4]],J 108,11,gm 11]],J 4,bo,aX])
def aby:AF:=aU (bw 2 51 [.t 4] [J 4,bo,aG [1,Mc,bg 6 [0,gV 8,1,ek 114 [9,10] 4]],0,gV 7,iP 14 Cl,.s,0,gV 8,kY 8,yd 5,20,cO 21 [0,gV 8,uG 0,kY 1,dA,u9 4],di 21 29,30,cO 31 [0,gV 8,uG 0,kY 7,dA,u9 8],di 31 39,40,cO 41 [0,0,gV 8,uG 0,iY 8,ji nw [(0,1,zi 7),(20,8,47)],db 117 [42,48]],er 41 49 4,aX])
def agt:AF:=aU (bw 1 23 [.t 2,.t 3] [J 2,fK,fK,aG [eG,fG 0 [aG [4,0,gO,gu 5 7,fI 8 0],cU 1 [J 11,0,4,mG 11,qW 32,bg 14 [ea [0,4,x8 15 none (some (.t 16)),0,4,dX,x8 18 (some (.t 20)) none,fb 2 17 3] [] []]],J 9,4,gm 4]],J 2,uH 22 0,22,fK,aX])
def agu:AF:=aU (bw 2 55 [.t 4] [J 4,bo,.s,J 10,1,mb 186 5,aG [0,gV 1,kY 2,16,dM 17 [5,dA,pH 2],cL 17,bg 21 [J 4,bo]],J 22,DE 1 [cJ 0] 0 [],bC 6,aG [J 7,eG,fG 0 [aG [J 23,7,5,dA,gu 23 25,fI 26 0],cU 1 [J 30,5,7,iQ 1 30,dH 187 29 29 29,fb 8 35 9,aG [9,nq,bg 38 [J 4,bo]],J 39,6,8,jX 1 [cJ 0],sI 1 8 [cJ 0] 39,bC 6],J 27,7,gm 7]],ea [J 43,0,6,nh 1 44,nP,6,Ck 1 47 (zi 1),nP,6,fk (.BA 1 (.t 50) (some (zi 2)) none),ji [cJ 0,fq,uX,cJ 0,cJ 0,dN] [(2,1,ob),(3,1,46),(4,1,49),(5,1,51)],qn 43 1,ke 6 54 52] [12] [],J 4,fP,aX])
def M8:AF:=aU (bw 2 190 [.t 4] [J 4,bo,aG [J 16,1,oc,bg 17 [J 4,fP]],J 19,1,dH 112 18 18 18,fb 5 21 6,.s,0,gV 0,kY 1,dA,va 1,bC 7,.s,J 8,fP,.s,J 30,0,eU 8,bC 9,aG [5,cU 0 [J 36,qd 34 (aP [102,111,108,100]),bC 35,bB 35 [0,6,qn 37 0,uG 0,iP 41 38,.s,0,gV 8,iP 44 (zi 1),.s,9,gy,46,cO 47 [6,cG 68],er 47 49 4,aX] [J 52,qd 34 (aP [115,116,97,116,101]),bC 51,bB 51 [J 54,6,dH 127 53 53 53,oV 10 eL,ke 3 10 56,bC 11,ea [0,0,gV 0,kY 1,mJ 3 10,ji EP [(0,3,64)],fk (.pZ 13 EP 65),fk (.pY 61 (some 3) 13 216 EP 63 66),qn 58 0,uG 1,iP 70 67] [9,13] [],0,gV 8,iP 73 (zi 2),.s,11,74,cO 75 [9,gz 1,77],dM 78 [9,gz 4],cO 75 [cL 78],er 75 81 4,aX] [J 84,qd 34 (aP [115,97,118,101]),bC 83,bB 83 [0,gV 8,iP 87 (zi 3),aG [9,gz 2,gI 89 [ea [J 91,0,gV 0,kY 1,7,6,dH 188 90 90 90,Ck 13 95 96,uG 3,ke 5 102 99,uH 8 100] [13] []]],8,103,cO 104 [9,gz 2],er 104 106 4,aX] [J 109,qd 34 (aP [108,105,102,116]),bC 108,bB 108 [0,gV 8,iP 112 (zi 4),aG [9,gz 3,gI 114 [ea [J 116,0,gV 0,kY 1,7,6,dH 188 115 115 115,Ck 13 120 121,uG 8,ke 5 127 124,uH 8 125] [13] []]],8,128,cO 129 [9,gz 3],er 129 131 4,aX] [J 134,qd 34 (aP [115,116,97,114,116]),bC 133,bB 133 [0,gV 8,iP 137 (zi 5),.s,J 139,0,6,dH 189 138 138 138,qn 139 0,uG 2,ke 5 146 142,uH 8 143,.s,8,147,cO 148 [9,gz 2],er 148 150 4,aX] [J 153,qd 34 (aP [111,110]),bC 152,bg 152 [0,gV 8,iP 156 (zi 6),.s,J 158,6,dH 112 157 157 157,fb 12 160 13,.s,J 163,13,dH 188 162 162 162,ja 14,ke 5 14 165,bC 15,ea [0,0,gV 0,kY 7,12,fv 14,ji ER [(0,1,173),(1,5,174)],jX 6 ER,sI 6 96 ER 172,qn 167 0,uG 7,iP 180 177] [10,14] [],15,181,cO 182 [12,cG 68],di 182 184,185,cO 186 [9,yd 5],er 186 188 4]]]]]]]],J 4,bo,aX])
def agv:AF:=aU (bw 2 62 [.t 4] [J 4,bo,.s,J 15,1,dH 112 14 14 14,fb 5 17 6,.s,J 20,6,dH 112 19 19 19,fb 7 22 8,.s,J 25,7,dH 127 24 24 24,oV 9 eL,ke 3 9 27,bC 10,aG [10,nq,30,dM 31 [5,kf 68],cL 31,35,dM 36 [0,gV 1,kY 2],cL 36,bg 42 [J 4,bo]],J 43,5,mJ 3 9,ji nw [(0,1,zi 6),(11,1,43),(12,3,44)],oV 11 nw,fM 34 11,aG [7,6,sM 46 47,gI 48 [J 50,8,dH 128 49 49 49,ja 12,oV 13 lG,ke 5 12 52,fM 2 13,aG [gr 0 13,sy 0,bg 56 [J 4,bo]],J 57,fv 12,Ma 15 11,ke 5 58 57]],0,mJ 34 11,ek 117 [59,60] 4,aX])
def c116:AF:=aU (bw 1 49 [.c 2 7 true,.t 3] [J 2,zh 0 tO,bo,aG [J 6,0,gO,dO 10000,bg 8 [fD tO,fM 7 2,qH 3]],0,ji [fq,cJ 0,uX] [(0,1,10)],jx,gC,.s,4,cG 190,ji tO [(0,1,14)],oV 5 tO,fM 7 5,.s,4,od [16,aP [64]],.s,4,cG 192,gp 1 5 20 19,.s,4,db 193 [21,zi 1],Ma 2 5,ke 5 23 22,aG [4,eU 2,27,dM 28 [4,dc,0,gO,lh 32 34],cL 28,36,dM 37 [mJ 7 5,cG 82,0,sM 39 40],cL 37,42,dM 43 [0,oc],cL 43,bg 46 [fD tO,fM 7 2,qH 3]],mJ 7 5,fM 7 2,tM 3,aX])
def c117:AF:=aU (bw 2 24 [.t 4] [J 3,mD 1,bo,.s,0,gV 1,iY 6,Ma 28 3,ke 6 9 8,.s,0,fD [cJ 0,fq,uX,cJ 0,cJ 0,dN],qn 10 1,ke 6 13 11,ea [0,0,eU 0,mJ 34 3,fk (.pZ 34 nw 19),fk (.pY 71 none 34 512 nw 18 20),fE 14 0 23 21] [7,10] [],J 4,fP,aX])
def agw:AF:=aU (bw 3 55 [.t 6] [J 6,bo,.s,J 14,2,dH 112 13 13 13,fb 7 16 8,.s,J 19,8,dH 187 18 18 18,fb 9 21 10,aG [1,gz 8,bg 24 [10,25,cO 26 [7,cG 68],di 26 28,29,cO 30 [0,1,7,9,ji nw [(0,1,32),(11,1,33),(10,1,34)],db 117 [31,35]],er 30 36 6]],J 39,7,dH 187 38 38 38,fb 11 41 12,.s,10,43,cO 44 [12],di 44 45,46,cO 47 [0,1,11,9,ji nw [(0,1,49),(9,1,50),(10,1,51)],db 117 [48,52]],er 47 53 6,aX])
def agy:AF:=aU (bw 1 48 [.c 2 5 true,.c 3 2 true] [ja 2,oV 3 lG,aG [J 6,0,gO,dO 3000,bg 8 [fD df,ji lG [(0,1,zi 1)],ke 5 2 9,fM 2 3]],0,cG 206,ji [dN,cJ 0,cJ 0,cJ 0,cJ 0] [(0,1,12)],jx,gC,.s,4,db 207 [15,ob,zi 1],ja 5,eT 5,aG [ea [4,dc,4,eU 0,dA,gu 20 25] [] [],gI 26 [4,db 208 [27,zi 2]]],aG [4,gV 3,kY 0,sy 0,bg 34 [ea [fD df,4,gV 3,iY 2,ke 5 2 35,fM 2 3] [5,6] [(4,5)]]],aG [fv 5,cG 209,gO,gy,bg 43 [fD df,ji lG [(0,1,zi 1)],ke 5 2 44,fM 2 3]],fv 5,fD lG,ke 5 2 46,fM 2 3,aX])
def agK:AF:=aU (bw 1 32 [.t 2] [J 2,lE qV,.s,J 6,DE 1 dy 0 [],bC 3,.s,J 4,eG,aG [eG,fG 0 [aG [J 7,5,0,gO,gu 7 9,fI 10 0],cU 1 [J 13,0,5,mG 13,qW 32,gI 16 [3,0,4,5,x8 18 (some (.t 19)) (some (.t 20)),jX 1 dy,sI 1 16 dy 17,bC 3,.s,5,gm 4]],J 11,5,gm 5]],J 26,3,0,4,x8 27 (some (.t 28)) none,jX 1 dy,sI 1 16 dy 26,fu,aX])
def agL:AF:=aU (bw 1 17 [.t 2,.t 3] [J 2,eG,bo,.s,J 7,0,dH 258 6 6 6,fb 4 9 5,.s,4,5,12,cO 13 [4,db 65 [14,zi 0,zi 999999]],di 13 15,fb 2 11 3,aX])
def agM:AF:=aU (bw 1 20 [.c 2 5 true,.t 3] [J 2,zh 0 df,bo,.s,J 7,0,lV (aP [101,109,105,116,32]) 7,dH 128 6 6 6,ja 4,oV 5 lG,ke 5 4 10,fM 2 5,aG [gr 0 5,sy 0,bg 14 [fD df,eT 2,qH 3]],gr 4 4,nh 5 17,iY 5,eT 2,tM 3,aX])
def agN:AF:=aU (bw 1 41 [.c 2 5 true,.t 3] [J 2,zh 0 df,bo,aG [J 6,0,gO,dO 10000,bg 8 [fD df,eT 2,qH 3]],0,ji [fq,cJ 0,uX] [(0,1,10)],jx,gC,.s,4,db 193 [13,zi 1],ja 5,eT 5,aG [4,eU 2,18,dM 19 [4,dc,0,gO,lh 23 25],cL 19,27,dM 28 [fv 5,kf 150],cL 28,32,dM 33 [fv 5,cG 154,0,sM 35 36],cL 33,bg 38 [fD df,eT 2,qH 3]],fv 5,eT 2,tM 3,aX])
def agQ:AF:=aU (bw 1 67 [.t 2] [J 2,eG,.s,J 6,0,cG 259,qW 45,bC 3,aG [3,gI 9 [0,0,dc,dX,fE 10 1 17 15]],0,dc,gC,.s,J 5,eG,fG 0 [aG [J 22,0,cG 259,EN 48,24,cO 25 [0,cG 259,EO 57],di 25 28,29,cO 30 [0,dc,4,Me 10,gu 34 36],di 30 37,fI 38 0],cU 1 [5,fk (.eO .i64 .mul 39 (zi 10)),0,cG 259,aeS 48,fk (.conv .i64 (.t 43)),sw 40 44,bC 5,.s,0,0,dc,dX,fE 46 1 53 51]],aG [0,dc,4,Mf 57 58,gI 59 [0,gV 2,iP 62 ob]],aG [3,bg 63 [5,fk (.neg 64),fu]],5,fu,aX])
def c193:AF:=aU (bw 2 62 [.c 4 5 true] [ja 4,aG [J 5,0,eU 2,8,dM 9 [1,dO 6],cL 9,bg 12 [0,gV 2,iP 15 ob,.s,fD df,eT 4]],aG [0,cG 259,cU 0 [J 20,zj 18 34,bC 19,bB 19 [0,cG 260,ji df [(0,1,zi 2),(2,1,22)],eT 4,aX] [J 25,zj 18 121,bC 24,bB 24 [0,od [26,aP [121,101,115]],.s,ji df [(0,1,zi 3),(1,1,zi 1)],eT 4,aX] [J 30,zj 18 110,bC 29,bB 29 [0,od [31,aP [110,111]],.s,ji df [(0,1,zi 3)],eT 4,aX] [J 35,zj 18 126,bC 34,bB 34 [0,od [36,aP [126]],.s,ji df [(0,1,zi 6)],eT 4,aX] [J 40,zj 18 63,bC 39,bB 39 [0,od [41,aP [63]],.s,0,1,dX,db 193 [43,45],jX 5 df,ji df [(0,1,zi 6),(4,1,47)],eT 4,aX] [J 50,zj 18 91,bC 49,bB 49 [0,1,db 261 [51,zi 4,jB 93,52],eT 4,aX] [J 55,zj 18 123,bC 54,bg 54 [0,1,db 261 [56,zi 5,jB 125,57],eT 4]]]]]]]]],0,cG 192,ji df [(0,1,zi 1),(1,1,60)],eT 4,aX])
def c206:AF:=aU (bw 1 74 [.t 2] [J 2,lE qV,.s,J 6,DE 1 dy 0 [],bC 3,.s,J 4,eG,fG 0 [aG [J 7,4,0,gO,gu 7 9,fI 10 0],cU 1 [aG [0,4,mG 11,qW 32,14,dM 15 [0,4,mG 16,qW 10],cL 15,gI 20 [4,gm 4,aeU 1]],4,gm 5,aG [0,4,mG 25,qW 34,bB 28 [fG 2 [aG [5,0,gO,gu 29 31,32,cO 33 [0,5,mG 34,HM 34],di 33 37,fI 38 2],cU 3 [5,gm 5]],5,0,gO,gu 41 43,gI 44 [5,gm 5]] [fG 4 [aG [5,0,gO,gu 47 49,50,cO 51 [0,5,mG 52,HM 32],di 51 55,56,cO 57 [0,5,mG 58,HM 10],di 57 61,fI 62 4],cU 5 [5,gm 5]]]],3,0,4,5,x8 66 (some (.t 67)) (some (.t 68)),jX 1 dy,sI 1 16 dy 65,bC 3,.s,5,gC]],3,fu,aX])
def rJ:AF:=aU (bw 3 180 [.c 6 5 true] [ja 6,aG [J 18,0,gV 3,kY 0,sy 0,bg 23 [fD df,eT 6]],aG [2,dO 24,gI 26 [0,db 208 [27,zi 3]]],aG [0,eU 2,yd 200,gI 33 [0,db 208 [34,zi 4]]],0,0,eU 2,dX,fE 36 2 43 41,.s,0,mb 271 7,aG [1,nq,gI 47 [J 49,0,7,ek 272 [49,50] 48,uZ 0 48 1 48,ja 8,ke 5 8 52,bC 9,.s,9,bg 54 [0,0,dc,dX,fE 55 1 62 60,.s,fv 8,eT 6]]],7,mb 273 10,aG [10,gy,67,dM 68 [1,10,yd 36,fk (.ri true (.t 69) (.t 71))],cL 68,bg 73 [0,db 208 [74,zi 2],.s,fD df,eT 6]],0,0,dc,dX,fE 77 1 84 82,.s,10,ji df [(0,1,85)],ja 11,eT 11,aG [10,gz 24,bg 88 [0,fv 11,2,db 274 [89,90,91],eT 6]],aG [J 12,eG,fG 0 [aG [J 93,12,10,cG 275,gu 93 95,fI 96 0],cU 1 [J 13,fK,aG [J 99,12,dO 0,gI 100 [gr 3 11,nh 1 102,nP,bC 13]],ea [gr 3 11,0,10,cG 277,13,db 276 [107,109,110],jX 1 dy,sI 1 16 dy 106,gp 3 11 114 113] [6,8,10] [(1,6)]],J 97,12,gm 12]],aG [uH 115 10,cU 2 [aG [J 117,fY 115 (zi 5) 116,bB 116 [] [fY 115 (zi 6) 116]],bB 116 [J 120,0,cG 271,dH 127 119 119 119,oV 14 eL,ke 3 14 123,bC 15,aG [15,nq,gI 126 [0,db 208 [127,zi 2]]],0,cG 271,gp 2 11 131 130,.s,0,0,dc,dX,fE 132 1 139 137] [J 141,fY 115 (zi 37) 140,bB 140 [0,db 278 [142,zi 0,zi 99],gp 1 11 144 143] [J 146,fY 115 (zi 39) 145,gI 145 [0,db 278 [147,zi 1,zi 12],gp 1 11 149 148]]]]],10,mb 279 16,aG [J 17,eG,fG 3 [aG [J 152,17,16,gO,gu 152 154,155,cO 156 [0,gV 3,kY 0,gy],di 156 162,fI 163 3],cU 4 [ea [J 166,gr 4 11,0,16,17,mG 169,qW 97,2,dX,db 207 [168,172,174],jX 5 df,sI 5 80 df 167,gp 4 11 178 177] [9,11,13] [(1,9)]],J 164,17,gm 17]],J 179,fv 11,eT 6,aX])
def c208:AF:=aU (bw 2 19 [] [J 4,0,gV 3,kY 0,gy,gI 9 [0,1,0,dc,ji lG [(0,1,11),(1,1,15)],qn 10 3,ke 2 18 16]])
def agU:AF:=aU (bw 1 8 [.t 2] [jx,fK,aG [fv 1,kf 73,bg 5 [J 2,fK]],J 6,fv 1,mb 80 2,aX])
def aha:AF:=aU (bw 1 19 [.t 2,.t 3] [J 2,eG,bo,.s,J 7,0,dH 189 6 6 6,ja 4,ke 5 4 9,bC 5,ea [gr 1 4,5,13,cO 14 [gr 0 4,gz 1],di 14 17,fb 2 12 3] [] [],aX])
def ahc:AF:=aU (bw 1 54 [.t 2] [J 2,fK,.s,J 5,0,od [5,aP [34]],.s,0,dc,bC 3,fG 0 [aG [ea [0,dc,0,eU 0,gO,gu 14 19,20,cO 21 [0,eU 0,0,dc,mG 25,HM 34],di 21 31] [] [],fI 32 0],cU 1 [0,0,dc,dX,fE 33 1 40 38]],0,dc,gC,.s,0,od [45,aP [34]],.s,0,eU 0,3,4,x8 50 (some (.t 51)) (some (.t 52)),fu,aX])
def abE:AF:=aU (bw 4 66 [.c 8 5 true] [ja 8,.s,J 10,1,ji df [(0,1,10)],ja 9,eT 9,.s,0,0,dc,dX,fE 12 1 19 17,fG 0 [aG [0,eU 2,nq,24,cO 25 [0,cG 259,2,fk (.eO .u8 .neq 27 28)],di 25 29,fI 30 0],cU 1 [aG [gr 4 9,dA,dO 0,gI 34 [0,od [35,aP [44]]]],aG [1,gz 5,gI 38 [ea [gr 3 9,0,cG 190,jX 1 dy,sI 1 16 dy 40,gp 3 9 45 44] [3,5,7] [(1,3)],0,od [46,aP [58]]]],ea [gr 4 9,0,3,dX,db 193 [50,52],jX 5 df,sI 5 80 df 49,gp 4 9 56 55] [5,7,9] [(1,5)]]],0,0,dc,dX,fE 57 1 64 62,.s,fv 9,eT 8,aX])
def ahe:AF:=aU (bw 1 8 [.t 2] [jx,fK,aG [fv 1,kf 164,bg 5 [J 2,fK]],J 6,fv 1,mb 175 2,aX])
def ahg:AF:=aU (bw 1 8 [.t 2] [jx,fK,aG [mJ 7 1,kf 90,bg 5 [J 2,fK]],J 6,mJ 7 1,mb 102 2,aX])
def ahh:AF:=aU (bw 1 23 [.t 2] [J 2,fK,aG [ea [0,dc,0,eU 0,dA,gu 6 11] [] [],bg 12 [ea [0,eU 0,0,dc,iQ 1 16,fu] [] []]],J 2,fK,aX])
def ahi:AF:=aU (bw 2 42 [.c 4 5 true,.t 5] [J 4,zh 0 df,bo,.s,J 9,1,dH 189 8 8 8,ja 6,ke 5 6 11,bC 7,aG [7,13,cO 14 [gr 0 6,gz 1,17],dM 18 [gr 0 6,gz 2],cO 14 [cL 18,22],dM 23 [gr 0 6,gz 3],cO 14 [cL 23],di 14 27,bg 28 [gr 0 6,gr 1 6,gr 2 6,ji df [(0,1,30),(1,1,32),(2,1,34)],eT 4,tM 5]],aG [1,cG 330,bg 37 [1,jX 1 dy,ji df [(0,1,zi 4),(3,1,39)],eT 4,tM 5]],fD df,eT 4,qH 5,aX])
def abF:AF:=aU (bw 3 77 [.c 6 5 true] [J 4,mD 1,ja 6,fG 0 [aG [J 8,0,gV 3,kY 0,gy,13,cO 14 [0,cG 271,Mc],di 14 17,fI 18 0],cU 1 [0,mb 271 7,aG [7,kf 68,23,dM 24 [gr 3 4,dA,dO 0,28],cO 29 [gr 3 4,gr 3 4,dA,va 1,iQ 1 31,7,YC 37 38],dM 24 [di 29 39],cL 24,bg 41 [0,db 208 [42,zi 2],.s,fv 4,eT 6]],0,0,dc,dX,fE 45 1 52 50,.s,gr 3 4,7,jX 1 dy,sI 1 16 dy 54,gp 3 4 58 57,ea [gr 4 4,0,2,dX,db 207 [61,Cl,63],jX 5 df,sI 5 80 df 60,gp 4 4 67 66] [5,7,9] [(1,5)]]],0,0,dc,dX,fE 68 1 75 73,.s,fv 4,eT 6,aX])
def ahl:AF:=aU (bw 3 37 [.t 6] [J 6,fK,.s,J 8,0,mb 271 7,aG [7,kf 68,12,dM 13 [1,14],cO 15 [7,kf 330],dM 13 [di 15 18],cL 13,20,dM 21 [7,2,qd 22 23],cL 21,bg 25 [0,db 208 [26,zi 2],.s,J 6,fK]],J 28,0,0,dc,dX,fE 28 1 35 33,.s,7,bC 6,aX])
def ahn:AF:=aU (bw 3 35 [.t 6] [J 6,eG,.s,J 10,0,cG 271,dH 258 9 9 9,fb 7 13 8,aG [8,nq,16,dM 17 [7,1,2,dY 65 [18,19,20]],cL 17,bg 23 [0,db 208 [24,zi 2],.s,J 6,eG]],J 26,0,0,dc,dX,fE 26 1 33 31,.s,7,bC 6,aX])
def Xj:AF:=aU (bw 1 12 [.c 2 5 true] [jx,zh 0 df,.s,cA 0,va 1,dX,cA 1,cA 2,ji df [(0,1,6),(1,1,8),(2,1,10)],eT 2,aX])
def c12:AF:=aU (bw 1 51 [.t 2,.t 3] [J 2,lE qV,eG,aG [J 8,0,gO,dO 60000,bg 10 [J 2,lE qV,sr]],J 11,fD [dN,.cq,.cq],jx,0,db 33 [13,aP [10]],fb 4 12 5,aG [5,dA,eG,fG 0 [gu 17 16,fI 18 0,cU 1 [17,Ck 1 15 17,nP,fb 6 19 7,.s,7,wZ Ax,23,cO 24 [4,7,dY 34 [25,26]],di 24 28,bg 29 [6,dX,EL 2 (uY qV),bC 3]],su 17,bC 17]],aG [4,eU 2,fk (.AM true (.t 36) (.k .cq)),37,dM 38 [4,dc,fk (.AM true (.t 42) (.k .cq))],cL 38,bg 44 [5,dA,EL 2 (uY qV),bC 3]],4,eU 0,fu,EL 3 (uY (zi 0)),aX])
def RU:AF:=aU (bw 2 77 [.t 4] [J 4,bo,aG [J 9,0,eU 2,fk (.AM true (.t 12) (.k .cq)),bg 13 [aG [1,kg (aP [101,110,100]),bg 15 [0,mb 120 4]],0,eU 2,1,ek 121 [21,22] 4]],aG [0,eU 0,dA,gz 200,bg 29 [J 4,bo]],J 31,1,ek 122 [31,aP [32]] 30,uZ 0 30 1 30,HL 2 30,uH 5 33,fb 6 34 7,aG [7,nq,bg 37 [fk (.Fg 1 8 (.g 0) none none),5,db 123 [38,39],gm 8,aG [8,sy 2,43,cO 44 [8,sy 3],di 44 46,47,cO 48 [8,sy 4],di 48 50,bg 51 [J 4,bo]],J 52,0,8,ji nw [(0,1,53)],db 124 [52,54],.s,J 4,fP]],aG [J 56,0,dc,fk (.AM true (.t 59) (.k .cq)),60,cO 61 [5,kg (aP [112,111,119,101,114]),63],dM 64 [5,kg (aP [118,101,114,115,105,111,110])],cO 61 [cL 64,67],dM 68 [5,Mb],cO 61 [cL 68],di 61 71,bg 72 [J 4,bo]],J 73,0,5,6,ek 125 [73,74,75] 4,aX])
def Xh:AF:=aU (bw 1 36 [.t 2] [J 2,bo,.s,J 4,0,eU 2,gV 0,iY 8,oV 3 [fq,dN,cJ 0,cJ 0,fq,dN,dN,dN],fM 8 3,aG [0,eU 2,kf 197,16,dM 17 [gr 1 3,dA,dO 4],cL 17,22,dM 23 [gr 7 3,dA,dO 8],cL 23,bg 28 [J 2,bo]],J 29,0,gV 2,iP 31 (.k .cq),.s,0,mJ 8 3,ji nw [(0,1,zi 7),(20,8,33)],db 124 [32,34],.s,J 2,fP,aX])
def M9:AF:=aU (bw 2 170 [.t 4] [J 4,bo,.s,J 18,1,ek 122 [18,aP [32]] 17,uZ 0 17 1 17,HL 2 17,uH 5 20,fb 6 21 7,.s,0,eU 8,bC 8,.s,0,5,fE 27 8 30 28,aG [7,nq,bg 32 [J 4,bo]],J 9,bo,cU 0 [J 34,5,Mb,35,cO 36 [8,oc],er 36 38 33,bB 33 [0,6,6,cG 89,qn 40 0,uG 0,iP 46 41,uH 9 43] [J 48,5,kg (aP [115,116,97,116,101]),49,cO 50 [8,Mb,52],dM 53 [8,kg (aP [108,105,102,116])],cO 50 [cL 53],er 50 56 47,bB 47 [J 59,6,dH 138 58 58 58,oV 10 eL,ke 3 10 61,bC 11,ea [0,0,gV 0,kY 1,mJ 3 10,ji EP [(0,3,69)],fk (.pZ 13 EP 70),fk (.pY 62 (some 3) 13 216 EP 68 71),11,qn 63 0,uG 1,iP 76 72,uH 9 73] [9,14] []] [J 78,5,kg (aP [115,97,118,101]),79,cO 80 [8,kg (aP [115,116,97,116,101])],er 80 82 77,bB 77 [J 85,0,cG 199,6,dH 198 84 84 84,qn 86 3,ke 5 92 89,uH 9 90] [J 94,5,kg (aP [108,105,102,116]),95,cO 96 [8,kg (aP [115,97,118,101])],er 96 98 93,bB 93 [J 101,0,cG 199,6,dH 198 100 100 100,qn 102 8,ke 5 108 105,uH 9 106] [J 110,5,kg (aP [115,116,97,114,116]),111,cO 112 [8,kg (aP [115,116,97,116,101])],er 112 114 109,bB 109 [J 117,0,6,dH 200 116 116 116,qn 117 0,uG 2,ke 5 124 120,uH 9 121] [J 126,5,kg (aP [111,110]),127,cO 128 [8,kg (aP [115,116,97,114,116]),130],dM 131 [8,kg (aP [111,110])],cO 128 [cL 131],er 128 134 125,gI 125 [J 137,6,ek 122 [137,aP [32]] 136,uZ 0 136 1 136,HL 2 136,uH 12 139,fb 13 140 14,.s,J 143,13,dH 198 142 142 142,ja 15,ke 5 15 145,bC 16,ea [0,0,gV 0,kY 7,12,fv 15,ji ER [(0,1,153),(1,5,154)],fk (.pZ 6 ER 155),fk (.pY 82 none 6 96 ER 152 156),14,158,cO 159 [16],di 159 160,161,cO 162 [12,cG 89],di 162 164,qn 147 0,uG 7,iP 168 157,uH 9 165] [10,22] []]]]]]]],9,gC,aX])
def c124:AF:=aU (bw 2 29 [] [J 3,mD 1,aG [0,dc,fk (.AM true (.t 7) (.k .cq)),gI 8 [0,0,dc,Mi,iY 6,Ma 28 3,ke 6 16 15,fE 9 1 18 (.k .cq)]],ea [0,0,eU 0,mJ 34 3,fk (.pZ 34 nw 24),fk (.pY 72 none 34 512 nw 23 25),fE 19 0 28 26] [7,10] []])
def Na:AF:=aU (bw 3 147 [.t 6] [J 6,bo,.s,J 19,2,ek 33 [19,aP [32]] 7,aG [1,cU 0 [J 23,qd 21 (aP [112,111,119,101,114]),bC 22,bB 22 [J 25,7,dH 202 24 24 24,fb 8 27 9,aG [9,nq,30,dM 31 [8,dA,pH 2],cL 31,bg 35 [J 6,bo]],ea [J 36,0,8,nh 1 37,nP,8,Ck 1 40 (zi 1),nP,8,fk (.H0 1 2 (.t 43)),ji [cJ 0,fq,uX,cJ 0,cJ 0,dN] [(2,1,ob),(3,1,39),(4,1,42),(5,1,44)],jx,fE 36 1 48 46] [10,13] [],J 6,fP,aX] [J 50,qd 21 (aP [97,112,112,101,110,100]),bC 49,bB 49 [J 52,2,ek 122 [52,aP [32]] 51,uZ 0 51 1 51,HL 2 51,uH 10 54,fb 11 55 12,.s,J 58,11,dH 203 57 57 57,oV 13 tO,ke 7 13 60,bC 14,aG [14,nq,63,dM 64 [10,kf 89],cL 64,bg 68 [J 6,bo]],J 69,0,10,mJ 7 13,ji nw [(0,1,zi 1),(1,1,70),(2,7,71)],db 124 [69,72],.s,J 6,fP,aX] [J 75,qd 21 (aP [114,101,119,114,105,116,101]),bC 74,bB 74 [J 77,7,dH 202 76 76 76,fb 15 79 16,aG [16,nq,82,dM 83 [15,dA,sy 2],cL 83,bg 87 [J 6,bo]],ea [J 88,0,15,nh 1 89,nP,15,Ck 1 92 (zi 1),nP,ji nw [(0,1,zi 5),(9,1,91),(10,1,94)],db 124 [88,95]] [8] [],J 6,fP,aX] [J 98,qd 21 (aP [115,110,97,112]),bC 97,bB 97 [J 100,7,fk (.BA 1 (.t 100) (some (zi 1)) none),dH 202 99 99 99,fb 17 103 18,aG [18,nq,106,dM 107 [17,dA,sy 1],cL 107,111,dM 112 [7,nh 1 113,nP,kf 89],cL 112,bg 118 [J 6,bo]],ea [J 119,0,7,nh 1 120,nP,17,nh 1 123,nP,ji nw [(0,1,zi 8),(11,1,122),(10,1,125)],db 124 [119,126]] [8] [],J 6,fP,aX] [J 129,qd 21 (aP [118,101,114,115,105,111,110]),bC 128,bB 128 [0,2,ek 204 [130,131] 6,aX] [J 134,qd 21 (aP [102,111,108,100]),bC 133,bg 133 [0,fD [fq,dN,cJ 0,cJ 0,fq,dN,dN,dN,fq],jx,fE 135 2 139 137,.s,0,eU 2,2,lV (aP [102,111,108,100,32]) 144,ek 121 [143,145] 6]]]]]]]],J 6,bo,aX])
def RT:AF:=aU (bw 1 15 [.t 2] [J 2,bo,.s,0,eU 8,kg (aP [115,116,97,114,116]),7,dM 8 [0,eU 8,kg (aP [111,110])],cL 8,fu,aX])
def c198:AF:=aU (bw 1 20 [.c 2 5 true,.t 3] [J 2,zh 0 df,bo,.s,J 7,0,lV (aP [101,109,105,116,32]) 7,dH 222 6 6 6,ja 4,oV 5 lG,ke 5 4 10,fM 2 5,aG [mJ 2 5,fD lG,fk (.AL true [(0,1),(1,1)] (.t 12) (.t 13)),bg 14 [fD df,eT 2,qH 3]],gr 4 4,fk (.CU 5 (.t 17) (zi 0)),fk (.Hl 5 (.t 18) (.t 17)),eT 2,tM 3,aX])
def agR:AF:=aU (bw 1 16 [.t 2] [J 2,lE (.k .cq),ea [0,gV 0,kY 1,0,gV 0,kY 1,dA,va 1,pF 13 7,fu] [] [],aX])
def agS:AF:=aU (bw 1 34 [.c 2 5 true,.t 3] [J 2,zh 0 df,bo,aG [J 6,0,gO,dO 10000,bg 8 [fD df,eT 2,qH 3]],0,ji [fq,uX] [(0,1,10)],jx,gC,.s,4,db 266 [13,zi 1],ja 5,eT 5,aG [4,dc,18,dM 19 [4,eU 0,wZ Ax],cL 19,25,dM 26 [fv 5,cG 267,0,sM 28 29],cL 26,bg 31 [fD df,eT 2,qH 3]],fv 5,eT 2,tM 3,aX])
def abB:AF:=aU (bw 1 35 [.t 2,.t 3] [J 2,lE qV,bo,.s,J 9,DE 1 [cJ 0] 0 [],gC,aG [0,dA,eG,fG 0 [gu 12 11,fI 13 0,cU 1 [Ck 1 10 12,nP,bC 6,.s,J 17,6,dH 268 16 16 16,fb 7 19 8,aG [8,nq,22,dM 23 [7,jX 1 [cJ 0],kf 91],cL 23,bg 28 [J 2,lE qV,bo]],J 29,4,7,fk (.pZ 1 [cJ 0] 30),fk (.pY 92 none 1 8 [cJ 0] 29 31),gC],su 12,bC 12]],J 2,uH 34 4,34,fP,aX])
def c203:AF:=aU (bw 1 61 [.c 2 7 true,.t 3] [J 2,zh 0 tO,bo,.s,J 14,0,ek 122 [14,aP [64]] 13,uZ 0 13 1 13,HL 2 13,uH 4 16,fb 5 17 6,.s,5,ek 269 [19,jB 123] 7,aG [0,gO,dO 10000,23,dM 24 [7,pH 0],cL 24,bg 27 [fD tO,fM 7 2,qH 3]],J 30,5,7,x8 30 none (some (.t 31)),dH 268 29 29 29,fb 8 34 9,.s,J 37,5,7,x8 37 (some (.t 38)) none,dH 200 36 36 36,ja 10,ke 5 10 41,bC 11,.s,4,8,fv 10,ji tO [(0,1,43),(1,1,44),(2,5,45)],oV 12 tO,fM 7 12,aG [9,nq,48,dM 49 [11,nq],cL 49,52,dM 53 [mJ 7 12,cG 270,0,sM 55 56],cL 53,bg 58 [fD tO,fM 7 2,qH 3]],mJ 7 12,fM 7 2,tM 3,aX])
def Xi:AF:=aU (bw 2 59 [.t 4] [J 4,bo,.s,J 16,1,ek 122 [16,aP [32]] 15,uZ 0 15 1 15,HL 2 15,uH 5 18,fb 6 19 7,.s,J 22,6,ek 122 [22,aP [32]] 21,uZ 0 21 1 21,HL 2 21,uH 8 24,fb 9 25 10,.s,J 28,8,dH 138 27 27 27,oV 11 eL,ke 3 11 30,bC 12,.s,5,mJ 3 11,ji nw [(0,1,zi 6),(11,1,32),(12,3,33)],oV 13 nw,fM 34 13,aG [10,gI 35 [fD lG,oV 14 lG,fM 2 14,.s,J 38,9,dH 222 37 37 37,Ma 15 13,ke 5 42 40,ke 2 14 41,.s,12,43,cO 44 [mJ 2 14,fD lG,fk (.AL false [(0,1),(1,1)] (.t 45) (.t 46))],er 44 47 12]],aG [12,nq,50,dM 51 [5,kf 89],cL 51,bg 55 [J 4,bo]],J 56,0,mJ 34 13,db 124 [56,57],.s,J 4,fP,aX])
def c222:AF:=aU (bw 1 32 [.c 2 5 true,.c 3 2 true] [ja 2,oV 3 lG,aG [J 6,0,gO,dO 3000,bg 8 [fD df,ji lG [(0,1,zi 1)],ke 5 2 9,fM 2 3]],J 12,0,cG 293,dH 292 11 11 11,ja 4,oV 5 lG,ke 5 4 15,fM 2 5,cU 0 [J 18,mJ 2 5,fD lG,fk (.AL true [(0,1),(1,1)] (.t 18) (.t 19)),bC 17,bB 17 [ea [fD df,mJ 2 5,ke 5 2 21,fM 2 3] [2,3] [(1,2)],aX] [J 24,fv 4,cG 104,gO,dO 3000,bC 23,bg 23 [fD df,ji lG [(0,1,zi 1)],ke 5 2 28,fM 2 3]]],fv 4,fD lG,ke 5 2 30,fM 2 3,aX])
def ahd:AF:=aU (bw 2 90 [.c 4 5 true] [mD 0,mD 1,zh 0 df,aG [J 8,gB 3,dO 6,gI 9 [dD,gV 1,iP 12 ob]],fD df,ja 5,eT 5,cU 0 [J 29,dD,dc,bC 28,bB 28 [] [J 34,dD,nj [34,aP [91]] 33,bB 33 [gp 0 5 36 (zi 4),.s,dD,fk (.uw 326 [.t 5,.t 2,.t 3]),db 289 [37,aP [93],38]] [J 41,dD,nj [41,aP [123]] 40,bB 40 [gp 0 5 43 (zi 5),.s,dD,fk (.uw 327 [.t 5,.t 2,.t 3]),db 289 [44,aP [125],45]] [J 48,dD,nj [48,aP [126]] 47,bB 47 [gp 0 5 50 (zi 6)] [J 52,dD,nj [52,aP [63]] 51,bB 51 [dD,gB 3,dX,db 266 [54,56],fk (.Bt 112 5 [.int .i64 0,.int .i64 0,.str [],.sl [],.sl []] (.t 57)),gp 0 5 59 (zi 6),gp 4 5 60 58] [J 62,dD,nj [62,aP [34]] 61,bB 61 [dD,db 328 [64,aP [34]],gp 0 5 66 (zi 2),gp 2 5 67 65,ea [dD,dD,dc,72,dM 73 [dD,dY 288 [74,aP [34]]],cL 73,fE 68 1 79 77] [7,12] [(0,7)]] [J 81,dD,nj [81,aP [121,101,115]] 80,bB 80 [gp 0 5 83 (zi 3),gp 1 5 84 (zi 1)] [J 86,dD,nj [86,aP [110,111]] 85,bB 85 [gp 0 5 88 (zi 3)] [J 15,dD,db 328 [15,aP [44,93,125]],dH 268 14 14 14,fb 6 18 7,ea [dD,6,7,nq,gp 0 5 24 (zi 1),gp 1 5 25 21,fE 20 1 27 23] [5,7,10] [(0,5),(0,7)]]]]]]]]]],J 89,fv 5,eT 4,aX])
def ahf:AF:=aU (bw 1 20 [.t 2,.t 3] [J 2,eG,bo,.s,J 7,0,dH 329 6 6 6,fb 4 9 5,.s,4,5,fk (.AL false [] (.t 12) (.k .mW)),13,cO 14 [4,cG 174,0,qd 16 17],di 14 18,fb 2 11 3,aX])
def xz:AF:=aU (bw 1 22 [.c 2 5 true,.c 3 2 true] [ja 2,oV 3 lG,.s,EL 5 (.uw 335 [.t 2,.t 3]),zqN .other,.s,J 6,0,ji [dN,cJ 0,cJ 0] [(0,1,6)],jx,gC,.s,4,db 336 [9,ob,zi 1],eT 2,aG [4,dc,0,dA,gu 14 16,gI 17 [4,db 337 [18,zi 2]]],fv 2,fD lG,ke 5 2 20,fM 2 3,aX])
def ahr:AF:=aU (bw 1 44 [.t 2] [J 2,lE qV,.s,J 5,DE 1 dy 0 [],bC 3,fG 0 [aG [0,wZ Ax,fI 7 0],cU 1 [aG [0,zqX 8 (zi 0),qW 32,10,dM 11 [0,zqX 12 (zi 0),qW 10],cL 11,gI 15 [0,x8 16 (some (zi 1)) none,bC 0,aeU 1]],0,ek 338 [18,aP [32,10]] 4,aG [0,zqX 20 (zi 0),qW 34,gI 22 [0,x8 23 (some (zi 1)) none,ek 269 [24,jB 34] 4,.s,4,yd 0,gI 27 [4,Me 2,gC]]],aG [4,pH 0,gI 31 [0,gO,gC]],ea [3,0,4,x8 35 none (some (.t 36)),jX 1 dy,sI 1 16 dy 34,0,4,x8 40 (some (.t 41)) none,fb 3 39 0] [5] []]],3,fu,aX])
def abH:AF:=aU (bw 3 14 [] [zo [gr 4 0,gB 1,dD,dX,db 266 [5,7],W0 4,DE 5 df 1 [(0,.ka df)]] fun l=> .yX l [5] [(1,5)] {x:=.t 4,n:=.t 9,y:=.t 10,v:=.t 8,es:=5,bytes:=80,z:=[.int .i64 0,.int .i64 0,.str [],.sl [],.sl []],d:=11,e:=12,base:=.t 0,off:=4,q:=13,md:=112}])
def abI:AF:=aU (bw 3 21 [] [ea [gr 3 0,gB 1,cG 291,fk (.pZ 1 dy 6),fk (.pY 2 none 1 16 dy 4 7),gp 3 0 9 8] [3,5,7] [(1,3)],zo [gr 4 0,gB 1,dD,dX,db 266 [12,14],W0 11,DE 5 df 1 [(0,.ka df)]] fun l=> .yX l [5] [(1,5)] {x:=.t 11,n:=.t 16,y:=.t 17,v:=.t 15,es:=5,bytes:=80,z:=[.int .i64 0,.int .i64 0,.str [],.sl [],.sl []],d:=18,e:=19,base:=.t 0,off:=4,q:=20,md:=112}])
def AO:AF:=aU (bw 2 18 [] [EL 5 .other,5,.s,bC 6,EL 7 (.AL true [] (.t 6) (.k .mW)),gI 7 [J 9,2,fk (.OL 1 (.t 9)),bC 8,uZ 0 8 1 8,oV 3 lG,ke 2 3 11,gC,aG [4,nq,gI 14 [2,zqN .other]],ea [fD df,mJ 2 3,ke 5 0 16,fM 2 1] [2,3] [(1,2)]]])
def ahA:AF:=aU (bw 3 61 [.c 6 5 true] [J 4,mD 1,ja 6,.s,J 11,0,eU 2,dX,fE 11 2 17 15,cU 0 [J 19,2,dO 24,bC 18,bB 18 [0,db 337 [21,zi 3]] [J 24,0,eU 2,dO 200,bC 23,gI 23 [0,db 337 [29,zi 4]]]],fD df,ja 7,eT 7,.s,0,fk (.uw 385 [.t 7,.t 4]),ek 384 [32,33] 8,aG [J 36,gr 0 7,dH 254 35 35 35,oV 9 [fq,fq],ke 2 9 39,bC 10,cU 1 [J 47,gr 0 7,gz 4,bC 46,bB 46 [8,fk (.Bt 2 1 [.str []] (.t 50)),gp 3 7 52 51] [J 54,gr 0 7,gz 24,bC 53,bB 53 [0,2,db 388 [57,7,58]] [J 41,0,gr 1 9,2,db 389 [41,7,43,44]]]]],J 60,fv 7,eT 6,aX])
def Nb:AF:=aU (bw 2 11 [] [J 4,1,0,dc,ji lG [(0,1,4),(1,1,8)],fk (.Ib 1 (.t 9)),zqN (.panic (.t 10))])
def Nc:AF:=aU (bw 2 50 [.t 4] [J 4,fK,aG [ea [0,dc,0,eU 0,dA,YD 8 13,14,dM 15 [1,0,eU 0,0,dc,iQ 1 20,fk (.oB 16 [26]),nq],cL 15] [22] [],gI 29 [0,db 337 [30,zi 2]]],0,dc,dX,fE 32 1 38 36,ea [0,eU 0,0,dc,va 1,iQ 1 42,gC] [] [],aX])
def Nf:AF:=aU (bw 3 38 [.t 4] [J 4,bo,.s,J 9,0,dH 200 8 8 8,ja 5,ke 5 5 11,bC 6,aG [0,mb 386 7,cU 0 [J 16,7,sy 0,bC 15,bB 15 [7,gp 0 1 19 18,ea [7,cG 315,dD,fk (.ri false (.t 21) (.t 22)),gC] [] [],aX] [J 25,dD,bC 24,bB 24 [J 4,bo,aX] [J 27,6,27,cO 28 [gr 0 5,db 163 [30,zi 1,zi 3]],er 28 31 26,bg 26 [fv 5,cG 387,eT 1,.s,J 4,fP]]]]],J 35,gp 0 1 35 (zi 4),.s,0,mb 365 4,aX])
def RV:AF:=aU (bw 3 51 [] [J 4,mD 1,fG 0 [cU 1 [J 7,0,fk (.uw 416 [.t 4]),ek 384 [7,8] 6,aG [6,kg (aP [101,110,100]),gI 11 [aX]],ea [gB 4,gB 4,eU 3,6,fk (.pZ 1 dy 17),fk (.pY 2 none 1 16 dy 16 18),fE 12 3 21 19] [7,10] [(0,7)],.c fun d=>(.Bz 22 23,d),bB 23 [zo [J 24,gB 4,eU 4,0,2,dX,db 336 [28,Cl,30],W0 27,WZ,fk (.pY 122 (some 0) 5 80 df 27 33),fE 24 4 36 34] fun l=> .uD l [7,10,13] [(0,7),(3,7)] 7,Ck 5 34 32,ke 5 37 31] [zo [gB 4,gB 4,eU 4,0,2,dX,db 336 [43,Cl,45],fk (.pZ 5 df 46),fk (.pY 122 none 5 80 df 42 47),fE 38 4 50 48] fun l=> .uD l [8,10,13] [(0,8),(0,10),(1,8),(4,8)] 8]]]])
def RX:AF:=aU (bw 4 96 [] [J 5,mD 1,.s,J 10,2,aeR,fG 0 [aeT,YA 0,fI 13 0,cU 1 [HL 2 12,bC 9,.s,9,cU 2 [aG [J 27,Cm 15 86,bC 26,bB 26 [] [Cm 15 65,bC 26]],bB 26 [.c fun d=>(.Bz 29 30,d),bB 30 [zo [J 31,gB 5,eU 4,0,9,WY 65,3,dX,db 336 [35,37,39],W0 34,WZ,fk (.pY 122 (some 0) 5 80 df 34 42),fE 31 4 45 43] fun l=> .uD l [9,12,15] [(0,9),(3,9)] 9,Ck 5 43 41,ke 5 46 40] [zo [gB 5,gB 5,eU 4,0,9,WY 65,3,dX,db 336 [52,54,56],fk (.pZ 5 df 57),fk (.pY 122 none 5 80 df 51 58),fE 47 4 61 59] fun l=> .uD l [10,12,15] [(0,10),(0,12),(1,10),(4,10)] 10]] [J 63,Cm 15 78,bC 62,bB 62 [zo [gB 5,gB 5,eU 3,0,db 384 [69,.f 89],fk (.pZ 1 dy 70),fk (.pY 2 none 1 16 dy 68 71),fE 64 3 74 72] fun l=> .uD l [6,8,11] [(0,6),(0,8),(1,6),(4,6)] 6] [J 76,Cm 15 88,bC 75,bB 75 [zo [gB 5,gB 5,eU 3,0,fk (.uw 417 [.t 5]),db 384 [82,83],fk (.pZ 1 dy 84),fk (.pY 2 none 1 16 dy 81 85),fE 77 3 88 86] fun l=> .uD l [7,9,12] [(0,7),(0,9),(1,7),(4,7)] 7] [J 90,Cm 15 75,bC 89,bB 89 [zo [gB 5,0,db 384 [92,.f 418],fE 91 2 95 93] fun l=> .uD l [2,5] [(0,2)] 2] [zo [J 17,gB 5,0,fk (.uw 419 [.t 5]),db 384 [18,19],dH 268 16 16 16,fE 17 1 25 22] fun l=> .uD l [3,10] [(0,3)] 3]]]]]]]])
def Ng:AF:=aU (bw 2 32 [.t 3] [J 3,bo,.s,J 5,gB 1,eU 3,dA,va 1,gC,.s,0,kg (aP [101,110,100]),12,dM 13 [0,cG 89,15],cO 16 [4,pH 0,18],dM 19 [gB 1,eU 3,4,iQ 1 23,0,aiE 26 27],cO 16 [cL 19],dM 13 [di 16 29],cL 13,bC 3,aX])
def Xk:AF:=aU (bw 2 15 [.t 3] [J 3,bo,.s,0,cG 365,5,cO 6 [gB 1,eU 3,0,dY 366 [10,11]],er 6 13 3,aX])
def Xl:AF:=aU (bw 1 11 [.t 2] [J 2,bo,.s,J 6,0,dH 138 5 5 5,oV 3 eL,ke 3 3 8,gC,.s,4,fu,aX])
def Xm:AF:=aU (bw 2 20 [.t 3] [J 3,bo,.s,J 7,0,dH 268 6 6 6,fb 4 9 5,.s,5,11,cO 12 [gB 1,eU 0,4,db 368 [16,17]],er 12 18 3,aX])
def abC:AF:=aU (bw 2 70 [.c 4 3 true] [mD 0,mD 1,zh 0 eL,aG [J 6,gB 3,dO 6,gI 7 [dD,gV 1,iP 10 ob]],fD eL,oV 5 eL,fM 3 5,cU 0 [J 16,dD,dc,bC 15,bB 15 [] [J 21,dD,nj [21,aP [91]] 20,bB 20 [dD,gB 3,dX,db 220 [23,25],fk (.Bt 102 3 [.int .i64 0,.sl [],.sl []] (.t 26)),ji eL [(0,1,zi 4),(2,1,27)],fM 3 5,ea [dD,dD,dc,33,dM 34 [dD,dY 288 [35,aP [93]]],cL 34,fE 29 1 40 38] [7,12] [(0,7)]] [J 42,dD,nj [42,aP [63]] 41,bB 41 [dD,gB 3,dX,db 220 [44,46],fk (.Bt 102 3 [.int .i64 0,.sl [],.sl []] (.t 47)),ji eL [(0,1,zi 6),(2,1,48)],fM 3 5] [J 51,dD,nj [51,aP [123]] 50,bB 50 [gp 0 5 53 (zi 5),.s,dD,fk (.uw 290 [.t 5,.t 2,.t 3]),db 289 [54,aP [125],55]] [J 58,dD,nj [58,aP [110,117,109]] 57,bB 57 [gp 0 5 60 (zi 1)] [J 62,dD,nj [62,aP [116,101,120,116]] 61,bB 61 [gp 0 5 64 (zi 2)] [J 66,dD,nj [66,aP [102,108,97,103]] 65,bB 65 [gp 0 5 68 (zi 3)] [J 12,dD,gV 1,iP 14 ob]]]]]]]],J 69,mJ 3 5,fM 3 4,aX])
def UU:AF:=aU (bw 3 21 [] [ea [gr 1 0,gB 1,cG 291,fk (.pZ 1 dy 6),fk (.pY 2 none 1 16 dy 4 7),gp 1 0 9 8] [3,5,7] [(1,3)],zo [gr 2 0,gB 1,dD,dX,db 220 [12,14],W0 11,DE 3 eL 1 [(0,.ka eL)]] fun l=> .yX l [5] [(1,5)] {x:=.t 11,n:=.t 16,y:=.t 17,v:=.t 15,es:=3,bytes:=56,z:=[.int .i64 0,.sl [],.sl []],d:=18,e:=19,base:=.t 0,off:=2,q:=20,md:=102}])
def c35:AF:=aU (bw 1 20 [.t 2] [J 2,fK,aG [J 4,0,u9 0,bg 5 [J 2,lE (aP [109,48])]],fK,fG 0 [aG [J 6,0,dO 0,fI 7 0],cU 1 [0,fk (.eO .i64 .rem 8 (zi 10)),sw (zi 48) 9,fk (.conv .u8 (.t 10)),jX 1 HO,fk (.Mp 12),3,lV 13 14,bC 3,.s,0,fk (.eO .i64 .quo 16 (zi 10)),bC 0]],3,lV (aP [109]) 18,fu,aX])
end Go.Ab
