import Derived.Test.YtdcndpbmgpcgmaaGreatDoorY5
import Derived.Below
import Derived.Lib.IndexAny
import Derived.Lib.Join
import Derived.Lib.ItoaNum
import Derived.Test.YtdcndpbmgpcgmaaGreatDoorY6
import Derived.Lib.AtoiAll
import Derived.Test.YtdcndpbmgpcgmaaGreatDoorY9
import Derived.Test.YtdcndpbmgpcgmaaGreatDoorY10
import Derived.Test.YtdcndpbmgpcgmaaGreatDoorY4
noncomputable section
namespace Go.Ab
open Go Go.RowKit
theorem Cf{L:Lk}{g:Gh}{nb:Nat}{bx:List Bx}{rl:bm}{w w':World}(a:aY L g nb bx rl w)(s:Below w.heap.size w w'):
  Step g rl w g rl w'/\aY L g nb bx rl w':=by
 have m:∀b,g.bD b≠0->b<w.heap.size:=fun b h=>by
  by_cases p:b<w.heap.size
  .exact p
  .exact absurd (a.fresh b om) h
 have c:Step g rl w g rl w':=by
  refine⟨s.os,s.tape,s.output,s.size,fun _=>aQ _,fun b o E=>?_,fun _ _ h=>h,fun k n e h=> .of h (aQ _) fun _=>rfl,fun b h=>?_,fun _ h=> .inl h,fun _ h=> .inl h,fun b h _ _=>s.block b h,fun _ _ _ _=>rfl,fun _ _ _ _=> .refl _⟩
  .have d:=s.block b (m b om);simp only[World.cell?,d]
  .have d:=s.block b h;simp only[World.shape?,d]
 refine⟨c,a.nb,a.kt,fun i x r v f=>?_,a.inj,a.jv,fun k n e h=>?_,a.jI,fun b h=>a.fresh b (by have:=s.size;omega),fun i=>(a.jd i).bj c,a.par.bj c rfl (fun _ _=>rfl) fun b _ l t d=>⟨l,t,by rw[s.block b (lt_of_heap d)];exact d⟩⟩
 .obtain⟨d,u⟩:=a.box i x r v f;exact⟨d,u.bj c (s.block r (a.qf (cP.2 ⟨i,f⟩)))⟩
 .obtain⟨d,u⟩:=a.row k n e h;refine⟨d,?_⟩;rcases u with u|⟨r,l,t,j,q,y,z⟩
  .exact .inl u
  .exact .inr ⟨r,l,t,j,q,by rw[s.block r (lt_of_heap y)];exact y,z⟩
theorem CP.B0{L:Lk}{f:Nat}{a:List AV}{v:DV}{cv:Value}(r:∀mk w,DR mk w v cv)(h:∀(g:Gh)(nb:Nat)(bx:List Bx)(rl:bm)(w:World)(t:Array Value),aY L g nb bx rl w->t.size=a.length->
   (∀(j:Nat)(x:AV)(y:Value),a[j]?=some x->t[j]?=some y->VR L g rl w x y)->Calls L.P (L.fn f) t w fun e n=>e=.returned cv/\Below w.heap.size w n):CP L f a (.d v):=by
 intro nb bx rl g w t s i o;refine(h g nb bx rl w t s i o).mono ?_;rintro e n ⟨rfl,l⟩;obtain⟨u,c⟩:=Cf s l;exact⟨cv,g,rfl,u,c,.d _ _ (r _ _)⟩
theorem GJ{c:Array Value}{x y:Value}(e:c.size=2)(t:∀v,c[0]?=some v->v=x)(o:∀v,c[1]?=some v->v=y):c=#[x,y]:=by
 apply vM
 .simp[e]
 .intro i a b;have n:i<2:=by omega
  match i,n with
  |0,_=>exact t _ (dZ a)
  |1,_=>exact o _ (dZ a)
theorem JT{c:Array Value}{x:Value}(e:c.size=1)(t:∀v,c[0]?=some v->v=x):c=#[x]:=by
 apply vM
 .simp[e]
 .intro i a b;have o:i<1:=by omega
  match i,o with
  |0,_=>exact t _ (dZ a)
theorem Sn{L:Lk}{g:Gh}{nb:Nat}{bx:List Bx}{rl:bm}{w:World}(u:aY L g nb bx rl w)(i:Nat)(m:L.gl i≠[]):
  ∃e t o,w.heap[L.gn i]?=some (.cells e t o)/\e.size=(L.gl i).length/\∀(j:Nat)(x:DV)(y:Value),(L.gl i)[j]?=some x->e[j]?=some y->DR g.bD w x y:=by
 obtain⟨s,f,_⟩:=u.jd i;obtain⟨t,a⟩:=f m;generalize p:(Value.pointer (some ⟨L.gn i,0,none⟩))=A at s;cases s with
 |gA O v b c I k q=>
 cases p;simp only[World.shape?]at a;split at a
 .rename_i z h o r;simp only[qZ,vh]at a;refine⟨z,_,o,r,a.2,fun j x y d l=>?_⟩;have E:=(bV.1 d).1;have n:=k j E;have T:=q j x d;simp only[World.cell?,r,dK]at n;simp at n;rw[n]at l;cases l;exact T
 .cases a
theorem Km{L:Lk}{g:Gh}{nb:Nat}{bx:List Bx}{rl:bm}{w:World}(r:aY L g nb bx rl w)(i:Nat){k:IntKind}{zs:List Int}(d:zs≠[])(s:L.gl i=zs.map (.int k)):
  ∃t o,w.heap[L.gn i]?=some (.cells (zs.map (Value.int k)).toArray t o):=by
 obtain⟨e,t,o,l,n,h⟩:=Sn r i (by rw[s];simpa using d);refine⟨t,o,?_⟩;rw[l]
 have:e=(zs.map (Value.int k)).toArray:=by
  rw[s]at n h;apply vM
  .simpa using n
  .intro j a b;have u:j<zs.length:=by simpa[n]using a
   have c:=h j (.int k zs[j]) e[j] (by simp[u]) (dZ a);have m:∀v,DR g.bD w (.int k zs[j]) v->v=.int k zs[j]:=by intro v f;cases f;rfl
   rw[m _ c];simp
 rw[this]
end Go.Ab
namespace Go.Ab
open Go
theorem Fi(n:Nat):Lib.decDigits n=iI n:=by
 induction n using Nat.strongRecOn with
 |ind n e=>
  rw[Lib.decDigits,iI];split
  .rfl
  .rw[e (n/10) om]
theorem NN(n:Int):Lib.itoa n=dec n:=by
 unfold Lib.itoa dec;rw[Fi,Fi]
theorem oy(c:UInt8):∀s:ab,Lib.indexByte s c=nV s c
 |[]=>by simp[Lib.indexByte,nV,cl]
 |b::r=>by
  have o:=oy c r;by_cases h:b=c
  .subst h;simp[Lib.indexByte,nV,cl]
  .have e:cl (b::r) c=cl r c+1:=by simp[cl,h]
   have i:(b==c)=false:=by simpa using h
   rw[Lib.indexByte,i,o];simp only[jT,if_false];unfold nV;rw[e];simp only[aZ];by_cases a:cl r c<r.length
   .have t:cl r c+1<r.length+1:=by omega
    have n:((cl r c:Int)==-1)=false:=by simp
    rw[if_pos a,if_pos t,n];simp
   .have t:¬cl r c+1<r.length+1:=by omega
    rw[if_neg a,if_neg t];simp
theorem P7(s:ab)(c:UInt8):Lib.indexAny s [c]=nV s c:=by rw[Lib.indexAny_one,oy]
theorem Im(c:UInt8):∀(l:List UInt8)(e a:Nat),Lib.parseUint10 e l=.ok a->Lib.parseUint10 e (l++[c])=Lib.parseUint10 a [c]
 |[],e,a,h=>by simp only[Lib.parseUint10]at h;injection h with h;subst h;rfl
 |b::r,e,a,h=>by
  rw[yg];rw[Lib.parseUint10]at h⊢;split at h
  .rename_i t;rw[if_pos t];split at h
   .cases h
   .rename_i o;rw[if_neg o];split at h
    .cases h
    .rename_i i;rw[if_neg i];exact Im c r _ a h
  .cases h
theorem zJ{d:Nat}(h:d<10):(UInt8.ofNat (48+d)).toNat=48+d:=by
 rw[Gi];omega
theorem Il(n:Nat)(a:n<18446744073709551616):Lib.parseUint10 0 (iI n)=.ok n:=by
 induction n using Nat.strongRecOn with
 |ind n t=>
  rw[iI];split
  .rename_i h;have e:=zJ h;rw[Lib.parseUint10,if_pos om,if_neg om,if_neg om,e];simp[Lib.parseUint10]
  .rename_i h;rw[Im _ _ _ _ (t (n/10) om om)];have e:=zJ (d:=n%10) om;rw[Lib.parseUint10,if_pos om,if_neg om,if_neg om,e];simp only[Lib.parseUint10];congr 1;omega
theorem GQ(n:Nat):iI n≠[]:=by rw[iI];split<;>simp
theorem U0(n:Nat):∀c r,iI n=c::r->48<=c.toNat/\c.toNat<=57:=by
 induction n using Nat.strongRecOn with
 |ind n o=>
  intro c r h;rw[iI]at h;split at h
  .rename_i a;have i:=zJ a;cases h;omega
  .rename_i a;cases e:iI (n/10)with
   |nil=>exact absurd e (GQ _)
   |cons b t=>rw[e]at h;cases h;exact o (n/10) om _ t e
theorem JV(c:UInt8)(r:List UInt8)(u:Nat)(h:Lib.parseMag (if c.toNat=43\/c.toNat=45 then r else c::r)=.ok u):
  Lib.atoiAll (c::r)=if¬c.toNat=45/\9223372036854775808<=u then .range else if c.toNat=45/\9223372036854775808<u then .range else .ok (if c.toNat=45 then -(u:Int)else u):=by
 simp only[Lib.atoiAll,h]
theorem CB{n:Int}(s:eB .i64 n):Lib.atoiAll (dec n)=.ok n:=by
 obtain⟨h,d⟩:=s;unfold dec;have e:(45:UInt8).toNat=45:=rfl;split
 .rename_i a;rw[JV 45 _ n.natAbs (by rw[if_pos (.inr e)];unfold Lib.parseMag;rw[if_neg (GQ _)];exact Il _ om)];rw[if_neg om,if_neg om,if_pos e];congr 1;omega
 .rename_i o;cases t:iI n.toNat with
  |nil=>exact absurd t (GQ _)
  |cons c r=>
   have l:=U0 _ c r t;have i:=Il n.toNat om;rw[t]at i;rw[JV c r n.toNat (by rw[if_neg om];unfold Lib.parseMag;rw[if_neg si];exact i)];rw[if_neg om,if_neg om,if_neg om];congr 1;omega
def Qx(s:ab):Int:=match Lib.atoiAll s with| .ok v=>v| .range=>Lib.atoiSat s|_=>0
theorem adI(n:Int)(h:eB .i64 n):Qx (dec n)=n:=by unfold Qx;rw[CB h]
variable{n i f:Nat}{xs:bJ}
section
variable{L:Lk}{S:Nat->Option lO}{H:Nat->Nat}{tx:Nat}{im:Int->List UInt8}{B:Int}
theorem Mk.le{j:MJ}{k k':Int}(h:Mk S im j k k'):k<=k':=by
 induction h with
 |nil=>exact Az _
 |cons _ _ _ _ _ _ _ _ _ _ e a=>omega
 |e0=>exact Az _
 |i _ _ _ _ _ _ _ o=>omega
 |t _ _ _ _ _ _ _ o=>omega
 |b _ _ _ _ _ _ _ o=>omega
 |s _ _ _ _ _ _ _ _ _ _ _ _ e a=>omega
def HP(L:Lk)(S:Nat->Option lO)(H:Nat->Nat)(tx:Nat)(B:Int):MJ->Int->Int->Prop
 | .s f xs,k,t=>0<=k->t<=B->∀(u:lO),S f=some u->∀(r:bJ)(n:Nat)(e:Env)(Q:AE->St->Prop),He e (r++xs) r.length k->
   (∀l,look l 1=.d (.int .i64 t)->Q (.exit 0) ⟨l,0,[],[]⟩)->LW L n ⟨0,0,none⟩ (La (wU (PF tx u.es 12 u.lq))) ⟨e,0,[],[]⟩ Q
 | .e lq c,k,t=>0<=k->t<=B->∀(es N n i:Nat)(e:Env)(xs:bJ)(x:List DV),12<=N->He e xs i k->xs[i]?=some x->x.length=es->(∀a,a∈lq->a.pl<es/\x[a.pl]?=some (c a.pl))->
   (∀o g h,Fa.s o g h∈lq->h=H g)->Ws L n (PF tx es N lq) e fun l=>He l xs i t
theorem RP(p:AI->Bool)(e:∀n a b,p (zf n a b)=true):∀(o:List Nat)(m:Nat),(R3 m o).all p=true
 |[],_=>rfl
 |a::r,m=>by simp only[R3,List.all_cons,e,Bool.true_and];exact RP p e r (m+1)
theorem Ku{k:Int}{e:Env}{Q:AE->St->Prop}(h:He e xs i k)(l:∀a,xs.length<=gJ->i<xs.length->He a xs i k->Q .normal ⟨a,0,[],[]⟩)(u:∀a,¬i<xs.length->look a 1=.d (.int .i64 k)->Q (.exit 0) ⟨a,0,[],[]⟩):
  W L n ⟨0,0,none⟩ (.seq (zr [zm 6 5,zm 7 0,zs 8 (.pj (.t 7)),zs 9 (.eO .i64 .lss (.t 6) (.t 8))]) (.cond (.t 9) .skip (.exit 0))) ⟨e,0,[],[]⟩ Q:=by
 refine dW (eY ?_);have v:=h.v;have o:=h.i;have s:=h.k;simp only[kW,zm,zs,cB,bL,force_eq,uU,aE,v,o];simp only[Nat.reduceEqDiff,if_true,if_false];intro c;simp only[Hk,l8];refine eb ?_;simp only[bL,aE,if_true,Xv,ud];by_cases r:i<xs.length
 .have:qy (i:Int) (xs.length:Int)=true:=by simp only[qy];exact decide_eq_true om
  rw[this];simp only[ov];exact eM (l _ c r ⟨by simp[aE,v],by simp[aE,o],by simp[aE,s]⟩)
 .have:qy (i:Int) (xs.length:Int)=false:=by simp only[qy];exact decide_eq_false om
  rw[this];simp only[ov];exact pK (u _ r (by simp[aE,s]))
theorem SA{t:lO}(o:aJ L f (Zj tx t)){k k':Int}(h:∀(n:Nat)(e:Env)(Q:AE->St->Prop),He e xs 0 k->(∀a,look a 1=.d (.int .i64 k')->Q (.exit 0) ⟨a,0,[],[]⟩)->LW L n ⟨0,0,none⟩ (La (wU (PF tx t.es 12 t.lq))) ⟨e,0,[],[]⟩ Q):
  CP L f [.d (.sl xs),.d (.int .i64 k)] (.d (.int .i64 k')):=by
 refine CP.jq o rfl rfl rfl ?_;refine dW (eY ?_);simp only[kW,zs,cB,Jb,force_eq,uU];refine dW (dW (eY ?_));simp only[kW,cB,Jb,force_eq,uU];refine fT (O' (h _ _ _ ⟨by simp[aE,ki],by simp[aE],by simp[aE,ki]⟩ fun a i=>?_));show W L _ _ _ _ _;refine dW (eY ?_);simp only[kW,zm,cB,bL,force_eq,uU,i];refine mQ ?_;simp only[xx,Zj,mkF,FR,aE,if_true,force_eq,QA,Lw,cw];exact⟨rfl,trivial,trivial,rfl⟩
theorem Zk(hT:∀k,0<=k->k<=B->CP L tx [.d (.int .i64 k)] (.d (.str (im k))))(hB:B<=9223372036854775806)(hO:∀f u,S f=some u->SchOk u)(hH:∀f u,S f=some u->aJ L (H f) (Zj tx u))(hC:∀f u,S f=some u->∀o g h,Fa.s o g h∈u.lq->h=H g){j:MJ}{k k':Int}(h:Mk S im j k k'):HP L S H tx B j k k':=by
 induction h with
 |nil f u hS k=>
  intro M O em et T n e Q w hq;refine LW.L2 (dW (Ku w (fun l _ hi=>absurd hi si) fun l _ hk=>hq l hk))
 |cons f u hS c xs k k1 k2 O F eo ef=>
  intro M J em et T n e Q w hq;rw[hS]at et;cases et;have l1:=O.le;have l2:=F.le;have ed:=hO f u hS;have C:(T++(List.range u.es).map c::xs)[T.length]?=some ((List.range u.es).map c):=by simp
  refine LW.L2 (dW (Ku w (fun l el _ p=>?_) fun l hi=>absurd si hi));show W L n _ _ _ _;refine dW (fT (W.mono (Ws.wU (eo M om u.es 12 n T.length l _ _ om p C si (fun a X=>⟨ed.lt a X,by simp[Gf (ed.lt a X)]⟩) (hC f u hS))) ?_));rintro x σ ⟨rfl,e2,rfl,ei⟩;show W L n _ _ _ _;refine W.mono (abq (K:=fun I=>He I (T++(List.range u.es).map c::xs) (T.length+1) k1) ?_) ?_
  .simp only[QR,zm,zs];refine⟨_,.lR 5,_,.eO .add 10 (zi 1) T.length 1 (.int .i64 ((T.length+1:Nat):Int)) (by rw[aE,if_pos rfl,ei.i]) rfl (fun K V=>?_),_,.lR 11,fun I h3=>⟨?_,?_,?_⟩⟩
   .simp only[l8];rw[wrap64 (by simp[gJ]at el;omega)];exact V
   .rw[h3];simp[aE,ei.v]
   .rw[h3];simp[aE]
   .rw[h3];simp[aE,ei.k]
  .rintro x σ ⟨rfl,I,rfl,A⟩;have:=ef om J u hS (T++[(List.range u.es).map c]) n I Q;simp only[ga,List.singleton_append,bG,Rf]at this;exact this A hq
 |e0 c k=>intro M J es N n i e xs x hN w C Y P E;exact w
 |i o r c k k' R h ih=>
  intro M J es N n i e xs x hN w C Y P E;have l1:=h.le;have D:(Fa.i o).pl=jK o:=rfl;have U:=P _ (iE ..);rw[D,R]at U;simp only[PF,hP];refine Ws.app ?_;refine W.mono (Pa (K:=fun l=>He l xs i k) ?_) fun y σ=>oz fun l p=>?_
  .simp only[QR,zm];refine⟨_,.lR 0,_,.lR 5,QC (xs:=xs) (x:=x) (i:=i) (d:=.int .i64 k) ?_ ?_ C Y U.1 U.2 fun l O F=>?_⟩
   .rw[aE,if_neg om,aE,if_pos rfl,w.v]
   .rw[aE,if_pos rfl,aE,if_neg om,w.i]
   .have G:∀s,s<N->look l s=look e s:=fun s E=>by rw[O s om,aE,if_neg om,aE,if_neg om]
    have Z:look l 1=.d (.int .i64 k):=by rw[G 1 om,w.k]
    simp only[QR,zs];refine⟨_,.lR 1,_,.eO .neq _ (.t (N+2+o.length+2)) k k (.bool false) ?_ ?_ ?_,?_,fun e2 z=>w.to (m:=N) om (fun s E O=>?_) ?_⟩
    .rw[aE,if_neg om,F]
    .simp only[bL];rw[aE,if_pos rfl,Z]
    .intro K V;simpa[l8,jf]using V
    .rw[aE,if_pos rfl]
    .rw[z,aE,if_neg om,aE,if_neg om];exact G s E
    .rw[z,aE,if_neg om,aE,if_neg om,Z]
  .exact W.mono (UM om p ⟨M,by omega⟩ (K:=fun l=>He l xs i (k+1)) fun I h=>h) fun y σ=>oz fun I A=>
    ih om J es _ n i I xs x om A C Y (fun a X=>P a (iS _ X)) fun o g h q=>E o g h (iS _ q)
 |t o r c k k' R h ih=>
  intro M J es N n i e xs x hN w C Y P E;have l1:=h.le;have D:(Fa.t o).pl=jK o:=rfl;have U:=P _ (iE ..);rw[D,R]at U;simp only[PF,hP];refine Ws.app ?_;refine W.mono (abr (K:=fun l=>He l xs i k) (by simp only[D1,List.all_cons,List.all_append,List.all_nil,RP (fun a=>dOp a.o) (fun _ _ _=>rfl)];rfl) ?_) fun y σ=>oz fun l p=>?_
  .simp only[QR,zm];refine⟨_,.lR 0,_,.lR 5,QC (xs:=xs) (x:=x) (i:=i) (d:=.str (im k)) ?_ ?_ C Y U.1 U.2 fun l O F=>?_⟩
   .rw[aE,if_neg om,aE,if_pos rfl,w.v]
   .rw[aE,if_pos rfl,aE,if_neg om,w.i]
   .have G:∀s,s<N->look l s=look e s:=fun s E=>by rw[O s om,aE,if_neg om,aE,if_neg om]
    have Z:look l 1=.d (.int .i64 k):=by rw[G 1 om,w.k]
    simp only[QR,zs];refine⟨_,.lR 1,_,.GN _ _ (.d (.str (im k))) ?_,_,.oL .neq _ _ (im k) (im k) (.bool false) ?_ ?_ ?_,?_,fun e2 z=>w.to (m:=N) om (fun s E O=>?_) ?_⟩
    .rw[aE,if_pos rfl,Z];exact hT k M om
    .rw[aE,if_neg om,aE,if_neg om,F]
    .rw[aE,if_pos rfl]
    .intro K V;simpa[LS,uh]using V
    .rw[aE,if_pos rfl]
    .rw[z,aE,if_neg om,aE,if_neg om,aE,if_neg om];exact G s E
    .rw[z,aE,if_neg om,aE,if_neg om,aE,if_neg om,Z]
  .exact W.mono (UM om p ⟨M,by omega⟩ (K:=fun l=>He l xs i (k+1)) fun I h=>h) fun y σ=>oz fun I A=>
    ih om J es _ n i I xs x om A C Y (fun a X=>P a (iS _ X)) fun o g h q=>E o g h (iS _ q)
 |b o r c k k' R h ih=>
  intro M J es N n i e xs x hN w C Y P E;have l1:=h.le;have D:(Fa.b o).pl=jK o:=rfl;have U:=P _ (iE ..);rw[D,R]at U;simp only[PF,hP];refine Ws.app ?_;refine W.mono (Pa (K:=fun l=>He l xs i k) ?_) fun y σ=>oz fun l p=>?_
  .simp only[QR,zm];refine⟨_,.lR 0,_,.lR 5,QC (xs:=xs) (x:=x) (i:=i) (d:=.bool (jf (Int.tmod k 3) 0)) ?_ ?_ C Y U.1 U.2 fun l O F=>?_⟩
   .rw[aE,if_neg om,aE,if_pos rfl,w.v]
   .rw[aE,if_pos rfl,aE,if_neg om,w.i]
   .have G:∀s,s<N->look l s=look e s:=fun s E=>by rw[O s om,aE,if_neg om,aE,if_neg om]
    have Z:look l 1=.d (.int .i64 k):=by rw[G 1 om,w.k]
    simp only[QR,zs];refine⟨_,.lR 1,_,.eO .rem _ (zi 3) k 3 (.int .i64 (Int.tmod k 3)) ?_ rfl ?_,_,.eO .eql _ (zi 0) (Int.tmod k 3) 0 (.bool (jf (Int.tmod k 3) 0)) ?_ rfl ?_,_,.ri _ _ (jf (Int.tmod k 3) 0) (jf (Int.tmod k 3) 0) ?_ ?_,?_,fun e2 z=>w.to (m:=N) om (fun s E O=>?_) ?_⟩
    .rw[aE,if_pos rfl,Z]
    .intro K V;exact⟨by omega,V⟩
    .rw[aE,if_pos rfl]
    .intro K V;exact V
    .rw[aE,if_neg om,aE,if_neg om,aE,if_neg om,F]
    .rw[aE,if_pos rfl]
    .rw[aE,if_pos rfl];simp
    .rw[z,aE,if_neg om,aE,if_neg om,aE,if_neg om,aE,if_neg om];exact G s E
    .rw[z,aE,if_neg om,aE,if_neg om,aE,if_neg om,aE,if_neg om,Z]
  .exact W.mono (UM om p ⟨M,by omega⟩ (K:=fun l=>He l xs i (k+1)) fun I h=>h) fun y σ=>oz fun I A=>
    ih om J es _ n i I xs x om A C Y (fun a X=>P a (iS _ X)) fun o g h q=>E o g h (iS _ q)
 |s o g h' r c ys k k1 k' R O h eo ih=>
  intro M J es N n i e xs x hN w C Y P E;have l1:=h.le;have l0:=O.le;have D:(Fa.s o g h').pl=jK o:=rfl;have U:=P _ (iE ..);rw[D,R]at U;have hh:=E o g h' (iE ..);have ee:∃u,S g=some u:=by cases O with|nil _ u q=>exact⟨u,q⟩|cons _ u q=>exact⟨u,q⟩
  obtain⟨u,ee⟩:=ee
  have ey:CP L h' [.d (.sl ys),.d (.int .i64 k)] (.d (.int .i64 k1)):=by
   rw[hh];exact SA (hH g u ee) fun n e Q w hq=>eo M om u ee [] n e Q w hq
  simp only[PF,hP];refine Ws.app ?_;refine W.mono (abq (K:=fun l=>He l xs i k1) ?_) fun y σ=>oz fun l p=>?_
  .simp only[QR,zm];refine⟨_,.lR 0,_,.lR 5,QC (xs:=xs) (x:=x) (i:=i) (d:=.sl ys) ?_ ?_ C Y U.1 U.2 fun l O F=>?_⟩
   .rw[aE,if_neg om,aE,if_pos rfl,w.v]
   .rw[aE,if_pos rfl,aE,if_neg om,w.i]
   .have G:∀s,s<N->look l s=look e s:=fun s E=>by rw[O s om,aE,if_neg om,aE,if_neg om]
    have Z:look l 1=.d (.int .i64 k):=by rw[G 1 om,w.k]
    simp only[QR,zs];refine⟨_,.lR 1,_,.call2 _ _ _ (.d (.int .i64 k1)) ?_,_,.lR _,fun e2 z=>w.to (m:=N) om (fun s E O=>?_) ?_⟩
    .rw[aE,if_neg om,F,aE,if_pos rfl,Z];exact ey
    .rw[z,aE,if_neg om,aE,if_neg om,aE,if_neg om];exact G s E
    .rw[z,aE,if_pos rfl,aE,if_pos rfl]
  .refine W.mono (Pa (K:=fun l=>He l xs i k1) ?_) fun y σ=>oz fun I A=>
    ih om J es _ n i I xs x om A C Y (fun a X=>P a (iS _ X)) fun o g h q=>E o g h (iS _ q)
   simp only[QR,zm,zs];refine⟨_,.lR 1,_,.eO .lss _ (zi 0) k1 0 (.bool false) ?_ rfl ?_,?_,fun e2 F=>p.to (m:=N) om (fun s E O=>?_) ?_⟩
   .rw[aE,if_pos rfl,p.k]
   .intro K V;have:qy k1 0=false:=by simp only[qy];exact decide_eq_false om
    simpa[l8,this]using V
   .rw[aE,if_pos rfl]
   .rw[F,aE,if_neg om,aE,if_neg om]
   .rw[F,aE,if_neg om,aE,if_neg om,p.k]
theorem ab5(r:∀k,0<=k->k<=B->CP L tx [.d (.int .i64 k)] (.d (.str (im k))))(l:B<=9223372036854775806)(u:∀f t,S f=some t->SchOk t)(a:∀f t,S f=some t->aJ L (H f) (Zj tx t))(c:∀f t,S f=some t->∀o g h,Fa.s o g h∈t.lq->h=H g){t:lO}(i:S f=some t){k k':Int}(h:Mk S im (.s f xs) k k')(m:0<=k)(w:k'<=B):CP L (H f) [.d (.sl xs),.d (.int .i64 k)] (.d (.int .i64 k')):=
 SA (a f t i) fun n e Q y p=>Zk r l u a c h m w t i [] n e Q y p
end
variable{g:Gh}{rl:bm}{w:World}{nb:Nat}{bx:List Bx}{s:ab}{v:AV}{args:List AV}
def eR(M:Nat->Nat):Gh:=⟨[],M,[],fun _=> .out⟩
theorem CC(M:Nat->Nat):EU (eR M):=⟨rfl,rfl,fun _=>rfl⟩
section
variable{L:Lk}
theorem aY.bare(h:aY L g nb bx rl w):aY L (eR g.bD) 0 [] [] w where
 nb:=rfl
 kt:=rfl
 box i x t l:=by simp at l
 inj i j t a:=by simp[eR]at a
 jv:=rfl
 row k n e u:=by simp at u
 jI i j b a:=by simp[eR]at a
 fresh:=h.fresh
 jd i:=by
  obtain⟨m,f⟩:=h.jd i;refine⟨?_,f⟩;cases m with
  |gA q t s c r d y=>exact .gA _ _ _ c r d y
 par:=⟨fun b _=>rfl,fun b _=>rfl,fun c o b s len p d=>absurd rfl d,fun b v=>absurd rfl v⟩
theorem aY.more{M a:Nat->Nat}(h:aY L (eR M) 0 [] [] w)(s:∀b,M b<=a b)(p:∀b,w.heap.size<=b->a b=0):aY L (eR a) 0 [] [] w where
 nb:=rfl
 kt:=rfl
 box i x t v:=by simp at v
 inj i j t r:=by simp[eR]at r
 jv:=rfl
 row k n e g:=by simp at g
 jI i j b r:=by simp[eR]at r
 fresh:=p
 jd i:=by
  obtain⟨q,d⟩:=h.jd i;refine⟨?_,d.1,fun ev f=>⟨(d.2 ev f).1,jS (d.2 ev f).2 (s _)⟩⟩;cases q with
  |gA O t l c u m z=>exact .gA _ _ _ c (gM u (s _)) m fun j y E=>(z j y E).bj s fun _ _ _=>rfl
 par:=⟨fun b _=>rfl,fun b _=>rfl,fun c o b l len T m=>absurd rfl m,fun b A=>absurd rfl A⟩
theorem CP.raw(h:CP L f args v){M:Nat->Nat}{t:Array Value}(r:aY L (eR M) 0 [] [] w)(d:t.size=args.length)(l:∀(j:Nat)(x:AV)(y:Value),args[j]?=some x->t[j]?=some y->VR L (eR M) [] w x y):
  Calls L.P (L.fn f) t w fun e o=> ∃i,e=.returned i/\∃a,mz (eR M) (fun _=>False) w o/\aY L (eR a.bD) 0 [] [] o/\(∀b,M b<=a.bD b)/\VR L a [] o v i:=by
 refine(h 0 [] [] (eR M) w t r d l).mono ?_;rintro e o ⟨i,a,rfl,s,n,u⟩;exact⟨i,rfl,a,mz.step (L:=L) (CC M) s,n.bare,s.bD,u⟩
theorem Wn(s:ab)(h:(eh s).2≠0):(eh s).1=[]:=by
 unfold eh at h⊢;split
 .rename_i e;rw[if_pos e]at h;unfold Xw at h⊢;split
  .rfl
  .rename_i r q;rw[q]at h;dsimp only at h;split
   .rfl
   .rename_i t;rw[if_neg t]at h;exact absurd rfl h
 .rfl
theorem Oh(h:xt L s)(hs:s.length<=gJ){M:Nat->Nat}(hr:aY L (eR M) 0 [] [] w):
  Calls L.P (L.fn 12) #[.string ⟨s.toArray⟩] w fun e w'=> ∃cv,e=.returned cv/\∃(v:Value)(V:Nat->Nat)(n:Nat)(X:Nat->Prop),cv=.tuple #[v,.int .i64 (eh s).2]/\mz (eR M) (fun _=>False) w w'/\aY L (eR V) 0 [] [] w'/\(∀b,M b<=V b)/\
   DR V w' (.sl (eh s).1) v/\OD jJ V w' (.s 13 v) X n/\n<=1000000000000000000/\∀c,X c->w.heap.size<=c:=by
 have u:∀(g:Gh)(rl:bm)(j:Nat)(x:AV)(y:Value),[AV.d (.str s)][j]?=some x->#[Value.string ⟨s.toArray⟩][j]?=some y->VR L g rl w x y:=fun g rl j x y T hy=>by
  cases j with
  |zero=>simp at T hy;subst T;subst hy;exact .d _ _ (.str s hs)
  |succ j=>simp at T
 obtain⟨l,hl,ed,hB⟩:=Ok s;have A:=agd om hB;rw[<-hl]at A
 have Yt:∀{g:Gh}{rl:bm}{w':World}{a:AV}{k:Int}{cv:Value},VR L g rl w' (.b6 [a,.d (.int .i64 k)]) cv->∃v,cv=.tuple #[v,.int .i64 k]/\VR L g rl w' a v:=by
  intro g rl w' a k cv m;cases m with
  |b6 _ O E hh=>
   have h0:(0:Nat)<O.size:=by rw[E];simp
   have f:(1:Nat)<O.size:=by rw[E];simp
   have q0:=hh 0 a O[0] rfl (dZ h0);have I:=hh 1 _ O[1] rfl (dZ f);obtain⟨e1,_⟩:=I.fV;refine⟨O[0],?_,q0⟩;rw[<-e1];congr 1;apply vM
   .rw[E];rfl
   .intro i B _;rw[E]at B
    match i,B with
    |0,_=>rfl
    |1,_=>rfl
 by_cases N:(eh s).2=0
 .have G:=hr.qK 720034 de;refine(h.y N _ w _ G rfl (u _ _)).mono ?_;rintro e w' ⟨cv,S,rfl,r,o,m⟩;obtain⟨v,rfl,p⟩:=Yt m;cases p with
  |aO _ _ _ H ht=>
  obtain⟨n,K,E⟩:=A
  have R:∀c,S.par c≠.out->w.heap.size<=c:=fun c J=>by
   refine Nat.le_of_not_lt fun q=>J ?_
   exact(r.oi c q (by simp[eR]) (by simp[eR])).1 rfl
  refine⟨_,rfl,v,S.bD,n,Gw S.par [],by rw[N],?_,o.bare,r.bD,H,?_,E,?_⟩
  .exact⟨⟨r.os,r.tape,r.output,r.size,r.shape,r.cell⟩,fun c q _=>r.frame c q (by simp[eR]) (by simp[eR])⟩
  .refine N3 o.par (fun sc hS=>(FZ 13 sc hS).pos) K (adP o.par FZ K) H fun b D len U m=>?_
   obtain⟨n',e',I,q2,q3,q4,q5⟩:=ht;have C:=o.row 0 n' e' I;simp[cD]at I;obtain⟨rfl,rfl⟩:=I;rcases q5 rfl with⟨Z,_⟩|⟨z,eo,t,Z,q7,q8⟩
   .rw[Z]at m;cases m
   .rw[Z]at m;cases m;rcases C.2 with⟨f,_⟩|⟨ei,el,t',fr,f,h2,h3,h4,h5,h6,h7,h8⟩
    .rw[q7]at f;cases f
    .rw[q7]at f;cases f;exact .inr (.root _ (h8.2.1.2 de))
  .rintro c ⟨Q,J⟩;exact R c J.ne
 .have he:=Wn s N;refine(h.n N 0 [] [] (eR M) w _ hr rfl (u _ _)).mono ?_;rintro e w' ⟨cv,S,rfl,r,o,m⟩;obtain⟨v,rfl,p⟩:=Yt m;cases p with
  |d _ _ H=>
  have K:Wt jJ (.s 13 []) 0:=.nil 13 _ rfl;refine⟨_,rfl,v,S.bD,0,fun _=>False,rfl,mz.step (L:=L) (CC M) r,o.bare,r.bD,by rw[he];exact H,?_,by omega,fun c h=>h.elim⟩;cases H with
  |slnil=>exact .nil 13 _ rfl _ _ _ fun mk w' _=> .slnil
  |sle a=>exact .nil 13 _ rfl _ _ _ fun mk w' _=> .sle a
  |sl _ z D U es c F Y ee et N m=>exact .nil 13 _ rfl _ _ _ fun mk w' hm=> .sl [] z D U es c F Y ee (gM et (hm z)) (fun i j B=>absurd B si) (fun i j x y T=>by simp at T)
end
end Go.Ab
namespace Go.Ab
open Go
attribute [local irreducible] bI cf cw bW bA dk dT
variable{L:Lk}{n:Nat}
set_option maxHeartbeats 4000000
def im(k:Int):List UInt8:=109::iI k.toNat
def Se(n:Nat):List UInt8:=if n=0 then[]else iI n
theorem Y0(h:n≠0)(s:List UInt8):Se n++s=Se (n/10)++(UInt8.ofNat (48+n%10)::s):=by
 rw[Se,if_neg h,iI];split
 .rename_i e;rw[Se,if_pos om,show n%10=n by omega];rfl
 .rw[Se,if_neg om];simp
theorem Tk(o:aJ L 35 c35)(k:Int)(i:0<=k)(y:k<=9223372036854775806):CP L 35 [.d (.int .i64 k)] (.d (.str (im k))):=by
 obtain⟨m,rfl⟩:=Int.eq_ofNat_of_zero_le i;have p:=vO 18 m om;refine o.cp ?_
 conv=>whnf
 refine bS (fun h=>?_) (fun h=>?_)
 .have:=yG h;have r:m=0:=by omega
  subst r
  conv=>whnf
  refine cu ?_;rw[im];simp[iI]
 .have:=Ae h
  conv=>whnf
  refine LW.gen (S:=Nat×List UInt8) (fun x=>x.1) (fun x=>x.1<=m/\Se x.1++x.2=iI m) (fun x=>⟨[(0,.d (.int .i64 x.1)),(3,.d (.str x.2))],0,[],[]⟩) (fun _=>⟨rfl,rfl,rfl⟩) ?_ (m,[]) ⟨by omega,by simp[Se];omega⟩ _ lz;rintro⟨n,s⟩ ⟨l,t⟩ a;dsimp only at l t a⊢;have u:s.length<=19:=by have:=congrArg List.length t;simp at this;omega
  conv=>whnf
  refine bS (fun h=>?_) (fun h=>?_)
  .have c:=vP h
   conv=>whnf
   refine ad de ?_
   conv=>whnf
   refine ad (fun x f=>⟨_,dP.1 f⟩) ?_
   conv=>whnf
   refine ad (by simp;omega) ?_
   conv=>whnf
   refine ad de ?_
   conv=>whnf
   have w:IntKind.u8.wrap (IntKind.i64.wrap (48+(n:Int).tmod 10))=((48+n%10:Nat):Int):=by
    rw[Int.tmod_eq_emod_of_nonneg om,wrap64 om,Q7 om];omega
   have e:IntKind.i64.wrap ((n:Int).tdiv 10)=((n/10:Nat):Int):=by
    rw[Int.tdiv_eq_ediv_of_nonneg om,wrap64 om];omega
   refine a (n/10,UInt8.ofNat (48+n%10)::s) _ (by show n/10<n;omega) ⟨by show n/10<=m;omega,by rw[<-t];exact(Y0 om s).symm⟩ (by refine⟨?_,?_,?_⟩<;>repeat' first|rw[e]|(rw[w];rfl)|exact sz|exact dV om|apply And.intro)
  .have c:=qP h
   conv=>whnf
   refine ad (by simp;omega) ?_
   conv=>whnf
   refine cu ?_;have:n=0:=by omega
   subst this;simp only[Se,if_true,Cr]at t;rw[im,t];simp
end Go.Ab
namespace Go.Ab
open Go
variable{g:Gh}{rl:bm}{w:World}{s:ab}{w':World}
section
variable{L:Lk}
theorem VR.ahO{k:Int}(h:eB .i64 k):VR L g rl w (.d (.int .i64 k)) (.int .i64 k):=.d _ _ (.int _ _ h)
theorem va1{a:AV}{x:Value}(h:VR L g rl w a x):∀(j:Nat)(p:AV)(y:Value),[a][j]?=some p->#[x][j]?=some y->VR L g rl w p y:=fun j p y e t=>by
 match j with
 |0=>simp at e t;subst e;subst t;exact h
 |j+1=>simp at e
theorem va2{a b:AV}{x y:Value}(h:VR L g rl w a x)(k:VR L g rl w b y):∀(j:Nat)(p:AV)(z:Value),[a,b][j]?=some p->#[x,y][j]?=some z->VR L g rl w p z:=fun j p z e t=>by
 match j with
 |0=>simp at e t;subst e;subst t;exact h
 |1=>simp at e t;subst e;subst t;exact k
 |j+2=>simp at e
theorem Yt{a:AV}{k:Int}{cv:Value}(s:VR L g rl w' (.b6 [a,.d (.int .i64 k)]) cv):∃v,cv=.tuple #[v,.int .i64 k]/\VR L g rl w' a v/\eB .i64 k:=by
 cases s with
 |b6 _ e t o=>
  have h:(0:Nat)<e.size:=by rw[t];simp
  have r:(1:Nat)<e.size:=by rw[t];simp
  have l:=o 0 a e[0] rfl (dZ h);have u:=o 1 _ e[1] rfl (dZ r);obtain⟨c,m⟩:=u.fV;refine⟨e[0],?_,l,m⟩;rw[<-c];congr 1;apply vM
  .rw[t];rfl
  .intro i n _;rw[t]at n
   match i,n with
   |0,_=>rfl
   |1,_=>rfl
theorem mz.low{M e:Nat->Nat}(t:∀b,M b<=e b){Y:Nat->Prop}(h:mz (eR e) Y w w'):mz (eR M) Y w w':=
 ⟨⟨h.mv.os,h.mv.tape,h.mv.output,h.mv.size,h.mv.shape,fun b o a=>h.mv.cell b o (jS a (t b))⟩,h.frame⟩
theorem DR.fr{M e:Nat->Nat}{Y:Nat->Prop}(h:mz (eR M) Y w w')(t:∀b,M b<=e b){d:DV}{v:Value}(a:DR M w d v):DR e w' d v:=a.bj t h.mv.cell
theorem af8(s:ab):((⟨s.toArray⟩:ByteArray).size:Int)=s.length:=by simp[ByteArray.size]
theorem aY.fr{M:Nat->Nat}{Y:Nat->Prop}(h:aY L (eR M) 0 [] [] w)(f:mz (eR M) Y w w'):aY L (eR M) 0 [] [] w':=h.mv (CC M) f.mv
set_option maxRecDepth 4000 in
set_option maxHeartbeats 4000000 in
theorem adw(m:∀f,ij L f)(hf:II L 4 c4=true)(hs:s.length<=gJ)(hR:xt L s)(hW:CP L 11 [.d (.str s)] (.b6 [.d (.sl (eh s).1),.d (.int .i64 (eh s).2)]))(hE:CP L 10 [.d (.sl (eh s).1),.d (.sl (eh s).1)] (.d (.bool true)))(hT:∀k,0<=k->k<=9223372036854775806->CP L 35 [.d (.int .i64 k)] (.d (.str (im k))))(hM:∀f A,jJ f=some A->II L f (mkM 35 A)=true)(hH:∀f A,jJ f=some A->aJ L (hdT f) (Zj 35 A)){M:Nat->Nat}(hr:aY L (eR M) 0 [] [] w):
  Calls L.P (L.fn 4) #[.string ⟨s.toArray⟩] w fun e w'=> ∃v,e=.returned v/\v=.bool true/\mz (eR M) (fun c=>w.heap.size<=c) w w':=by
 refine RW.enter hf rfl rfl ?_;refine RW.seq (RW.mono (Q:=fun x t w'=>x=.normal/\t 0=.string ⟨s.toArray⟩/\w=w') (RW.j9 m ?_) ?_)
 .simp only[rx,jw,gx,iC];simp[cH]
 rintro _ e1 _ ⟨rfl,a,rfl⟩;show RW L _ _ e1 _ _;refine RW.seq (RW.seq (RW.mono (Q:=fun x t w'=>x=.normal/\t 0=.string ⟨s.toArray⟩/\t 13=.bool (qy 1048576 s.length)/\w=w') (RW.j9 m ?_) ?_))
 .simp only[rx,jw,gx,iC,l8,toV];refine⟨_,by simp only[cH,if_true];exact a,_,_,by simp only[cH,if_true];rfl,rfl,?_⟩;rw[af8];simp[cH,a]
 rintro _ e2 _ ⟨rfl,a,ef,rfl⟩;show RW L _ _ e2 _ _;refine RW.cond ef ?_;by_cases hl:qy 1048576 (s.length:Int)=true
 .rw[hl];refine RW.seq (RW.j9 m ?_);simp only[rx,jw,gx,iC];refine RW.ret ?_;exact⟨by simp[cH],.refl _ _ _⟩
 rw[Bool.eq_false_iff.2 hl];refine RW.skip ?_;show RW L _ _ e2 _ _;clear hl ef;refine RW.seq (RW.mono (Q:=fun x t w'=>x=.normal/\t 0=.string ⟨s.toArray⟩/\∃u z,t 3=u/\t 4=.int .i64 (eh s).2/\mz (eR M) (fun _=>False) w w'/\aY L (eR z) 0 [] [] w'/\(∀b,M b<=z b)/\DR z w' (.sl (eh s).1) u) (RW.j9 m ?_) ?_)
 .simp only[rx,jw,gx,sV,iC];simp only[cH,if_true,a];refine(CP.raw hW hr rfl (va1 (.d _ _ (.str s hs)))).mono ?_;rintro r w1 ⟨cv,rfl,g',fr,O,hm,U⟩;obtain⟨u,rfl,t6,_⟩:=Yt U;cases t6 with
  |d _ _ hd=>exact⟨_,rfl,_,_,by simp;rfl,rfl,_,_,by simp;rfl,rfl,by simp,by simp,u,g'.bD,by simp,by simp,fr,O,hm,hd⟩
 rintro _ e3 w1 ⟨rfl,a,u,z,y,p,ey,C,ep,eg⟩;show RW L _ _ e3 w1 _
 refine RW.seq (RW.mono (Q:=fun x t w'=>x=.normal/\t 0=.string ⟨s.toArray⟩/\t 3=u/\t 4=.int .i64 (eh s).2/\∃v M2 n X,t 5=v/\t 6=.int .i64 (eh s).2/\mz (eR z) (fun _=>False) w1 w'/\aY L (eR M2) 0 [] [] w'/\(∀b,z b<=M2 b)/\
   DR M2 w' (.sl (eh s).1) v/\OD jJ M2 w' (.s 13 v) X n/\n<=1000000000000000000/\∀c,X c->w1.heap.size<=c) (RW.j9 m ?_) ?_)
 .simp only[rx,jw,gx,sV,iC];simp only[cH,if_true,a];refine(Oh hR hs C).mono ?_;rintro r w2 ⟨cv,rfl,v,M2,n,X,rfl,hh⟩;exact⟨_,rfl,_,_,by simp;rfl,rfl,_,_,by simp;rfl,rfl,by simp,by simp,by simp[y],by simp[p],v,M2,n,X,by simp,by simp,hh⟩
 rintro _ e4 w2 ⟨rfl,a,y,p,v,M2,n,X,i,h6,ej,ez,eo,t7,t8,hn,hX⟩;show RW L _ _ e4 w2 _;have te:=eg.fr ej eo;refine RW.seq (RW.seq (RW.mono (Q:=fun x t w'=>x=.normal/\t 0=.string ⟨s.toArray⟩/\t 3=u/\t 4=.int .i64 (eh s).2/\t 5=v/\t 32=.bool false/\mz (eR M2) (fun _=>False) w2 w') (RW.j9 m ?_) ?_))
 .simp only[rx,jw,gx,sV,iC];simp only[cH,if_true,i,y];refine(CP.raw hE ez rfl (va2 (.d _ _ t7) (.d _ _ te))).mono ?_;rintro r K ⟨cv,rfl,g',fr,O,hm,U⟩;obtain rfl:=U.me;refine⟨_,rfl,true,by simp,.inl ⟨by simp,.inl ⟨by simp,.inl ⟨by simp,(eh s).2,(eh s).2,by simp[h6],by simp[p],?_⟩⟩⟩⟩;refine⟨false,by simp,?_⟩;simp[toV,jf,a,p];exact fr
 rintro _ e5 K ⟨rfl,a,y,p,i,tt,F⟩;show RW L _ _ e5 K _;refine RW.cond tt (RW.skip ?_);show RW L _ _ e5 K _;clear h6 tt;have t9:∀c,X c->z c=0:=fun c h=>C.fresh c (hX c h)
 have J:mz (eR z) (fun _=>False) w1 K:=ej.trans (F.low eo);refine RW.seq (RW.mono (Q:=fun x t w'=>x=.normal/\t 0=.string ⟨s.toArray⟩/\t 3=u/\t 4=.int .i64 (eh s).2/\t 5=v/\t 7=.int .i64 1/\K=w') (RW.j9 m ?_) ?_)
 .simp only[rx,jw,gx,iC];simp[cH,a,y,p,i]
 rintro _ e6 _ ⟨rfl,a,y,p,i,l,rfl⟩;show RW L _ _ e6 K _;refine RW.seq (RW.mono (Q:=fun x t w'=>x=.normal/\t 0=.string ⟨s.toArray⟩/\t 3=u/\t 4=.int .i64 (eh s).2/\t 5=v/\t 7=.int .i64 (1+n)/\mz (eR z) X K w'/\∃ys,Mk jJ im (.s 13 ys) 1 (1+n)/\DX M2 X w' (.sl ys) v) (RW.j9 m ?_) ?_)
 .simp only[rx,jw,gx,sV,iC];simp only[cH,if_true,i,l];have ae:=Z8 (L:=L) (S:=jJ) (tx:=35) (im:=im) (gb:=eR z) (M:=M2) (B:=9223372036854775806) (w:=w2) m (CC z) hT om (fun f A h=>⟨(FZ f A h).toSchOk,hM f A h⟩) t8;refine(ae t9 1 K (fun c _ aa=>F.frame c aa fun h=>h) F.mv.size (C.fr J) om om).mono ?_;rintro r j ⟨q,rfl,rfl,Y,ys,hk,ei⟩;exact⟨_,rfl,trivial,by simp[a],by simp[y],by simp[p],by simp,by simp,Y,ys,hk,ei⟩
 rintro _ e7 j ⟨rfl,a,y,p,i,l,Y,ys,hk,ei⟩;show RW L _ _ e7 j _;have I:mz (eR z) X w1 j:=(J.wide fun _ h=>h.elim).trans Y;obtain⟨E,ed⟩:∃E:Nat->Nat,E=fun b=>M2 b+J5 j b:=⟨_,rfl⟩
 have ta:∀b,M2 b<=E b:=fun b=>by rw[ed];exact Nat.le_add_right _ _
 have N:∀b,z b<=E b:=fun b=>gM (eo b) (ta b)
 have ao:w2.heap.size<=j.heap.size:=gM F.mv.size Y.mv.size
 have ti:aY L (eR E) 0 [] [] j:=(C.fr I).more N fun b hb=>by
  have h1:=ez.fresh b (gM ao hb)
  have h2:J5 j b=0:=by
   cases hz:J5 j b with
   |zero=>rfl
   |succ q=>have:=R9 (w:=j) (b:=b) om;omega
  have h1:M2 b=0:=h1;rw[ed];simp only[h1,h2]
 have ee:DR E j (.sl ys) v:=ei E j (fun _ _ _=>rfl) (fun c _=>by rw[ed];exact Nat.le_add_left _ _) ta;have ts:DR E j (.sl (eh s).1) u:=eg.fr I N
 have R:CP L 14 [.d (.sl ys),.d (.int .i64 1)] (.d (.int .i64 (1+n))):=
  ab5 (L:=L) (S:=jJ) (H:=hdT) (tx:=35) (im:=im) (B:=9223372036854775806) hT om (fun f A h=>(FZ f A h).toSchOk) hH (fun f A h o g k=>aeh f A h o g k) (f:=13) rfl hk om om
 refine RW.seq (RW.mono (Q:=fun x t w'=>x=.normal/\t 0=.string ⟨s.toArray⟩/\t 3=u/\t 4=.int .i64 (eh s).2/\t 5=v/\t 7=.int .i64 (1+n)/\t 8=.int .i64 1/\j=w') (RW.j9 m ?_) ?_)
 .simp only[rx,jw,gx,iC];simp[cH,a,y,p,i,l]
 rintro _ e8 _ ⟨rfl,a,y,p,i,l,T,rfl⟩;show RW L _ _ e8 j _;refine RW.seq (RW.mono (Q:=fun x t w'=>x=.normal/\t 0=.string ⟨s.toArray⟩/\t 3=u/\t 4=.int .i64 (eh s).2/\t 5=v/\t 7=.int .i64 (1+n)/\t 8=.int .i64 (1+n)/\mz (eR E) (fun _=>False) j w') (RW.j9 m ?_) ?_)
 .simp only[rx,jw,gx,sV,iC];simp only[cH,if_true,i,T];refine(CP.raw R ti rfl (va2 (.d _ _ ee) (.ahO ⟨by omega,by omega⟩))).mono ?_;rintro r V ⟨cv,rfl,g',fr,O,hm,U⟩;obtain⟨rfl,_⟩:=U.fV;exact⟨_,rfl,trivial,by simp[a],by simp[y],by simp[p],by simp,by simp[l],by simp,fr⟩
 rintro _ e9 V ⟨rfl,a,y,p,i,l,T,tw⟩;show RW L _ _ e9 V _;refine RW.seq (RW.seq (RW.mono (Q:=fun x t w'=>x=.normal/\t 0=.string ⟨s.toArray⟩/\t 3=u/\t 4=.int .i64 (eh s).2/\t 5=v/\t 7=.int .i64 (1+n)/\t 8=.int .i64 (1+n)/\t 40=.bool false/\V=w') (RW.j9 m ?_) ?_))
 .simp only[rx,jw,gx,iC,l8,toV];have:qy (1+(n:Int)) 0=false:=by simp only[qy];exact decide_eq_false om
  refine⟨1+n,0,by simp[cH,T],rfl,?_⟩;simp[cH,a,y,p,i,l,T,this]
 rintro _ tb _ ⟨rfl,a,y,p,i,l,T,ai,rfl⟩;show RW L _ _ tb V _;refine RW.cond ai (RW.skip ?_);show RW L _ _ tb V _;refine RW.seq (RW.seq (RW.mono (Q:=fun x t w'=>x=.normal/\t 0=.string ⟨s.toArray⟩/\t 3=u/\t 4=.int .i64 (eh s).2/\t 5=v/\t 7=.int .i64 (1+n)/\t 43=.bool false/\V=w') (RW.j9 m ?_) ?_))
 .simp only[rx,jw,gx,iC,l8,toV];refine⟨1+n,1+n,by simp[cH,T],by simp[cH,l],?_⟩;simp[cH,a,y,p,i,l,jf]
 rintro _ tg _ ⟨rfl,a,y,p,i,l,an,rfl⟩;show RW L _ _ tg V _;refine RW.cond an (RW.skip ?_);show RW L _ _ tg V _
 refine RW.seq (RW.mono (Q:=fun x t w'=>x=.normal/\t 3=u/\t 4=.int .i64 (eh s).2/\t 5=v/\t 7=.int .i64 (1+n)/\∃v2 G,t 9=v2/\t 10=.int .i64 (eh s).2/\mz (eR E) (fun _=>False) V w'/\aY L (eR G) 0 [] [] w'/\(∀b,E b<=G b)/\
   DR G w' (.sl (eh s).1) v2) (RW.j9 m ?_) ?_)
 .simp only[rx,jw,gx,sV,iC];simp only[cH,if_true,a];refine(Oh hR hs (ti.fr tw)).mono ?_;rintro r w6 ⟨cv,rfl,v2,G,n6,X6,rfl,q1,q2,q3,q4,_⟩;exact⟨_,rfl,_,_,by simp;rfl,rfl,_,_,by simp;rfl,rfl,by simp,by simp[y],by simp[p],by simp[i],by simp[l],v2,G,by simp,by simp,q1,q2,q3,q4⟩
 rintro _ ah w6 ⟨rfl,y,p,i,l,v2,G,h9,ar,al,t0,el,t1⟩;show RW L _ _ ah w6 _;have D:mz (eR E) (fun _=>False) j w6:=tw.trans al;refine RW.seq (RW.seq (RW.mono (Q:=fun x t w'=>x=.normal/\t 5=v/\t 7=.int .i64 (1+n)/\t 57=.bool false/\mz (eR G) (fun _=>False) w6 w') (RW.j9 m ?_) ?_))
 .simp only[rx,jw,gx,sV,iC];simp only[cH,if_true,h9,y];refine(CP.raw hE t0 rfl (va2 (.d _ _ t1) (.d _ _ (ts.fr D el)))).mono ?_;rintro r w7 ⟨cv,rfl,g',fr,O,hm,U⟩;obtain rfl:=U.me;refine⟨_,rfl,true,by simp,.inl ⟨by simp,.inl ⟨by simp,.inl ⟨by simp,(eh s).2,(eh s).2,by simp[ar],by simp[p],?_⟩⟩⟩⟩;refine⟨false,by simp,?_⟩;simp[toV,jf,i,l];exact fr
 rintro _ t2 w7 ⟨rfl,i,l,am,em⟩;show RW L _ _ t2 w7 _;refine RW.cond am (RW.skip ?_);show RW L _ _ t2 w7 _;refine RW.seq (RW.mono (Q:=fun x t w'=>x=.normal/\t 5=v/\t 7=.int .i64 (1+n)/\t 8=.int .i64 1/\w7=w') (RW.j9 m ?_) ?_)
 .simp only[rx,jw,gx,iC];simp[cH,i,l]
 rintro _ af _ ⟨rfl,i,l,T,rfl⟩;show RW L _ _ af w7 _;have t3:DR G w7 (.sl ys) v:=(ee.fr D el).fr em fun _=>aQ _
 refine RW.seq (RW.mono (Q:=fun x t w'=>x=.normal/\t 7=.int .i64 (1+n)/\t 8=.int .i64 (1+n)/\mz (eR G) (fun _=>False) w7 w') (RW.j9 m ?_) ?_)
 .simp only[rx,jw,gx,sV,iC];simp only[cH,if_true,i,T];refine(CP.raw R (t0.fr em) rfl (va2 (.d _ _ t3) (.ahO ⟨by omega,by omega⟩))).mono ?_;rintro r w8 ⟨cv,rfl,g',fr,O,hm,U⟩;obtain⟨rfl,_⟩:=U.fV;exact⟨_,rfl,trivial,by simp[l],by simp,fr⟩
 rintro _ ay w8 ⟨rfl,l,T,ap⟩;show RW L _ _ ay w8 _;refine RW.seq (RW.seq (RW.mono (Q:=fun x t w'=>x=.normal/\t 7=.int .i64 (1+n)/\t 8=.int .i64 (1+n)/\t 62=.bool false/\w8=w') (RW.j9 m ?_) ?_))
 .simp only[rx,jw,gx,iC,l8,toV];have:qy (1+(n:Int)) 0=false:=by simp only[qy];exact decide_eq_false om
  refine⟨1+n,0,by simp[cH,T],rfl,?_⟩;simp[cH,l,T,this]
 rintro _ t4 _ ⟨rfl,l,T,ag,rfl⟩;show RW L _ _ t4 w8 _;refine RW.cond ag (RW.skip ?_);show RW L _ _ t4 w8 _;refine RW.seq (RW.seq (RW.mono (Q:=fun x t w'=>x=.normal/\t 65=.bool false/\w8=w') (RW.j9 m ?_) ?_))
 .simp only[rx,jw,gx,iC,l8,toV];refine⟨1+n,1+n,by simp[cH,T],by simp[cH,l],?_⟩;simp[cH,jf]
 rintro _ t5 _ ⟨rfl,aj,rfl⟩;show RW L _ _ t5 w8 _;refine RW.cond aj (RW.skip ?_);show RW L _ _ t5 w8 _;refine RW.seq (RW.j9 m ?_);simp only[rx,jw,gx,iC];refine RW.ret ?_;refine⟨by simp[cH],?_⟩;have et:∀b,M b<=E b:=fun b=>gM (ep b) (N b)
 have z1:=(ey.wide (Z:=fun c=>w.heap.size<=c) fun _ h=>h.elim);have z2:=(I.low ep).wide (Z:=fun c=>w.heap.size<=c) fun c h=>gM ey.mv.size (hX c h)
 have z3:=(D.low et).wide (Z:=fun c=>w.heap.size<=c) fun _ h=>h.elim
 have z4:=((em.trans ap).low fun b=>gM (et b) (el b)).wide (Z:=fun c=>w.heap.size<=c) fun _ h=>h.elim
 exact z1.trans (z2.trans (z3.trans z4))
end
end Go.Ab
