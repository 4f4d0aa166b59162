import Derived.Test.YtdcndpbmgpcgmaaGreatDoorY6
import Derived.Test.YtdcndpbmgpcgmaaGreatDoorY5
noncomputable section
namespace Go.Ab
open Go
attribute [local irreducible] bI cf cw bW bA dk dT
variable{L:Lk}
set_option maxHeartbeats 4000000
def wh(s:ab)(t:Nd):Prop:=jk t/\cM t=s/\(t.sort=1\/t.sort=2\/t.sort=3)
def W6(L:Lk):Prop:=∀(ws:List ab)(i:Nat)(nd e a:Int)(s:ab),
 (∀t,wh s t->CT L 272 [.ptr 0 0,dS s] 1 [AX ws i nd e a] [] (.b6 [aT (.mk t.sort t.num t.text [] []),dB true]) 1 [AX ws i nd e a] [])/\
 ((¬ ∃t,wh s t)->ng s->CT L 272 [.ptr 0 0,dS s] 1 [AX ws i nd e a] [] (.b6 [aT (.mk 4 0 [] [s] []),dB true]) 1 [AX ws i nd e a] [])/\
 ((¬ ∃t,wh s t)->¬ng s->CT L 272 [.ptr 0 0,dS s] 1 [AX ws i nd e a] [] (.b6 [aT bX,dB false]) 1 [AX ws i nd e a] [])
theorem afh(r:aJ L 272 ahi)(m:xu L 189)(l:GA L 330):W6 L:=by
 intro g i k j q s;obtain⟨c,f⟩:=m s
 have none:(¬ ∃t,wh s t)->∃t b,CP L 189 [dS s] (.b6 [aT t,dB b])/\(b=true->t.sort≠1/\t.sort≠2/\t.sort≠3):=fun a=>by
  by_cases o:∃t,jk t/\cM t=s
  .obtain⟨t,o,d⟩:=o;exact⟨t,true,c t o d,fun _=>⟨fun e=>a ⟨t,o,d,.inl e⟩,fun e=>a ⟨t,o,d,.inr (.inl e)⟩,fun e=>a ⟨t,o,d,.inr (.inr e)⟩⟩⟩
  .exact⟨bX,false,f o,fun h=>by cases h⟩
 refine⟨fun t o=>?_,fun a w=>?_,fun a w=>?_⟩
 .have n:=c t o.1 o.2.1;have d:=o.2.2;refine r.ct ?_
  repeat' ((conv=>whnf);first|apply aD|refine ak n ?_|exact fz|exact xo|intro _)
 .obtain⟨t,b,n,u⟩:=none a;cases b with
  |true=>
   obtain⟨y,p,v⟩:=u rfl;refine r.ct ?_
   repeat' ((conv=>whnf);first|exact xc|apply aD|apply bp|refine ak n ?_|refine ak (l s) ?_|exact fz|intro _)
  |false=>
   refine r.ct ?_
   repeat' ((conv=>whnf);first|apply bp|refine ak n ?_|refine ak (l s) ?_|exact fz|exact xc|intro _)
 .obtain⟨t,b,n,u⟩:=none a;cases b with
  |true=>
   obtain⟨y,p,v⟩:=u rfl;refine r.ct ?_
   repeat' ((conv=>whnf);first|exact xc|apply aD|apply bp|refine ak n ?_|refine ak (l s) ?_|exact fz|intro _)
  |false=>
   refine r.ct ?_
   repeat' ((conv=>whnf);first|apply bp|refine ak n ?_|refine ak (l s) ?_|exact fz|exact xc|intro _)
variable{s:ab}{p:Nat}
def DB(n:Nat):Prop:=n=32\/n=10
def zx(s:ab)(p q:Nat):Prop:=p<=q/\q<=s.length/\(∀i,p<=i->i<q->¬DB (bE s i))/\(q=s.length\/DB (bE s q))
def DG(s:ab)(p e:Nat):Prop:=(bE s p=34/\∃q,mO s (p+1) q/\((q<s.length/\e=q+1)\/(q=s.length/\e=q)))\/(bE s p≠34/\zx s (p+1) e)
inductive sT(s:ab):Nat->List ab->List ab->Prop where
 |done (o:List ab):sT s s.length o o
 |skip (p:Nat) (o r:List ab) (hp:p<s.length) (h:DB (bE s p)) (k:sT s (p+1) o r):sT s p o r
 |word (p e:Nat) (o r:List ab) (hp:p<s.length) (h:¬DB (bE s p)) (he:DG s p e) (k:sT s e (o++[(s.take e).drop p]) r):sT s p o r
theorem DG.le{e:Nat}(h:DG s p e)(a:p<s.length):p<e/\e<=s.length:=by
 rcases h with⟨_,q,t,o⟩|⟨_,t⟩
 .have:=t.1;have:=t.2.1;omega
 .have:=t.1;have:=t.2.1;omega
def aeG(s:ab)(p:Nat):List ab->St
 |[]=>⟨[(0,.d (.str s)),(3,.aO [] .full),(4,.d (.int .i64 p))],0,[],[]⟩
 |x::r=>⟨[(0,.d (.str s)),(3,.aO (aR (x::r)) (.row 0)),(4,.d (.int .i64 p))],0,[],[((x::r).length,1)]⟩
theorem aeH(s:ab)(p:Nat)(o:List ab):yQ ⟨0,0,none⟩ (aeG s p o):=by cases o<;>exact⟨rfl,rfl,rfl⟩
def Cu(L:Lk)(f:Nat):Prop:=∀s r,s.length<=1000000->sT s 0 [] r->CP L f [dS s] (.d (.sl (aR r)))
theorem ZQ(B:aJ L 206 c206):Cu L 206:=by
 intro s r hs G;refine B.cp ?_
 repeat' ((conv=>whnf);first|apply aq|apply bK|apply aD|apply aH|apply bp|apply aM|apply eA|apply ew|apply gQ|apply bS|rw[ca];intro _|rw[dC];intro _|rw[bl];intro _|refine bY ?_|intro _)
 all_goals(conv=>whnf)
 refine LW.gen (S:=Nat×List ab) (fun x=>s.length-x.1) (fun x=>sT s x.1 x.2 r/\x.2.length<=x.1/\x.1<=s.length) (fun x=>aeG s x.1 x.2) (fun _=>aeH _ _ _) ?_ (0,[]) ⟨G,aQ _,cr _⟩ _ lz;rintro⟨p,o⟩ ⟨N,l,H⟩ R;dsimp only at N l H R⊢;have w:(aR o).length=o.length:=bl _;have i:∀(p':Nat)(A:List ab)(σ:St),p<p'->p'<=s.length->A.length<=p'->sT s p' A r->ph (aeG s p' A) σ->_:=fun p' A σ V D K J Q=>R (p',A) σ (by show s.length-p'<s.length-p;omega) ⟨J,K,D⟩ Q
 clear R;cases o with
 |nil=>
  cases N with
  |done=>
   repeat' ((conv=>whnf);first|exact xo|apply aq|exact fz|intro _)
  |skip _ _ _ m h k=>
   rw[cW m]at h;rcases h with h|h
   .skip
    repeat' ((conv=>whnf);first|exact xo|rw[wrap64 om]|apply aq|apply aD|refine bY ?_|refine i (p+1) _ _ om om (by simp only[bc,aZ]at*;omega) k lx|intro _)
   .skip
    repeat' ((conv=>whnf);first|exact xo|rw[wrap64 om]|apply aq|apply aD|refine bY ?_|refine i (p+1) _ _ om om (by simp only[bc,aZ]at*;omega) k lx|intro _)
  |word _ e _ _ m h O k=>
   have U:=O.le m;have X:s[p].toNat≠32:=fun e=>h (.inl (by rw[cW m];exact e))
   have Z:s[p].toNat≠10:=fun e=>h (.inr (by rw[cW m];exact e))
   clear h;rcases O with⟨z,q,⟨C,M,b,d⟩,q5⟩|⟨z,C,M,b,d⟩
   .rw[cW m]at z
    have f:∀j,j<=q-(p+1)->∀h:p+1+j<s.length,(s[p+1+j].toNat:Int)≠34->j<q-(p+1):=fun j n h I=>by
     by_cases e:j=q-(p+1)
     .exfalso;have E:p+1+j=q:=by omega
      rcases d with d|d
      .omega
      .rw[<-E,cW h]at d;omega
     .omega
    have a:∀j,j<=q-(p+1)->∀h:p+1+j<s.length,(s[p+1+j].toNat:Int)=34->p+1+j=q:=fun j n h I=>by
     by_cases e:j=q-(p+1)
     .omega
     .exact absurd ((cW h).trans om) (b (p+1+j) om om)
    clear b d;have v:∀u,u=e->sT s u ([]++[(s.take u).drop p]) r:=fun u h=>by rw[h];exact k
    repeat' ((conv=>whnf);first|exact xo|rw[wrap64 om]|apply aq|apply aD|apply aM|refine bY ?_|refine ad ⟨by simp only[w,bc,aZ]at*;omega,by intro y T;rw[dP.1 T];rfl⟩ ?_|refine g _ (f j n om asm) trivial lx|(fail_if_success (have F:=g));refine LW.count (q-(p+1)) (fun _=>True) (fun j=>⟨[(0,dS s),(3,.aO [] .full),(4,dI p),(5,dI ((p+1+j:Nat):Int))],0,[],[]⟩) (fun _=>⟨rfl,rfl,rfl⟩) (fun j n Y g=>?_) trivial _ lx|refine i (p+1+j+1) _ _ om (by have:=a j n om asm;omega) (by have c:=l;simp only[bG,aZ,bc]at c⊢;omega) (v _ (by have:=a j n om asm;omega)) lx|refine i (p+1+j) _ _ om om (by have c:=l;simp only[bG,aZ,bc]at c⊢;omega) (v _ om) lx|intro _)
   .rw[cW m]at z
    have f:∀j,j<=e-(p+1)->∀h:p+1+j<s.length,(s[p+1+j].toNat:Int)≠32->(s[p+1+j].toNat:Int)≠10->j<e-(p+1):=fun j n h V D=>by
     by_cases P:j=e-(p+1)
     .exfalso;have E:p+1+j=e:=by omega
      rcases d with d|d
      .omega
      .rw[<-E,cW h]at d;unfold DB at d;omega
     .omega
    have a:∀j,j<=e-(p+1)->∀h:p+1+j<s.length,((s[p+1+j].toNat:Int)=32\/(s[p+1+j].toNat:Int)=10)->p+1+j=e:=fun j n h I=>by
     by_cases P:j=e-(p+1)
     .omega
     .exact absurd (by unfold DB;rw[cW h];omega) (b (p+1+j) om om)
    clear b d;have v:∀u,u=e->sT s u ([]++[(s.take u).drop p]) r:=fun u h=>by rw[h];exact k
    repeat' ((conv=>whnf);first|exact xo|rw[wrap64 om]|apply aq|apply aD|apply aM|refine bY ?_|refine ad ⟨by simp only[w,bc,aZ]at*;omega,by intro y T;rw[dP.1 T];rfl⟩ ?_|refine g _ (f j n om asm asm) trivial lx|(fail_if_success (have F:=g));refine LW.count (e-(p+1)) (fun _=>True) (fun j=>⟨[(0,dS s),(3,.aO [] .full),(4,dI p),(5,dI ((p+1+j:Nat):Int))],0,[],[]⟩) (fun _=>⟨rfl,rfl,rfl⟩) (fun j n Y g=>?_) trivial _ lx|refine i (p+1+j) _ _ om (by have:=a j n om (.inl asm);omega) (by have c:=l;simp only[bG,aZ,bc]at c⊢;omega) (v _ (a j n om (.inl asm))) lx|refine i (p+1+j) _ _ om (by have:=a j n om (.inr asm);omega) (by have c:=l;simp only[bG,aZ,bc]at c⊢;omega) (v _ (a j n om (.inr asm))) lx|refine i (p+1+j) _ _ om om (by have c:=l;simp only[bG,aZ,bc]at c⊢;omega) (v _ om) lx|intro _)
    all_goals(conv=>whnf)
    all_goals try exact xo
    all_goals try exact xo
 |cons x t=>
  cases N with
  |done=>
   repeat' ((conv=>whnf);first|exact xo|apply aq|exact fz|intro _)
  |skip _ _ _ m h k=>
   rw[cW m]at h;rcases h with h|h
   .skip
    repeat' ((conv=>whnf);first|exact xo|rw[wrap64 om]|apply aq|apply aD|refine bY ?_|refine i (p+1) _ _ om om (by simp only[bc,aZ]at*;omega) k lx|intro _)
   .skip
    repeat' ((conv=>whnf);first|exact xo|rw[wrap64 om]|apply aq|apply aD|refine bY ?_|refine i (p+1) _ _ om om (by simp only[bc,aZ]at*;omega) k lx|intro _)
  |word _ e _ _ m h O k=>
   have U:=O.le m;have X:s[p].toNat≠32:=fun e=>h (.inl (by rw[cW m];exact e))
   have Z:s[p].toNat≠10:=fun e=>h (.inr (by rw[cW m];exact e))
   clear h;rcases O with⟨z,q,⟨C,M,b,d⟩,q5⟩|⟨z,C,M,b,d⟩
   .rw[cW m]at z
    have f:∀j,j<=q-(p+1)->∀h:p+1+j<s.length,(s[p+1+j].toNat:Int)≠34->j<q-(p+1):=fun j n h I=>by
     by_cases e:j=q-(p+1)
     .exfalso;have E:p+1+j=q:=by omega
      rcases d with d|d
      .omega
      .rw[<-E,cW h]at d;omega
     .omega
    have a:∀j,j<=q-(p+1)->∀h:p+1+j<s.length,(s[p+1+j].toNat:Int)=34->p+1+j=q:=fun j n h I=>by
     by_cases e:j=q-(p+1)
     .omega
     .exact absurd ((cW h).trans om) (b (p+1+j) om om)
    clear b d;have v:∀u,u=e->sT s u ((x::t)++[(s.take u).drop p]) r:=fun u h=>by rw[h];exact k
    repeat' ((conv=>whnf);first|exact xo|rw[wrap64 om]|apply aq|apply aD|apply aM|refine bY ?_|refine ad ⟨by simp only[w,bc,aZ]at*;omega,by intro y T;rw[dP.1 T];rfl⟩ ?_|refine ad ⟨w,rfl⟩ ?_|refine g _ (f j n om asm) trivial lx|(fail_if_success (have F:=g));refine LW.count (q-(p+1)) (fun _=>True) (fun j=>⟨[(0,dS s),(3,.aO (aR (x::t)) (.row 0)),(4,dI p),(5,dI ((p+1+j:Nat):Int))],0,[],[((x::t).length,1)]⟩) (fun _=>⟨rfl,rfl,rfl⟩) (fun j n Y g=>?_) trivial _ lx|refine i (p+1+j+1) _ _ om (by have:=a j n om asm;omega) (by have c:=l;simp only[bG,aZ,bc]at c⊢;omega) (v _ (by have:=a j n om asm;omega)) lx|refine i (p+1+j) _ _ om om (by have c:=l;simp only[bG,aZ,bc]at c⊢;omega) (v _ om) lx|intro _)
   .rw[cW m]at z
    have f:∀j,j<=e-(p+1)->∀h:p+1+j<s.length,(s[p+1+j].toNat:Int)≠32->(s[p+1+j].toNat:Int)≠10->j<e-(p+1):=fun j n h V D=>by
     by_cases P:j=e-(p+1)
     .exfalso;have E:p+1+j=e:=by omega
      rcases d with d|d
      .omega
      .rw[<-E,cW h]at d;unfold DB at d;omega
     .omega
    have a:∀j,j<=e-(p+1)->∀h:p+1+j<s.length,((s[p+1+j].toNat:Int)=32\/(s[p+1+j].toNat:Int)=10)->p+1+j=e:=fun j n h I=>by
     by_cases P:j=e-(p+1)
     .omega
     .exact absurd (by unfold DB;rw[cW h];omega) (b (p+1+j) om om)
    clear b d;have v:∀u,u=e->sT s u ((x::t)++[(s.take u).drop p]) r:=fun u h=>by rw[h];exact k
    repeat' ((conv=>whnf);first|exact xo|rw[wrap64 om]|apply aq|apply aD|apply aM|refine bY ?_|refine ad ⟨by simp only[w,bc,aZ]at*;omega,by intro y T;rw[dP.1 T];rfl⟩ ?_|refine ad ⟨w,rfl⟩ ?_|refine g _ (f j n om asm asm) trivial lx|(fail_if_success (have F:=g));refine LW.count (e-(p+1)) (fun _=>True) (fun j=>⟨[(0,dS s),(3,.aO (aR (x::t)) (.row 0)),(4,dI p),(5,dI ((p+1+j:Nat):Int))],0,[],[((x::t).length,1)]⟩) (fun _=>⟨rfl,rfl,rfl⟩) (fun j n Y g=>?_) trivial _ lx|refine i (p+1+j) _ _ om (by have:=a j n om (.inl asm);omega) (by have c:=l;simp only[bG,aZ,bc]at c⊢;omega) (v _ (a j n om (.inl asm))) lx|refine i (p+1+j) _ _ om (by have:=a j n om (.inr asm);omega) (by have c:=l;simp only[bG,aZ,bc]at c⊢;omega) (v _ (a j n om (.inr asm))) lx|refine i (p+1+j) _ _ om om (by have c:=l;simp only[bG,aZ,bc]at c⊢;omega) (v _ om) lx|intro _)
    all_goals(conv=>whnf)
    all_goals try exact xo
    all_goals try exact xo
theorem zx.ex(s:ab):∀d p,s.length-p=d->p<=s.length->∃q,zx s p q:=by
 intro d
 induction d with
 |zero=>intro p h e;exact⟨p,aQ _,e,fun i a t=>by omega,.inl om⟩
 |succ d n=>
  intro p h e;by_cases o:DB (bE s p)
  .exact⟨p,aQ _,e,fun i a t=>by omega,.inr o⟩
  .obtain⟨q,m,r,l,u⟩:=n (p+1) om om;refine⟨q,by omega,r,fun i a t=>?_,u⟩;by_cases c:i=p
   .rw[c];exact o
   .exact l i om t
theorem DG.ex(s:ab)(p:Nat)(o:p<s.length):∃e,DG s p e:=by
 by_cases h:bE s p=34
 .obtain⟨q,t⟩:=mO.ex s _ (p+1) rfl om;have:=t.2.1;by_cases a:q<s.length
  .exact⟨q+1,.inl ⟨h,q,t,.inl ⟨a,rfl⟩⟩⟩
  .exact⟨q,.inl ⟨h,q,t,.inr ⟨by omega,rfl⟩⟩⟩
 .obtain⟨q,t⟩:=zx.ex s _ (p+1) rfl om;exact⟨q,.inr ⟨h,t⟩⟩
theorem sT.ex(s:ab):∀d p o,s.length-p=d->p<=s.length->∃r,sT s p o r:=by
 intro d
 induction d using Nat.strongRecOn with
 |ind d a=>
  intro p o u c;by_cases h:p=s.length
  .subst h;exact⟨o,.done o⟩
  .by_cases i:DB (bE s p)
   .obtain⟨r,t⟩:=a (s.length-(p+1)) om (p+1) o rfl om;exact⟨r,.skip p o r om i t⟩
   .obtain⟨e,n⟩:=DG.ex s p om;have l:=n.le om;obtain⟨r,t⟩:=a (s.length-e) om e _ rfl l.2;exact⟨r,.word p e o r om i n t⟩
theorem mO.one{q e:Nat}(h:mO s p q)(t:mO s p e):q=e:=by
 obtain⟨r,d,a,o⟩:=h;obtain⟨l,u,i,n⟩:=t;rcases Rm q e with h|h|h
 .exact absurd (o.resolve_left om) (i q om h)
 .exact h
 .exact absurd (n.resolve_left om) (a e om h)
theorem zx.one{q e:Nat}(h:zx s p q)(t:zx s p e):q=e:=by
 obtain⟨r,d,a,o⟩:=h;obtain⟨l,u,i,n⟩:=t;rcases Rm q e with h|h|h
 .exact absurd (o.resolve_left om) (i q om h)
 .exact h
 .exact absurd (n.resolve_left om) (a e om h)
theorem DG.one{s:ab}{p e i:Nat}(h:DG s p e)(n:DG s p i):e=i:=by
 rcases h with⟨g,q,a,d⟩|⟨g,a⟩<;>rcases n with⟨o,l,t,r⟩|⟨o,t⟩
 .have:=a.one t;omega
 .exact absurd g o
 .exact absurd o g
 .exact a.one t
theorem sT.one{s:ab}{p:Nat}{o r u:List ab}(h:sT s p o r)(t:sT s p o u):r=u:=by
 induction h with
 |done o=>
  cases t with
  |done=>rfl
  |skip _ _ _ a=>omega
  |word _ _ _ _ a=>omega
 |skip p o r a h k i=>
  cases t with
  |done=>omega
  |skip _ _ _ _ _ n=>exact i n
  |word _ _ _ _ _ d=>exact absurd h d
 |word p e o r a h c k i=>
  cases t with
  |done=>omega
  |skip _ _ _ _ d=>exact absurd d h
  |word _ m _ _ _ _ l n=>obtain rfl:=c.one l;exact i n
def EY(L:Lk)(f:Nat):Prop:=∀n:Nd,Sm n->(tW true n->CP L f [aT n] (dS (rH n)))/\(¬tW true n->CP L f [aT n] (dS []))
theorem KW(e:aJ L 209 agU)(o:MR L 73)(i:Bn L 80):EY L 209:=by
 intro n t;have a:=o n t;refine⟨fun h=>?_,fun h=>?_⟩
 .have s:=i n true 1 h.1.1 t;refine e.cp ?_
  repeat' ((conv=>whnf);first|apply bp|refine ak a ?_|refine ak s ?_|exact cu rfl|exact xc|intro _)
 .refine e.cp ?_
  repeat' ((conv=>whnf);first|apply bp|refine ak a ?_|exact cu rfl|exact xc|intro _)
theorem KX(e:aJ L 267 ahe)(o:vN L 164)(i:uf L 175)(t:Nd):(jk t->CP L 267 [aT t] (dS (cM t)))/\(¬jk t->CP L 267 [aT t] (dS [])):=by
 have a:=o t;refine⟨fun h=>?_,fun h=>?_⟩
 .have n:=i t 1 h;refine e.cp ?_
  repeat' ((conv=>whnf);first|apply bp|refine ak a ?_|refine ak n ?_|exact cu rfl|exact xc|intro _)
 .refine e.cp ?_
  repeat' ((conv=>whnf);first|apply bp|refine ak a ?_|exact cu rfl|exact xc|intro _)
theorem IZ(t:aJ L 270 ahg)(o:vZ L 90)(i:tV L 102)(e:Ev):(ir e->CP L 270 [.agg (av (eD e))] (dS (DD e)))/\(¬ir e->CP L 270 [.agg (av (eD e))] (dS [])):=by
 have a:=o e;refine⟨fun h=>?_,fun h=>?_⟩
 .have n:=i e h;refine t.cp ?_
  repeat' ((conv=>whnf);first|apply bp|refine ak a ?_|refine ak n ?_|exact cu rfl|exact xc|intro _)
 .refine t.cp ?_
  repeat' ((conv=>whnf);first|apply bp|refine ak a ?_|exact cu rfl|exact xc|intro _)
structure PS where
 br:Nat
 nd:Nat
 fc:Int
 fa:Int
def mZ(ws:List ab)(s:PS):Bx:=.var 0 [.d (.sl (aR ws)),dI s.br,dI s.nd,dI s.fc,dI s.fa]
def PS.fail(c:Int)(s:PS):PS:=⟨s.br,s.nd,if s.fc=0 then c else s.fc,if s.fc=0 then s.br else s.fa⟩
def PS.next(s:PS):PS:=⟨s.br+1,s.nd,s.fc,s.fa⟩
def PS.more(s:PS):PS:=⟨s.br,s.nd+1,s.fc,s.fa⟩
theorem PS.ae5{c:Int}{s:PS}(h:s.fc=0):s.fail c=⟨s.br,s.nd,c,s.br⟩:=by simp[PS.fail,h]
theorem PS.Xy{c:Int}{s:PS}(h:s.fc≠0):s.fail c=s:=by cases s;simp only[PS.fail];simp at h;simp[h]
def yk(L:Lk):Prop:=∀(ws:List ab)(s:PS)(c:Int),CT L 208 [.ptr 0 0,dI c] 1 [mZ ws s] [] (.b6 []) 1 [mZ ws (s.fail c)] []
theorem adk(e:Rx L):yk L:=by
 intro t s c;by_cases h:s.fc=0
 .have:=(e t s.br s.nd s.fc s.fa c).1 h;rw[PS.ae5 h];exact this
 .have:=(e t s.br s.nd s.fc s.fa c).2 h;rw[PS.Xy h];exact this
def yM(e:Bool)(un w:ab):Prop:=bO w/\(e=true->ng w)/\w≠un
open Classical in
def lC(ws:List ab)(free:Bool)(un:ab)(s:PS):ab×PS:=if yM free un (bP ws s.br)then(bP ws s.br,s.next)else([],s.fail 2)
def JP(L:Lk):Prop:=∀(ws:List ab)(e:Bool)(un:ab)(s:PS),ws.length<=1000000->s.br<=2000000->
 CT L 276 [.ptr 0 0,dB e,dS un] 1 [mZ ws s] [] (dS ((lC ws e un s).1)) 1 [mZ ws (lC ws e un s).2] []
theorem adm(o:aJ L 276 ahl)(u:yj L)(c:yk L)(hN:lI L 68)(d:GA L 330):JP L:=by
 intro t e r s m f;have i:=u t s.br s.nd s.fc s.fa m;have n:=c t s 2;by_cases a:yM e r (bP t s.br)
 .rw[show lC t e r s=(bP t s.br,s.next)from if_pos a];generalize bP t s.br=w at*;obtain⟨y,l,p⟩:=a;cases e
  .refine o.ct ?_
   repeat' ((conv=>whnf);first|rw[wrap64 om]|apply aH|apply bp|refine az i [0] [] ?_|refine az n [0] [] ?_|refine ak (hN _) ?_|(apply dt<;>(repeat' first|(refine c8 ?_;show(_:Int)=((s.br+1:Nat):Int);omega)|exact sz|apply And.intro);done)|exact xc|intro _)
  .have l:=l rfl;refine o.ct ?_
   repeat' ((conv=>whnf);first|rw[wrap64 om]|apply aH|apply bp|refine az i [0] [] ?_|refine az n [0] [] ?_|refine ak (hN _) ?_|refine ak (d _) ?_|(apply dt<;>(repeat' first|(refine c8 ?_;show(_:Int)=((s.br+1:Nat):Int);omega)|exact sz|apply And.intro);done)|exact xc|intro _)
 .rw[show lC t e r s=([],s.fail 2)from if_neg a];generalize bP t s.br=w at*;cases e
  .refine o.ct ?_
   repeat' ((conv=>whnf);first|rw[wrap64 om]|apply aH|apply bp|refine az i [0] [] ?_|refine az n [0] [] ?_|refine ak (hN _) ?_|exact fz|exact absurd ⟨by assumption,fun h=>by(cases h),by assumption⟩ a|intro _)
  .refine o.ct ?_
   repeat' ((conv=>whnf);first|rw[wrap64 om]|apply aH|apply bp|refine az i [0] [] ?_|refine az n [0] [] ?_|refine ak (hN _) ?_|refine ak (d _) ?_|exact fz|exact absurd ⟨by assumption,fun _=>by assumption,by assumption⟩ a|intro _)
open Classical in
def numOf(w:ab)(lo hi:Int):Option Int:=if h:∃n,FE n w/\lo<=n/\n<=hi then some h.choose else none
theorem uz{w:ab}{lo hi n:Int}(h:numOf w lo hi=some n):FE n w/\lo<=n/\n<=hi:=by
 unfold numOf at h;split at h
 .rename_i e;cases h;exact e.choose_spec
 .cases h
theorem Ig{w:ab}{lo hi:Int}(h:numOf w lo hi=none):¬ ∃n,FE n w/\lo<=n/\n<=hi:=by
 unfold numOf at h;split at h
 .cases h
 .assumption
def ou(ws:List ab)(lo hi:Int)(s:PS):Int×PS:=match numOf (bP ws s.br) lo hi with|some n=>(n,s.next)|none=>(0,s.fail 2)
def O8(L:Lk):Prop:=∀(ws:List ab)(lo hi:Int)(s:PS),ws.length<=1000000->s.br<=2000000->
 CT L 278 [.ptr 0 0,dI lo,dI hi] 1 [mZ ws s] [] (dI ((ou ws lo hi s).1)) 1 [mZ ws (ou ws lo hi s).2] []
theorem afy(o:aJ L 278 ahn)(y:yj L)(p:yk L)(hN:Gx L 258)(l:pW L 65):O8 L:=by
 intro e u c s b g;have i:=y e s.br s.nd s.fc s.fa b;have r:=p e s 2;obtain⟨m,k⟩:=hN (bP e s.br);unfold ou;cases t:numOf (bP e s.br) u c with
 |some n=>
  obtain⟨j,q⟩:=uz t;generalize bP e s.br=w at*;have a:=m n j;refine o.ct ?_
  repeat' ((conv=>whnf);first|rw[wrap64 om]|apply bp|refine az i [0] [] ?_|refine az r [0] [] ?_|refine ak a ?_|refine ak (l _ _ _) ?_|(apply dt<;>(repeat' first|(refine c8 ?_;show(_:Int)=((s.br+1:Nat):Int);omega)|exact sz|apply And.intro);done)|exact xc|intro _)
 |none=>
  have d:=Ig t;generalize bP e s.br=w at*;by_cases f:∃n,FE n w
  .obtain⟨n,t⟩:=f;have a:=m n t;have x:¬(u<=n/\n<=c):=fun h=>d ⟨n,t,h⟩
   refine o.ct ?_
   repeat' ((conv=>whnf);first|rw[wrap64 om]|apply bp|refine az i [0] [] ?_|refine az r [0] [] ?_|refine ak a ?_|refine ak (l _ _ _) ?_|exact fz|exact xc|intro _)
  .obtain⟨v,z,a⟩:=k f;refine o.ct ?_
   repeat' ((conv=>whnf);first|refine az i [0] [] ?_|refine az r [0] [] ?_|refine ak a ?_|exact fz|fail)
variable{n i:Nat}{ws:List ab}
open Classical in
def iG(w:ab):Option Nd:=if h:∃t,wh w t then some (.mk h.choose.sort h.choose.num h.choose.text [] [])else if ng w then some (.mk 4 0 [] [w] [])else none
def Rz(L:Lk):Prop:=∀(ws:List ab)(s:PS)(w:ab),CT L 272 [.ptr 0 0,dS w] 1 [mZ ws s] [] (.b6 [aT ((iG w).getD bX),dB ((iG w).isSome)]) 1 [mZ ws s] []
theorem adj(h:W6 L):Rz L:=by
 intro ws s w;obtain⟨t,a,o⟩:=h ws s.br s.nd s.fc s.fa w;unfold iG;split
 .rename_i e;exact t _ e.choose_spec
 .rename_i e;split
  .exact a e asm
  .exact o e asm
def n9(ws:List ab)(b:Bool)(s0:PS):Nat->List ab×PS
 |0=>([],s0)
 |i+1=>((n9 ws b s0 i).1++[(lC ws b ((n9 ws b s0 i).1.headD []) (n9 ws b s0 i).2).1],(lC ws b ((n9 ws b s0 i).1.headD []) (n9 ws b s0 i).2).2)
open Classical in
def jQ(ws:List ab)(op:Int)(s:PS):Int×ab×PS:=
 if op=5\/op=6 then(0,bP ws s.br,(if∃k,jj k/\fR k=bP ws s.br then s else s.fail 2).next)
 else if op=37 then((ou ws 0 99 s).1,[],(ou ws 0 99 s).2)else if op=39 then((ou ws 1 12 s).1,[],(ou ws 1 12 s).2)else(0,[],s)
def lS(P:Bool->PS->Nd×PS)(kd:ab)(s0:PS):Nat->List Nd×PS
 |0=>([],s0)
 |i+1=>if(lS P kd s0 i).2.fc≠0 then lS P kd s0 i else((lS P kd s0 i).1++[(P (jf ((kd.getD i 0).toNat:Int) 97) (lS P kd s0 i).2).1],(P (jf ((kd.getD i 0).toNat:Int) 97) (lS P kd s0 i).2).2)
def qm:ab:=[101,110,100]
def tc(w:ab)(ns:List ab):Prop:=¬bO w\/∃l,ns.getLast?=some l/\dT l w=false
open Classical in
def lB(ws:List ab)(P:Bool->PS->Nd×PS):Nat->List ab->List Nd->PS->List ab×List Nd×PS
 |0,ns,ks,s=>if s.fc≠0 then(ns,ks,s.next)else(ns,ks,s)
 |m+1,ns,ks,s=>if s.fc≠0\/bP ws s.br=qm then(ns,ks,s.next)else if tc (bP ws s.br) ns then(ns,ks,s.fail 2)else
  lB ws P m (ns++[bP ws s.br]) (ks++[(P false s.next).1]) (P false s.next).2
def pQ(ws:List ab)(P:Bool->PS->Nd×PS)(op:Int)(s:PS):Nd×PS:=
 if op=24 then(.mk 24 0 [] (lB ws P (ws.length+2) [] [] s).1 (lB ws P (ws.length+2) [] [] s).2.1,(lB ws P (ws.length+2) [] [] s).2.2)else
 let a:=n9 ws (pb (binds op)) s (eW op).toNat;let l:=jQ ws op a.2;let k:=lS P (eQ op) l.2.2 (eQ op).length
 (.mk op l.1 l.2.1 a.1 k.1,k.2)
open Classical in
def ma(ws:List ab)(P:Bool->PS->Nd×PS)(act:Bool)(s:PS):Nd×PS:=
 match act,iG (bP ws s.br)with
 |false,some k=>(k,s.next)
 |_,_=>if c6 (bP ws s.br)=0\/act≠vF 36 (c6 (bP ws s.br))then(bX,s.fail 2)else pQ ws P (c6 (bP ws s.br)) s.next
def fN(dp:Bool)(s:PS):PS:=(if 200<=(if dp then s.fail 3 else s).nd then(if dp then s.fail 3 else s).fail 4 else(if dp then s.fail 3 else s)).more
open Classical in
def na(ws:List ab)(P:Bool->PS->Nd×PS)(dp act:Bool)(s:PS):Nd×PS:=if s.fc≠0 then(bX,s)else ma ws P act (fN dp s)
def oJ(ws:List ab):Nat->Bool->PS->Nd×PS
 |0=>na ws (fun _ s=>(bX,s)) true
 |n+1=>na ws (oJ ws n) false
structure Gd(ws:List ab)(c:Nat)(s:PS):Prop where
 br:s.br<=ws.length+c
 nd:s.nd<=201
 ok:s.fc=0->s.br<=ws.length/\s.nd<=200
theorem Gd.mono{c d:Nat}{s:PS}(h:Gd ws c s)(e:c<=d):Gd ws d s:=⟨by have:=h.br;omega,h.nd,h.ok⟩
theorem Gd.fail{ws:List ab}{c:Nat}{s:PS}(h:Gd ws c s){k:Int}(t:k≠0):Gd ws c (s.fail k)/\(s.fail k).fc≠0/\(s.fail k).br=s.br:=by
 have e:(s.fail k).fc≠0:=by simp only[PS.fail];split<;>assumption
 exact⟨⟨h.br,h.nd,fun h=>absurd h e⟩,e,rfl⟩
theorem Gd.Wb{c:Nat}{s:PS}(h:Gd ws c s)(e:s.fc≠0):Gd ws (c+1) s.next:=⟨by have:=h.br;simp only[PS.next];omega,h.nd,fun h=>absurd h e⟩
theorem Gd.Ak{c:Nat}{s:PS}(h:Gd ws c s)(e:bP ws s.br≠[]):Gd ws c s.next:=by
 have a:s.br<ws.length:=by
  rcases nC s.br ws.length with h|h
  .exact h
  .exact absurd (by unfold bP;rw[ny,qY h];rfl) e
 exact⟨by simp only[PS.next];omega,h.nd,fun t=>⟨by simp only[PS.next];omega,(h.ok t).2⟩⟩
theorem kE{w:ab}(h:bO w):w≠[]:=by rintro rfl;exact absurd h.1.1 de
theorem aay{c:Nat}{b:Bool}{un:ab}{s:PS}(h:Gd ws c s):Gd ws c (lC ws b un s).2/\s.br<=(lC ws b un s).2.br:=by
 unfold lC;split
 .rename_i e;exact⟨h.Ak (kE e.1),xg _⟩
 .exact⟨(h.fail de).1,aQ _⟩
theorem abO(n:Nat):iI n≠[]:=by rw[iI];split<;>simp
theorem zG(n:Int):dec n≠[]:=by
 unfold dec;split
 .simp
 .exact abO _
theorem Li{n:Int}{w:ab}(h:FE n w):w≠[]:=by rw[<-h.2];exact zG n
theorem LZ{k:Nd}:fR k≠[]:=fun e=>by
 have:=vL k;rw[e]at this
 repeat' split at this
 all_goals simp at this
theorem Jv{t:Nd}:cM t≠[]:=fun e=>by
 have:=qL t;rw[e]at this
 repeat' split at this
 all_goals first
  |exact absurd this.symm (zG _)
  |simp at this
theorem T5{c:Nat}{lo hi:Int}{s:PS}(h:Gd ws c s):Gd ws c (ou ws lo hi s).2/\s.br<=(ou ws lo hi s).2.br:=by
 unfold ou;split
 .rename_i n e;exact⟨h.Ak (Li (uz e).1),xg _⟩
 .exact⟨(h.fail de).1,aQ _⟩
theorem QN{ws:List ab}{c:Nat}{b:Bool}{s:PS}(h:Gd ws c s):∀i,Gd ws c (n9 ws b s i).2/\s.br<=(n9 ws b s i).2.br/\(n9 ws b s i).1.length=i
 |0=>⟨h,aQ _,rfl⟩
 |i+1=>by
  obtain⟨e,t,a⟩:=QN h i;obtain⟨o,n⟩:=aay (b:=b) (un:=(n9 ws b s i).1.headD []) e;exact⟨o,gM t n,by simp[n9,a]⟩
theorem Ox{c:Nat}{op:Int}{s:PS}(h:Gd ws c s):Gd ws (c+1) (jQ ws op s).2.2/\s.br<=(jQ ws op s).2.2.br:=by
 unfold jQ;split
 .split
  .rename_i e;obtain⟨k,a,t⟩:=e;refine⟨(h.Ak ?_).mono om,xg _⟩;rw[<-t];exact LZ
  .exact⟨(h.fail de).1.Wb (h.fail de).2.1,xg _⟩
 .split
  .have:=T5 (lo:=0) (hi:=99) h;exact⟨this.1.mono om,this.2⟩
  .split
   .have:=T5 (lo:=1) (hi:=12) h;exact⟨this.1.mono om,this.2⟩
   .exact⟨h.mono om,aQ _⟩
def IC(ws:List ab)(c:Nat)(P:Bool->PS->Nd×PS):Prop:=∀e s,Gd ws c s->Gd ws c (P e s).2/\s.br<=(P e s).2.br
theorem QM{ws:List ab}{c:Nat}{P:Bool->PS->Nd×PS}(hP:IC ws c P){kd:ab}{s:PS}(h:Gd ws c s):∀i,Gd ws c (lS P kd s i).2/\s.br<=(lS P kd s i).2.br
 |0=>⟨h,aQ _⟩
 |i+1=>by
  obtain⟨e,t⟩:=QM hP (kd:=kd) h i;simp only[lS];split
  .exact⟨e,t⟩
  .obtain⟨a,o⟩:=hP (jf ((kd.getD i 0).toNat:Int) 97) _ e;exact⟨a,gM t o⟩
theorem T4{P:Bool->PS->Nd×PS}{kd:ab}{s:PS}:∀i,(lS P kd s i).1.length<=i
 |0=>aQ _
 |i+1=>by
  have:=T4 (P:=P) (kd:=kd) (s:=s) i;simp only[lS];split
  .omega
  .simp;omega
theorem LH{P:Bool->PS->Nd×PS}{kd:ab}{s:PS}{i:Nat}(h:(lS P kd s i).2.fc≠0):∀d,lS P kd s (i+d)=lS P kd s i
 |0=>rfl
 |d+1=>by rw[<-kJ,lS,LH h d,if_pos h]
theorem FW{P:Bool->PS->Nd×PS}{kd:ab}{s:PS}(h:(lS P kd s i).2.fc≠0)(hi:i<=n):lS P kd s n=lS P kd s i:=by
 have:=LH h (n-i);rwa [show i+(n-i)=n by omega]at this
theorem Ym{ws:List ab}{c:Nat}{P:Bool->PS->Nd×PS}(hP:IC ws c P):∀(m:Nat)(ns:List ab)(ks:List Nd)(s:PS),Gd ws c s->Gd ws (c+1) (lB ws P m ns ks s).2.2/\s.br<=(lB ws P m ns ks s).2.2.br
 |0,ns,ks,s,h=>by
  simp only[lB];split
  .rename_i e;exact⟨h.Wb e,xg _⟩
  .exact⟨h.mono om,aQ _⟩
 |m+1,ns,ks,s,h=>by
  simp only[lB];split
  .rename_i a;by_cases e:s.fc=0
   .have o:=a.resolve_left (by simp[e]);exact⟨(h.Ak (by rw[o];decide)).mono om,xg _⟩
   .exact⟨h.Wb e,xg _⟩
  .split
   .exact⟨(h.fail de).1.mono om,aQ _⟩
   .rename_i i;have t:bO (bP ws s.br):=qX fun t=>i (.inl t)
    obtain⟨n,r⟩:=hP false _ (h.Ak (kE t));obtain⟨d,l⟩:=Ym hP m (ns++[bP ws s.br]) (ks++[(P false s.next).1]) _ n;exact⟨d,by have:s.br+1<=(P false s.next).2.br:=r;omega⟩
theorem Ex{w:ab}(h:c6 w≠0):w≠[]:=by
 rintro rfl;exact h de
theorem JW{w:ab}{k:Nd}(h:iG w=some k):w≠[]:=by
 unfold iG at h;split at h
 .rename_i e;have:=e.choose_spec;rw[<-this.2.1];exact Jv
 .split at h
  .rename_i t;exact kE t.1
  .cases h
theorem afU{c:Nat}{P:Bool->PS->Nd×PS}(hP:IC ws c P){op:Int}{s:PS}(h:Gd ws (c-1) s)(r:1<=c):Gd ws (c+1) (pQ ws P op s).2/\s.br<=(pQ ws P op s).2.br:=by
 unfold pQ;split
 .exact Ym hP _ _ _ _ (h.mono om)
 .obtain⟨t,a,_⟩:=QN (b:=pb (binds op)) h (eW op).toNat;obtain⟨e,o⟩:=Ox (op:=op) t;have e:Gd ws c (jQ ws op (n9 ws (pb (binds op)) s (eW op).toNat).2).2.2:=e.mono om;obtain⟨i,n⟩:=QM hP (kd:=eQ op) e (eQ op).length;exact⟨i.mono om,gM a (gM o n)⟩
theorem Ov{c:Nat}{dp:Bool}{s:PS}(h:Gd ws c s)(i:s.fc=0):Gd ws c (fN dp s)/\(fN dp s).br=s.br/\(dp=true->(fN dp s).fc≠0):=by
 unfold fN;obtain⟨n,l⟩:=h.ok i
 have a:∀e:PS,e.br=s.br->e.nd=s.nd->(e.fc≠0\/e.fc=0)->Gd ws c (if 200<=e.nd then e.fail 4 else e).more/\(if 200<=e.nd then e.fail 4 else e).more.br=s.br/\(e.fc≠0->(if 200<=e.nd then e.fail 4 else e).more.fc≠0):=fun e t r _=>by
  split
  .have g:Gd ws c e:=⟨by rw[t];exact h.br,by rw[r];exact h.nd,fun _=>by rw[t,r];exact⟨n,l⟩⟩;obtain⟨u,o,m⟩:=g.fail (k:=4) de;exact⟨⟨by show e.br<=_;rw[t];exact h.br,by show e.nd+1<=_;omega,fun d=>absurd d o⟩,t,fun _=>o⟩
  .exact⟨⟨by show e.br<=_;rw[t];exact h.br,by show e.nd+1<=_;omega,fun d=>⟨by show e.br<=_;rw[t];exact n,by show e.nd+1<=_;omega⟩⟩,t,fun h=>h⟩
 cases dp with
 |true=>
  obtain⟨u,o,m⟩:=h.fail (k:=3) de;have:=a (s.fail 3) rfl rfl (.inl o);exact⟨this.1,this.2.1,fun _=>this.2.2 o⟩
 |false=>
  have:=a s rfl rfl (.inr i);exact⟨this.1,this.2.1,fun h=>by cases h⟩
theorem aaA{c:Nat}{P:Bool->PS->Nd×PS}(hP:IC ws c P){act:Bool}{s:PS}(h:Gd ws 0 s)(n:2<=c):Gd ws (c+1) (ma ws P act s).2/\s.br<=(ma ws P act s).2.br:=by
 unfold ma;split
 .rename_i k a;exact⟨(h.Ak (JW a)).mono om,xg _⟩
 .split
  .exact⟨(h.fail de).1.mono om,aQ _⟩
  .rename_i t;obtain⟨o,i⟩:=afU hP (op:=c6 (bP ws s.br)) ((h.Ak (Ex fun e=>t (.inl e))).mono (show 0<=c-1 by omega)) om;exact⟨o,by have:s.br+1<=_:=i;omega⟩
theorem Ot{c:Nat}{P:Bool->PS->Nd×PS}(hP:IC ws c P)(t:2<=c)(dp:Bool){d:Nat}(a:c+1<=d):IC ws d (na ws P dp):=by
 intro act s h;unfold na;split
 .exact⟨h,aQ _⟩
 .rename_i e;have e:s.fc=0:=qX e;have o:Gd ws 0 s:=⟨(h.ok e).1,h.nd,h.ok⟩;obtain⟨i,r,_⟩:=Ov (dp:=dp) o e;obtain⟨n,l⟩:=aaA hP (act:=act) i t;exact⟨n.mono a,by omega⟩
theorem C8(ws:List ab):∀(n c:Nat),3+n<=c->IC ws c (oJ ws n)
 |0,c,e=>Ot (c:=2) (fun _ s h=>⟨h,aQ _⟩) om true om
 |n+1,c,e=>Ot (c:=3+n) (C8 ws n (3+n) om) om false om
variable{ns:List ab}{ks:List Nd}{m:Nat}
def K_P(L:Lk)(ws:List ab)(P:Bool->PS->Nd×PS)(d:Int)(c:Nat):Prop:=∀e s,s.fc=0->Gd ws c s->
 CT L 207 [.ptr 0 0,dB e,dI d] 1 [mZ ws s] [] (aT (P e s).1) 1 [mZ ws (P e s).2] []
def fm0:AV:=.agg [dI 24,dI 0,dS [],.aO [] .nil,.aO [] .nil]
theorem aec{P:Bool->PS->Nd×PS}{s:PS}{c:Nat}(t:Gd ws c s)(a:ws.length+1<m+s.br)(h:s.fc≠0\/bP ws s.br=qm):lB ws P m ns ks s=(ns,ks,s.next):=by
 cases m with
 |zero=>
  have e:s.fc≠0:=fun e=>by have:=(t.ok e).1;omega
  rw[lB,if_pos e]
 |succ m=>rw[lB,if_pos h]
theorem aeb{P:Bool->PS->Nd×PS}{s:PS}{c:Nat}(t:Gd ws c s)(o:ws.length+1<m+s.br)(e:s.fc=0)(h:bP ws s.br≠qm)(a:tc (bP ws s.br) ns):lB ws P m ns ks s=(ns,ks,s.fail 2):=by
 cases m with
 |zero=>exfalso;have:=(t.ok e).1;omega
 |succ m=>rw[lB,if_neg (by simp[e,h]),if_pos a]
theorem aaw{P:Bool->PS->Nd×PS}{s:PS}{c:Nat}(t:Gd ws c s)(o:ws.length+1<m+s.br)(e:s.fc=0)(h:bP ws s.br≠qm)(a:¬tc (bP ws s.br) ns):0<m/\lB ws P m ns ks s=lB ws P (m-1) (ns++[bP ws s.br]) (ks++[(P false s.next).1]) (P false s.next).2:=by
 cases m with
 |zero=>exfalso;have:=(t.ok e).1;omega
 |succ m=>exact⟨by omega,by rw[lB,if_neg (by simp[e,h]),if_neg a];rfl⟩
theorem FC(h:0<ns.length):ns.getLast?=some (ns[ns.length-1]'om):=by
 rw[List.getLast?_eq_getElem?,dw om]
theorem adl(M:aJ L 274 abF)(F:yj L)(Y:yk L)(hN:lI L 68)(ws:List ab)(z:ws.length<=1000000)(c:Nat)(hc:c<=100)(P:Bool->PS->Nd×PS)(V:IC ws c P)(d:Int)(hd:0<=d/\d<=30)(s0:PS)(B:Gd ws c s0)(hP:s0.fc=0->K_P L ws P (d+1) c):
  CT L 274 [.ptr 0 0,fm0,dI d] 1 [mZ ws s0] [] (aT (.mk 24 0 [] (lB ws P (ws.length+2) [] [] s0).1 (lB ws P (ws.length+2) [] [] s0).2.1)) 1 [mZ ws (lB ws P (ws.length+2) [] [] s0).2.2] []:=by
 generalize G:lB ws P (ws.length+2) [] [] s0=R;refine M.ct ?_
 repeat' ((conv=>whnf);first|rw[wrap64 om]|apply aq|apply bK|apply aD|apply aH|apply bp|apply aM|apply eA|apply ew|apply gQ|apply bS|rw[ca];intro _|rw[dC];intro _|rw[bl];intro _|refine bY ?_|intro _)
 all_goals(conv=>whnf)
 refine LW.ghost (cg:=[mZ ws s0,.var 0 [dI 24,dI 0,dS [],.aO [] (.row 0),.aO [] .nil],.var 0 [dI 0,dI 0,dS [],.aO [] .nil,.aO [] .nil]]) 1 rfl (by repeat' (first|exact trivial|exact rfl|exact .inl rfl|exact .inr ⟨rfl,rfl⟩|apply And.intro)) ?_;refine LW.ghost (cg:=[mZ ws s0,.var 0 [dI 24,dI 0,dS [],.aO [] (.row 0),.aO [] (.row 1)],.var 0 [dI 0,dI 0,dS [],.aO [] .nil,.aO [] .nil]]) 5 rfl (by repeat' (first|exact trivial|exact rfl|exact .inl rfl|exact .inr ⟨rfl,rfl⟩|apply And.intro)) ?_
 refine LW.gen (S:=Nat×List ab×List Nd×PS) (fun x=>x.1) (fun x=>lB ws P x.1 x.2.1 x.2.2.1 x.2.2.2=R/\Gd ws c x.2.2.2/\ws.length+1<x.1+x.2.2.2.br/\x.2.1.length<=x.2.2.2.br/\x.2.2.1.length=x.2.1.length/\(x.2.2.2.fc=0->s0.fc=0))
  (fun x=>⟨[(0,.ptr 0 0),(2,dI d),(4,.ptr 1 0),(6,.ptr 2 0)],3,[mZ ws x.2.2.2,.var 0 [dI 24,dI 0,dS [],.aO (aR x.2.1) (.row 0),.aO (x.2.2.1.map cT) (.row 1)],.var 0 [dI 0,dI 0,dS [],.aO [] .nil,.aO [] .nil]],[(x.2.1.length,1),(x.2.2.1.length,5)]⟩)
  (fun _=>⟨rfl,rfl,rfl⟩) ?_ (ws.length+2,[],[],s0) ⟨G,B,by show _<_+2+s0.br;omega,cr _,rfl,fun h=>h⟩ _ lz
 rintro⟨m,ns,ks,s⟩ ⟨i,e,k,E,u,n⟩ T;dsimp only at i e k E u n T⊢
 have A:∀(f:Nat)(t:List ab)(o:List Nd)(s':PS)(σ:St),f<m->lB ws P f t o s'=R->Gd ws c s'->ws.length+1<f+s'.br->t.length<=s'.br->o.length=t.length->(s'.fc=0->s0.fc=0)->_->_:=
  fun f t o s' σ r O K J Q X h7 h8=>T (f,t,o,s') σ r ⟨O,K,J,Q,X,h7⟩ h8
 clear T;have r:=F ws s.br s.nd s.fc s.fa z;have O:=Y ws s 2;have ee:=e.br;have et:=e.nd;have p:(aR ns).length=ns.length:=bl _;have v:(ks.map cT).length=ks.length:=ca _;by_cases j:s.fc≠0\/bP ws s.br=qm
 .rw[aec e k j]at i;subst i;by_cases Ec:s.fc=0
  .have q:=j.resolve_left (by simp[Ec]);rw[q]at r
   repeat' ((conv=>whnf);first|exact xc|rw[wrap64 om]|apply aD|refine az r [0] [] ?_|(apply dt<;>(repeat' first|(refine c8 ?_;show(_:Int)=((s.br+1:Nat):Int);omega)|exact sz|apply And.intro);done)|intro _)
  .skip
   repeat' ((conv=>whnf);first|exact xo|rw[wrap64 om]|apply aD|(apply dt<;>(repeat' first|(refine c8 ?_;show(_:Int)=((s.br+1:Nat):Int);omega)|exact sz|apply And.intro);done)|intro _)
 .have Ec:s.fc=0:=qX fun h=>j (.inl h)
  have q:bP ws s.br≠qm:=fun h=>j (.inr h)
  by_cases a:tc (bP ws s.br) ns
  .rw[aeb e k Ec q a]at i;subst i;generalize bP ws s.br=w at*
   repeat' ((conv=>whnf);first|exact xc|rw[wrap64 om]|refine P4 (ns.length-1) om om ?_|apply aq|apply aD|apply aH|apply bp|apply aM|apply bS|rw[bl];intro _|refine bY ?_|refine az r [0] [] ?_|refine az O [0] [] ?_|refine ak (hN _) ?_|exact fz|(exfalso;rcases a with a|⟨l,b,U⟩;exact a asm;rw[FC om]at b;cases b;first|(rw[U]at*;contradiction)|(simp_all;done))|(exfalso;rcases a with a|⟨l,b,U⟩;exact a asm;have:ns=[]:=mc om;rw[this]at b;cases b)|intro _)
  .obtain⟨eo,I⟩:=aaw (P:=P) (ks:=ks) e k Ec q a;rw[I]at i;have N:bO (bP ws s.br):=qX fun h=>a (.inl h)
   have H:∀(h:0<ns.length),dT (ns[ns.length-1]'om) (bP ws s.br)=true:=fun h=>by
    cases hh:dT (ns[ns.length-1]'om) (bP ws s.br)with
    |true=>rfl
    |false=>exact absurd (.inr ⟨_,FC h,hh⟩) a
   have g:=e.Ak (kE N);obtain⟨q1,C⟩:=V false _ g;have D:CT L 207 [.ptr 0 0,dB false,dI (d+1)] 1 [.var 0 [.d (.sl (aR ws)),dI (s.br+1),dI s.nd,dI s.fc,dI s.fa]] [] (aT (P false s.next).1) 1 [mZ ws (P false s.next).2] []:=hP (n Ec) false s.next Ec g;have C:s.br+1<=(P false s.next).2.br:=C;have hk:=fun σ z=>A (m-1) (ns++[bP ws s.br]) (ks++[(P false s.next).1]) (P false s.next).2 σ om i q1 om (by simp;omega) (by simp[u]) (fun _=>n Ec) z
   generalize bP ws s.br=w at*;generalize P false s.next=Z at*
   repeat' ((conv=>whnf);first|exact xc|rw[wrap64 om]|refine P4 (ns.length-1) om om ?_|apply aq|apply aD|apply aH|apply bp|apply aM|apply bS|rw[bl];intro _|refine bY ?_|refine az r [0] [] ?_|refine az D [0] [] ?_|refine ak (hN _) ?_|refine ad ⟨by simp only[p,v,aZ,bc];omega,by intro y hy;rw[dP.1 hy];rfl⟩ ?_|refine ad ⟨by simp only[p,v,aZ,bc],rfl⟩ ?_|refine hk _ lx|exact fz|exfalso;have:=H om;simp_all;done|intro _)
end Go.Ab
namespace Go.Ab
open Go
attribute [local irreducible] W
attribute [local irreducible] bI cf cw bW bA dk dT
variable{L:Lk}{i:Nat}{ks:List Nd}
set_option maxHeartbeats 4000000
def nB(op num:Int)(tx:ab)(ns:List ab)(ks:List Nd):Bx:=.var 0 [dI op,dI num,dS tx,.aO (aR ns) (.row 0),.aO (ks.map cT) (.row 1)]
def yZ:Bx:=.var 0 [dI 0,dI 0,dS [],.aO [] .nil,.aO [] .nil]
def HY:Bx:=.var 0 [.bM,.bM,.bM,.bM,.bM]
theorem Ow{P:Bool->PS->Nd×PS}{kd:ab}{s0 s:PS}(hi:i<kd.length)(e:lS P kd s0 i=(ks,s))(t:s.fc=0):lS P kd s0 (i+1)=(ks++[(P (jf (kd[i].toNat:Int) 97) s).1],(P (jf (kd[i].toNat:Int) 97) s).2):=by
 rw[lS,e,if_neg (by simp[t]),ny,dw hi];rfl
theorem aed{P:Bool->PS->Nd×PS}{kd:ab}{s0 s:PS}(hi:i<=kd.length)(e:lS P kd s0 i=(ks,s))(h:s.fc≠0\/i=kd.length):lS P kd s0 kd.length=(ks,s):=by
 rcases h with h|h
 .rw[<-e];exact FW (by rw[e];exact h) hi
 .rw[<-h];exact e
theorem VZ(op:Int):(eQ op).length<=3:=H8 op
theorem afD(g:∀op:Int,CP L 279 [dI op] (dS (eQ op)))(ws:List ab)(S:ws.length<=1000000)(c:Nat)(H:c<=100)(P:Bool->PS->Nd×PS)(k:IC ws c P)(d:Int)(R:0<=d/\d<=30)(op num:Int)(tx:ab)(ns:List ab)(s0:PS)(j:Gd ws c s0)(m:List Bx)(x:m=[]\/m=[HY])(hP:s0.fc=0->K_P L ws P (d+1) c):W L 180 ⟨1,0,none⟩ (ll 14 rJ.body) ⟨[(0,.ptr 0 0),(2,dI d),(10,dI op),(6,.ptr 1 0),(11,.ptr (2+m.length) 0)],3+m.length,mZ ws s0::yZ::(m++[nB op num tx ns []]),[(ns.length,1),(0,5)]⟩
   (xx [.c 6 5 true] (aT (.mk op num tx ns (lS P (eQ op) s0 (eQ op).length).1)) 1 [mZ ws (lS P (eQ op) s0 (eQ op).length).2] []):=by
 have z:=VZ op;have p:=g op;generalize eQ op=kd at*;rcases x with rfl|rfl
 repeat' ((conv=>whnf);first|refine eY ?_|refine dW ?_|refine fT ?_|refine O' ?_|refine ak p ?_|fail)
 all_goals(conv=>whnf)
 refine LW.Jf kd.length (fun i=>(lS P kd s0 i).2.fc=0->s0.fc=0) (fun i=>⟨[(0,.ptr 0 0),(2,dI d),(10,dI op),(6,.ptr 1 0),(11,.ptr 2 0),(16,dS kd),(17,dI i)],3,[mZ ws (lS P kd s0 i).2,yZ,nB op num tx ns (lS P kd s0 i).1],[(ns.length,1),((lS P kd s0 i).1.length,5)]⟩) (fun _=>⟨rfl,rfl,rfl⟩) ?_ (fun h=>h) _ lz
 rotate_left
 refine LW.Jf kd.length (fun i=>(lS P kd s0 i).2.fc=0->s0.fc=0) (fun i=>⟨[(0,.ptr 0 0),(2,dI d),(10,dI op),(6,.ptr 1 0),(11,.ptr 3 0),(16,dS kd),(17,dI i)],4,[mZ ws (lS P kd s0 i).2,yZ,HY,nB op num tx ns (lS P kd s0 i).1],[(ns.length,1),((lS P kd s0 i).1.length,5)]⟩) (fun _=>⟨rfl,rfl,rfl⟩) ?_ (fun h=>h) _ lz
 rotate_left
 all_goals
  intro i E u t;obtain⟨v,T⟩:=QM k (kd:=kd) j i;have A:=T4 (P:=P) (kd:=kd) (s:=s0) i;dsimp only at u t⊢;have e:=fun ks s(f:lS P kd s0 i=(ks,s))=>aed E f
  generalize f:lS P kd s0 i=q at*;obtain⟨ks,s⟩:=q;dsimp only at v T A u t⊢;have a:(ks.map cT).length=ks.length:=ca _;have O:=v.br;by_cases o:s.fc≠0\/i=kd.length
  .rw[e ks s rfl o];clear t e;rcases Gr (i=kd.length)with n|n
   .skip
    repeat' ((conv=>whnf);first|refine eY ?_|refine dW ?_|refine eb ?_|refine mQ ?_|refine pK ?_|exact xo|apply aq|exact fz|intro _)
   .have I:=o.resolve_right n
    repeat' ((conv=>whnf);first|refine eY ?_|refine dW ?_|refine eb ?_|refine fT ?_|refine mQ ?_|refine E6 ?_|refine eM ?_|refine pK ?_|exact xo|apply aq|apply aD|exact fz|intro _)
  .have w:s.fc=0:=qX fun h=>o (.inl h)
   have r:i<kd.length:=by
    rcases nC i kd.length with h|h
    .exact h
    .exact absurd (.inr om) o
   rw[Ow r f w]at t;have b:=hP (u w) (jf (kd[i].toNat:Int) 97) s w v;have l:=fun σ=>t σ r (fun _=>u w)
   clear t e f o;dsimp only at l;generalize P (jf (kd[i].toNat:Int) 97) s=Z at*
   repeat' ((conv=>whnf);first|refine eY ?_|refine dW ?_|refine eb ?_|refine fT ?_|refine mQ ?_|refine E6 ?_|refine eM ?_|refine pK ?_|exact xo|rw[wrap64 om]|refine bY ?_|apply aq|apply aD|refine az b [0] [] ?_|refine ad ⟨by simp only[a,aZ,bc];omega,by intro y N;rw[dP.1 N];rfl⟩ ?_|refine ad ⟨by simp only[a,aZ,bc],rfl⟩ ?_|refine l _ lx|exact fz|intro _)
variable{ws ns:List ab}
theorem Ic(op:Int):eW op=((eW op).toNat:Int)/\(eW op).toNat<=2:=by
 have:0<=eW op/\eW op<=2:=by unfold eW;split<;>(try split)<;>omega
 omega
theorem Oy{b:Bool}{s0 s:PS}(e:n9 ws b s0 i=(ns,s)):n9 ws b s0 (i+1)=(ns++[(lC ws b (ns.headD []) s).1],(lC ws b (ns.headD []) s).2):=by
 rw[n9,e]
theorem aju{P:Bool->PS->Nd×PS}{op:Int}{s:PS}(h:op≠24){s1:PS}(e:n9 ws (pb (binds op)) s (eW op).toNat=(ns,s1)){num:Int}{tx:ab}{s2:PS}(t:jQ ws op s1=(num,tx,s2)):
  pQ ws P op s=(.mk op num tx ns (lS P (eQ op) s2 (eQ op).length).1,(lS P (eQ op) s2 (eQ op).length).2):=by
 unfold pQ;rw[if_neg h];simp only[e,t]
theorem aip(hL:yj L)(hF:yk L)(X:JP L)(C:O8 L)(M:re L 127)(hB:∀op:Int,CP L 277 [dI op] (dB (pb (binds op))))(ee:∀op:Int,CP L 275 [dI op] (dI (eW op)))(hK:∀op:Int,CP L 279 [dI op] (dS (eQ op)))(ws:List ab)(S:ws.length<=1000000)(c:Nat)(hc:c<=100)(P:Bool->PS->Nd×PS)(hg:IC ws c P)(d:Int)(hd:0<=d/\d<=30)(op:Int)(et:op≠24)(s0:PS)(h0:Gd ws 0 s0)(ej:2<=c)(m:List Bx)(hm:m=[]\/m=[HY])(hP:s0.fc=0->K_P L ws P (d+1) c):W L 180 ⟨1,0,none⟩ (ll 12 rJ.body) ⟨[(0,.ptr 0 0),(2,dI d),(10,dI op),(6,.ptr 1 0),(11,.ptr (2+m.length) 0)],3+m.length,mZ ws s0::yZ::(m++[.var 0 [dI op,dI 0,dS [],.aO [] .nil,.aO [] .nil]]),[]⟩
   (xx [.c 6 5 true] (aT (pQ ws P op s0).1) 1 [mZ ws (pQ ws P op s0).2] []):=by
 have o:=fun num tx ns s2 a b=>afD hK ws S c hc P hg d hd op num tx ns s2 a m hm b
 obtain⟨eo,ez⟩:=Ic op;have l:=ee op;have F:=hB op;have z:=fun ns s1 H num tx s2 D=>aju (ws:=ws) (P:=P) (s:=s0) et (ns:=ns) (s1:=s1) H (num:=num) (tx:=tx) (s2:=s2) D
 obtain⟨T,hT⟩:∃T,T=ll 14 rJ.body:=⟨_,rfl⟩;have e:ll 12 rJ.body=Hw 2 (ll 12 rJ.body) T:=by rw[hT];exact(C7 2 (ll 12 rJ.body)).symm
 rw[<-hT]at o;rw[e];clear e hT;generalize e1:(eW op).toNat=N at*;rw[eo]at l;generalize ei:pQ ws P op s0=R at*;generalize e2:pb (binds op)=b at*;rcases hm with rfl|rfl
 repeat' ((conv=>whnf);first|refine eY ?_|refine dW ?_|refine fT ?_|refine O' ?_|fail)
 all_goals(conv=>whnf)
 refine LW.ghost (cg:=[mZ ws s0,yZ,.var 0 [dI op,dI 0,dS [],.aO [] (.row 0),.aO [] .nil]]) 1 rfl (by repeat' (first|exact trivial|exact rfl|exact .inl rfl|exact .inr ⟨rfl,rfl⟩|apply And.intro)) ?_
 rotate_left
 refine LW.ghost (cg:=[mZ ws s0,yZ,HY,.var 0 [dI op,dI 0,dS [],.aO [] (.row 0),.aO [] .nil]]) 1 rfl (by repeat' (first|exact trivial|exact rfl|exact .inl rfl|exact .inr ⟨rfl,rfl⟩|apply And.intro)) ?_
 rotate_left
 refine LW.ghost (cg:=[mZ ws s0,yZ,.var 0 [dI op,dI 0,dS [],.aO [] (.row 0),.aO [] (.row 1)]]) 5 rfl (by repeat' (first|exact trivial|exact rfl|exact .inl rfl|exact .inr ⟨rfl,rfl⟩|apply And.intro)) ?_
 rotate_left
 refine LW.ghost (cg:=[mZ ws s0,yZ,HY,.var 0 [dI op,dI 0,dS [],.aO [] (.row 0),.aO [] (.row 1)]]) 5 rfl (by repeat' (first|exact trivial|exact rfl|exact .inl rfl|exact .inr ⟨rfl,rfl⟩|apply And.intro)) ?_
 rotate_left
 refine LW.Jf N (fun i=>(n9 ws b s0 i).2.fc=0->s0.fc=0) (fun i=>⟨[(0,.ptr 0 0),(2,dI d),(10,dI op),(6,.ptr 1 0),(11,.ptr 2 0),(12,dI i)],3,[mZ ws (n9 ws b s0 i).2,yZ,.var 0 [dI op,dI 0,dS [],.aO (aR (n9 ws b s0 i).1) (.row 0),.aO [] (.row 1)]],[((n9 ws b s0 i).1.length,1),(0,5)]⟩) (fun _=>⟨rfl,rfl,rfl⟩) ?_ (fun h=>h) _ lz
 rotate_left
 refine LW.Jf N (fun i=>(n9 ws b s0 i).2.fc=0->s0.fc=0) (fun i=>⟨[(0,.ptr 0 0),(2,dI d),(10,dI op),(6,.ptr 1 0),(11,.ptr 3 0),(12,dI i)],4,[mZ ws (n9 ws b s0 i).2,yZ,HY,.var 0 [dI op,dI 0,dS [],.aO (aR (n9 ws b s0 i).1) (.row 0),.aO [] (.row 1)]],[((n9 ws b s0 i).1.length,1),(0,5)]⟩) (fun _=>⟨rfl,rfl,rfl⟩) ?_ (fun h=>h) _ lz
 rotate_left
 all_goals
  intro i hi Y U;obtain⟨q1,q2,K⟩:=QN (b:=b) h0 i;dsimp only at Y U⊢;have u:=fun ns s(V:n9 ws b s0 i=(ns,s))=>Oy V
  generalize V:n9 ws b s0 i=q at*;obtain⟨ns,s⟩:=q;dsimp only at q1 q2 K Y U⊢;have E:(aR ns).length=ns.length:=bl _;have e3:=q1.br;by_cases ed:i<N
  .rw[u ns s rfl]at U;have j:=X ws b (ns.headD []) s S om
   have f:(lC ws b (ns.headD []) s).2.fc=0->s.fc=0:=fun h=>by
    unfold lC at h;split at h
    .exact h
    .simp only[PS.fail]at h;split at h
     .assumption
     .exact h
   have A:=fun σ=>U σ ed (fun h=>Y (f h))
   clear U u V f o z;dsimp only at A;cases ns with
   |nil=>
    have B:i=0:=by simp at K;omega
    subst B;have j:CT L 276 _ 1 _ [] _ 1 _ []:=j;generalize lC ws b (([]:List ab).headD []) s=Z at*
    repeat' ((conv=>whnf);first|refine eY ?_|refine dW ?_|refine eb ?_|refine fT ?_|refine E6 ?_|refine eM ?_|refine pK ?_|exact xo|rw[wrap64 om]|apply aq|refine bY ?_|refine ak l ?_|refine iu F ?_|refine az j [0] [] ?_|refine ad ⟨by simp only[E,aZ,bc];omega,by intro y hy;rw[dP.1 hy];rfl⟩ ?_|refine A _ lx|exact fz|intro _)
   |cons x r=>
    have B:0<i:=by simp at K;omega
    have el:(x::r).length=i:=K;generalize lC ws b ((x::r:List ab).headD []) s=Z at*
    repeat' ((conv=>whnf);first|refine eY ?_|refine dW ?_|refine eb ?_|refine fT ?_|refine E6 ?_|refine eM ?_|refine pK ?_|exact xo|rw[wrap64 om]|refine oG (xs:=x::r) (i:=0) si ?_|apply aq|refine bY ?_|refine ak l ?_|refine iu F ?_|refine az j [0] [] ?_|refine ad ⟨by simp only[E,aZ,bc];simp only[aZ]at el;omega,by intro y hy;rw[dP.1 hy];rfl⟩ ?_|refine ad ⟨by simp only[E,aZ,bc],rfl⟩ ?_|refine A _ lx|exact fz|intro _)
  .have em:i=N:=by omega
   subst em;clear U u;have p:=fun num tx s2 D=>z ns s V num tx s2 D
   have ef:Gd ws (c-1) s:=q1.mono om
   have O:∀num tx s2,jQ ws op s=(num,tx,s2)->Gd ws c s2:=fun num tx s2 h=>by
    have:=(Ox (op:=op) ef).1;rw[h]at this;exact this.mono om
   first
   |have n:∀num tx s2,jQ ws op s=(num,tx,s2)->(s2.fc=0->s.fc=0)->W L 180 ⟨1,0,none⟩ T ⟨[(0,.ptr 0 0),(2,.d (.int .i64 d)),(10,.d (.int .i64 op)),(6,.ptr 1 0),(11,.ptr 2 0)],3,[mZ ws s2,yZ,nB op num tx ns []],[(ns.length,1),(0,5)]⟩ (xx [.c 6 5 true] (aT R.1) 1 [mZ ws R.2] []):=fun num tx s2 h f=>by rw[p num tx s2 h];exact o num tx ns s2 (O num tx s2 h) fun hf=>hP (Y (f hf))
   |have n:∀num tx s2,jQ ws op s=(num,tx,s2)->(s2.fc=0->s.fc=0)->W L 180 ⟨1,0,none⟩ T ⟨[(0,.ptr 0 0),(2,.d (.int .i64 d)),(10,.d (.int .i64 op)),(6,.ptr 1 0),(11,.ptr 3 0)],4,[mZ ws s2,yZ,HY,nB op num tx ns []],[(ns.length,1),(0,5)]⟩ (xx [.c 6 5 true] (aT R.1) 1 [mZ ws R.2] []):=fun num tx s2 h f=>by rw[p num tx s2 h];exact o num tx ns s2 (O num tx s2 h) fun hf=>hP (Y (f hf))
   clear z p o V O ei;have H:=hL ws s.br s.nd s.fc s.fa S;have D:=hF ws s 2;have n1:=C ws 0 99 s S om;have n2:=C ws 1 12 s S om
   have v:∀lo hi,(ou ws lo hi s).2.fc=0->s.fc=0:=fun lo hi h=>by
    unfold ou at h;split at h
    .exact h
    .simp only[PS.fail]at h;split at h
     .assumption
     .exact h
   have ey:((s.fail 2).next).fc=0->s.fc=0:=fun h=>by
    simp only[PS.fail,PS.next]at h;split at h
    .assumption
    .exact h
   by_cases I:op=5\/op=6
   .by_cases J:∃k,jj k/\fR k=bP ws s.br
    .have t:=n 0 (bP ws s.br) s.next (by unfold jQ;rw[if_pos I,if_pos J]) (fun h=>h);obtain⟨k,ep,eg⟩:=J;have g:=(M (bP ws s.br)).1 k ep eg;clear n;generalize bP ws s.br=w at*;rcases I with rfl|rfl
     .skip
      repeat' ((conv=>whnf);first|refine eY ?_|refine dW ?_|refine eb ?_|refine fT ?_|refine eM ?_|refine pK ?_|exact xo|rw[wrap64 om]|refine W.drop t ⟨rfl,rfl,rfl⟩ (by refine⟨?_,?_,?_⟩<;>repeat' first|(refine c8 ?_;show(_:Int)=((s.br+1:Nat):Int);omega)|exact sz|exact dV om|apply And.intro)|apply aq|refine ak l ?_|refine az H [0] [] ?_|refine ak g ?_|intro _)
     .skip
      repeat' ((conv=>whnf);first|refine eY ?_|refine dW ?_|refine eb ?_|refine fT ?_|refine eM ?_|refine pK ?_|exact xo|rw[wrap64 om]|refine W.drop t ⟨rfl,rfl,rfl⟩ (by refine⟨?_,?_,?_⟩<;>repeat' first|(refine c8 ?_;show(_:Int)=((s.br+1:Nat):Int);omega)|exact sz|exact dV om|apply And.intro)|apply aq|refine ak l ?_|refine az H [0] [] ?_|refine ak g ?_|intro _)
    .have t:=n 0 (bP ws s.br) (s.fail 2).next (by unfold jQ;rw[if_pos I,if_neg J]) ey;have g:=(M (bP ws s.br)).2 J;have G:=hL ws s.br s.nd (s.fail 2).fc (s.fail 2).fa S;clear n;generalize bP ws s.br=w at*;rcases I with rfl|rfl
     .skip
      repeat' ((conv=>whnf);first|refine eY ?_|refine dW ?_|refine eb ?_|refine fT ?_|refine eM ?_|refine pK ?_|exact xo|rw[wrap64 om]|refine W.drop t ⟨rfl,rfl,rfl⟩ (by refine⟨?_,?_,?_⟩<;>repeat' first|(refine c8 ?_;show(_:Int)=((s.br+1:Nat):Int);omega)|exact sz|exact dV om|apply And.intro)|apply aq|refine ak l ?_|refine az H [0] [] ?_|refine az D [0] [] ?_|refine az G [0] [] ?_|refine ak g ?_|intro _)
     .skip
      repeat' ((conv=>whnf);first|refine eY ?_|refine dW ?_|refine eb ?_|refine fT ?_|refine eM ?_|refine pK ?_|exact xo|rw[wrap64 om]|refine W.drop t ⟨rfl,rfl,rfl⟩ (by refine⟨?_,?_,?_⟩<;>repeat' first|(refine c8 ?_;show(_:Int)=((s.br+1:Nat):Int);omega)|exact sz|exact dV om|apply And.intro)|apply aq|refine ak l ?_|refine az H [0] [] ?_|refine az D [0] [] ?_|refine az G [0] [] ?_|refine ak g ?_|intro _)
   .by_cases Q:op=37
    .have t:=n (ou ws 0 99 s).1 [] (ou ws 0 99 s).2 (by unfold jQ;rw[if_neg I,if_pos Q]) (v _ _);clear n v;generalize ou ws 0 99 s=Z at*;subst Q
     repeat' ((conv=>whnf);first|refine eY ?_|refine dW ?_|refine eb ?_|refine fT ?_|refine eM ?_|refine pK ?_|exact xo|refine W.drop t ⟨rfl,rfl,rfl⟩ lz|apply aq|refine ak l ?_|refine az n1 [0] [] ?_|intro _)
    .by_cases o3:op=39
     .have t:=n (ou ws 1 12 s).1 [] (ou ws 1 12 s).2 (by unfold jQ;rw[if_neg I,if_neg Q,if_pos o3]) (v _ _);clear n v;generalize ou ws 1 12 s=Z at*;subst o3
      repeat' ((conv=>whnf);first|refine eY ?_|refine dW ?_|refine eb ?_|refine fT ?_|refine eM ?_|refine pK ?_|exact xo|refine W.drop t ⟨rfl,rfl,rfl⟩ lz|apply aq|refine ak l ?_|refine az n2 [0] [] ?_|intro _)
     .have t:=n 0 [] s (by unfold jQ;rw[if_neg I,if_neg Q,if_neg o3]) (fun h=>h);clear n v
      repeat' ((conv=>whnf);first|refine eY ?_|refine dW ?_|refine eb ?_|refine fT ?_|refine eM ?_|refine pK ?_|exact xo|refine W.drop t ⟨rfl,rfl,rfl⟩ lz|apply aq|apply aD|refine ak l ?_|intro _)
structure PsC(L:Lk):Prop where
 look:yj L
 fail:yk L
 name:JP L
 num:O8 L
 atom:Rz L
 c6:Ct L 273
 qR:lI L 68
 kind:re L 127
 binds:∀op:Int,CP L 277 [dI op] (dB (pb (binds op)))
 names:∀op:Int,CP L 275 [dI op] (dI (eW op))
 kids:∀op:Int,CP L 279 [dI op] (dS (eQ op))
 form:aJ L 274 abF
theorem Iu{P:Bool->PS->Nd×PS}{s:PS}{k:Nd}(h:iG (bP ws s.br)=some k):ma ws P false s=(k,s.next):=by simp only[ma,h]
theorem LI{P:Bool->PS->Nd×PS}{act:Bool}{s:PS}(h:act=true\/iG (bP ws s.br)=none)(e:c6 (bP ws s.br)=0\/act≠vF 36 (c6 (bP ws s.br))):ma ws P act s=(bX,s.fail 2):=by
 cases act with
 |true=>simp only[ma];rw[if_pos e]
 |false=>simp only[ma,h.resolve_left si];rw[if_pos e]
theorem HF{P:Bool->PS->Nd×PS}{act:Bool}{s:PS}(h:act=true\/iG (bP ws s.br)=none)(e:¬(c6 (bP ws s.br)=0\/act≠vF 36 (c6 (bP ws s.br)))):ma ws P act s=pQ ws P (c6 (bP ws s.br)) s.next:=by
 cases act with
 |true=>simp only[ma];rw[if_neg e]
 |false=>simp only[ma,h.resolve_left si];rw[if_neg e]
theorem OA{P:Bool->PS->Nd×PS}{s:PS}:pQ ws P 24 s=(.mk 24 0 [] (lB ws P (ws.length+2) [] [] s).1 (lB ws P (ws.length+2) [] [] s).2.1,(lB ws P (ws.length+2) [] [] s).2.2):=by
 unfold pQ;rw[if_pos rfl]
theorem afz(C:PsC L)(ws:List ab)(g:ws.length<=1000000)(c:Nat)(j:c<=100)(P:Bool->PS->Nd×PS)(q:IC ws c P)(d:Int)(x:0<=d/\d<=30)(act:Bool)(s:PS)(A:Gd ws 0 s)(y:2<=c)(hP:s.fc=0->K_P L ws P (d+1) c):W L 180 ⟨1,0,none⟩ (ll 5 rJ.body) ⟨[(0,.ptr 0 0),(1,dB act),(2,dI d),(6,.ptr 1 0)],2,[mZ ws s,yZ],[]⟩
   (xx [.c 6 5 true] (aT (ma ws P act s).1) 1 [mZ ws (ma ws P act s).2] []):=by
 obtain⟨T,z⟩:∃T,T=ll 12 rJ.body:=⟨_,rfl⟩;have e:ll 5 rJ.body=Hw 7 (ll 5 rJ.body) T:=by rw[z];exact(C7 7 (ll 5 rJ.body)).symm
 have a:=fun p t IL=>aip C.look C.fail C.name C.num C.kind C.binds C.names C.kids ws g c j P q d x p t s.next IL y [] (.inl rfl) hP
 have B1:=fun p t IL=>aip C.look C.fail C.name C.num C.kind C.binds C.names C.kids ws g c j P q d x p t s.next IL y [HY] (.inr rfl) hP
 rw[<-z]at a B1;rw[e];clear e z;have m:=C.look ws s.br s.nd s.fc s.fa g;have O:=C.fail ws s 2;have r:=C.atom ws s (bP ws s.br);have f:=C.c6 (bP ws s.br);have N:=A.br
 have o:Gd ws 0 s.next->CT L 274 [.ptr 0 0,fm0,dI d] 1 [.var 0 [.d (.sl (aR ws)),dI (s.br+1),dI s.nd,dI s.fc,dI s.fa]] [] (aT (.mk 24 0 [] (lB ws P (ws.length+2) [] [] s.next).1 (lB ws P (ws.length+2) [] [] s.next).2.1)) 1 [mZ ws (lB ws P (ws.length+2) [] [] s.next).2.2] []:=
  fun IL=>adl C.form C.look C.fail C.qR ws g c j P q d x s.next (IL.mono om) hP
 by_cases v:act=false/\(iG (bP ws s.br)).isSome=true
 .obtain⟨rfl,v⟩:=v;obtain⟨k,I⟩:=HQ.1 v;rw[Iu I];rw[I]at r;clear a B1 o;generalize bP ws s.br=w at*
  repeat' ((conv=>whnf);first|refine eY ?_|refine dW ?_|refine eb ?_|refine mQ ?_|rw[wrap64 om]|refine az m [0] [] ?_|refine az r [0] [] ?_|(apply dt<;>(repeat' first|(refine c8 ?_;show(_:Int)=((s.br+1:Nat):Int);omega)|exact sz|apply And.intro);done)|exact xo|fail)
 .have i:act=true\/iG (bP ws s.br)=none:=by
   cases act with
   |true=>exact .inl rfl
   |false=>right;cases h:iG (bP ws s.br)with
    |none=>rfl
    |some k=>exact absurd ⟨rfl,by rw[h];rfl⟩ v
  by_cases n:c6 (bP ws s.br)=0\/act≠vF 36 (c6 (bP ws s.br))
  .rw[LI i n];clear a B1 o;cases act with
   |true=>
    clear r;generalize bP ws s.br=w at*
    repeat' ((conv=>whnf);first|refine eY ?_|refine dW ?_|refine eb ?_|refine mQ ?_|refine eM ?_|rw[wrap64 om]|apply aD|apply aM|apply bS|refine ak f ?_|refine az m [0] [] ?_|refine az O [0] [] ?_|exact fz|(exfalso;rcases n with n|n;omega;simp_all;done)|intro _)
   |false=>
    rw[i.resolve_left si]at r;generalize bP ws s.br=w at*
    repeat' ((conv=>whnf);first|refine eY ?_|refine dW ?_|refine eb ?_|refine mQ ?_|refine eM ?_|rw[wrap64 om]|apply aD|apply aM|apply bS|refine ak f ?_|refine az m [0] [] ?_|refine az O [0] [] ?_|refine az r [0] [] ?_|exact fz|(exfalso;rcases n with n|n;omega;simp_all;done)|intro _)
  .rw[HF i n];have IL:=A.Ak (Ex fun e=>n (.inl e));have u:c6 (bP ws s.br)≠0/\act=vF 36 (c6 (bP ws s.br)):=⟨fun h=>n (.inl h),qX fun h=>n (.inr h)⟩;clear n v;by_cases t:c6 (bP ws s.br)=24
   .have o:=o IL;rw[t]at u⊢;have b:act=false:=u.2;subst b;rw[i.resolve_left si]at r;rw[OA];rw[t]at f;clear a B1 i t;generalize bP ws s.br=w at*;generalize lB ws P (ws.length+2) [] [] s.next=Z at*
    repeat' ((conv=>whnf);first|refine eY ?_|refine dW ?_|refine eb ?_|refine mQ ?_|refine eM ?_|rw[wrap64 om]|refine ak f ?_|refine az m [0] [] ?_|refine az r [0] [] ?_|refine az o [0] [] ?_|exact fz|exact xo|fail)
   .have a:=a _ t IL;have B1:=B1 _ t IL;generalize pQ ws P (c6 (bP ws s.br)) s.next=Z at*;obtain⟨S,l⟩:=u;cases act with
    |true=>
     clear r B1 o;generalize c6 (bP ws s.br)=p at*;generalize bP ws s.br=w at*;have E:=yG l.symm
     repeat' ((conv=>whnf);first|refine eY ?_|refine dW ?_|refine eb ?_|refine eM ?_|exact xo|refine W.drop a ⟨rfl,rfl,rfl⟩ (by refine⟨?_,?_,?_⟩<;>repeat' first|(refine c8 ?_;show(_:Int)=((s.br+1:Nat):Int);omega)|exact sz|exact dV om|apply And.intro)|rw[wrap64 om]|apply aD|apply aM|apply bS|refine ak f ?_|refine az m [0] [] ?_|exfalso;rename_i h;rw[<-l]at h;exact absurd h de|exfalso;simp_all;done|intro _)
    |false=>
     rw[i.resolve_left si]at r;clear a o i;generalize c6 (bP ws s.br)=p at*;generalize bP ws s.br=w at*;have E:=Ae l.symm
     repeat' ((conv=>whnf);first|refine eY ?_|refine dW ?_|refine eb ?_|refine eM ?_|exact xo|refine W.drop B1 ⟨rfl,rfl,rfl⟩ (by refine⟨?_,?_,?_⟩<;>repeat' first|(refine c8 ?_;show(_:Int)=((s.br+1:Nat):Int);omega)|exact sz|exact dV om|apply And.intro)|rw[wrap64 om]|apply aD|apply aM|apply bS|refine ak f ?_|refine az m [0] [] ?_|refine az r [0] [] ?_|exfalso;rename_i h;rw[<-l]at h;exact absurd h de|exfalso;simp_all;done|intro _)
theorem X0(i:aJ L 207 rJ)(C:PsC L)(ws:List ab)(b:ws.length<=1000000)(c:Nat)(g:c<=100)(P:Bool->PS->Nd×PS)(w:IC ws c P)(dp:Bool)(d:Int)(k:0<=d/\d<=25)(o:dp=qy 24 d)(r:2<=c)(hP:dp=false->K_P L ws P (d+1) c)(act:Bool)(s:PS)(n:Gd ws 100 s):
  CT L 207 [.ptr 0 0,dB act,dI d] 1 [mZ ws s] [] (aT (na ws P dp act s).1) 1 [mZ ws (na ws P dp act s).2] []:=by
 by_cases h:s.fc=0
 .rw[show na ws P dp act s=ma ws P act (fN dp s) by unfold na;rw[if_neg (by simp[h])]];have l:Gd ws 0 s:=⟨(n.ok h).1,n.nd,n.ok⟩;obtain⟨y,j,p⟩:=Ov (dp:=dp) l h;have t:=afz C ws b c g P w d ⟨k.1,by omega⟩ act (fN dp s) y r fun i=>hP (by cases dp with|true=>exact absurd i (p rfl)|false=>rfl)
  generalize ma ws P act (fN dp s)=R at*;obtain⟨T,u⟩:∃T,T=ll 5 rJ.body:=⟨_,rfl⟩;have e:rJ.body=Hw 5 rJ.body T:=by rw[u];exact(C7 5 rJ.body).symm
  rw[<-u]at t;have v:=C.fail ws s 3;have q:=C.fail ws s 4;have m:=C.fail ws (s.fail 3) 4;have z:=n.nd;have E:(s.fail 3).nd=s.nd:=rfl;have A:(s.fail 4).nd=s.nd:=rfl;have x:((s.fail 3).fail 4).nd=s.nd:=rfl;refine CT.jq i rfl (aQ _) (aQ _) ?_;rw[e];clear e u y j p hP w;cases dp with
  |true=>
   have f:=vP o.symm;by_cases a:200<=s.nd
   .rw[show fN true s=((s.fail 3).fail 4).more by simp only[fN];rw[if_pos (by exact a)];rfl]at t
    repeat' ((conv=>whnf);first|refine eY ?_|refine dW ?_|refine eb ?_|refine mQ ?_|refine eM ?_|exact xo|refine W.drop t ⟨rfl,rfl,rfl⟩ lz|apply aq|apply bK|apply aD|apply aM|refine az v [0] [] ?_|refine az m [0] [] ?_|intro _)
   .rw[show fN true s=(s.fail 3).more by simp only[fN];rw[if_neg (by exact a)];rfl]at t
    repeat' ((conv=>whnf);first|refine eY ?_|refine dW ?_|refine eb ?_|refine mQ ?_|refine eM ?_|exact xo|refine W.drop t ⟨rfl,rfl,rfl⟩ lz|apply aq|apply bK|apply aD|apply aM|refine az v [0] [] ?_|intro _)
  |false=>
   have f:=qP o.symm;by_cases a:200<=s.nd
   .rw[show fN false s=(s.fail 4).more by simp only[fN];rw[if_pos (by exact a)];rfl]at t
    repeat' ((conv=>whnf);first|refine eY ?_|refine dW ?_|refine eb ?_|refine mQ ?_|refine eM ?_|exact xo|refine W.drop t ⟨rfl,rfl,rfl⟩ lz|apply aq|apply bK|apply aD|apply aM|refine az q [0] [] ?_|intro _)
   .rw[show fN false s=s.more by simp only[fN];rw[if_neg (by exact a)];rfl]at t
    repeat' ((conv=>whnf);first|refine eY ?_|refine dW ?_|refine eb ?_|refine mQ ?_|refine eM ?_|exact xo|refine W.drop t ⟨rfl,rfl,rfl⟩ lz|apply aq|apply bK|apply aD|apply aM|intro _)
 .rw[show na ws P dp act s=(bX,s) by unfold na;rw[if_pos h]];refine CT.jq i rfl (aQ _) (aQ _) ?_
  repeat' ((conv=>whnf);first|refine eY ?_|refine dW ?_|refine eb ?_|refine mQ ?_|refine eM ?_|exact xo|apply aD|apply aM|exact fz|intro _)
theorem Tq{L:Lk}(t:aJ L 207 rJ)(C:PsC L)(ws:List ab)(a:ws.length<=1000000):∀(n:Nat),n<=24->∀(act:Bool)(s:PS)(d:Int),d=25-n->Gd ws 100 s->
  CT L 207 [.ptr 0 0,dB act,dI d] 1 [mZ ws s] [] (aT (oJ ws n act s).1) 1 [mZ ws (oJ ws n act s).2] []
 |0,i,act,s,d,o,e=>X0 t C ws a 2 om _ (fun _ s h=>⟨h,aQ _⟩) true d om (by rw[o];rfl) om (fun h=>by cases h) act s e
 |n+1,i,act,s,d,o,e=>X0 t C ws a (3+n) om _ (C8 ws n (3+n) om) false d om (by
   have:qy 24 d=false:=decide_eq_false om;rw[this]) om (fun _ act s _ e=>Tq t C ws a n om act s (d+1) om (e.mono om)) act s e
end Go.Ab
namespace Go.Ab
open Go
attribute [local irreducible] bI cf cw bW bA dk dT
variable{i:Nat}{ws:List ab}{d:Int}
set_option maxHeartbeats 4000000
theorem Ci:∀a b:List ab,kX (a++b)=kX a+kX b
 |[],b=>by simp[kX]
 |x::r,b=>by simp[kX,Ci r b];omega
theorem L8:∀a b:List Nd,lD (a++b)=lD a+lD b
 |[],b=>by simp[lD]
 |x::r,b=>by simp[lD,L8 r b];omega
def my(ws:List ab)(i:Nat):Nat:=kX (ws.take i)
theorem pD(h:bP ws i≠[]):i<ws.length/\my ws (i+1)=my ws i+(bP ws i).length+1:=by
 have e:i<ws.length:=by
  rcases nC i ws.length with t|t
  .exact t
  .exact absurd (by unfold bP;rw[ny,qY t];rfl) h
 refine⟨e,?_⟩;unfold my bP;rw[tQ,dw e,Ci,ny,dw e];simp[kX];omega
theorem qv{s:PS}{k:Int}(e:k≠0):(s.fail k).fc≠0:=by simp only[PS.fail];split<;>assumption
theorem aaz{b:Bool}{un:ab}{s:PS}(h:(lC ws b un s).2.fc=0):yM b un (bP ws s.br)/\lC ws b un s=(bP ws s.br,s.next)/\s.fc=0:=by
 unfold lC at h⊢;split at h
 .rename_i e;rw[if_pos e];exact⟨e,rfl,h⟩
 .exact absurd h (qv de)
theorem T6{lo hi:Int}{s:PS}(h:(ou ws lo hi s).2.fc=0):∃n,FE n (bP ws s.br)/\(lo<=n/\n<=hi)/\ou ws lo hi s=(n,s.next)/\s.fc=0:=by
 unfold ou at h⊢;split at h
 .rename_i n e;obtain⟨t,a⟩:=uz e;exact⟨n,t,a,rfl,h⟩
 .exact absurd h (qv de)
theorem QO{ws:List ab}{b:Bool}{s0:PS}:∀i e s,n9 ws b s0 i=(e,s)->s.fc=0->s0.fc=0/\s.nd=s0.nd/\e.length=i/\
  (jc i fun j=> ∀h:j<e.length,bO e[j]/\(b=true->ng e[j])/\(∀o:0<j,e[j]≠e[0]))/\kX e+my ws s0.br<=my ws s.br
 |0,e,s,n,h=>by
  cases n;exact⟨h,rfl,rfl,.zero,by simp[kX]⟩
 |i+1,c,A,n,h=>by
  generalize l:n9 ws b s0 i=q;obtain⟨e,s⟩:=q;rw[Oy l]at n;obtain⟨m,f,w⟩:=aaz (ws:=ws) (b:=b) (un:=e.headD []) (s:=s) (by injection n with _ y;rw[y];exact h);rw[f]at n;injection n with t d;subst t;subst d;obtain⟨p,v,g,k,O⟩:=QO i e s l w;obtain⟨u,z,E⟩:=m;obtain⟨I,T⟩:=pD (kE u);refine⟨p,v,by simp[g],fun j N S=>?_,?_⟩
  .rcases nC j i with a|a
   .have:=k j a om;have t:(e++[bP ws s.br])[j]=e[j]'om:=Cn _;have d:∀o:0<j,(e++[bP ws s.br])[0]=e[0]'om:=fun o=>Cn _
    refine⟨by rw[t];exact this.1,by rw[t];exact this.2.1,fun o=>by rw[t,d o];exact this.2.2 o⟩
   .have a:j=e.length:=by omega
    subst a;have t:(e++[bP ws s.br])[e.length]=bP ws s.br:=by simp
    refine⟨by rw[t];exact u,by rw[t];exact z,fun o=>?_⟩;rw[t,Cn o];cases e with
    |nil=>simp at o
    |cons x r=>exact E
  .show kX (e++[bP ws s.br])+_<=my ws (s.br+1);rw[Ci,T];simp[kX];omega
theorem HE{op:Int}{s:PS}(w:5<=op)(h:(jQ ws op s).2.2.fc=0)(ns:List ab)(ks:List Nd):s.fc=0/\(jQ ws op s).2.2.nd=s.nd/\CW (.mk op (jQ ws op s).1 (jQ ws op s).2.1 ns ks)/\
  (jQ ws op s).2.1.length+my ws s.br<=my ws (jQ ws op s).2.2.br:=by
 unfold jQ at h⊢;split at h
 .rename_i t;rw[if_pos t];split at h
  .rename_i c;rw[if_pos c];obtain⟨k,y,m⟩:=c;obtain⟨f,e⟩:=pD (ws:=ws) (i:=s.br) (by rw[<-m];exact LZ);refine⟨h,rfl,⟨fun h=>(by simp only[Nd.sort]at h;omega),fun _=>⟨rfl,k,y,m⟩,fun h=>(by simp only[Nd.sort]at h;omega),fun h=>(by simp only[Nd.sort]at h;omega),fun h=>(by simp only[Nd.sort]at h;omega)⟩,?_⟩;show _<=my ws (s.br+1);rw[e];show(bP ws s.br).length+_<=_;omega
  .exact absurd h (qv (s:=s) de)
 .rename_i t;rw[if_neg t];split at h
  .rename_i a;rw[if_pos a];obtain⟨n,o,r,d,l⟩:=T6 h;obtain⟨f,e⟩:=pD (Li o);rw[d];refine⟨l,rfl,⟨fun h=>(by simp only[Nd.sort]at h;omega),fun h=>(by simp only[Nd.sort]at h;omega),fun _=>⟨r,rfl⟩,fun h=>(by simp only[Nd.sort]at h;omega),fun h=>(by simp only[Nd.sort]at h;omega)⟩,?_⟩;show 0+_<=my ws (s.br+1);rw[e];omega
  .rename_i a;rw[if_neg a];split at h
   .rename_i u;rw[if_pos u];obtain⟨n,o,r,d,l⟩:=T6 h;obtain⟨f,e⟩:=pD (Li o);rw[d];refine⟨l,rfl,⟨fun h=>(by simp only[Nd.sort]at h;omega),fun h=>(by simp only[Nd.sort]at h;omega),fun h=>(by simp only[Nd.sort]at h;omega),fun _=>⟨r,rfl⟩,fun h=>(by simp only[Nd.sort]at h;omega)⟩,?_⟩;show 0+_<=my ws (s.br+1);rw[e];omega
   .rename_i u;rw[if_neg u];exact⟨h,rfl,⟨fun h=>(by simp only[Nd.sort]at h;omega),fun h=>(by simp only[Nd.sort]at h;omega),fun h=>(by simp only[Nd.sort]at h;omega),fun h=>(by simp only[Nd.sort]at h;omega),fun _=>⟨rfl,rfl⟩⟩,by show 0+my ws s.br<=my ws s.br;omega⟩
structure GP1(ws:List ab)(d:Int)(act:Bool)(s:PS)(k:Nd)(s':PS):Prop where
 fc:s.fc=0
 ok:uB act d k
 nd:s'.nd=s.nd+k.size
 wt:k.wt+my ws s.br<=k.size+my ws s'.br
def GP(ws:List ab)(d:Int)(P:Bool->PS->Nd×PS):Prop:=∀e s,(P e s).2.fc=0->s.fc=0->GP1 ws d e s (P e s).1 (P e s).2
theorem Yo{ws:List ab}{d:Int}{P:Bool->PS->Nd×PS}(hP:GP ws d P){kd:ab}{s0:PS}:∀i e s,i<=kd.length->lS P kd s0 i=(e,s)->s.fc=0->s0.fc=0/\e.length=i/\
  (jc i fun j=> ∀(h:j<e.length)(c:j<kd.length),uB (jf (kd[j].toNat:Int) 97) d e[j])/\s.nd=s0.nd+bU e/\lD e+my ws s0.br<=bU e+my ws s.br
 |0,e,s,_,a,h=>by
  cases a;exact⟨h,rfl,.zero,by simp[bU],by simp[bU,lD]⟩
 |i+1,m,b,g,a,h=>by
  generalize n:lS P kd s0 i=q;obtain⟨e,s⟩:=q;by_cases o:s.fc=0
  .obtain⟨f,w,y,k,x⟩:=Yo hP i e s om n o;rw[Ow om n o]at a;have p:=hP (jf (kd[i].toNat:Int) 97) s;generalize P (jf (kd[i].toNat:Int) 97) s=Z at*;injection a with u r;subst u;subst r;obtain⟨c,v,z,E⟩:=p h o;refine⟨f,by simp[w],fun j T A l=>?_,?_,?_⟩
   .rcases nC j i with t|t
    .have:=y j t om l;rw[Cn om];exact this
    .have t:j=i:=by omega
     subst t;have:(e++[Z.1])[j]=Z.1:=by rw[List.getElem_append_right om];simp
     rw[this];exact v
   .rw[rA];omega
   .rw[rA,L8];simp[lD];omega
  .rw[lS,n,if_pos o]at a;injection a with u r;subst r;exact absurd h o
structure FmI(ws:List ab)(d:Int)(s0:PS)(ns:List ab)(ks:List Nd)(s:PS):Prop where
 len:ns.length=ks.length
 rs:wS ns
 en:qm∉ns
 ok:jc ks.length fun j=> ∀h:j<ks.length,uB false d ks[j]
 nd:s.nd=s0.nd+bU ks
 wt:kX ns+lD ks+my ws s0.br<=bU ks+my ws s.br
theorem Yn{ws:List ab}{d:Int}{P:Bool->PS->Nd×PS}(hP:GP ws d P){s0:PS}:∀(m:Nat)(ns:List ab)(ks:List Nd)(s:PS),FmI ws d s0 ns ks s->(lB ws P m ns ks s).2.2.fc=0->
  s.fc=0/\FmI ws d s0 (lB ws P m ns ks s).1 (lB ws P m ns ks s).2.1 (lB ws P m ns ks s).2.2
 |0,ns,ks,s,I,h=>by
  simp only[lB]at h⊢;split at h
  .rename_i a;exact absurd h a
  .rename_i a;rw[if_neg a];exact⟨h,I⟩
 |m+1,ns,ks,s,I,h=>by
  simp only[lB]at h⊢;split at h
  .rename_i o;rw[if_pos o];have a:s.fc=0:=h;have g:=o.resolve_left (by simp[a]);obtain⟨k,v⟩:=pD (ws:=ws) (i:=s.br) (by rw[g];decide);exact⟨a,I.len,I.rs,I.en,I.ok,I.nd,by have:=I.wt;show _<=_+my ws (s.br+1);rw[v];dsimp only;omega⟩
  .rename_i o;rw[if_neg o];split at h
   .exact absurd h (qv de)
   .rename_i l;rw[if_neg l];have a:s.fc=0:=qX fun a=>o (.inl a)
    have u:bP ws s.br≠qm:=fun e=>o (.inr e)
    have n:bO (bP ws s.br):=qX fun n=>l (.inl n)
    obtain⟨k,v⟩:=pD (kE n);by_cases hz:(P false s.next).2.fc=0
    .obtain⟨z,q,c,b⟩:=hP false s.next hz a;have b:(P false s.next).1.wt+my ws (s.br+1)<=_:=b;have c:(P false s.next).2.nd=s.nd+_:=c;refine⟨a,(Yn hP m _ _ _ ⟨by simp[I.len],?_,?_,?_,?_,?_⟩ h).2⟩
     .intro j x f;rcases nC j ns.length with t|t
      .have:=I.rs j t t;rw[Cn t];refine⟨this.1,fun w=>?_⟩;rw[Cn om];exact this.2 w
      .have t:j=ns.length:=by simp at f;omega
       subst t;have y:(ns++[bP ws s.br])[ns.length]=bP ws s.br:=by simp
       rw[y];refine⟨n,fun w=>?_⟩;rw[Cn om];cases p:dT (ns[ns.length-1]'om) (bP ws s.br)with
       |true=>rfl
       |false=>exact absurd (.inr ⟨_,FC w,p⟩) l
     .simp only[nA,dP,not_or];exact⟨I.en,fun e=>u e.symm⟩
     .intro j x f;rcases nC j ks.length with t|t
      .rw[Cn t];exact I.ok j t t
      .have t:j=ks.length:=by simp at f;omega
       subst t;have y:(ks++[(P false s.next).1])[ks.length]=(P false s.next).1:=by simp
       rw[y];exact q
     .rw[rA,c];have:=I.nd;omega
     .rw[rA,Ci,L8];have:=I.wt;simp[kX,lD];omega
    .exfalso;refine hz ?_
     have stuck:∀(m:Nat)(ns:List ab)(ks:List Nd)(s:PS),s.fc≠0->(lB ws P m ns ks s).2.2.fc≠0:=fun m ns ks s r=>by
      cases m with
      |zero=>simp only[lB];rw[if_pos r];exact r
      |succ m=>simp only[lB];rw[if_pos (.inl r)];exact r
     exact absurd h (stuck _ _ _ _ hz)
theorem FF{w:ab}(h:c6 w≠0):5<=c6 w/\c6 w<=43:=by
 unfold c6 at h⊢;split at h
 .rename_i e;rw[if_pos e];omega
 .exact absurd rfl h
theorem abv{w:ab}{k:Nd}(h:iG w=some k)(r:d<=24):uB false d k/\k.size=1/\k.wt<=w.length+2:=by
 unfold iG at h;split at h
 .rename_i l;obtain⟨u,c,m⟩:=l.choose_spec;generalize l.choose=t at*;cases h;have n:=(r8 u.1).2
  have f:t.text.length<=w.length:=by
   rw[<-c,qL];rcases n with a|a|a|a|a|a
   .rw[a.2.2.1];simp
   .rw[if_neg om,if_pos a.1];simp;omega
   .rw[a.2.2.1];simp
   all_goals omega
  clear u c;unfold mg at n;generalize t.sort=v at*;generalize t.num=b at*;generalize t.text=g at*;refine⟨nE.iff.2 ⟨r,⟨by simp only[Nd.sort];omega,by simp only[Nd.sort];constructor<;>intro h<;>first|cases h|omega,fun h=>(by simp only[Nd.sort]at h;omega),fun _=>⟨?_,?_,fun j p o=>(by simp only[Nd.names]at o;simp at o),?_⟩⟩,fun i h=>(by simp only[Nd.kids]at h;simp at h)⟩,by simp[Nd.size,bU],by rw[Nd.wt];simp[kX,lD];omega⟩
  .simp only[Nd.kids,Nd.sort];rcases m with e|e|e<;>rw[e]<;>rfl
  .simp only[Nd.names,Nd.sort];rcases m with e|e|e<;>rw[e]<;>rfl
  .refine⟨fun _=>?_,fun h=>(by simp only[Nd.sort]at h;omega),fun h=>(by simp only[Nd.sort]at h;omega),fun h=>(by simp only[Nd.sort]at h;omega),fun h=>(by simp only[Nd.sort]at h;omega)⟩;rcases n with a|a|a|a|a|a
   .exact .inl ⟨a.1,a.2.1,a.2.2.1,rfl,rfl⟩
   .exact .inr (.inl ⟨a.1,a.2.1,a.2.2.1,rfl,rfl⟩)
   .exact .inr (.inr (.inl ⟨a.1,a.2.1,a.2.2.1,rfl,rfl⟩))
   all_goals omega
 .split at h
  .rename_i y;cases h;refine⟨nE.iff.2 ⟨r,⟨by simp only[Nd.sort];omega,by simp only[Nd.sort];constructor<;>intro h<;>first|cases h|omega,fun h=>(by simp only[Nd.sort]at h;omega),fun _=>⟨rfl,rfl,fun j p o=>?_,?_⟩⟩,fun i h=>(by simp only[Nd.kids]at h;simp at h)⟩,by simp[Nd.size,bU],by rw[Nd.wt];simp[kX,lD];omega⟩
   .have s:j=0:=by simp only[Nd.names]at o;simp at o;exact o
    subst s;exact⟨y.1,fun _=>y,fun h=>by omega⟩
   .exact⟨fun h=>(by simp only[Nd.sort]at h;omega),fun h=>(by simp only[Nd.sort]at h;omega),fun h=>(by simp only[Nd.sort]at h;omega),fun h=>(by simp only[Nd.sort]at h;omega),fun _=>⟨rfl,rfl⟩⟩
  .cases h
theorem afV{P:Bool->PS->Nd×PS}(hP:GP ws (d+1) P)(w:d<=24){act:Bool}{op:Int}(r:5<=op/\op<=43)(p:act=vF 36 op){s:PS}(h:(pQ ws P op s).2.fc=0):
  s.fc=0/\uB act d (pQ ws P op s).1/\(pQ ws P op s).2.nd+1=s.nd+(pQ ws P op s).1.size/\(pQ ws P op s).1.wt+my ws s.br<=(pQ ws P op s).1.size+my ws (pQ ws P op s).2.br:=by
 have t:act=true↔36<=op:=by rw[p];exact⟨yG,fun h=>decide_eq_true h⟩
 unfold pQ at h⊢;split at h
 .rename_i e;rw[if_pos e];obtain⟨v,I⟩:=Yn hP (s0:=s) _ [] [] s ⟨rfl,fun j a=>(by simp at a),si,fun j a=>(by simp at a),by simp[bU],by simp[kX,lD,bU]⟩ h;generalize lB ws P (ws.length+2) [] [] s=Z at*;obtain⟨ns,ks,F⟩:=Z;dsimp only at*;refine⟨v,nE.iff.2 ⟨w,⟨by simp only[Nd.sort];omega,by simp only[Nd.sort];rw[t];omega,fun _=>⟨rfl,rfl,I.rs,I.len,I.en⟩,fun h=>absurd rfl h⟩,fun i o=>?_⟩,?_,?_⟩
  .have:Dz (.mk 24 0 [] ns ks) i=false:=by unfold Dz;rw[if_pos (show(Nd.mk 24 0 [] ns ks).sort=24 from rfl)]
   rw[this];exact I.ok i o o
  .have:=I.nd;rw[Nd.size];omega
  .have:=I.wt;rw[Nd.wt,Nd.size];simp only[bc];omega
 .rename_i e;rw[if_neg e];dsimp only at h⊢;generalize l:n9 ws (pb (binds op)) s (eW op).toNat=N at*;obtain⟨ns,u⟩:=N;dsimp only at*;have c:=fun ns ks=>HE (ws:=ws) (s:=u) r.1 (ns:=ns) (ks:=ks)
  generalize b:jQ ws op u=g at*;obtain⟨num,y,k⟩:=g;dsimp only at*;generalize q:lS P (eQ op) k (eQ op).length=K at*;obtain⟨ks,x⟩:=K;dsimp only at*;obtain⟨z,E,T,Y,V⟩:=Yo hP (kd:=eQ op) _ ks x (aQ _) q h;obtain⟨A,B,O,G⟩:=c ns ks z;obtain⟨S,J,Q,H,X⟩:=QO _ ns u l A;obtain⟨e1,e2⟩:=Ic op;refine⟨S,nE.iff.2 ⟨w,⟨by simp only[Nd.sort];omega,t,fun h=>absurd h e,fun _=>⟨E,by simp only[Nd.names,Nd.sort];omega,fun j a R=>?_,O⟩⟩,fun i o=>?_⟩,?_,?_⟩
  .have m:j<ns.length:=R;obtain⟨D,L,U⟩:=H j om m;exact⟨D,fun C=>L (iA C),U⟩
  .have f:i<ks.length:=o;have:=T i om f om;have M:jf ((eQ op)[i]'om).toNat 97=Dz (.mk op num y ns ks) i:=adv (n:=.mk op num y ns ks) (i:=i) e (show i<(eQ op).length by omega);rw[M]at this;exact this
  .rw[Nd.size];omega
  .rw[Nd.wt,Nd.size];omega
theorem LG{P:Bool->PS->Nd×PS}:∀(m:Nat)(ns:List ab)(ks:List Nd)(s:PS),s.fc≠0->(lB ws P m ns ks s).2.2.fc≠0:=fun m ns ks s e=>by
 cases m with
 |zero=>simp only[lB];rw[if_pos e];exact e
 |succ m=>simp only[lB];rw[if_pos (.inl e)];exact e
theorem Yp{P:Bool->PS->Nd×PS}{op:Int}(t:5<=op){s:PS}(h:(pQ ws P op s).2.fc=0):s.fc=0:=by
 unfold pQ at h;split at h
 .exact qX fun e=>LG _ _ _ _ e h
 .dsimp only at h
  have a:(jQ ws op (n9 ws (pb (binds op)) s (eW op).toNat).2).2.2.fc=0:=qX fun e=>by
   rw[FW (i:=0) e (cr _)]at h;exact e h
  have o:=(HE t a [] []).1;generalize hN:n9 ws (pb (binds op)) s (eW op).toNat=N at*;obtain⟨n,r⟩:=N;exact(QO _ n r hN o).1
theorem Ou{P:Bool->PS->Nd×PS}{dp:Bool}(hP:dp=false->GP ws (d+1) P)(g:dp=false->d<=24):GP ws d (na ws P dp):=by
 intro t s h f;have e:na ws P dp t s=ma ws P t (fN dp s):=by unfold na;rw[if_neg (by simp[f])]
 rw[e]at h⊢
 have o:(fN dp s).fc=0->dp=false/\(fN dp s).nd=s.nd+1/\(fN dp s).br=s.br:=fun a=>by
  unfold fN at a⊢;cases dp with
  |true=>simp only[if_true]at a;exfalso;split at a<;>exact absurd a (by first|exact qv de|exact qv (s:=s) de)
  |false=>
   simp only[jT,if_false]at a⊢;split at a
   .exact absurd a (qv (s:=s) de)
   .rename_i z;rw[if_neg z];exact⟨by first|trivial|rfl,rfl,rfl⟩
 by_cases c:t=false/\(iG (bP ws (fN dp s).br)).isSome=true
 .obtain⟨rfl,c⟩:=c;obtain⟨k,y⟩:=HQ.1 c;rw[Iu y]at h⊢;have h:(fN dp s).fc=0:=h;obtain⟨m,j,i⟩:=o h;obtain⟨E,q,T⟩:=abv y (g m);obtain⟨A,n⟩:=pD (JW y);rw[i]at n T;refine⟨f,E,?_,?_⟩
  .show(fN dp s).nd=_;rw[j,q]
  .show k.wt+my ws s.br<=k.size+my ws ((fN dp s).br+1);rw[i,n,q];omega
 .have r:t=true\/iG (bP ws (fN dp s).br)=none:=by
   cases t with
   |true=>exact .inl rfl
   |false=>right;cases h:iG (bP ws (fN dp s).br)with
    |none=>rfl
    |some k=>exact absurd ⟨rfl,by rw[h];rfl⟩ c
  by_cases l:c6 (bP ws (fN dp s).br)=0\/t≠vF 36 (c6 (bP ws (fN dp s).br))
  .rw[LI r l]at h;exact absurd h (qv de)
  .rw[HF r l]at h⊢;have u:=FF fun e=>l (.inl e)
   have p:t=vF 36 (c6 (bP ws (fN dp s).br)):=qX fun h=>l (.inr h)
   obtain⟨A,n⟩:=pD (Ex (w:=bP ws (fN dp s).br) fun e=>l (.inl e));have v:(fN dp s).fc=0:=Yp (s:=(fN dp s).next) u.1 h;obtain⟨m,j,i⟩:=o v;obtain⟨I,O,x,b⟩:=afV (hP m) (g m) u p h;generalize pQ ws P (c6 (bP ws (fN dp s).br)) (fN dp s).next=Z at*;rw[i]at n;refine⟨f,O,?_,?_⟩
   .have x:_+1=(fN dp s).nd+_:=x;omega
   .have b:_+my ws ((fN dp s).br+1)<=_:=b;rw[i,n]at b;omega
theorem Oz(ws:List ab):∀(n:Nat),GP ws (25-n) (oJ ws n)
 |0=>Ou (fun h=>by cases h) (fun h=>by cases h)
 |n+1=>Ou (fun _=>by have:=Oz ws n;rwa [show(25:Int)-(n+1:Nat)+1=25-n by omega]) (fun _=>by omega)
variable{L:Lk}{s:ab}{p:Nat}
def ib(s:ab):List ab:=(sT.ex s s.length 0 [] rfl (cr _)).choose
theorem vX(s:ab):sT s 0 [] (ib s):=(sT.ex s s.length 0 [] rfl (cr _)).choose_spec
theorem sT.sz{o r:List ab}(h:sT s p o r):p<=s.length/\r.length<=o.length+(s.length-p)/\kX r<=kX o+2*(s.length-p)/\∃q,r=o++q:=by
 induction h with
 |done o=>exact⟨aQ _,by omega,by omega,[],by simp⟩
 |skip p o r n h k t=>obtain⟨l,d,a,i⟩:=t;exact⟨by omega,by omega,by omega,i⟩
 |word p e o r n h u k t=>
  obtain⟨l,d,a,q,i⟩:=t;have c:=u.le n;refine⟨by omega,by simp at d;omega,?_,[(s.take e).drop p]++q,by rw[i];simp⟩;rw[Ci]at a;simp[kX]at a;omega
theorem EK(s:ab):(ib s).length<=s.length/\kX (ib s)<=2*s.length:=by
 have h:=(vX s).sz;simp[kX]at h;omega
def runN(text:ab):Nd×PS:=oJ (ib text) 24 true ⟨0,0,0,0⟩
open Classical in
def gG(text:ab):Option Nd:=if text.length<=3000/\(runN text).2.fc=0/\¬(runN text).2.br<(ib text).length/\(rH (runN text).1).length<=3000 then some (runN text).1 else none
theorem gd0(ws:List ab)(c:Nat):Gd ws c ⟨0,0,0,0⟩:=⟨cr _,cr _,fun _=>⟨cr _,cr _⟩⟩
theorem OV:∀(l:List ab)(i:Nat),kX (l.take i)<=kX l
 |[],i=>by simp
 |x::r,0=>by simp[kX]
 |x::r,i+1=>by simp only[HU,kX];have:=OV r i;omega
theorem FU{text:ab}(i:text.length<=3000)(t:(runN text).2.fc=0):uB true 1 (runN text).1/\(runN text).1.size<=200/\(runN text).1.wt<=10000:=by
 obtain⟨n,o,a,e⟩:=Oz (ib text) 24 true ⟨0,0,0,0⟩ t rfl;have g:=(C8 (ib text) 24 100 om true _ (gd0 _ _)).1;have s:=(g.ok t).2;have h:=(EK text).2;have r:=OV (ib text) (runN text).2.br;unfold runN at*;generalize oJ (ib text) 24 true ⟨0,0,0,0⟩=Z at*;have a:Z.2.nd=0+Z.1.size:=a;have e:Z.1.wt+my (ib text) 0<=Z.1.size+my (ib text) Z.2.br:=e;unfold my at e;exact⟨o,by omega,by omega⟩
theorem EA{text:ab}{n:Nd}(h:gG text=some n):tW true n/\n.wt<=10000/\n=(runN text).1/\(runN text).2.fc=0:=by
 unfold gG at h;split at h
 .rename_i e;cases h;obtain⟨t,a,o⟩:=FU e.1 e.2.1;exact⟨⟨⟨t,a⟩,e.2.2.2⟩,o,rfl,e.2.1⟩
 .cases h
theorem QW{b:ab}:∀(l:List ab)(i:Nat),b.length<=(qF b l i).length
 |l,0=>aQ _
 |l,i+1=>by
  have e:=QW (b:=b) l i;simp only[qF,bG];omega
theorem TM{s:Int}(h:5<=s/\s<=43):0<(fQ s).length:=by
 have e:∀m:Fin 39,0<(fQ (5+(m.1:Int))).length:=by decide
 have:=e ⟨(s-5).toNat,by omega⟩;rwa [show(5:Int)+(((s-5).toNat:Nat):Int)=s by omega]at this
theorem aey{a:Bool}{n:Nd}(h:uB a d n):0<(rH n).length:=by
 obtain⟨_,m,f,w,o⟩:=yP h;rw[Ju];split
 .exact Co.2 Jv
 .rename_i y;split
  .rename_i i;obtain⟨_,l,u,_⟩:=o om;rw[i]at l;have e:n.names.length=1:=by have:eW 4=1:=rfl;omega
   have:=(u 0 om om).1;cases t:n.names with
   |nil=>rw[t]at e;cases e
   |cons x r=>
    have c:n.names[0]'om=x:=by simp[t]
    rw[c]at this;exact Co.2 (kE this)
  .split
   .simp
   .rename_i p v;refine jS ?_ (QW _ _);have g:=TM (s:=n.sort) om;have k:=QW (b:=fQ n.sort) n.names n.names.length;unfold AQ;dsimp only;split<;>split<;>(try simp only[bG])<;>omega
def zp(L:Lk)(f:Nat):Prop:=∀text:ab,(∀n,gG text=some n->CP L f [dS text] (.b6 [aT n,.agg [dI 0,dI 0]]))/\
 (gG text=none->∃e t,e≠0/\CP L f [dS text] (.b6 [aT bX,.agg [dI e,dI t]]))
theorem KV(l:aJ L 128 agy)(hN:aJ L 207 rJ)(C:PsC L)(p:Cu L 206)(c:EY L 209):zp L 128:=by
 intro text;by_cases a:text.length<=3000
 .have d:=p text (ib text) om (vX text);have v:=(EK text).1;have e:CT L 207 [.ptr 0 0,dB true,dI 1] 1 [mZ (ib text) ⟨0,0,0,0⟩] [] (aT (runN text).1) 1 [mZ (ib text) (runN text).2] []:=Tq hN C (ib text) om 24 om true ⟨0,0,0,0⟩ 1 om (gd0 _ _);have g:=(C8 (ib text) 24 100 om true _ (gd0 _ _)).1;have m:=g.br;have t:=C.fail (ib text) (runN text).2 2
  have f:(runN text).2.fc=0->(tW true (runN text).1↔(rH (runN text).1).length<=3000)/\(tW true (runN text).1->CP L 209 [aT (runN text).1] (dS (rH (runN text).1)))/\(¬tW true (runN text).1->CP L 209 [aT (runN text).1] (dS [])):=fun h=>by
   obtain⟨b,j,A⟩:=FU a h;exact⟨⟨fun h=>h.2,fun h=>⟨⟨b,j⟩,h⟩⟩,c _ ⟨by omega⟩⟩
  have o:gG text=if text.length<=3000/\(runN text).2.fc=0/\¬(runN text).2.br<(ib text).length/\(rH (runN text).1).length<=3000 then some (runN text).1 else none:=rfl;have q:(aR (ib text)).length=(ib text).length:=bl _;change (runN text).2.br<=_ at m;clear g;generalize runN text=Z at*;generalize ib text=x at*;by_cases i:Z.2.fc=0
  .obtain⟨w,z,E⟩:=f i;by_cases u:Z.2.br<x.length
   .rw[if_neg (fun h=>h.2.2.1 u)]at o;refine⟨fun n h=>(by rw[o]at h;cases h),fun _=>⟨(Z.2.fail 2).fc,(Z.2.fail 2).fa,qv de,?_⟩⟩;have:=qv (s:=Z.2) (k:=2) de;refine l.cp ?_
    repeat' ((conv=>whnf);first|exact xo|refine ad om ?_|apply aq|apply aD|apply aM|refine bY ?_|refine ak d ?_|refine az e [2] [] ?_|refine az t [2] [] ?_|exact fz|intro _)
   .by_cases r:(rH Z.1).length<=3000
    .rw[if_pos ⟨a,i,u,r⟩]at o;refine⟨fun n h=>?_,fun h=>(by rw[o]at h;cases h)⟩;rw[o]at h;cases h;have y:=z (w.2 r);have T:0<(rH Z.1).length:=aey (w.2 r).1.1;refine l.cp ?_
     repeat' ((conv=>whnf);first|exact xo|refine ad om ?_|apply aq|apply aD|apply aM|rw[bl];intro _|refine ak d ?_|refine ak y ?_|refine az e [2] [] ?_|exact fz|intro _)
    .rw[if_neg (fun h=>r h.2.2.2)]at o;refine⟨fun n h=>(by rw[o]at h;cases h),fun _=>⟨1,0,by decide,?_⟩⟩;have y:=E fun h=>r (w.1 h)
     refine l.cp ?_
     repeat' ((conv=>whnf);first|exact xo|refine ad om ?_|apply aq|apply aD|apply aM|rw[bl];intro _|refine ak d ?_|refine ak y ?_|refine az e [2] [] ?_|exact fz|intro _)
  .rw[if_neg (fun h=>i h.2.1)]at o;refine⟨fun n h=>(by rw[o]at h;cases h),fun _=>⟨Z.2.fc,Z.2.fa,i,?_⟩⟩;rw[PS.Xy i]at t;refine l.cp ?_
   repeat' ((conv=>whnf);first|exact xo|refine ad om ?_|apply aq|apply aD|apply aM|refine bY ?_|refine ak d ?_|refine az e [2] [] ?_|refine az t [2] [] ?_|exact fz|intro _)
 .have o:gG text=none:=by unfold gG;rw[if_neg (fun h=>a h.1)]
  refine⟨fun n h=>(by rw[o]at h;cases h),fun _=>⟨1,0,by decide,?_⟩⟩;refine l.cp ?_
  repeat' ((conv=>whnf);first|exact xo|apply aq|exact fz|intro _)
theorem sT.head{r:List ab}{e:Nat}(h:sT s 0 [] r)(m:0<s.length)(n:¬DB (bE s 0))(d:DG s 0 e):bP r 0=s.take e:=by
 have t:∀p o,sT s p o r->p=0->o=[]->bP r 0=s.take e:=fun p o h i l=>by
  cases h with
  |done=>omega
  |skip _ _ _ a h=>subst i;exact absurd h n
  |word _ f _ _ a h u k=>
   subst i;subst l;obtain rfl:=d.one u;obtain⟨_,_,_,q,c⟩:=k.sz;rw[c];simp[bP]
 exact t 0 [] h rfl rfl
instance (n:Nat):Decidable (DB n):=by unfold DB;infer_instance
def kV:ab:=[101,109,105,116,32]
theorem U8(text:ab):bP (ib (kV++text)) 0=[101,109,105,116]:=by
 have o:5<=(kV++text).length:=by simp[kV]
 have t:∀i,i<5->bE (kV++text) i=(kV.getD i 0).toNat:=fun i a=>by
  unfold bE;rw[gL (by simpa[kV]using a)];rw[ny]
  match i,a with
  |0,_=>rfl
  |1,_=>rfl
  |2,_=>rfl
  |3,_=>rfl
  |4,_=>rfl
 have:=(vX (kV++text)).head (e:=4) om (by rw[t 0 om];decide) (.inr ⟨by rw[t 0 om];decide,by omega,by omega,fun i n s=>?_,.inr (by rw[t 4 om];decide)⟩)
 .rw[this];simp[kV]
 .rw[t i om];have:i=1\/i=2\/i=3:=by omega
  rcases this with rfl|rfl|rfl<;>decide
def fC(text:ab):Option Nd:=(gG (kV++text)).map fun n=>n.kids.headD bX
theorem L5{text:ab}{n:Nd}(h:gG (kV++text)=some n):n.sort=38/\n.kids.length=1:=by
 obtain⟨i,d,s,e⟩:=EA h
 have t:n.sort=38:=by
  rw[s];unfold runN at e⊢;show(na _ _ _ _ _).1.sort=38;have e:(na (ib (kV++text)) (oJ (ib (kV++text)) 23) false true ⟨0,0,0,0⟩).2.fc=0:=e;unfold na at e⊢;rw[if_neg si]at e⊢;have e0:fN false ⟨0,0,0,0⟩=⟨0,1,0,0⟩:=rfl;rw[e0]at e⊢;have a:=U8 text;have o:c6 [101,109,105,116]=38:=by decide
  rw[HF (.inl rfl) (by show¬(c6 (bP _ 0)=0\/_);rw[a,o];decide)];show(pQ _ _ (c6 (bP _ 0)) _).1.sort=38;rw[a,o];unfold pQ;rw[if_neg de];rfl
 refine⟨t,?_⟩;obtain⟨_,_,_,_,r⟩:=yP i.1.1;have:=(r om).1;rw[t]at this;exact this
def RD(L:Lk)(f:Nat):Prop:=∀text:ab,text.length<=1000000->(∀k,fC text=some k->CP L f [dS text] (.b6 [aT k,dB true]))/\(fC text=none->CP L f [dS text] (.b6 [aT bX,dB false]))
theorem Tg(i:aJ L 188 agM)(hP:zp L 128):RD L 188:=by
 intro text u;obtain⟨d,l⟩:=hP (kV++text);unfold fC;cases e:gG (kV++text)with
 |some n=>
  have t:=d n e;obtain⟨c,a⟩:=L5 e;refine⟨fun k o=>?_,fun h=>by cases h⟩;cases o;obtain⟨m,f,w,y,s⟩:=n;have a:s.length=1:=a;cases s with
  |nil=>cases a
  |cons k r=>
   refine i.cp ?_
   repeat' ((conv=>whnf);first|refine ad (by simp only[aZ,bc];omega) ?_|refine XU (xs:=k::r) si ?_|refine bY ?_|refine ak t ?_|exact fz|exact xo|fail)
 |none=>
  obtain⟨p,v,b,t⟩:=l e;refine⟨fun k o=>(by cases o),fun _=>?_⟩;refine i.cp ?_
  repeat' ((conv=>whnf);first|refine ad (by simp only[aZ,bc];omega) ?_|apply aD|apply aM|refine bY ?_|refine ak t ?_|exact fz|exact xo|intro _)
variable{f:Nat}
structure Fr where
 name:ab
 ba:List Fs
 op:Option (Nd×Option Nd)
 start:Nd
 steps:List Ft
 gU:Int
def Fr.last(f:Fr):List Fs:=match f.op with|none=>[]|some (k,none)=>[⟨k,bX,bX⟩]|some (k,some v)=>[⟨k,v,bX⟩]
def stA(j:Nat)(e:List Fs):Option (Nd×Option Nd)->AV
 |none=> .aO (e.map qh) (.fe j)
 |some (k,none)=> .kh 13 3 (e.map qh) (kD k) (tD bX++tD bX) j
 |some (k,some v)=> .kh 13 8 (e.map qh) (kD k++tD v) (tD bX) j
def LO(e:List Fs):Option (Nd×Option Nd)->Nat
 |none=>2*(e.length*13)
 |some (_,none)=>2*(e.length*13+3)+1
 |some (_,some _)=>2*(e.length*13+8)+1
def rdB(es:bJ)(w:Pw)(o:Bool)(nm:ab)(t:List Fs)(op:Option (Nd×Option Nd))(e:Nd)(a:List Ft)(i:Int):Bx:=.var 0 [.aO es (.fe 0),dI w.kind,dS w.data,dB w.mj,dI w.after,dI w.BV,.d (.sl (fU w.bj)),dB o,
 dS nm,stA 1 t op,dI e.sort,dI e.num,dS e.text,.d (.sl (aR e.names)),.d (.sl (e.kids.map cT)),.aO (a.map qN) (.row 2),dI i]
def rdR(t:Nat)(e:List Fs)(op:Option (Nd×Option Nd))(a:List Ft):bm:=[(t,710034),(LO e op,610013),(a.length,6)]
open Classical in
def fX(s:ab):Option Nd:=if h:∃t,jk t/\cM t=s then some h.choose else none
open Classical in
def kindOf(s:ab):Option Nd:=if h:∃k,jj k/\fR k=s then some h.choose else none
def RB(L:Lk)(f:Nat):Prop:=∀s:ab,CP L f [dS s] (.b6 [aT ((fX s).getD bX),dB ((fX s).isSome)])
def EZ(L:Lk)(f:Nat):Prop:=∀s:ab,CP L f [dS s] (.b6 [aK ((kindOf s).getD bX),dB ((kindOf s).isSome)])
def MW(L:Lk)(f:Nat):Prop:=∀s:ab,s.length<=1000000->CP L f [dS s] (.b6 [aT ((fC s).getD bX),dB ((fC s).isSome)])
theorem ads(h:xu L f):RB L f:=fun s=>by
 unfold fX;split
 .rename_i e;exact(h s).1 _ e.choose_spec.1 e.choose_spec.2
 .rename_i e;exact(h s).2 e
theorem S9(h:re L f):EZ L f:=fun s=>by
 unfold kindOf;split
 .rename_i e;exact(h s).1 _ e.choose_spec.1 e.choose_spec.2
 .rename_i e;exact(h s).2 e
theorem ZO(h:RD L f):MW L f:=fun s e=>by
 cases t:fC s with
 |some k=>exact(h s e).1 k t
 |none=>exact(h s e).2 t
def kc:ab:=[102,111,108,100]
def mw:ab:=[115,116,97,116,101]
def sq:ab:=[115,97,118,101]
def tL:ab:=[108,105,102,116]
def mL:ab:=[115,116,97,114,116]
def xr:ab:=[111,110]
def aC(s:ab):ab:=s.take (cl s 32)
def au(s:ab):ab:=s.drop (cl s 32+1)
def ju(f:Fr)(s:ab):Bool×Fr:=
 if s=[]then(true,f)else
 if aC s=kc then(pb (f.gU=0/\bO (au s)),{f with name:=au s,gU:=1})else
 if aC s=mw then(pb ((kindOf (au s)).isSome=true/\(f.gU=1\/f.gU=4)),{f with ba:=f.ba++f.last,op:=some ((kindOf (au s)).getD bX,none),gU:=2})else
 if aC s=sq then(pb ((fC (au s)).isSome=true/\f.gU=2),{f with op:=if f.gU=2 then f.op.map (fun x=>(x.1,some ((fC (au s)).getD bX)))else f.op,gU:=3})else
 if aC s=tL then(pb ((fC (au s)).isSome=true/\f.gU=3),if f.gU=3 then {f with ba:=f.ba++f.last.map (fun x=>{x with lift:=(fC (au s)).getD bX}),op:=none,gU:=4}else {f with gU:=4})else
 if aC s=mL then(pb ((fX (au s)).isSome=true/\f.gU=2),{f with start:=(fX (au s)).getD bX,gU:=5})else
 if aC s=xr then(pb ((fC (au (au s))).isSome=true/\bO (aC (au s))/\5<=f.gU),{f with steps:=f.steps++[⟨aC (au s),(fC (au (au s))).getD bX⟩],gU:=6})else
 (false,f)
structure FlC(L:Lk):Prop where
 word:Ja L 112
 qR:lI L 68
 kind:EZ L 127
 value:MW L 188
 tree:RB L 189
theorem gT(s:ab):(au s).length<=s.length:=by simp[au]
variable{rl:bm}{nb:Nat}{bx:List Bx}{args:List AV}
abbrev qj(es:bJ)(w:Pw):Bx:=.var 0 [.aO es (.fe 0),dI w.kind,dS w.data,dB w.mj,dI w.after,dI w.BV,.d (.sl (fU w.bj)),dB false,
 .bM,.bM,.bM,.bM,.bM,.bM,.bM,.bM,.bM]
abbrev rF(es:bJ):bm:=[(2*(es.length*34),710034)]
def fB:Pw:=⟨0,[],false,0,0,[]⟩
def qS:Pl:=⟨[],[],bX,[]⟩
def JO(L:Lk):Prop:=∀(es:bJ)(w:Pw)(e:Te),es.length<=1000->
 CT L 117 [.ptr 0 0,.agg (av (gH e))] 1 [qj es w] (rF es) (dB true) 1 [qj (es++[gH {e with ly:=w}]) fB] (rF (es++[gH {e with ly:=w}]))
theorem aji(e:aJ L 117 c117):JO L:=by
 intro es w t a;refine e.ct ?_
 repeat' ((conv=>whnf);first|refine ad ⟨by omega,rfl⟩ ?_|(apply dt<;>(repeat' first|(refine pJ ?_ ?_<;>first|exact rfl|(simp;done))|exact sx|apply And.intro);done)|exact xo|fail)
theorem aeY{jg:Nat}{dQ jV:List Bx}{bZ lg:bm}{v0:AV}(h:CT L f (iX Ab.pu args) jg dQ bZ v0 jg jV lg)(ι κ:List Nat){K:AV->Nat->List Bx->bm->Prop}(e:jg=dQ.length)(t:jV.length=dQ.length)(a:lg.length=bZ.length)(o:Fo ι κ args dQ jV v0=true)(i:args=iX (Be ι κ) args)(n:xS bx ι (iX (mq ι κ) dQ))(s:xS rl κ bZ)(r:xM bx ι (iX (mq ι κ) jV) fun bx=>xM rl κ lg fun rl=>K (Be ι κ v0) nb bx rl):bA L f args nb bx rl K:=
 Pm (CT.pu h) ι κ e t a o i n s r
theorem rk{L:Lk}(hP:JO L){es:bJ}{w:Pw}(e:Te)(a:es.length<=1000){args:List AV}{bx:List Bx}{rl:bm}{nb:Nat}{K:AV->Nat->List Bx->bm->Prop}(o:iX Ab.pu args=[.ptr 0 0,.agg (av (gH e))])(t:Fo [0] [0] args [qj es w] [qj (es++[gH {e with ly:=w}]) fB] (dB true)=true)(i:args=iX (Be [0] [0]) args)(n:xS bx [0] [qj es w])(s:xS rl [0] (rF es))(h:xM bx [0] [qj (es++[gH {e with ly:=w}]) fB] fun bx=>xM rl [0] (rF (es++[gH {e with ly:=w}])) fun rl=>K (dB true) nb bx rl):bA L 117 args nb bx rl K:=
 aeY (jg:=1) (dQ:=[qj es w]) (jV:=[qj (es++[gH {e with ly:=w}]) fB]) (bZ:=rF es) (lg:=rF (es++[gH {e with ly:=w}])) (v0:=dB true) (by rw[o];exact hP es w e a) [0] [0] rfl rfl rfl t i n s h
open Classical in
def fg(s:ab):Option Int:=if h:∃n:Int,(0<=n/\n<=999999)/\dec n=s then some h.choose else none
def JM(L:Lk)(f:Nat):Prop:=∀s:ab,∃v,eB .i64 v/\(∀n,fg s=some n->v=n)/\CP L f [dS s] (.b6 [dI v,dB ((fg s).isSome)])
theorem ac0(h:MU L f):JM L f:=fun s=>by
 unfold fg;split
 .rename_i e;have:=e.choose_spec;exact⟨e.choose,by unfold eB;simp only;omega,fun n t=>(by cases t;rfl),(h s).1 _ this.1 this.2⟩
 .rename_i e;obtain⟨v,a,o⟩:=(h s).2 e;exact⟨v,a,fun n t=>(by cases t),o⟩
def Q2(a:ab)(m:Int):Te:=⟨8,[],pV,0,m,a,bX,bX,qS,fB⟩
def Q1(n m:Int):Te:=⟨5,[],pV,n,m,[],bX,bX,qS,fB⟩
def wW(s:ab):Option Te:=match fg (au s)with|none=>none|some m=>open Classical in if bO (aC s)then some (Q2 (aC s) m)else none
def wV(s:ab):Option Te:=match fg (au s),fg (aC s)with|some m,some n=>some (Q1 n m)|_,_=>none
def FO(es:bJ)(w:Pw):Option Te->bJ×Pw
 |some e=>(es++[gH {e with ly:=w}],fB)
 |none=>(es,w)
def abl(L:Lk):Prop:=∀(es:bJ)(w:Pw)(s:ab),es.length<=1000->s.length<=1000000->
 CT L 118 [.ptr 0 0,dI 8,dS s] 1 [qj es w] (rF es) (dB ((wW s).isSome)) 1 [qj (FO es w (wW s)).1 (FO es w (wW s)).2] (rF (FO es w (wW s)).1)/\
 CT L 118 [.ptr 0 0,dI 5,dS s] 1 [qj es w] (rF es) (dB ((wV s).isSome)) 1 [qj (FO es w (wV s)).1 (FO es w (wV s)).2] (rF (FO es w (wV s)).1)
theorem ajj(o:aJ L 118 agw)(b:Ja L 112)(hN:JM L 187)(i:lI L 68)(hP:JO L):abl L:=by
 intro es w s f g;have t:=b s g;change CP L 112 _ (.b6 [dS (aC s),dS (au s)])at t;obtain⟨v,k,h,e⟩:=hN (au s);obtain⟨u,j,d,r⟩:=hN (aC s);unfold wW wV;generalize aC s=x at*;generalize au s=y at*;refine⟨?_,?_⟩
 .cases a:fg y with
  |none=>
   rw[a]at e;refine o.ct ?_
   repeat' ((conv=>whnf);first|refine ak t ?_|refine ak e ?_|exact fz|fail)
  |some m=>
   rw[a]at e;obtain rfl:=h m a;dsimp only;by_cases p:bO x
   .rw[if_pos p];have l:=@rk L hP es w (Q2 x v) f;refine o.ct ?_
    repeat' ((conv=>whnf);first|exact xc|apply bp|refine ak t ?_|refine ak e ?_|refine ak (i _) ?_|refine l rfl rfl rfl (And.intro rfl trivial) (And.intro rfl trivial) ?_|exact fz|intro _)
   .rw[if_neg p];refine o.ct ?_
    repeat' ((conv=>whnf);first|exact xc|apply bp|refine ak t ?_|refine ak e ?_|refine ak (i _) ?_|exact fz|intro _)
 .cases a:fg y with
  |none=>
   rw[a]at e;refine o.ct ?_
   repeat' ((conv=>whnf);first|refine ak t ?_|refine ak e ?_|refine ak r ?_|exact fz|fail)
  |some m=>
   rw[a]at e;obtain rfl:=h m a;cases c:fg x with
   |none=>
    rw[c]at r;refine o.ct ?_
    repeat' ((conv=>whnf);first|refine ak t ?_|refine ak e ?_|refine ak r ?_|exact fz|fail)
   |some n=>
    rw[c]at r;obtain rfl:=d n c;have l:=@rk L hP es w (Q1 u v) f;refine o.ct ?_
    repeat' ((conv=>whnf);first|refine ak t ?_|refine ak e ?_|refine ak r ?_|refine l rfl rfl rfl (And.intro rfl trivial) (And.intro rfl trivial) ?_|exact fz|fail)
def rG(x:ab):Int:=(fg x).getD 0
open Classical in
def eZ(ws:List ab):Option (List Int):=if∀i,∀h:i<ws.length,(fg (ws[i])).isSome=true then some (ws.map rG)else none
theorem yO(h:∀i,∀h:i<ws.length,(fg (ws[i])).isSome=true):eZ ws=some (ws.map rG):=by unfold eZ;exact if_pos h
theorem BZ(hi:i<ws.length)(h:(fg (ws[i])).isSome=false):eZ ws=none:=by
 unfold eZ;exact if_neg fun k=>by have:=k i hi;rw[h]at this;cases this
theorem ld(c:UInt8)(s:ab):1<=(pieces c s).length/\(pieces c s).length<=s.length+1:=by
 have:=(Fh c s s.length).2;unfold pieces;simp;omega
def qE(w:Pw)(s:ab):Option Pw:=
 if w.mj=true\/(pieces 32 s).length<2 then none else(eZ (pieces 32 s)).map fun l=>⟨0,[],true,l.getD 0 0,l.getD 1 0,l.drop 2⟩
def TC(es:bJ)(w:Pw)(ws:List ab):Nat->St
 |0=>⟨[(0,.ptr 0 0),(5,.d (.sl (aR ws))),(7,.d (.int .i64 0)),(6,.aO [] .full)],1,[qj es w],[(2*(es.length*34),710034)]⟩
 |i+1=>⟨[(0,.ptr 0 0),(5,.d (.sl (aR ws))),(7,.d (.int .i64 ((i+1:Nat):Int))),(6,.aO (fU ((ws.take (i+1)).map rG)) (.row 1))],1,[qj es w],[(2*(es.length*34),710034),(i+1,1)]⟩
theorem adF(es:bJ)(w:Pw)(ws:List ab)(i:Nat):yQ ⟨1,1,none⟩ (TC es w ws i):=by cases i<;>exact⟨rfl,rfl,rfl⟩
theorem OK(h:i<ws.length):fU ((ws.take (i+1)).map rG)=fU ((ws.take i).map rG)++[[.int .i64 (rG ws[i])]]:=by
 rw[YF h,sE];unfold fU;rw[sE];rfl
def Ry(L:Lk):Prop:=∀(es:bJ)(w:Pw)(s:ab),es.length<=1000->s.length<=1000000->
 CT L 113 [.ptr 0 0,dS s] 1 [qj es w] (rF es) (dB ((qE w s).isSome)) 1 [qj es ((qE w s).getD w)] (rF es)
theorem adf(T:aJ L 113 agu)(B:O6 L 186 32)(hN:JM L 187):Ry L:=by
 intro es w s C G;have A:=B s G;have K:=ld 32 s
 have hP:(w.mj=true\/(pieces 32 s).length<2->qE w s=none)/\(¬(w.mj=true\/(pieces 32 s).length<2)->qE w s=(eZ (pieces 32 s)).map fun l=>⟨0,[],true,l.getD 0 0,l.getD 1 0,l.drop 2⟩):=
  ⟨fun h=>by unfold qE;exact if_pos h,fun h=>by unfold qE;exact if_neg h⟩
 generalize qE w s=P at*;generalize pieces 32 s=ws at*;obtain⟨o,c⟩:=hP;have J:(aR ws).length=ws.length:=bl _;obtain⟨f,p,Q,b,g,k⟩:=w;cases Q with
 |true=>
  rw[o (.inl rfl)];refine T.ct ?_
  repeat' ((conv=>whnf);first|refine ak A ?_|exact fx|exact xo|fail)
 |false=>
  by_cases M:ws.length<2
  .rw[o (.inr M)];refine T.ct ?_
   repeat' ((conv=>whnf);first|exact xo|apply aq|rw[bl];intro _|refine ak A ?_|exact fx|intro _)
  .have hP:=c (by simp[M]);clear o c;refine T.ct ?_
   repeat' ((conv=>whnf);first|exact xo|apply aq|rw[bl];intro _|refine ak A ?_|intro _)
   all_goals(conv=>whnf)
   refine LW.count ws.length (fun i=>Pf (∀j,∀h:j<ws.length,j<i->(fg (ws[j])).isSome=true)) (fun i=>TC es ⟨f,p,false,b,g,k⟩ ws i) (fun i=>adF _ _ _ _) (fun i hi O z=>?_) ⟨fun j _ h=>absurd h (JF _)⟩ _ lx;by_cases r:i<ws.length
   .obtain⟨v,X,I,u⟩:=hN ws[i];cases t:fg ws[i]with
    |none=>
     rw[t]at u;rw[hP,BZ r (by rw[t];rfl)];clear z;cases i with
     |zero=>
      repeat' ((conv=>whnf);first|exact xo|refine bY ?_|apply aq|rw[bl];intro _|refine ak u ?_|exact fx|intro _)
     |succ i=>
      repeat' ((conv=>whnf);first|exact xo|refine bY ?_|apply aq|rw[bl];intro _|refine ak u ?_|exact fx|intro _)
    |some n=>
     rw[t]at u;obtain rfl:=I n t;have N:=OK r;have Z:rG ws[i]=v:=by unfold rG;rw[t];rfl
     rw[Z]at N
     have S:Pf (∀j,∀h:j<ws.length,j<i+1->(fg (ws[j])).isSome=true):=⟨fun j h hj=>by
      by_cases e:j=i
      .subst e;rw[t];rfl
      .exact O.get j h om⟩
     have m:∀σ,ph (TC es ⟨f,p,false,b,g,k⟩ ws (i+1)) σ->_:=fun σ C=>z σ r S C
     clear z hP;cases i with
     |zero=>
      repeat' ((conv=>whnf);first|exact xo|rw[wrap64 om]|refine bY ?_|refine ad ⟨by simp only[bc,aZ];omega,by intro y H;rw[dP.1 H];rfl⟩ ?_|refine ad (by intro x t;cases t) ?_|refine m _ (by refine⟨?_,?_,?_⟩<;>repeat' first|(show(_:bJ)=_;rw[N];rfl)|exact sx|apply And.intro)|apply aq|rw[bl];intro _|refine ak u ?_|exact fx|intro _)
     |succ i=>
      have a:(fU ((ws.take (i+1)).map rG)).length=i+1:=by simp[fU];omega
      repeat' ((conv=>whnf);first|exact xo|rw[wrap64 om]|refine bY ?_|refine ad ⟨by simp only[a,bc,aZ];omega,by intro y H;rw[dP.1 H];rfl⟩ ?_|refine ad ⟨a,rfl⟩ ?_|refine m _ (by refine⟨?_,?_,?_⟩<;>repeat' first|(show(_:bJ)=_;rw[N];done)|exact sx|apply And.intro)|apply aq|rw[bl];intro _|refine ak u ?_|exact fx|intro _)
   .obtain rfl:i=ws.length:=by omega
    have E:=yO (ws:=ws) fun j h=>O.get j h h
    rw[hP,E];clear z hP O E;obtain⟨q,E⟩:∃q,ws.length=q+1:=⟨ws.length-1,by omega⟩;have a:(fU (ws.map rG)).length=ws.length:=by simp[fU]
    have R:ws.take (q+1)=ws:=nz om
    have D:TC es ⟨f,p,false,b,g,k⟩ ws ws.length=⟨[(0,.ptr 0 0),(5,.d (.sl (aR ws))),(7,dI (ws.length:Int)),(6,.aO (fU (ws.map rG)) (.row 1))],1,[qj es ⟨f,p,false,b,g,k⟩],[(2*(es.length*34),710034),(ws.length,1)]⟩:=by
     rw[E];simp only[TC,R]
    rw[D];have F:0<(ws.map rG).length:=by simp;omega
    have Y:1<(ws.map rG).length:=by simp;omega
    have e0:(ws.map rG).getD 0 0=(ws.map rG)[0]:=by rw[ny,dw F];rfl
    have e1:(ws.map rG).getD 1 0=(ws.map rG)[1]:=by rw[ny,dw Y];rfl
    have ed:(fU (ws.map rG)).drop 2=fU ((ws.map rG).drop 2):=by simp[fU]
    have U:((fU (ws.map rG)).take ((fU (ws.map rG)).length:Int).toNat).drop (Int.toNat 2)=fU ((ws.map rG).drop 2):=by
     rw[qo,nz (aQ _)];exact ed
    have V:(ws.map rG).length=ws.length:=by simp
    repeat' ((conv=>whnf);first|exact xo|refine Em (i:=0) F ?_|refine Em (i:=1) Y ?_|refine ad ⟨by omega,by simp only[a];omega,by omega,by intro x t;obtain⟨n,_,rfl⟩:=lH.1 t;rfl⟩ ?_|apply aq|rw[bl];intro _|refine bY ?_|intro _)
    all_goals(conv=>whnf)
    simp only[Gq,Option.isSome_some,JE,e0,e1]
    all_goals try first
     |(apply dt<;>(repeat' first|exact congrArg DV.sl U|exact sx|apply And.intro);done)
     |exact xo
def Cg(a:ab)(k l:Nd):Te:=⟨6,[],pV,0,0,a,k,l,qS,fB⟩
open Classical in
def qG(w:Pw)(s:ab):Option Te:=match kindOf (aC (au s))with
 |none=>none
 |some k=>if w.mj=true\/¬bO (aC s)then none else if aC (au s)=au s then some (Cg (aC s) k bX)else
  match gG (au (au s))with
  |none=>none
  |some n=>some (Cg (aC s) k n)
def abm(L:Lk):Prop:=∀(es:bJ)(w:Pw)(s:ab),es.length<=1000->s.length<=1000000->
 CT L 115 [.ptr 0 0,dS s] 1 [qj es w] (rF es) (dB ((qG w s).isSome)) 1 [qj (FO es w (qG w s)).1 (FO es w (qG w s)).2] (rF (FO es w (qG w s)).1)
theorem ajk(h:aJ L 115 agv)(c:Ja L 112)(E:EZ L 127)(t:lI L 68)(l:zp L 128)(hP:JO L):abm L:=by
 intro es w s m T;have a:=c s T;change CP L 112 _ (.b6 [dS (aC s),dS (au s)])at a;have e:=c (au s) (by have:=gT s;omega);change CP L 112 _ (.b6 [dS (aC (au s)),dS (au (au s))])at e;have d:=E (aC (au s));obtain⟨o,i⟩:=l (au (au s));unfold qG;generalize kindOf (aC (au s))=A at*;generalize gG (au (au s))=O at*;generalize aC (au s)=y at*;generalize au (au s)=z at*;generalize aC s=x at*;generalize au s=r at*;obtain⟨f,p,I,v,b,g⟩:=w;cases A with
 |none=>
  refine h.ct ?_
  repeat' ((conv=>whnf);first|refine ak a ?_|refine ak e ?_|refine ak d ?_|exact fx|fail)
 |some k=>
  dsimp only;by_cases j:bO x
  .cases I with
   |true=>
    rw[if_pos (.inl rfl)];refine h.ct ?_
    repeat' ((conv=>whnf);first|exact xc|apply bp|refine ak a ?_|refine ak e ?_|refine ak d ?_|refine ak (t _) ?_|exact fx|intro _)
   |false=>
    rw[if_neg (by simp[j])];by_cases q:y=r
    .rw[if_pos q];have u:=@rk L hP es ⟨f,p,false,v,b,g⟩ (Cg x k bX) m;refine h.ct ?_
     repeat' ((conv=>whnf);first|exact xc|apply aH|apply bp|apply aM|refine ak a ?_|refine ak e ?_|refine ak d ?_|refine ak (t _) ?_|refine u rfl rfl rfl (And.intro rfl trivial) (And.intro rfl trivial) ?_|exact fx|intro _)
    .rw[if_neg q];cases O with
     |none=>
      obtain⟨S,H,N,i⟩:=i rfl;refine h.ct ?_
      repeat' ((conv=>whnf);first|exact xc|apply aD|apply aH|apply bp|apply aM|refine ak a ?_|refine ak e ?_|refine ak d ?_|refine ak (t _) ?_|refine ak i ?_|exact fx|intro _)
     |some n=>
      have o:=o n rfl;have u:=@rk L hP es ⟨f,p,false,v,b,g⟩ (Cg x k n) m;refine h.ct ?_
      repeat' ((conv=>whnf);first|exact xc|apply aH|apply bp|apply aM|refine ak a ?_|refine ak e ?_|refine ak d ?_|refine ak (t _) ?_|refine ak o ?_|refine u rfl rfl rfl (And.intro rfl trivial) (And.intro rfl trivial) ?_|exact fx|intro _)
  .rw[if_pos (.inr j)];refine h.ct ?_
   repeat' ((conv=>whnf);first|exact xc|apply bp|refine ak a ?_|refine ak e ?_|refine ak d ?_|refine ak (t _) ?_|exact fx|intro _)
variable{v:AV}{bz:bm}
abbrev A5(es:bJ)(w:Pw)(o:Bool)(f:Fr):Bx:=rdB es w o f.name f.ba f.op f.start f.steps f.gU
abbrev xT(e:Nat)(f:Fr):bm:=rdR e f.ba f.op f.steps
structure IB(i:Nat)(f:Fr):Prop where
 s2:f.gU=2->∃k,f.op=some (k,none)
 s3:f.gU=3->∃k v,f.op=some (k,some v)
 s4:f.gU=4->f.op=none
 s5:5<=f.gU->∃k,f.op=some (k,none)
 len:f.ba.length<=i/\f.steps.length<=i
set_option maxHeartbeats 40000000 in
theorem acD(p:aJ L 114 M8)(C:FlC L)(es:bJ)(l:Nat)(w:Pw)(o:Bool)(f:Fr)(s:ab)(b:s.length<=1000000)(hi:i<=1000000)(g:IB i f):
  CT L 114 [.ptr 0 8,dS s] 1 [A5 es w o f] (xT l f) (dB ((ju f s).1)) 1 [A5 es w o (ju f s).2] (xT l (ju f s).2):=by
 obtain⟨j,q,E,T,a,n⟩:=g;have a:f.ba.length<=1000000:=by omega
 have n:f.steps.length<=1000000:=by omega
 obtain⟨H,ba,A,R,u,D⟩:=f;dsimp only at*;unfold ju;have c:=C.word s b;change CP L 112 _ (.b6 [dS (aC s),dS (au s)])at c;have m:(au s).length<=1000000:=by have:=gT s;omega
 have t:=C.word (au s) m;change CP L 112 _ (.b6 [dS (aC (au s)),dS (au (au s))])at t;have h:(au (au s)).length<=1000000:=by have:=gT (au s);omega
 have e:(ba.map qh).length=ba.length:=by simp
 have r:(u.map qN).length=u.length:=by simp
 have O:=C.value (au s) m;have d:=C.value (au (au s)) h;have I:=C.kind (au s);have N:=C.tree (au s);generalize fC (au (au s))=U at*;generalize fC (au s)=z at*;generalize kindOf (au s)=M at*;generalize fX (au s)=F at*;generalize aC (au s)=Y at*;generalize au (au s)=P at*;generalize aC s=x at*;generalize au s=y at*;rcases A with _|⟨k,_|v⟩<;>(try simp at j)<;>(try simp at q)<;>(try simp at E)<;>(try simp at T)<;>(repeat' split)<;>(try simp only[Fr.last,sG,AK,oe,Gq,Gn])
 all_goals refine p.ct ?_
 repeat' ((conv=>whnf);first|contradiction|rw[wrap64 om]|rw[e];intro _|refine ad ⟨by simp only[e,aZ,bc];omega,rfl⟩ ?_|refine ad ⟨by simp only[e,aZ,bc];omega,rfl,rfl⟩ ?_|refine ad ⟨rfl,rfl⟩ ?_|refine ad ⟨by simp only[LO,e],rfl⟩ ?_|refine ad ⟨by simp only[LO,e],rfl,rfl⟩ ?_|refine ad rfl ?_|apply aD|apply aH|apply bp|apply bS|refine ak c ?_|refine ak t ?_|refine iu O ?_|refine ak d ?_|refine ak I ?_|refine ak N ?_|refine ak (C.qR _) ?_|refine ad ⟨by simp only[r,aZ,bc];omega,by intro y S;rw[dP.1 S];rfl⟩ ?_|(apply dt<;>(repeat' first|(refine congrArg DV.bool (AJ.2 ?_);(try simp only[lk,jT]);grind)|(show(_:bJ)=_;simp[qh,qN,tD,kD];done)|(show(_,_)=(_,_);simp[LO];done)|exact pJ (by simp[LO]) rfl|exact sz|apply And.intro);done)|exact xo|intro _)
theorem Z1(f:Fr):f.last.length<=1:=by
 unfold Fr.last;split<;>simp
theorem IB.line{f:Fr}(h:IB i f)(s:ab)(e:(ju f s).1=true):IB (i+1) (ju f s).2:=by
 obtain⟨o,m,w,c,y,p⟩:=h;have v:=Z1 f;unfold ju at e⊢;split
 .exact⟨o,m,w,c,by show f.ba.length<=_;omega,by show f.steps.length<=_;omega⟩
 rename_i b;rw[if_neg b]at e;split
 .rename_i n;rw[if_pos n]at e;exact⟨fun h=>absurd h (by show¬(1:Int)=2;omega),fun h=>absurd h (by show¬(1:Int)=3;omega),fun h=>absurd h (by show¬(1:Int)=4;omega),fun h=>absurd h (by show¬5<=(1:Int);omega),by show f.ba.length<=_;omega,by show f.steps.length<=_;omega⟩
 rename_i n;rw[if_neg n]at e;split
 .exact⟨fun _=>⟨_,rfl⟩,fun h=>absurd h (by show¬(2:Int)=3;omega),fun h=>absurd h (by show¬(2:Int)=4;omega),fun h=>absurd h (by show¬5<=(2:Int);omega),by show(f.ba++f.last).length<=_;rw[bG];omega,by show f.steps.length<=_;omega⟩
 rename_i g;rw[if_neg g]at e;split
 .rename_i r;rw[if_pos r]at e;have t:=(mo.1 e).2;obtain⟨k,a⟩:=o t;rw[if_pos t,a];exact⟨fun h=>absurd h (by show¬(3:Int)=2;omega),fun _=>⟨_,_,rfl⟩,fun h=>absurd h (by show¬(3:Int)=4;omega),fun h=>absurd h (by show¬5<=(3:Int);omega),by show f.ba.length<=_;omega,by show f.steps.length<=_;omega⟩
 rename_i r;rw[if_neg r]at e;split
 .rename_i d;rw[if_pos d]at e;have t:=(mo.1 e).2;rw[if_pos t];exact⟨fun h=>absurd h (by show¬(4:Int)=2;omega),fun h=>absurd h (by show¬(4:Int)=3;omega),fun _=>rfl,fun h=>absurd h (by show¬5<=(4:Int);omega),by show(f.ba++_).length<=_;rw[bG,iT];omega,by show f.steps.length<=_;omega⟩
 rename_i d;rw[if_neg d]at e;split
 .rename_i l;rw[if_pos l]at e;have t:=(mo.1 e).2;obtain⟨k,a⟩:=o t;exact⟨fun h=>absurd h (by show¬(5:Int)=2;omega),fun h=>absurd h (by show¬(5:Int)=3;omega),fun h=>absurd h (by show¬(5:Int)=4;omega),fun _=>⟨k,a⟩,by show f.ba.length<=_;omega,by show f.steps.length<=_;omega⟩
 rename_i l;rw[if_neg l]at e;split
 .rename_i u;rw[if_pos u]at e;have t:=(mo.1 e).2.2;obtain⟨k,a⟩:=c t;exact⟨fun h=>absurd h (by show¬(6:Int)=2;omega),fun h=>absurd h (by show¬(6:Int)=3;omega),fun h=>absurd h (by show¬(6:Int)=4;omega),fun _=>⟨k,a⟩,by show f.ba.length<=_;omega,by show(f.steps++[_]).length<=_;rw[bG];simp;omega⟩
 .rename_i u;rw[if_neg u]at e;cases e
def vK(f:Fr):Te:=⟨7,[],pV,0,0,[],bX,bX,⟨f.name,f.ba++f.last,f.start,f.steps⟩,fB⟩
def teO(nm:ab)(e:List Fs)(k t:Nd)(a:List Ft):List AV:=
 av ([.int .i64 7,.str []]++eD pV++[.int .i64 0,.int .i64 0,.str []]++kD bX++tD bX++[.str nm])++(.kh 13 3 (e.map qh) (kD k) (tD bX++tD bX) 1::av (tD t++[.sl (a.map qN)]++wD fB))
theorem afw(s:aJ L 117 c117)(es:bJ)(w:Pw)(nm:ab)(e:List Fs)(k a:Nd)(t:List Ft)(o:Int)(d:es.length<=1000)(h:e.length<=1000000)(r:t.length<=1000000):
  CT L 117 [.ptr 0 0,.agg (teO nm e k a t)] 1 [rdB es w false nm e (some (k,none)) a t o] (rdR (2*(es.length*34)) e (some (k,none)) t) (dB true) 1 [qj (es++[gH {vK ⟨nm,e,some (k,none),a,t,o⟩with ly:=w}]) fB]
   [(2*((es.length+1)*34),710034),(2*((e.length+1)*13),610013),(t.length,6)]:=by
 have i:(e.map qh).length=e.length:=by simp
 refine s.ct ?_
 repeat' ((conv=>whnf);first|refine ad ⟨by omega,rfl⟩ ?_|refine ad (by simp only[LO,i]) ?_|fail)
 all_goals(conv=>whnf)
 have n:gH {vK ⟨nm,e,some (k,none),a,t,o⟩with ly:=w}=[.int .i64 7,.str []]++eD pV++[.int .i64 0,.int .i64 0,.str []]++kD bX++tD bX++[.str nm]++(.sl (e.map qh++[kD k++(tD bX++tD bX)])::(tD a++[.sl (t.map qN)]++wD w)):=by
  show _::_=_;simp only[vK,Fr.last,sE,Wl];rfl
 all_goals try(apply dt<;>(repeat' first|(show(_:bJ)=_;rw[n];rfl)|(refine pJ ?_ ?_<;>first|exact rfl|(simp;done))|exact sz|apply And.intro);done)
def VK:Bx:=.var 0 [.bM,.bM,.bM,.bM,.bM,.bM,.bM,.bM,.bM,.bM,.bM,.bM,.bM,.bM,.bM,.bM,.bM]
def F7:ab:=[101,110,100]
theorem iv{fA:Nat}{cg:List Bx}{K:AV->Nat->List Bx->bm->Prop}(h:CT L f args nb bx rl v fA cg bz)(k:K v fA cg bz):bA L f args nb bx rl K:=by
 unfold bA;exact⟨_,_,_,_,h,k⟩
theorem S7(m:aJ L 111 aby)(T:aJ L 117 c117)(A:aJ L 114 M8)(C:FlC L)(es:bJ)(w:Pw)(f:Fr)(s:ab)(O:es.length<=1000)(I:s.length<=1000000)(hi:i<=1000000)(y:IB i f):
  (s≠F7->CT L 111 [.ptr 0 0,dS s] 1 [A5 es w true f] (xT (2*(es.length*34)) f) (dB ((ju f s).1)) 1 [A5 es w true (ju f s).2] (xT (2*(es.length*34)) (ju f s).2))/\
  (s=F7->5<=f.gU/\(f.ba++f.last).length<=4/\f.steps.length<=8->∃n,CT L 111 [.ptr 0 0,dS s] 1 [A5 es w true f] (xT (2*(es.length*34)) f) (dB true) 1 [qj (es++[gH {vK f with ly:=w}]) fB]
   [(2*((es.length+1)*34),710034),(n,610013),(f.steps.length,6)])/\
  (s=F7->¬(5<=f.gU/\(f.ba++f.last).length<=4/\f.steps.length<=8)->CT L 111 [.ptr 0 0,dS s] 1 [A5 es w true f] (xT (2*(es.length*34)) f) (dB false) 1 [VK] (xT (2*(es.length*34)) f)):=by
 refine⟨fun q=>?_,fun q a=>?_,fun q a=>?_⟩
 .have j:=acD A C es (2*(es.length*34)) w true f s I hi y;generalize ju f s=z at*;refine m.ct ?_
  repeat' ((conv=>whnf);first|exact xc|apply aH|apply aM|refine iv j ?_|intro _)
  all_goals(conv=>whnf)
  obtain⟨b,p,ba,t,g,e,l⟩:=z;rcases t with _|⟨k,_|v⟩<;>try exact fz
 .obtain⟨k,o⟩:=y.s5 a.1;obtain⟨p,ba,t,g,e,l⟩:=f;have o:t=some (k,none):=o;subst o;obtain⟨a,u,x⟩:=a;have a:5<=l:=a;have u:(ba++[_]).length<=4:=u;have x:e.length<=8:=x;have u:ba.length<=3:=by rw[bG]at u;simp at u;omega
  have r:(ba.map qh).length=ba.length:=by simp
  have d:(e.map qN).length=e.length:=by simp
  have j:=afw T es w p ba k g e l O om om;refine⟨2*((ba.length+1)*13),?_⟩;refine m.ct ?_
  repeat' ((conv=>whnf);first|exact xc|rw[r];intro _|rw[d];intro _|apply aq|apply bK|apply aH|apply aM|refine iv (CT.pu j) ?_|exact fz|intro _)
 .obtain⟨p,ba,t,g,e,l⟩:=f;have r:(ba.map qh).length=ba.length:=by simp
  have d:(e.map qN).length=e.length:=by simp
  have E:ba.length<=i/\e.length<=i:=y.len;show CT L 111 _ 1 [rdB es w true p ba t g e l] (rdR (2*(es.length*34)) ba t e) _ 1 [VK] (rdR (2*(es.length*34)) ba t e);by_cases c:5<=l
  .obtain⟨k,o⟩:=y.s5 c;have o:t=some (k,none):=o;subst o;have u:¬(ba.length<=3/\e.length<=8):=fun h=>a ⟨c,by show(ba++[_]).length<=4;rw[bG];simp;omega,h.2⟩
   refine m.ct ?_
   repeat' ((conv=>whnf);first|exact xc|rw[r];intro _|rw[d];intro _|apply aq|apply bK|apply aH|apply aM|exact fz|intro _)
  .rcases t with _|⟨k,_|v⟩<;>refine m.ct ?_
   all_goals skip
   repeat' ((conv=>whnf);first|exact xc|apply bK|apply aH|apply aM|exact fz|intro _)
open Classical in
def ic(s:ab):Option Ev:=if h:∃e,ir e/\DD e=s then some h.choose else none
def MT(L:Lk)(f:Nat):Prop:=∀s:ab,CP L f [dS s] (.b6 [.agg (av (eD ((ic s).getD pV))),dB ((ic s).isSome)])
theorem ZA(h:EW L f):MT L f:=fun s=>by
 unfold ic;split
 .rename_i e;exact(h s).1 _ e.choose_spec.1 e.choose_spec.2
 .rename_i e;exact(h s).2 e
def Da:ab:=[112,111,119,101,114]
def vW:ab:=[118,101,114,115,105,111,110]
def zg:ab:=[97,112,112,101,110,100]
def vV:ab:=[114,101,119,114,105,116,101]
def HH:ab:=[115,110,97,112]
def EJ:ab:=[115,121,110,99]
def EI:ab:=[114,111,108,108]
def EH:ab:=[109,101,110,100]
def teK(k:Int):Te:=⟨k,[],pV,0,0,[],bX,bX,qS,fB⟩
def aer(a:ab)(e:Ev):Te:=⟨1,a,e,0,0,[],bX,bX,qS,fB⟩
open Classical in
def DH(s:ab):Option Te:=match ic (au s)with
 |some e=>if bO (aC s)then some (aer (aC s) e)else none
 |none=>none
open Classical in
def jm(n:Nat)(w:Pw)(s:ab):Option (Option Te×Pw):=
 if s=[]then some (none,w)else
 if 200<=n then none else
 if aC s=Da then(qE w (au s)).map fun p=>(none,p)else
 if aC s=vW then(qG w (au s)).map fun t=>(some t,fB)else
 if aC s=zg then(DH (au s)).map fun t=>(some t,fB)else
 if aC s=vV then(wV (au s)).map fun t=>(some t,fB)else
 if aC s=HH then(wW (au s)).map fun t=>(some t,fB)else
 if s=EJ then some (some (teK 2),fB)else
 if s=EI then some (some (teK 3),fB)else
 if s=EH then some (some (teK 4),fB)else none
def LQ(es:bJ)(w:Pw):Option Te×Pw->bJ×Pw
 |(none,e)=>(es,e)
 |(some t,_)=>(es++[gH {t with ly:=w}],fB)
structure LnC(L:Lk):Prop extends FlC L where
 pow:Ry L
 pC:abm L
 two:abl L
 put:JO L
 ev:MT L 116
 words:CP L 81 [] (.d (.sl (aR oY)))
def LnR(L:Lk)(es:bJ)(w:Pw)(s:ab):Option (Option Te×Pw)->Prop
 |some x=>CT L 32 [.ptr 0 0,.d (.str s)] 1 [qj es w] (rF es) (.d (.bool true)) 1 [qj (LQ es w x).1 (LQ es w x).2] (rF (LQ es w x).1)
 |none=>CT L 32 [.ptr 0 0,.d (.str s)] 1 [qj es w] (rF es) (.d (.bool false)) 1 [VK] (rF es)
theorem Ti(n:aJ L 32 UW)(C:LnC L)(es:bJ)(w:Pw)(s:ab)(f:es.length<=1000)(T:s.length<=1000000)(x:s=[]\/aC s≠kc):LnR L es w s (jm es.length w s):=by
 have o:=C.word s T;change CP L 112 _ (.b6 [dS (aC s),dS (au s)])at o;have g:(au s).length<=1000000:=by have:=gT s;omega
 unfold jm;by_cases a:s=[]
 .rw[if_pos a];refine n.ct ?_
  repeat' ((conv=>whnf);first|exact absurd a asm|apply aH|refine ak o ?_|exact fz|intro _)
 rw[if_neg a];have d:aC s≠kc:=x.resolve_left a;by_cases z:200<=es.length
 .rw[if_pos z];refine n.ct ?_
  repeat' ((conv=>whnf);first|exact xo|exact absurd asm a|apply bK|apply aH|refine ak o ?_|exact fz|intro _)
 rw[if_neg z];by_cases h:aC s=Da
 .rw[if_pos h];have t:=C.pow es w (au s) f g;cases u:qE w (au s)with
  |none=>
   rw[u]at t;refine n.ct ?_
   repeat' ((conv=>whnf);first|exact xo|exact absurd asm a|exact absurd h asm|apply bK|apply aH|refine ak o ?_|refine iv t ?_|exact fz|intro _)
  |some p=>
   rw[u]at t;refine n.ct ?_
   repeat' ((conv=>whnf);first|exact xo|exact absurd asm a|exact absurd h asm|apply bK|apply aH|refine ak o ?_|refine iv t ?_|exact fz|intro _)
 rw[if_neg h];by_cases r:aC s=vW
 .rw[if_pos r];have t:=C.pC es w (au s) f g;cases u:qG w (au s)with
  |none=>
   rw[u]at t;refine n.ct ?_
   repeat' ((conv=>whnf);first|exact xo|exact absurd asm a|exact absurd asm h|exact absurd asm d|exact absurd r asm|apply bK|apply aH|refine ak o ?_|refine iv t ?_|exact fz|intro _)
  |some p=>
   rw[u]at t;refine n.ct ?_
   repeat' ((conv=>whnf);first|exact xo|exact absurd asm a|exact absurd asm h|exact absurd asm d|exact absurd r asm|apply bK|apply aH|refine ak o ?_|refine iv t ?_|exact fz|intro _)
 rw[if_neg r];by_cases l:aC s=zg
 .rw[if_pos l];have m:=C.word (au s) g;change CP L 112 _ (.b6 [dS (aC (au s)),dS (au (au s))])at m;have v:=C.ev (au (au s));unfold DH;generalize ic (au (au s))=A at*;generalize aC (au s)=E at*;cases A with
  |none=>
   refine n.ct ?_
   repeat' ((conv=>whnf);first|exact xo|exact absurd asm a|exact absurd asm h|exact absurd asm d|exact absurd asm r|exact absurd l asm|apply bK|apply aH|refine ak o ?_|refine ak m ?_|refine ak v ?_|exact fz|intro _)
  |some e=>
   dsimp only;by_cases j:bO E
   .rw[if_pos j];have t:=@rk L C.put es w (aer E e) f;refine n.ct ?_
    repeat' ((conv=>whnf);first|exact xo|exact absurd asm a|exact absurd asm h|exact absurd asm d|exact absurd asm r|exact absurd l asm|exact absurd j asm|apply bK|apply aH|apply bp|refine ak o ?_|refine ak m ?_|refine ak v ?_|refine ak (C.qR _) ?_|refine t rfl rfl rfl (And.intro rfl trivial) (And.intro rfl trivial) ?_|exact fz|intro _)
   .rw[if_neg j];refine n.ct ?_
    repeat' ((conv=>whnf);first|exact xo|exact absurd asm a|exact absurd asm h|exact absurd asm d|exact absurd asm r|exact absurd l asm|exact absurd asm j|apply bK|apply aH|apply bp|refine ak o ?_|refine ak m ?_|refine ak v ?_|refine ak (C.qR _) ?_|exact fz|intro _)
 rw[if_neg l];by_cases c:aC s=vV
 .rw[if_pos c];have t:=(C.two es w (au s) f g).2;cases u:wV (au s)with
  |none=>
   rw[u]at t;refine n.ct ?_
   repeat' ((conv=>whnf);first|exact xo|exact absurd asm a|exact absurd asm h|exact absurd asm d|exact absurd asm r|exact absurd asm l|exact absurd c asm|apply bK|apply aH|refine ak o ?_|refine iv t ?_|exact fz|intro _)
  |some p=>
   rw[u]at t;refine n.ct ?_
   repeat' ((conv=>whnf);first|exact xo|exact absurd asm a|exact absurd asm h|exact absurd asm d|exact absurd asm r|exact absurd asm l|exact absurd c asm|apply bK|apply aH|refine ak o ?_|refine iv t ?_|exact fz|intro _)
 rw[if_neg c];by_cases y:aC s=HH
 .rw[if_pos y];have t:=(C.two es w (au s) f g).1;cases u:wW (au s)with
  |none=>
   rw[u]at t;refine n.ct ?_
   repeat' ((conv=>whnf);first|exact xo|exact absurd asm a|exact absurd asm h|exact absurd asm d|exact absurd asm r|exact absurd asm l|exact absurd asm c|exact absurd y asm|apply bK|apply aH|refine ak o ?_|refine iv t ?_|exact fz|intro _)
  |some p=>
   rw[u]at t;refine n.ct ?_
   repeat' ((conv=>whnf);first|exact xo|exact absurd asm a|exact absurd asm h|exact absurd asm d|exact absurd asm r|exact absurd asm l|exact absurd asm c|exact absurd y asm|apply bK|apply aH|refine ak o ?_|refine iv t ?_|exact fz|intro _)
 rw[if_neg y];by_cases b:s=EJ
 .rw[if_pos b];have t:=@rk L C.put es w (teK 2) f;refine n.ct ?_
  repeat' ((conv=>whnf);first|exact xo|exact absurd asm a|exact absurd asm h|exact absurd asm d|exact absurd asm r|exact absurd asm l|exact absurd asm c|exact absurd asm y|exact absurd b asm|refine LW.unfold ?_|refine oG (i:=2) (xs:=oY) de ?_|apply bK|apply aH|refine bY ?_|refine ak o ?_|refine ak (C.words) ?_|refine t rfl rfl rfl (And.intro rfl trivial) (And.intro rfl trivial) ?_|exact fz|intro _)
 rw[if_neg b];by_cases k:s=EI
 .rw[if_pos k];have t:=@rk L C.put es w (teK 3) f;refine n.ct ?_
  repeat' ((conv=>whnf);first|exact xo|exact absurd asm a|exact absurd asm h|exact absurd asm d|exact absurd asm r|exact absurd asm l|exact absurd asm c|exact absurd asm y|exact absurd asm b|exact absurd k asm|refine LW.unfold ?_|refine oG (i:=2) (xs:=oY) de ?_|refine oG (i:=3) (xs:=oY) de ?_|apply bK|apply aH|refine bY ?_|refine ak o ?_|refine ak (C.words) ?_|refine t rfl rfl rfl (And.intro rfl trivial) (And.intro rfl trivial) ?_|exact fz|intro _)
 rw[if_neg k];by_cases q:s=EH
 .rw[if_pos q];have t:=@rk L C.put es w (teK 4) f;refine n.ct ?_
  repeat' ((conv=>whnf);first|exact xo|exact absurd asm a|exact absurd asm h|exact absurd asm d|exact absurd asm r|exact absurd asm l|exact absurd asm c|exact absurd asm y|exact absurd asm b|exact absurd asm k|exact absurd q asm|refine LW.unfold ?_|refine oG (i:=2) (xs:=oY) de ?_|refine oG (i:=3) (xs:=oY) de ?_|refine oG (i:=4) (xs:=oY) de ?_|apply bK|apply aH|refine bY ?_|refine ak o ?_|refine ak (C.words) ?_|refine t rfl rfl rfl (And.intro rfl trivial) (And.intro rfl trivial) ?_|exact fz|intro _)
 rw[if_neg q];refine n.ct ?_
 repeat' ((conv=>whnf);first|exact xo|exact absurd asm a|exact absurd asm h|exact absurd asm d|exact absurd asm r|exact absurd asm l|exact absurd asm c|exact absurd asm y|exact absurd asm b|exact absurd asm k|exact absurd asm q|refine LW.unfold ?_|refine oG (i:=2) (xs:=oY) de ?_|refine oG (i:=3) (xs:=oY) de ?_|refine oG (i:=4) (xs:=oY) de ?_|apply bK|apply aH|refine bY ?_|refine ak o ?_|refine ak (C.words) ?_|exact fz|intro _)
def fr0:Fr:=⟨[],[],none,bX,[],0⟩
abbrev B1(es:bJ)(w:Pw)(nm:ab):Bx:=.var 0 [.aO es (.fe 0),dI w.kind,dS w.data,dB w.mj,dI w.after,dI w.BV,.d (.sl (fU w.bj)),dB true,
 dS nm,.aO [] .nil,dI 0,dI 0,dS [],.aO [] .nil,.aO [] .nil,.aO [] .nil,dI 1]
abbrev akM(es:bJ)(w:Pw):Bx:=.var 0 [.aO es (.fe 0),dI w.kind,dS w.data,dB w.mj,dI w.after,dI w.BV,.d (.sl (fU w.bj)),dB true,
 dS [],.aO [] .nil,dI 0,dI 0,dS [],.aO [] .nil,.aO [] .nil,.aO [] .nil,dI 0]
theorem Tl(t:aJ L 114 M8)(C:FlC L)(es:bJ)(w:Pw)(s:ab)(a:s.length<=1000000)(o:s≠[])(i:aC s=kc):
  CT L 114 [.ptr 0 8,dS s] 1 [akM es w] (rF es) (dB (pb (bO (au s)))) 1 [B1 es w (au s)] (rF es):=by
 have e:=C.word s a;change CP L 112 _ (.b6 [dS (aC s),dS (au s)])at e;have n:(au s).length<=1000000:=by have:=gT s;omega
 generalize aC s=x at*;generalize au s=y at*;refine t.ct ?_
 repeat' ((conv=>whnf);first|exact absurd i asm|exact absurd asm o|rw[wrap64 om]|apply aH|refine ak e ?_|refine ak (C.qR _) ?_|exact fz|exact xo|intro _)
theorem Tj(r:aJ L 32 UW)(u:aJ L 114 M8)(C:FlC L)(es:bJ)(w:Pw)(s:ab)(g:es.length<=1000)(l:s.length<=1000000)(a:s≠[])(e:aC s=kc):
  (es.length<200/\w.mj=false/\bO (au s)->CT L 32 [.ptr 0 0,dS s] 1 [qj es w] (rF es) (dB true) 1 [B1 es w (au s)] (rF es))/\
  (¬(es.length<200/\w.mj=false/\bO (au s))->CT L 32 [.ptr 0 0,dS s] 1 [qj es w] (rF es) (dB false) 1 [VK] (rF es)):=by
 have i:=C.word s l;change CP L 112 _ (.b6 [dS (aC s),dS (au s)])at i;obtain⟨c,m,f,p,v,b⟩:=w;refine⟨fun h=>?_,fun h=>?_⟩
 .obtain⟨k,o,d⟩:=h;have o:f=false:=o;subst o;have n:=Tl u C es ⟨c,m,false,p,v,b⟩ s l a e;rw[iA d]at n;generalize aC s=x at*;generalize au s=y at*;refine r.ct ?_
  repeat' ((conv=>whnf);first|exact xo|exact absurd asm a|exact absurd e asm|rename_i t;rw[e]at t;exact absurd t de|apply bK|apply aH|refine ak i ?_|refine iv n ?_|exact fz|intro _)
 .cases f with
  |true=>
   refine r.ct ?_
   repeat' ((conv=>whnf);first|exact absurd asm a|exact absurd e asm|rename_i t;rw[e]at t;exact absurd t de|apply bK|apply aH|refine ak i ?_|exact fz|intro _)
  |false=>
   by_cases d:bO (au s)
   .have o:200<=es.length:=by
     refine Nat.le_of_not_lt fun o=>h ⟨o,rfl,d⟩
    refine r.ct ?_
    repeat' ((conv=>whnf);first|exact xo|exact absurd asm a|apply bK|apply aH|refine ak i ?_|exact fz|intro _)
   .have n:=Tl u C es ⟨c,m,false,p,v,b⟩ s l a e;rw[ig d]at n;generalize aC s=x at*;generalize au s=y at*;refine r.ct ?_
    repeat' ((conv=>whnf);first|exact absurd asm a|exact absurd e asm|rename_i t;rw[e]at t;exact absurd t de|apply bK|apply aH|refine ak i ?_|refine iv n ?_|exact fz|intro _)
variable{n:Nat}
structure Sr where
 es:bJ
 w:Pw
 fo:Option Fr
def zb:Sr:=⟨[],fB,none⟩
open Classical in
def dz(r:Sr)(s:ab):Option Sr:=
 match r.fo with
 |none=>if s≠[]/\aC s=kc then(if r.es.length<200/\r.w.mj=false/\bO (au s)then some {r with fo:=some {fr0 with name:=au s,gU:=1}}else none)
  else(jm r.es.length r.w s).map fun x=>⟨(LQ r.es r.w x).1,(LQ r.es r.w x).2,none⟩
 |some f=>if s=F7 then(if 5<=f.gU/\(f.ba++f.last).length<=4/\f.steps.length<=8 then some ⟨r.es++[gH {vK f with ly:=r.w}],fB,none⟩else none)
  else if(ju f s).1=true then some {r with fo:=some (ju f s).2}else none
def oq:List ab->Nat->Sr->Sr ⊕ Nat
 |[],_,r=> .inl r
 |s::t,i,r=>match dz r s with|some e=>oq t (i+1) e|none=> .inr (i+1)
def Xw(n:Nat):Sr ⊕ Nat->bJ×Int
 | .inr i=>([],(i:Int))
 | .inl r=>if r.fo.isSome=true\/r.w.mj=true then([],(n:Int))else(r.es,0)
def eh(s:ab):bJ×Int:=if s.length<=60000 then Xw (pieces 10 s).length (oq (pieces 10 s) 0 zb)else([],-1)
structure SrI(i:Nat)(r:Sr):Prop where
 len:r.es.length<=200
 fo:∀f,r.fo=some f->r.es.length<=199/\r.w.mj=false/\IB i f
theorem IB.up{j:Nat}{f:Fr}(h:IB i f)(e:i<=j):IB j f:=⟨h.s2,h.s3,h.s4,h.s5,by have:=h.len;omega⟩
theorem Po{w:Pw}{e:Te}{w':Pw}(h:jm n w s=some (some e,w')):n<200:=by
 unfold jm at h;split at h
 .cases h
 .split at h
  .cases h
  .omega
theorem SrI.step{r d:Sr}(h:SrI i r)(e:dz r s=some d):SrI (i+1) d:=by
 obtain⟨es,w,fo⟩:=r;unfold dz at e;have a:es.length<=200:=h.len;cases fo with
 |none=>
  dsimp only at e;split at e
  .split at e
   .rename_i l;cases e;refine⟨a,fun f t=>?_⟩;cases t;exact⟨by have:es.length<200:=l.1;show es.length<=199;omega,l.2.1,⟨fun h=>absurd h (by show¬(1:Int)=2;omega),fun h=>absurd h (by show¬(1:Int)=3;omega),fun h=>absurd h (by show¬(1:Int)=4;omega),fun h=>absurd h (by show¬5<=(1:Int);omega),cr _,cr _⟩⟩
   .cases e
  .cases o:jm es.length w s with
   |none=>rw[o]at e;cases e
   |some x=>
    rw[o]at e;cases e;refine⟨?_,fun f t=>by cases t⟩;obtain⟨u,y⟩:=x;cases u with
    |none=>exact a
    |some u=>
     have:=Po o;show(es++[_]).length<=200;rw[bG];simp;omega
 |some f=>
  obtain⟨n,c,m⟩:=h.fo f rfl;have n:es.length<=199:=n;dsimp only at e;split at e
  .split at e
   .cases e;refine⟨?_,fun f t=>by cases t⟩;show(es++[_]).length<=200;rw[bG];simp;omega
   .cases e
  .split at e
   .cases e;refine⟨a,fun p t=>?_⟩;cases t;exact⟨n,c,m.line s asm⟩
   .cases e
def Yk(ws:List ab)(i:Nat)(r:Sr):St:=
 match r.fo with
 |none=>⟨[(4,.aO [] .full),(5,.ptr 0 0),(6,.d (.sl (aR ws))),(7,.d (.int .i64 (i:Int)))],1,[qj r.es r.w],rF r.es⟩
 |some f=>⟨[(4,.aO [] .full),(5,.ptr 0 0),(6,.d (.sl (aR ws))),(7,.d (.int .i64 (i:Int)))],1,[A5 r.es r.w true f],xT (2*(r.es.length*34)) f⟩
theorem ad8(ws:List ab)(i:Nat)(r:Sr):yQ ⟨0,0,none⟩ (Yk ws i r):=by
 unfold Yk;split<;>exact⟨rfl,rfl,rfl⟩
theorem NR(t:aJ L 32 UW){es:bJ}{w:Pw}{f z:Fr}{e:Nat}{b:Bool}(h:CT L 111 [.ptr 0 0,dS s] 1 [A5 es w true f] (xT e f) (dB b) 1 [A5 es w true z] (xT e z)):
  CT L 32 [.ptr 0 0,dS s] 1 [A5 es w true f] (xT e f) (dB b) 1 [A5 es w true z] (xT e z):=by
 obtain⟨i,a,o,n,r,d⟩:=z;rcases o with _|⟨k,_|v⟩<;>refine t.ct ?_
 all_goals skip
 repeat' ((conv=>whnf);first|refine iv h ?_|exact fz|fail)
theorem ZJ(n:aJ L 32 UW){es e:bJ}{w w':Pw}{f:Fr}{t a o i:Nat}{b:Bool}(h:CT L 111 [.ptr 0 0,dS s] 1 [A5 es w true f] (xT t f) (dB b) 1 [qj e w'] [(a,710034),(o,610013),(i,6)]):
  CT L 32 [.ptr 0 0,dS s] 1 [A5 es w true f] (xT t f) (dB b) 1 [qj e w'] [(a,710034),(o,610013),(i,6)]:=by
 refine n.ct ?_
 repeat' ((conv=>whnf);first|refine iv h ?_|exact fz|fail)
theorem ZK(t:aJ L 32 UW){es:bJ}{w:Pw}{f:Fr}{e:Nat}{b:Bool}(h:CT L 111 [.ptr 0 0,dS s] 1 [A5 es w true f] (xT e f) (dB b) 1 [VK] (xT e f)):
  CT L 32 [.ptr 0 0,dS s] 1 [A5 es w true f] (xT e f) (dB b) 1 [VK] (xT e f):=by
 refine t.ct ?_
 repeat' ((conv=>whnf);first|refine iv h ?_|exact fz|fail)
theorem tB{c:UInt8}:∀x,x∈pieces c s->x.length<=s.length:=by
 have t:∀i x,x∈(gR c s i).2->x.length<=s.length:=by
  intro i
  induction i with
  |zero=>intro x e;cases e
  |succ i a=>
   intro x e;by_cases h:s[i]?=some c
   .rw[zE h]at e;rcases nA.1 e with e|e
    .exact a x e
    .rw[dP.1 e];simp;omega
   .rw[zD h]at e;exact a x e
 intro x e;rcases nA.1 e with e|e
 .exact t _ x e
 .rw[dP.1 e];simp
theorem Qi(N:aJ L 11 c11)(l:aJ L 32 UW)(j:aJ L 111 aby)(q:aJ L 117 c117)(m:aJ L 114 M8)(C:LnC L)(hC:O6 L 31 10)(s:ab):
  CP L 11 [dS s] (.b6 [.d (.sl (eh s).1),dI ((eh s).2)]):=by
 unfold eh;by_cases H:s.length<=60000
 .rw[if_pos H];have o:=hC s om;have ee:=ld 10 s;have M:∀x,x∈pieces 10 s->x.length<=s.length:=tB;generalize pieces 10 s=t at*;have et:(aR t).length=t.length:=bl _;refine N.cp ?_
  repeat' ((conv=>whnf);first|exact xo|apply aq|refine ak o ?_|intro _)
  all_goals(conv=>whnf)
  refine LW.rP 710034 rfl (show BD 0 710034 _ [Bx.var 0 [.aO [] (.fe 0),dI 0,dS [],dB false,dI 0,dI 0,.aO [] .nil,dB false,dS [],.aO [] .nil,dI 0,dI 0,dS [],.aO [] .nil,.aO [] .nil,.aO [] .nil,dI 0]]from ?_) ?_
  .refine⟨⟨rfl,?_⟩,trivial⟩
   repeat' (first|exact trivial|exact Or.inl rfl|exact Or.inr ⟨rfl,rfl,rfl⟩|apply And.intro)
  refine LW.gen (S:=Nat×Sr) (fun x=>t.length-x.1) (fun x=>Pf (x.1<=t.length/\SrI x.1 x.2/\oq t 0 zb=oq (t.drop x.1) x.1 x.2)) (fun x=>Yk t x.1 x.2) (fun x=>ad8 _ _ _) (fun x G D=>?_) (0,zb) ⟨cr _,⟨cr _,fun f N=>by cases N⟩,rfl⟩ _ lz;obtain⟨i,r⟩:=x;obtain⟨K,I,u⟩:=G.get;clear G;have K:i<=t.length:=K;by_cases E:i<t.length
  .have hd:t.drop i=t[i]::t.drop (i+1):=ye E;have y:t[i].length<=1000000:=by have:=M _ (eu E);omega
   have a:oq t 0 zb=match dz r t[i]with|some U=>oq (t.drop (i+1)) (i+1) U|none=> .inr (i+1):=by rw[u,hd];rfl
   cases e:dz r t[i]with
   |none=>
    rw[e]at a;rw[a];clear D;obtain⟨es,w,fo⟩:=r;have c:es.length<=1000:=by have:es.length<=200:=I.len;omega
    unfold dz at e;dsimp only at e⊢;cases fo with
    |none=>
     have o:CT L 32 [.ptr 0 0,dS (t[i])] 1 [qj es w] (rF es) (dB false) 1 [VK] (rF es):=by
      dsimp only at e;split at e
      .rename_i p;refine(Tj l m C.toFlC es w t[i] c y p.1 p.2).2 fun h=>?_
       rw[if_pos h]at e;cases e
      .rename_i p
       have T:t[i]=[]\/aC t[i]≠kc:=by
        by_cases h:t[i]=[]
        .exact .inl h
        .exact .inr fun F=>p ⟨h,F⟩
       have:=Ti l C es w t[i] c y T;cases A:jm es.length w t[i]with
       |none=>rw[A]at this;exact this
       |some x=>rw[A]at e;cases e
     show zL _ _ _ _ ⟨[(4,.aO [] .full),(5,.ptr 0 0),(6,.d (.sl (aR t))),(7,dI (i:Int))],1,[qj es w],rF es⟩ _
     repeat' ((conv=>whnf);first|exact xo|rw[wrap64 om]|refine bY ?_|apply aq|rw[bl];intro _|refine iv o ?_|exact fz|intro _)
    |some f=>
     obtain⟨Y,P,O⟩:=I.fo f rfl;dsimp only at e;obtain⟨V,J,Q⟩:=S7 j q m C.toFlC es w f t[i] c y (i:=i) om O;show zL _ _ _ _ ⟨[(4,.aO [] .full),(5,.ptr 0 0),(6,.d (.sl (aR t))),(7,dI (i:Int))],1,[A5 es w true f],xT (2*(es.length*34)) f⟩ _;by_cases b:t[i]=F7
     .rw[if_pos b]at e;have o:=ZK l (Q b fun h=>by rw[if_pos h]at e;cases e)
      repeat' ((conv=>whnf);first|exact xo|rw[wrap64 om]|refine bY ?_|apply aq|rw[bl];intro _|refine iv o ?_|exact fz|intro _)
     .rw[if_neg b]at e;have o:=NR l (V b)
      rw[show(ju f t[i]).1=false from by
       cases hb:(ju f t[i]).1 with
       |false=>rfl
       |true=>rw[if_pos hb]at e;cases e]at o
      repeat' ((conv=>whnf);first|exact xo|rw[wrap64 om]|refine bY ?_|apply aq|rw[bl];intro _|refine iv o ?_|exact fz|intro _)
   |some U=>
    rw[e]at a;have g:∀σ,ph (Yk t (i+1) U) σ->_:=fun σ H=>D (i+1,U) σ (by show t.length-(i+1)<t.length-i;omega) ⟨E,I.step e,a⟩ H
    clear D u a;generalize eh s=R at*;obtain⟨es,w,fo⟩:=r;have c:es.length<=1000:=by have:es.length<=200:=I.len;omega
    unfold dz at e;dsimp only at e⊢;cases fo with
    |none=>
     dsimp only at e;show zL _ _ _ _ ⟨[(4,.aO [] .full),(5,.ptr 0 0),(6,.d (.sl (aR t))),(7,dI (i:Int))],1,[qj es w],rF es⟩ _;split at e
     .rename_i p;split at e
      .rename_i A;cases e;have o:=(Tj l m C.toFlC es w t[i] c y p.1 p.2).1 A
       repeat' ((conv=>whnf);first|exact xo|rw[wrap64 om]|refine bY ?_|apply aq|rw[bl];intro _|refine iv o ?_|intro _)
       all_goals(conv=>whnf)
       refine LW.rP 610013 rfl (show BD 1 610013 _ [Bx.var 0 [.aO es (.fe 0),dI w.kind,dS w.data,dB w.mj,dI w.after,dI w.BV,.d (.sl (fU w.bj)),dB true,dS (au t[i]),.aO [] (.fe 1),dI 0,dI 0,dS [],.aO [] .nil,.aO [] .nil,.aO [] .nil,dI 1]]from ?_) ?_
       .refine⟨⟨rfl,?_⟩,trivial⟩
        repeat' (first|exact trivial|exact Or.inl rfl|exact Or.inr ⟨rfl,rfl,rfl⟩|apply And.intro)
       refine LW.ghost 6 rfl (show H3 2 _ [Bx.var 0 [.aO es (.fe 0),dI w.kind,dS w.data,dB w.mj,dI w.after,dI w.BV,.d (.sl (fU w.bj)),dB true,dS (au t[i]),.aO [] (.fe 1),dI 0,dI 0,dS [],.aO [] .nil,.aO [] .nil,.aO [] (.row 2),dI 1]]from ?_) ?_
       .refine⟨⟨rfl,?_⟩,trivial⟩
        repeat' (first|exact trivial|exact Or.inl rfl|exact Or.inr ⟨rfl,rfl⟩|apply And.intro)
       refine g _ lx
      .cases e
     .rename_i p
      have T:t[i]=[]\/aC t[i]≠kc:=by
       by_cases h:t[i]=[]
       .exact .inl h
       .exact .inr fun F=>p ⟨h,F⟩
      have o:=Ti l C es w t[i] c y T;cases A:jm es.length w t[i]with
      |none=>rw[A]at e;cases e
      |some x=>
       rw[A]at e o;cases e;have o:CT L 32 _ 1 _ _ _ 1 _ _:=o
       repeat' ((conv=>whnf);first|exact xo|rw[wrap64 om]|refine bY ?_|apply aq|rw[bl];intro _|refine iv o ?_|refine g _ lx|intro _)
    |some f=>
     obtain⟨Y,P,O⟩:=I.fo f rfl;dsimp only at e;obtain⟨V,J,Q⟩:=S7 j q m C.toFlC es w f t[i] c y (i:=i) om O;show zL _ _ _ _ ⟨[(4,.aO [] .full),(5,.ptr 0 0),(6,.d (.sl (aR t))),(7,dI (i:Int))],1,[A5 es w true f],xT (2*(es.length*34)) f⟩ _;by_cases b:t[i]=F7
     .rw[if_pos b]at e;split at e
      .rename_i p;cases e;obtain⟨n,o⟩:=J b p;have o:=ZJ l o
       repeat' ((conv=>whnf);first|exact xo|rw[wrap64 om]|refine bY ?_|apply aq|rw[bl];intro _|refine iv o ?_|refine g _ (by refine⟨?_,?_,?_⟩<;>repeat' first|(refine pJ ?_ ?_<;>first|exact rfl|(simp;done))|exact sx|apply And.intro)|intro _)
      .cases e
     .rw[if_neg b]at e;split at e
      .rename_i p;cases e;have o:=NR l (V b);rw[p]at o;generalize (ju f t[i]).2=z at*;obtain⟨nm,eo,op,st,sp,sg⟩:=z;rcases op with _|⟨k,_|v⟩
       all_goals skip
       repeat' ((conv=>whnf);first|exact xo|rw[wrap64 om]|refine bY ?_|apply aq|rw[bl];intro _|refine iv o ?_|refine g _ lx|intro _)
      .cases e
  .obtain rfl:i=t.length:=by omega
   rw[AG]at u;rw[u];clear D u;obtain⟨es,w,fo⟩:=r;obtain⟨X,Z,B,wa,wm,we⟩:=w;cases fo with
   |none=>
    show zL _ _ _ _ ⟨[(4,.aO [] .full),(5,.ptr 0 0),(6,.d (.sl (aR t))),(7,dI (t.length:Int))],1,[qj es ⟨X,Z,B,wa,wm,we⟩],rF es⟩ _;cases B with
    |true=>
     repeat' ((conv=>whnf);first|exact xo|apply aq|rw[bl];intro _|exact fz|intro _)
    |false=>
     repeat' ((conv=>whnf);first|exact xo|apply aq|rw[bl];intro _|exact fz|intro _)
   |some f=>
    show zL _ _ _ _ ⟨[(4,.aO [] .full),(5,.ptr 0 0),(6,.d (.sl (aR t))),(7,dI (t.length:Int))],1,[A5 es ⟨X,Z,B,wa,wm,we⟩ true f],xT (2*(es.length*34)) f⟩ _
    repeat' ((conv=>whnf);first|exact xo|apply aq|rw[bl];intro _|exact fz|intro _)
 .rw[if_neg H];refine N.cp ?_
  repeat' ((conv=>whnf);first|exact xo|apply aq|exact fz|intro _)
end Go.Ab
