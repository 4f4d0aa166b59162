import Derived.Test.YtdcndpbmgpcgmaaGreatDoorY2
noncomputable section
namespace Go.Ab
open Go
variable{t:TypeId}{o:Oper}{v:AV}{a:Act}{x:Operand}{xs:bJ}{ax:Arg}{m:Nat}{z:List DV}{e:TypeId}{k es:Nat}
section
variable{L:Lk}{g:Gh}{nb:Nat}{bx:List Bx}{rl:bm}{w:World}
theorem aba{α:Type}(xs:List α)(n:Nat)(K:List α->Prop)(h:LV xs n K):n<=xs.length/\K (xs.take n):=by
 induction n generalizing xs K with
 |zero=>exact⟨cr _,by simpa[LV]using h⟩
 |succ n e=>
  cases xs with
  |nil=>exact h.elim
  |cons x r=>obtain⟨a,t⟩:=e r _ h;exact⟨by simp;omega,by simpa using t⟩
theorem Hv(h:aY L g nb bx rl w){p:Option Nat}{fl:Bool}{cs:List AV}{I:Value}(E:ZR z I)(ei:z.length=es)(T:Nat){c:Nat->Value}(V:∀j x,cs[j]?=some x->VR L g rl w x (c j))(K:(Nat->AV)->Nat->bm->Prop)(e:xI p es z fl xs cs rl K):
  ∃q H ds o A F,K F H o/\(∀k,yl k es z xs ds q H (F k))/\Step g rl w A o w/\aY L A nb bx o w/\A.bk=g.bk/\A.rw=g.rw/\
   Di L A w fl T (xs.length*es) es q I ((List.range es).map c) ds/\(p=none->es=q):=by
 unfold xI at e;obtain⟨B,e⟩:=kQ _ _ _ e;have R:∀j,j<es->((List.range es).map c)[j]?=some (c j):=fun j t=>by simp[t]
 cases p with
 |none=>
  obtain⟨ds,o,A,e,O⟩:=FI fl T h (xs.length*es) V _ e;have m:ds.length=es:=by rw[O.len,B]
  refine⟨es,_,ds,o,A,_,e,fun k=> .full,O.s,O.sh,O.bk,O.rw,⟨by simp,aQ _,m,fun j d t=>?_,fun u D=>?_,fun j n U=>by omega,fun G J j t b N len S f=>?_⟩,fun _=>rfl⟩
  .have C:j<es:=by rw[<-m];exact(bV.1 t).1
   exact⟨_,R j C,O.dr j d t⟩
  .simp only[lH,rb]at D;obtain⟨j,t,rfl⟩:=D;exact(O.dr j _ (dw om)).one
  .rw[R j t]at f;cases i:c j with
   |slice a l k=>
    rw[i]at f;cases f;exact O.own G (fun Q=>J.elim (fun n=>absurd Q n) fun n=>h.par.fresh T n) j om b N len S i
   |_=>rw[i]at f;cases f
 |some q=>
  dsimp only at e;obtain⟨hq,e⟩:=aba _ _ _ e;obtain⟨_,e⟩:=CO _ _ _ e;obtain⟨ed,e⟩:=CO _ _ _ e;split at e
  .exact e.elim
  rename_i z0 zr X;obtain⟨⟨n,U⟩,e⟩:=e
  obtain⟨ds,o,A,e,O⟩:=FI fl T h (xs.length*es) (cs:=cs.take q) (c:=c) (fun j x t=>by
   rw[xa]at t;split at t
   .exact V j x t
   .cases t) _ e
  have Z:(cs.take q).length=q:=by simp;omega
  have m:ds.length=q:=by rw[O.len,Z]
  have ee:∀d,d∈z.drop q->∀x r,d≠.sl (x::r):=fun d Y=>GX U d (by first|exact List.mem_of_mem_drop Y|exact Y)
  have y:∀j,q<=j->j<es->some (c j)=I.cells[j]?:=fun j h3 h4=>by
   have Y:(z.drop q)[j-q]?=some z[j]:=by rw[mE,show q+(j-q)=j by omega];exact dw om
   have et:cs[j]?=some (Ga z[j]):=by
    have:=congrArg (fun l=>l[j-q]?) n;simp only[mE,Gc,jU]at this;grind
   have v:j<I.cells.size:=by rw[E.1];omega
   obtain⟨k1,k2⟩:=E.2 j z[j] I.cells[j] (dw om) (dZ v);rw[dZ v];congr 1;exact ajH (V j _ et) k1 k2 (ee _ (cP.2 ⟨_,Y⟩))
  have M:∀j,q<=j->j<es->(c j).oneCell'=true:=fun j h3 h4=>by
   have v:j<I.cells.size:=by rw[E.1];omega
   have P:=y j h3 h4;rw[dZ v]at P;injection P with P;rw[P];exact((E.2 j z[j] I.cells[j] (dw om) (dZ v)).1 (fun _=>0) w).one
  have eo:BB (z.drop q)=true:=by
   cases hb:BB (z.drop q)with
   |true=>rfl
   |false=>
    exfalso
    have:∀l:List DV,BB l=false->∃d x r,d∈l/\d=DV.sl (x::r):=by
     intro l
     induction l with
     |nil=>intro h;cases h
     |cons a l ih=>
      intro h
      have go:BB l=false->∃d x r,d∈a::l/\d=DV.sl (x::r):=fun h=>by
       grind
      cases a with
      |sl ys=>cases ys with
       |nil=>exact go h
       |cons x r=>exact⟨_,x,r,iE,rfl⟩
      |_=>exact go h
    grind
  refine⟨q,_,ds,o,A,_,e,fun k=>?_,O.s,O.sh,O.bk,O.rw,⟨by simp,by omega,m,fun j d t=>?_,fun u D=>?_,fun j n U=>by rw[R j U];exact y j n U,fun G J j t b N len S f=>?_⟩,fun h=>by cases h⟩
  .exact .part q (by rw[X];simp) eo
  .have C:j<q:=by rw[<-m];exact(bV.1 t).1
   exact⟨_,R j om,O.dr j d t⟩
  .simp only[lH,rb]at D;obtain⟨j,t,rfl⟩:=D;by_cases el:j<q
   .exact(O.dr j _ (dw om)).one
   .exact M j om t
  .rw[R j om]at f;cases i:c j with
   |slice a l k=>
    rw[i]at f;cases f;exact O.own G (fun Q=>J.elim (fun n=>absurd Q n) fun n=>h.par.fresh T n) j om b N len S i
   |_=>rw[i]at f;cases f
theorem Ly(h:aY L g nb bx rl w){p:Option Nat}{fl:Bool}{cs:List AV}{n:Value}(o:ZR z n)(i:z.length=es)(T:Nat){c:Nat->Value}(s:∀j x,cs[j]?=some x->VR L g rl w x (c j))(K:(Nat->AV)->Nat->bm->Prop)(r:xI p es z fl xs cs rl K):
  ∃q t ds e a F,K F t e/\(∀k,yl k es z xs ds q t (F k))/\Step g rl w a e w/\aY L a nb bx e w/\a.bk=g.bk/\a.rw=g.rw/\
   Di L a w fl T (xs.length*es) es q n ((List.range es).map c) ds:=by
 obtain⟨q,t,ds,e,a,F,d,l,u,m,f,y,v,_⟩:=Hv h o i T s K r;grind
theorem Hn(md:Nat)(K:Bool->Prop)(h:Aj md K):∃e,((md=1/\e=false)\/(md=2/\e=true))/\K e:=by
 rcases Hm _ _ h with⟨t,a⟩|⟨t,a⟩
 .exact⟨_,.inl ⟨t,rfl⟩,a⟩
 .exact⟨_,.inr ⟨t,rfl⟩,a⟩
theorem Ag{md:Nat}(e:es<1000):(md*10000+es)/10000%10=md%10/\(md*10000+es)/100000=md/10/\gw (md*10000+es)=es:=by
 refine⟨by omega,by omega,?_⟩;unfold gw;rw[show(md*10000+es)%10000=es by omega];unfold Xx;cases t:Nat.beq es 1000 with
 |false=>rfl
 |true=>have:=dL t;omega
theorem Lb{md:Nat}{fl:Bool}(h:(Nat.mod md 10=1/\fl=false)\/(Nat.mod md 10=2/\fl=true))(e:es<1000):((md*10000+es)/10000%10=1/\fl=false)\/((md*10000+es)/10000%10=2/\fl=true):=by
 rw[(Ag e).1];exact h
theorem Pb(h:aY L g nb bx rl w){md bytes:Nat}{p:Option Nat}{cs:List AV}{hv yv zv:Value}{i:TypeInfo}{u ty sH:TypeId}{c:Nat->Value}(V:VR L g rl w v hv)(eo:∀j x,cs[j]?=some x->VR L g rl w x (c j))(ht:L.P.underlying ty=some (.slice t))(hi:L.P.info? t=some i)(hz:i.zero=some zv)(B:i.size=es)(I:i.bytes=bytes)(ei:0<bytes)(N:ZR z zv)(el:es<1000)(em:0<es)(G:t=L.tn (md/10))(J:sP L.P w u yv i.size 1 ((List.range es).map c))(K:AV->bm->Prop)(R:vv md p es bytes z v cs rl K):
  ∃W D S av l,(Builtin.append_ #[ty,u] sH #[hv,yv]).run L.P w=.ok D W/\Step g rl w S l W/\aY L S nb bx l W/\VR L S l W av D/\K av l:=by
 obtain⟨f1,f2,f3⟩:=Ag (md:=md) el;have H:∀{fl:Bool},((md*10000+es)/10000%10=1/\fl=false)\/((md*10000+es)/10000%10=2/\fl=true)->10000<=md*10000+es:=fun h=>by omega
 unfold vv at R;obtain⟨fl,hm,r⟩:=Hn _ _ R;clear R;have U:=Lb hm el;have H:=H U
 have M:∀(a:Option Addr),hv=.slice a 0 0->bytes<=140737488355328->z.length=es->(xI p es z fl [] cs rl fun f c rl=>tK rl (c,md*10000+es) fun l=>force (f (DK rl)) fun v=>K v l)->
   ∃W D S av l,(Builtin.append_ #[ty,u] sH #[hv,yv]).run L.P w=.ok D W/\Step g rl w S l W/\aY L S nb bx l W/\VR L S l W av D/\K av l:=by
  intro a ef ey ed r;obtain⟨q,Q,ds,m,g1,F,d,hP,s1,A,b1,b2,E⟩:=Ly h N ed w.heap.size eo _ r;have d:=pU _ _ _ d;rw[force_eq,B7]at d;have s2:=Step.qK (w:=w) (md*10000+es) A.jv;have X:=A.qK (md*10000+es) (by rw[f3];exact em);have E2:Di L {g1 with rw:=g1.rw++[none]} w fl w.heap.size (([]:bJ).length*es) es q zv ((List.range es).map c) ds:=E.bj s2.bD s2.cell fun _ _=>rfl
  have ee:(m++[(0,md*10000+es)]).set m.length (Q,md*10000+es)=m++[(Q,md*10000+es)]:=by simp
  have et:(m++[(0,md*10000+es)])[m.length]?=some (2*(([]:bJ).length*es),md*10000+es):=by simp
  cases a with
  |none=>
   subst ef
   have ej:VR L {g1 with rw:=g1.rw++[none]} (m++[(0,md*10000+es)]) w (.aO [] (.fe m.length)) (.slice none 0 0):=
    .aO _ _ _ .slnil ⟨0,md*10000+es,by simp,H,fun x hx=>(by cases hx),by simp,fun _=> .inl ⟨rfl,by show(g1.rw++[none])[_]?=_;rw[<-A.jv];simp⟩⟩
   obtain⟨W,D,S,hr,s,Y,T⟩:=GO X ej et H f3 U (by rw[f2];exact G) (hP m.length) ht hi hz B N ed (by rw[I];exact ei) (by rw[I];simpa using ey) E2 J sH;rw[ee]at s Y T;exact⟨W,D,S,_,_,hr,(s1.trans s2).trans s,Y,T,d⟩
  |some b=>
   subst ef;have hr:=lA L.P w ty u sH t i zv ht hi hz b 0 0 [] si (fun j u hj=>by simp at hj) yv 1 _ J om om (growslice_fits om (by rw[I];simpa using ey));obtain⟨S,s,Y,T⟩:=C5 (cap:=grownCap w (0+1) 0 t) X.drew et H f3 (ia:=none) (by show(g1.rw++[none])[_]?=_;rw[<-A.jv];simp) U (by rw[f2];exact G) (hP m.length) hi hz B N ed (E2.bj (w':=w.drew) (fun _=>aQ _) (fun _ _ _=>rfl) fun _ _=>rfl) (F:=[]) si (fun b hb=>by cases hb) (fun i j x y hx=>by simp at hx) (fun x hx=>by cases hx) (by unfold gJ;simp) (by simpa using grownCap_ge w (0+1) 0 t);rw[ee]at s Y T;exact⟨_,_,S,_,_,hr,(s1.trans s2).trans ((Step.drew _ _ w).trans s),Y,T,d⟩
 cases v with
 |aO xs tg=>
  cases tg with
  |nil=>
   obtain⟨⟨n1,Z⟩,r⟩:=r;cases V with
   |aO _ _ _ hd O=>
    have O:hv=.slice none 0 0:=O;exact M none O n1 Z r
  |full=>
   obtain⟨⟨n0,n1,Z⟩,r⟩:=r;subst n0;cases V with
   |aO _ _ _ hd O=>
    rcases O with O|⟨a,O⟩
    .exact M none O n1 Z r
    grind
  |fe k=>
   obtain⟨⟨n1,Z⟩,r⟩:=r;obtain⟨q,Q,ds,m,g1,F,d,hP,s1,A,b1,b2,E⟩:=Ly h N Z (Q3 w xs.length hv) eo _ r;rw[pn]at d;split at d
   rotate_left
   .exact d.elim
   rename_i n e hn;obtain⟨⟨m1,m2⟩,d⟩:=d;subst m1;subst m2;obtain⟨_,d⟩:=pS _ _ _ _ d;rw[force_eq]at d;obtain⟨W,D,S,hr,s,Y,T⟩:=GO A (V.bj s1) hn H f3 U (by rw[f2];exact G) (hP k) ht hi hz B N Z (by rw[I];exact ei) (by rw[I];exact n1) E J sH;exact⟨W,D,S,_,_,hr,s1.trans s,Y,T,d⟩
  |row k=>exact r.elim
  |sub k C=>exact r.elim
  |uu k C o=>exact r.elim
 |kh e2 q0 xs ep eg k=>
  have r:=Cz _ _ _ r;obtain⟨⟨n1,Z,n3⟩,r⟩:=r;subst n3;have hl:(xs++[ep++eg]).length=xs.length+1:=by simp
  obtain⟨q,Q,ds,m,g1,F,d,hP,s1,A,b1,b2,E⟩:=Ly h N Z (Q3 w (xs++[ep++eg]).length hv) eo _ r;rw[pn]at d;split at d
  rotate_left
  .exact d.elim
  rename_i n e hn;obtain⟨⟨m1,m2⟩,d⟩:=d;subst m1;subst m2;obtain⟨ez,d⟩:=pS _ _ _ _ d;rw[force_eq]at d;obtain⟨g2,s2,X,e1,c1,c2,c3⟩:=A.finish (V.bj s1) hn;have E2:=E.bj s2.bD s2.cell fun b _=>by rw[c3]
  obtain⟨W,D,S,hr,s,Y,T⟩:=GO X e1 (by rw[hl];exact jD ez) H f3 U (by rw[f2];exact G) (hP k) ht hi hz B N Z (by rw[I];exact ei) (by rw[I,hl];exact n1) E2 J sH;rw[List.set_set]at s Y T;exact⟨W,D,S,_,_,hr,(s1.trans s2).trans s,Y,T,d⟩
 |_=>exact r.elim
theorem xR(w:World)(a b:Array Value)(t:TypeId):(w.alloc (.cells a t)).setRow w.heap.size b=w.alloc (.cells b t):=by
 unfold World.setRow World.alloc;congr 1;grind
theorem CY{α:Type}(A G B V:List α)(e:A.length=k)(t:V.length=G.length):(A++G++B).take k++V++(A++G++B).drop (k+V.length)=A++V++B:=by
 grind
theorem abj(v:AV)(K:Nat->Prop)(h:WW v K):∃xs,(v=.aO xs .nil\/∃k,v=.aO xs (.fe k))/\K xs.length:=by
 unfold WW at h;grind
theorem J2(h:aY L g nb bx rl w){e c:Nat}{d hv M:Value}{i:TypeInfo}{u ty:TypeId}{fl:Bool}{G r:List Value}{ds:List DV}(ep:VR L g rl w (.aO xs (.fe k)) hv)(hk:rl[k]?=some (2*(xs.length*es),e))(Y:10000<=e)(V:gw e=es)(eo:(e/10000%10=1/\fl=false)\/(e/10000%10=2/\fl=true))(ei:t=L.tn (e/100000))(hP:yl k es z xs ds es c v)(ht:L.P.underlying ty=some (.slice t))(hi:L.P.info? t=some i)(hz:i.zero=some d)(l:i.size=es)(B:ZR z d)(K:z.length=es)(ej:0<i.bytes)(m:(xs.length+1)*i.bytes<=140737488355328)(E:Di L g w fl (Q3 w xs.length hv) (xs.length*es) es es d G ds)(J:r.length=es)(ez:∀u,u∈r->u.oneCell'=true)(Q:sP L.P w u M i.size 1 r)(sH:TypeId):
  ∃o cap a tt H q O,(Builtin.append_ #[ty,u] sH #[hv,M]).run L.P w=.ok (.slice (some ⟨o,0,none⟩) (xs.length+1) cap) q/\q.heap[o]?=some (.cells a tt H)/\H.2<=xs.length*es/\xs.length*es+es<=a.size/\o∉g.bk/\
   (∀b,b∈g.bk->q.heap[b]?=w.heap[b]?)/\Step g rl w O (rl.set k (c,e)) (q.setRow o (a.toList.take (xs.length*es)++G++a.toList.drop (xs.length*es+G.length)).toArray)/\
   aY L O nb bx (rl.set k (c,e)) (q.setRow o (a.toList.take (xs.length*es)++G++a.toList.drop (xs.length*es+G.length)).toArray)/\
   VR L O (rl.set k (c,e)) (q.setRow o (a.toList.take (xs.length*es)++G++a.toList.drop (xs.length*es+G.length)).toArray) v (.slice (some ⟨o,0,none⟩) (xs.length+1) cap):=by
 have I:xs.length+1<=gJ:=by
  have:=Ml (xs.length+1) ej;unfold gJ;omega
 have e1:((xs.length+1:Nat):Int)<=9223372036854775807:=by unfold gJ at I;omega
 have ti:d.cells.size=i.size:=by rw[B.1,K,l]
 have X:=E.len;cases ep with
 |aO _ _ _ hd ed=>
 obtain⟨n',e',h1,h2,U,h4,h5⟩:=ed;rw[hk]at h1;cases h1;rw[V]at U h4 h5;have Z:∀{T:Nat},Di L g w fl T (xs.length*es) es es d G ds->Di L g w.drew fl T (xs.length*es) es es d G ds:=fun E=>E.bj (fun _=>aQ _) (fun _ _ _=>rfl) (fun _ _=>rfl)
 have C:∀(cap:Nat)(ia:Option Nat)(F:List Value),g.rw[k]?=some ia->F.length=xs.length*es->(∀b,ia=some b->∀j u,F[j]?=some u->w.cell? ⟨b,j,none⟩=some u)->
   (∀(i j:Nat)(x:List DV)(y:DV),xs[i]?=some x->x[j]?=some y->∃u,F[i*es+j]?=some u/\DR g.bD w y u)->xs.length+1<=cap->Di L g w fl w.heap.size (xs.length*es) es es d G ds->
   (Builtin.append_ #[ty,u] sH #[hv,M]).run L.P w=.ok (.slice (some ⟨w.heap.size,0,none⟩) (xs.length+1) cap) (w.drew.alloc (.cells (F.toArray++r.toArray++Builtin.zeroCells d.cells (cap-(xs.length+1))) t))->
   ∃o cap a tt H q O,(Builtin.append_ #[ty,u] sH #[hv,M]).run L.P w=.ok (.slice (some ⟨o,0,none⟩) (xs.length+1) cap) q/\q.heap[o]?=some (.cells a tt H)/\H.2<=xs.length*es/\xs.length*es+es<=a.size/\o∉g.bk/\
   (∀b,b∈g.bk->q.heap[b]?=w.heap[b]?)/\Step g rl w O (rl.set k (c,e)) (q.setRow o (a.toList.take (xs.length*es)++G++a.toList.drop (xs.length*es+G.length)).toArray)/\
   aY L O nb bx (rl.set k (c,e)) (q.setRow o (a.toList.take (xs.length*es)++G++a.toList.drop (xs.length*es+G.length)).toArray)/\
   VR L O (rl.set k (c,e)) (q.setRow o (a.toList.take (xs.length*es)++G++a.toList.drop (xs.length*es+G.length)).toArray) v (.slice (some ⟨o,0,none⟩) (xs.length+1) cap):=by
  intro cap ia F el hF e2 e3 ef E N
  obtain⟨O,s,sh,ee⟩:=C5 (cap:=cap) h.drew hk Y V el eo ei hP hi hz l B K (Z E) (F:=F) hF e2 (fun i j x y U hy=>by
   obtain⟨u,u1,u2⟩:=e3 i j x y U hy;exact⟨u,u1,DR.bj (mk:=g.bD) (mk':=g.bD) (w:=w) (w':=w.drew) (fun _=>aQ _) (fun _ _ _=>rfl) u2⟩) U I ef
  have e4:=heap_alloc_new w.drew (.cells (F.toArray++r.toArray++Builtin.zeroCells d.cells (cap-(xs.length+1))) t)
  have S:((F.toArray++r.toArray++Builtin.zeroCells d.cells (cap-(xs.length+1))).toList.take (xs.length*es)++G++(F.toArray++r.toArray++Builtin.zeroCells d.cells (cap-(xs.length+1))).toList.drop (xs.length*es+G.length)).toArray=
    F.toArray++G.toArray++Builtin.zeroCells d.cells (cap-(xs.length+1)):=by
   have em:=CY F r (Builtin.zeroCells d.cells (cap-(xs.length+1))).toList G hF (by rw[X,J]);apply nD;simpa only[Array.toList_append]using em
  have hw:(w.drew.alloc (.cells (F.toArray++r.toArray++Builtin.zeroCells d.cells (cap-(xs.length+1))) t)).setRow w.heap.size (F.toArray++G.toArray++Builtin.zeroCells d.cells (cap-(xs.length+1)))=
    w.drew.alloc (.cells (F.toArray++G.toArray++Builtin.zeroCells d.cells (cap-(xs.length+1))) t):=xR w.drew _ _ t
  refine⟨w.heap.size,cap,_,t,(0,0),_,O,N,e4,cr _,?_,fun R=>?_,fun b R=>?_,?_⟩
  .grind
  .have:=h.qf R;omega
  .have ts:=h.qf R;show(w.heap.push _)[b]?=_;grind
  .rw[S,hw];exact⟨(Step.drew g rl w).trans s,sh,ee⟩
 rcases h5 rfl with⟨et,A⟩|⟨o,cap,tt,et,A,p⟩
 .subst et
  have e5:xs=[]:=by
   rcases lM hd with⟨h1,_⟩|⟨o,tw,cap,es,f,hc,_⟩
   .exact h1
   .cases hc
  subst e5;have N:=oA L.P w ty u sH t i d ht hi hz M 1 r Q om om (by simp at m⊢;omega);exact C (grownCap w 1 0 t) none [] A si (fun b R=>by cases R) (fun i j x y U=>by simp at U) (by simpa using grownCap_ge w 1 0 t) E (by simpa using N)
 .subst et;obtain⟨F,f1,f2,f3,f4,f5⟩:=Kg hd U;by_cases n:xs.length+1<=cap
  .have hT:Q3 w xs.length (.slice (some ⟨o,0,none⟩) xs.length cap)=o:=if_pos n;rw[hT]at E;obtain⟨te,ey⟩:=h.row k _ e hk;rcases ey with⟨N,_⟩|⟨ta,a,t',H,q1,q2,q3,q4,q5,q6,q7,q8,q9,tb⟩
   .rw[A]at N;cases N
   rw[A]at q1;cases q1;rw[lJ Y]at q6
   have e6:a.size=cap*es:=by
    simp only[World.shape?,q2,qZ,vh]at p;exact p.2
   have hm:(xs.length+1)*es=xs.length*es+es:=by rw[jb,tU]
   have e7:(xs.length+1)*es<=cap*es:=k7 _ n;have N:=sf L.P w ty u sH t i ht hi o xs.length cap a t' H (by rw[l];omega) q2 M 1 r Q ez n (by rw[l];omega);rw[l]at N;obtain⟨O,s,sh,ee⟩:=Og h hk Y V A eo ei hP hi hz l B K E q2 e6 U hd I n rfl
   have S:((a.toList.take (xs.length*es)++r++a.toList.drop (xs.length*es+r.length)).toArray.toList.take (xs.length*es)++G++(a.toList.take (xs.length*es)++r++a.toList.drop (xs.length*es+r.length)).toArray.toList.drop (xs.length*es+G.length)).toArray=
     (a.toList.take (xs.length*es)++G++a.toList.drop (xs.length*es+G.length)).toArray:=by
    congr 1;have em:=CY (a.toList.take (xs.length*es)) r (a.toList.drop (xs.length*es+r.length)) G (k:=xs.length*es) (by simp;omega) (by rw[X,J]);have eg:G.length=r.length:=by rw[X,J]
    rw[eg]at em⊢;exact em
   have D:(a.toList.take (xs.length*es)++r++a.toList.drop (xs.length*es+r.length)).toArray.size=a.size:=by simp;omega
   refine⟨o,cap,_,t',H,_,O,N,setRow_heap w o a _ t' H q2,by omega,by rw[D];omega,q5,fun b R=>setRow_other w o b _ (fun hq=>q5 (hq▸R)),?_⟩;rw[S,setRow_setRow];exact⟨s,sh,ee⟩
  .have hT:Q3 w xs.length (.slice (some ⟨o,0,none⟩) xs.length cap)=w.heap.size:=if_neg n;rw[hT]at E;have N:=lA L.P w ty u sH t i d ht hi hz ⟨o,0,none⟩ xs.length cap F (by rw[f1,l]) (fun j u hj=>by rw[Addr.add_lit,dK];exact f3 j u hj) M 1 r Q om e1 (growslice_fits om m);exact C (grownCap w (xs.length+1) cap t) (some o) F A f1 (fun b R=>by cases R;exact f3) f5 (grownCap_ge w (xs.length+1) cap t) E N
theorem aa9(h:aY L g nb bx rl w){md bytes:Nat}{cs:List AV}{hv yv zv:Value}{i:TypeInfo}{u ty sH:TypeId}{c:Nat->Value}{G0:List Value}(Y:VR L g rl w v hv)(N:v=.aO xs .nil\/∃k,v=.aO xs (.fe k))(V:∀j x,cs[j]?=some x->VR L g rl w x (c j))(ht:L.P.underlying ty=some (.slice t))(hi:L.P.info? t=some i)(hz:i.zero=some zv)(B:i.size=es)(A:i.bytes=bytes)(G:0<bytes)(O:ZR z zv)(J:es<1000)(Q:0<es)(X:t=L.tn (md/10))(Z:G0.length=es)(ee:∀u,u∈G0->u.oneCell'=true)(et:sP L.P w u yv i.size 1 G0)(K:AV->bm->Prop)(m:vv md none es bytes z v cs rl K):
  ∃a r o tt M T S av I,(Builtin.append_ #[ty,u] sH #[hv,yv]).run L.P w=.ok (.slice (some ⟨a,0,none⟩) (xs.length+1) r) T/\T.heap[a]?=some (.cells o tt M)/\M.2<=xs.length*es/\xs.length*es+es<=o.size/\a∉g.bk/\
   (∀b,b∈g.bk->T.heap[b]?=w.heap[b]?)/\Step g rl w S I (T.setRow a (o.toList.take (xs.length*es)++(List.range es).map c++o.toList.drop (xs.length*es+((List.range es).map c).length)).toArray)/\
   aY L S nb bx I (T.setRow a (o.toList.take (xs.length*es)++(List.range es).map c++o.toList.drop (xs.length*es+((List.range es).map c).length)).toArray)/\
   VR L S I (T.setRow a (o.toList.take (xs.length*es)++(List.range es).map c++o.toList.drop (xs.length*es+((List.range es).map c).length)).toArray) av (.slice (some ⟨a,0,none⟩) (xs.length+1) r)/\K av I:=by
 obtain⟨f1,f2,f3⟩:=Ag (md:=md) J;have y:∀{fl:Bool},((md*10000+es)/10000%10=1/\fl=false)\/((md*10000+es)/10000%10=2/\fl=true)->10000<=md*10000+es:=fun h=>by omega
 unfold vv at m;obtain⟨fl,hm,l⟩:=Hn _ _ m;clear m;have H:=Lb hm J;have y:=y H;rcases N with rfl|⟨k,rfl⟩
 .obtain⟨⟨n1,n2⟩,l⟩:=l;cases Y with
  |aO _ _ _ hd R=>
  have R:hv=.slice none 0 0:=R;subst R
  have N:xs=[]:=by
   rcases lM hd with⟨h1,_⟩|⟨a,em,r,es,f,hc,_⟩
   .exact h1
   .cases hc
  subst N;obtain⟨q,D,ds,s,U,F,d,hP,s1,p,b1,b2,E,C⟩:=Hv h O n2 w.heap.size V _ l;have C:q=es:=(C rfl).symm;subst C;have d:=pU _ _ _ d;rw[force_eq,B7]at d;have s2:=Step.qK (w:=w) (md*10000+q) p.jv;have ed:=p.qK (md*10000+q) (by rw[f3];exact Q);have E2:Di L {U with rw:=U.rw++[none]} w fl w.heap.size (([]:bJ).length*q) q q zv ((List.range q).map c) ds:=E.bj s2.bD s2.cell fun _ _=>rfl
  have eo:(s++[(0,md*10000+q)]).set s.length (D,md*10000+q)=s++[(D,md*10000+q)]:=by simp
  have ei:(s++[(0,md*10000+q)])[s.length]?=some (2*(([]:bJ).length*q),md*10000+q):=by simp
  have el:VR L {U with rw:=U.rw++[none]} (s++[(0,md*10000+q)]) w (.aO [] (.fe s.length)) (.slice none 0 0):=
   .aO _ _ _ .slnil ⟨0,md*10000+q,by simp,y,fun x hx=>(by cases hx),by simp,fun _=> .inl ⟨rfl,by show(U.rw++[none])[_]?=_;rw[<-p.jv];simp⟩⟩
  obtain⟨a,r,o,tt,M,T,S,o1,o2,o3,o4,o5,o6,o7,o8,o9⟩:=J2 ed el ei y f3 H (by rw[f2];exact X) (hP s.length) ht hi hz B O n2 (by rw[A];exact G) (by rw[A];simpa using n1) E2 Z ee et sH;rw[eo]at o7 o8 o9;exact⟨a,r,o,tt,M,T,S,_,_,o1,o2,o3,o4,by rw[<-b1];exact o5,fun b hb=>o6 b (by show b∈U.bk;rw[b1];exact hb),(s1.trans s2).trans o7,o8,o9,d⟩
 .obtain⟨⟨n1,n2⟩,l⟩:=l;obtain⟨q,D,ds,s,U,F,d,hP,s1,p,b1,b2,E,C⟩:=Hv h O n2 (Q3 w xs.length hv) V _ l;have C:q=es:=(C rfl).symm;subst C;rw[pn]at d;split at d
  rotate_left
  .exact d.elim
  rename_i n e hn;obtain⟨⟨m1,m2⟩,d⟩:=d;subst m1;subst m2;obtain⟨_,d⟩:=pS _ _ _ _ d;rw[force_eq]at d;obtain⟨a,r,o,tt,M,T,S,o1,o2,o3,o4,o5,o6,o7,o8,o9⟩:=J2 p (Y.bj s1) hn y f3 H (by rw[f2];exact X) (hP k) ht hi hz B O n2 (by rw[A];exact G) (by rw[A];exact n1) E Z ee et sH;exact⟨a,r,o,tt,M,T,S,_,_,o1,o2,o3,o4,by rw[<-b1];exact o5,fun b hb=>o6 b (by rw[b1];exact hb),s1.trans o7,o8,o9,d⟩
variable{n:Nat}
theorem aaF{y:Operand}{R:Arg}{u:TypeId}{i:TypeInfo}{D:Value}{md:Nat}{p:Option Nat}(Y:o.op=.call {callee:=.builtin .append,args:=#[x,y],argTypes:=#[t,u]})(V:L.P.underlying t=some (.slice e))(B:∃d,L.P.underlying u=some d/\∀k,d≠.int k)(hi:L.P.info? e=some i)(G:i.zero=some D)(q:ZR z D)(b:0<i.size)(E:i.size<1000)(T:0<i.bytes)(A:e=L.tn (md/10))(J:cQ L x ax)(Z:cQ L y R):jM L n o (.pY md p i.size i.bytes z ax R):=by
 intro X σ K g a w next Q h r k U;obtain⟨ee,nb,bx,rl⟩:=σ;have O:=J.val h;have m:=Z.val h;simp only[cB]at r;split at r
 .rename_i cs I;rw[I]at m;obtain⟨hl,r⟩:=kQ _ _ _ r;generalize N:a.eval y=yv at m;cases m with
  |lit _ f c l hb C M hv=>
  have F:((List.range i.size).map c).length=1*i.size:=by simp
  have S:sP L.P w u (.slice (some ⟨f,0,none⟩) 1 1) i.size 1 ((List.range i.size).map c):=
   ⟨B,fun w'=>rfl,run_firstCells_some (P:=L.P) w i.size 1 ⟨f,0,none⟩ 1 1 _ F (fun j u v=>by
     rw[Addr.add_lit,dK];have l:=(bV.1 v).1;simp at l;simp[l]at v;subst v;exact M j om),run_firstCells_some (P:=L.P) w.drew i.size 1 ⟨f,0,none⟩ 1 1 _ F (fun j u v=>by
     rw[Addr.add_lit,dK];have l:=(bV.1 v).1;simp at l;simp[l]at v;subst v;exact M j om)⟩
  obtain⟨W,v',g',av,et,C,s,sh,H,hk⟩:=Pb h.sh O hv V hi G rfl rfl T q E b A S (sH:=o.type) _ r;refine aW ?_ (k _ _ _ _ _ s (h.bj s sh) H hk);rw[kS Y,N,C];rfl
 .exact r.elim
theorem Oo{i:TypeInfo}{r:Value}(c:o.op=.buildSlice t 1 #[(0,x)])(m:L.P.underlying t=some (.slice e))(hi:L.P.info? e=some i)(f:i.zero=some r)(l:0<i.size)(p:i.size<=16777216)(s:(a.eval x).cells.size=i.size):
  (execOp a.eval o).run L.P w=.ok (.value (.slice (some ⟨w.heap.size,0,none⟩) 1 1)) (w.alloc (.cells (a.eval x).cells e)):=by
 have h:¬16777216<1*i.size:=by omega
 have d:¬1*i.size=0:=by omega
 have n:∀cells:Array Value,cells.size=i.size->Instr.fill (fun q=>some (q*i.size,i.size)) cells [(0,a.eval x)]=some (a.eval x).cells:=by
  intro cells u;simp only[Instr.fill];rw[if_neg (by simp[s,u])];congr 1;apply nD;have:=D3 (a.eval x).cells.toList 0 cells 0 (by simp[s,u]);rw[<-Rk,Rh];grind
 have y:=n ((Array.range (1*i.size)).map (fun q=>r.cells[q%r.cells.size]!)) si;simp only[execOp,c,Instr.buildSlice,underlying,Sem.run_bind,run_program,Result.andThen_ok,m,Sem.run_pure,sizeOf,typeInfo,hi,Sem.run_ite,h,if_false,d,zeroValue,f,newRow,Gl,sG,AK];simp only[y];rfl
theorem aaM{i:TypeInfo}{q:Value}(E:o.op=.buildSlice t 1 #[(0,x)])(T:L.P.underlying t=some (.slice e))(hi:L.P.info? e=some i)(A:i.zero=some q)(d:0<i.size)(O:i.size<=16777216)(I:cQ L x ax):jM L n o (.pZ i.size z ax):=by
 intro X σ K g a w next Q h r k p;obtain⟨N,nb,bx,rl⟩:=σ;simp only[cB]at r;obtain⟨S,r,l,u,_⟩:=k9 (I.val h) _ r;obtain⟨H,R⟩:=kQ _ _ _ r;have c:(a.eval x).cells.size=i.size:=by rw[l,H]
 have s:=Step.data g rl w (.cells (a.eval x).cells e) 0 h.sh.fresh;have m:=h.sh.data (.cells (a.eval x).cells e) 0;refine aW (Oo E T hi A d O c) (k _ _ _ _ _ s (h.bj s m) (.lit S w.heap.size (fun j=>(a.eval x).cells.getD j undef) si (fun f=>?_) (fun f=>?_) (fun j v=>?_) (fun j y b=>?_)) R)
 .have:=h.sh.qf f;omega
 .have:=(h.sh.tH f).1;omega
 .rw[cell_of_row _ w.heap.size j (a.eval x).cells e (0,0) (heap_alloc_new w _)];simp[show j<(a.eval x).cells.size by omega]
 .refine(u j y _ b ?_).bj s;have v:j<(a.eval x).cells.size:=by rw[l];exact(bV.1 b).1
  simp[v]
theorem aaN{i:TypeInfo}{Y:Value}{md:Nat}(ho:o.op=.buildSlice t 1 #[(0,x)])(ht:L.P.underlying t=some (.slice e))(hi:L.P.info? e=some i)(hz:i.zero=some Y)(V:ZR z Y)(E:0<i.size)(A:i.size<1000)(B:e=L.tn (md/10))(hx:cQ L x ax):jM L n o (.Bt md i.size z ax):=by
 intro X σ K g a w next Q h r k eo;obtain⟨ei,nb,bx,rl⟩:=σ;simp only[cB]at r;obtain⟨fl,hm,r⟩:=Hn _ _ r;obtain⟨cs,r,G,J,_⟩:=k9 (hx.val h) _ r;obtain⟨R,r⟩:=kQ _ _ _ r;obtain⟨Z,r⟩:=r;have p:(a.eval x).cells.size=i.size:=by rw[G,R]
 have d:∀j,j<i.size->(a.eval x).cells[j]?=some ((a.eval x).cells.getD j undef):=fun j D=>by
  simp[show j<(a.eval x).cells.size by omega]
 obtain⟨ds,m,U,C,O⟩:=FI fl w.heap.size h.sh 0 (cs:=cs) (c:=fun j=>(a.eval x).cells.getD j undef) (fun j y f=>J j y _ f (d j (by rw[<-R];exact(bV.1 f).1))) _ r;have C:=pU _ _ _ C;rw[B7]at C;obtain⟨f1,f2,T⟩:=Ag (md:=md) A;have ee:=Lb hm A;have I:10000<=md*10000+i.size:=by omega
 have s2:=Step.qK (w:=w) (md*10000+i.size) O.sh.jv;have et:=O.sh.qK (md*10000+i.size) (by rw[T];exact E);have N:(m++[(0,md*10000+i.size)]).set m.length (2*i.size,md*10000+i.size)=m++[(2*i.size,md*10000+i.size)]:=by simp
 have l:2*i.size/2=i.size:=by omega
 obtain⟨M,S⟩:=et.X7 (k:=m.length) (n':=2*i.size) (e:=md*10000+i.size) (ia:=none) (fl:=fl) (arr:=(a.eval x).cells) (t:=e) (by simp;rfl) I (by show(U.rw++[none])[_]?=_;rw[<-O.sh.jv];simp) ee om (by rw[l,p];exact aQ _)
  ⟨i,Y,hi,hz,by rw[T],by rw[T,V.1,Z],fun j h1 h2=>by omega⟩ (by rw[f2];exact B) (fun _ o ho=>by omega) (fun hf o h1 h2 b off len cap hh=>by
   rw[l]at h2;rw[d o h2]at hh;have:=O.own hf (fun _=>h.sh.par.fresh _ (aQ _)) o om b off len cap (by injection hh);rwa [dK]at this)
 rw[N,l]at M S;have s:=(O.s.trans s2).trans M;refine aW (Oo ho ht hi hz E om p) (k _ _ _ _ _ s (h.bj s S) (.aO [ds] (.fe m.length) _ ?_ ⟨2*i.size,md*10000+i.size,by simp,I,fun y f=>?_,by rw[T];simp,fun _=> .inr ⟨w.heap.size,1,e,rfl,?_,?_⟩⟩) C)
 .have H:ds.length=i.size:=by rw[O.len,R]
  have:=nN (mk:=(Gh.aw {U with rw:=U.rw++[none]} w.heap.size m.length i.size none fl).bD) (w:=w.alloc (.cells (a.eval x).cells e)) (xs:=[ds]) (aw:=w.heap.size) (off:=0) (cap:=1) (es:=i.size) (F:=(a.eval x).cells.toList) (by unfold gJ;simp) si (fun y f=>by rw[dP.1 f];exact H)
   (by simp[Gh.aw]) (by simp[p]) (fun j u D=>by rw[dK,cell_of_row _ w.heap.size _ (a.eval x).cells e (0,0) (heap_alloc_new w _)];simpa using D)
   (fun q j y v f hv=>by
    have hq:q=0:=by have:=(bV.1 f).1;simp at this;exact this
    subst hq;simp at f;subst f;have D:j<i.size:=by rw[<-H];exact(bV.1 hv).1
    exact⟨_,by rw[Nat.zero_mul,dK,Array.getElem?_toList];exact d j D,(O.dr j v hv).bj (s2.trans M).bD (s2.trans M).cell⟩)
  exact this
 .rw[dP.1 f,T,O.len,R]
 .show((U.rw++[none]).set _ _)[_]?=_;exact jD (by rw[<-O.sh.jv];simp)
 .have:=heap_alloc_new w (.cells (a.eval x).cells e);simp only[World.shape?,this,T,p,tU]
theorem aaR{lo:Operand}{z:TypeInfo}{R:IntKind}(D:o.op=.slice t x (some lo) none none)(U:L.P.underlying t=some (.slice e))(C:L.P.info? e=some z)(J:lo=.const (.int R m))(hx:cQ L x ax):jM L n o (.H0 z.size m ax):=by
 intro X σ K g a w next Q h s k Z;obtain⟨et,nb,bx,rl⟩:=σ;have p:=hx.val h;simp only[cB]at s;split at s
 .rename_i xs kr M;rw[M]at p;generalize j:a.eval x=xv at p;obtain⟨⟨E,T⟩,hk⟩:=s;cases p with
  |aO _ _ _ hd A=>
  obtain⟨c,q,h1,h2,hw,h4,h5⟩:=A
  have O:xs≠[]->z.size=gw q:=fun h0=>by
   cases xs with
   |nil=>exact absurd rfl h0
   |cons y r=>rw[<-T y si,<-hw y si]
  have hC:2*(xs.length*z.size)=2*(xs.length*gw q):=by
   cases xs with
   |nil=>simp
   |cons y r=>rw[O si]
  have I:∀H,((∃a,H=.slice a 0 0)\/(∃b N len cap,H=.slice (some ⟨b,N,none⟩) len cap/\∃n cp o0,xv=.slice (some ⟨b,o0,none⟩) n cp))->sS g rl w (xs.drop m) (.sub kr (2*(xs.length*z.size))) H:=fun H eo=>by
   refine⟨c,q,h1,h2,by rw[hC];exact h4,fun hn=>?_⟩;grind
  rcases lM hd with⟨F,S,Y⟩|⟨V,N,cap,ed,f,Y,hb,ee,_⟩
  .subst F;have B:m=0:=by simpa using E
   subst B;have i:=ry (P:=L.P) (w:=w) (ev:=a.eval) (lo:=some lo) (hi:=none) (len:=0) (cap:=0) (l:=0) (h:=0) true (.inr ⟨lo,R,rfl,by rw[J];rfl⟩) (.inl ⟨rfl,rfl⟩) (Az _) (Az _) si;simp only[Gq,Gn]at i;have G:DR g.bD w (.sl []) (.slice S 0 0):=by cases S with|none=>exact .slnil|some b=>exact .sle b
   subst Y;refine aW (v:=.slice S 0 0) ?_ (k _ _ g _ w (Step.refl g rl w) h (.aO _ _ _ (by simpa using G) (I _ (.inl ⟨S,rfl⟩))) hk);cases S<;>simp[execOp,D,Instr.sliceAt,underlying,U,j,Instr.slice,sizeOf,typeInfo,C,i]
  .have i:=ry (P:=L.P) (w:=w) (ev:=a.eval) (lo:=some lo) (hi:=none) (len:=xs.length) (cap:=cap) (l:=m) (h:=xs.length) true (.inr ⟨lo,R,rfl,by rw[J];rfl⟩) (.inl ⟨rfl,rfl⟩) om om om;simp only[Gq,Gn]at i;subst Y;have u:=Yq (l:=m) (h:=xs.length) hd T E (aQ _);rw[xd]at u
   refine aW ?_ (k _ _ g _ w (Step.refl g rl w) h (.aO _ _ _ u (I _ (by
    by_cases d:cap=m
    .grind
    .rw[if_neg d];exact .inr ⟨V,_,_,_,rfl,_,_,_,rfl⟩))) hk)
   by_cases d:cap=m
   .subst d;simp[execOp,D,Instr.sliceAt,underlying,U,j,Instr.slice,sizeOf,typeInfo,C,i]
   .simp[execOp,D,Instr.sliceAt,underlying,U,j,Instr.slice,sizeOf,typeInfo,C,i,d,Addr.add_lit]
 .exact s.elim
theorem Uc{q:TypeInfo}{i:Operand}{S:Arg}(C:o.op=.indexAddr t x i)(M:L.P.underlying t=some (.slice e))(F:L.P.info? e=some q)(Y:cQ L x ax)(hi:cQ L i S):jM L n o (.CU q.size ax S):=by
 intro X σ K g a w next Q h r k H;obtain⟨V,nb,bx,rl⟩:=σ;have d:=Y.val h;have l:=hi.val h;simp only[cB,pn]at r;split at r
 rotate_left
 .exact r.elim
 rename_i xs kr kk m B G;rw[B]at d;rw[G]at l;split at r
 rotate_left
 .exact r.elim
 rename_i c z R;obtain⟨⟨J,s,Z,u⟩,hk⟩:=r;subst J;generalize E:a.eval x=xv at d;cases d with
 |aO _ _ _ hd T=>
 obtain⟨n',e',D,r2,r3,r4,U⟩:=T;rw[R]at D;cases D;rw[u]at U r4;rcases U Z.symm with⟨A,y⟩|⟨p,ee,tt,A,y,et⟩
 .rcases lM hd with⟨O,_⟩|⟨b,eo,cp,ed,f,j,_⟩
  .rw[O]at s;simp at s
  .rw[A]at j;cases j
 .subst A;have I:=l.fV.1;have N:xs≠[]:=fun e=>by rw[e]at s;simp at s
  refine aW (v:=.pointer (some ⟨p,0,none⟩)) ?_ (k _ _ g _ w (Step.refl g rl w) h (.kn kr c 0 p q.size ⟨c,z,R,r2,u,aQ _,fun _=>y⟩) hk);simp[execOp,C,E,I,Instr.indexAt,asIntOf,underlying,M,N,sizeOf,typeInfo,F,Addr.add_lit]
theorem SR(kr C:Nat):∀(cs:List DV)(o:Nat)(K:List AV->Prop),SQ kr C o cs K->∃l,K l/\l.length=cs.length/\∀(j:Nat)(x:AV),l[j]?=some x->(∃e,cs[j]?=some (.sl e)/\x=.aO e (.uu kr C (o+j)))\/(∃d,cs[j]?=some d/\x=.d d)
 |[],o,K,h=>⟨[],h,rfl,fun j x t=>by simp at t⟩
 |d::r,o,K,h=>by
  have go:∀y,(SQ kr C (o+1) r fun l=>K (y::l))->((∃e,d=.sl e/\y=.aO e (.uu kr C o))\/y=.d d)->∃l,K l/\l.length=(d::r).length/\∀(j:Nat)(x:AV),l[j]?=some x->(∃e,(d::r)[j]?=some (.sl e)/\x=.aO e (.uu kr C (o+j)))\/(∃a,(d::r)[j]?=some a/\x=.d a):=by
   intro y i u;obtain⟨l,n,s,c⟩:=SR kr C r (o+1) _ i;refine⟨y::l,n,by simp[s],fun j x t=>?_⟩;cases j with
   |zero=>
    grind
   |succ j=>
    grind
  cases d with
  |sl e=>exact go _ h (.inl ⟨e,rfl,rfl⟩)
  |_=>exact go _ h (.inr rfl)
theorem WD{ay:Arg}(ho:o.op=.load t x)(ht:UL L t m true)(hx:cQ L x ax)(H:∃y,cQ L y ay):jM L n o (.Hl m ax ay):=by
 intro X σ K g a w next Q h e k ee;obtain⟨eo,nb,bx,rl⟩:=σ;obtain⟨⟨i,hi,hm⟩,⟨d,hd,ha⟩,R⟩:=ht;have A:=hx.val h;obtain⟨y,H⟩:=H;have z:=H.val h;simp only[cB,pn]at e;split at e
 rotate_left
 .exact e.elim
 rename_i kr C q xs jr h1 h2;rw[h1]at A;rw[h2]at z;split at e
 rotate_left
 .exact e.elim
 rename_i cs r;split at e
 rotate_left
 .exact e.elim
 rename_i c D U;obtain⟨⟨M,hq,E,F,hc,Y⟩,hk⟩:=e;subst M;subst hq;subst F;obtain⟨v,ei,he,n0,e0,r1,r2,r3,r4,r5⟩:=A.CR;rw[U]at r1;cases r1;have T:=r5 rfl;generalize ed:a.eval y=yv at z;cases z with
 |aO _ _ _ V B=>
 obtain⟨n1,e1,p1,p2,p3,p4,p5⟩:=B;rw[U]at p1;cases p1;rw[Y]at p4 p5;have O:(cs::r).length=r.length+1:=rfl;rcases p5 (by rw[O,hc])with⟨hv,s⟩|⟨et,el,tt,hv,s,em⟩
 .rw[T]at s;cases s
 rw[T]at s;cases s;subst hv;rcases lM V with⟨G,_⟩|⟨b,ef,cp,u,f,J,q1,q2,q3,q4,q5,q6⟩
 .cases G
 cases J;have e2:u=m:=by rw[<-q3 cs si];exact E
 subst e2
 have p:∀j,j<u->w.cell? ⟨v,j,none⟩=some (f 0 j):=fun j S=>by
  grind
 have ey:u<=g.bD v:=by
  grind
 obtain⟨l,k1,k2,k3⟩:=SR jr c cs 0 _ hk;have hl:=ot L.P w t u true i d hi hm hd ha R v 0 (f 0) (fun j S=>by rw[dK];exact p j S)
 have I:(execOp a.eval o).run L.P w=.ok (.value (.agg ((List.range u).map (f 0)).toArray)) w:=by
  simp[execOp,ho,he,Instr.loadAt,Instr.sureAddr,hl]
 refine aW I (k _ _ g _ w (Step.refl g rl w) h (.agg _ _ (by simp[k2,E]) fun j x0 y0 N ep=>?_) k1);have S:j<u:=by rw[<-E,<-k2];exact(bV.1 N).1
 have Z:y0=f 0 j:=by
  grind
 subst Z;rcases k3 j x0 N with⟨ys,z1,rfl⟩|⟨dd,z1,rfl⟩
 .refine .aO _ _ _ (q6 0 j cs _ si z1) ⟨c,D,U,r2,aQ _,fun _=>⟨v,T,?_,?_⟩⟩
  .rw[dK];exact p j S
  .omega
 .exact .d _ _ (q6 0 j cs _ si z1)
end
variable{g:Gh}{rl:bm}{w:World}{nb:Nat}{bx:List Bx}{i:Nat}{bz:bm}{g':Gh}{b:Nat}
theorem F0{arr:Array Value}{e:Nat×Nat}(h:w.heap[b]?=some (.cells arr t e))(o:Nat)(v:Value):w.setCell ⟨b,o,none⟩ v=w.setRow b (arr.setIfInBounds o v):=by
 unfold World.setCell World.setRow;congr 1;grind
theorem OC{L:Lk}(c:aY L g nb bx rl w){ty o:Nat}{cs:List AV}{x:AV}{v:Value}(hi:g.bk[i]?=some b)(f:bx[i]?=some (.var ty cs))(p:o<cs.length)(k:VR L g rl w x v):Step g rl w g rl (w.setCell ⟨b,o,none⟩ v)/\aY L g nb (bx.set i (.var ty (cs.set o x))) rl (w.setCell ⟨b,o,none⟩ v):=by
 obtain⟨h,e,t,r,d,q,l⟩:=c.box i _ b f hi;have h:=h si;rw[F0 r];have a:b∈g.bk:=cP.2 ⟨i,hi⟩;have u:=Step.xK (rl:=rl) a h e (e.setIfInBounds o v) t (0,0) r si;refine⟨u,c.xK hi e _ t (0,0) r si h _ ⟨_,t,setRow_heap w b e _ t (0,0) r,by simp[d],fun j y z n s=>?_,l⟩⟩;rw[w9]at s;rw[List.getElem?_set]at n;by_cases m:o=j
 .subst m;rw[if_pos rfl,if_pos p]at n;rw[if_pos rfl,if_pos om]at s;cases n;cases s;exact k.bj u
 .rw[if_neg m]at n s;exact(q j y z n s).bj u
section
variable{L:Lk}{n:Nat}
theorem aa8{y:Operand}{i:TypeInfo}{z:Value}(ho:o.op=.call {callee:=.builtin .append,args:=#[x,y],argTypes:=#[t,t]})(ht:L.P.underlying t=some (.slice e))(hi:L.P.info? e=some i)(hz:i.zero=some z)(t5:z.cells.size=i.size)(ay:0<i.size)(t6:0<i.bytes){key:Nat}(e4:key<10000)(d:gw key=i.size)(t7:key=1000->e=L.u8){env:Env}(h:dx L n g ⟨env,nb,bx,rl⟩ a w){c:Nat}(ts:VR L g rl w (.aO xs (.row c)) (a.eval x))(e5:rl[c]?=some (xs.length,key))(ds:List DV)(t8:ds.length=i.size)(E l:List Value)(e6:E.length=i.size)(t9:∀u∈E,u.oneCell'=true)(G:l.length=i.size)(_:∀u∈l,u.oneCell'=true)(ax:∀(j:Nat)(y:DV),ds[j]?=some y->∃u,l[j]?=some u/\DR g.bD w y u)(e7:sP L.P w t (a.eval y) i.size 1 E)(ei:(xs.length+1)*i.bytes<=140737488355328):
  ∃(aw cap:Nat)(r:Array Value)(tt:TypeId)(fr:Nat×Nat)(M:World)(g':Gh),(execOp a.eval o).run L.P w=.ok (.value (.slice (some ⟨aw,0,none⟩) (xs.length+1) cap)) M/\
   M.heap[aw]?=some (.cells r tt fr)/\fr.2<=xs.length*i.size/\xs.length*i.size+i.size<=r.size/\aw∉g.bk/\(∀b,b∈g.bk->M.heap[b]?=w.heap[b]?)/\
   Step g rl w g' (rl.set c (xs.length+1,key)) (M.setRow aw (r.toList.take (xs.length*i.size)++l++r.toList.drop (xs.length*i.size+l.length)).toArray)/\
   aY L g' nb bx (rl.set c (xs.length+1,key)) (M.setRow aw (r.toList.take (xs.length*i.size)++l++r.toList.drop (xs.length*i.size+l.length)).toArray)/\
   VR L g' (rl.set c (xs.length+1,key)) (M.setRow aw (r.toList.take (xs.length*i.size)++l++r.toList.drop (xs.length*i.size+l.length)).toArray) (.aO (xs++[ds]) (.row c)) (.slice (some ⟨aw,0,none⟩) (xs.length+1) cap):=by
 generalize te:a.eval x=xv at ts;cases ts with
 |aO _ _ _ tw tb=>
 have ez:∀(p j:Nat)(x:List DV)(y:DV),[ds][p]?=some x->x[j]?=some y->∃u,l[p*i.size+j]?=some u/\DR g.bD w y u:=fun p j x y hp hj=>by
  grind
 have D:∀y,y∈[ds]->y.length=i.size:=fun y hy=>by simp at hy;rw[hy];exact t8
 have ae:l.length=[ds].length*i.size:=by simp[G]
 have A:xs.length+[ds].length<=gJ:=by
  have:=Ml (xs.length+1) t6;show xs.length+1<=gJ;unfold gJ;omega
 have aa:((xs.length+1:Nat):Int)<=9223372036854775807:=by
  have A:xs.length+1<=gJ:=A;unfold gJ at A;omega
 have ed:rl.length=g.rw.length:=h.sh.jv.symm;obtain⟨L',a1,h1,ta,h2,ao⟩:=tb;rw[e5]at h1;cases h1;have T:=ta;rw[d]at T;have h3:=ao;simp only[d]at h3;have tg:c<rl.length:=(bV.1 e5).1;have U:(rl.set c (xs.length+1,key))[c]?=some (xs.length+1,key):=jD tg
 have K:∀(k n e:Nat),rl[k]?=some (n,e)->∃n',(rl.set c (xs.length+1,key))[k]?=some (n',e)/\n<=n':=by
  grind
 have t0:c<g.rw.length:=by rw[h.sh.jv];exact tg
 have J:(∀(k n e:Nat),rl[k]?=some (n,e)->∃n',(rl.set c (xs.length+1,key))[k]?=some (n',e)/\n<=n'/\(n'=n->(g.rw.set c (some w.heap.size))[k]?=g.rw[k]?)):=by
  grind
 have el:∀b,some b∈g.rw.set c (some w.heap.size)->some b∈g.rw\/w.heap.size<=b:=by
  grind
 have ef:(g.rw.set c (some w.heap.size)).length=(rl.set c (xs.length+1,key)).length:=by simp[ed]
 have Q:(rl.set c (xs.length+1,key))[c]?=some (xs.length+1,key)/\(g.rw.set c (some w.heap.size))[c]?=some (some w.heap.size):=⟨U,jD t0⟩;have ey:∀j,j≠c->(rl.set c (xs.length+1,key))[j]?=rl[j]?/\(g.rw.set c (some w.heap.size))[j]?=g.rw[j]?:=fun j hj=>⟨jE (k8 hj),jE (k8 hj)⟩
 have e1:∀(sJ:Nat)(F:List Value),F.length=xs.length*i.size->(∀(p j:Nat)(x:List DV)(y:DV),xs[p]?=some x->x[j]?=some y->∃u,F[p*i.size+j]?=some u/\DR g.bD w y u)->
   (execOp a.eval o).run L.P w=.ok (.value (.slice (some ⟨w.heap.size,0,none⟩) (xs.length+1) (grownCap w (xs.length+1) sJ e))) (w.drew.alloc (.cells (F.toArray++E.toArray++Builtin.zeroCells z.cells (grownCap w (xs.length+1) sJ e-(xs.length+1))) e))->
   ∃(aw cap:Nat)(r:Array Value)(tt:TypeId)(fr:Nat×Nat)(M:World)(g':Gh),(execOp a.eval o).run L.P w=.ok (.value (.slice (some ⟨aw,0,none⟩) (xs.length+1) cap)) M/\
   M.heap[aw]?=some (.cells r tt fr)/\fr.2<=xs.length*i.size/\xs.length*i.size+i.size<=r.size/\aw∉g.bk/\(∀b,b∈g.bk->M.heap[b]?=w.heap[b]?)/\
   Step g rl w g' (rl.set c (xs.length+1,key)) (M.setRow aw (r.toList.take (xs.length*i.size)++l++r.toList.drop (xs.length*i.size+l.length)).toArray)/\
   aY L g' nb bx (rl.set c (xs.length+1,key)) (M.setRow aw (r.toList.take (xs.length*i.size)++l++r.toList.drop (xs.length*i.size+l.length)).toArray)/\
   VR L g' (rl.set c (xs.length+1,key)) (M.setRow aw (r.toList.take (xs.length*i.size)++l++r.toList.drop (xs.length*i.size+l.length)).toArray) (.aO (xs++[ds]) (.row c)) (.slice (some ⟨aw,0,none⟩) (xs.length+1) cap):=by
  intro sJ F hF ep t1;obtain⟨q1,q2,q3⟩:=ND (g:=g) (w:=w) (e:=e) (sJ:=sJ) t5 T D hF ae ep ez A h.sh.fresh (g.rw.set c (some w.heap.size)) _ rfl;simp only[aZ,bc,dK]at q1 q2 q3;generalize a2:grownCap w (xs.length+1) sJ e=Y at*
  have s:=Step.TZ (g:=g) (rl:=rl) (bz:=rl.set c (xs.length+1,key)) (w:=w) (.cells (F.toArray++l.toArray++Builtin.zeroCells z.cells (Y-(xs.length+1))) e)
   ((xs.length+1)*i.size) (g.rw.set c (some w.heap.size)) h.sh.fresh J el
  have X:=h.sh.TZ (e:=key) (by rw[d];exact s) ef e4 om om t7 (by rw[q1,d];exact k7 _ q2) Q ey;rw[d]at X;have ai:=heap_alloc_new w.drew (.cells (F.toArray++E.toArray++Builtin.zeroCells z.cells (Y-(xs.length+1))) e)
  have Z:((F.toArray++E.toArray++Builtin.zeroCells z.cells (Y-(xs.length+1))).toList.take (xs.length*i.size)++l++(F.toArray++E.toArray++Builtin.zeroCells z.cells (Y-(xs.length+1))).toList.drop (xs.length*i.size+l.length)).toArray=
    F.toArray++l.toArray++Builtin.zeroCells z.cells (Y-(xs.length+1)):=by
   have em:=CY F E (Builtin.zeroCells z.cells (Y-(xs.length+1))).toList l hF (by rw[G,e6]);apply nD;simpa only[Array.toList_append]using em
  have hw:(w.drew.alloc (.cells (F.toArray++E.toArray++Builtin.zeroCells z.cells (Y-(xs.length+1))) e)).setRow w.heap.size (F.toArray++l.toArray++Builtin.zeroCells z.cells (Y-(xs.length+1)))=
    w.drew.alloc (.cells (F.toArray++l.toArray++Builtin.zeroCells z.cells (Y-(xs.length+1))) e):=xR w.drew _ _ e
  refine⟨w.heap.size,Y,_,e,(0,0),_,g.row w.heap.size ((xs.length+1)*i.size) (g.rw.set c (some w.heap.size)),t1,ai,cr _,?_,fun hb=>?_,fun b hb=>?_,?_⟩
  .grind
  .have:=h.sh.qf hb;omega
  .have a3:=h.sh.qf hb;show(w.heap.push _)[b]?=_;grind
  .rw[Z,hw];refine⟨s,X,.aO _ _ _ q3 ⟨xs.length+1,key,U,fun x hx=>by rw[d];exact(nA.1 hx).elim (T x) (D x),by simp,fun _=> .inr ⟨w.heap.size,Y,e,by simp,Q.2,?_⟩⟩⟩;have hh:(w.drew.alloc (.cells (F.toArray++l.toArray++Builtin.zeroCells z.cells (Y-(xs.length+1))) e)).heap[w.heap.size]?=some (.cells (F.toArray++l.toArray++Builtin.zeroCells z.cells (Y-(xs.length+1))) e):=heap_alloc_new w.drew _;simp only[World.shape?,hh,q1,d]
 rcases h3 trivial with⟨V,B⟩|⟨S,m,tt,V,B,C⟩
 .have ee:xs=[]:=by
   rcases lM tw with⟨h1,_⟩|⟨aw,off,cap,es,f,hc,_⟩
   .exact h1
   .rw[V]at hc;cases hc
  have hr:=oA L.P w t t o.type e i z ht hi hz _ 1 E e7 om si (by have:=Nat.le_mul_of_pos_left i.bytes (show 0<xs.length+1 by omega);omega);refine e1 0 [] (by simp[ee]) (fun p j x y hp=>by simp[ee]at hp) ?_;rw[kS ho,te,V,hr];simp[ee]
 .obtain⟨an,e2⟩:=h.sh.row c _ _ e5;simp only[vB e4,d]at e2;rcases e2 with⟨O,_⟩|⟨ap,r,I,H,O,v,et,a4,e3,N⟩
  .rw[B]at O;cases O
  .rw[B]at O;cases O
   have t2:r.size=m*i.size:=by
    simp only[World.shape?,v,qZ,vh]at C;exact C.2
   rcases la tw i.size T with⟨ee,a0,ti⟩|⟨a5,xo,ah,F,ti,a6,ar,ag,hF,t3,a8,ep⟩
   .exact absurd N.2.1 (by rw[ee];simp)
   .rw[V]at ti;cases ti;by_cases eo:xs.length+1<=m
    .have t4:xs.length*i.size+i.size<=r.size:=by
      rw[t2];have:=k7 i.size eo;rw[jb]at this;omega
     have hr:=sf L.P w t t o.type e i ht hi S xs.length m r I H N.1 v _ 1 E e7 t9 eo om;have R:(r.toList.take (xs.length*i.size)++l++r.toList.drop (xs.length*i.size+l.length)).toArray.size=r.size:=by simp;omega
     have ej:(r.toList.take (xs.length*i.size)++E++r.toList.drop (xs.length*i.size+E.length)).toArray.size=r.size:=by simp;omega
     have al:F=r.toList.take (xs.length*i.size):=by
      apply Cq;intro q;by_cases hq:q<xs.length*i.size
      .rw[jC hq];have h5:=t3 q _ (dw om);rw[dK,cell_of_row w S q r I H v]at h5;grind
      grind
     have a9:(xs.length+1)*i.size=xs.length*i.size+i.size:=by rw[jb];omega
     have s:=Step.LB (g:=g) (rl:=rl) (bz:=rl.set c (xs.length+1,key)) (n:=(xs.length+1)*i.size) (cP.2 ⟨c,B⟩) r _ I H v R
      (by rw[et];omega) (fun q hq=>by
       rw[et]at hq;rw[tP,ga,gL (by simp;omega),jC hq];simp) K
     have X:=h.sh.LB (k:=c) (e:=key) v (by rw[d];omega) e4 (N.2.2.2.1.1 om) (by rw[d];exact s) si om om N.2.2.1 (by rw[R,d];omega) ⟨U,B⟩ (fun j hj=>jE (k8 hj));rw[d]at X
     have am:(execOp a.eval o).run L.P w=.ok (.value (.slice (some ⟨S,0,none⟩) (xs.length+1) m)) (w.setRow S (r.toList.take (xs.length*i.size)++E++r.toList.drop (xs.length*i.size+E.length)).toArray):=by
      rw[kS ho,te,V,hr];rfl
     have Z:((r.toList.take (xs.length*i.size)++E++r.toList.drop (xs.length*i.size+E.length)).toArray.toList.take (xs.length*i.size)++l++(r.toList.take (xs.length*i.size)++E++r.toList.drop (xs.length*i.size+E.length)).toArray.toList.drop (xs.length*i.size+l.length)).toArray=
       (r.toList.take (xs.length*i.size)++l++r.toList.drop (xs.length*i.size+l.length)).toArray:=by
      congr 1;have em:=CY (r.toList.take (xs.length*i.size)) E (r.toList.drop (xs.length*i.size+E.length)) l (k:=xs.length*i.size) (by simp;omega) (by rw[G,e6]);have eg:l.length=E.length:=by rw[G,e6]
      rw[eg]at em⊢;exact em
     refine⟨S,m,_,I,H,_,g.row S ((xs.length+1)*i.size) g.rw,am,setRow_heap w S r _ I H v,N.1,by rw[ej];exact t4,e3,fun b hb=>setRow_other w S b _ (fun hq=>e3 (hq▸hb)),?_⟩;rw[Z,setRow_setRow];refine⟨s,X,.aO (xs++[ds]) (.row c) _ ?_ ⟨_,_,U,fun x hx=>by rw[d];exact(nA.1 hx).elim (T x) (D x),by simp,fun _=> .inr ⟨S,m,I,by simp,B,?_⟩⟩⟩
     .have hl:(xs++[ds]).length=xs.length+1:=by simp
      have:=nN (mk:=(g.row S ((xs.length+1)*i.size) g.rw).bD) (w:=w.setRow S (r.toList.take (xs.length*i.size)++l++r.toList.drop (xs.length*i.size+l.length)).toArray)
       (xs:=xs++[ds]) (aw:=S) (off:=0) (cap:=m) (es:=i.size) (F:=F++l) (by simpa using A) om (fun x af=>(nA.1 af).elim (T x) (D x))
       (by simp[Gh.row]) (by simp[hF,G,jb]) (fun j u hj=>by
        rw[cell_setRow_same w S _ r _ I H v,dK,tP,<-al,gL (bV.1 hj).1];exact hj)
       (zP hF ep ez fun y u hd=>hd.bj s.bD s.cell)
      rw[hl]at this;exact this
     .simp only[World.shape?,setRow_heap w S r _ I H v,R,t2,d]
    .have hr:=lA L.P w t t o.type e i z ht hi hz ⟨S,0,none⟩ xs.length m F hF (fun j u hj=>by rw[Addr.add_lit];exact t3 j u hj) _ 1 E e7
      om aa (growslice_fits om ei)
     refine e1 m F hF ep ?_;rw[kS ho,te,V,hr];rfl
structure TD where
 o8:Oper
 o9:Oper
 Et:Oper
 Eu:Oper
 Ew:Oper
 x:Operand
 nn:Operand
 y:Operand
 v:Operand
 base:Operand
 t:TypeId
 e:TypeId
 s:TypeId
 th:TypeId
 i:TypeInfo
 ih:TypeInfo
 fi:TypeInfo
 z:Value
 fs:Array Field
 f:Field
 fj:Nat
structure GH(L:Lk)(n:Nat)(ops:Array Oper)(p:Nat)(T:uI)(D:TD):Prop where
 size:ops.size=p+5
 h8:ops[p]?=some D.o8
 h9:ops[p+1]?=some D.o9
 yu:ops[p+2]?=some D.Et
 Dm:ops[p+3]?=some D.Eu
 Fq:ops[p+4]?=some D.Ew
 op8:D.o8.op=.call {callee:=.builtin .append,args:=#[D.x,D.y],argTypes:=#[D.t,D.t]}
 op9:D.o9.op=.indexAddr D.t (.tmp T.d) D.nn
 aim:D.Et.op=.store D.e (.tmp T.e) D.v
 ain:D.Eu.op=.fieldAddr D.s D.base D.fj
 aio:D.Ew.op=.store D.th (.tmp T.q) (.tmp T.d)
 d8:D.o8.dst=some T.d
 d9:D.o9.dst=some T.e
 d10:D.Et.dst=none
 d11:D.Eu.dst=some T.q
 d12:D.Ew.dst=none
 g8:D.o8.guard=none
 g9:D.o9.guard=none
 g10:D.Et.guard=none
 g11:D.Eu.guard=none
 g12:D.Ew.guard=none
 ht:L.P.underlying D.t=some (.slice D.e)
 hi:L.P.info? D.e=some D.i
 hz:D.i.zero=some D.z
 yF:D.z.cells.size=D.i.size
 eP:0<D.i.size
 pM:0<D.i.bytes
 ahY:T.md≠0->D.i.size<1000/\ZR T.z D.z/\D.e=L.tn (T.md/10)
 kM:gw (oR T.z D.i.size)=D.i.size
 Ky:oR T.z D.i.size=1000->D.e=L.u8
 dF:T.es=D.i.size
 xl:T.bytes=D.i.bytes
 hx:cQ L D.x T.x
 hn:cQ L D.nn T.n
 hy:cQ L D.y T.y
 hv:cQ L D.v T.v
 wz:cQ L D.base T.base
 hs:L.P.underlying D.s=some (.struct D.fs)
 hf:D.fs[D.fj]?=some D.f
 IK:L.P.info? D.f.type=some D.fi
 cz:D.fi.size≠0
 yB:D.f.offset=T.off
 hth:L.P.info? D.th=some D.ih
 hih:D.ih.size=1
 ltd:T.d<n
 lte:T.e<n
 ltq:T.q<n
 de:T.d≠T.e
 dq:T.d≠T.q
 eq:T.e≠T.q
 nnd:D.nn≠.tmp T.d
 nne:D.nn≠.tmp T.e
 nnq:D.nn≠.tmp T.q
 vd:D.v≠.tmp T.d
 ve:D.v≠.tmp T.e
 vq:D.v≠.tmp T.q
 bd:D.base≠.tmp T.d
 be:D.base≠.tmp T.e
 bq:D.base≠.tmp T.q
 e8:∀i,i<p->∃e,e∈D.o8.after/\Region.binds .any e=true/\e.on=i
 e9:∃e,e∈D.o9.after/\Region.binds .any e=true/\e.on=p
 e10:∃e,e∈D.Et.after/\Region.binds .any e=true/\e.on=p+1
 e11:∃e,e∈D.Eu.after/\Region.binds .any e=true/\e.on=p
 e12:∃e,e∈D.Ew.after/\Region.binds .any e=true/\e.on=p+3
 back:∀(j:Nat)(o:Oper)(e:Edge),p<=j->ops[j]?=some o->e∈o.after->Region.binds .any e=true->e.on<j
theorem sZ{d:Nat}{v:Value}(h:d<a.tmps.size):(a.put (some d) v).eval (.tmp d)=v:=by
 simp[Act.put,Act.eval,h]
theorem og{d:Nat}{v:Value}(h:x≠.tmp d):(a.put (some d) v).eval x=a.eval x:=
 Act.eval_put fun t e=>by cases e;exact h
theorem QU(w:World)(a b:Nat)(h:a≠b)(x y:Array Value):(w.setRow a x).setRow b y=(w.setRow b y).setRow a x:=by
 unfold World.setRow;congr 1;apply vM
 .simp
 .intro i o n;simp only[Array.getElem_modify];by_cases t:b=i
  .have:a≠i:=fun e=>h (e.trans t.symm)
   simp[t,this]
  .simp[t]
def uk(b:Bool):Nat:=if b=true then 0 else 1
section chain
variable{ops:Array Oper}{p:Nat}{T:uI}{D:TD}{Q:Exit->Act->World->Prop}
set_option maxHeartbeats 1000000 in
theorem chain(R:GH L n ops p T D)(A:Bool->Bool->Act)(W:Bool->Bool->World)(K J:Value)(r9:∀b z E,(execOp (A false b).eval D.o9).run L.P (W z E)=.ok (.value K) (W z E))(a9:∀b,(A false b).put (some T.e) K=A true b)(et:∀b z,(execOp (A true b).eval D.Et).run L.P (W false z)=.ok .skip (W true z))(eo:∀b z E,(execOp (A b false).eval D.Eu).run L.P (W z E)=.ok (.value J) (W z E))(ei:∀b,(A b false).put (some T.q) J=A b true)(ed:∀b z,(execOp (A b true).eval D.Ew).run L.P (W z false)=.ok .skip (W z true))(hQ:Q .normal (A true true) (W true true)):
  ∀(f:Nat)(x s l d:Bool)(listed:Array Bool),listed.size=ops.size->(∀i,i<=p->cZ listed i=true)->cZ listed (p+1)=x->cZ listed (p+2)=s->cZ listed (p+3)=l->cZ listed (p+4)=d->
   (s=true->x=true)->(d=true->l=true)->uk x+uk s+uk l+uk d<=f->wpAny L.P .any ops Q f listed (A x l) (W s d):=by
 have ef:=R.size
 have N:∀listed:Array Bool,listed.size=ops.size->(∀i,i<ops.size->cZ listed i=true)->Region.ready .any ops listed=[]:=by
  intro listed S c;cases hr:Region.ready .any ops listed with
  |nil=>rfl
  |cons j r=>
   exfalso;obtain⟨g,o,I,_⟩:=mem_ready.1 (show j∈Region.ready .any ops listed by rw[hr];exact iE ..);have hj:=(nx.1 I).1;have y:=c j hj;have Y:j<listed.size:=by omega
   simp only[cZ,dJ,dZ Y]at g y;simp at g y;rw[g]at y;cases y
 have H:∀listed:Array Bool,listed.size=ops.size->(∀i,i<=p->cZ listed i=true)->Region.ready .any ops listed=[]->∀i,i<ops.size->cZ listed i=true:=by
  intro listed S u O i
  induction i using Nat.strongRecOn with
  |ind i G=>
   intro hi;by_cases hp:i<=p
   .exact u i hp
   cases hb:cZ listed i with
   |true=>rfl
   |false=>
    exfalso
    have:i∈Region.ready .any ops listed:=by
     refine mem_ready.2 ⟨?_,ops[i],dZ _,fun e he el=>?_⟩
     .have Y:i<listed.size:=by omega
      simp only[cZ,dJ,dZ Y]at hb⊢;exact hb
     .have:=R.back i _ e om (dZ hi) he el;exact G e.on this om
    rw[O]at this;cases this
 have X:∀listed:Array Bool,(∀i,i<=p->cZ listed i=true)->cZ listed (p+1)=true->cZ listed (p+2)=true->cZ listed (p+3)=true->cZ listed (p+4)=true->∀i,i<ops.size->cZ listed i=true:=by
  intro listed h0 g I y C i hi;by_cases hp:i<=p
  .exact h0 i hp
  .have:i=p+1\/i=p+2\/i=p+3\/i=p+4:=by omega
   rcases this with rfl|rfl|rfl|rfl<;>assumption
 intro f
 induction f with
 |zero=>
  intro x s l d listed S u g I y C k1 k2 hf;have M:x=true:=by cases x with|true=>rfl|false=>(have V:uk false=1:=rfl;omega)
  have e10:s=true:=by cases s with|true=>rfl|false=>(have V:uk false=1:=rfl;omega)
  have w:l=true:=by cases l with|true=>rfl|false=>(have V:uk false=1:=rfl;omega)
  have e12:d=true:=by cases d with|true=>rfl|false=>(have V:uk false=1:=rfl;omega)
  subst M;subst e10;subst w;subst e12;exact⟨N listed S (X listed u g I y C),hQ⟩
 |succ f G=>
  intro x s l d listed S u g I y C k1 k2 hf;refine⟨fun O=>?_,fun i hi=>?_⟩
  .have c:=H listed S u O;have M:=c (p+1) om;rw[g]at M;have e10:=c (p+2) om;rw[I]at e10;have w:=c (p+3) om;rw[y]at w;have e12:=c (p+4) om;rw[C]at e12;subst M;subst e10;subst w;subst e12;exact hQ
  .obtain⟨Z,o,U,em⟩:=mem_ready.1 hi;have ey:=(nx.1 U).1;have ee:i<listed.size:=by omega
   have k:cZ listed i=false:=by
    simp only[cZ,dJ,dZ ee]at Z⊢;exact Z
   have t:=oh (listed:=listed) (i:=i) ee
   have ep:p<i:=by
    rcases nC p i with h|h
    .exact h
    .rw[u i h]at k;cases k
   have m:∀j,j<=p->cZ (listed.setIfInBounds i true) j=true:=fun j hj=>by rw[t];simp only;rw[if_neg om];exact u j hj
   have F:∀(oo:Oper)(q:Nat),o=oo->(∃e,e∈oo.after/\Region.binds .any e=true/\e.on=q)->cZ listed q=true:=by
    rintro oo q rfl ⟨e,q1,q2,rfl⟩;exact em e q1 q2
   have v:∀a:Act,o.guard=none->Region.wanted o (yielded ops a.tmps)=true:=fun a hg=>by simp[Region.wanted,hg]
   have B:i=p+1\/i=p+2\/i=p+3\/i=p+4:=by omega
   rcases B with rfl|rfl|rfl|rfl
   .rw[R.h9]at U;cases U;have M:x=false:=by rw[<-g];exact k
    subst M;have e10:s=false:=by cases s with|false=>rfl|true=>exact absurd (k1 rfl) si
    subst e10;unfold wpOp;rw[R.h9];simp only;rw[v _ R.g9];simp only[if_true];refine .inl (aW (r9 _ _ _) ?_);rw[R.d9,a9];refine G true false l d _ (by simpa using S) m ?_ ?_ ?_ ?_ (fun h=>by cases h) k2 (by have ft:uk true=0:=rfl;have V:uk false=1:=rfl;omega)
    .rw[t];simp
    .rw[t];simp only;rw[if_neg om];exact I
    .rw[t];simp only;rw[if_neg om];exact y
    .rw[t];simp only;rw[if_neg om];exact C
   .rw[R.yu]at U;cases U;have e10:s=false:=by rw[<-I];exact k
    subst e10;have M:x=true:=by rw[<-g];exact F _ _ rfl R.e10
    subst M;unfold wpOp;rw[R.yu];simp only;rw[v _ R.g10];simp only[if_true];refine .inl (nO (et _ _) ?_);rw[R.d10];refine G true true l d _ (by simpa using S) m ?_ ?_ ?_ ?_ (fun h=>rfl) k2 (by have ft:uk true=0:=rfl;have V:uk false=1:=rfl;omega)
    .rw[t];simp only;rw[if_neg om];exact g
    .rw[t];simp
    .rw[t];simp only;rw[if_neg om];exact y
    .rw[t];simp only;rw[if_neg om];exact C
   .rw[R.Dm]at U;cases U;have w:l=false:=by rw[<-y];exact k
    subst w;have e12:d=false:=by cases d with|false=>rfl|true=>exact absurd (k2 rfl) si
    subst e12;unfold wpOp;rw[R.Dm];simp only;rw[v _ R.g11];simp only[if_true];refine .inl (aW (eo _ _ _) ?_);rw[R.d11,ei];refine G x s true false _ (by simpa using S) m ?_ ?_ ?_ ?_ k1 (fun h=>by cases h) (by have ft:uk true=0:=rfl;have V:uk false=1:=rfl;omega)
    .rw[t];simp only;rw[if_neg om];exact g
    .rw[t];simp only;rw[if_neg om];exact I
    .rw[t];simp
    .rw[t];simp only;rw[if_neg om];exact C
   .rw[R.Fq]at U;cases U;have e12:d=false:=by rw[<-C];exact k
    subst e12;have w:l=true:=by rw[<-y];exact F _ _ rfl R.e12
    subst w;unfold wpOp;rw[R.Fq];simp only;rw[v _ R.g12];simp only[if_true];refine .inl (nO (ed _ _) ?_);rw[R.d12];refine G x s true true _ (by simpa using S) m ?_ ?_ ?_ ?_ k1 (fun h=>rfl) (by have ft:uk true=0:=rfl;have V:uk false=1:=rfl;omega)
    .rw[t];simp only;rw[if_neg om];exact g
    .rw[t];simp only;rw[if_neg om];exact I
    .rw[t];simp only;rw[if_neg om];exact y
    .rw[t];simp
end chain
set_option maxHeartbeats 2000000 in
theorem LU{ops:Array Oper}{p:Nat}{T:uI}{D:TD}{Q:Exit->Act->World->Prop}(R:GH L n ops p T D){env:Env}{K:St->Prop}{S:World}{listed:Array Bool}{z len aw cap j ty I:Nat}{l:Array Value}{tt:TypeId}{fr:Nat×Nat}{cs:List AV}{av:AV}{kd:IntKind}{m:Int}(h:dx L n g ⟨env,nb,bx,rl⟩ a w)(t2:a.eval D.nn=.int kd m)(t3:m=len)(ey:(a.eval D.v).cells.size=D.i.size)(ep:∀u,u∈(a.eval D.v).cells.toList->u.oneCell'=true)(t4:a.eval D.base=.pointer (some ⟨I,j,none⟩))(B:g.bk[b]?=some I)(eg:bx[b]?=some (.var ty cs))(yB:j+T.off<cs.length)(et:(execOp a.eval D.o8).run L.P w=.ok (.value (.slice (some ⟨aw,0,none⟩) (len+1) cap)) S)(ej:S.heap[aw]?=some (.cells l tt fr))(t5:fr.2<=len*D.i.size)(aj:len*D.i.size+D.i.size<=l.size)(ez:aw∉g.bk)(e1:∀b,b∈g.bk->S.heap[b]?=w.heap[b]?)(E:Step g rl w g' bz (S.setRow aw (l.toList.take (len*D.i.size)++(a.eval D.v).cells.toList++l.toList.drop (len*D.i.size+(a.eval D.v).cells.toList.length)).toArray))(t6:aY L g' nb bx bz (S.setRow aw (l.toList.take (len*D.i.size)++(a.eval D.v).cells.toList++l.toList.drop (len*D.i.size+(a.eval D.v).cells.toList.length)).toArray))(e2:VR L g' bz (S.setRow aw (l.toList.take (len*D.i.size)++(a.eval D.v).cells.toList++l.toList.drop (len*D.i.size+(a.eval D.v).cells.toList.length)).toArray) av (.slice (some ⟨aw,0,none⟩) (len+1) cap))(hk:K ⟨(T.q,.ptr b (j+T.off))::(T.e,.bM)::(T.d,av)::env,nb,bx.set b (.var ty (cs.take (j+T.off)++[av]++cs.drop (j+T.off+1))),bz⟩)(hl:listed.size=ops.size)(Y:∀i,i<p->cZ listed i=true)(M:∀i,p<=i->cZ listed i=false)(t7:5<=z)(k:∀(σ':St)(g':Gh)(a':Act)(w':World),Step g rl w g' σ'.rl w'->dx L n g' σ' a' w'->K σ'->Q .normal a' w'):wpAny L.P .any ops Q z listed a w:=by
 have t8:(a.eval D.v).cells.toList.length=D.i.size:=by simp[ey]
 obtain⟨ax,O,ta,hh,cz,t9,a0⟩:=h.sh.box b _ I eg B;have X:I∈g.bk:=cP.2 ⟨b,B⟩;have ei:aw≠I:=fun e=>ez (e▸X)
 generalize ae:(l.toList.take (len*D.i.size)++(a.eval D.v).cells.toList++l.toList.drop (len*D.i.size+(a.eval D.v).cells.toList.length)).toArray=R1 at*;generalize el:Value.slice (some ⟨aw,0,none⟩) (len+1) cap=V at*;let c:Value:=.pointer (some ⟨aw,len*D.i.size,none⟩);let H:Value:=.pointer (some ⟨I,j+T.off,none⟩);let C:=a.put (some T.d) V;let A:Bool->Bool->Act:=fun b9 aa=>cond aa ((cond b9 (C.put (some T.e) c) C).put (some T.q) H) (cond b9 (C.put (some T.e) c) C)
 let W:Bool->Bool->World:=fun e3 ao=>cond ao ((cond e3 (S.setRow aw R1) S).setRow I (O.setIfInBounds (j+T.off) V)) (cond e3 (S.setRow aw R1) S)
 have G:C.tmps.size=n:=by simp[C,Act.put,h.size]
 have ai:(C.put (some T.e) c).tmps.size=n:=by simp[Act.put,G]
 have Z:∀{s q:Nat},s≠q->Operand.tmp s≠.tmp q:=fun h e=>h (by cases e;rfl)
 have ed:∀b t,(A b t).eval (.tmp T.d)=V:=fun b t=>by
  have F:C.eval (.tmp T.d)=V:=sZ (by rw[h.size];exact R.ltd);cases b<;>cases t
  .exact F
  .exact(og (Z R.dq)).trans F
  .exact(og (Z R.de)).trans F
  .exact(og (Z R.dq)).trans ((og (Z R.de)).trans F)
 have ee:∀t,(A true t).eval (.tmp T.e)=c:=fun t=>by
  have F:(C.put (some T.e) c).eval (.tmp T.e)=c:=sZ (by rw[G];exact R.lte);cases t
  .exact F
  .exact(og (Z R.eq)).trans F
 have e4:∀b,(A b true).eval (.tmp T.q)=H:=fun b=>by
  cases b
  .exact sZ (by show T.q<C.tmps.size;rw[G];exact R.ltq)
  .exact sZ (by show T.q<(C.put (some T.e) c).tmps.size;rw[ai];exact R.ltq)
 have eo:∀(x:Operand)b t,x≠.tmp T.d->x≠.tmp T.e->x≠.tmp T.q->(A b t).eval x=a.eval x:=fun x b t N U h3=>by
  have F:C.eval x=a.eval x:=og N;cases b<;>cases t
  .exact F
  .exact(og h3).trans F
  .exact(og U).trans F
  .exact(og h3).trans ((og U).trans F)
 have an:∀t,(W false t).heap[aw]?=some (.cells l tt fr):=fun t=>by
  cases t
  .exact ej
  .exact(setRow_other S I aw _ ei).trans ej
 have e5:S.heap[I]?=some (.cells O ta (0,0)):=(e1 I X).trans hh
 have e6:∀t,(W t false).heap[I]?=some (.cells O ta (0,0)):=fun t=>by
  cases t
  .exact e5
  .exact(setRow_other S aw I _ (k8 ei)).trans e5
 have e7:(O.toList.take (j+T.off)++[V]++O.toList.drop (j+T.off+1)).toArray=O.setIfInBounds (j+T.off) V:=by
  apply nD;rw[Rr,W3,if_pos (by simp[cz];omega)];simp
 obtain⟨z,rfl⟩:∃f,z=f+1:=⟨z-1,by omega⟩;have ah:=R.size
 have ar:wpAny L.P .any ops Q z (listed.setIfInBounds p true) (A false false) (W false false):=by
  refine chain R A W c H ?_ ?_ ?_ ?_ ?_ ?_ ?_ z false false false false _ (by simpa using hl) (fun i hi=>?_) ?_ ?_ ?_ ?_ (fun h=>by cases h) (fun h=>by cases h) (by have ff:uk false=1:=rfl;omega)
  .intro b t al;have N:=ed false b;have U:=(eo D.nn false b R.nnd R.nne R.nnq).trans t2;generalize A false b=A1 at N U⊢;rw[<-el]at N;simp[execOp,R.op9,N,U,Instr.indexAt,asIntOf,underlying,R.ht,t3,sizeOf,typeInfo,R.hi,Addr.add_lit,c]
  .intro b;cases b
   .rfl
   .exact Act.put_comm C (x:=some T.q) (y:=some T.e) H c (fun d hd e=>R.eq (vf (e.trans hd.symm)))
  .intro b t;have N:=ee b;have U:=eo D.v true b R.vd R.ve R.vq;have r:=n8 (P:=L.P) aw (len*D.i.size) tt fr t5 (a.eval D.v).cells.toList 0 l (W false t) (an t) (by rw[t8];omega) ep;simp only[iU]at r;rw[ae]at r
   have hw:(W false t).setRow aw R1=W true t:=by
    cases t
    .rfl
    .exact QU S I aw (k8 ei) _ _
   rw[hw]at r;generalize A true b=A1 at N U⊢;generalize W false t=W1 at r⊢;generalize W true t=W2 at r⊢;have em:(a.eval D.v).cells.size=D.i.size:=ey;simp[execOp,R.aim,N,U,Instr.storeAt,Instr.sureAddr,storeVar,sizeOf,typeInfo,R.hi,em,r,c]
  .intro b t al;have N:=(eo D.base b false R.bd R.be R.bq).trans t4;generalize A b false=A1 at N⊢;simp[execOp,R.ain,N,Instr.fieldAt,underlying,R.hs,R.hf,Instr.sureAddr,fieldPlace,sizeOf,typeInfo,R.IK,R.cz,Addr.add_lit,R.yB,H]
  .intro b;rfl
  .intro b t;have N:=e4 b;have U:=ed b true;have r:=run_storeCells_at L.P I (j+T.off) ta [V] 0 O (W t false) (e6 t) (by simp[cz];omega) (fun u hu=>by simp at hu;rw[hu,<-el];rfl);simp only[iU,aZ,bc,dK]at r;rw[e7]at r;have hw:(W t false).setRow I (O.setIfInBounds (j+T.off) V)=W t true:=rfl;rw[hw]at r;generalize A b true=A1 at N U⊢;generalize W t false=W1 at r⊢;generalize W t true=W2 at r⊢;have em:V.cells=#[V]:=by rw[<-el];rfl
   simp[execOp,R.aio,N,U,Instr.storeAt,Instr.sureAddr,storeVar,sizeOf,typeInfo,R.hth,R.hih,em,r,H]
  .obtain⟨s2,te⟩:=OC (L:=L) t6 (i:=b) (b:=I) (ty:=ty) (o:=j+T.off) (cs:=cs) (x:=av) (v:=V) (E.bk _ _ B) eg yB e2;have ti:(S.setRow aw R1).heap[I]?=some (.cells O ta (0,0)):=e6 true;rw[F0 ti]at s2 te
   have ts:cs.take (j+T.off)++[av]++cs.drop (j+T.off+1)=cs.set (j+T.off) (av):=by
    rw[W3,if_pos yB];simp
   rw[ts]at hk;refine k _ g' _ _ (E.trans s2) ⟨?_,?_,fun s=>?_,te⟩ hk
   .exact h.defers
   .show((C.put (some T.e) c).put (some T.q) H).tmps.size=n;simp only[Act.put,Rb];exact G
   .show VR L g' _ _ (look ((T.q,.ptr b (j+T.off))::(T.e,.bM)::(T.d,av)::env) s) ((A true true).tmps.getD s undef);have am:(A true true).tmps.getD s undef=(A true true).eval (.tmp s):=rfl;rw[am,aE];by_cases N:T.q=s
    .subst N;rw[if_pos rfl,e4 true];exact .ptr b _ I (s2.bk _ _ (E.bk _ _ B))
    rw[if_neg N,aE];by_cases U:T.e=s
    .subst U;rw[if_pos rfl];exact .bM _
    rw[if_neg U,aE];by_cases h3:T.d=s
    .subst h3;rw[if_pos rfl,ed true true];exact e2.bj s2
    rw[if_neg h3,eo (.tmp s) true true (Z (k8 h3)) (Z (k8 U)) (Z (k8 N))];exact(h.slot s).bj (E.trans s2)
  .rw[oh om];simp only;split
   .rfl
   .exact Y i om
  .rw[oh om];simp only;rw[if_neg om];exact M _ om
  .rw[oh om];simp only;rw[if_neg om];exact M _ om
  .rw[oh om];simp only;rw[if_neg om];exact M _ om
  .rw[oh om];simp only;rw[if_neg om];exact M _ om
 have tw:cZ listed p=false:=M p (aQ _);have af:p<listed.size:=by omega
 refine⟨fun tb=>?_,fun i hi=>?_⟩
 .exfalso
  have:p∈Region.ready .any ops listed:=by
   refine mem_ready.2 ⟨?_,D.o8,R.h8,fun e he ay=>?_⟩
   .simp only[cZ,dJ,dZ af]at tw⊢;exact tw
   .exact Y e.on (R.back p _ e (aQ _) R.h8 he ay)
  rw[tb]at this;cases this
 .obtain⟨tg,o,J,ap⟩:=mem_ready.1 hi;have a1:=(nx.1 J).1;have ag:i<listed.size:=by omega
  have t0:cZ listed i=false:=by
   simp only[cZ,dJ,dZ ag]at tg⊢;exact tg
  have a2:p<=i:=by
   rcases nC i p with h|h
   .rw[Y i h]at t0;cases t0
   .exact h
  have no:∀(oo:Oper)(q:Nat),p<=q->o=oo->(∃e,e∈oo.after/\Region.binds .any e=true/\e.on=q)->False:=by
   rintro oo q hq rfl ⟨e,q1,q2,rfl⟩;have h4:cZ listed e.on=true:=ap e q1 q2;rw[M _ hq]at h4;cases h4
  have ef:i=p\/i=p+1\/i=p+2\/i=p+3\/i=p+4:=by omega
  rcases ef with rfl|rfl|rfl|rfl|rfl
  .unfold wpOp;rw[R.h8];simp only;rw[show Region.wanted D.o8 (yielded ops a.tmps)=true by simp[Region.wanted,R.g8]];simp only[if_true];refine .inl (aW et ?_);rw[R.d8];exact ar
  .rw[R.h9]at J;cases J;exact(no _ _ om rfl R.e9).elim
  .rw[R.yu]at J;cases J;exact(no _ _ om rfl R.e10).elim
  .rw[R.Dm]at J;cases J;exact(no _ _ om rfl R.e11).elim
  .rw[R.Fq]at J;cases J;exact(no _ _ om rfl R.e12).elim
set_option maxHeartbeats 2000000 in
theorem Ix{ops:Array Oper}{p:Nat}{T:uI}{D:TD}{Q:Exit->Act->World->Prop}(R:GH L n ops p T D){σ:St}{K:St->Prop}{listed:Array Bool}{eo:Nat}(e:evT L.gl T σ K)(h:dx L n g σ a w)(hl:listed.size=ops.size)(ei:∀i,i<p->cZ listed i=true)(ts:∀i,p<=i->cZ listed i=false)(N:5<=eo)(k:∀(σ':St)(g':Gh)(a':Act)(w':World),Step g σ.rl w g' σ'.rl w'->dx L n g' σ' a' w'->K σ'->Q .normal a' w'):wpAny L.P .any ops Q eo listed a w:=by
 obtain⟨an,nb,bx,rl⟩:=σ;have X:=R.hx.val h;have S:=R.hn.val h;have ed:=R.hy.val h;have el:=R.hv.val h;have H:=R.wz.val h;simp only at X S ed el H;have ah:=h.sh;unfold evT at e;dsimp only at e;split at e
 .rename_i md ar;unfold ahR at e;dsimp only at e;split at e
  rotate_left
  .exact e.elim
  rename_i kd m hm;rw[hm]at S;obtain⟨em,_⟩:=S.fV;obtain⟨ys,e,ef⟩:=wv ed _ e;unfold Yb at e;split at e
  rotate_left
  .exact e.elim
  rename_i y0;obtain⟨ey,e⟩:=kQ _ _ _ e;obtain⟨xs,t0,e⟩:=abj _ _ e;obtain⟨ep,e⟩:=e;obtain⟨vs,eg,l,ej,O⟩:=k9 el _ e;obtain⟨U,ez⟩:=kQ _ _ _ eg;obtain⟨c1,c2,c3⟩:=R.ahY om;rw[R.dF]at*;have E:∀y,y∈[y0]->y.length=D.i.size:=fun y hy=>by simp at hy;rw[hy];exact ey
  have sH:∃d,L.P.underlying D.t=some d/\∀k,d≠.int k:=⟨_,R.ht,fun k h=>by cases h⟩;rcases la ef D.i.size E with⟨C,_⟩|⟨yb,yo,f,G,e1,t1,e2,tw,hG,M,e3,t2⟩
  .cases C
  have e4:sP L.P w D.t (a.eval D.y) D.i.size 1 G:=by
   rw[e1]
   exact⟨sH,fun w'=>rfl,run_firstCells_some (P:=L.P) w D.i.size 1 ⟨yb,yo,none⟩ 1 f G (by simpa using hG) (fun j u I=>by rw[Addr.add_lit];exact M j u I),
    run_firstCells_some (P:=L.P) w.drew D.i.size 1 ⟨yb,yo,none⟩ 1 f G (by simpa using hG) (fun j u I=>by rw[Addr.add_lit];exact M j u I)⟩
  have t3:(List.range D.i.size).map (fun j=>(a.eval D.v).cells.getD j undef)=(a.eval D.v).cells.toList:=by
   apply Cq;intro j;by_cases I:j<D.i.size
   .have:j<(a.eval D.v).cells.size:=by omega
    simp[I,this]
   .rw[qY (by simp;omega),qY (by simp;omega)]
  obtain⟨t4,t5,t6,tt,fr,w8,g',av,bz,A,e5,e6,F,Y,V,s,Z,ee,o⟩:=aa9 h.sh X t0 (c:=fun j=>(a.eval D.v).cells.getD j undef) (fun j x hx=>ej j x _ hx (by
   have I:j<(a.eval D.v).cells.size:=by rw[l];exact(bV.1 hx).1
   simp[I])) R.ht R.hi R.hz rfl R.xl.symm (by rw[R.xl];exact R.pM) c2 c1 R.eP c3 (by simpa using hG) e3 e4 (sH:=D.o8.type) _ ez
  rw[t3]at s Z ee;split at o
  rotate_left
  .exact o.elim
  rename_i b j hb;rw[hb]at H;obtain⟨bb,e7,te⟩:=H.jH;split at o
  rotate_left
  .exact o.elim
  rename_i ty cs B;rw[mK]at B;obtain⟨z,ta⟩:=FN _ _ _ _ o;obtain⟨_,hk⟩:=sj _ _ _ _ ta;simp only[aZ,bc,dK]at z hk;have J:j+T.off<cs.length:=by rcases z with h|h;cases h;omega
  exact LU R h em ep (by rw[l,U]) O e7 te B J (by rw[kS R.op8,A];rfl) e5 e6 F Y V s Z ee hk hl ei ts N k
 split at e
 rotate_left
 .exact e.elim
 rename_i xs kk hx;rw[hx]at X;split at e
 rotate_left
 .exact e.elim
 rename_i kd m hm;rw[hm]at S;obtain⟨em,_⟩:=S.fV;obtain⟨ys,e,ef⟩:=wv ed _ e;unfold Yb at e;split at e
 rotate_left
 .exact e.elim
 rename_i y0;obtain⟨ey,e⟩:=kQ _ _ _ e;obtain⟨ep,e⟩:=e;obtain⟨vs,eg,l,ej,O⟩:=k9 el _ e;obtain⟨U,ez⟩:=kQ _ _ _ eg
 obtain⟨ds,o,ti,t7⟩:=EB (L:=L) (g:=g) (rl:=rl) (w:=w) vs (fun j=>(a.eval D.v).cells.getD j undef) (fun j x hx=>ej j x _ hx (by
  have I:j<(a.eval D.v).cells.size:=by rw[l];exact(bV.1 hx).1
  simp[I])) _ ez
 split at o
 rotate_left
 .exact o.elim
 rename_i b j hb;rw[hb]at H;obtain⟨bb,e7,te⟩:=H.jH;split at o
 rotate_left
 .exact o.elim
 rename_i ty cs B;rw[mK]at B;simp only[vw]at o;obtain⟨⟨r,ai⟩,et⟩:=o;rw[mK]at et;split at et
 rotate_left
 .exact et.elim
 rename_i nl al tb;obtain⟨⟨t8,t9⟩,ae⟩:=et;subst t8;subst t9;obtain⟨_,aa⟩:=sj _ _ _ _ ae;obtain⟨z,ta⟩:=FN _ _ _ _ aa;obtain⟨_,hk⟩:=sj _ _ _ _ ta;simp only[aZ,bc,dK]at z hk r tb;rw[R.dF]at*;rw[R.xl]at r;have E:∀y,y∈[y0]->y.length=D.i.size:=fun y hy=>by simp at hy;rw[hy];exact ey
 have sH:∃d,L.P.underlying D.t=some d/\∀k,d≠.int k:=⟨_,R.ht,fun k h=>by cases h⟩;rcases la ef D.i.size E with⟨C,_⟩|⟨yb,yo,f,G,e1,t1,e2,tw,hG,M,e3,t2⟩
 .cases C
 have e4:sP L.P w D.t (a.eval D.y) D.i.size 1 G:=by
  rw[e1]
  exact⟨sH,fun w'=>rfl,run_firstCells_some (P:=L.P) w D.i.size 1 ⟨yb,yo,none⟩ 1 f G (by simpa using hG) (fun j u I=>by rw[Addr.add_lit];exact M j u I),
   run_firstCells_some (P:=L.P) w.drew D.i.size 1 ⟨yb,yo,none⟩ 1 f G (by simpa using hG) (fun j u I=>by rw[Addr.add_lit];exact M j u I)⟩
 have ao:(a.eval D.v).cells.toList.length=D.i.size:=by simp[l,U]
 obtain⟨t4,t5,t6,tt,fr,w8,g',A,e5,e6,F,Y,V,s,Z,ee⟩:=aa8 R.op8 R.ht R.hi R.hz R.yF R.eP R.pM (EC R.kM) R.kM R.Ky h X tb ds (by rw[ti,U]) G (a.eval D.v).cells.toList (by simpa using hG) e3 ao O
  (fun q y hq=>⟨(a.eval D.v).cells.getD q undef,by
   have tg:q<(a.eval D.v).cells.size:=by rw[l,<-ti];exact(bV.1 hq).1
   simp[tg],by
   have tg:q<(a.eval D.v).cells.size:=by rw[l,<-ti];exact(bV.1 hq).1
   exact t7 q y hq⟩) e4 r
 have J:j+T.off<cs.length:=by rcases z with h|h;cases h;omega
 exact LU R h em ep (by rw[l,U]) O e7 te B J A e5 e6 F Y V s Z ee hk hl ei ts N k
end
variable{p:Nat}
theorem OI{α:Type}:∀(p:Nat)(l:List α),Q0 p l=l.take p
 |0,l=>by cases l<;>rfl
 |p+1,[]=>rfl
 |p+1,x::r=>by simp[Q0,OI p r]
structure Xc(ops:Array Oper)(aV:List AI)(ms:List Nat)(p q:Nat):Prop where
 lt:p<aV.length
 turn:dU ms p=true
 pq:p<q
 ql:q<=aV.length
 later:∀(j:Nat)(o:Oper),q<=j->ops[j]?=some o->∃e,e∈o.after/\Region.binds .any e=true/\(e.on=p\/q<=e.on)
 early:∀j,p<j->j<q->dU ms j=false/\∀(aj ap:AI)(s:Nat),aV[j]?=some aj->aV[p]?=some ap->aj.d=some s->¬looks ap s
theorem qQ(p:Nat):∀(ms:List Nat)(k:Nat),dU (J7 p ms) k=true->dU ms k=true/\k≠p
 |[],k,h=>by cases h
 |x::r,k,h=>by
  unfold J7 at h;split at h
  .rename_i a;have a:=dL a;have:=qQ p r k h;refine⟨?_,this.2⟩;unfold dU;split
   .rfl
   .exact this.1
  .rename_i a;unfold dU at h;split at h
   .rename_i t;have t:=dL t;subst t;refine⟨by unfold dU;rw[show Nat.beq x x=true by simp],fun e=>?_⟩;subst e;simp at a
   .rename_i t;have:=qQ p r k h;refine⟨?_,this.2⟩;unfold dU;rw[t];exact this.1
theorem tA:∀(p:Nat)(aV:List AI)(i:Nat)(e:AI),(qD p aV)[i]?=some e->i≠p->aV[i]?=some e
 |_,[],i,e,h,_=>by simp[qD]at h
 |0,⟨d,g,o⟩::r,i,e,h,t=>by
  cases i with
  |zero=>exact absurd rfl t
  |succ i=>
   simp only[qD,AA,OI]at h⊢;rw[xa]at h;split at h
   .exact h
   .cases h
 |p+1,x::r,i,e,h,t=>by
  cases i with
  |zero=>simpa[qD]using h
  |succ i=>simp only[qD,AA]at h⊢;exact tA p r i e h om
theorem Lr:∀(p:Nat)(aV:List AI)(e:AI),(qD p aV)[p]?=some e->e=⟨none,none,.lR (.k (.bool false))⟩
 |_,[],e,h=>by simp[qD]at h
 |0,⟨d,g,o⟩::r,e,h=>by simp[qD]at h;exact h.symm
 |p+1,x::r,e,h=>by simp only[qD,AA]at h;exact Lr p r e h
section
variable{L:Lk}{n:Nat}{ops:Array Oper}{aV:List AI}{ms:List Nat}{inc:bm}{bf:Nat->Nat->Bool}
theorem Cx.pan(R:zw L n ops aV ms inc bf)(z:(qD p aV).length<=aV.length):Cx L n ops (qD p aV) (J7 p ms) inc bf (fun i=>i=p):=by
 have c:∀{j:Nat},j<(qD p aV).length->j<aV.length:=fun{j}h=>by omega
 have l:∀{i:Nat}{t:AI},(qD p aV)[i]?=some t->i=p->t=⟨none,none,.lR (.k (.bool false))⟩:=fun{i t}h e=>by subst e;exact Lr i aV t h
 exact {
  size:=gM z R.size
  ins:=fun i t h u=>R.ins i t (tA p aV i t h u) fun h=>h
  lt:=R.lt
  via:=fun i j o h=>R.via i j o (c h)
  back:=fun j o e h=>R.back j o e (c h)
  HG:=fun i j t g s d r f y a=>by
   by_cases q:j=p
   .rw[l r q]at y;cases y
   by_cases u:i=p
   .rw[l d u]at a;rcases a with a|a
    .rcases a with a|⟨w,a⟩
     .simp[ik]at a
     .cases a
    .cases a
   exact R.HG i j t g s (tA p aV i t d u) (tA p aV j g r q) f y a
  TA:=fun i j d r v b=>R.TA i j d (c r) (qQ p ms i v).1 (qQ p ms j b).1
  reads:=fun i m n E x t d r v b T=>by
   by_cases u:i=p
   .rw[l d u]at r;cases r
   exact R.reads i m n E x t (tA p aV i t d u) r (c v) b (qQ p ms m T).1
  Qv:=fun k t h A=>by
   obtain⟨d,r⟩:=qQ p ms k A;exact R.Qv k t (tA p aV k t h r) d}
theorem Fl{X:Option (AV->Prop)}(ee:L.P.follows .mixedOrders=true)(R:zw L n ops aV ms inc bf)(T:Xc ops aV ms p (qD p aV).length){id:Nat}{σ:St}{Q:Exit->Act->World->Prop}(D:Ps L.gl (dk L) (uJ L X) (bA L) ms inc p aV σ)(h:dx L n g σ a w)(hp:∀X',X=some X'->∀(ch:List PanicEntry)(a':Act)(w':World),a'.defers=[]->Bp L X' g w ch w'->Q (.panic ch) a' w'):(Code.region id ops true).wp L.P Q a w:=by
 unfold Ps at D;split at D
 case h_2=>exact D.elim
 rename_i d o x;rw[mK]at x;obtain⟨et,nb,bx,rl⟩:=σ;have R':=Cx.pan R T.ql;have eo:=tA p aV;generalize hQ:qD p aV=t at*;generalize e3:J7 p ms=mt at*;have e4:∀k,dU mt k=true->dU ms k=true/\k≠p:=fun k Z=>qQ p ms k (by rw[e3];exact Z)
 obtain⟨E,C,V,σ',Z,hE,hC,ei,ed,F,_⟩:=Kb mt inc t 0 et nb bx rl [] [] _ (fun k ai c U=>R'.Qv k ai c (by rwa [dK]at U)) D;rw[dK]at ei ed;rw[dK]at F;obtain⟨el,em,ef,M⟩:=σ';obtain⟨e,e5,e6⟩:=DW _ _ _ Z;refine wp_region_any ee ?_;have G:dx L n g ⟨et,nb,bx,rl⟩ a w.drew:=⟨h.defers,h.size,fun s=>(h.slot s).bj (Step.drew g rl w),h.sh.drew⟩
 have run:∀(l:Nat)(listed:Array Bool)(a':Act)(w':World),listed.size=ops.size->(∀j,t.length<=j->cZ listed j=false)->cZ listed p=false->MQ L n t mt bf E C V g rl w listed a' w'->
   vj (cZ listed) t.length<=l->wpAny L.P .any ops Q l listed a' w':=by
  intro l
  induction l with
  |zero=>
   intro listed a' w' _ _ O _ hc;have:=DU (cZ listed) t.length om p T.pq;rw[O]at this;cases this
  |succ l K=>
   intro listed a' w' e7 ey O I hc;have t3:p<ops.size:=jS T.lt R.size;refine⟨fun ep=>?_,fun i hi=>?_⟩
   .exfalso
    have te:∀i,i<=p->cZ listed i=true:=by
     intro i
     induction i using Nat.strongRecOn with
     |ind i tt=>
      intro Y;cases hl:cZ listed i with
      |true=>rfl
      |false=>
       exfalso;have ta:i<ops.size:=by omega
       have:i∈Region.ready .any ops listed:=by
        refine mem_ready.2 ⟨?_,ops[i],dZ _,fun e he hb=>?_⟩
        .have N:i<listed.size:=by omega
         simp only[cZ,dJ,dZ N]at hl⊢;exact hl
        .have:=R.back i _ e (by have:=T.lt;omega) (dZ ta) he hb;exact tt e.on this om
       rw[ep]at this;cases this
    have c:=te p (aQ _);rw[O]at c;cases c
   .by_cases Y:i=p
    ·
     subst Y;obtain⟨_,o',S,r⟩:=mem_ready.1 hi;obtain⟨o2,eg,ins⟩:=R.ins i _ x fun h=>h
     rw[S]at eg;cases eg
     have z:∀j,bf j i=true->cZ listed j=true:=fun j hj=>by
      obtain⟨e,c,U,y⟩:=R.via j i o' T.lt S hj;have A:cZ listed e.on=true:=r e c U;rcases y with y|y
      .rw[<-y];exact A
      .exact I.IG.down _ _ y A
     obtain⟨g',s0,hv,ej⟩:=I.st
     have u:C (pos mt (cZ listed) t.length)=C t.length:=by
      have J:=Jq (aV:=t) (ms:=mt) (C:=C) (fun k Z ti=>Pu F k Z ti);have t5:=QB (ms:=mt) (cZ listed) t.length
      have:=J (t.length-pos mt (cZ listed) t.length) (pos mt (cZ listed) t.length) om (fun m c U=>by
       cases ez:dU mt m with
       |false=>rfl
       |true=>
        obtain⟨q1,q2⟩:=e4 m ez
        have ts:m<i:=by
         rcases nC m i with h|h
         .exact h
         .have:=(T.early m om om).1;rw[q1]at this;cases this
        have y:=R.TA m i ts T.lt q1 T.turn;have:=yV (ms:=mt) (cZ listed) t.length m om (z m y) ez;omega)
      rw[show pos mt (cZ listed) t.length+(t.length-pos mt (cZ listed) t.length)=t.length by omega]at this;exact this.symm
     have v:∀s,looks ⟨d,none,o⟩ s->iM t E V (cZ listed) s t.length=E t.length s:=by
      intro s hs
      have dn:∀k,k<=t.length->iM t E V (cZ listed) s k=E k s:=by
       intro k
       induction k with
       |zero=>intro _;rfl
       |succ k tw=>
        intro Z;have B:t[k]?=some t[k]:=dw om;have f:=F k t[k] B;rw[dK]at f;rw[f.next s];simp only[iM];rw[tw om];split
        .exact Q6 B
        .rename_i tb;simp only[xH];split
         .rename_i dd G;split
          .rename_i tg;subst tg;exfalso;by_cases e1:k=i
           .subst e1;have h5:=Lr k aV t[k] (by rw[hQ];exact B);rw[h5]at G;cases G
           have H:=eo k t[k] B e1;rcases nC k i with N|t6
           .rcases R.HG i k _ _ dd x H om G (.inl hs)with A|A
            .have:=R.lt _ _ A;omega
            .exact tb (z k A)
           .exact(T.early k om om).2 _ _ dd H x G hs
          .rfl
         .rfl
      exact dn t.length (aQ _)
     rw[u,<-ed]at s0 hv ej
     have t0:dx L n g' ⟨e,em,ef,M⟩ a' w':=⟨I.defers,I.tmps,fun q=>by
      rcases e6 q with c|⟨c,U⟩
      .show VR L g' M w' (look e q) _;rw[c];exact .bM _
      .show VR L g' M w' (look e q) _;have y:look el q=E t.length q:=congrFun ei q;rw[U,y,<-v q (.inl c)];exact hv q,ej⟩
     have hg:o'.guard=none:=by
      rcases ins.guard with⟨c,_⟩|⟨j,t4,s2,o2,c,U,y,A⟩
      .exact c
      .cases A
     unfold wpOp;rw[S];have t1:Region.wanted o' (yielded ops a'.tmps)=true:=by simp[Region.wanted,hg]
     simp only[t1,if_true];exact .inl (ins.op X ⟨e,em,ef,M⟩ _ g' a' w' _ Q t0 e5 (fun _ _ _ _ _ _ _ _ hf=>hf.elim) fun X' hX ch w2 t2=>hp X' hX ch a' w2 I.defers (t2.after s0))
    .rcases nC i t.length with b|b
     .refine Yl R' F i b Y listed a' w' I hi _ fun a2 w2 I2=>K _ a2 w2 (by simpa using e7) (fun j hj=>?_) ?_ I2 ?_
      .rw[oh (jS b I.size)];simp only;rw[if_neg om];exact ey j hj
      .rw[oh (jS b I.size)];simp only;rw[if_neg (fun h=>Y h.symm)];exact O
      .obtain⟨hl,o,ho,_⟩:=mem_ready.1 hi;have N:i<listed.size:=jS b I.size;rw[oh N]
       have hn:cZ listed i=false:=by
        simp only[cZ,dJ,dZ N]at hl⊢;exact hl
       have:=(DT (cZ listed) i hn t.length).2 b;omega
     .exfalso;obtain⟨_,o',S,r⟩:=mem_ready.1 hi;obtain⟨e,c,U,y⟩:=T.later i o' b S;have A:cZ listed e.on=true:=r e c U;rcases y with y|y
      .rw[y,O]at A;cases A
      .rw[ey _ y]at A;cases A
 have hS:∀i,cZ (Array.replicate ops.size false) i=false:=fun i=>by
  simp only[cZ,dJ,Ra];split<;>rfl
 have u:∀k,pos mt (cZ (Array.replicate ops.size false)) k=0:=by
  intro k
  induction k with
  |zero=>rfl
  |succ k K=>simp only[pos,hS,jT,false_and,if_false];exact K
 have v:∀s k,iM t E V (cZ (Array.replicate ops.size false)) s k=E 0 s:=by
  intro s k
  induction k with
  |zero=>rfl
  |succ k K=>simp only[iM,hS,jT,if_false];exact K
 have e2:∀k,vj (cZ (Array.replicate ops.size false)) k=k:=by
  intro k
  induction k with
  |zero=>rfl
  |succ k K=>simp only[vj,hS,jT,if_false,K];omega
 refine run ops.size _ a w.drew si (fun i _=>hS i) (hS p) ⟨by have:=R'.size;simpa using this,⟨fun i j _ hj=>by rw[hS]at hj;cases hj⟩,h.defers,h.size,g,?_,fun s=>?_,?_⟩ ?_
 .rw[u,hC];exact Step.drew g rl w
 .rw[u,hC,v,hE];exact G.slot s
 .rw[u,hC];exact G.sh
 .rw[e2];exact R'.size
end
variable{w':World}{ops:Array Oper}
section
variable{L:Lk}{n:Nat}
theorem Yc{P:Program}{Q:Exit->Act->World->Prop}{K:Act->World->Prop}{v:Value}(e:ops[i]?=some o)(t:o.guard=none)(h:(execOp a.eval o).run P w=.ok (.value v) w')(k:K (a.put o.dst v) w'):wpOp P ops Q i K a w:=by
 unfold wpOp;rw[e];simp only;rw[show Region.wanted o (yielded ops a.tmps)=true by simp[Region.wanted,t]];simp only[if_true];exact .inl (aW h k)
theorem FG{P:Program}{Q:Exit->Act->World->Prop}{K:Act->World->Prop}(e:ops[i]?=some o)(t:o.guard=none)(n:o.dst=none)(h:(execOp a.eval o).run P w=.ok .skip w')(k:K a w'):wpOp P ops Q i K a w:=by
 unfold wpOp;rw[e];simp only;rw[show Region.wanted o (yielded ops a.tmps)=true by simp[Region.wanted,t]];simp only[if_true];refine .inl (nO h ?_);rw[n];exact k
inductive OX(L:Lk)(n:Nat)(ops:Array Oper)(d r:Nat):Prop where
 |mk (o0 o1 o2 o3:Oper) (t t1 t2 t3:TypeId) (i i1 i2 i3:TypeInfo) (dd:TypeDesc) (SH:ops=#[o0,o1,o2,o3])
   (p0:o0.op=.alloc t) (p1:o1.op=.store t1 (.tmp d) (.const (.bool true))) (p2:o2.op=.store t2 (.tmp d) (.const (.bool false))) (p3:o3.op=.load t3 (.tmp d))
   (d0:o0.dst=some d) (d1:o1.dst=none) (d2:o2.dst=none) (d3:o3.dst=some r) (g0:o0.guard=none) (g1:o1.guard=none) (g2:o2.guard=none) (g3:o3.guard=none)
   (hi:L.P.info? t=some i) (hz:i.zero=some (.bool false)) (PM:L.P.info? t1=some i1) (s1:i1.size=1) (IP:L.P.info? t2=some i2) (s2:i2.size=1) (hi3:L.P.info? t3=some i3) (s3:i3.size=1) (Zi:L.P.underlying t3=some dd) (ha:JS dd=false)
   (hd:d<n) (hr:r<n) (e0:∀e,e∈o0.after->Region.binds .any e=false)
   (e1:(∃e,e∈o1.after/\Region.binds .any e=true/\e.on=0)/\∀e,e∈o1.after->Region.binds .any e=true->e.on=0)
   (e2:(∃e,e∈o2.after/\Region.binds .any e=true/\e.on=0)/\∀e,e∈o2.after->Region.binds .any e=true->e.on=0)
   (e3:(∃e,e∈o3.after/\Region.binds .any e=true/\e.on=1)/\(∃e,e∈o3.after/\Region.binds .any e=true/\e.on=2)/\∀e,e∈o3.after->Region.binds .any e=true->e.on<3):OX L n ops d r
theorem R7{d r id:Nat}(R:OX L n ops d r)(Y:L.P.follows .mixedOrders=true){env:Env}{Q:Exit->Act->World->Prop}(h:dx L n g ⟨env,nb,bx,rl⟩ a w)(hQ:∀(v:Bool)(g':Gh)(a':Act)(w':World),Step g rl w g' rl w'->dx L n g' ⟨(r,.d (.bool v))::(d,.bM)::env,nb,bx,rl⟩ a' w'->Q .normal a' w'):
  (Code.region id ops true).wp L.P Q a w:=by
 obtain⟨z,f,k,E,t,t1,t2,t3,i,i1,i2,i3,dd,rfl,p0,p1,p2,p3,d0,d1,d2,d3,g0,g1,g2,g3,hi,hz,B,s1,G,s2,K,s3,J,ha,hd,hr,e0,X,e2,V⟩:=R;refine wp_region_any Y ?_;have Z:{w with drawn:=w.drawn+1}=w.drew:=rfl;rw[Z];show wpAny L.P .any _ Q 4 (Array.replicate 4 false) a w.drew;let p:Value:=.pointer (some ⟨w.heap.size,0,none⟩);let T:=a.put (some d) p;let W:Bool->World:=fun v=>w.drew.alloc (.cells #[.bool v] t)
 have hp:T.eval (.tmp d)=p:=sZ (by rw[h.size];exact hd);have hW:∀v,(W v).heap[w.heap.size]?=some (.cells #[.bool v] t (0,0)):=fun v=>heap_alloc_new w.drew _
 have r0:(execOp a.eval z).run L.P w.drew=.ok (.value p) (W false):=by
  simp[execOp,p0,Instr.alloc,zeroValue,typeInfo,hi,hz,newVar,newRow,Value.cells,W,p]
 have st:∀v u,(storeCells ⟨w.heap.size,0,none⟩ [.bool u] 0).run L.P (W v)=.ok () (W u):=fun v u=>by
  have:=run_storeCells_at L.P w.heap.size 0 t [.bool u] 0 #[.bool v] (W v) (hW v) si (fun x hx=>by simp at hx;rw[hx];rfl);rw[this];congr 1;exact xR w.drew _ _ t
 have r1:∀v,(execOp T.eval f).run L.P (W v)=.ok .skip (W true):=fun v=>by
  have:=st v true;generalize W v=W1 at this⊢;have hc:T.eval (.const (.bool true))=.bool true:=rfl;simp[execOp,p1,hp,hc,Instr.storeAt,Instr.sureAddr,storeVar,sizeOf,typeInfo,B,s1,Value.cells,this,p]
 have r2:∀v,(execOp T.eval k).run L.P (W v)=.ok .skip (W false):=fun v=>by
  have:=st v false;generalize W v=W1 at this⊢;have hc:T.eval (.const (.bool false))=.bool false:=rfl;simp[execOp,p2,hp,hc,Instr.storeAt,Instr.sureAddr,storeVar,sizeOf,typeInfo,G,s2,Value.cells,this,p]
 have r3:∀v,(execOp T.eval E).run L.P (W v)=.ok (.value (.bool v)) (W v):=fun v=>by
  have:=ot L.P (W v) t3 1 false i3 dd K s3 J ha (fun _=>rfl) w.heap.size 0 (fun _=> .bool v) (fun j hj=>by
   have hj:j=0:=by omega
   subst hj;rw[cell_of_row (W v) w.heap.size _ _ _ _ (hW v)];rfl)
  simp[execOp,p3,hp,Instr.loadAt,Instr.sureAddr,this,p]
 have ee:∀v,Q .normal (T.put (some r) (.bool v)) (W v):=fun v=>by
  have s:=(Step.drew g rl w).trans (Step.data g rl w.drew (.cells #[.bool v] t) 0 h.sh.fresh);have et:=h.sh.drew.data (.cells #[.bool v] t) 0;refine hQ v _ _ _ s ⟨h.defers,?_,fun q=>?_,et⟩
  .show((a.put (some d) p).put (some r) (.bool v)).tmps.size=n;simp only[Act.put,Rb];exact h.size
  .show VR L _ _ _ (look ((r,.d (.bool v))::(d,.bM)::env) q) (((T.put (some r) (.bool v)).eval (.tmp q)));rw[aE];by_cases c:r=q
   .subst c;rw[if_pos rfl,sZ (by show r<T.tmps.size;simp only[T,Act.put,Rb];rw[h.size];exact hr)];exact VR.kH v
   rw[if_neg c,aE,og (fun e=>c (by cases e;rfl))];by_cases F:d=q
   .rw[if_pos F];exact .bM _
   rw[if_neg F];have:T.eval (.tmp q)=a.eval (.tmp q):=og (fun e=>F (by cases e;rfl));rw[this];exact(h.slot q).bj s
 have m:∀(l:Array Bool)(q:Nat),q∈Region.ready .any #[z,f,k,E] l->¬Region.ready .any #[z,f,k,E] l=[]:=fun l q c I=>by rw[I]at c;cases c
 have O:∀(l:Array Bool)(q:Nat),q∈Region.ready .any #[z,f,k,E] l->q=0\/q=1\/q=2\/q=3:=fun l q c=>by
  obtain⟨_,o,N,_⟩:=mem_ready.1 c;have:=(nx.1 N).1;simp at this;omega
 have bf:∀{b:Bool},b=false->b=true->False:=fun A h2=>by rw[A]at h2;cases h2
 have S4:∀v,wpAny L.P .any #[z,f,k,E] Q 0 ((((Array.replicate 4 false).setIfInBounds 0 true).setIfInBounds 1 true).setIfInBounds 2 true|>.setIfInBounds 3 true) (T.put (some r) (.bool v)) (W v):=fun v=>by
  refine⟨?_,ee v⟩;apply List.eq_nil_iff_forall_not_mem.2;intro q c;have A:=(mem_ready.1 c).1;rcases O _ q c with rfl|rfl|rfl|rfl<;>exact absurd A de
 have ed:∀v,wpAny L.P .any #[z,f,k,E] Q 0 ((((Array.replicate 4 false).setIfInBounds 0 true).setIfInBounds 2 true).setIfInBounds 1 true|>.setIfInBounds 3 true) (T.put (some r) (.bool v)) (W v):=S4
 have S3:∀v,wpAny L.P .any #[z,f,k,E] Q 1 (((Array.replicate 4 false).setIfInBounds 0 true).setIfInBounds 1 true|>.setIfInBounds 2 true) T (W v):=fun v=>by
  have U:3∈Region.ready .any #[z,f,k,E] (((Array.replicate 4 false).setIfInBounds 0 true).setIfInBounds 1 true|>.setIfInBounds 2 true):=mem_ready.2 ⟨by decide,E,rfl,fun e C M=>by
   have:=V.2.2 e C M;generalize e.on=q at this;rcases show q=0\/q=1\/q=2 by omega with rfl|rfl|rfl<;>decide⟩
  refine⟨fun I=>(m _ _ U I).elim,fun q c=>?_⟩;have A:=(mem_ready.1 c).1;rcases O _ q c with rfl|rfl|rfl|rfl
  .exact absurd A de
  .exact absurd A de
  .exact absurd A de
  .refine Yc (o:=E) rfl g3 (r3 v) ?_;rw[d3];exact S4 v
 have eo:wpAny L.P .any #[z,f,k,E] Q 2 (((Array.replicate 4 false).setIfInBounds 0 true).setIfInBounds 1 true) T (W true):=by
  have U:2∈Region.ready .any #[z,f,k,E] (((Array.replicate 4 false).setIfInBounds 0 true).setIfInBounds 1 true):=mem_ready.2 ⟨by decide,k,rfl,fun e C M=>by rw[e2.2 e C M];decide⟩;refine⟨fun I=>(m _ _ U I).elim,fun q c=>?_⟩;obtain⟨A,o,N,y⟩:=mem_ready.1 c;rcases O _ q c with rfl|rfl|rfl|rfl
  .exact absurd A de
  .exact absurd A de
  .exact FG (o:=k) rfl g2 d2 (r2 true) (S3 false)
  .cases N;obtain⟨e,S,H,D⟩:=V.2.1;have:=y e S H;rw[D]at this;exact absurd this de
 have ei:wpAny L.P .any #[z,f,k,E] Q 2 (((Array.replicate 4 false).setIfInBounds 0 true).setIfInBounds 2 true) T (W false):=by
  have U:1∈Region.ready .any #[z,f,k,E] (((Array.replicate 4 false).setIfInBounds 0 true).setIfInBounds 2 true):=mem_ready.2 ⟨by decide,f,rfl,fun e C M=>by rw[X.2 e C M];decide⟩;refine⟨fun I=>(m _ _ U I).elim,fun q c=>?_⟩;obtain⟨A,o,N,y⟩:=mem_ready.1 c;rcases O _ q c with rfl|rfl|rfl|rfl
  .exact absurd A de
  .exact FG (o:=f) rfl g1 d1 (r1 false) (S3 true)
  .exact absurd A de
  .cases N;obtain⟨e,S,H,D⟩:=V.1;have:=y e S H;rw[D]at this;exact absurd this de
 have S1:wpAny L.P .any #[z,f,k,E] Q 3 ((Array.replicate 4 false).setIfInBounds 0 true) T (W false):=by
  have U:1∈Region.ready .any #[z,f,k,E] ((Array.replicate 4 false).setIfInBounds 0 true):=mem_ready.2 ⟨by decide,f,rfl,fun e C M=>by rw[X.2 e C M];decide⟩;refine⟨fun I=>(m _ _ U I).elim,fun q c=>?_⟩;obtain⟨A,o,N,y⟩:=mem_ready.1 c;rcases O _ q c with rfl|rfl|rfl|rfl
  .exact absurd A de
  .exact FG (o:=f) rfl g1 d1 (r1 false) eo
  .exact FG (o:=k) rfl g2 d2 (r2 false) ei
  .cases N;obtain⟨e,S,H,D⟩:=V.1;have:=y e S H;rw[D]at this;exact absurd this de
 have U:0∈Region.ready .any #[z,f,k,E] (Array.replicate 4 false):=mem_ready.2 ⟨by decide,z,rfl,fun e C M=>(bf (e0 e C) M).elim⟩;refine⟨fun I=>(m _ _ U I).elim,fun q c=>?_⟩;obtain⟨A,o,N,y⟩:=mem_ready.1 c;rcases O _ q c with rfl|rfl|rfl|rfl
 .refine Yc (o:=z) rfl g0 r0 ?_;rw[d0];exact S1
 .cases N;obtain⟨e,S,H,D⟩:=X.1;have:=y e S H;rw[D]at this;exact absurd this de
 .cases N;obtain⟨e,S,H,D⟩:=e2.1;have:=y e S H;rw[D]at this;exact absurd this de
 .cases N;obtain⟨e,S,H,D⟩:=V.1;have:=y e S H;rw[D]at this;exact absurd this de
end
def RI(L:Lk)(n:Nat)(ops:Array Oper)(aV:List AI):Prop:=
 ops.size=aV.length/\∀(i:Nat)(e:AI),aV[i]?=some e->∃o,ops[i]?=some o/\MO L n ops o e
section
variable{L:Lk}{n:Nat}
theorem zM{X:Option (AV->Prop)}{Q:Exit->Act->World->Prop}:∀(aV:List AI)(i:Nat)(σ:St)(K:St->Prop)(g:Gh)(a:Act)(w:World),
  (∀(k:Nat)(N:AI),aV[k]?=some N->∃o,ops[i+k]?=some o/\MO L n ops o N)->kW L.gl (uJ L X) aV σ K->dx L n g σ a w->
  (∀(p:St)(C:Gh)(a':Act)(w':World),Step g σ.rl w C p.rl w'->dx L n C p a' w'->K p->Q .normal a' w')->
  (∀E,X=some E->∀(T:List PanicEntry)(a':Act)(w':World),a'.defers=[]->Bp L E g w T w'->Q (.panic T) a' w')->wpOps L.P ops Q (List.range' i aV.length) a w:=by
 intro aV
 induction aV with
 |nil=>intro i σ K g a w _ e h k _;exact k σ g a w (Step.refl _ _ _) h e
 |cons N r G=>
  intro i σ K g a w A e h k M;obtain⟨env,nb,bx,rl⟩:=σ;obtain⟨d,gd,ao⟩:=N;obtain⟨o,ho,F⟩:=A 0 _ rfl;simp only[iU]at ho
  have u:∀(k:Nat)(N:AI),r[k]?=some N->∃o,ops[i+1+k]?=some o/\MO L n ops o N:=fun Z ee et=>by
   have:=A (Z+1) ee (by simpa using et);rwa [show i+(Z+1)=i+1+Z by omega]at this
  have Y:List.range' i (⟨d,gd,ao⟩::r:List AI).length=i::List.range' (i+1) r.length:=by simp[Rp]
  rw[Y];simp only[wpOps,ho];have O:o.dst=d:=F.dst
  have run:∀(l:Env),dx L n g ⟨l,nb,bx,rl⟩ a w->(cB L.gl (uJ L X) ao ⟨l,nb,bx,rl⟩ fun v σ=>uU d v σ.env fun env=>kW L.gl (uJ L X) r ⟨env,σ.nb,σ.bx,σ.rl⟩ K)->o.wp L.P a w (wpOps L.P ops Q (List.range' (i+1) r.length)) Q:=by
   intro l V m;refine F.op X _ _ g a w _ _ V m ?_ (fun E B T w' b=>M E B T a w' V.defers b);intro av p C v' w' s hr hv hk;obtain⟨ei,ed,el,em⟩:=p;rw[O];cases d with
   |none=>exact G (i+1) _ K C _ w' u hk hr (fun S g3 H R s3 h3 k3=>k S g3 H R (s.trans s3) h3 k3) (fun E B T H R D b=>M E B T H R D (b.after s))
   |some q=>exact G (i+1) _ K C _ w' u hk (hr.put q (F.lt q rfl) hv) (fun S g3 H R s3 h3 k3=>k S g3 H R (s.trans s3) h3 k3) (fun E B T H R D b=>M E B T H R D (b.after s))
  have x:∀(l:Env),dx L n g ⟨l,nb,bx,rl⟩ a w->(uU d x7 l fun env=>kW L.gl (uJ L X) r ⟨env,nb,bx,rl⟩ K)->wpOps L.P ops Q (List.range' (i+1) r.length) (a.put o.dst undef) w:=by
   intro l V m;rw[O];cases d with
   |none=>exact G (i+1) _ K g _ w u m V k M
   |some q=>exact G (i+1) _ K g _ w u m (V.put q (F.lt q rfl) VR.x7) k M
  simp only[kW]at e;rcases F.guard with⟨J,z⟩|⟨j,I,s,o',J,hj,hs,z⟩
  .simp only at z;subst z;have hw:Region.wanted o (yielded ops a.tmps)=true:=by simp[Region.wanted,J]
   rw[if_pos hw];exact .inl (run env h e)
  .simp only at z;subst z;dsimp only at e;have f:=h.slot s;split at e
   .rename_i t ht;simp only at f;rw[ht]at f;have y:=f.me
    have eo:a.tmps[s]?=some (.bool t):=by
     rw[dJ]at y;cases U:a.tmps[s]? with
     |none=>rw[U]at y;simp[undef]at y
     |some v=>rw[U]at y;simp at y;rw[y]
    have hy:yielded ops a.tmps j=some t:=by simp[yielded,hj,hs,eo]
    have c:Region.wanted o (yielded ops a.tmps)=(t==I):=by simp[Region.wanted,J,hy]
    have vp:dx L n g ⟨(s,.d (.bool t))::env,nb,bx,rl⟩ a w:=h.vp s _ (by rw[y];exact VR.kH t);rw[c];cases t<;>cases I<;>simp only[ov]at e<;>simp
    .exact .inl (run _ vp e)
    .exact x _ vp e
    .exact x _ vp e
    .exact .inl (run _ vp e)
   .rename_i vs ht;split at e
    .simp only at f;rw[ht]at f;have y:=f.Uv
     have hy:yielded ops a.tmps j=none:=by
      rw[dJ]at y;cases U:a.tmps[s]? with
      |none=>simp[yielded,hj,hs,U]
      |some v=>rw[U]at y;simp at y;simp[yielded,hj,hs,U,y]
     have c:Region.wanted o (yielded ops a.tmps)=false:=by simp[Region.wanted,J,hy]
     rw[c];exact x env h e
    .exact e.elim
   .exact e.elim
inductive UE:Exit->AE->Prop where
 |normal:UE .normal .normal
 |exit (id:Nat):UE (.exit id) (.exit id)
 |ret:UE .ret .ret
def JQ(L:Lk)(n:Nat)(X:Option (AV->Prop))(g0:Gh)(bZ:bm)(w0:World)(Q:AE->St->Prop):Exit->Act->World->Prop:=
 fun e o a=>(∃i s t,UE e i/\Step g0 bZ w0 s t.rl a/\dx L n s t o a/\Q i t)\/∃h r,X=some h/\e=.panic r/\o.defers=[]/\Bp L h g0 w0 r a
inductive fS(L:Lk)(n:Nat):Code->AC->Prop where
 |skip:fS L n .skip .skip
 |seq {x y:Code} {a b:AC} (hx:fS L n x a) (hy:fS L n y b):fS L n (.seq x y) (.seq a b)
 |cond {c:Operand} {ac:Arg} {x y:Code} {a b:AC} (hc:cQ L c ac) (hx:fS L n x a) (hy:fS L n y b):fS L n (.cond c x y) (.cond ac a b)
 |block {id:Nat} {x:Code} {a:AC} (hx:fS L n x a):fS L n (.block id x) (.block id a)
 |loop {x:Code} {a:AC} (hx:fS L n x a):fS L n (.loop x) (.loop a)
 |exit (id:Nat):fS L n (.exit id) (.exit id)
 |bad (c:Code):fS L n c .bad
 |ret:fS L n .ret .ret
 |j9 {id:Nat} {ops:Array Oper} {aV:List AI} (h:RI L n ops aV):fS L n (.region id ops false) (.j9 aV false)
 |yY {id:Nat} {ops:Array Oper} {aV:List AI} {ms:List Nat} {inc:bm} {bf:Nat->Nat->Bool} (oP:L.P.follows .mixedOrders=true) (h:zw L n ops aV ms inc bf) (cz:ops.size=aV.length):fS L n (.region id ops true) (.yY aV ms inc)
 |yX {id:Nat} {ops:Array Oper} {aV:List AI} {ms:List Nat} {inc:bm} {bf:Nat->Nat->Bool} {T:uI} {D:TD} (oP:L.P.follows .mixedOrders=true) (h:zw L n ops aV ms inc bf) (t:GH L n ops aV.length T D):
   fS L n (.region id ops true) (.yX aV ms inc T)
 |uD {id:Nat} {ops:Array Oper} {aV:List AI} {ms:List Nat} {inc:bm} {bf:Nat->Nat->Bool} {p:Nat} (oP:L.P.follows .mixedOrders=true) (h:zw L n ops aV ms inc bf) (cz:ops.size=aV.length) (hp:Xc ops aV ms p (qD p aV).length):
   fS L n (.region id ops true) (.uD aV ms inc p)
 |FQ {id:Nat} {ops:Array Oper} {aV:List AI} {ms:List Nat} {inc:bm} {bf:Nat->Nat->Bool} {T:uI} {D:TD} {p:Nat} (oP:L.P.follows .mixedOrders=true) (h:zw L n ops aV ms inc bf) (t:GH L n ops aV.length T D) (hp:Xc ops aV ms p (qD p aV).length):
   fS L n (.region id ops true) (.FQ aV ms inc T p)
 |Bz {id:Nat} {ops:Array Oper} {d r:Nat} (oP:L.P.follows .mixedOrders=true) (h:OX L n ops d r):fS L n (.region id ops true) (.Bz d r)
def W(L:Lk)(n:Nat)(m:Md)(c:AC)(σ:St)(Q:AE->St->Prop):Prop:=
 ∀(e:Code)(g0:Gh)(bZ:bm)(w0:World)(g:Gh)(a:Act)(w:World),(g0.bk.length<=m.1/\bZ.length<=m.2)->fS L n e c->Step g0 bZ w0 g σ.rl w->dx L n g σ a w->e.wp L.P (JQ L n m.X g0 bZ w0 Q) a w
theorem W.mono{m:Md}{c:AC}{σ:St}{Q r:AE->St->Prop}(h:W L n m c σ Q)(d:∀e t,Q e t->r e t):W L n m c σ r:=
 fun o l i u g a w f y s p=>wp_mono (h o l i u g a w f y s p) fun _ _ _ h=>h.elim (fun⟨v,b,t,k,j,q,x⟩=> .inl ⟨v,b,t,k,j,q,d _ _ x⟩) .inr
def LW(L:Lk)(n:Nat)(m:Md)(c:AC)(σ:St)(Q:AE->St->Prop):Prop:=
 ∀(x:Code)(g0:Gh)(bZ:bm)(w0:World)(g:Gh)(a:Act)(w:World),(g0.bk.length<=m.1/\bZ.length<=m.2)->fS L n x c->Step g0 bZ w0 g σ.rl w->dx L n g σ a w->
  ∀(b:Frame)(k:List Item)(cs:List Frame),∃e t o,JQ L n m.X g0 bZ w0 Q e t o/\Arrives L.P (lone (b.at a (.code x:: .inLoop x::k)) cs w) b k cs e t o
theorem LW.mono{m:Md}{c:AC}{σ:St}{Q i:AE->St->Prop}(h:LW L n m c σ Q)(r:∀e t,Q e t->i e t):LW L n m c σ i:=
 fun x d o l g a w u f s y b k p=>let⟨e,v,j,q,z⟩:=h x d o l g a w u f s y b k p
  ⟨e,v,j,q.elim (fun⟨E,T,t,A,O,I,N⟩=> .inl ⟨E,T,t,A,O,I,r _ _ N⟩) .inr,z⟩
abbrev zL(L:Lk)(n:Nat)(m:Md):AC->St->(AE->St->Prop)->Prop:=ev L.gl (dk L) (uJ L m.X) (LW L n m) (bA L)
theorem mS(m:Md)(c:AC):∀(σ:St)(Q:AE->St->Prop),zL L n m c σ Q->W L n m c σ Q:=by
 induction c with
 |skip=>
  intro σ Q l z S u H g a w R I s O;cases I;exact wp_skip (.inl ⟨_,g,σ,.normal,s,O,l⟩)
 |ret=>
  intro σ Q l z S u H g a w R I s O;cases I;exact wp_ret (.inl ⟨_,g,σ,.ret,s,O,l⟩)
 |exit id=>
  intro σ Q l z S u H g a w R I s O;cases I;exact wp_exit (.inl ⟨_,g,σ,.exit id,s,O,l⟩)
 |seq x y F J=>
  intro σ Q l z S u H g a w R I s O;cases I with
  |seq hx hy=>
  refine wp_seq (wp_mono (F σ _ l _ S u H g a w R hx s O) ?_);rintro e V B (⟨ae,M,A,he,D,f,Y⟩|⟨Z,ch,hX,rfl,U,C⟩)
  case inr=>exact .inr ⟨Z,ch,hX,rfl,U,C⟩
  cases he with
  |normal=>exact J A Q Y _ S u H M V B R hy D f
  |exit id=>exact(.inl ⟨_,M,A,.exit id,D,f,Y⟩)
  |ret=>exact(.inl ⟨_,M,A,.ret,D,f,Y⟩)
 |cond c x y F J=>
  intro σ Q l z S u H g a w R I s O;obtain⟨el,nb,bx,rl⟩:=σ;cases I with
  |cond I hx hy=>
  have hv:=I.val O;simp only[zL,ev]at l;split at l
  .rename_i t ht;rw[ht]at hv;have hb:=hv.me;simp only[ud]at l;split at l
   .rename_i i;have hi:a.tmps.getD i undef=.bool t:=by cases I;exact hb
    cases t with
    |true=>exact wp_cond_true hb (F _ Q l _ S u H g a w R hx s (O.vp i (.d (.bool true)) (by rw[hi];exact VR.kH true)))
    |false=>exact wp_cond_false hb (J _ Q l _ S u H g a w R hy s (O.vp i (.d (.bool false)) (by rw[hi];exact VR.kH false)))
   .cases t with
    |true=>exact wp_cond_true hb (F _ Q l _ S u H g a w R hx s O)
    |false=>exact wp_cond_false hb (J _ Q l _ S u H g a w R hy s O)
  .exact l.elim
 |block id x F=>
  intro σ Q l z S u H g a w R I s O;cases I with
  |block hx=>
  refine wp_block (wp_mono (F σ _ l _ S u H g a w R hx s O) ?_);rintro e V B (⟨ae,M,A,he,D,f,Y⟩|⟨Z,ch,hX,rfl,U,C⟩)
  case inr=>exact .inr ⟨Z,ch,hX,rfl,U,C⟩
  cases he with
  |normal=>exact(.inl ⟨_,M,A,.normal,D,f,Y⟩)
  |exit i=>
   simp only at Y;by_cases hi:i=id
   .subst hi;simp at Y;simp only[Exit.inBlock,if_true];exact(.inl ⟨_,M,A,.normal,D,f,Y⟩)
   .have:Nat.beq i id=false:=by cases hb:Nat.beq i id with|true=>exact absurd (dL hb) hi|false=>rfl
    rw[this]at Y;simp only[Exit.inBlock,hi,if_false];exact(.inl ⟨_,M,A,.exit i,D,f,Y⟩)
  |ret=>exact(.inl ⟨_,M,A,.ret,D,f,Y⟩)
 |loop x F=>
  intro σ Q l z S u H g a w R I s O;cases I with
  |loop hx=>
  intro b k cs;obtain⟨e,V,B,h1,h2⟩:=l _ S u H g a w R hx s O b k cs;exact⟨e,V,B,h1,.of_steps (.one step_loop) h2⟩
 |j9 ops dr=>
  intro σ Q l z S u H g a w R I s O;cases I with
  |j9 h=>
  refine wp_region ?_
  have:=zM (L:=L) (n:=n) (X:=m.X) (Q:=JQ L n m.X S u H Q) ops 0 σ _ g a w (fun k ai G=>by
   obtain⟨o,N,hi⟩:=h.2 k ai G;exact⟨o,by rw[dK];exact N,hi⟩) l O (fun A M V B D f G=>(.inl ⟨_,M,A,.normal,s.trans D,f,G⟩)) (fun Z hX ch V B U C=> .inr ⟨Z,ch,hX,rfl,U,C.after s⟩)
  rw[<-h.1]at this;rw[Mm];exact this
 |yY ops ms et=>
  intro σ Q l z S u H g a w R I s O;cases I with
  |yY E h K=>
  exact Kd E h K l O fun A M V B D f G=>(.inl ⟨_,M,A,.normal,s.trans D,f,G⟩)
 |yX ops ms et T=>
  intro σ Q l z S u H g a w R I s O;cases I with
  |yX E h t=>
  refine Kc E h (fun j o hj N=>?_) l O fun ed ee A M V B q1 q2 q3 q4 D f G=>Ix t G f q1 q2 q3 (by have:=t.size;omega) fun σ2 g2 a2 w2 s2 eo ei=>(.inl ⟨_,g2,σ2,.normal,s.trans (D.trans s2),eo,ei⟩)
  have em:=(nx.1 N).1;have K:=t.size;have P:j=ops.length\/j=ops.length+1\/j=ops.length+2\/j=ops.length+3\/j=ops.length+4:=by omega
  have up:∀{oo:Oper}{q:Nat},o=oo->ops.length<=q->(∃e,e∈oo.after/\Region.binds .any e=true/\e.on=q)->∃e,e∈o.after/\Region.binds .any e=true/\ops.length<=e.on:=by
   rintro oo q rfl Y ⟨e,q1,q2,rfl⟩;exact⟨e,q1,q2,Y⟩
  rcases P with rfl|rfl|rfl|rfl|rfl
  .rw[t.h8]at N;cases N;exact .inr t.e8
  .rw[t.h9]at N;cases N;exact .inl (up rfl om t.e9)
  .rw[t.yu]at N;cases N;exact .inl (up rfl om t.e10)
  .rw[t.Dm]at N;cases N;exact .inl (up rfl om t.e11)
  .rw[t.Fq]at N;cases N;exact .inl (up rfl om t.e12)
 |uD ops ms et p=>
  intro σ Q l z S u H g a w R I s O;cases I with
  |uD E h K hp=>
  rcases l with l|l
  .exact Kd E h K l O fun A M V B D f G=>(.inl ⟨_,M,A,.normal,s.trans D,f,G⟩)
  .exact Fl E h hp l O fun Z hX ch V B U C=> .inr ⟨Z,ch,hX,rfl,U,C.after s⟩
 |FQ ops ms et T p=>
  intro σ Q l z S u H g a w R I s O;cases I with
  |FQ E h t hp=>
  rcases l with l|l
  case inr=>exact Fl E h hp l O fun Z hX ch V B U C=> .inr ⟨Z,ch,hX,rfl,U,C.after s⟩
  refine Kc E h (fun j o hj N=>?_) l O fun ed ee A M V B q1 q2 q3 q4 D f G=>Ix t G f q1 q2 q3 (by have:=t.size;omega) fun σ2 g2 a2 w2 s2 eo ei=>(.inl ⟨_,g2,σ2,.normal,s.trans (D.trans s2),eo,ei⟩)
  have em:=(nx.1 N).1;have K:=t.size;have P:j=ops.length\/j=ops.length+1\/j=ops.length+2\/j=ops.length+3\/j=ops.length+4:=by omega
  have up:∀{oo:Oper}{q:Nat},o=oo->ops.length<=q->(∃e,e∈oo.after/\Region.binds .any e=true/\e.on=q)->∃e,e∈o.after/\Region.binds .any e=true/\ops.length<=e.on:=by
   rintro oo q rfl Y ⟨e,q1,q2,rfl⟩;exact⟨e,q1,q2,Y⟩
  rcases P with rfl|rfl|rfl|rfl|rfl
  .rw[t.h8]at N;cases N;exact .inr t.e8
  .rw[t.h9]at N;cases N;exact .inl (up rfl om t.e9)
  .rw[t.yu]at N;cases N;exact .inl (up rfl om t.e10)
  .rw[t.Dm]at N;cases N;exact .inl (up rfl om t.e11)
  .rw[t.Fq]at N;cases N;exact .inl (up rfl om t.e12)
 |Bz d r=>
  intro σ Q l z S u H g a w R I s O;obtain⟨el,nb,bx,rl⟩:=σ;cases I with
  |Bz E h=>
  refine R7 h E O fun v M V B D f=> .inl ⟨_,M,_,.normal,s.trans D,f,?_⟩
  cases v with
  |true=>exact l.1
  |false=>exact l.2
 |bad=>intro σ Q l;exact l.elim
theorem LW.unfold{m:Md}{c:AC}{σ:St}{Q:AE->St->Prop}(h:zL L n m c σ fun e o=>match e with| .normal=>LW L n m c o Q| .exit i=>Q (.exit i) o| .ret=>Q .ret o):LW L n m c σ Q:=by
 intro x E l T g a w A O s N b k I;obtain⟨e,u,f,⟨F,y,o,S,p,r,v⟩|⟨H,R,D,rfl,j,q⟩,t⟩:=mS m c σ _ h x E l T g a w A O s N b (.inLoop x::k) I
 case inr=>exact⟨_,u,f,.inr ⟨H,R,D,rfl,j,q⟩,.pass (x:=.inLoop x) rfl (fun _ _=> .inl si) t⟩
 cases S with
 |normal=>
  obtain⟨U,C,M,z,d⟩:=v x E l T y u f A O p r b k I;exact⟨U,C,M,z,.of_steps (Steps.trans t (.one step_inLoop)) d⟩
 |exit id=>exact⟨_,u,f,.inl ⟨_,y,o,.exit id,p,r,v⟩,.pass (x:=.inLoop x) rfl (fun _ _=> .inl si) t⟩
 |ret=>exact⟨_,u,f,.inl ⟨_,y,o,.ret,p,r,v⟩,.pass (x:=.inLoop x) rfl (fun _ _=> .inl si) t⟩
attribute [irreducible] LW
end
variable{n f:Nat}{c:Value}{args:List AV}
def ki:Nat->List AV->Env
 |_,[]=>[]
 |i,v::r=>(i,v)::ki (i+1) r
def FR(env:Env)(bx:List Bx):List yh->(List AV->Prop)->Prop
 |[],K=>K []
 | .t i::r,K=>force (look env i) fun v=>FR env bx r fun l=>K (v::l)
 | .c i m a::r,K=>match look env i with
  | .ptr b j=>match nth bx b with
   |some (.var _ e)=>oM e j m fun e=>iO a e fun v=>FR env bx r fun l=>K (v::l)
   |_=>False
  |_=>False
def QA(e:List AV)(K:AV->Prop):Prop:=
 match e with
 |[v]=>K v
 |e=>K (.b6 e)
def L6(nb a:Nat):AV->AV->Prop
 | .d x,.d y=>x=y
 | .aO e _,.d (.sl t)=>e=t
 | .aO e .nil,.aO t .nil=>e=t
 | .aO e .full,.aO t .full=>e=t
 | .aO e (.row k),.aO t (.row j)=>k=j/\k<a/\e=t
 | .aO e (.fe k),.aO t (.fe j)=>k=j/\k<a/\e=t
 | .aO e (.sub k C),.aO t (.sub j D)=>k=j/\k<a/\C=D/\e=t
 | .aO e (.uu k C o),.aO t (.uu j D p)=>k=j/\k<a/\C=D/\o=p/\e=t
 | .kh es p e ds zs k,.kh s u h r l j=>k=j/\k<a/\es=s/\p=u/\e=h/\ds=r/\zs=l
 | .kn k C q,.kn j D p=>k=j/\k<a/\C=D/\q=p
 | .ptr b j,.ptr i m=>b=i/\j=m/\b<nb
 | .gA f,.gA ds=>f=ds
 | .rC b n,.rC i w=>b=i/\n=w/\b<nb
 | .uv b,.uv i=>b=i/\b<nb
 | .d (.int .i64 n),.ni b=>b=true->n≠0
 | .ni b,.ni c=>b=c
 |_,.bM=>True
 |_,_=>False
def wkL(nb e:Nat):List AV->List AV->Prop
 |[],[]=>True
 |x::r,y::s=>L6 nb e x y/\wkL nb e r s
 |_,_=>False
def I6(nb e:Nat):AV->AV->Prop
 | .agg t,.agg a=>wkL nb e t a
 | .fn f t,.fn o a=>f=o/\wkL nb e t a
 |x,y=>L6 nb e x y
def aeI(nb e:Nat):List AV->List AV->Prop
 |[],[]=>True
 |x::r,y::s=>I6 nb e x y/\aeI nb e r s
 |_,_=>False
def Uz(nb e:Nat):AV->AV->Prop
 | .b6 t,.b6 a=>aeI nb e t a
 |x,y=>I6 nb e x y
def wkB(nb a:Nat):Bx->Bx->Prop
 | .var t o,.var u ds=>(u=0\/t=u)/\wkL nb a o ds
 | .row e i,.row f n=>e=f/\i=n
 | .iter s p,.iter t q=>s=t/\p=q
 | .dead,.dead=>True
 |_,_=>False
def wY(nb e:Nat):List Bx->List Bx->Prop
 |_,[]=>True
 |x::r,y::s=>wkB nb e x y/\wY nb e r s
 |[],_::_=>False
def B4:bm->bm->Prop
 |_,[]=>True
 |x::r,y::s=>x=y/\B4 r s
 |[],_::_=>False
def Lw(v:AV)(bx:List Bx)(K:AV->List Bx->Prop):Prop:=
 match v with
 | .rC b n=>match nth bx b with
  |some (.row _ e)=>bI (n=e.length) (pz bx b .dead fun bx=>K (.aO e .full) bx)
  |_=>False
 |v=>K v bx
def cw(v0:AV)(dQ:List Bx)(bZ:bm)(v:AV)(nb:Nat)(bx:List Bx)(rl:bm):Prop:=
 Uz nb rl.length v0 v/\wY nb rl.length dQ bx/\B4 bZ rl/\nb=bx.length
def xx(a:List yh)(v:AV)(nb:Nat)(bx:List Bx)(rl:bm)(e:AE)(σ:St):Prop:=
 match e with
 | .exit _=>False
 |_=>match σ with
  |⟨o,_,t,i⟩=>FR o t a fun s=>QA s fun n=>Lw n t fun n t=>cw n t i v nb bx rl
section
variable{L:Lk}
inductive GG(L:Lk):ResultVar->yh->Prop where
 |t (i:Nat):GG L (.tmp i) (.t i)
 |c (i:Nat) (t:TypeId) (m:Nat) (ag:Bool) (h:UL L t m ag):GG L (.cell i t) (.c i m ag)
def RJ(L:Lk)(e:Array ResultVar)(as:List yh):Prop:=e.size=as.length/\∀(j:Nat)(r:ResultVar)(a:yh),e[j]?=some r->as[j]?=some a->GG L r a
structure aJ(L:Lk)(f:Nat)(af:AF):Prop where
 here:∃fn code,L.P.funcs[L.fn f]?=some fn/\fn.body=some code/\fS L af.nt code af.body/\fn.ntmps=af.nt/\RJ L fn.results af.res
 np:af.np<=af.nt
def FT(e:Array Value):ResultVar->Sem Value
 | .tmp t=>pure (e.getD t undef)
 | .cell a t=>do loadVar t (<-asAddr (e.getD a undef))
theorem Is(fn:Func)(e:Array Value):results fn e=(do
  let t<-fn.results.mapM (FT e)
  pure (if h:t.size=1 then t[0]else .tuple t)):=rfl
theorem aau{σ:St}(h:dx L n g σ a w):∀(u:List ResultVar)(as:List yh)(K:List AV->Prop),u.length=as.length->
  (∀(j:Nat)(r:ResultVar)(a:yh),u[j]?=some r->as[j]?=some a->GG L r a)->FR σ.env σ.bx as K->
  ∃z f,K z/\z.length=f.length/\f.length=u.length/\(∀(j:Nat)(x:AV)(y:Value),z[j]?=some x->f[j]?=some y->VR L g σ.rl w x y)/\
   (u.mapM (FT a.tmps)).run L.P w=.ok f w:=by
 intro u
 induction u with
 |nil=>
  intro as K O _ s;cases as with
  |nil=>exact⟨[],[],s,rfl,rfl,fun j x y l=>by simp at l,rfl⟩
  |cons x r=>simp at O
 |cons r u B=>
  intro as K O G s;cases as with
  |nil=>simp at O
  |cons ar as=>
   have h0:=G 0 r ar rfl rfl;have o:∀(j:Nat)(r:ResultVar)(a:yh),u[j]?=some r->as[j]?=some a->GG L r a:=fun j r' a' I N=>G (j+1) r' a' (by simpa using I) (by simpa using N)
   cases h0 with
   |t i=>
    simp only[FR,force_eq]at s;obtain⟨z,f,I,N,U,J,A⟩:=B as _ (by simpa using O) o s;refine⟨_::z,a.tmps.getD i undef::f,I,by simp[N],by simp[U],fun j x y l S=>?_,?_⟩
    .cases j with
     |zero=>
      have l:look σ.env i=x:=by simpa using l
      have S:a.tmps.getD i undef=y:=by simpa only[List.getElem?_cons_zero,qZ]using S
      rw[<-l,<-S];exact h.slot i
     |succ j=>exact J j x y (by simpa using l) (by simpa using S)
    .rw[JG];simp only[Sem.run_bind,FT,Sem.run_pure,Result.andThen_ok,A]
   |c i t m Q ht=>
    simp only[FR]at s;have X:=h.slot i;split at s
    .rename_i b j hb;rw[hb]at X;obtain⟨E,he,C⟩:=X.jH;split at s
     .rename_i ty ee H;rw[mK]at H;obtain⟨_,e,ta,hh,M,T,_⟩:=h.sh.box b _ E H C;obtain⟨F,ys,Z,q3,q4⟩:=zC _ _ _ _ s;obtain⟨⟨ti,hi,hm⟩,⟨d,hd,ha⟩,R⟩:=ht;have p:∀q,q<m->j+q<e.size:=fun q D=>by rw[M];rcases F with F|F<;>omega
      obtain⟨v,Y,V⟩:=ue (L:=L) (g:=g) (rl:=σ.rl) (w:=w) R ys (fun q=>e.getD (j+q) undef) Z (fun q x l=>by
       have D:q<m:=by rw[<-Z];exact(bV.1 l).1
       have A:=q3 q D;rw[l]at A;refine T (j+q) x _ A.symm ?_;simp[p q D]) _ q4
      have k:=ot L.P w t m Q ti d hi hm hd ha R E j (fun q=>e.getD (j+q) undef) (fun q D=>by
       rw[cell_of_row w E (j+q) e ta (0,0) hh];simp[p q D])
      obtain⟨z,f,I,N,U,J,A⟩:=B as _ (by simpa using O) o Y;generalize (if Q=true then Value.agg ((List.range m).map fun q=>e.getD (j+q) undef).toArray else e.getD (j+0) undef)=cv at k V;refine⟨v::z,cv::f,I,by simp[N],by simp[U],fun j x y l S=>?_,?_⟩
      rotate_left
      .rw[JG];simp only[Sem.run_bind,FT,he,asAddr,Sem.run_pure,Result.andThen_ok,k,A]
      grind
     .exact s.elim
    .exact s.elim
def Gh.cut(g:Gh)(nb e:Nat):Gh:={bk:=g.bk.take nb,bD:=g.bD,rw:=g.rw.take e,par:=g.par}
theorem uC:∀{xs ys:bm},B4 xs ys->ys=xs.take ys.length/\ys.length<=xs.length
 |_,[],_=>⟨by simp,by simp⟩
 |x::r,y::s,⟨e,t⟩=>by obtain⟨a,o⟩:=uC t;exact⟨by simp[e,<-a],by simp;omega⟩
 |[],_::_,h=>h.elim
theorem VR.L6{g:Gh}{rl:bm}{w:World}{nb u:Nat}{x y:AV}{c:Value}(h:VR L g rl w x c)(o:L6 nb u x y):VR L (g.cut nb u) (rl.take u) w y c:=by
 unfold Ab.L6 at o;split at o
 .subst o;cases h with|d _ _ h=>exact .d _ _ h
 .subst o;cases h with|aO q t v h l=>exact .d _ _ h
 .subst o;cases h with|aO q t v h l=>exact .aO _ _ _ h l
 .subst o;cases h with|aO q t v h l=>exact .aO _ _ _ h l
 .obtain⟨rfl,i,rfl⟩:=o;cases h with
  |aO q t v h l=>
  obtain⟨C,e,s,r,m,k⟩:=l;refine .aO _ _ _ h ⟨C,e,by rw[jC i];exact s,r,m,fun f=>?_⟩;show(_/\(g.rw.take u)[_]?=_)\/∃a p t,_/\(g.rw.take u)[_]?=_/\_;grind
 .obtain⟨rfl,i,rfl⟩:=o;cases h with
  |aO q t v h l=>
  obtain⟨n,e,s,r,m,k,U⟩:=l;refine .aO _ _ _ h ⟨n,e,by rw[jC i];exact s,r,m,k,fun f=>?_⟩;show(_/\(g.rw.take u)[_]?=_)\/∃a p t,_/\(g.rw.take u)[_]?=_/\_;grind
 .obtain⟨rfl,i,rfl,rfl⟩:=o;cases h with
  |aO q t v h l=>
  obtain⟨n,e,s,r,m,k⟩:=l;refine .aO _ _ _ h ⟨n,e,by rw[jC i];exact s,r,m,fun f=>?_⟩;show _\/∃a E len p,_/\(g.rw.take u)[_]?=_;grind
 .obtain⟨rfl,i,rfl,rfl,rfl⟩:=o;cases h with
  |aO q t v h l=>
  obtain⟨n,e,s,r,m,k⟩:=l;refine .aO _ _ _ h ⟨n,e,by rw[jC i];exact s,r,m,fun f=>?_⟩;show∃a,(g.rw.take u)[_]?=_/\_/\_;rw[jC i];exact k f
 .obtain⟨rfl,i,rfl,rfl,rfl,rfl,rfl⟩:=o;cases h with
  |kh _ _ _ _ _ _ a p c t s r m k U M F Y P T A O I=>
   obtain⟨n,e,N,S,H,R,D⟩:=I
   exact .kh _ _ _ _ _ _ a p c t s r m k U M F Y P T A O ⟨n,e,by rw[jC i];exact N,S,H,R,fun f=>by
    show(g.rw.take u)[_]?=_;rw[jC i];exact D f⟩
 .obtain⟨rfl,i,rfl,rfl⟩:=o;cases h with
  |kn _ _ _ a es h=>
   obtain⟨n,e,N,S,H,R,D⟩:=h
   exact .kn _ _ _ a es ⟨n,e,by rw[jC i];exact N,S,H,R,fun f=>by
    show(g.rw.take u)[_]?=_;rw[jC i];exact D f⟩
 .obtain⟨rfl,rfl,z⟩:=o;cases h with
  |ptr b j a h=>exact .ptr _ _ a (by show(g.bk.take nb)[_]?=_;rw[jC z];exact h)
 .subst o;cases h with|gA V a E c s r m=>exact .gA _ _ _ _ s r m
 .obtain⟨rfl,rfl,z⟩:=o;cases h with
  |rC b n a h f=>exact .rC _ _ a (by show(g.bk.take nb)[_]?=_;rw[jC z];exact h) f
 .obtain⟨rfl,z⟩:=o;cases h with
  |uv b a h=>exact .uv _ a (by show(g.bk.take nb)[_]?=_;rw[jC z];exact h)
 .cases h with
  |d _ _ h=>cases h with|int _ _ h=>exact .ni _ _ h o
 .subst o;cases h with|ni _ n s r=>exact .ni _ _ s r
 .exact .bM _
 .exact o.elim
theorem F8{nb t:Nat}:∀{xs ys:List AV},wkL nb t xs ys->xs.length=ys.length/\∀(j:Nat)(y:AV),ys[j]?=some y->∃x,xs[j]?=some x/\L6 nb t x y
 |[],[],_=>⟨rfl,fun j y h=>by simp at h⟩
 |x::r,y::s,⟨a,o⟩=>by
  obtain⟨i,n⟩:=F8 o;refine⟨by simp[i],fun j z e=>?_⟩;cases j with
  |zero=>simp at e;subst e;exact⟨x,rfl,a⟩
  |succ j=>exact n j z (by simpa using e)
 |[],_::_,h=>h.elim
 |_::_,[],h=>h.elim
theorem VR.I6{g:Gh}{rl:bm}{w:World}{nb a:Nat}{x y:AV}{c:Value}(h:VR L g rl w x c)(e:I6 nb a x y):VR L (g.cut nb a) (rl.take a) w y c:=by
 unfold Ab.I6 at e;split at e
 .obtain⟨d,o⟩:=F8 e;cases h with
  |agg l u m i=>
  refine .agg _ _ om fun j y c n s=>?_
  obtain⟨x,r,t⟩:=o j y n;exact(i j x c r s).L6 t
 .obtain⟨rfl,e⟩:=e;obtain⟨d,o⟩:=F8 e;cases h with
  |fn f l u m i=>
  refine .fn _ _ _ om fun j y c n s=>?_
  obtain⟨x,r,t⟩:=o j y n;exact(i j x c r s).L6 t
 .exact h.L6 e
theorem OS{nb t:Nat}:∀{xs ys:List AV},aeI nb t xs ys->xs.length=ys.length/\∀(j:Nat)(y:AV),ys[j]?=some y->∃x,xs[j]?=some x/\I6 nb t x y
 |[],[],_=>⟨rfl,fun j y h=>by simp at h⟩
 |x::r,y::s,⟨a,o⟩=>by
  obtain⟨i,n⟩:=OS o;refine⟨by simp[i],fun j z e=>?_⟩;cases j with
  |zero=>simp at e;subst e;exact⟨x,rfl,a⟩
  |succ j=>exact n j z (by simpa using e)
 |[],_::_,h=>h.elim
 |_::_,[],h=>h.elim
theorem VR.Uz{g:Gh}{rl:bm}{w:World}{nb t:Nat}{x y:AV}{c:Value}(h:VR L g rl w x c)(e:Uz nb t x y):VR L (g.cut nb t) (rl.take t) w y c:=by
 unfold Ab.Uz at e;split at e
 .obtain⟨d,o⟩:=OS e;cases h with
  |b6 l u m i=>
  refine .b6 _ _ om fun j y c n s=>?_
  obtain⟨x,r,a⟩:=o j y n;exact(i j x c r s).I6 a
 .exact h.I6 e
theorem OR{nb t:Nat}:∀{xs ys:List Bx},wY nb t xs ys->ys.length<=xs.length/\∀(j:Nat)(y:Bx),ys[j]?=some y->∃x,xs[j]?=some x/\wkB nb t x y
 |_,[],_=>⟨by simp,fun j y h=>by simp at h⟩
 |x::r,y::s,⟨a,o⟩=>by
  obtain⟨n,i⟩:=OR o;refine⟨by simp;omega,fun j z e=>?_⟩;cases j with
  |zero=>simp at e;subst e;exact⟨x,rfl,a⟩
  |succ j=>exact i j z (by simpa using e)
 |[],_::_,h=>h.elim
theorem Gu.wkB{g:Gh}{rl:bm}{w:World}{nb o aw:Nat}{x y:Bx}(h:Gu L g rl w x aw)(a:wkB nb o x y):Gu L (g.cut nb o) (rl.take o) w y aw/\(y≠.dead->x≠.dead):=by
 unfold Ab.wkB at a;split at a
 .obtain⟨i,t,s,v,r,d⟩:=h;obtain⟨l,a⟩:=a;obtain⟨b,u⟩:=F8 a;refine⟨⟨i,t,s,by omega,fun j y c m f=>?_,l.elim .inl fun e=>by rw[<-e];exact d⟩,fun _=>by simp⟩;obtain⟨x,p,n⟩:=u j y m;exact(r j x c p f).L6 n
 .obtain⟨rfl,rfl⟩:=a;exact⟨h,fun _=>by simp⟩
 .obtain⟨rfl,rfl⟩:=a;exact⟨h,fun _=>by simp⟩
 .exact⟨h,fun h=>absurd rfl h⟩
 .exact a.elim
theorem aY.cut{g:Gh}{jg nb:Nat}{dQ bx:List Bx}{bZ rl:bm}{w:World}(h:aY L g jg dQ bZ w)(f:wY nb rl.length dQ bx)(O:B4 bZ rl)(E:nb=bx.length):
  aY L (g.cut nb rl.length) nb bx rl w:=by
 obtain⟨l,I⟩:=uC O;obtain⟨N,y⟩:=OR f;refine⟨E,by simp[Gh.cut,h.kt];omega,?_,?_,by simp[Gh.cut,h.jv];omega,?_,?_,h.fresh,?_,⟨h.par.fresh,fun b f=>h.par.bk b (Mn f),h.par.sep,h.par.F3⟩⟩
 .intro i x a T r;obtain⟨S,p,v⟩:=y i x T;have q:i<nb:=by rw[E];exact(bV.1 T).1
  have r:(g.bk.take nb)[i]?=some a:=r;rw[jC q]at r;obtain⟨d,z⟩:=h.box i S a p r;have:=z.wkB v;rw[<-l]at this;exact⟨fun H=>d (this.2 H),this.1⟩
 .intro i j a o s;have o:(g.bk.take nb)[i]?=some a:=o;have s:(g.bk.take nb)[j]?=some a:=s;rw[xa]at o s;split at o
  .split at s
   .exact h.inj i j a o s
   .cases s
  .cases o
 .intro k n e r;have u:k<rl.length:=(bV.1 r).1;rw[l,jC (by simpa using u)]at r;obtain⟨R,d⟩:=h.row k n e r;refine⟨R,?_⟩;show((g.rw.take rl.length)[k]?=some none/\_)\/∃a m t A,(g.rw.take rl.length)[k]?=_/\_/\_/\_/\a∉g.bk.take nb/\_;rw[jC u];rcases d with d|⟨a,m,t,A,D,U,C,M,F,Y⟩
  .exact .inl d
  .exact .inr ⟨a,m,t,A,D,U,C,M,fun P=>F (Mn P),Y⟩
 .intro i j b o s;have o:(g.rw.take rl.length)[i]?=some (some b):=o;have s:(g.rw.take rl.length)[j]?=some (some b):=s;rw[xa]at o s;split at o
  .split at s
   .exact h.jI i j b o s
   .cases s
  .cases o
 .intro i;refine⟨?_,(h.jd i).2⟩;have:=(h.jd i).1;generalize (Value.pointer (some ⟨L.gn i,0,none⟩))=G at this⊢;cases this with|gA K a V c d z B=>exact .gA _ _ _ _ d z B
theorem Step.cut{g g':Gh}{rl bZ bz:bm}{w w':World}{nb:Nat}(s:Step g rl w g' bZ w')(t:B4 bZ bz)(a:g.bk.length<=nb)(o:rl.length<=bz.length):Step g rl w (g'.cut nb bz.length) bz w' where
 os:=s.os
 tape:=s.tape
 output:=s.output
 size:=s.size
 bD:=s.bD
 cell:=s.cell
 bk i b h:=by
  show(g'.bk.take nb)[i]?=_;rw[jC (by have:=(bV.1 h).1;omega)];exact s.bk i b h
 row k n e h:=by
  obtain⟨r,d,l,u,f,c⟩:=s.row k n e h;have m:k<bz.length:=by have:=(bV.1 h).1;omega
  refine⟨r,d,?_,u,fun y=>?_,c⟩
  .rw[(uC t).1,jC (by simpa using m)];exact l
  .show(g'.rw.take _)[k]?=_;grind
 shape:=s.shape
 jz b h:=s.jz b (Mn h)
 jA b h:=s.jA b (Mn h)
 frame:=s.frame
 lb:=s.lb
 oi:=s.oi
theorem adY{σ:St}(h:dx L n g σ a w)(C:VR L g σ.rl w v c)(K:AV->List Bx->Prop)(l:Lw v σ.bx K):
  ∃O u g',K O u/\Step g σ.rl w g' σ.rl w/\aY L g' σ.nb u σ.rl w/\VR L g' σ.rl w O c/\g'.bk=g.bk:=by
 have same:K v σ.bx->∃O u g',K O u/\Step g σ.rl w g' σ.rl w/\aY L g' σ.nb u σ.rl w/\VR L g' σ.rl w O c/\g'.bk=g.bk:=fun l=>⟨v,σ.bx,g,l,Step.refl _ _ _,h.sh,C,rfl⟩
 cases v with
 |rC b m=>
  simp only[Lw]at l;split at l
  .rename_i es I R;rw[mK]at R;obtain⟨Y,l⟩:=l;obtain⟨_,l⟩:=sj _ _ _ _ l;cases C with
   |rC _ _ o p P=>
   obtain⟨q,r,t,D,V,N,S,T⟩:=h.sh.box b _ o R p;have q:=q si;have z:o∈g.bk:=cP.2 ⟨b,p⟩
   have s:Step g σ.rl w {g with bD:=fun x=>if x=o then I.length*es else g.bD x} σ.rl w:=
    ⟨rfl,rfl,rfl,aQ _,fun x=>by
     show _<=(if x=o then _ else _);split
     .rename_i e;subst e;omega
     .exact aQ _,fun _ _ _=>rfl,fun _ _ h=>h,fun _ _ _ h=> .of h (aQ _) fun _=>rfl,fun _ _=>rfl,fun _ h=> .inl h,fun _ h=> .inl h,fun _ _ _ _=>rfl,fun b _ H _=>by
      show(if b=o then _ else _)=_;rw[if_neg (fun h:b=o=>H (h▸z))],fun _ _ _ _=> .refl _⟩
   refine⟨_,_,_,l,s,?_,?_,rfl⟩
   .refine⟨by simp[h.sh.nb],by simp[h.sh.kt],?_,h.sh.inj,h.sh.jv,?_,h.sh.jI,?_,fun i=>(h.sh.jd i).bj s,h.sh.par.bj s rfl (fun c B=>if_neg fun e:c=o=>B (e▸h.sh.par.bk o z)) fun _ _ r t H=>⟨r,t,H⟩⟩
    .intro i x E f d;by_cases A:b=i
     .subst A;have G:b<σ.bx.length:=(bV.1 R).1;rw[jD G]at f;cases f;rw[p]at d;cases d;exact⟨fun h=>absurd rfl h,lt_of_heap D⟩
     .rw[jE A]at f;obtain⟨H,J⟩:=h.sh.box i x E f d;have Q:E≠o:=fun e=>A (h.sh.inj b i o p (e▸d))
      refine⟨fun M=>?_,J.bj s rfl⟩;grind
    .intro k n e d;obtain⟨Z,H⟩:=h.sh.row k n e d;grind
    .intro x f;have:=lt_of_heap D;show(if x=o then _ else _)=0;rw[if_neg om];exact h.sh.fresh x f
   .have M:DR (fun x=>if x=o then I.length*es else g.bD x) w (.sl I) (.slice (some ⟨o,0,none⟩) I.length m):=by
     refine .sl I o 0 m es (fun i j=>r.getD (i*es+j) undef) S om N si (fun i j A X=>?_) (fun i j x y f F=>?_)
     .have:=Ac (es:=es) A;rw[dK,cell_of_row w o _ r t (0,0) D];simp[show i*es+j<r.size by omega]
     .have A:=(bV.1 f).1;have X:j<es:=by have:=(bV.1 F).1;rw[N x (cP.2 ⟨i,f⟩)]at this;exact this
      have:=Ac (es:=es) A;have U:i*es+j<r.size:=by omega
      exact(T i j x y _ f F (by simp[U])).bj s.bD s.cell
    subst Y;exact .aO _ _ _ M (.inr ⟨⟨o,0,none⟩,rfl⟩)
  .exact l.elim
 |_=>exact same l
theorem zz(args:List AV):∀(i s:Nat),look (ki i args) s=if i<=s then(args[s-i]?).getD .bM else .bM:=by
 induction args with
 |nil=>intro i s;simp[ki,look]
 |cons x r e=>
  intro i s;simp only[ki,aE,e];grind
theorem B6{fn:Func}{af:AF}{e:St}{a':Act}{fA:Nat}{cg:List Bx}(c:RJ L fn.results af.res)(N:dx L n g' e a' w')(s:Step g rl w g' e.rl w')(m:g.bk.length<=fA)(q:rl.length<=bz.length):
  (FR e.env e.bx af.res fun z=>QA z fun t=>Lw t e.bx fun t o=>cw t o e.rl v fA cg bz)->
  ∃S,(results fn a'.tmps).run L.P w'=.ok S w'/\∃H g',(Ending.returned S)=.returned H/\Step g rl w g' bz w'/\aY L g' fA cg bz w'/\VR L g' bz w' v H:=by
 intro D;obtain⟨z,i,d,U,k3,u,C⟩:=aau N fn.results.toList af.res _ (by simpa using c.1) (fun j r a M F=>c.2 j r a (by simpa using M) F) D
 have f:(results fn a'.tmps).run L.P w'=.ok (if h:i.toArray.size=1 then i.toArray[0]else .tuple i.toArray) w':=by
  rw[Is,Array.mapM_eq_mapM_toList];simp only[Sem.run_bind,Sem.run_map,C,Result.andThen_ok,Sem.run_pure]
 have Y:∃t,Lw t e.bx (fun t o=>cw t o e.rl v fA cg bz)/\VR L g' e.rl w' t (if h:i.toArray.size=1 then i.toArray[0]else .tuple i.toArray):=by
  match z,i,U,u,d with
  |[],[],_,u,d=>exact⟨.b6 [],d,.b6 [] _ rfl (fun j x y E=>by simp at E)⟩
  |[t],[V],_,u,d=>exact⟨t,d,u 0 t V rfl rfl⟩
  |a::b::r,a'::b'::r',B,u,d=>exact⟨.b6 (a::b::r),d,.b6 _ _ (by simpa using B.symm) (fun j x y E G=>u j x y E (by simpa using G))⟩
 obtain⟨t,K,T⟩:=Y;obtain⟨v',R,A,p,O,l,k,J⟩:=adY N T _ K;obtain⟨Q,X,I,Z⟩:=p;refine⟨_,f,_,A.cut fA bz.length,rfl,(s.trans O).cut I m q,l.cut X I Z,?_⟩;have:=k.Uz Q;rw[<-(uC I).1]at this;exact this
theorem CT.jq{af:AF}{fA:Nat}{cg:List Bx}(j:aJ L f af)(q:args.length=af.np)(d:nb<=fA)(l:rl.length<=bz.length)(h:W L af.nt ⟨nb,rl.length,none⟩ af.body ⟨ki 0 args,nb,bx,rl⟩ (xx af.res v fA cg bz)):CT L f args nb bx rl v fA cg bz:=by
 intro g w t a u o;obtain⟨fn,i,E,T,A,R,O⟩:=j.here
 have c:dx L af.nt g ⟨ki 0 args,nb,bx,rl⟩ {tmps:=t++Array.replicate (fn.ntmps-t.size) undef,defers:=[]} w:=by
  have I:=j.np;refine⟨rfl,by simp;omega,fun s=>?_,a⟩;show VR L g rl w (look (ki 0 args) s) _;rw[zz];simp only[cr,if_true,Nat.sub_zero];cases z:args[s]? with
  |none=>exact .bM _
  |some x=>
   have n:s<t.size:=by rw[u];exact(bV.1 z).1
   have:(t++Array.replicate (fn.ntmps-t.size) undef).getD s undef=t[s]:=by
    simp[HR,n]
   rw[this];exact o s x _ z (dZ n)
 refine calls_of_wp E T (wp_mono (h i g rl w g _ w ⟨by rw[a.kt,<-a.nb];exact aQ _,aQ _⟩ A (Step.refl _ _ _) c) ?_);rintro e D w' (⟨U,g',N,S,s,m,y⟩|⟨C,M,H,_⟩)
 case inr=>cases H
 have r:=B6 (fn:=fn) (v:=v) (fA:=fA) (cg:=cg) O m s (by rw[a.kt,<-a.nb];exact d) l;cases S with
 |normal=>obtain⟨p,b,k⟩:=r y;exact⟨m.defers,p,b,k⟩
 |exit id=>exact y.elim
 |ret=>obtain⟨p,b,k⟩:=r y;exact⟨m.defers,p,b,k⟩
theorem CT.enter{af:AF}{fA:Nat}{cg:List Bx}(o:aJ L f af)(e:args.length=af.np)(t:nb<=fA)(a:rl.length<=bz.length)(h:zL L af.nt ⟨nb,rl.length,none⟩ af.body ⟨ki 0 args,nb,bx,rl⟩ (xx af.res v fA cg bz)):CT L f args nb bx rl v fA cg bz:=
 CT.jq o e t a (mS _ af.body _ _ h)
theorem CX.jq{af:AF}{X:AV->Prop}(c:aJ L f af)(m:args.length=af.np)(h:W L af.nt ⟨nb,rl.length,some X⟩ af.body ⟨ki 0 args,nb,bx,rl⟩ (fun _ _=>False)):CX L f args nb bx rl X:=by
 intro g w t a r o;obtain⟨fn,i,p,v,b,T,A⟩:=c.here
 have d:dx L af.nt g ⟨ki 0 args,nb,bx,rl⟩ {tmps:=t++Array.replicate (fn.ntmps-t.size) undef,defers:=[]} w:=by
  have k:=c.np;refine⟨rfl,by simp;omega,fun s=>?_,a⟩;show VR L g rl w (look (ki 0 args) s) _;rw[zz];simp only[cr,if_true,Nat.sub_zero];cases y:args[s]? with
  |none=>exact .bM _
  |some x=>
   have n:s<t.size:=by rw[r];exact(bV.1 y).1
   have:(t++Array.replicate (fn.ntmps-t.size) undef).getD s undef=t[s]:=by
    simp[HR,n]
   rw[this];exact o s x _ y (dZ n)
 refine calls_of_wp p v (wp_mono (h i g rl w g _ w ⟨by rw[a.kt,<-a.nb];exact aQ _,aQ _⟩ b (Step.refl _ _ _) d) ?_);rintro e O w' (⟨I,g',j,N,s,S,q⟩|⟨H,z,E,rfl,l,u⟩)
 .exact q.elim
 .cases E;exact⟨l,z,rfl,u⟩
theorem CX.enter{af:AF}{X:AV->Prop}(t:aJ L f af)(e:args.length=af.np)(h:zL L af.nt ⟨nb,rl.length,some X⟩ af.body ⟨ki 0 args,nb,bx,rl⟩ (fun _ _=>False)):CX L f args nb bx rl X:=
 CX.jq t e (mS _ af.body _ _ h)
theorem CX.mono{f:Nat}{args:List AV}{nb:Nat}{bx:List Bx}{rl:bm}{X n:AV->Prop}(h:CX L f args nb bx rl X)(s:∀v,X v->n v):CX L f args nb bx rl n:=by
 intro g w t o i a;refine(h g w t o i a).mono ?_;rintro e w' ⟨r,d,l,u,mk,c,m,y⟩;exact⟨r,d,l,u,mk,c,s _ m,y⟩
end
end Go.Ab
