import Derived.Test.YtdcndpbmgpcgmaaGreatDoorY8
import Derived.Test.YtdcndpbmgpcgmaaGreatDoorY7
import Derived.Test.YtdcndpbmgpcgmaaGreatDoorY5
import Derived.Test.YtdcndpbmgpcgmaaGreatDoorY4
import Derived.Test.YtdcndpbmgpcgmaaGreatDoorY3
import Derived.Recover
import Derived.Test.YtdcndpbmgpcgmaaGreatDoorY6
noncomputable section
namespace Go.Ab
open Go
variable{ws:List ab}{nv:ab->Int}
instance aiH (op:Int):Decidable (binds op):=by unfold binds;infer_instance
theorem T8:∀i:Fin 39,i.val≠19->iz (5+(i.val:Int))=List.replicate (eW (5+(i.val:Int))).toNat (if binds (5+(i.val:Int))then 88 else 78)++lL (5+(i.val:Int))++(eQ (5+(i.val:Int))).map kl/\
  (eW (5+(i.val:Int))).toNat<=2/\(2<=(eW (5+(i.val:Int))).toNat->binds (5+(i.val:Int))):=by decide+kernel
theorem LM{op:Int}(h:5<=op/\op<=43)(o:op≠24):iz op=List.replicate (eW op).toNat (if pb (binds op)=true then 88 else 78)++lL op++(eQ op).map kl/\(eW op).toNat<=2/\(2<=(eW op).toNat->pb (binds op)=true):=by
 have t:=T8 ⟨(op-5).toNat,by omega⟩ (by show(op-5).toNat≠19;omega);have e:(5:Int)+((op-5).toNat:Int)=op:=by omega
 simp only[e]at t;refine⟨?_,t.2.1,fun h=>iA (t.2.2 h)⟩;rw[t.1];by_cases a:binds op
 .rw[if_pos a,if_pos (iA a)]
 .rw[if_neg a,if_neg (by simp[a])]
theorem Wh{w:ab}(h:c6 w≠0):w∈eK:=by
 refine qX fun t=>h ?_
 unfold c6;rw[firstIdx_none (l:=eK) (w:=w) (fun j a e=>t (by rw[<-e];exact eu _)),if_neg de]
theorem Qy:∀x∈eK,97<=(x.headD 0).toNat/\x≠[121,101,115]/\x≠[110,111]:=by decide
theorem aam{w:ab}(h:c6 w≠0):¬ ∃t,wh w t:=by
 rintro⟨t,_,s,a⟩;obtain⟨o,d,l⟩:=Qy w (Wh h);have e:=qL t;rw[s]at e;rcases a with a|a|a
 .rw[if_pos a]at e;have n:=Fj t.num;rw[<-e]at n;cases i:w with
  |nil=>rw[i]at o;exact absurd o de
  |cons c r=>
   have:=n c (by rw[i];exact iE ..);rw[i]at o;have o:97<=c.toNat:=o;omega
 .rw[if_neg om,if_pos a]at e;rw[e]at o;exact absurd (show 97<=(34:UInt8).toNat from o) de
 .rw[if_neg om,if_neg om,if_pos a]at e;split at e
  .exact d e
  .exact l e
theorem UQ{w:ab}(h:c6 w≠0):iG w=none:=by
 unfold iG;rw[dif_neg (aam h),if_neg (fun e=>h e.2.1)]
theorem aao(a:∀n:Int,eB .i64 n->nv (dec n)=n)(w:ab):Lp w=iG w:=by
 unfold Lp iG;by_cases h:∃t,wh w t
 .rw[dif_pos h];have s:=h.choose_spec;generalize h.choose=t at*;obtain⟨e,rfl,r⟩:=s;have o:=LX a e;rw[if_pos ⟨t,o,by omega⟩,o];rfl
 .rw[dif_neg h,if_neg];rintro⟨t,e,d⟩;unfold fX at e;split at e
  .rename_i i;cases e;exact h ⟨_,i.choose_spec.1,i.choose_spec.2,by omega⟩
  .cases e
theorem afK(f:∀n:Int,eB .i64 n->nv (dec n)=n){P:Bool->Nat->Nat->Option (Nd×Nat×Nat)}{S:Bool->PS->Nd×PS}(g:Sim ws P S)(hP:RF ws P){op:Int}(s:5<=op/\op<=43)(t:op≠24){a nd:Nat}(w:nd<=200)(o:a+(eW op).toNat<=ws.length\/oI ws nv P op (List.replicate (eW op).toNat (if pb (binds op)=true then 88 else 78)) ⟨0,[],[],[],a,nd⟩=none):
  (∀x,oI ws nv P op (iz op) ⟨0,[],[],[],a,nd⟩=some x->pQ ws S op (iZ a nd)=(.mk op x.num x.tx x.ns x.ks,iZ x.a x.nd))/\(oI ws nv P op (iz op) ⟨0,[],[],[],a,nd⟩=none->(pQ ws S op (iZ a nd)).2.fc≠0):=by
 obtain⟨e,k,j⟩:=LM s t;rw[e,ga,FJ];rcases Ld (ws:=ws) (nv:=nv) (P:=P) (op:=op) (b:=pb (binds op)) (a:=a) (nd:=nd) _ k j with⟨ns,m,r⟩|⟨m,r⟩
 .rw[m];have o:a+(eW op).toNat<=ws.length:=o.resolve_right (fun h=>by rw[m]at h;cases h);dsimp only;rw[FJ];rcases Z7 (ws:=ws) f (P:=P) (op:=op) (ns:=ns) (a:=a+(eW op).toNat) (nd:=nd)with⟨num,tx,z,d,l,y⟩|⟨d,l⟩
  .rw[d];have y:=y o;dsimp only;rcases ZU (nv:=nv) g hP (op:=op) (num:=num) (tx:=tx) (ns:=ns) (kd:=eQ op) y w _ (aQ _)with⟨ks,E,q,u,p,_,_⟩|⟨u,p⟩
   .rw[xd]at u;rw[u];refine⟨fun x h=>?_,fun h=>(by cases h)⟩;cases h;unfold pQ;rw[if_neg t,r];dsimp only;rw[l];dsimp only;rw[p]
   .rw[xd]at u;rw[u];refine⟨fun x h=>(by cases h),fun _=>?_⟩;unfold pQ;rw[if_neg t,r];dsimp only;rw[l];exact p
  .rw[d];refine⟨fun x h=>(by cases h),fun _=>?_⟩;unfold pQ;rw[if_neg t,r];dsimp only;rw[FW (i:=0) l (cr _)];exact l
 .rw[m];refine⟨fun x h=>(by cases h),fun _ c=>?_⟩;unfold pQ at c;rw[if_neg t]at c;dsimp only at c
  have d:(jQ ws op (n9 ws (pb (binds op)) (iZ a nd) (eW op).toNat).2).2.2.fc=0:=qX fun v=>by
   rw[FW (i:=0) v (cr _)]at c;exact v c
  exact r (HE s.1 d [] []).1
theorem OB{S:Bool->PS->Nd×PS}{act:Bool}{s:PS}(h:s.fc≠0):(ma ws S act s).2.fc≠0:=by
 unfold ma;split
 .exact h
 .split
  .exact jG de
  .rename_i t;intro a;have e:c6 (bP ws s.br)≠0:=fun o=>t (.inl o)
   exact h (Yp (s:=s.next) (FF e).1 a)
theorem N1(v:∀n:Int,eB .i64 n->nv (dec n)=n):∀n,Sim ws (cE ws nv n) (oJ ws n):=by
 intro n
 induction n with
 |zero=>
  refine⟨fun e a nd k r o _ _ h=>(by cases h),fun e a nd _ _ _=>?_⟩;show(na ws _ true e (iZ a nd)).2.fc≠0;unfold na;rw[if_neg si];refine OB ?_;show((if 200<=(PS.fail 3 (iZ a nd)).nd then PS.fail 4 (PS.fail 3 (iZ a nd))else PS.fail 3 (iZ a nd)).more).fc≠0;split
  .exact jG (s:=PS.fail 3 (iZ a nd)) (c:=4) de
  .exact jG (s:=iZ a nd) (c:=3) de
 |succ n S=>
  have hP:=yS ws nv n
  have g:∀e a nd,a<=ws.length->nd<=200->(∀k r o,cE ws nv (n+1) e a nd=some (k,r,o)->oJ ws (n+1) e (iZ a nd)=(k,iZ r o))/\(cE ws nv (n+1) e a nd=none->(oJ ws (n+1) e (iZ a nd)).2.fc≠0):=by
   intro e a nd E u
   have R:oJ ws (n+1) e (iZ a nd)=ma ws (oJ ws n) e (fN false (iZ a nd)):=by
    show na ws (oJ ws n) false e (iZ a nd)=_;unfold na;rw[if_neg si]
   rw[R];unfold cE;by_cases p:200<nd+1
   .rw[if_pos p];refine⟨fun k r o h=>(by cases h),fun _=>OB ?_⟩;unfold fN;rw[if_pos (by show 200<=nd;omega)];exact jG (s:=iZ a nd) (c:=4) de
   rw[if_neg p]
   have D:fN false (iZ a nd)=iZ a (nd+1):=by
    unfold fN;rw[if_neg (by show¬200<=nd;omega)];rfl
   rw[D]
   have l:∀w:ab,bP ws a=w->ma ws (oJ ws n) e (iZ a (nd+1))=match (generalizing:=false) e,iG w with
     |false,some k=>(k,iZ (a+1) (nd+1))
     |_,_=>if c6 w=0\/e≠vF 36 (c6 w)then(bX,(iZ a (nd+1)).fail 2)else pQ ws (oJ ws n) (c6 w) (iZ (a+1) (nd+1)):=by
    rintro w rfl;rfl
   have l:=l _ rfl;by_cases m:a<ws.length
   .rw[if_neg (not_not_intro m)];by_cases i:c6 (bP ws a)≠0
    .rw[if_pos i];rw[UQ i]at l;have j:=FF i
     have T:vF 36 (c6 (bP ws a))=pb (36<=c6 (bP ws a)):=by
      unfold vF;by_cases h:36<=c6 (bP ws a)
      .rw[iA h];simpa using h
      .rw[ig h];simpa using h
     have l:ma ws (oJ ws n) e (iZ a (nd+1))=if c6 (bP ws a)=0\/e≠vF 36 (c6 (bP ws a))then(bX,(iZ a (nd+1)).fail 2)else pQ ws (oJ ws n) (c6 (bP ws a)) (iZ (a+1) (nd+1)):=by
      rw[l];cases e<;>rfl
     rw[T]at l;rw[l];generalize c6 (bP ws a)=op at*;by_cases f:pb (36<=op)≠e
     .rw[if_pos f,if_pos (.inr (k8 f))];exact⟨fun k r o h=>(by cases h),fun _=>jG de⟩
     rw[if_neg f,if_neg (show¬(op=0\/e≠pb (36<=op))from fun h=>h.elim i (fun h=>f (k8 h)))];by_cases d:op=24
     .rw[if_pos d];subst d;obtain⟨A,O⟩:=Y' S hP (ws.length+1) (ws.length+2) [] [] (a+1) (nd+1) om om m om;rw[OA];cases q:Ez ws (cE ws nv n) (ws.length+1) [] [] (a+1) (nd+1)with
      |none=>exact⟨fun k r o h=>(by cases h),fun _=>O q⟩
      |some y=>
       refine⟨fun k r o h=>?_,fun h=>(by cases h)⟩;cases h;rw[A y q]
     .rw[if_neg d]
      have I:a+1+(eW op).toNat<=ws.length\/oI ws nv (cE ws nv n) op (List.replicate (eW op).toNat (if pb (binds op)=true then 88 else 78)) ⟨0,[],[],[],a+1,nd+1⟩=none:=by
       cases H:oI ws nv (cE ws nv n) op (List.replicate (eW op).toNat (if pb (binds op)=true then 88 else 78)) ⟨0,[],[],[],a+1,nd+1⟩with
       |none=>exact .inr rfl
       |some z=>
        left;obtain⟨_,L,U⟩:=LM j d;rcases Ld (ws:=ws) (nv:=nv) (P:=cE ws nv n) (op:=op) (b:=pb (binds op)) (a:=a+1) (nd:=nd+1) _ L U with⟨M,N,_⟩|⟨N,_⟩
        .have:=(Qz hP _ _ _ N (by show a+1<=_;omega) (by show nd+1<=_;omega)).2.1;exact this
        .rw[N]at H;cases H
      obtain⟨A,O⟩:=afK v S hP j d om I;cases q:oI ws nv (cE ws nv n) op (iz op) ⟨0,[],[],[],a+1,nd+1⟩with
      |none=>exact⟨fun k r o h=>(by cases h),fun _=>O q⟩
      |some y=>
       refine⟨fun k r o h=>?_,fun h=>(by cases h)⟩;cases h;rw[A y q]
    .rw[if_neg i];have i:c6 (bP ws a)=0:=HW.1 i;cases e with
     |true=>
      rw[if_pos rfl];rw[l];refine⟨fun k r o h=>(by cases h),fun _=>?_⟩;dsimp only;rw[if_pos (.inl i)];exact jG de
     |false=>
      rw[if_neg si,aao v,l];cases x:iG (bP ws a)with
      |none=>
       refine⟨fun k r o h=>(by cases h),fun _=>?_⟩;dsimp only;rw[if_pos (.inl i)];exact jG de
      |some k=>
       exact⟨fun k r o h=>(by cases h;rfl),fun h=>(by cases h)⟩
   .rw[if_pos m];refine⟨fun k r o h=>(by cases h),fun _=>?_⟩;rw[l,Ch m];have C:c6 []=0:=by decide
    have x:iG []=none:=by
     unfold iG;rw[dif_neg (by rintro⟨t,_,h,_⟩;exact Jv h),if_neg (fun h=>kE h.1 rfl)]
    rw[x];cases e<;>(dsimp only;rw[if_pos (.inl C)];exact jG de)
  exact⟨fun e a nd k r o E u h=>(g e a nd E u).1 k r o h,fun e a nd E u h=>(g e a nd E u).2 h⟩
end Go.Ab
namespace Go.Ab
open Go
attribute [local irreducible] bI cf cw bW bA dk dT
variable{L:Lk}{nv:ab->Int}
set_option maxHeartbeats 4000000
abbrev Wd:AV:=.agg [dI 0,dI 0,dS [],.aO [] .nil,.aO [] .nil]
abbrev Nw(c a:Int):AV:=.agg [dI c,dI a]
abbrev Nx:AV:=.agg [.ni true,.ni false]
structure Gy(L:Lk)(nv:ab->Int):Prop where
 y:∀ws:List ab,ws.length<=1000000->(∀w∈ws,w.length<=1000000)->∀k nd,cE ws nv 24 true 0 0=some (k,ws.length,nd)->
  CT L 292 [.d (.sl (aR ws))] 0 [] [(0,20001),(0,1220005)] (.b6 [AR k 0,Nw 0 0]) 0 [] (kG k.names k.kids)
 n:∀ws:List ab,ws.length<=1000000->(∀w∈ws,w.length<=1000000)->(∀k nd,cE ws nv 24 true 0 0≠some (k,ws.length,nd))->
  CT L 292 [.d (.sl (aR ws))] 0 [] [] (.b6 [Wd,Nx]) 0 [] []
structure xQ(L:Lk):Prop where
 y:∀(s:ab)(n:Nd),gG s=some n->CT L 222 [dS s] 0 [] [(0,20001),(0,1220005)] (.b6 [AR n 0,Nw 0 0]) 0 [] (kG n.names n.kids)
 n:∀s:ab,gG s=none->CT L 222 [dS s] 0 [] [] (.b6 [Wd,Nx]) 0 [] []
theorem aeJ{l:List ab}{w:ab}(h:w∈l):w.length<=kX l:=by
 induction l with
 |nil=>cases h
 |cons x r e=>
  rcases xe.1 h with rfl|h
  .simp[kX];omega
  .have:=e h;simp[kX];omega
theorem HB(e:∀n:Int,eB .i64 n->nv (dec n)=n)(s:ab):
  (∀k a t,cE (ib s) nv 24 true 0 0=some (k,a,t)->runN s=(k,⟨a,t,0,0⟩))/\(cE (ib s) nv 24 true 0 0=none->(runN s).2.fc≠0):=
 ⟨fun k a t h=>(N1 e 24).y true 0 0 k a t (cr _) om h,fun h=>(N1 e 24).n true 0 0 (cr _) om h⟩
theorem MC(m:aJ L 222 c222)(d:∀n:Int,eB .i64 n->nv (dec n)=n)(hP:Gy L nv)(x:Cu L 293)(z:Bn L 104):xQ L:=by
 have l:∀s:ab,s.length<=3000->(ib s).length<=1000000/\(∀w∈ib s,w.length<=1000000):=fun s R=>by
  obtain⟨b,r⟩:=EK s;exact⟨by omega,fun w O=>by have:=aeJ O;omega⟩
 refine⟨fun s n h=>?_,fun s h=>?_⟩
 .unfold gG at h;split at h
  case isFalse=>cases h
  rename_i I;cases h;obtain⟨b,r,E,t⟩:=I;obtain⟨g,N,S⟩:=FU b r;obtain⟨j,T⟩:=HB d s;obtain⟨f,p⟩:=l s b;have o:=z _ _ _ g ⟨by omega⟩;cases i:cE (ib s) nv 24 true 0 0 with
  |none=>exact absurd r (T i)
  |some y=>
   obtain⟨k,a,u⟩:=y;have e:=j _ _ _ i;rw[e]at E o t⊢;have H:=(yS _ _ _ _ _ _ _ _ _ (cr _) om i).2.1;obtain rfl:a=(ib s).length:=by dsimp only at E;omega
   have c:=hP.y _ f p _ _ i;have v:=x s _ om (vX s);dsimp only at t o⊢;refine m.ct ?_
   repeat' ((conv=>whnf);first|exact xo|apply aq|refine ak v ?_|refine az c [] [0,1] ?_|refine ak (CP.pu o) ?_|exact fz|intro _)
 .by_cases q:s.length<=3000
  case neg=>
   refine m.ct ?_
   repeat' ((conv=>whnf);first|exact xo|apply aq|(apply dt<;>(repeat' first|exact fun _=>(by decide:(1:Int)≠0)|exact fun h=>Bool.noConfusion h|exact sz|apply And.intro);done)|intro _)
  obtain⟨j,T⟩:=HB d s;obtain⟨f,p⟩:=l s q;have v:=x s _ om (vX s);by_cases A:∃k u,cE (ib s) nv 24 true 0 0=some (k,(ib s).length,u)
  .obtain⟨k,u,i⟩:=A;have e:=j _ _ _ i;have c:=hP.y _ f p _ _ i;have r:(runN s).2.fc=0:=by rw[e]
   obtain⟨g,N,S⟩:=FU q r;have o:=z _ _ _ g ⟨by omega⟩
   have t:¬(rH (runN s).1).length<=3000:=fun t=>by
    unfold gG at h;rw[if_pos ⟨q,r,by rw[e];exact Nat.lt_irrefl _,t⟩]at h;cases h
   rw[e]at o t;dsimp only at t o;refine m.ct ?_
   repeat' ((conv=>whnf);first|exact xo|apply aq|refine ak v ?_|refine bA.dE 20001 rfl (bA.dE 1220005 rfl (az c [] [0,1] ?_))|refine ak (CP.pu o) ?_|(apply dt<;>(repeat' first|exact fun _=>(by decide:(1:Int)≠0)|exact fun h=>Bool.noConfusion h|exact sz|apply And.intro);done)|intro _)
  .have c:=hP.n _ f p (fun k u h=>A ⟨k,u,h⟩);refine m.ct ?_
   repeat' ((conv=>whnf);first|exact xo|apply aq|refine bY ?_|refine ak v ?_|refine az c [] [] ?_|exact fz|intro _)
def OY(L:Lk)(nv:ab->Int):Prop:=∀s:ab,s.length<=1000000->eB .i64 (nv s)/\
 ((CP L 329 [dS s] (.b6 [dI (nv s),.d .mW])/\(isNum s->dec (nv s)=s))\/(¬isNum s/\∃t,CP L 329 [dS s] (.b6 [dI (nv s),.oH t .bM])))
theorem Tn(r:aJ L 268 ahf)(d:OY L nv)(l:∀n:Int,eB .i64 n->CP L 174 [dI n] (dS (dec n))):sO L nv:=by
 intro s u;obtain⟨a,h⟩:=d s u;refine⟨a,?_⟩;have c:=l _ a;rcases h with⟨o,i⟩|⟨i,t,o⟩
 .have e:(dec (nv s)=s)↔isNum s:=⟨fun h=>⟨_,a,h⟩,i⟩;rw[<-vR e];refine r.cp ?_
  repeat' ((conv=>whnf);first|refine ak o ?_|refine ak c ?_|(apply dt<;>(repeat' first|(refine congrArg DV.bool (AJ.2 ?_);exact⟨fun h=>iA (sW.1 h),fun h=>sW.2 (mo.1 h)⟩)|exact sz|apply And.intro);done)|fail)
 .rw[ig i];refine r.cp ?_
  repeat' ((conv=>whnf);first|refine ak o ?_|exact fz|fail)
def EX(L:Lk)(f:Nat):Prop:=∀s:ab,CT L f [dS s] 0 [] [(0,20001),(0,1020003)] (.b6 [Lo ((kindOf s).getD bX) 0,dB ((kindOf s).isSome)]) 0 [] (tC ((kindOf s).getD bX).names ((kindOf s).getD bX).kids)
theorem adN{k k':Nd}(h:cK k=cK k')(i:Nat):Lo k i=Lo k' i/\tC k.names k.kids=tC k'.names k'.kids:=by
 obtain⟨t,a,e⟩:=Xn h;have o:k.kids.length=k'.kids.length:=by have:=congrArg List.length e;simpa using this
 simp only[Lo,tC];rw[t,a,e,o];exact⟨rfl,rfl⟩
theorem Qf(h:aJ L 138 c138)(v:∀n,n<=7->O3 L n)(c:∀k:Nd,(jj k->CP L 221 [aK k] (dS (fR k)))/\(¬jj k->CP L 221 [aK k] (dS []))):EX L 138:=by
 intro s;unfold kindOf;split
 .rename_i b;obtain⟨a,u⟩:=b.choose_spec;generalize b.choose=k at*;have r:=ze k 1 a.1;have j:=a.2;rw[u]at r;obtain⟨t,m,g⟩:=MZ k 1 6 [] a.1 rfl (by rw[u];simp;omega);rw[oe,u]at g;have f:=DM m.symm a;have d:=(Fb t k m).2.1;rw[u]at d;have l:=v 6 om 1 s false t _ _ rfl g om;have i:=(c t).1 f;rw[d]at i;show CT L 138 _ 0 [] _ (.b6 [Lo k 0,dB true]) 0 [] (tC k.names k.kids);obtain⟨q,x⟩:=adN m 0;rw[<-q,<-x];refine CT.pick [] [2,3] (bZ:=[(0,20001),(0,1020003),(2*(t.names.length*1),20001),(2*(t.kids.length*3),1020003)]) ?_ rfl rfl rfl rfl (And.intro rfl (And.intro rfl trivial)) ⟨.inr ⟨rfl,rfl,by decide,by decide⟩,.inr ⟨rfl,rfl,by decide,by decide⟩,trivial⟩;refine h.ct ?_
  repeat' ((conv=>whnf);first|exact xc|apply aq|apply aH|apply aM|refine bA.dE 20001 rfl (bA.dE 1020003 rfl (az l [1] [2,3] ?_))|refine ak (CP.pu i) ?_|exact fz|exfalso;simp at*;done|intro _)
 .rename_i w;show CT L 138 _ 0 [] _ (.b6 [Lo bX 0,dB false]) 0 [] (tC [] []);refine CT.za (v0:=.b6 [.agg [dI 0,.aO [] .nil,.aO [] .nil],dB false]) (dQ:=[]) ?_ tE (fJ _ _);by_cases E:s.length<=800
  .obtain⟨t,T,y,o⟩:=rI.ex 6 s false om;have l:=v 6 om 1 s false t _ _ rfl o om;have z:y=true\/y=false:=by cases y<;>simp
   rcases z with rfl|rfl
   .refine h.ct ?_
    repeat' ((conv=>whnf);first|exact xo|apply aq|refine bA.dE 20001 rfl (bA.dE 1020003 rfl (az l [1] [2,3] ?_))|exact fz|intro _)
   .by_cases a:jj t
    .have i:=(c t).1 a;refine h.ct ?_
     repeat' ((conv=>whnf);first|exact xo|apply aq|apply aH|apply aM|refine bA.dE 20001 rfl (bA.dE 1020003 rfl (az l [1] [2,3] ?_))|refine ak (CP.pu i) ?_|exact fz|exact absurd ⟨t,a,by assumption⟩ w|intro _)
    .have i:=(c t).2 a;have p:s≠[]:=fun e=>by rw[e]at o;have:=RH o;cases this
     refine h.ct ?_
     repeat' ((conv=>whnf);first|exact xo|apply aq|apply aH|apply aM|refine bA.dE 20001 rfl (bA.dE 1020003 rfl (az l [1] [2,3] ?_))|refine ak (CP.pu i) ?_|exact fz|exact absurd (Eq.symm asm) p|intro _)
  .refine h.ct ?_
   repeat' ((conv=>whnf);first|exact xo|apply aq|exact fz|intro _)
end Go.Ab
namespace Go.Ab
open Go
variable{w:World}{a:Act}{ops:Array Oper}
def dfQ(D:List Deferred)(Q:Exit->Act->World->Prop):Exit->Act->World->Prop:=fun e a w=> ∃t:Act,a=⟨t.tmps,t.defers++D⟩/\Q e t w
def xj(D:List Deferred)(a:Act):Act:=⟨a.tmps,a.defers++D⟩
theorem CL(D:List Deferred)(a:Act):(xj D a).eval=a.eval:=by
 funext x;cases x<;>rfl
theorem yp(D:List Deferred)(a:Act)(d:Option Tmp)(v:Value):(xj D a).put d v=xj D (a.put d v):=by cases d<;>rfl
theorem Ia{D:List Deferred}{Q:Exit->Act->World->Prop}(h:LetsOut Q):LetsOut (dfQ D Q):=by
 obtain⟨a,w,h⟩:=h;exact⟨_,w,a,rfl,h⟩
theorem F9{P:Program}{Q:Exit->Act->World->Prop}(D:List Deferred):∀(l:List Nat)(a:Act)(w:World),wpOps P ops Q l a w->wpOps P ops (dfQ D Q) l (xj D a) w:=by
 intro l
 induction l with
 |nil=>intro a w h;exact⟨a,rfl,h⟩
 |cons i c t=>
  intro a w h;simp only[wpOps]at h⊢;cases m:ops[i]? with
  |none=>rw[m]at h;exact t a w h
  |some o=>
   rw[m]at h;dsimp only at h⊢;have y:(xj D a).tmps=a.tmps:=rfl;rw[y];split
   .rename_i s;rw[if_pos s]at h;rcases h with h|⟨f,p⟩
    .left;unfold Oper.wp at h⊢;rw[CL];generalize (execOp a.eval o).run P w=r at h⊢;unfold Oper.upon at h⊢;split at h
     .rw[yp];exact t _ _ h
     .rw[yp];exact t _ _ h
     .rename_i d b;have e:(({tmps:=(xj D a).tmps,defers:=d::(xj D a).defers}:Act)).put o.dst undef=xj D (({tmps:=a.tmps,defers:=d::a.defers}:Act).put o.dst undef):=yp D ⟨a.tmps,d::a.defers⟩ o.dst undef;rw[e];exact t _ _ h
     .refine h.mono ?_;intro e u n;cases e with
      |returned v=>dsimp only at n⊢;rw[yp];exact t _ _ n
      |panicked g=>exact⟨a,rfl,n⟩
      |outgrown=>exact Ia n
     .refine h.mono ?_;intro v u n;rw[yp];exact t _ _ n
     .exact⟨a,rfl,h⟩
     .exact h.elim
    .right;refine⟨?_,Ia p⟩;unfold Oper.asks at f⊢;rw[CL];exact f
   .rename_i s;rw[if_neg s]at h;rw[yp];exact t _ _ h
theorem J'{D:List Deferred}{Q:Exit->Act->World->Prop}{e:Exit}(h:Q e a w):dfQ D Q e (xj D a) w:=⟨a,rfl,h⟩
def FL:AC->Bool
 | .skip=>true
 | .ret=>true
 | .seq x y=>FL x&&FL y
 | .cond _ x y=>FL x&&FL y
 | .j9 _ e=> !e
 |_=>false
section
variable{L:Lk}{n:Nat}
theorem zO(D:List Deferred)(m:Md)(c:AC):FL c=true->∀(σ:St)(Q:AE->St->Prop),zL L n m c σ Q->
  ∀(l:Code)(g0:Gh)(bZ:bm)(w0:World)(g:Gh)(a:Act)(w:World),fS L n l c->Step g0 bZ w0 g σ.rl w->dx L n g σ a w->l.wp L.P (dfQ D (JQ L n m.X g0 bZ w0 Q)) (xj D a) w:=by
 induction c with
 |skip=>
  intro _ σ Q r l g0 bZ w0 g a w f s u;cases f;exact wp_skip (J' (.inl ⟨_,g,σ,.normal,s,u,r⟩))
 |ret=>
  intro _ σ Q r l g0 bZ w0 g a w f s u;cases f;exact wp_ret (J' (.inl ⟨_,g,σ,.ret,s,u,r⟩))
 |seq x y b j=>
  intro A σ Q r l g0 bZ w0 g a w f s u;obtain⟨q,z⟩:=JA.1 A;cases f with
  |seq S H=>
  refine wp_seq (wp_mono (b q σ _ r _ g0 bZ w0 g a w S s u) ?_);rintro e a1 U ⟨C,rfl,⟨ae,I,p,K,N,v,M⟩|⟨F,Y,V,rfl,E,T⟩⟩
  case inr=>exact J' (.inr ⟨F,Y,V,rfl,E,T⟩)
  cases K with
  |normal=>exact j z p Q M _ g0 bZ w0 I C U H N v
  |exit id=>exact J' (.inl ⟨_,I,p,.exit id,N,v,M⟩)
  |ret=>exact J' (.inl ⟨_,I,p,.ret,N,v,M⟩)
 |cond c x y b j=>
  intro A σ Q r l g0 bZ w0 g a w f s u;obtain⟨q,z⟩:=JA.1 A;obtain⟨J,nb,bx,rl⟩:=σ;cases f with
  |cond f S H=>
  have G:=f.val u;simp only[zL,ev]at r;split at r
  .rename_i t Z;rw[Z]at G;have O:=G.me;rw[<-CL D a]at O;simp only[ud]at r;split at r
   .rename_i i;have R:a.tmps.getD i undef=.bool t:=by cases f;exact O
    cases t with
    |true=>exact wp_cond_true O (b q _ Q r _ g0 bZ w0 g a w S s (u.vp i (.d (.bool true)) (by rw[R];exact VR.kH true)))
    |false=>exact wp_cond_false O (j z _ Q r _ g0 bZ w0 g a w H s (u.vp i (.d (.bool false)) (by rw[R];exact VR.kH false)))
   .cases t with
    |true=>exact wp_cond_true O (b q _ Q r _ g0 bZ w0 g a w S s u)
    |false=>exact wp_cond_false O (j z _ Q r _ g0 bZ w0 g a w H s u)
  .exact r.elim
 |j9 ops dr=>
  intro A σ Q r l g0 bZ w0 g a w f s u;cases f with
  |j9 h=>
  refine wp_region ?_
  have:=zM (L:=L) (n:=n) (X:=m.X) (Q:=JQ L n m.X g0 bZ w0 Q) ops 0 σ _ g a w (fun k ai B=>by
   obtain⟨o,ho,R⟩:=h.2 k ai B;exact⟨o,by rw[dK];exact ho,R⟩) r u (fun p I C U N v B=>(.inl ⟨_,I,p,.normal,s.trans N,v,B⟩)) (fun F V Y C U E T=> .inr ⟨F,Y,V,rfl,E,T.after s⟩)
  rw[<-h.1]at this;rw[Mm];exact F9 D _ _ _ this
 |_=>intro A;cases A
end
variable{g:Gh}{rl:bm}{nb:Nat}{bx:List Bx}{i:Nat}{ws:List ab}{nv:ab->Int}{bz:bm}
structure agj(L:Lk)(o1 o2:Oper):Prop where
 op1:o1.op=.makeFunc (.func (L.fn 335)) #[] #[.tmp 2,.tmp 3]
 d1:o1.dst=some 5
 g1:o1.guard=none
 op2:∃ts,o2.op=.defer {callee:=.value (.tmp 5),args:=#[],argTypes:=ts}
 d2:o2.dst=none
 g2:o2.guard=none
structure ajM(o1 o2:Oper):Prop where
 op1:∃ts,o1.op=.call {callee:=.builtin .recover,args:=#[],argTypes:=ts}
 d1:o1.dst=some 5
 g1:o1.guard=none
 op2:o2.op=.assign (.tmp 5)
 d2:o2.dst=some 2
 g2:o2.guard=none
structure UH(L:Lk):Prop where
 p:∃fn x i o1 o2 y,L.P.funcs[L.fn 292]?=some fn/\fn.body=some (.seq x (.seq (.region i #[o1,o2] false) y))/\agj L o1 o2
 q:∃fn i o1 o2 y,L.P.funcs[L.fn 335]?=some fn/\fn.body=some (.seq (.region i #[o1,o2] false) y)/\ajM o1 o2
def uM:AC->AC
 | .seq _ b=>b
 |c=>c
def A2:AC->AC
 | .seq a _=>a
 |c=>c
theorem WV{P:Program}{Q:Exit->Act->World->Prop}(I:Array Value->Prop):∀(l:List Nat)(a:Act)(w:World),(∀i,i∈l->∀o,ops[i]?=some o->∀(a:Act)v,I a.tmps->I (a.put o.dst v).tmps)->I a.tmps->
  wpOps P ops Q l a w->wpOps P ops (fun e a w=>Q e a w/\(e=.outgrown\/I a.tmps)) l a w:=by
 intro l
 induction l with
 |nil=>intro a w _ n h;exact⟨h,.inr n⟩
 |cons i d m=>
  intro a w u n h;have t:=fun a w=>m a w (fun i f=>u i (iS _ f))
  have y:LetsOut Q->LetsOut (fun e a w=>Q e a w/\(e=.outgrown\/I a.tmps)):=fun⟨a,w,h⟩=>⟨a,w,h,.inl rfl⟩
  simp only[wpOps]at h⊢;cases s:ops[i]? with
  |none=>rw[s]at h;exact t a w n h
  |some o=>
   rw[s]at h;have c:=u i (iE ..) o s;dsimp only at h⊢;split
   .rename_i p;rw[if_pos p]at h;rcases h with h|⟨b,g⟩
    .left;unfold Oper.wp at h⊢;generalize (execOp a.eval o).run P w=r at h⊢;unfold Oper.upon at h⊢;split at h
     .exact t _ _ (c _ _ n) h
     .exact t _ _ (c _ _ n) h
     .grind
     .refine h.mono ?_;grind
     .refine h.mono ?_;grind
     .exact⟨h,.inr n⟩
     .exact h.elim
    .exact .inr ⟨b,y g⟩
   grind
def RO(p q:Value)(t:Array Value):Prop:=t.size=22/\t.getD 2 undef=p/\t.getD 3 undef=q
theorem RO.put{p q:Value}{a:Act}{d:Option Tmp}{v:Value}(h:RO p q a.tmps)(t:d≠some 2)(o:d≠some 3):RO p q (a.put d v).tmps:=by
 cases d with
 |none=>exact h
 |some i=>
  obtain⟨n,s,r⟩:=h;have l:i≠2:=fun e=>t (by rw[e])
  have u:i≠3:=fun e=>o (by rw[e])
  refine⟨by simp[Act.put,n],?_,?_⟩
  .rw[<-s];simp[Act.put,l]
  .rw[<-r];simp[Act.put,u]
section
variable{L:Lk}{n:Nat}
theorem akW{X:AV->Prop}{D:List Deferred}{id:Nat}{aV:List AI}{σ:St}{p q:Value}{Q:Exit->Act->World->Prop}(h:RI L n ops aV)(y:kW L.gl (xO L X) aV σ fun _=>False)(A:dx L n g σ a w)(O:RO p q a.tmps)(I:∀u,u∈aV->u.d≠some 2/\u.d≠some 3)(k:∀t s r,s.defers=[]->RO p q s.tmps->Bp L X g w t r->Q (.panic t) (xj D s) r):(Code.region id ops false).wp L.P Q (xj D a) w:=by
 have T:=zM (L:=L) (n:=n) (X:=some X) (Q:=fun e s r=> ∃t,e=.panic t/\s.defers=[]/\Bp L X g w t r) aV 0 σ (fun _=>False) g a w (fun k u b=>by
  obtain⟨o,f,hi⟩:=h.2 k u b;exact⟨o,by rw[dK];exact f,hi⟩) y A (fun _ _ _ _ _ _ b=>b.elim) (fun U N t s r j l=>by cases N;exact⟨t,rfl,j,l⟩)
 rw[<-h.1]at T
 have S:=WV (RO p q) _ a w (fun i hi o f a v x=>by
  have c:i<aV.length:=by rw[<-h.1];exact(nx.1 f).1
  obtain⟨C,m,z⟩:=h.2 i aV[i] (dw c);rw[f]at m;cases m;have:=I _ (eu c);rw[<-z.dst]at this;exact x.put this.1 this.2) O T
 have H:=F9 D _ _ _ S;refine wp_mono (wp_region (by rw[Mm];exact H)) ?_;rintro e s r ⟨R,rfl,⟨t,rfl,E,l⟩,x⟩;exact k t R r E (x.resolve_left si) l
end
section
variable{L:Lk}{n:Nat}
theorem IG(hf:aJ L 335 AO)(F:UH L){u u':FrameMode}{pv:AV}{cv p0 p1:Value}{cg:List Bx}(hrec:∀(c:Frame)(cs:List Frame),c.mode=u->recoverD (c::cs)=some (cv,{c with mode:=u'}::cs)\/(recoverD (c::cs)=none/\cv=.nilIface/\u'=u))(sh:aY L g nb bx rl w)(hv:VR L g rl w pv cv)(h0:VR L g rl w (.ptr 0 0) p0)(h1:VR L g rl w (.ptr 1 0) p1)(hrl:rl.length<=bz.length)(hev:zL L 18 ⟨nb,rl.length,none⟩ (uM AO.body) ⟨[(2,pv),(0,.ptr 0 0),(1,.ptr 1 0)],nb,bx,rl⟩ (xx [] (.b6 []) nb cg bz)):
  CallsD L.P (L.fn 335) #[p0,p1] u w fun e u2 w'=> ∃cv g',e=.returned cv/\u2=u'/\Step g rl w g' bz w'/\aY L g' nb cg bz w':=by
 obtain⟨fn,i,o1,o2,y,k1,k2,R⟩:=F.q;obtain⟨ts,ro1⟩:=R.op1;obtain⟨fn',code,e1,e2,e3,e4,e5⟩:=hf.here;rw[k1]at e1;cases e1;rw[k2]at e2;cases e2;have e3:fS L 18 (.seq (.region i #[o1,o2] false) y) (.seq (A2 AO.body) (uM AO.body)):=e3;have hy:fS L 18 y (uM AO.body):=by cases e3 with|seq _ hy=>exact hy
 refine callsD_of_wpS k1 k2 fun c₀ cs hu=>wpS_seq (wpS_region ?_)
 have e4:fn.ntmps=18:=e4
 have body:∀(a:Act)(csr:List Frame),a.defers=[]->a.tmps.size=18->a.tmps.getD 0 undef=p0->a.tmps.getD 1 undef=p1->a.tmps.getD 2 undef=cv->csr={c₀ with mode:=u'}::cs->
   y.wpS L.P (bodyPostS L.P fn c₀ cs fun e u2 w'=> ∃cv g',e=.returned cv/\u2=u'/\Step g rl w g' bz w'/\aY L g' nb cg bz w') a csr w:=by
  intro a csr hd cz t0 t1 t2 hcs;refine wpS_of_wp (wp_mono (mS _ _ _ _ hev y g rl w g a w ⟨by rw[sh.kt,<-sh.nb];exact aQ _,aQ _⟩ hy (Step.refl _ _ _) ⟨hd,cz,fun s=>?_,sh⟩) ?_)
  .show VR L g rl w (look _ s) _;rw[aE];split
   .subst s;rw[t2];exact hv
   rw[aE];split
   .subst s;rw[t0];exact h0
   rw[aE];split
   .subst s;rw[t1];exact h1
   .exact .bM _
  .rintro e a' w' (⟨ae,g',σ',he,s,hr,hq⟩|⟨X',ch,hX,_⟩)
   case inr=>cases hX
   cases he with
   |exit id=>exact hq.elim
   |normal=>
    obtain⟨rv,q1,cv',g2,q2,q3,q4,q5⟩:=B6 (af:=AO) e5 hr s (by rw[sh.kt,<-sh.nb];exact aQ _) hrl hq;exact⟨hr.defers,u',hcs,rv,q1,cv',g2,q2,rfl,q3,q4⟩
   |ret=>
    obtain⟨rv,q1,cv',g2,q2,q3,q4,q5⟩:=B6 (af:=AO) e5 hr s (by rw[sh.kt,<-sh.nb];exact aQ _) hrl hq;exact⟨hr.defers,u',hcs,rv,q1,cv',g2,q2,rfl,q3,q4⟩
 have hl:List.range (#[o1,o2]:Array Oper).size=[0,1]:=rfl;rw[hl];have w1:∀t,Region.wanted o1 (yielded #[o1,o2] t)=true:=fun t=>by simp[Region.wanted,R.g1]
 have w2:∀t,Region.wanted o2 (yielded #[o1,o2] t)=true:=fun t=>by simp[Region.wanted,R.g2]
 have g0:(#[o1,o2]:Array Oper)[0]?=some o1:=rfl;have g1:(#[o1,o2]:Array Oper)[1]?=some o2:=rfl;have r1:∀ρ,(execOp ρ o1).run L.P w=.ok .recover w:=fun ρ=>by simp[execOp,ro1,resolve,invoke,builtin,go_sem]
 have r2:∀ρ,(execOp ρ o2).run L.P w=.ok (.value (ρ (.tmp 5))) w:=fun ρ=>by simp[execOp,R.op2]
 simp only[wpOpsS,g0,g1,w1,w2,if_true,r1,r2,R.d1,R.d2,Oper.upon,Act.put]
 have fin:∀csr,csr={c₀ with mode:=u'}::cs->y.wpS L.P (bodyPostS L.P fn c₀ cs fun e u2 w'=> ∃cv g',e=.returned cv/\u2=u'/\Step g rl w g' bz w'/\aY L g' nb cg bz w')
   {tmps:=((#[p0,p1]++Array.replicate (fn.ntmps- #[p0,p1].size) undef).setIfInBounds 5 cv).setIfInBounds 2 (Act.eval {tmps:=(#[p0,p1]++Array.replicate (fn.ntmps- #[p0,p1].size) undef).setIfInBounds 5 cv,defers:=[]} (.tmp 5)),defers:=[]} csr w:=by
  intro csr hcs;refine body _ csr rfl (by simp[e4]) ?_ ?_ ?_ hcs<;>simp[e4,Act.eval]
 rcases hrec c₀ cs hu with h|⟨h,rfl,rfl⟩
 .simp only[h];exact fin _ rfl
 .simp only[h];exact fin _ (by rw[<-hu])
theorem adZ{e o:Oper}(R:agj L e o){Q:Exit->Act->World->Prop}(r:a.defers=[])(d:5<a.tmps.size){p q:Value}(s:RO p q a.tmps)(h:∀v,Q .normal (xj [{target:=.fn (.func (L.fn 335)) #[p,q],args:=#[]}] (a.put (some 5) v)) w):(Code.region i #[e,o] false).wp L.P Q a w:=by
 obtain⟨g,l⟩:=R.op2;refine wp_region ?_;have u:List.range (#[e,o]:Array Oper).size=[0,1]:=rfl;rw[u];have c:∀t,Region.wanted e (yielded #[e,o] t)=true:=fun t=>by simp[Region.wanted,R.g1]
 have m:∀t,Region.wanted o (yielded #[e,o] t)=true:=fun t=>by simp[Region.wanted,R.g2]
 have f:(#[e,o]:Array Oper)[0]?=some e:=rfl;have g1:(#[e,o]:Array Oper)[1]?=some o:=rfl
 have y:(execOp a.eval e).run L.P w=.ok (.value (.func (.func (L.fn 335)) #[] #[p,q])) w:=by
  have n:a.eval (.tmp 2)=p:=s.2.1;have b:a.eval (.tmp 3)=q:=s.2.2;simp[execOp,R.op1,Instr.makeFunc,n,b]
 have n:(execOp (a.put (some 5) (.func (.func (L.fn 335)) #[] #[p,q])).eval o).run L.P w=.ok (.defer {target:=.fn (.func (L.fn 335)) #[p,q],args:=#[]}) w:=by
  have:(a.put (some 5) (.func (.func (L.fn 335)) #[] #[p,q])).eval (.tmp 5)=.func (.func (L.fn 335)) #[] #[p,q]:=by simp[Act.eval,Act.put,d]
  simp[execOp,l,resolve,this,Deferred.ofValue]
 simp only[wpOps,f,g1,c,m,if_true,Oper.wp,y,n,Oper.upon,R.d1,R.d2];refine .inl (.inl ?_);have:=h (.func (.func (L.fn 335)) #[] #[p,q]);simpa[xj,Act.put,r]using this
theorem Z4(f:aJ L 335 AO)(F:UH L)(y:ij L 335){fn:Func}{R:Ending->World->Prop}{t:Array Value}{p q:Value}{σ:St}(o:dx L 22 g σ ⟨t,[]⟩ w)(b:VR L g σ.rl w (.ptr 0 0) p)(r:VR L g σ.rl w (.ptr 1 0) q)(l:wY σ.nb σ.rl.length σ.bx σ.bx)(k:∀n a,Step g σ.rl w n σ.rl a->dx L 22 n σ ⟨t,[]⟩ a->∃v,(results fn t).run L.P a=.ok v a/\R (.returned v) a):
  Leaves L.P fn t R [{target:=.fn (.func (L.fn 335)) #[p,q],args:=#[]}] .returning w:=by
 have j:(invoke (.fn (.func (L.fn 335)) #[p,q]) #[]).run L.P w=.ok (.enter (L.fn 335) #[p,q]) w:=y #[p,q] w;refine leaves_cons si j ((IG f F (pv:=.d .mW) (cv:=.nilIface) (u':=.returning) (cg:=σ.bx) (bz:=σ.rl) (fun c E h=> .inr ⟨by simp[recoverD,h],rfl,rfl⟩) o.sh (.d _ _ .mW) b r (aQ _) ?_).mono ?_)
 .have u:=o.sh.nb;obtain⟨x,nb,bx,rl⟩:=σ
  conv=>whnf
  exact⟨trivial,l,nX _,u⟩
 .rintro e u' a ⟨cv,n,rfl,rfl,s,m⟩;obtain⟨v,r,z⟩:=k n a s ⟨rfl,o.size,fun i=>(o.slot i).bj s,m⟩;exact⟨v,r,z⟩
theorem aeX{r:Gh}{w0:World}{mk:Nat->Nat}(m:aY L r 0 [] [] w0)(s:sQ r w0 mk w){l u:Nat}{E T:Array Value}{S H:TypeId}(hN:w.heap[l]?=some (.cells E S (0,0)))(M:w.heap[u]?=some (.cells T H (0,0)))(zN:E.size=5)(F:T.size=2)(mN:mk l=0)(Y:mk u=0)(P:l≠u)(G:w0.heap.size<=l)(K:w0.heap.size<=u):
  ∃g,g.bk=[l,u]/\g.bD=mk/\Step r [] w0 g [] w/\aY L g 2 [.var 0 [.bM,.bM,.bM,.bM,.bM],.var 0 [.bM,.bM]] [] w:=by
 have f:r.bk=[]:=mc m.kt;have A:r.rw=[]:=mc m.jv;have nb:∀b,b∉r.bk:=fun b h=>by rw[f]at h;cases h
 have R:∀b,some b∉r.rw:=fun b h=>by rw[A]at h;cases h
 let g:Gh:=⟨[l,u],mk,[],fun b=>if b<w0.heap.size then r.par b else .out⟩
 have D:Step r [] w0 g [] w:=by
  refine⟨s.os,s.tape,s.output,s.size,s.bD,s.cell,fun i b h=>by rw[f]at h;simp at h,fun k n e h=>by simp at h,s.shape,fun b t=>?_,fun b t=>(by cases t),fun b t p O=>s.frame b t p O,fun b t p O=>s.lb b t p O,fun b t _ _=>?_⟩
  .grind
  .show RG _ (if b<w0.heap.size then _ else _);rw[if_pos t];exact .refl _
 refine⟨g,rfl,rfl,D,rfl,rfl,?_,?_,rfl,fun k n e h=>by simp at h,fun i j b h=>by simp[g]at h,s.fresh,fun i=>(m.jd i).bj D,⟨fun b t=>?_,fun b t=>?_,?_,fun b t=>?_⟩⟩
 rotate_right
 .have t:(if b<w0.heap.size then r.par b else xh.out)≠.out:=t;by_cases d:b<w0.heap.size
  .rw[if_pos d]at t;obtain⟨V,B,p⟩:=m.par.F3 b t;exact⟨V,B,by rw[s.frame b d (nb b) (R b)];exact p⟩
  grind
 .intro i x v a U
  match i with
  |0=>
   simp at a;subst a;obtain rfl:l=v:=by simpa[g]using U
   exact⟨fun _=>mN,E,S,hN,zN,fun j x y a _=>by
    match j with
    |0|1|2|3|4=>simp at a;subst a;exact .bM _
    |j+5=>simp at a,.inl rfl⟩
  |1=>
   simp at a;subst a;obtain rfl:u=v:=by simpa[g]using U
   exact⟨fun _=>Y,T,H,M,F,fun j x y a _=>by
    match j with
    |0|1=>simp at a;subst a;exact .bM _
    |j+2=>simp at a,.inl rfl⟩
  |i+2=>simp at a
 .grind
 .grind
 .grind
 .intro c o b I len N z q C;have z:(if c<w0.heap.size then r.par c else xh.out)≠.out:=z;by_cases d:c<w0.heap.size
  .rw[if_pos d]at z;have q:o<mk c:=q;rw[s.lb c d (nb c) (R c)]at q;rw[s.cell c o q]at C;rcases m.par.sep c o b I len N z q C with h|h
   .exact .inl h
   .right;show(if b<w0.heap.size then r.par b else xh.out)=_;by_cases t:b<w0.heap.size
    .rw[if_pos t];exact h
    .have:=m.par.fresh b om;rw[this]at h;cases h
  grind
theorem Z3(G:aJ L 335 AO)(F:UH L)(K:ij L 335){fn:Func}(k:RJ L fn.results xz.res){t:Array Value}{q r:Gh}{w0 w1:World}(N:aY L q 0 [] [] w0)(s1:Step q [] w0 r [] w1){S:List PanicEntry}(J:Bp L XF r w1 S w){o n:Nat}{H R:Array Value}{Q X:TypeId}(z:RO (.pointer (some ⟨o,0,none⟩)) (.pointer (some ⟨n,0,none⟩)) t)(hN:w1.heap[o]?=some (.cells H Q (0,0)))(E:w1.heap[n]?=some (.cells R X (0,0)))(zN:H.size=5)(Z:R.size=2)(mN:r.bD o=0)(D:r.bD n=0)(T:o≠n)(lN:w0.heap.size<=o)(lF:w0.heap.size<=n)(U:o∉r.bk)(C:n∉r.bk)(l:∀b,some b∉r.rw:=by simp):
  Leaves L.P fn t (fun e u=> ∃cv f,e=.returned cv/\Step q [] w0 f [] u/\aY L f 0 [] [] u/\VR L f [] u (.b6 [Wd,Nx]) cv) [{target:=.fn (.func (L.fn 335)) #[.pointer (some ⟨o,0,none⟩),.pointer (some ⟨n,0,none⟩)],args:=#[]}] (.panicking S) w:=by
 obtain⟨pv,cv,mk,rfl,⟨c,a,A,rfl⟩,ee,sm,O⟩:=J;have M:=lt_of_heap hN;have Y:=lt_of_heap E;rw[<-sm.frame o M U (l _)]at hN;rw[<-sm.frame n Y C (l _)]at E;rw[<-sm.lb o M U (l _)]at mN;rw[<-sm.lb n Y C (l _)]at D;obtain⟨g,r,g2,st,rs⟩:=aeX N (sQ.after s1 sm) hN E zN Z mN D T lN lF
 have O:VR L g [] w (.oH 1 (.agg [dI c,dI a])) cv:=by
  cases O with|oH _ _ y h=>
  cases h with|agg _ vs hn h=>
  refine .oH _ _ _ (.agg _ _ hn fun j x y p hy=>?_);have h:=h j x y p hy
  match j with
  |0=>simp at p;subst p;cases h with|d _ _ h=>cases h with|int _ _ h=>exact .d _ _ (.int _ _ h)
  |1=>simp at p;subst p;cases h with|d _ _ h=>cases h with|int _ _ h=>exact .d _ _ (.int _ _ h)
  |j+2=>simp at p
 have hi:(invoke (.fn (.func (L.fn 335)) #[.pointer (some ⟨o,0,none⟩),.pointer (some ⟨n,0,none⟩)]) #[]).run L.P w=.ok (.enter (L.fn 335) #[.pointer (some ⟨o,0,none⟩),.pointer (some ⟨n,0,none⟩)]) w:=K _ w;have V:VR L g [] w (.ptr 0 0) (.pointer (some ⟨o,0,none⟩)):=.ptr _ _ _ (by rw[r];rfl);have B:VR L g [] w (.ptr 1 0) (.pointer (some ⟨n,0,none⟩)):=.ptr _ _ _ (by rw[r];rfl)
 refine leaves_cons si hi ((IG G F (pv:=.oH 1 (.agg [dI c,dI a])) (cv:=cv) (u':=.panicking [{v:=cv,recovered:=true}]) (cg:=[.var 0 [dI 0,dI 0,dS [],.aO [] .nil,.aO [] .nil],.var 0 [dI c,dI a]]) (bz:=[])
  (fun cc cs h=> .inl (by simp[recoverD,h])) rs O V B (aQ _) ?_).mono ?_)
 .conv=>whnf
  refine⟨rfl,?_⟩
  conv=>whnf
  refine⟨trivial,?_,trivial,rfl⟩
  all_goals(repeat' (first|exact trivial|exact rfl|exact Or.inl rfl|apply And.intro))
 .rintro e u' u ⟨et,f,rfl,rfl,s,I⟩;have m:settle (.panicking [{v:=cv,recovered:=true}])=.returning:=rfl;show Leaves L.P fn t _ [] (settle _) u;rw[m]
  have hr:dx L 22 f ⟨[(2,.ptr 0 0),(3,.ptr 1 0)],2,[.var 0 [dI 0,dI 0,dS [],.aO [] .nil,.aO [] .nil],.var 0 [dI c,dI a]],[]⟩ ⟨t,[]⟩ u:=by
   refine⟨rfl,z.1,fun i=>?_,I⟩;show VR L f [] u (look _ i) _;rw[aE];split
   .subst i;rw[z.2.1];exact V.bj s
   rw[aE];split
   .subst i;rw[z.2.2];exact B.bj s
   .exact .bM _
  obtain⟨rv,q1,q2⟩:=B6 (af:=xz) (v:=.b6 [Wd,Nx]) (fA:=0) (cg:=[]) (bz:=[]) k hr (st.trans s) (by rw[N.kt];exact aQ _) (aQ _) (by
   conv=>whnf
   refine⟨?_,trivial,trivial,rfl⟩
   repeat' (first|exact trivial|exact rfl|exact(fun _=>A)|exact(fun h=>Bool.noConfusion h)|apply And.intro))
  exact⟨rv,q1,q2⟩
theorem dx.one{σ:St}(r:dx L n g σ a w){s ty:Nat}{cs:List AV}(A:look σ.env s=.ptr i 0)(p:σ.bx[i]?=some (.var ty cs))(O:∀x,x∈cs->∃d,x=.d d):
  ∃o,g.bk[i]?=some o/\dx L n ⟨[o],g.bD,[],g.par⟩ ⟨[(s,.ptr 0 0)],1,[.var ty cs],[]⟩ a w:=by
 have E:=r.slot s;rw[A]at E;obtain⟨o,I,l⟩:=E.jH;refine⟨o,l,r.defers,r.size,fun j=>?_,rfl,rfl,?_,?_,rfl,fun k n e h=>by simp at h,fun i j b h=>by simp at h,r.sh.fresh,fun j=>?_,⟨r.sh.par.fresh,fun b p=>?_,r.sh.par.sep,r.sh.par.F3⟩⟩
 .show VR L _ [] w (look _ j) _;rw[aE];split
  .subst j;rw[I];exact .ptr _ _ _ rfl
  .exact .bM _
 .intro j x b u T
  match j with
  |0=>
   simp at u T;subst u;subst T;obtain⟨m,v,t,f,z,N,S⟩:=r.sh.box i _ _ p l;refine⟨m,v,t,f,z,fun q x y u H=>?_,S⟩;obtain⟨d,rfl⟩:=O x (vc u);cases N q _ y u H with|d _ _ h=>exact .d _ _ h
  |j+1=>simp at u
 .grind
 .obtain⟨m,f⟩:=r.sh.jd j;refine⟨?_,f⟩;generalize (Value.pointer (some ⟨L.gn j,0,none⟩))=D at m⊢;cases m with|gA cs o R c m f z=>exact .gA _ _ _ _ m f z
 .simp at p;subst p;exact r.sh.par.bk _ (vc l)
theorem Step.one{t:Gh}{w0:World}{aw:Nat}(s:Step t [] w0 g rl w)(a:t.bk=[])(o:aw∈g.bk):Step t [] w0 ⟨[aw],g.bD,[],g.par⟩ [] w:=
 ⟨s.os,s.tape,s.output,s.size,s.bD,s.cell,fun i b h=>by rw[a]at h;simp at h,fun k n e h=>by simp at h,s.shape,fun b h=>s.jz b (by simp at h;subst h;exact o),fun b h=>by simp at h,s.frame,s.lb,s.oi⟩
theorem Yh(X:aJ L 335 AO)(F:UH L)(Z:ij L 335){fn:Func}(v:RJ L fn.results xz.res){m:Gh}{σ:St}{w0:World}(sh:aY L m 0 [] [] w0)(C:Step m [] w0 g σ.rl w)(t:dx L 22 g σ a w){p q:Value}(h0:VR L g σ.rl w (.ptr 0 0) p)(h1:VR L g σ.rl w (.ptr 1 0) q)(l2:look σ.env 2=.ptr 0 0)(l3:look σ.env 3=.ptr 1 0)(l4:look σ.env 4=.ptr 2 0){M Y cs:List AV}(bN:σ.bx[0]?=some (.var 0 M))(bF:σ.bx[1]?=some (.var 0 Y))(bR:σ.bx[2]?=some (.var 0 cs))(zN:M.length=5)(zF:Y.length=2)(b:∀x,x∈cs->∃d,x=.d d){id:Nat}{aV:List AI}(h:RI L 22 ops aV)(hd:∀k,k∈aV->k.d≠some 2/\k.d≠some 3)(z:kW L.gl (xO L XF) aV ⟨[(4,.ptr 0 0)],1,[.var 0 cs],[]⟩ fun _=>False){Q:Exit->Act->World->Prop}(hQ:∀E a w,bodyPostD L.P fn (fun e f=> ∃V T,e=.returned V/\Step m [] w0 T [] f/\aY L T 0 [] [] f/\VR L T [] f (.b6 [Wd,Nx]) V) (.panic E) a w->Q (.panic E) a w):
  (Code.region id ops false).wp L.P Q (xj [{target:=.fn (.func (L.fn 335)) #[p,q],args:=#[]}] a) w:=by
 obtain⟨ee,o,A⟩:=t.one l4 bR b;have s:m.bk=[]:=mc sh.kt;have O:=C.one s (vc o);have B:=t.slot 2;have G:=t.slot 3;rw[l2]at B;rw[l3]at G;obtain⟨K,eN,r⟩:=B.jH;obtain⟨J,eF,l⟩:=G.jH;obtain⟨et,I,u⟩:=h0.jH;obtain⟨eo,N,c⟩:=h1.jH;rw[r]at u;cases u;rw[l]at c;cases c;subst I N;obtain⟨mN,aN,tN,hN,sN,_⟩:=t.sh.box 0 _ _ bN r;obtain⟨mF,aF,tF,hF,sF,_⟩:=t.sh.box 1 _ _ bF l;have n:∀{i j x y:Nat},i≠j->g.bk[i]?=some x->g.bk[j]?=some y->x≠y:=fun S H hy e=>S (t.sh.inj _ _ _ H (e▸hy))
 have gJ:∀{i x:Nat},g.bk[i]?=some x->w0.heap.size<=x:=fun H=>(C.jz _ (vc H)).resolve_left (by rw[s];simp)
 refine akW h z A ⟨t.size,eN,eF⟩ hd ?_;intro E a' f R hT D;have U:(xj [{target:=Target.fn (.func (L.fn 335)) #[.pointer (some ⟨K,0,none⟩),.pointer (some ⟨J,0,none⟩)],args:=#[]}] a').defers=[{target:=.fn (.func (L.fn 335)) #[.pointer (some ⟨K,0,none⟩),.pointer (some ⟨J,0,none⟩)],args:=#[]}]:=by simp[xj,R]
 refine hQ _ _ _ ?_;show Leaves L.P fn _ _ _ _ _;rw[U];exact Z3 X F Z v sh O D hT hN hF om om (mN si) (mF si) (n de r l) (gJ r) (gJ l) (by simpa using n de r o) (by simpa using n de l o)
def Aq:AC:=uM (uM xz.body)
structure PzC(L:Lk)(ws:List ab)(nv:ab->Int):Prop where
 T:YK L ws nv
 hf:aJ L 292 xz
 hg:aJ L 335 AO
 F:UH L
 hc:ij L 335
theorem aiv{e:Code}{aV:List AI}(h:fS L n e (.j9 aV false)):∃id ops,e=.region id ops false/\RI L n ops aV:=by
 cases h with|j9 h=>exact⟨_,_,rfl,h⟩
theorem Oe(C:PzC L ws nv){t:Array Value}(l:aY L g 0 [] rl w)(z:t.size=1)(r:∀(j:Nat)(x:AV)(y:Value),[AV.d (.sl (aR ws))][j]?=some x->t[j]?=some y->VR L g rl w x y){R:Ending->World->Prop}(k:∀fn y,fS L 22 y Aq->RJ L fn.results xz.res->∀n u o p q,Step g rl w n rl o->VR L n rl o (.ptr 0 0) p->VR L n rl o (.ptr 1 0) q->
   dx L 22 n ⟨[(3,.ptr 1 0),(2,.ptr 0 0),(0,.d (.sl (aR ws)))],2,[.var 0 [dI 0,dI 0,dS [],.aO [] .nil,.aO [] .nil],.var 0 [dI 0,dI 0]],rl⟩ u o->
   y.wp L.P (bodyPostD L.P fn R) (xj [{target:=.fn (.func (L.fn 335)) #[p,q],args:=#[]}] u) o):Calls L.P (L.fn 292) t w R:=by
 obtain⟨fn,x,i,U,M,y,A,O,D⟩:=C.F.p;obtain⟨Y,I,N,S,f,H,V⟩:=C.hf.here;rw[A]at N;cases N;rw[O]at S;cases S;have f:fS L 22 (.seq x (.seq (.region i #[U,M] false) y)) (.seq (A2 xz.body) (.seq (A2 (uM xz.body)) Aq)):=f;have H:fn.ntmps=22:=H;have E:fS L 22 x (A2 xz.body):=by cases f with|seq E _=>exact E
 have T:fS L 22 y Aq:=by cases f with|seq _ h=>cases h with|seq _ T=>exact T
 refine calls_of_wp_defers A O (wp_seq (wp_mono (mS ⟨0,rl.length,none⟩ (A2 xz.body) ⟨ki 0 [.d (.sl (aR ws))],0,[],rl⟩ (fun e σ=>e=.normal/\σ=⟨[(3,.ptr 1 0),(2,.ptr 0 0),(0,.d (.sl (aR ws)))],2,[.var 0 [dI 0,dI 0,dS [],.aO [] .nil,.aO [] .nil],.var 0 [dI 0,dI 0]],rl⟩) ?_ x g rl w g _ w ⟨by rw[l.kt];exact aQ _,aQ _⟩ E (Step.refl _ _ _) ?_) ?_))
 .conv=>whnf
  exact⟨rfl,rfl⟩
 .refine⟨rfl,by simp;omega,fun s=>?_,l⟩;show VR L g rl w (look (ki 0 _) s) _;rw[zz];simp only[cr,if_true,Nat.sub_zero];cases c:[AV.d (.sl (aR ws))][s]? with
  |none=>exact .bM _
  |some x=>
   have m:s<t.size:=by rw[z];exact(bV.1 c).1
   have:(t++Array.replicate (fn.ntmps-t.size) undef).getD s undef=t[s]:=by
    simp[HR,m]
   rw[this];exact r s x _ c (dZ m)
 .rintro e u o (⟨Z,n,B,G,K,a,rfl,rfl⟩|⟨X',ch,J,_⟩)
  case inr=>cases J
  cases G;refine wp_seq (adZ D a.defers (by rw[a.size];decide) ⟨a.size,rfl,rfl⟩ fun v=>?_);have Q:VR L n rl o (.ptr 0 0) (u.tmps.getD 2 undef):=a.slot 2;have X:VR L n rl o (.ptr 1 0) (u.tmps.getD 3 undef):=a.slot 3;refine k fn y T V n _ o _ _ K Q X ?_;have b:=a.put 5 de (VR.bM v);refine⟨b.defers,b.size,fun s=>?_,b.sh⟩;have:=b.slot s;rw[aE]at this;by_cases c:5=s
  .subst c;exact .bM _
  .rw[if_neg c]at this;exact this
abbrev air(ws:List ab):Env:=[(4,.ptr 2 0),(8,.ptr 2 0),(7,.agg [.d (.sl (aR ws)),dI 0,dI 0]),(6,.d (.sl (aR ws))),(3,.ptr 1 0),(2,.ptr 0 0),(0,.d (.sl (aR ws)))]
abbrev akU(ws:List ab)(k:Nd):Env:=(10,AR k 0)::(9,.ptr 2 0)::air ws
abbrev pzB(k:Nd):List Bx:=[.var 0 [dI k.sort,dI k.num,dS k.text,.aO (aR k.names) (.fe 0),.aO (k.kids.map cT) (.fe 1)],.var 0 [dI 0,dI 0]]
set_option maxHeartbeats 4000000
attribute [local irreducible] bI cf cw bW bA dk dT
attribute [local irreducible] xO uJ
theorem NS(C:PzC L ws nv):
  (∀k j,cE ws nv 24 true 0 0=some (k,ws.length,j)->CT L 292 [.d (.sl (aR ws))] 0 [] [(0,20001),(0,1220005)] (.b6 [AR k 0,Nw 0 0]) 0 [] (kG k.names k.kids))/\
  ((∀k j,cE ws nv 24 true 0 0≠some (k,ws.length,j))->CT L 292 [.d (.sl (aR ws))] 0 [] [] (.b6 [Wd,Nx]) 0 [] []):=by
 have hN:=Tm C.T 24 de true 0 0 1 de (cr _) (cr _);have ef:=C.T.wl;refine⟨fun k j S=>?_,fun ey=>?_⟩
 .have H:=hN.1 _ _ _ S;intro g w z n E o;refine Oe C n E o fun fn y hy u R a1 D p q Q X U A=>?_
  refine wp_mono (zO _ ⟨0,2,none⟩ Aq rfl _ (fun e σ=>xx xz.res (.b6 [AR k 0,Nw 0 0]) 0 [] (kG k.names k.kids) e σ/\kK (Wg σ.nb σ.rl.length) σ.bx=true) ?_ y R _ D R a1 D hy (Step.refl _ _ _) A) ?_
  .unfold Aq
   repeat' ((conv=>whnf);first|exact xo|apply aq|rw[bl];intro _|refine mR (az H [2] [0,1] ?_)|refine⟨?_,rfl⟩;exact fz|intro _)
  .rintro e a M ⟨Y,rfl,⟨ae,Z,s,O,l,i,hq,ee⟩|⟨X',ch,I,_⟩⟩
   case inr=>cases I
   have V:(FR s.env s.bx xz.res fun vs=>QA vs fun v0=>Lw v0 s.bx fun v0 et=>cw v0 et s.rl (.b6 [AR k 0,Nw 0 0]) 0 [] (kG k.names k.kids))->
     Leaves L.P fn (xj [{target:=Target.fn (.func (L.fn 335)) #[p,q],args:=#[]}] Y).tmps (fun e w'=> ∃cv g',e=.returned cv/\Step g [(0,20001),(0,1220005)] w g' (kG k.names k.kids) w'/\aY L g' 0 [] (kG k.names k.kids) w'/\VR L g' (kG k.names k.kids) w' (.b6 [AR k 0,Nw 0 0]) cv)
      (xj [{target:=Target.fn (.func (L.fn 335)) #[p,q],args:=#[]}] Y).defers .returning M:=by
    intro hk;have eo:(xj [{target:=Target.fn (.func (L.fn 335)) #[p,q],args:=#[]}] Y).defers=[{target:=.fn (.func (L.fn 335)) #[p,q],args:=#[]}]:=by simp[xj,i.defers]
    rw[eo];have N:dx L 22 Z s ⟨Y.tmps,[]⟩ M:=⟨rfl,i.size,i.slot,i.sh⟩;refine Z4 C.hg C.F C.hc N (X.bj l) (U.bj l) (qU ee) fun g3 w3 B m=>?_
    exact B6 (af:=xz) (a':=⟨Y.tmps,[]⟩) u m ((Q.trans l).trans B) (by rw[n.kt];exact aQ _) (aQ _) hk
   cases O with
   |exit id=>exact hq.elim
   |normal=>exact V hq
   |ret=>exact V hq
 .intro g w z n E o;refine Oe C n E o fun fn y hy u R a1 D p q Q X U A=>?_
  have ei:fS L 22 y (.seq (A2 Aq) (.seq (A2 (uM Aq)) (uM (uM Aq)))):=hy;obtain⟨y1,y2,rfl,c1,c2⟩:∃y1 y2,y=.seq y1 y2/\fS L 22 y1 (A2 Aq)/\fS L 22 y2 (.seq (A2 (uM Aq)) (uM (uM Aq))):=by cases ei with|seq a b=>exact⟨_,_,rfl,a,b⟩
  obtain⟨G,K,rfl,c3,c4⟩:∃G K,y2=.seq G K/\fS L 22 G (A2 (uM Aq))/\fS L 22 K (uM (uM Aq)):=by cases c2 with|seq a b=>exact⟨_,_,rfl,a,b⟩
  refine wp_seq (wp_mono (zO _ ⟨0,0,none⟩ (A2 Aq) rfl _ (fun e σ=>e=.normal/\σ=⟨air ws,3,[.var 0 [dI 0,dI 0,dS [],.aO [] .nil,.aO [] .nil],.var 0 [dI 0,dI 0],l9 ws 0 0],[]⟩) ?_ y1 R _ D R a1 D c1 (Step.refl _ _ _) A) ?_)
  .conv=>whnf
   exact⟨rfl,rfl⟩
  rintro e a M ⟨a2,rfl,⟨ae,Z,s,O,l,i,rfl,rfl⟩|⟨X',ch,I,_⟩⟩
  case inr=>cases I
  cases O;cases S:cE ws nv 24 true 0 0 with
  |none=>
   have H:=hN.2 S;obtain⟨id,ops,rfl,r⟩:=aiv (aV:=_) (show fS L 22 G (.j9 _ false)from c3);refine wp_seq (Yh C.hg C.F C.hc u n (Q.trans l) i (X.bj l) (U.bj l) rfl rfl rfl rfl rfl rfl rfl rfl si r de ?_ (fun _ _ _ h=>h))
   conv=>whnf
   exact iH H [0] [] rfl rfl rfl rfl ⟨rfl,trivial⟩ trivial (fun _ h=>h)
  |some y=>
   obtain⟨k,a',j⟩:=y;have H:=hN.1 _ _ _ S
   have ep:a'<ws.length:=by
    have U:=(yS _ _ _ _ _ _ _ _ _ (cr _) om S).2.1;grind
   have hr:=CV C.T.ref ws a' j 2 de;refine wp_seq (wp_mono (zO _ ⟨0,0,none⟩ (A2 (uM Aq)) rfl _ (fun e σ=>e=.normal/\σ=⟨akU ws k,3,pzB k++[l9 ws a' j],kG k.names k.kids⟩) ?_ G Z _ M Z a2 M c3 (Step.refl _ _ _) i) ?_)
   .skip
    repeat' ((conv=>whnf);first|refine mR (bA.dE 20001 rfl (bA.dE 1220005 rfl (az H [2] [0,1] ?_)))|exact⟨rfl,rfl⟩|fail)
   rintro e a w3 ⟨a3,rfl,⟨ae,g3,σ3,O,B,N,rfl,rfl⟩|⟨X',ch,I,_⟩⟩
   case inr=>cases I
   cases O;have ed:fS L 22 K (.seq (.seq (A2 (A2 (uM (uM Aq)))) (.cond (.t 17) (.j9 [zm 18 4,zs 19 (.call 337 [.t 18,(zi 2)])] false) .skip)) (uM (uM (uM Aq)))):=c4
   obtain⟨y5,y6,y7,c,rfl,c5,el,c7⟩:∃y5 y6 y7 c,K=.seq (.seq y5 (.cond c y6 .skip)) y7/\fS L 22 y5 (A2 (A2 (uM (uM Aq))))/\cQ L c (.t 17)/\fS L 22 y6 (.j9 [zm 18 4,zs 19 (.call 337 [.t 18,(zi 2)])] false):=by
    cases ed with|seq a b=>cases a with|seq a c=>cases c with|cond d e f=>cases f with|skip=>exact⟨_,_,_,_,rfl,a,d,e⟩
   obtain⟨id,ops,rfl,r⟩:=aiv c7;refine wp_seq (wp_seq (wp_mono (zO _ ⟨0,0,none⟩ (A2 (A2 (uM (uM Aq)))) rfl _ (fun e σ=>e=.normal/\(look σ.env 2=.ptr 0 0/\look σ.env 3=.ptr 1 0/\look σ.env 4=.ptr 2 0/\look σ.env 17=dB (qy (a':Int) (aR ws).length))/\σ.nb=3/\σ.bx=pzB k++[l9 ws a' j]) ?_ y5 g3 _ w3 g3 a3 w3 c5 (Step.refl _ _ _) N) ?_))
   .conv=>whnf
    intro _
    conv=>whnf
    exact⟨rfl,⟨rfl,rfl,rfl,rfl⟩,rfl,rfl⟩
   rintro e a w4 ⟨a4,rfl,⟨ae,g4,⟨x,eg,ej,em⟩,O,s4,m,rfl,⟨l2,l3,l4,v⟩,J⟩|⟨X',ch,I,_⟩⟩
   case inr=>cases I
   simp only at J;obtain⟨rfl,rfl⟩:=J;cases O;have hv:=el.val m;have hv:VR L g4 em w4 (look x 17) _:=hv
   have v:look x 17=dB true:=by
    rw[show qy (a':Int) (aR ws).length=true from SP.2 (by rw[bl];omega)]at v;exact v
   rw[v]at hv;have J:=hv.me;rw[<-CL [{target:=.fn (.func (L.fn 335)) #[p,q],args:=#[]}] a4]at J;refine wp_cond_true J (Yh C.hg C.F C.hc u n ((Q.trans l).trans (B.trans s4)) m (((X.bj l).bj B).bj s4) (((U.bj l).bj B).bj s4) l2 l3 l4 rfl rfl rfl rfl rfl si r de ?_ (fun _ _ _ h=>h))
   conv=>whnf
   exact iH hr [0] [] rfl rfl rfl rfl ⟨rfl,trivial⟩ trivial (fun _ h=>h)
theorem ZL(C:∀ws:List ab,ws.length<=1000000->(∀w∈ws,w.length<=1000000)->PzC L ws nv):Gy L nv:=
 ⟨fun ws e t k a o=>(NS (C ws e t)).1 k a o,fun ws e t i=>(NS (C ws e t)).2 i⟩
end
end Go.Ab
namespace Go.Ab
open Go
attribute [local irreducible] bI cf cw bW bA dk dT
variable{L:Lk}
set_option maxHeartbeats 4000000
abbrev akD(t:Nd)(i:Nat):AV:=.agg [dI t.sort,dI t.num,dS t.text,.aO (aR t.names) (.uu (i+1) 10 3),.aO (t.kids.map cT) (.uu (i+1) 10 4)]
structure MX(L:Lk):Prop where
 y:∀(s:ab)(n:Nd),s.length<=1000000->fC s=some n->∃m:Nat,CT L 198 [dS s] 0 [] [(0,20001),(0,1220005)] (.b6 [akD n 0,dB true]) 0 [] [(m,20001),(10,1220005)]
 n:∀s:ab,s.length<=1000000->fC s=none->CT L 198 [dS s] 0 [] [] (.b6 [Wd,dB false]) 0 [] []
theorem ZP(o:aJ L 198 c198)(hP:xQ L):MX L:=by
 refine⟨fun s n r h=>?_,fun s r h=>?_⟩
 .unfold fC at h;cases e:gG (kV++s)with
  |none=>rw[e]at h;cases h
  |some i=>
   rw[e]at h;have t:=hP.y _ _ e;obtain⟨u,a⟩:=L5 e;obtain⟨c,m,f,d,l⟩:=i;have a:l.length=1:=a;obtain⟨k,rfl⟩:=List.length_eq_one_iff.1 a;have h:k=n:=vf h;subst h;obtain⟨w,p,v,b,g⟩:=k;refine⟨2*(d.length*1),?_⟩;refine o.ct ?_
   repeat' ((conv=>whnf);first|refine ad (by simp only[aZ,bc];omega) ?_|refine ad ⟨rfl,Nat.succ_pos _,rfl,rfl⟩ ?_|refine ad ⟨rfl,rfl,rfl,rfl,rfl,rfl⟩ ?_|refine az t [] [0,1] ?_|(apply dt<;>(repeat' first|exact Fc _|exact sz|apply And.intro);done)|fail)
 .have e:gG (kV++s)=none:=by
   unfold fC at h;cases e:gG (kV++s)with
   |none=>rfl
   |some i=>rw[e]at h;cases h
  have t:=hP.n _ e;refine o.ct ?_
  repeat' ((conv=>whnf);first|refine ad (by simp only[aZ,bc];omega) ?_|refine bY ?_|refine az t [] [] ?_|exact fz|fail)
variable{rl:bm}{ws:List ab}{nv:ab->Int}{f:Nat}{v:AV}{bz:bm}{args:List AV}
theorem Lu(rl:bm):B4 rl []:=by cases rl<;>exact trivial
def U9:bm->bm->Prop
 |[],[]=>True
 |(n,e)::r,(_,t)::a=>n=0/\10000<=e/\10000<=t/\gw t=gw e/\U9 r a
 |_,_=>False
theorem Kf:∀{r a:bm},U9 r a->r.length=a.length/\∀(k n e:Nat),r[k]?=some (n,e)->∃o t,a[k]?=some (o,t)/\n=0/\10000<=e/\10000<=t/\gw t=gw e
 |[],[],_=>⟨rfl,fun k n e h=>by simp at h⟩
 |(n,e)::r,(o,t)::a,⟨s,d,l,u,c⟩=>by
  obtain⟨w,y⟩:=Kf c;refine⟨by simp[w],fun k m f i=>?_⟩;cases k with
  |zero=>simp at i;obtain⟨rfl,rfl⟩:=i;exact⟨o,t,rfl,s,d,l,u⟩
  |succ k=>exact y k m f (by simpa using i)
 |[],_::_,h=>h.elim
 |_::_,[],h=>h.elim
theorem CT.fill(h:CT L f args 0 [] [] v 0 [] bz)(I:∀x,x∈args->∃d,x=.d d)(N:U9 rl bz):CT L f args 0 [] rl v 0 [] bz:=by
 obtain⟨V,S⟩:=Kf N;intro g w a o u r;have c:g.bk=[]:=mc o.kt;have H:=o.cut (nb:=0) (bx:=[]) (rl:=[]) trivial (Lu rl) rfl;refine(h _ w a H u fun j x y m R=>?_).mono ?_
 .obtain⟨d,rfl⟩:=I x (vc m);cases r j _ y m R with|d _ _ h=>exact .d _ _ h
 .rintro e B ⟨D,U,rfl,s,l,C⟩;refine⟨D,U,rfl,⟨s.os,s.tape,s.output,s.size,s.bD,s.cell,fun i b h=>by rw[c]at h;simp at h,fun k n e p=>?_,s.shape,fun b t=>?_,fun b t=>?_,fun b t q z=>?_,fun b t q z=>?_,fun b t q z=>?_⟩,l,C⟩
  .obtain⟨M,E,T,rfl,G,F,Y⟩:=S k n e p;refine⟨M,E,T,cr _,fun P=>?_,Y,fun h=>by omega,fun _=>F⟩;subst P;rcases(o.row k 0 e p).2 with A|⟨_,_,_,_,_,_,_,_,_,_,A,_⟩
   .rcases(l.row k 0 E T).2 with O|⟨_,_,_,_,_,_,_,_,_,_,O,_⟩
    .rw[A.1,O.1]
    .omega
   .omega
  .rcases s.jz b t with h|h
   .exact absurd h (by simp[Gh.cut])
   .exact .inr h
  .rcases s.jA b t with h|h
   .exact absurd h (by simp[Gh.cut])
   .exact .inr h
  .exact s.frame b t (by simp[Gh.cut]) (by simp[Gh.cut])
  .exact s.lb b t (by simp[Gh.cut]) (by simp[Gh.cut])
  .exact s.oi b t (by simp[Gh.cut]) (by simp[Gh.cut])
structure Rw(L:Lk):Prop where
 y:∀(ws:List ab)(l:List Int),ws.length<=1000000->(∀w∈ws,w.length<=1000000)->ws≠[]->eZ ws=some l->CT L 202 [.d (.sl (aR ws))] 0 [] [(0,920001)] (.b6 [.aO (fU l) (.fe 0),dB true]) 0 [] [(2*(l.length*1),920001)]
 e:CP L 202 [.d (.sl [])] (.b6 [.d (.sl []),dB true])
 n:∀ws:List ab,ws.length<=1000000->(∀w∈ws,w.length<=1000000)->eZ ws=none->CP L 202 [.d (.sl (aR ws))] (.b6 [.d (.sl []),dB false])
theorem TF(e:∀n:Int,eB .i64 n->nv (dec n)=n){w:ab}{n:Int}(h:fg w=some n):isNum w/\nv w=n/\xG [n]:=by
 unfold fg at h;split at h
 .rename_i a;cases h;have t:=a.choose_spec;have o:eB .i64 a.choose:=by unfold eB;simp only;omega
  refine⟨⟨_,o,t.2⟩,?_,?_⟩
  .have:=e _ o;rw[t.2]at this;exact this
  .intro i s h;match i with|0=>exact t.1
 .cases h
theorem TE(e:∀n:Int,eB .i64 n->nv (dec n)=n){w:ab}(h:fg w=none):¬(isNum w/\xG [nv w]):=by
 rintro⟨⟨n,a,rfl⟩,t⟩;rw[e n a]at t;unfold fg at h;rw[dif_pos ⟨n,t 0 Nat.zero_lt_one Nat.zero_lt_one,rfl⟩]at h;cases h
def N0(ws:List ab):Nat->St
 |0=>⟨[(10,.d (.sl (aR ws))),(11,.d (.int .i64 (ws.length:Int))),(12,.d (.int .i64 0)),(4,.aO [] .full)],0,[],[]⟩
 |i+1=>⟨[(10,.d (.sl (aR ws))),(11,.d (.int .i64 (ws.length:Int))),(12,.d (.int .i64 ((i+1:Nat):Int))),(4,.aO (fU ((ws.take (i+1)).map rG)) (.fe 0))],0,[],[(2*((i+1)*1),920001)]⟩
theorem adE(ws:List ab)(i:Nat):yQ ⟨0,0,none⟩ (N0 ws i):=by cases i<;>exact⟨rfl,rfl,rfl⟩
def ajn:AC:=match abB.body with| .seq _ (.seq _ (.seq (.seq _ (.block _ (.loop c))) _))=>c|_=> .skip
theorem VV(d:∀n:Int,eB .i64 n->nv (dec n)=n)(T:sO L nv)(A:O7 L 91)(q:ws.length<=1000000)(O:∀w∈ws,w.length<=1000000)(Q:AE->St->Prop)(o:eZ ws=some (ws.map rG)->∀b,Q (.exit 0) ⟨(13,dB false)::(13,b)::(N0 ws ws.length).env,0,[],(N0 ws ws.length).rl⟩)(s:eZ ws=none->∀env rl,Q .ret ⟨(3,dB false)::(2,.aO [] .nil)::env,0,[],rl⟩)(σ:St)(I:ph (N0 ws 0) σ):
  LW L 35 ⟨0,0,none⟩ ajn σ Q:=by
 have N:(aR ws).length=ws.length:=bl _;refine LW.count ws.length (fun i=>Pf (∀j,∀h:j<ws.length,j<i->(fg (ws[j])).isSome=true)) (fun i=>N0 ws i) (fun i=>adE _ _) (fun i R y c=>?_) ⟨fun j _ h=>absurd h (JF _)⟩ _ I;by_cases t:i<ws.length
 .have p:=O _ (eu t);obtain⟨S,m⟩:=T ws[i] p;have f:=A [nv ws[i]];cases l:fg ws[i]with
  |none=>
   have x:=TE d l;have s:=s (BZ t (by rw[l];rfl));clear c o;cases i with
   |zero=>
    repeat' ((conv=>whnf);first|exact xo|refine bY ?_|exact absurd ⟨by assumption,by assumption⟩ x|apply aq|apply bp|refine ak m ?_|refine ak (CP.pu f) ?_|exact s _ _|intro _)
   |succ i=>
    repeat' ((conv=>whnf);first|exact xo|refine bY ?_|exact absurd ⟨by assumption,by assumption⟩ x|apply aq|apply bp|refine ak m ?_|refine ak (CP.pu f) ?_|exact s _ _|intro _)
  |some n=>
   obtain⟨D,z,H⟩:=TF d l;have v:=OK t;have g:rG ws[i]=nv ws[i]:=by unfold rG;rw[l,z];rfl
   rw[g]at v;rw[<-z]at H
   have k:Pf (∀j,∀h:j<ws.length,j<i+1->(fg (ws[j])).isSome=true):=⟨fun j h U=>by
    by_cases e:j=i
    .subst e;rw[l];rfl
    .exact y.get j h om⟩
   have u:∀σ,ph (N0 ws (i+1)) σ->_:=fun σ q=>c σ t k q
   clear c o s;cases i with
   |zero=>
    repeat' ((conv=>whnf);first|exact xc|rw[wrap64 om]|refine bY ?_|refine ad ⟨rfl,by decide,rfl⟩ ?_|refine u _ (by refine⟨?_,?_,?_⟩<;>repeat' first|(show(_:bJ)=_;rw[v];rfl)|exact sx|apply And.intro)|apply aq|apply bp|refine ak m ?_|refine ak (CP.pu f) ?_|intro _)
   |succ i=>
    have a:(fU ((ws.take (i+1)).map rG)).length=i+1:=by simp[fU];omega
    repeat' ((conv=>whnf);first|exact xc|rw[wrap64 om]|refine bY ?_|refine ad ⟨by simp only[a];omega,rfl⟩ ?_|refine ad ⟨by simp only[a],rfl⟩ ?_|refine u _ (by refine⟨?_,?_,?_⟩<;>repeat' first|(show(_:bJ)=_;rw[v];done)|(refine pJ ?_ rfl;simp only[a])|exact sx|apply And.intro)|apply aq|apply bp|refine ak m ?_|refine ak (CP.pu f) ?_|intro _)
 .obtain rfl:i=ws.length:=by omega
  have E:=yO (ws:=ws) fun j h=>y.get j h h
  have o:=o E;clear c y E s;cases ws with
  |nil=>
   repeat' ((conv=>whnf);first|exact xo|apply aq|apply bK|apply aD|apply aH|apply bp|apply aM|apply eA|apply ew|apply gQ|apply bS|rw[ca];intro _|rw[dC];intro _|rw[bl];intro _|refine bY ?_|exact o _|intro _)
  |cons w r=>
   have e:(w::r).length=r.length+1:=rfl
   repeat' ((conv=>whnf);first|exact xo|apply aq|exact o _|intro _)
theorem ac2(a:aJ L 202 abB)(t:∀n:Int,eB .i64 n->nv (dec n)=n)(o:sO L nv)(s:O7 L 91):Rw L:=by
 have u:∀(ws:List ab)(l:List Int),ws.length<=1000000->(∀w∈ws,w.length<=1000000)->ws≠[]->eZ ws=some l->CT L 202 [.d (.sl (aR ws))] 0 [] [(0,920001)] (.b6 [.aO (fU l) (.fe 0),dB true]) 0 [] [(2*(l.length*1),920001)]:=by
  intro ws l c m f h;refine CT.fill (rl:=[(0,920001)]) ?_ si ⟨rfl,by decide,by decide,rfl,trivial⟩;have y:(aR ws).length=ws.length:=bl _;refine CT.enter a rfl (aQ _) (cr _) ?_
  repeat' ((conv=>whnf);first|rw[bl];intro _|fail)
  all_goals(conv=>whnf)
  refine VV t o s c m _ (fun e b=>?_) (fun e=>by rw[h]at e;cases e) _ lz;rw[h]at e;cases e;obtain⟨w,r,rfl⟩:=List.exists_cons_of_ne_nil f;have p:(w::r).take (r.length+1)=w::r:=nz (aQ _);have v:((w::r).map rG).length=r.length+1:=by simp
  repeat' ((conv=>whnf);first|exact xo|apply aq|apply bK|apply aD|apply aH|apply bp|apply aM|apply eA|apply ew|apply gQ|apply bS|rw[ca];intro _|rw[dC];intro _|rw[bl];intro _|refine bY ?_|(apply dt<;>(repeat' first|(show(_:bJ)=_;rw[p])|(refine pJ ?_ rfl;simp only[v])|exact sz|apply And.intro);done)|intro _)
 refine⟨u,?_,fun ws c m h=>?_⟩
 .refine a.cp ?_
  repeat' ((conv=>whnf);first|intro _)
  all_goals(conv=>whnf)
  refine VV t o s (ws:=[]) (cr _) (fun w h=>by cases h) _ (fun _ b=>?_) (fun h g rl=>by cases h.symm.trans (yO (ws:=[]) fun i h=>absurd h (JF _))) _ lz
  repeat' ((conv=>whnf);first|exact xo|apply aq|apply bK|apply aD|apply aH|apply bp|apply aM|apply eA|apply ew|apply gQ|apply bS|rw[ca];intro _|rw[dC];intro _|rw[bl];intro _|refine bY ?_|exact fz|intro _)
 .have y:(aR ws).length=ws.length:=bl _;refine a.cp ?_
  repeat' ((conv=>whnf);first|rw[bl];intro _|fail)
  all_goals(conv=>whnf)
  refine VV t o s c m _ (fun e=>by rw[h]at e;cases e) (fun _ g rl=>?_) _ lz
  repeat' ((conv=>whnf);first|exact xo|apply aq|apply bK|apply aD|apply aH|apply bp|apply aM|apply eA|apply ew|apply gQ|apply bS|rw[ca];intro _|rw[dC];intro _|rw[bl];intro _|refine bY ?_|(apply dt<;>(repeat' first|exact Lu _|exact sz|apply And.intro);done)|intro _)
abbrev lP(nm:ab)(t:List Fs)(op:Option (Nd×Option Nd))(e:Nd)(a:List Ft)(o:ab):Bx:=
 .var 0 [dS nm,stA 0 t op,dI e.sort,dI e.num,dS e.text,.aO (aR e.names) (.fe 1),.aO (e.kids.map cT) (.fe 2),.aO (a.map qN) (.fe 3),dS o]
abbrev kv(e:List Fs)(op:Option (Nd×Option Nd))(t:Nd)(a:List Ft):bm:=
 [(LO e op,620013),(2*(t.names.length*1),20001),(2*(t.kids.length*5),1120005),(2*(a.length*6),820006)]
def BS:Bx:=.var 0 [.bM,.bM,.bM,.bM,.bM,.bM,.bM,.bM,.bM]
def O0(L:Lk):Prop:=∀s:ab,s.length<=1000000->CP L 122 [dS s,dS [32]] (.b6 [dS (aC s),dS (au s),dB (pb (cl s 32<s.length))])
structure MV(L:Lk):Prop where
 a:∀nm ba k st sp ah,ba.length<=1000000->CT L 199 [.ptr 0 0] 1 [lP nm ba (some (k,none)) st sp ah] (kv ba (some (k,none)) st sp) (.kn 0 (2*(ba.length*13+3)+1) (ba.length*13)) 1 [lP nm ba (some (k,none)) st sp ah] (kv ba (some (k,none)) st sp)
 b:∀nm ba k v st sp ah,ba.length<=1000000->CT L 199 [.ptr 0 0] 1 [lP nm ba (some (k,some v)) st sp ah] (kv ba (some (k,some v)) st sp) (.kn 0 (2*(ba.length*13+8)+1) (ba.length*13)) 1 [lP nm ba (some (k,some v)) st sp ah] (kv ba (some (k,some v)) st sp)
structure FpC(L:Lk):Prop where
 cut:O0 L
 qR:lI L 89
 kind:EX L 138
 value:MX L
 tree:vu L 200
 state:MV L
set_option maxHeartbeats 40000000 in
theorem C2(F:aJ L 121 M9)(C:FpC L):
  (∀(nm:ab)(e:List Fs)(t:List Ft)(s:ab)(_:s.length<=1000000)(_:e.length<=1000000)(_:t.length<=1000000)(_:cl s 32<s.length)(_:aC s=kc),CT L 121 [.ptr 0 0,dS s] 1 [lP nm e none bX t []] (kv e none bX t) (dB (pb (bO (au s)))) 1 [lP (au s) e none bX t kc] (kv e none bX t))/\
  (∀(nm:ab)(e:List Fs)(t:List Ft)(s:ab)(_:s.length<=1000000)(_:e.length<=1000000)(_:t.length<=1000000)(_:cl s 32<s.length)(_:aC s=mw),CT L 121 [.ptr 0 0,dS s] 1 [lP nm e none bX t kc] (kv e none bX t) (dB ((kindOf (au s)).isSome)) 1 [lP nm e (some ((kindOf (au s)).getD bX,none)) bX t mw] (kv e (some ((kindOf (au s)).getD bX,none)) bX t))/\
  (∀(nm:ab)(e:List Fs)(t:List Ft)(s:ab)(_:s.length<=1000000)(_:e.length<=1000000)(_:t.length<=1000000)(_:cl s 32<s.length)(_:aC s=mw),CT L 121 [.ptr 0 0,dS s] 1 [lP nm e none bX t tL] (kv e none bX t) (dB ((kindOf (au s)).isSome)) 1 [lP nm e (some ((kindOf (au s)).getD bX,none)) bX t mw] (kv e (some ((kindOf (au s)).getD bX,none)) bX t))/\
  (∀(nm:ab)(e:List Fs)(k:Nd)(t:List Ft)(s:ab)(_:s.length<=1000000)(_:e.length<=1000000)(_:t.length<=1000000)(_:cl s 32<s.length)(_:aC s=sq)(v:Nd)(_:fC (au s)=some v),CT L 121 [.ptr 0 0,dS s] 1 [lP nm e (some (k,none)) bX t mw] (kv e (some (k,none)) bX t) (dB true) 1 [lP nm e (some (k,some v)) bX t sq] (kv e (some (k,some v)) bX t))/\
  (∀(nm:ab)(e:List Fs)(k u:Nd)(t:List Ft)(s:ab)(_:s.length<=1000000)(_:e.length<=1000000)(_:t.length<=1000000)(_:cl s 32<s.length)(_:aC s=tL)(v:Nd)(_:fC (au s)=some v),CT L 121 [.ptr 0 0,dS s] 1 [lP nm e (some (k,some u)) bX t sq] (kv e (some (k,some u)) bX t) (dB true) 1 [lP nm (e++[⟨k,u,v⟩]) none bX t tL] (kv (e++[⟨k,u,v⟩]) none bX t))/\
  (∀(nm:ab)(e:List Fs)(k:Nd)(t:List Ft)(s:ab)(_:s.length<=1000000)(_:e.length<=1000000)(_:t.length<=1000000)(_:cl s 32<s.length)(_:aC s=sq)(_:fC (au s)=none),CT L 121 [.ptr 0 0,dS s] 1 [lP nm e (some (k,none)) bX t mw] (kv e (some (k,none)) bX t) (dB false) 1 [lP nm e (some (k,some bX)) bX t sq] (kv e (some (k,some bX)) bX t))/\
  (∀(nm:ab)(e:List Fs)(k u:Nd)(t:List Ft)(s:ab)(_:s.length<=1000000)(_:e.length<=1000000)(_:t.length<=1000000)(_:cl s 32<s.length)(_:aC s=tL)(_:fC (au s)=none),CT L 121 [.ptr 0 0,dS s] 1 [lP nm e (some (k,some u)) bX t sq] (kv e (some (k,some u)) bX t) (dB false) 1 [lP nm (e++[⟨k,u,bX⟩]) none bX t tL] (kv (e++[⟨k,u,bX⟩]) none bX t))/\
  (∀(nm:ab)(e:List Fs)(k:Nd)(t:List Ft)(s:ab)(_:s.length<=1000000)(_:e.length<=1000000)(_:t.length<=1000000)(_:cl s 32<s.length)(_:aC s=mL),CT L 121 [.ptr 0 0,dS s] 1 [lP nm e (some (k,none)) bX t mw] (kv e (some (k,none)) bX t) (dB ((fX (au s)).isSome)) 1 [lP nm e (some (k,none)) ((fX (au s)).getD bX) t mL] (kv e (some (k,none)) ((fX (au s)).getD bX) t))/\
  (∀(nm:ab)(e:List Fs)(k r:Nd)(t:List Ft)(s:ab)(_:s.length<=1000000)(_:e.length<=1000000)(_:t.length<=1000000)(_:cl s 32<s.length)(_:aC s=xr)(v:Nd)(_:fC (au (au s))=some v),CT L 121 [.ptr 0 0,dS s] 1 [lP nm e (some (k,none)) r t mL] (kv e (some (k,none)) r t) (dB (pb (cl (au s) 32<(au s).length/\bO (aC (au s))))) 1 [lP nm e (some (k,none)) r (t++[⟨aC (au s),v⟩]) xr] (kv e (some (k,none)) r (t++[⟨aC (au s),v⟩])))/\
  (∀(nm:ab)(e:List Fs)(k r:Nd)(t:List Ft)(s:ab)(_:s.length<=1000000)(_:e.length<=1000000)(_:t.length<=1000000)(_:cl s 32<s.length)(_:aC s=xr)(_:fC (au (au s))=none),CT L 121 [.ptr 0 0,dS s] 1 [lP nm e (some (k,none)) r t mL] (kv e (some (k,none)) r t) (dB false) 1 [lP nm e (some (k,none)) r (t++[⟨aC (au s),bX⟩]) xr] (kv e (some (k,none)) r (t++[⟨aC (au s),bX⟩])))/\
  (∀(nm:ab)(e:List Fs)(k r:Nd)(t:List Ft)(s:ab)(_:s.length<=1000000)(_:e.length<=1000000)(_:t.length<=1000000)(_:cl s 32<s.length)(_:aC s=xr)(v:Nd)(_:fC (au (au s))=some v),CT L 121 [.ptr 0 0,dS s] 1 [lP nm e (some (k,none)) r t xr] (kv e (some (k,none)) r t) (dB (pb (cl (au s) 32<(au s).length/\bO (aC (au s))))) 1 [lP nm e (some (k,none)) r (t++[⟨aC (au s),v⟩]) xr] (kv e (some (k,none)) r (t++[⟨aC (au s),v⟩])))/\
  (∀(nm:ab)(e:List Fs)(k r:Nd)(t:List Ft)(s:ab)(_:s.length<=1000000)(_:e.length<=1000000)(_:t.length<=1000000)(_:cl s 32<s.length)(_:aC s=xr)(_:fC (au (au s))=none),CT L 121 [.ptr 0 0,dS s] 1 [lP nm e (some (k,none)) r t xr] (kv e (some (k,none)) r t) (dB false) 1 [lP nm e (some (k,none)) r (t++[⟨aC (au s),bX⟩]) xr] (kv e (some (k,none)) r (t++[⟨aC (au s),bX⟩])))/\
  (∀(nm:ab)(e:List Fs)(op:Option (Nd×Option Nd))(r:Nd)(t:List Ft)(c:ab)(s:ab)(_:s.length<=1000000)(_:e.length<=1000000)(_:t.length<=1000000)(_:cl s 32<s.length)(_:aC s=kc)(_:c≠[]),CT L 121 [.ptr 0 0,dS s] 1 [lP nm e op r t c] (kv e op r t) (dB false) 1 [BS] (kv e op r t))/\
  (∀(nm:ab)(e:List Fs)(op:Option (Nd×Option Nd))(r:Nd)(t:List Ft)(c:ab)(s:ab)(_:s.length<=1000000)(_:e.length<=1000000)(_:t.length<=1000000)(_:cl s 32<s.length)(_:aC s=mw)(_:c≠kc)(_:c≠tL),CT L 121 [.ptr 0 0,dS s] 1 [lP nm e op r t c] (kv e op r t) (dB false) 1 [BS] (kv e op r t))/\
  (∀(nm:ab)(e:List Fs)(op:Option (Nd×Option Nd))(r:Nd)(t:List Ft)(c:ab)(s:ab)(_:s.length<=1000000)(_:e.length<=1000000)(_:t.length<=1000000)(_:cl s 32<s.length)(_:aC s=sq)(_:c≠mw),CT L 121 [.ptr 0 0,dS s] 1 [lP nm e op r t c] (kv e op r t) (dB false) 1 [BS] (kv e op r t))/\
  (∀(nm:ab)(e:List Fs)(op:Option (Nd×Option Nd))(r:Nd)(t:List Ft)(c:ab)(s:ab)(_:s.length<=1000000)(_:e.length<=1000000)(_:t.length<=1000000)(_:cl s 32<s.length)(_:aC s=tL)(_:c≠sq),CT L 121 [.ptr 0 0,dS s] 1 [lP nm e op r t c] (kv e op r t) (dB false) 1 [BS] (kv e op r t))/\
  (∀(nm:ab)(e:List Fs)(op:Option (Nd×Option Nd))(r:Nd)(t:List Ft)(c:ab)(s:ab)(_:s.length<=1000000)(_:e.length<=1000000)(_:t.length<=1000000)(_:cl s 32<s.length)(_:aC s=mL)(_:c≠mw),CT L 121 [.ptr 0 0,dS s] 1 [lP nm e op r t c] (kv e op r t) (dB false) 1 [BS] (kv e op r t))/\
  (∀(nm:ab)(e:List Fs)(op:Option (Nd×Option Nd))(r:Nd)(t:List Ft)(c:ab)(s:ab)(_:s.length<=1000000)(_:e.length<=1000000)(_:t.length<=1000000)(_:cl s 32<s.length)(_:aC s=xr)(_:c≠mL)(_:c≠xr),CT L 121 [.ptr 0 0,dS s] 1 [lP nm e op r t c] (kv e op r t) (dB false) 1 [BS] (kv e op r t))/\
  (∀(nm:ab)(e:List Fs)(op:Option (Nd×Option Nd))(r:Nd)(t:List Ft)(c:ab)(s:ab)(_:s.length<=1000000)(_:e.length<=1000000)(_:t.length<=1000000)(_:cl s 32<s.length)(_:aC s≠kc)(_:aC s≠mw)(_:aC s≠sq)(_:aC s≠tL)(_:aC s≠mL)(_:aC s≠xr),CT L 121 [.ptr 0 0,dS s] 1 [lP nm e op r t c] (kv e op r t) (dB false) 1 [BS] (kv e op r t))/\
  (∀(nm:ab)(e:List Fs)(op:Option (Nd×Option Nd))(r:Nd)(t:List Ft)(c:ab)(s:ab)(_:s.length<=1000000)(_:e.length<=1000000)(_:t.length<=1000000)(_:¬cl s 32<s.length),CT L 121 [.ptr 0 0,dS s] 1 [lP nm e op r t c] (kv e op r t) (dB false) 1 [BS] (kv e op r t)):=by
 refine⟨fun nm e t s d o i h l=>?_,fun nm e t s d o i h l=>?_,fun nm e t s d o i h l=>?_,fun nm e k t s d o i h l v f=>?_,fun nm e k u t s d o i h l v f=>?_,fun nm e k t s d o i h l f=>?_,fun nm e k u t s d o i h l f=>?_,fun nm e k t s d o i h l=>?_,fun nm e k r t s d o i h l v f=>?_,fun nm e k r t s d o i h l f=>?_,fun nm e k r t s d o i h l v f=>?_,fun nm e k r t s d o i h l f=>?_,fun nm e op r t c s d o i h l n0=>?_,fun nm e op r t c s d o i h l n0 w=>?_,fun nm e op r t c s d o i h l n0=>?_,fun nm e op r t c s d o i h l n0=>?_,fun nm e op r t c s d o i h l n0=>?_,fun nm e op r t c s d o i h l n0 w=>?_,fun nm e op r t c s d o i h n0 w Y P V B=>?_,fun nm e op r t c s d o i p=>?_⟩
 all_goals
  have A:=C.cut s d;have O:(au s).length<=1000000:=by have:=gT s;omega
  have g:(e.map qh).length=e.length:=by simp
  have j:(t.map qN).length=t.length:=by simp
  first|(rw[l]at A)|skip
  first|(rw[iA h]at A)|skip
  first|(have I:=C.kind (au s))|skip
  first|(have q:=C.state.a nm e k bX t sq o)|skip
  first|(have N:=C.value.y (au s) v O f;obtain⟨m,S⟩:=N)|skip
  first|(have E:=C.state.b nm e k u bX t tL o)|skip
  first|(have H:=C.value.n (au s) O f)|skip
  first|(have R:=C.tree (au s))|skip
  first|(have T:(au (au s)).length<=1000000:=by have:=gT (au s);omega)|skip
  first|(have D:=C.cut (au s) O)|skip
  first|(have N:=C.value.y (au (au s)) v T f;obtain⟨m,U⟩:=N)|skip
  first|(have M:=C.value.n (au (au s)) T f)|skip
  first|(rw[ig p]at A)|skip
  first|(clear f)|skip
  first|(generalize kindOf (au s)=z at*)|skip
  first|(generalize fX (au s)=z at*)|skip
  first|(generalize cl (au s) 32=c2 at*)|skip
  first|(generalize au (au s)=G at*)|skip
  first|(generalize aC (au s)=K at*)|skip
  generalize au s=y at*
  first|(generalize aC s=x at*)|skip
 all_goals refine F.ct ?_
 repeat' ((conv=>whnf);first|contradiction|refine ad (by rw[bl];rfl) ?_|refine ad (by rw[dC];rfl) ?_|refine ad ⟨by simp only[g,aZ,bc];omega,rfl⟩ ?_|refine ad ⟨rfl,rfl⟩ ?_|refine ad ⟨by simp only[LO,g],rfl⟩ ?_|refine ad ⟨by simp only[j,aZ,bc];omega,rfl⟩ ?_|refine ad ⟨by simp only[j],rfl⟩ ?_|refine ad ⟨by simp only[LO],by omega,rfl⟩ ?_|apply aH|apply bp|refine bY ?_|refine ak A ?_|refine ak (C.qR _) ?_|refine iu (C.qR _) ?_|refine bA.dE 20001 rfl (bA.dE 1020003 rfl (az I [] [4,5] ?_))|refine iv q ?_|refine iv E ?_|refine bA.dE 20001 rfl (bA.dE 1220005 rfl (az S [] [4,5] ?_))|refine bA.dE 20001 rfl (bA.dE 1220005 rfl (az U [] [4,5] ?_))|refine az H [] [] ?_|refine az M [] [] ?_|refine az R [] [1,2] ?_|refine ak D ?_|intro _)
 all_goals(conv=>whnf)
 all_goals try first
  |(apply dt<;>(repeat' first|(refine congrArg DV.bool (AJ.2 ?_);(try simp only[lk,jT]);grind)|(show(_:bJ)=_;simp[qh,qN,tD,kD,Fc,Jc];done)|(show(_:bJ)=_;rw[sE];rfl)|(show(_:List DV)=_;simp[qh,qN,tD,kD,Fc,Jc,bX];done)|(show(_,_)=(_,_);simp[LO];done)|exact sx|apply And.intro);done)
  |exact xo
 all_goals first|(rcases op with _|⟨k,_|v⟩)|skip
 all_goals try first
  |(apply dt<;>(repeat' first|(show(_,_)=(_,_);simp[LO];done)|exact sz|apply And.intro);done)
  |exact xo
end Go.Ab
namespace Go.Ab
open Go
variable{i:Nat}{s:ab}{nv:ab->Int}
theorem K1:kindOf []=none:=by
 unfold kindOf;exact dif_neg H'
theorem Um:fX []=none:=by
 unfold fX;exact dif_neg fun⟨t,_,h⟩=>Jv h
theorem BW:¬bO []:=fun h=>absurd h.1.1 si
theorem Y5:ib (kV++[])=[[101,109,105,116]]:=by
 refine(vX (kV++[])).one ?_;have e:(kV++[])=kV:=rfl;rw[e];refine .word 0 4 [] _ de de (.inr ⟨by decide,by decide,by decide,fun i t a=>?_,.inr de⟩) (.skip 4 _ _ de de (.done _));have:i=1\/i=2\/i=3:=by omega
 rcases this with rfl|rfl|rfl<;>decide
theorem Iz(e:∀n:Int,eB .i64 n->nv (dec n)=n):fC []=none:=by
 have t:cE (ib (kV++[])) nv 24 true 0 0=none:=by
  rw[Y5];have a:bP [[101,109,105,116]] 0=[101,109,105,116]:=rfl;have o:c6 [101,109,105,116]=38:=by decide
  have i:iz 38=[86]:=by decide
  unfold cE;rw[if_neg de,if_neg de,a,o,if_pos de,if_neg (by rw[iA de];simp),if_neg de,i];unfold oI fh;rw[if_pos (.inl rfl)];unfold cE;rw[if_neg de,if_pos de];rfl
 have s:=(HB e (kV++[])).2 t;unfold fC gG;rw[if_neg fun h=>s h.2.1];rfl
theorem Z6(e:∀n:Int,eB .i64 n->nv (dec n)=n)(f:Fr)(t:s≠[])(h:¬cl s 32<s.length):(ju f s).1=false:=by
 have o:au s=[]:=Jx om;have i:aC ([]:ab)=[]:=rfl;have a:au ([]:ab)=[]:=rfl;have r:=Iz e;unfold ju;rw[if_neg t];simp only[o,i,a,r,K1,Um,JB]
 repeat' split
 all_goals first
  |rfl
  |exact ig (fun h=>BW h.2)
  |exact ig (fun h=>BW h.2.1)
  |exact ig (fun h=>absurd h.1 HV)
def wA(n:Int):ab:=if n=1 then kc else if n=2 then mw else if n=3 then sq else if n=4 then tL else if n=5 then mL else if n=6 then xr else[]
structure YJ(f:Fr):Prop where
 rng:0<=f.gU/\f.gU<=6
 s01:f.gU<=1->f.op=none
 z:f.gU<=4->f.start=bX
abbrev pfB(f:Fr):Bx:=lP f.name f.ba f.op f.start f.steps (wA f.gU)
abbrev pfR(f:Fr):bm:=kv f.ba f.op f.start f.steps
theorem YJ.line{f:Fr}(h:YJ f)(b:IB i f)(t:(ju f s).1=true):YJ (ju f s).2:=by
 obtain⟨⟨r,d⟩,n,a⟩:=h;obtain⟨g,v,k,j,q,o⟩:=f;simp only at r d n a;unfold ju at t⊢;by_cases l:s=[]
 .rw[if_pos l];exact⟨⟨r,d⟩,n,a⟩
 rw[if_neg l]at t⊢;by_cases u:aC s=kc
 .rw[if_pos u]at t⊢;have e:o=0:=(mo.1 t).1;exact⟨⟨(by decide:(0:Int)<=1),(by decide:(1:Int)<=6)⟩,fun _=>n om,fun _=>a om⟩
 rw[if_neg u]at t⊢;by_cases c:aC s=mw
 .rw[if_pos c]at t⊢;have e:o=1\/o=4:=(mo.1 t).2;exact⟨⟨(by decide:(0:Int)<=2),(by decide:(2:Int)<=6)⟩,fun h=>absurd h (by decide:¬(2:Int)<=1),fun _=>a om⟩
 rw[if_neg c]at t⊢;by_cases m:aC s=sq
 .rw[if_pos m]at t⊢;have e:o=2:=(mo.1 t).2;exact⟨⟨(by decide:(0:Int)<=3),(by decide:(3:Int)<=6)⟩,fun h=>absurd h (by decide:¬(3:Int)<=1),fun _=>a om⟩
 rw[if_neg m]at t⊢;by_cases w:aC s=tL
 .rw[if_pos w]at t⊢;have e:o=3:=(mo.1 t).2;subst e;exact⟨⟨(by decide:(0:Int)<=4),(by decide:(4:Int)<=6)⟩,fun _=>rfl,fun _=>a om⟩
 rw[if_neg w]at t⊢;by_cases y:aC s=mL
 .rw[if_pos y]at t⊢;exact⟨⟨(by decide:(0:Int)<=5),(by decide:(5:Int)<=6)⟩,fun h=>absurd h (by decide:¬(5:Int)<=1),fun h=>absurd h (by decide:¬(5:Int)<=4)⟩
 rw[if_neg y]at t⊢;by_cases p:aC s=xr
 .rw[if_pos p]at t⊢;exact⟨⟨(by decide:(0:Int)<=6),(by decide:(6:Int)<=6)⟩,fun h=>absurd h (by decide:¬(6:Int)<=1),fun h=>absurd h (by decide:¬(6:Int)<=4)⟩
 rw[if_neg p]at t;cases t
section
variable{L:Lk}{A:List AV}{B:List Bx}{R:bm}{z:Bool×Fr}
def PfT(L:Lk)(A:List AV)(B:List Bx)(R:bm)(z:Bool×Fr):Prop:=
 (z.1=true->CT L 121 A 1 B R (dB true) 1 [pfB z.2] (pfR z.2))/\(z.1=false->∃e t a o,CT L 121 A 1 B R (dB false) 1 [BS] [e,t,a,o])
theorem C3(t:R.length=4)(h:CT L 121 A 1 B R (dB z.1) 1 [pfB z.2] (pfR z.2)):PfT L A B R z:=by
 refine⟨fun e=>by rw[e]at h;exact h,fun e=>?_⟩;rw[e]at h;refine⟨_,_,_,_,h.ajD ⟨rfl,?_,nX _,rfl⟩ (aQ _) (by rw[t];exact aQ _)⟩;obtain⟨b,i,a,o,n,s,r⟩:=z;rcases o with _|⟨k,_|v⟩<;>(repeat' (first|exact trivial|exact Or.inl rfl|apply And.intro))
theorem B3{t a o i:Nat×Nat}(n:z.1=false)(h:CT L 121 A 1 B R (dB false) 1 [BS] [t,a,o,i]):PfT L A B R z:=
 ⟨fun e=>(by rw[n]at e;cases e),fun _=>⟨_,_,_,_,h⟩⟩
end
theorem adb{L:Lk}(B:aJ L 121 M9)(C:FpC L)(T:∀n:Int,eB .i64 n->nv (dec n)=n)(f:Fr)(s:ab)(m:s.length<=1000000)(A:s≠[])(hi:i<=1000000)(hJ:IB i f)(hP:YJ f):
  PfT L [.ptr 0 0,dS s] [pfB f] (pfR f) (ju f s):=by
 obtain⟨_,_,_,G,K,J,Q,X,Z,ee,O,I,N,S,H,R,D,U,M,F⟩:=C2 B C;obtain⟨⟨g1,g2⟩,h1,q⟩:=hP;obtain⟨j2,j3,j4,j5,j6,j7⟩:=hJ;by_cases o:cl s 32<s.length
 case neg=>exact B3 (Z6 T f A o) (F _ _ _ _ _ _ s m om om o)
 have hr:(au s).length<=1000000:=by have:=gT s;omega
 obtain⟨c,a,b,w,l,t⟩:=f;simp only at g1 g2 h1 q j2 j3 j4 j5 j6 j7;have r:a.length<=1000000:=by omega
 have d:l.length<=1000000:=by omega
 unfold ju;rw[if_neg A];by_cases Y:aC s=kc
 .rw[if_pos Y];by_cases e:t=0
  .subst e;obtain rfl:=h1 om;obtain rfl:=q om;refine C3 rfl ?_;have:=(C2 B C).1 c a l s m r d o Y;rw[show pb (bO (au s))=pb ((0:Int)=0/\bO (au s))from vR ⟨fun h=>⟨rfl,h⟩,fun h=>h.2⟩]at this;exact this
  .refine B3 (ig fun h=>e h.1) (N c a b w l (wA t) s m r d o Y ?_);have:t=1\/t=2\/t=3\/t=4\/t=5\/t=6:=by omega
   rcases this with rfl|rfl|rfl|rfl|rfl|rfl<;>decide
 rw[if_neg Y];by_cases x:aC s=mw
 .rw[if_pos x];by_cases e:t=1\/t=4
  .have P:∀{p:Prop},p->(kindOf (au s)).isSome=pb ((kindOf (au s)).isSome=true/\p):=fun hp=>by
    cases(kindOf (au s)).isSome with
    |true=>rw[iA ⟨rfl,hp⟩]
    |false=>rw[ig fun h=>absurd h.1 HV]
   obtain rfl:b=none:=by rcases e with rfl|rfl;exact h1 om;exact j4 rfl
   obtain rfl:w=bX:=by rcases e with rfl|rfl<;>exact q om
   refine C3 rfl ?_;rcases e with rfl|rfl
   .have:=(C2 B C).2.1 c a l s m r d o x;rw[P (p:=(1:Int)=1\/(1:Int)=4) (.inl rfl)]at this;show CT L 121 _ 1 _ _ _ 1 [lP c (a++[]) _ bX l mw] (kv (a++[]) _ bX l);rw[oe];exact this
   .have:=(C2 B C).2.2.1 c a l s m r d o x;rw[P (p:=(4:Int)=1\/(4:Int)=4) (.inr rfl)]at this;show CT L 121 _ 1 _ _ _ 1 [lP c (a++[]) _ bX l mw] (kv (a++[]) _ bX l);rw[oe];exact this
  .have:t=0\/t=2\/t=3\/t=5\/t=6:=by omega
   refine B3 (ig fun h=>e h.2) (S c a b w l (wA t) s m r d o x ?_ ?_)<;>rcases this with rfl|rfl|rfl|rfl|rfl<;>decide
 rw[if_neg x];by_cases z:aC s=sq
 .rw[if_pos z];by_cases e:t=2
  .subst e;obtain⟨k,rfl⟩:=j2 rfl;obtain rfl:=q om;refine C3 rfl ?_;cases y:fC (au s)with
   |some v=>
    rw[iA ⟨rfl,rfl⟩,if_pos rfl];exact G c a k l s m r d o z v y
   |none=>
    rw[ig fun h=>absurd h.1 HV,if_pos rfl];exact J c a k l s m r d o z y
  .have:t=0\/t=1\/t=3\/t=4\/t=5\/t=6:=by omega
   refine B3 (ig fun h=>e h.2) (H c a b w l (wA t) s m r d o z ?_);rcases this with rfl|rfl|rfl|rfl|rfl|rfl<;>decide
 rw[if_neg z];by_cases E:aC s=tL
 .rw[if_pos E];by_cases e:t=3
  .subst e;obtain⟨k,u,rfl⟩:=j3 rfl;obtain rfl:=q om;refine C3 rfl ?_;rw[if_pos rfl];cases y:fC (au s)with
   |some v=>
    rw[iA ⟨rfl,rfl⟩];exact K c a k u l s m r d o E v y
   |none=>
    rw[ig fun h=>absurd h.1 HV];exact Q c a k u l s m r d o E y
  .have:t=0\/t=1\/t=2\/t=4\/t=5\/t=6:=by omega
   refine B3 (ig fun h=>e h.2) (R c a b w l (wA t) s m r d o E ?_);rcases this with rfl|rfl|rfl|rfl|rfl|rfl<;>decide
 rw[if_neg E];by_cases V:aC s=mL
 .rw[if_pos V];by_cases e:t=2
  .subst e;obtain⟨k,rfl⟩:=j2 rfl;obtain rfl:=q om;refine C3 rfl ?_;have:=X c a k l s m r d o V
   rw[show(fX (au s)).isSome=pb ((fX (au s)).isSome=true/\(2:Int)=2) by
    cases(fX (au s)).isSome with
    |true=>rw[iA ⟨rfl,rfl⟩]
    |false=>rw[ig fun h=>absurd h.1 HV]]at this
   exact this
  .have:t=0\/t=1\/t=3\/t=4\/t=5\/t=6:=by omega
   refine B3 (ig fun h=>e h.2) (D c a b w l (wA t) s m r d o V ?_);rcases this with rfl|rfl|rfl|rfl|rfl|rfl<;>decide
 rw[if_neg V];by_cases g:aC s=xr
 .rw[if_pos g];by_cases e:5<=t
  .obtain⟨k,rfl⟩:=j5 e;refine C3 rfl ?_;cases y:fC (au (au s))with
   |some v=>
    have j:cl (au s) 32<(au s).length:=qX fun h=>by
     have h0:au (au s)=[]:=Jx om;rw[h0,Iz T]at y;cases y
    have P:pb (cl (au s) 32<(au s).length/\bO (aC (au s)))=pb ((some v).isSome=true/\bO (aC (au s))/\5<=t):=vR ⟨fun h=>⟨rfl,h.2,e⟩,fun h=>⟨j,h.2.1⟩⟩;have:t=5\/t=6:=by omega
    rcases this with rfl|rfl
    .have:=Z c a k w l s m r d o g v y;rw[P]at this;exact this
    .have:=O c a k w l s m r d o g v y;rw[P]at this;exact this
   |none=>
    rw[ig fun h=>absurd h.1 HV];have:t=5\/t=6:=by omega
    rcases this with rfl|rfl
    .exact ee c a k w l s m r d o g y
    .exact I c a k w l s m r d o g y
  .have:t=0\/t=1\/t=2\/t=3\/t=4:=by omega
   refine B3 (ig fun h=>e h.2.2) (U c a b w l (wA t) s m r d o g ?_ ?_)<;>rcases this with rfl|rfl|rfl|rfl|rfl<;>decide
 rw[if_neg g];exact B3 rfl (M c a b w l (wA t) s m r d o Y x z E V g)
end Go.Ab
namespace Go.Ab
open Go
attribute [local irreducible] bI cf cw bW bA dk dT
variable{L:Lk}
set_option maxHeartbeats 4000000
abbrev pR(es:bJ)(P F:AV):Bx:=.var 0 [.aO es (.fe 0),P,F]
abbrev sd(w:Pw)(k:Nat):Bx:=.var 0 [dI w.kind,dS w.data,dB w.mj,dI w.after,dI w.BV,.aO (fU w.bj) (.sub k (2*((w.bj.length+2)*1)))]
abbrev rX:AV:=.aO [] .nil
abbrev d0:AV:=dI 0
abbrev ds:AV:=dS []
abbrev WO(e:Int)(key:ab)(ev:List AV)(part t:Int)(nm:ab)(a o i:List AV):List AV:=
 [dI e,dS key]++ev++[dI part,dI t,dS nm]++a++o++i++[d0,ds,dB false,d0,d0,rX]
abbrev ev0:List AV:=[ds,d0,d0,d0,ds,rX,rX]
abbrev fo0:List AV:=[d0,rX,rX]
abbrev Z5:List AV:=[d0,d0,ds,rX,rX]
abbrev Oc:List AV:=[ds,rX,d0,d0,ds,rX,rX,rX]
abbrev cD(n:Nat):Nat×Nat:=(2*(n*34),720034)
theorem ZN(a:aJ L 199 agR):MV L:=by
 refine⟨fun o e k i n s h=>?_,fun o e k v i n s h=>?_⟩
 all_goals have t:(e.map qh).length=e.length:=by simp
 all_goals refine a.ct ?_
 repeat' ((conv=>whnf);first|rw[wrap64 om]|refine ad ⟨by simp only[t];omega,rfl⟩ ?_|refine ad (by simp only[t];omega) ?_|(apply dt<;>(repeat' first|(show _=_;simp only[t];done)|exact sz|apply And.intro);done)|fail)
set_option maxHeartbeats 40000000 in
theorem nR(h:aJ L 124 c124):
  (∀(es:bJ)(e:Int)(key:ab)(part t:Int)(nm:ab)(_:es.length<=1000),CT L 124 [.ptr 0 0,.agg (WO e key ev0 part t nm fo0 Z5 Oc)] 1 [pR es (.d .cq) (.d .cq)] [cD es.length] (.b6 []) 1 [pR (es++[gH ⟨e,key,pV,part,t,nm,bX,bX,qS,fB⟩]) (.d .cq) (.d .cq)] [cD (es.length+1)])/\
  (∀(es:bJ)(w:Pw)(e:Int)(key:ab)(part t:Int)(nm:ab)(_:es.length<=1000),CT L 124 [.ptr 0 0,.agg (WO e key ev0 part t nm fo0 Z5 Oc)] 2 [pR es (.ptr 1 0) (.d .cq),sd w 1] [cD es.length,(2*((w.bj.length+2)*1),920001)] (.b6 []) 2 [pR (es++[gH ⟨e,key,pV,part,t,nm,bX,bX,qS,w⟩]) (.d .cq) (.d .cq),.var 0 [.bM,.bM,.bM,.bM,.bM,.bM]] [cD (es.length+1),(2*((w.bj.length+2)*1),930001)])/\
  (∀(es:bJ)(key:ab)(ev:Ev)(_:es.length<=1000),CT L 124 [.ptr 0 0,.agg (WO 1 key [dS ev.xq,dI ev.pC,dI ev.body.sort,dI ev.body.num,dS ev.body.text,.aO (aR ev.body.names) (.fe 1),.aO (ev.body.kids.map cT) (.fe 2)] 0 0 [] fo0 Z5 Oc)] 1 [pR es (.d .cq) (.d .cq)] [cD es.length,(2*(ev.body.names.length*1),20001),(2*(ev.body.kids.length*5),1120005)] (.b6 []) 1 [pR (es++[gH ⟨1,key,ev,0,0,[],bX,bX,qS,fB⟩]) (.d .cq) (.d .cq)] [cD (es.length+1),(2*(ev.body.names.length*1),30001),(2*(ev.body.kids.length*5),1130005)])/\
  (∀(es:bJ)(w:Pw)(key:ab)(ev:Ev)(_:es.length<=1000),CT L 124 [.ptr 0 0,.agg (WO 1 key [dS ev.xq,dI ev.pC,dI ev.body.sort,dI ev.body.num,dS ev.body.text,.aO (aR ev.body.names) (.fe 2),.aO (ev.body.kids.map cT) (.fe 3)] 0 0 [] fo0 Z5 Oc)] 2 [pR es (.ptr 1 0) (.d .cq),sd w 1] [cD es.length,(2*((w.bj.length+2)*1),920001),(2*(ev.body.names.length*1),20001),(2*(ev.body.kids.length*5),1120005)] (.b6 []) 2 [pR (es++[gH ⟨1,key,ev,0,0,[],bX,bX,qS,w⟩]) (.d .cq) (.d .cq),.var 0 [.bM,.bM,.bM,.bM,.bM,.bM]] [cD (es.length+1),(2*((w.bj.length+2)*1),930001),(2*(ev.body.names.length*1),30001),(2*(ev.body.kids.length*5),1130005)])/\
  (∀(es:bJ)(nm:ab)(k:Nd)(_:es.length<=1000),CT L 124 [.ptr 0 0,.agg (WO 6 [] ev0 0 0 nm [dI k.sort,.aO (aR k.names) (.fe 1),.aO (k.kids.map cK) (.fe 2)] Z5 Oc)] 1 [pR es (.d .cq) (.d .cq)] [cD es.length,(2*(k.names.length*1),20001),(2*(k.kids.length*3),1020003)] (.b6 []) 1 [pR (es++[gH (Cg nm k bX)]) (.d .cq) (.d .cq)] [cD (es.length+1),(2*(k.names.length*1),30001),(2*(k.kids.length*3),1030003)])/\
  (∀(es:bJ)(nm:ab)(k l:Nd)(_:es.length<=1000),CT L 124 [.ptr 0 0,.agg (WO 6 [] ev0 0 0 nm [dI k.sort,.aO (aR k.names) (.fe 1),.aO (k.kids.map cK) (.fe 2)] [dI l.sort,dI l.num,dS l.text,.aO (aR l.names) (.fe 3),.aO (l.kids.map cT) (.fe 4)] Oc)] 1 [pR es (.d .cq) (.d .cq)] [cD es.length,(2*(k.names.length*1),20001),(2*(k.kids.length*3),1020003),(2*(l.names.length*1),20001),(2*(l.kids.length*5),1220005)] (.b6 []) 1 [pR (es++[gH (Cg nm k l)]) (.d .cq) (.d .cq)] [cD (es.length+1),(2*(k.names.length*1),30001),(2*(k.kids.length*3),1030003),(2*(l.names.length*1),30001),(2*(l.kids.length*5),1230005)])/\
  (∀(es:bJ)(nm:ab)(o:List Fs)(k i:Nd)(n:List Ft)(s:Int)(_:es.length<=1000),CT L 124 [.ptr 0 0,.agg (WO 7 [] ev0 0 0 [] fo0 Z5 [dS nm,.kh 13 3 (o.map qh) (kD k) (tD bX++tD bX) 1,dI i.sort,dI i.num,dS i.text,.aO (aR i.names) (.fe 2),.aO (i.kids.map cT) (.fe 3),.aO (n.map qN) (.fe 4)])] 1 [pR es (.d .cq) (.d .cq)] [cD es.length,(2*(o.length*13+3)+1,620013),(2*(i.names.length*1),20001),(2*(i.kids.length*5),1120005),(2*(n.length*6),820006)] (.b6 []) 1 [pR (es++[gH (vK ⟨nm,o,some (k,none),i,n,s⟩)]) (.d .cq) (.d .cq)] [cD (es.length+1),(2*((o.length+1)*13),630013),(2*(i.names.length*1),30001),(2*(i.kids.length*5),1130005),(2*(n.length*6),830006)]):=by
 refine⟨fun es e key part t nm a=>?_,fun es w e key part t nm a=>?_,fun es key ev a=>?_,fun es w key ev a=>?_,fun es nm k a=>?_,fun es nm k l a=>?_,fun es nm o k i n s a=>?_⟩
 all_goals refine h.ct ?_
 repeat' ((conv=>whnf);first|refine ad (by rw[bl];rfl) ?_|refine ad (by rw[dC];rfl) ?_|refine ad (by rw[ca];rfl) ?_|refine ad (by rw[V5];rfl) ?_|refine ad (by rw[V4]) ?_|refine ad ⟨by omega,rfl⟩ ?_|refine bY ?_|(apply dt<;>(repeat' first|(show(_:bJ)=_;simp only[gH,vK,Fr.last,sE,Wl];rfl)|exact sx|apply And.intro);done)|fail)
end Go.Ab
namespace Go.Ab
open Go
variable{s:ab}
theorem J6{c:UInt8}{s:ab}:∀i,(∀j,j<i->s[j]?≠some c)->gR c s i=(0,[])
 |0,_=>rfl
 |i+1,h=>by rw[zD (h i (tT i)),J6 i fun j e=>h j om]
theorem XC{c:UInt8}{t:ab}(e:c∉t)(r:ab)(j:Nat)(a:j<t.length):(t++r)[j]?≠some c:=by
 rw[gL a];intro h;exact e (vc h)
theorem Lt{c:UInt8}(h:c∉s):pieces c s=[s]:=by
 have:gR c s s.length=(0,[]):=J6 _ fun j e=>by
  have:=XC h [] j e;rwa [oe]at this
 unfold pieces;rw[this];rfl
theorem Nk{c:UInt8}{t r:ab}(a:c∉t):∀j,gR c (t++c::r) (t.length+1+j)=(t.length+1+(gR c r j).1,t::(gR c r j).2)
 |0=>by
  have h:(t++c::r)[t.length]?=some c:=by simp
  show gR c (t++c::r) (t.length+1)=_;rw[zE h,J6 _ fun j i=>XC a _ j i];simp[gR]
 |j+1=>by
  have o:=Nk (r:=r) a j
  have e:(t++c::r)[t.length+1+j]?=r[j]?:=by
   rw[pI om,show t.length+1+j-t.length=j+1 by omega,AA]
  have n:(t++c::r).take (t.length+1+j)=t++c::r.take j:=by
   rw[List.take_append,nz om,show t.length+1+j-t.length=j+1 by omega,HU]
  rw[show t.length+1+(j+1)=(t.length+1+j)+1 by omega];by_cases h:r[j]?=some c
  .rw[zE (by rw[e];exact h),zE h,o,n]
   have:(t++c::r.take j).drop (t.length+1+(gR c r j).1)=(r.take j).drop (gR c r j).1:=by
    rw[List.drop_append,List.drop_of_length_le om,show t.length+1+(gR c r j).1-t.length=(gR c r j).1+1 by omega,Cp];rfl
   simp[this];omega
  .rw[zD (by rw[e];exact h),zD h,o]
theorem Ip{c:UInt8}{t r:ab}(e:c∉t):pieces c (t++c::r)=t::pieces c r:=by
 have a:(t++c::r).length=t.length+1+r.length:=by simp;omega
 unfold pieces;rw[a,Nk e]
 have:(t++c::r).drop (t.length+1+(gR c r r.length).1)=r.drop (gR c r r.length).1:=by
  rw[List.drop_append,List.drop_of_length_le om,show t.length+1+(gR c r r.length).1-t.length=(gR c r r.length).1+1 by omega,Cp];rfl
 simp[this]
theorem Nj(h:cl s 32<s.length):s=aC s++32::au s:=by
 induction s with
 |nil=>simp at h
 |cons x r a=>
  by_cases e:x=32
  .subst e;have:cl (32::r) 32=0:=by simp[cl]
   simp[aC,au,this]
  .have t:cl (x::r) 32=cl r 32+1:=by simp[cl,e]
   rw[t]at h;have:=a (by simp at h;omega);simp only[aC,au,t,HU,Cp,yg]at this⊢;rw[<-this]
theorem OU(s:ab):(32:UInt8)∉aC s:=by
 induction s with
 |nil=>simp[aC]
 |cons x r t=>
  by_cases e:x=32
  .subst e;have:cl (32::r) 32=0:=by simp[cl]
   simp[aC,this]
  .have a:cl (x::r) 32=cl r 32+1:=by simp[cl,e]
   simp only[aC,a,HU,xe,not_or];exact⟨fun h=>e h.symm,t⟩
theorem oa(h:¬cl s 32<s.length):aC s=s/\au s=[]/\(32:UInt8)∉s:=by
 have e:aC s=s:=nz om;refine⟨e,Jx om,?_⟩;have:=OU s;rwa [e]at this
theorem vS(h:cl s 32<s.length):pieces 32 s=aC s::pieces 32 (au s):=by
 conv=>lhs;rw[Nj h]
 exact Ip (OU s)
theorem vT(h:¬cl s 32<s.length):pieces 32 s=[s]:=Lt (oa h).2.2
theorem Iq(s:ab):∃a r,pieces 32 s=a::r:=by
 have:=(ld 32 s).1;cases h:pieces 32 s with
 |nil=>rw[h]at this;simp at this
 |cons a r=>exact⟨a,r,rfl⟩
theorem ae2(n:Int):(32:UInt8)∉dec n:=fun h=>by
 have:=Fj n _ h;simp at this
theorem N2{n:Int}(h:fg s=some n):s≠[]/\¬cl s 32<s.length:=by
 unfold fg at h;split at h
 .rename_i e;obtain⟨m,a,rfl⟩:=e;refine⟨zG m,fun h=>?_⟩;have t:(32:UInt8)∈dec m:=by rw[Nj h];simp
  exact absurd t (ae2 m)
 .cases h
theorem Al:fg []=none:=by
 cases h:fg []with
 |none=>rfl
 |some n=>exact absurd rfl (N2 h).1
theorem BX(h:cl s 32<s.length):fg s=none:=by
 cases e:fg s with
 |none=>rfl
 |some n=>exact absurd h (N2 e).2
theorem nM(a:ab)(r:List ab):eZ (a::r)=match fg a,eZ r with|some x,some l=>some (x::l)|_,_=>none:=by
 cases e:fg a with
 |none=>rw[BZ (i:=0) si (by simpa using congrArg Option.isSome e)]
 |some x=>
  by_cases t:∀i,∀h:i<r.length,(fg r[i]).isSome=true
  .rw[yO t,yO (ws:=a::r) fun i h=>by
    cases i with
    |zero=>simp[e]
    |succ i=>simpa using t i (by simpa using h)]
   simp[rG,e]
  .obtain⟨i,h,o⟩:∃i,∃h:i<r.length,(fg r[i]).isSome=false:=by
    apply qX;intro n
    exact t fun i h=>by
     cases s:(fg r[i]).isSome with
     |true=>rfl
     |false=>exact absurd ⟨i,h,s⟩ n
   rw[BZ h o,BZ (ws:=a::r) (i:=i+1) (by simp;omega) (by simpa using o)]
theorem tv:eZ []=some []:=yO fun _ h=>absurd h (JF _)
theorem Un(s:ab):wV s=match eZ (pieces 32 s)with|some [n,m]=>some (Q1 n m)|_=>none:=by
 unfold wV;by_cases h:cl s 32<s.length
 .rw[vS h,nM];by_cases t:cl (au s) 32<(au s).length
  .rw[BX t,vS t,nM];obtain⟨a,r,e⟩:=Iq (au (au s));rw[e,nM];cases fg (aC s)<;>cases fg (aC (au s))<;>cases fg a<;>cases eZ r<;>rfl
  .rw[vT t,nM,tv];cases fg (aC s)<;>cases fg (au s)<;>rfl
 .obtain⟨o,t,_⟩:=oa h;rw[vT h,nM,tv,t,Al];cases fg s<;>rfl
open Classical in
theorem Uo(s:ab):wW s=match eZ ((pieces 32 s).drop 1)with|some [m]=>(if bO (aC s)then some (Q2 (aC s) m)else none)|_=>none:=by
 unfold wW;by_cases h:cl s 32<s.length
 .rw[vS h];simp only[Cp,JH];by_cases h2:cl (au s) 32<(au s).length
  .rw[BX h2,vS h2,nM];obtain⟨a,r,e⟩:=Iq (au (au s));rw[e,nM];cases fg (aC (au s))<;>cases fg a<;>cases eZ r<;>rfl
  .rw[vT h2,nM,tv];cases fg (au s)<;>rfl
 .obtain⟨h1,h2,_⟩:=oa h;rw[vT h,h2,Al];simp only[Cp,JH,tv]
end Go.Ab
namespace Go.Ab
open Go
attribute [local irreducible] bI cf cw bW bA dk dT
variable{L:Lk}
set_option maxHeartbeats 4000000
abbrev mC:Bx:=.var 0 [.bM,.bM,.bM]
abbrev vG:Bx:=.var 0 [.bM,.bM,.bM,.bM,.bM,.bM]
abbrev lT(es:bJ):Bx:=pR es (.d .cq) (.d .cq)
abbrev kr(w:Pw):Nat×Nat:=(2*((w.bj.length+2)*1),920001)
abbrev Ts(w:Pw):Nat×Nat:=(2*((w.bj.length+2)*1),930001)
structure BhC(L:Lk):Prop extends FpC L where
 hp:aJ L 124 c124
 lp:xQ L
 split:∀s:ab,s.length<=1000000->CP L 33 [dS s,dS [32]] (.d (.sl (aR (pieces 32 s))))
 Ih:Rw L
 ev:DF L 203
set_option maxHeartbeats 40000000 in
theorem xN(c:aJ L 204 Xi)(C:BhC L):
  (∀(es:bJ)(_:es.length<=1000)(s:ab)(_:s.length<=1000000)(k:Nd)(_:kindOf (aC (au s))=some k)(_:¬cl (au s) 32<(au s).length)(_:bO (aC s)),CT L 204 [.ptr 0 0,dS s] 1 [lT es] [cD es.length] (dB true) 1 [lT (es++[gH (Cg (aC s) k bX)])] [cD (es.length+1)])/\
  (∀(es:bJ)(_:es.length<=1000)(s:ab)(_:s.length<=1000000)(k:Nd)(_:kindOf (aC (au s))=some k)(_:¬cl (au s) 32<(au s).length)(_:¬bO (aC s)),CT L 204 [.ptr 0 0,dS s] 1 [lT es] [cD es.length] (dB false) 1 [mC] [cD es.length])/\
  (∀(es:bJ)(_:es.length<=1000)(s:ab)(_:s.length<=1000000)(k:Nd)(_:kindOf (aC (au s))=some k)(_:cl (au s) 32<(au s).length)(v:Nd)(_:gG (au (au s))=some v)(_:bO (aC s)),CT L 204 [.ptr 0 0,dS s] 1 [lT es] [cD es.length] (dB true) 1 [lT (es++[gH (Cg (aC s) k v)])] [cD (es.length+1)])/\
  (∀(es:bJ)(_:es.length<=1000)(s:ab)(_:s.length<=1000000)(k:Nd)(_:kindOf (aC (au s))=some k)(_:cl (au s) 32<(au s).length)(v:Nd)(_:gG (au (au s))=some v)(_:¬bO (aC s)),CT L 204 [.ptr 0 0,dS s] 1 [lT es] [cD es.length] (dB false) 1 [mC] [cD es.length])/\
  (∀(es:bJ)(_:es.length<=1000)(s:ab)(_:s.length<=1000000)(k:Nd)(_:kindOf (aC (au s))=some k)(_:cl (au s) 32<(au s).length)(_:gG (au (au s))=none),CT L 204 [.ptr 0 0,dS s] 1 [lT es] [cD es.length] (dB false) 1 [mC] [cD es.length])/\
  (∀(es:bJ)(_:es.length<=1000)(s:ab)(_:s.length<=1000000)(_:kindOf (aC (au s))=none)(_:¬cl (au s) 32<(au s).length),CT L 204 [.ptr 0 0,dS s] 1 [lT es] [cD es.length] (dB false) 1 [mC] [cD es.length])/\
  (∀(es:bJ)(_:es.length<=1000)(s:ab)(_:s.length<=1000000)(_:kindOf (aC (au s))=none)(_:cl (au s) 32<(au s).length)(v:Nd)(_:gG (au (au s))=some v),CT L 204 [.ptr 0 0,dS s] 1 [lT es] [cD es.length] (dB false) 1 [mC] [cD es.length])/\
  (∀(es:bJ)(_:es.length<=1000)(s:ab)(_:s.length<=1000000)(_:kindOf (aC (au s))=none)(_:cl (au s) 32<(au s).length)(_:gG (au (au s))=none),CT L 204 [.ptr 0 0,dS s] 1 [lT es] [cD es.length] (dB false) 1 [mC] [cD es.length]):=by
 refine⟨fun es a s o k t e h=>?_,fun es a s o k t e h=>?_,fun es a s o k t e v i h=>?_,fun es a s o k t e v i h=>?_,fun es a s o k t e i=>?_,fun es a s o t e=>?_,fun es a s o t e v i=>?_,fun es a s o t e i=>?_⟩
 all_goals
  have m:=C.cut s o;have f:(au s).length<=1000000:=by have:=gT s;omega
  have r:=C.cut (au s) f;have b:(au (au s)).length<=1000000:=by have:=gT (au s);omega
  have u:=C.kind (aC (au s));rw[t]at u
  first|(rw[ig e]at r)|skip
  first|(have w:=(nR C.hp).2.2.2.2.1 es (aC s) k a)|skip
  first|(rw[iA e]at r)|skip
  first|(have p:=C.lp.y _ _ i)|skip
  first|(have d:=(nR C.hp).2.2.2.2.2.1 es (aC s) k v a)|skip
  first|(have l:=C.lp.n _ i)|skip
  clear t;clear e
  first|(clear i)|skip
  generalize aC (au s)=g at*;generalize au (au s)=j at*;generalize cl s 32=q at*;generalize aC s=x at*;generalize au s=y at*
 all_goals refine c.ct ?_
 repeat' ((conv=>whnf);first|contradiction|apply bp|refine bY ?_|refine ak m ?_|refine ak r ?_|refine ak (C.qR _) ?_|refine bA.dE 20001 rfl (bA.dE 1020003 rfl (az u [] [1,2] ?_))|refine az w [0] [0,1,2] ?_|refine bA.dE 20001 rfl (bA.dE 1220005 rfl (az p [] [3,4] ?_))|refine az d [0] [0,1,2,3,4] ?_|refine az l [] [] ?_|exact fx|exact xo|intro _)
theorem afA(a:aJ L 204 Xi)(C:BhC L)(es:bJ)(o:es.length<=1000)(s:ab)(i:s.length<=1000000):
  (∀n,qG fB s=some n->CT L 204 [.ptr 0 0,dS s] 1 [lT es] [cD es.length] (dB true) 1 [lT (es++[gH n])] [cD (es.length+1)])/\
  (qG fB s=none->CT L 204 [.ptr 0 0,dS s] 1 [lT es] [cD es.length] (dB false) 1 [mC] [cD es.length]):=by
 have u:∀b:ab,(aC b=b)↔¬cl b 32<b.length:=fun b=>by
  refine⟨fun h c=>?_,fun h=>(oa h).1⟩;have:=congrArg List.length h;simp[aC]at this;omega
 have m:∀p:Prop,(fB.mj=true\/p)↔p:=fun p=>⟨fun h=>h.resolve_left de,.inr⟩
 unfold qG;cases r:kindOf (aC (au s))with
 |none=>
  refine⟨fun n h=>(by cases h),fun _=>?_⟩;by_cases e:cl (au s) 32<(au s).length
  .cases d:gG (au (au s))with
   |some v=>exact(xN a C).2.2.2.2.2.2.1 es o s i r e v d
   |none=>exact(xN a C).2.2.2.2.2.2.2 es o s i r e d
  .exact(xN a C).2.2.2.2.2.1 es o s i r e
 |some k=>
  simp only[m];by_cases e:cl (au s) 32<(au s).length
  .have l:¬aC (au s)=au s:=fun h=>(u _).1 h e
   cases d:gG (au (au s))with
   |some v=>
    by_cases t:bO (aC s)
    .simp only[t,not_true_eq_false,if_false,l];exact⟨fun n h=>by cases h;exact(xN a C).2.2.1 es o s i k r e v d t,fun h=>by cases h⟩
    .simp only[t,not_false_eq_true];exact⟨fun n h=>(by cases h),fun _=>(xN a C).2.2.2.1 es o s i k r e v d t⟩
   |none=>
    refine⟨fun n h=>?_,fun _=>(xN a C).2.2.2.2.1 es o s i k r e d⟩;by_cases t:bO (aC s)
    .simp only[t,not_true_eq_false,if_false,l]at h;cases h
    .simp only[t,not_false_eq_true]at h;cases h
  .have l:aC (au s)=au s:=(u _).2 e;by_cases t:bO (aC s)
   .simp only[t,not_true_eq_false,l,if_true];exact⟨fun n h=>by cases h;exact(xN a C).1 es o s i k r e t,fun h=>by cases h⟩
   .simp only[t,not_false_eq_true];exact⟨fun n h=>(by cases h),fun _=>(xN a C).2.1 es o s i k r e t⟩
abbrev abT(j:Nat)(nm:ab)(t:List Fs)(op:Option (Nd×Option Nd))(e:Nd)(a:List Ft)(o:ab):Bx:=
 .var 0 [dS nm,stA j t op,dI e.sort,dI e.num,dS e.text,.aO (aR e.names) (.fe (j+1)),.aO (e.kids.map cT) (.fe (j+2)),.aO (a.map qN) (.fe (j+3)),dS o]
abbrev tI(es:bJ):Bx:=pR es (.ptr 1 0) (.d .cq)
theorem ady(x y:Int)(r:List Int):(fU (x::y::r)).length=r.length+2:=by simp[fU]
theorem Kh(s:ab):aC ([102,111,108,100,32]++s)=kc/\au ([102,111,108,100,32]++s)=s/\cl ([102,111,108,100,32]++s) 32<([102,111,108,100,32]++s).length:=by
 have h:cl ([102,111,108,100,32]++s) 32=4:=by simp[cl]
 exact⟨by unfold aC;rw[h];rfl,by unfold au;rw[h];rfl,by rw[h];simp⟩
set_option maxHeartbeats 40000000 in
theorem E8(hf:aJ L 125 Na)(C:BhC L):
  (∀(es:bJ)(_:es.length<=1000)(s:ab)(_:s.length<=1000000)(_:(pieces 32 s).length<=1000000)(x y:Int)(r:List Int)(_:eZ (pieces 32 s)=some (x::y::r)),CT L 125 [.ptr 0 0,dS [112,111,119,101,114],dS s] 1 [lT es] [cD es.length] (dB true) 2 [tI es,sd ⟨0,[],true,x,y,r⟩ 1] [cD es.length,kr ⟨0,[],true,x,y,r⟩])/\
  (∀(es:bJ)(_:es.length<=1000)(s:ab)(_:s.length<=1000000)(_:(pieces 32 s).length<=1000000)(l:List Int)(_:eZ (pieces 32 s)=some l)(_:l.length<2),CT L 125 [.ptr 0 0,dS [112,111,119,101,114],dS s] 1 [lT es] [cD es.length] (dB false) 1 [mC] [cD es.length])/\
  (∀(es:bJ)(_:es.length<=1000)(s:ab)(_:s.length<=1000000)(_:(pieces 32 s).length<=1000000)(_:eZ (pieces 32 s)=none),CT L 125 [.ptr 0 0,dS [112,111,119,101,114],dS s] 1 [lT es] [cD es.length] (dB false) 1 [mC] [cD es.length])/\
  (∀(es:bJ)(_:es.length<=1000)(s:ab)(_:s.length<=1000000)(e:Ev)(_:ic (au s)=some e)(_:bO (aC s)),CT L 125 [.ptr 0 0,dS [97,112,112,101,110,100],dS s] 1 [lT es] [cD es.length] (dB true) 1 [pR (es++[gH ⟨1,aC s,e,0,0,[],bX,bX,qS,fB⟩]) (.d .cq) (.d .cq)] [cD (es.length+1)])/\
  (∀(es:bJ)(_:es.length<=1000)(s:ab)(_:s.length<=1000000)(e:Ev)(_:ic (au s)=some e)(_:¬bO (aC s)),CT L 125 [.ptr 0 0,dS [97,112,112,101,110,100],dS s] 1 [lT es] [cD es.length] (dB false) 1 [mC] [cD es.length])/\
  (∀(es:bJ)(_:es.length<=1000)(s:ab)(_:s.length<=1000000)(_:ic (au s)=none),CT L 125 [.ptr 0 0,dS [97,112,112,101,110,100],dS s] 1 [lT es] [cD es.length] (dB false) 1 [mC] [cD es.length])/\
  (∀(es:bJ)(_:es.length<=1000)(s:ab)(_:s.length<=1000000)(_:(pieces 32 s).length<=1000000)(x y:Int)(_:eZ (pieces 32 s)=some [x,y]),CT L 125 [.ptr 0 0,dS [114,101,119,114,105,116,101],dS s] 1 [lT es] [cD es.length] (dB true) 1 [pR (es++[gH ⟨5,[],pV,x,y,[],bX,bX,qS,fB⟩]) (.d .cq) (.d .cq)] [cD (es.length+1)])/\
  (∀(es:bJ)(_:es.length<=1000)(s:ab)(_:s.length<=1000000)(_:(pieces 32 s).length<=1000000)(l:List Int)(_:eZ (pieces 32 s)=some l)(_:l.length≠2),CT L 125 [.ptr 0 0,dS [114,101,119,114,105,116,101],dS s] 1 [lT es] [cD es.length] (dB false) 1 [mC] [cD es.length])/\
  (∀(es:bJ)(_:es.length<=1000)(s:ab)(_:s.length<=1000000)(_:(pieces 32 s).length<=1000000)(_:eZ (pieces 32 s)=none),CT L 125 [.ptr 0 0,dS [114,101,119,114,105,116,101],dS s] 1 [lT es] [cD es.length] (dB false) 1 [mC] [cD es.length])/\
  (∀(es:bJ)(_:es.length<=1000)(s:ab)(_:s.length<=1000000)(_:(pieces 32 s).length<=1000000)(r:List ab)(_:pieces 32 s=aC s::r)(_:r≠[])(m:Int)(_:eZ r=some [m])(_:bO (aC s)),CT L 125 [.ptr 0 0,dS [115,110,97,112],dS s] 1 [lT es] [cD es.length] (dB true) 1 [pR (es++[gH ⟨8,[],pV,0,m,aC s,bX,bX,qS,fB⟩]) (.d .cq) (.d .cq)] [cD (es.length+1)])/\
  (∀(es:bJ)(_:es.length<=1000)(s:ab)(_:s.length<=1000000)(_:(pieces 32 s).length<=1000000)(r:List ab)(_:pieces 32 s=aC s::r)(_:r≠[])(m:Int)(_:eZ r=some [m])(_:¬bO (aC s)),CT L 125 [.ptr 0 0,dS [115,110,97,112],dS s] 1 [lT es] [cD es.length] (dB false) 1 [mC] [cD es.length])/\
  (∀(es:bJ)(_:es.length<=1000)(s:ab)(_:s.length<=1000000)(_:(pieces 32 s).length<=1000000)(r:List ab)(_:pieces 32 s=aC s::r)(_:r≠[])(l:List Int)(_:eZ r=some l)(_:l.length≠1),CT L 125 [.ptr 0 0,dS [115,110,97,112],dS s] 1 [lT es] [cD es.length] (dB false) 1 [mC] [cD es.length])/\
  (∀(es:bJ)(_:es.length<=1000)(s:ab)(_:s.length<=1000000)(_:(pieces 32 s).length<=1000000)(r:List ab)(_:pieces 32 s=aC s::r)(_:eZ r=none),CT L 125 [.ptr 0 0,dS [115,110,97,112],dS s] 1 [lT es] [cD es.length] (dB false) 1 [mC] [cD es.length])/\
  (∀(es:bJ)(_:es.length<=1000)(s:ab)(_:s.length<=1000000)(_:pieces 32 s=[aC s]),CT L 125 [.ptr 0 0,dS [115,110,97,112],dS s] 1 [lT es] [cD es.length] (dB false) 1 [mC] [cD es.length])/\
  (∀(es:bJ)(_:es.length<=1000)(s:ab)(_:s.length<=1000000)(a:ab)(_:a≠[112,111,119,101,114])(_:a≠[97,112,112,101,110,100])(_:a≠[114,101,119,114,105,116,101])(_:a≠[115,110,97,112])(_:a≠[118,101,114,115,105,111,110])(_:a≠[102,111,108,100]),CT L 125 [.ptr 0 0,dS a,dS s] 1 [lT es] [cD es.length] (dB false) 1 [mC] [cD es.length])/\
  (∀(es:bJ)(w:Pw)(_:es.length<=1000)(s:ab)(_:s.length<=1000000)(e:Ev)(_:ic (au s)=some e)(_:bO (aC s)),CT L 125 [.ptr 0 0,dS [97,112,112,101,110,100],dS s] 2 [tI es,sd w 1] [cD es.length,kr w] (dB true) 2 [pR (es++[gH ⟨1,aC s,e,0,0,[],bX,bX,qS,w⟩]) (.d .cq) (.d .cq),vG] [cD (es.length+1),Ts w])/\
  (∀(es:bJ)(w:Pw)(_:es.length<=1000)(s:ab)(_:s.length<=1000000)(e:Ev)(_:ic (au s)=some e)(_:¬bO (aC s)),CT L 125 [.ptr 0 0,dS [97,112,112,101,110,100],dS s] 2 [tI es,sd w 1] [cD es.length,kr w] (dB false) 2 [mC,vG] [cD es.length,kr w])/\
  (∀(es:bJ)(w:Pw)(_:es.length<=1000)(s:ab)(_:s.length<=1000000)(_:ic (au s)=none),CT L 125 [.ptr 0 0,dS [97,112,112,101,110,100],dS s] 2 [tI es,sd w 1] [cD es.length,kr w] (dB false) 2 [mC,vG] [cD es.length,kr w])/\
  (∀(es:bJ)(w:Pw)(_:es.length<=1000)(s:ab)(_:s.length<=1000000)(_:(pieces 32 s).length<=1000000)(x y:Int)(_:eZ (pieces 32 s)=some [x,y]),CT L 125 [.ptr 0 0,dS [114,101,119,114,105,116,101],dS s] 2 [tI es,sd w 1] [cD es.length,kr w] (dB true) 2 [pR (es++[gH ⟨5,[],pV,x,y,[],bX,bX,qS,w⟩]) (.d .cq) (.d .cq),vG] [cD (es.length+1),Ts w])/\
  (∀(es:bJ)(w:Pw)(_:es.length<=1000)(s:ab)(_:s.length<=1000000)(_:(pieces 32 s).length<=1000000)(l:List Int)(_:eZ (pieces 32 s)=some l)(_:l.length≠2),CT L 125 [.ptr 0 0,dS [114,101,119,114,105,116,101],dS s] 2 [tI es,sd w 1] [cD es.length,kr w] (dB false) 2 [mC,vG] [cD es.length,kr w])/\
  (∀(es:bJ)(w:Pw)(_:es.length<=1000)(s:ab)(_:s.length<=1000000)(_:(pieces 32 s).length<=1000000)(_:eZ (pieces 32 s)=none),CT L 125 [.ptr 0 0,dS [114,101,119,114,105,116,101],dS s] 2 [tI es,sd w 1] [cD es.length,kr w] (dB false) 2 [mC,vG] [cD es.length,kr w])/\
  (∀(es:bJ)(w:Pw)(_:es.length<=1000)(s:ab)(_:s.length<=1000000)(_:(pieces 32 s).length<=1000000)(r:List ab)(_:pieces 32 s=aC s::r)(_:r≠[])(m:Int)(_:eZ r=some [m])(_:bO (aC s)),CT L 125 [.ptr 0 0,dS [115,110,97,112],dS s] 2 [tI es,sd w 1] [cD es.length,kr w] (dB true) 2 [pR (es++[gH ⟨8,[],pV,0,m,aC s,bX,bX,qS,w⟩]) (.d .cq) (.d .cq),vG] [cD (es.length+1),Ts w])/\
  (∀(es:bJ)(w:Pw)(_:es.length<=1000)(s:ab)(_:s.length<=1000000)(_:(pieces 32 s).length<=1000000)(r:List ab)(_:pieces 32 s=aC s::r)(_:r≠[])(m:Int)(_:eZ r=some [m])(_:¬bO (aC s)),CT L 125 [.ptr 0 0,dS [115,110,97,112],dS s] 2 [tI es,sd w 1] [cD es.length,kr w] (dB false) 2 [mC,vG] [cD es.length,kr w])/\
  (∀(es:bJ)(w:Pw)(_:es.length<=1000)(s:ab)(_:s.length<=1000000)(_:(pieces 32 s).length<=1000000)(r:List ab)(_:pieces 32 s=aC s::r)(_:r≠[])(l:List Int)(_:eZ r=some l)(_:l.length≠1),CT L 125 [.ptr 0 0,dS [115,110,97,112],dS s] 2 [tI es,sd w 1] [cD es.length,kr w] (dB false) 2 [mC,vG] [cD es.length,kr w])/\
  (∀(es:bJ)(w:Pw)(_:es.length<=1000)(s:ab)(_:s.length<=1000000)(_:(pieces 32 s).length<=1000000)(r:List ab)(_:pieces 32 s=aC s::r)(_:eZ r=none),CT L 125 [.ptr 0 0,dS [115,110,97,112],dS s] 2 [tI es,sd w 1] [cD es.length,kr w] (dB false) 2 [mC,vG] [cD es.length,kr w])/\
  (∀(es:bJ)(w:Pw)(_:es.length<=1000)(s:ab)(_:s.length<=1000000)(_:pieces 32 s=[aC s]),CT L 125 [.ptr 0 0,dS [115,110,97,112],dS s] 2 [tI es,sd w 1] [cD es.length,kr w] (dB false) 2 [mC,vG] [cD es.length,kr w])/\
  (∀(es:bJ)(w:Pw)(_:es.length<=1000)(s:ab)(_:s.length<=1000000)(a:ab)(_:a≠[112,111,119,101,114])(_:a≠[97,112,112,101,110,100])(_:a≠[114,101,119,114,105,116,101])(_:a≠[115,110,97,112])(_:a≠[118,101,114,115,105,111,110])(_:a≠[102,111,108,100]),CT L 125 [.ptr 0 0,dS a,dS s] 2 [tI es,sd w 1] [cD es.length,kr w] (dB false) 2 [mC,vG] [cD es.length,kr w]):=by
 refine⟨fun es u s f o x y r t=>?_,fun es u s f o l t k=>?_,fun es u s f o t=>?_,fun es u s f e p v=>?_,fun es u s f e p v=>?_,fun es u s f p=>?_,fun es u s f o x y t=>?_,fun es u s f o l t k=>?_,fun es u s f o t=>?_,fun es u s f o r hp b m t v=>?_,fun es u s f o r hp b m t v=>?_,fun es u s f o r hp b l t k=>?_,fun es u s f o r hp t=>?_,fun es u s f hp=>?_,fun es u s f a n0 N S H R D=>?_,fun es w u s f e p v=>?_,fun es w u s f e p v=>?_,fun es w u s f p=>?_,fun es w u s f o x y t=>?_,fun es w u s f o l t k=>?_,fun es w u s f o t=>?_,fun es w u s f o r hp b m t v=>?_,fun es w u s f o r hp b m t v=>?_,fun es w u s f o r hp b l t k=>?_,fun es w u s f o r hp t=>?_,fun es w u s f hp=>?_,fun es w u s f a n0 N S H R D=>?_⟩
 all_goals
  have h0:=C.split s f;have hb:(au s).length<=1000000:=by have:=gT s;omega
  first|(have j:∀w∈pieces 32 s,w.length<=1000000:=fun w U=>by have:=tB (c:=32) (s:=s) w U;omega)|skip
  first|(have q:pieces 32 s≠[]:=fun h=>by have:=(ld 32 s).1;rw[h]at this;simp at this)|skip
  first|(have v:=C.Ih.y (pieces 32 s) (x::y::r) o j q t)|skip
  first|(have M:=ady x y r)|skip
  first|(have E:=C.Ih.y (pieces 32 s) l o j q t)|skip
  first|(have ee:(fU l).length=l.length:=by simp[fU])|skip
  first|(have F:=C.Ih.n (pieces 32 s) o j t)|skip
  first|(have hc:=C.cut s f)|skip
  first|(have Y:=C.ev (au s) hb)|skip
  first|(rw[p]at Y)|skip
  first|(have hh:=(nR C.hp).2.2.1 es (aC s) e u)|skip
  first|(have T:=C.Ih.y (pieces 32 s) [x,y] o j q t)|skip
  first|(have et:=ady x y [])|skip
  first|(have P:=(nR C.hp).1 es 5 [] x y [] u)|skip
  first|(have g:∀w∈r,w.length<=1000000:=fun w U=>by have:=tB (c:=32) (s:=s) w (by rw[hp];exact iS _ U);omega)|skip
  first|(have z:r.length<=1000000:=by rw[hp]at o;simp at o;omega)|skip
  first|(rw[hp]at h0)|skip
  first|(have ed:((aR (aC s::r)).take (((aR (aC s::r)).length:Nat):Int).toNat).drop (Int.toNat 1)=aR r:=by rw[qo,nz (aQ _)];rfl)|skip
  first|(have V:(aR (aC s::r)).length=r.length+1:=by simp[aR])|skip
  first|(have hm:=C.Ih.y r [m] z g b t)|skip
  first|(have B:=(nR C.hp).1 es 8 [] 0 m (aC s) u)|skip
  first|(have A:=C.Ih.y r l z g b t)|skip
  first|(have G:=C.Ih.n r z g t)|skip
  first|(have K:((aR (aC s::([]:List ab))).take (((aR (aC s::([]:List ab))).length:Nat):Int).toNat).drop (Int.toNat 1)=aR ([]:List ab):=by rw[qo,nz (aQ _)];rfl)|skip
  first|(have O:(aR (aC s::([]:List ab))).length=([]:List ab).length+1:=by simp[aR])|skip
  first|(have J:=C.Ih.e)|skip
  first|(have Q:=(nR C.hp).2.2.2.1 es w (aC s) e u)|skip
  first|(have X:=(nR C.hp).2.1 es w 5 [] x y [] u)|skip
  first|(have Z:=(nR C.hp).2.1 es w 8 [] 0 m (aC s) u)|skip
  first|(clear hp o)|skip
  first|(clear t)|skip
  first|(clear p)|skip
  first|(clear hp)|skip
  first|(generalize pieces 32 s=ws at*)|skip
  first|(generalize aC s=x at*)|skip
  first|(generalize au s=y at*)|skip
 all_goals refine hf.ct ?_
 repeat' ((conv=>whnf);first|contradiction|exact xo|refine Em (i:=0) si ?_|refine Em (i:=1) si ?_|refine ad ⟨by rw[M];omega,by intro x I;obtain⟨n,_,rfl⟩:=lH.1 I;rfl⟩ ?_|refine ad ⟨by omega,by rw[V];omega,by omega,by intro x I;obtain⟨n,_,rfl⟩:=lH.1 I;rfl⟩ ?_|rw[ed]|refine oG (xs:=x::r) (i:=0) si ?_|refine ad ⟨by omega,by rw[O];omega,by omega,by intro x I;obtain⟨n,_,rfl⟩:=lH.1 I;rfl⟩ ?_|rw[K]|apply aq|apply aD|apply aH|apply bp|apply aM|refine bY ?_|refine ak h0 ?_|refine ak (C.qR _) ?_|refine bA.dE 920001 rfl (az v [] [1] ?_)|refine bA.dE 920001 rfl (az E [] [1] ?_)|refine ak F ?_|refine ak hc ?_|refine bA.dE 20001 rfl (bA.dE 1120005 rfl (az Y [] [1,2] ?_))|refine az hh [0] [0,1,2] ?_|refine bA.dE 920001 rfl (az T [] [1] ?_)|refine az P [0] [0] ?_|refine bA.dE 920001 rfl (az hm [] [1] ?_)|refine az B [0] [0] ?_|refine bA.dE 920001 rfl (az A [] [1] ?_)|refine ak G ?_|refine ak J ?_|refine bA.dE 20001 rfl (bA.dE 1120005 rfl (az Y [] [2,3] ?_))|refine az Q [0,1] [0,1,2,3] ?_|refine bA.dE 920001 rfl (az T [] [2] ?_)|refine az X [0,1] [0,1] ?_|refine bA.dE 920001 rfl (az E [] [2] ?_)|refine bA.dE 920001 rfl (az hm [] [2] ?_)|refine az Z [0,1] [0,1] ?_|refine bA.dE 920001 rfl (az A [] [2] ?_)|(apply dt<;>(repeat' first|(show _=_;simp[fU];done)|exact sx|apply And.intro);done)|intro _)
theorem Xe(e:aJ L 125 Na)(C:BhC L)(es:bJ)(n:es.length<=1000)(s:ab)(t:s.length<=1000000)(b:Bool)(B:Bx)(q:Nat×Nat)(a:CT L 204 [.ptr 0 0,dS s] 1 [lT es] [cD es.length] (dB b) 1 [B] [q])(o:wY 1 1 [B] [B]):
  CT L 125 [.ptr 0 0,dS [118,101,114,115,105,111,110],dS s] 1 [lT es] [cD es.length] (dB b) 1 [B] [q]:=by
 have i:=C.split s t;have h:(au s).length<=1000000:=by have:=gT s;omega
 refine e.ct ?_
 repeat' ((conv=>whnf);first|refine ak i ?_|refine iv a ?_|(refine dt ?_ ?_ ?_ ?_<;>first|exact o|exact rfl|exact nX _|exact trivial)|(apply dt<;>(repeat' first|exact Lu _|exact pJ si rfl|(show _=_;simp[fU];done)|exact sx|apply And.intro);done)|exact xo|fail)
theorem abx(a:aJ L 125 Na)(C:BhC L)(o:aJ L 121 M9)(es:bJ)(c:es.length<=1000)(s:ab)(m:s.length<=999990)(i:bO s):
  CT L 125 [.ptr 0 0,dS [102,111,108,100],dS s] 1 [lT es] [cD es.length] (dB true) 2 [pR es (.d .cq) (.ptr 1 0),abT 1 s [] none bX [] kc] [cD es.length,(0,620013),(0,20001),(0,1120005),(0,820006)]:=by
 have n:=C.split s om;have f:(au s).length<=1000000:=by have:=gT s;omega
 obtain⟨h,r,l⟩:=Kh s;have u:([102,111,108,100,32]++s).length=s.length+5:=by simp
 have e:=(C2 o C.toFpC).1 [] [] [] ([102,111,108,100,32]++s) om (cr _) (cr _) l h;rw[r]at e;have t:CT L 121 [.ptr 0 0,dS ([102,111,108,100,32]++s)] 1 [.var 0 [dS [],rX,d0,d0,ds,rX,rX,rX,dS []]] [(0,620013),(0,20001),(0,1120005),(0,820006)] (dB (pb (bO s))) 1 [lP s [] none bX [] kc] [(0,620013),(0,20001),(0,1120005),(0,820006)]:=CT.QJ (cg:=[lP [] [] none bX [] []]) tE e;clear e;rw[iA i]at t;refine a.ct ?_
 repeat' ((conv=>whnf);first|refine ad (by simp only[aZ,bc];omega) ?_|refine ak n ?_|refine bA.dE 620013 rfl (bA.dE 20001 rfl (bA.dE 1120005 rfl (bA.dE 820006 rfl (az t [1] [1,2,3,4] ?_))))|(apply dt<;>(repeat' first|(show _=_;simp[fU];done)|exact sx|apply And.intro);done)|exact xo|fail)
theorem abw(a:aJ L 125 Na)(C:BhC L)(o:aJ L 121 M9)(es:bJ)(u:es.length<=1000)(s:ab)(c:s.length<=999990)(i:¬bO s):
  CT L 125 [.ptr 0 0,dS [102,111,108,100],dS s] 1 [lT es] [cD es.length] (dB false) 1 [mC] [cD es.length]:=by
 have n:=C.split s om;have m:(au s).length<=1000000:=by have:=gT s;omega
 obtain⟨h,r,d⟩:=Kh s;have l:([102,111,108,100,32]++s).length=s.length+5:=by simp
 have e:=(C2 o C.toFpC).1 [] [] [] ([102,111,108,100,32]++s) om (cr _) (cr _) d h;rw[r]at e;have t:CT L 121 [.ptr 0 0,dS ([102,111,108,100,32]++s)] 1 [.var 0 [dS [],rX,d0,d0,ds,rX,rX,rX,dS []]] [(0,620013),(0,20001),(0,1120005),(0,820006)] (dB (pb (bO s))) 1 [lP s [] none bX [] kc] [(0,620013),(0,20001),(0,1120005),(0,820006)]:=CT.QJ (cg:=[lP [] [] none bX [] []]) tE e;clear e;rw[ig i]at t;refine a.ct ?_
 repeat' ((conv=>whnf);first|refine ad (by simp only[aZ,bc];omega) ?_|refine ak n ?_|refine bA.dE 620013 rfl (bA.dE 20001 rfl (bA.dE 1120005 rfl (bA.dE 820006 rfl (az t [1] [1,2,3,4] ?_))))|(apply dt<;>(repeat' first|(show _=_;simp[fU];done)|exact sx|apply And.intro);done)|exact xo|fail)
theorem H7(i:aJ L 197 RT)(nm:ab)(e:List Fs)(op:Option (Nd×Option Nd))(t:Nd)(a:List Ft)(o:ab):
  CT L 197 [.ptr 0 0] 1 [lP nm e op t a o] (kv e op t a) (dB (pb (o=mL\/o=xr))) 1 [lP nm e op t a o] (kv e op t a):=by
 refine i.ct ?_
 repeat' ((conv=>whnf);first|apply aH|intro _)
 all_goals(conv=>whnf)
 all_goals rcases op with _|⟨k,_|v⟩
 all_goals(apply dt<;>(repeat' first|(refine congrArg DV.bool (AJ.2 ?_);rw[sW,mo];exact⟨.inr,fun h=>h.resolve_left asm⟩)|(refine congrArg DV.bool (AJ.2 ?_);rw[mo];exact⟨fun _=> .inl asm,fun _=>rfl⟩)|exact sx|apply And.intro);done)
abbrev Lm(es:bJ)(f:Fr):List Bx:=[pR es (.d .cq) (.ptr 1 0),abT 1 f.name f.ba f.op f.start f.steps (wA f.gU)]
abbrev TL(es:bJ)(f:Fr):bm:=cD es.length::pfR f
theorem ajW(r:aJ L 120 Xh)(C:BhC L)(d:aJ L 197 RT)(es:bJ)(l:es.length<=1000)(nm:ab)(e:List Fs)(k o:Nd)(t:List Ft)(a:Int)(i:a=5\/a=6)(p:e.length<=3)(v:t.length<=8):
  ∃u c m f,CT L 120 [.ptr 0 0] 2 (Lm es ⟨nm,e,some (k,none),o,t,a⟩) (TL es ⟨nm,e,some (k,none),o,t,a⟩) (dB true) 2 [lT (es++[gH (vK ⟨nm,e,some (k,none),o,t,a⟩)]),BS] [cD (es.length+1),u,c,m,f]:=by
 have h:=H7 d nm e (some (k,none)) o t (wA a);have w:wA a=mL\/wA a=xr:=by rcases i with rfl|rfl;exact .inl rfl;exact .inr rfl
 rw[iA w]at h;have y:=(nR C.hp).2.2.2.2.2.2 es nm e k o t a l;have n:(e.map qh).length=e.length:=by simp
 have s:(t.map qN).length=t.length:=by simp
 refine⟨(2*((e.length+1)*13),630013),(2*(o.names.length*1),30001),(2*(o.kids.length*5),1130005),(2*(t.length*6),830006),?_⟩;refine r.ct ?_
 repeat' ((conv=>whnf);first|exact xo|rw[n];intro _|rw[s];intro _|apply aq|refine az h [1] [1,2,3,4] ?_|refine az y [0] [0,1,2,3,4] ?_|exact fz|intro _)
theorem ajV(w:aJ L 120 Xh)(y:aJ L 197 RT)(es:bJ)(f:Fr)(e:¬((wA f.gU=mL\/wA f.gU=xr)/\f.ba.length+f.last.length<=4/\f.steps.length<=8))(s:f.ba.length<=1000000)(r:f.steps.length<=1000000):
  CT L 120 [.ptr 0 0] 2 (Lm es f) (TL es f) (dB false) 2 [mC,BS] (TL es f):=by
 obtain⟨d,ba,o,l,t,i⟩:=f;have n:=H7 y d ba o l t (wA i);have u:(ba.map qh).length=ba.length:=by simp
 have c:(t.map qN).length=t.length:=by simp
 simp only at e s r;have m:∀p:Prop,p->¬(p/\ba.length+(Fr.last ⟨d,ba,o,l,t,i⟩).length<=4/\t.length<=8)->¬(ba.length+(Fr.last ⟨d,ba,o,l,t,i⟩).length<=4/\t.length<=8):=fun p a h q=>h ⟨a,q⟩
 by_cases a:wA i=mL\/wA i=xr
 .have e:=m _ a e;clear m;rw[iA a]at n;clear a;rcases o with _|⟨k,_|v⟩
  all_goals
   have e:¬(_/\_):=e;simp only[Fr.last,bc,aZ]at e;refine w.ct ?_
  all_goals skip
  repeat' ((conv=>whnf);first|exact xo|rw[u];intro _|rw[c];intro _|apply aq|refine az n [1] [1,2,3,4] ?_|exact fz|intro _)
 .rw[ig a]at n;clear m e a;rcases o with _|⟨k,_|v⟩
  all_goals refine w.ct ?_
  all_goals skip
  repeat' ((conv=>whnf);first|refine az n [1] [1,2,3,4] ?_|exact fz|fail)

def uj:List ab:=[[97,112,112,101,110,100],[115,121,110,99],[114,111,108,108],[109,101,110,100],[114,101,119,114,105,116,101],[118,101,114,115,105,111,110],[102,111,108,100],[115,110,97,112]]
def Ke:List DV:=uj.map .str
theorem UX:chunks 1 8 Ke=aR uj:=rfl
variable{i:Nat}{bz:bm}
theorem Fm:∀(l:List ab)(w x:ab)(i:Nat),firstIdx l w=i->l[i]?=some x->w=x
 |[],w,x,i,h,t=>by simp at t
 |y::r,w,x,i,h,t=>by
  unfold firstIdx at h;split at h
  .rename_i e;subst h;simp at t;rw[<-e,t]
  .subst h;exact Fm r w x _ rfl (by simpa using t)
theorem P9{l:List ab}{w x:ab}(h:yI l w=(i:Int))(e:l[i]?=some x:=by rfl):w=x:=by
 unfold yI at h;split at h
 .exact Fm l w x i om e
 .omega
structure RdC(L:Lk):Prop extends BhC L where
 g0:L.gl 0=Ke
 ix:∀(l:List ab)(w:ab),CP L 123 [.d (.sl (aR l)),dS w] (dI (yI l w))
theorem Px(l:List ab)(w:ab): -1<=yI l w/\yI l w<=l.length:=by
 unfold yI;split<;>omega
theorem jF(i:aJ L 34 RU)(C:RdC L)(es:bJ)(s:ab)(n:s.length<=1000000)(u:es.length<200)(e:cl s 32<s.length)(b:Bool){fA:Nat}{cg:List Bx}(h:CT L 125 [.ptr 0 0,dS (aC s),dS (au s)] 1 [lT es] [cD es.length] (dB b) fA cg bz)(t:fA=cg.length)(r:1<=fA)(d:1<=bz.length)(a:kK (Wg fA bz.length) cg=true):
  CT L 34 [.ptr 0 0,dS s] 1 [lT es] [cD es.length] (dB b) fA cg bz:=by
 have o:=C.cut s n;have l:=C.ix uj (aC s);rw[iA e]at o;generalize aC s=x at*;generalize au s=y at*;refine CT.enter i rfl r d ?_
 repeat' ((conv=>whnf);first|exact xo|apply aD|refine ak o ?_|refine iv h ?_|(apply dt<;>(repeat' first|exact qU a|exact nX _|exact t|exact sz|apply And.intro);done)|intro _)
theorem nY(i:aJ L 34 RU)(C:RdC L)(es:bJ)(w:Pw)(s:ab)(n:s.length<=1000000)(u:es.length<200)(e:cl s 32<s.length)(c:aC s≠[112,111,119,101,114])(m:aC s≠[118,101,114,115,105,111,110])(f:aC s≠[102,111,108,100])(b:Bool){fA:Nat}{cg:List Bx}(h:CT L 125 [.ptr 0 0,dS (aC s),dS (au s)] 2 [tI es,sd w 1] [cD es.length,kr w] (dB b) fA cg bz)(t:fA=cg.length)(r:2<=fA)(d:2<=bz.length)(a:kK (Wg fA bz.length) cg=true):
  CT L 34 [.ptr 0 0,dS s] 2 [tI es,sd w 1] [cD es.length,kr w] (dB b) fA cg bz:=by
 have o:=C.cut s n;have l:=C.ix uj (aC s);rw[iA e]at o;generalize aC s=x at*;generalize au s=y at*;refine CT.enter i rfl r d ?_
 repeat' ((conv=>whnf);first|exact xc|apply aD|apply aH|refine ak o ?_|refine iv h ?_|(apply dt<;>(repeat' first|exact qU a|exact nX _|exact t|exact sz|apply And.intro);done)|intro _)
set_option maxHeartbeats 40000000 in
theorem C6(S:aJ L 34 RU)(C:RdC L):
  (∀(es:bJ)(s:ab)(_:s.length<=1000000)(_:es.length=200),CT L 34 [.ptr 0 0,dS s] 1 [lT es] [cD es.length] (dB false) 1 [mC] [cD es.length])/\
  (∀(es:bJ)(_:es.length<200),CT L 34 [.ptr 0 0,dS [115,121,110,99]] 1 [lT es] [cD es.length] (dB true) 1 [pR (es++[gH ⟨2,[],pV,0,0,[],bX,bX,qS,fB⟩]) (.d .cq) (.d .cq)] [cD (es.length+1)])/\
  (∀(es:bJ)(_:es.length<200),CT L 34 [.ptr 0 0,dS [114,111,108,108]] 1 [lT es] [cD es.length] (dB true) 1 [pR (es++[gH ⟨3,[],pV,0,0,[],bX,bX,qS,fB⟩]) (.d .cq) (.d .cq)] [cD (es.length+1)])/\
  (∀(es:bJ)(_:es.length<200),CT L 34 [.ptr 0 0,dS [109,101,110,100]] 1 [lT es] [cD es.length] (dB true) 1 [pR (es++[gH ⟨4,[],pV,0,0,[],bX,bX,qS,fB⟩]) (.d .cq) (.d .cq)] [cD (es.length+1)])/\
  (∀(es:bJ)(s:ab)(_:s.length<=1000000)(_:es.length<200)(_:¬cl s 32<s.length)(_:s≠[115,121,110,99])(_:s≠[114,111,108,108])(_:s≠[109,101,110,100]),CT L 34 [.ptr 0 0,dS s] 1 [lT es] [cD es.length] (dB false) 1 [mC] [cD es.length])/\
  (∀(es:bJ)(w:Pw)(s:ab)(_:s.length<=1000000)(_:es.length=200),CT L 34 [.ptr 0 0,dS s] 2 [tI es,sd w 1] [cD es.length,kr w] (dB false) 2 [mC,vG] [cD es.length,kr w])/\
  (∀(es:bJ)(w:Pw)(_:es.length<200),CT L 34 [.ptr 0 0,dS [115,121,110,99]] 2 [tI es,sd w 1] [cD es.length,kr w] (dB true) 2 [pR (es++[gH ⟨2,[],pV,0,0,[],bX,bX,qS,w⟩]) (.d .cq) (.d .cq),vG] [cD (es.length+1),Ts w])/\
  (∀(es:bJ)(w:Pw)(_:es.length<200),CT L 34 [.ptr 0 0,dS [114,111,108,108]] 2 [tI es,sd w 1] [cD es.length,kr w] (dB true) 2 [pR (es++[gH ⟨3,[],pV,0,0,[],bX,bX,qS,w⟩]) (.d .cq) (.d .cq),vG] [cD (es.length+1),Ts w])/\
  (∀(es:bJ)(w:Pw)(_:es.length<200),CT L 34 [.ptr 0 0,dS [109,101,110,100]] 2 [tI es,sd w 1] [cD es.length,kr w] (dB true) 2 [pR (es++[gH ⟨4,[],pV,0,0,[],bX,bX,qS,w⟩]) (.d .cq) (.d .cq),vG] [cD (es.length+1),Ts w])/\
  (∀(es:bJ)(w:Pw)(s:ab)(_:s.length<=1000000)(_:es.length<200)(_:¬cl s 32<s.length)(_:s≠[115,121,110,99])(_:s≠[114,111,108,108])(_:s≠[109,101,110,100]),CT L 34 [.ptr 0 0,dS s] 2 [tI es,sd w 1] [cD es.length,kr w] (dB false) 2 [mC,vG] [cD es.length,kr w])/\
  (∀(es:bJ)(w:Pw)(s:ab)(_:s.length<=1000000)(_:es.length<200)(_:cl s 32<s.length)(_:aC s=[112,111,119,101,114]),CT L 34 [.ptr 0 0,dS s] 2 [tI es,sd w 1] [cD es.length,kr w] (dB false) 2 [mC,vG] [cD es.length,kr w])/\
  (∀(es:bJ)(w:Pw)(s:ab)(_:s.length<=1000000)(_:es.length<200)(_:cl s 32<s.length)(_:aC s=[118,101,114,115,105,111,110]),CT L 34 [.ptr 0 0,dS s] 2 [tI es,sd w 1] [cD es.length,kr w] (dB false) 2 [mC,vG] [cD es.length,kr w])/\
  (∀(es:bJ)(w:Pw)(s:ab)(_:s.length<=1000000)(_:es.length<200)(_:cl s 32<s.length)(_:aC s=[102,111,108,100]),CT L 34 [.ptr 0 0,dS s] 2 [tI es,sd w 1] [cD es.length,kr w] (dB false) 2 [mC,vG] [cD es.length,kr w]):=by
 refine⟨fun es s a e=>?_,fun es e=>?_,fun es e=>?_,fun es e=>?_,fun es s a e t c m f=>?_,fun es w s a e=>?_,fun es w e=>?_,fun es w e=>?_,fun es w e=>?_,fun es w s a e t c m f=>?_,fun es w s a e o u=>?_,fun es w s a e o u=>?_,fun es w s a e o u=>?_⟩
 all_goals
  first|(have j:=C.cut s a)|skip
  first|(have y:=C.ix uj (aC s))|skip
  first|(have p:=C.cut [115,121,110,99] de)|skip
  first|(have n:=C.ix uj (aC [115,121,110,99]))|skip
  first|(have H:cl [115,121,110,99] 32=4:=by decide)|skip
  first|(have I:aC [115,121,110,99]=[115,121,110,99]:=rfl)|skip
  first|(rw[ig (by rw[H];decide),I]at p)|skip
  first|(rw[I,show yI uj [115,121,110,99]=1 by decide]at n)|skip
  first|(have R:=(nR C.hp).1 es 2 [] 0 0 [] om)|skip
  first|(have v:=C.cut [114,111,108,108] de)|skip
  first|(have r:=C.ix uj (aC [114,111,108,108]))|skip
  first|(have q:cl [114,111,108,108] 32=4:=by decide)|skip
  first|(have b:aC [114,111,108,108]=[114,111,108,108]:=rfl)|skip
  first|(rw[ig (by rw[q];decide),b]at v)|skip
  first|(rw[b,show yI uj [114,111,108,108]=2 by decide]at r)|skip
  first|(have x:=(nR C.hp).1 es 3 [] 0 0 [] om)|skip
  first|(have g:=C.cut [109,101,110,100] de)|skip
  first|(have l:=C.ix uj (aC [109,101,110,100]))|skip
  first|(have z:cl [109,101,110,100] 32=4:=by decide)|skip
  first|(have k:aC [109,101,110,100]=[109,101,110,100]:=rfl)|skip
  first|(rw[ig (by rw[z];decide),k]at g)|skip
  first|(rw[k,show yI uj [109,101,110,100]=3 by decide]at l)|skip
  first|(have E:=(nR C.hp).1 es 4 [] 0 0 [] om)|skip
  first|(rw[ig t,(oa t).1]at j)|skip
  first|(rw[(oa t).1]at y)|skip
  first|(have hi:=Px uj s)|skip
  first|(have N:uj.length=8:=rfl)|skip
  first|(have D:yI uj s≠1:=fun h=>c (P9 h))|skip
  first|(have U:yI uj s≠2:=fun h=>m (P9 h))|skip
  first|(have M:yI uj s≠3:=fun h=>f (P9 h))|skip
  first|(have T:=(nR C.hp).2.1 es w 2 [] 0 0 [] om)|skip
  first|(have A:=(nR C.hp).2.1 es w 3 [] 0 0 [] om)|skip
  first|(have O:=(nR C.hp).2.1 es w 4 [] 0 0 [] om)|skip
  first|(rw[iA o,u]at j)|skip
  first|(clear c m f t)|skip
  first|(generalize yI uj s=i at*)|skip
 all_goals refine S.ct ?_
 repeat' ((conv=>whnf);first|exact xo|rw[C.g0]|refine ad (show Ke.length=1*8 from rfl) ?_|rw[UX]|rw[show IntKind.i64.wrap (1+1)=2 from rfl]|rw[show IntKind.i64.wrap (2+1)=3 from rfl]|rw[show IntKind.i64.wrap (3+1)=4 from rfl]|rw[wrap64 om]|apply aD|apply aM|refine ak j ?_|refine ak y ?_|refine ak p ?_|refine ak n ?_|refine az R [0] [0] ?_|refine ak v ?_|refine ak r ?_|refine az x [0] [0] ?_|refine ak g ?_|refine ak l ?_|refine az E [0] [0] ?_|refine az T [0,1] [0,1] ?_|refine az A [0,1] [0,1] ?_|refine az O [0,1] [0,1] ?_|(apply dt<;>(repeat' first|exact nX _|exact sz|apply And.intro);done)|intro _)
theorem ad2(r:aJ L 34 RU)(es:bJ)(f:Fr)(s:ab)(w:s≠[101,110,100])(nm:ab)(e:List Fs)(op:Option (Nd×Option Nd))(t:Nd)(a:List Ft)(i:ab)(h:CT L 121 [.ptr 0 0,dS s] 1 [pfB f] (pfR f) (dB true) 1 [lP nm e op t a i] (kv e op t a)):
  CT L 34 [.ptr 0 0,dS s] 2 (Lm es f) (TL es f) (dB true) 2 [pR es (.d .cq) (.ptr 1 0),abT 1 nm e op t a i] (cD es.length::kv e op t a):=by
 obtain⟨l,n,o,u,c,m⟩:=f;rcases o with _|⟨y,_|p⟩<;>rcases op with _|⟨k,_|v⟩
 all_goals refine r.ct ?_
 all_goals skip
 repeat' ((conv=>whnf);first|exact xc|apply aH|refine az h [1] [1,2,3,4] ?_|exact fx|intro _)
theorem aat(r:aJ L 34 RU)(es:bJ)(f:Fr)(s:ab)(m:s≠[101,110,100]){t a o i:Nat×Nat}(h:CT L 121 [.ptr 0 0,dS s] 1 [pfB f] (pfR f) (dB false) 1 [BS] [t,a,o,i]):
  CT L 34 [.ptr 0 0,dS s] 2 (Lm es f) (TL es f) (dB false) 2 [mC,BS] [cD es.length,t,a,o,i]:=by
 obtain⟨d,n,e,l,u,c⟩:=f;rcases e with _|⟨w,_|y⟩
 all_goals refine r.ct ?_
 all_goals skip
 repeat' ((conv=>whnf);first|exact xc|apply aH|refine az h [1] [1,2,3,4] ?_|exact fz|intro _)
theorem Yi(i:aJ L 34 RU)(es:bJ)(f:Fr)(b:Bool){cg:List Bx}(h:CT L 120 [.ptr 0 0] 2 (Lm es f) (TL es f) (dB b) 2 cg bz)(e:2=cg.length)(n:5<=bz.length)(t:kK (Wg 2 bz.length) cg=true):
  CT L 34 [.ptr 0 0,dS [101,110,100]] 2 (Lm es f) (TL es f) (dB b) 2 cg bz:=by
 obtain⟨s,o,a,r,d,l⟩:=f;rcases a with _|⟨u,_|c⟩
 all_goals refine CT.enter i rfl (aQ _) n ?_
 all_goals skip
 repeat' ((conv=>whnf);first|refine iv h ?_|(apply dt<;>(repeat' first|exact qU t|exact nX _|exact e|exact sz|apply And.intro);done)|fail)
end Go.Ab
