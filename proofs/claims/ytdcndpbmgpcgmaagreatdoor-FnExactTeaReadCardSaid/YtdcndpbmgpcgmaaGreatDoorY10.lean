import Derived.Test.YtdcndpbmgpcgmaaGreatDoorY9
import Derived.Test.YtdcndpbmgpcgmaaGreatDoorY4
import Derived.Test.YtdcndpbmgpcgmaaGreatDoorY5
import Derived.Test.YtdcndpbmgpcgmaaGreatDoorY7
import Derived.Test.YtdcndpbmgpcgmaaGreatDoorY6
noncomputable section
namespace Go.Ab
open Go
variable{L:Lk}{i:Nat}{s:ab}{ws:List ab}{nv:ab->Int}
abbrev Bf(r:Sr):List Bx:=match r.fo with
 |some f=>Lm r.es f
 |none=>match r.w.mj with|true=>[tI r.es,sd r.w 1]|false=>[lT r.es]
abbrev ML(r:Sr):bm:=match r.fo with
 |some f=>TL r.es f
 |none=>match r.w.mj with|true=>[cD r.es.length,kr r.w]|false=>[cD r.es.length]
structure SrQ(i:Nat)(r:Sr):Prop extends SrI i r where
 w0:r.w.mj=false->r.w=fB
 fp:∀f,r.fo=some f->YJ f
def O9(L:Lk)(r:Sr)(s:ab)(e:Sr):Prop:=∃X Y,CT L 34 [.ptr 0 0,dS s] (Bf r).length (Bf r) (ML r) (dB true) (Bf e++X).length (Bf e++X) (ML e++Y)
def RvN(L:Lk)(r:Sr)(s:ab):Prop:=∃X q Y,CT L 34 [.ptr 0 0,dS s] (Bf r).length (Bf r) (ML r) (dB false) (List.length X) X (q::Y)
def iV(L:Lk)(r:Sr)(s:ab):Prop:=(∀e,dz r s=some e->O9 L r s e)/\(dz r s=none->RvN L r s)
theorem iV.y{r t:Sr}(h:dz r s=some t)(k:O9 L r s t):iV L r s:=
 ⟨fun q e=>by rw[h]at e;cases e;exact k,fun e=>by rw[h]at e;cases e⟩
theorem iV.n{r:Sr}(h:dz r s=none)(k:RvN L r s):iV L r s:=
 ⟨fun q e=>(by rw[h]at e;cases e),fun _=>k⟩
structure UJ(L:Lk):Prop extends RdC L where
 rd:aJ L 34 RU
 en:aJ L 120 Xh
 st:aJ L 197 RT
 ln:aJ L 121 M9
 bh:aJ L 125 Na
 vr:aJ L 204 Xi
theorem abe{n:Int}(h:0<=n/\n<=6):(wA n=mL\/wA n=xr)↔5<=n:=by
 have:n=0\/n=1\/n=2\/n=3\/n=4\/n=5\/n=6:=by omega
 rcases this with rfl|rfl|rfl|rfl|rfl|rfl|rfl<;>decide
theorem O9.of0{r:Sr}{es:bJ}{x:List DV}{X:List Bx}{Y:bm}(h:CT L 34 [.ptr 0 0,dS s] (Bf r).length (Bf r) (ML r) (dB true) (X.length+1) (lT (es++[x])::X) (cD (es.length+1)::Y)):O9 L r s ⟨es++[x],fB,none⟩:=by
 refine⟨X,Y,?_⟩;have e:(es++[x]).length=es.length+1:=by simp
 have t:ML ⟨es++[x],fB,none⟩=[cD (es.length+1)]:=by
  show[cD (es++[x]).length]=_;rw[e]
 rw[t];exact h
theorem Wo(C:UJ L)(r:∀n:Int,eB .i64 n->nv (dec n)=n)(es:bJ)(f:Fr)(s:ab)(j:s.length<=1000000)(d:s≠[])(hi:i<=1000000)(A:es.length<=199)(l:IB i f)(hP:YJ f):iV L ⟨es,fB,some f⟩ s:=by
 have O:=l.len;by_cases t:s=F7
 .subst t;by_cases a:5<=f.gU/\(f.ba++f.last).length<=4/\f.steps.length<=8
  .have e:dz ⟨es,fB,some f⟩ F7=some ⟨es++[gH (vK f)],fB,none⟩:=by
    unfold dz;dsimp only;rw[if_pos rfl,if_pos a];rfl
   obtain⟨k,q⟩:=l.s5 a.1;obtain⟨c,ba,x,st,m,w⟩:=f;obtain rfl:x=some (k,none):=q;obtain⟨z,c2,c3⟩:=a;have c2:(ba++[_]).length<=4:=c2;have c2:ba.length<=3:=by rw[bG]at c2;simp at c2;omega
   have E:=hP.rng;obtain⟨p,v,b,T,h⟩:=ajW C.en C.toBhC C.st es om c ba k st m w (by simp only at z E;omega) c2 c3;have u:=Yi C.rd es ⟨c,ba,some (k,none),st,m,w⟩ true h rfl (aQ _) rfl;exact iV.y e (O9.of0 (X:=[BS]) (Y:=[p,v,b,T]) u)
  .have e:dz ⟨es,fB,some f⟩ F7=none:=by
    unfold dz;dsimp only;rw[if_pos rfl,if_neg a]
   have h:=ajV C.en C.st es f (fun h=>a ⟨(abe hP.rng).1 h.1,by rw[bG];exact h.2.1,h.2.2⟩) om om;have u:=Yi C.rd es f false h rfl (aQ _) rfl;exact iV.n e ⟨[mC,BS],_,_,u⟩
 .have g:=adb C.ln C.toFpC r f s j d hi l hP;cases o:(ju f s).1 with
  |true=>
   have e:dz ⟨es,fB,some f⟩ s=some ⟨es,fB,some (ju f s).2⟩:=by
    unfold dz;dsimp only;rw[if_neg t,if_pos o]
   have h:=g.1 o;refine iV.y e ⟨[],[],?_⟩;rw[oe,oe];exact ad2 C.rd es f s t _ _ _ _ _ _ h
  |false=>
   have e:dz ⟨es,fB,some f⟩ s=none:=by
    unfold dz;dsimp only;rw[if_neg t,if_neg (by rw[o];simp)]
   obtain⟨I,p,v,b,h⟩:=g.2 o;exact iV.n e ⟨[mC,BS],_,_,aat C.rd es f s t h⟩
theorem Pt:ic []=none:=by
 unfold ic;refine dif_neg fun⟨e,_,h⟩=>?_
 have:=congrArg List.length h;simp[DD]at this
theorem Uk{es:bJ}{w:Pw}(e:s≠[])(f:es.length<200)(y:w.mj=false->w=fB)(t:¬cl s 32<s.length)(u:s≠EJ)(c:s≠EI)(m:s≠EH):dz ⟨es,w,none⟩ s=none:=by
 obtain⟨p,d,_⟩:=oa t
 have a:qE w []=none:=by
  unfold qE;rw[if_pos (.inr de)]
 have o:qG w []=none:=by
  unfold qG;have:kindOf (aC (au []))=none:=K1;rw[this]
 have i:DH []=none:=by
  unfold DH;have:ic (au [])=none:=Pt;rw[this]
 have n:wV []=none:=by
  unfold wV;have:fg (au [])=none:=Al;rw[this]
 have r:wW []=none:=by
  unfold wW;have:fg (au [])=none:=Al;rw[this]
 unfold dz;dsimp only;by_cases l:aC s=kc
 .rw[if_pos ⟨e,l⟩,if_neg fun h=>BW (by rw[d]at h;exact h.2.2)]
 .rw[if_neg fun h=>l h.2];unfold jm;rw[if_neg e,if_neg om,d,a,o,i,n,r,if_neg u,if_neg c,if_neg m]
  repeat' split
  all_goals rfl
theorem LR{es:bJ}{w:Pw}(e:s≠[])(t:es.length=200):dz ⟨es,w,none⟩ s=none:=by
 unfold dz;dsimp only;split
 .rw[if_neg om]
 .unfold jm;rw[if_neg e,if_pos om];rfl
theorem Yr{es:bJ}{w:Pw}(e:es.length<200):dz ⟨es,w,none⟩ EJ=some ⟨es++[gH ⟨2,[],pV,0,0,[],bX,bX,qS,w⟩],fB,none⟩/\dz ⟨es,w,none⟩ EI=some ⟨es++[gH ⟨3,[],pV,0,0,[],bX,bX,qS,w⟩],fB,none⟩/\dz ⟨es,w,none⟩ EH=some ⟨es++[gH ⟨4,[],pV,0,0,[],bX,bX,qS,w⟩],fB,none⟩:=by
 refine⟨?_,?_,?_⟩
 all_goals
  unfold dz jm;dsimp only;rw[if_neg de,if_neg de,if_neg om]
 .rw[if_neg de,if_neg de,if_neg de,if_neg de,if_neg de,if_pos rfl];rfl
 .rw[if_neg de,if_neg de,if_neg de,if_neg de,if_neg de,if_neg de,if_pos rfl];rfl
 .rw[if_neg de,if_neg de,if_neg de,if_neg de,if_neg de,if_neg de,if_neg de,if_pos rfl];rfl
open Classical in
theorem Uj{es:bJ}{w:Pw}(dh:s≠[])(hl:es.length<200)(dj:cl s 32<s.length):
  dz ⟨es,w,none⟩ s=if aC s=kc then(if w.mj=false/\bO (au s)then some ⟨es,w,some {fr0 with name:=au s,gU:=1}⟩else none)else
   if aC s=Da then(qE w (au s)).map fun p=>⟨es,p,none⟩else
   (if aC s=vW then qG w (au s)else if aC s=zg then DH (au s)else if aC s=vV then wV (au s)else if aC s=HH then wW (au s)else none).map fun te=>⟨es++[gH {te with ly:=w}],fB,none⟩:=by
 have no:∀x:ab,cl x 32=x.length->s≠x:=fun x hx h=>by subst h;omega
 unfold dz;dsimp only;by_cases hf:aC s=kc
 .rw[if_pos ⟨dh,hf⟩,if_pos hf];by_cases hc:w.mj=false/\bO (au s)
  .rw[if_pos ⟨hl,hc⟩,if_pos hc]
  .rw[if_neg fun h=>hc h.2,if_neg hc]
 .rw[if_neg fun h=>hf h.2,if_neg hf];unfold jm;rw[if_neg dh,if_neg om,if_neg (no EJ de),if_neg (no EI de),if_neg (no EH de)];by_cases h1:aC s=Da
  .rw[if_pos h1,if_pos h1];cases qE w (au s)<;>rfl
  rw[if_neg h1,if_neg h1];by_cases h2:aC s=vW
  .rw[if_pos h2,if_pos h2];cases qG w (au s)<;>rfl
  rw[if_neg h2,if_neg h2];by_cases h3:aC s=zg
  .rw[if_pos h3,if_pos h3];cases DH (au s)<;>rfl
  rw[if_neg h3,if_neg h3];by_cases h4:aC s=vV
  .rw[if_pos h4,if_pos h4];cases wV (au s)<;>rfl
  rw[if_neg h4,if_neg h4];by_cases h5:aC s=HH
  .rw[if_pos h5,if_pos h5];cases wW (au s)<;>rfl
  rw[if_neg h5,if_neg h5];rfl
theorem Wf{l:List Int}(h:eZ ws=some l):l.length=ws.length:=by
 unfold eZ at h;split at h
 .cases h;simp
 .cases h
theorem aeF{w:Pw}{e:Te}(h:qG w s=some e):{e with ly:=fB}=e:=by
 unfold qG at h
 repeat' split at h
 all_goals first
  |(cases h;done)
  |(cases h;rfl)
theorem afQ(C:UJ L)(es:bJ)(s:ab)(hs:s.length<=999990)(T:s≠[])(hl:es.length<=200):iV L ⟨es,fB,none⟩ s:=by
 obtain⟨_,_,_,V,B,G,K,A,J,Q,N,E,S,H,R,_⟩:=E8 C.bh C.toBhC;have d:s.length<=1000000:=by omega
 have O:∀{x:List DV}(h:CT L 34 [.ptr 0 0,dS s] 1 [lT es] [cD es.length] (dB true) 1 [lT (es++[x])] [cD (es.length+1)]),O9 L ⟨es,fB,none⟩ s ⟨es++[x],fB,none⟩:=fun h=>O9.of0 (X:=[]) (Y:=[]) h
 have v:∀(h:CT L 34 [.ptr 0 0,dS s] 1 [lT es] [cD es.length] (dB false) 1 [mC] [cD es.length]),RvN L ⟨es,fB,none⟩ s:=fun h=>⟨[mC],_,_,h⟩
 by_cases hf:es.length=200
 .exact iV.n (LR T hf) (v ((C6 C.rd C.toRdC).1 es s d hf))
 have o:es.length<200:=by omega
 by_cases i:cl s 32<s.length
 case neg=>
  obtain⟨k1,k2,k3⟩:=Yr (w:=fB) o;by_cases Z:s=EJ
  .subst Z;exact iV.y k1 (O ((C6 C.rd C.toRdC).2.1 es o))
  by_cases n2:s=EI
  .subst n2;exact iV.y k2 (O ((C6 C.rd C.toRdC).2.2.1 es o))
  by_cases n3:s=EH
  .subst n3;exact iV.y k3 (O ((C6 C.rd C.toRdC).2.2.2.1 es o))
  exact iV.n (Uk T o (fun _=>rfl) i Z n2 n3) (v ((C6 C.rd C.toRdC).2.2.2.2.1 es s d o i Z n2 n3))
 have t:=Uj (w:=fB) T o i;have hr:(au s).length<=999990:=by have:=gT s;omega
 have f:(au s).length<=1000000:=by omega
 have p:(pieces 32 (au s)).length<=1000000:=by have:=(ld 32 (au s)).2;omega
 have c:es.length<=1000:=by omega
 by_cases u:aC s=kc
 .rw[if_pos u]at t;by_cases b:bO (au s)
  .rw[if_pos ⟨rfl,b⟩]at t;have h:=abx C.bh C.toBhC C.ln es c (au s) hr b;rw[<-show aC s=[102,111,108,100]from u]at h;have h:=jF C.rd C.toRdC es s d o i true h rf (cb rfl) (cb rfl) rfl;refine iV.y t ⟨[],[],?_⟩;rw[oe,oe];exact h
  .rw[if_neg fun h=>b h.2]at t;have h:=abw C.bh C.toBhC C.ln es c (au s) hr b;rw[<-show aC s=[102,111,108,100]from u]at h;have h:=jF C.rd C.toRdC es s d o i false h rf (cb rfl) (cb rfl) rfl;exact iV.n t (v h)
 rw[if_neg u]at t;have D:=u;clear u;by_cases u:aC s=Da
 .rw[if_pos u]at t
  have U:qE fB (au s)=if(pieces 32 (au s)).length<2 then none else(eZ (pieces 32 (au s))).map fun l=>⟨0,[],true,l.getD 0 0,l.getD 1 0,l.drop 2⟩:=by
   unfold qE;by_cases h:(pieces 32 (au s)).length<2
   .rw[if_pos (.inr h),if_pos h]
   .rw[if_neg fun q=>q.elim de h,if_neg h]
  rw[U]at t;clear U;cases a:eZ (pieces 32 (au s))with
  |none=>
   have t:dz ⟨es,fB,none⟩ s=none:=by rw[t,a];split<;>rfl
   have h:=(E8 C.bh C.toBhC).2.2.1 es c (au s) f p a;rw[<-show aC s=[112,111,119,101,114]from u]at h;have h:=jF C.rd C.toRdC es s d o i false h rf (cb rfl) (cb rfl) rfl;exact iV.n t (v h)
  |some l=>
   have ei:=Wf a;by_cases h2:l.length<2
   .rw[if_pos om]at t;have h:=(E8 C.bh C.toBhC).2.1 es c (au s) f p l a h2;rw[<-show aC s=[112,111,119,101,114]from u]at h;have h:=jF C.rd C.toRdC es s d o i false h rf (cb rfl) (cb rfl) rfl;exact iV.n t (v h)
   .rw[if_neg om,a]at t
    match l,h2 with
    |x::y::r,_=>
     have h:=(E8 C.bh C.toBhC).1 es c (au s) f p x y r a;rw[<-show aC s=[112,111,119,101,114]from u]at h;have h:=jF C.rd C.toRdC es s d o i true h rf (cb rfl) (cb rfl) rfl;have t:dz ⟨es,fB,none⟩ s=some ⟨es,⟨0,[],true,x,y,r⟩,none⟩:=t;refine iV.y t ⟨[],[],?_⟩;rw[oe,oe];exact h
    |[_],h=>simp at h
    |[],h=>simp at h
 rw[if_neg u]at t;have M:=u;clear u;by_cases u:aC s=vW
 .rw[if_pos u]at t;have hv:=afA C.vr C.toBhC es c (au s) f;cases g:qG fB (au s)with
  |some P=>
   rw[g]at t;have ee:{P with ly:=fB}=P:=aeF g;have t:dz ⟨es,fB,none⟩ s=some ⟨es++[gH {P with ly:=fB}],fB,none⟩:=t;rw[ee]at t;have h:=Xe C.bh C.toBhC es c (au s) f true _ _ (hv.1 P g) ⟨⟨.inr rfl,⟨rfl,Nat.zero_lt_one,rfl⟩,rfl,rfl,trivial⟩,trivial⟩;rw[<-show aC s=[118,101,114,115,105,111,110]from u]at h;have h:=jF C.rd C.toRdC es s d o i true h rf (cb rfl) (cb rfl) rfl;exact iV.y t (O h)
  |none=>
   rw[g]at t;have h:=Xe C.bh C.toBhC es c (au s) f false _ _ (hv.2 g) ⟨⟨.inr rfl,trivial,trivial,trivial,trivial⟩,trivial⟩;rw[<-show aC s=[118,101,114,115,105,111,110]from u]at h;have h:=jF C.rd C.toRdC es s d o i false h rf (cb rfl) (cb rfl) rfl;exact iV.n t (v h)
 rw[if_neg u]at t;have F:=u;clear u;by_cases u:aC s=zg
 .rw[if_pos u]at t;unfold DH at t;cases k:ic (au (au s))with
  |none=>
   rw[k]at t;have h:=G es c (au s) f k;rw[<-show aC s=[97,112,112,101,110,100]from u]at h;have h:=jF C.rd C.toRdC es s d o i false h rf (cb rfl) (cb rfl) rfl;exact iV.n t (v h)
  |some e=>
   rw[k]at t;by_cases b:bO (aC (au s))
   .have t:dz ⟨es,fB,none⟩ s=some ⟨es++[gH ⟨1,aC (au s),e,0,0,[],bX,bX,qS,fB⟩],fB,none⟩:=by rw[t];simp only[b,if_true];rfl
    have h:=V es c (au s) f e k b;rw[<-show aC s=[97,112,112,101,110,100]from u]at h;have h:=jF C.rd C.toRdC es s d o i true h rf (cb rfl) (cb rfl) rfl;exact iV.y t (O h)
   .have t:dz ⟨es,fB,none⟩ s=none:=by rw[t];simp only[b,if_false];rfl
    have h:=B es c (au s) f e k b;rw[<-show aC s=[97,112,112,101,110,100]from u]at h;have h:=jF C.rd C.toRdC es s d o i false h rf (cb rfl) (cb rfl) rfl;exact iV.n t (v h)
 rw[if_neg u]at t;have et:=u;clear u;by_cases u:aC s=vV
 .rw[if_pos u,Un]at t;cases a:eZ (pieces 32 (au s))with
  |none=>
   rw[a]at t;have h:=J es c (au s) f p a;rw[<-show aC s=[114,101,119,114,105,116,101]from u]at h;have h:=jF C.rd C.toRdC es s d o i false h rf (cb rfl) (cb rfl) rfl;exact iV.n t (v h)
  |some l=>
   rw[a]at t
   match l,a,t with
   |[x,y],a,t=>
    have t:dz ⟨es,fB,none⟩ s=some ⟨es++[gH ⟨5,[],pV,x,y,[],bX,bX,qS,fB⟩],fB,none⟩:=t;have h:=K es c (au s) f p x y a;rw[<-show aC s=[114,101,119,114,105,116,101]from u]at h;have h:=jF C.rd C.toRdC es s d o i true h rf (cb rfl) (cb rfl) rfl;exact iV.y t (O h)
   |[],a,t=>
    have h:=A es c (au s) f p _ a si;rw[<-show aC s=[114,101,119,114,105,116,101]from u]at h;have h:=jF C.rd C.toRdC es s d o i false h rf (cb rfl) (cb rfl) rfl;exact iV.n t (v h)
   |[x],a,t=>
    have h:=A es c (au s) f p _ a si;rw[<-show aC s=[114,101,119,114,105,116,101]from u]at h;have h:=jF C.rd C.toRdC es s d o i false h rf (cb rfl) (cb rfl) rfl;exact iV.n t (v h)
   |x::y::z::r,a,t=>
    have h:=A es c (au s) f p _ a si;rw[<-show aC s=[114,101,119,114,105,116,101]from u]at h;have h:=jF C.rd C.toRdC es s d o i false h rf (cb rfl) (cb rfl) rfl;exact iV.n t (v h)
 rw[if_neg u]at t;have eo:=u;clear u;by_cases u:aC s=HH
 .rw[if_pos u,Uo]at t
  obtain⟨r,I⟩:∃r,pieces 32 (au s)=aC (au s)::r:=by
   by_cases h:cl (au s) 32<(au s).length
   .exact⟨_,vS h⟩
   .exact⟨[],by rw[vT h,(oa h).1]⟩
  rw[I]at t;simp only[Cp,JH]at t;by_cases j:r=[]
  .subst j;rw[tv]at t;have h:=H es c (au s) f I;rw[<-show aC s=[115,110,97,112]from u]at h;have h:=jF C.rd C.toRdC es s d o i false h rf (cb rfl) (cb rfl) rfl;exact iV.n t (v h)
  cases a:eZ r with
  |none=>
   rw[a]at t;have h:=S es c (au s) f p r I a;rw[<-show aC s=[115,110,97,112]from u]at h;have h:=jF C.rd C.toRdC es s d o i false h rf (cb rfl) (cb rfl) rfl;exact iV.n t (v h)
  |some l=>
   rw[a]at t
   match l,a,t with
   |[m],a,t=>
    by_cases b:bO (aC (au s))
    .have t:dz ⟨es,fB,none⟩ s=some ⟨es++[gH ⟨8,[],pV,0,m,aC (au s),bX,bX,qS,fB⟩],fB,none⟩:=by rw[t];simp only[b,if_true];rfl
     have h:=Q es c (au s) f p r I j m a b;rw[<-show aC s=[115,110,97,112]from u]at h;have h:=jF C.rd C.toRdC es s d o i true h rf (cb rfl) (cb rfl) rfl;exact iV.y t (O h)
    .have t:dz ⟨es,fB,none⟩ s=none:=by rw[t];simp only[b,if_false];rfl
     have h:=N es c (au s) f p r I j m a b;rw[<-show aC s=[115,110,97,112]from u]at h;have h:=jF C.rd C.toRdC es s d o i false h rf (cb rfl) (cb rfl) rfl;exact iV.n t (v h)
   |[],a,t=>
    have h:=E es c (au s) f p r I j _ a si;rw[<-show aC s=[115,110,97,112]from u]at h;have h:=jF C.rd C.toRdC es s d o i false h rf (cb rfl) (cb rfl) rfl;exact iV.n t (v h)
   |x::y::q,a,t=>
    have h:=E es c (au s) f p r I j _ a si;rw[<-show aC s=[115,110,97,112]from u]at h;have h:=jF C.rd C.toRdC es s d o i false h rf (cb rfl) (cb rfl) rfl;exact iV.n t (v h)
 rw[if_neg u]at t;have t:dz ⟨es,fB,none⟩ s=none:=t;have h:=R es c (au s) f (aC s) M et eo u F D;have h:=jF C.rd C.toRdC es s d o i false h rf (cb rfl) (cb rfl) rfl;exact iV.n t (v h)
theorem afR(C:UJ L)(es:bJ)(w:Pw)(R:w.mj=true)(s:ab)(hs:s.length<=999990)(S:s≠[])(hl:es.length<=200):iV L ⟨es,w,none⟩ s:=by
 obtain⟨_,_,_,_,_,_,_,_,_,_,_,_,_,_,_,U,M,F,P,E,V,B,G,N,K,J,Q⟩:=E8 C.bh C.toBhC;obtain⟨_,_,_,_,_,eo,ei,ed,el,em,Z,ee,et⟩:=C6 C.rd C.toRdC;have u:s.length<=1000000:=by omega
 obtain⟨wk,wd,wc,wa,wm,we⟩:=w;obtain rfl:wc=true:=R;generalize O:(⟨wk,wd,true,wa,wm,we⟩:Pw)=w;have R:w.mj=true:=by rw[<-O]
 have sB:Bf ⟨es,w,none⟩=[tI es,sd w 1]:=by subst O;rfl
 have sR:ML ⟨es,w,none⟩=[cD es.length,kr w]:=by subst O;rfl
 clear O;have D:∀{x:List DV}(h:CT L 34 [.ptr 0 0,dS s] 2 [tI es,sd w 1] [cD es.length,kr w] (dB true) 2 [lT (es++[x]),vG] [cD (es.length+1),Ts w]),O9 L ⟨es,w,none⟩ s ⟨es++[x],fB,none⟩:=fun h=>O9.of0 (X:=[vG]) (Y:=[Ts w]) (by rw[sB,sR];exact h)
 have j:∀(h:CT L 34 [.ptr 0 0,dS s] 2 [tI es,sd w 1] [cD es.length,kr w] (dB false) 2 [mC,vG] [cD es.length,kr w]),RvN L ⟨es,w,none⟩ s:=fun h=>⟨[mC,vG],_,_,by rw[sB,sR];exact h⟩
 by_cases hf:es.length=200
 .exact iV.n (LR S hf) (j (eo es w s u hf))
 have o:es.length<200:=by omega
 by_cases d:cl s 32<s.length
 case neg=>
  obtain⟨k1,k2,k3⟩:=Yr (w:=w) o;by_cases n1:s=EJ
  .subst n1;exact iV.y k1 (D (ei es w o))
  by_cases n2:s=EI
  .subst n2;exact iV.y k2 (D (ed es w o))
  by_cases n3:s=EH
  .subst n3;exact iV.y k3 (D (el es w o))
  exact iV.n (Uk S o (fun h=>by rw[R]at h;cases h) d n1 n2 n3) (j (em es w s u o d n1 n2 n3))
 have t:=Uj (w:=w) S o d;have hr:(au s).length<=999990:=by have:=gT s;omega
 have v:(au s).length<=1000000:=by omega
 have g:(pieces 32 (au s)).length<=1000000:=by have:=(ld 32 (au s)).2;omega
 have b:es.length<=1000:=by omega
 by_cases i:aC s=kc
 .rw[if_pos i,if_neg fun h=>by rw[R]at h;cases h.1]at t;exact iV.n t (j (et es w s u o d i))
 rw[if_neg i]at t;have c:aC s≠[102,111,108,100]:=i;clear i;by_cases i:aC s=Da
 .have ef:qE w (au s)=none:=by unfold qE;rw[if_pos (.inl R)]
  rw[if_pos i,ef]at t;exact iV.n t (j (Z es w s u o d i))
 rw[if_neg i]at t;have f:aC s≠[112,111,119,101,114]:=i;clear i;by_cases i:aC s=vW
 .have ey:qG w (au s)=none:=by
   unfold qG;cases kindOf (aC (au (au s)))with
   |none=>rfl
   |some k=>exact if_pos (.inl R)
  rw[if_pos i,ey]at t;exact iV.n t (j (ee es w s u o d i))
 rw[if_neg i]at t;have p:aC s≠[118,101,114,115,105,111,110]:=i;clear i;by_cases i:aC s=zg
 .rw[if_pos i]at t;unfold DH at t;cases T:ic (au (au s))with
  |none=>
   rw[T]at t;have h:=F es w b (au s) v T;rw[<-show aC s=[97,112,112,101,110,100]from i]at h;have h:=nY C.rd C.toRdC es w s u o d f p c false h rf (aQ _) (cb rfl) rfl;exact iV.n t (j h)
  |some e=>
   rw[T]at t;by_cases I:bO (aC (au s))
   .have t:dz ⟨es,w,none⟩ s=some ⟨es++[gH ⟨1,aC (au s),e,0,0,[],bX,bX,qS,w⟩],fB,none⟩:=by rw[t];simp only[I,if_true];rfl
    have h:=U es w b (au s) v e T I;rw[<-show aC s=[97,112,112,101,110,100]from i]at h;have h:=nY C.rd C.toRdC es w s u o d f p c true h rf (aQ _) (cb rfl) rfl;exact iV.y t (D h)
   .have t:dz ⟨es,w,none⟩ s=none:=by rw[t];simp only[I,if_false];rfl
    have h:=M es w b (au s) v e T I;rw[<-show aC s=[97,112,112,101,110,100]from i]at h;have h:=nY C.rd C.toRdC es w s u o d f p c false h rf (aQ _) (cb rfl) rfl;exact iV.n t (j h)
 rw[if_neg i]at t;have ep:=i;clear i;by_cases i:aC s=vV
 .rw[if_pos i,Un]at t;cases a:eZ (pieces 32 (au s))with
  |none=>
   rw[a]at t;have h:=V es w b (au s) v g a;rw[<-show aC s=[114,101,119,114,105,116,101]from i]at h;have h:=nY C.rd C.toRdC es w s u o d f p c false h rf (aQ _) (cb rfl) rfl;exact iV.n t (j h)
  |some l=>
   rw[a]at t
   match l,a,t with
   |[x,y],a,t=>
    have t:dz ⟨es,w,none⟩ s=some ⟨es++[gH ⟨5,[],pV,x,y,[],bX,bX,qS,w⟩],fB,none⟩:=t;have h:=P es w b (au s) v g x y a;rw[<-show aC s=[114,101,119,114,105,116,101]from i]at h;have h:=nY C.rd C.toRdC es w s u o d f p c true h rf (aQ _) (cb rfl) rfl;exact iV.y t (D h)
   |[],a,t=>
    have h:=E es w b (au s) v g _ a si;rw[<-show aC s=[114,101,119,114,105,116,101]from i]at h;have h:=nY C.rd C.toRdC es w s u o d f p c false h rf (aQ _) (cb rfl) rfl;exact iV.n t (j h)
   |[x],a,t=>
    have h:=E es w b (au s) v g _ a si;rw[<-show aC s=[114,101,119,114,105,116,101]from i]at h;have h:=nY C.rd C.toRdC es w s u o d f p c false h rf (aQ _) (cb rfl) rfl;exact iV.n t (j h)
   |x::y::z::r,a,t=>
    have h:=E es w b (au s) v g _ a si;rw[<-show aC s=[114,101,119,114,105,116,101]from i]at h;have h:=nY C.rd C.toRdC es w s u o d f p c false h rf (aQ _) (cb rfl) rfl;exact iV.n t (j h)
 rw[if_neg i]at t;have eg:=i;clear i;by_cases i:aC s=HH
 .rw[if_pos i,Uo]at t
  obtain⟨r,H⟩:∃r,pieces 32 (au s)=aC (au s)::r:=by
   by_cases h:cl (au s) 32<(au s).length
   .exact⟨_,vS h⟩
   .exact⟨[],by rw[vT h,(oa h).1]⟩
  rw[H]at t;simp only[Cp,JH]at t;by_cases A:r=[]
  .subst A;rw[tv]at t;have h:=J es w b (au s) v H;rw[<-show aC s=[115,110,97,112]from i]at h;have h:=nY C.rd C.toRdC es w s u o d f p c false h rf (aQ _) (cb rfl) rfl;exact iV.n t (j h)
  cases a:eZ r with
  |none=>
   rw[a]at t;have h:=K es w b (au s) v g r H a;rw[<-show aC s=[115,110,97,112]from i]at h;have h:=nY C.rd C.toRdC es w s u o d f p c false h rf (aQ _) (cb rfl) rfl;exact iV.n t (j h)
  |some l=>
   rw[a]at t
   match l,a,t with
   |[m],a,t=>
    by_cases I:bO (aC (au s))
    .have t:dz ⟨es,w,none⟩ s=some ⟨es++[gH ⟨8,[],pV,0,m,aC (au s),bX,bX,qS,w⟩],fB,none⟩:=by rw[t];simp only[I,if_true];rfl
     have h:=B es w b (au s) v g r H A m a I;rw[<-show aC s=[115,110,97,112]from i]at h;have h:=nY C.rd C.toRdC es w s u o d f p c true h rf (aQ _) (cb rfl) rfl;exact iV.y t (D h)
    .have t:dz ⟨es,w,none⟩ s=none:=by rw[t];simp only[I,if_false];rfl
     have h:=G es w b (au s) v g r H A m a I;rw[<-show aC s=[115,110,97,112]from i]at h;have h:=nY C.rd C.toRdC es w s u o d f p c false h rf (aQ _) (cb rfl) rfl;exact iV.n t (j h)
   |[],a,t=>
    have h:=N es w b (au s) v g r H A _ a si;rw[<-show aC s=[115,110,97,112]from i]at h;have h:=nY C.rd C.toRdC es w s u o d f p c false h rf (aQ _) (cb rfl) rfl;exact iV.n t (j h)
   |x::y::q,a,t=>
    have h:=N es w b (au s) v g r H A _ a si;rw[<-show aC s=[115,110,97,112]from i]at h;have h:=nY C.rd C.toRdC es w s u o d f p c false h rf (aQ _) (cb rfl) rfl;exact iV.n t (j h)
 rw[if_neg i]at t;have t:dz ⟨es,w,none⟩ s=none:=t;have h:=Q es w b (au s) v (aC s) f ep eg i p c;have h:=nY C.rd C.toRdC es w s u o d f p c false h rf (aQ _) (cb rfl) rfl;exact iV.n t (j h)
end Go.Ab
namespace Go.Ab
open Go
attribute [local irreducible] bI cf cw bW bA dk dT
variable{L:Lk}{nb i:Nat}{ws:List ab}{nv:ab->Int}
set_option maxHeartbeats 4000000
theorem aaq(rl Y:bm):B4 (rl++Y) rl:=by
 induction rl with
 |nil=>exact Lu _
 |cons x r e=>exact⟨rfl,e⟩
theorem abg{e:Nat}{B:List Bx}(X:List Bx)(h:wY nb e B B):wY nb e (B++X) B:=by
 have t:∀A C:List Bx,wY nb e A C->wY nb e (A++X) C:=by
  intro A C
  induction A generalizing C with
  |nil=>intro h;cases C with
   |nil=>cases X<;>exact trivial
   |cons y s=>exact h.elim
  |cons x r a=>intro h;cases C with
   |nil=>exact trivial
   |cons y s=>exact⟨h.1,a s h.2⟩
 exact t B B h
theorem ajE(nb e:Nat)(B:List Bx):wY nb e B []:=by cases B<;>exact trivial
theorem af0(r:Sr):kK (Wg (Bf r).length (ML r).length) (Bf r)=true:=by
 obtain⟨es,⟨i,n,e,s,h,d⟩,t⟩:=r;rcases t with _|⟨l,a,o,u,c,m⟩
 .cases e<;>rfl
 .rcases o with _|⟨k,_|v⟩<;>rfl
def rpE(ws:List ab)(i:Nat):Env:=[(4,.ptr 0 0),(5,.d (.sl (aR ws))),(15,.d (.sl (aR ws))),(16,dI (ws.length:Int)),(17,dI (i:Int))]
def T0(ws:List ab)(i:Nat)(r:Sr):St:=⟨rpE ws i,(Bf r).length,Bf r,ML r⟩
theorem ad7(ws:List ab)(i:Nat)(r:Sr):yQ ⟨0,0,none⟩ (T0 ws i r):=⟨rfl,rfl,rfl⟩
theorem aep(r:Sr):∃x X,Bf r=x::X:=by
 obtain⟨es,⟨a,o,e,i,n,s⟩,t⟩:=r;rcases t with _|f
 .cases e<;>exact⟨_,_,rfl⟩
 .exact⟨_,_,rfl⟩
theorem LD{r:Sr}{σ:St}(X:List Bx)(Y:bm)(t:σ.bx=Bf r++X)(a:σ.rl=ML r++Y)(o:look σ.env 4=.ptr 0 0/\look σ.env 5=.d (.sl (aR ws))/\look σ.env 15=.d (.sl (aR ws))/\look σ.env 16=dI (ws.length:Int)/\look σ.env 17=dI (i:Int)):ph (T0 ws i r) σ:=by
 obtain⟨n,s,h,l,u⟩:=o;refine⟨⟨?_,?_,?_,?_,?_,trivial⟩,?_,?_⟩
 .rw[n];obtain⟨x,q,e⟩:=aep r;exact⟨rfl,rfl,by show 0<(Bf r).length;rw[e];exact Dc _⟩
 .rw[s];exact rfl
 .rw[h];exact rfl
 .rw[l];exact rfl
 .rw[u];exact rfl
 .rw[t];exact abg X (qU (af0 r))
 .rw[a];exact aaq _ _
theorem SrQ.step{i:Nat}{r c:Sr}{s:ab}(h:SrQ i r)(e:dz r s=some c):SrQ (i+1) c:=by
 refine⟨h.toSrI.step e,?_,?_⟩
 .obtain⟨es,w,fo⟩:=r;unfold dz at e;cases fo with
  |none=>
   dsimp only at e;split at e
   .split at e
    .cases e;exact h.w0
    .cases e
   .cases a:jm es.length w s with
    |none=>rw[a]at e;cases e
    |some x=>
     rw[a]at e;cases e;obtain⟨m,y⟩:=x;cases m with
     |some m=>exact fun _=>rfl
     |none=>
      show y.mj=false->y=fB;unfold jm at a;split at a
      .cases a;exact h.w0
      split at a
      .cases a
      split at a
      .cases n:qE w (au s)with
       |none=>rw[n]at a;cases a
       |some p=>
        rw[n]at a;cases a;unfold qE at n;split at n
        .cases n
        .cases v:eZ (pieces 32 (au s))with
         |none=>rw[v]at n;cases n
         |some l=>rw[v]at n;cases n;intro h;cases h
      .exfalso;have u:∀{o:Option Te}{q:Pw},o.map (fun t=>(some t,fB))=some (none,q)->False:=fun{o}{q}h=>by cases o<;>cases h
       repeat' split at a
       all_goals first
        |exact u a
        |cases a
  |some f=>
   have g:=(h.fo f rfl).2.1;dsimp only at e;split at e
   .split at e
    .cases e;exact fun _=>rfl
    .cases e
   .split at e
    .cases e;exact h.w0
    .cases e
 .intro f d;obtain⟨es,w,fo⟩:=r;unfold dz at e;cases fo with
  |none=>
   dsimp only at e;split at e
   .split at e
    .cases e;cases d;exact⟨⟨(by decide:(0:Int)<=1),(by decide:(1:Int)<=6)⟩,fun _=>rfl,fun _=>rfl⟩
    .cases e
   .cases a:jm es.length w s with
    |none=>rw[a]at e;cases e
    |some x=>rw[a]at e;cases e;cases d
  |some b=>
   obtain⟨g,z,k⟩:=h.fo b rfl;dsimp only at e;split at e
   .split at e
    .cases e;cases d
    .cases e
   .split at e
    .rename_i j;cases e;cases d;exact(h.fp b rfl).line k j
    .cases e
theorem aa7(r:Sr):dz r []=some r:=by
 obtain⟨es,w,e⟩:=r;cases e with
 |none=>
  unfold dz jm;dsimp only;rw[if_neg si,if_pos rfl];rfl
 |some f=>
  unfold dz;dsimp only;rw[if_neg de];have:ju f []=(true,f):=by unfold ju;rw[if_pos rfl]
  rw[this];rfl
theorem adh(C:UJ L)(t:∀n:Int,eB .i64 n->nv (dec n)=n)(hi:i<=1000000){r:Sr}(h:SrQ i r)(s:ab)(a:s.length<=999990)(e:s≠[]):iV L r s:=by
 obtain⟨es,w,fo⟩:=r;have o:es.length<=200:=h.len;cases fo with
 |some f=>
  obtain⟨l,u,c⟩:=h.fo f rfl;obtain rfl:w=fB:=h.w0 u;exact Wo C t es f s om e hi l c (h.fp f rfl)
 |none=>
  cases d:w.mj with
  |true=>exact afR C es w d s a e o
  |false=>
   obtain rfl:w=fB:=h.w0 d;exact afQ C es s a e o
def akI:AC:=match c12.body with| .seq _ (.seq _ (.seq _ (.seq (.seq _ (.block _ (.loop c))) _)))=>c|_=> .skip
theorem VW(C:UJ L)(p:∀n:Int,eB .i64 n->nv (dec n)=n)(U:ws.length<=1000000)(N:∀w∈ws,w.length<=999990)(Q:AE->St->Prop)(l:∀r b,oq ws 0 zb=.inl r->Q (.exit 0) ⟨(18,dB false)::(18,b)::rpE ws ws.length,(Bf r).length,Bf r,ML r⟩)(u:∀(i:Nat)d nb v g,oq ws 0 zb=.inr (i+1)->Q .ret ⟨(3,dI ((i:Int)+1))::(2,.aO [] .nil)::d,nb,v,g⟩)(σ:St)(H:ph (T0 ws 0 zb) σ):
  LW L 51 ⟨0,0,none⟩ akI σ Q:=by
 have R:(aR ws).length=ws.length:=bl _;refine LW.gen (S:=Nat×Sr) (fun x=>ws.length-x.1) (fun x=>Pf (x.1<=ws.length/\SrQ x.1 x.2/\oq ws 0 zb=oq (ws.drop x.1) x.1 x.2)) (fun x=>T0 ws x.1 x.2) (fun x=>ad7 _ _ _) (fun x A k=>?_) (0,zb) ⟨cr _,⟨⟨cr _,fun f j=>by cases j⟩,fun _=>rfl,fun f j=>by cases j⟩,rfl⟩ σ H;obtain⟨i,r⟩:=x;obtain⟨O,I,a⟩:=A.get;clear A;have O:i<=ws.length:=O;by_cases c:i<ws.length
 .have D:ws.drop i=ws[i]::ws.drop (i+1):=ye c;have z:ws[i].length<=999990:=N _ (eu c);have e:oq ws 0 zb=match dz r ws[i]with|some s=>oq (ws.drop (i+1)) (i+1) s|none=> .inr (i+1):=by rw[a,D];rfl
  have t:∀s(σ:St),dz r ws[i]=some s->ph (T0 ws (i+1) s) σ->_:=fun s σ h E=>k (i+1,s) σ (by show ws.length-(i+1)<ws.length-i;omega) ⟨by show i+1<=ws.length;omega,I.step h,by rw[e,h]⟩ E
  clear k a;by_cases m:ws[i]=[]
  .have o:dz r ws[i]=some r:=by rw[m];exact aa7 r
   have t:=fun σ=>t r σ o
   clear l u e
   repeat' ((conv=>whnf);first|exact xc|rw[wrap64 om]|refine bY ?_|refine t _ (LD [] [] si si ⟨rfl,rfl,rfl,rfl,by rfl⟩)|apply aq|apply aH|apply aM|intro _)
  .have y:=adh C p om I ws[i] z m;cases o:dz r ws[i]with
   |some s=>
    obtain⟨X,Y,T⟩:=y.1 s o;have t:=fun σ=>t s σ o
    clear l u e
    repeat' ((conv=>whnf);first|exact xc|rw[wrap64 om]|refine bY ?_|refine t _ (LD X Y rfl rfl ⟨rfl,rfl,rfl,rfl,by rfl⟩)|apply aq|apply aH|apply aM|refine iv T ?_|intro _)
    all_goals(conv=>whnf)
    |none=>
    obtain⟨X,q,Y,T⟩:=y.2 o;rw[o]at e;have u:=fun d nb v g=>u i d nb v g e
    clear l t
    repeat' ((conv=>whnf);first|exact xc|rw[wrap64 om]|refine bY ?_|apply aq|apply aH|apply aM|refine iv T ?_|exact u _ _ _ _|intro _)
 .obtain rfl:i=ws.length:=by omega
  have y:oq ws 0 zb=.inl r:=by rw[a,AG];rfl
  have l:=fun b=>l r b y
  clear k u a
  repeat' ((conv=>whnf);first|exact xo|apply aq|exact l _|intro _)
structure xt(L:Lk)(s:ab):Prop where
 y:(eh s).2=0->CT L 12 [dS s] 0 [] [(0,720034)] (.b6 [.aO (eh s).1 (.fe 0),dI 0]) 0 [] [cD (eh s).1.length]
 n:(eh s).2≠0->CP L 12 [dS s] (.b6 [.d (.sl []),dI ((eh s).2)])
theorem On:∀(ws:List ab)(i:Nat)(r:Sr)(k:Nat),oq ws i r=.inr k->1<=k
 |[],i,r,k,h=>by cases h
 |s::t,i,r,k,h=>by
  unfold oq at h;split at h
  .exact On t (i+1) _ k h
  .cases h;omega
theorem SY(z:aJ L 12 c12)(C:UJ L)(y:∀n:Int,eB .i64 n->nv (dec n)=n)(I:∀s:ab,s.length<=1000000->CP L 33 [dS s,dS [10]] (.d (.sl (aR (pieces 10 s)))))(s:ab):xt L s:=by
 by_cases A:s.length<=60000
 case neg=>
  have e:eh s=([],-1):=by unfold eh;rw[if_neg A]
  refine⟨fun h=>(by rw[e]at h;cases h),fun _=>?_⟩;rw[e];refine z.cp ?_
  repeat' ((conv=>whnf);first|exact xo|apply aq|exact fz|intro _)
 have e:eh s=Xw (pieces 10 s).length (oq (pieces 10 s) 0 zb):=by unfold eh;rw[if_pos A]
 have E:=I s om;have N:=ld 10 s;have p:∀x,x∈pieces 10 s->x.length<=999990:=fun x o=>by have:=tB (c:=10) (s:=s) x o;omega
 have T:=fun k=>On (pieces 10 s) 0 zb k
 generalize pieces 10 s=ws at*;have S:(aR ws).length=ws.length:=bl _;have g:ws.length<=1000000:=by omega
 cases o:oq ws 0 zb with
 |inr k=>
  have P:=T k o;obtain⟨i,rfl⟩:∃i,k=i+1:=⟨k-1,by omega⟩;rw[o]at e;have e:eh s=([],((i+1:Nat):Int)):=e;rw[show(((i+1:Nat):Int))=(i:Int)+1 by omega]at e;refine⟨fun h=>(by rw[e]at h;simp only at h;omega),fun _=>?_⟩;rw[e];have t:∀r,oq ws 0 zb=.inl r->False:=fun r h=>by rw[o]at h;cases h
  have a:∀l,oq ws 0 zb=.inr (l+1)->l=i:=fun l h=>by rw[o]at h;cases h;rfl
  refine z.cp ?_
  repeat' ((conv=>whnf);first|exact xo|apply aq|rw[bl];intro _|refine ak E ?_|intro _)
  all_goals(conv=>whnf)
  refine LW.rP 720034 rfl (show BD 0 720034 _ [pR [] (.d .cq) (.d .cq)]from⟨⟨rfl,.inr ⟨rfl,rfl,rfl⟩,.inl rfl,.inl rfl,trivial⟩,trivial⟩) ?_;refine VW C y g p _ (fun r b h=>(t r h).elim) (fun l j nb O rl h=>?_) _ (LD [] [] rfl rfl ⟨rfl,rfl,rfl,rfl,rfl⟩);obtain rfl:=a l h
  repeat' ((conv=>whnf);first|exact xo|apply aq|apply bK|apply aD|apply aH|apply bp|apply aM|apply eA|apply ew|apply gQ|apply bS|rw[ca];intro _|rw[dC];intro _|rw[bl];intro _|refine bY ?_|(apply dt<;>(repeat' first|exact Lu _|exact ajE _ _ _|exact sz|apply And.intro);done)|intro _)
 |inl r=>
  rw[o]at e;have t:∀u,oq ws 0 zb=.inl u->u=r:=fun u h=>by rw[o]at h;cases h;rfl
  have a:∀l,oq ws 0 zb=.inr l->False:=fun l h=>by rw[o]at h;cases h
  by_cases m:r.fo.isSome=true\/r.w.mj=true
  .have e:eh s=([],(ws.length:Int)):=by rw[e];exact if_pos m
   refine⟨fun h=>(by rw[e]at h;simp only at h;omega),fun _=>?_⟩;rw[e];refine z.cp ?_
   repeat' ((conv=>whnf);first|exact xo|apply aq|rw[bl];intro _|refine ak E ?_|intro _)
   all_goals(conv=>whnf)
   refine LW.rP 720034 rfl (show BD 0 720034 _ [pR [] (.d .cq) (.d .cq)]from⟨⟨rfl,.inr ⟨rfl,rfl,rfl⟩,.inl rfl,.inl rfl,trivial⟩,trivial⟩) ?_;refine VW C y g p _ (fun u b h=>?_) (fun l j nb O rl h=>(a _ h).elim) _ (LD [] [] rfl rfl ⟨rfl,rfl,rfl,rfl,rfl⟩);obtain rfl:=t u h;clear h e o t a;obtain⟨es,⟨H,R,q,D,U,M⟩,fo⟩:=u;have m:fo.isSome=true\/q=true:=m;rcases fo with _|⟨V,F,Y,B,G,K⟩
   .obtain rfl:q=true:=m.resolve_left si
    repeat' ((conv=>whnf);first|rw[bl];intro _|exact fz|fail)
   .rcases Y with _|⟨k,_|v⟩
    all_goals skip
    repeat' ((conv=>whnf);first|rw[bl];intro _|exact fz|fail)
  .have e:eh s=(r.es,0):=by rw[e];exact if_neg m
   refine⟨fun _=>?_,fun h=>(by rw[e]at h;exact absurd rfl h)⟩;rw[e];refine CT.fill (rl:=[(0,720034)]) ?_ si ⟨rfl,by decide,by decide,rfl,trivial⟩;refine CT.enter z rfl (aQ _) (cr _) ?_
   repeat' ((conv=>whnf);first|exact xo|apply aq|rw[bl];intro _|refine ak E ?_|intro _)
   all_goals(conv=>whnf)
   refine LW.rP 720034 rfl (show BD 0 720034 _ [pR [] (.d .cq) (.d .cq)]from⟨⟨rfl,.inr ⟨rfl,rfl,rfl⟩,.inl rfl,.inl rfl,trivial⟩,trivial⟩) ?_;refine VW C y g p _ (fun u b h=>?_) (fun l j nb O rl h=>(a _ h).elim) _ (LD [] [] rfl rfl ⟨rfl,rfl,rfl,rfl,rfl⟩);obtain rfl:=t u h;clear h e o t a;obtain⟨es,⟨H,R,q,D,U,M⟩,fo⟩:=u;have m:¬(fo.isSome=true\/q=true):=m;cases fo with
   |some f=>exact absurd (.inl rfl) m
   |none=>
    cases q with
    |true=>exact absurd (.inr rfl) m
    |false=>
     repeat' ((conv=>whnf);first|exact xo|apply aq|apply bK|apply aD|apply aH|apply bp|apply aM|apply eA|apply ew|apply gQ|apply bS|rw[ca];intro _|rw[dC];intro _|rw[bl];intro _|refine bY ?_|exact fz|intro _)
end Go.Ab
namespace Go.Ab
open Go
variable{w:World}{f:Nat}{o:Oper}{a:Act}{x:Operand}{ax:Arg}
abbrev Rg:=Nat->Value
def toV:DV->Value
 | .bool b=> .bool b
 | .int k n=> .int k n
 |_=>undef
def gx(e:Rg)(x:Arg)(K:Value->Prop):Prop:=
 match x with
 | .t i=>K (e i)
 | .k (.int k n)=>K (.int k n)
 | .k (.bool b)=>K (.bool b)
 |_=>False
def sV(e:Rg):List Arg->(List Value->Prop)->Prop
 |[],K=>K []
 |x::r,K=>gx e x fun v=>sV e r fun t=>K (v::t)
def cH(e:Rg)(i:Nat)(v:Value):Rg:=fun s=>if i=s then v else e s
def iC(e:Rg)(d:Option Nat)(v:Value):Rg:=match d with|some i=>cH e i v|none=>e
def jw(L:Lk)(o:qp)(e:Rg)(w:World)(K:Value->World->Prop):Prop:=
 match o with
 | .lR x=>gx e x fun v=>K v w
 | .pj x=>gx e x fun v=> ∃b m c,v=.slice b m c/\K (.int .i64 m) w
 | .qI es x i=>gx e x fun v=>gx e i fun u=> ∃b s len l m,v=.slice (some ⟨b,s,none⟩) len l/\u=.int .i64 m/\0<=m/\m<len/\K (.pointer (some ⟨b,s+m.toNat*es,none⟩)) w
 | .mT f x=>gx e x fun v=> ∃b j,v=.pointer (some ⟨b,j,none⟩)/\K (.pointer (some ⟨b,j+f,none⟩)) w
 | .load n g x=>n=1/\g=false/\gx e x fun v=> ∃b j u,v=.pointer (some ⟨b,j,none⟩)/\w.cell? ⟨b,j,none⟩=some u/\K u w
 | .store n x y=>n=1/\gx e x fun v=>gx e y fun u=> ∃b j a t,v=.pointer (some ⟨b,j,none⟩)/\w.heap[b]?=some (.cells a t (0,0))/\j<a.size/\u.oneCell'=true/\u.cells=#[u]/\K undef (w.setRow b (a.setIfInBounds j u))
 | .eO _ k x y=>gx e x fun v=>gx e y fun u=> ∃p q,v=.int .i64 p/\u=.int .i64 q/\l8 .i64 k p q fun d=>K (toV d) w
 | .call f z=>sV e z fun h=>Calls L.P (L.fn f) h.toArray w fun r E=> ∃v,r=.returned v/\K v E
 | .xD x=>gx e x fun v=> ∃b,v=.string b/\K (.int .i64 b.size) w
 | .ext x i=>gx e x fun v=> ∃h u,v=.tuple h/\h[i]?=some u/\K u w
 | .not x=>gx e x fun v=> ∃t,v=.bool t/\K (.bool (!t)) w
 | .pick c x y=>gx e c fun v=> ∃t,v=.bool t/\gx e (if t then x else y) fun u=>K u w
 |_=>False
def rx(L:Lk):List AI->Rg->World->(Rg->World->Prop)->Prop
 |[],e,w,K=>K e w
 |⟨d,none,o⟩::r,e,w,K=>jw L o e w fun v a=>rx L r (iC e d v) a K
 |⟨d,some (s,t),o⟩::r,e,w,K=>(e s=.bool t/\jw L o e w fun v a=>rx L r (iC e d v) a K)\/(e s=.bool (!t)/\rx L r (iC e d undef) w K)
section
variable{L:Lk}{n:Nat}
theorem jl(e:cQ L x ax){K:Value->Prop}(h:gx (fun s=>a.tmps.getD s undef) ax K):K (a.eval x):=by
 cases e with
 |t i=>exact h
 |k v d o n=>
  have:=o (fun _=>0) default;cases d<;>first|exact h.elim|(cases this;exact h)
 |ka r ds l u=>exact h.elim
 |g i=>exact h.elim
 |f i=>exact h.elim
theorem M7{a:Act}:∀{xs:List Operand}{as:List Arg}{K:List Value->Prop},sU L xs as=true->sV (fun s=>a.tmps.getD s undef) as K->K (xs.map a.eval)
 |[],[],_,_,h=>h
 |x::r,y::s,K,e,h=>by
  simp only[sU,bT]at e;exact M7 (xs:=r) (as:=s) (K:=fun t=>K (a.eval x::t)) e.2 (jl (bn e.1) h)
 |[],_::_,_,e,_=>by simp[sU]at e
 |_::_,[],_,e,_=>by simp[sU]at e
theorem aaE{arr:Array Value}{j:Nat}{v:Value}(h:j<arr.size):(arr.toList.take (j+0)++[v]++arr.toList.drop (j+0+[v].length)).toArray=arr.setIfInBounds j v:=by
 apply nD;simp only[iU,Rf,Rr];rw[W3,if_pos (by simpa using h)];simp
theorem T3(hc:∀f,ij L f){ao:qp}(n:DA L o ao=true){K:Value->World->Prop}{next:Act->World->Prop}{Q:Exit->Act->World->Prop}(h:jw L ao (fun s=>a.tmps.getD s undef) w K)(k:∀v G,K v G->next (a.put o.dst v) G):o.wp L.P a w next Q:=by
 unfold jw at h;split at h
 ·
  rename_i ax;simp only[DA]at n;split at n
  .rename_i x J;exact aW (by simp[execOp,J]) (k _ _ (jl (bn n) h))
  .rename_i x J;exact aW (by simp[execOp,J]) (k _ _ (jl (bn n) h))
  .cases n
 ·
  rename_i ax;simp only[DA]at n;split at n
  rotate_left
  .cases n
  rename_i c r;simp only[bT]at n;obtain⟨g,A⟩:=n;split at g
  rotate_left
  .cases g
  rename_i z;split at A
  rotate_left
  .cases A
  rename_i x t I N;simp only[bT]at A;obtain⟨O,D⟩:=A;split at O
  rotate_left
  .cases O
  rename_i te X;obtain⟨b,m,cc,H,T⟩:=jl (bn D) h
  have S:o.op=.call {callee:=.builtin .len,args:=#[x],argTypes:=#[t]}:=by
   rw[r];cases c with
   |mk callee args U=>
    simp only at z I N;rw[z,show args=#[x]from nD I,show U=#[t]from nD N]
  refine aW (v:=.int .i64 m) ?_ (k _ _ T);rw[FV S];simp[Builtin.len_,H,underlying,X,goInt]
 ·
  rename_i es ax ai;simp only[DA]at n;split at n
  rotate_left
  .cases n
  rename_i t x i r;simp only[bT]at n;obtain⟨⟨g,A⟩,O⟩:=n;obtain⟨te,ei,q1,q2,Z⟩:=lj L g;have Z:=dL Z;have Y:=jl (bn A) h;obtain⟨b,C,len,ef,m,R,M,e3,e4,T⟩:=jl (bn O) Y;refine aW (v:=.pointer (some ⟨b,C+m.toNat*es,none⟩)) ?_ (k _ _ T);rw[<-Z];simp[execOp,r,R,M,Instr.indexAt,asIntOf,underlying,q1,e3,e4,sizeOf,typeInfo,q2,Addr.add_lit]
 ·
  rename_i C ax;simp only[DA]at n;split at n
  rotate_left
  .cases n
  rename_i s x i r;simp only[bT]at n;obtain⟨g,A⟩:=n;split at g
  rotate_left
  .cases g
  rename_i fs ee;split at g
  rotate_left
  .cases g
  rename_i f hf;simp only[bT]at g;obtain⟨O,D⟩:=g;have O:=dL O;split at D
  rotate_left
  .cases D
  rename_i fi et;have D:=cb D;obtain⟨b,j,R,T⟩:=jl (bn A) h;refine aW (v:=.pointer (some ⟨b,j+C,none⟩)) ?_ (k _ _ T);have eo:fi.size≠0:=by omega
  rw[<-O];simp[execOp,r,R,Instr.fieldAt,underlying,ee,hf,Instr.sureAddr,fieldPlace,sizeOf,typeInfo,et,eo,Addr.add_lit]
 ·
  rename_i m ag ax;obtain⟨rfl,rfl,h⟩:=h;simp only[DA]at n;split at n
  rotate_left
  .cases n
  rename_i t x r;simp only[bT]at n;obtain⟨⟨i,V,hm⟩,⟨d,hd,ha⟩,ed⟩:=Au L n.1;obtain⟨b,j,u,R,M,T⟩:=jl (bn n.2) h;have hl:=ot L.P w t 1 false i d V hm hd ha ed b j (fun _=>u) (fun q hq=>by rw[show q=0 by omega];exact M);refine aW (v:=u) ?_ (k _ _ T);simp[execOp,r,R,Instr.loadAt,Instr.sureAddr,hl]
 ·
  rename_i m ax ay;obtain⟨rfl,h⟩:=h;simp only[DA]at n;split at n
  rotate_left
  .cases n
  rename_i t x v r;simp only[bT]at n;obtain⟨⟨g,A⟩,O⟩:=n;obtain⟨i,V,hm⟩:=tJ L g;have Y:=jl (bn A) h;obtain⟨b,j,B,ta,R,M,e3,e4,e5,T⟩:=jl (bn O) Y;have F:=run_storeCells_at L.P b j ta [a.eval v] 0 B w M (by simp;omega) (by intro y hy;simp at hy;subst hy;exact e4);rw[aaE e3]at F;refine nO ?_ (k _ _ T);generalize w.setRow b (B.setIfInBounds j (a.eval v))=W' at F⊢;simp[execOp,r,R,Instr.storeAt,Instr.sureAddr,storeVar,sizeOf,typeInfo,V,hm,e5,F]
 ·
  rename_i kk el ax ay;simp only[DA]at n;split at n
  rotate_left
  .cases n
  rename_i op t x y t' r;simp only[bT]at n;obtain⟨⟨g,A⟩,O⟩:=n;have hb:=JY g;have Y:=jl (bn A) h;obtain⟨p,q,R,M,l⟩:=jl (bn O) Y;have hg:=Fk L.P w op t x y .i64 .i64 p q
  have E:∀(d:DV),(binOp op t (.int .i64 p) (.int .i64 q)).run L.P w=.ok (toV d) w->K (toV d) w->o.wp L.P a w next Q:=by
   intro d hr T;exact aW (by simp[execOp,r,R,M,hg,hr]) (k _ _ T)
  cases op<;>cases el<;>simp only[MM]at hb<;>simp only[l8]at l
  .exact E _ (by simp[binOp,Op.intArith,toV]) l
  .exact E _ (by simp[binOp,Op.intArith,toV]) l
  .exact E _ (by simp[binOp,Op.intArith,toV]) l
  .exact E _ (by simp[binOp,Op.intDiv,toV,l.1]) l.2
  .exact E _ (by simp[binOp,Op.intDiv,toV,l.1]) l.2
  .exact E _ (by simp[binOp,Op.intCmp,toV,jf,BEq.beq]) l
  .exact E _ (by simp[binOp,Op.intCmp,toV,jf,bne,BEq.beq]) l
  .exact E _ (by simp[binOp,Op.intCmp,toV];rfl) l
  .exact E _ (by simp[binOp,Op.intCmp,toV];rfl) l
  .exact E _ (by simp[binOp,Op.intCmp,toV];rfl) l
  .exact E _ (by simp[binOp,Op.intCmp,toV];rfl) l
 ·
  rename_i f as;simp only[DA]at n;split at n
  rotate_left
  .cases n
  rename_i c r;simp only[bT]at n;obtain⟨g,A⟩:=n;split at g
  rotate_left
  .cases g
  rename_i gf z;have g:=dL g;have O:=M7 A h
  have hr:(execOp a.eval o).run L.P w=.ok (.enter (L.fn f) (c.args.map a.eval)) w:=by
   simp[execOp,r,z,g,resolve,Deferred.ofValue,Act.eval,invoke];exact hc f _ w
  unfold Oper.wp;rw[hr,Oper.upon_enter];rw[show(List.map a.eval c.args.toList).toArray=c.args.map a.eval by apply nD;simp]at O;refine O.mono ?_;rintro e G ⟨v,rfl,T⟩;exact k _ _ T
 ·
  rename_i ax;simp only[DA]at n;split at n
  rotate_left
  .cases n
  rename_i c r;simp only[bT]at n;obtain⟨g,A⟩:=n;split at g
  rotate_left
  .cases g
  rename_i z;split at A
  rotate_left
  .cases A
  rename_i x t I N;simp only[bT]at A;obtain⟨O,D⟩:=A;split at O
  rotate_left
  .cases O
  rename_i X;obtain⟨b,H,T⟩:=jl (bn D) h
  have S:o.op=.call {callee:=.builtin .len,args:=#[x],argTypes:=#[t]}:=by
   rw[r];cases c with
   |mk callee args U=>
    simp only at z I N;rw[z,show args=#[x]from nD I,show U=#[t]from nD N]
  refine aW (v:=.int .i64 b.size) ?_ (k _ _ T);rw[FV S];simp[Builtin.len_,H,underlying,X,goInt]
 ·
  rename_i ax i;simp only[DA]at n;split at n
  rotate_left
  .cases n
  rename_i x i' r;simp only[bT]at n;have V:=dL n.1;subst V;obtain⟨vs,u,H,hu,T⟩:=jl (bn n.2) h;obtain⟨em,hu⟩:=nx.1 hu;subst hu;exact aW (by simp[execOp,r,H,Instr.extract,em]) (k _ _ T)
 ·
  rename_i ax;simp only[DA]at n;split at n
  rotate_left
  .cases n
  rename_i t x r;obtain⟨b,H,T⟩:=jl (bn n) h;exact aW (by simp[execOp,r,H,Op.unary]) (k _ _ T)
 ·
  rename_i ac ax ay;simp only[DA]at n;split at n
  rotate_left
  .cases n
  rename_i c x y r;simp only[bT]at n;obtain⟨b,H,T⟩:=jl (bn n.1.1) h;cases b with
  |true=>exact aW (by simp[execOp,r,H,asBool]) (k _ _ (jl (bn n.1.2) T))
  |false=>exact aW (by simp[execOp,r,H,asBool]) (k _ _ (jl (bn n.2) T))
 .exact h.elim
structure Sl(n:Nat)(e:Rg)(a:Act):Prop where
 size:a.tmps.size=n
 defers:a.defers=[]
 eq:(fun s=>a.tmps.getD s undef)=e
theorem Sl.put{e:Rg}{a:Act}(h:Sl n e a){d:Option Nat}(t:ltO d n=true)(v:Value):Sl n (iC e d v) (a.put d v):=by
 cases d with
 |none=>exact h
 |some i=>
  have o:i<n:=cb t;refine⟨by simp[Act.put,h.size],h.defers,?_⟩;funext s;show(a.tmps.setIfInBounds i v).getD s undef=_;rw[GZ _ _ _ _ (by rw[h.size];exact o),<-h.eq];rfl
theorem HC(N:∀f,ij L f){l:Array Oper}{Q:Exit->Act->World->Prop}:∀(S:List Oper)(aV:List AI)(i:Nat)(e:Rg)(a:Act)(w:World)(K:Rg->World->Prop),
  AY L n l.toList S aV=true->(∀(j:Nat)(o:Oper),S[j]?=some o->l[i+j]?=some o)->rx L aV e w K->Sl n e a->(∀V B c,Sl n V B->K V c->Q .normal B c)->wpOps L.P l Q (List.range' i S.length) a w
 |[],[],i,e,a,w,K,_,_,h,b,O=>O e a w b h
 |o::r,⟨d,g,ao⟩::s,i,e,a,w,K,x,z,h,b,O=>by
  simp only[AY,XW,bT]at x;obtain⟨⟨⟨⟨b1,G⟩,k⟩,b4⟩,J⟩:=x;have E:List.range' i (o::r).length=i::List.range' (i+1) r.length:=by simp[Rp]
  have ho:l[i]?=some o:=z 0 o rfl;rw[E];simp only[wpOps,ho];have X:o.dst=d:=mY b1
  have m:∀(j:Nat)(y:Oper),r[j]?=some y->l[i+1+j]?=some y:=fun j y H=>by
   have:=z (j+1) y (by simpa using H);rwa [show i+(j+1)=i+1+j by omega]at this
  have run:(jw L ao e w fun v c=>rx L s (iC e d v) c K)->o.wp L.P a w (wpOps L.P l Q (List.range' (i+1) r.length)) Q:=fun h=>by
   rw[<-b.eq]at h;refine T3 N b4 h fun v c T=>?_
   rw[X];rw[b.eq]at T;exact HC N r s (i+1) _ _ c K J m T (b.put G v) O
  cases g with
  |some g=>
   obtain⟨sl,t⟩:=g;simp only[rx]at h
   obtain⟨q,c,y,R,H,D⟩:∃q c y,o.guard=some (q,c)/\l[q]?=some y/\(c=t/\y.dst=some sl):=by
    unfold Jh at k;split at k
    .rename_i Z U;cases U
    .rename_i q c s' ee Z U;cases U;simp only[bT,beq_iff_eq]at k;obtain⟨h5,C⟩:=k;split at C
     .rename_i y M;exact⟨q,c,y,Z,by simpa using M,h5,mY C⟩
     .cases C
    .cases k
   obtain⟨rfl,F⟩:=D
   have p:∀u,e sl=.bool u->Region.wanted o (yielded l a.tmps)=(u==c):=fun u A=>by
    have I:a.tmps[sl]?=some (.bool u):=by
     have:a.tmps.getD sl undef=.bool u:=by rw[<-A,<-b.eq]
     rw[dJ]at this;cases I:a.tmps[sl]? with
     |none=>rw[I]at this;simp[undef]at this
     |some v=>rw[I]at this;simp at this;rw[this]
    simp[Region.wanted,R,yielded,H,F,I]
   rcases h with⟨A,h⟩|⟨A,h⟩
   .rw[p _ A];simp only[beq_self_eq_true,if_true];exact .inl (run h)
   .rw[p _ A];have:((!c)==c)=false:=by cases c<;>rfl
    rw[this];simp only[jT,if_false];rw[X];exact HC N r s (i+1) _ _ w K J m h (b.put G undef) O
  |none=>
   have R:o.guard=none:=by
    cases Y:o.guard with
    |none=>rfl
    |some q=>rw[Y]at k;simp[Jh]at k
   have hw:Region.wanted o (yielded l a.tmps)=true:=by simp[Region.wanted,R]
   rw[if_pos hw];exact .inl (run h)
 |[],_::_,_,_,_,_,_,x,_,_,_,_=>by simp[AY]at x
 |_::_,[],_,_,_,_,_,x,_,_,_,_=>by simp[AY]at x
def RW(L:Lk)(n:Nat)(c:AC)(e:Rg)(w:World)(Q:AE->Rg->World->Prop):Prop:=
 ∀(t:Code)(a:Act),fy L n t c=true->Sl n e a->t.wp L.P (fun x s h=> ∃o i,UE x o/\Sl n i s/\Q o i h) a w
theorem RW.mono{c:AC}{e:Rg}{Q i:AE->Rg->World->Prop}(h:RW L n c e w Q)(r:∀x o s,Q x o s->i x o s):RW L n c e w i:=
 fun t a d l=>wp_mono (h t a d l) fun _ _ _⟨u,o,m,f,y⟩=>⟨u,o,m,f,r _ _ _ y⟩
def WR(Q:AE->Rg->World->Prop)(K:Rg->World->Prop):AE->Rg->World->Prop
 | .normal,e,w=>K e w
 |x,e,w=>Q x e w
theorem RW.seq{x y:AC}{e:Rg}{w:World}{Q:AE->Rg->World->Prop}(h:RW L n x e w (WR Q fun o l=>RW L n y o l Q)):RW L n (.seq x y) e w Q:=by
 intro t a s u;cases t<;>first|(simp[fy]at s;done)|skip
 rename_i c m;simp only[fy,bT]at s;refine wp_seq (wp_mono (h c a s.1 u) ?_);rintro v f l ⟨b,o,p,r,d⟩;cases p with
 |normal=>exact d m f s.2 r
 |exit i=>exact⟨_,o,.exit i,r,d⟩
 |ret=>exact⟨_,o,.ret,r,d⟩
theorem RW.skip{e:Rg}{w:World}{Q:AE->Rg->World->Prop}(h:Q .normal e w):RW L n .skip e w Q:=by
 intro t a o i;cases t<;>first|(simp[fy]at o;done)|skip
 exact wp_skip ⟨_,e,.normal,i,h⟩
theorem RW.ret{e:Rg}{w:World}{Q:AE->Rg->World->Prop}(h:Q .ret e w):RW L n .ret e w Q:=by
 intro t a o i;cases t<;>first|(simp[fy]at o;done)|skip
 exact wp_ret ⟨_,e,.ret,i,h⟩
theorem RW.exit{i:Nat}{e:Rg}{w:World}{Q:AE->Rg->World->Prop}(h:Q (.exit i) e w):RW L n (.exit i) e w Q:=by
 intro t a o s;cases t<;>first|(simp[fy]at o;done)|skip
 rename_i j;simp only[fy]at o;rw[dL o];exact wp_exit ⟨_,e,.exit i,s,h⟩
theorem RW.cond{s:Nat}{x y:AC}{t:Bool}{e:Rg}{w:World}{Q:AE->Rg->World->Prop}(l:e s=.bool t)(h:RW L n (if t then x else y) e w Q):RW L n (.cond (.t s) x y) e w Q:=by
 intro o a i r;cases o<;>first|(simp[fy]at i;done)|skip
 rename_i c u m;simp only[fy,bT]at i;obtain⟨⟨f,p⟩,b⟩:=i
 have d:a.eval c=.bool t:=by
  refine jl (bn f) (K:=fun v=>v=.bool t) ?_;rw[r.eq];exact l
 cases t with
 |true=>exact wp_cond_true d (h u a p r)
 |false=>exact wp_cond_false d (h m a b r)
def inB(id:Nat)(Q:AE->Rg->World->Prop):AE->Rg->World->Prop
 | .exit i,e,w=>if i=id then Q .normal e w else Q (.exit i) e w
 |x,e,w=>Q x e w
theorem RW.block{id:Nat}{x:AC}{e:Rg}{w:World}{Q:AE->Rg->World->Prop}(h:RW L n x e w (inB id Q)):RW L n (.block id x) e w Q:=by
 intro o a s u;cases o<;>first|(simp[fy]at s;done)|skip
 rename_i j c;simp only[fy,bT]at s;have m:=dL s.1;subst m;refine wp_block (wp_mono (h c a s.2 u) ?_);rintro y p v ⟨b,r,f,d,t⟩;cases f with
 |normal=>exact⟨_,r,.normal,d,t⟩
 |exit i=>
  simp only[Exit.inBlock];simp only[inB]at t;split
  .rename_i l;rw[if_pos l]at t;exact⟨_,r,.normal,d,t⟩
  .rename_i l;rw[if_neg l]at t;exact⟨_,r,.exit i,d,t⟩
 |ret=>exact⟨_,r,.ret,d,t⟩
theorem RW.loop{x:AC}{e:Rg}{w:World}{Q:AE->Rg->World->Prop}(I:Rg->World->Prop)(μ:Rg->World->Nat)(m:I e w)(h:∀e w,I e w->RW L n x e w (WR Q fun t u=>I t u/\μ t u<μ e w)):RW L n (.loop x) e w Q:=by
 intro o a c r;cases o<;>first|(simp[fy]at c;done)|skip
 rename_i f;simp only[fy]at c;refine wp_loop (fun a w=> ∃e,Sl n e a/\I e w) (fun a w=>μ (fun s=>a.tmps.getD s undef) w) ⟨e,r,m⟩ ?_;rintro a w ⟨e,r,y⟩;refine wp_mono (h e w y f a c r) ?_;rintro v b u ⟨g,t,p,d,l⟩;cases p with
 |normal=>exact⟨⟨t,d,l.1⟩,by rw[d.eq,r.eq];exact l.2⟩
 |exit i=>exact⟨_,t,.exit i,d,l⟩
 |ret=>exact⟨_,t,.ret,d,l⟩
theorem RW.j9(y:∀f,ij L f){aV:List AI}{e:Rg}{w:World}{Q:AE->Rg->World->Prop}(h:rx L aV e w (Q .normal)):RW L n (.j9 aV false) e w Q:=by
 intro t a i p;cases t<;>first|(simp[fy]at i;done)|skip
 rename_i id r d;cases d with
 |true=>simp[fy]at i
 |false=>
  simp only[fy]at i;refine wp_region ?_;have:=HC (Q:=fun x u c=> ∃m s,UE x m/\Sl n s u/\Q m s c) y r.toList aV 0 e a w _ i (fun j o v=>by simpa using v) h p fun s u c l b=>⟨_,s,.normal,l,b⟩
  rw[Mm];simpa using this
theorem RW.enter{af:AF}{e:Array Value}{R:Value->World->Prop}{r:Nat}(n:II L f af=true)(g:e.size=af.np)(E:af.res=[.t r])(h:RW L af.nt af.body (fun s=>e.getD s undef) w fun x m o=>match x with| .exit _=>False|_=>R (m r) o):Calls L.P (L.fn f) e w fun x o=> ∃v,x=.returned v/\R v o:=by
 unfold II at n;split at n
 rotate_left
 .cases n
 rename_i fn p;split at n
 rotate_left
 .cases n
 rename_i d T;simp only[bT]at n;obtain⟨⟨⟨A,k⟩,a⟩,j⟩:=n;have k:=dL k;have j:=cb j
 have l:fn.results=#[.tmp r]:=by
  rw[E]at a;apply nD
  match y:fn.results.toList with
  |[]=>rw[y]at a;simp[wR]at a
  |[.tmp i]=>rw[y]at a;simp only[wR,bT]at a;rw[dL a.1]
  | .cell _ _::_=>rw[y]at a;simp[wR]at a
  | .tmp i::x::r=>rw[y]at a;cases x<;>simp[wR]at a
 refine calls_of_wp p T (wp_mono (h d _ A ⟨by simp;omega,rfl,?_⟩) ?_)
 .funext s;simp only[dJ,HR];split
  .rfl
  .rename_i N;rw[Array.getElem?_eq_none (xs:=e) om,Ra];split<;>rfl
 .rintro x q o ⟨S,m,O,z,b⟩
  have c:R (m r) o->q.defers=[]/\∃v,(results fn q.tmps).run L.P o=.ok v o/\∃u,Ending.returned v=.returned u/\R u o:=by
   intro I;refine⟨z.defers,m r,?_,_,rfl,I⟩;rw[Is,l,<-z.eq];simp[FT]
  cases O with
  |normal=>exact c b
  |exit i=>exact b.elim
  |ret=>exact c b
end
variable{i:Nat}{t:TypeId}{m b es:Nat}
inductive Fa where
 |i (o:List Nat)
 |t (o:List Nat)
 |b (o:List Nat)
 |s (o:List Nat) (g h:Nat)
def jK:List Nat->Nat
 |[]=>0
 |a::r=>a+jK r
def Fa.path:Fa->List Nat
 | .i o=>o
 | .t o=>o
 | .b o=>o
 | .s o _ _=>o
def Fa.pl(x:Fa):Nat:=jK x.path
structure lO where
 es:Nat
 lq:List Fa
def R3:Nat->List Nat->List AI
 |_,[]=>[]
 |n,a::r=>zf (n+1) a n::R3 (n+1) r
def KT(m:Nat):AC:=zr [zm m 1,zs (m+1) (.eO .i64 .add (.t m) (zi 1)),zm 1 (m+1)]
def D1(es m a b:Nat)(o:List Nat)(l:List AI):List AI:=zs m (.qI es (.t a) (.t b))::(R3 m o++l)
def mP(tx es N:Nat):Fa->List AC×Nat
 | .i o=>([zr (zm N 0::zm (N+1) 5::zm (N+2) 1::D1 es (N+3) N (N+1) o [zn (.store 1 (.t (N+3+o.length)) (.t (N+2)))]),KT (N+4+o.length)],N+6+o.length)
 | .t o=>([zr (zm N 0::zm (N+1) 5::zm (N+2) 1::zs (N+3) (.call tx [.t (N+2)])::D1 es (N+4) N (N+1) o [zn (.store 1 (.t (N+4+o.length)) (.t (N+3)))]),KT (N+5+o.length)],N+7+o.length)
 | .b o=>([zr (zm N 0::zm (N+1) 5::zm (N+2) 1::zs (N+3) (.eO .i64 .rem (.t (N+2)) (zi 3))::zs (N+4) (.eO .i64 .eql (.t (N+3)) (zi 0))::D1 es (N+5) N (N+1) o [zn (.store 1 (.t (N+5+o.length)) (.t (N+4)))]),KT (N+6+o.length)],N+8+o.length)
 | .s o g _=>([zr (zm N 0::zm (N+1) 5::D1 es (N+2) N (N+1) o [zl (N+2+o.length+1) 1 (N+2+o.length),zm (N+2+o.length+2) 1,zs (N+2+o.length+3) (.call g [.t (N+2+o.length+1),.t (N+2+o.length+2)]),zm 1 (N+2+o.length+3)])],N+6+o.length)
def Tv(tx es:Nat):Nat->List Fa->List AC
 |_,[]=>[]
 |N,x::r=>(mP tx es N x).1++Tv tx es (mP tx es N x).2 r
def mN(tx es:Nat):Nat->List Fa->Nat
 |N,[]=>N
 |N,x::r=>mN tx es (mP tx es N x).2 r
def wU:List AC->AC
 |[]=> .skip
 |[x]=>x
 |x::r=> .seq x (wU r)
def La(ps:AC):AC:=
 .seq (.seq (zr [zm 6 5,zm 7 0,zs 8 (.pj (.t 7)),zs 9 (.eO .i64 .lss (.t 6) (.t 8))]) (.cond (.t 9) .skip (.exit 0)))
  (.seq (.block 1 ps) (zr [zm 10 5,zs 11 (.eO .i64 .add (.t 10) (zi 1)),zm 5 11]))
def mkF(N:Nat)(ps:AC):AF:=
 {np:=2,nt:=N+1,res:=[.t 4],body:=.seq (zr [zs 4 (.lR (zi 0))]) (.seq (.seq (zr [zs 5 (.lR (zi 0))]) (.block 0 (.loop (La ps)))) (.seq (zr [zm N 1,zm 4 N]) .ret))}
def mkM(tx:Nat)(s:lO):AF:=mkF (mN tx s.es 12 s.lq) (wU (Tv tx s.es 12 s.lq))
section
variable{L:Lk}{K:Rg->World->Prop}{w:World}
theorem QK{b:Nat}{t:List AI}:∀(o:List Nat)(m j:Nat)(e:Rg),e m=.pointer (some ⟨b,j,none⟩)->
  (∀i:Rg,(∀s,s<m->i s=e s)->i (m+o.length)=.pointer (some ⟨b,j+jK o,none⟩)->rx L t i w K)->rx L (R3 m o++t) e w K
 |[],m,j,e,h,k=>k e (fun _ _=>rfl) h
 |a::r,m,j,e,h,k=>by
  simp only[R3,yg,rx,zf,jw,gx];refine⟨b,j,h,QK (b:=b) r (m+1) (j+a) _ (by simp[iC,cH]) fun i n d=>k i (fun s l=>?_) ?_⟩
  .rw[n s om];simp only[iC,cH];rw[if_neg om]
  .rw[show m+(a::r).length=m+1+r.length by simp;omega,d];simp only[jK];rw[kJ]
theorem HD{r d q off len cap:Nat}{o:List Nat}{e:Rg}{u:Value}{arr:Array Value}(c:e r=.slice (some ⟨b,off,none⟩) len cap)(f:e d=.int .i64 i)(hi:i<len)(y:q<m)(p:e q=u)(v:u.oneCell'=true)(g:u.cells=#[u])(j:w.heap[b]?=some (.cells arr t (0,0)))(n:off+i*es+jK o<arr.size)(k:∀a:Rg,(∀s,s<m->a s=e s)->K a (w.setRow b (arr.setIfInBounds (off+i*es+jK o) u))):
  rx L (D1 es m r d o [zn (.store 1 (.t (m+o.length)) (.t q))]) e w K:=by
 simp only[D1,rx,zs,jw,gx];refine⟨b,off,len,cap,i,c,f,by omega,by omega,?_⟩;refine QK (b:=b) o m (off+i*es) _ (by simp[iC,cH]) fun a l x=>?_
 simp only[zn,rx,jw,gx];have h:a q=u:=by rw[l q y];simp only[iC,cH];rw[if_neg om];exact p
 rw[h];refine⟨trivial,b,_,arr,t,x,j,n,v,g,k _ fun s z=>?_⟩;show a s=e s;rw[l s z];simp only[iC,cH];rw[if_neg om]
theorem afT{d l off len cap g:Nat}{o:List Nat}{e:Rg}{v:Value}{R:Value->World->Prop}(f:1<m)(y:e d=.slice (some ⟨b,off,none⟩) len cap)(p:e l=.int .i64 i)(hi:i<len)(j:w.cell? ⟨b,off+i*es+jK o,none⟩=some v)(h:Calls L.P (L.fn g) #[v,e 1] w fun r w'=> ∃u,r=.returned u/\R u w')(k:∀(a:Rg)(u:Value)(w':World),R u w'->(∀s,s<m->s≠1->a s=e s)->a 1=u->K a w'):
  rx L (D1 es m d l o [zl (m+o.length+1) 1 (m+o.length),zm (m+o.length+2) 1,zs (m+o.length+3) (.call g [.t (m+o.length+1),.t (m+o.length+2)]),zm 1 (m+o.length+3)]) e w K:=by
 simp only[D1,rx,zs,jw,gx];refine⟨b,off,len,cap,i,y,p,by omega,by omega,?_⟩;refine QK (b:=b) o m (off+i*es) _ (by simp[iC,cH]) fun a c q=>?_
 simp only[zl,zm,rx,jw,gx,sV,iC];refine⟨trivial,trivial,b,_,v,q,j,?_⟩;have n:a 1=e 1:=by rw[c 1 f];simp only[iC,cH];rw[if_neg om]
 have x:cH (cH a (m+o.length+1) v) (m+o.length+2) (cH a (m+o.length+1) v 1) (m+o.length+1)=v:=by
  simp only[cH];rw[if_neg om,if_pos trivial]
 have z:cH (cH a (m+o.length+1) v) (m+o.length+2) (cH a (m+o.length+1) v 1) (m+o.length+2)=e 1:=by
  simp only[cH];rw[if_pos trivial,if_neg om,n]
 rw[x,z];refine h.mono ?_;rintro r w' ⟨u,rfl,E⟩;refine⟨u,rfl,k _ u w' E (fun s T A=>?_) ?_⟩
 .simp only[cH];rw[if_neg om,if_neg om,if_neg om,if_neg om,c s T];simp only[iC,cH];rw[if_neg om]
 .simp only[cH];rw[if_pos trivial,if_pos trivial]
theorem QL{e:Rg}{k:Int}(o:e 1=.int .i64 k)(h:0<=k/\k<9223372036854775807)(i:∀a:Rg,(∀s,s<m->s≠1->a s=e s)->a 1=.int .i64 (k+1)->K a w):
  rx L [zm m 1,zs (m+1) (.eO .i64 .add (.t m) (zi 1)),zm 1 (m+1)] e w K:=by
 simp only[zm,zs,zi,rx,jw,gx,iC,l8];refine⟨k,1,by simp only[cH];rw[if_pos trivial];exact o,rfl,i _ (fun s r n=>?_) ?_⟩
 .simp only[cH];rw[if_neg om,if_neg om,if_neg om]
 .simp only[cH];rw[if_pos trivial,if_pos trivial,wrap64 om];rfl
end
def wg(L:Lk)(n:Nat):List AC->Rg->World->(AE->Rg->World->Prop)->Prop
 |[],e,w,Q=>Q .normal e w
 |p::r,e,w,Q=>RW L n p e w (WR Q fun t a=>wg L n r t a Q)
section
variable{L:Lk}{n:Nat}
theorem abb{Q t:AE->Rg->World->Prop}{K a:Rg->World->Prop}(o:∀x e w,Q x e w->t x e w)(i:∀e w,K e w->a e w):∀x e w,WR Q K x e w->WR t a x e w
 | .normal,_,_,h=>i _ _ h
 | .exit _,_,_,h=>o _ _ _ h
 | .ret,_,_,h=>o _ _ _ h
theorem wg.mono:∀{ps:List AC}{e:Rg}{w:World}{Q a:AE->Rg->World->Prop},wg L n ps e w Q->(∀x e w,Q x e w->a x e w)->wg L n ps e w a
 |[],_,_,_,_,h,t=>t _ _ _ h
 |_::_,_,_,_,_,h,t=>RW.mono h (abb t fun _ _ h=>wg.mono h t)
theorem wg.app:∀{ps t:List AC}{e:Rg}{w:World}{Q:AE->Rg->World->Prop},wg L n ps e w (WR Q fun a o=>wg L n t a o Q)->wg L n (ps++t) e w Q
 |[],_,_,_,_,h=>h
 |_::ps,_,_,_,_,h=>RW.mono h fun x e w h=>by
  cases x with
  |normal=>exact wg.app (ps:=ps) h
  |exit i=>exact h
  |ret=>exact h
theorem wg.wU:∀{ps:List AC}{e:Rg}{w:World}{Q:AE->Rg->World->Prop},wg L n ps e w Q->RW L n (wU ps) e w Q
 |[],_,_,_,h=>RW.skip h
 |[p],_,_,_,h=>RW.mono h fun x e w h=>by cases x<;>exact h
 |p::q::r,_,_,_,h=>RW.seq (RW.mono h fun x e w h=>by
  cases x with
  |normal=>exact wg.wU (ps:=q::r) h
  |exit i=>exact h
  |ret=>exact h)
def DN(L:Lk)(n:Nat)(c:AC)(e:Rg)(w:World)(Q:AE->Rg->World->Prop):Prop:=
 ∀(x:Code)(a:Act),fy L n x c=true->Sl n e a->
  ∀(b:Frame)(k:List Item)(cs:List Frame),∃t o i,(∃s h,UE t s/\Sl n h o/\Q s h i)/\Arrives L.P (lone (b.at a (.code x:: .inLoop x::k)) cs w) b k cs t o i
theorem DN.mono{c:AC}{e:Rg}{w:World}{Q i:AE->Rg->World->Prop}(h:DN L n c e w Q)(s:∀x t o,Q x t o->i x t o):DN L n c e w i:=
 fun x a r d b k l=>let⟨u,m,o,⟨f,t,y,p,v⟩,g⟩:=h x a r d b k l
  ⟨u,m,o,⟨f,t,y,p,s _ _ _ v⟩,g⟩
theorem DN.unfold{c:AC}{e:Rg}{w:World}{Q:AE->Rg->World->Prop}(h:RW L n c e w (WR Q fun i y=>DN L n c i y Q)):DN L n c e w Q:=by
 intro x a u p b k m;obtain⟨z,s,f,⟨E,i,v,r,d⟩,t⟩:=h x a u p b (.inLoop x::k) m;cases v with
 |normal=>
  obtain⟨g,j,q,l,o⟩:=d x s u r b k m;exact⟨g,j,q,l,.of_steps (Steps.trans t (.one step_inLoop)) o⟩
 |exit id=>exact⟨_,s,f,⟨_,i,.exit id,r,d⟩,.pass (x:=.inLoop x) rfl (fun _ _=> .inl si) t⟩
 |ret=>exact⟨_,s,f,⟨_,i,.ret,r,d⟩,.pass (x:=.inLoop x) rfl (fun _ _=> .inl si) t⟩
theorem RW.ajm{x:AC}{e:Rg}{w:World}{Q:AE->Rg->World->Prop}(h:DN L n x e w Q):RW L n (.loop x) e w Q:=by
 intro t a o i b k s;cases t<;>first|(simp[fy]at o;done)|skip
 rename_i r;simp only[fy]at o;obtain⟨d,l,u,c,m⟩:=h r a o i b k s;exact⟨d,l,u,c,.of_steps (.one step_loop) m⟩
end
variable{w':World}{g':Gh}
inductive OJ where
 |s (f:Nat) (v:Value)
 |es (f:Nat) (sc:lO) (b:Nat) (arr:Array Value) (base m:Nat)
 |e (lq:List Fa) (b:Nat) (arr:Array Value) (base:Nat)
inductive OD(S:Nat->Option lO)(M:Nat->Nat)(w:World):OJ->(Nat->Prop)->Nat->Prop where
 |nil (f:Nat) (sc:lO) (hS:S f=some sc) (a:Option Addr) (c:Nat) (X:Nat->Prop) (hD:∀mk w',(∀b,M b<=mk b)->DR mk w' (.sl []) (.slice a 0 c)):OD S M w (.s f (.slice a 0 c)) X 0
 |sl (f:Nat) (sc:lO) (hS:S f=some sc) (b off len cap:Nat) (arr:Array Value) (t:TypeId) (X Y:Nat->Prop) (n:Nat) (hb:w.heap[b]?=some (.cells arr t (0,0))) (hX:X b) (hlen:len<=gJ) (gg:len<=cap) (cz:off+len*sc.es<=arr.size)
   (hY:∀c,Y c->X c/\c≠b) (h:OD S M w (.es f sc b arr off len) Y n):OD S M w (.s f (.slice (some ⟨b,off,none⟩) len cap)) X n
 |es0 (f:Nat) (sc:lO) (b:Nat) (arr:Array Value) (base:Nat) (Y:Nat->Prop):OD S M w (.es f sc b arr base 0) Y 0
 |es1 (f:Nat) (sc:lO) (hS:S f=some sc) (b:Nat) (arr:Array Value) (base m:Nat) (Y Y1 Y2:Nat->Prop) (n1 n2:Nat) (h1:OD S M w (.e sc.lq b arr base) Y1 n1) (h2:OD S M w (.es f sc b arr (base+sc.es) m) Y2 n2)
   (hd:∀c,Y1 c->Y2 c->False) (i1:∀c,Y1 c->Y c) (i2:∀c,Y2 c->Y c):OD S M w (.es f sc b arr base (m+1)) Y (n1+n2)
 |e0 (b:Nat) (arr:Array Value) (base:Nat) (Y:Nat->Prop):OD S M w (.e [] b arr base) Y 0
 |leaf (x:Fa) (r:List Fa) (b:Nat) (arr:Array Value) (base:Nat) (Y:Nat->Prop) (n:Nat) (hx:∀o g h,x≠.s o g h) (aL:base+x.pl<arr.size) (hr:∀y,y∈r->y.pl≠x.pl) (h:OD S M w (.e r b arr base) Y n):OD S M w (.e (x::r) b arr base) Y (n+1)
 |sub (o:List Nat) (g h':Nat) (r:List Fa) (b:Nat) (arr:Array Value) (base:Nat) (Y Y1 Y2:Nat->Prop) (n1 n2:Nat) (v:Value) (hv:arr[base+jK o]?=some v) (hr:∀y,y∈r->y.pl≠jK o) (h1:OD S M w (.s g v) Y1 n1) (h2:OD S M w (.e r b arr base) Y2 n2)
   (hd:∀c,Y1 c->Y2 c->False) (i1:∀c,Y1 c->Y c) (i2:∀c,Y2 c->Y c):OD S M w (.e (.s o g h'::r) b arr base) Y (n1+n2)
inductive MJ where
 |s (f:Nat) (xs:bJ)
 |e (lq:List Fa) (c:Nat->DV)
inductive Mk(S:Nat->Option lO)(im:Int->List UInt8):MJ->Int->Int->Prop where
 |nil (f:Nat) (sc:lO) (hS:S f=some sc) (k:Int):Mk S im (.s f []) k k
 |cons (f:Nat) (sc:lO) (hS:S f=some sc) (c:Nat->DV) (xs:bJ) (k k1 k2:Int) (h1:Mk S im (.e sc.lq c) k k1) (h2:Mk S im (.s f xs) k1 k2):Mk S im (.s f ((List.range sc.es).map c::xs)) k k2
 |e0 (c:Nat->DV) (k:Int):Mk S im (.e [] c) k k
 |i (o:List Nat) (r:List Fa) (c:Nat->DV) (k k':Int) (h0:c (jK o)=.int .i64 k) (h:Mk S im (.e r c) (k+1) k'):Mk S im (.e (.i o::r) c) k k'
 |t (o:List Nat) (r:List Fa) (c:Nat->DV) (k k':Int) (h0:c (jK o)=.str (im k)) (h:Mk S im (.e r c) (k+1) k'):Mk S im (.e (.t o::r) c) k k'
 |b (o:List Nat) (r:List Fa) (c:Nat->DV) (k k':Int) (h0:c (jK o)=.bool (jf (Int.tmod k 3) 0)) (h:Mk S im (.e r c) (k+1) k'):Mk S im (.e (.b o::r) c) k k'
 |s (o:List Nat) (g h':Nat) (r:List Fa) (c:Nat->DV) (ys:bJ) (k k1 k':Int) (h0:c (jK o)=.sl ys) (h1:Mk S im (.s g ys) k k1) (h:Mk S im (.e r c) k1 k'):Mk S im (.e (.s o g h'::r) c) k k'
theorem Mk.congr{S:Nat->Option lO}{im:Int->List UInt8}:∀{a:List Fa}{c d:Nat->DV}{k k':Int},Mk S im (.e a c) k k'->(∀x,x∈a->d x.pl=c x.pl)->Mk S im (.e a d) k k'
 |[],_,_,_,_,h,_=>by cases h;exact .e0 _ _
 |_::_,c,d,_,_,h,e=>by
  cases h with
  |i o r _ _ _ n h=>exact .i _ _ _ _ _ ((e _ (iE ..)).trans n) (Mk.congr h fun x l=>e x (iS _ l))
  |t o r _ _ _ n h=>exact .t _ _ _ _ _ ((e _ (iE ..)).trans n) (Mk.congr h fun x l=>e x (iS _ l))
  |b o r _ _ _ n h=>exact .b _ _ _ _ _ ((e _ (iE ..)).trans n) (Mk.congr h fun x l=>e x (iS _ l))
  |s o g w r _ u _ m _ n f h=>exact .s _ _ _ _ _ u _ m _ ((e _ (iE ..)).trans n) f (Mk.congr h fun x l=>e x (iS _ l))
def J5(w:World)(b:Nat):Nat:=match w.heap[b]? with|some (.cells a _ _)=>a.size|_=>0
def DX(M:Nat->Nat)(Y:Nat->Prop)(w:World)(d:DV)(v:Value):Prop:=
 ∀(mk:Nat->Nat)(w':World),(∀c,Y c->c<w.heap.size->w'.heap[c]?=w.heap[c]?)->(∀c,Y c->J5 w c<=mk c)->(∀c,M c<=mk c)->DR mk w' d v
theorem R9{w:World}(h:0<J5 w b):b<w.heap.size:=by
 unfold J5 at h;split at h
 .rename_i e;exact lt_of_heap e
 .omega
theorem ae0{w:World}(h:w'.heap[b]?=w.heap[b]?):J5 w' b=J5 w b:=by unfold J5;rw[h]
theorem DX.lim{M:Nat->Nat}{Y Z:Nat->Prop}{w w1:World}{d:DV}{v:Value}(h:DX M Y w d v)(t:∀c,Y c->Z c)(o:∀c,Y c->c<w.heap.size->w1.heap[c]?=w.heap[c]?):DX M Z w1 d v:=by
 intro mk w' i n s;refine h mk w' (fun c a e=>?_) (fun c a=>?_) s
 .have:=o c a e;rw[i c (t c a) ?_,this];rw[dZ e]at this;exact lt_of_heap this
 .by_cases e:0<J5 w c
  .rw[<-ae0 (o c a (R9 e))];exact n c (t c a)
  .omega
structure Mv(gb:Gh)(w w':World):Prop where
 os:w'.os=w.os
 tape:w'.tape=w.tape
 output:w'.output=w.output
 size:w.heap.size<=w'.heap.size
 shape:∀c,c<w.heap.size->w'.shape? c=w.shape? c
 cell:∀b o,o<gb.bD b->w'.cell? ⟨b,o,none⟩=w.cell? ⟨b,o,none⟩
theorem Mv.refl(gb:Gh)(w:World):Mv gb w w:=⟨rfl,rfl,rfl,aQ _,fun _ _=>rfl,fun _ _ _=>rfl⟩
theorem Mv.trans{gb:Gh}{w w1 e:World}(h:Mv gb w w1)(k:Mv gb w1 e):Mv gb w e:=
 ⟨k.os.trans h.os,k.tape.trans h.tape,k.output.trans h.output,gM h.size k.size,fun c t=>(k.shape c (jS t h.size)).trans (h.shape c t),fun b o a=>(k.cell b o a).trans (h.cell b o a)⟩
structure EU(gb:Gh):Prop where
 bk:gb.bk=[]
 rw:gb.rw=[]
 par:∀b,gb.par b=.out
theorem aY.mv{L:Lk}{gb:Gh}(a:EU gb){w:World}(h:aY L gb 0 [] [] w)(m:Mv gb w w'):aY L gb 0 [] [] w' where
 nb:=rfl
 kt:=by rw[a.bk];rfl
 box i x s q:=by simp at q
 inj i j s r:=by rw[a.bk]at r;simp at r
 jv:=by rw[a.rw];rfl
 row k n e z:=by simp at z
 jI i j b r:=by rw[a.rw]at r;simp at r
 fresh b d:=h.fresh b (gM m.size d)
 jd i:=by
  obtain⟨E,T,l⟩:=h.jd i;refine⟨?_,fun A=>?_,fun ev u=>⟨by rw[m.cell _ _ (l ev u).2];exact(l ev u).1,(l ev u).2⟩⟩
  .cases E with
   |gA H s f c p v O=>exact .gA _ _ _ c p (fun j I=>by rw[m.cell _ _ om];exact v j I) fun j y N=>(O j y N).bj (fun _=>aQ _) m.cell
  .obtain⟨t,g⟩:=T A;exact⟨t,by rw[m.shape _ (Cc g)];exact g⟩
 par:=⟨fun b _=>a.par b,fun b _=>a.par b,fun c o b f len S v=>absurd (a.par c) v,fun b d=>absurd (a.par b) d⟩
structure mz(gb:Gh)(Y:Nat->Prop)(w w':World):Prop where
 mv:Mv gb w w'
 frame:∀c,c<w.heap.size->¬Y c->w'.heap[c]?=w.heap[c]?
theorem mz.refl(gb:Gh)(Y:Nat->Prop)(w:World):mz gb Y w w:=⟨.refl _ _,fun _ _ _=>rfl⟩
theorem mz.trans{gb:Gh}{Y:Nat->Prop}{w w1 e:World}(h:mz gb Y w w1)(k:mz gb Y w1 e):mz gb Y w e:=
 ⟨h.mv.trans k.mv,fun c t a=>(k.frame c (jS t h.mv.size) a).trans (h.frame c t a)⟩
theorem mz.wide{gb:Gh}{Y Z:Nat->Prop}{w w1:World}(h:mz gb Y w w1)(e:∀c,Y c->Z c):mz gb Z w w1:=⟨h.mv,fun c t a=>h.frame c t fun q=>a (e c q)⟩
theorem mz.row{gb:Gh}{w:World}{arr i:Array Value}(n:w.heap[b]?=some (.cells arr t (0,0)))(s:i.size=arr.size)(r:gb.bD b=0):mz gb (fun c=>c=b) w (w.setRow b i) where
 mv:=⟨rfl,rfl,rfl,by simp,fun c d=>by
   by_cases e:c=b
   .subst e;simp only[World.shape?,n,setRow_heap w c arr i t (0,0) n,s]
   .simp only[World.shape?,setRow_other w b c i e],fun c o l=>by
   have e:c≠b:=by rintro rfl;omega
   exact World.cell?_of_block (a:=⟨c,o,none⟩) (setRow_other w b c i e)⟩
 frame c _ h:=setRow_other w b c i h
theorem mz.step{L:Lk}{gb:Gh}(e:EU gb){w:World}(s:Step gb [] w g' [] w'):mz gb (fun _=>False) w w':=
 ⟨⟨s.os,s.tape,s.output,s.size,s.shape,s.cell⟩,fun c t _=>s.frame c t (by rw[e.bk];simp) (by rw[e.rw];simp)⟩
structure SchOk(sc:lO):Prop where
 lt:∀x,x∈sc.lq->x.pl<sc.es
 cov:∀j,j<sc.es->∃x,x∈sc.lq/\x.pl=j
structure En(e:Rg)(v:Value)(i:Nat)(k:Int):Prop where
 v:e 0=v
 i:e 5=.int .i64 i
 k:e 1=.int .i64 k
section
variable(L:Lk)(S:Nat->Option lO)(tx:Nat)(im:Int->List UInt8)(gb:Gh)(M:Nat->Nat)(B:Int)(w:World)
def MP:OJ->(Nat->Prop)->Nat->Prop
 | .s f v,X,n=>(∀c,X c->gb.bD c=0)->∀(k:Int)(w1:World),(∀c,X c->c<w.heap.size->w1.heap[c]?=w.heap[c]?)->w.heap.size<=w1.heap.size->aY L gb 0 [] [] w1->0<=k->k+n<=B->
   Calls L.P (L.fn f) #[v,.int .i64 k] w1 fun r w'=> ∃u,r=.returned u/\u=.int .i64 (k+n)/\mz gb X w1 w'/\∃d,Mk S im (.s f d) k (k+n)/\DX M X w' (.sl d) v
 | .es f l b h base m,Y,n=>S f=some l->(∀c,Y c->gb.bD c=0)->gb.bD b=0->¬Y b->∀(off len cap i:Nat)(k:Int)(w1:World)(a:Array Value)(t:TypeId)(e:Rg)(p:Nat),
   En e (.slice (some ⟨b,off,none⟩) len cap) i k->base=off+i*l.es->i+m=len->len<=gJ->(∀c,Y c->c<w.heap.size->w1.heap[c]?=w.heap[c]?)->w.heap.size<=w1.heap.size->
   w1.heap[b]?=some (.cells a t (0,0))->a.size=h.size->(∀j,base<=j->a[j]?=h[j]?)->aY L gb 0 [] [] w1->0<=k->k+n<=B->
   DN L p (La (wU (Tv tx l.es 12 l.lq))) e w1 fun x g w'=>x=.exit 0/\g 1=.int .i64 (k+n)/\mz gb (fun c=>Y c\/c=b) w1 w'/\∃o,w'.heap[b]?=some (.cells o t (0,0))/\o.size=h.size/\
    (∀j,j<base->o[j]?=a[j]?)/\∃d,Mk S im (.s f d) k (k+n)/\d.length=m/\(∀x,x∈d->x.length=l.es)/\
    ∀(q j:Nat)(x:List DV)(y:DV),d[q]?=some x->x[j]?=some y->∃v,o[base+(q*l.es+j)]?=some v/\DX M Y w' y v
 | .e lq b h base,Y,n=>(∀c,Y c->gb.bD c=0)->gb.bD b=0->¬Y b->∀(es off len cap i:Nat)(k:Int)(w1:World)(a:Array Value)(t:TypeId)(e:Rg)(N p:Nat),12<=N->
   En e (.slice (some ⟨b,off,none⟩) len cap) i k->base=off+i*es->i<len->(∀c,Y c->c<w.heap.size->w1.heap[c]?=w.heap[c]?)->w.heap.size<=w1.heap.size->
   w1.heap[b]?=some (.cells a t (0,0))->a.size=h.size->(∀x,x∈lq->a[base+x.pl]?=h[base+x.pl]?)->aY L gb 0 [] [] w1->0<=k->k+n<=B->
   wg L p (Tv tx es N lq) e w1 fun x g w'=>x=.normal/\En g (.slice (some ⟨b,off,none⟩) len cap) i (k+n)/\mz gb (fun c=>Y c\/c=b) w1 w'/\∃o,w'.heap[b]?=some (.cells o t (0,0))/\o.size=h.size/\
    (∀j,(∀x,x∈lq->j≠base+x.pl)->o[j]?=a[j]?)/\∃c,Mk S im (.e lq c) k (k+n)/\∀x,x∈lq->∃v,o[base+x.pl]?=some v/\DX M Y w' (c x.pl) v
end
section
variable{L:Lk}{S:Nat->Option lO}{tx:Nat}{im:Int->List UInt8}{gb:Gh}{B:Int}{w:World}
theorem En.bj{e t:Rg}{v:Value}{k k':Int}(h:En e v i k)(n:5<m)(a:∀s,s<m->s≠1->t s=e s)(o:t 1=.int .i64 k'):En t v i k':=
 ⟨by rw[a 0 om om];exact h.v,by rw[a 5 om om];exact h.i,o⟩
theorem En.same{e a:Rg}{v:Value}{k:Int}(h:En e v i k)(o:5<m)(t:∀s,s<m->a s=e s):En a v i k:=
 ⟨by rw[t 0 om];exact h.v,by rw[t 5 om];exact h.i,by rw[t 1 om];exact h.k⟩
end
variable{n:Nat}
section
variable{L:Lk}{S:Nat->Option lO}{tx:Nat}{im:Int->List UInt8}{gb:Gh}{M:Nat->Nat}{B:Int}{w:World}
theorem abd(o:EU gb)(i:∀k,0<=k->k<=B->CP L tx [.d (.int .i64 k)] (.d (.str (im k))))(p:B<=9223372036854775806){w1:World}(n:aY L gb 0 [] [] w1){k:Int}(h:0<=k)(l:k<=B):
  Calls L.P (L.fn tx) #[.int .i64 k] w1 fun r t=> ∃u,r=.returned u/\u=.string ⟨(im k).toArray⟩/\(im k).length<=gJ/\mz gb (fun _=>False) w1 t:=by
 refine(i k h l 0 [] [] gb w1 #[.int .i64 k] n rfl (fun j x y e a=>?_)).mono ?_
 .cases j with
  |zero=>simp at e a;subst e;subst a;exact .d _ _ (.int _ _ ⟨by omega,by omega⟩)
  |succ j=>simp at e
 .rintro r t ⟨c,v,rfl,s,_,m⟩;obtain⟨f,w⟩:=m.iB;exact⟨c,rfl,f,w,mz.step (L:=L) o s⟩
theorem V3(z:∀f,ij L f)(G:EU gb)(K:∀k,0<=k->k<=B->CP L tx [.d (.int .i64 k)] (.d (.str (im k))))(J:B<=9223372036854775806){x:Fa}(Q:∀o g h,x≠.s o g h){off len cap:Nat}{k:Int}{w1:World}{a:Array Value}{e:Rg}{N X:Nat}(hN:12<=N)(E:En e (.slice (some ⟨b,off,none⟩) len cap) i k)(hi:i<len)(l:w1.heap[b]?=some (.cells a t (0,0)))(C:gb.bD b=0)(p:off+i*es+x.pl<a.size)(Z:aY L gb 0 [] [] w1)(U:0<=k)(h1:k+1<=B):
  wg L X (mP tx es N x).1 e w1 fun y j Y=>y=.normal/\En j (.slice (some ⟨b,off,none⟩) len cap) i (k+1)/\mz gb (fun c=>c=b) w1 Y/\∃u d,Y.heap[b]?=some (.cells (a.setIfInBounds (off+i*es+x.pl) u) t (0,0))/\
   (∀mk w,DR mk w d u)/\∀(r:List Fa)(c:Nat->DV)(k':Int),c x.pl=d->Mk S im (.e r c) (k+1) k'->Mk S im (.e (x::r) c) k k':=by
 have e0:=E.v;have M:=E.i;have T:=E.k;cases x with
 |s o g h=>exact absurd rfl (Q o g h)
 |i o=>
  refine RW.j9 z ?_;simp only[rx,zm,jw,gx,iC];refine HD (b:=b) (off:=off) (len:=len) (cap:=cap) (i:=i) (u:=.int .i64 k) (arr:=a) (t:=t) ?_ ?_ hi om ?_ rfl rfl l p fun j A=>?_
  .simp only[cH];rw[if_neg om,if_neg om,if_pos trivial];exact e0
  .simp only[cH];rw[if_neg om,if_pos trivial,if_neg om];exact M
  .simp only[cH];rw[if_pos trivial,if_neg om,if_neg om];exact T
  have n:∀s,s<N->j s=e s:=fun s O=>by rw[A s om];simp only[cH];rw[if_neg om,if_neg om,if_neg om]
  refine RW.j9 z (QL (k:=k) (by rw[n 1 om];exact T) ⟨U,by omega⟩ fun P I H=>?_);exact⟨rfl,(E.same (m:=N) om n).bj (m:=N) om (fun s O h=>I s om h) H,.row l si C,_,.int .i64 k,setRow_heap _ _ _ _ _ _ l,fun mk w=> .int _ _ ⟨by omega,by omega⟩,fun r c k' R D=> .i o r c k k' R D⟩
 |t o=>
  refine RW.j9 z ?_;simp only[rx,zm,zs,jw,gx,sV,iC]
  have x1:cH (cH (cH e N (e 0)) (N+1) (cH e N (e 0) 5)) (N+2) (cH (cH e N (e 0)) (N+1) (cH e N (e 0) 5) 1) (N+2)=.int .i64 k:=by
   simp only[cH];rw[if_pos trivial,if_neg om,if_neg om];exact T
  rw[x1];refine(abd G K J Z U om).mono ?_;rintro r w2 ⟨u,rfl,F,hl,V⟩;refine⟨u,rfl,?_⟩;have q:w2.heap[b]?=some (.cells a t (0,0)):=by rw[V.frame b (lt_of_heap l) (fun h=>h)];exact l
  refine HD (b:=b) (off:=off) (len:=len) (cap:=cap) (i:=i) (u:=u) (arr:=a) (t:=t) ?_ ?_ hi om ?_ ?_ ?_ q p fun j A=>?_
  .simp only[cH];rw[if_neg om,if_neg om,if_neg om,if_pos trivial];exact e0
  .simp only[cH];rw[if_neg om,if_neg om,if_pos trivial,if_neg om];exact M
  .simp only[cH];rw[if_pos trivial]
  .rw[F];rfl
  .rw[F];rfl
  have n:∀s,s<N->j s=e s:=fun s O=>by rw[A s om];simp only[cH];rw[if_neg om,if_neg om,if_neg om,if_neg om]
  refine RW.j9 z (QL (k:=k) (by rw[n 1 om];exact T) ⟨U,by omega⟩ fun P I H=>?_);exact⟨rfl,(E.same (m:=N) om n).bj (m:=N) om (fun s O h=>I s om h) H,(V.wide fun _ h=>h.elim).trans (.row q si C),_,.str (im k),setRow_heap _ _ _ _ _ _ q,fun mk w=>by rw[F];exact .str _ hl,fun r c k' R D=> .t o r c k k' R D⟩
 |b o=>
  refine RW.j9 z ?_;simp only[rx,zm,zs,zi,jw,gx,iC,l8];refine⟨k,3,?_,rfl,by omega,Int.tmod k 3,0,?_,rfl,?_⟩
  .simp only[cH];rw[if_pos trivial,if_neg om,if_neg om];exact T
  .simp only[cH,toV];rw[if_pos trivial]
  refine HD (b:=b) (off:=off) (len:=len) (cap:=cap) (i:=i) (u:=.bool (jf (Int.tmod k 3) 0)) (arr:=a) (t:=t) ?_ ?_ hi om ?_ rfl rfl l p fun j A=>?_
  .simp only[cH];rw[if_neg om,if_neg om,if_neg om,if_neg om,if_pos trivial];exact e0
  .simp only[cH];rw[if_neg om,if_neg om,if_neg om,if_pos trivial,if_neg om];exact M
  .simp only[cH,toV];rw[if_pos trivial]
  have n:∀s,s<N->j s=e s:=fun s O=>by rw[A s om];simp only[cH];rw[if_neg om,if_neg om,if_neg om,if_neg om,if_neg om]
  refine RW.j9 z (QL (k:=k) (by rw[n 1 om];exact T) ⟨U,by omega⟩ fun P I H=>?_);exact⟨rfl,(E.same (m:=N) om n).bj (m:=N) om (fun s O h=>I s om h) H,.row l si C,_,.bool (jf (Int.tmod k 3) 0),setRow_heap _ _ _ _ _ _ l,fun mk w=> .bool _,fun r c k' R D=> .b o r c k k' R D⟩
theorem adC(tx es N:Nat)(x:Fa):N<=(mP tx es N x).2:=by cases x<;>simp only[mP]<;>omega
theorem V7(hc:∀f,ij L f)(hg:EU gb)(hT:∀k,0<=k->k<=B->CP L tx [.d (.int .i64 k)] (.d (.str (im k))))(hB:B<=9223372036854775806){x:Fa}{r:List Fa}{arr:Array Value}{base:Nat}{Y:Nat->Prop}(hx:∀o g h,x≠.s o g h)(p:base+x.pl<arr.size)(F:∀y,y∈r->y.pl≠x.pl)(ih:MP L S tx im gb M B w (.e r b arr base) Y n):MP L S tx im gb M B w (.e (x::r) b arr base) Y (n+1):=by
 intro hY I H es V len G i k w1 ei t e N nt hN he T hi A K hb l z E h0 h1;simp only[Tv];subst T;refine wg.app (wg.mono (V3 (S:=S) hc hg hT hB hx hN he hi hb I (by rw[l];exact p) E h0 (by push_cast at h1;omega)) ?_);rintro y e' w2 ⟨rfl,J,P,u,d,Q,hd,X⟩;have O:=E.mv hg P.mv;refine wg.mono (ih hY I H es V len G i (k+1) w2 _ t e' _ nt (gM hN (adC tx es N x)) J rfl hi (fun c R p=>?_) (gM K P.mv.size) Q (by simpa using l) (fun y a=>?_) O om (by push_cast at h1;omega)) ?_
 .rw[P.frame c om (fun q=>H (q▸R))];exact A c R p
 .have:=F y a;rw[YG om];exact z y (iS _ a)
 .rintro y e3 w3 ⟨rfl,Z,ee,D,et,U,m,c,C,eo⟩;refine⟨rfl,?_,(P.wide fun _ q=> .inr q).trans ee,D,et,U,fun j hj=>?_,fun j=>if j=x.pl then d else c j,?_,fun y a=>?_⟩
  .have:k+1+(n:Int)=k+((n+1:Nat):Int):=by push_cast;omega
   rw[<-this];exact Z
  .rw[m j fun y a=>hj y (iS _ a),YG (fun q=>hj x (iE ..) q.symm)]
  .have:k+1+(n:Int)=k+((n+1:Nat):Int):=by push_cast;omega
   rw[<-this];exact X r _ _ (if_pos rfl) (C.congr fun y a=>if_neg (F y a))
  .cases a with
   |head=>
    refine⟨u,?_,?_⟩
    .rw[m _ fun y a q=>F y a om];rw[Array.getElem?_setIfInBounds_self_of_lt (by rw[l];exact p)]
    .simp only[if_pos];exact fun mk w' _ _ _=>hd mk w'
   |tail _ a=>
    obtain⟨v,q1,q2⟩:=eo y a;exact⟨v,q1,by show DX _ _ _ (if y.pl=x.pl then _ else _) _;rw[if_neg (F y a)];exact q2⟩
theorem aaa(hc:∀f,ij L f)(hg:EU gb){o:List Nat}{g h':Nat}{r:List Fa}{arr:Array Value}{base:Nat}{Y D Y2:Nat->Prop}{x n2:Nat}{v:Value}(hv:arr[base+jK o]?=some v)(hr:∀y,y∈r->y.pl≠jK o)(hd:∀c,D c->Y2 c->False)(H:∀c,D c->Y c)(U:∀c,Y2 c->Y c)(et:MP L S tx im gb M B w (.s g v) D x)(eo:MP L S tx im gb M B w (.e r b arr base) Y2 n2):MP L S tx im gb M B w (.e (.s o g h'::r) b arr base) Y (x+n2):=by
 intro hY ei T es off len cap i k w1 a t e N nt hN he A hi d C hb F n z h0 h1;simp only[Tv,mP];subst A;have e0:=he.v;have e5:=he.i;have e1:=he.k;have P:a[off+i*es+jK o]?=some v:=(n _ (iE ..)).trans hv;refine wg.app ?_;refine RW.j9 hc ?_;simp only[rx,zm,jw,gx,iC];refine afT (b:=b) (off:=off) (len:=len) (cap:=cap) (i:=i) (v:=v) (R:=fun u w'=>u=.int .i64 (k+x)/\mz gb D w1 w'/\∃V,Mk S im (.s g V) k (k+x)/\DX M D w' (.sl V) v) om ?_ ?_ hi ?_ ?_ fun e' u w2 hR g1 g2=>?_
 .simp only[cH];rw[if_neg om,if_pos trivial];exact e0
 .simp only[cH];rw[if_pos trivial,if_neg om];exact e5
 .rw[cell_of_row w1 b _ a t (0,0) hb];exact P
 .have x1:cH (cH e N (e 0)) (N+1) (cH e N (e 0) 5) 1=.int .i64 k:=by
   simp only[cH];rw[if_neg om,if_neg om];exact e1
  rw[x1];refine(et (fun c q=>hY c (H c q)) k w1 (fun c q=>d c (H c q)) C z h0 (by push_cast at h1;omega)).mono ?_;rintro r w' ⟨u,q1,p,q3,q4⟩;exact⟨u,q1,p,q3,q4⟩
 .obtain⟨hu,G,V,ed,el⟩:=hR;have em:∀s,s<N->s≠1->e' s=e s:=fun s hs h1=>by rw[g1 s om h1];simp only[cH];rw[if_neg om,if_neg om]
  have ef:En e' (.slice (some ⟨b,off,none⟩) len cap) i (k+x):=he.bj (m:=N) om em (by rw[g2,hu]);have O:=z.mv hg G.mv;have ey:w2.heap[b]?=some (.cells a t (0,0)):=by rw[G.frame b (lt_of_heap hb) (fun q=>T (H b q))];exact hb
  show wg L nt (Tv tx es _ r) e' w2 _;refine wg.mono (eo (fun c q=>hY c (U c q)) ei (fun q=>T (U b q)) es off len cap i (k+x) w2 a t e' _ nt om ef rfl hi (fun c K I=>?_) (gM C G.mv.size) ey F (fun y h=>n y (iS _ h)) O om (by push_cast at h1;omega)) ?_
  .rw[G.frame c om (fun q=>hd c q K)];exact d c (U c K) I
  .have hk:k+(x:Int)+(n2:Int)=k+((x+n2:Nat):Int):=by push_cast;omega
   rintro y e3 w3 ⟨rfl,J,Q,X,ep,Z,l,c,E,ee⟩;rw[hk]at J E;refine⟨rfl,J,(G.wide fun c q=> .inl (H c q)).trans (Q.wide fun c q=>q.imp (U c) id),X,ep,Z,fun j hj=>l j fun y h=>hj y (iS _ h),fun j=>if j=jK o then .sl V else c j,?_,fun y h=>?_⟩
   .exact .s o g h' r _ V k _ _ (if_pos rfl) ed (E.congr fun y h=>if_neg (hr y h))
   .cases h with
    |head=>
     refine⟨v,?_,?_⟩
     .rw[l _ fun y h q=>hr y h (by have p:(Fa.s o g h').pl=jK o:=rfl;omega)];exact P
     .show DX _ _ _ (if jK o=jK o then _ else _) _;rw[if_pos rfl];refine el.lim H fun c q I=>Q.frame c I fun p=>?_
      rcases p with p|p
      .exact hd c q p
      .exact T (p▸H c q)
    |tail _ h=>
     obtain⟨v',q1,p⟩:=ee y h;exact⟨v',q1,by show DX _ _ _ (if y.pl=jK o then _ else _) _;rw[if_neg (hr y h)];exact p.lim U fun _ _ _=>rfl⟩
end
section
variable{L:Lk}{S:Nat->Option lO}{tx:Nat}{im:Int->List UInt8}{gb:Gh}{M:Nat->Nat}{B:Int}{w:World}
theorem Er(d:∀f,ij L f){w1:World}{e:Rg}{a:Option Addr}{len cap:Nat}{k:Int}{l:Nat}{Q:AE->Rg->World->Prop}(n:En e (.slice a len cap) i k)(u:∀o,i<len->En o (.slice a len cap) i k->Q .normal o w1)(c:∀o:Rg,¬i<len->o 1=.int .i64 k->Q (.exit 0) o w1):
  RW L l (.seq (zr [zm 6 5,zm 7 0,zs 8 (.pj (.t 7)),zs 9 (.eO .i64 .lss (.t 6) (.t 8))]) (.cond (.t 9) .skip (.exit 0))) e w1 Q:=by
 have e0:=n.v;have s:=n.i;have h:=n.k;refine RW.seq (RW.j9 d ?_);simp only[rx,zm,zs,jw,gx,iC,l8];refine⟨a,len,cap,by simp[cH,e0],(i:Int),(len:Int),by simp[cH,s],by simp[cH],?_⟩;refine RW.cond (t:=qy i len) (by simp[cH,toV]) ?_;by_cases r:i<len
 .have:qy (i:Int) (len:Int)=true:=by simp only[qy];exact decide_eq_true om
  rw[this];exact RW.skip (u _ r ⟨by simp[cH,e0],by simp[cH,s],by simp[cH,h]⟩)
 .have:qy (i:Int) (len:Int)=false:=by simp only[qy];exact decide_eq_false om
  rw[this];exact RW.exit (c _ r (by simp[cH,h]))
theorem Z9(p:∀f,ij L f)(f:Nat)(d:lO)(b:Nat)(arr:Array Value)(base:Nat)(Y:Nat->Prop):MP L S tx im gb M B w (.es f d b arr base 0) Y 0:=by
 intro v R g z E len T i k D a t e U A s l u h O I o n c C m;refine DN.unfold (RW.seq (Er p A (fun N H=>absurd H om) fun N _ m=>?_));exact⟨rfl,by simpa using m,.refl _ _ _,a,I,o,fun j _=>rfl,[],by simpa using .nil f d v k,rfl,fun x r=>(by cases r),fun q j x y r=>by simp at r⟩
theorem Z'(hc:∀f,ij L f)(hO:∀f n,S f=some n->SchOk n/\II L f (mkM tx n)=true){n:lO}{arr:Array Value}{base:Nat}{Y Y1 Y2:Nat->Prop}{H n2:Nat}(hd:∀c,Y1 c->Y2 c->False)(I:∀c,Y1 c->Y c)(N:∀c,Y2 c->Y c)(eo:MP L S tx im gb M B w (.e n.lq b arr base) Y1 H)(ei:MP L S tx im gb M B w (.es f n b arr (base+n.es) m) Y2 n2)(hg:EU gb):MP L S tx im gb M B w (.es f n b arr base (m+1)) Y (H+n2):=by
 intro hS hY R u D len U i k w1 C t e nt he h ej p r F hb P a g h0 h1;have V:=(hO f n hS).1;push_cast at h1;refine DN.unfold (RW.seq (Er hc he (fun e' hi ed=>?_) fun e' hi=>absurd (show i<len by omega) hi));show RW L nt _ e' w1 _;refine RW.seq (RW.block (wg.wU (wg.mono (eo (fun c q=>hY c (I c q)) R (fun q=>u (I b q)) n.es D len U i k w1 C t e' 12 nt om ed h hi (fun c q=>r c (I c q)) F hb P (fun x _=>a _ om) g h0 om) ?_)));rintro y e2 w2 ⟨rfl,E,fr,G,el,K,d,c,em,ef⟩;show RW L nt _ e2 w2 _;refine RW.j9 hc ?_;have g0:=E.v;have g5:=E.i;have g1:=E.k;simp only[rx,zm,zs,zi,jw,gx,iC,l8];refine⟨(i:Int),1,by simp[cH,g5],rfl,?_⟩;have T:=g.mv hg fr.mv;refine DN.mono (ei hS (fun c q=>hY c (N c q)) R (fun q=>u (N b q)) D len U (i+1) (k+H) w2 G t _ nt ⟨by simp[cH,g0],?_,by simp[cH,g1]⟩ (by rw[h,jb];omega) om p (fun c A O=>?_) (gM F fr.mv.size) el K (fun j hj=>?_) T om om) ?_
 .simp only[cH,toV];simp only[if_true,show¬(10:Nat)=11 by omega,if_false];have:IntKind.i64.wrap ((i:Int)+1)=((i+1:Nat):Int):=by rw[wrap64 (by simp[gJ]at p;omega)];rfl
  simp[this]
 .rw[fr.frame c om (fun q=>q.elim (fun q=>hd c q A) fun q=>u (q▸N c A))];exact r c (N c A) O
 .rw[d j fun x s=>by have:=V.lt x s;omega];exact a j om
 .have hk:k+(H:Int)+(n2:Int)=k+((H+n2:Nat):Int):=by push_cast;omega
  rintro y e3 w3 ⟨rfl,J,Q,X,ey,Z,o,xs,z,ep,ee,et⟩;rw[hk]at J z;refine⟨rfl,J,(fr.wide fun c q=>q.imp (I c) id).trans (Q.wide fun c q=>q.imp (N c) id),X,ey,Z,fun j hj=>?_,(List.range n.es).map c::xs,.cons f n hS c xs k _ _ em z,by simp[ep],?_,?_⟩
  .rw[o j om,d j fun x s=>by omega]
  .intro x s;cases s with
   |head=>simp
   |tail _ s=>exact ee x s
  .intro q j x y s hy;cases q with
   |zero=>
    simp at s;subst s;have hj:j<n.es:=by have:=(bV.1 hy).1;simpa using this
    simp[Gf hj]at hy;subst hy;obtain⟨x,s,eg⟩:=V.cov j hj;obtain⟨v,q1,l⟩:=ef x s;rw[eg]at q1 l;refine⟨v,by rw[o _ om];simpa using q1,l.lim I fun c q O=>Q.frame c O fun l=>?_⟩;rcases l with l|l
    .exact hd c q l
    .exact u (l▸I c q)
   |succ q=>
    obtain⟨v,q1,l⟩:=et q j x y (by simpa using s) hy;refine⟨v,?_,l.lim N fun _ _ _=>rfl⟩;rw[<-q1];congr 1;rw[jb];omega
theorem Tx(o:∀f,ij L f){i:lO}(s:II L f (mkM tx i)=true){a:Option Addr}{len cap:Nat}{k k':Int}{w1:World}{R:World->Prop}(h:∀(e:Rg)(d:Nat),En e (.slice a len cap) 0 k->DN L d (La (wU (Tv tx i.es 12 i.lq))) e w1 fun x n t=>x=.exit 0/\n 1=.int .i64 k'/\R t):
  Calls L.P (L.fn f) #[.slice a len cap,.int .i64 k] w1 fun r t=> ∃u,r=.returned u/\u=.int .i64 k'/\R t:=by
 refine RW.enter s rfl rfl ?_;refine RW.seq (RW.j9 o ?_);simp only[rx,zs,zi,jw,gx,iC];refine RW.seq (RW.seq (RW.j9 o ?_));simp only[rx,jw,gx,iC];refine RW.block (RW.ajm (DN.mono (h _ _ ⟨by simp[cH],by simp[cH],by simp[cH]⟩) ?_));rintro x n t ⟨rfl,l,c⟩;show RW L _ _ n t _;refine RW.seq (RW.j9 o ?_);simp only[rx,zm,jw,gx,iC];refine RW.ret ?_;exact⟨by simp only[cH,if_true];exact l,c⟩
theorem DX.sl{X:Nat->Prop}{w':World}{arr:Array Value}{t:TypeId}{b off es cap:Nat}{xs:bJ}(n:w'.heap[b]?=some (.cells arr t (0,0)))(l:X b)(e:xs.length<=gJ)(a:xs.length<=cap)(m:off+xs.length*es<=arr.size)(s:∀x,x∈xs->x.length=es)(h:∀(q j:Nat)(x:List DV)(y:DV),xs[q]?=some x->x[j]?=some y->∃v,arr[off+(q*es+j)]?=some v/\DX M X w' y v):DX M X w' (.sl xs) (.slice (some ⟨b,off,none⟩) xs.length cap):=by
 intro mk o u c f;have r:o.heap[b]?=some (.cells arr t (0,0)):=by rw[u b l (lt_of_heap n)];exact n
 refine .sl xs b off cap es (fun i j=>arr.getD (off+(i*es+j)) undef) e a s ?_ (fun i j w E=>?_) fun i j x y p g=>?_
 .have:=c b l;simp only[J5,n]at this;omega
 .rw[cell_of_row o b _ arr t (0,0) r];have:(i+1)*es<=xs.length*es:=k7 _ w;rw[jb]at this;have d:off+(i*es+j)<arr.size:=by omega
  simp[d]
 .obtain⟨v,k,z⟩:=h i j x y p g;show DR mk o y (arr.getD _ _);rw[dJ,k];exact z mk o u c f
theorem Z8(A:∀f,ij L f)(hg:EU gb)(hT:∀k,0<=k->k<=B->CP L tx [.d (.int .i64 k)] (.d (.str (im k))))(hB:B<=9223372036854775806)(hO:∀f p,S f=some p->SchOk p/\II L f (mkM tx p)=true){j:OJ}{X:Nat->Prop}(h:OD S M w j X n):
  MP L S tx im gb M B w j X n:=by
 induction h with
 |nil f p U a c X hD=>
  intro F k w1 l O z h0 I
  have:=Tx (k':=k) (R:=fun P=>mz gb X w1 P/\∃xs,Mk S im (.s f xs) k k/\DX M X P (.sl xs) (.slice a 0 c)) A (hO f p U).2 (a:=a) (len:=0) (cap:=c) (k:=k) (w1:=w1) fun e nt V=>
   DN.unfold (RW.seq (Er A V (fun e' hi=>absurd hi om) fun e' _ I=>⟨rfl,I,.refl _ _ _,[],.nil f p U k,fun mk P _ _ h3=>hD mk P h3⟩))
  simpa using this
 |sl f p U b G len cap u t X Y n hb F T K O C h ih=>
  intro J k w1 l E z h0 I;have eo:w1.heap[b]?=some (.cells u t (0,0)):=by rw[l b F (lt_of_heap hb)];exact hb
  refine Tx A (hO f p U).2 fun e nt V=>DN.mono (ih U (fun c q=>J c (C c q).1) (J b F) (fun q=>(C b q).2 rfl) G len cap 0 k w1 u t e nt V si om T (fun c q=>l c (C c q).1) E eo rfl (fun _ _=>rfl) z h0 I) ?_
  rintro x e' P ⟨rfl,q1,fr,eg,ei,ed,_,xs,el,em,Q,ef⟩;refine⟨rfl,q1,fr.wide fun c q=>q.elim (fun q=>(C c q).1) fun q=>q▸F,xs,el,?_⟩;subst em
  exact DX.sl ei F T K (by rw[ed];exact O) Q fun q j x y Z hy=>by
   obtain⟨v,q1,q2⟩:=ef q j x y Z hy;exact⟨v,q1,q2.lim (fun c q=>(C c q).1) fun _ _ _=>rfl⟩
 |es0 f p b u base Y=>exact Z9 A f p b u base Y
 |es1 f p U b u base m Y Y1 Y2 n1 n2 I h2 hd i1 i2 H D=>exact Z' A hO hd i1 i2 H D hg
 |e0 b u base Y=>
  intro C ej ez es G len cap i k w1 ee t e N nt hN V ey hi l O hb E et z h0 I;exact⟨rfl,by simpa using V,.refl _ _ _,ee,hb,E,fun _ _=>rfl,fun _=> .cq,by simpa using .e0 _ k,fun x Z=>by cases Z⟩
 |leaf x r b u base Y n Z ep hr h ih=>exact V7 A hg hT hB Z ep hr ih
 |sub o g h' r b u base Y Y1 Y2 n1 n2 v hv hr I h2 hd i1 i2 H D=>exact aaa A hg hv hr hd i1 i2 H D
end
variable{xs:bJ}
inductive E5(par:Nat->xh):Nat->bm->Prop where
 |root (b:Nat) (h:par b=.root):E5 par b []
 |dn (b c o:Nat) (P:bm) (h:par b=.at c o) (hp:E5 par c P):E5 par b ((c,o)::P)
theorem E5.uniq{t:Nat->xh}{P Q:bm}(h:E5 t b P)(k:E5 t b Q):P=Q:=by
 induction h generalizing Q with
 |root b h=>
  cases k with
  |root=>rfl
  |dn _ c o P e=>rw[h]at e;cases e
 |dn b c o P h n i=>
  cases k with
  |root _ e=>rw[h]at e;cases e
  |dn _ s r d e a=>
   rw[h]at e;cases e;rw[i a]
theorem E5.ne{e:Nat->xh}{P:bm}(h:E5 e b P):e b≠.out:=by
 cases h with
 |root _ h=>rw[h];exact fun q=>by cases q
 |dn _ c o P h t=>rw[h];exact fun q=>by cases q
def Gw(e:Nat->xh)(P:bm)(c:Nat):Prop:=∃Q,E5 e c (Q++P)
theorem Gw.uniq{t:Nat->xh}{P:bm}{b o a c:Nat}(h:Gw t ((b,o)::P) c)(k:Gw t ((b,a)::P) c):o=a:=by
 obtain⟨Q,h⟩:=h;obtain⟨R,k⟩:=k;have e:=h.uniq k;have i:=(List.append_inj' e rfl).2;simp at i;exact i
theorem Gw.up{e:Nat->xh}{P:bm}{o c:Nat}(h:Gw e ((b,o)::P) c):Gw e P c:=by
 obtain⟨Q,h⟩:=h;exact⟨Q++[(b,o)],by simpa using h⟩
theorem Gw.ne{e:Nat->xh}{P:bm}{o:Nat}(t:E5 e b P){c:Nat}(h:Gw e ((b,o)::P) c):c≠b:=by
 rintro rfl;obtain⟨Q,h⟩:=h;have:=congrArg List.length (h.uniq t);simp at this;omega
inductive WJ where
 |s (f:Nat) (xs:bJ)
 |e (lq:List Fa) (x:List DV)
inductive Wt(S:Nat->Option lO):WJ->Nat->Prop where
 |nil (f:Nat) (sc:lO) (hS:S f=some sc):Wt S (.s f []) 0
 |cons (f:Nat) (sc:lO) (hS:S f=some sc) (x:List DV) (xs:bJ) (n1 n2:Nat) (hl:x.length=sc.es) (h1:Wt S (.e sc.lq x) n1) (h2:Wt S (.s f xs) n2):Wt S (.s f (x::xs)) (n1+n2)
 |e0 (x:List DV):Wt S (.e [] x) 0
 |leaf (fa:Fa) (r:List Fa) (x:List DV) (n:Nat) (hx:∀o g h,fa≠.s o g h) (h:Wt S (.e r x) n):Wt S (.e (fa::r) x) (n+1)
 |sub (o:List Nat) (g h':Nat) (r:List Fa) (x:List DV) (ys:bJ) (n1 n2:Nat) (h0:x[jK o]?=some (.sl ys)) (h1:Wt S (.s g ys) n1) (h2:Wt S (.e r x) n2):Wt S (.e (.s o g h'::r) x) (n1+n2)
section
variable{S:Nat->Option lO}{g:Gh}{w:World}
def OP(S:Nat->Option lO)(g:Gh)(w:World):WJ->Nat->Prop
 | .s f xs,n=> ∀(h:lO)(b:Nat)(arr:Array Value)(t:TypeId)(base:Nat)(P:bm),S f=some h->w.heap[b]?=some (.cells arr t (0,0))->E5 g.par b P->base+xs.length*h.es<=arr.size->base+xs.length*h.es<=g.bD b->
   (∀(q j:Nat)(x:List DV)(y:DV),xs[q]?=some x->x[j]?=some y->∃v,arr[base+(q*h.es+j)]?=some v/\DR g.bD w y v)->OD S g.bD w (.es f h b arr base xs.length) (fun c=> ∃o,base<=o/\Gw g.par ((b,o)::P) c) n
 | .e i x,n=> ∀(b:Nat)(arr:Array Value)(t:TypeId)(base es:Nat)(P:bm),w.heap[b]?=some (.cells arr t (0,0))->E5 g.par b P->base+es<=arr.size->base+es<=g.bD b->(∀a,a∈i->a.pl<es)->i.Pairwise (fun x y=>y.pl≠x.pl)->
   (∀(j:Nat)(y:DV),x[j]?=some y->∃v,arr[base+j]?=some v/\DR g.bD w y v)->OD S g.bD w (.e i b arr base) (fun c=> ∃a,a∈i/\Gw g.par ((b,base+a.pl)::P) c) n
theorem OD.wide{M:Nat->Nat}{j:OJ}{X Y:Nat->Prop}(h:OD S M w j X n)(i:∀c,X c->Y c):OD S M w j Y n:=by
 induction h generalizing Y with
 |nil f s d a c X C=>exact .nil f s d a c Y C
 |sl f s d b y len p e t X Z n F P l u k U h=>exact .sl f s d b y len p e t Y Z n F (i b P) l u k (fun c q=>⟨i c (U c q).1,(U c q).2⟩) h
 |es0 f s b e base X=>exact .es0 f s b e base Y
 |es1 f s d b e base m X z E T A O I N H R=>exact .es1 f s d b e base m Y z E T A O I N (fun c q=>i c (H c q)) (fun c q=>i c (R c q))
 |e0 b e base X=>exact .e0 b e base Y
 |leaf x r b e base X n V D L h B=>exact .leaf x r b e base Y n V D L (B i)
 |sub o g G r b e base X z E T A v K L O I N H R=>exact .sub o g G r b e base Y z E T A v K L O I N (fun c q=>i c (H c q)) (fun c q=>i c (R c q))
structure UK(sc:lO):Prop extends SchOk sc where
 pos:0<sc.es
 nd:sc.lq.Pairwise (fun x y=>y.pl≠x.pl)
theorem N3(V:MY g w)(B:∀d,S f=some d->0<d.es)(G:Wt S (.s f xs) n)(h:OP S g w (.s f xs) n){v:Value}(L:DR g.bD w (.sl xs) v){P:bm}(K:∀b e len u,v=.slice (some ⟨b,e,none⟩) len u->len=0\/E5 g.par b P):
  OD S g.bD w (.s f v) (Gw g.par P) n:=by
 cases G with
 |nil _ d T=>
  cases L with
  |slnil=>exact .nil f d T _ _ _ fun mk U _=> .slnil
  |sle a=>exact .nil f d T _ _ _ fun mk U _=> .sle a
  |sl _ r e u es c m p O A C M=>exact .nil f d T _ _ _ fun mk U J=> .sl [] r e u es c m p O (gM A (J r)) (fun i j H=>absurd H si) (fun i j x y I=>by simp at I)
 |cons _ d T x xs Q X Z _ _=>
  cases L with
  |sl _ r e u es c m p E A C M=>
   have he:es=d.es:=by rw[<-E x (iE ..)];exact Z
   subst he;have l:E5 g.par r P:=(K r e _ u rfl).resolve_left si;obtain⟨k,t,R⟩:=V.F3 r l.ne;have O:=B d T
   have z:∀i j,i<(x::xs).length->j<d.es->k[e+(i*d.es+j)]?=some (c i j):=fun i j H D=>by
    rw[<-cell_of_row w r _ k t (0,0) R];exact C i j H D
   have N:e+(x::xs).length*d.es<=k.size:=by
    have:=z xs.length (d.es-1) si om;have:=(nx.1 this).1;simp only[aZ,jb];omega
   refine .sl f d T r e _ u k t _ _ (Q+X) R ⟨[],l⟩ m p N (fun c=>?_) (h d r k t e P T R l N A fun q j F y I Y=>?_)
   .rintro⟨o,_,h⟩;exact⟨h.up,h.ne l⟩
   .have hq:=(bV.1 I).1
    have D:j<d.es:=by
     rw[<-E F (cP.2 ⟨q,I⟩)];exact(bV.1 Y).1
    exact⟨_,z q j hq D,M q j F y I Y⟩
theorem adP(G:MY g w)(K:∀f m,S f=some m->UK m){j:WJ}(h:Wt S j n):OP S g w j n:=by
 induction h with
 |nil f m A=>
  intro R b i t base P _ _ _ _ _ _;exact .es0 f R b i base _
 |cons f m A x xs U C hl J h2 O I=>
  intro R b i t base P D N d p k e;rw[A]at D;cases D;have H:=K f m A;simp only[aZ,jb,tU]at p k;refine .es1 f m A b i base xs.length _ _ _ U C (O b i t base m.es P N d om om H.lt H.nd fun j y L=>?_) (I m b i t (base+m.es) P A N d om om fun q j x' y M L=>?_) ?_ ?_ ?_
  .obtain⟨v,E,T⟩:=e 0 j x y rfl L;exact⟨v,by simpa using E,T⟩
  .obtain⟨v,E,T⟩:=e (q+1) j x' y (by simpa using M) L;exact⟨v,by rw[<-E];congr 1;rw[jb];omega,T⟩
  .rintro c ⟨a,u,E⟩ ⟨o,ho,T⟩;have:=E.uniq T;have:=H.lt a u;omega
  .rintro c ⟨a,u,E⟩;exact⟨_,Nat.le_add_right _ _,E⟩
  .rintro c ⟨o,ho,T⟩;exact⟨o,by omega,T⟩
 |e0 x=>intro b i t base es P _ _ _ _ _ _ _;exact .e0 b i base _
 |leaf Q r x n M h ih=>
  intro b i t base es P N d p k z l e;rw[List.pairwise_cons]at l
  exact .leaf Q r b i base _ n M (by have:=z Q (iE ..);omega) l.1
   ((ih b i t base es P N d p k (fun a u=>z a (iS _ u)) l.2 e).wide fun c⟨a,u,q⟩=>⟨a,iS _ u,q⟩)
 |sub o f X r x ys U C h0 J h2 O I=>
  intro b i t base es P N d p k z l e;rw[List.pairwise_cons]at l;obtain⟨v,E,T⟩:=e _ _ h0;have hl:=z _ (iE ..);have ee:(Fa.s o f X).pl=jK o:=rfl;refine .sub o f X r b i base _ (Gw g.par ((b,base+jK o)::P)) _ U C v E (fun y L=>l.1 y L) ?_ (I b i t base es P N d p k (fun a u=>z a (iS _ u)) l.2 e) ?_ ?_ ?_
  .refine N3 G (fun m A=>(K f m A).pos) J O T fun Z F len Y hv=>?_
   have hc:w.cell? ⟨b,base+jK o,none⟩=some v:=by rw[cell_of_row w b _ i t (0,0) N];exact E
   rw[hv]at hc;exact(G.sep b _ Z F len Y d.ne om hc).imp id fun q=> .dn Z b _ P q d
  .rintro c V ⟨a,u,B⟩;have:=V.uniq B;have:=l.1 a u;omega
  .exact fun c V=>⟨_,iE ..,V⟩
  .rintro c ⟨a,u,B⟩;exact⟨a,iS _ u,B⟩
end
end Go.Ab
namespace Go.Ab
open Go
variable{k:Nat}
def aiy(e:lO):Bool:=
 e.lq.all (fun x=>decide (x.pl<e.es))&&(List.range e.es).all (fun j=>e.lq.any fun x=>x.pl==j)&&decide (0<e.es)&&decide (e.lq.Pairwise fun x y=>y.pl≠x.pl)
theorem aef{e:lO}(h:aiy e=true):UK e:=by
 simp only[aiy,bT,kI,decide_eq_true_eq,Gm,beq_iff_eq,rb]at h;obtain⟨⟨⟨t,a⟩,o⟩,i⟩:=h;exact⟨⟨t,fun j n=>a j n⟩,o,i⟩
def jJ:Nat->Option lO
 |13=>some ⟨34,[.i [0],.t [1],.t [2,0],.i [2,1],.i [2,2,0],.i [2,2,1],.t [2,2,2],.s [2,2,3] 36 43,.s [2,2,4] 37 44,.i [9],.i [10],.t [11],.i [12,0],.s [12,1] 36 43,.s [12,2] 38 45,.i [15,0],.i [15,1],.t [15,2],.s [15,3] 36 43,.s [15,4] 39 46,.t [20,0],.s [20,1] 40 47,.i [20,2,0],.i [20,2,1],.t [20,2,2],.s [20,2,3] 36 43,.s [20,2,4] 37 44,.s [20,7] 41 48,.i [28,0],.t [28,1],.b [28,2],.i [28,3],.i [28,4],.s [28,5] 42 49]⟩
 |36=>some ⟨1,[.t []]⟩
 |37=>some ⟨5,[.i [0],.i [1],.t [2],.s [3] 36 43,.s [4] 37 44]⟩
 |38=>some ⟨3,[.i [0],.s [1] 36 43,.s [2] 38 45]⟩
 |39=>some ⟨5,[.i [0],.i [1],.t [2],.s [3] 36 43,.s [4] 39 46]⟩
 |40=>some ⟨13,[.i [0,0],.s [0,1] 36 43,.s [0,2] 38 45,.i [3,0],.i [3,1],.t [3,2],.s [3,3] 36 43,.s [3,4] 39 46,.i [8,0],.i [8,1],.t [8,2],.s [8,3] 36 43,.s [8,4] 39 46]⟩
 |41=>some ⟨6,[.t [0],.i [1,0],.i [1,1],.t [1,2],.s [1,3] 36 43,.s [1,4] 39 46]⟩
 |42=>some ⟨1,[.i []]⟩
 |_=>none
def hdT:Nat->Nat
 |13=>14|36=>43|37=>44|38=>45|39=>46|40=>47|41=>48|42=>49
 |_=>0
theorem FZ(f:Nat)(e:lO)(h:jJ f=some e):UK e:=by
 unfold jJ at h;split at h<;>first|(cases h;exact aef de)|cases h
def akX(H:Nat->Nat)(e:lO):Bool:=e.lq.all fun x=>match x with| .s _ g h=>Nat.beq h (H g)|_=>true
theorem aeg{H:Nat->Nat}{e:lO}(h:akX H e=true){o:List Nat}{g:Nat}(t:Fa.s o g k∈e.lq):k=H g:=dL (kI.1 h _ t)
theorem aeh(f:Nat)(e:lO)(h:jJ f=some e)(o:List Nat)(g k:Nat)(t:Fa.s o g k∈e.lq):k=hdT g:=by
 unfold jJ at h;split at h<;>first|(cases h;exact aeg de t)|cases h
def WB(S:Nat->Option lO)(j:WJ)(B:Nat):Prop:=∃n,Wt S j n/\n<=B
section
variable{S:Nat->Option lO}
theorem WB.mono{j:WJ}{B C:Nat}(h:WB S j B)(e:B<=C):WB S j C:=let⟨n,t,a⟩:=h;⟨n,t,gM a e⟩
theorem WB.e0{x:List DV}:WB S (.e [] x) 0:=⟨0,.e0 x,aQ _⟩
theorem WB.i{o:List Nat}{r:List Fa}{x:List DV}{B:Nat}(h:WB S (.e r x) B):WB S (.e (.i o::r) x) (B+1):=let⟨n,t,a⟩:=h;⟨n+1,.leaf _ _ _ _ (fun _ _ _ q=>by cases q) t,by omega⟩
theorem WB.t{o:List Nat}{r:List Fa}{x:List DV}{B:Nat}(h:WB S (.e r x) B):WB S (.e (.t o::r) x) (B+1):=let⟨n,a,i⟩:=h;⟨n+1,.leaf _ _ _ _ (fun _ _ _ q=>by cases q) a,by omega⟩
theorem WB.b{o:List Nat}{r:List Fa}{x:List DV}{B:Nat}(h:WB S (.e r x) B):WB S (.e (.b o::r) x) (B+1):=let⟨n,t,a⟩:=h;⟨n+1,.leaf _ _ _ _ (fun _ _ _ q=>by cases q) t,by omega⟩
theorem WB.s{o:List Nat}{g t:Nat}{r:List Fa}{x:List DV}{ys:bJ}{B C:Nat}(a:x[jK o]?=some (.sl ys))(h:WB S (.s g ys) B)(k:WB S (.e r x) C):WB S (.e (.s o g t::r) x) (B+C):=
 let⟨n,i,l⟩:=h;let⟨m,d,u⟩:=k;⟨n+m,.sub _ _ _ _ _ _ _ _ a i d,by omega⟩
theorem WB.nil{f:Nat}{e:lO}(t:S f=some e):WB S (.s f []) 0:=⟨0,.nil f e t,aQ _⟩
theorem WB.cons{f:Nat}{t:lO}(a:S f=some t){x:List DV}{xs:bJ}{B C:Nat}(o:x.length=t.es)(h:WB S (.e t.lq x) B)(k:WB S (.s f xs) C):WB S (.s f (x::xs)) (B+C):=
 let⟨n,i,d⟩:=h;let⟨m,r,l⟩:=k;⟨n+m,.cons f t a _ _ _ _ o i r,by omega⟩
theorem WB.list{f:Nat}{t:lO}(o:S f=some t){α:Type}{g:α->List DV}{B:Nat}:∀{l:List α},(∀a,a∈l->(g a).length=t.es/\WB S (.e t.lq (g a)) B)->WB S (.s f (l.map g)) (l.length*B)
 |[],_=>(WB.nil o).mono (cr _)
 |a::r,h=>(WB.cons o (h a (iE ..)).1 (h a (iE ..)).2 (WB.list o fun b i=>h b (iS _ i))).mono (by simp[jb];omega)
end
theorem DL(l:List ab):WB jJ (.s 36 (aR l)) l.length:=(WB.list (S:=jJ) (f:=36) rfl (g:=fun s=>[DV.str s]) (B:=1) (l:=l) fun _ _=>⟨rfl,WB.t WB.e0⟩).mono om
theorem ak2(l:List Int):WB jJ (.s 42 (fU l)) l.length:=(WB.list (S:=jJ) (f:=42) rfl (g:=fun n=>[DV.int .i64 n]) (B:=1) (l:=l) fun _ _=>⟨rfl,WB.i WB.e0⟩).mono om
mutual
def wi:Nd->Nat
 | .mk _ _ _ e t=>e.length+wj t+3
def wj:List Nd->Nat
 |[]=>0
 |k::r=>wi k+wj r
end
theorem CF(t:Nd):wi t=t.names.length+wj t.kids+3:=by cases t;rfl
theorem OQ(f h:Nat)(o:jJ f=some ⟨5,[.i [0],.i [1],.t [2],.s [3] 36 43,.s [4] f h]⟩):∀t:Nd,WB jJ (.s f (t.kids.map cT)) (wj t.kids):=by
 have e:∀(l:List Nd),(∀k,k∈l->WB jJ (.s f (k.kids.map cT)) (wj k.kids))->WB jJ (.s f (l.map cT)) (wj l):=by
  intro l
  induction l with
  |nil=>intro _;exact WB.nil o
  |cons k r a=>
   intro h;refine(WB.cons o (by cases k;rfl) ?_ (a fun x n=>h x (iS _ n)) (B:=wi k)).mono (by simp[wj]);refine(WB.i (WB.i (WB.t (WB.s (ys:=aR k.names) (by rw[DQ];rfl) (DL _) (WB.s (ys:=k.kids.map cT) (by rw[DQ];rfl) (h k (iE ..)) WB.e0))))).mono (by rw[CF];omega)
 refine Nd.ind fun t a=>e t.kids a
mutual
def IH:Nd->Nat
 | .mk _ _ _ e t=>e.length+DI t+1
def DI:List Nd->Nat
 |[]=>0
 |k::r=>IH k+DI r
end
theorem Je(t:Nd):IH t=t.names.length+DI t.kids+1:=by cases t;rfl
theorem OO:∀t:Nd,WB jJ (.s 38 (t.kids.map cK)) (DI t.kids):=by
 have o:jJ 38=some ⟨3,[.i [0],.s [1] 36 43,.s [2] 38 45]⟩:=rfl
 have e:∀(l:List Nd),(∀k,k∈l->WB jJ (.s 38 (k.kids.map cK)) (DI k.kids))->WB jJ (.s 38 (l.map cK)) (DI l):=by
  intro l
  induction l with
  |nil=>intro _;exact WB.nil o
  |cons k r a=>
   intro h;refine(WB.cons o (by cases k;rfl) ?_ (a fun x n=>h x (iS _ n)) (B:=IH k)).mono (by simp[DI]);refine(WB.i (WB.s (ys:=aR k.names) (by rw[mA];rfl) (DL _) (WB.s (ys:=k.kids.map cK) (by rw[mA];rfl) (h k (iE ..)) WB.e0))).mono (by rw[Je];omega)
 refine Nd.ind fun t a=>e t.kids a
theorem aiA(t:Nd):WB jJ (.s 37 (t.kids.map cT)) (wj t.kids):=OQ 37 44 rfl t
theorem Yx(t:Nd):WB jJ (.s 39 (t.kids.map cT)) (wj t.kids):=OQ 39 46 rfl t
def zB:Nat:=1000000
structure FsB(s:Fs):Prop where
 kd:IH s.kind<=zB
 sv:wi s.save<=zB
 lf:wi s.lift<=zB
structure JR(e:Te):Prop where
 b:wi e.event.body<=zB
 f:IH e.form<=zB
 l:wi e.lift<=zB
 s:wi e.AU.start<=zB
 st:e.AU.As.length<=zB/\∀s,s∈e.AU.As->FsB s
 sp:e.AU.steps.length<=zB/\∀s,s∈e.AU.steps->wi s.act<=zB
 kp:e.ly.bj.length<=zB
theorem ajz{s:Fs}(h:FsB s):(qh s).length=13/\WB jJ (.e [.i [0,0],.s [0,1] 36 43,.s [0,2] 38 45,.i [3,0],.i [3,1],.t [3,2],.s [3,3] 36 43,.s [3,4] 39 46,.i [8,0],.i [8,1],.t [8,2],.s [8,3] 36 43,.s [8,4] 39 46] (qh s)) (3*zB):=by
 refine⟨rfl,(WB.i (WB.s (ys:=aR s.kind.names) rfl (DL _) (WB.s rfl (OO s.kind) (WB.i (WB.i (WB.t (WB.s rfl (DL s.save.names) (WB.s rfl (Yx s.save) (WB.i (WB.i (WB.t (WB.s rfl (DL s.lift.names) (WB.s rfl (Yx s.lift) WB.e0))))))))))))).mono ?_⟩;have a:=h.kd;have o:=h.sv;have n:=h.lf;rw[Je]at a;rw[CF]at o n;simp only[zB]at*;omega
theorem ajA{s:Ft}(h:wi s.act<=zB):(qN s).length=6/\WB jJ (.e [.t [0],.i [1,0],.i [1,1],.t [1,2],.s [1,3] 36 43,.s [1,4] 39 46] (qN s)) (2*zB):=by
 refine⟨rfl,(WB.t (WB.i (WB.i (WB.t (WB.s (ys:=aR s.act.names) rfl (DL _) (WB.s rfl (Yx s.act) WB.e0)))))).mono ?_⟩;rw[CF]at h;simp only[zB]at h⊢;omega
theorem ajB{e:Te}(h:JR e):(gH e).length=34/\WB jJ (.e [.i [0],.t [1],.t [2,0],.i [2,1],.i [2,2,0],.i [2,2,1],.t [2,2,2],.s [2,2,3] 36 43,.s [2,2,4] 37 44,.i [9],.i [10],.t [11],.i [12,0],.s [12,1] 36 43,.s [12,2] 38 45,.i [15,0],.i [15,1],.t [15,2],.s [15,3] 36 43,.s [15,4] 39 46,.t [20,0],.s [20,1] 40 47,.i [20,2,0],.i [20,2,1],.t [20,2,2],.s [20,2,3] 36 43,.s [20,2,4] 37 44,.s [20,7] 41 48,.i [28,0],.t [28,1],.b [28,2],.i [28,3],.i [28,4],.s [28,5] 42 49] (gH e)) 10000000000000:=by
 have a:=WB.list (S:=jJ) (f:=40) rfl (g:=qh) (l:=e.AU.As) fun s o=>ajz (h.st.2 s o)
 have n:=WB.list (S:=jJ) (f:=41) rfl (g:=qN) (l:=e.AU.steps) fun s o=>ajA (h.sp.2 s o)
 refine⟨rfl,(WB.i (WB.t (WB.t (WB.i (WB.i (WB.i (WB.t (WB.s rfl (DL e.event.body.names) (WB.s rfl (aiA e.event.body) (WB.i (WB.i (WB.t (WB.i (WB.s rfl (DL e.form.names) (WB.s rfl (OO e.form) (WB.i (WB.i (WB.t (WB.s rfl (DL e.lift.names) (WB.s rfl (Yx e.lift)
  (WB.t (WB.s rfl a (WB.i (WB.i (WB.t (WB.s rfl (DL e.AU.start.names) (WB.s rfl (aiA e.AU.start) (WB.s rfl n (WB.i (WB.t (WB.b (WB.i (WB.i (WB.s rfl (ak2 e.ly.bj) WB.e0)))))))))))))))))))))))))))))))))).mono ?_⟩
 have u:=h.b;have c:=h.f;have m:=h.l;have w:=h.s;have r:=h.st.1;have d:=h.sp.1;have y:=h.kp;rw[CF]at u m w;rw[Je]at c;have r:=k7 (3*zB) r;have d:=k7 (2*zB) d;simp only[zB]at*;omega
theorem agd{l:List Te}(a:l.length<=100000)(h:∀e,e∈l->JR e):WB jJ (.s 13 (l.map gH)) 1000000000000000000:=
 (WB.list (S:=jJ) (f:=13) rfl (g:=gH) (l:=l) fun e t=>ajB (h e t)).mono om
variable{rl:bm}{nb:Nat}{bx:List Bx}{v:AV}
inductive QS(L:Lk)(env:Env):qp->AV->Prop where
 |lR (b:Nat):QS L env (.lR (.t b)) (look env b)
 |Tz (n:Int):QS L env (.lR (zi n)) (.d (.int .i64 n))
 |Hf (es a b:Nat) (xs:bJ) (kk:IntKind) (i:Int) (x:List DV) (h1:look env a=.d (.sl xs)) (h2:look env b=.d (.int kk i)) (h3:0<=i) (h4:xs[i.toNat]?=some x) (h5:x.length=es):QS L env (.qI es (.t a) (.t b)) (.gA x)
 |mT (off a:Nat) (cs:List DV) (h1:look env a=.gA cs) (h2:off<=cs.length):QS L env (.mT off (.t a)) (.gA (cs.drop off))
 |load (a:Nat) (cs:List DV) (d:DV) (h1:look env a=.gA cs) (h2:cs[0]?=some d):QS L env (.load 1 false (.t a)) (.d d)
 |eO (op:Gt) (a:Nat) (y:Arg) (p q:Int) (d:DV) (h1:look env a=.d (.int .i64 p)) (h2:bL L.gl env y=.d (.int .i64 q)) (h:∀K:DV->Prop,K d->l8 .i64 op p q K):QS L env (.eO .i64 op (.t a) y) (.d d)
 |oL (op:Gt) (a b:Nat) (p q:List UInt8) (d:DV) (h1:look env a=.d (.str p)) (h2:look env b=.d (.str q)) (h:∀K:DV->Prop,K d->LS op p q K):QS L env (.oL op (.t a) (.t b)) (.d d)
 |ri (a b:Nat) (p q:Bool) (h1:look env a=.d (.bool p)) (h2:look env b=.d (.bool q)):QS L env (.ri true (.t a) (.t b)) (.d (.bool (p !=q)))
 |GN (f a:Nat) (v:AV) (h:CP L f [look env a] v):QS L env (.call f [.t a]) v
 |call2 (f a b:Nat) (v:AV) (h:CP L f [look env a,look env b] v):QS L env (.call f [.t a,.t b]) v
 |len (a:Nat) (xs:bJ) (h1:look env a=.d (.sl xs)) (h2:xs.length<=140737488355328):QS L env (.pj (.t a)) (.d (.int .i64 xs.length))
 |not (a:Nat) (h1:look env a=.d (.bool true)):QS L env (.not (.t a)) (.d (.bool false))
def QR(L:Lk):List AI->Env->(Env->Prop)->Prop
 |[],e,K=>K e
 |⟨some d,none,o⟩::r,e,K=> ∃v,QS L e o v/\QR L r ((d,v)::e) K
 |_::_,_,_=>False
section
variable{L:Lk}
theorem Jb{env:Env}{n:Int}:bL L.gl env (zi n)=.d (.int .i64 n):=rfl
theorem QS.one{env:Env}{o:qp}(h:QS L env o v){X:Option (AV->Prop)}{K:AV->St->Prop}(m:∀u,(∀s,look u s=look env s)->K v ⟨u,nb,bx,rl⟩):
  cB L.gl (uJ L X) o ⟨env,nb,bx,rl⟩ K:=by
 have t:=m env fun _=>rfl
 have call:∀{f:Nat}{as:List AV}{v:AV},CP L f as v->K v ⟨env,nb,bx,rl⟩->uJ L X f as nb bx rl fun v nb bx rl=>K v ⟨env,nb,bx,rl⟩:=fun h t=>by
  cases X with
  |none=>exact⟨_,_,_,_,h nb bx rl,t⟩
  |some X=>exact .inl ⟨_,_,_,_,h nb bx rl,t⟩
 cases h with
 |lR b=>simp only[cB,force_eq];exact t
 |Tz n=>simp only[cB,force_eq,Jb];exact t
 |Hf es a b g A i x e l k j z=>simp only[cB,bL,e,l];exact⟨x,k,j,z,t⟩
 |mT off a cs e l=>
  simp only[cB,bL,e]
  have:∀(off:Nat)(cs:List DV)(K:List DV->Prop),off<=cs.length->K (cs.drop off)->uN cs off K:=by
   intro off
   induction off with
   |zero=>intro cs K _ h;simpa[uN]using h
   |succ n E=>intro cs K w h;cases cs with
    |nil=>simp at w
    |cons c r=>exact E r K (by simpa using w) (by simpa using h)
  exact this off cs _ l t
 |load a cs d e l=>
  simp only[cB,bL,e];cases cs with
  |nil=>simp at l
  |cons c r=>simp at l;subst l;cases r<;>simpa[oM,xL,iO,force_eq]using t
 |eO T a y p q d e l h=>simp only[cB,l];simp only[bL,e,Hk];exact h _ t
 |oL T a b p q d e l h=>simp only[cB,bL,e,l];exact h _ t
 |ri a b p q e l=>simp only[cB,bL,e,l];exact t
 |GN f a v h=>simp only[cB,qM,bL,force_eq];exact call h t
 |call2 f a b v h=>simp only[cB,qM,bL,force_eq];exact call h t
 |len a g e l=>simp only[cB,bL,e];exact fun _=>t
 |not a e=>
  simp only[cB,bL,e,ov];exact m _ fun s=>by rw[aE];split<;>simp_all
def qe(e t:Env):Prop:=∀s,look t s=look e s
theorem QS.same{e w:Env}(h:qe e w){o:qp}(p:QS L e o v):QS L w o v:=by
 cases p with
 |lR b=>rw[<-h b];exact .lR b
 |Tz n=>exact .Tz n
 |Hf es a b l g i x t s r k j=>exact .Hf es a b l g i x (by rw[h,t]) (by rw[h,s]) r k j
 |mT u a c t s=>exact .mT u a c (by rw[h,t]) s
 |load a c d t s=>exact .load a c d (by rw[h,t]) s
 |eO m a y p q d t s r=>exact .eO m a y p q d (by rw[h,t]) (by cases y<;>first|exact s|(simp only[bL]at s⊢;rw[h,s])) r
 |oL m a b p q d t s r=>exact .oL m a b p q d (by rw[h,t]) (by rw[h,s]) r
 |ri a b p q t s=>exact .ri a b p q (by rw[h,t]) (by rw[h,s])
 |GN f a v t=>exact .GN f a v (by rw[h];exact t)
 |call2 f a b v t=>exact .call2 f a b v (by rw[h,h];exact t)
 |len a l t s=>exact .len a l (by rw[h,t]) s
 |not a t=>exact .not a (by rw[h,t])
theorem qe.cons{e t:Env}(h:qe e t)(d:Nat)(v:AV):qe ((d,v)::e) ((d,v)::t):=fun s=>by
 rw[aE,aE,h s]
theorem QR.kW{X:Option (AV->Prop)}{nb:Nat}{bx:List Bx}{rl:bm}{K:St->Prop}:∀{a:List AI}{e t:Env},qe e t->QR L a e (fun t=> ∀i,qe t i->K ⟨i,nb,bx,rl⟩)->Go.Ab.kW L.gl (uJ L X) a ⟨t,nb,bx,rl⟩ K
 |[],_,t,h,k=>k t h
 |⟨some d,none,o⟩::r,e,t,h,⟨v,p,k⟩=>by
  simp only[Go.Ab.kW,uU];exact(p.same h).one fun i n=>QR.kW (fun s=>by rw[aE,aE,n s,h s]) k
 |⟨none,_,_⟩::_,_,_,_,k=>k.elim
 |⟨some _,some _,_⟩::_,_,_,_,k=>k.elim
def dOp:qp->Bool
 | .pj _| .not _=>false
 |_=>true
theorem QS.akL{env:Env}{o:qp}(h:QS L env o v)(z:dOp o=true){l:Env}(u:∀i,Arg.t i∈ik o->look l i=look env i){K:AV->Prop}(w:K v):Dl L.gl (dk L) (bA L) o l K:=by
 cases h with
 |lR b=>have:=u b (by simp[ik]);simp only[Dl,oj,cB,force_eq,bL,this];exact w
 |Tz n=>simp only[Dl,oj,cB,force_eq,Jb];exact w
 |Hf es a b E N i x m e T A O=>
  have s:=u a (by simp[ik]);have g:=u b (by simp[ik]);simp only[Dl,oj,cB,bL,s,g,m,e];exact⟨x,T,A,O,w⟩
 |mT k a j m e=>
  have s:=u a (by simp[ik]);have:=(QS.mT (L:=L) (env:=l) k a j (by rw[s,m]) e).one (X:=none) (nb:=0) (bx:=[]) (rl:=[]) (K:=fun v _=>K v) fun _ _=>w
  exact this
 |load a j d m e=>
  have s:=u a (by simp[ik]);simp only[Dl,bL,s,m];cases j with
  |nil=>simp at e
  |cons c r=>simp at e;subst e;cases r<;>simpa[oM,xL,iO,force_eq]using w
 |eO I a y p q d m e h=>
  have s:=u a (by simp[ik])
  have g:bL L.gl l y=.d (.int .i64 q):=by
   cases y with
   |t i=>have:=u i (by simp[ik]);simp only[bL]at e⊢;rw[this,e]
   |_=>exact e
  simp only[Dl,oj,cB,g];simp only[bL,s,m,Hk];exact h _ w
 |oL I a b p q d m e h=>
  have s:=u a (by simp[ik]);have g:=u b (by simp[ik]);simp only[Dl,oj,cB,bL,s,g,m,e];exact h _ w
 |ri a b p q m e=>
  have s:=u a (by simp[ik]);have g:=u b (by simp[ik]);simp only[Dl,oj,cB,bL,s,g,m,e];exact w
 |GN f a v h=>
  have s:=u a (by simp[ik]);simp only[Dl,qM,bL,force_eq,s];exact⟨v,h,w⟩
 |call2 f a b v h=>
  have s:=u a (by simp[ik]);have g:=u b (by simp[ik]);simp only[Dl,qM,bL,force_eq,s,g];exact⟨v,h,w⟩
 |len a E m e=>cases z
 |not a m=>cases z
theorem eI{env:Env}:∀{as:List Arg}{K:Env->Prop},(∀e,(∀i,Arg.t i∈as->look e i=look env i)->K e)->rM env as K
 |[],_,h=>h [] fun i a=>by cases a
 | .t j::r,K,h=>by
  simp only[rM,force_eq];refine eI fun e o=>h _ fun i a=>?_
  rw[aE];split
  .rename_i q;rw[q]
  .rename_i q;refine o i ?_;cases a with
   |head=>exact absurd rfl q
   |tail _ a=>exact a
 | .k _::r,K,h=>eI (as:=r) fun e o=>h e fun i a=>o i (by cases a with|tail _ a=>exact a)
 | .ka _::r,K,h=>eI (as:=r) fun e o=>h e fun i a=>o i (by cases a with|tail _ a=>exact a)
 | .g _::r,K,h=>eI (as:=r) fun e o=>h e fun i a=>o i (by cases a with|tail _ a=>exact a)
 | .f _::r,K,h=>eI (as:=r) fun e o=>h e fun i a=>o i (by cases a with|tail _ a=>exact a)
theorem QR.sY{nb:Nat}{bx:List Bx}{rl:bm}{K:St->Prop}:∀{c:List AI}{e:Env}{i:Nat}{w:List (Nat×List Bx)}{g:List Rd},c.all (fun a=>dOp a.o)=true->QR L c e (fun z=>K ⟨z,nb,bx,rl⟩)->Go.Ab.sY L.gl (dk L) (bA L) [] [] i c ⟨e,nb,bx,rl⟩ w g K
 |[],_,_,_,_,_,k=>k
 |⟨some d,none,o⟩::r,e,i,w,g,j,⟨v,p,k⟩=>by
  simp only[List.all_cons,bT]at j
  have step:∀{l:Env},(∀i,Arg.t i∈ik o->look l i=look e i)->Dl L.gl (dk L) (bA L) o l fun v=>Go.Ab.sY L.gl (dk L) (bA L) [] [] (i+1) r ⟨(d,v)::e,nb,bx,rl⟩ w g K:=
   fun s=>p.akL j.1 s (QR.sY j.2 k)
  simp only[Go.Ab.sY,Ji,dU,uU];cases p with
  |load a E I u m=>
   simp only[bL,u];exact eI fun l s=>step s
  |lR b=>exact eI fun l s=>step s
  |Tz n=>exact eI fun l s=>step s
  |Hf es a b T N i x u m S H R=>exact eI fun l s=>step s
  |mT A a E u m=>exact eI fun l s=>step s
  |eO O a y p q d u m h=>exact eI fun l s=>step s
  |oL O a b p q d u m h=>exact eI fun l s=>step s
  |ri a b p q u m=>exact eI fun l s=>step s
  |GN f a v h=>exact eI fun l s=>step s
  |call2 f a b v h=>exact eI fun l s=>step s
  |len a T u m=>exact eI fun l s=>step s
  |not a u=>exact eI fun l s=>step s
 |⟨none,_,_⟩::_,_,_,_,_,_,k=>k.elim
 |⟨some _,some _,_⟩::_,_,_,_,_,_,k=>k.elim
end
variable{i:Nat}{xs:bJ}{m es:Nat}
def Pv:AC:=.seq (zr [zs 4 (.lR (zi (-1)))]) .ret
def hP(tx es N:Nat):Fa->List AC×Nat
 | .i o=>([.seq (zr (zm N 0::zm (N+1) 5::D1 es (N+2) N (N+1) o [zl (N+2+o.length+1) 1 (N+2+o.length),zm (N+2+o.length+2) 1,zs (N+2+o.length+3) (.eO .i64 .neq (.t (N+2+o.length+1)) (.t (N+2+o.length+2)))])) (.cond (.t (N+2+o.length+3)) Pv .skip),KT (N+2+o.length+4)],N+2+o.length+6)
 | .t o=>([.seq (.yY (zm N 0::zm (N+1) 5::D1 es (N+2) N (N+1) o [zl (N+2+o.length+1) 1 (N+2+o.length),zm (N+2+o.length+2) 1,zs (N+2+o.length+3) (.call tx [.t (N+2+o.length+2)]),zs (N+2+o.length+4) (.oL .neq (.t (N+2+o.length+1)) (.t (N+2+o.length+3)))]) [] []) (.cond (.t (N+2+o.length+4)) Pv .skip),KT (N+2+o.length+5)],N+2+o.length+7)
 | .b o=>([.seq (zr (zm N 0::zm (N+1) 5::D1 es (N+2) N (N+1) o [zl (N+2+o.length+1) 1 (N+2+o.length),zm (N+2+o.length+2) 1,zs (N+2+o.length+3) (.eO .i64 .rem (.t (N+2+o.length+2)) (zi 3)),zs (N+2+o.length+4) (.eO .i64 .eql (.t (N+2+o.length+3)) (zi 0)),zs (N+2+o.length+5) (.ri true (.t (N+2+o.length+1)) (.t (N+2+o.length+4)))])) (.cond (.t (N+2+o.length+5)) Pv .skip),KT (N+2+o.length+6)],N+2+o.length+8)
 | .s o _ h=>([zr (zm N 0::zm (N+1) 5::D1 es (N+2) N (N+1) o [zl (N+2+o.length+1) 1 (N+2+o.length),zm (N+2+o.length+2) 1,zs (N+2+o.length+3) (.call h [.t (N+2+o.length+1),.t (N+2+o.length+2)]),zm 1 (N+2+o.length+3)]),.seq (zr [zm (N+2+o.length+4) 1,zs (N+2+o.length+5) (.eO .i64 .lss (.t (N+2+o.length+4)) (zi 0))]) (.cond (.t (N+2+o.length+5)) Pv .skip)],N+2+o.length+6)
def PF(tx es:Nat):Nat->List Fa->List AC
 |_,[]=>[]
 |N,x::r=>(hP tx es N x).1++PF tx es (hP tx es N x).2 r
def hN(tx es:Nat):Nat->List Fa->Nat
 |N,[]=>N
 |N,x::r=>hN tx es (hP tx es N x).2 r
def Zj(tx:Nat)(s:lO):AF:=mkF (hN tx s.es 12 s.lq) (wU (PF tx s.es 12 s.lq))
def Lh(K:Env->Prop):AE->St->Prop:=fun x σ=>x=.normal/\∃e,σ=⟨e,0,[],[]⟩/\K e
def Ws(L:Lk)(n:Nat):List AC->Env->(Env->Prop)->Prop
 |[],e,K=>K e
 |p::r,e,K=>W L n ⟨0,0,none⟩ p ⟨e,0,[],[]⟩ (Lh fun t=>Ws L n r t K)
section
variable{L:Lk}{n:Nat}
theorem oz{K t:Env->Prop}(h:∀e,K e->t e){x:AE}{σ:St}:Lh K x σ->Lh t x σ:=fun⟨a,e,o,i⟩=>⟨a,e,o,h e i⟩
theorem Ws.mono:∀{ps:List AC}{e:Env}{K t:Env->Prop},Ws L n ps e K->(∀e,K e->t e)->Ws L n ps e t
 |[],_,_,_,h,k=>k _ h
 |_::_,_,_,_,h,k=>W.mono h fun _ _=>oz fun _ h=>Ws.mono h k
theorem Ws.app:∀{ps t:List AC}{e:Env}{K:Env->Prop},Ws L n ps e (fun a=>Ws L n t a K)->Ws L n (ps++t) e K
 |[],_,_,_,h=>h
 |_::ps,_,_,_,h=>W.mono h fun _ _=>oz fun _ h=>Ws.app (ps:=ps) h
theorem Ws.wU:∀{ps:List AC}{e:Env}{K:Env->Prop},Ws L n ps e K->W L n ⟨0,0,none⟩ (wU ps) ⟨e,0,[],[]⟩ (Lh K)
 |[],e,_,h=>eM ⟨rfl,e,rfl,h⟩
 |[_],_,_,h=>h
 |_::q::r,_,_,h=>dW (W.mono h fun x σ⟨t,e,a,o⟩=>by subst t;subst a;exact Ws.wU (ps:=q::r) o)
theorem QR.mono:∀{t:List AI}{e:Env}{P a:Env->Prop},QR L t e P->(∀e,P e->a e)->QR L t e a
 |[],_,_,_,k,h=>h _ k
 |⟨some _,none,_⟩::_,_,_,_,⟨v,p,k⟩,h=>⟨v,p,QR.mono k h⟩
 |⟨none,_,_⟩::_,_,_,_,k,_=>k.elim
 |⟨some _,some _,_⟩::_,_,_,_,k,_=>k.elim
theorem abq{t:List AI}{e:Env}{K:Env->Prop}(h:QR L t e fun o=> ∀a,qe o a->K a):W L n ⟨0,0,none⟩ (zr t) ⟨e,0,[],[]⟩ (Lh K):=
 eY (QR.kW (X:=none) (fun _=>rfl) (h.mono fun _ h a i=>⟨rfl,a,rfl,h a i⟩))
theorem Xd{c:Nat}{A:AC}{e:Env}{K:Env->Prop}(h:look e c=.d (.bool false))(o:∀a,qe e a->K a):W L n ⟨0,0,none⟩ (.cond (.t c) A .skip) ⟨e,0,[],[]⟩ (Lh K):=by
 refine eb ?_;simp only[bL,h,Xv,ud,ov];exact eM ⟨rfl,_,rfl,o _ fun s=>by rw[aE];split<;>simp_all⟩
theorem qe.trans{a b c:Env}(h:qe a b)(k:qe b c):qe a c:=fun s=>(k s).trans (h s)
theorem Pa{i:List AI}{c:Nat}{A:AC}{e:Env}{K:Env->Prop}(h:QR L i e fun a=>look a c=.d (.bool false)/\∀o,qe a o->K o):W L n ⟨0,0,none⟩ (.seq (zr i) (.cond (.t c) A .skip)) ⟨e,0,[],[]⟩ (Lh K):=by
 refine dW (W.mono (eY (Q:=Lh fun a=>look a c=.d (.bool false)/\∀o,qe a o->K o) (QR.kW (X:=none) (e:=e) (fun _=>rfl) (nb:=0) (bx:=[]) (rl:=[]) (K:=fun σ=>Lh (fun a=>look a c=.d (.bool false)/\∀o,qe a o->K o) .normal σ) ?_)) fun x σ⟨u,a,m,s,r⟩=>?_)
 .exact h.mono fun a⟨s,r⟩o l=>⟨rfl,o,rfl,(l c).trans s,fun f w=>r f (l.trans w)⟩
 .subst u;subst m;exact Xd s r
theorem abr{i:List AI}{c:Nat}{A:AC}{e:Env}{K:Env->Prop}(l:i.all (fun a=>dOp a.o)=true)(h:QR L i e fun s=>look s c=.d (.bool false)/\∀r,qe s r->K r):W L n ⟨0,0,none⟩ (.seq (.yY i [] []) (.cond (.t c) A .skip)) ⟨e,0,[],[]⟩ (Lh K):=by
 exact dW (E6 (QR.sY l (h.mono fun s⟨u,m⟩=>Xd u m)))
theorem Yg{K:Env->Prop}{l:List AI}:∀(o:List Nat)(m:Nat)(cs:List DV)(e:Env),look e m=.gA cs->jK o<=cs.length->
  (∀t,(∀s,s<m->look t s=look e s)->look t (m+o.length)=.gA (cs.drop (jK o))->QR L l t K)->QR L (R3 m o++l) e K
 |[],m,cs,e,h,_,k=>k e (fun _ _=>rfl) (by simpa[jK]using h)
 |a::r,m,cs,e,h,i,k=>by
  simp only[jK]at i;simp only[R3,yg,QR,zf];refine⟨_,.mT a m cs h om,Yg r (m+1) (cs.drop a) _ (by rw[aE,if_pos rfl]) (by simp;omega) fun t n d=>k t (fun s u=>?_) ?_⟩
  .rw[n s om,aE,if_neg om]
  .rw[show m+(a::r).length=m+1+r.length by simp;omega,d,Dg];simp only[jK]
theorem QC{K:Env->Prop}{l:List AI}{a n:Nat}{o:List Nat}{e:Env}{x:List DV}(h:look e a=.d (.sl xs))(r:look e n=.d (.int .i64 i))(u:xs[i]?=some x)(c:x.length=es)(v:jK o<es){d:DV}(f:x[jK o]?=some d)(k:∀t,(∀s,s<m->look t s=look e s)->look t (m+o.length+1)=.d d->QR L l t K):QR L (D1 es m a n o (zl (m+o.length+1) 1 (m+o.length)::l)) e K:=by
 simp only[D1,QR,zs];refine⟨_,.Hf es a n xs .i64 i x h r om (by simpa using u) c,Yg o m x _ (by rw[aE,if_pos rfl]) om fun t w y=>?_⟩;simp only[zl,QR];refine⟨_,.load _ _ d y (by simpa using f),k _ (fun s p=>?_) (by rw[aE,if_pos rfl])⟩;rw[aE,if_neg om,w s p,aE,if_neg om]
structure He(e:Env)(xs:bJ)(i:Nat)(k:Int):Prop where
 v:look e 0=.d (.sl xs)
 i:look e 5=.d (.int .i64 i)
 k:look e 1=.d (.int .i64 k)
theorem He.to{e t:Env}{k k':Int}(h:He e xs i k)(n:5<m)(a:∀s,s<m->s≠1->look t s=look e s)(o:look t 1=.d (.int .i64 k')):He t xs i k':=
 ⟨by rw[a 0 om om];exact h.v,by rw[a 5 om om];exact h.i,o⟩
theorem UM{e:Env}{k:Int}{K:Env->Prop}(o:5<m)(h:He e xs i k)(u:0<=k/\k<9223372036854775807)(r:∀t,He t xs i (k+1)->K t):W L n ⟨0,0,none⟩ (KT m) ⟨e,0,[],[]⟩ (Lh K):=by
 refine abq ?_;simp only[QR,zm,zs];refine⟨_,.lR 1,_,.eO .add m (zi 1) k 1 (.int .i64 (k+1)) (by rw[aE,if_pos rfl,h.k]) rfl (fun K d=>by simp only[l8];rw[wrap64 om];exact d),_,.lR (m+1),fun l a=>r l ?_⟩;refine h.to (m:=m) o (fun s c f=>?_) ?_
 .rw[a s,aE,if_neg om,aE,if_neg om,aE,if_neg om]
 .rw[a 1,aE,if_pos rfl,aE,if_pos rfl]
end
end Go.Ab
namespace Go.Ab
open Go
attribute [local irreducible] bI cf cw bW bA dk dT
set_option maxHeartbeats 4000000



variable{L:Lk}
theorem aaD{b:Bool}{x y:Prop}(h:y):ov (b !=b) x y:=by cases b<;>exact h
def aeq{α:Type}(c:α->Nat):List α->Nat
 |[]=>0
 |x::r=>c x+aeq c r
mutual
def Nd.wtK:Nd->Nat
 | .mk _ _ _ e t=>1+kX e+aiB t
def aiB:List Nd->Nat
 |[]=>0
 |k::r=>k.wtK+aiB r
end
theorem Qt(e:aJ L 180 agH):∀l:List ab,CP L 180 [.d (.sl (aR l)),.d (.sl (aR l))] (dB true):=by
 intro l;by_cases a:l.length<=140737488355328
 .refine e.cp ?_
  repeat' ((conv=>whnf);first|rw[wrap64 om]|rw[bl];intro _|refine aM (aD (fun _=>?_) (fun h=>absurd rfl h))|refine aM (aH (fun _=>?_) (fun h=>absurd rfl h))|apply aq|refine bY ?_|refine t _ om (trivial) lz|(fail_if_success (have o:=t));refine LW.count l.length (fun i=>True) (fun i=>⟨[(5,dI i),(0,.d (.sl (aR l))),(1,.d (.sl (aR l)))],0,[],[]⟩) (fun _=>⟨rfl,rfl,rfl⟩) (fun i n s t=>?_) (trivial) _ lz|exact cu rfl|intro _)
 .refine e.cp ?_
  repeat' ((conv=>whnf);first|exact xo|rw[bl];intro _|fail)
theorem ZW(e:aJ L 185 agJ):∀l:List Int,CP L 185 [.d (.sl (fU l)),.d (.sl (fU l))] (dB true):=by
 intro l;by_cases a:l.length<=140737488355328
 .refine e.cp ?_
  repeat' ((conv=>whnf);first|rw[wrap64 om]|rw[Jm];intro _|refine aM (aD (fun _=>?_) (fun h=>absurd rfl h))|apply aq|refine bY ?_|refine Em om ?_|refine t _ om (trivial) lz|(fail_if_success (have o:=t));refine LW.count l.length (fun i=>True) (fun i=>⟨[(5,dI i),(0,.d (.sl (fU l))),(1,.d (.sl (fU l)))],0,[],[]⟩) (fun _=>⟨rfl,rfl,rfl⟩) (fun i n s t=>?_) (trivial) _ lz|exact cu rfl|intro _)
 .refine e.cp ?_
  repeat' ((conv=>whnf);first|exact xo|rw[Jm];intro _|fail)
theorem V2(e:aJ L 255 abD)(l:List Nd)(h:∀i(h:i<l.length),CP L 179 [aT l[i],aT l[i]] (dB true)):CP L 255 [.d (.sl (l.map cT)),.d (.sl (l.map cT))] (dB true):=by
 by_cases a:l.length<=140737488355328
 .refine e.cp ?_
  repeat' ((conv=>whnf);first|rw[wrap64 om]|rw[ca];intro _|refine aM (aD (fun _=>?_) (fun h=>absurd rfl h))|apply aq|refine bY ?_|refine iu (h i om) ?_|refine t _ om (trivial) lz|(fail_if_success (have o:=t));refine LW.count l.length (fun i=>True) (fun i=>⟨[(5,dI i),(0,.d (.sl (l.map cT))),(1,.d (.sl (l.map cT)))],0,[],[]⟩) (fun _=>⟨rfl,rfl,rfl⟩) (fun i n s t=>?_) (trivial) _ lz|exact cu rfl|intro _)
 .refine e.cp ?_
  repeat' ((conv=>whnf);first|exact xo|rw[ca];intro _|fail)
theorem ZY(o:aJ L 179 agG)(e:aJ L 255 abD)(n:∀l:List ab,CP L 180 [.d (.sl (aR l)),.d (.sl (aR l))] (dB true)):∀t:Nd,CP L 179 [aT t,aT t] (dB true):=by
 refine Nd.ind fun t a=>?_
 have s:=V2 e t.kids (fun i h=>a _ (eu h));have r:=n t.names;refine o.cp ?_
 repeat' ((conv=>whnf);first|refine aM (aD (fun _=>?_) (fun h=>absurd rfl h))|refine aM (aH (fun _=>?_) (fun h=>absurd rfl h))|refine ak r ?_|refine ak s ?_|exact cu rfl|fail)
theorem K6(e:aJ L 182 c182)(l:List Nd)(h:∀i(h:i<l.length),CP L 108 [aT l[i],aT l[i]] (dB true)):CP L 182 [.d (.sl (l.map cT)),.d (.sl (l.map cT))] (dB true):=by
 by_cases a:l.length<=140737488355328
 .refine e.cp ?_
  repeat' ((conv=>whnf);first|rw[wrap64 om]|rw[ca];intro _|refine aM (aD (fun _=>?_) (fun h=>absurd rfl h))|apply aq|refine bY ?_|refine iu (h i om) ?_|refine t _ om (trivial) lz|(fail_if_success (have o:=t));refine LW.count l.length (fun i=>True) (fun i=>⟨[(5,dI i),(0,.d (.sl (l.map cT))),(1,.d (.sl (l.map cT)))],0,[],[]⟩) (fun _=>⟨rfl,rfl,rfl⟩) (fun i n s t=>?_) (trivial) _ lz|exact cu rfl|intro _)
 .refine e.cp ?_
  repeat' ((conv=>whnf);first|exact xo|rw[ca];intro _|fail)
theorem MH(o:aJ L 108 agr)(e:aJ L 182 c182)(n:∀l:List ab,CP L 180 [.d (.sl (aR l)),.d (.sl (aR l))] (dB true)):∀t:Nd,CP L 108 [aT t,aT t] (dB true):=by
 refine Nd.ind fun t a=>?_
 have s:=K6 e t.kids (fun i h=>a _ (eu h));have r:=n t.names;refine o.cp ?_
 repeat' ((conv=>whnf);first|refine aM (aD (fun _=>?_) (fun h=>absurd rfl h))|refine aM (aH (fun _=>?_) (fun h=>absurd rfl h))|refine ak r ?_|refine ak s ?_|exact cu rfl|fail)
theorem V1(e:aJ L 181 abA)(l:List Nd)(h:∀i(h:i<l.length),CP L 107 [aK l[i],aK l[i]] (dB true)):CP L 181 [.d (.sl (l.map cK)),.d (.sl (l.map cK))] (dB true):=by
 by_cases a:l.length<=140737488355328
 .refine e.cp ?_
  repeat' ((conv=>whnf);first|rw[wrap64 om]|rw[dC];intro _|refine aM (aD (fun _=>?_) (fun h=>absurd rfl h))|apply aq|refine bY ?_|refine iu (h i om) ?_|refine t _ om (trivial) lz|(fail_if_success (have o:=t));refine LW.count l.length (fun i=>True) (fun i=>⟨[(5,dI i),(0,.d (.sl (l.map cK))),(1,.d (.sl (l.map cK)))],0,[],[]⟩) (fun _=>⟨rfl,rfl,rfl⟩) (fun i n s t=>?_) (trivial) _ lz|exact cu rfl|intro _)
 .refine e.cp ?_
  repeat' ((conv=>whnf);first|exact xo|rw[dC];intro _|fail)
theorem ZX(o:aJ L 107 c107)(e:aJ L 181 abA)(n:∀l:List ab,CP L 180 [.d (.sl (aR l)),.d (.sl (aR l))] (dB true)):∀t:Nd,CP L 107 [aK t,aK t] (dB true):=by
 refine Nd.ind fun t a=>?_
 have s:=V1 e t.kids (fun i h=>a _ (eu h));have r:=n t.names;refine o.cp ?_
 repeat' ((conv=>whnf);first|refine aM (aD (fun _=>?_) (fun h=>absurd rfl h))|refine ak r ?_|refine ak s ?_|exact cu rfl|fail)
def Ev.sz(e:Ev):Nat:=e.xq.length+(e.body.wt-1)
def Pw.sz(p:Pw):Nat:=p.data.length+p.bj.length
def Fs.sz(s:Fs):Nat:=(s.kind.wtK-1)+(s.save.wt-1)+(s.lift.wt-1)
def Ft.sz(s:Ft):Nat:=s.xq.length+(s.act.wt-1)
def Pl.sz(p:Pl):Nat:=p.name.length+(p.As.length+aeq Fs.sz p.As)+(p.start.wt-1)+(p.steps.length+aeq Ft.sz p.steps)
def Te.sz(e:Te):Nat:=e.key.length+e.event.sz+e.name.length+(e.form.wtK-1)+(e.lift.wt-1)+e.AU.sz+e.ly.sz
theorem V0(t:aJ L 106 agq)(e:∀(y:Nd),CP L 179 [aT y,aT y] (dB true)):∀x:Ev,CP L 106 [.agg (av (eD x)),.agg (av (eD x))] (dB true):=by
 intro x;refine t.cp ?_
 repeat' ((conv=>whnf);first|refine aM (aD (fun _=>?_) (fun h=>absurd rfl h))|refine aM (aH (fun _=>?_) (fun h=>absurd rfl h))|refine ak (e x.body) ?_|exact cu rfl|fail)
theorem Tt(t:aJ L 110 ags)(e:∀(l:List Int),CP L 185 [.d (.sl (fU l)),.d (.sl (fU l))] (dB true)):∀x:Pw,CP L 110 [.agg (av (wD x)),.agg (av (wD x))] (dB true):=by
 intro x;refine t.cp ?_
 repeat' ((conv=>whnf);first|refine aM (aD (fun _=>?_) (fun h=>absurd rfl h))|refine aM (aH (fun _=>?_) (fun h=>absurd rfl h))|refine aaD ?_|refine ak (e x.bj) ?_|exact cu rfl|fail)
theorem K4(a:aJ L 256 ag8)(t:∀(y:Nd),CP L 107 [aK y,aK y] (dB true))(e:∀(y:Nd),CP L 108 [aT y,aT y] (dB true)):∀x:Fs,CP L 256 [.agg (av (qh x)),.agg (av (qh x))] (dB true):=by
 intro x;refine a.cp ?_
 repeat' ((conv=>whnf);first|refine ak (t x.kind) ?_|refine ak (e x.save) ?_|refine ak (e x.lift) ?_|exact cu rfl|fail)
theorem MG(t:aJ L 257 ag9)(e:∀(y:Nd),CP L 108 [aT y,aT y] (dB true)):∀x:Ft,CP L 257 [.agg (av (qN x)),.agg (av (qN x))] (dB true):=by
 intro x;refine t.cp ?_
 repeat' ((conv=>whnf);first|refine aM (aH (fun _=>?_) (fun h=>absurd rfl h))|refine ak (e x.act) ?_|exact cu rfl|fail)
theorem I4(e:aJ L 183 c183)(l:List Fs)(h:∀i(h:i<l.length),CP L 256 [.agg (av (qh l[i])),.agg (av (qh l[i]))] (dB true)):CP L 183 [.d (.sl (l.map qh)),.d (.sl (l.map qh))] (dB true):=by
 by_cases a:l.length<=140737488355328
 .refine e.cp ?_
  repeat' ((conv=>whnf);first|rw[wrap64 om]|rw[V4];intro _|refine aM (aD (fun _=>?_) (fun h=>absurd rfl h))|apply aq|refine bY ?_|refine Ad (f:=qh) (xs:=l) om ?_|refine iu (h i om) ?_|refine t _ om (trivial) lz|(fail_if_success (have o:=t));refine LW.count l.length (fun i=>True) (fun i=>⟨[(5,dI i),(0,.d (.sl (l.map qh))),(1,.d (.sl (l.map qh)))],0,[],[]⟩) (fun _=>⟨rfl,rfl,rfl⟩) (fun i n s t=>?_) (trivial) _ lz|exact cu rfl|intro _)
 .refine e.cp ?_
  repeat' ((conv=>whnf);first|exact xo|rw[V4];intro _|fail)
theorem K5(e:aJ L 184 agI)(l:List Ft)(h:∀i(h:i<l.length),CP L 257 [.agg (av (qN l[i])),.agg (av (qN l[i]))] (dB true)):CP L 184 [.d (.sl (l.map qN)),.d (.sl (l.map qN))] (dB true):=by
 by_cases a:l.length<=140737488355328
 .refine e.cp ?_
  repeat' ((conv=>whnf);first|rw[wrap64 om]|rw[V5];intro _|refine aM (aD (fun _=>?_) (fun h=>absurd rfl h))|apply aq|refine bY ?_|refine Ad (f:=qN) (xs:=l) om ?_|refine iu (h i om) ?_|refine t _ om (trivial) lz|(fail_if_success (have o:=t));refine LW.count l.length (fun i=>True) (fun i=>⟨[(5,dI i),(0,.d (.sl (l.map qN))),(1,.d (.sl (l.map qN)))],0,[],[]⟩) (fun _=>⟨rfl,rfl,rfl⟩) (fun i n s t=>?_) (trivial) _ lz|exact cu rfl|intro _)
 .refine e.cp ?_
  repeat' ((conv=>whnf);first|exact xo|rw[V5];intro _|fail)
theorem MF(o:aJ L 109 c109)(e:∀(l:List Fs),CP L 183 [.d (.sl (l.map qh)),.d (.sl (l.map qh))] (dB true))(a:∀(y:Nd),CP L 179 [aT y,aT y] (dB true))(t:∀(l:List Ft),CP L 184 [.d (.sl (l.map qN)),.d (.sl (l.map qN))] (dB true)):∀x:Pl,CP L 109 [.agg (av (Wl x)),.agg (av (Wl x))] (dB true):=by
 intro x;refine o.cp ?_
 repeat' ((conv=>whnf);first|refine aM (aH (fun _=>?_) (fun h=>absurd rfl h))|refine ak (e x.As) ?_|refine ak (a x.start) ?_|refine ak (t x.steps) ?_|exact cu rfl|fail)
theorem MI(n:aJ L 30 c30)(o:∀(y:Ev),CP L 106 [.agg (av (eD y)),.agg (av (eD y))] (dB true))(i:∀(y:Nd),CP L 107 [aK y,aK y] (dB true))(e:∀(y:Nd),CP L 108 [aT y,aT y] (dB true))(t:∀(y:Pl),CP L 109 [.agg (av (Wl y)),.agg (av (Wl y))] (dB true))(a:∀(y:Pw),CP L 110 [.agg (av (wD y)),.agg (av (wD y))] (dB true)):∀x:Te,CP L 30 [.agg (av (gH x)),.agg (av (gH x))] (dB true):=by
 intro x;refine n.cp ?_
 repeat' ((conv=>whnf);first|refine aM (aD (fun _=>?_) (fun h=>absurd rfl h))|refine aM (aH (fun _=>?_) (fun h=>absurd rfl h))|refine ak (o x.event) ?_|refine ak (i x.form) ?_|refine ak (e x.lift) ?_|refine ak (t x.AU) ?_|refine ak (a x.ly) ?_|exact cu rfl|fail)
theorem K7(e:aJ L 10 c10)(l:List Te)(h:∀i(h:i<l.length),CP L 30 [.agg (av (gH l[i])),.agg (av (gH l[i]))] (dB true)):CP L 10 [.d (.sl (l.map gH)),.d (.sl (l.map gH))] (dB true):=by
 by_cases a:l.length<=140737488355328
 .refine e.cp ?_
  repeat' ((conv=>whnf);first|rw[wrap64 om]|rw[adz];intro _|refine aM (aD (fun _=>?_) (fun h=>absurd rfl h))|apply aq|refine bY ?_|refine Ad (f:=gH) (xs:=l) om ?_|refine iu (h i om) ?_|refine t _ om (trivial) lz|(fail_if_success (have o:=t));refine LW.count l.length (fun i=>True) (fun i=>⟨[(5,dI i),(0,.d (.sl (l.map gH))),(1,.d (.sl (l.map gH)))],0,[],[]⟩) (fun _=>⟨rfl,rfl,rfl⟩) (fun i n s t=>?_) (trivial) _ lz|exact cu rfl|intro _)
 .refine e.cp ?_
  repeat' ((conv=>whnf);first|exact xo|rw[adz];intro _|fail)
end Go.Ab
namespace Go.Ab
open Go
variable{n i:Nat}{s:ab}
theorem Xu:∀t:Nd,wi t<=3*t.wt:=by
 have e:∀l:List Nd,(∀k,k∈l->wi k<=3*k.wt)->wj l<=3*lD l:=by
  intro l
  induction l with
  |nil=>intro _;simp[wj]
  |cons k r a=>
   intro h;have o:=h k (iE ..);have i:=a fun x n=>h x (iS _ n)
   simp only[wj,lD];omega
 refine Nd.ind fun t a=>?_
 have o:=e t.kids a;have i:=F' t.names;rw[CF,t.uW];omega
theorem Ll{s:Bool->Nd->Prop}{ka:Nd->Nat->Bool}{m:Int}(e:∀a t,s a t->t.names.length<=t.kids.length):∀(t:Nd)(a:Bool)(d:Int),nE s ka m a d t->wi t+1<=4*t.size/\IH t+1<=2*t.size:=by
 refine Nd.ind fun t o=>?_
 intro a d h;obtain⟨_,u,f⟩:=nE.iff.1 h;have v:=e a t u
 have n:∀l:List Nd,(∀k,k∈l->wi k+1<=4*k.size/\IH k+1<=2*k.size)->wj l+l.length<=4*bU l/\DI l+l.length<=2*bU l:=by
  intro l
  induction l with
  |nil=>intro _;simp[wj,DI]
  |cons k r o=>
   intro h;have b:=h k (iE ..);have u:=o fun x w=>h x (iS _ w)
   simp only[wj,DI,bU,aZ];omega
 have:=n t.kids fun k c=>by
  obtain⟨i,y,p⟩:=List.mem_iff_getElem.1 c;exact o k c _ _ (p▸f i y)
 rw[CF,Je,t.size_eq];omega
theorem aev{t:Nd}(h:jk t):wi t<=zB:=by
 have:=(Ll (fun a t h=>by have h:mg t:=h;unfold mg at h;omega) t false 1 h.1).1;have:=h.2;simp only[zB];omega
theorem afF{t:Nd}(h:jj t):IH t<=zB:=by
 have:=(Ll (fun a t h=>by have h:kU t:=h;unfold kU at h;omega) t false 1 h.1).2;have:=h.2;simp only[zB];omega
theorem afN{n:Nd}(h:gG s=some n):wi n<=zB:=by
 have:=(EA h).2.1;have:=Xu n;simp only[zB];omega
theorem agc{n:Nd}(h:fC s=some n):wi n<=zB:=by
 unfold fC at h;cases e:gG (kV++s)with
 |none=>rw[e]at h;cases h
 |some m=>
  rw[e]at h;cases h;have a:=(EA e).2.1;have o:=Xu (m.kids.headD bX)
  have i:(m.kids.headD bX).wt<=10000:=by
   have:=m.uW;cases t:m.kids with
   |nil=>simp[bX,Nd.wt,kX,lD]
   |cons k r=>rw[t]at this;simp only[lD]at this;simp;omega
  simp only[zB];omega
theorem L4(s:ab):wi ((fC s).getD bX)<=zB:=by
 cases h:fC s with
 |none=>decide
 |some n=>exact agc h
theorem af9(s:ab):wi ((fX s).getD bX)<=zB:=by
 unfold fX;split
 .rename_i h;exact aev h.choose_spec.1
 .decide
theorem X1(s:ab):IH ((kindOf s).getD bX)<=zB:=by
 unfold kindOf;split
 .rename_i h;exact afF h.choose_spec.1
 .decide
theorem afE{k:Nd}(h:kindOf s=some k):IH k<=zB:=by have:=X1 s;rw[h]at this;exact this
theorem tZ:wi bX<=zB:=by decide
theorem kZ:IH bX<=zB:=by decide
structure Rt(f:Fr):Prop where
 st:∀s,s∈f.ba->FsB s
 op:∀k v,f.op=some (k,v)->IH k<=zB/\∀s,v=some s->wi s<=zB
 s0:wi f.start<=zB
 sp:∀s,s∈f.steps->wi s.act<=zB
theorem Rt.last{f:Fr}(h:Rt f):∀s,s∈f.last->FsB s:=by
 intro s e;unfold Fr.last at e;split at e
 .cases e
 .rename_i k t;rw[dP]at e;subst e;exact⟨(h.op k none t).1,tZ,tZ⟩
 .rename_i k v t;rw[dP]at e;subst e;exact⟨(h.op k (some v) t).1,(h.op k (some v) t).2 v rfl,tZ⟩
theorem Rt.all{f:Fr}(h:Rt f):∀s,s∈f.ba++f.last->FsB s:=fun s e=>(nA.1 e).elim (h.st s) (h.last s)
theorem Rt.line{f:Fr}(h:Rt f)(s:ab):Rt (ju f s).2:=by
 unfold ju;split
 .exact h
 split
 .exact⟨h.st,h.op,h.s0,h.sp⟩
 split
 .exact⟨h.all,fun k v e=>by cases e;exact⟨X1 _,fun s q=>by cases q⟩,h.s0,h.sp⟩
 split
 .refine⟨h.st,fun k v e=>?_,h.s0,h.sp⟩;dsimp only at e;split at e
  .cases o:f.op with
   |none=>rw[o]at e;cases e
   |some x=>rw[o]at e;cases e;exact⟨(h.op x.1 x.2 o).1,fun s q=>by cases q;exact L4 _⟩
  .exact h.op k v e
 split
 .split
  .refine⟨fun s a=>?_,fun k v e=>(by cases e),h.s0,h.sp⟩;rcases nA.1 a with a|a
   .exact h.st s a
   .obtain⟨x,t,rfl⟩:=lH.1 a;have:=h.last x t;exact⟨this.kd,this.sv,L4 _⟩
  .exact⟨h.st,h.op,h.s0,h.sp⟩
 split
 .exact⟨h.st,h.op,af9 _,h.sp⟩
 split
 .refine⟨h.st,h.op,h.s0,fun x t=>?_⟩;rcases nA.1 t with t|t
  .exact h.sp x t
  .rw[dP]at t;subst t;exact L4 _
 .exact h
structure RN(i:Nat)(r:Sr):Prop where
 es:∃l:List Te,r.es=l.map gH/\l.length<=i/\∀e,e∈l->JR e
 kp:r.w.bj.length<=zB
 fo:∀f,r.fo=some f->Rt f
structure TeC(e:Te):Prop where
 all:∀w:Pw,w.bj.length<=zB->JR {e with ly:=w}
theorem TeC.of{e:Te}(h:JR e):TeC e:=⟨fun _ t=>⟨h.b,h.f,h.l,h.s,h.st,h.sp,t⟩⟩
theorem Ul(k n m:Int)(a b:ab):JR ⟨k,a,pV,n,m,b,bX,bX,qS,fB⟩:=⟨tZ,kZ,tZ,tZ,⟨cr _,fun s h=>(by cases h)⟩,⟨cr _,fun s h=>(by cases h)⟩,cr _⟩
theorem UY{w w':Pw}{o:Option Te}(y:w.bj.length<=zB)(j:s.length<=60000)(h:jm n w s=some (o,w')):w'.bj.length<=zB/\∀i,o=some i->TeC i:=by
 have d:fB.bj.length<=zB:=by decide
 unfold jm at h;split at h
 .cases h;exact⟨y,fun i q=>by cases q⟩
 split at h
 .cases h
 split at h
 .cases r:qE w (au s)with
  |none=>rw[r]at h;cases h
  |some p=>
   rw[r]at h;cases h;refine⟨?_,fun i q=>by cases q⟩;unfold qE at r;split at r
   .cases r
   .cases u:eZ (pieces 32 (au s))with
    |none=>rw[u]at r;cases r
    |some l=>
     rw[u]at r;cases r;unfold eZ at u;split at u
     .cases u;have:=(ld 32 (au s)).2;have:=gT s;simp only[tR,iT,zB];omega
     .cases u
 split at h
 .cases a:qG w (au s)with
  |none=>rw[a]at h;cases h
  |some t=>
   rw[a]at h;cases h;refine⟨d,fun i q=>?_⟩;cases q;refine .of ?_;unfold qG at a;split at a
   .cases a
   .rename_i k v;have c:=afE v;split at a
    .cases a
    split at a
    .cases a;exact⟨tZ,c,tZ,tZ,⟨cr _,fun s h=>(by cases h)⟩,⟨cr _,fun s h=>(by cases h)⟩,cr _⟩
    .split at a
     .cases a
     .rename_i m b;cases a;exact⟨tZ,c,afN b,tZ,⟨cr _,fun s h=>(by cases h)⟩,⟨cr _,fun s h=>(by cases h)⟩,cr _⟩
 split at h
 .cases a:DH (au s)with
  |none=>rw[a]at h;cases h
  |some t=>
   rw[a]at h;cases h;refine⟨d,fun i q=>?_⟩;cases q;refine .of ?_;unfold DH at a;split at a
   .rename_i e f;split at a
    .cases a;unfold ic at f;split at f
     .rename_i g;cases f;exact⟨aev g.choose_spec.1.2.2.2,kZ,tZ,tZ,⟨cr _,fun s h=>(by cases h)⟩,⟨cr _,fun s h=>(by cases h)⟩,cr _⟩
     .cases f
    .cases a
   .cases a
 split at h
 .cases a:wV (au s)with
  |none=>rw[a]at h;cases h
  |some t=>
   rw[a]at h;cases h;refine⟨d,fun i q=>?_⟩;cases q;unfold wV at a;split at a
   .cases a;exact .of (Ul ..)
   .cases a
 split at h
 .cases a:wW (au s)with
  |none=>rw[a]at h;cases h
  |some t=>
   rw[a]at h;cases h;refine⟨d,fun i q=>?_⟩;cases q;unfold wW at a;split at a
   .cases a
   .split at a
    .cases a;exact .of (Ul ..)
    .cases a
 split at h
 .cases h;exact⟨d,fun i q=>by cases q;exact .of (Ul ..)⟩
 split at h
 .cases h;exact⟨d,fun i q=>by cases q;exact .of (Ul ..)⟩
 split at h
 .cases h;exact⟨d,fun i q=>by cases q;exact .of (Ul ..)⟩
 .cases h
theorem RN.step{r m:Sr}(h:RN i r)(b:s.length<=60000)(t:dz r s=some m):RN (i+1) m:=by
 obtain⟨es,w,fo⟩:=r;obtain⟨l,y,g,p⟩:=h.es;have a:w.bj.length<=zB:=h.kp;have d:∃l:List Te,es=l.map gH/\l.length<=i+1/\∀e,e∈l->JR e:=⟨l,y,by omega,p⟩
 have o:∀n:Te,JR n->∃l:List Te,es++[gH n]=l.map gH/\l.length<=i+1/\∀e,e∈l->JR e:=fun n j=>
  ⟨l++[n],by rw[show es=l.map gH from y];simp,by simp;omega,fun e q=>(nA.1 q).elim (p e) fun q=>by rw[dP]at q;subst q;exact j⟩
 unfold dz at t;cases fo with
 |none=>
  dsimp only at t;split at t
  .split at t
   .cases t;exact⟨d,a,fun f q=>by cases q;exact⟨fun s q=>(by cases q),fun k v q=>(by cases q),tZ,fun s q=>(by cases q)⟩⟩
   .cases t
  .cases c:jm es.length w s with
   |none=>rw[c]at t;cases t
   |some x=>
    rw[c]at t;cases t;obtain⟨n,E⟩:=x;obtain⟨z,c2⟩:=UY a b c;cases n with
    |none=>exact⟨d,z,fun f q=>by cases q⟩
    |some n=>exact⟨o _ ((c2 n rfl).all w a),by show fB.bj.length<=zB;decide,fun f q=>by cases q⟩
 |some f=>
  have u:=h.fo f rfl;dsimp only at t;split at t
  .split at t
   .rename_i T;cases t;refine⟨o _ ?_,by show fB.bj.length<=zB;decide,fun f q=>by cases q⟩;refine(TeC.of ?_).all w a;exact⟨tZ,kZ,tZ,u.s0,⟨by show(f.ba++f.last).length<=zB;simp only[zB];omega,u.all⟩,⟨by show f.steps.length<=zB;simp only[zB];omega,u.sp⟩,cr _⟩
   .cases t
  .split at t
   .cases t;exact⟨d,a,fun A q=>by cases q;exact u.line s⟩
   .cases t
theorem RN.run:∀(ws:List ab)(i:Nat)(r a:Sr),(∀x,x∈ws->x.length<=60000)->RN i r->oq ws i r=.inl a->RN (i+ws.length) a
 |[],i,r,a,_,h,e=>by simp only[oq]at e;cases e;exact h
 |s::t,i,r,a,n,h,e=>by
  simp only[oq]at e;cases o:dz r s with
  |none=>rw[o]at e;cases e
  |some d=>
   rw[o]at e;have:=RN.run t (i+1) d a (fun x l=>n x (iS _ l)) (h.step (n s (iE ..)) o) e;rwa [show i+1+t.length=i+(s::t).length by simp;omega]at this
theorem Ok(s:ab):∃l:List Te,(eh s).1=l.map gH/\l.length<=100000/\∀e,e∈l->JR e:=by
 have none:∃l:List Te,([]:bJ)=l.map gH/\l.length<=100000/\∀e,e∈l->JR e:=⟨[],rfl,by simp,fun e h=>by cases h⟩;unfold eh;split
 .rename_i t;have u:=(ld 10 s).2;cases a:oq (pieces 10 s) 0 zb with
  |inr i=>exact none
  |inl r=>
   have h:=RN.run _ 0 zb r (fun x o=>gM (tB x o) t) ⟨⟨[],rfl,aQ _,fun e h=>by cases h⟩,by decide,fun f h=>by cases h⟩ a;unfold Xw;split
   .rename_i q;cases q
   .rename_i c q;cases q;split
    .exact none
    .obtain⟨l,n,m,d⟩:=h.es;exact⟨l,n,by omega,d⟩
 .exact none
end Go.Ab
