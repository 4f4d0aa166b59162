import Derived.Test.YtdcndpbmgpcgmaaGreatDoorY5
import Derived.Test.YtdcndpbmgpcgmaaGreatDoorY4
noncomputable section
namespace Go.Ab
open Go
attribute [local irreducible] bI cf cw bW bA dk dT
variable{L:Lk}
set_option maxHeartbeats 4000000
def abn(L:Lk)(t:Nd):Prop:=∀(d:Int)(pv:AV)(s:ab),tz d t/\t.size<=40->YP pv->s.length+1000*t.size<=100000000000->
 CT L 176 [aK t,.ptr 0 0] 1 [xi pv s] [(s.length,1000)] (.b6 []) 1 [xi (.ptr 0 0) (s++fR t)] [((s++fR t).length,1000)]
theorem MB(k:aJ L 176 agF)(v:Xb L)(l:Xa L):∀t:Nd,abn L t:=by
 refine Nd.ind fun t c=>?_
 intro d I s y q N;have b:∀i(h:i<t.kids.length),(fR t.kids[i]).length+10<=14*t.kids[i].size:=fun i u=>ze _ _ (po y.1 u)
 have j:=(uA y.1).2;have g:t.sort=5->Pf (t.names.length=t.kids.length/\wS t.names):=fun a=>⟨by unfold kU at j;grind⟩
 have n:∀i(h:i<t.kids.length),tz (d+1) t.kids[i]/\t.kids[i].size<=40:=fun i u=>by have:=wL y u;exact⟨this.1,by omega⟩
 have z:=t.size_eq;have o:Pf ((t.sort=1\/t.sort=2\/t.sort=3\/t.sort=4\/t.sort=5\/t.sort=6)/\(t.sort=4\/t.sort=6->t.kids.length=1)/\(t.sort=5->t.names.length=t.kids.length)):=⟨by unfold kU at j;grind⟩
 have w:t.sort=5->∀i,i<=t.kids.length->(bQ true t.names (t.kids.map fR) i).length<=14*bU (t.kids.take i)/\bU (t.kids.take i)<=bU t.kids:=fun a i u=>
  ⟨tp (vU (g a).get.2) (g a).get.1 b i u,rz _ _⟩
 have r:t.sort=5->∀i(h:i<t.names.length),t.names[i].length<=8:=fun a i u=>vU (g a).get.2 i u u
 have a:t.sort≠1->t.sort≠2->t.sort≠3->t.sort≠4->t.sort≠6->t.sort=5:=fun _ _ _ _ _=>by have:=o.get;omega
 have e:=vL t;have f:∀i(h:i<t.kids.length),t.kids[i].size+1<=t.size:=fun i u=>by have:=(wL (m:=t.size) ⟨y.1,aQ _⟩ u).2;omega
 have E:=y.2;rcases q with rfl|rfl
 .refine k.ct ?_
  repeat' ((conv=>whnf);first|refine cX (c _ (eu (by have:=o.get.2.1;omega)) (d+1) (.ptr 0 0) _ (n 0 (by have:=o.get.2.1;omega)) (.inr rfl) (by have:=f 0 (by have:=o.get.2.1;omega);(try simp only[bG,aZ,bc]);omega)) [0] [0] rfl ⟨rfl,trivial⟩ ⟨rfl,trivial⟩ ?_|refine cX (c _ (eu om) (d+1) (.ptr 0 0) _ (n i om) (.inr rfl) (by have:=f i om;have:=w a i om;have:=r a i (by have:=o.get.2.2 a;omega);(try simp only[bG,aZ,bc]);omega)) [0] [0] rfl ⟨rfl,trivial⟩ ⟨rfl,trivial⟩ ?_|refine Jk (by have:=o.get.2.1;omega) ?_|refine ad (by have:=r a i (by have:=o.get.2.2 a;omega);simp only[aZ,bc];omega) ?_|refine p _ om trivial (by refine⟨?_,?_,?_⟩<;>repeat' first|(show(_:bJ)=_;rw[jN om (by have:=o.get.2.2 a;omega) om];simp)|(show(_:bJ)=_;rw[jO om (by have:=o.get.2.2 a;omega) om];simp)|(show(_,_)=(_,_);rw[jN om (by have:=o.get.2.2 a;omega) om];exact congrArg (fun x:ab=>(x.length,1000)) si)|(show(_,_)=(_,_);rw[jO om (by have:=o.get.2.2 a;omega) om];exact congrArg (fun x:ab=>(x.length,1000)) si)|exact sz|exact dV om|apply And.intro)|apply aq|apply aD|rw[dC];intro _|refine bY ?_|refine cX (v (.d .cq) _ _ (.inl rfl) (by(try simp only[bG,aZ,bc]);omega)) [0] [0] rfl ⟨rfl,trivial⟩ ⟨rfl,trivial⟩ ?_|refine cX (l (.d .cq) _ 91 (.inl rfl) (by(try simp only[bG,aZ,bc]);omega)) [0] [0] rfl ⟨rfl,trivial⟩ ⟨rfl,trivial⟩ ?_|refine cX (l (.d .cq) _ 63 (.inl rfl) (by(try simp only[bG,aZ,bc]);omega)) [0] [0] rfl ⟨rfl,trivial⟩ ⟨rfl,trivial⟩ ?_|refine cX (l (.d .cq) _ 123 (.inl rfl) (by(try simp only[bG,aZ,bc]);omega)) [0] [0] rfl ⟨rfl,trivial⟩ ⟨rfl,trivial⟩ ?_|refine cX (v (.ptr 0 0) _ _ (.inr rfl) (by have:=w a i om;have:=r a i (by have:=o.get.2.2 a;omega);(try simp only[bG,aZ,bc]);omega)) [0] [0] rfl ⟨rfl,trivial⟩ ⟨rfl,trivial⟩ ?_|refine cX (l (.ptr 0 0) _ 44 (.inr rfl) (by have:=w a i om;(try simp only[bG,aZ,bc]);omega)) [0] [0] rfl ⟨rfl,trivial⟩ ⟨rfl,trivial⟩ ?_|refine cX (l (.ptr 0 0) _ 125 (.inr rfl) (by have:=w a i om;(try simp only[bG,aZ,bc]);omega)) [0] [0] rfl ⟨rfl,trivial⟩ ⟨rfl,trivial⟩ ?_|refine oG (by have:=o.get.2.2 a;omega) ?_|refine cX (l (.ptr 0 0) _ 93 (.inr rfl) (by have T:=o.get.2.1 om;have:=b 0 om;have:=n 0 om;(try simp only[bG,aZ,bc]);omega)) [0] [0] rfl ⟨rfl,trivial⟩ ⟨rfl,trivial⟩ ?_|(fail_if_success (have A:=p));(have a:=a asm asm asm asm asm);refine LW.count t.kids.length (fun i=>True) (fun i=>⟨[(13,dI i),(12,dI t.kids.length),(11,.d (.sl (t.kids.map cK))),(1,.ptr 0 0),(2,.ptr 1 0)],2,[xi (.ptr 0 0) (s++[123]++bQ true t.names (t.kids.map fR) i),.var 0 [dI t.sort,.d (.sl (aR t.names)),.d (.sl (t.kids.map cK))]],[((s++[123]++bQ true t.names (t.kids.map fR) i).length,1000)]⟩) (fun _=>⟨rfl,rfl,rfl⟩) (fun i u O p=>?_) trivial _ (by refine⟨?_,?_,?_⟩<;>repeat' first|(show(_:bJ)=_;simp[bQ])|(show(_,_)=(_,_);simp[bQ])|exact sz|exact dV om|apply And.intro)|rw[e,if_pos asm];exact fx|rw[e,if_neg asm,if_pos asm];exact fx|rw[e,if_neg asm,if_neg asm,if_pos asm];exact fx|rw[e,if_neg asm,if_neg asm,if_neg asm,if_pos asm,headD_map (by have:=o.get.2.1;omega)];exact fx|rw[e,if_neg asm,if_neg asm,if_neg asm,if_neg asm,if_pos asm,headD_map (by have:=o.get.2.1;omega)];exact fx|rw[e,if_neg asm,if_neg asm,if_neg asm,if_neg asm,if_neg asm,show t.kids.length=i by omega];exact fx|intro _)
 .refine k.ct ?_
  repeat' ((conv=>whnf);first|refine cX (c _ (eu (by have:=o.get.2.1;omega)) (d+1) (.ptr 0 0) _ (n 0 (by have:=o.get.2.1;omega)) (.inr rfl) (by have:=f 0 (by have:=o.get.2.1;omega);(try simp only[bG,aZ,bc]);omega)) [0] [0] rfl ⟨rfl,trivial⟩ ⟨rfl,trivial⟩ ?_|refine cX (c _ (eu om) (d+1) (.ptr 0 0) _ (n i om) (.inr rfl) (by have:=f i om;have:=w a i om;have:=r a i (by have:=o.get.2.2 a;omega);(try simp only[bG,aZ,bc]);omega)) [0] [0] rfl ⟨rfl,trivial⟩ ⟨rfl,trivial⟩ ?_|refine Jk (by have:=o.get.2.1;omega) ?_|refine ad (by have:=r a i (by have:=o.get.2.2 a;omega);simp only[aZ,bc];omega) ?_|refine p _ om trivial (by refine⟨?_,?_,?_⟩<;>repeat' first|(show(_:bJ)=_;rw[jN om (by have:=o.get.2.2 a;omega) om];simp)|(show(_:bJ)=_;rw[jO om (by have:=o.get.2.2 a;omega) om];simp)|(show(_,_)=(_,_);rw[jN om (by have:=o.get.2.2 a;omega) om];exact congrArg (fun x:ab=>(x.length,1000)) si)|(show(_,_)=(_,_);rw[jO om (by have:=o.get.2.2 a;omega) om];exact congrArg (fun x:ab=>(x.length,1000)) si)|exact sz|exact dV om|apply And.intro)|apply aq|apply aD|rw[dC];intro _|refine bY ?_|refine cX (v (.ptr 0 0) _ _ (.inr rfl) (by(try simp only[bG,aZ,bc]);omega)) [0] [0] rfl ⟨rfl,trivial⟩ ⟨rfl,trivial⟩ ?_|refine cX (l (.ptr 0 0) _ 91 (.inr rfl) (by(try simp only[bG,aZ,bc]);omega)) [0] [0] rfl ⟨rfl,trivial⟩ ⟨rfl,trivial⟩ ?_|refine cX (l (.ptr 0 0) _ 63 (.inr rfl) (by(try simp only[bG,aZ,bc]);omega)) [0] [0] rfl ⟨rfl,trivial⟩ ⟨rfl,trivial⟩ ?_|refine cX (l (.ptr 0 0) _ 123 (.inr rfl) (by(try simp only[bG,aZ,bc]);omega)) [0] [0] rfl ⟨rfl,trivial⟩ ⟨rfl,trivial⟩ ?_|refine cX (v (.ptr 0 0) _ _ (.inr rfl) (by have:=w a i om;have:=r a i (by have:=o.get.2.2 a;omega);(try simp only[bG,aZ,bc]);omega)) [0] [0] rfl ⟨rfl,trivial⟩ ⟨rfl,trivial⟩ ?_|refine cX (l (.ptr 0 0) _ 44 (.inr rfl) (by have:=w a i om;(try simp only[bG,aZ,bc]);omega)) [0] [0] rfl ⟨rfl,trivial⟩ ⟨rfl,trivial⟩ ?_|refine cX (l (.ptr 0 0) _ 125 (.inr rfl) (by have:=w a i om;(try simp only[bG,aZ,bc]);omega)) [0] [0] rfl ⟨rfl,trivial⟩ ⟨rfl,trivial⟩ ?_|refine oG (by have:=o.get.2.2 a;omega) ?_|refine cX (l (.ptr 0 0) _ 93 (.inr rfl) (by have T:=o.get.2.1 om;have:=b 0 om;have:=n 0 om;(try simp only[bG,aZ,bc]);omega)) [0] [0] rfl ⟨rfl,trivial⟩ ⟨rfl,trivial⟩ ?_|(fail_if_success (have A:=p));(have a:=a asm asm asm asm asm);refine LW.count t.kids.length (fun i=>True) (fun i=>⟨[(13,dI i),(12,dI t.kids.length),(11,.d (.sl (t.kids.map cK))),(1,.ptr 0 0),(2,.ptr 1 0)],2,[xi (.ptr 0 0) (s++[123]++bQ true t.names (t.kids.map fR) i),.var 0 [dI t.sort,.d (.sl (aR t.names)),.d (.sl (t.kids.map cK))]],[((s++[123]++bQ true t.names (t.kids.map fR) i).length,1000)]⟩) (fun _=>⟨rfl,rfl,rfl⟩) (fun i u O p=>?_) trivial _ (by refine⟨?_,?_,?_⟩<;>repeat' first|(show(_:bJ)=_;simp[bQ])|(show(_,_)=(_,_);simp[bQ])|exact sz|exact dV om|apply And.intro)|rw[e,if_pos asm];exact fx|rw[e,if_neg asm,if_pos asm];exact fx|rw[e,if_neg asm,if_neg asm,if_pos asm];exact fx|rw[e,if_neg asm,if_neg asm,if_neg asm,if_pos asm,headD_map (by have:=o.get.2.1;omega)];exact fx|rw[e,if_neg asm,if_neg asm,if_neg asm,if_neg asm,if_pos asm,headD_map (by have:=o.get.2.1;omega)];exact fx|rw[e,if_neg asm,if_neg asm,if_neg asm,if_neg asm,if_neg asm,show t.kids.length=i by omega];exact fx|intro _)
theorem bA.ghost{L:Lk}{f:Nat}{t:List AV}{nb:Nat}{bx cg:List Bx}{rl:bm}{K:AV->Nat->List Bx->bm->Prop}(e:Nat)(n:Nat.ble 1 (gw e)=true)(s:H3 rl.length bx cg)(h:bA L f t nb cg (rl++[(0,e)]) K):bA L f t nb bx rl K:=by
 unfold bA at h⊢;obtain⟨v,a,o,i,r,d⟩:=h;exact⟨v,a,o,i,CT.ghost e n s r,d⟩
theorem Qh(a:aJ L 103 ago)(o:∀t:Nd,abn L t)(i:O5 L):E1 L 103:=by
 intro t d e;have s:=ze t d e.1;have h:=e.2;have n:=o t d (.d .cq) [] e (.inl rfl) (by simp;omega);refine a.cp ?_
 repeat' ((conv=>whnf);first|apply aq|apply bK|apply aD|apply aH|apply bp|apply aM|apply eA|apply ew|apply gQ|apply bS|rw[ca];intro _|rw[dC];intro _|rw[bl];intro _|refine bY ?_|intro _)
 all_goals(conv=>whnf)
 refine bA.ghost (cg:=[.var 0 [dI t.sort,.d (.sl (aR t.names)),.d (.sl (t.kids.map cK))],xi (.d .cq) []]) 1000 rfl ⟨⟨rfl,.inl rfl,.inl rfl,.inl rfl,trivial⟩,⟨rfl,.inl rfl,.inr ⟨rfl,rfl⟩,trivial⟩,trivial⟩ ?_;refine az n [1] [0] ?_
 repeat' ((conv=>whnf);first|refine cX (i (.ptr 0 0) ([]++fR t) (.inr rfl) (by simp;omega)) [1] [0] rfl ⟨rfl,trivial⟩ ⟨rfl,trivial⟩ ?_|exact cu rfl|fail)
def Cv(L:Lk)(t:Nd):Prop:=∀(d:Int)(pv:AV)(s:ab),pw d t/\t.size<=120->YP pv->s.length+10000*t.size<=100000000000->
 CT L 249 [aT t,.ptr 0 0] 1 [xi pv s] [(s.length,1000)] (.b6 []) 1 [xi (.ptr 0 0) (s++cM t)] [((s++cM t).length,1000)]
theorem Qq(y:aJ L 319 ahx)(k:Xb L)(p:Xa L)(t:Nd)(v:∀i(h:i<t.kids.length),Cv L t.kids[i])(b:Bool):∀(d:Int)(s:ab),pw d t/\t.size<=120->t.sort=(if b=true then 5 else 4)->s.length+10000*t.size<=100000000001->
  CT L 319 [aT t,.ptr 0 0] 1 [xi (.ptr 0 0) s] [(s.length,1000)] (.b6 []) 1 [xi (.ptr 0 0) (s++bQ b t.names (t.kids.map cM) t.kids.length)] [((s++bQ b t.names (t.kids.map cM) t.kids.length).length,1000)]:=by
 intro d s r a A;have g:∀i(h:i<t.kids.length),(cM t.kids[i]).length+10<=72*t.kids[i].size:=fun i e=>uE _ _ (wN r.1 e)
 have f:=shT r.1;have l:∀i(h:i<t.kids.length),pw (d+1) t.kids[i]/\t.kids[i].size<=120:=fun i e=>by have:=rZ r e;exact⟨this.1,by omega⟩
 have u:∀i(h:i<t.kids.length),t.kids[i].size+1<=t.size:=fun i e=>by have:=(rZ (m:=t.size) ⟨r.1,aQ _⟩ e).2;omega
 have j:=t.size_eq;have q:=r.2;cases b
 .have O:¬t.sort=5:=by simp at a;omega
  have n:∀i,i<=t.kids.length->(bQ false t.names (t.kids.map cM) i).length<=72*bU (t.kids.take i)/\bU (t.kids.take i)<=bU t.kids:=fun i e=>⟨BT (ns:=t.names) g i e,rz _ _⟩
  refine y.ct ?_
  repeat' ((conv=>whnf);first|exact xc|refine cX (v i om (d+1) (.ptr 0 0) _ (l i om) (.inr rfl) (by have:=u i om;have:=n i om;(try simp only[bG,aZ,bc]);omega)) [0] [0] rfl ⟨rfl,trivial⟩ ⟨rfl,trivial⟩ ?_|refine c _ om trivial (by refine⟨?_,?_,?_⟩<;>repeat' first|(show(_:bJ)=_;rw[yJ om om];simp)|(show(_:bJ)=_;rw[yK om om];simp)|(show(_,_)=(_,_);rw[yJ om om];exact congrArg (fun x:ab=>(x.length,1000)) si)|(show(_,_)=(_,_);rw[yK om om];exact congrArg (fun x:ab=>(x.length,1000)) si)|exact sz|exact dV om|apply And.intro)|apply aq|apply aD|rw[ca];intro _|refine bY ?_|refine cX (p (.ptr 0 0) _ 44 (.inr rfl) (by have:=n i om;(try simp only[bG]);omega)) [0] [0] rfl ⟨rfl,trivial⟩ ⟨rfl,trivial⟩ ?_|(fail_if_success (have z:=c));refine LW.count t.kids.length (fun i=>True) (fun i=>⟨[(9,dI i),(8,dI t.kids.length),(7,.d (.sl (t.kids.map cT))),(1,.ptr 0 0),(2,.ptr 1 0)],2,[xi (.ptr 0 0) (s++bQ false t.names (t.kids.map cM) i),.var 0 [dI t.sort,dI t.num,dS t.text,.d (.sl (aR t.names)),.d (.sl (t.kids.map cT))]],[((s++bQ false t.names (t.kids.map cM) i).length,1000)]⟩) (fun _=>⟨rfl,rfl,rfl⟩) (fun i e E c=>?_) trivial _ (by refine⟨?_,?_,?_⟩<;>repeat' first|(show(_:bJ)=_;simp[bQ])|(show(_,_)=(_,_);simp[bQ])|exact sz|exact dV om|apply And.intro)|rw[show t.kids.length=i by omega];exact fz|intro _)
 .have w:t.sort=5:=by simpa using a
  have T:=(f.form w).1;have n:∀i,i<=t.kids.length->(bQ true t.names (t.kids.map cM) i).length<=72*bU (t.kids.take i)/\bU (t.kids.take i)<=bU t.kids:=fun i e=>⟨tp (f.form w).2 (f.form w).1 g i e,rz _ _⟩
  have o:∀i(h:i<t.names.length),t.names[i].length<=8:=fun i e=>(f.form w).2 i e e
  refine y.ct ?_
  repeat' ((conv=>whnf);first|exact xc|refine ad (by have:=o i om;(try simp only[aZ,bc]);omega) ?_|refine cX (v i om (d+1) (.ptr 0 0) _ (l i om) (.inr rfl) (by have:=u i om;have:=n i om;have:=o i om;(try simp only[bG,aZ,bc]);omega)) [0] [0] rfl ⟨rfl,trivial⟩ ⟨rfl,trivial⟩ ?_|refine c _ om trivial (by refine⟨?_,?_,?_⟩<;>repeat' first|(show(_:bJ)=_;rw[jN om om om];simp)|(show(_:bJ)=_;rw[jO om om om];simp)|(show(_,_)=(_,_);rw[jN om om om];exact congrArg (fun x:ab=>(x.length,1000)) si)|(show(_,_)=(_,_);rw[jO om om om];exact congrArg (fun x:ab=>(x.length,1000)) si)|exact sz|exact dV om|apply And.intro)|apply aq|apply aD|rw[ca];intro _|refine bY ?_|refine cX (p (.ptr 0 0) _ 44 (.inr rfl) (by have:=n i om;(try simp only[bG]);omega)) [0] [0] rfl ⟨rfl,trivial⟩ ⟨rfl,trivial⟩ ?_|refine cX (k (.ptr 0 0) _ _ (.inr rfl) (by have:=n i om;have:=o i om;(try simp only[bG,aZ,bc]);omega)) [0] [0] rfl ⟨rfl,trivial⟩ ⟨rfl,trivial⟩ ?_|(fail_if_success (have z:=c));refine LW.count t.kids.length (fun i=>True) (fun i=>⟨[(9,dI i),(8,dI t.kids.length),(7,.d (.sl (t.kids.map cT))),(1,.ptr 0 0),(2,.ptr 1 0)],2,[xi (.ptr 0 0) (s++bQ true t.names (t.kids.map cM) i),.var 0 [dI t.sort,dI t.num,dS t.text,.d (.sl (aR t.names)),.d (.sl (t.kids.map cT))]],[((s++bQ true t.names (t.kids.map cM) i).length,1000)]⟩) (fun _=>⟨rfl,rfl,rfl⟩) (fun i e E c=>?_) trivial _ (by refine⟨?_,?_,?_⟩<;>repeat' first|(show(_:bJ)=_;simp[bQ])|(show(_,_)=(_,_);simp[bQ])|exact sz|exact dV om|apply And.intro)|rw[show t.kids.length=i by omega];exact fz|intro _)
theorem acq{α:Type}{x y:α}{xs:List α}{K:α->Prop}(k:K y):cf (x::y::xs) 1 K:=by unfold cf;exact⟨y,by omega,rfl,k⟩
theorem ME(o:aJ L 249 ag3)(w:Xb L)(r:Xa L)(q:∀n:Int,eB .i64 n->CP L 174 [dI n] (dS (dec n)))(v:∀t:Nd,(∀i(h:i<t.kids.length),Cv L t.kids[i])->∀(b:Bool)(d:Int)(s:ab),pw d t/\t.size<=120->t.sort=(if b=true then 5 else 4)->s.length+10000*t.size<=100000000001->
   CT L 319 [aT t,.ptr 0 0] 1 [xi (.ptr 0 0) s] [(s.length,1000)] (.b6 []) 1 [xi (.ptr 0 0) (s++bQ b t.names (t.kids.map cM) t.kids.length)] [((s++bQ b t.names (t.kids.map cM) t.kids.length).length,1000)]):∀t:Nd,Cv L t:=by
 refine Nd.ind fun t E=>?_
 intro d D s l y U;have T:∀i(h:i<t.kids.length),Cv L t.kids[i]:=fun i h=>E _ (eu h)
 have c:=v t T;have j:=shT l.1;have x:∀i(h:i<t.kids.length),pw (d+1) t.kids[i]/\t.kids[i].size<=120:=fun i z=>by have:=rZ l z;exact⟨this.1,by omega⟩
 have A:∀i(h:i<t.kids.length),t.kids[i].size+1<=t.size:=fun i z=>by have:=(rZ (m:=t.size) ⟨l.1,aQ _⟩ z).2;omega
 have O:∀i(h:i<t.kids.length),(cM t.kids[i]).length+10<=72*t.kids[i].size:=fun i z=>uE _ _ (wN l.1 z)
 have f:=uE t d l.1;have I:=l.2;have g:t.sort=3->t.num=0\/t.num=1:=fun h=>by have:=(r8 l.1).2;unfold mg at this;omega
 have p:=qL t;rcases j.any with a|a|a|a|a|a
 .have e:cM t=dec t.num:=by rw[p];simp[a]
  have N:=qt (j.num a);rcases y with rfl|rfl
  .refine o.ct ?_
   repeat' ((conv=>whnf);first|exact xo|apply aD|refine ak (q _ (j.num a)) ?_|refine cX (w (.d .cq) _ _ (.inl rfl) (by(try simp only[bG,aZ,bc]);omega)) [0] [0] rfl ⟨rfl,trivial⟩ ⟨rfl,trivial⟩ ?_|rw[e];exact fx|intro _)
  .refine o.ct ?_
   repeat' ((conv=>whnf);first|exact xo|apply aD|refine ak (q _ (j.num a)) ?_|refine cX (w (.ptr 0 0) _ _ (.inr rfl) (by(try simp only[bG,aZ,bc]);omega)) [0] [0] rfl ⟨rfl,trivial⟩ ⟨rfl,trivial⟩ ?_|rw[e];exact fx|intro _)
 .have e:cM t=[34]++t.text++[34]:=by rw[p];simp[a]
  have N:=j.text a;rcases y with rfl|rfl
  .refine o.ct ?_
   repeat' ((conv=>whnf);first|exact xo|refine ad (by(try simp only[bG,aZ,bc]);omega) ?_|apply aD|refine cX (w (.d .cq) _ _ (.inl rfl) (by(try simp only[bG,aZ,bc]);omega)) [0] [0] rfl ⟨rfl,trivial⟩ ⟨rfl,trivial⟩ ?_|rw[e];exact fx|intro _)
  .refine o.ct ?_
   repeat' ((conv=>whnf);first|exact xo|refine ad (by(try simp only[bG,aZ,bc]);omega) ?_|apply aD|refine cX (w (.ptr 0 0) _ _ (.inr rfl) (by(try simp only[bG,aZ,bc]);omega)) [0] [0] rfl ⟨rfl,trivial⟩ ⟨rfl,trivial⟩ ?_|rw[e];exact fx|intro _)
 .rcases g a with k|k
  .have e:cM t=[110,111]:=by rw[p];simp[a,k]
   rcases y with rfl|rfl
   .refine o.ct ?_
    repeat' ((conv=>whnf);first|exact xo|rw[k]|apply aD|refine P5 ?_|refine cX (w (.d .cq) _ _ (.inl rfl) (by(try simp only[aZ,bc]);omega)) [0] [0] rfl ⟨rfl,trivial⟩ ⟨rfl,trivial⟩ ?_|rw[e];exact fx|intro _)
   .refine o.ct ?_
    repeat' ((conv=>whnf);first|exact xo|rw[k]|apply aD|refine P5 ?_|refine cX (w (.ptr 0 0) _ _ (.inr rfl) (by(try simp only[aZ,bc]);omega)) [0] [0] rfl ⟨rfl,trivial⟩ ⟨rfl,trivial⟩ ?_|rw[e];exact fx|intro _)
  .have e:cM t=[121,101,115]:=by rw[p];simp[a,k]
   rcases y with rfl|rfl
   .refine o.ct ?_
    repeat' ((conv=>whnf);first|exact xo|rw[k]|apply aD|refine acq ?_|refine cX (w (.d .cq) _ _ (.inl rfl) (by(try simp only[aZ,bc]);omega)) [0] [0] rfl ⟨rfl,trivial⟩ ⟨rfl,trivial⟩ ?_|rw[e];exact fx|intro _)
   .refine o.ct ?_
    repeat' ((conv=>whnf);first|exact xo|rw[k]|apply aD|refine acq ?_|refine cX (w (.ptr 0 0) _ _ (.inr rfl) (by(try simp only[aZ,bc]);omega)) [0] [0] rfl ⟨rfl,trivial⟩ ⟨rfl,trivial⟩ ?_|rw[e];exact fx|intro _)
 .have e:cM t=[91]++bQ false t.names (t.kids.map cM) t.kids.length++[93]:=by rw[p];simp[a]
  rw[e]at f;simp only[bG,aZ,bc]at f;rcases y with rfl|rfl
  .refine o.ct ?_
   repeat' ((conv=>whnf);first|exact xo|apply aD|refine cX (r (.d .cq) _ 91 (.inl rfl) (by(try simp only[bG,aZ,bc]);omega)) [0] [0] rfl ⟨rfl,trivial⟩ ⟨rfl,trivial⟩ ?_|refine cX (r (.ptr 0 0) _ 93 (.inr rfl) (by(try simp only[bG,aZ,bc]);omega)) [0] [0] rfl ⟨rfl,trivial⟩ ⟨rfl,trivial⟩ ?_|refine cX (c false d _ l a (by(try simp only[bG,aZ,bc]);omega)) [0] [0] rfl ⟨rfl,trivial⟩ ⟨rfl,trivial⟩ ?_|rw[e];exact fx|intro _)
  .refine o.ct ?_
   repeat' ((conv=>whnf);first|exact xo|apply aD|refine cX (r (.ptr 0 0) _ 91 (.inr rfl) (by(try simp only[bG,aZ,bc]);omega)) [0] [0] rfl ⟨rfl,trivial⟩ ⟨rfl,trivial⟩ ?_|refine cX (r (.ptr 0 0) _ 93 (.inr rfl) (by(try simp only[bG,aZ,bc]);omega)) [0] [0] rfl ⟨rfl,trivial⟩ ⟨rfl,trivial⟩ ?_|refine cX (c false d _ l a (by(try simp only[bG,aZ,bc]);omega)) [0] [0] rfl ⟨rfl,trivial⟩ ⟨rfl,trivial⟩ ?_|rw[e];exact fx|intro _)
 .have e:cM t=[123]++bQ true t.names (t.kids.map cM) t.kids.length++[125]:=by rw[p];simp[a]
  rw[e]at f;simp only[bG,aZ,bc]at f;rcases y with rfl|rfl
  .refine o.ct ?_
   repeat' ((conv=>whnf);first|exact xo|apply aD|refine cX (r (.d .cq) _ 123 (.inl rfl) (by(try simp only[bG,aZ,bc]);omega)) [0] [0] rfl ⟨rfl,trivial⟩ ⟨rfl,trivial⟩ ?_|refine cX (r (.ptr 0 0) _ 125 (.inr rfl) (by(try simp only[bG,aZ,bc]);omega)) [0] [0] rfl ⟨rfl,trivial⟩ ⟨rfl,trivial⟩ ?_|refine cX (c true d _ l a (by(try simp only[bG,aZ,bc]);omega)) [0] [0] rfl ⟨rfl,trivial⟩ ⟨rfl,trivial⟩ ?_|rw[e];exact fx|intro _)
  .refine o.ct ?_
   repeat' ((conv=>whnf);first|exact xo|apply aD|refine cX (r (.ptr 0 0) _ 123 (.inr rfl) (by(try simp only[bG,aZ,bc]);omega)) [0] [0] rfl ⟨rfl,trivial⟩ ⟨rfl,trivial⟩ ?_|refine cX (r (.ptr 0 0) _ 125 (.inr rfl) (by(try simp only[bG,aZ,bc]);omega)) [0] [0] rfl ⟨rfl,trivial⟩ ⟨rfl,trivial⟩ ?_|refine cX (c true d _ l a (by(try simp only[bG,aZ,bc]);omega)) [0] [0] rfl ⟨rfl,trivial⟩ ⟨rfl,trivial⟩ ?_|rw[e];exact fx|intro _)
 .have C:=j.maybe a;rcases Nat.eq_zero_or_pos t.kids.length with u|u
  .have e:cM t=[126]:=by rw[p];simp only[a];simp[u]
   rcases y with rfl|rfl
   .refine o.ct ?_
    repeat' ((conv=>whnf);first|exact xo|apply aD|rw[ca];intro _|refine cX (r (.d .cq) _ 126 (.inl rfl) (by(try simp only[bG,aZ,bc]);omega)) [0] [0] rfl ⟨rfl,trivial⟩ ⟨rfl,trivial⟩ ?_|rw[e];exact fx|intro _)
   .refine o.ct ?_
    repeat' ((conv=>whnf);first|exact xo|apply aD|rw[ca];intro _|refine cX (r (.ptr 0 0) _ 126 (.inr rfl) (by(try simp only[bG,aZ,bc]);omega)) [0] [0] rfl ⟨rfl,trivial⟩ ⟨rfl,trivial⟩ ?_|rw[e];exact fx|intro _)
  .have e:cM t=([63]:ab)++cM t.kids[0]:=by rw[p,headD_map u];simp only[a];simp;intro S;rw[S]at u;simp at u
   have H:=O 0 u;have R:=A 0 u;rcases y with rfl|rfl
   .refine o.ct ?_
    repeat' ((conv=>whnf);first|exact xo|refine cX (T 0 u (d+1) (.ptr 0 0) _ (x 0 u) (.inr rfl) (by(try simp only[bG,aZ,bc]);omega)) [0] [0] rfl ⟨rfl,trivial⟩ ⟨rfl,trivial⟩ ?_|apply aD|rw[ca];intro _|refine bY ?_|refine cX (r (.d .cq) _ 63 (.inl rfl) (by(try simp only[bG,aZ,bc]);omega)) [0] [0] rfl ⟨rfl,trivial⟩ ⟨rfl,trivial⟩ ?_|rw[e];exact fx|intro _)
   .refine o.ct ?_
    repeat' ((conv=>whnf);first|exact xo|refine cX (T 0 u (d+1) (.ptr 0 0) _ (x 0 u) (.inr rfl) (by(try simp only[bG,aZ,bc]);omega)) [0] [0] rfl ⟨rfl,trivial⟩ ⟨rfl,trivial⟩ ?_|apply aD|rw[ca];intro _|refine bY ?_|refine cX (r (.ptr 0 0) _ 63 (.inr rfl) (by(try simp only[bG,aZ,bc]);omega)) [0] [0] rfl ⟨rfl,trivial⟩ ⟨rfl,trivial⟩ ?_|rw[e];exact fx|intro _)
theorem Ql(a:aJ L 175 c175)(o:∀t:Nd,Cv L t)(i:O5 L):uf L 175:=by
 intro t d e;have s:=uE t d e.1;have h:=e.2;have n:=o t d (.d .cq) [] e (.inl rfl) (by simp;omega);refine a.cp ?_
 repeat' ((conv=>whnf);first|apply aq|apply bK|apply aD|apply aH|apply bp|apply aM|apply eA|apply ew|apply gQ|apply bS|rw[ca];intro _|rw[dC];intro _|rw[bl];intro _|refine bY ?_|intro _)
 all_goals(conv=>whnf)
 refine bA.ghost (cg:=[.var 0 [dI t.sort,dI t.num,dS t.text,.d (.sl (aR t.names)),.d (.sl (t.kids.map cT))],xi (.d .cq) []]) 1000 rfl ⟨⟨rfl,.inl rfl,.inl rfl,.inl rfl,.inl rfl,.inl rfl,trivial⟩,⟨rfl,.inl rfl,.inr ⟨rfl,rfl⟩,trivial⟩,trivial⟩ ?_;refine az n [1] [0] ?_
 repeat' ((conv=>whnf);first|refine cX (i (.ptr 0 0) ([]++cM t) (.inr rfl) (by simp;omega)) [1] [0] rfl ⟨rfl,trivial⟩ ⟨rfl,trivial⟩ ?_|exact cu rfl|fail)
theorem Qo(i:aJ L 102 agn)(a:∀n:Int,eB .i64 n->CP L 174 [dI n] (dS (dec n)))(s:uf L 175):tV L 102:=by
 intro e o;have t:=o.len;have h:=qt t.2.1;have r:=t.1;have d:=t.2.2;refine i.cp ?_
 repeat' ((conv=>whnf);first|refine iu (a _ t.2.1) ?_|refine iu (s e.body 1 o.2.2.2) ?_|refine ad (by(try simp only[bG,aZ,bc]);omega) ?_|exact cu rfl|fail)
def cd(s w:ab):Prop:=w.length<=s.length/\s.take w.length=w
theorem Qd(t:aJ L 413 ahL):∀s w:ab,CP L 413 [dS s,dS w] (dB (pb (cd s w))):=by
 intro s w;refine t.cp ?_
 repeat' ((conv=>whnf);first|apply bK|refine bY ?_|intro _)
 all_goals(conv=>whnf)
 all_goals try first
  |exact qg fun h=>by have:=h.1;omega
  |exact kx (by
    rw[sW];have e:List.drop (Int.toNat 0) (List.take ((w.length:Int)).toNat s)=s.take w.length:=rfl;constructor
    .intro h;exact⟨by omega,by first|exact h|(rw[<-e];exact h)⟩
    .intro h;exact h.2)
theorem Mx(e:aJ L 383 ahH)(t:∀s w:ab,CP L 413 [dS s,dS w] (dB (pb (cd s w)))):∀s w:ab,
  (cd s w->CP L 383 [dS s,dS w] (.b6 [dS (s.drop w.length),dB true]))/\(¬cd s w->CP L 383 [dS s,dS w] (.b6 [dS s,dB false])):=by
 intro s w;refine⟨fun h=>?_,fun h=>?_⟩
 .have a:=h.1;refine e.cp ?_
  repeat' ((conv=>whnf);first|apply bp|refine bY ?_|refine ak (t _ _) ?_|exact xc|exact fx|intro _)
 .refine e.cp ?_
  repeat' ((conv=>whnf);first|apply bp|refine ak (t _ _) ?_|exact xc|exact fz|intro _)
theorem Qa(e:aJ L 334 ahz)(t:∀s w:ab,
  (cd s w->CP L 383 [dS s,dS w] (.b6 [dS (s.drop w.length),dB true]))/\(¬cd s w->CP L 383 [dS s,dS w] (.b6 [dS s,dB false]))):∀s w:ab,
  (cd s w->CP L 334 [dS s,dS w] (.b6 [dS (s.drop w.length),dB true]))/\(¬cd s w->CP L 334 [dS s,dS w] (.b6 [dS s,dB false])):=by
 intro s w;refine⟨fun h=>?_,fun h=>?_⟩
 .refine e.cp ?_
  repeat' ((conv=>whnf);first|refine ak ((t s w).1 h) ?_|exact fz|fail)
 .refine e.cp ?_
  repeat' ((conv=>whnf);first|refine ak ((t s w).2 h) ?_|exact fz|fail)
def fw(s:ab)(b:Bool):Bx:=.var 0 [dS s,dB b]
def xw(L:Lk):Prop:=∀(s w:ab)(b:Bool),(cd s w->CT L 288 [.ptr 0 0,dS w] 1 [fw s b] [] (dB true) 1 [fw (s.drop w.length) b] [])/\
 (¬cd s w->CT L 288 [.ptr 0 0,dS w] 1 [fw s b] [] (dB false) 1 [fw s b] [])
theorem afx(e:aJ L 288 ahp)(t:∀s w:ab,
  (cd s w->CP L 334 [dS s,dS w] (.b6 [dS (s.drop w.length),dB true]))/\(¬cd s w->CP L 334 [dS s,dS w] (.b6 [dS s,dB false]))):xw L:=by
 intro s w b;refine⟨fun h=>?_,fun h=>?_⟩
 .refine e.ct ?_
  repeat' ((conv=>whnf);first|refine ak ((t s w).1 h) ?_|exact fz|fail)
 .refine e.ct ?_
  repeat' ((conv=>whnf);first|refine ak ((t s w).2 h) ?_|exact fz|fail)
def cl(s:ab)(c:UInt8):Nat:=(s.takeWhile fun x=>x≠c).length
theorem J4(s:ab)(c:UInt8):cl s c<=s.length:=by
 unfold cl
 induction s with
 |nil=>simp
 |cons x r e=>
  by_cases h:x=c
  .simp[h]
  .simp[h];simpa using e
def nV(s:ab)(c:UInt8):Int:=if cl s c<s.length then(cl s c:Int)else -1
def RC(L:Lk):Prop:=∀(s:ab)(b:Bool),s.length<=1000000->CT L 328 [.ptr 0 0,dS [58]] 1 [fw s b] [] (dS (s.take (cl s 58))) 1 [fw (s.drop (cl s 58)) b] []
theorem adt(a:aJ L 328 abJ)(o:∀s:ab,s.length<=1000000->CP L 338 [dS s,dS [58]] (dI (nV s 58))):RC L:=by
 intro s b i;have r:=J4 s 58;by_cases h:cl s 58<s.length
 .have e:nV s 58=(cl s 58:Int):=by rw[nV,if_pos h]
  have t:=o s i;rw[e]at t;refine a.ct ?_
  repeat' ((conv=>whnf);first|refine bY ?_|refine ak t ?_|exact xo|exact fx|fail)
 .have e:nV s 58=-1:=by rw[nV,if_neg h]
  have t:=o s i;rw[e]at t;have n:cl s 58=s.length:=by omega
  rw[n];refine a.ct ?_
  repeat' ((conv=>whnf);first|refine bY ?_|refine ak t ?_|exact xo|exact fx|intro _)
def mX(s:ab)(b:Bool):ab×Bool:=
 if b=true then(s.drop (cl s 58),true)else if pb (cd (s.drop (cl s 58)) [58])=true then(s.drop (cl s 58+1),!pb (bO (s.take (cl s 58))))else(s.drop (cl s 58),true)
def JL(L:Lk):Prop:=∀(s:ab)(b:Bool),s.length<=1000000->CT L 291 [.ptr 0 0] 1 [fw s b] [] (dS (s.take (cl s 58))) 1 [fw (mX s b).1 (mX s b).2] []
theorem akE(t:aJ L 291 ahq)(a:RC L)(i:xw L)(hN:lI L 89):JL L:=by
 intro s b o;cases b with
 |true=>
  refine t.ct ?_
  repeat' ((conv=>whnf);first|refine az (a s true o) [0] [] ?_|exact fz|fail)
 |false=>
  by_cases h:cd (s.drop (cl s 58)) [58]
  .have e:mX s false=(s.drop (cl s 58+1),!pb (bO (s.take (cl s 58)))):=by simp[mX,h]
   rw[e];refine t.ct ?_
   repeat' ((conv=>whnf);first|apply bp|refine az (a s false o) [0] [] ?_|refine az ((i (s.drop (cl s 58)) [58] false).1 h) [0] [] ?_|refine ak (hN (s.take (cl s 58))) ?_|exact fx|rw[iA asm];exact fx|rw[ig asm];exact fx|intro _)
  .have e:mX s false=(s.drop (cl s 58),true):=by simp[mX,h]
   rw[e];refine t.ct ?_
   repeat' ((conv=>whnf);first|refine az (a s false o) [0] [] ?_|refine az ((i (s.drop (cl s 58)) [58] false).2 h) [0] [] ?_|exact fz|fail)
end Go.Ab
namespace Go.Ab
open Go
variable{i:Nat}{ns:List ab}{ks:List Nd}
def jn(l:List ab):ab:=([32]:ab).intercalate l
def fj(b:ab)(l:List ab):ab:=l.foldl (fun b x=>b++[32]++x) b
theorem CS(b:ab)(l m:List ab):fj b (l++m)=fj (fj b l) m:=by simp[fj]
theorem FA(x:ab)(r:List ab):jn (x::r)=fj x r:=by
 unfold jn fj
 induction r generalizing x with
 |nil=>simp[List.intercalate]
 |cons y s e=>
  rw[Gp,<-e];cases s with
  |nil=>simp[List.intercalate]
  |cons z t=>simp[List.intercalate,List.intersperse]
theorem ae6(b x:ab)(r:List ab):fj (b++[32]++x) r=b++[32]++fj x r:=by
 unfold fj
 induction r generalizing x with
 |nil=>rfl
 |cons y s e=>rw[Gp,Gp,<-e];simp
theorem abV(b:ab):∀{l:List ab},l≠[]->fj b l=b++[32]++jn l
 |x::r,_=>by rw[FA,<-ae6];rfl
theorem afZ(b:ab)(l:List ab):∀n,n<=l.length->qF b l n=fj b (l.take n):=by
 intro n
 induction n with
 |zero=>intro _;simp[qF,fj]
 |succ n e=>intro h;rw[WL om,e om,tQ,dw om,Option.toList_some,CS];rfl
def xE(s n:Int)(t:ab):List ab:=(if t≠[]then[t]else[])++(if s=37\/s=39 then[dec n]else[])
theorem adD(s n:Int)(t b:ab):fj b (xE s n t)=AQ s n t b:=by
 unfold xE AQ;by_cases e:t=[]<;>by_cases a:s=37\/s=39<;>simp[e,a,fj]
def lX(ns:List ab)(ws:List (List ab)):Nat->List ab
 |0=>[[102,111,114,109]]
 |i+1=>lX ns ws i++[ns.getD i []]++ws.getD i []
mutual
def nL:Nd->List ab
 | .mk s n t ns ks=>if s=1\/s=2\/s=3 then[cM (.mk s n t [] [])]else if s=4 then[ns.headD []]else if s=24 then lX ns (Ux ks) ks.length++[[101,110,100]]else
  fQ s::(ns++xE s n t++(Ux ks).flatten)
def Ux:List Nd->List (List ab)
 |[]=>[]
 |k::r=>nL k::Ux r
end
theorem Uy:∀l,Ux l=l.map nL
 |[]=>rfl
 |k::r=>by rw[Ux,Uy r];rfl
theorem Aw(t:Nd):nL t=if t.sort=1\/t.sort=2\/t.sort=3 then[cM (.mk t.sort t.num t.text [] [])]else if t.sort=4 then[t.names.headD []]else if t.sort=24 then lX t.names (t.kids.map nL) t.kids.length++[[101,110,100]]else
  fQ t.sort::(t.names++xE t.sort t.num t.text++(t.kids.map nL).flatten):=by
 cases t;rw[nL,Uy];rfl
theorem GY(ns:List ab)(ws:List (List ab)):∀i,lX ns ws i≠[]
 |0=>by simp[lX]
 |i+1=>by simp[lX]
theorem BC{l:List Nd}(h:i<l.length)(e:i<ns.length):lX ns (l.map nL) (i+1)=lX ns (l.map nL) i++[ns[i]]++nL l[i]:=by simp[lX,h,e]
theorem Yy(t:Nd):nL t≠[]:=by
 rw[Aw];repeat' split
 all_goals simp[GY]
theorem SU{l:List ab}(h:l≠[])(m:List ab):jn (l++m)=fj (jn l) m:=by
 cases l with
 |nil=>exact absurd rfl h
 |cons x r=>rw[yg,FA,FA,CS]
theorem aa6{b:ab}{f:Nd->ab}(e:∀i(h:i<ks.length),f ks[i]=jn (nL ks[i])):∀n,n<=ks.length->qF b (ks.map f) n=fj b ((ks.take n).map nL).flatten:=by
 intro n
 induction n with
 |zero=>intro _;simp[qF,fj]
 |succ n t=>
  intro h;rw[WK om,t om,e n om,tQ,dw om];simp only[Option.toList_some,sE,sG,AK,List.flatten_append,Ro,List.flatten_nil,oe];rw[CS,abV _ (Yy _)]
theorem Y9(a:ns.length=ks.length)(e:∀i(h:i<ks.length),rH ks[i]=jn (nL ks[i])):∀n,n<=ks.length->uO ns (ks.map rH) n=jn (lX ns (ks.map nL) n):=by
 intro n
 induction n with
 |zero=>intro _;simp[uO,lX,jn,List.intercalate]
 |succ n t=>
  intro h;rw[Kj om om,t om,e n om,BC om om,ga _ [ns[n]],SU (GY _ _ _),CS,abV _ (Yy _)];simp[fj]
theorem afg:∀(t:Nd)(a:Bool)(d:Int),uB a d t->rH t=jn (nL t):=by
 refine Nd.ind fun t n=>fun a d h=>?_
 have e:∀i(h:i<t.kids.length),rH t.kids[i]=jn (nL t.kids[i]):=fun i o=>n _ (eu o) _ _ (wM h o)
 have s:=Wr h;rw[Ju,Aw];split
 .simp[jn,List.intercalate]
 split
 .simp[jn,List.intercalate]
 split
 .rename_i r;rw[Y9 (s.form r) e _ (aQ _),SU (GY _ _ _)];simp[fj]
 .rw[FA,CS,CS,adD,aa6 e _ (aQ _),afZ _ _ _ (aQ _)];simp
theorem Vb(n:ns.length=ks.length)(e:∀i(h:i<ks.length),(nL ks[i]).length<=2*ks[i].wt):∀i,i<=ks.length->(lX ns (ks.map nL) i).length+kX (ns.drop i)<=1+kX ns+2*lD (ks.take i):=by
 intro i
 induction i with
 |zero=>intro _;simp[lX,lD]
 |succ i t=>
  intro h;have a:=t om;have s:=e i om;rw[HI om,BC om om];have o:ns.drop i=ns[i]::ns.drop (i+1):=by rw[ye om]
  rw[o,kX]at a;simp only[bG,aZ,bc];omega
theorem Y8(e:∀i(h:i<ks.length),(nL ks[i]).length<=2*ks[i].wt):(ks.map nL).flatten.length<=2*lD ks:=by
 induction ks with
 |nil=>simp[lD]
 |cons k r t=>
  have a:=e 0 si;have:=t fun i h=>by have:=e (i+1) (by simp;omega);simpa using this
  simp only[yf]at a;simp only[sG,Ro,bG,lD];omega
theorem aab(s n:Int)(t:ab):(xE s n t).length<=1+t.length:=by
 unfold xE;cases t<;>by_cases e:s=37\/s=39<;>simp[e]<;>omega
theorem Uw:∀(t:Nd)(a:Bool)(d:Int),uB a d t->(nL t).length<=2*t.wt:=by
 refine Nd.ind fun t n=>fun a d h=>?_
 have e:∀i(h:i<t.kids.length),(nL t.kids[i]).length<=2*t.kids[i].wt:=fun i o=>n _ (eu o) _ _ (wM h o)
 have s:=Wr h;have l:=t.uW;rw[Aw];split
 .simp;omega
 split
 .simp;omega
 split
 .rename_i r;have:=Vb (s.form r) e t.kids.length (aQ _);rw[nz (aQ _)]at this;simp;omega
 .have u:=Y8 e;have c:=aab t.sort t.num t.text;have m:=F' t.names;simp only[aZ,bG];omega
variable{n:Nat}{s:ab}{m:Nat}
def uy(s:ab):ab:=s.take (cl s 58)
inductive ym(P:ab->Bool->Nd->ab->Bool->Prop):Nat->List ab->List Nd->ab->Bool->List ab->List Nd->ab->Bool->Prop where
 |stop (ns:List ab) (ks:List Nd) (s:ab):ym P 0 ns ks s true ns ks s true
 |last (ns:List ab) (ks:List Nd) (s:ab) (k:Nd) (s2:ab) (b2:Bool) (hb:ns.length<=800/\ks.length<=800/\s.length<=800) (h:P (mX s false).1 (mX s false).2 k s2 b2) (hp:cd s2 [125]):
   ym P 0 ns ks s false (ns++[uy s]) (ks++[k]) (s2.drop 1) b2
 |step (m:Nat) (ns:List ab) (ks:List Nd) (s:ab) (k:Nd) (s2:ab) (b2:Bool) (s3:ab) (b3:Bool) (jP:List ab) (j0:List Nd) (s':ab) (b':Bool) (hb:ns.length<=800/\ks.length<=800/\s.length<=800)
   (h:P (mX s false).1 (mX s false).2 k s2 b2) (hp:¬cd s2 [125]) (h3:(b2=true/\s3=s2/\b3=true)\/(b2=false/\cd s2 [44]/\s3=s2.drop 1/\b3=false)\/(b2=false/\¬cd s2 [44]/\s3=s2/\b3=true))
   (h5:ym P m (ns++[uy s]) (ks++[k]) s3 b3 jP j0 s' b'):ym P (m+1) ns ks s false jP j0 s' b'
def zN:Nd:=.mk 0 0 [] [] []
def MN(s1:ab)(e:Bool)(s':ab)(t:Bool):Prop:=(e=true/\s'=s1/\t=true)\/(e=false/\cd s1 [93]/\s'=s1.drop 1/\t=false)\/(e=false/\¬cd s1 [93]/\s'=s1/\t=true)
def rI:Nat->ab->Bool->Nd->ab->Bool->Prop
 |0,s,_,k,e,t=>k=zN/\e=s/\t=true
 |n+1,s,b,k,e,t=>(b=true/\k=zN/\e=s/\t=true)\/(b=false/\(
   (cd s [91]/\∃a o i,rI n (s.drop 1) false a o i/\MN o i e t/\k=.mk 4 0 [] [] [a])\/
   (¬cd s [91]/\cd s [63]/\∃a,rI n (s.drop 1) false a e t/\k=.mk 6 0 [] [] [a])\/
   (¬cd s [91]/\¬cd s [63]/\cd s [123]/\((cd (s.drop 1) [125]/\e=(s.drop 1).drop 1/\t=false/\k=.mk 5 0 [] [] [])\/(¬cd (s.drop 1) [125]/\∃m ns ks,ym (rI n) m [] [] (s.drop 1) false ns ks e t/\k=.mk 5 0 [] ns ks)))\/
   (¬cd s [91]/\¬cd s [63]/\¬cd s [123]/\cd s [110,117,109]/\e=s.drop 3/\t=false/\k=.mk 1 0 [] [] [])\/
   (¬cd s [91]/\¬cd s [63]/\¬cd s [123]/\¬cd s [110,117,109]/\cd s [116,101,120,116]/\e=s.drop 4/\t=false/\k=.mk 2 0 [] [] [])\/
   (¬cd s [91]/\¬cd s [63]/\¬cd s [123]/\¬cd s [110,117,109]/\¬cd s [116,101,120,116]/\cd s [102,108,97,103]/\e=s.drop 4/\t=false/\k=.mk 3 0 [] [] [])\/
   (¬cd s [91]/\¬cd s [63]/\¬cd s [123]/\¬cd s [110,117,109]/\¬cd s [116,101,120,116]/\¬cd s [102,108,97,103]/\e=s/\t=true/\k=zN)))
theorem ux(s:ab)(b:Bool):(mX s b).1.length<=s.length:=by
 unfold mX;repeat' split
 all_goals simp
theorem Hu{w:ab}(h:cd s w):w.length<=s.length:=h.1
theorem afI(h:(mX s false).2=false):(mX s false).1.length+1<=s.length:=by
 unfold mX at*;simp only[jT,if_false]at*;split
 .rename_i e;have:=Hu (mo.1 e);simp at this⊢;omega
 .rename_i e;rw[if_neg e]at h;cases h
theorem ym.len{P:ab->Bool->Nd->ab->Bool->Prop}(hP:∀s b k s' a,P s b k s' a->s'.length<=s.length){b:Bool}{e:List ab}{t:List Nd}{s':ab}{a:Bool}(h:ym P m ns ks s b e t s' a):s'.length<=s.length:=by
 induction h with
 |stop=>exact aQ _
 |last ns ks s k o i n h r=>have:=hP _ _ _ _ _ h;have:=ux s false;simp;omega
 |step m ns ks s k o i d u e t s' a n h r l c f=>
  have:=hP _ _ _ _ _ h;have:=ux s false;have:d.length<=o.length:=by rcases l with⟨_,rfl,_⟩|⟨_,_,rfl,_⟩|⟨_,_,rfl,_⟩<;>simp
  omega
theorem MN.len{s1:ab}{e:Bool}{s':ab}{t:Bool}(h:MN s1 e s' t):s'.length<=s1.length:=by
 rcases h with⟨_,rfl,_⟩|⟨_,_,rfl,_⟩|⟨_,_,rfl,_⟩<;>simp
theorem MN.ex(s1:ab)(e:Bool):∃t a,MN s1 e t a:=by
 cases e with
 |true=>exact⟨_,_,.inl ⟨rfl,rfl,rfl⟩⟩
 |false=>
  by_cases h:cd s1 [93]
  .exact⟨_,_,.inr (.inl ⟨rfl,h,rfl,rfl⟩)⟩
  .exact⟨_,_,.inr (.inr ⟨rfl,h,rfl,rfl⟩)⟩
theorem rI.len:∀{n:Nat}{s:ab}{b:Bool}{k:Nd}{s':ab}{e:Bool},rI n s b k s' e->s'.length<=s.length:=by
 intro n
 induction n with
 |zero=>intro s b k s' e h;obtain⟨_,rfl,_⟩:=h;exact aQ _
 |succ n t=>
  intro s b k s' e h;rcases h with⟨_,_,rfl,_⟩|⟨_,⟨_,a,i,r,h,o,_⟩|⟨_,_,a,h,_⟩|⟨_,_,_,⟨_,rfl,_⟩|⟨_,m,ns,ks,h,_⟩⟩|⟨_,_,_,_,rfl,_⟩|⟨_,_,_,_,_,rfl,_⟩|⟨_,_,_,_,_,_,rfl,_⟩|⟨_,_,_,_,_,_,rfl,_⟩⟩
  .exact aQ _
  .have:=t h;have:=o.len;simp at*;omega
  .have:=t h;simp at*;omega
  .simp
  .have:=ym.len (fun s b k s' e h=>t h) h;simp at*;omega
  all_goals simp
theorem rI.bad{k:Nd}{s':ab}{e:Bool}(h:rI n s true k s' e):e=true:=by
 cases n with
 |zero=>exact h.2.2
 |succ n=>rcases h with h|⟨h,_⟩;exact h.2.2.2;cases h
theorem ym.ex{P:ab->Bool->Nd->ab->Bool->Prop}(hP:∀s b k t a,P s b k t a->t.length<=s.length)(f:∀s k t a,P s true k t a->a=true)(w:∀s b,s.length<=800->∃k t a,P s b k t a):
  ∀d ns ks s b,s.length=d->(b=false->ns.length+s.length<=800/\ks.length=ns.length)->∃m o i t a,ym P m ns ks s b o i t a:=by
 intro d
 induction d using Nat.strongRecOn with
 |ind d y=>
  intro ns ks s b g u;cases b with
  |true=>exact⟨_,_,_,_,_,.stop ns ks s⟩
  |false=>
   obtain⟨u,j⟩:=u rfl;have q:=ux s false;obtain⟨k,e,c,h⟩:=w (mX s false).1 (mX s false).2 om;have x:=hP _ _ _ _ _ h;by_cases n:cd e [125]
   .exact⟨_,_,_,_,_,.last ns ks s k e c ⟨by omega,by omega,by omega⟩ h n⟩
   .cases c with
    |true=>exact⟨_,_,_,_,_,.step 0 ns ks s k e true e true _ _ _ _ ⟨by omega,by omega,by omega⟩ h n (.inl ⟨rfl,rfl,rfl⟩) (.stop _ _ _)⟩
    |false=>
     have r:(mX s false).2=false:=by
      cases p:(mX s false).2 with
      |false=>rfl
      |true=>rw[p]at h;have:=f _ _ _ _ h;cases this
     have z:=afI r;by_cases l:cd e [44]
     .have:=Hu l;simp at this;obtain⟨m,o,i,t,a,v⟩:=y (e.drop 1).length (by simp;omega) (ns++[uy s]) (ks++[k]) (e.drop 1) false rfl (fun _=>by simp;omega);exact⟨_,_,_,_,_,.step m ns ks s k e false _ false _ _ _ _ ⟨by omega,by omega,by omega⟩ h n (.inr (.inl ⟨rfl,l,rfl,rfl⟩)) v⟩
     .exact⟨_,_,_,_,_,.step 0 ns ks s k e false e true _ _ _ _ ⟨by omega,by omega,by omega⟩ h n (.inr (.inr ⟨rfl,l,rfl,rfl⟩)) (.stop _ _ _)⟩
theorem rI.ex:∀n s b,s.length<=800->∃k i r,rI n s b k i r:=by
 intro n
 induction n with
 |zero=>intro s b _;exact⟨_,_,_,rfl,rfl,rfl⟩
 |succ n d=>
  intro s b v;cases b with
  |true=>exact⟨_,_,_,.inl ⟨rfl,rfl,rfl,rfl⟩⟩
  |false=>
   by_cases e:cd s [91]
   .obtain⟨l,u,c,h⟩:=d (s.drop 1) false (by simp;omega);obtain⟨i,r,y⟩:=MN.ex u c;exact⟨_,_,_,.inr ⟨rfl,.inl ⟨e,l,u,c,h,y,rfl⟩⟩⟩
   by_cases t:cd s [63]
   .obtain⟨l,u,c,h⟩:=d (s.drop 1) false (by simp;omega);exact⟨_,_,_,.inr ⟨rfl,.inr (.inl ⟨e,t,l,h,rfl⟩)⟩⟩
   by_cases a:cd s [123]
   .by_cases o:cd (s.drop 1) [125]
    .exact⟨_,_,_,.inr ⟨rfl,.inr (.inr (.inl ⟨e,t,a,.inl ⟨o,rfl,rfl,rfl⟩⟩))⟩⟩
    .have p:=Hu a;obtain⟨m,ns,ks,i,r,h⟩:=ym.ex (P:=rI n) (fun s b k i r h=>h.len) (fun s k i r h=>h.bad) d _ [] [] (s.drop 1) false rfl (fun _=>by simp;omega);exact⟨_,_,_,.inr ⟨rfl,.inr (.inr (.inl ⟨e,t,a,.inr ⟨o,m,ns,ks,h,rfl⟩⟩))⟩⟩
   by_cases o:cd s [110,117,109]
   .exact⟨_,_,_,.inr ⟨rfl,.inr (.inr (.inr (.inl ⟨e,t,a,o,rfl,rfl,rfl⟩)))⟩⟩
   by_cases f:cd s [116,101,120,116]
   .exact⟨_,_,_,.inr ⟨rfl,.inr (.inr (.inr (.inr (.inl ⟨e,t,a,o,f,rfl,rfl,rfl⟩))))⟩⟩
   by_cases w:cd s [102,108,97,103]
   .exact⟨_,_,_,.inr ⟨rfl,.inr (.inr (.inr (.inr (.inr (.inl ⟨e,t,a,o,f,w,rfl,rfl,rfl⟩)))))⟩⟩
   .exact⟨_,_,_,.inr ⟨rfl,.inr (.inr (.inr (.inr (.inr (.inr ⟨e,t,a,o,f,w,rfl,rfl,rfl⟩)))))⟩⟩
theorem iq(w r:ab):cd (w++r) w:=⟨by simp,by simp⟩
theorem cY{x y:UInt8}{w r:ab}(h:x≠y):¬cd (x::r) (y::w):=by
 rintro⟨_,e⟩;simp at e;exact h e.1
theorem aiI(nm r:ab)(h:∀x,x∈nm->x≠58):cl (nm++[58]++r) 58=nm.length:=by
 unfold cl
 induction nm with
 |nil=>simp
 |cons x t e=>
  have a:=h x si;have:=e fun y o=>h y (by simp[o])
  simp[a];simpa using this
theorem V9{nm:ab}(h:bO nm):∀x,x∈nm->x≠58:=by
 intro x a e;obtain⟨i,t,rfl⟩:=HT a;have:=(h.2 i t t).1;unfold Bv rK at this;rw[e]at this;have o:(58:UInt8).toNat=58:=rfl;omega
theorem yN{nm r:ab}(h:bO nm):mX (nm++[58]++r) false=(r,false)/\uy (nm++[58]++r)=nm:=by
 have e:=aiI nm r (V9 h);unfold mX uy;rw[e];have t:(nm++[58]++r).drop nm.length=[58]++r:=by rw[ga];exact ET rfl
 have a:(nm++[58]++r).take nm.length=nm:=by rw[ga];exact Df rfl
 have o:(nm++[58]++r).drop (nm.length+1)=r:=ET si;rw[t,a,o];refine⟨?_,rfl⟩;rw[if_neg si,if_pos (iA (iq [58] r)),iA h];rfl
def AW:List (ab×ab)->ab
 |[]=>[]
 |(n,t)::r=>[44]++n++[58]++t++AW r
def Ap:List (ab×ab)->ab
 |[]=>[]
 |(n,t)::r=>n++[58]++t++AW r
theorem Lv:∀(l:List (ab×ab))(n t:ab),AW (l++[(n,t)])=AW l++[44]++n++[58]++t
 |[],n,t=>by simp[AW]
 |(a,b)::r,n,t=>by
  have:=Lv r n t;simp only[yg,AW,this,ga]
theorem aas:∀(l:List (ab×ab))(n t:ab),l≠[]->Ap (l++[(n,t)])=Ap l++[44]++n++[58]++t
 |(a,b)::r,n,t,_=>by simp only[yg,Ap,Lv,ga]
theorem adX:∀{l:List (ab×ab)},l≠[]->AW l=[44]++Ap l
 |(a,b)::r,_=>by simp only[Ap,AW,ga]
theorem VL(a:ns.length=ks.length):∀i,i<=ks.length->bQ true ns (ks.map fR) i=Ap ((ns.take i).zip ((ks.take i).map fR)):=by
 intro i
 induction i with
 |zero=>intro _;simp[bQ,Ap]
 |succ i o=>
  intro h
  have e:(ns.take (i+1)).zip ((ks.take (i+1)).map fR)=(ns.take i).zip ((ks.take i).map fR)++[(ns[i]'om,fR ks[i])]:=by
   rw[tQ,tQ,dw om,dw om,sE,List.zip_append (by simp[a])];rfl
  rw[e];by_cases t:0<i
  .rw[jN t om om,o om,aas];intro n;have:=congrArg List.length n;rw[List.length_zip,iT,ra,ra]at this;simp only[bc]at this;omega
  .have:i=0:=by omega
   subst this;rw[jO t om om];simp[bQ,Ap,AW]
theorem Sj{nm:ab}(h:bO nm)(r:ab):¬cd (nm++r) [125]:=by
 have a:=h.1.1;cases nm with
 |nil=>simp at a
 |cons x t=>
  have:=(h.2 0 si si).2 rfl;unfold rK at this;simp only[yf]at this;exact cY (fun e=>by rw[e]at this;have o:(125:UInt8).toNat=125:=rfl;omega)
theorem MZ:∀(k:Nd)(d:Int)(n:Nat)(r:ab),tz d k->d=7-n->(fR k++r).length<=800->∃k',cK k'=cK k/\rI n (fR k++r) false k' r false:=by
 refine Nd.ind fun k H=>fun d n r O hn A=>?_
 have ht:=uA O;have D:=ht.2;obtain⟨n,rfl⟩:∃m,n=m+1:=⟨n-1,by omega⟩;have e:=vL k;unfold kU at D
 have leaf:k.names.length=0->k.kids.length=0->cK (.mk k.sort 0 [] [] [])=cK k:=fun g w=>by
  rw[mA,mA,mc g,mc w];rfl
 have one:k.names.length=0->∀h:k.kids.length=1,∀s,cK s=cK (k.kids[0]'om)->cK (.mk k.sort 0 [] [] [s])=cK k:=fun g w s I=>by
  have:k.kids=[k.kids[0]'om]:=by
   apply Dd (by simp[w]);intro i a b;have:i=0:=by omega
   subst this;rfl
  rw[mA,mA k,mc g,this];simp[Nd.sort,Nd.names,Nd.kids,I]
 by_cases g:k.sort=1
 .rw[if_pos g]at e;rw[e];refine⟨.mk 1 0 [] [] [],by rw[<-g];exact leaf om om,.inr ⟨rfl,.inr (.inr (.inr (.inl ⟨cY de,cY de,cY de,iq _ _,rfl,rfl,rfl⟩)))⟩⟩
 rw[if_neg g]at e;by_cases w:k.sort=2
 .rw[if_pos w]at e;rw[e];refine⟨.mk 2 0 [] [] [],by rw[<-w];exact leaf om om,.inr ⟨rfl,.inr (.inr (.inr (.inr (.inl ⟨cY de,cY de,cY de,cY de,iq _ _,rfl,rfl,rfl⟩))))⟩⟩
 rw[if_neg w]at e;by_cases I:k.sort=3
 .rw[if_pos I]at e;rw[e];refine⟨.mk 3 0 [] [] [],by rw[<-I];exact leaf om om,.inr ⟨rfl,.inr (.inr (.inr (.inr (.inr (.inl ⟨cY de,cY de,cY de,cY de,cY de,iq _ _,rfl,rfl,rfl⟩)))))⟩⟩
 rw[if_neg I]at e;by_cases L:k.sort=4
 .have U:k.kids.length=1:=by omega
  rw[if_pos L,headD_map om]at e;rw[e]at A⊢;obtain⟨s,j,x⟩:=H _ (eu (show 0<k.kids.length by omega)) (d+1) n ([93]++r) (po O om) om (by simp at A⊢;omega);refine⟨.mk 4 0 [] [] [s],by rw[<-L];exact one om U _ j,.inr ⟨rfl,.inl ⟨?_,s,_,_,?_,.inr (.inl ⟨rfl,iq [93] r,rfl,rfl⟩),rfl⟩⟩⟩
  .rw[ga,ga];exact iq _ _
  .simpa using x
 rw[if_neg L]at e;by_cases C:k.sort=6
 .have U:k.kids.length=1:=by omega
  rw[if_pos C,headD_map om]at e;rw[e]at A⊢;obtain⟨s,j,x⟩:=H _ (eu (show 0<k.kids.length by omega)) (d+1) n r (po O om) om (by simp at A⊢;omega);refine⟨.mk 6 0 [] [] [s],by rw[<-C];exact one om U _ j,.inr ⟨rfl,.inr (.inl ⟨?_,?_,s,?_,rfl⟩)⟩⟩
  .exact cY de
  .rw[ga];exact iq _ _
  .simpa using x
 rw[if_neg C]at e;have h5:k.sort=5:=by omega
 have hr:k.names.length=k.kids.length/\wS k.names:=by grind
 obtain⟨M,z⟩:=hr;have ej:=VL (ns:=k.names) (ks:=k.kids) M k.kids.length (aQ _);rw[nz (aQ _),nz om]at ej;rw[e,ej]at A⊢;have N:∀i(h:i<k.names.length),bO k.names[i]:=fun i h=>(z i h h).1
 have F:∀q i,i+q=k.kids.length->i<k.kids.length->(Ap ((k.names.drop i).zip ((k.kids.drop i).map fR))++[125]++r).length+i<=800->∀u:List Nd,u.map cK=(k.kids.take i).map cK->∃o m,o.map cK=k.kids.map cK/\
   ym (rI n) m (k.names.take i) u (Ap ((k.names.drop i).zip ((k.kids.drop i).map fR))++[125]++r) false k.names o r false:=by
  intro q
  induction q with
  |zero=>intro i g w;omega
  |succ q Y=>
   intro i hi y c u V;have B:u.length=i:=by have:=congrArg List.length V;simp at this;omega
   have p:k.names.drop i=k.names[i]'om::k.names.drop (i+1):=by rw[ye om]
   have v:k.kids.drop i=k.kids[i]::k.kids.drop (i+1):=by rw[ye om]
   have et:k.names.take (i+1)=k.names.take i++[k.names[i]'om]:=by rw[tQ,dw om];rfl
   have S:(k.kids.take (i+1)).map cK=(k.kids.take i).map cK++[cK (k.kids[i]'om)]:=by rw[tQ,dw om,sE];rfl
   have E:=N i om;have el:=E.1.1;by_cases G:i+1=k.kids.length
   .have K:k.names.drop (i+1)=[]:=by rw[List.drop_eq_nil_iff];omega
    have J:k.kids.drop (i+1)=[]:=by rw[List.drop_eq_nil_iff];omega
    have Q:Ap ((k.names.drop i).zip ((k.kids.drop i).map fR))++[125]++r=k.names[i]'om++[58]++(fR k.kids[i]++([125]++r)):=by
     rw[p,v,K,J];simp[Ap,AW]
    rw[Q]at c⊢;obtain⟨X,Z⟩:=yN (r:=fR k.kids[i]++([125]++r)) E;obtain⟨s,j,x⟩:=H _ (eu y) (d+1) n ([125]++r) (po O y) om (by simp at c⊢;omega);refine⟨u++[s],0,?_,?_⟩
    .rw[sE,V];show _++[cK s]=_;rw[j,<-S,nz om]
    .have:=ym.last (P:=rI n) (k.names.take i) u (k.names[i]'om++[58]++(fR k.kids[i]++([125]++r))) s ([125]++r) false ⟨by rw[ra];omega,by omega,by omega⟩ (by rw[X];exact x) (iq [125] r);have ee:k.names.take (i+1)=k.names:=nz om;rw[Z,<-et,ee]at this;exact this
   .have Q:Ap ((k.names.drop i).zip ((k.kids.drop i).map fR))++[125]++r=k.names[i]'om++[58]++(fR k.kids[i]++([44]++(Ap ((k.names.drop (i+1)).zip ((k.kids.drop (i+1)).map fR))++[125]++r))):=by
     have T:(k.names.drop (i+1)).zip ((k.kids.drop (i+1)).map fR)≠[]:=fun w=>by
      have:=congrArg List.length w;simp at this;omega
     rw[p,v,sG,List.zip_cons_cons,Ap,adX T];simp only[ga]
    rw[Q]at c⊢;generalize f:Ap ((k.names.drop (i+1)).zip ((k.kids.drop (i+1)).map fR))++[125]++r=t at*;obtain⟨X,Z⟩:=yN (r:=fR k.kids[i]++([44]++t)) E;obtain⟨s,j,x⟩:=H _ (eu y) (d+1) n ([44]++t) (po O y) om (by simp at c⊢;omega);obtain⟨o,m,r1,R⟩:=Y (i+1) om om (by rw[f];simp at c⊢;omega) (u++[s]) (by rw[S,sE,V];show _++[cK s]=_;rw[j]);rw[f]at R;refine⟨o,m+1,r1,?_⟩;have T:¬cd ([44]++t) [125]:=cY de;have:=ym.step (P:=rI n) m (k.names.take i) u (k.names[i]'om++[58]++(fR k.kids[i]++([44]++t))) s ([44]++t) false t false k.names o r false ⟨by rw[ra];omega,by omega,by omega⟩ (by rw[X];exact x) T (.inr (.inl ⟨rfl,iq [44] t,rfl,rfl⟩)) (by rw[Z,<-et];exact R);exact this
 by_cases hz:k.kids.length=0
 .have eo:=mc hz;have ei:=mc (show k.names.length=0 by omega);have ez:k.names.zip (k.kids.map fR)=[]:=by rw[eo,ei];rfl
  rw[ez];refine⟨.mk 5 0 [] [] [],by rw[<-h5];exact leaf om om,.inr ⟨rfl,.inr (.inr (.inl ⟨cY de,cY de,?_,.inl ⟨?_,?_,rfl,rfl⟩⟩))⟩⟩
  .exact iq [123] ([125]++r)
  .exact iq [125] r
  .rfl
 .obtain⟨o,m,r1,R⟩:=F k.kids.length 0 om om (by simp at A⊢;omega) [] rfl;have ed:=N 0 om;refine⟨.mk 5 0 [] k.names o,?_,.inr ⟨rfl,.inr (.inr (.inl ⟨cY de,cY de,?_,.inr ⟨?_,m,k.names,o,?_,rfl⟩⟩))⟩⟩
  .rw[mA];show[DV.int .i64 5,.sl (aR k.names),.sl (o.map cK)]=cK k;rw[mA k,h5,r1]
  .rw[ga,ga];exact iq _ _
  .have p:k.names=k.names[0]'om::k.names.drop 1:=by
    have:=ye (l:=k.names) (i:=0) om;simpa using this
   have v:k.kids=k.kids[0]'om::k.kids.drop 1:=by
    have:=ye (l:=k.kids) (i:=0) om;simpa using this
   have e0:Ap (k.names.zip (k.kids.map fR))=k.names[0]'om++(([58]:ab)++fR (k.kids[0]'om)++AW ((k.names.drop 1).zip ((k.kids.drop 1).map fR))):=by
    have:k.names.zip (k.kids.map fR)=(k.names[0]'om,fR (k.kids[0]'om))::(k.names.drop 1).zip ((k.kids.drop 1).map fR):=by
     conv=>lhs;rw[p,v]
     rfl
    rw[this,Ap];simp only[ga]
   have:(([123]++Ap (k.names.zip (k.kids.map fR))++[125]++r).drop 1)=k.names[0]'om++((([58]:ab)++fR (k.kids[0]'om)++AW ((k.names.drop 1).zip ((k.kids.drop 1).map fR)))++[125]++r):=by
    rw[e0];simp
   rw[this];exact Sj ed _
  .simpa using R
end Go.Ab
namespace Go.Ab
open Go
attribute [local irreducible] bI cf cw bW bA dk dT
variable{L:Lk}{rl:bm}{nb:Nat}{bx:List Bx}{n f:Nat}{v:AV}{bz:bm}{args:List AV}{b:Nat}
set_option maxHeartbeats 4000000
theorem CT.weak{n0 fA:Nat}{dQ cg:List Bx}{bZ:bm}{v0:AV}(h:CT L f args nb bx rl v0 n0 dQ bZ)(c:cw v0 dQ bZ v fA cg bz)(n:nb<=fA)(r:rl.length<=bz.length):
  CT L f args nb bx rl v fA cg bz:=by
 intro g w t a d o;refine(h g w t a d o).mono ?_;rintro e q ⟨m,y,rfl,s,l,p⟩;unfold cw at c;obtain⟨b,k,u,j⟩:=c;have i:g.bk.length<=fA:=by rw[a.kt,<-a.nb];exact n
 refine⟨m,y.cut fA bz.length,rfl,s.cut u i r,l.cut k u j,?_⟩;have:=p.Uz b;rw[<-(uC u).1]at this;exact this
theorem anK{a e:Nat}(h:a=b):(a,e)=(b,e):=by rw[h]
def UF(L:Lk)(n:Nat):Prop:=∀(d:Int)(s:ab)(b:Bool)(k:Nd)(s':ab)(e:Bool),d=7-n->rI n s b k s' e->s.length<=800->
 CT L 220 [.ptr 0 0,dI d] 1 [fw s b] [] (aK k) 1 [fw s' e] []
def kB(ns:List ab)(ks:List Nd):Bx:=.var 0 [dI 5,.aO (aR ns) (.row 0),.aO (ks.map cK) (.row 1)]
theorem ajh(a:aJ L 290 abG)(hN:JL L)(d:n<=6)(o:UF L n):∀(ns:List ab)(ks:List Nd)(s:ab)(k:Nd)(s2:ab)(t:Bool),(ns.length<=800/\ks.length<=800/\s.length<=800)->rI n (mX s false).1 (mX s false).2 k s2 t->
  CT L 290 [.ptr 0 0,.ptr 1 0,.ptr 2 0] 4 [kB ns ks,.var 0 [.ptr 3 0],.var 0 [dI (6-n)],fw s false] [(ns.length,1),(ks.length,3)] (.b6 []) 4 [kB (ns++[uy s]) (ks++[k]),.var 0 [.ptr 3 0],.var 0 [dI (6-n)],fw s2 t] [((ns++[uy s]).length,1),((ks++[k]).length,3)]:=by
 intro ns ks s k s2 t l h;have u:=ux s false;have i:=hN s false om;have r:=o (7-n) _ _ _ _ _ rfl h om;have c:=bl ns;have m:=dC ks;unfold kB;refine CT.enter a rfl (aQ _) si ?_
 repeat' ((conv=>whnf);first|rw[wrap64 om]|rw[show(6:Int)-n+1=7-n by omega]|refine ad (by rw[dC];omega) ?_|refine ad ⟨by rw[bl];simp;omega,by intro y e;simp at e;subst e;rfl⟩ ?_|refine ad ⟨by rw[dC];simp;omega,by intro y e;simp at e;subst e;rfl⟩ ?_|refine ad ⟨bl _,rfl⟩ ?_|refine ad ⟨dC _,rfl⟩ ?_|refine bY ?_|refine az i [3] [] ?_|refine az r [3] [] ?_|(apply dt<;>(repeat' first|(show(_:bJ)=_;simp[aR,uy,mA])|exact sx|apply And.intro);done)|fail)
def W8(L:Lk)(n:Nat):Prop:=∀(m:Nat)(e:List ab)(t:List Nd)(s s':ab)(a:Bool),s.length<=800->
 ((cd s [125]/\e=[]/\t=[]/\s'=s.drop 1/\a=false)\/(¬cd s [125]/\ym (rI n) m [] [] s false e t s' a))->
 CT L 289 [.ptr 3 0,dS [125],.fn 290 [.ptr 0 0,.ptr 1 0,.ptr 2 0]] 4 [.var 0 [dI 5,.aO [] .nil,.aO [] .nil],.var 0 [.ptr 3 0],.var 0 [dI (6-n)],fw s false] [] (.b6 []) 4
  [.var 0 [dI 5,.d (.sl (aR e)),.d (.sl (t.map cK))],.var 0 [.ptr 3 0],.var 0 [dI (6-n)],fw s' a] []
theorem afr(p:aJ L 289 J0)(t:xw L)(l:∀(ns:List ab)(ks:List Nd)(s:ab)(k:Nd)(s2:ab)(u:Bool),(ns.length<=800/\ks.length<=800/\s.length<=800)->rI n (mX s false).1 (mX s false).2 k s2 u->
  CT L 290 [.ptr 0 0,.ptr 1 0,.ptr 2 0] 4 [kB ns ks,.var 0 [.ptr 3 0],.var 0 [dI (6-n)],fw s false] [(ns.length,1),(ks.length,3)] (.b6 []) 4 [kB (ns++[uy s]) (ks++[k]),.var 0 [.ptr 3 0],.var 0 [dI (6-n)],fw s2 u] [((ns++[uy s]).length,1),((ks++[k]).length,3)]):W8 L n:=by
 intro m a o s v b q h;refine CT.weak (n0:=4) (v0:=.b6 []) (dQ:=[kB a o,.var 0 [.ptr 3 0],.var 0 [dI (6-n)],fw v b]) (bZ:=[(a.length,1),(o.length,3)]) ?_ (by exact fz) (aQ _) (cr _);refine CT.ghost (cg:=[.var 0 [dI 5,.aO [] (.row 0),.aO [] .nil],.var 0 [.ptr 3 0],.var 0 [dI (6-n)],fw s false]) 1 rfl (by repeat' (first|exact trivial|exact rfl|exact Or.inl rfl|exact Or.inr ⟨rfl,rfl⟩|apply And.intro)) ?_;refine CT.ghost (cg:=[.var 0 [dI 5,.aO [] (.row 0),.aO [] (.row 1)],.var 0 [.ptr 3 0],.var 0 [dI (6-n)],fw s false]) 3 rfl (by repeat' (first|exact trivial|exact rfl|exact Or.inl rfl|exact Or.inr ⟨rfl,rfl⟩|apply And.intro)) ?_;rcases h with⟨w,rfl,rfl,rfl,rfl⟩|⟨w,h⟩
 .refine p.ct ?_
  repeat' ((conv=>whnf);first|refine az ((t s [125] false).1 w) [3] [] ?_|exact fz|fail)
 .refine p.ct ?_
  repeat' ((conv=>whnf);first|refine az ((t s [125] false).2 w) [3] [] ?_|fail)
  all_goals(conv=>whnf)
  refine LW.gen (S:=Nat×List ab×List Nd×ab×Bool) (fun x=>x.1) (fun x=>ym (rI n) x.1 x.2.1 x.2.2.1 x.2.2.2.1 x.2.2.2.2 a o v b)
   (fun x=>⟨[(0,.ptr 3 0),(1,dS [125]),(2,.fn 290 [.ptr 0 0,.ptr 1 0,.ptr 2 0])],4,[kB x.2.1 x.2.2.1,.var 0 [.ptr 3 0],.var 0 [dI (6-n)],fw x.2.2.2.1 x.2.2.2.2],[(x.2.1.length,1),(x.2.2.1.length,3)]⟩)
   (fun _=>⟨rfl,rfl,rfl⟩) ?_ (m,[],[],s,false) h _ lz
  rintro⟨m,ns,ks,i,z⟩ j c;cases j with
  |stop=>
   skip
   repeat' ((conv=>whnf);first|apply aq|apply bK|apply aD|apply aH|apply bp|apply aM|apply eA|apply ew|apply gQ|apply bS|rw[ca];intro _|rw[dC];intro _|rw[bl];intro _|refine bY ?_|exact fz|intro _)
  |last _ _ _ k s2 u r d e=>
   dsimp only at r d e
   repeat' ((conv=>whnf);first|refine cX (l ns ks i k _ _ r d) [0,1,2,3] [0,1] rfl ⟨rfl,rfl,rfl,rfl,trivial⟩ ⟨rfl,rfl,trivial⟩ ?_|refine ck ((t _ [125] _).1 e) [3] [] rfl ⟨rfl,trivial⟩ ?_|exact fz|fail)
  |step m _ _ _ k s2 u E T _ _ _ _ r d e g f=>
   dsimp only at r d e g f c;rcases g with⟨rfl,rfl,rfl⟩|⟨rfl,y,rfl,rfl⟩|⟨rfl,y,rfl,rfl⟩
   .skip
    repeat' ((conv=>whnf);first|refine cX (l ns ks i k _ _ r d) [0,1,2,3] [0,1] rfl ⟨rfl,rfl,rfl,rfl,trivial⟩ ⟨rfl,rfl,trivial⟩ ?_|refine ck ((t _ [125] _).2 e) [3] [] rfl ⟨rfl,trivial⟩ ?_|refine c (m,ns++[uy i],ks++[k],_,true) _ (tT _) f lz|fail)
   .skip
    repeat' ((conv=>whnf);first|refine cX (l ns ks i k _ _ r d) [0,1,2,3] [0,1] rfl ⟨rfl,rfl,rfl,rfl,trivial⟩ ⟨rfl,rfl,trivial⟩ ?_|refine ck ((t _ [125] _).2 e) [3] [] rfl ⟨rfl,trivial⟩ ?_|refine ck ((t _ [44] _).1 y) [3] [] rfl ⟨rfl,trivial⟩ ?_|refine c (m,ns++[uy i],ks++[k],_,false) _ (tT _) f lz|fail)
   .skip
    repeat' ((conv=>whnf);first|refine cX (l ns ks i k _ _ r d) [0,1,2,3] [0,1] rfl ⟨rfl,rfl,rfl,rfl,trivial⟩ ⟨rfl,rfl,trivial⟩ ?_|refine ck ((t _ [125] _).2 e) [3] [] rfl ⟨rfl,trivial⟩ ?_|refine ck ((t _ [44] _).2 y) [3] [] rfl ⟨rfl,trivial⟩ ?_|refine c (m,ns++[uy i],ks++[k],_,true) _ (tT _) f lz|fail)
theorem afs(t:aJ L 220 agV)(e:xw L)(hN:JL L)(p:aJ L 290 abG)(v:aJ L 289 J0):∀n,n<=7->UF L n:=by
 intro n
 induction n with
 |zero=>
  intro E d s b k o w T h A;obtain⟨rfl,rfl,rfl⟩:=h;refine t.ct ?_
  repeat' ((conv=>whnf);first|exact xo|apply aq|exact fz|intro _)
 |succ n g=>
  intro E d s b k o w T h A;have j:=g om;have O:W8 L n:=afr v e (ajh p hN om j);have I:d=6-n:=by omega
  subst I;have y:(6:Int)-n+1=7-n:=by omega
  rcases h with⟨rfl,rfl,rfl,rfl⟩|⟨rfl,⟨x,N,P,V,h,S,rfl⟩|⟨a,H,N,h,rfl⟩|⟨a,i,R,h⟩|⟨a,i,r,D,rfl,rfl,rfl⟩|⟨a,i,r,f,U,rfl,rfl,rfl⟩|⟨a,i,r,f,z,C,rfl,rfl,rfl⟩|⟨a,i,r,f,z,M,rfl,rfl,rfl⟩⟩
  .refine t.ct ?_
   repeat' ((conv=>whnf);first|exact xo|apply aq|exact fz|intro _)
  .have l:=j _ _ _ _ _ _ rfl h (by simp;omega);rcases S with⟨rfl,rfl,rfl⟩|⟨rfl,q,rfl,rfl⟩|⟨rfl,q,rfl,rfl⟩
   .refine t.ct ?_
    repeat' ((conv=>whnf);first|exact xo|rw[wrap64 om]|rw[y]|apply aq|refine bY ?_|refine az ((e s [91] false).1 x) [0] [] ?_|refine az l [0] [] ?_|exact fx|intro _)
   .refine t.ct ?_
    repeat' ((conv=>whnf);first|exact xo|rw[wrap64 om]|rw[y]|apply aq|refine bY ?_|refine az ((e s [91] false).1 x) [0] [] ?_|refine az l [0] [] ?_|refine ck ((e _ [93] _).1 q) [0] [] rfl ⟨rfl,trivial⟩ ?_|exact fx|intro _)
   .refine t.ct ?_
    repeat' ((conv=>whnf);first|exact xo|rw[wrap64 om]|rw[y]|apply aq|refine bY ?_|refine az ((e s [91] false).1 x) [0] [] ?_|refine az l [0] [] ?_|refine ck ((e _ [93] _).2 q) [0] [] rfl ⟨rfl,trivial⟩ ?_|exact fx|intro _)
  .have l:=j _ _ _ _ _ _ rfl h (by simp;omega);refine t.ct ?_
   repeat' ((conv=>whnf);first|exact xo|rw[wrap64 om]|rw[y]|apply aq|refine az ((e s [91] false).2 a) [0] [] ?_|refine az ((e s [63] false).1 H) [0] [] ?_|refine az l [0] [] ?_|exact fx|intro _)
  .have F:∃m u c,((cd (s.drop 1) [125]/\u=[]/\c=[]/\o=(s.drop 1).drop 1/\w=false)\/(¬cd (s.drop 1) [125]/\ym (rI n) m [] [] (s.drop 1) false u c o w))/\k=.mk 5 0 [] u c:=by
    rcases h with⟨q,rfl,rfl,rfl⟩|⟨q,m,u,c,h,rfl⟩
    .exact⟨0,[],[],.inl ⟨q,rfl,rfl,rfl,rfl⟩,rfl⟩
    .exact⟨m,u,c,.inr ⟨q,h⟩,rfl⟩
   obtain⟨m,u,c,Y,rfl⟩:=F;have l:=O m u c (s.drop 1) o w (by simp;omega) Y;refine t.ct ?_
   repeat' ((conv=>whnf);first|exact xo|apply aq|refine az ((e s [91] false).2 a) [0] [] ?_|refine az ((e s [63] false).2 i) [0] [] ?_|refine az ((e s [123] false).1 R) [0] [] ?_|refine az l [4,1,2,0] [] ?_|exact fz|intro _)
  .refine t.ct ?_
   repeat' ((conv=>whnf);first|exact xo|apply aq|refine az ((e s [91] false).2 a) [0] [] ?_|refine az ((e s [63] false).2 i) [0] [] ?_|refine az ((e s [123] false).2 r) [0] [] ?_|refine az ((e s [110,117,109] false).1 D) [0] [] ?_|exact fz|intro _)
  .refine t.ct ?_
   repeat' ((conv=>whnf);first|exact xo|apply aq|refine az ((e s [91] false).2 a) [0] [] ?_|refine az ((e s [63] false).2 i) [0] [] ?_|refine az ((e s [123] false).2 r) [0] [] ?_|refine az ((e s [110,117,109] false).2 f) [0] [] ?_|refine az ((e s [116,101,120,116] false).1 U) [0] [] ?_|exact fz|intro _)
  .refine t.ct ?_
   repeat' ((conv=>whnf);first|exact xo|apply aq|refine az ((e s [91] false).2 a) [0] [] ?_|refine az ((e s [63] false).2 i) [0] [] ?_|refine az ((e s [123] false).2 r) [0] [] ?_|refine az ((e s [110,117,109] false).2 f) [0] [] ?_|refine az ((e s [116,101,120,116] false).2 z) [0] [] ?_|refine az ((e s [102,108,97,103] false).1 C) [0] [] ?_|exact fz|intro _)
  .refine t.ct ?_
   repeat' ((conv=>whnf);first|exact xo|apply aq|refine az ((e o [91] false).2 a) [0] [] ?_|refine az ((e o [63] false).2 i) [0] [] ?_|refine az ((e o [123] false).2 r) [0] [] ?_|refine az ((e o [110,117,109] false).2 f) [0] [] ?_|refine az ((e o [116,101,120,116] false).2 z) [0] [] ?_|refine az ((e o [102,108,97,103] false).2 M) [0] [] ?_|exact fz|intro _)
theorem Qg(e:aJ L 221 agW)(t:Cs L 93)(a:E1 L 103):∀k:Nd,(jj k->CP L 221 [aK k] (dS (fR k)))/\(¬jj k->CP L 221 [aK k] (dS [])):=by
 intro k;refine⟨fun h=>?_,fun h=>?_⟩
 .refine e.cp ?_
  repeat' ((conv=>whnf);first|apply bp|refine ak (t k) ?_|refine ak (a k 1 ⟨h.1,by have:=h.2;omega⟩) ?_|exact fz|exact xc|intro _)
 .refine e.cp ?_
  repeat' ((conv=>whnf);first|apply bp|refine ak (t k) ?_|exact fz|exact xc|intro _)
theorem RH{k:Nd}{s':ab}{e:Bool}(h:rI 6 [] false k s' e):e=true:=by
 have t:∀x w,¬cd [] (x::w):=fun x w h=>by have:=h.1;simp at this
 rcases h with⟨h,_⟩|⟨_,⟨h,_⟩|⟨_,h,_⟩|⟨_,_,h,_⟩|⟨_,_,_,h,_⟩|⟨_,_,_,_,h,_⟩|⟨_,_,_,_,_,h,_⟩|⟨_,_,_,_,_,_,_,h,_⟩⟩
 .cases h
 all_goals first|exact h|exact absurd h (t _ _)
theorem Mz(h:aJ L 138 c138)(v:∀n,n<=7->UF L n)(c:∀k:Nd,(jj k->CP L 221 [aK k] (dS (fR k)))/\(¬jj k->CP L 221 [aK k] (dS []))):re L 138:=by
 intro s;refine⟨fun k a u=>?_,fun m=>?_⟩
 .have r:=ze k 1 a.1;have g:=a.2;rw[u]at r;obtain⟨t,f,b⟩:=MZ k 1 6 [] a.1 rfl (by rw[u];simp;omega);rw[oe,u]at b;have w:=DM f.symm a;have d:=(Fb t k f).2.1;rw[u]at d;have l:=v 6 om 1 s false t _ _ rfl b om;have i:=(c t).1 w;rw[d]at i;rw[<-abt f];refine h.cp ?_
  repeat' ((conv=>whnf);first|exact xc|apply aq|apply aH|apply aM|refine az l [1] [] ?_|refine ak i ?_|exact fz|exfalso;simp at*;done|intro _)
 .by_cases q:s.length<=800
  .obtain⟨t,x,y,o⟩:=rI.ex 6 s false om;have l:=v 6 om 1 s false t _ _ rfl o om;have j:y=true\/y=false:=by cases y<;>simp
   rcases j with rfl|rfl
   .refine h.cp ?_
    repeat' ((conv=>whnf);first|exact xo|apply aq|refine az l [1] [] ?_|exact fz|intro _)
   .by_cases a:jj t
    .have i:=(c t).1 a;refine h.cp ?_
     repeat' ((conv=>whnf);first|exact xo|apply aq|apply aH|apply aM|refine az l [1] [] ?_|refine ak i ?_|exact fz|exact absurd ⟨t,a,by assumption⟩ m|intro _)
    .have i:=(c t).2 a;have p:s≠[]:=fun e=>by rw[e]at o;have:=RH o;cases this
     refine h.cp ?_
     repeat' ((conv=>whnf);first|exact xo|apply aq|apply aH|apply aM|refine az l [1] [] ?_|refine ak i ?_|exact fz|exact absurd (Eq.symm asm) p|intro _)
  .refine h.cp ?_
   repeat' ((conv=>whnf);first|exact xo|apply aq|exact fz|intro _)
variable{s:ab}{p:Nat}
theorem mn{A:Int->Prop}{B:Prop}(b:UInt8)(h:s[p]?=some b)(t:b.toNat<128)(k:A b.toNat):bW s p A B:=by
 unfold bW;refine⟨fun o e=>?_,fun a=>?_⟩
 .rw[h]at e;cases e;exact⟨t,k⟩
 .rw[qY a]at h;cases h
theorem X8{A:Int->Prop}{B:Prop}(h:s[p]?=none)(k:B):bW s p A B:=by
 unfold bW;exact⟨fun b e=>(by rw[h]at e;cases e),fun _=>k⟩
variable{xs:bJ}
theorem aii{α:Type}{l:List α}(h:l.length=0):l=[]:=mc h
theorem aij{α:Type}{l:List α}(h:l.length=1):∃a,l=[a]:=by
 match l,h with|[a],_=>exact⟨a,rfl⟩
theorem aik{α:Type}{l:List α}(h:l.length=2):∃a b,l=[a,b]:=by
 match l,h with|[a,b],_=>exact⟨a,b,rfl⟩
theorem akF{α:Type}{l:List α}(h:l.length=3):∃a b c,l=[a,b,c]:=by
 match l,h with|[a,b,c],_=>exact⟨a,b,c,rfl⟩
theorem aff{a:Nd}{K:List DV->Prop}(k:K [.int .i64 a.sort,.int .i64 a.num,.str a.text,.sl (aR a.names),.sl (a.kids.map cT)]):cf (cT a::xs) 0 K:=
 P5 (by rw[DQ];exact k)
theorem afe{a:ab}{K:List DV->Prop}(k:K [.str a]):cf ([.str a]::xs) 0 K:=P5 k
theorem Jp{a e:Nat}(h:a=b):some (a,e)=some (b,e):=by rw[h]
theorem TN{a e:Nat}(h:a=b):(a,e)=(b,e):=by rw[h]
def E3(L:Lk)(t:Nd):Prop:=∀(a:Bool)(d:Int)(xs:bJ),uB a d t->Sm t->xs.length+(nL t).length<=100000000->
 CT L 178 [aT t,.aO xs (.row 0)] 0 [] [(xs.length,1)] (.aO (xs++aR (nL t)) (.row 0)) 0 [] [((xs++aR (nL t)).length,1)]
theorem ajC{t:Nd}(h:t.sort≠1/\t.sort≠2/\t.sort≠3/\t.sort≠4/\t.sort≠24):nL t=fQ t.sort::(t.names++xE t.sort t.num t.text++(t.kids.map nL).flatten):=by
 rw[Aw,if_neg om,if_neg om,if_neg om]
set_option maxHeartbeats 40000000 in
theorem VY(Y:aJ L 178 abz)(g:∀op:Int,CP L 252 [dI op] (dB (pb (1<=op/\op<=3))))(z:∀op:Int,CP L 254 [dI op] (.b6 [.agg [dS (fQ op),dS (iz op)],dB (pb (5<=op/\op<=43))]))(P:∀n:Int,eB .i64 n->CP L 174 [dI n] (dS (dec n)))(num:Int)(tx:ab)(ns:List ab)(ks:List Nd)(E:∀k,k∈ks->E3 L k)(op:Int)(p:5<=op/\op<=43/\op≠24):E3 L (.mk op num tx ns ks):=by
 intro a d xs u j v;have T:=(yP u).2;obtain⟨A,O,I,N⟩:=T;have N:=N (by show op≠24;omega);obtain⟨l,c,S,f⟩:=N;have r:∀i(h:i<ks.length),uB (Dz (.mk op num tx ns ks) i) (d+1) ks[i]/\Sm ks[i]:=fun i h=>⟨wM u h,j.K0 h⟩
 have q:=ajC (t:=.mk op num tx ns ks) (by show op≠1/\op≠2/\op≠3/\op≠4/\op≠24;omega);have w:nL (.mk op num tx ns ks)=fQ op::(ns++xE op num tx++(ks.map nL).flatten):=q;have g:=g op;rw[ig om]at g;have z:=z op;rw[w]at v⊢;change CT L 178 [.agg [dI op,dI num,dS tx,.d (.sl (aR ns)),.d (.sl (ks.map cT))],.aO xs (.row 0)] 0 [] [(xs.length,1)] _ 0 [] _;change ks.length=(eQ op).length at l;change (ns.length:Int)=eW op at c;unfold CW at f;dsimp only[Nd.sort,Nd.num,Nd.text]at f;obtain b|b|b:(op=5\/op=6)\/(op=37\/op=39)\/(op=7\/op=8\/op=9\/op=10\/op=11\/op=12\/op=13\/op=14\/op=15\/op=16\/op=17\/op=18\/op=19\/op=20\/op=21\/op=22\/op=23\/op=25\/op=26\/op=27\/op=28\/op=29\/op=30\/op=31\/op=32\/op=33\/op=34\/op=35\/op=36\/op=38\/op=40\/op=41\/op=42\/op=43):=by omega
 obtain⟨rfl,V,B,H⟩:=f.2.1 om
 have R:tx≠[]:=fun e=>by
  have:=vL V;rw[H,e]at this
  repeat' split at this
  all_goals simp at this
 have s:xE op 0 tx=[tx]:=by simp[xE,R,show¬(op=37\/op=39) by omega]
 rw[s]at v⊢;clear A O I S q w j u f p;rcases b with rfl|rfl
 rotate_left 2
 have m:eB .i64 num/\tx=[]:=by
  unfold eB;rcases b with h|h
  .have:=f.2.2.1 h;exact⟨by simp only;omega,this.2⟩
  .have:=f.2.2.2.1 h;exact⟨by simp only;omega,this.2⟩
 obtain⟨m,rfl⟩:=m;have s:xE op num []=[dec num]:=by simp[xE,show op=37\/op=39 by omega]
 rw[s]at v⊢;have G:=P num m;clear A O I S q w j u f p;rcases b with rfl|rfl
 rotate_left 2
 obtain⟨rfl,rfl⟩:=f.2.2.2.2 om;have s:∀o:Int,(o=37\/o=39->False)->xE o 0 []=[]:=fun o h=>by simp[xE,show¬(o=37\/o=39)from h]
 rw[s op om]at v⊢;clear A O I S q w j u f p;rcases b with rfl|rfl|rfl|rfl|rfl|rfl|rfl|rfl|rfl|rfl|rfl|rfl|rfl|rfl|rfl|rfl|rfl|rfl|rfl|rfl|rfl|rfl|rfl|rfl|rfl|rfl|rfl|rfl|rfl|rfl|rfl|rfl|rfl|rfl
 all_goals
  (first
   |(have l:ks.length=0:=l;obtain rfl:=aii l)
   |(have l:ks.length=1:=l;obtain⟨D,rfl⟩:=aij l;have x:=r 0 si)
   |(have l:ks.length=2:=l;obtain⟨D,C,rfl⟩:=aik l;have x:=r 0 si;have U:=r 1 si)
   |(have l:ks.length=3:=l;obtain⟨D,C,K,rfl⟩:=akF l;have x:=r 0 si;have U:=r 1 si;have M:=r 2 si))
  (first
   |(have c:(ns.length:Int)=0:=c;obtain rfl:=aii (Int.ofNat.inj c))
   |(have c:(ns.length:Int)=1:=c;obtain⟨J,rfl⟩:=aij (Int.ofNat.inj c))
   |(have c:(ns.length:Int)=2:=c;obtain⟨J,Q,rfl⟩:=aik (Int.ofNat.inj c)))
 all_goals clear r l c
 all_goals simp only[Cr,sG,AK,Ro,List.flatten_nil,oe,aZ,bG,bc]at v
 all_goals refine CT.enter Y rfl (aQ _) si ?_
 repeat' ((conv=>whnf);first|refine aff ?_|refine afe ?_|refine ad ⟨by(try simp only[bG,aZ,bc]);omega,by intro y F;simp at F;subst F;rfl⟩ ?_|refine ad ⟨by simp<;>omega,rfl⟩ ?_|refine ad ⟨by omega,by simp[aR],by simp,by simp[aR,DQ]⟩ ?_|refine bY ?_|refine ak g ?_|refine ak z ?_|refine ak G ?_|refine mn _ rfl de ?_|refine X8 rfl ?_|refine LW.unfold ?_|refine cX (E D si _ _ _ x.1 x.2 (by(try simp only[bG,aZ,bc]);omega)) [] [0] rfl trivial ⟨Jp (by simp<;>omega),trivial⟩ ?_|refine cX (E C si _ _ _ U.1 U.2 (by(try simp only[bG,aZ,bc,bl]);omega)) [] [0] rfl trivial ⟨Jp (by simp<;>omega),trivial⟩ ?_|refine cX (E K si _ _ _ M.1 M.2 (by(try simp only[bG,aZ,bc,bl]);omega)) [] [0] rfl trivial ⟨Jp (by simp<;>omega),trivial⟩ ?_|exact fx|fail)
theorem adu(v:aJ L 178 abz)(m:∀r:Int,CP L 252 [dI r] (dB (pb (1<=r/\r<=3))))(N:∀r:Int,CP L 254 [dI r] (.b6 [.agg [dS (fQ r),dS (iz r)],dB (pb (5<=r/\r<=43))]))(z:∀n:Int,eB .i64 n->CP L 174 [dI n] (dS (dec n)))(j:∀t:Nd,1<=t.sort/\t.sort<=3->CP L 253 [aT t] (aT (.mk t.sort t.num t.text [] [])))(S:uf L 175):∀t:Nd,E3 L t:=by
 refine Nd.ind fun t p=>?_
 by_cases b:t.sort=1\/t.sort=2\/t.sort=3
 .intro a d xs o g c;have E:=Wr o;have w:=m t.sort;rw[iA om]at w;have e:=Aw t;rw[if_pos b]at e;rw[e]at c⊢;simp only[aZ,bc]at c;refine CT.enter v rfl (aQ _) si ?_
  repeat' ((conv=>whnf);first|refine ad ⟨by(try simp only[aZ,bc]);omega,by intro y l;simp at l;subst l;rfl⟩ ?_|refine ad ⟨by simp<;>omega,rfl⟩ ?_|refine ak w ?_|refine ak (j t om) ?_|refine ak (S (.mk t.sort t.num t.text [] []) 1 ⟨E.lit om,(by show 0+1<=120;omega)⟩) ?_|exact fx|fail)
 have w:=m t.sort;rw[ig om]at w;by_cases k:t.sort=4
 .intro a d xs o g c;have E:=(Wr o).one k;have e:=Aw t;rw[if_neg b,if_pos k,Eb om]at e;rw[e]at c⊢;simp only[aZ,bc]at c;refine CT.enter v rfl (aQ _) si ?_
  repeat' ((conv=>whnf);first|exact xo|refine bY ?_|refine ad ⟨by(try simp only[aZ,bc]);omega,by intro y l;simp at l;subst l;rfl⟩ ?_|refine ad ⟨by simp<;>omega,rfl⟩ ?_|apply aD|refine ak w ?_|exact fx|intro _)
 by_cases f:t.sort=24
 .intro a d xs o g c;have H:=(Wr o).form f;have e:=Aw t;rw[if_neg b,if_neg k,if_pos f]at e;have R:=Uw t a d o
  have s:∀i,i<=t.kids.length->(lX t.names (t.kids.map nL) i).length<=(lX t.names (t.kids.map nL) t.kids.length).length:=by
   intro i T;obtain⟨q,A⟩:∃q,i+q=t.kids.length:=⟨t.kids.length-i,by omega⟩;rw[<-A];clear A T
   induction q with
   |zero=>exact aQ _
   |succ q D=>rw[<-kJ,lX];simp;omega
  rw[e]at c⊢;simp only[bG,aZ,bc]at c;have O:∀i(h:i<t.kids.length),uB (Dz t i) (d+1) t.kids[i]/\Sm t.kids[i]:=fun i h=>⟨wM o h,g.K0 h⟩
  have u:∀i(h:i<t.kids.length),(lX t.names (t.kids.map nL) i).length+1+(nL t.kids[i]).length<=(lX t.names (t.kids.map nL) t.kids.length).length:=fun i h=>by
   have:=s (i+1) om;rw[BC h om]at this;simp at this;omega
  have U:=g.kids;refine CT.enter v rfl (aQ _) si ?_
  repeat' ((conv=>whnf);first|exact xo|refine ad ⟨by have:=s 0 om;have:=s i om;(try have:=u i om);(try simp only[bG,aZ,bc,bl]);omega,by intro y l;simp at l;subst l;rfl⟩ ?_|refine ad ⟨by(try simp only[bG,aZ,bc,bl]);omega,by intro y l;simp at l;subst l;rfl⟩ ?_|refine ad ⟨by simp<;>omega,rfl⟩ ?_|apply aq|apply aD|rw[ca];intro _|refine bY ?_|refine ak w ?_|refine cX (p _ (eu om) _ _ _ (O i om).1 (O i om).2 (by have:=u i om;(try simp only[bG,aZ,bc,bl]);omega)) [] [0] rfl trivial ⟨Jp (by simp<;>omega),trivial⟩ ?_|refine I _ om (trivial) (by refine⟨?_,?_,?_⟩<;>repeat' first|(show(_:bJ)=_;rw[BC om om];simp[aR])|exact TN (by rw[BC om om];simp)|exact sz|exact dV om|apply And.intro)|(fail_if_success (have P:=I));refine LW.count t.kids.length (fun i=>True) (fun i=>⟨[(44,dI i),(1,.aO (xs++aR (lX t.names (t.kids.map nL) i)) (.row 0)),(42,.d (.sl (t.kids.map cT))),(43,dI t.kids.length),(2,.ptr 0 0)],1,[.var 0 [dI t.sort,dI t.num,dS t.text,.d (.sl (aR t.names)),.d (.sl (t.kids.map cT))]],[((xs++aR (lX t.names (t.kids.map nL) i)).length,1)]⟩) (fun _=>⟨rfl,rfl,rfl⟩) (fun i T z I=>?_) (trivial) _ (by refine⟨?_,?_,?_⟩<;>repeat' first|(show(_:bJ)=_;simp[aR,lX])|exact TN (by simp[lX])|exact sz|exact dV om|apply And.intro)|intro _)
  all_goals(conv=>whnf)
  all_goals(have x:i=t.kids.length:=by omega)
  all_goals(rw[<-x];exact fx)
 .cases t with
  |mk r num C M F=>
   dsimp only[Nd.sort]at b k f;intro a d xs o;have Y:=(yP o).2.1;change 1<=r/\r<=43 at Y;exact VY v m N z num C M F p r om a d xs o
theorem CT.ae7{x:AV}{o:List Bx}{fA:Nat}{i:bm}(e:Nat)(m:Nat.ble 1 (gw e)=true)(h:CT L f [x,.aO [] (.row 0)] 0 [] [(0,e)] v fA o i):CT L f [x,.aO [] .nil] 0 [] [] v fA o i:=by
 intro g w a n l t;obtain⟨d,p⟩:=Ab.ghost e (cb m) n (cg:=[]) trivial;refine(h _ w a p l fun j A y r c=>?_).mono ?_
 .match j with
  |0=>cases r;exact(t 0 _ y rfl c).bj d
  |1=>
   cases r;have:=t 1 _ y rfl c;cases this with
   |aO _ _ _ b k=>
    refine .aO _ _ _ (b.bj d.bD d.cell) ⟨0,e,rfl,fun x r=>(by cases r),aQ _,fun _=> .inl ⟨k,?_⟩⟩;have q:g.rw.length=0:=n.jv;rw[mc q];rfl
  |j+2=>simp at r
 .rintro O I ⟨z,E,rfl,s,u,T⟩;exact⟨z,E,rfl,d.trans s,u,T⟩
theorem ado(s:aJ L 104 agp)(h:∀t:Nd,E3 L t)(r:∀l:List ab,(jn l).length<=140737488355328->CP L 177 [.d (.sl (aR l)),dS [32]] (dS (jn l))):Bn L 104:=by
 intro t a d e o;have u:=Uw t a d e;have c:=o.wt;have m:=Ur t a d e;have i:=afg t a d e
 have f:CT L 178 [aT t,.aO [] .nil] 0 [] [] (.d (.sl (aR (nL t)))) 0 [] []:=by
  refine CT.weak (n0:=0) (v0:=.aO ([]++aR (nL t)) (.row 0)) (dQ:=[]) (bZ:=[(([]++aR (nL t)).length,1)]) ?_ (by exact fz) (aQ _) (cr _);exact CT.ae7 1 rfl (h t a d [] e o (by simp;omega))
 have n:=r (nL t) (by rw[<-i];omega);rw[<-i]at n;refine s.cp ?_
 repeat' ((conv=>whnf);first|refine az f [] [] ?_|refine ak n ?_|exact fz|fail)
variable{i:Nat}
def jo(n:Nat):Prop:=48<=n/\n<=57
def qb(s:ab)(p:Nat):Nat->Nat
 |0=>0
 |i+1=>qb s p i*10+(bE s (p+i)-48)
theorem TG{s:ab}{p:Nat}:∀{i:Nat},(∀j,j<i->jo (bE s (p+j)))->qb s p i<10^i
 |0,_=>by simp[qb]
 |i+1,h=>by
  have t:=TG (i:=i) fun j a=>h j om
  have e:=h i om;unfold jo at e;rw[qb,Nat.pow_succ];omega
theorem adH(hi:i<=10)(h:∀j,j<i->jo (bE s (p+j))):qb s p i<=9999999999:=by
 have e:=TG h;have t:10^i<=10^10:=Nat.pow_le_pow_right om hi;have:(10:Nat)^10=10000000000:=by decide
 omega
theorem CM{v c:Nat}(e:v<=9999999999)(t:48<=(c:Int))(a:(c:Int)<=57):IntKind.i64.wrap (IntKind.i64.wrap ((v:Int)*10)+IntKind.i64.wrap (IntKind.u8.wrap ((c:Int)-48)))=((v*10+(c-48):Nat):Int):=by
 rw[Q7 om,wrap64 (n:=(v:Int)*10) om,wrap64 (n:=(c:Int)-48) om,wrap64 om];omega
def NumEnd(s:ab)(p q:Nat):Prop:=p<=q/\q<=p+10/\(∀i,p<=i->i<q->jo (bE s i))/\(q=p+10\/¬jo (bE s q))
def Cy(s:ab)(p e:Nat)(g:Int):Prop:=(bE s p=45/\e=p+1/\g=-1)\/(bE s p≠45/\e=p/\g=1)
def I8(L:Lk):Prop:=∀(s:ab)(p e q:Nat)(g:Int)(b t:Bool),s.length<=1000000->p<=s.length->Cy s p e g->NumEnd s e q->((q=e/\t=true)\/(q≠e/\t=b))->
 CT L 192 [.ptr 0 0] 1 [kq s p b] [] (dI (g*qb s e (q-e))) 1 [kq s q t] []
theorem aft(x:aJ L 192 agQ)(c:v7 L):I8 L:=by
 intro s p t q g b U m C O S y;obtain⟨M,F,I,v⟩:=S;have f:∀i,i<q-t->jo (bE s (t+i)):=fun i a=>I _ om om
 have u:∀i,i<=q-t->jo (bE s (t+i))->i<10->i<q-t:=fun i a w H=>by
  by_cases h:i=q-t
  .rw[h,show t+(q-t)=q by omega]at w;rcases v with v|v
   .omega
   .exact absurd w v
  .omega
 have o:∀i,i<=q-t->(¬jo (bE s (t+i))\/10<=i)->i=q-t:=fun i a w=>by
  by_cases h:i=q-t
  .omega
  .rcases w with w|w
   .exact absurd (f i om) w
   .omega
 have k:∀i,i<=q-t->qb s t i<=9999999999:=fun i a=>adH om fun j Y=>f j om
 have R:=k (q-t) (aQ _);have N:IntKind.i64.wrap (0-(qb s t (q-t):Int))=-1*(qb s t (q-t):Int):=by rw[wrap64 om];omega
 have r:IntKind.i64.wrap ((t:Int)+10)=(t:Int)+10:=wrap64 (by rcases O with⟨_,h,_⟩|⟨_,h,_⟩<;>omega);have z:(qb s t (q-t):Int)=1*(qb s t (q-t):Int):=by omega
 have E:∀n,bE s n<=255:=fun n=>by unfold bE;split<;>first|(have:=UInt8.toNat_lt ‹UInt8›;omega)|omega
 clear v I;rcases O with⟨D,rfl,rfl⟩|⟨D,rfl,rfl⟩
 .rcases y with⟨y,d⟩|⟨y,d⟩<;>subst d
  .refine x.ct ?_
   repeat' ((conv=>whnf);first|exact xo|rw[r]|apply aq|apply bK|apply aD|refine ck (c s p _ m) [0] [] rfl ⟨rfl,trivial⟩ ?_|refine ck (c s ((p+1)+i) _ m) [0] [] rfl ⟨rfl,trivial⟩ ?_|refine l _ (u i a (by unfold jo;omega) om) trivial (by refine⟨?_,?_,?_⟩<;>repeat' first|(refine c8 ?_;exact CM (k i om) asm asm)|exact sx|apply And.intro)|(fail_if_success (have T:=l));refine LW.count (q-(p+1)) (fun _=>True) (fun i=>⟨[(0,.ptr 0 0),(3,dB (jf (bE s p) 45)),(4,dI (((p+1):Nat):Int)),(5,dI (qb s (p+1) i))],1,[kq s ((p+1)+i) _],[]⟩) (fun _=>⟨rfl,rfl,rfl⟩) (fun i a A l=>?_) trivial _ lz|have e:=o i a (by unfold jo;omega);subst e;exact fx|have e:=o i a (by unfold jo;omega);exfalso;omega|intro _)
  .refine x.ct ?_
   repeat' ((conv=>whnf);first|exact xo|rw[r]|apply aq|apply bK|apply aD|refine ck (c s p _ m) [0] [] rfl ⟨rfl,trivial⟩ ?_|refine ck (c s ((p+1)+i) _ m) [0] [] rfl ⟨rfl,trivial⟩ ?_|refine l _ (u i a (by unfold jo;omega) om) trivial (by refine⟨?_,?_,?_⟩<;>repeat' first|(refine c8 ?_;exact CM (k i om) asm asm)|exact sx|apply And.intro)|(fail_if_success (have T:=l));refine LW.count (q-(p+1)) (fun _=>True) (fun i=>⟨[(0,.ptr 0 0),(3,dB (jf (bE s p) 45)),(4,dI (((p+1):Nat):Int)),(5,dI (qb s (p+1) i))],1,[kq s ((p+1)+i) _],[]⟩) (fun _=>⟨rfl,rfl,rfl⟩) (fun i a A l=>?_) trivial _ lz|have e:=o i a (by unfold jo;omega);subst e;exact fx|have e:=o i a (by unfold jo;omega);exfalso;omega|intro _)
 .rcases y with⟨y,d⟩|⟨y,d⟩<;>subst d
  .refine x.ct ?_
   repeat' ((conv=>whnf);first|exact xo|rw[r]|apply aq|apply bK|apply aD|refine ck (c s t _ m) [0] [] rfl ⟨rfl,trivial⟩ ?_|refine ck (c s (t+i) _ m) [0] [] rfl ⟨rfl,trivial⟩ ?_|refine l _ (u i a (by unfold jo;omega) om) trivial (by refine⟨?_,?_,?_⟩<;>repeat' first|(refine c8 ?_;exact CM (k i om) asm asm)|exact sx|apply And.intro)|(fail_if_success (have T:=l));refine LW.count (q-t) (fun _=>True) (fun i=>⟨[(0,.ptr 0 0),(3,dB (jf (bE s t) 45)),(4,dI ((t:Nat):Int)),(5,dI (qb s t i))],1,[kq s (t+i) _],[]⟩) (fun _=>⟨rfl,rfl,rfl⟩) (fun i a A l=>?_) trivial _ lx|have e:=o i a (by unfold jo;omega);subst e;exact fx|have e:=o i a (by unfold jo;omega);exfalso;omega|intro _)
  .refine x.ct ?_
   repeat' ((conv=>whnf);first|exact xo|rw[r]|apply aq|apply bK|apply aD|refine ck (c s t _ m) [0] [] rfl ⟨rfl,trivial⟩ ?_|refine ck (c s (t+i) _ m) [0] [] rfl ⟨rfl,trivial⟩ ?_|refine l _ (u i a (by unfold jo;omega) om) trivial (by refine⟨?_,?_,?_⟩<;>repeat' first|(refine c8 ?_;exact CM (k i om) asm asm)|exact sx|apply And.intro)|(fail_if_success (have T:=l));refine LW.count (q-t) (fun _=>True) (fun i=>⟨[(0,.ptr 0 0),(3,dB (jf (bE s t) 45)),(4,dI ((t:Nat):Int)),(5,dI (qb s t i))],1,[kq s (t+i) _],[]⟩) (fun _=>⟨rfl,rfl,rfl⟩) (fun i a A l=>?_) trivial _ lx|have e:=o i a (by unfold jo;omega);subst e;exact fx|have e:=o i a (by unfold jo;omega);exfalso;omega|intro _)
def mO(s:ab)(p q:Nat):Prop:=p<=q/\q<=s.length/\(∀i,p<=i->i<q->bE s i≠34)/\(q=s.length\/bE s q=34)
def RA(L:Lk):Prop:=∀(s:ab)(p e:Nat)(b t:Bool)(q a:Nat)(o:Bool),s.length<=1000000->p<=s.length->gW s [34] p b e t->mO s e q->gW s [34] q t a o->
 CT L 260 [.ptr 0 0] 1 [kq s p b] [] (dS ((s.take q).drop e)) 1 [kq s a o] []
theorem adn(g:aJ L 260 ahc)(c:Bk L):RA L:=by
 intro s p t b k q T A m j f x r;obtain⟨O,I,w,o⟩:=x;have y:∀i(h:i<s.length),bE s i=s[i].toNat:=fun i h=>cW h
 have d:∀i,i<=q-t->∀h:t+i<s.length,(s[t+i].toNat:Int)≠34->i<q-t:=fun i a h l=>by
  by_cases e:i=q-t
  .exfalso;have z:t+i=q:=by omega
   rcases o with o|o
   .omega
   .rw[<-z,cW h]at o;omega
  .omega
 have u:∀i,i<=q-t->s.length<=t+i->i=q-t:=fun i a l=>by omega
 have n:∀i,i<=q-t->bE s (t+i)=34->i=q-t:=fun i a l=>by
  by_cases e:i=q-t
  .exact e
  .exact absurd l (w (t+i) om om)
 clear o w;have E:=f.le j;refine g.ct ?_
 repeat' ((conv=>whnf);first|rw[wrap64 om]|apply aq|apply aD|apply aM|refine bY ?_|refine ck (c _ _ _ _ _ _ f m de om) [0] [] rfl ⟨rfl,trivial⟩ ?_|refine ck (c _ _ _ _ _ _ r m de om) [0] [] rfl ⟨rfl,trivial⟩ ?_|refine v _ (d i a om asm) trivial lx|(fail_if_success (have N:=v));refine LW.count (q-t) (fun _=>True) (fun i=>⟨[(0,.ptr 0 0),(3,dI t)],1,[kq s (t+i) k],[]⟩) (fun _=>⟨rfl,rfl,rfl⟩) (fun i a S v=>?_) trivial _ lx|(have e:=u i a om;obtain rfl:q=t+i:=by omega)|(have e:=n i a ((cW om).trans om);obtain rfl:q=t+i:=by omega)|exact fz|intro _)
inductive ug(fm:Bool)(en:Nat)(s:ab)(P:Nat->Bool->Nd->Nat->Bool->Prop):Nat->List ab->List Nd->Nat->Bool->List ab->List Nd->Nat->Bool->Prop where
 |stop (ns:List ab) (ks:List Nd) (p:Nat) (b:Bool) (h:b=true\/bE s p=en):ug fm en s P 0 ns ks p b ns ks p b
 |step (m:Nat) (ns:List ab) (ks:List Nd) (p p1:Nat) (b1:Bool) (p2:Nat) (b2:Bool) (Bd:List ab) (k:Nd) (p3:Nat) (b3:Bool) (jP:List ab) (j0:List Nd) (p':Nat) (b':Bool)
   (hl:bE s p≠en) (hp:p<=s.length) (hn:ns.length<=s.length) (hk:ks.length<=s.length) (h1:(ks.length=0/\p1=p/\b1=false)\/(0<ks.length/\gW s [44] p false p1 b1))
   (h2:(fm=false/\p2=p1/\b2=b1/\Bd=ns)\/(fm=true/\∃q,mM s p1 q/\gW s [58] q b1 p2 b2/\Bd=ns++[(s.take q).drop p1]))
   (h4:P p2 b2 k p3 b3) (h5:ug fm en s P m Bd (ks++[k]) p3 b3 jP j0 p' b'):ug fm en s P (m+1) ns ks p false jP j0 p' b'
def uK(s:ab):Nat->Nat->Bool->Nd->Nat->Bool->Prop
 |0,p,_,k,e,t=>k=bX/\e=p/\t=true
 |n+1,p,b,k,e,t=>(b=true/\k=bX/\e=p/\t=true)\/(b=false/\(
   (bE s p=34/\∃a i q,gW s [34] p false a i/\mO s a q/\gW s [34] q i e t/\k=.mk 2 0 ((s.take q).drop a) [] [])\/
   (bE s p=121/\gW s [121,101,115] p false e t/\k=.mk 3 1 [] [] [])\/
   (bE s p=110/\gW s [110,111] p false e t/\k=.mk 3 0 [] [] [])\/
   (bE s p=126/\gW s [126] p false e t/\k=.mk 6 0 [] [] [])\/
   (bE s p=63/\∃a i l,gW s [63] p false a i/\uK s n a i l e t/\k=.mk 6 0 [] [] [l])\/
   (bE s p=91/\∃m h r d,ug false 93 s (uK s n) m [] [] (p+1) false h r d t/\e=d+1/\k=.mk 4 0 [] h r)\/
   (bE s p=123/\∃m h r d,ug true 125 s (uK s n) m [] [] (p+1) false h r d t/\e=d+1/\k=.mk 5 0 [] h r)\/
   ((bE s p≠34/\bE s p≠121/\bE s p≠110/\bE s p≠126/\bE s p≠63/\bE s p≠91/\bE s p≠123)/\∃o g,Cy s p o g/\NumEnd s o e/\((e=o/\t=true)\/(e≠o/\t=false))/\
    k=.mk 1 (g*qb s o (e-o)) [] [] [])))
theorem ug.le{w:Bool}{n:Nat}{s:ab}{P:Nat->Bool->Nd->Nat->Bool->Prop}{c:Nat}(hP:∀p b k p' t,P p b k p' t->p<=s.length->p<=p'/\p'<=s.length+c/\(t=false->p'<=s.length)){m:Nat}{ns:List ab}{ks:List Nd}{p:Nat}{b:Bool}{a:List ab}{o:List Nd}{p':Nat}{t:Bool}(h:ug w n s P m ns ks p b a o p' t)(y:p<=s.length+c)(v:b=false->p<=s.length):
  p<=p'/\p'<=s.length+c/\(t=false->p'<=s.length/\bE s p'=n):=by
 induction h with
 |stop ns ks p b h=>exact⟨aQ _,y,fun r=>⟨v r,h.resolve_left (by rw[r];simp)⟩⟩
 |step m ns ks p i N d S g k H R a o p' t D l L U j x z C E=>
  have T:p<=i/\i<=s.length:=by
   rcases j with⟨_,rfl,_⟩|⟨_,e⟩
   .exact⟨aQ _,l⟩
   .have:=e.le l;exact⟨this.1,this.2.1⟩
  have A:i<=d/\d<=s.length:=by
   rcases x with⟨_,rfl,_⟩|⟨_,q,u,O,_⟩
   .exact⟨aQ _,T.2⟩
   .have:=O.le u.2.1;have:=u.1;omega
  have f:=hP _ _ _ _ _ z A.2;have I:=E f.2.1 f.2.2;exact⟨by omega,I.2⟩
theorem pk(h:bE s p=n)(t:n≠0):p<s.length:=by
 rcases nC p s.length with e|e
 .exact e
 .rw[tr e]at h;omega
theorem NumEnd.le{q:Nat}(h:NumEnd s p q)(o:p<=s.length):p<=q/\q<=s.length:=by
 obtain⟨t,_,a,_⟩:=h;refine⟨t,?_⟩;rcases Nat.eq_or_lt_of_le t with e|e
 .omega
 .have:=a (q-1) om om
  have:q-1<s.length:=by
   rcases nC (q-1) s.length with h|h
   .exact h
   .rw[tr h]at this;unfold jo at this;omega
  omega
theorem uK.le{s:ab}:∀{n:Nat}{p:Nat}{b:Bool}{k:Nd}{p':Nat}{i:Bool},uK s n p b k p' i->p<=s.length->p<=p'/\p'<=s.length+n/\(i=false->p'<=s.length):=by
 intro n
 induction n with
 |zero=>intro p b k p' i h t;obtain⟨_,rfl,rfl⟩:=h;exact⟨aQ _,t,fun h=>by cases h⟩
 |succ n y=>
  intro p b k p' i h t
  have o:∀{v:Bool}{l:Nat}(_:l≠0){m:Nat}{ns:List ab}{ks:List Nd}{r:Nat},p+1<=s.length->ug v l s (uK s n) m [] [] (p+1) false ns ks r i->p<=r+1/\r+1<=s.length+(n+1)/\(i=false->r+1<=s.length):=by
   intro v l u m ns ks r f e;have c:=ug.le (c:=n) (fun p b k p' i h t=>y h t) e om (fun _=>f);refine⟨by omega,by omega,fun x=>?_⟩;have:=c.2.2 x;have:=pk this.2 u;omega
  rcases h with⟨_,_,rfl,rfl⟩|⟨_,⟨_,z,E,q,d,e,T,_⟩|⟨_,h,_⟩|⟨_,h,_⟩|⟨_,h,_⟩|⟨_,z,E,A,h,e,_⟩|⟨w,m,ns,ks,r,e,rfl,_⟩|⟨w,m,ns,ks,r,e,rfl,_⟩|⟨_,j,g,d,e,_⟩⟩
  .exact⟨aQ _,by omega,fun h=>by cases h⟩
  .have a:=d.le t;have b:=e.1;have c:=T.le e.2.1;exact⟨by omega,by omega,fun _=>c.2.1⟩
  .have:=h.le t;exact⟨this.1,by omega,fun _=>this.2.1⟩
  .have:=h.le t;exact⟨this.1,by omega,fun _=>this.2.1⟩
  .have:=h.le t;exact⟨this.1,by omega,fun _=>this.2.1⟩
  .have a:=h.le t;have b:=y e a.2.1;exact⟨by omega,by omega,b.2.2⟩
  .exact o de (by have:=pk w de;omega) e
  .exact o de (by have:=pk w de;omega) e
  .have:j<=s.length/\p<=j:=by
    rcases d with⟨d,rfl,_⟩|⟨_,rfl,_⟩
    .have:=pk d de;omega
    .omega
   have:=e.le this.1;exact⟨by omega,by omega,fun _=>this.2⟩
def Bl(L:Lk)(s:ab)(n:Nat):Prop:=∀(d:Int)(p:Nat)(b:Bool)(k:Nd)(p':Nat)(e:Bool),d=7-n->uK s n p b k p' e->p<=s.length->
 CT L 193 [.ptr 0 0,dI d] 1 [kq s p b] [] (aT k) 1 [kq s p' e] []
def O4(L:Lk)(s:ab)(n:Nat)(o:Bool)(so:Int)(e:Nat):Prop:=∀(d:Int)(p m:Nat)(ns:List ab)(ks:List Nd)(t:Nat)(a:Bool),d=6-n->ug o e s (uK s n) m [] [] (p+1) false ns ks t a->p+1<=s.length->
 CT L 261 [.ptr 0 0,dI so,.d (.int .u8 e),dI d] 1 [kq s p false] [] (aT (.mk so 0 [] ns ks)) 1 [kq s (t+1) a] []
theorem acV(Q:aJ L 261 abE)(v:v7 L)(g:Bk L)(hN:Bm L)(s:ab)(i:s.length<=1000000)(n:Nat)(hn:n<=6)(M:Bl L s n):O4 L s n true 5 125:=by
 intro d p m X Z p2 F hd Y j;have z:=ug.le (c:=n) (fun p b k p' F h j=>h.le j) Y om (fun _=>j);have r:=z.2.1;refine Q.ct ?_
 repeat' ((conv=>whnf);first|rw[wrap64 om]|fail)
 all_goals(conv=>whnf)
 refine LW.ghost (cg:=[kq s (p+1) false,.var 0 [dI 0,dI 0,dS [],.aO [] .nil,.aO [] .nil],.var 0 [dI 5,dI 0,dS [],.aO [] (.row 0),.aO [] .nil]]) 1 rfl ⟨⟨rfl,.inl rfl,.inl rfl,.inl rfl,trivial⟩,⟨rfl,.inl rfl,.inl rfl,.inl rfl,.inl rfl,.inl rfl,trivial⟩,⟨rfl,.inl rfl,.inl rfl,.inl rfl,.inr ⟨rfl,rfl⟩,.inl rfl,trivial⟩,trivial⟩ ?_;refine LW.ghost (cg:=[kq s (p+1) false,.var 0 [dI 0,dI 0,dS [],.aO [] .nil,.aO [] .nil],.var 0 [dI 5,dI 0,dS [],.aO [] (.row 0),.aO [] (.row 1)]]) 5 rfl ⟨⟨rfl,.inl rfl,.inl rfl,.inl rfl,trivial⟩,⟨rfl,.inl rfl,.inl rfl,.inl rfl,.inl rfl,.inl rfl,trivial⟩,⟨rfl,.inl rfl,.inl rfl,.inl rfl,.inl rfl,.inr ⟨rfl,rfl⟩,trivial⟩,trivial⟩ ?_
 refine LW.gen (S:=Nat×List ab×List Nd×Nat×Bool) (fun x=>x.1) (fun x=>ug true 125 s (uK s n) x.1 x.2.1 x.2.2.1 x.2.2.2.1 x.2.2.2.2 X Z p2 F)
  (fun x=>⟨[(0,.ptr 0 0),(1,dI 5),(2,.d (.int .u8 125)),(3,dI d),(8,.ptr 1 0),(9,.ptr 2 0)],3,[kq s x.2.2.2.1 x.2.2.2.2,.var 0 [dI 0,dI 0,dS [],.aO [] .nil,.aO [] .nil],.var 0 [dI 5,dI 0,dS [],.aO (aR x.2.1) (.row 0),.aO (x.2.2.1.map cT) (.row 1)]],[(x.2.1.length,1),(x.2.2.1.length,5)]⟩)
  (fun _=>⟨rfl,rfl,rfl⟩) ?_ (m,[],[],p+1,false) Y _ lz
 rintro⟨m,e,t,p0,E⟩ hI f;cases hI with
 |stop _ _ _ _ P=>
  dsimp only at f P r⊢
  have T:E=true\/(E=false/\bE s p0=125):=by
   cases E with
   |true=>exact .inl rfl
   |false=>exact .inr ⟨rfl,P.resolve_left si⟩
  rcases T with rfl|⟨rfl,hl⟩
  .skip
   repeat' ((conv=>whnf);first|rw[wrap64 om]|exact fx|fail)
  .skip
   repeat' ((conv=>whnf);first|exact xo|rw[wrap64 om]|apply aD|apply aM|refine ck (v s _ false i) [0] [] rfl ⟨rfl,trivial⟩ ?_|exact fx|intro _)
 |step m _ _ _ l A O I N k V B _ _ _ _ e1 G H R u e4 K D=>
  dsimp only at H R e1 G u D f⊢
  obtain⟨q,w,U,rfl⟩:∃q,mM s l q/\gW s [58] q A O I/\N=e++[(s.take q).drop l]:=by
   rcases e4 with⟨h,_⟩|⟨_,h⟩
   .cases h
   .exact h
  have a2:=w.2.1;have J:=U.le a2;have a6:=w.1;have a:(aR e).length=e.length:=bl _;have o:(t.map cT).length=t.length:=ca _;rcases u with⟨e0,rfl,rfl⟩|⟨e0,u⟩
  .skip
   repeat' ((conv=>whnf);first|exact xo|rw[wrap64 om]|apply aq|apply aD|apply aM|rw[ca];intro _|refine bY ?_|refine ck (v s _ false i) [0] [] rfl ⟨rfl,trivial⟩ ?_|refine ck (hN s _ _ q i w) [0] [] rfl ⟨rfl,trivial⟩ ?_|refine ck (g _ _ _ _ _ _ U i de om) [0] [] rfl ⟨rfl,trivial⟩ ?_|refine ck (M (d+1) _ _ _ _ _ om K J.2.1) [0] [] rfl ⟨rfl,trivial⟩ ?_|refine ad ⟨by simp only[a,o,aZ,bc];omega,by intro y C;rw[dP.1 C];rfl⟩ ?_|refine ad ⟨by simp only[a,o],rfl⟩ ?_|refine f (m,e++[(s.take q).drop _],t++[k],V,B) _ (by show m<m+1;omega) D lx|exact fz|intro _)
  .skip;have a4:=u.le G
   repeat' ((conv=>whnf);first|exact xo|rw[wrap64 om]|apply aq|apply aD|apply aM|rw[ca];intro _|refine bY ?_|refine ck (v s _ false i) [0] [] rfl ⟨rfl,trivial⟩ ?_|refine ck (hN s _ _ q i w) [0] [] rfl ⟨rfl,trivial⟩ ?_|refine ck (g _ _ _ _ _ _ U i de om) [0] [] rfl ⟨rfl,trivial⟩ ?_|refine ck (g _ _ _ _ _ _ u i de om) [0] [] rfl ⟨rfl,trivial⟩ ?_|refine ck (M (d+1) _ _ _ _ _ om K J.2.1) [0] [] rfl ⟨rfl,trivial⟩ ?_|refine ad ⟨by simp only[a,o,aZ,bc];omega,by intro y C;rw[dP.1 C];rfl⟩ ?_|refine ad ⟨by simp only[a,o],rfl⟩ ?_|refine f (m,e++[(s.take q).drop _],t++[k],V,B) _ (by show m<m+1;omega) D lx|exact fz|intro _)
theorem acW(V:aJ L 261 abE)(l:v7 L)(B:Bk L)(s:ab)(i:s.length<=1000000)(n:Nat)(hn:n<=6)(R:Bl L s n):O4 L s n false 4 93:=by
 intro d p m G K J D hd U u;have f:=ug.le (c:=n) (fun p b k p' D h u=>h.le u) U om (fun _=>u);have a:=f.2.1;refine V.ct ?_
 repeat' ((conv=>whnf);first|rw[wrap64 om]|fail)
 all_goals(conv=>whnf)
 refine LW.ghost (cg:=[kq s (p+1) false,.var 0 [dI 0,dI 0,dS [],.aO [] .nil,.aO [] .nil],.var 0 [dI 4,dI 0,dS [],.aO [] .nil,.aO [] (.row 0)]]) 5 rfl ⟨⟨rfl,.inl rfl,.inl rfl,.inl rfl,trivial⟩,⟨rfl,.inl rfl,.inl rfl,.inl rfl,.inl rfl,.inl rfl,trivial⟩,⟨rfl,.inl rfl,.inl rfl,.inl rfl,.inl rfl,.inr ⟨rfl,rfl⟩,trivial⟩,trivial⟩ ?_
 refine LW.gen (S:=Nat×List Nd×Nat×Bool) (fun x=>x.1) (fun x=>ug false 93 s (uK s n) x.1 [] x.2.1 x.2.2.1 x.2.2.2 G K J D)
  (fun x=>⟨[(0,.ptr 0 0),(1,dI 4),(2,.d (.int .u8 93)),(3,dI d),(8,.ptr 1 0),(9,.ptr 2 0)],3,[kq s x.2.2.1 x.2.2.2,.var 0 [dI 0,dI 0,dS [],.aO [] .nil,.aO [] .nil],.var 0 [dI 4,dI 0,dS [],.aO [] .nil,.aO (x.2.1.map cT) (.row 0)]],[(x.2.1.length,5)]⟩)
  (fun _=>⟨rfl,rfl,rfl⟩) ?_ (m,[],p+1,false) U _ lz
 rintro⟨m,e,Q,w⟩ X r;cases X with
 |stop _ _ _ _ C=>
  dsimp only at r C a⊢
  have v:w=true\/(w=false/\bE s Q=93):=by
   cases w with
   |true=>exact .inl rfl
   |false=>exact .inr ⟨rfl,C.resolve_left si⟩
  rcases v with rfl|⟨rfl,hl⟩
  .skip
   repeat' ((conv=>whnf);first|rw[wrap64 om]|exact fx|fail)
  .skip
   repeat' ((conv=>whnf);first|exact xo|rw[wrap64 om]|apply aD|apply aM|refine ck (l s _ false i) [0] [] rfl ⟨rfl,trivial⟩ ?_|exact fx|intro _)
 |step m _ _ _ g j q z E k M F _ _ _ _ Z T A O o Y P I=>
  dsimp only at A O Z T o I r⊢
  have f4:q=g/\z=j/\E=[]:=by
   rcases Y with⟨_,h⟩|⟨h,_⟩
   .exact h
   .cases h
  obtain⟨g1,g2,g3⟩:=f4;clear Y;subst g1;subst g2;subst g3;have t:(e.map cT).length=e.length:=ca _;rcases o with⟨e0,e5,N⟩|⟨e0,o⟩
  .subst e5;subst N
   repeat' ((conv=>whnf);first|exact xo|rw[wrap64 om]|apply aq|apply aD|apply aM|rw[ca];intro _|refine bY ?_|refine ck (l s _ false i) [0] [] rfl ⟨rfl,trivial⟩ ?_|refine ck (R (d+1) _ _ _ _ _ om P T) [0] [] rfl ⟨rfl,trivial⟩ ?_|refine ad ⟨by simp only[t,aZ,bc];omega,by intro y H;rw[dP.1 H];rfl⟩ ?_|refine ad ⟨by simp only[t],rfl⟩ ?_|refine r (m,e++[k],M,F) _ (by show m<m+1;omega) I lx|exact fz|intro _)
  .skip;have a4:=o.le T
   repeat' ((conv=>whnf);first|exact xo|rw[wrap64 om]|apply aq|apply aD|apply aM|rw[ca];intro _|refine bY ?_|refine ck (l s _ false i) [0] [] rfl ⟨rfl,trivial⟩ ?_|refine ck (B _ _ _ _ _ _ o i de om) [0] [] rfl ⟨rfl,trivial⟩ ?_|refine ck (R (d+1) _ _ _ _ _ om P a4.2.1) [0] [] rfl ⟨rfl,trivial⟩ ?_|refine ad ⟨by simp only[t,aZ,bc];omega,by intro y H;rw[dP.1 H];rfl⟩ ?_|refine ad ⟨by simp only[t],rfl⟩ ?_|refine r (m,e++[k],M,F) _ (by show m<m+1;omega) I lx|exact fz|intro _)
theorem adr(t:aJ L 193 c193)(i:v7 L)(c:Bk L)(T:RA L)(A:I8 L)(s:ab)(e:s.length<=1000000)(O:∀n,n<=6->Bl L s n->O4 L s n true 5 125/\O4 L s n false 4 93):∀n,n<=7->Bl L s n:=by
 intro n
 induction n with
 |zero=>
  intro I d p b k w l N h f;obtain⟨rfl,rfl,rfl⟩:=h;refine t.ct ?_
  repeat' ((conv=>whnf);first|apply aq|apply bS|exact fz|exact xo|intro _)
 |succ n u=>
  intro I d p b k w l N h f;obtain⟨S,H⟩:=O n om (u om);rcases h with⟨rfl,rfl,rfl,rfl⟩|⟨rfl,⟨a,z,E,q,r,o,y,rfl⟩|⟨a,h,rfl⟩|⟨a,h,rfl⟩|⟨a,h,rfl⟩|⟨a,z,E,D,h,o,rfl⟩|⟨a,m,v,j,x,o,rfl,rfl⟩|⟨a,m,v,j,x,o,rfl,rfl⟩|⟨a,R,g,r,o,y,rfl⟩⟩
  .refine t.ct ?_
   repeat' ((conv=>whnf);first|apply aq|apply bK|apply aD|apply aH|apply bp|apply aM|apply eA|apply ew|apply gQ|apply bS|rw[ca];intro _|rw[dC];intro _|rw[bl];intro _|refine bY ?_|exact fz|intro _)
  .refine t.ct ?_
   repeat' ((conv=>whnf);first|exact xo|apply aq|apply aD|refine az (i s p false e) [0] [] ?_|refine az (T s p z false E q w l e f r o y) [0] [] ?_|exact fz|intro _)
  .refine t.ct ?_
   repeat' ((conv=>whnf);first|exact xo|apply aq|apply aD|refine az (i s p false e) [0] [] ?_|refine ck (c _ _ _ _ _ _ h e de om) [0] [] rfl ⟨rfl,trivial⟩ ?_|exact fz|intro _)
  .refine t.ct ?_
   repeat' ((conv=>whnf);first|exact xo|apply aq|apply aD|refine az (i s p false e) [0] [] ?_|refine ck (c _ _ _ _ _ _ h e de om) [0] [] rfl ⟨rfl,trivial⟩ ?_|exact fz|intro _)
  .refine t.ct ?_
   repeat' ((conv=>whnf);first|exact xo|apply aq|apply aD|refine az (i s p false e) [0] [] ?_|refine ck (c _ _ _ _ _ _ h e de om) [0] [] rfl ⟨rfl,trivial⟩ ?_|exact fz|intro _)
  .refine t.ct ?_;have r:=h.le f
   repeat' ((conv=>whnf);first|exact xo|rw[wrap64 om]|apply aq|apply aD|refine az (i s p false e) [0] [] ?_|refine ck (c _ _ _ _ _ _ h e de om) [0] [] rfl ⟨rfl,trivial⟩ ?_|refine ck (u om (d+1) _ _ _ _ _ om o r.2.1) [0] [] rfl ⟨rfl,trivial⟩ ?_|exact fx|intro _)
  .refine t.ct ?_;have r:=pk a de
   repeat' ((conv=>whnf);first|exact xo|apply aq|apply aD|refine az (i s p false e) [0] [] ?_|refine ck (H d p m v j x l om o om) [0] [] rfl ⟨rfl,trivial⟩ ?_|exact fz|intro _)
  .refine t.ct ?_;have r:=pk a de
   repeat' ((conv=>whnf);first|exact xo|apply aq|apply aD|refine az (i s p false e) [0] [] ?_|refine ck (S d p m v j x l om o om) [0] [] rfl ⟨rfl,trivial⟩ ?_|exact fz|intro _)
  .refine t.ct ?_;obtain⟨U,C,M,F,Y,P,V⟩:=a
   repeat' ((conv=>whnf);first|exact xo|apply aq|apply aD|refine az (i s p false e) [0] [] ?_|refine az (A s p R w g false l e f r o y) [0] [] ?_|exact fz|intro _)
variable{ns:List ab}{ks:List Nd}{m:Nat}
theorem mO.ex(s:ab):∀d p,s.length-p=d->p<=s.length->∃q,mO s p q:=by
 intro d
 induction d with
 |zero=>intro p h e;exact⟨p,aQ _,e,fun i a t=>by omega,.inl om⟩
 |succ d n=>
  intro p h e;by_cases o:bE s p=34
  .exact⟨p,aQ _,e,fun i a t=>by omega,.inr o⟩
  .obtain⟨q,m,r,l,u⟩:=n (p+1) om om;refine⟨q,by omega,r,fun i a t=>?_,u⟩;by_cases c:i=p
   .rw[c];exact o
   .exact l i om t
theorem NumEnd.ex(s:ab)(p:Nat):∀d k,d+k=10->(∀i,p<=i->i<p+k->jo (bE s i))->∃q,NumEnd s p q:=by
 intro d
 induction d with
 |zero=>intro k h e;exact⟨p+k,by omega,by omega,e,.inl om⟩
 |succ d a=>
  intro k h e;by_cases t:jo (bE s (p+k))
  .exact a (k+1) om fun i o r=>by
    by_cases n:i=p+k
    .rw[n];exact t
    .exact e i o om
  .exact⟨p+k,by omega,by omega,e,.inr t⟩
theorem ug.ex{T:Bool}{H:Nat}{s:ab}{P:Nat->Bool->Nd->Nat->Bool->Prop}{c:Nat}(hP:∀p b k t i,P p b k t i->p<=s.length->p<=t/\t<=s.length+c/\(i=false->t<=s.length))(D:∀p k t,P p false k t false->p<t)(L:∀p k t i,P p true k t i->i=true)(U:∀p b,p<=s.length->∃k t i,P p b k t i):∀d ns ks p b,s.length-p=d->(b=false->p<=s.length)->(b=false->ns.length<=p/\ks.length<=p)->∃m f w t i,ug T H s P m ns ks p b f w t i:=by
 intro d
 induction d using Nat.strongRecOn with
 |ind d C=>
 intro ns ks p b B v R;by_cases I:b=true\/bE s p=H
 .exact⟨_,_,_,_,_,.stop ns ks p b I⟩
 .have M:b=false:=by cases b<;>simp_all
  subst M;have v:=v rfl;have R:=R rfl
  have g:∃a n,(ks.length=0/\a=p/\n=false)\/(0<ks.length/\gW s [44] p false a n):=by
   by_cases F:ks.length=0
   .exact⟨p,false,.inl ⟨F,rfl,rfl⟩⟩
   .obtain⟨a,n,h⟩:=gW.ex s [44] p false;exact⟨a,n,.inr ⟨by omega,h⟩⟩
  obtain⟨a,n,g⟩:=g
  have j:p<=a/\a<=s.length:=by
   rcases g with⟨_,rfl,_⟩|⟨_,e⟩
   .exact⟨aQ _,v⟩
   .have:=e.le v;exact⟨this.1,this.2.1⟩
  have x:∃r l o,((T=false/\r=a/\l=n/\o=ns)\/(T=true/\∃q,mM s a q/\gW s [58] q n r l/\o=ns++[(s.take q).drop a])):=by
   cases T with
   |false=>exact⟨a,n,ns,.inl ⟨rfl,rfl,rfl,rfl⟩⟩
   |true=>
    obtain⟨q,Y⟩:=mM.ex s _ a rfl j.2;obtain⟨r,l,A⟩:=gW.ex s [58] q n;exact⟨r,l,_,.inr ⟨rfl,q,Y,A,rfl⟩⟩
  obtain⟨r,l,o,x⟩:=x
  have z:a<=r/\r<=s.length/\(o.length<=ns.length+1):=by
   rcases x with⟨_,rfl,_,rfl⟩|⟨_,q,A,y,rfl⟩
   .exact⟨aQ _,j.2,by omega⟩
   .have:=y.le A.2.1;have:=A.1;simp;omega
  obtain⟨k,O,N,y⟩:=U r l z.2.1;have E:=hP _ _ _ _ _ y z.2.1;by_cases u:N=false
  .have S:l=false:=by
    cases l with
    |false=>rfl
    |true=>have:=L _ _ _ _ y;rw[u]at this;cases this
   subst S;subst u;have G:=D _ _ _ y;obtain⟨m,f,w,t,i,V⟩:=C (s.length-O) (by have:=E.2.2 rfl;omega) o (ks++[k]) O false rfl E.2.2 (fun _=>by simp;omega);exact⟨_,_,_,_,_,.step m ns ks p a n r false o k O false f w t i (fun e=>I (.inr e)) v om om g x y V⟩
  .have u:N=true:=by cases N<;>simp_all
   subst u;exact⟨_,_,_,_,_,.step 0 ns ks p a n r l o k O true _ _ _ _ (fun e=>I (.inr e)) v om om g x y (.stop _ _ _ _ (.inl rfl))⟩
theorem ug.mono{i:Bool}{n:Nat}{P r:Nat->Bool->Nd->Nat->Bool->Prop}(hP:∀p b k p' a,P p b k p' a->r p b k p' a){b:Bool}{e:List ab}{t:List Nd}{p':Nat}{a:Bool}(h:ug i n s P m ns ks p b e t p' a):ug i n s r m ns ks p b e t p' a:=by
 induction h with
 |stop ns ks p b h=>exact .stop ns ks p b h
 |step m ns ks p d l u c o k f w e t p' a y v g j q x z T E=>exact .step m ns ks p d l u c o k f w e t p' a y v g j q x (hP _ _ _ _ _ z) E
theorem uK.bad{k:Nd}{p':Nat}{e:Bool}(h:uK s n p true k p' e):e=true:=by
 cases n with
 |zero=>exact h.2.2
 |succ n=>rcases h with h|⟨h,_⟩;exact h.2.2.2;cases h
theorem gW.go{w:ab}{p':Nat}{b:Bool}(h:gW s w p b p' false):p'=p+w.length:=by
 rcases h with⟨_,h,_⟩|⟨_,_,h⟩
 .exact h
 .cases h
theorem uK.go{s:ab}{n p:Nat}{k:Nd}{p':Nat}(h:uK s n p false k p' false)(r:p<=s.length):p<p':=by
 cases n with
 |zero=>cases h.2.2
 |succ n=>
  have t:∀{u:Bool}{f m:Nat}{ns:List ab}{ks:List Nd}{o:Nat},p+1<=s.length->ug u f s (uK s n) m [] [] (p+1) false ns ks o false->p<o+1:=by
   intro u f m ns ks o i e;have:=ug.le (c:=n) (fun p b k p' j h r=>h.le r) e om (fun _=>i);omega
  rcases h with⟨h,_⟩|⟨_,⟨_,y,w,q,i,e,d,_⟩|⟨_,h,_⟩|⟨_,h,_⟩|⟨_,h,_⟩|⟨_,y,w,x,h,e,_⟩|⟨l,m,ns,ks,o,e,rfl,_⟩|⟨l,m,ns,ks,o,e,rfl,_⟩|⟨_,v,g,i,e,d,_⟩⟩
  .cases h
  .have:=d.go;have:=i.le r;have:=e.1;simp at*;omega
  .have:=h.go;simp at this;omega
  .have:=h.go;simp at this;omega
  .have:=h.go;simp at this;omega
  .have a:=h.le r;have c:=e.le a.2.1;cases w with
   |true=>cases e.bad
   |false=>have:=h.go;simp at this;omega
  .exact t (by have:=pk l de;omega) e
  .exact t (by have:=pk l de;omega) e
  .have:p<=v:=by rcases i with⟨_,h,_⟩|⟨_,h,_⟩<;>omega
   have:=e.1;rcases d with⟨_,h⟩|⟨h,_⟩
   .cases h
   .omega
theorem uK.ex(s:ab):∀n p b,p<=s.length->∃k t e,uK s n p b k t e:=by
 intro n
 induction n with
 |zero=>intro p b _;exact⟨_,_,_,rfl,rfl,rfl⟩
 |succ n T=>
  intro p b o
  have a:∀(A:Bool)(O:Nat),p+1<=s.length->∃m ns ks d e,ug A O s (uK s n) m [] [] (p+1) false ns ks d e:=by
   intro A O l
   exact ug.ex (P:=fun p b k t e=>uK s n p b k t e/\p<=s.length) (c:=n) (fun p b k t e h o=>h.1.le o) (fun p k t h=>h.1.go h.2) (fun p k t e h=>h.1.bad) (fun p b o=>let⟨k,t,e,h⟩:=T p b o;⟨k,t,e,h,o⟩) _ [] [] (p+1) false rfl (fun _=>l) (fun _=>⟨cr _,cr _⟩)
    |>.imp fun m h=>h.imp fun ns h=>h.imp fun ks h=>h.imp fun d h=>h.imp fun e h=>ug.mono (fun p b k t e h=>h.1) h
  cases b with
  |true=>exact⟨_,_,_,.inl ⟨rfl,rfl,rfl,rfl⟩⟩
  |false=>
   by_cases l:bE s p=34
   .obtain⟨u,f,h⟩:=gW.ex s [34] p false;obtain⟨q,v⟩:=mO.ex s _ u rfl (h.le o).2.1;obtain⟨t,e,y⟩:=gW.ex s [34] q f;exact⟨_,_,_,.inr ⟨rfl,.inl ⟨l,u,f,q,h,v,y,rfl⟩⟩⟩
   by_cases j:bE s p=121
   .obtain⟨t,e,h⟩:=gW.ex s [121,101,115] p false;exact⟨_,_,_,.inr ⟨rfl,.inr (.inl ⟨j,h,rfl⟩)⟩⟩
   by_cases y:bE s p=110
   .obtain⟨t,e,h⟩:=gW.ex s [110,111] p false;exact⟨_,_,_,.inr ⟨rfl,.inr (.inr (.inl ⟨y,h,rfl⟩))⟩⟩
   by_cases I:bE s p=126
   .obtain⟨t,e,h⟩:=gW.ex s [126] p false;exact⟨_,_,_,.inr ⟨rfl,.inr (.inr (.inr (.inl ⟨I,h,rfl⟩)))⟩⟩
   by_cases N:bE s p=63
   .obtain⟨u,f,h⟩:=gW.ex s [63] p false;obtain⟨k,t,e,w⟩:=T u f (h.le o).2.1;exact⟨_,_,_,.inr ⟨rfl,.inr (.inr (.inr (.inr (.inl ⟨N,u,f,k,h,w,rfl⟩))))⟩⟩
   by_cases w:bE s p=91
   .obtain⟨m,ns,ks,d,e,h⟩:=a false 93 (by have:=pk w de;omega);exact⟨_,_,_,.inr ⟨rfl,.inr (.inr (.inr (.inr (.inr (.inl ⟨w,m,ns,ks,d,h,rfl,rfl⟩)))))⟩⟩
   by_cases x:bE s p=123
   .obtain⟨m,ns,ks,d,e,h⟩:=a true 125 (by have:=pk x de;omega);exact⟨_,_,_,.inr ⟨rfl,.inr (.inr (.inr (.inr (.inr (.inr (.inl ⟨x,m,ns,ks,d,h,rfl,rfl⟩))))))⟩⟩
   have z:∃r g,Cy s p r g:=by
    by_cases h:bE s p=45
    .exact⟨_,_,.inl ⟨h,rfl,rfl⟩⟩
    .exact⟨_,_,.inr ⟨h,rfl,rfl⟩⟩
   obtain⟨r,g,z⟩:=z;obtain⟨q,v⟩:=NumEnd.ex s r 10 0 rfl (fun i l j=>by omega)
   have E:∃e,(q=r/\e=true)\/(q≠r/\e=false):=by
    by_cases h:q=r
    .exact⟨_,.inl ⟨h,rfl⟩⟩
    .exact⟨_,.inr ⟨h,rfl⟩⟩
   obtain⟨e,E⟩:=E;exact⟨_,_,_,.inr ⟨rfl,.inr (.inr (.inr (.inr (.inr (.inr (.inr ⟨⟨l,j,y,I,N,w,x⟩,r,g,z,v,E,rfl⟩))))))⟩⟩
variable{d:Int}{k:Nat}
theorem Ns(h:k<10):(UInt8.ofNat (48+k)).toNat=48+k:=by
 rw[Gi];omega
theorem DZ(s:ab):∀n:Nat,∀p,br s (iI n) p->0<(iI n).length/\(∀i,p<=i->i<p+(iI n).length->jo (bE s i))/\qb s p (iI n).length=n:=by
 intro n
 induction n using Nat.strongRecOn with
 |ind n d=>
  intro p h;rw[iI]at h⊢;split at h
  .rename_i t;rw[if_pos t];have e:=fL (i:=0) h si;simp only[yf,iU,Ns t]at e;refine⟨by simp,fun i r o=>?_,?_⟩
   .simp at o;rw[show i=p by omega,e];unfold jo;omega
   .simp[qb,e]
  .rename_i t;rw[if_neg t];obtain⟨r,o⟩:=dm.1 h;obtain⟨m,l,u⟩:=d (n/10) om p r;have e:=fL (i:=0) o si;simp only[yf,iU,Ns (show n%10<10 by omega)]at e;refine⟨by simp,fun i a b=>?_,?_⟩
   .simp only[bG,aZ,bc]at b;by_cases c:i<p+(iI (n/10)).length
    .exact l i a c
    .rw[show i=p+(iI (n/10)).length by omega,e];unfold jo;omega
   .simp only[bG,aZ,bc];rw[qb,u,e];omega
theorem Np{n:Int}(v: -999999999<=n/\n<=999999999)(h:br s (dec n) p)(t:¬jo (bE s (p+(dec n).length))):
  ∃o g,Cy s p o g/\NumEnd s o (p+(dec n).length)/\p+(dec n).length≠o/\g*qb s o (p+(dec n).length-o)=n/\o<=p+(dec n).length/\(bE s p=45\/jo (bE s p)):=by
 have e:∀k:Nat,k<=999999999->(iI k).length<=9:=fun k j=>vO 8 k om
 unfold dec at h t⊢;split at h
 .rename_i l;rw[if_pos l]at t⊢;have f:br s ([45]++iI n.natAbs) p:=h;obtain⟨w,y⟩:=dm.1 f;obtain⟨c,r,d⟩:=DZ s _ _ y;have u:=fL (i:=0) w si;simp only[yf,iU]at u;simp only[aZ,bc]at c r d t⊢;have:=e n.natAbs om;refine⟨p+1,-1,.inl ⟨u,rfl,rfl⟩,⟨by omega,by omega,fun i a b=>r i om om,.inr t⟩,by omega,?_,by omega,.inl u⟩;rw[show p+((iI n.natAbs).length+1)-(p+1)=(iI n.natAbs).length by omega,d];omega
 .rename_i l;rw[if_neg l]at t⊢;obtain⟨c,r,d⟩:=DZ s _ _ h;have:=e n.toNat om;have m:=r p (aQ _) om;refine⟨p,1,.inr ⟨by unfold jo at m;omega,rfl,rfl⟩,⟨by omega,by omega,fun i a b=>r i a b,.inr t⟩,by omega,?_,by omega,.inr m⟩;rw[show p+(iI n.toNat).length-p=(iI n.toNat).length by omega,d];omega
theorem Af{e:Bool}{f:Nd->ab}{r:Nat}(u:i<ks.length)(y:e=true->i<ns.length)(h:br s (bQ e ns (ks.map f) (i+1)) r):
  br s (bQ e ns (ks.map f) i) r/\∃d c,((i=0/\d=r+(bQ e ns (ks.map f) i).length)\/(0<i/\br s [44] (r+(bQ e ns (ks.map f) i).length)/\d=r+(bQ e ns (ks.map f) i).length+1))/\
   ((e=false/\c=d)\/(e=true/\∃hi:i<ns.length,br s (ns[i]++[58]) d/\c=d+ns[i].length+1))/\br s (f ks[i]) c/\r+(bQ e ns (ks.map f) (i+1)).length=c+(f ks[i]).length:=by
 cases e with
 |true=>
  have o:=y rfl;clear y;by_cases n:0<i
  .rw[jN n o u]at h⊢;obtain⟨a,t⟩:=dm.1 h;obtain⟨a,l⟩:=dm.1 a;obtain⟨a,m⟩:=dm.1 a;obtain⟨a,w⟩:=dm.1 a;simp only[bG,aZ,bc]at*;refine⟨a,_,_,.inr ⟨n,w,rfl⟩,.inr ⟨trivial,o,dm.2 ⟨?_,?_⟩,rfl⟩,?_,?_⟩
   .simp only[kJ,dK]at m⊢;exact m
   .simp only[kJ,dK]at l⊢;exact l
   .simp only[kJ,dK]at t⊢;exact t
   .omega
  .rw[jO n o u]at h⊢;obtain⟨a,t⟩:=dm.1 h;obtain⟨a,l⟩:=dm.1 a;obtain⟨a,m⟩:=dm.1 a;simp only[bG,aZ,bc]at*;refine⟨a,_,_,.inl ⟨by omega,rfl⟩,.inr ⟨trivial,o,dm.2 ⟨m,?_⟩,rfl⟩,?_,?_⟩
   .simp only[kJ]at l⊢;exact l
   .simp only[kJ,dK]at t⊢;exact t
   .omega
 |false=>
  by_cases n:0<i
  .rw[yJ n u]at h⊢;obtain⟨a,t⟩:=dm.1 h;obtain⟨a,w⟩:=dm.1 a;simp only[bG,aZ,bc]at*;refine⟨a,_,_,.inr ⟨n,w,rfl⟩,.inl ⟨trivial,rfl⟩,?_,?_⟩
   .simp only[kJ,dK]at t⊢;exact t
   .omega
  .rw[yK n u]at h⊢;obtain⟨a,t⟩:=dm.1 h;simp only[bG]at*;exact⟨a,_,_,.inl ⟨by omega,rfl⟩,.inl ⟨trivial,rfl⟩,t,by omega⟩
theorem M0{t:Bool}{c:Nat}{P:Nat->Bool->Nd->Nat->Bool->Prop}{f:Nd->ab}{l:Nat}(T:c=93\/c=125)(x:t=true->ns.length=ks.length/\wS ns)(A:t=false->ns=[])(Y:t=true->c=125)(O:t=false->c=93)(V:br s (bQ t ns (ks.map f) ks.length) l)(U:bE s (l+(bQ t ns (ks.map f) ks.length).length)=c)(_:l<=s.length)(B:∀i(h:i<ks.length)p,br s (f ks[i]) p->¬jo (bE s (p+(f ks[i]).length))->P p false ks[i] (p+(f ks[i]).length) false)(C:∀i(h:i<ks.length)p,br s (f ks[i]) p->0<(f ks[i]).length/\bE s p≠93):
  ∃m,ug t c s P m [] [] l false ns ks (l+(bQ t ns (ks.map f) ks.length).length) false:=by
 have u:∀i,i<ks.length->t=true->i<ns.length:=fun i v h=>by have:=(x h).1;omega
 have w:∀d i,i+d=ks.length->br s (bQ t ns (ks.map f) i) l:=by
  intro d
  induction d with
  |zero=>intro i v;rw[show i=ks.length by omega];exact V
  |succ d I=>intro i v;exact(Af om (u i om) (I (i+1) om)).1
 have N:∀i,i<=ks.length->i<=(bQ t ns (ks.map f) i).length:=by
  intro i
  induction i with
  |zero=>intro _;omega
  |succ i I=>
   intro v;obtain⟨_,j,b,g,z,E,M⟩:=Af om (u i om) (w (ks.length-(i+1)) (i+1) om);have:=I om;have:=(C i om b E).1;have e1:l+(bQ t ns (ks.map f) i).length<=j:=by rcases g with⟨_,h⟩|⟨_,_,h⟩<;>omega
   have e2:j<=b:=by rcases z with⟨_,h⟩|⟨_,_,_,h⟩<;>omega
   omega
 have y:∀i,i<=ks.length->0<i->¬jo (bE s (l+(bQ t ns (ks.map f) i).length)):=by
  intro i v F;by_cases e:i=ks.length
  .rw[e,U];unfold jo;omega
  .obtain⟨_,j,b,g,_⟩:=Af om (u i om) (w (ks.length-(i+1)) (i+1) om);rcases g with⟨h,_⟩|⟨_,h,_⟩
   .omega
   .have:=fL (i:=0) h si;simp only[yf,iU]at this;rw[this];unfold jo;decide
 have S:∀r i,i+r=ks.length->∃m,ug t c s P m (if t=true then ns.take i else[]) (ks.take i) (l+(bQ t ns (ks.map f) i).length) false ns ks (l+(bQ t ns (ks.map f) ks.length).length) false:=by
  intro r
  induction r with
  |zero=>
   intro i v;rw[show i=ks.length by omega,nz (aQ _)]
   have:(if t=true then ns.take ks.length else[])=ns:=by
    cases t with
    |true=>simp only[if_true];exact nz (by have:=(x rfl).1;omega)
    |false=>simp[A rfl]
   rw[this];exact⟨0,.stop _ _ _ _ (.inr U)⟩
  |succ r H=>
   intro i v;have R:=w (ks.length-(i+1)) (i+1) om;obtain⟨D,j,b,g,z,E,M⟩:=Af om (u i om) R;obtain⟨m,k⟩:=H (i+1) om;have G:=N i om;have K:=D.1;have q:=y (i+1) om om;rw[M]at k q;have J:(ks.take i).length=i:=by simp;omega
   have L:ks.take i++[ks[i]'om]=ks.take (i+1):=by rw[tQ,dw om];rfl
   rw[<-L]at k;refine⟨m+1,.step m _ _ _ j false b false (if t=true then ns.take (i+1)else[]) (ks[i]'om) _ false _ _ _ _ ?_ om (by split<;>simp;omega) om ?_ ?_ (B i om b E q) k⟩
   ·
    rcases g with⟨e,rfl⟩|⟨_,h,_⟩
    .rcases z with⟨o,rfl⟩|⟨o,a,h,_⟩
     .have:=(C i om _ E).2;rw[O o];exact this
     .have n:bO ns[i]:=((x o).2 i a a).1;have:=fL (i:=0) (dm.1 h).1 (by have:=n.1;omega);rw[iU]at this;rw[this];have:=CZ n (i:=0) (by have:=n.1;omega);unfold Es at this;omega
    .have:=fL (i:=0) h si;simp only[yf,iU]at this;rw[this];rcases T with rfl|rfl<;>decide
   .rcases g with⟨e,rfl⟩|⟨h,Q,rfl⟩
    .exact .inl ⟨by omega,rfl,rfl⟩
    .exact .inr ⟨by omega,gW.yes Q⟩
   .rcases z with⟨o,rfl⟩|⟨o,a,h,rfl⟩
    .exact .inl ⟨o,rfl,rfl,by simp[o]⟩
    .have n:bO ns[i]:=((x o).2 i a a).1;obtain⟨X,c2,c3⟩:=Ie n h;refine .inr ⟨o,_,X,gW.yes c3,?_⟩;rw[E7 c2,if_pos o,if_pos o,tQ,dw a];rfl
 obtain⟨m,k⟩:=S ks.length 0 om;refine⟨m,?_⟩;have e:(if t=true then ns.take 0 else[])=[]:=by split<;>simp
 rw[e]at k;exact k
theorem L0{t:Nd}(h:pw d t)(a:br s (cM t) p):0<(cM t).length/\bE s p≠93:=by
 have o:=(r8 h).2;have e:=qL t
 have fst:∀{c:UInt8}{r:ab},cM t=c::r->c.toNat≠93->0<(cM t).length/\bE s p≠93:=fun{c r}e b=>by
  rw[e]at a⊢;have:=fL (i:=0) a si;simp only[yf,iU]at this;exact⟨by simp,by rw[this];exact b⟩
 unfold mg at o;by_cases u:t.sort=1
 .rw[if_pos u]at e;rw[e]at a⊢;have n: -999999999<=t.num/\t.num<=999999999:=by omega
  unfold dec at a⊢;split at a
  .rename_i l;rw[if_pos l];have:=fL (i:=0) a si;simp only[yf,iU]at this;exact⟨by simp,by rw[this];decide⟩
  .rename_i l;rw[if_neg l];obtain⟨g,k,_⟩:=DZ s _ _ a;have:=k p (aQ _) om;exact⟨g,by unfold jo at this;omega⟩
 rw[if_neg u]at e;by_cases m:t.sort=2
 .rw[if_pos m]at e;exact fst (c:=34) (r:=t.text++[34]) (by rw[e];simp) de
 rw[if_neg m]at e;by_cases f:t.sort=3
 .rw[if_pos f]at e;by_cases n:t.num=1
  .rw[if_pos n]at e;exact fst e de
  .rw[if_neg n]at e;exact fst e de
 rw[if_neg f]at e;by_cases w:t.sort=6
 .rw[if_pos w]at e;by_cases y:t.kids.length=0
  .rw[if_pos y]at e;exact fst e de
  .rw[if_neg y]at e;exact fst (c:=63) (by rw[e];rfl) de
 rw[if_neg w]at e;by_cases v:t.sort=5
 .rw[if_pos v]at e;exact fst (c:=123) (by rw[e];rfl) de
 .rw[if_neg v]at e;exact fst (c:=91) (by rw[e];rfl) de
theorem Q4(so e:Int)(tx:ab)(ns:List ab)(ks:List Nd):cM (.mk so e tx ns ks)=if so=1 then dec e else if so=2 then[34]++tx++[34]else if so=3 then(if e=1 then[121,101,115]else[110,111])else
  if so=6 then(if ks.length=0 then[126]else[63]++(ks.map cM).headD [])else if so=5 then[123]++bQ true ns (ks.map cM) ks.length++[125]else[91]++bQ false ns (ks.map cM) ks.length++[93]:=by
 rw[cM,L1]
theorem M3(s:ab):∀(t:Nd)(d:Int)(n p:Nat),pw d t->d=7-n->br s (cM t) p->¬jo (bE s (p+(cM t).length))->uK s n p false t (p+(cM t).length) false:=by
 refine Nd.ind fun t L=>fun d n p F hn u a=>?_
 have J:=r8 F;have f:=J.2;obtain⟨n,rfl⟩:∃m,n=m+1:=⟨n-1,by omega⟩;unfold mg at f;obtain⟨N,x,w,ns,ks⟩:=t;have e:=Q4 N x w ns ks;dsimp only[Nd.sort,Nd.num,Nd.text,Nd.names,Nd.kids]at f L;have nil:∀{α:Type}{l:List α},l.length=0->l=[]:=fun h=>mc h
 have look:∀{c:UInt8}{r:ab}{q:Nat},br s (c::r) q->bE s q=c.toNat:=fun{c r q}h=>by
  have:=fL (i:=0) h si;simpa using this
 have o:∀i(h:i<ks.length),pw (d+1) ks[i]:=fun i h=>wN F h
 by_cases Y:N=1
 .obtain⟨E,z,j,T⟩:(-999999999<=x/\x<=999999999)/\w=[]/\ns.length=0/\ks.length=0:=by
   rcases f with h|h|h|h|h|h
   .exact⟨h.2.1,h.2.2⟩
   all_goals exact xo
  subst Y;subst z;rw[nil j,nil T]at*;rw[if_pos rfl]at e;rw[e]at u a⊢;obtain⟨Q,g,X,Z,r3,r4,r5,r6⟩:=Np E u a;refine .inr ⟨rfl,.inr (.inr (.inr (.inr (.inr (.inr (.inr ⟨?_,Q,g,X,Z,.inr ⟨r3,rfl⟩,by rw[r4]⟩))))))⟩;unfold jo at r6;omega
 rw[if_neg Y]at e;by_cases V:N=2
 .obtain⟨E,z,j,T⟩:x=0/\C9 w/\ns.length=0/\ks.length=0:=by
   rcases f with h|h|h|h|h|h
   .exfalso;omega
   .exact h.2
   all_goals exact xo
  subst V;subst E;rw[nil j,nil T]at*;rw[if_pos rfl]at e;rw[e]at u a⊢;obtain⟨y,R⟩:=dm.1 u;obtain⟨y,v⟩:=dm.1 y
  have U:mO s (p+1) (p+1+w.length):=by
   refine⟨by omega,by have:=v.1;simp at this;omega,fun i g1 g2=>?_,.inr ?_⟩
   .have:=fL (i:=i-(p+1)) v om;simp only[aZ,bc]at this;rw[show p+(0+1)+(i-(p+1))=i by omega]at this;rw[this];exact(z.2 (i-(p+1)) om om).2.2
   .have:=look R;simp only[bG,aZ,bc]at this;rw[show p+(0+1+w.length)=p+1+w.length by omega]at this;rw[this];rfl
  have I:=E7 v;simp only[aZ,bc,dK]at I;refine .inr ⟨rfl,.inl ⟨look y,p+1,false,p+1+w.length,gW.yes y,U,?_,by rw[I]⟩⟩;have:=gW.yes (b:=false) R;simp only[bG,aZ,bc]at this⊢;rw[show p+(0+1+w.length)=p+1+w.length by omega]at this;rw[show p+(0+1+w.length+(0+1))=p+1+w.length+(0+1) by omega];exact this
 rw[if_neg V]at e;by_cases B:N=3
 .obtain⟨E,z,j,T⟩:(0<=x/\x<=1)/\w=[]/\ns.length=0/\ks.length=0:=by
   rcases f with h|h|h|h|h|h
   .exfalso;omega
   .exfalso;omega
   .exact h.2
   all_goals exact xo
  subst B;subst z;rw[nil j,nil T]at*;rw[if_pos rfl]at e;by_cases C:x=1
  .subst C;rw[if_pos rfl]at e;rw[e]at u a⊢;exact .inr ⟨rfl,.inr (.inl ⟨look u,gW.yes u,rfl⟩)⟩
  .obtain rfl:x=0:=by omega
   rw[if_neg de]at e;rw[e]at u a⊢;exact .inr ⟨rfl,.inr (.inr (.inl ⟨look u,gW.yes u,rfl⟩))⟩
 rw[if_neg B]at e;by_cases G:N=6
 .obtain⟨E,z,j,T⟩:x=0/\w=[]/\ns.length=0/\ks.length<=1:=by
   rcases f with h|h|h|h|h|h
   .exfalso;omega
   .exfalso;omega
   .exfalso;omega
   .exfalso;omega
   .exfalso;omega
   .exact h.2
  subst G;subst E;subst z;rw[if_pos rfl]at e;by_cases D:ks.length=0
  .rw[if_pos D]at e;obtain rfl:=nil D;obtain rfl:=nil j;rw[e]at u a⊢;exact .inr ⟨rfl,.inr (.inr (.inr (.inl ⟨look u,gW.yes u,rfl⟩)))⟩
  .rw[if_neg D]at e;obtain rfl:=nil j
   obtain⟨k,rfl⟩:∃k,ks=[k]:=by
    match ks,D,T with
    |[],D,_=>exact absurd rfl D
    |[k],_,_=>exact⟨k,rfl⟩
    |_::_::_,_,h=>simp at h
   have e2:cM (Nd.mk 6 0 [] [] [k])=[63]++cM k:=e;rw[e2]at u a⊢;obtain⟨y,v⟩:=dm.1 u;have A:p+([63]++cM k).length=p+([63]:ab).length+(cM k).length:=by simp;omega
   rw[A]at a⊢;have:=L k si (d+1) n _ (o 0 si) om v a;exact .inr ⟨rfl,.inr (.inr (.inr (.inr (.inl ⟨look y,_,_,k,gW.yes y,this,rfl⟩))))⟩
 rw[if_neg G]at e;by_cases K:N=5
 .obtain⟨E,z,j,T⟩:x=0/\w=[]/\ns.length=ks.length/\wS ns:=by
   rcases f with h|h|h|h|h|h
   .exfalso;omega
   .exfalso;omega
   .exfalso;omega
   .exfalso;omega
   .exact h.2
   .exfalso;omega
  subst K;subst E;subst z;rw[if_pos rfl]at e;rw[e]at u a⊢;obtain⟨y,R⟩:=dm.1 u;obtain⟨y,v⟩:=dm.1 y;have A:=look R;simp only[bG,aZ,bc,dK]at v A;rw[show p+(1+(bQ true ns (List.map cM ks) ks.length).length)=p+1+(bQ true ns (List.map cM ks) ks.length).length by omega]at A
  obtain⟨m,M⟩:=M0 (P:=uK s n) (.inr rfl) (fun _=>⟨j,T⟩) (fun h=>by cases h) (fun _=>rfl) (fun h=>by cases h) v A (by have:=v.1;omega)
   (fun i O q S H=>L _ (eu O) (d+1) n q (o i O) om S H) (fun i O q S=>L0 (o i O) S)
  refine .inr ⟨rfl,.inr (.inr (.inr (.inr (.inr (.inr (.inl ⟨look y,m,ns,ks,_,M,?_,rfl⟩))))))⟩;simp only[bG,aZ,bc];omega
 .have h4:N=4:=by omega
  obtain⟨E,z,j,T⟩:x=0/\w=[]/\ns.length=0/\ks.length<=20:=by
   rcases f with h|h|h|h|h|h
   .exfalso;omega
   .exfalso;omega
   .exfalso;omega
   .exact h.2
   .exfalso;omega
   .exfalso;omega
  subst h4;subst E;subst z;rw[if_neg K]at e;obtain rfl:=nil j;rw[e]at u a⊢;obtain⟨y,R⟩:=dm.1 u;obtain⟨y,v⟩:=dm.1 y;have A:=look R;simp only[bG,aZ,bc,dK]at v A;rw[show p+(1+(bQ false [] (List.map cM ks) ks.length).length)=p+1+(bQ false [] (List.map cM ks) ks.length).length by omega]at A
  obtain⟨m,M⟩:=M0 (P:=uK s n) (.inl rfl) (fun h=>by cases h) (fun _=>rfl) (fun h=>by cases h) (fun _=>rfl) v A (by have:=v.1;omega)
   (fun i O q S H=>L _ (eu O) (d+1) n q (o i O) om S H) (fun i O q S=>L0 (o i O) S)
  refine .inr ⟨rfl,.inr (.inr (.inr (.inr (.inr (.inl ⟨look y,m,[],ks,_,M,?_,rfl⟩)))))⟩;simp only[bG,aZ,bc];omega
def xu(L:Lk)(f:Nat):Prop:=∀s:ab,(∀t,jk t->cM t=s->CP L f [dS s] (.b6 [aT t,dB true]))/\
 ((¬ ∃t,jk t/\cM t=s)->CP L f [dS s] (.b6 [aT bX,dB false]))
theorem MD(a:aJ L 189 agN)(u:∀s:ab,s.length<=1000000->∀n,n<=7->Bl L s n)(c:vN L 150)(m:uf L 154):xu L 189:=by
 intro s;refine⟨fun t o i=>?_,fun r=>?_⟩
 .have e:=uE t 1 o.1;have w:=o.2;rw[i]at e;have y:br s (cM t) 0:=by rw[i];exact⟨by simp,by simp⟩
  have f:=M3 s t 1 6 0 o.1 rfl y (by rw[i,tr om];unfold jo;omega);rw[i]at f;have h:=u s om 6 om 1 0 false t _ _ rfl f om;refine a.cp ?_
  repeat' ((conv=>whnf);first|exact xc|apply aq|apply aD|apply aH|apply bp|apply aM|refine az h [1] [] ?_|refine ak (c t) ?_|refine ak (m t 1 ⟨o.1,by omega⟩) ?_|exact fz|exfalso;simp at*;done|intro _)
 .by_cases v:s.length<=10000
  .obtain⟨t,b,d,l⟩:=uK.ex s 6 0 false om;have h:=u s om 6 om 1 0 false t _ _ rfl l om;have p:d=true\/d=false:=by cases d<;>simp
   rcases p with rfl|rfl
   .refine a.cp ?_
    repeat' ((conv=>whnf);first|exact xo|apply aq|refine az h [1] [] ?_|exact fz|intro _)
   .refine a.cp ?_
    repeat' ((conv=>whnf);first|exact xo|apply aq|apply aD|apply aH|apply bp|apply aM|refine az h [1] [] ?_|refine ak (c t) ?_|refine ak (m t 1 (show jk t by assumption)) ?_|exact fz|exact absurd ⟨t,by assumption,by assumption⟩ r|intro _)
  .refine a.cp ?_
   repeat' ((conv=>whnf);first|exact xo|apply aq|exact fz|intro _)
end Go.Ab
namespace Go.Ab
open Go
variable{rl:bm}{nb:Nat}{bx:List Bx}
section
variable{L:Lk}{n:Nat}{m:Md}{Q:AE->St->Prop}
theorem dW{x y:AC}{σ:St}(h:W L n m x σ fun e t=>match e with| .normal=>W L n m y t Q| .exit i=>Q (.exit i) t| .ret=>Q .ret t):W L n m (.seq x y) σ Q:=by
 intro p v r b g a w k j s q;cases j with
 |seq z E=>
 refine wp_seq (wp_mono (h _ v r b g a w k z s q) ?_);rintro e T A (⟨H,d,t,O,l,o,u⟩|⟨I,N,S,rfl,c,f⟩)
 case inr=>exact .inr ⟨I,N,S,rfl,c,f⟩
 cases O with
 |normal=>exact u _ v r b d T A k E l o
 |exit id=>exact(.inl ⟨_,d,t,.exit id,l,o,u⟩)
 |ret=>exact(.inl ⟨_,d,t,.ret,l,o,u⟩)
def Xv(v:AV)(c:Arg)(env:Env)(A B:Env->Prop):Prop:=
 match v with
 | .d (.bool t)=>ud c t env A B
 |_=>False
theorem eb{c:Arg}{x y:AC}{env:Env}(h:Xv (bL L.gl env c) c env (fun env=>W L n m x ⟨env,nb,bx,rl⟩ Q) (fun env=>W L n m y ⟨env,nb,bx,rl⟩ Q)):W L n m (.cond c x y) ⟨env,nb,bx,rl⟩ Q:=by
 intro v l e u g a w f p s o;cases p with
 |cond p b k=>
 have j:=p.val o;simp only[Xv]at h;split at h
 .rename_i t z;rw[z]at j;have r:=j.me;simp only[ud]at h;split at h
  .rename_i i;have q:a.tmps.getD i undef=.bool t:=by cases p;exact r
   cases t with
   |true=>exact wp_cond_true r (h _ l e u g a w f b s (o.vp i (.d (.bool true)) (by rw[q];exact VR.kH true)))
   |false=>exact wp_cond_false r (h _ l e u g a w f k s (o.vp i (.d (.bool false)) (by rw[q];exact VR.kH false)))
  .cases t with
   |true=>exact wp_cond_true r (h _ l e u g a w f b s o)
   |false=>exact wp_cond_false r (h _ l e u g a w f k s o)
 .exact h.elim
theorem fT{id:Nat}{x:AC}{σ:St}(h:W L n m x σ fun e t=>match e with| .normal=>Q .normal t| .exit i=>(match Nat.beq i id with|true=>Q .normal t|false=>Q (.exit i) t)| .ret=>Q .ret t):W L n m (.block id x) σ Q:=by
 intro p v u b g a w k j s q;cases j with
 |block z=>
 refine wp_block (wp_mono (h _ v u b g a w k z s q) ?_);rintro e N S (⟨H,d,t,E,l,o,r⟩|⟨T,A,O,rfl,c,f⟩)
 case inr=>exact .inr ⟨T,A,O,rfl,c,f⟩
 cases E with
 |normal=>exact(.inl ⟨_,d,t,.normal,l,o,r⟩)
 |exit i=>
  simp only at r;by_cases y:i=id
  .subst y;simp at r;simp only[Exit.inBlock,if_true];exact(.inl ⟨_,d,t,.normal,l,o,r⟩)
  .have:Nat.beq i id=false:=by cases I:Nat.beq i id with|true=>exact absurd (dL I) y|false=>rfl
   rw[this]at r;simp only[Exit.inBlock,y,if_false];exact(.inl ⟨_,d,t,.exit i,l,o,r⟩)
 |ret=>exact(.inl ⟨_,d,t,.ret,l,o,r⟩)
theorem O'{x:AC}{σ:St}(h:LW L n m x σ Q):W L n m (.loop x) σ Q:=mS m _ σ Q h
theorem eM{σ:St}(h:Q .normal σ):W L n m .skip σ Q:=mS m _ σ Q h
theorem pK{id:Nat}{σ:St}(h:Q (.exit id) σ):W L n m (.exit id) σ Q:=mS m _ σ Q h
theorem mQ{σ:St}(h:Q .ret σ):W L n m .ret σ Q:=mS m _ σ Q h
theorem eY{e:List AI}{d:Bool}{σ:St}(h:kW L.gl (uJ L m.X) e σ fun t=>Q .normal t):W L n m (.j9 e d) σ Q:=mS m _ σ Q h
theorem E6{e:List AI}{ms:List Nat}{t:bm}{σ:St}(h:sY L.gl (dk L) (bA L) ms t 0 e σ [] [] fun a=>Q .normal a):W L n m (.yY e ms t) σ Q:=mS m _ σ Q h
theorem LW.L2{c:AC}{σ:St}(h:W L n m c σ fun e o=>match e with| .normal=>LW L n m c o Q| .exit i=>Q (.exit i) o| .ret=>Q .ret o):LW L n m c σ Q:=by
 unfold LW;intro x E l T g a w A O s N b k I;obtain⟨e,f,y,⟨F,p,o,S,v,r,u⟩|⟨H,R,D,rfl,j,q⟩,t⟩:=h x E l T g a w A O s N b (.inLoop x::k) I
 case inr=>exact⟨_,f,y,.inr ⟨H,R,D,rfl,j,q⟩,.pass (x:=.inLoop x) rfl (fun _ _=> .inl si) t⟩
 cases S with
 |normal=>
  dsimp only at u;unfold LW at u;obtain⟨U,C,M,z,d⟩:=u x E l T p f y A O v r b k I;exact⟨U,C,M,z,.of_steps (Steps.trans t (.one step_inLoop)) d⟩
 |exit id=>exact⟨_,f,y,.inl ⟨_,p,o,.exit id,v,r,u⟩,.pass (x:=.inLoop x) rfl (fun _ _=> .inl si) t⟩
 |ret=>exact⟨_,f,y,.inl ⟨_,p,o,.ret,v,r,u⟩,.pass (x:=.inLoop x) rfl (fun _ _=> .inl si) t⟩
end
def ll:Nat->AC->AC
 |0,c=>c
 |n+1,.seq _ b=>ll n b
 |_+1,c=>c
def Hw:Nat->AC->AC->AC
 |0,_,t=>t
 |n+1,.seq a b,t=> .seq a (Hw n b t)
 |_+1,c,_=>c
theorem C7:∀(n:Nat)(c:AC),Hw n c (ll n c)=c
 |0,_=>rfl
 |n+1,.seq a b=>by simp only[Hw,ll,C7 n b]
 |_+1,.skip|_+1,.cond .. |_+1,.block .. |_+1,.loop .. |_+1,.exit .. |_+1,.ret|_+1,.j9 .. |_+1,.yY .. |_+1,.yX .. |_+1,.uD .. |_+1,.FQ .. |_+1,.Bz .. |_+1,.bad=>rfl
theorem W.drop{L:Lk}{n:Nat}{m:Md}{c:AC}{Q:AE->St->Prop}{τ σ:St}(h:W L n m c τ Q)(f:yQ m τ)(y:ph τ σ):W L n m c σ Q:=by
 intro x p r v g a w b k s o;obtain⟨j,q,d⟩:=y;obtain⟨z,l,u⟩:=f;have l:=cb l;have u:=cb u;have t:=o.sh.cut q d rfl;refine h x p r v (g.cut τ.bx.length τ.rl.length) a w b k (s.cut d om om) ⟨o.defers,o.size,fun i=>?_,by rw[z];exact t⟩;rcases X2 j i with e|e
 .rw[e];exact .bM _
 .have:=(o.slot i).I6 e;rw[<-(uC d).1]at this;exact this
theorem LW.ajZ{L:Lk}{n:Nat}{m:Md}{c:AC}{Q:AE->St->Prop}{S:Type}(μ:S->Nat)(I:S->Prop)(o:S->St)(i:∀s,yQ m (o s))(h:∀s,I s->(∀t(σ:St),μ t<μ s->I t->ph (o t) σ->LW L n m c σ Q)->
   W L n m c (o s) fun e a=>match e with| .normal=>LW L n m c a Q| .exit j=>Q (.exit j) a| .ret=>Q .ret a)(s:S)(u:I s)(σ:St)(f:ph (o s) σ):LW L n m c σ Q:=by
 have r:∀k s,μ s=k->I s->LW L n m c (o s) Q:=by
  intro k
  induction k using Nat.strongRecOn with
  |ind k w=>
   intro s v y;exact LW.L2 (h s y fun t σ p d l=>LW.drop (w (μ t) om t rfl d) (i t) l)
 exact LW.drop (r _ s rfl u) (i s) f
theorem LW.Jf{L:Lk}{n:Nat}{m:Md}{c:AC}{Q:AE->St->Prop}(N:Nat)(I:Nat->Prop)(a:Nat->St)(o:∀i,yQ m (a i))(h:∀i,i<=N->I i->(∀σ:St,i<N->I (i+1)->ph (a (i+1)) σ->LW L n m c σ Q)->
   W L n m c (a i) fun e t=>match e with| .normal=>LW L n m c t Q| .exit j=>Q (.exit j) t| .ret=>Q .ret t)(l:I 0)(σ:St)(u:ph (a 0) σ):LW L n m c σ Q:=
 LW.ajZ (S:={i:Nat//i<=N}) (fun i=>N-i.1) (fun i=>I i.1) (fun i=>a i.1) (fun i=>o i.1)
  (fun i f w=>h i.1 i.2 f fun σ s r d=>w ⟨i.1+1,s⟩ σ (by show N-(i.1+1)<N-i.1;omega) r d) ⟨0,cr _⟩ l σ u
end Go.Ab
namespace Go.Ab
open Go
attribute [local irreducible] bI cf cw bW bA dk dT
variable{L:Lk}{s:ab}{p:Nat}
set_option maxHeartbeats 4000000
theorem I0(t:aJ L 82 c82)(a:vZ L 69)(e:Ev)(o:¬ir e):CP L 82 [.agg (av (eD e))] (dS []):=by
 refine t.cp ?_
 repeat' ((conv=>whnf);first|apply bp|refine ak (a e) ?_|exact cu rfl|exact xc|intro _)
theorem V8{nm:ab}{c:UInt8}(o:¬Es c.toNat)(n:bO nm)(h:br s (nm++[c]) p):mM s p (p+nm.length)/\br s nm p/\br s [c] (p+nm.length):=by
 obtain⟨e,t⟩:=dm.1 h;refine⟨⟨by omega,e.1,fun i a b=>?_,?_⟩,e,t⟩
 .have:=fL (i:=i-p) e om;rw[show p+(i-p)=i by omega]at this;rw[this];exact CZ n _
 .have:=fL (i:=0) t si;rw[iU]at this;rw[this];exact o
def pV:Ev:=⟨[],0,bX⟩
def EW(L:Lk)(f:Nat):Prop:=∀s:ab,(∀e,ir e->DD e=s->CP L f [dS s] (.b6 [.agg (av (eD e)),dB true]))/\
 ((¬ ∃e,ir e/\DD e=s)->CP L f [dS s] (.b6 [.agg (av (eD pV)),dB false]))
structure RdE(s:ab)(q p2 p0 q3:Nat)(b2 b3:Bool)(g:Int)(t:Nd)(p':Nat)(b':Bool):Prop where
 name:mM s 0 q
 at2:gW s [64] q false p2 b2
 sign:Cy s p2 p0 g
 num:NumEnd s p0 q3
 flag:(q3=p0/\b3=true)\/(q3≠p0/\b3=b2)
 tree:uK s 6 q3 b3 t p' b'
 le:q<=s.length/\p2<=s.length/\q3<=s.length
attribute [local irreducible] W
theorem tq(c:aJ L 116 c116)(hN:Bm L)(b:Bk L)(k:I8 L)(j:∀s:ab,s.length<=1000000->∀n,n<=7->Bl L s n)(U:s.length<=10000){q x u m:Nat}{z f:Bool}{g:Int}{t:Nd}{p':Nat}{r:Bool}(h:RdE s q x u m z f g t p' r){nm w:ab}{y:Int}(d:(s.take q).drop 0=nm)(l:g*(qb s u (m-u):Int)=y)(E:CP L 82 [.agg (av (eD ⟨nm,y,t⟩))] (dS w)):
  (r=false/\p'=s.length/\w=s/\s≠[]->CP L 116 [dS s] (.b6 [.agg (av (eD ⟨nm,y,t⟩)),dB true]))/\
  (¬(r=false/\p'=s.length/\w=s/\s≠[])->CP L 116 [dS s] (.b6 [.agg (av (eD pV)),dB false])):=by
 obtain⟨T,A,O,I,N,S,C,H,R⟩:=h;have o:=j s om 6 om 1 _ f t _ _ rfl S R;have i:=b s [64] q false _ _ A om de om;have e:=hN s 0 false _ om T;have a:=k s x u m g z f om H O I N;rw[d]at e;rw[l]at a;clear T A O I N S d l hN b k j;have p:r=true\/r=false:=by cases r<;>simp
 refine⟨fun v=>?_,fun v=>?_⟩
 .obtain⟨rfl,rfl,rfl,D⟩:=v;refine CP.jq c rfl rfl rfl ?_
  repeat' ((conv=>whnf);first|refine eY ?_|refine dW ?_|refine eb ?_|refine mQ ?_|refine eM ?_|exact xc|apply aq|apply aD|apply aH|apply aM|refine az e [1] [] ?_|refine az i [1] [] ?_|refine az a [1] [] ?_|refine az o [1] [] ?_|refine ak E ?_|exact fz|intro _)
 .rcases p with rfl|rfl
  .refine CP.jq c rfl rfl rfl ?_
   repeat' ((conv=>whnf);first|refine eY ?_|refine dW ?_|refine eb ?_|refine mQ ?_|refine eM ?_|exact xo|apply aq|refine az e [1] [] ?_|refine az i [1] [] ?_|refine az a [1] [] ?_|refine az o [1] [] ?_|exact fz|intro _)
  .refine CP.jq c rfl rfl rfl ?_
   repeat' ((conv=>whnf);first|refine eY ?_|refine dW ?_|refine eb ?_|refine mQ ?_|refine eM ?_|exact xo|apply aq|apply aD|apply aH|apply aM|refine az e [1] [] ?_|refine az i [1] [] ?_|refine az a [1] [] ?_|refine az o [1] [] ?_|refine ak E ?_|exact fz|exact absurd ⟨rfl,by omega,by assumption,by assumption⟩ v|intro _)
theorem KU(k:aJ L 116 c116)(hN:Bm L)(E:Bk L)(T:I8 L)(A:∀s:ab,s.length<=1000000->∀n,n<=7->Bl L s n)(K:tV L 82)(O:∀e:Ev,¬ir e->CP L 82 [.agg (av (eD e))] (dS [])):EW L 116:=by
 intro s;refine⟨fun e I c=>?_,fun N=>?_⟩
 .have j:=Up I;rw[c]at j;have J:br s (DD e) 0:=by rw[c];exact⟨by simp,by simp⟩
  have S:s≠[]:=by rw[<-c];simp[DD]
  obtain⟨n1,n2,n3,n4⟩:=id I;unfold DD at J;obtain⟨H,x⟩:=dm.1 J;obtain⟨H,D⟩:=dm.1 H;obtain⟨l,c2,c3⟩:=V8 (by unfold Es;decide) n1 H;have o:=E7 c2;simp only[dK,bG,aZ,bc]at D x l c2 c3 o
  have m:bE s (e.xq.length+1+(dec e.pC).length)=123:=by
   have:cM e.body=[123]++(bQ true e.body.names (e.body.kids.map cM) e.body.kids.length++[125]):=by
    rw[qL];rw[if_neg om,if_neg om,if_neg om,if_neg om,if_pos n3,ga]
   rw[this]at x;have:=fL (i:=0) (dm.1 x).1 si;simpa using this
  obtain⟨a,g,U,z,r3,r4,r5,r6⟩:=Np (s:=s) (n:=e.pC) (p:=e.xq.length+1) ⟨by omega,by omega⟩ D (by rw[m];unfold jo;decide);have r:e.xq.length+1+(dec e.pC).length+(cM e.body).length=s.length:=by rw[<-c];simp[DD];omega
  have Q:=M3 s e.body 1 6 _ n4.1 rfl x (by rw[r,tr (aQ _)];unfold jo;omega);rw[r]at Q;have C:=c3.1;have X:=D.1;simp only[aZ,bc]at C;have f:=gW.yes (b:=false) c3;simp only[aZ,bc,dK]at f;exact(tq k hN E T A om ⟨l,f,U,z,.inr ⟨r3,rfl⟩,Q,l.2.1,by omega,by omega⟩ o r4 (K e I)).1 ⟨rfl,rfl,c,S⟩
 .by_cases j:s.length<=10000
  .obtain⟨q,l⟩:=mM.ex s _ 0 rfl om;have Z:=l.2.1;obtain⟨M,b2,F⟩:=gW.ex s [64] q false;have w:=F.le Z
   have Y:∃a g,Cy s M a g/\a<=s.length:=by
    by_cases h:bE s M=45
    .exact⟨_,_,.inl ⟨h,rfl,rfl⟩,pk h de⟩
    .exact⟨_,_,.inr ⟨h,rfl,rfl⟩,w.2.1⟩
   obtain⟨a,g,U,P⟩:=Y;obtain⟨u,z⟩:=NumEnd.ex s a 10 0 rfl (fun i h1 F=>by omega);have y:=z.le P
   have hb:∃v,(u=a/\v=true)\/(u≠a/\v=b2):=by
    by_cases h:u=a
    .exact⟨_,.inl ⟨h,rfl⟩⟩
    .exact⟨_,.inr ⟨h,rfl⟩⟩
   obtain⟨v,V⟩:=hb;obtain⟨t,p',b',B⟩:=uK.ex s 6 u v y.2;have R:RdE s q M a u b2 v g t p' b':=⟨l,F,U,z,V,B,Z,w.2.1,y.2⟩;by_cases d:ir ⟨(s.take q).drop 0,g*(qb s a (u-a):Int),t⟩
   .exact(tq k hN E T A j R rfl rfl (K _ d)).2 fun⟨_,_,G,_⟩=>N ⟨_,d,G⟩
   .exact(tq k hN E T A j R rfl rfl (O _ d)).2 fun⟨_,_,G,X⟩=>X G.symm
  .refine k.cp ?_
   repeat' ((conv=>whnf);first|exact xo|apply aq|exact fz|intro _)
theorem R5(c:UInt8):∀s:ab,(∀i(h:i<s.length),i<cl s c->s[i]≠c)/\(∀h:cl s c<s.length,s[cl s c]=c)
 |[]=>⟨fun i h=>by simp at h,fun h=>by simp at h⟩
 |x::r=>by
  obtain⟨o,n⟩:=R5 c r;by_cases t:x=c
  .have e:cl (x::r) c=0:=by simp[cl,t]
   refine⟨fun i h d=>by omega,fun h=>?_⟩;have:∀k(a:k<(x::r).length),k=0->(x::r)[k]=c:=fun k a e=>by subst e;exact t
   exact this _ h e
  .have e:cl (x::r) c=cl r c+1:=by simp[cl,t]
   refine⟨fun i h d=>?_,fun h=>?_⟩
   .cases i with
    |zero=>exact t
    |succ i=>exact o i (by simpa using h) om
   .have:∀k(a:k<(x::r).length),k=cl r c+1->(x::r)[k]=c:=fun k a e=>by
     subst e;exact n (by simpa using a)
    exact this _ h e
def Ja(L:Lk)(f:Nat):Prop:=∀s:ab,s.length<=1000000->CP L f [dS s] (.b6 [dS (s.take (cl s 32)),dS (s.drop (cl s 32+1))])
theorem afB(d:aJ L 112 agt):Ja L 112:=by
 intro s c;have m:=J4 s 32;obtain⟨l,u⟩:=R5 32 s
 have a:∀i,i<=cl s 32->∀h:i<s.length,(s[i].toNat:Int)≠32->i<cl s 32:=fun i t h o=>by
  rcases nC i (cl s 32)with q|q
  .exact q
  .exfalso;have e:i=cl s 32:=by omega
   subst e;rw[u h]at o;exact o rfl
 have n:∀i,i<=cl s 32->∀h:i<s.length,(s[i].toNat:Int)=32->i=cl s 32:=fun i t h o=>by
  rcases nC i (cl s 32)with q|q
  .exact absurd (AH.1 (by show s[i].toNat=(32:UInt8).toNat;have:(32:UInt8).toNat=32:=rfl;omega)) (l i h q)
  .omega
 refine d.cp ?_
 repeat' ((conv=>whnf);first|rw[wrap64 om]|apply aq|apply aD|refine bY ?_|refine r _ (a i t om asm) trivial lx|(fail_if_success (have f:=r));refine LW.count (cl s 32) (fun _=>True) (fun i=>⟨[(0,dS s),(4,dI i)],0,[],[]⟩) (fun _=>⟨rfl,rfl,rfl⟩) (fun i t w r=>?_) trivial _ lx|intro _)
 all_goals(conv=>whnf)
 all_goals try first
  |(have e:=n i t om asm;subst e;exact fx)
  |(have e:i=cl s 32:=by omega
    subst e
    (apply dt<;>(repeat' first|(refine dG ?_;rw[nz om];done)|(refine dG ?_;rw[Jx om];done)|exact sz|apply And.intro);done))
  |exact xo
def FE(n:Int)(s:ab):Prop:=(-999999999<=n/\n<=999999999)/\dec n=s
def Gx(L:Lk)(f:Nat):Prop:=∀s:ab,(∀n,FE n s->CP L f [dS s] (.b6 [dI n,dB true]))/\((¬ ∃n,FE n s)->∃v,eB .i64 v/\CP L f [dS s] (.b6 [dI v,dB false]))
theorem aaj{n:Int}(e: -999999999<=n/\n<=999999999):jk (.mk 1 n [] [] [])/\cM (.mk 1 n [] [] [])=dec n:=by
 refine⟨⟨nE.iff.2 ⟨by decide,.inl ⟨rfl,e,rfl,rfl,rfl⟩,fun i t=>by simp[Nd.kids]at t⟩,by simp[Nd.size,bU]⟩,?_⟩;rw[Q4,if_pos rfl]
theorem ZD(h:aJ L 258 aha)(m:xu L 189):Gx L 258:=by
 intro s;obtain⟨l,f⟩:=m s;refine⟨fun n u=>?_,fun r=>?_⟩
 .obtain⟨w,y⟩:=aaj u.1;have a:=l _ w (y.trans u.2);refine h.cp ?_
  repeat' ((conv=>whnf);first|refine ak a ?_|exact fz|fail)
 .by_cases o:∃t,jk t/\cM t=s
  .obtain⟨t,o,c⟩:=o;have a:=l t o c;have i:=(r8 o.1).2;have d:t.sort≠1:=fun e=>r ⟨t.num,by unfold mg at i;omega,by rw[<-c,qL,if_pos e]⟩
   refine⟨t.num,by unfold mg at i;unfold eB;simp only;omega,?_⟩;refine h.cp ?_;have p:jf t.sort 1=false:=decide_eq_false d
   repeat' ((conv=>whnf);first|refine ak a ?_|(apply dt<;>(repeat' first|(show DV.bool _=DV.bool _;exact congrArg DV.bool p)|exact sz|apply And.intro);done)|exact xc|fail)
  .have a:=f o;refine⟨0,by unfold eB;simp only;omega,?_⟩;refine h.cp ?_
   repeat' ((conv=>whnf);first|refine ak a ?_|exact fz|fail)
variable{i:Nat}
def MU(L:Lk)(f:Nat):Prop:=∀s:ab,(∀n,0<=n/\n<=999999->dec n=s->CP L f [dS s] (.b6 [dI n,dB true]))/\
 ((¬ ∃n:Int,(0<=n/\n<=999999)/\dec n=s)->∃v,eB .i64 v/\CP L f [dS s] (.b6 [dI v,dB false]))
theorem ZI(a:aJ L 187 agL)(hN:Gx L 258)(r:pW L 65):MU L 187:=by
 intro s;obtain⟨d,c⟩:=hN s;refine⟨fun n l t=>?_,fun o=>?_⟩
 .have e:=d n ⟨by omega,t⟩;refine a.cp ?_
  repeat' ((conv=>whnf);first|refine ak e ?_|refine ak (r _ _ _) ?_|fail)
  all_goals(conv=>whnf)
  all_goals try first
   |exact fz
   |exact xo
  all_goals try(apply dt<;>(repeat' first|(show DV.bool _=DV.bool _;exact congrArg DV.bool (iA om))|exact sz|apply And.intro);done)
 .by_cases u:∃n,FE n s
  .obtain⟨n,l,t⟩:=u;have e:=d n ⟨l,t⟩;have i:¬(0<=n/\n<=999999):=fun h=>o ⟨n,h,t⟩
   refine⟨n,by unfold eB;simp only;omega,?_⟩;refine a.cp ?_
   repeat' ((conv=>whnf);first|refine ak e ?_|refine ak (r _ _ _) ?_|fail)
   all_goals(conv=>whnf)
   all_goals try first
    |exact fz
    |exact xo
   all_goals try(apply dt<;>(repeat' first|(show DV.bool _=DV.bool _;exact congrArg DV.bool (ig i))|exact sz|apply And.intro);done)
  .obtain⟨v,m,e⟩:=c u;refine⟨v,m,?_⟩;refine a.cp ?_
   repeat' ((conv=>whnf);first|refine ak e ?_|exact fz|fail)
def gR(c:UInt8)(s:ab):Nat->Nat×List ab
 |0=>(0,[])
 |i+1=>if s[i]?=some c then(i+1,(gR c s i).2++[(s.take i).drop (gR c s i).1])else gR c s i
theorem zE{c:UInt8}(h:s[i]?=some c):gR c s (i+1)=(i+1,(gR c s i).2++[(s.take i).drop (gR c s i).1]):=by rw[gR,if_pos h]
theorem zD{c:UInt8}(h:¬s[i]?=some c):gR c s (i+1)=gR c s i:=by rw[gR,if_neg h]
theorem Fh(c:UInt8)(s:ab):∀i,(gR c s i).1<=i/\(gR c s i).2.length<=i
 |0=>⟨aQ _,aQ _⟩
 |i+1=>by
  have:=Fh c s i;by_cases h:s[i]?=some c
  .rw[zE h];simp;omega
  .rw[zD h];omega
def pieces(c:UInt8)(s:ab):List ab:=(gR c s s.length).2++[s.drop (gR c s s.length).1]
def O6(L:Lk)(f:Nat)(c:UInt8):Prop:=∀s:ab,s.length<=1000000->CP L f [dS s] (.d (.sl (aR (pieces c s))))
def DY(s:ab)(i e:Nat):List ab->St
 |[]=>⟨[(0,.d (.str s)),(3,.aO [] .full),(4,.d (.int .i64 e)),(5,.d (.int .i64 i))],0,[],[]⟩
 |x::r=>⟨[(0,.d (.str s)),(3,.aO (aR (x::r)) (.row 0)),(4,.d (.int .i64 e)),(5,.d (.int .i64 i))],0,[],[((x::r).length,1)]⟩
theorem Nl(s:ab)(i e:Nat)(o:List ab):yQ ⟨0,0,none⟩ (DY s i e o):=by cases o<;>exact⟨rfl,rfl,rfl⟩
theorem acQ(g:aJ L 31 c31):O6 L 31 10:=by
 intro s j;refine g.cp ?_
 repeat' ((conv=>whnf);first|apply aq|apply bK|apply aD|apply aH|apply bp|apply aM|apply eA|apply ew|apply gQ|apply bS|rw[ca];intro _|rw[dC];intro _|rw[bl];intro _|refine bY ?_|intro _)
 all_goals(conv=>whnf)
 refine LW.count s.length (fun _=>True) (fun i=>DY s i (gR 10 s i).1 (gR 10 s i).2) (fun i=>Nl _ _ _ _) (fun i q z f=>?_) trivial _ lz;have k:=Fh 10 s i
 have d:∀h:i<s.length,(s[i].toNat:Int)=10->s[i]?=some 10:=fun h e=>by
  rw[dw h];exact congrArg some (AH.1 (by show s[i].toNat=(10:UInt8).toNat;have:(10:UInt8).toNat=10:=rfl;omega))
 have l:∀h:i<s.length,(s[i].toNat:Int)≠10->¬s[i]?=some 10:=fun h e v=>by
  rw[dw h,qZ]at v;rw[v]at e;exact e rfl
 generalize m:(gR 10 s i).2=o at*;generalize t:(gR 10 s i).1=w at*;have u:i=s.length->pieces 10 s=o++[s.drop w]:=fun e=>by subst e;unfold pieces;rw[m,t]
 have n:s[i]?=some 10->∀σ,i<s.length->ph (DY s (i+1) (i+1) (o++[(s.take i).drop w])) σ->_:=fun h σ a p=>f σ a trivial (by rw[zE h,m,t];exact p)
 have b:¬s[i]?=some 10->∀σ,i<s.length->ph (DY s (i+1) w o) σ->_:=fun h σ a p=>f σ a trivial (by rw[zD h,m,t];exact p)
 clear f m t;have c:(aR o).length=o.length:=bl _;cases o with
 |nil=>
  repeat' ((conv=>whnf);first|rw[wrap64 om]|apply aq|apply aD|refine bY ?_|refine ad ⟨by simp only[bc,aZ];omega,by intro y n;rw[dP.1 n];rfl⟩ ?_|refine n (d om asm) _ om lx|refine b (l om asm) _ om lx|rw[u om];exact fx|exact xo|intro _)
 |cons x r=>
  repeat' ((conv=>whnf);first|rw[wrap64 om]|apply aq|apply aD|refine bY ?_|refine ad ⟨by simp only[c,bc,aZ]at*;omega,by intro y n;rw[dP.1 n];rfl⟩ ?_|refine ad ⟨c,rfl⟩ ?_|refine n (d om asm) _ om lx|refine b (l om asm) _ om lx|rw[u om];exact fx|exact xo|intro _)
theorem VX(g:aJ L 186 agK):O6 L 186 32:=by
 intro s j;refine g.cp ?_
 repeat' ((conv=>whnf);first|apply aq|apply bK|apply aD|apply aH|apply bp|apply aM|apply eA|apply ew|apply gQ|apply bS|rw[ca];intro _|rw[dC];intro _|rw[bl];intro _|refine bY ?_|intro _)
 all_goals(conv=>whnf)
 refine LW.count s.length (fun _=>True) (fun i=>DY s i (gR 32 s i).1 (gR 32 s i).2) (fun i=>Nl _ _ _ _) (fun i q z f=>?_) trivial _ lz;have k:=Fh 32 s i
 have d:∀h:i<s.length,(s[i].toNat:Int)=32->s[i]?=some 32:=fun h e=>by
  rw[dw h];exact congrArg some (AH.1 (by show s[i].toNat=(32:UInt8).toNat;have:(32:UInt8).toNat=32:=rfl;omega))
 have l:∀h:i<s.length,(s[i].toNat:Int)≠32->¬s[i]?=some 32:=fun h e v=>by
  rw[dw h,qZ]at v;rw[v]at e;exact e rfl
 generalize m:(gR 32 s i).2=o at*;generalize t:(gR 32 s i).1=w at*;have u:i=s.length->pieces 32 s=o++[s.drop w]:=fun e=>by subst e;unfold pieces;rw[m,t]
 have n:s[i]?=some 32->∀σ,i<s.length->ph (DY s (i+1) (i+1) (o++[(s.take i).drop w])) σ->_:=fun h σ a p=>f σ a trivial (by rw[zE h,m,t];exact p)
 have b:¬s[i]?=some 32->∀σ,i<s.length->ph (DY s (i+1) w o) σ->_:=fun h σ a p=>f σ a trivial (by rw[zD h,m,t];exact p)
 clear f m t;have c:(aR o).length=o.length:=bl _;cases o with
 |nil=>
  repeat' ((conv=>whnf);first|rw[wrap64 om]|apply aq|apply aD|refine bY ?_|refine ad ⟨by simp only[bc,aZ];omega,by intro y n;rw[dP.1 n];rfl⟩ ?_|refine n (d om asm) _ om lx|refine b (l om asm) _ om lx|rw[u om];exact fx|exact xo|intro _)
 |cons x r=>
  repeat' ((conv=>whnf);first|rw[wrap64 om]|apply aq|apply aD|refine bY ?_|refine ad ⟨by simp only[c,bc,aZ]at*;omega,by intro y n;rw[dP.1 n];rfl⟩ ?_|refine ad ⟨c,rfl⟩ ?_|refine n (d om asm) _ om lx|refine b (l om asm) _ om lx|rw[u om];exact fx|exact xo|intro _)
def AX(ws:List ab)(br:Nat)(e t a:Int):Bx:=.var 0 [.d (.sl (aR ws)),dI br,dI e,dI t,dI a]
def bP(ws:List ab)(i:Nat):ab:=ws.getD i []
def yj(L:Lk):Prop:=∀(ws:List ab)(i:Nat)(nd e t:Int),ws.length<=1000000->CT L 271 [.ptr 0 0] 1 [AX ws i nd e t] [] (dS (bP ws i)) 1 [AX ws i nd e t] []
theorem ade(t:aJ L 271 ahh):yj L:=by
 intro e i o n s h;have a:(aR e).length=e.length:=bl _;refine t.ct ?_
 repeat' ((conv=>whnf);first|refine ad (by rw[bl];omega) ?_|apply aq|refine bY ?_|(apply dt<;>(repeat' first|(refine dG ?_;unfold bP;rw[ny,dw om];rfl)|exact sz|apply And.intro);done)|(apply dt<;>(repeat' first|(refine dG ?_;unfold bP;rw[ny,qY om];rfl)|exact sz|apply And.intro);done)|exact xo|intro _)
def Rx(L:Lk):Prop:=∀(ws:List ab)(i:Nat)(nd e t c:Int),(e=0->CT L 208 [.ptr 0 0,dI c] 1 [AX ws i nd e t] [] (.b6 []) 1 [AX ws i nd c i] [])/\
 (e≠0->CT L 208 [.ptr 0 0,dI c] 1 [AX ws i nd e t] [] (.b6 []) 1 [AX ws i nd e t] [])
theorem ada(e:aJ L 208 c208):Rx L:=by
 intro t i a o n c;refine⟨fun h=>?_,fun h=>?_⟩
 .refine e.ct ?_
  repeat' ((conv=>whnf);first|exact xo|apply aD|exact fz|intro _)
 .refine e.ct ?_
  repeat' ((conv=>whnf);first|exact xc|apply aD|exact fz|intro _)
end Go.Ab
