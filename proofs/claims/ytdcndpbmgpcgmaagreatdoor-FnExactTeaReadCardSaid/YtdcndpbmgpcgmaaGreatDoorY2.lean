import Derived.Test.YtdcndpbmgpcgmaaGreatDoorY1
import Derived.Laws.StructEq
import Derived.Lib.UnsafeStr
import Derived.Laws.MakeOwn
import Derived.Orders
noncomputable section
namespace Go.Ab
open Go
variable{g:Gh}{rl:bm}{w:World}{t:TypeId}{o:Oper}{v:AV}{x:Operand}{c:Value}{ax:Arg}
structure abp(P:Program)(t:TypeId):Prop where
 here:∃(fs:Array Field)(f0 f1:Field)(k0 k1:IntKind),P.underlying t=some (.struct fs)/\fs.toList=[f0,f1]/\f0.name≠ "_"/\f1.name≠ "_"/\f0.offset=0/\f1.offset=1/\P.underlying f0.type=some (.int k0)/\P.underlying f1.type=some (.int k1)
 held:P.stoodInHeld t=false
 guard:P.eqGuardType P.depth t=false
theorem uc(P:Program)(w:World){k:IntKind}(h:P.underlying t=some (.int k))(cs:Array Value)(i:Nat)(v:Value)(e:cs[i]?=some v):(part t cs i).run P w=.ok v w:=by
 have a:(isAgg t).run P w=.ok false w:=by simp[isAgg,run_underlying h]
 simp[part,a,e]
theorem B9(P:Program)(w:World)(T:abp P t)(k:IntKind)(a b c d:Int):
  (Op.equal t (.agg #[.int k a,.int k b]) (.agg #[.int k c,.int k d])).run P w=.ok (a==c&&b==d) w:=by
 obtain⟨r,g,j,l,u,i,m,f,y,p,v,e,o⟩:=T.here;have n:P.fieldsOf t=r:=by simp[Program.fieldsOf,i]
 show(Op.equalIn (9999+1) t _ _).run P w=_;rw[run_equalIn_struct w 9999 t _ _ (by rw[n];exact i) T.held,n,m];simp only[Op.eqFields,f,y,p,v,ne_eq,not_false_eq_true,if_true,Sem.run_bind];rw[uc P w e _ 0 (.int k a) rfl,Result.andThen_ok,uc P w e _ 0 (.int k c) rfl,Result.andThen_ok,show(9999:Nat)=9998+1 from rfl,run_equalIn_int w 9998 _ k l a c e,Result.andThen_ok];by_cases h:a=c
 .subst h;simp only[beq_self_eq_true,Dh,jT,if_false,Sem.run_bind];rw[uc P w o _ 1 (.int k b) rfl,Result.andThen_ok,uc P w o _ 1 (.int k d) rfl,Result.andThen_ok,run_equalIn_int w 9998 _ k u b d o,Result.andThen_ok];by_cases s:b=d
  .subst s;simp
  .simp[s]
 .simp[h]
section
variable{L:Lk}{n:Nat}
theorem VR.LY{k:IntKind}{a b:Int}{v:Value}(h:VR L g rl w (.agg [.d (.int k a),.d (.int k b)]) v):v=.agg #[.int k a,.int k b]:=by
 cases h with
 |agg r t e h=>
  have o:=h 0 (.d (.int k a)) (t[0]'(by rw[e];exact Dc _)) rfl (dZ _);have n:=h 1 (.d (.int k b)) (t[1]'(by rw[e];exact tT 1)) rfl (dZ _);have o:=o.fV.1;have n:=n.fV.1;congr 1;apply vM
  .rw[e];rfl
  .intro i l s;have:i=0\/i=1:=by have:t.size=2:=e;omega
   rcases this with rfl|rfl
   .exact o
   .exact n
theorem VR.X9{b:Bool}(h:VR L g rl w (.ni b) c):∃n,c=.int .i64 n/\(b=true->n≠0):=by
 cases h with|ni _ n _ h=>exact⟨n,rfl,h⟩
theorem VR.aga{b c:Bool}{v:Value}(h:VR L g rl w (.agg [.ni b,.ni c]) v):∃p q,v=.agg #[.int .i64 p,.int .i64 q]/\(b=true->p≠0):=by
 cases h with
 |agg r t e h=>
  have a:=h 0 (.ni b) (t[0]'(by rw[e];exact Dc _)) rfl (dZ _);have o:=h 1 (.ni c) (t[1]'(by rw[e];exact tT 1)) rfl (dZ _);obtain⟨p,a,n⟩:=a.X9;obtain⟨q,o,_⟩:=o.X9;refine⟨p,q,?_,n⟩;congr 1;apply vM
  .rw[e];rfl
  .intro i d s;have:i=0\/i=1:=by have:t.size=2:=e;omega
   rcases this with rfl|rfl
   .exact a
   .exact o
theorem aaI{u:Bool}{S:TypeId}{y:Operand}{O:Arg}{H:Nat×Nat}{R:bm}(I:o.op=.binOp (if u then .neq else .eql) t x y S)(m:abp L.P t)(D:cQ L x ax)(U:cQ L y O):jM L n o (.AL u (H::R) ax O):=by
 intro X σ K g a w next Q h i k N;obtain⟨C,M,F,rl⟩:=σ;have d:=D.val h;have l:=U.val h;simp only[cB]at i;split at i
 .rename_i p q r s f j;rw[f]at d;rw[j]at l;have z:=d.LY;have E:=l.LY;have c:=py L.P w t (.agg #[.int .i64 p,.int .i64 q]) (.agg #[.int .i64 r,.int .i64 s]) u _ si si si si (B9 L.P w m .i64 p q r s);have T:∀op,(eqGuard op t x y (.agg #[.int .i64 p,.int .i64 q]) (.agg #[.int .i64 r,.int .i64 s])).run L.P w=.ok () w:=fun op=>run_eqGuard_agg w op t x y _ _ m.guard
  have e:(p==r&&q==s)=(jf p r&&jf q s):=by unfold jf;rfl
  rw[e]at c;refine aW (v:=.bool (u !=(jf p r&&jf q s))) ?_ (k _ _ g _ w (Step.refl g rl w) h (VR.kH _) i);cases u<;>simp at c<;>simp[execOp,I,z,E,T,c]
 .rename_i b r s f j;rw[f]at d;rw[j]at l;obtain⟨p,q,z,A⟩:=d.aga;have A:=A rfl;have E:=l.LY;obtain⟨rfl,i⟩:=i;have c:=py L.P w t (.agg #[.int .i64 p,.int .i64 q]) (.agg #[.int .i64 0,.int .i64 s]) u _ si si si si (B9 L.P w m .i64 p q 0 s);have T:∀op,(eqGuard op t x y (.agg #[.int .i64 p,.int .i64 q]) (.agg #[.int .i64 0,.int .i64 s])).run L.P w=.ok () w:=fun op=>run_eqGuard_agg w op t x y _ _ m.guard
  have e:(p==0&&q==s)=false:=by simp[A]
  rw[e]at c;refine aW (v:=.bool u) ?_ (k _ _ g _ w (Step.refl g rl w) h (VR.kH _) i);cases u<;>simp at c<;>simp[execOp,I,z,E,T,c]
 .exact i.elim
theorem VR.aaf(h:VR L g rl w (.d .mW) c):c=.nilIface:=by
 cases h with|d _ _ h=>cases h;rfl
theorem VR.acw{q:Nat}(h:VR L g rl w (.oH q v) c):∃y,c=.iface (L.tn q) y:=by
 cases h with|oH _ _ y _=>exact⟨y,rfl⟩
theorem AZ(P:Program)(w:World)(t:TypeId){ms:Array (String×TypeId)}(a:P.underlying t=some (.interface ms))(v:Value)(o:v=.nilIface\/∃e y,v=.iface e y):(Op.equal t v .nilIface).run P w=.ok (match v with| .nilIface=>true|_=>false) w:=by
 show(Op.equalIn (9999+1) t _ _).run P w=_;unfold Op.equalIn;rcases o with rfl|⟨e,y,rfl⟩<;>simp only[underlying,Sem.run_bind,run_program,Result.andThen_ok,a,Sem.run_pure]
theorem Wy{r:Bool}{j:TypeId}{ms:Array (String×TypeId)}{c:Arg}(m:o.op=.binOp (if r then .neq else .eql) t x (.const .nilIface) j)(f:L.P.underlying t=some (.interface ms))(z:cQ L x ax)(E:c=.k .mW):jM L n o (.AL r [] ax c):=by
 intro X σ K g a w next Q h i k p;obtain⟨T,I,N,rl⟩:=σ;subst E;have s:=z.val h
 have guard:∀op v,(v=.nilIface\/∃b y,v=.iface b y)->(eqGuard op t x (.const .nilIface) v .nilIface).run L.P w=.ok () w:=by
  intro op v A;rcases A with rfl|⟨b,y,rfl⟩<;>(unfold eqGuard;split<;>simp)
 simp only[cB]at i;split at i
 .rename_i l O;rw[l]at s;have u:a.eval x=.nilIface:=s.aaf;have d:=py L.P w t .nilIface .nilIface r _ si si si si (AZ L.P w t f .nilIface (.inl rfl));refine aW (v:=.bool (!r)) ?_ (k _ _ g _ w (Step.refl g rl w) h (VR.kH _) i);have e:(Operand.const Value.nilIface|>a.eval)=.nilIface:=rfl;cases r<;>simp at d<;>simp[execOp,m,u,e,guard _ _ (.inl rfl),d]
 .rename_i q v l O;rw[l]at s;obtain⟨y,u⟩:∃y,a.eval x=.iface (L.tn q) y:=s.acw;have d:=py L.P w t (.iface (L.tn q) y) .nilIface r _ si si si si (AZ L.P w t f _ (.inr ⟨_,_,rfl⟩));refine aW (v:=.bool r) ?_ (k _ _ g _ w (Step.refl g rl w) h (VR.kH _) i);have e:(Operand.const Value.nilIface|>a.eval)=.nilIface:=rfl;cases r<;>simp at d<;>simp[execOp,m,u,e,guard _ _ (.inr ⟨_,_,rfl⟩),d]
 .exact i.elim
end
variable{a:Act}{m:Nat}{z:List DV}{e:TypeId}
section
variable{L:Lk}{n:Nat}
theorem Yz(t:List (Value×Nat))(off:Nat):∀(e:Array Value),(t.foldl (fun a(c,j)=>a.setIfInBounds (off+j) c) e).size=e.size:=by
 induction t with
 |nil=>intro e;rfl
 |cons x r o=>intro e;simp[o]
theorem D3(t:List Value):∀(s:Nat)(e:Array Value)(off:Nat),off+s+t.length<=e.size->
  ((t.zipIdx s).foldl (fun a(c,j)=>a.setIfInBounds (off+j) c) e).toList=e.toList.take (off+s)++t++e.toList.drop (off+s+t.length):=by
 induction t with
 |nil=>intro s e off h;simp
 |cons v r o=>
  intro s e off h;simp only[List.zipIdx_cons,Gp];rw[o (s+1) _ off (by simp at h⊢;omega)];apply Cq;intro q;simp only[Rr,aZ];simp only[vb,xa,mE,ra,De,bG,Gg,aZ];grind
def Cw(L:Lk)(e:Nat->Option (Nat×Nat)):List (Nat×Operand)->List (Nat×Nat×Arg)->Prop
 |[],[]=>True
 |(i,x)::r,(t,m,ax)::s=>e i=some (t,m)/\0<m/\cQ L x ax/\Cw L e r s
 |_,_=>False
theorem Si{σ:St}(h:dx L n g σ a w)(l:Nat->Option (Nat×Nat)):∀(ps:List (Nat×Operand))(d:List (Nat×Nat×Arg))(cells:Array Value)(cs:List AV)(K:List AV->Prop),
  Cw L l ps d->cells.size=cs.length->(∀(j:Nat)(x:AV)(y:Value),cs[j]?=some x->cells[j]?=some y->VR L g σ.rl w x y)->FK (bL L.gl σ.env) cs d K->
  ∃e u,Instr.fill l cells (ps.map fun(i,x)=>(i,a.eval x))=some e/\K u/\e.size=u.length/\(∀(j:Nat)(x:AV)(y:Value),u[j]?=some x->e[j]?=some y->VR L g σ.rl w x y):=by
 intro ps
 induction ps with
 |nil=>
  intro d cells cs K E A O f;cases d with
  |nil=>exact⟨cells,cs,rfl,f,A,O⟩
  |cons p r=>exact E.elim
 |cons p r D=>
  intro d cells cs K E A O f;obtain⟨i,x⟩:=p;cases d with
  |nil=>exact E.elim
  |cons q s=>
   obtain⟨t,m,ax⟩:=q;obtain⟨I,U,C,E⟩:=E;simp only[FK]at f;obtain⟨T,f,k,M,_⟩:=k9 (C.val h) _ f;obtain⟨N,f⟩:=kQ _ _ _ f;obtain⟨R,f⟩:=FN _ _ _ _ f;have F:(a.eval x).cells.size=m:=by rw[k,N]
   have Y:t+T.length<=cs.length:=by
    grind
   have z:(a.eval x).cells.toList.length=T.length:=by simp[k]
   have S:((a.eval x).cells.zipIdx.foldl (fun cs(c,j)=>cs.setIfInBounds (t+j) c) cells)=(cells.toList.take t++(a.eval x).cells.toList++cells.toList.drop (t+(a.eval x).cells.toList.length)).toArray:=by
    apply nD;have:=D3 (a.eval x).cells.toList 0 cells t (by rw[z];omega);simp only[iU]at this;rw[<-this,<-Rk,Rh]
   have b:(cells.toList.take t++(a.eval x).cells.toList++cells.toList.drop (t+(a.eval x).cells.toList.length)).toArray.size=(cs.take t++T++cs.drop (t+T.length)).length:=by
    simp[k,A]
   obtain⟨e,u,Z,P,V,B⟩:=D s _ _ K E b (fun q G y o v=>by
    rw[tP,z,ga]at v;rw[ga]at o;rw[vb]at o v;simp only[ra]at o v;have J:min t cs.length=t:=by omega
    have Q:min t cells.toList.length=t:=by simp;omega
    rw[J]at o;rw[Q]at v;split at o
    .grind
    .rename_i X;rw[if_neg X]at v;rw[vb]at o v;rw[z]at v;split at o
     .grind
     .rename_i H;rw[if_neg H]at v;rw[mE]at o v;exact O _ G y o (by simpa using v)) f
   refine⟨e,u,?_,P,V,B⟩;simp only[sG,Instr.fill,I];grind
theorem K8{α β:Type}{P:Program}(l:List α)(f:α->Sem β)(g:α->β)(h:∀x,x∈l->(f x).run P w=.ok (g x) w):(l.mapM f).run P w=.ok (l.map g) w:=by
 induction l with
 |nil=>rfl
 |cons x r e=>
  rw[JG];simp only[Sem.run_bind,h x si,Result.andThen_ok,e (fun y t=>h y (by simp[t])),Sem.run_pure,sG]
theorem Mo{α β:Type}{P:Program}(xs:Array α)(f:α->Sem β)(g:α->β)(h:∀x,x∈xs.toList->(f x).run P w=.ok (g x) w):(xs.mapM f).run P w=.ok (xs.map g) w:=by
 rw[Array.mapM_eq_mapM_toList,Sem.run_map,K8 _ _ g h,Result.andThen_ok];congr 1;apply nD;simp
theorem Wz{i:TypeInfo}{b:Value}{ps:Array (Nat×Operand)}{r:List (Nat×Nat×Arg)}{u:Array Field}(H:o.op=.build t ps)(hi:L.P.info? t=some i)(R:i.zero=some b)(l:ZR z b)(D:L.P.underlying t=some (.struct u))(E:∀f,f∈u.toList->∃I,L.P.info? f.type=some I)(U:Cw L (fun i=>(u[i]?).map fun(f:Field)=>(f.offset,L.P.cellsOf f.type)) ps.toList r):jM L n o (.build z r):=by
 intro X σ K g a w next Q h e k N;obtain⟨C,Z,bx,M⟩:=σ;simp only[cB]at e;have e:=HK _ _ e
 obtain⟨s,F,Y,V,B,G⟩:=Si h _ ps.toList r b.cells (z.map Ga) _ U (by simp[l.1]) (fun j x y c S=>by
  rw[jU]at c;cases p:z[j]? with
  |none=>rw[p]at c;cases c
  |some d=>rw[p]at c;cases c;exact Gb ((l.2 j d y p S).1 _ _) (l.2 j d y p S).2) e
 refine aW (v:=.agg s) ?_ (k _ _ g _ w (Step.refl g M w) h (.agg _ _ B G) V)
 have m:=Mo (P:=L.P) (w:=w) u (fun(f:Field)=>do pure (f.offset,<-sizeOf f.type)) (fun(f:Field)=>(f.offset,L.P.cellsOf f.type)) (fun f J=>by
  obtain⟨I,T⟩:=E f J;simp[sizeOf,typeInfo,T,Program.cellsOf])
 have A:(fun(i:Nat)=>(u.map fun(f:Field)=>(f.offset,L.P.cellsOf f.type))[i]?)=fun(i:Nat)=>(u[i]?).map fun(f:Field)=>(f.offset,L.P.cellsOf f.type):=by
  funext q;simp
 have O:(ps.map fun(i,x)=>(i,a.eval x)).toList=ps.toList.map fun(i,x)=>(i,a.eval x):=by simp
 simp only[execOp,H,Instr.build,zeroValue,typeInfo,underlying,Sem.run_bind,run_program,Result.andThen_ok,hi,Sem.run_pure,R,D,m,A,O,Y]
theorem Ub{i p:TypeInfo}{b:Value}{ps:Array (Nat×Operand)}{l:List (Nat×Nat×Arg)}(A:o.op=.build t ps)(hi:L.P.info? t=some i)(O:i.zero=some b)(u:ZR z b)(I:L.P.underlying t=some (.array m e))(N:L.P.info? e=some p)(S:Cw L (fun i=>some (i*p.size,p.size)) ps.toList l):jM L n o (.build z l):=by
 intro X σ K g a w next Q h s k E;obtain⟨H,Y,V,R⟩:=σ;simp only[cB]at s;have s:=HK _ _ s
 obtain⟨r,D,U,C,M,F⟩:=Si h _ ps.toList l b.cells (z.map Ga) _ S (by simp[u.1]) (fun j x y c T=>by
  rw[jU]at c;cases f:z[j]? with
  |none=>rw[f]at c;cases c
  |some d=>rw[f]at c;cases c;exact Gb ((u.2 j d y f T).1 _ _) (u.2 j d y f T).2) s
 refine aW (v:=.agg r) ?_ (k _ _ g _ w (Step.refl g R w) h (.agg _ _ M F) C);have q:(ps.map fun(i,x)=>(i,a.eval x)).toList=ps.toList.map fun(i,x)=>(i,a.eval x):=by simp
 simp only[execOp,A,Instr.build,zeroValue,typeInfo,underlying,sizeOf,Sem.run_bind,run_program,Result.andThen_ok,hi,N,Sem.run_pure,O,I,q,U]
def W4(L:Lk):List (Nat×Operand)->List (Nat×Arg)->Prop
 |[],[]=>True
 |(i,x)::r,(j,ax)::s=>i=j/\cQ L x ax/\W4 L r s
 |_,_=>False
theorem Y7{σ:St}(h:dx L n g σ a w)(es:Nat):∀(ps:List (Nat×Operand))(t:List (Nat×Arg))(i:Nat)(e cells:List Value)(K:bJ->Prop),
  W4 L ps t->e.length=i*es->cells.length=t.length*es->Nu (bL L.gl σ.env) es i t K->
  ∃(xs:bJ)(F:List Value),Instr.fill (fun i=>some (i*es,es)) (e++cells).toArray (ps.map fun(i,x)=>(i,a.eval x))=some (e++F).toArray/\K xs/\xs.length=t.length/\(∀x,x∈xs->x.length=es)/\
   F.length=xs.length*es/\∀p j x y,xs[p]?=some x->x[j]?=some y->∃u,F[p*es+j]?=some u/\DR g.bD w y u:=by
 intro ps
 induction ps with
 |nil=>
  intro t i e cells K v o f l;cases t with
  |nil=>
   have:cells=[]:=mc (by simpa using f);subst this;refine⟨[],[],rfl,l,rfl,?_,?_,?_⟩
   .intro x b;cases b
   .simp
   .intro p j x y b;simp at b
  |cons p r=>exact v.elim
 |cons p r D=>
  intro t i e cells K v o f l;obtain⟨U,x⟩:=p;cases t with
  |nil=>exact v.elim
  |cons q s=>
   obtain⟨Z,ax⟩:=q;obtain⟨rfl,b,v⟩:=v;simp only[Nu]at l;split at l
   .rename_i C;have A:i=U:=dL C;subst A;obtain⟨M,l,k,O,_⟩:=k9 (b.val h) _ l;obtain⟨E,l⟩:=kQ _ _ _ l
    obtain⟨ds,l,I,N⟩:=EB (L:=L) (g:=g) (rl:=σ.rl) (w:=w) M (fun j=>(a.eval x).cells.getD j undef) (fun j y m=>O j y _ m (by
     have R:j<(a.eval x).cells.size:=by rw[k];exact(bV.1 m).1
     simp[R])) _ l
    have d:(a.eval x).cells.size=es:=by rw[k,E]
    have T:cells.length=s.length*es+es:=by rw[f,aZ,xf]
    have S:((a.eval x).cells.zipIdx.foldl (fun Y(c,j)=>Y.setIfInBounds (i*es+j) c) (e++cells).toArray)=((e++(a.eval x).cells.toList)++cells.drop es).toArray:=by
     apply nD;have:=D3 (a.eval x).cells.toList 0 (e++cells).toArray (i*es) (by simp[d,o];omega);simp only[iU]at this;rw[<-Rk,Rh,this];simp[d,<-o]
    obtain⟨xs,F,h1,P,V,h4,B,G⟩:=D s (i+1) (e++(a.eval x).cells.toList) (cells.drop es) _ v (by simp[o,d,xf]) (by simp[T]) l;refine⟨ds::xs,(a.eval x).cells.toList++F,?_,P,by simp[V],fun y m=>?_,by simp[d,B,xf];omega,fun p j y z m H=>?_⟩
    .simp only[sG,Instr.fill];grind
    .grind
    .cases p with
     |zero=>
      simp at m;subst m;have R:j<es:=by have:=(bV.1 H).1;rw[I,E]at this;exact this
      have J:=N j z H;simp only[dJ,dZ (show j<(a.eval x).cells.size by omega),JE]at J;grind
     |succ p=>
      simp only[AA]at m;obtain⟨u,Q,X⟩:=G p j y z m H;refine⟨u,?_,X⟩;rw[pI (by simp[d,xf];omega),show(p+1)*es+j-(a.eval x).cells.toList.length=p*es+j by simp[d,xf];omega];exact Q
   .exact l.elim
theorem Ua{i:TypeInfo}{b:Value}{ps:Array (Nat×Operand)}{d:List (Nat×Arg)}(M:o.op=.buildSlice t m ps)(Y:L.P.underlying t=some (.slice e))(hi:L.P.info? e=some i)(G:i.zero=some b)(_:b.cells.size=i.size)(A:0<i.size)(hm:m*i.size<=16777216)(I:W4 L ps.toList d):jM L n o (.vy i.size z m d):=by
 intro X σ K g a w next Q h l k V;obtain⟨Z,nb,bx,rl⟩:=σ;simp only[cB]at l;obtain⟨E,l⟩:=kQ _ _ _ l;have c:((Array.range (m*i.size)).map (fun q=>b.cells[q%b.cells.size]!)).toList.length=d.length*i.size:=by simp[E]
 obtain⟨xs,F,N,h2,h3,h4,B,h6⟩:=Y7 h i.size ps.toList d 0 [] ((Array.range (m*i.size)).map (fun q=>b.cells[q%b.cells.size]!)).toList _ I si c l;have ee:m<=m*i.size:=Ml m A;have s:=Step.data g rl w (.cells F.toArray e) (m*i.size) h.sh.fresh;have S:=h.sh.data (.cells F.toArray e) (m*i.size);have f:xs.length=m:=by omega
 refine aW (v:=.slice (some ⟨w.heap.size,0,none⟩) m m) (w':=w.alloc (.cells F.toArray e)) ?_ (k _ _ _ _ _ s (h.bj s S) (.aO xs .full _ ?_ (.inr ⟨⟨w.heap.size,0,none⟩,by rw[f]⟩)) h2)
 .have H:(ps.map fun(i,x)=>(i,a.eval x)).toList=ps.toList.map fun(i,x)=>(i,a.eval x):=by simp
  simp only[Cr]at N
  have R:Instr.fill (fun D=>some (D*i.size,i.size)) (Array.map (fun q=>b.cells[q%b.cells.size]!) (Array.range (m*i.size))) (ps.toList.map fun(i,x)=>(i,a.eval x))=some F.toArray:=by
   rw[Array.toArray_toList]at N;exact N
  by_cases U:m*i.size=0
  .have C:m=0:=by omega
   subst C;have:F=[]:=mc (by rw[B,f];simp);subst this
   have T:ps.toList=[]:=by
    cases T:ps.toList with
    |nil=>rfl
    |cons p r=>
     rw[T]at I;cases d with
     |nil=>exact I.elim
     |cons q s=>simp at E
   simp[execOp,M,Instr.buildSlice,underlying,Y,sizeOf,typeInfo,hi,newRow,T,Instr.fill];congr 2;apply nD;simp
  .have O:¬16777216<m*i.size:=by omega
   simp only[execOp,M,Instr.buildSlice,underlying,Sem.run_bind,run_program,Result.andThen_ok,Y,Sem.run_pure,sizeOf,typeInfo,hi,Sem.run_ite,O,if_false,U,zeroValue,G,H,newRow];simp only[R];rfl
 .have:=nN (mk:=(g.data w.heap.size (m*i.size)).bD) (w:=w.alloc (.cells F.toArray e)) (xs:=xs) (aw:=w.heap.size) (off:=0) (cap:=m) (es:=i.size) (F:=F) (by unfold gJ;omega) om h4
   (by simp[Gh.data,f]) B (fun j u hj=>by rw[cell_of_row _ w.heap.size _ F.toArray e (0,0) (heap_alloc_new w _)];simpa using hj)
   (fun p j x y hx hy=>by obtain⟨u,h7,h8⟩:=h6 p j x y hx hy;exact⟨u,h7,h8.bj s.bD s.cell⟩)
  rw[f]at this;exact this
theorem aaU{i:Operand}{j:Arg}(O:o.op=.index t x i)(I:L.P.underlying t=some (.array m e))(d:UL L e 1 false)(N:cQ L x ax)(hi:cQ L i j):jM L n o (.H6 1 m false ax j):=by
 intro X σ K g a w next Q h s k z;obtain⟨S,Y,V,H⟩:=σ;have r:=N.val h;have l:=hi.val h;simp only[cB]at s;split at s
 .rename_i B G q R D;rw[R]at r;rw[D]at l;obtain⟨E,v,U,T,C⟩:=kQ _ _ _ s;have M:=(bV.1 T).1;generalize c:a.eval x=J at r;cases r with
  |agg _ f Z y=>
  have F:q<m:=by omega
  have u:q.toNat<f.size:=by omega
  have A:=TQ (L:=L) d f q.toNat w om;refine aW (v:=f[q.toNat]) ?_ (k _ _ g _ w (Step.refl g H w) h (y _ v _ T (dZ u)) C);obtain⟨⟨ei,p,b⟩,_⟩:=d;simp only[jT,if_false,dJ,dZ u,JE]at A;simp[execOp,O,c,l.fV.1,Instr.index,asIntOf,underlying,I,U,F,sizeOf,typeInfo,p,b,A]
 .exact s.elim
theorem fold_push(ns:List Int):∀(s:ByteArray),ns.foldl (fun r n=>r.push (UInt8.ofNat n.toNat)) s=⟨(s.data.toList++ns.map fun n=>UInt8.ofNat n.toNat).toArray⟩:=by
 induction ns with
 |nil=>intro s;simp
 |cons n r e=>
  intro s;rw[Gp,e];simp[ByteArray.push]
theorem aej{s:TypeId}(R:o.op=.convert s t x)(D:L.P.underlying s=some (.slice e))(U:L.P.underlying t=some .string)(C:L.P.underlying e=some (.int .u8))(z:cQ L x ax):jM L n o (.Mp ax):=by
 intro X σ K g a w next Q h r k M;obtain⟨J,nb,bx,Y⟩:=σ;have A:=z.val h;simp only[cB]at r;obtain⟨l,r,Z⟩:=wv A _ r;obtain⟨i,V⟩:=r;have c:∀x,x∈l->x.length=1:=fun x z=>by obtain⟨m,rfl⟩:=i x z;rfl
 rcases la Z 1 c with⟨rfl,B,O⟩|⟨f,y,I,F,O,hb,G,ee,hF,N,et,S⟩
 .refine aW (v:=.string ⟨#[]⟩) ?_ (k _ _ g _ w (Step.refl g Y w) h (.d _ _ (.str [] si)) V);simp only[execOp,R,O,Sem.run_bind,run_convert_bytes_string w s t e B 0 0 D C U];cases B with
  |none=>simp[Conv.bytesToString];rfl
  |some b=>simp[Conv.bytesToString,loadCells];rfl
 .have H:F=l.map fun x=>Value.int .u8 (match x with|[.int _ m]=>m|_=>0):=by
   apply Cq;intro q;rw[jU];cases T:l[q]? with
   |none=>
    have:l.length<=q:=by rw[List.getElem?_eq_none_iff]at T;exact T
    rw[qY om];rfl
   |some x=>
    obtain⟨m,rfl⟩:=i x (cP.2 ⟨q,T⟩);obtain⟨u,h1,h2⟩:=S q 0 _ _ T rfl;cases h2;simpa using h1
  have p:(loadCells ⟨f,y,none⟩ l.length).run L.P w=.ok ((l.map fun x=>(match x with|[.int _ m]=>m|_=>0:Int)).map (Value.int .u8)).toArray w:=by
   have:=run_loadCells_list (P:=L.P) w ⟨f,y,none⟩ F (fun j v hj=>by rw[Addr.add_lit];exact N j v hj);rw[hF,Nat.mul_one]at this;rw[this,H];simp[Function.comp_def]
  have E:=run_bytesToString (P:=L.P) w ⟨f,y,none⟩ l.length I _ p;refine aW (v:=.string ⟨(l.map km).toArray⟩) ?_ (k _ _ g _ w (Step.refl g Y w) h (.d _ _ (.str _ (by simpa using hb))) V);simp only[execOp,R,O,Sem.run_bind,run_convert_bytes_string w s t e _ _ _ D C U,E,Result.andThen_ok,Sem.run_pure,fold_push];congr 3;simp;intro x z;obtain⟨m,rfl⟩:=i x z;rfl
theorem QV{i:TypeInfo}{l:Value}{y:Operand}{F:Arg}(Z:o.op=.makeSlice t x y)(ht:L.P.underlying t=some (.slice e))(hi:L.P.info? e=some i)(hz:i.zero=some l)(E:ZR z l)(c:cQ L x ax)(N:cQ L y F):jM L n o (.wK i.size i.bytes z ax F):=by
 intro X σ K g a w next Q h u k Y;obtain⟨ee,nb,bx,rl⟩:=σ;have T:=c.val h;have A:=N.val h;simp only[cB]at u;split at u
 .rename_i k1 p k2 q h1 h2;rw[h1]at T;rw[h2]at A;obtain⟨⟨rfl,V,hb,et,O⟩,S⟩:=u;have S:=pU _ _ _ S;obtain⟨ex,_⟩:=T.fV;obtain⟨ey,_⟩:=A.fV;have eo:p*1<=p*i.bytes:=Int.mul_le_mul_of_nonneg_left om V;have B:p<=140737488355328:=by omega
  have H:IntKind.i64.wrap p=p:=IntWalk.i64_in p ⟨by omega,by omega⟩;have ei:¬(p<0\/(281474976710656:Int)<i.bytes*p):=by rw[Int.mul_comm];omega
  have R:l.cells.size=i.size:=by rw[E.1,O]
  have D:∀(q:Nat),(List.replicate p.toNat z)[q]?=if q<p.toNat then some z else none:=fun q=>by rw[List.getElem?_replicate]
  have r:∃d,d=madeCells l.cells (p.toNat*i.size):=⟨_,rfl⟩;obtain⟨d,r⟩:=r
  have m:∀q,q<p.toNat*i.size->d[q]?=some (l.cells[q%l.cells.size]!):=fun q hq=>by
   subst r;simp[madeCells,hq]
  have f:d.size=p.toNat*i.size:=by subst r;simp[madeCells]
  have s:=Step.box g rl w (.cells d e) h.sh.fresh
  have U:=h.sh.Xg (.cells d e) (.row i.size (List.replicate p.toNat z)) ⟨d,e,heap_alloc_new w _,by simp[f],fun x c=>by rw[List.eq_of_mem_replicate c,O],by simp[gJ];omega,fun G j x y v c N J=>by
   rw[D]at c;split at c
   .cases c;have hj:j<i.size:=by have:=(bV.1 N).1;omega
    have I:j<l.cells.size:=by omega
    rename_i ed
    have C:G*i.size+j<p.toNat*i.size:=by
     grind
    rw[m _ C]at J;cases J
    have hm:(G*i.size+j)%l.cells.size=j:=by
     rw[R,Ay,Nat.mul_add_mod,Gk hj]
    rw[hm];have hc:l.cells[j]?=some l.cells[j]:=dZ I;have:l.cells[j]! =l.cells[j]:=by simp[I]
    rw[this];exact(E.2 j y _ N hc).1 _ _
   .cases c⟩
  have b:(g.box w.heap.size).bk[nb]?=some w.heap.size:=by
   have b:nb=bx.length:=h.sh.nb;rw[b,<-h.sh.kt];simp[Gh.box]
  refine aW (v:=.slice (some ⟨w.heap.size,0,none⟩) p.toNat p.toNat) (w':=w.alloc (.cells d e)) ?_ (k _ _ _ _ _ s (h.bj s U) (.rC nb p.toNat w.heap.size b (by unfold gJ;omega)) S);have M:=run_make (P:=L.P) w t e i l ht hi hz k1 k2 p p V (Az _) (by rw[Int.mul_comm];omega) om;subst r;simp[execOp,Z,ex,ey,M]
 .exact u.elim
theorem EE{P:Program}(e:o.op=.call {callee:=.builtin .unsafeSliceData,args:=#[x],argTypes:=#[t]}):
  (execOp a.eval o).run P w=((Builtin.unsafeSliceData_ #[t] o.type #[a.eval x]).run P w).andThen fun v i=> .ok (.value v) i:=by
 unfold execOp;rw[e];simp only[resolve,Sem.run_bind,Sem.run_pure,Result.andThen_ok,invoke,builtin,Gl,sG,AK]
theorem Oq{P:Program}{y:Operand}{u:TypeId}(e:o.op=.call {callee:=.builtin .unsafeString,args:=#[x,y],argTypes:=#[t,u]}):
  (execOp a.eval o).run P w=((Builtin.unsafeString_ #[t,u] o.type #[a.eval x,a.eval y]).run P w).andThen fun v i=> .ok (.value v) i:=by
 unfold execOp;rw[e];simp only[resolve,Sem.run_bind,Sem.run_pure,Result.andThen_ok,invoke,builtin,Gl,sG,AK]
theorem WH(b:o.op=.call {callee:=.builtin .unsafeSliceData,args:=#[x],argTypes:=#[t]})(M:cQ L x ax):jM L n o (.Cb ax):=by
 intro X σ K g a w next Q h i k S;obtain⟨F,G,J,j⟩:=σ;have s:=M.val h;simp only[cB]at i;split at i
 .rename_i p z;rw[z]at s;generalize r:a.eval x=H at s;cases s with
  |aO _ _ _ d l=>
  have E:H=.slice none 0 0:=l;subst E;refine aW (v:=.pointer none) ?_ (k _ _ g _ w (Step.refl g j w) h (.oQ p .nil none 0 0 d l) i);rw[EE b,r];rfl
 .rename_i p T z;rw[z]at s;generalize r:a.eval x=H at s;cases s with
  |aO _ _ _ d l=>
  rw[mK]at i;split at i
  .rename_i q e R;obtain⟨u,i⟩:=i;have c:=l;obtain⟨Z,e',D,_,h2,Y⟩:=l;rw[R]at D;cases D;rcases Y u with⟨A,U⟩|⟨O,I,tt,A,U,P⟩
   .subst A;refine aW (v:=.pointer none) ?_ (k _ _ g _ w (Step.refl g j w) h (.oQ p (.row T) none 0 0 d c) i);rw[EE b,r];rfl
   .subst A
    have m:I≠0:=by
     obtain⟨_,f⟩:=h.sh.row T _ _ R;rcases f with⟨y,_⟩|⟨_,_,_,_,_,_,_,_,_,_,C,_⟩
     .rw[U]at y;cases y
     .rcases lM d with⟨_,a0,N⟩|⟨_,_,_,_,_,N,_,V,_⟩
      .injection N with _ B _;omega
      .cases N;omega
    refine aW (v:=.pointer (some ⟨O,0,none⟩)) ?_ (k _ _ g _ w (Step.refl g j w) h (.oQ p (.row T) _ _ _ d c) i);rw[EE b,r,Lib.run_unsafeSliceData_row w _ _ _ _ _ m];rfl
  .exact i.elim
 .exact i.elim
theorem D4(w:World)(b m:Nat)(arr:Array Value)(t:TypeId)(a:Nat×Nat)(o:m≠0)(i:w.heap[b]?=some (.cells arr t a)):
  ∃e:Nat×Nat,(w.freeze ⟨b,0,none⟩ m).heap[b]?=some (.cells arr t e)/\e.2<=Nat.max a.2 m:=by
 obtain⟨n,s⟩:=a;unfold World.freeze;grind
theorem td(w:World)(b m c:Nat)(h:c≠b):(w.freeze ⟨b,0,none⟩ m).heap[c]?=w.heap[c]?:=by
 unfold World.freeze;grind
theorem Fp(w:World)(b m:Nat):(w.freeze ⟨b,0,none⟩ m).heap.size=w.heap.size:=by
 unfold World.freeze;split
 .rfl
 .simp
theorem zQ(w:World)(b m:Nat):(w.freeze ⟨b,0,none⟩ m).os=w.os/\(w.freeze ⟨b,0,none⟩ m).tape=w.tape/\(w.freeze ⟨b,0,none⟩ m).output=w.output:=by
 unfold World.freeze;split<;>exact⟨rfl,rfl,rfl⟩
theorem PA(w:World)(b m c o:Nat)(arr:Array Value)(t:TypeId)(e:Nat×Nat)(n:m≠0)(i:w.heap[b]?=some (.cells arr t e)):
  (w.freeze ⟨b,0,none⟩ m).cell? ⟨c,o,none⟩=w.cell? ⟨c,o,none⟩:=by
 by_cases h:c=b
 .subst h;obtain⟨s,r,_⟩:=D4 w c m arr t e n i;simp only[World.cell?,r,i]
 .exact World.cell?_of_block (a:=⟨c,o,none⟩) (td w b m c h)
theorem Step.freeze{g:Gh}{rl:bm}{w:World}{b m:Nat}{arr:Array Value}{t:TypeId}{a:Nat×Nat}(s:m≠0)(n:w.heap[b]?=some (.cells arr t a))(r:some b∈g.rw):
  Step g rl w g rl (w.freeze ⟨b,0,none⟩ m) where
 os:=(zQ w b m).1
 tape:=(zQ w b m).2.1
 output:=(zQ w b m).2.2
 size:=by rw[Fp];exact aQ _
 bD b:=aQ _
 cell c o _:=PA w b m c o arr t a s n
 bk i b h:=h
 row _ _ _ h:=.of h (aQ _) fun _=>rfl
 shape c _:=by
  by_cases h:c=b
  .subst h;obtain⟨d,l,_⟩:=D4 w c m arr t a s n;simp only[World.shape?,l,n]
  .simp only[World.shape?,td w b m c h]
 jz b h:=.inl h
 jA b h:=.inl h
 frame c _ _ h:=td w b m c (fun e=>h (e▸r))
 lb _ _ _ _:=rfl
 oi _ _ _ _:=.refl _
theorem aY.freeze{g:Gh}{nb:Nat}{bx:List Bx}{rl:bm}{w:World}(h:aY L g nb bx rl w){b m k q e:Nat}{arr:Array Value}{t:TypeId}{I:Nat×Nat}(y:m≠0)(N:w.heap[b]?=some (.cells arr t I))(u:g.rw[k]?=some (some b))(p:rl[k]?=some (q,e))(S:m<=D5 q e)(H:e<10000):aY L g nb bx rl (w.freeze ⟨b,0,none⟩ m):=by
 have v:some b∈g.rw:=cP.2 ⟨k,u⟩
 have d:g.par b=.out:=by
  rcases(h.row k q e p).2 with⟨o,_⟩|⟨_,_,_,_,o,_,_,_,_,_,_,_,R,_⟩
  .rw[u]at o;cases o
  .rw[u]at o;cases o;exact R.1 om
 have s:=Step.freeze (rl:=rl) y N v;refine⟨h.nb,h.kt,?_,h.inj,h.jv,?_,h.jI,fun c f=>h.fresh c (by rw[Fp]at f;exact f),fun i=>(h.jd i).bj s,h.par.bj s rfl (fun _ _=>rfl) fun c f arr t n=>⟨arr,t,by rw[td w b m c (fun e=>f (e▸d))];exact n⟩⟩
 .intro i x a D l;obtain⟨n,o⟩:=h.box i x a D l;exact⟨n,o.bj s (td w b m a (fun e=>(h.tH v).2 (e▸cP.2 ⟨i,l⟩)))⟩
 .intro j U C r;obtain⟨M,n⟩:=h.row j U C r;refine⟨M,?_⟩;rcases n with n|⟨a,z,E,fr0,T,A,F,Y,P,V,B⟩
  .exact .inl n
  .by_cases O:a=b
   .subst O;have:=h.jI k j a u T;subst this;rw[p]at r;cases r;obtain⟨G,K,J⟩:=D4 w a m z E fr0 y A;grind
   .exact .inr ⟨a,z,E,fr0,T,by rw[td w b m a O];exact A,F,Y,P,V,B⟩
theorem aa5{y:Operand}{ay:Arg}{u:TypeId}(ho:o.op=.call {callee:=.builtin .unsafeString,args:=#[x,y],argTypes:=#[t,u]})(ht:L.P.underlying t=some (.pointer L.u8))(h8:L.P.cellsOf L.u8=1)(hx:cQ L x ax)(hy:cQ L y ay):jM L n o (.Iy ax ay):=by
 intro X σ K g a w next Q h i k ez;obtain⟨ee,nb,bx,rl⟩:=σ;have l:=hx.val h;have T:=hy.val h
 have et:∀(p:Option Addr),a.eval x=.pointer p->a.eval y=.int .i64 0->K (.d (.str [])) ⟨ee,nb,bx,rl⟩->o.wp L.P a w next Q:=fun p e1 e2 hk=>by
  refine aW (v:=.string .empty) ?_ (k _ _ g _ w (Step.refl g rl w) h (.d _ _ (.str [] (cr _))) hk);rw[Oq ho,e1,e2,Lib.run_unsafeString_none];rfl
 simp only[cB]at i;split at i
 .rename_i f m h1 h2;rw[h1]at l;rw[h2]at T;obtain⟨ey,_⟩:=T.fV;generalize S:a.eval x=xv at l;cases l with
  |oQ _ _ p ln H Z z=>
  have hc:Value.slice p ln H=.slice none 0 0:=z
  have R:f=[]:=by
   rcases lM Z with⟨q,_⟩|⟨_,_,_,_,_,q,_⟩
   .exact q
   .rw[hc]at q;cases q
  subst R;obtain⟨hm,i⟩:=i;grind
 .rename_i f kk m h1 h2;rw[h1]at l;rw[h2]at T;obtain⟨ey,_⟩:=T.fV;generalize S:a.eval x=xv at l;cases l with
  |oQ _ _ p ln H Z z=>
  rw[mK]at i;split at i
  rotate_left
  .exact i.elim
  rename_i q e hq;obtain⟨⟨hm,r,he,D⟩,i⟩:=i;subst he;obtain⟨L',e',g1,_,_,g3⟩:=z;rw[hq]at g1;cases g1;rcases g3 r with⟨hv,U⟩|⟨O,e3,tt,hv,U,te⟩
  .cases hv
   have R:f=[]:=by
    rcases lM Z with⟨q,_⟩|⟨_,_,_,_,_,q,_⟩
    .exact q
    .cases q
   grind
  .cases hv;obtain⟨_,C⟩:=h.sh.row kk _ _ hq;rcases C with⟨M,_⟩|⟨e4,eo,ta,fr,q1,q2,q3,q4,q5,q6,e5,q8⟩
   .rw[U]at M;cases M
   .rw[U]at q1;cases q1;have ei:=q8.1 rfl;subst ei;have I:(f.map km).length=q:=by simp[r]
    have ed:f.map km≠[]:=by intro hn;rw[hn]at I;simp at I;omega
    have E:gw 1000=1:=rfl;rw[vB om,E]at q4;rcases la Z 1 (fun x hx=>by obtain⟨b,rfl⟩:=D x hx;rfl)with⟨_,a0,hc⟩|⟨xb,xo,e6,F,el,Y,em,e7,hF,ti,ts,ef⟩
    .injection hc with _ tw _;omega
    .cases el
     have N:∀j b,(f.map km)[j]?=some b->w.cell? ((⟨O,0,none⟩:Addr).add j)=some (.int .u8 b.toNat):=by
      intro j b V;rw[jU]at V;cases A:f[j]? with
      |none=>rw[A]at V;cases V
      |some x=>
       rw[A]at V;obtain⟨c,rfl⟩:=D x (cP.2 ⟨j,A⟩)
       have ep:b=c:=by
        have:km (gX c)=b:=by simpa using V
        rw[<-this];simp[km,gX]
       subst ep;obtain⟨u,hu,eg⟩:=ef j 0 _ _ A rfl;cases eg with
       |int _ _ tb=>
       rw[Addr.add_lit];grind
     have B:=Lib.run_unsafeString_row w t u o.type L.u8 ht h8 O eo.size (by simp[World.shape?,q2]) (f.map km) ed (by rw[I];omega) (by
      rw[I,<-r];unfold gJ at Y;omega) N
     have G:(f.map km).length≠0:=by rw[I];omega
     have ej:(execOp a.eval o).run L.P w=.ok (.value (.string ⟨(f.map km).toArray⟩)) (w.freeze ⟨O,0,none⟩ (f.map km).length):=by
      rw[Oq ho,S,ey,hm,show((f.length:Nat):Int)=((f.map km).length:Nat) by simp,B];rfl
     have s:=Step.freeze (rl:=rl) G q2 (cP.2 ⟨kk,U⟩);have J:=h.sh.freeze G q2 U hq (by rw[I,vB om,E];omega) om;refine aW ej (k _ _ g _ _ s (h.bj s J) (.d _ _ (.str _ ?_)) i);rw[I,<-r];exact Y
 .exact i.elim
end
def a7{α:Type}(F:(α->Prop)->Prop):Prop:=∀K,F K->∃v,K v/\∀e:α->Prop,e v->F e
theorem a7.pure{α:Type}(v:α):a7 fun K:α->Prop=>K v:=fun _ h=>⟨v,h,fun _ h=>h⟩
theorem a7.bind{α β:Type}{F:(α->Prop)->Prop}{G:α->(β->Prop)->Prop}(e:a7 F)(t:∀x,a7 (G x)):a7 fun K=>F fun x=>G x K:=fun K h=>by
 obtain⟨x,a,o⟩:=e _ h;obtain⟨v,i,n⟩:=t x K a;exact⟨v,i,fun s r=>o _ (n s r)⟩
theorem a7.no{α:Type}:a7 fun _:α->Prop=>False:=fun _ h=>h.elim
theorem a7.kR{α:Type}{p:Prop}{G:(α->Prop)->Prop}(e:a7 G):a7 fun K=>bI p (G K):=fun K h=>by
 obtain⟨v,t,a⟩:=e K h.2;exact⟨v,t,fun o i=>⟨h.1,a o i⟩⟩
theorem a7.ov{α:Type}{t:Bool}{A B:(α->Prop)->Prop}(e:a7 A)(a:a7 B):a7 fun K=>ov t (A K) (B K):=fun K h=>by
 cases t with
 |true=>exact e K h
 |false=>exact a K h
theorem a7.idx{α β:Type}{xs:List α}{i:Int}{G:α->(β->Prop)->Prop}(e:∀x,a7 (G x)):a7 fun K=>cf xs i fun x=>G x K:=fun K⟨x,t,a,o⟩=>by
 obtain⟨v,n,s⟩:=e x K o;exact⟨v,n,fun h r=>⟨x,t,a,s h r⟩⟩
theorem ku(v:AV):a7 (force v):=fun K h=>⟨v,by rw[force_eq]at h;exact h,fun e h=>by rw[force_eq];exact h⟩
theorem oW{α β:Type}(xs:List α)(n:Nat){G:(β->Prop)->Prop}(o:a7 G):a7 fun K=>rq xs n (G K):=fun K h=>by
 obtain⟨v,i,s⟩:=o K (kQ _ _ _ h).2;refine⟨v,i,fun d l=>?_⟩
 have t:∀(xs:List α)(n:Nat)(A B:Prop),rq xs n A->B->rq xs n B:=by
  intro xs
  induction xs with
  |nil=>intro n A B e a;cases n with
   |zero=>exact a
   |succ n=>exact e.elim
  |cons x r u=>intro n A B e a;cases n with
   |zero=>exact e.elim
   |succ n=>exact u n A B e a
 exact t _ _ _ _ h (s d l)
theorem zI{α:Type}(xs:List α):∀(j n:Nat),a7 (oM xs j n):=by
 induction xs with
 |nil=>intro j n K h;cases n with
  |zero=>exact⟨[],h,fun _ h=>h⟩
  |succ n=>exact h.elim
 |cons x r e=>intro j n;cases j with
  |succ j=>exact e j n
  |zero=>cases n with
   |zero=>exact a7.pure []
   |succ n=>exact(e 0 n).bind fun l=>a7.pure (x::l)
theorem CG{α:Type}(n:Nat):∀(xs:List α),a7 (uN xs n):=by
 induction n with
 |zero=>intro xs K h;exact⟨xs,by simpa[uN]using h,fun t h=>by simpa[uN]using h⟩
 |succ n e=>intro xs;cases xs with
  |nil=>exact a7.no
  |cons x r=>exact e r
theorem Nr(xs:List DV):a7 (HJ xs):=by
 induction xs with
 |nil=>exact a7.pure []
 |cons x r e=>exact(ku (Ga x)).bind fun v=>e.bind fun l=>a7.pure (v::l)
theorem U5(xs:List DV):a7 (xL xs):=by
 induction xs with
 |nil=>exact a7.pure []
 |cons x r e=>exact e.bind fun l=>a7.pure (.d x::l)
theorem Sb{α:Type}(xs:List α):∀(j:Nat)(e:List α),a7 (xJ xs j e):=by
 induction xs with
 |nil=>intro j e;cases e with
  |nil=>intro K h;exact⟨[],by simpa[xJ]using h,fun a h=>by simpa[xJ]using h⟩
  |cons v e=>exact a7.no
 |cons x r t=>intro j e;cases e with
  |nil=>intro K h;exact⟨x::r,by simpa[xJ]using h,fun a h=>by simpa[xJ]using h⟩
  |cons v e=>cases j with
   |succ j=>exact(t j (v::e)).bind fun l=>a7.pure (x::l)
   |zero=>exact(t 0 e).bind fun l=>a7.pure (v::l)
theorem Nq{β:Type}(cs:List AV){G:(β->Prop)->Prop}(e:a7 G):a7 fun K=>Hs cs (G K):=by
 induction cs with
 |nil=>exact e
 |cons v r t=>cases v<;>first|exact t|exact a7.no
theorem ml(v:AV):a7 (cellsOf v):=by
 cases v with
 |agg e=>exact Nq e (a7.pure e)
 |_=>exact Nq _ (a7.pure _)
theorem YW(v:AV):a7 (Lx v):=by
 cases v with
 |d v=>exact a7.pure v
 |aO e t=>exact a7.pure (DV.sl e)
 |_=>exact a7.no
theorem J9(e:List AV):a7 (C4 e):=by
 induction e with
 |nil=>exact a7.pure []
 |cons x r t=>exact(YW x).bind fun v=>t.bind fun l=>a7.pure (v::l)
theorem D0(v:AV):a7 (zK v):=by
 cases v with
 |d v=>cases v with
  |sl e=>exact a7.pure e
  |_=>exact a7.no
 |aO e t=>exact a7.pure e
 |_=>exact a7.no
theorem U2(a:Arg->AV)(ps:List (Nat×Nat×Arg)):∀e,a7 (FK a e ps):=by
 induction ps with
 |nil=>intro e;exact a7.pure e
 |cons p r i=>
  intro e;obtain⟨t,m,x⟩:=p;exact(ml (a x)).bind fun o=>oW o m ((Sb e t o).bind fun e=>i e)
theorem abQ(e:Arg->AV)(es:Nat)(ps:List (Nat×Arg)):∀i,a7 (Nu e es i ps):=by
 induction ps with
 |nil=>intro i;exact a7.pure []
 |cons p r a=>
  intro i;obtain⟨j,x⟩:=p;simp only[Nu];split
  .exact(ml (e x)).bind fun t=>oW t es ((J9 t).bind fun ds=>(a (i+1)).bind fun l=>a7.pure (ds::l))
  .exact a7.no
theorem zH(t:Arg->AV)(x:Option Arg)(e:Int):a7 (vx t x e):=by
 cases x with
 |none=>exact a7.pure e
 |some a=>
  show a7 fun K=>vx t (some a) e K
  simp only[vx];split
  .exact a7.pure _
  .exact a7.no
theorem sX(e:Nat->List DV)(env:Env)(xs:List Arg):a7 (qM e env xs):=by
 induction xs with
 |nil=>exact a7.pure []
 |cons x r t=>exact(ku _).bind fun v=>t.bind fun l=>a7.pure (v::l)
theorem wo{α:Type}(xs ys:List α):a7 (Br xs ys):=by
 induction xs with
 |nil=>exact a7.pure ys
 |cons x r e=>exact e.bind fun l=>a7.pure (x::l)
theorem wq(e:Bool)(cs:List AV):a7 (iO e cs):=by
 cases e with
 |true=>exact a7.pure _
 |false=>
  show a7 fun K=>iO false cs K
  simp only[iO];split
  .exact ku _
  .exact a7.no
theorem YU{β:Type}(a b:IntKind){G:(β->Prop)->Prop}(e:a7 G):a7 fun K=>Hk a b (G K):=by
 cases a<;>cases b<;>first|exact e|exact a7.no
theorem U1(k:IntKind)(op:Gt)(a b:Int):a7 (l8 k op a b):=by
 cases op<;>first|exact a7.pure _|exact a7.kR (a7.pure _)|exact a7.no
theorem U4(op:Gt)(a b:List UInt8):a7 (LS op a b):=by
 cases op<;>first|exact a7.pure _|exact a7.kR (a7.pure _)|exact a7.no
theorem Sc{β:Type}(c:Arg)(t:Bool)(env:Env){A B:Env->(β->Prop)->Prop}(a:∀e,a7 (A e))(o:∀e,a7 (B e)):a7 fun K=>ud c t env (fun e=>A e K) (fun e=>B e K):=by
 cases c<;>exact a7.ov (a _) (o _)
section
variable(gl:Nat->List DV)(CK:Nat->List AV->Nat->List Bx->bm->(AV->Nat->List Bx->bm->Prop)->Prop)
theorem U3(o:qp)(g:oj o=true)(env:Env)(nb:Nat)(bx:List Bx)(rl:bm):a7 fun K:AV->Prop=>cB gl CK o ⟨env,nb,bx,rl⟩ fun v _=>K v:=by
 cases o<;>first|(simp[oj]at g;done)|skip
 all_goals simp only[cB]
 case lR x=>exact ku _
 case pick c a b=>
  split
  .exact Sc _ _ _ (fun e=>ku _) (fun e=>ku _)
  .exact a7.no
 case build z r=>exact(Nr z).bind fun s=>(U2 _ r s).bind fun s=>a7.pure (AV.agg s)
 case vy es z n r=>exact oW r n ((abQ _ es r 0).bind fun w=>a7.pure _)
 case vI x=>split<;>first|exact a7.pure _|exact a7.no
 case eO k j x y=>split<;>first|exact YU _ _ ((U1 _ _ _ _).bind fun v=>a7.pure _)|exact a7.no
 case oL j x y=>split<;>first|exact((U4 _ _ _).bind fun v=>a7.pure _)|exact a7.no
 case ri q x y=>split<;>first|(split<;>exact a7.pure _)|exact a7.no
 case AM q x y=>split<;>first|exact a7.pure _|exact a7.no
 case not x=>split<;>first|(split<;>first|exact a7.ov (a7.pure _) (a7.pure _)|exact a7.pure _)|exact a7.no
 case neg x=>split<;>first|exact a7.pure _|exact a7.no
 case conv k x=>split<;>first|exact a7.pure _|exact a7.no
 case Mp x=>exact(D0 _).bind fun w=>a7.kR (a7.pure _)
 case same x=>split<;>first|exact a7.pure _|exact a7.no
 case uw f s=>exact(sX gl env s).bind fun T=>a7.pure _
 case gR x d p=>split<;>first|exact(zH _ _ _).bind fun l=>(zH _ _ _).bind fun h=>a7.kR (a7.pure _)|exact a7.no
 case BA es x d p=>exact(D0 _).bind fun w=>(zH _ _ _).bind fun l=>(zH _ _ _).bind fun h=>a7.kR (a7.pure _)
 case Fg es n x d p=>split<;>first|exact a7.kR (a7.pure _)|exact a7.no
 case mT u x=>split<;>first|exact a7.pure _|exact(CG _ _).bind fun s=>a7.pure _|exact a7.no
 case U' u m E x=>split<;>first|exact(zI _ _ _).bind fun s=>wq _ _|exact a7.no
 case qI es x i=>split<;>first|exact a7.idx fun c=>a7.kR (a7.pure _)|exact a7.kR (a7.pure _)|exact a7.no
 case xC es n x i=>split<;>first|exact a7.kR (a7.idx fun c=>a7.pure _)|exact a7.no
 case Fz x i=>split<;>first|exact a7.idx fun c=>a7.pure _|exact a7.no
 case H6 es n E x i=>
  split
  .split
   .split
    .exact oW _ _ (a7.idx fun c=>a7.pure _)
    .exact a7.no
   .exact a7.no
  .exact a7.no
 case ext x i=>
  split
  .split
   .exact ku _
   .exact a7.no
  .exact a7.no
 case Ib t x=>exact(ku _).bind fun v=>a7.pure _
 case pZ es z x=>exact(ml _).bind fun s=>oW _ _ (a7.pure _)
 case H0 es d x=>split<;>first|exact a7.kR (a7.pure _)|exact a7.no
theorem QE(o:qp)(e:oj o=true)(env:Env)(nb:Nat)(bx:List Bx)(rl:bm)(K:AV->St->Prop):
  cB gl CK o ⟨env,nb,bx,rl⟩ K=cB gl CK o ⟨env,0,[],[]⟩ fun v σ=>K v ⟨σ.env,nb,bx,rl⟩:=by
 cases o<;>first|(simp[oj]at e;done)|rfl
end
variable{nb:Nat}{bx:List Bx}{n i b:Nat}
structure S3 where
 nb:Nat
 bx:List Bx
 rl:bm
def xH(d:Option Nat)(v x:AV)(s:Nat):AV:=
 match d with
 |some d=>if d=s then v else x
 |none=>x
section
variable(gl:Nat->List DV)(CQ:Nat->List AV->(AV->Prop)->Prop)(CK:Nat->List AV->Nat->List Bx->bm->(AV->Nat->List Bx->bm->Prop)->Prop)
inductive RM(ms:List Nat)(inc:bm)(i0 N:Nat)(hs:List (Nat×List Bx))(k:Nat)(o:qp)(C:Nat->S3)(v:AV)(e:Env):Prop where
 |quiet (h0:dU ms k=false) (h1:C (k+1)=C k) (h2:oj o=true) (h:cB gl CK o ⟨e,0,[],[]⟩ fun v' _=>v'=v)
 |gA (h0:dU ms k=false) (h1:C (k+1)=C k) (n:Nat) (ag:Bool) (x:Arg) (cs:List DV) (h2:o=.load n ag x) (h3:bL gl e x=.gA cs)
   (h4:oM cs 0 n fun cs=>xL cs fun cs=>iO ag cs fun v'=>v'=v)
 |xD (h0:dU ms k=false) (h1:C (k+1)=C k) (x:Arg) (h2:o=.xD x) (s:List UInt8) (h3:bL gl e x=.d (.str s)) (h4:v=.d (.int .i64 s.length))
 |pj (h0:dU ms k=false) (h1:C (k+1)=C k) (x:Arg) (h2:o=.pj x) (xs:bJ) (h3:bL gl e x=.d (.sl xs)\/∃t,bL gl e x=.aO xs t) (h4:v=.d (.int .i64 xs.length))
 |X3 (h0:dU ms k=false) (h1:C (k+1)=C k) (x:Arg) (h2:o=.pj x) (es p:Nat) (xs:bJ) (ds zs:List DV) (kr:Nat) (h3:bL gl e x=.kh es p xs ds zs kr) (h4:v=.d (.int .i64 (xs.length+1)))
 |call (h0:dU ms k=false) (h1:C (k+1)=C k) (f:Nat) (xs:List Arg) (h2:o=.call f xs) (h:qM gl e xs fun as=>CQ f as fun v'=>v'=v)
 |oB (h0:dU ms k=false) (h1:C (k+1)=C k) (x:Arg) (xs:List Arg) (f:Nat) (kj:List AV) (h2:o=.oB x xs) (h3:bL gl e x=.fn f kj)
   (h:qM gl e xs fun as=>Br as kj fun as=>CQ f as fun v'=>v'=v)
 |read (h0:dU ms k=false) (h1:C (k+1)=C k) (n:Nat) (ag:Bool) (x:Arg) (b j:Nat) (cs:List AV) (h2:o=.load n ag x) (h3:bL gl e x=.ptr b j)
   (h4:iW (C k).bx b j n cs) (h5:iO ag cs fun v'=>v'=v) (h6:∀p,p∈hs->sL inc k p.1=true->iW p.2 b j n cs)
   (h7:∀m,i0<=m->m<k->dU ms m=true->sL inc k m=true->iW (C m).bx b j n cs)
   (h8:∀m,k<m->m<N->dU ms m=true->sL inc k m=true->iW (C (m+1)).bx b j n cs)
 |turn (h0:dU ms k=true) (h:cB gl CK o ⟨e,(C k).nb,(C k).bx,(C k).rl⟩ fun v' σ=>v'=v/\S3.mk σ.nb σ.bx σ.rl=C (k+1))
structure Fact(ms:List Nat)(inc:bm)(i0 N:Nat)(hs:List (Nat×List Bx))(k:Nat)(ai:AI)(E:Nat->Nat->AV)(C:Nat->S3)(V:Nat->AV):Prop where
 next:∀s,E (k+1) s=xH ai.d (V k) (E k s) s
 run:(∃s w,ai.g=some (s,w)/\(E k s=.d (.bool (!w))\/E k s=x7)/\V k=x7/\C (k+1)=C k)\/
  ((ai.g=none\/∃s w,ai.g=some (s,w)/\E k s=.d (.bool w))/\∃e,(∀s,look e s=.bM\/(Arg.t s∈ik ai.o/\look e s=E k s))/\RM gl CQ CK ms inc i0 N hs k ai.o C (V k) e)
theorem DW(env:Env)(xs:List Arg)(K:Env->Prop)(h:rM env xs K):∃e,K e/\∀s,look e s=.bM\/(Arg.t s∈xs/\look e s=look env s):=by
 induction xs generalizing K with
 |nil=>exact⟨[],h,fun s=> .inl rfl⟩
 |cons x r a=>
  cases x with
  |t i=>
   simp only[rM,force_eq]at h;obtain⟨e,o,n⟩:=a _ h;refine⟨_,o,fun s=>?_⟩;rw[aE];grind
  |_=>
   obtain⟨e,o,n⟩:=a _ h;grind
theorem Ah(env:Env)(s:Nat)(t:Bool)(h:look env s=.d (.bool t)):look ((s,.d (.bool t))::env)=look env:=by
 funext x;rw[aE];grind
theorem Vc{g:Option (Nat×Bool)}{env:Env}{A B:Env->Prop}(h:Ji g env A B):
  (∃e s w,g=some (s,w)/\(look env s=.d (.bool (!w))\/look env s=x7)/\look e=look env/\B e)\/((g=none\/∃s w,g=some (s,w)/\look env s=.d (.bool w))/\∃e,look e=look env/\A e):=by
 unfold Ji at h;split at h
 .exact .inr ⟨.inl rfl,env,rfl,h⟩
 .rename_i s w;split at h
  .rename_i t a;cases w<;>cases t<;>simp only[ov]at h
   .exact .inr ⟨.inr ⟨s,false,rfl,a⟩,_,Ah env s _ a,h⟩
   .exact .inl ⟨_,s,false,rfl,.inl a,Ah env s _ a,h⟩
   .exact .inl ⟨_,s,true,rfl,.inl a,Ah env s _ a,h⟩
   .exact .inr ⟨.inr ⟨s,true,rfl,a⟩,_,Ah env s _ a,h⟩
  .rename_i o a;split at h
   .exact .inl ⟨env,s,w,rfl,.inr a,rfl,h⟩
   .exact h.elim
  .exact h.elim
theorem R2{e:bm}{t:List Rd}{K:Prop}(h:J3 e m bx t K):K/\∀r,r∈t->sL e r.i m=true->iW bx r.b r.j r.n r.cs:=by
 induction t with
 |nil=>exact⟨h,fun r a=>by cases a⟩
 |cons r t o=>
  obtain⟨i,b,j,n,cs⟩:=r;simp only[J3]at h;split at h
  .obtain⟨s,d⟩:=h;grind
  grind
theorem abL{e:bm}{j:Nat}{cs:List AV}{t:List (Nat×List Bx)}{K:Prop}(h:R0 e i b j n cs t K):K/\∀p,p∈t->sL e i p.1=true->iW p.2 b j n cs:=by
 induction t with
 |nil=>exact⟨h,fun r a=>by cases a⟩
 |cons r o s=>
  obtain⟨m,bx⟩:=r;simp only[R0]at h;split at h
  .obtain⟨d,l⟩:=h;grind
  grind
theorem Jo{d:Option Nat}{env:Env}{K:Env->Prop}(h:uU d v env K):∃e,K e/\∀s,look e s=xH d v (look env s) s:=by
 cases d with
 |none=>exact⟨env,h,fun s=>rfl⟩
 |some d=>exact⟨_,h,fun s=>aE d v env s⟩
end
section
variable{L:Lk}
theorem J8{env:Env}(f:Nat)(as:List AV):a7 fun K:AV×St->Prop=>bA L f as nb bx rl fun v nb bx rl=>K (v,⟨env,nb,bx,rl⟩):=
 fun _⟨v,e,t,a,h,i⟩=>⟨_,i,fun _ o=>⟨v,e,t,a,h,o⟩⟩
theorem oX{α:Type}{xs:List α}{v:α}:a7 (pz xs i v):=by
 induction xs generalizing i with
 |nil=>exact a7.no
 |cons x r e=>cases i with
  |zero=>exact a7.pure _
  |succ i=>exact(e (i:=i)).bind fun l=>a7.pure (x::l)
theorem rm{α:Type}{xs:List α}{v:α}:a7 (tK xs v):=by
 induction xs with
 |nil=>exact a7.pure _
 |cons x r e=>exact e.bind fun l=>a7.pure (x::l)
theorem H2(es bytes key:Nat)(v:AV)(ys:bJ)(rl:bm):a7 fun K:AV×bm->Prop=>vw es bytes key v ys rl fun v rl=>K (v,rl):=by
 unfold vw;split
 .refine a7.kR ?_;split
  .exact rm.bind fun rl=>a7.pure _
  .split
   .exact a7.kR (rm.bind fun rl=>a7.pure _)
   .exact a7.pure _
  .split
   .exact a7.kR (oX.bind fun rl=>a7.pure _)
   .exact a7.no
  .exact a7.no
  .exact a7.no
  .exact a7.no
 .exact a7.no
theorem a7.JX{α β γ:Type}{F:(α->β->Prop)->Prop}{G:α->β->(γ->Prop)->Prop}(t:a7 fun K:α×β->Prop=>F fun a b=>K (a,b))(o:∀a b,a7 (G a b)):a7 fun K=>F fun a b=>G a b K:=fun K h=>by
 obtain⟨x,i,n⟩:=t (fun x=>G x.1 x.2 K) h;obtain⟨v,s,r⟩:=o x.1 x.2 K i;exact⟨v,s,fun e d=>n (fun x=>G x.1 x.2 e) (r e d)⟩
theorem a7.Pg{α β δ γ:Type}{F:(α->β->δ->Prop)->Prop}{G:α->β->δ->(γ->Prop)->Prop}(t:a7 fun K:α×β×δ->Prop=>F fun a b c=>K (a,b,c))(o:∀a b c,a7 (G a b c)):a7 fun K=>F fun a b c=>G a b c K:=fun K h=>by
 obtain⟨x,i,n⟩:=t (fun x=>G x.1 x.2.1 x.2.2 K) h;obtain⟨v,s,r⟩:=o x.1 x.2.1 x.2.2 K i;exact⟨v,s,fun e d=>n (fun x=>G x.1 x.2.1 x.2.2 e) (r e d)⟩
theorem CH{β:Type}(md:Nat){G:Bool->(β->Prop)->Prop}(e:∀b,a7 (G b)):a7 fun K=>Aj md fun b=>G b K:=by
 unfold Aj;split
 .exact e _
 .exact e _
 .exact a7.no
theorem GR(fl:Bool)(v:AV)(rl:bm):a7 fun K:DV×bm->Prop=>qB fl v rl fun d rl=>K (d,rl):=by
 cases v with
 |kh es p e ds zs k=>
  simp only[qB];split
  .refine CH _ fun b=>?_
   cases b with
   |true=>exact a7.kR ((wo ds zs).bind fun y=>oX.bind fun rl=>a7.pure _)
   |false=>cases fl with
    |true=>exact a7.no
    |false=>exact a7.kR ((wo ds zs).bind fun y=>oX.bind fun rl=>a7.pure _)
  .exact a7.no
 |aO e t=>
  cases fl with
  |false=>exact a7.pure _
  |true=>
   cases t with
   |nil=>exact a7.pure _
   |fe j=>
    simp only[qB];split
    .split
     .exact a7.kR (oX.bind fun rl=>a7.pure _)
     .exact a7.no
    .exact a7.no
   |sub j C=>
    simp only[qB];split
    .split
     .exact a7.kR (oX.bind fun rl=>a7.pure _)
     .exact a7.no
    .exact a7.no
   |full=>exact a7.no
   |row j=>exact a7.no
   |uu j C o=>exact a7.no
 |d x=>
  cases fl with
  |false=>exact a7.pure _
  |true=>cases x<;>first|exact a7.pure _|exact a7.no
 |_=>cases fl<;>exact a7.no
theorem YV(v u:AV)(rl:bm):a7 fun K:DV×DV×bm->Prop=>Yd v u rl fun d o rl=>K (d,o,rl):=by
 have e:∀(x:AV){β:Type}{G:bJ->Nat->Nat->(β->Prop)->Prop},(∀a b c,a7 (G a b c))->a7 fun K=>Jl x fun a b c=>G a b c K:=by
  intro x β G i;cases x with
  |aO n t=>cases t<;>first|exact i _ _ _|exact a7.no
  |_=>exact a7.no
 refine e v fun n k C=>e u fun s _ _=>?_
 split
 .split
  .exact a7.kR (oX.bind fun rl=>a7.pure _)
  .exact a7.no
 .exact a7.no
theorem CI(fl:Bool):∀(n:Nat)(cs:List AV),cs.length=n->∀rl:bm,a7 fun K:List DV×bm->Prop=>sa fl cs rl fun d rl=>K (d,rl):=by
 intro n
 induction n using Nat.strongRecOn with
 |ind n e=>
  intro cs t rl
  match cs with
  |[]=>exact a7.pure _
  |[v]=>exact(GR fl v rl).bind fun p=>a7.pure ([p.1],p.2)
  |v::u::r=>
   cases fl with
   |false=>exact(GR false v rl).bind fun p=>(e (u::r).length (by simp at t⊢;omega) (u::r) rfl p.2).bind fun q=>a7.pure (p.1::q.1,q.2)
   |true=>
    simp only[sa];split
    .exact(YV v u rl).bind fun p=>(e r.length (by simp at t;omega) r rfl p.2.2).bind fun q=>a7.pure (p.1::p.2.1::q.1,q.2)
    .exact(GR true v rl).bind fun p=>(e (u::r).length (by simp at t⊢;omega) (u::r) rfl p.2).bind fun q=>a7.pure (p.1::q.1,q.2)
theorem YX{α:Type}(n:Nat):∀(xs:List α),a7 (LV xs n):=by
 induction n with
 |zero=>intro xs;cases xs<;>exact a7.pure []
 |succ n e=>intro xs;cases xs with
  |nil=>exact a7.no
  |cons x r=>exact(e r).bind fun l=>a7.pure (x::l)
theorem CJ(p:Option Nat)(es:Nat)(z:List DV)(fl:Bool)(xs:bJ)(cs:List AV)(rl:bm):a7 fun K:(Nat->AV)×Nat×bm->Prop=>xI p es z fl xs cs rl fun f c rl=>K (f,c,rl):=by
 unfold xI;refine oW _ _ ?_;cases p with
 |none=>exact a7.JX (F:=sa fl cs rl) (CI fl _ cs rfl rl) fun ds rl=>a7.pure ((fun k=>AV.aO (xs++[ds]) (.fe k)),_,rl)
 |some q=>
  refine(YX q cs).bind fun e=>(CG q cs).bind fun c2=>(CG q z).bind fun zs=>?_
  split
  .exact a7.no
  .exact a7.kR (a7.JX (F:=sa fl e rl) (CI fl _ e rfl rl) fun ds rl=>a7.pure ((fun k=>AV.kh es q xs ds _ k),_,rl))
theorem Sa(md:Nat)(p:Option Nat)(es bytes:Nat)(z:List DV)(v:AV)(cs:List AV)(rl:bm):a7 fun K:AV×bm->Prop=>vv md p es bytes z v cs rl fun v rl=>K (v,rl):=by
 unfold vv;refine CH _ fun e=>?_
 split
 .exact a7.kR (a7.Pg (F:=xI p es z e [] cs rl) (CJ p es z e [] cs rl) fun f c rl=>rm.bind fun rl=>(ku _).bind fun v=>a7.pure (v,rl))
 .exact a7.kR (a7.Pg (F:=xI p es z e [] cs rl) (CJ p es z e [] cs rl) fun f c rl=>rm.bind fun rl=>(ku _).bind fun v=>a7.pure (v,rl))
 .refine a7.kR (a7.Pg (F:=xI p es z e _ cs rl) (CJ p es z e _ cs rl) fun f c rl=>?_);split
  .exact a7.kR (oX.bind fun rl=>(ku _).bind fun v=>a7.pure (v,rl))
  .exact a7.no
 .refine(wo _ _).bind fun y=>a7.kR (a7.Pg (F:=xI p es z e _ cs rl) (CJ p es z e _ cs rl) fun f c rl=>?_)
  split
  .exact a7.kR (oX.bind fun rl=>(ku _).bind fun v=>a7.pure (v,rl))
  .exact a7.no
 .exact a7.no
theorem YZ(k m:Nat)(e:List DV)(C:Nat)(cs:List AV):∀{β:Type}{G:List AV->Nat->(β->Prop)->Prop}{N:(β->Prop)->Prop},(∀l c,a7 (G l c))->a7 N->a7 fun K=>F5 k m e C cs (fun l c=>G l c K) (N K):=by
 induction cs with
 |nil=>exact fun _ hN=>hN
 |cons v r a=>
  intro β G N t hN;have go:∀x,a7 fun K=>F5 k m e C r (fun l c=>G (x::l) c K) (N K):=fun x=>a (G:=fun l c=>G (x::l) c) (fun l c=>t _ _) hN
  cases v with
  |kh es p o ds zs i=>
   simp only[F5];split
   .refine a7.kR ((wo _ _).bind fun ds=>(CG _ _).bind fun zs=>?_);split
    .exact t _ _
    .exact t _ _
   .exact go _
  |_=>exact go _
theorem YY(k m:Nat)(e:List DV)(C:Nat)(bx:List Bx):∀{β:Type}{G:List Bx->Nat->(β->Prop)->Prop},(∀l c,a7 (G l c))->a7 fun K=>F4 k m e C bx fun l c=>G l c K:=by
 induction bx with
 |nil=>exact fun _=>a7.no
 |cons b r a=>
  intro β G t;have go:∀x,a7 fun K=>F4 k m e C r fun l c=>G (x::l) c K:=fun x=>a (G:=fun l c=>G (x::l) c) fun l c=>t _ _
  cases b with
  |var i o=>exact YZ k m e C o (fun l c=>t _ _) (go _)
  |_=>exact go _
def Ho:qp->Bool
 | .call .. | .oB .. | .store .. | .app .. | .HX .. | .pY .. | .Bt .. | .alloc .. | .box _| .wK .. | .Cb _| .Iy .. =>true
 |_=>false
theorem abR(o:qp)(d:Ho o=true)(env:Env)(nb:Nat)(bx:List Bx)(rl:bm):a7 fun K:AV×St->Prop=>cB L.gl (bA L) o ⟨env,nb,bx,rl⟩ fun v σ=>K (v,σ):=by
 cases o<;>first|(simp[Ho]at d;done)|skip
 all_goals simp only[cB]
 case call f n=>exact(sX _ env n).bind fun as=>J8 f as
 case oB x n=>
  split
  .exact(sX _ env n).bind fun as=>(wo _ _).bind fun as=>J8 _ as
  .exact a7.no
 case alloc u z=>exact(Nr z).bind fun e=>rm.bind fun bx=>a7.pure _
 case box x=>exact(ml _).bind fun e=>rm.bind fun bx=>a7.pure _
 case wK es bytes z a b=>split<;>first|exact a7.kR (rm.bind fun bx=>a7.pure _)|exact a7.no
 case store m x v=>
  split
  .split
   .exact(ml _).bind fun i=>oW _ _ ((Sb _ _ _).bind fun e=>oX.bind fun bx=>a7.pure _)
   .exact a7.no
  .split
   .exact(ml _).bind fun i=>oW _ _ ((J9 _).bind fun ds=>a7.kR (oX.bind fun bx=>a7.pure _))
   .exact a7.no
  .split
   .refine CH _ fun t=>(ml _).bind fun i=>oW _ _ (a7.JX (F:=sa t i rl) (CI t _ i rfl rl) fun ds rl=>?_)
    split
    .exact a7.kR (YY _ _ _ _ _ (G:=fun bx c K=>pz _ _ (c,_) fun rl=>K (AV.bM,(⟨env,nb,bx,rl⟩:St))) fun bx c=>oX.bind fun rl=>a7.pure (AV.bM,(⟨env,nb,bx,rl⟩:St)))
    .exact a7.no
   .exact a7.no
  .exact a7.no
 case Bt s es z x=>
  exact CH _ fun t=>(ml _).bind fun e=>oW _ _ (a7.kR (a7.JX (F:=sa t e rl) (CI t _ e rfl rl) fun ds h=>rm.bind fun r=>a7.pure (AV.aO [ds] (.fe (DK h)),(⟨env,nb,bx,r⟩:St))))
 case pY s p es bytes z x y=>
  split
  .exact oW _ _ (a7.JX (F:=vv s p es bytes z _ _ rl) (Sa s p es bytes z _ _ rl) fun v rl=>a7.pure (v,(⟨env,nb,bx,rl⟩:St)))
  .exact a7.no
 case app es bytes z x y=>
  exact(D0 _).bind fun l=>(H2 es bytes _ _ l rl).bind fun p=>a7.pure (p.1,(⟨env,nb,bx,p.2⟩:St))
 case Cb x=>
  split
  .exact a7.pure _
  .split
   .exact a7.kR (a7.pure _)
   .exact a7.no
  .exact a7.no
 case Iy p m=>
  split
  .exact a7.kR (a7.pure _)
  .split
   .exact a7.kR (a7.pure _)
   .exact a7.no
  .exact a7.no
 case HX x y=>
  split
  .exact(H2 1 1 _ _ _ rl).bind fun p=>a7.pure (p.1,(⟨env,nb,bx,p.2⟩:St))
  .exact a7.no
theorem abS(o:qp)(e:Env)(K:AV->Prop)(h:Dl L.gl (dk L) (bA L) o e K):∃v,K v/\∀(ms:List Nat)(a:bm)(u N:Nat)(c:List (Nat×List Bx))(k:Nat)(C:Nat->S3),
  dU ms k=false->C (k+1)=C k->RM L.gl (dk L) (bA L) ms a u N c k o C v e:=by
 have g:∀(f:Nat)(as:List AV),a7 fun K:AV->Prop=>dk L f as K:=fun f as K⟨v,E,T⟩=>⟨v,T,fun A j=>⟨v,E,j⟩⟩
 unfold Dl at h;split at h
 .rename_i n q x;split at h
  .rename_i b d;obtain⟨v,w,y⟩:=((zI b 0 n).bind fun b=>(U5 b).bind fun b=>wq q b) _ h;exact⟨v,w,fun ms a u N c k C i r=> .gA i r n q x b rfl d (y _ rfl)⟩
  .exact h.elim
 .rename_i x;split at h
  .rename_i s d;exact⟨_,h.2,fun ms a u N c k C i r=> .xD i r x rfl s d rfl⟩
  .exact h.elim
 .rename_i x;split at h
  .rename_i l d;exact⟨_,h.2,fun ms a u N c k C i r=> .pj i r x rfl l (.inl d) rfl⟩
  .rename_i l t d;exact⟨_,h.2,fun ms a u N c k C i r=> .pj i r x rfl l (.inr ⟨t,d⟩) rfl⟩
  .rename_i es p l ds zs kr d;exact⟨_,h.2,fun ms a u N c k C i r=> .X3 i r x rfl es p l ds zs kr d rfl⟩
  .exact h.elim
 .rename_i f l;obtain⟨v,w,y⟩:=((sX L.gl e l).bind fun as=>g f as) _ h;exact⟨v,w,fun ms a u N c k C i r=> .call i r f l rfl (y _ rfl)⟩
 .rename_i x l;split at h
  .rename_i f m d;obtain⟨v,w,y⟩:=((sX L.gl e l).bind fun as=>(wo as m).bind fun as=>g f as) _ h;exact⟨v,w,fun ms a u N c k C i r=> .oB i r x l f m rfl d (y _ rfl)⟩
  .exact h.elim
 .split at h
  .rename_i z;obtain⟨v,w,y⟩:=U3 L.gl (bA L) o z e 0 [] [] _ h;exact⟨v,w,fun ms a u N c k C i r=> .quiet i r z (y _ rfl)⟩
  .exact h.elim
def JK(L:Lk)(ms:List Nat)(e:bm)(i N:Nat)(aV:List AI)(env:Env)(nb:Nat)(bx:List Bx)(rl:bm)(a:List (Nat×List Bx))(o:List Rd)(K:St->Prop):Prop:=
 ∃(E:Nat->Nat->AV)(C:Nat->S3)(V:Nat->AV)(σ:St),K σ/\E i=look env/\C i=⟨nb,bx,rl⟩/\look σ.env=E N/\S3.mk σ.nb σ.bx σ.rl=C N/\
  (∀k t,aV[k]?=some t->Fact L.gl (dk L) (bA L) ms e i N a (i+k) t E C V)/\
  (∀m,i<=m->m<N->dU ms m=true->∀r,r∈o->sL e r.i m=true->iW (C (m+1)).bx r.b r.j r.n r.cs)
theorem Kb(ms:List Nat)(a:bm)(aV:List AI):∀(i:Nat)(env:Env)(nb:Nat)(bx:List Bx)(rl:bm)(c:List (Nat×List Bx))(y:List Rd)(K:St->Prop),
  (∀k R,aV[k]?=some R->dU ms (i+k)=true->Ho R.o=true)->sY L.gl (dk L) (bA L) ms a i aV ⟨env,nb,bx,rl⟩ c y K->
  JK L ms a i (i+aV.length) aV env nb bx rl c y K:=by
 induction aV with
 |nil=>
  intro i env nb bx rl c y K _ h;exact⟨fun _=>look env,fun _=>⟨nb,bx,rl⟩,fun _=> .bM,⟨env,nb,bx,rl⟩,h,rfl,rfl,rfl,rfl,fun k R G=>by simp at G,fun m U H=>by simp at H;omega⟩
 |cons R r ih=>
  intro i env nb bx rl c y K eo h;obtain⟨d,M,o⟩:=R;have ep:∀k R,r[k]?=some R->dU ms (i+1+k)=true->Ho R.o=true:=fun k R G O=>eo (k+1) R (by simpa using G) (by rw[show i+(k+1)=i+1+k by omega];exact O)
  have hN:i+(⟨d,M,o⟩::r:List AI).length=i+1+r.length:=by simp;omega
  have join:∀(v:AV)(S:Env)(fA:Nat)(cg:List Bx)(bz:bm)(u:List (Nat×List Bx))(F:List Rd),
    (∀s,look S s=xH d v (look env s) s)->
    (dU ms i=false/\u=c\/dU ms i=true/\u=(i,bx)::c)->(∀p,p∈y->p∈F)->
    (dU ms i=true->∀r,r∈y->sL a r.i i=true->iW cg r.b r.j r.n r.cs)->
    sY L.gl (dk L) (bA L) ms a (i+1) r ⟨S,fA,cg,bz⟩ u F K->
    (∀(C:Nat->S3),C i=⟨nb,bx,rl⟩->C (i+1)=⟨fA,cg,bz⟩->(∀m,i<m->m<i+1+r.length->dU ms m=true->∀r,r∈F->sL a r.i m=true->iW (C (m+1)).bx r.b r.j r.n r.cs)->
     (∃s w,M=some (s,w)/\(look env s=.d (.bool (!w))\/look env s=x7)/\v=x7/\C (i+1)=C i)\/
     ((M=none\/∃s w,M=some (s,w)/\look env s=.d (.bool w))/\∃e,(∀s,look e s=.bM\/(Arg.t s∈ik o/\look e s=look env s))/\RM L.gl (dk L) (bA L) ms a i (i+1+r.length) c i o C v e))->
    JK L ms a i (i+1+r.length) (⟨d,M,o⟩::r) env nb bx rl c y K:=by
   intro v S fA cg bz u F em ed te ei eg ef;obtain⟨E,C,V,σ,U,H,h3,h4,h5,Q,h7⟩:=ih (i+1) S fA cg bz u F K ep eg;let X:Nat->Nat->AV:=fun k=>if k<=i then look env else E k
   let J:Nat->S3:=fun k=>if k<=i then⟨nb,bx,rl⟩else C k
   let V':Nat->AV:=fun k=>if k<=i then v else V k
   have eE:∀k,i<k->X k=E k:=fun k G=>if_neg om
   have eC:∀k,i<k->J k=C k:=fun k G=>if_neg om
   have eV:∀k,i<k->V' k=V k:=fun k G=>if_neg om
   have e0:X i=look env:=if_pos (aQ _);have D:J i=⟨nb,bx,rl⟩:=if_pos (aQ _);have v0:V' i=v:=if_pos (aQ _);have Z:J (i+1)=⟨fA,cg,bz⟩:=by rw[eC _ om];exact h3
   refine⟨X,J,V',σ,U,e0,D,by rw[eE _ om];exact h4,by rw[eC _ om];exact h5,?_,?_⟩
   .intro k R G;cases k with
    |zero=>
     simp at G;subst G;refine⟨fun s=>?_,?_⟩
     .show X (i+1) s=xH d (V' i) (X i s) s;rw[eE _ om,H,v0,e0];exact em s
     .show(∃s w,M=some (s,w)/\(X i s=.d (.bool (!w))\/X i s=x7)/\V' i=x7/\J (i+1)=J i)\/
       ((M=none\/∃s w,M=some (s,w)/\X i s=.d (.bool w))/\∃e,(∀s,look e s=.bM\/(Arg.t s∈ik o/\look e s=X i s))/\RM L.gl (dk L) (bA L) ms a i (i+1+r.length) c i o J (V' i) e)
      rw[e0,v0];exact ef J D Z fun m ee et Y r hr P=>by rw[eC _ om];exact h7 m om om Y r hr P
    |succ k=>
     have hf:=Q k R (by simpa using G);rw[show i+(k+1)=i+1+k by omega];obtain⟨f1,f2⟩:=hf;refine⟨fun s=>by rw[eE _ om,eE _ om,eV _ om];exact f1 s,?_⟩;rw[eE _ om,eV _ om,eC _ om,eC _ om];rcases f2 with f2|⟨f2,e,f3,f4⟩
     .exact .inl f2
     .refine .inr ⟨f2,e,f3,?_⟩;have q:J (i+1+k)=C (i+1+k):=eC _ om;have q1:J (i+1+k+1)=C (i+1+k+1):=eC _ om;cases f4 with
      |quiet z T I N=>exact .quiet z (by rw[q,q1];exact T) I N
      |gA z T n ag x cs I N B=>exact .gA z (by rw[q,q1];exact T) n ag x cs I N B
      |xD z T x I s N B=>exact .xD z (by rw[q,q1];exact T) x I s N B
      |pj z T x I xs N B=>exact .pj z (by rw[q,q1];exact T) x I xs N B
      |X3 z T x I es p xs ds zs kr N B=>exact .X3 z (by rw[q,q1];exact T) x I es p xs ds zs kr N B
      |call z T f xs I N=>exact .call z (by rw[q,q1];exact T) f xs I N
      |oB z T x xs f ey I N B=>exact .oB z (by rw[q,q1];exact T) x xs f ey I N B
      |turn z T=>exact .turn z (by rw[q,q1];exact T)
      |read z T n ag x b j cs I N B g5 g6 g7 g8=>
       refine .read z (by rw[q,q1];exact T) n ag x b j cs I N (by rw[q];exact B) g5 ?_ ?_ ?_
       .intro p hp O;grind
       .intro m ee et Y P;by_cases ej:m=i
        .subst ej;rw[D];rcases ed with⟨hf,_⟩|⟨_,hh⟩
         .exact absurd Y (by simp[hf])
         .exact g6 (m,bx) (by rw[hh];exact iE ..) P
        grind
       grind
   .grind
  rw[hN];simp only[sY]at h;rcases Vc h with⟨e0,s,w,hg,hl,A,h⟩|⟨hg,e0,A,h⟩
  ·
   have tail:∀u,(dU ms i=false/\u=c\/dU ms i=true/\u=(i,bx)::c)->(dU ms i=true->∀r,r∈y->sL a r.i i=true->iW bx r.b r.j r.n r.cs)->
     (uU d x7 e0 fun env=>sY L.gl (dk L) (bA L) ms a (i+1) r ⟨env,nb,bx,rl⟩ u y K)->JK L ms a i (i+1+r.length) (⟨d,M,o⟩::r) env nb bx rl c y K:=fun u ed ei h=>by
    obtain⟨e1,U,H⟩:=Jo h;rw[A]at H;exact join x7 e1 nb bx rl u y H ed (fun p hp=>hp) ei U (fun C D Z _=> .inl ⟨s,w,hg,hl,rfl,by rw[D,Z]⟩)
   split at h
   .rename_i O;obtain⟨U,H⟩:=R2 h;exact tail _ (.inr ⟨O,rfl⟩) (fun _=>H) U
   .rename_i O;exact tail _ (.inl ⟨O,rfl⟩) (fun el=>absurd el (by simp[O])) h
  .split at h
   .rename_i O;obtain⟨e,h,he⟩:=DW _ _ _ h;rw[A]at he
    obtain⟨⟨v,σ⟩,U,H⟩:=abR (L:=L) o (eo 0 _ rfl O) e nb bx rl (fun p=>match p.2 with
     |⟨_,fA,cg,bz⟩=>J3 a i cg y (uU d p.1 e0 fun env=>sY L.gl (dk L) (bA L) ms a (i+1) r ⟨env,fA,cg,bz⟩ ((i,bx)::c) y K)) h
    obtain⟨e7,ez,e2,e3⟩:=σ;obtain⟨h3,h4⟩:=R2 U;obtain⟨e1,h5,Q⟩:=Jo h3;rw[A]at Q;refine join v e1 ez e2 e3 _ y Q (.inr ⟨O,rfl⟩) (fun p hp=>hp) (fun _=>h4) h5 (fun C D Z _=> .inr ⟨hg,e,he,.turn O ?_⟩);rw[D];exact H (fun p=>p.1=v/\S3.mk p.2.nb p.2.bx p.2.rl=C (i+1)) ⟨rfl,Z.symm⟩
   .rename_i O;have no:dU ms i=true->∀r,r∈y->sL a r.i i=true->iW bx r.b r.j r.n r.cs:=fun el=>absurd el (by simp[O])
    have quiet:(rM e0 (ik o) fun e=>Dl L.gl (dk L) (bA L) o e fun v=>uU d v e0 fun env=>sY L.gl (dk L) (bA L) ms a (i+1) r ⟨env,nb,bx,rl⟩ c y K)->JK L ms a i (i+1+r.length) (⟨d,M,o⟩::r) env nb bx rl c y K:=fun h=>by
     obtain⟨e,h,he⟩:=DW _ _ _ h;rw[A]at he
     have tt:∀v,(uU d v e0 fun env=>sY L.gl (dk L) (bA L) ms a (i+1) r ⟨env,nb,bx,rl⟩ c y K)->
       (∀C:Nat->S3,C (i+1)=C i->RM L.gl (dk L) (bA L) ms a i (i+1+r.length) c i o C v e)->JK L ms a i (i+1+r.length) (⟨d,M,o⟩::r) env nb bx rl c y K:=fun v h hr=>by
      obtain⟨e1,h5,Q⟩:=Jo h;rw[A]at Q;exact join v e1 nb bx rl c y Q (.inl ⟨O,rfl⟩) (fun p hp=>hp) no h5 (fun C D Z _=> .inr ⟨hg,e,he,hr C (by rw[D,Z])⟩)
     obtain⟨v,U,H⟩:=abS o e _ h;grind
    split at h
    .rename_i n ag x _;split at h
     .rename_i b j hx;split at h
      .rename_i cs hb;obtain⟨l,U,H⟩:=zI cs j n _ h;obtain⟨h3,h4⟩:=abL U;obtain⟨v,h5,Q⟩:=wq ag l _ h3;obtain⟨e1,h7,h8⟩:=Jo h5;rw[A]at h8;have e4:iW bx b j n l:=by unfold iW;rw[hb];exact H _ rfl
       have e5:∃s,x=.t s:=by
        cases x with
        |t s=>exact⟨s,rfl⟩
        |k v=>exfalso;simp only[bL,Ga]at hx;split at hx<;>cases hx
        |ka v=>cases hx
        |g s=>cases hx
        |f s=>cases hx
       obtain⟨s,rfl⟩:=e5;have e6:look env s=.ptr b j:=by rw[<-A];exact hx
       refine join v e1 nb bx rl c _ h8 (.inl ⟨O,rfl⟩) (fun p hp=>iS _ hp) no h7 (fun C D Z hl=> .inr ⟨hg,[(s,.ptr b j)],fun s'=>?_,?_⟩)
       .rw[aE];split
        .rename_i e;subst e;exact .inr ⟨iE ..,e6.symm⟩
        .exact .inl rfl
       .refine .read O (by rw[D,Z]) n ag (.t s) b j l rfl ?_ (by rw[D];exact e4) (Q _ rfl) h4 ?_ ?_
        .show look _ s=_;rw[aE,if_pos rfl]
        .intro m ee et;omega
        .intro m ee et Y P;exact hl m ee et Y ⟨i,b,j,n,l⟩ (iE ..) P
      .exact h.elim
     .exact quiet h
    .exact quiet h
end
structure MO(L:Lk)(n:Nat)(ops:Array Oper)(o:Oper)(ai:AI):Prop where
 dst:o.dst=ai.d
 lt:∀i,ai.d=some i->i<n
 op:jM L n o ai.o
 guard:(o.guard=none/\ai.g=none)\/∃j want s o',o.guard=some (j,want)/\ops[j]?=some o'/\o'.dst=some s/\ai.g=some (s,want)
def looks(e:AI)(s:Nat):Prop:=Arg.t s∈ik e.o\/∃w,e.g=some (s,w)
structure Cx(L:Lk)(n:Nat)(ops:Array Oper)(aV:List AI)(ms:List Nat)(inc:bm)(bf:Nat->Nat->Bool)(no:Nat->Prop):Prop where
 size:aV.length<=ops.size
 ins:∀(i:Nat)(ai:AI),aV[i]?=some ai->¬no i->∃o,ops[i]?=some o/\MO L n ops o ai
 lt:∀i j,bf i j=true->i<j
 via:∀i j o,j<aV.length->ops[j]?=some o->bf i j=true->∃e,e∈o.after/\Region.binds .any e=true/\(e.on=i\/bf i e.on=true)
 back:∀j o e,j<aV.length->ops[j]?=some o->e∈o.after->Region.binds .any e=true->e.on<j
 HG:∀(i j:Nat)(ai aj:AI)(s:Nat),aV[i]?=some ai->aV[j]?=some aj->i≠j->aj.d=some s->(looks ai s\/ai.d=some s)->bf i j=true\/bf j i=true
 TA:∀i j,i<j->j<aV.length->dU ms i=true->dU ms j=true->bf i j=true
 reads:∀(i m n:Nat)(ag:Bool)(x:Arg)(ai:AI),aV[i]?=some ai->ai.o=.load n ag x->m<aV.length->i≠m->dU ms m=true->bf i m=true\/bf m i=true\/sL inc i m=true
 Qv:∀(k:Nat)(ai:AI),aV[k]?=some ai->dU ms k=true->Ho ai.o=true
abbrev zw(L:Lk)(n:Nat)(e:Array Oper)(aV:List AI)(ms:List Nat)(t:bm)(a:Nat->Nat->Bool):Prop:=Cx L n e aV ms t a fun _=>False
section
variable{L:Lk}{n:Nat}{ops:Array Oper}{aV:List AI}{ms:List Nat}{inc:bm}{bf:Nat->Nat->Bool}{no:Nat->Prop}
def pos(ms:List Nat)(S:Nat->Bool):Nat->Nat
 |0=>0
 |i+1=>if S i=true/\dU ms i=true then i+1 else pos ms S i
def wr(aV:List AI)(V:Nat->AV)(i s:Nat)(x:AV):AV:=
 match aV[i]? with
 |some e=>xH e.d (V i) x s
 |none=>x
def iM(aV:List AI)(E:Nat->Nat->AV)(V:Nat->AV)(S:Nat->Bool)(s:Nat):Nat->AV
 |0=>E 0 s
 |i+1=>if S i=true then wr aV V i s (iM aV E V S s i)else iM aV E V S s i
theorem ajF{V:Nat->AV}{k s:Nat}{x:AV}(h:∀e,aV[k]?=some e->e.d=some s->False):wr aV V k s x=x:=by
 unfold wr;cases t:aV[k]? with
 |none=>rfl
 |some e=>
  simp only[xH];grind
theorem Q6{V:Nat->AV}{k s:Nat}{x:AV}{e:AI}(h:aV[k]?=some e):wr aV V k s x=xH e.d (V k) x s:=by
 unfold wr;rw[h]
theorem QB(S:Nat->Bool):∀i,pos ms S i<=i
 |0=>aQ _
 |i+1=>by
  simp only[pos];split
  .exact aQ _
  .exact Nat.le_succ_of_le (QB S i)
theorem FM(S:Nat->Bool):∀i m,pos ms S i=m+1->m<i/\S m=true/\dU ms m=true
 |0,m,h=>by simp[pos]at h
 |i+1,m,h=>by
  simp only[pos]at h;split at h
  .rename_i e;cases h;exact⟨by omega,e⟩
  .obtain⟨a,t⟩:=FM S i m h;exact⟨by omega,t⟩
theorem yV(S:Nat->Bool):∀i m,m<i->S m=true->dU ms m=true->m<pos ms S i
 |0,m,h,_,_=>by omega
 |i+1,m,h,e,t=>by
  simp only[pos];split
  .exact h
  .rename_i a;by_cases o:m=i
   .subst o;exact absurd ⟨e,t⟩ a
   .exact yV S i m om e t
theorem Jq{C:Nat->S3}(e:∀k,k<aV.length->dU ms k=false->C (k+1)=C k):∀(d p:Nat),p+d<=aV.length->(∀m,p<=m->m<p+d->dU ms m=false)->C (p+d)=C p:=by
 intro d
 induction d with
 |zero=>intro p _ _;rfl
 |succ d t=>
  grind
theorem adx(ms:List Nat):∀(d p:Nat),(∀m,p<=m->m<p+d->dU ms m=false)\/∃m,p<=m/\m<p+d/\dU ms m=true/\∀q,p<=q->q<m->dU ms q=false:=by
 intro d
 induction d with
 |zero=>intro p;exact .inl fun m e t=>by omega
 |succ d a=>
  grind
structure YI(bf:Nat->Nat->Bool)(S:Nat->Bool):Prop where
 down:∀i j,bf i j=true->S j=true->S i=true
section facts
variable{E:Nat->Nat->AV}{C:Nat->S3}{V:Nat->AV}{K:St->Prop}
variable(R:Cx L n ops aV ms inc bf no)(F:∀k ai,aV[k]?=some ai->Fact L.gl (dk L) (bA L) ms inc 0 aV.length [] (0+k) ai E C V)
include R F
omit R in
theorem Pu(k:Nat)(a:k<aV.length)(o:dU ms k=false):C (k+1)=C k:=by
 have f:=F k aV[k] (dw a);rw[dK]at f;rcases f.run with⟨_,_,_,_,_,h⟩|⟨_,e,_,h⟩
 .exact h
 .cases h with
  |turn t _=>rw[o]at t;cases t
  |_=>assumption
theorem T9(S:Nat->Bool)(c:YI bf S)(i:Nat)(ai:AI)(hi:aV[i]?=some ai)(m:S i=false)(t:∀j,bf j i=true->S j=true)(s:Nat)(l:looks ai s):
  iM aV E V S s aV.length=E i s:=by
 have w:i<aV.length:=(bV.1 hi).1
 have y:∀d,i+d<=aV.length->iM aV E V S s (i+d)=iM aV E V S s i:=by
  intro d
  induction d with
  |zero=>intro _;rfl
  |succ d n=>
   intro u;rw[<-kJ];simp only[iM];rw[n om];split
   .rename_i p;refine ajF fun v b g=>?_
    by_cases e:d=0
    .grind
    .rcases R.HG i (i+d) ai v s hi b om g (.inl l)with a|a
     .have:=c.down _ _ a p;rw[m]at this;cases this
     .have:=R.lt _ _ a;omega
   .rfl
 have dn:∀k,k<=i->iM aV E V S s k=E k s:=by
  intro k
  induction k with
  |zero=>intro _;rfl
  |succ k n=>
   intro q;have o:k<aV.length:=by omega
   have f:=F k aV[k] (dw o);rw[dK]at f;rw[f.next s];simp only[iM];rw[n om];split
   .exact Q6 (dw o)
   .rename_i h;simp only[xH];split
    .rename_i d u;split
     .rename_i r;subst r;exfalso;rcases R.HG i k ai aV[k] d hi (dw o) om u (.inl l)with a|a
      .have:=R.lt _ _ a;omega
      .exact h (t k a)
     .rfl
    .rfl
 have:=y (aV.length-i) om;grind
omit F in
theorem Ww(S:Nat->Bool)(m:YI bf S)(i:Nat)(ai:AI)(hi:aV[i]?=some ai)(h:S i=false)(s:Nat):
  iM aV E V (fun k=>if k=i then true else S k) s aV.length=xH ai.d (V i) (iM aV E V S s aV.length) s:=by
 have f:i<aV.length:=(bV.1 hi).1
 have dn:∀k,k<=i->iM aV E V (fun k=>if k=i then true else S k) s k=iM aV E V S s k:=by
  intro k
  induction k with
  |zero=>intro _;rfl
  |succ k t=>
   intro v;simp only[iM,show k≠i by omega,if_false];rw[t om]
 have w:∀d,i+1+d<=aV.length->iM aV E V (fun k=>if k=i then true else S k) s (i+1+d)=xH ai.d (V i) (iM aV E V S s (i+1+d)) s:=by
  intro d
  induction d with
  |zero=>
   intro _;simp only[iM];rw[dn i (aQ _)];simp only[if_true,h,jT,if_false];exact Q6 hi
  |succ d t=>
   intro b;rw[<-kJ];simp only[iM,show i+1+d≠i by omega,if_false];rw[t om];split
   .rename_i y;cases a:aV[i+1+d]? with
    |none=>simp only[wr,a]
    |some r=>
     simp only[wr,a,xH];cases o:ai.d with
     |none=>rfl
     |some l=>
      by_cases e:l=s
      .subst e;cases p:r.d with
       |none=>rfl
       |some u=>
        by_cases c:u=l
        .subst c;exfalso;rcases R.HG i (i+1+d) ai r u hi a om p (.inr o)with n|n
         .have:=m.down _ _ n y;rw[h]at this;cases this
         .have:=R.lt _ _ n;omega
        .simp[c]
      .simp[e]
   .rfl
 have:=w (aV.length-(i+1)) om;grind
theorem Ui(S:Nat->Bool)(y:YI bf S)(i:Nat)(hi:i<aV.length)(w:S i=false)(a:∀j,bf j i=true->S j=true)(d:dU ms i=true):
  C (pos ms S aV.length)=C i/\pos ms (fun k=>if k=i then true else S k) aV.length=i+1:=by
 have t:∀m,i<m->m<aV.length->dU ms m=true->S m=false:=fun m s o n=>by
  cases l:S m with
  |false=>rfl
  |true=>have:=y.down _ _ (R.TA i m s o d n) l;rw[w]at this;cases this
 have p:pos ms S aV.length<=i:=by
  cases u:pos ms S aV.length with
  |zero=>omega
  |succ m=>
   obtain⟨s,o,n⟩:=FM S _ m u;by_cases h:i<m
   .have:=t m h s n;rw[o]at this;cases this
   .by_cases e:m=i
    .subst e;rw[w]at o;cases o
    .omega
 refine⟨?_,?_⟩
 .have:=Jq (aV:=aV) (ms:=ms) (C:=C) (fun k v c=>Pu F k v c) (i-pos ms S aV.length) (pos ms S aV.length) om (fun m s o=>by
   cases r:dU ms m with
   |false=>rfl
   |true=>
    have f:m<i:=by omega
    have:=yV (ms:=ms) S aV.length m om (a m (R.TA m i f hi r d)) r;omega)
  rw[show pos ms S aV.length+(i-pos ms S aV.length)=i by omega]at this;exact this.symm
 .have s:=yV (ms:=ms) (fun k=>if k=i then true else S k) aV.length i hi si d;cases u:pos ms (fun k=>if k=i then true else S k) aV.length with
  |zero=>omega
  |succ m=>
   obtain⟨o,n,b⟩:=FM _ _ m u;by_cases h:i<m
   .rw[if_neg om]at n;have:=t m h o b;rw[n]at this;cases this
   .omega
omit R F in
theorem QX(S:Nat->Bool)(i:Nat)(t:dU ms i=false):∀k,pos ms (fun k=>if k=i then true else S k) k=pos ms S k:=by
 intro k
 induction k with
 |zero=>rfl
 |succ k e=>
  simp only[pos,e];grind
theorem Uh(S:Nat->Bool)(y:YI bf S)(i:Nat)(hi:i<aV.length)(f:S i=false)(a:∀j,bf j i=true->S j=true){q:Nat}{l:Bool}{x:Arg}{j:Nat}{cs:List AV}{ai:AI}(s:aV[i]?=some ai)(w:ai.o=.load q l x)(I:dU ms i=false)(v:iW (C i).bx b j q cs)(g:∀m,0<=m->m<i->dU ms m=true->sL inc i m=true->iW (C m).bx b j q cs)(z:∀m,i<m->m<aV.length->dU ms m=true->sL inc i m=true->iW (C (m+1)).bx b j q cs):iW (C (pos ms S aV.length)).bx b j q cs:=by
 have e:=Jq (aV:=aV) (ms:=ms) (C:=C) (fun k E u=>Pu F k E u);by_cases N:pos ms S aV.length<=i
 .generalize r:pos ms S aV.length=p at*;rcases adx ms (i-p) p with h|⟨m,c,d,n,T⟩
  .have:=e (i-p) p om h;rw[show p+(i-p)=i by omega]at this;rw[<-this];exact v
  .have:=e (m-p) p om (fun q A H=>T q A om);rw[show p+(m-p)=m by omega]at this;rw[<-this];refine g m om om n ?_;rcases R.reads i m q l x ai s w om om n with t|t|t
   .have:=R.lt _ _ t;omega
   .have:=yV (ms:=ms) S aV.length m om (a m t) n;omega
   .exact t
 .cases r:pos ms S aV.length with
  |zero=>omega
  |succ m=>
   obtain⟨c,d,n⟩:=FM S _ m r;have O:m≠i:=by rintro rfl;rw[f]at d;cases d
   refine z m om c n ?_;rcases R.reads i m q l x ai s w c om n with t|t|t
   .have:=y.down _ _ t d;rw[f]at this;cases this
   .have:=R.lt _ _ t;omega
   .exact t
omit R in
theorem WM(S:Nat->Bool)(o:∀i,i<aV.length->S i=true):C (pos ms S aV.length)=C aV.length/\∀s,iM aV E V S s aV.length=E aV.length s:=by
 refine⟨?_,fun s=>?_⟩
 .have d:=QB (ms:=ms) S aV.length
  have l:∀k,k<aV.length->dU ms k=false->C (k+1)=C k:=fun k n u=>by
   have f:=F k aV[k] (dw n);rw[dK]at f;rcases f.run with⟨_,_,_,_,_,h⟩|⟨_,e,_,h⟩
   .exact h
   .cases h with
    |turn r _=>rw[u]at r;cases r
    |_=>assumption
  have:=Jq (aV:=aV) (ms:=ms) (C:=C) l (aV.length-pos ms S aV.length) (pos ms S aV.length) om (fun m w y=>by
   cases a:dU ms m with
   |false=>rfl
   |true=>have:=yV (ms:=ms) S aV.length m om (o m om) a;omega)
  grind
 .have dn:∀k,k<=aV.length->iM aV E V S s k=E k s:=by
   intro k
   induction k with
   |zero=>intro _;rfl
   |succ k c=>
    intro n;have t:k<aV.length:=by omega
    have f:=F k aV[k] (dw t);rw[dK]at f;rw[f.next s];simp only[iM];rw[c om,if_pos (o k t)];exact Q6 (dw t)
  exact dn _ (aQ _)
end facts
def cZ(listed:Array Bool)(i:Nat):Bool:=listed.getD i false
def vj(S:Nat->Bool):Nat->Nat
 |0=>0
 |k+1=>(if S k=true then 0 else 1)+vj S k
theorem DT(S:Nat->Bool)(i:Nat)(t:S i=false):∀k,(k<=i->vj (fun k=>if k=i then true else S k) k=vj S k)/\(i<k->vj (fun k=>if k=i then true else S k) k+1=vj S k)
 |0=>⟨fun _=>rfl,fun h=>by omega⟩
 |k+1=>by
  obtain⟨a,o⟩:=DT S i t k;refine⟨fun h=>?_,fun h=>?_⟩
  .simp only[vj,show k≠i by omega,if_false];rw[a om]
  .by_cases e:k=i
   .subst e;simp only[vj,if_true,t,jT,if_false];rw[a (aQ _)];omega
   .simp only[vj,e,if_false];have:=o om;omega
theorem DU(S:Nat->Bool):∀k,vj S k=0->∀i,i<k->S i=true
 |0,_,i,h=>by omega
 |k+1,h,i,a=>by
  simp only[vj]at h;by_cases e:i=k
  .subst e;cases t:S i with
   |true=>rfl
   |false=>rw[t]at h;simp at h
  .exact DU S k om i om
theorem oh{listed:Array Bool}(hi:i<listed.size):cZ (listed.setIfInBounds i true)=fun k=>if k=i then true else cZ listed k:=by
 funext k;simp only[cZ,dJ,w9];grind
structure MQ(L:Lk)(n:Nat)(aV:List AI)(ms:List Nat)(bf:Nat->Nat->Bool)(E:Nat->Nat->AV)(C:Nat->S3)(V:Nat->AV)(g0:Gh)(bZ:bm)(w0:World)(listed:Array Bool)(a:Act)(w:World):Prop where
 size:aV.length<=listed.size
 IG:YI bf (cZ listed)
 defers:a.defers=[]
 tmps:a.tmps.size=n
 st:∃g,Step g0 bZ w0 g (C (pos ms (cZ listed) aV.length)).rl w/\(∀s,VR L g (C (pos ms (cZ listed) aV.length)).rl w (iM aV E V (cZ listed) s aV.length) (a.tmps.getD s undef))/\
  aY L g (C (pos ms (cZ listed) aV.length)).nb (C (pos ms (cZ listed) aV.length)).bx (C (pos ms (cZ listed) aV.length)).rl w
section run
variable{E:Nat->Nat->AV}{C:Nat->S3}{V:Nat->AV}{g0:Gh}{bZ:bm}{w0:World}{Q:Exit->Act->World->Prop}
variable(R:Cx L n ops aV ms inc bf no)(F:∀k ai,aV[k]?=some ai->Fact L.gl (dk L) (bA L) ms inc 0 aV.length [] (0+k) ai E C V)
include R F
theorem Yl(i:Nat)(hi:i<aV.length)(ep:¬no i)(listed:Array Bool)(a:Act)(w:World)(I:MQ L n aV ms bf E C V g0 bZ w0 listed a w)(hr:i∈Region.ready .any ops listed)(K:Act->World->Prop)(hK:∀a' w',MQ L n aV ms bf E C V g0 bZ w0 (listed.setIfInBounds i true) a' w'->K a' w'):wpOp L.P ops Q i K a w:=by
 obtain⟨hl,o,ho,J⟩:=mem_ready.1 hr;have D:=dw hi;obtain⟨o',et,ins⟩:=R.ins i _ D ep;rw[ho]at et;cases et
 have hn:cZ listed i=false:=by
  have:i<listed.size:=jS hi I.size;simp only[cZ,dJ,dZ this]at hl⊢;exact hl
 have y:∀j,bf j i=true->cZ listed j=true:=fun j hj=>by
  obtain⟨e,c,u,m⟩:=R.via j i o hi ho hj;have k:cZ listed e.on=true:=J e c u;rcases m with m|m
  .rw[<-m];exact k
  .exact I.IG.down _ _ m k
 have N:=oh (listed:=listed) (i:=i) (jS hi I.size)
 have eo:YI bf (cZ (listed.setIfInBounds i true)):=by
  rw[N];refine⟨fun p q ei hq=>?_⟩;by_cases ed:q=i
  .subst ed;by_cases U:p=q
   .simp[U]
   .simp only[U,if_false];exact y p ei
  .simp only[ed,if_false]at hq;by_cases U:p=i
   .simp[U]
   .simp only[U,if_false];exact I.IG.down p q ei hq
 obtain⟨g,s0,hv,el⟩:=I.st;have f:=F i _ D;rw[dK]at f;have O:∀s,looks aV[i] s->iM aV E V (cZ listed) s aV.length=E i s:=fun s hs=>T9 R F (cZ listed) I.IG i _ D hn y s hs
 have r:dU ms i=false->C (pos ms (cZ (listed.setIfInBounds i true)) aV.length)=C (pos ms (cZ listed) aV.length):=fun hm=>by
  rw[N,QX (cZ listed) i hm]
 have M:dU ms i=true->C (pos ms (cZ listed) aV.length)=C i/\C (pos ms (cZ (listed.setIfInBounds i true)) aV.length)=C (i+1):=fun hm=>by
  obtain⟨c,u⟩:=Ui R F (cZ listed) I.IG i hi hn y hm;exact⟨c,by rw[N,u]⟩
 have X:∀s,iM aV E V (cZ (listed.setIfInBounds i true)) s aV.length=xH aV[i].d (V i) (iM aV E V (cZ listed) s aV.length) s:=fun s=>by
  rw[N];exact Ww R (cZ listed) I.IG i _ D hn s
 have em:∀(g':Gh)(v:Value)(w':World),Step g (C (pos ms (cZ listed) aV.length)).rl w g' (C (pos ms (cZ (listed.setIfInBounds i true)) aV.length)).rl w'->
   aY L g' (C (pos ms (cZ (listed.setIfInBounds i true)) aV.length)).nb (C (pos ms (cZ (listed.setIfInBounds i true)) aV.length)).bx (C (pos ms (cZ (listed.setIfInBounds i true)) aV.length)).rl w'->
   VR L g' (C (pos ms (cZ (listed.setIfInBounds i true)) aV.length)).rl w' (V i) v->MQ L n aV ms bf E C V g0 bZ w0 (listed.setIfInBounds i true) (a.put o.dst v) w':=by
  intro g' v w' s S Z;rw[ins.dst];refine⟨by simpa using I.size,eo,?_,?_,g',s0.trans s,fun q=>?_,S⟩
  .cases aV[i].d<;>exact I.defers
  .cases aV[i].d<;>simp[Act.put,I.tmps]
  .rw[X q];cases hd:aV[i].d with
   |none=>exact(hv q).bj s
   |some d=>
    simp only[xH,Act.put];rw[GZ _ _ _ _ (by rw[I.tmps];exact ins.lt d hd)];split
    .exact Z
    .exact(hv q).bj s
 unfold wpOp;rw[ho];simp only
 have H:∀s w',aV[i].g=some (s,w')->∀t,E i s=.d (.bool t)->Region.wanted o (yielded ops a.tmps)=(t==w'):=by
  intro s w' A t ht;rcases ins.guard with⟨_,u⟩|⟨j,ee,s2,o2,c,u,m,k⟩
  .rw[u]at A;cases A
  .rw[k]at A;cases A;have Y:=hv s;rw[O s (.inr ⟨w',k⟩),ht]at Y;have B:=Y.me
   have eg:a.tmps[s]?=some (.bool t):=by
    rw[dJ]at B;cases hx:a.tmps[s]? with
    |none=>rw[hx]at B;simp[undef]at B
    |some v=>rw[hx]at B;simp at B;rw[B]
   have hy:yielded ops a.tmps j=some t:=by simp[yielded,u,m,eg]
   simp[Region.wanted,c,hy]
 rcases f.run with⟨s,w',A,ht,ej,hC⟩|⟨A,e,he,ef⟩
 .have hw:Region.wanted o (yielded ops a.tmps)=false:=by
   rcases ht with ht|ht
   .rw[H s w' A _ ht];cases w'<;>rfl
   .rcases ins.guard with⟨_,u⟩|⟨j,ee,s2,o2,c,u,m,k⟩
    .rw[u]at A;cases A
    .rw[k]at A;cases A;have Y:=hv s;rw[O s (.inr ⟨w',k⟩),ht]at Y;have B:=Y.Uv
     have hy:yielded ops a.tmps j=none:=by
      rw[dJ]at B;cases hx:a.tmps[s]? with
      |none=>simp[yielded,u,m,hx]
      |some v=>rw[hx]at B;simp at B;simp[yielded,u,m,hx,B]
     simp[Region.wanted,c,hy]
  rw[hw];simp only[jT,if_false]
  have hT:C (pos ms (cZ (listed.setIfInBounds i true)) aV.length)=C (pos ms (cZ listed) aV.length):=by
   cases hm:dU ms i with
   |false=>exact r hm
   |true=>obtain⟨c,u⟩:=M hm;rw[c,u,hC]
  refine hK _ _ (em g undef w ?_ ?_ ?_)
  .rw[hT];exact Step.refl _ _ _
  .rw[hT];exact el
  .rw[ej];exact VR.x7
 .have hw:Region.wanted o (yielded ops a.tmps)=true:=by
   rcases A with A|⟨s,w',A,ht⟩
   .rcases ins.guard with⟨c,_⟩|⟨j,ee,s2,o2,c,u,m,k⟩
    .simp[Region.wanted,c]
    .rw[A]at k;cases k
   .rw[H s w' A _ ht];simp
  rw[hw];simp only[if_true];refine .inl ?_;generalize ez:C (pos ms (cZ listed) aV.length)=T at*;generalize e5:C (pos ms (cZ (listed.setIfInBounds i true)) aV.length)=T' at*
  have e2:dx L n g ⟨e,T.nb,T.bx,T.rl⟩ a w:=⟨I.defers,I.tmps,fun q=>by
   rcases he q with c|⟨c,u⟩
   .show VR L g T.rl w (look e q) _;rw[c];exact .bM _
   .show VR L g T.rl w (look e q) _;rw[u,<-O q (.inl c)];exact hv q,el⟩
  have e3:cB L.gl (bA L) aV[i].o ⟨e,T.nb,T.bx,T.rl⟩ fun v σ=>v=V i/\S3.mk σ.nb σ.bx σ.rl=T':=by
   cases ef with
   |quiet z c u h=>
    rw[QE _ _ _ u,r z]
    have:(fun(v:AV)(σ:St)=>v=V i/\S3.mk (St.mk σ.env T.nb T.bx T.rl).nb (St.mk σ.env T.nb T.bx T.rl).bx (St.mk σ.env T.nb T.bx T.rl).rl=T)=fun v _=>v=V i:=by
     funext v σ;simp
    rw[this];exact h
   |gA z c q ag x cs u m k=>
    rw[u];simp only[cB,m];rw[r z];simpa using k
   |xD z c x u s m k=>
    rw[u];simp only[cB,m];exact fun _=>⟨k.symm,(r z).symm⟩
   |pj z c x u xs m k=>
    rw[u];rcases m with m|⟨t,m⟩<;>simp only[cB,m]<;>exact fun _=>⟨k.symm,(r z).symm⟩
   |X3 z c x u es p xs ds zs kr m k=>
    rw[u];simp only[cB,m];exact fun _=>⟨by first|exact k.symm|simpa using k.symm,(r z).symm⟩
   |call z c f xs u h=>
    rw[u];simp only[cB];obtain⟨as,⟨v,k1,k2⟩,k3⟩:=sX L.gl e xs _ h;exact k3 _ ⟨v,T.nb,T.bx,T.rl,k1 _ _ _,k2,(r z).symm⟩
   |oB z c x xs f ey u m h=>
    rw[u];simp only[cB,m];obtain⟨as,⟨v,k1,k2⟩,k3⟩:=((sX L.gl e xs).bind fun as=>wo as ey) _ h;exact k3 (fun as=>bA L f as T.nb T.bx T.rl fun v nb bx rl=>v=V i/\S3.mk nb bx rl=T') ⟨v,T.nb,T.bx,T.rl,k1 _ _ _,k2,(r z).symm⟩
   |read z c q ag x b j cs u m k h5 h6 h7 h8=>
    have G:=Uh R F (cZ listed) I.IG i hi hn y D u z k h7 h8;rw[ez]at G;rw[u];simp only[cB,m];unfold iW at G;split at G
    .rename_i ds e6;obtain⟨l,rfl,k2⟩:=zI ds j q _ G;refine k2 _ ?_;rw[r z];simpa using h5
    .exact G.elim
   |turn z h=>
    obtain⟨c,u⟩:=M z;rw[c,u];exact h
  refine ins.op none ⟨e,T.nb,T.bx,T.rl⟩ _ g a w K Q e2 e3 ?_ (fun X' h=>by cases h);intro av σ' g' v' w' s e4 Z ⟨c,u⟩;subst c;have e1:σ'.rl=T'.rl:=by rw[<-u]
  have S:=e4.sh;rw[show σ'.nb=T'.nb by rw[<-u],show σ'.bx=T'.bx by rw[<-u],e1]at S;rw[e1]at s Z;exact hK _ _ (em g' v' w' s S Z)
theorem aea(y:∀i,¬no i)(z:∀(j:Nat)(o:Oper),aV.length<=j->ops[j]?=some o->(∃e,e∈o.after/\Region.binds .any e=true/\aV.length<=e.on)\/∀i,i<aV.length->∃e,e∈o.after/\Region.binds .any e=true/\e.on=i)(D:∀(t:Nat)(listed:Array Bool)(g:Gh)(a:Act)(w:World),listed.size=ops.size->(∀i,i<aV.length->cZ listed i=true)->(∀i,aV.length<=i->cZ listed i=false)->ops.size-aV.length<=t->
   Step g0 bZ w0 g (C aV.length).rl w->a.defers=[]->a.tmps.size=n->(∀s,VR L g (C aV.length).rl w (E aV.length s) (a.tmps.getD s undef))->
   aY L g (C aV.length).nb (C aV.length).bx (C aV.length).rl w->wpAny L.P .any ops Q t listed a w):
  ∀(t:Nat)(listed:Array Bool)(a:Act)(w:World),listed.size=ops.size->(∀i,aV.length<=i->cZ listed i=false)->MQ L n aV ms bf E C V g0 bZ w0 listed a w->
   vj (cZ listed) aV.length+(ops.size-aV.length)<=t->wpAny L.P .any ops Q t listed a w:=by
 have T:∀(t:Nat)(listed:Array Bool)(a:Act)(w:World),listed.size=ops.size->(∀i,aV.length<=i->cZ listed i=false)->MQ L n aV ms bf E C V g0 bZ w0 listed a w->ops.size-aV.length<=t->
   (∀i,i<aV.length->cZ listed i=true)->wpAny L.P .any ops Q t listed a w:=by
  intro t listed a w l u I U r;obtain⟨g,p,v,b⟩:=I.st;obtain⟨k,M⟩:=WM F (cZ listed) r;rw[k]at p v b;exact D t listed g a w l r u U p I.defers I.tmps (fun s=>by rw[<-M s];exact v s) b
 have d:∀(listed:Array Bool),aV.length<=listed.size->Region.ready .any ops listed=[]->∀i,i<aV.length->cZ listed i=true:=by
  intro listed l c i
  induction i using Nat.strongRecOn with
  |ind i N=>
   intro x;cases A:cZ listed i with
   |true=>rfl
   |false=>
    exfalso;have S:i<ops.size:=jS x R.size
    have:i∈Region.ready .any ops listed:=by
     refine mem_ready.2 ⟨?_,ops[i],dZ _,fun e Y B=>?_⟩
     .have m:i<listed.size:=by omega
      simp only[cZ,dJ,dZ m]at A⊢;exact A
     .have:=R.back i _ e x (dZ S) Y B;exact N e.on this om
    rw[c]at this;cases this
 intro t
 induction t with
 |zero=>
  intro listed a w l u I G;exact T 0 listed a w l u I om (DU (cZ listed) aV.length om)
 |succ t N=>
  intro listed a w l u I G;by_cases r:∀i,i<aV.length->cZ listed i=true
  .exact T _ listed a w l u I om r
  refine⟨fun c=>absurd (d listed I.size c) r,fun i x=>?_⟩
  have f:i<aV.length:=by
   rcases nC i aV.length with h|h
   .exact h
   .exfalso;obtain⟨_,o,H,O⟩:=mem_ready.1 x;rcases z i o h H with⟨e,p,v,b⟩|K
    .have k:cZ listed e.on=true:=O e p v;rw[u _ b]at k;cases k
    .refine r fun q J=>?_
     obtain⟨e,p,v,b⟩:=K q J;have k:cZ listed e.on=true:=O e p v;rw[<-b];exact k
  refine Yl R F i f (y i) listed a w I x _ fun X Z I'=>N _ X Z (by simpa using l) (fun j hj=>?_) I' ?_
  .rw[oh (jS f I.size)];simp only;rw[if_neg om];exact u j hj
  .obtain⟨A,o,H,_⟩:=mem_ready.1 x;have m:i<listed.size:=jS f I.size;rw[oh m]
   have hn:cZ listed i=false:=by
    simp only[cZ,dJ,dZ m]at A⊢;exact A
   have:=(DT (cZ listed) i hn aV.length).2 f;omega
end run
theorem Kc(u:L.P.follows .mixedOrders=true)(R:zw L n ops aV ms inc bf){id:Nat}{σ:St}{K:St->Prop}{Q:Exit->Act->World->Prop}(c:∀(j:Nat)(o:Oper),aV.length<=j->ops[j]?=some o->(∃e,e∈o.after/\Region.binds .any e=true/\aV.length<=e.on)\/∀i,i<aV.length->∃e,e∈o.after/\Region.binds .any e=true/\e.on=i)(z:sY L.gl (dk L) (bA L) ms inc 0 aV σ [] [] K)(h:dx L n g σ a w)(k:∀(t:Nat)(listed:Array Bool)(r:St)(x:Gh)(a':Act)(w':World),listed.size=ops.size->(∀i,i<aV.length->cZ listed i=true)->(∀i,aV.length<=i->cZ listed i=false)->ops.size-aV.length<=t->
   Step g σ.rl w x r.rl w'->dx L n x r a' w'->K r->wpAny L.P .any ops Q t listed a' w'):(Code.region id ops true).wp L.P Q a w:=by
 obtain⟨m,I,N,rl⟩:=σ;obtain⟨E,C,V,r,M,Y,T,f,y,F,_⟩:=Kb ms inc aV 0 m I N rl [] [] K (fun k ai A O=>R.Qv k ai A (by rwa [dK]at O)) z;rw[dK]at f y F;refine wp_region_any u ?_;have S:dx L n g ⟨m,I,N,rl⟩ a w.drew:=⟨h.defers,h.size,fun s=>(h.slot s).bj (Step.drew g rl w),h.sh.drew⟩
 have p:∀i,cZ (Array.replicate ops.size false) i=false:=fun i=>by
  simp only[cZ,dJ,Ra];split<;>rfl
 have d:∀k,pos ms (cZ (Array.replicate ops.size false)) k=0:=by
  intro k
  induction k with
  |zero=>rfl
  |succ k v=>simp only[pos,p,jT,false_and,if_false];exact v
 have l:∀s k,iM aV E V (cZ (Array.replicate ops.size false)) s k=E 0 s:=by
  intro s k
  induction k with
  |zero=>rfl
  |succ k v=>simp only[iM,p,jT,if_false];exact v
 have b:∀k,vj (cZ (Array.replicate ops.size false)) k=k:=by
  intro k
  induction k with
  |zero=>rfl
  |succ k v=>simp only[vj,p,jT,if_false,v];omega
 refine aea (g0:=g) (bZ:=rl) (w0:=w) R F (fun _ h=>h) c ?_ ops.size _ a w.drew si (fun i _=>p i) ⟨by simpa using R.size,⟨fun i j _ H=>by rw[p]at H;cases H⟩,h.defers,h.size,g,?_,fun s=>?_,?_⟩ ?_
 .intro t listed x a' w' B G J X s A O D U;rw[<-y]at s D U;exact k t listed r x a' w' B G J X s ⟨A,O,fun q=>by rw[f];exact D q,U⟩ M
 .rw[d,T];exact Step.drew g rl w
 .rw[d,T,l,Y];exact S.slot s
 .rw[d,T];exact S.sh
 .rw[b];have:=R.size;omega
theorem Kd(i:L.P.follows .mixedOrders=true)(R:zw L n ops aV ms inc bf)(m:ops.size=aV.length){id:Nat}{σ:St}{K:St->Prop}{Q:Exit->Act->World->Prop}(f:sY L.gl (dk L) (bA L) ms inc 0 aV σ [] [] K)(h:dx L n g σ a w)(k:∀(t:St)(u:Gh)(a':Act)(w':World),Step g σ.rl w u t.rl w'->dx L n u t a' w'->K t->Q .normal a' w'):(Code.region id ops true).wp L.P Q a w:=by
 refine Kc i R (fun j o v x=>?_) f h fun d e t u a' w' z b E T s l y=>wpAny_done ?_ (k t u a' w' s l y) d
 .grind
 .cases q:Region.ready .any ops e with
  |nil=>rfl
  |cons j r=>
   exfalso;obtain⟨l,o,y,_⟩:=mem_ready.1 (show j∈Region.ready .any ops e by rw[q];exact iE ..);have v:j<aV.length:=by rw[<-m];exact(nx.1 y).1
   have c:=b j v;have p:j<e.size:=by omega
   simp only[cZ,dJ,dZ p]at l c;simp at l c;rw[l]at c;cases c
end
variable{xs:bJ}{k es:Nat}
section
variable{L:Lk}{g:Gh}{nb:Nat}{bx:List Bx}{rl:bm}{w:World}
def xh.mv(ia:Option Nat)(e:Nat):xh->xh
 | .at c o=>if some c=ia then .at e o else .at c o
 | .out=> .out
 | .root=> .root
def Gh.aw(g:Gh)(e k m:Nat)(ia:Option Nat)(fl:Bool):Gh where
 bk:=g.bk
 bD:=fun x=>if x=e then m else g.bD x
 rw:=g.rw.set k (some e)
 par:=fun b=>if b=e then(if fl then .root else .out)else if some b=ia then .out else(g.par b).mv ia e
theorem aY.X7(h:aY L g nb bx rl w){n' e:Nat}(hk:rl[k]?=some (n,e))(M:10000<=e){ia:Option Nat}(y:g.rw[k]?=some ia){fl:Bool}(Q:(e/10000%10=1/\fl=false)\/(e/10000%10=2/\fl=true)){arr:Array Value}(hn:n<n')(ei:n'/2<=arr.size)(hz:Bq L e (n'/2) arr t)(ht:t=L.tn (e/100000))(X:fl=true->∀o,o<n/2->∀b,ia=some b->arr[o]?=w.cell? ⟨b,o,none⟩)(e2:fl=true->∀o,n/2<=o->o<n'/2->∀b F len Y,arr[o]?=some (.slice (some ⟨b,F,none⟩) len Y)->len=0\/g.par b=.at w.heap.size o):
  Step g rl w (g.aw w.heap.size k (n'/2) ia fl) (rl.set k (n',e)) (w.alloc (.cells arr t))/\aY L (g.aw w.heap.size k (n'/2) ia fl) nb bx (rl.set k (n',e)) (w.alloc (.cells arr t)):=by
 have Z:=(bV.1 hk).1;have eg:k<g.rw.length:=by rw[h.jv];exact Z
 obtain⟨ed,H⟩:=h.row k n e hk;have R:∀b,some b=ia->some b∈g.rw:=fun b a=>cP.2 ⟨k,by rw[y,a]⟩
 have u:∀b,some b=ia->b<w.heap.size/\b∉g.bk:=fun b a=>h.tH (R b a)
 have z:∀b,b<w.heap.size->some b≠ia->(g.aw w.heap.size k (n'/2) ia fl).par b=(g.par b).mv ia w.heap.size:=fun b a r=>by
  show(if _ then _ else if _ then _ else _)=_;rw[if_neg om,if_neg r]
 have P:∀b,b<w.heap.size->(g.aw w.heap.size k (n'/2) ia fl).bD b=g.bD b:=fun b a=>by
  show(if _ then _ else _)=_;rw[if_neg om]
 have el:(g.aw w.heap.size k (n'/2) ia fl).bD w.heap.size=n'/2:=by show(if _ then _ else _)=_;rw[if_pos rfl]
 have q:∀j,j≠k->(g.aw w.heap.size k (n'/2) ia fl).rw[j]?=g.rw[j]?:=fun j O=>jE (k8 O)
 have T:(g.aw w.heap.size k (n'/2) ia fl).rw[k]?=some (some w.heap.size):=jD eg;have e3:(g.par w.heap.size)=.out:=h.par.fresh _ (aQ _);have l:∀p:xh,p=.out->p.mv ia w.heap.size=.out:=fun p D=>by subst D;rfl
 have s:Step g rl w (g.aw w.heap.size k (n'/2) ia fl) (rl.set k (n',e)) (w.alloc (.cells arr t)):={
  os:=rfl,tape:=rfl,output:=rfl,size:=by simp
  bD:=fun b=>by
   show _<=if _ then _ else _;split
   .rename_i a;rw[h.fresh b om];exact cr _
   .exact aQ _
  cell:=fun b o r=>by
   by_cases a:b<w.heap.size
   .exact yn _ a
   .rw[h.fresh b om]at r;omega
  bk:=fun _ _ h=>h
  row:=fun i m f N=>by
   by_cases ee:k=i
   .subst ee;rw[hk]at N;cases N;exact .of (jD Z) om fun d=>by omega
   .exact .of (by rw[jE ee];exact N) (aQ _) fun _=>q i (k8 ee)
  shape:=fun b a=>vJ _ a
  jz:=fun _ h=> .inl h
  jA:=fun b a=>by
   rcases List.mem_or_eq_of_mem_set a with a|a
   .exact .inl a
   grind
  frame:=fun b a _ _=>heap_alloc_old w _ b a
  lb:=fun b a _ _=>P b a
  oi:=fun b a _ G=>by
   rw[z b a fun r=>G (R b r)];exact⟨fun D=>by rw[D];rfl,fun D=>by rw[D];rfl⟩}
 refine⟨s,h.nb,h.kt,?_,h.inj,by show(g.rw.set _ _).length=_;rw[De,De];exact h.jv,?_,?_,?_,fun i=>(h.jd i).bj s,?_⟩
 .intro i x b hx N;obtain⟨v,I⟩:=h.box i x b hx N;have E:=h.qf (cP.2 ⟨i,N⟩);exact⟨fun hd=>by rw[P b E];exact v hd,I.bj s (heap_alloc_old w _ b E)⟩
 .intro j m f O;by_cases V:j=k
  .subst V;rw[jD Z]at O;simp only[qZ,vh]at O;obtain⟨rfl,rfl⟩:=O;refine⟨ed,.inr ⟨w.heap.size,arr,t,(0,0),T,heap_alloc_new w _,by rw[lJ M];exact el,by rw[lJ M];exact ei,fun hm=>?_,cr _,by omega,fun h=>by omega,?_,fun _=>by rw[lJ M];exact⟨hz,ht⟩⟩⟩
   .have:=h.qf hm;omega
   .have D:(g.aw w.heap.size j (n'/2) ia fl).par w.heap.size=if fl then .root else .out:=by show(if _ then _ else _)=_;rw[if_pos rfl]
    rw[D];rcases Q with⟨v,I⟩|⟨v,I⟩<;>subst I
    .exact⟨fun _=>rfl,fun _=>by omega⟩
    .exact⟨fun _=>by omega,fun _=>rfl⟩
  .rw[jE (k8 V)]at O;obtain⟨h0,v⟩:=h.row j m f O;refine⟨h0,?_⟩;rw[q j V];rcases v with v|⟨b,ar,tt,fr,v,I,h3,h4,h5,h6,h7,h8,h9,ej⟩
   .exact .inl v
   .have E:=lt_of_heap I;refine .inr ⟨b,ar,tt,fr,v,by rw[heap_alloc_old w _ b E];exact I,by rw[P b E];exact h3,h4,h5,h6,h7,h8,?_,ej⟩;rw[z b E fun r=>V (h.jI j k b v (by rw[y,r]))];exact⟨fun d=>by rw[h9.1 d];rfl,fun v=>by rw[h9.2 v];rfl⟩
 .intro i j b N O;by_cases v:i=k<;>by_cases I:j=k
  .omega
  .subst v;rw[T]at N;cases N;rw[q j I]at O;have:=(h.tH (cP.2 ⟨j,O⟩)).1;omega
  .subst I;rw[T]at O;cases O;rw[q i v]at N;have:=(h.tH (cP.2 ⟨i,N⟩)).1;omega
  .rw[q i v]at N;rw[q j I]at O;exact h.jI i j b N O
 .intro b a;have a:w.heap.size+1<=b:=by simpa using a
  show(if _ then _ else _)=_;rw[if_neg om];exact h.fresh b om
 .refine⟨fun b a=>?_,fun b a=>?_,fun c o b F len Y K r hv=>?_,fun c K=>?_⟩
  rotate_right
  .by_cases A:c=w.heap.size
   .subst A;exact⟨arr,t,heap_alloc_new w _⟩
   .have S:c<w.heap.size:=Db fun E=>K (by
     show(if _ then _ else if _ then _ else _)=_;rw[if_neg A,if_neg fun r=>by have:=(u c r).1;omega];exact l _ (h.par.fresh c E))
    have B:some c≠ia:=fun r=>K (by
     show(if _ then _ else if _ then _ else _)=_;rw[if_neg A,if_pos r])
    have et:g.par c≠.out:=fun D=>K (by rw[z c S B];exact l _ D)
    obtain⟨a1,t1,v⟩:=h.par.F3 c et;exact⟨a1,t1,by rw[heap_alloc_old w _ c S];exact v⟩
  .have a:w.heap.size+1<=b:=by simpa using a
   show(if _ then _ else if _ then _ else _)=_;rw[if_neg om,if_neg fun r=>by have:=(u b r).1;omega];exact l _ (h.par.fresh b om)
  .rw[z b (h.qf a) fun r=>(u b r).2 a];exact l _ (h.par.bk b a)
  .by_cases A:c=w.heap.size
   .subst A
    have em:fl=true:=by
     cases fl with
     |true=>rfl
     |false=>exact absurd (by show(if _ then _ else _)=_;rw[if_pos rfl];rfl) K
    rw[el]at r;rw[cell_of_row _ w.heap.size o arr t (0,0) (heap_alloc_new w _)]at hv
    have ez:(len=0\/g.par b=.at w.heap.size o)->len=0\/(g.aw w.heap.size k (n'/2) ia fl).par b=.at w.heap.size o:=fun d=>by
     rcases d with d|d
     .exact .inl d
     .right;have U:b<w.heap.size:=Db fun E=>by rw[h.par.fresh b E]at d;cases d
      have C:some b≠ia:=fun r=>by
       rcases H with⟨G,_⟩|⟨b',ar,tt,fr,J,q2,q3,q4,q5,q6,q7,q8,q9,ef⟩
       .rw[y,<-r]at G;cases G
       .rw[y,<-r]at J;cases J;rcases Q with⟨_,I⟩|⟨v,_⟩
        .rw[em]at I;cases I
        .rw[q9.2 v]at d;cases d
      rw[z b U C,d];show(if _ then _ else _)=_;grind
    by_cases ey:o<n/2
    .rcases H with⟨G,e4⟩|⟨b',ar,tt,fr,J,q2,q3,q4,q5,q6,q7,q8,q9,ef⟩
     .omega
     .have ep:ia=some b':=by rw[y]at J;cases J;rfl
      rw[X em o ey b' ep]at hv
      have e1:e/10000%10=2:=by
       grind
      have eo:=q9.2 e1;rcases h.par.sep b' o b F len Y (by rw[eo];intro h;cases h) (by rw[q3,lJ M];exact ey) hv with d|d
      .exact .inl d
      .right;have U:b<w.heap.size:=Db fun E=>by rw[h.par.fresh b E]at d;cases d
       have C:some b≠ia:=fun r=>by
        grind
       rw[z b U C,d];show(if _ then _ else _)=_;rw[if_pos ep.symm]
    grind
   .have S:c<w.heap.size:=Db fun E=>K (by
     show(if _ then _ else if _ then _ else _)=_;rw[if_neg A,if_neg fun r=>by have:=(u c r).1;omega];exact l _ (h.par.fresh c E))
    have B:some c≠ia:=fun r=>K (by
     show(if _ then _ else if _ then _ else _)=_;rw[if_neg A,if_pos r])
    have et:g.par c≠.out:=fun D=>K (by rw[z c S B];exact l _ D)
    rw[P c S]at r;rw[yn _ S]at hv;rcases h.par.sep c o b F len Y et r hv with d|d
    .exact .inl d
    .right;have U:b<w.heap.size:=Db fun E=>by rw[h.par.fresh b E]at d;cases d
     have C:some b≠ia:=fun r=>by
      rcases H with⟨G,_⟩|⟨b',ar,tt,fr,J,q2,q3,q4,q5,q6,q7,q8,q9,ef⟩
      .rw[y,<-r]at G;cases G
      .rw[y,<-r]at J;cases J;rcases Q with⟨v,_⟩|⟨v,_⟩
       .rw[q9.1 om]at d;cases d
       .rw[q9.2 v]at d;cases d
     rw[z b U C,d];show(if _ then _ else _)=_;rw[if_neg B]
theorem ajH{d:DV}{v y:Value}(t:VR L g rl w (Ga d) v)(i:KR y d)(n:d=.sl []->y=.slice none 0 0)(h:∀x r,d≠.sl (x::r)):v=y:=by
 have a:=i (fun _=>0) w;cases d with
 |sl xs=>
  cases xs with
  |nil=>
   cases t with
   |aO _ _ _ e o=>have o:v=.slice none 0 0:=o;rw[o,n rfl]
  |cons x r=>exact absurd rfl (h x r)
 |bool b=>cases t with|d _ _ e=>cases e;cases a;rfl
 |int q m=>cases t with|d _ _ e=>cases e;cases a;rfl
 |str s=>cases t with|d _ _ e=>cases e;cases a;rfl
 |cq=>cases t with|d _ _ e=>cases e;cases a;rfl
 |mW=>cases t with|d _ _ e=>cases e;cases a;rfl
 |Le=>cases t with|d _ _ e=>cases e;cases a;rfl
 |Lf=>cases t with|d _ _ e=>cases e;cases a;rfl
theorem GX:∀{zs:List DV},BB zs=true->∀d,d∈zs->∀x r,d≠.sl (x::r)
 |[],_,d,e,_,_=>by cases e
 |z::zs,h,d,e,x,r=>by
  cases e with
  |head=>rintro rfl;cases h
  |tail _ e=>
   refine GX (zs:=zs) ?_ d e x r;cases z with
   |sl xs=>cases xs with
    |nil=>exact h
    |cons _ _=>cases h
   |_=>exact h
structure Di(L:Lk)(g:Gh)(w:World)(fl:Bool)(T o es q:Nat)(zv:Value)(G:List Value)(ds:List DV):Prop where
 len:G.length=es
 qle:q<=es
 dl:ds.length=q
 dr:∀(j:Nat)(d:DV),ds[j]?=some d->∃u,G[j]?=some u/\DR g.bD w d u
 one:∀u,u∈G->u.oneCell'=true
 zero:∀j,q<=j->j<es->G[j]?=zv.cells[j]?
 own:fl=true->(g.par T≠.out\/w.heap.size<=T)->∀j,j<q->∀b off len cap,G[j]?=some (.slice (some ⟨b,off,none⟩) len cap)->len=0\/g.par b=.at T (o+j)
inductive yl(k es:Nat)(z:List DV)(xs:bJ)(ds:List DV):Nat->Nat->AV->Prop where
 |full:yl k es z xs ds es (2*((xs.length+1)*es)) (.aO (xs++[ds]) (.fe k))
 |part (q:Nat) (h:z.drop q≠[]) (hf:BB (z.drop q)=true):yl k es z xs ds q (2*(xs.length*es+q)+1) (.kh es q xs ds (z.drop q) k)
theorem yl.A4{ds:List DV}{q c:Nat}(h:yl k es z xs ds q c v):c/2=xs.length*es+q:=by
 have:(xs.length+1)*es=xs.length*es+es:=by rw[jb,tU]
 cases h<;>omega
theorem yl.lt{ds:List DV}{q c:Nat}(h:yl k es z xs ds q c v)(e:0<es):2*(xs.length*es)<c:=by
 have:(xs.length+1)*es=xs.length*es+es:=by rw[jb,tU]
 cases h<;>omega
theorem Yw{q c e aw cap:Nat}{N:Value}{i:TypeInfo}{ds:List DV}{G:List Value}(hP:yl k es z xs ds q c v)(hi:L.P.info? t=some i)(Z:i.zero=some N)(H:i.size=es)(p:ZR z N)(R:z.length=es)(ee:q<=es)(E:ds.length=q)(hG:∀j,j<q->w.cell? ⟨aw,xs.length*es+j,none⟩=G[j]?)(et:G.length=es)(D:∀(j:Nat)(d:DV),ds[j]?=some d->∃u,G[j]?=some u/\DR g.bD w d u)(U:∀x,x∈xs->x.length=es)(B:DR g.bD w (.sl xs) (.slice (some ⟨aw,0,none⟩) xs.length cap))(h:xs.length+1<=gJ)(r:xs.length+1<=cap)(T:g.bD aw=xs.length*es+q)(K:w.shape? aw=some (t,cap*es))(A:rl[k]?=some (c,e))(O:10000<=e)(s:gw e=es)(J:g.rw[k]?=some (some aw)):VR L g rl w v (.slice (some ⟨aw,0,none⟩) (xs.length+1) cap):=by
 have o:∀j,j<q->w.cell? ⟨aw,xs.length*es+j,none⟩=some (G.getD j undef):=fun j m=>by
  rw[hG j m,dw om];simp[List.getD,dw (show j<G.length by omega)]
 have f:∀j d,ds[j]?=some d->DR g.bD w d (G.getD j undef):=fun j d m=>by
  obtain⟨u,S,C⟩:=D j d m;simpa[List.getD,S]using C
 have hm:(xs.length+1)*es=xs.length*es+es:=by rw[jb,tU]
 cases hP with
 |full=>
  have Q:(xs++[ds]).length=xs.length+1:=by simp
  refine .aO _ _ _ (DR.snoc B U E h r (by rw[T,hm];exact aQ _) _ o f) ⟨_,e,A,O,fun x n=>?_,by rw[Q,s];exact aQ _,fun _=> .inr ⟨aw,cap,t,by rw[Q],J,by rw[s];exact K⟩⟩;rw[s];rcases nA.1 n with n|n
  .exact U x n
  .rw[dP.1 n];exact E
 |part _ M hf=>
  have X:(z.drop q).length=z.length-q:=tR;refine .kh es q xs ds (z.drop q) k aw cap _ t h r U E om M B (by rw[T];exact aQ _) o f K ?_ ⟨_,e,A,O,s,aQ _,fun _=>J⟩;refine⟨i,N,hi,Z,H,by rw[p.1,R],fun j y m=>?_⟩;rw[mE]at m;have F:=(bV.1 m).1;have I:q+j<N.cells.size:=by rw[p.1];exact F
  obtain⟨S,C⟩:=p.2 (q+j) y _ m (dZ I);refine⟨_,dZ I,S,fun a l cp Y=>?_⟩;have V:=GX hf y (cP.2 ⟨j,by rw[mE];exact m⟩);have A:=S (fun _=>0) w;rw[Y]at A;cases y with
  |sl ys=>
   cases ys with
   |nil=>rw[C rfl]at Y;cases Y
   |cons a b=>exact V a b rfl
  |_=>cases A
theorem Kk(z:Array Value)(n j:Nat)(e:j<n*z.size):(Builtin.zeroCells z n)[j]?=z[j%z.size]?:=by
 have t:0<z.size:=Rj fun h=>by rw[h]at e;simp at e
 have a:=Nat.mod_lt j t;simp[Builtin.zeroCells,e,a]
theorem Di.bj{e:Gh}{w':World}{fl:Bool}{T o es q:Nat}{n:Value}{G:List Value}{ds:List DV}(E:Di L g w fl T o es q n G ds)(l:∀b,g.bD b<=e.bD b)(c:∀b o,o<g.bD b->w'.cell? ⟨b,o,none⟩=w.cell? ⟨b,o,none⟩)(s:∀b,g.par b=.at T (o+(0:Nat))\/True->e.par b=g.par b)(m:w.heap.size<=w'.heap.size:=by exact aQ _):Di L e w' fl T o es q n G ds:=
 ⟨E.len,E.qle,E.dl,fun j d t=>let⟨u,f,y⟩:=E.dr j d t;⟨u,f,y.bj l c⟩,E.one,E.zero,fun p r j t b a len i v=>by
  rw[s b (.inr trivial)];refine E.own p ?_ j t b a len i v;rw[s T (.inr trivial)]at r;exact r.elim .inl fun h=> .inr (gM m h)⟩
theorem C5(h:aY L g nb bx rl w){e q c cap:Nat}{N:Value}{i:TypeInfo}{fl:Bool}{G:List Value}{ds:List DV}(J:rl[k]?=some (2*(xs.length*es),e))(R:10000<=e)(r:gw e=es){ia:Option Nat}(D:g.rw[k]?=some ia)(Q:(e/10000%10=1/\fl=false)\/(e/10000%10=2/\fl=true))(X:t=L.tn (e/100000))(hP:yl k es z xs ds q c v)(hi:L.P.info? t=some i)(hz:i.zero=some N)(U:i.size=es)(C:ZR z N)(M:z.length=es)(E:Di L g w fl w.heap.size (xs.length*es) es q N G ds){F:List Value}(S:F.length=xs.length*es)(Z:∀b,ia=some b->∀j u,F[j]?=some u->w.cell? ⟨b,j,none⟩=some u)(ee:∀(i j:Nat)(x:List DV)(y:DV),xs[i]?=some x->x[j]?=some y->∃u,F[i*es+j]?=some u/\DR g.bD w y u)(K:∀x,x∈xs->x.length=es)(Y:xs.length+1<=gJ)(A:xs.length+1<=cap):
  let arr:=F.toArray++G.toArray++Builtin.zeroCells N.cells (cap-(xs.length+1))
  ∃g',Step g rl w g' (rl.set k (c,e)) (w.alloc (.cells arr t))/\aY L g' nb bx (rl.set k (c,e)) (w.alloc (.cells arr t))/\VR L g' (rl.set k (c,e)) (w.alloc (.cells arr t)) v (.slice (some ⟨w.heap.size,0,none⟩) (xs.length+1) cap):=by
 intro arr;have V:=(bV.1 J).1;have et:k<g.rw.length:=by rw[h.jv];exact V
 obtain⟨O,em⟩:=h.row k _ e J;rw[r]at O;have T:N.cells.size=es:=by rw[C.1,M]
 have hm:(xs.length+1)*es=xs.length*es+es:=by rw[jb,tU]
 have eo:(xs.length+1)*es<=cap*es:=k7 _ A
 have a:arr.size=cap*es:=by
  simp only[arr,Array.size_append,List.size_toArray,S,E.len,size_zeroCells,T];rw[<-hm,<-jb];congr 1;omega
 have I:∀j,j<xs.length*es->arr[j]?=F[j]?:=fun j l=>by
  simp only[arr];rw[Mj (by simp;omega),Mj (by simp;omega)];simp
 have n:∀j,j<es->arr[xs.length*es+j]?=G[j]?:=fun j l=>by
  simp only[arr];rw[Mj (by simp[S,E.len];omega),Array.getElem?_append_right (by simp[S])];simp[S]
 have B:∀j,xs.length*es+es<=j->j<arr.size->arr[j]?=N.cells[j%es]?:=fun j l hl=>by
  have e0:(F.toArray++G.toArray).size=(xs.length+1)*es:=by simp[S,E.len,hm]
  have H:(cap-(xs.length+1))*es=cap*es-(xs.length+1)*es:=Nat.sub_mul _ _ _;have ei:=hl;rw[a]at ei;simp only[arr];rw[Array.getElem?_append_right (by rw[e0,hm];exact l),e0,Kk _ _ _ (by rw[T,H];omega),T];congr 1;have:j=(j-(xs.length+1)*es)+(xs.length+1)*es:=by omega
  conv=>rhs;rw[this]
  rw[Rs]
 have m:=hP.A4;have hq:=E.qle;have f:2*(xs.length*es)/2=xs.length*es:=by omega
 have hZ:Bq L e (c/2) arr t:=by
  refine⟨i,N,hi,hz,by rw[r];exact U,by rw[r];exact T,fun j l hl=>?_⟩;rw[r];rw[m]at l;by_cases ef:j<xs.length*es+es
  .have H:j=xs.length*es+(j-xs.length*es):=by omega
   rw[H,n _ om,E.zero _ om om];congr 1;rw[JJ,Rs,Gk om]
  .exact B j om hl
 obtain⟨s,sh⟩:=h.X7 (n':=c) (arr:=arr) J R D Q (hP.lt O) (by rw[m,a];omega) hZ X (fun _ o ho b hb=>by
  rw[f]at ho;rw[I o ho,Z b hb o _ (dw om),dw om]) (fun hf o ed el b off len cp hh=>by
  rw[f]at ed;rw[m]at el;have H:o=xs.length*es+(o-xs.length*es):=by omega
  rw[H,n _ om]at hh;have:=E.own hf (.inr (aQ _)) _ om b off len cp hh;rwa [<-H]at this)
 refine⟨_,s,sh,?_⟩;have p:∀o,(w.alloc (.cells arr t)).cell? ⟨w.heap.size,o,none⟩=arr[o]?:=fun o=>cell_of_row _ w.heap.size o arr t (0,0) (heap_alloc_new w _)
 refine Yw hP hi hz U C M E.qle E.dl (G:=G) (fun j l=>by rw[p,n j om]) E.len (fun j d l=>?_) K ?_ Y A ?_ ?_ (jD V) R r ?_
 .obtain⟨u,h1,h2⟩:=E.dr j d l;exact⟨u,h1,h2.bj s.bD s.cell⟩
 .refine nN (F:=F) (es:=es) om om K ?_ S (fun j u l=>?_) (fun i j x y K hy=>?_)
  .show _<=if _ then _ else _;rw[if_pos rfl,m];omega
  .have ey:=(bV.1 l).1;rw[dK,p,I j om];exact l
  .obtain⟨u,h1,h2⟩:=ee i j x y K hy;exact⟨u,h1,h2.bj s.bD s.cell⟩
 .show(if _ then _ else _)=_;rw[if_pos rfl];exact m
 .simp only[World.shape?,heap_alloc_new w,a]
 .exact jD et
theorem Og(h:aY L g nb bx rl w){e q c cap aw:Nat}{R:Value}{i:TypeInfo}{fl:Bool}{G:List Value}{ds:List DV}(X:rl[k]?=some (2*(xs.length*es),e))(p:10000<=e)(S:gw e=es)(B:g.rw[k]?=some (some aw))(Z:(e/10000%10=1/\fl=false)\/(e/10000%10=2/\fl=true))(ee:t=L.tn (e/100000))(hP:yl k es z xs ds q c v)(hi:L.P.info? t=some i)(hz:i.zero=some R)(et:i.size=es)(D:ZR z R)(U:z.length=es)(E:Di L g w fl aw (xs.length*es) es q R G ds){n:Array Value}{t0:TypeId}{fr:Nat×Nat}(m:w.heap[aw]?=some (.cells n t0 fr))(C:n.size=cap*es)(hx:∀x,x∈xs->x.length=es)(hd:DR g.bD w (.sl xs) (.slice (some ⟨aw,0,none⟩) xs.length cap))(M:xs.length+1<=gJ)(O:xs.length+1<=cap){a:Array Value}(f:(n.toList.take (xs.length*es)++G++n.toList.drop (xs.length*es+G.length)).toArray=a):
  ∃g',Step g rl w g' (rl.set k (c,e)) (w.setRow aw a)/\aY L g' nb bx (rl.set k (c,e)) (w.setRow aw a)/\VR L g' (rl.set k (c,e)) (w.setRow aw a) v (.slice (some ⟨aw,0,none⟩) (xs.length+1) cap):=by
 have eo:=(bV.1 X).1;obtain⟨I,F⟩:=h.row k _ e X;rw[S]at I;rcases F with⟨hr,_⟩|⟨em,ef,t',ey,q1,q2,q3,q4,q5,q6,q7,q8,q9,y⟩
 .rw[B]at hr;cases hr
 rw[B]at q1;cases q1;rw[m]at q2;cases q2;rw[lJ p]at q3 q4 q6 y;have ht:=ee.trans (y p).2.symm;subst ht;have y:=(y p).1;have T:2*(xs.length*es)/2=xs.length*es:=by omega
 rw[T]at q3 q4 q6 y;have ep:R.cells.size=es:=by rw[D.1,U]
 have hm:(xs.length+1)*es=xs.length*es+es:=by rw[jb,tU]
 have ei:(xs.length+1)*es<=cap*es:=k7 _ O;have eg:=E.len;have A:=hP.A4;have hq:=E.qle;have r:a.size=n.size:=by rw[<-f];simp;omega
 have Y:∀o,o<xs.length*es->a[o]?=n[o]?:=fun o K=>by
  rw[<-f,tP,ga,gL (by simp;omega),jC K];simp
 have l:∀o,o<es->a[xs.length*es+o]?=G[o]?:=fun o K=>by
  rw[<-f,tP,ga,pI (by simp;omega),gL (by simp;omega)];simp only[ra,Gg];rw[show xs.length*es+o-min (xs.length*es) n.size=o by omega]
 have V:∀o,xs.length*es+es<=o->a[o]?=n[o]?:=fun o K=>by
  rw[<-f,tP,pI (by simp;omega),mE];simp only[bG,ra,Gg];rw[show xs.length*es+G.length+(o-(min (xs.length*es) n.size+G.length))=o by omega];simp
 have hZ:Bq L e (c/2) a t:=by
  obtain⟨i',ej,r1,r2,r3,r4,r5⟩:=y;rw[hi]at r1;cases r1;rw[hz]at r2;cases r2;refine⟨i,R,hi,hz,r3,r4,fun j J hl=>?_⟩;rw[A]at J;by_cases ez:j<xs.length*es+es
  .rw[S];have Q:j=xs.length*es+(j-xs.length*es):=by omega
   rw[Q,l _ om,E.zero _ om om];congr 1;rw[JJ,Rs,Gk om]
  .rw[V j om];exact r5 j om (by rw[<-r];exact hl)
 obtain⟨s,sh⟩:=h.fill (n':=c) (cs:=a) X p B m r (Nat.le_of_lt (hP.lt I)) (fun o K=>Y o om) (by rw[A,r,C];omega) hZ (fun N o ed el b off len cp hh=>by
  have hf:fl=true:=by
   rcases Z with⟨f1,f2⟩|⟨_,f2⟩
   .exact absurd (q9.1 om) N
   .exact f2
  rw[T]at ed;rw[A]at el;have Q:o=xs.length*es+(o-xs.length*es):=by omega
  rw[Q,l _ om]at hh;have:=E.own hf (.inl N) _ om b off len cp hh;rwa [<-Q]at this)
 refine⟨_,s,sh,?_⟩;have H:∀o,(w.setRow aw a).cell? ⟨aw,o,none⟩=a[o]?:=fun o=>cell_setRow_same w aw o n a t fr m
 refine Yw hP hi hz et D U E.qle E.dl (G:=G) (fun j J=>by rw[H,l j om]) E.len (fun j d J=>?_) hx (hd.bj s.bD s.cell) M O ?_ ?_ (jD eo) p S B
 .obtain⟨u,h1,h2⟩:=E.dr j d J;exact⟨u,h1,h2.bj s.bD s.cell⟩
 .show(if _ then _ else _)=_;rw[if_pos rfl];exact A
 .show(w.setRow aw a).shape? aw=_;simp only[World.shape?,setRow_heap w aw n a t fr m,r,C]
def Q3(w:World)(m:Nat):Value->Nat
 | .slice (some a) _ e=>if m+1<=e then a.block else w.heap.size
 |_=>w.heap.size
theorem GO(h:aY L g nb bx rl w){e q c:Nat}{U hv B:Value}{i:TypeInfo}{u ty:TypeId}{fl:Bool}{G:List Value}{ds:List DV}(et:VR L g rl w (.aO xs (.fe k)) hv)(K:rl[k]?=some (2*(xs.length*es),e))(O:10000<=e)(I:gw e=es)(C:(e/10000%10=1/\fl=false)\/(e/10000%10=2/\fl=true))(M:t=L.tn (e/100000))(hP:yl k es z xs ds q c v)(ht:L.P.underlying ty=some (.slice t))(hi:L.P.info? t=some i)(J:i.zero=some U)(o:i.size=es)(N:ZR z U)(S:z.length=es)(eo:0<i.bytes)(n:(xs.length+1)*i.bytes<=140737488355328)(E:Di L g w fl (Q3 w xs.length hv) (xs.length*es) es q U G ds)(Y:sP L.P w u B i.size 1 G)(sH:TypeId):
  ∃W v' H,(Builtin.append_ #[ty,u] sH #[hv,B]).run L.P w=.ok v' W/\Step g rl w H (rl.set k (c,e)) W/\aY L H nb bx (rl.set k (c,e)) W/\VR L H (rl.set k (c,e)) W v v':=by
 have r:xs.length+1<=gJ:=by
  have:=Ml (xs.length+1) eo;unfold gJ;omega
 have ei:((xs.length+1:Nat):Int)<=9223372036854775807:=by unfold gJ at r;omega
 have ep:U.cells.size=i.size:=by rw[N.1,S,o]
 cases et with
 |aO _ _ _ hd Q=>
 obtain⟨n',e',h1,h2,R,h4,h5⟩:=Q;rw[K]at h1;cases h1;rw[I]at R h4 h5;have p:∀{T:Nat},Di L g w fl T (xs.length*es) es q U G ds->Di L g w.drew fl T (xs.length*es) es q U G ds:=fun E=>E.bj (fun _=>aQ _) (fun _ _ _=>rfl) (fun _ _=>rfl)
 rcases h5 rfl with⟨V,l⟩|⟨m,cap,tt,V,l,d⟩
 .subst V
  have ed:xs=[]:=by
   rcases lM hd with⟨h1,_⟩|⟨m,eg,cap,es,f,hc,_⟩
   .exact h1
   .cases hc
  subst ed;have D:=oA L.P w ty u sH t i U ht hi J B 1 G Y om om (by simp at n⊢;omega);obtain⟨H,s,X,A⟩:=C5 (cap:=grownCap w 1 0 t) h.drew K O I l C M hP hi J o N S (p E) (F:=[]) si (fun b hb=>by cases hb) (fun i j x y R=>by simp at R) R r (by simpa using grownCap_ge w 1 0 t);refine⟨_,_,H,D,(Step.drew g rl w).trans ?_,?_,?_⟩
  .simpa using s
  .simpa using X
  .simpa using A
 .subst V;obtain⟨F,f1,f2,f3,f4,f5⟩:=Kg hd R;by_cases a:xs.length+1<=cap
  .have hT:Q3 w xs.length (.slice (some ⟨m,0,none⟩) xs.length cap)=m:=if_pos a;rw[hT]at E;obtain⟨ef,Z⟩:=h.row k _ e K;rcases Z with⟨D,_⟩|⟨ey,ee,t',fr,q1,q2,q3,q4,q5,q6,q7,q8,q9,ej⟩
   .rw[l]at D;cases D
   rw[l]at q1;cases q1;rw[lJ O]at q6
   have el:ee.size=cap*es:=by
    simp only[World.shape?,q2,qZ,vh]at d;exact d.2
   have ez:=E.len;have hm:(xs.length+1)*es=xs.length*es+es:=by rw[jb,tU]
   have em:(xs.length+1)*es<=cap*es:=k7 _ a;have D:=sf L.P w ty u sH t i ht hi m xs.length cap ee t' fr (by rw[o];omega) q2 B 1 G Y E.one a (by rw[o];omega);rw[o]at D;obtain⟨H,s,X,A⟩:=Og h K O I l C M hP hi J o N S E q2 el R hd r a rfl;exact⟨_,_,H,D,s,X,A⟩
  .have hT:Q3 w xs.length (.slice (some ⟨m,0,none⟩) xs.length cap)=w.heap.size:=if_neg a;rw[hT]at E;have D:=lA L.P w ty u sH t i U ht hi J ⟨m,0,none⟩ xs.length cap F (by rw[f1,o]) (fun j u hj=>by rw[Addr.add_lit,dK];exact f3 j u hj) B 1 G Y om ei (growslice_fits om n)
   obtain⟨H,s,X,A⟩:=C5 (cap:=grownCap w (xs.length+1) cap t) h.drew K O I l C M hP hi J o N S (p E) (F:=F) f1 (fun b hb=>by cases hb;exact f3) (fun i j x y R hy=>by
    obtain⟨u,u1,u2⟩:=f5 i j x y R hy;exact⟨u,u1,DR.bj (mk:=g.bD) (mk':=g.bD) (w:=w) (w':=w.drew) (fun _=>aQ _) (fun _ _ _=>rfl) u2⟩) R r (grownCap_ge w (xs.length+1) cap t)
   exact⟨_,_,H,D,(Step.drew g rl w).trans s,X,A⟩
end
end Go.Ab
