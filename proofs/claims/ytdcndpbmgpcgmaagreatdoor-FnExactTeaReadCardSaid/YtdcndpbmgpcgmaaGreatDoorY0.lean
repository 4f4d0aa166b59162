import Derived.KernelRfl
import GoSem.Core.Sem
import GoSem.Op.String
import Derived.Below
import Derived.Laws.CopyRow
import Derived.Laws.Tables
import Derived.ChangeReads
import GoSem.ClaimJoined
import Derived.ChangeSame
import Derived.ReadAgain
import Derived.LaidLaws
import Derived.Laws.Cells
import Derived.Laws.AppendOwn
import Derived.Laws.Concat
noncomputable section
namespace Go.Ab
theorem sz{p:Prop}(h:p:=by first|exact trivial|exact rfl|exact Nat.zero_lt_succ _|exact Nat.succ_lt_succ (Nat.zero_lt_succ _)|exact Nat.succ_lt_succ (Nat.succ_lt_succ (Nat.zero_lt_succ _))|exact Nat.le_of_ble_eq_true rfl|exact Or.inl rfl|exact Or.inr rfl):p:=h
theorem aI{p:Prop}(h:p:=by with_reducible assumption):p:=h
theorem tE{p:Prop}(h:p:=by(repeat' first|exact trivial|exact rfl|exact Or.inl rfl|exact Or.inr ⟨rfl,_,_,rfl,rfl,by decide⟩|apply And.intro)<;>fail):p:=h
theorem rfz{p:Prop}(h:p:=by(repeat' first|exact trivial|exact rfl|apply And.intro)<;>fail):p:=h
theorem xo{p:Prop}(h:False:=by omega):p:=h.elim
theorem xc{p:Prop}(h:False:=by first|omega|contradiction):p:=h.elim
theorem om{p:Prop}(h:p:=by omega):p:=h
theorem si{p:Prop}(h:p:=by simp):p:=h
theorem de{p:Prop}(h:p:=by decide):p:=h
theorem rf{p:Prop}(h:p:=by rfl):p:=h
theorem lr{a:Nat}:a<=a:=Nat.le_refl a
theorem asm{p:Prop}(h:p:=by assumption):p:=h
theorem krf{p:Prop}(h:p:=by kernel_rfl):p:=h
theorem nbz{a b:Nat}(h:Nat.ble a b=true:=by rfl):a<=b:=Nat.le_of_ble_eq_true h
abbrev aZ:=@List.length_cons
abbrev bV:=@List.getElem?_eq_some_iff
abbrev bc:=@List.length_nil
abbrev aQ:=@Nat.le_refl
abbrev bG:=@List.length_append
abbrev cb:=@Nat.le_of_ble_eq_true
abbrev bT:=@Bool.and_eq_true
abbrev cP:=@List.mem_iff_getElem?
abbrev dw:=@List.getElem?_eq_getElem
abbrev dL:=@Nat.eq_of_beq_eq_true
abbrev dJ:=@Array.getD_eq_getD_getElem?
abbrev dZ:=@Array.getElem?_eq_getElem
abbrev dP:=@List.mem_singleton
abbrev gL:=@List.getElem?_append_left
abbrev cr:=@Nat.zero_le
abbrev eu:=@List.getElem_mem
abbrev ga:=@List.append_assoc
abbrev jC:=@List.getElem?_take_of_lt
abbrev mc:=@List.eq_nil_of_length_eq_zero
abbrev dK:=@Nat.zero_add
abbrev iS:=@List.mem_cons_of_mem
abbrev jD:=@List.getElem?_set_self
abbrev iE:=@List.mem_cons_self
abbrev jE:=@List.getElem?_set_ne
abbrev nx:=@Array.getElem?_eq_some_iff
abbrev ny:=@List.getD_eq_getElem?_getD
abbrev jS:=@Nat.lt_of_lt_of_le
abbrev jT:=@Bool.false_eq_true
abbrev k7:=@Nat.mul_le_mul_right
abbrev iT:=@List.length_map
abbrev jU:=@List.getElem?_map
abbrev pI:=@List.getElem?_append_right
abbrev nz:=@List.take_of_length_le
abbrev gM:=@Nat.le_trans
abbrev kI:=@List.all_eq_true
abbrev mE:=@List.getElem?_drop
abbrev qX:=@Classical.byContradiction
abbrev iU:=@Nat.add_zero
abbrev jb:=@Nat.add_mul
abbrev kJ:=@Nat.add_assoc
abbrev qY:=@List.getElem?_eq_none
abbrev w9:=@Array.getElem?_setIfInBounds
abbrev nA:=@List.mem_append
abbrev oe:=@List.append_nil
abbrev lH:=@List.mem_map
abbrev tP:=@List.getElem?_toArray
abbrev qo:=@Int.toNat_natCast
abbrev qZ:=@Option.some.injEq
abbrev ye:=@List.drop_eq_getElem_cons
abbrev vb:=@List.getElem?_append
abbrev vc:=@List.mem_of_getElem?
abbrev ra:=@List.length_take
abbrev nC:=@Nat.lt_or_ge
abbrev tQ:=@List.take_add_one
abbrev yf:=@List.getElem_cons_zero
abbrev rb:=@List.mem_range
abbrev sE:=@List.map_append
abbrev tR:=@List.length_drop
abbrev tT:=@Nat.lt_succ_self
abbrev AA:=@List.getElem?_cons_succ
abbrev nD:=@Array.ext'
abbrev xa:=@List.getElem?_take
abbrev Cn:=@List.getElem_append_left
abbrev AB:=@List.mem_append_right
abbrev sG:=@List.map_cons
abbrev AD:=@List.mem_append_left
abbrev vf:=@Option.some.inj
abbrev vg:=@Bool.or_eq_true
abbrev yg:=@List.cons_append
abbrev xd:=@List.take_length
abbrev k8:=@Ne.symm
abbrev vh:=@Prod.mk.injEq
abbrev Co:=@List.length_pos_iff
abbrev Cp:=@List.drop_succ_cons
abbrev HQ:=@Option.isSome_iff_exists
abbrev AG:=@List.drop_length
abbrev xe:=@List.mem_cons
abbrev tU:=@Nat.one_mul
abbrev Cq:=@List.ext_getElem?
abbrev pJ:=@Prod.ext
abbrev Cr:=@List.nil_append
abbrev AH:=@UInt8.toNat_inj
abbrev AJ:=@Bool.eq_iff_iff
abbrev xf:=@Nat.succ_mul
abbrev Mj:=@Array.getElem?_append_left
abbrev HR:=@Array.getElem?_append
abbrev xg:=@Nat.le_succ
abbrev Ml:=@Nat.le_mul_of_pos_right
abbrev HT:=@List.getElem_of_mem
abbrev HU:=@List.take_succ_cons
abbrev ES:=@Nat.succ_lt_succ
abbrev AK:=@List.map_nil
abbrev HV:=@Bool.false_ne_true
abbrev ET:=@List.drop_left'
abbrev Rr:=@Array.toList_setIfInBounds
abbrev Rs:=@Nat.add_mul_mod_self_right
abbrev HW:=@Classical.not_not
abbrev Mm:=@List.range_eq_range'
abbrev Mn:=@List.mem_of_mem_take
abbrev W3:=@List.set_eq_take_append_cons_drop
abbrev Db:=@Nat.lt_of_not_le
abbrev Dc:=@Nat.zero_lt_succ
abbrev Dd:=@List.ext_getElem
abbrev Gf:=@List.getElem?_range
abbrev Gg:=@Array.length_toList
abbrev De:=@List.length_set
abbrev Df:=@List.take_left'
abbrev Gi:=@UInt8.toNat_ofNat'
abbrev Jx:=@List.drop_eq_nil_of_le
abbrev Gj:=@List.getElem?_inj
abbrev Dg:=@List.drop_drop
abbrev Jy:=@List.take_append_drop
abbrev Jz:=@List.contains_iff_mem
abbrev Ay:=@Nat.mul_comm
abbrev vM:=@Array.ext
abbrev Gk:=@Nat.mod_eq_of_lt
abbrev Gl:=@List.map_toArray
abbrev JA:=@Bool.and_eq_true_iff
abbrev Gm:=@List.any_eq_true
abbrev Dh:=@Bool.not_true
abbrev Az:=@Int.le_refl
abbrev Gn:=@Option.map_none
abbrev Gp:=@List.foldl_cons
abbrev Gq:=@Option.map_some
abbrev JB:=@Option.isSome_none
abbrev Ra:=@Array.getElem?_replicate
abbrev Rb:=@Array.size_setIfInBounds
abbrev Rc:=@List.length_eq_zero_iff
abbrev JC:=@Nat.succ_le_of_lt
abbrev JD:=@Bool.not_eq_true'
abbrev Re:=@Option.map_eq_some_iff
abbrev JE:=@Option.getD_some
abbrev YF:=@List.take_succ_eq_append_getElem
abbrev Rf:=@List.length_singleton
abbrev YG:=@Array.getElem?_setIfInBounds_ne
abbrev YH:=@Array.eq_empty_of_size_eq_zero
abbrev Gr:=@Classical.em
abbrev JF:=@Nat.not_lt_zero
abbrev Rh:=@Array.toList_zipIdx
abbrev Ri:=@List.map_congr_left
abbrev JG:=@List.mapM_cons
abbrev JH:=@List.drop_zero
abbrev Rj:=@Nat.pos_of_ne_zero
abbrev Rk:=@Array.foldl_toList
abbrev Rl:=@List.count_eq_zero
abbrev JI:=@Bool.false_or
abbrev Rm:=@Nat.lt_trichotomy
abbrev Rn:=@Nat.lt_succ_of_le
abbrev Ro:=@List.flatten_cons
abbrev Rp:=@List.range'_succ
abbrev Rq:=@Option.bind_some
abbrev JJ:=@Nat.add_comm
end Go.Ab
namespace Go.Ab
open Go
inductive DV where
 |bool (b:Bool)
 |int (k:IntKind) (n:Int)
 |str (s:List UInt8)
 |sl (xs:List (List DV))
 |cq
 |mW
 |Le
 |Lf
inductive Tag where
 |nil
 |full
 |row (k:Nat)
 |fe (k:Nat)
 |sub (k C:Nat)
 |uu (k C o:Nat)
inductive AV where
 |d (v:DV)
 |ptr (b j:Nat)
 |ru (b es i j:Nat)
 |gA (cs:List DV)
 |aO (xs:List (List DV)) (t:Tag)
 |rC (b n:Nat)
 |oQ (xs:List (List DV)) (t:Tag)
 |agg (cs:List AV)
 |b6 (vs:List AV)
 |fn (f:Nat) (kj:List AV)
 |oH (t:Nat) (v:AV)
 |uv (b:Nat)
 |bM
 |kh (es p:Nat) (xs:List (List DV)) (ds zs:List DV) (k:Nat)
 |kn (k C q:Nat)
 |lit (cs:List AV)
 |ni (b:Bool)
inductive Bx where
 |var (ty:Nat) (cs:List AV)
 |row (es:Nat) (xs:List (List DV))
 |iter (s:List UInt8) (pos:Nat)
 |dead
inductive Arg where
 |t (i:Nat)
 |k (v:DV)
 |ka (vs:List DV)
 |g (i:Nat)
 |f (i:Nat)
inductive Gt where
 |add|sub|mul|quo|rem|and|or|xor|andNot|shl|shr|eql|neq|lss|leq|gtr|geq
inductive qp where
 |lR (x:Arg)
 |pick (c a b:Arg)
 |alloc (ty:Nat) (z:List DV)
 |box (x:Arg)
 |build (z:List DV) (ps:List (Nat×Nat×Arg))
 |vy (es:Nat) (z:List DV) (len:Nat) (ps:List (Nat×Arg))
 |load (n:Nat) (ag:Bool) (x:Arg)
 |store (n:Nat) (x v:Arg)
 |vI (x:Arg)
 |eO (k:IntKind) (op:Gt) (x y:Arg)
 |oL (op:Gt) (x y:Arg)
 |ri (ne:Bool) (x y:Arg)
 |AM (ne:Bool) (x y:Arg)
 |AL (ne:Bool) (fs:List (Nat×Nat)) (x y:Arg)
 |not (x:Arg)
 |neg (x:Arg)
 |conv (k:IntKind) (x:Arg)
 |Mp (x:Arg)
 |s2b (x:Arg)
 |same (x:Arg)
 |uw (f:Nat) (kj:List Arg)
 |wK (es bytes:Nat) (z:List DV) (len cap:Arg)
 |gR (x:Arg) (lo hi:Option Arg)
 |BA (es:Nat) (x:Arg) (lo hi:Option Arg)
 |Fg (es n:Nat) (x:Arg) (lo hi:Option Arg)
 |mT (off:Nat) (x:Arg)
 |U' (off n:Nat) (ag:Bool) (x:Arg)
 |qI (es:Nat) (x i:Arg)
 |xC (es n:Nat) (x i:Arg)
 |Fz (x i:Arg)
 |H6 (es n:Nat) (ag:Bool) (x i:Arg)
 |range (x:Arg)
 |next (x:Arg)
 |ext (x:Arg) (i:Nat)
 |call (f:Nat) (xs:List Arg)
 |oB (x:Arg) (xs:List Arg)
 |xD (x:Arg)
 |pj (x:Arg)
 |app (es bytes:Nat) (z:List DV) (x y:Arg)
 |HX (x y:Arg)
 |Ib (t:Nat) (x:Arg)
 |panic (x:Arg)
 |Cb (x:Arg)
 |Iy (p m:Arg)
 |pZ (es:Nat) (z:List DV) (x:Arg)
 |Bt (md es:Nat) (z:List DV) (x:Arg)
 |pY (md:Nat) (p:Option Nat) (es bytes:Nat) (z:List DV) (x y:Arg)
 |H0 (es lo:Nat) (x:Arg)
 |CU (es:Nat) (x i:Arg)
 |Hl (n:Nat) (x y:Arg)
 |OL (t:Nat) (x:Arg)
 |other
structure AI where
 d:Option Nat
 g:Option (Nat×Bool)
 o:qp
structure uI where
 x:Arg
 n:Arg
 y:Arg
 v:Arg
 es:Nat
 bytes:Nat
 z:List DV
 d:Nat
 e:Nat
 base:Arg
 off:Nat
 q:Nat
 md:Nat:=0
inductive AC where
 |skip
 |seq (a b:AC)
 |cond (c:Arg) (a b:AC)
 |block (id:Nat) (a:AC)
 |loop (a:AC)
 |exit (id:Nat)
 |ret
 |j9 (ops:List AI) (draw:Bool)
 |yY (ops:List AI) (ms:List Nat) (inc:List (Nat×Nat))
 |yX (ops:List AI) (ms:List Nat) (inc:List (Nat×Nat)) (t:uI)
 |uD (ops:List AI) (ms:List Nat) (inc:List (Nat×Nat)) (p:Nat)
 |FQ (ops:List AI) (ms:List Nat) (inc:List (Nat×Nat)) (t:uI) (p:Nat)
 |Bz (d r:Nat)
 |bad
inductive yh where
 |t (i:Nat)
 |c (i n:Nat) (ag:Bool)
structure AF where
 np:Nat
 nt:Nat
 res:List yh
 body:AC
inductive AE where
 |normal
 |exit (id:Nat)
 |ret
def nth{α:Type}:List α->Nat->Option α
 |[],_=>none
 |x::_,0=>some x
 |_::r,n+1=>nth r n
def look:List (Nat×AV)->Nat->AV
 |[],_=> .bM
 |(k,v)::r,s=>match Nat.beq k s with|true=>v|false=>look r s
def zs(n:Nat)(o:qp):AI:=⟨some n,none,o⟩
def zm(n m:Nat):AI:=⟨some n,none,.lR (.t m)⟩
def zn(o:qp):AI:=⟨none,none,o⟩
def zf(n a b:Nat):AI:=⟨some n,none,.mT a (.t b)⟩
def zl(n a b:Nat):AI:=⟨some n,none,.load a false (.t b)⟩
def zi(n:Int):Arg:=.k (.int .i64 n)
def zr(l:List AI):AC:=.j9 l false
instance (n:Nat):OfNat Arg n:=⟨.t n⟩
def cJ(n:Int):DV:=.int .i64 n
def fq:DV:=.str []
def dN:DV:=.sl []
def uX:DV:=.bool false
def ajJ:DV:=.bool true
def Cl:Arg:=.k (.bool false)
def ob:Arg:=.k (.bool true)
def Ax:Arg:=.k (.str [])
def qV:Arg:=.k (.sl [])
def aP(s:List UInt8):Arg:=.k (.str s)
def jB(n:Int):Arg:=.k (.int .u8 n)
inductive bu where
 |o (f:Nat->List AI×Nat)
 |c (f:Nat->AC×Nat)
 |s
def kT(o:qp):bu:=.o fun d=>([⟨some d,none,o⟩],d+1)
def jL(o:Nat->qp):bu:=.o fun d=>([⟨some d,none,o (d-1)⟩],d+1)
def YB(x:Nat)(o:qp):bu:=.o fun d=>([⟨some x,none,o⟩],d)
def aeN(o:qp):bu:=.o fun d=>([⟨none,none,o⟩],d)
def J(x:Nat):bu:=.o fun _=>([],x)
def aeM(x:Nat):bu:=kT (.lR (.t x))
instance (n:Nat):OfNat bu n:=⟨aeM n⟩
theorem ak4(n:Nat):(OfNat.ofNat n:bu)=aeM n:=rfl
def ya:List bu->Nat->List AI×Nat
 |[],d=>([],d)
 | .o f::r,d=>((f d).1++(ya r (f d).2).1,(ya r (f d).2).2)
 | .s::r,d=>ya r d
 | .c _::r,d=>ya r d
def qc(l:List bu):bu:=.o (ya l)
def WX(s:Nat)(b:Bool):List AI->List AI
 |[]=>[]
 |a::r=>⟨a.d,some (s,b),a.o⟩::WX s b r
def aeK(s:Nat)(b:Bool)(l:List bu):bu:=.o fun d=>(WX s b (ya l d).1,(ya l d).2)
def Q9:List AI->List AC->List AC
 |[],r=>r
 |a::l,r=> .j9 (a::l) false::r
def IA:List bu->List AI->Nat->List AC×Nat
 |[],l,d=>(Q9 l [],d)
 | .o f::r,l,d=>IA r (l++(f d).1) (f d).2
 | .s::r,l,d=>(Q9 l (IA r [] d).1,(IA r [] d).2)
 | .c f::r,l,d=>(Q9 l ((f d).1::(IA r [] (f d).2).1),(IA r [] (f d).2).2)
def aeL:List AC->AC
 |[]=> .skip
 |[a]=>a
 |a::b::r=> .seq a (aeL (b::r))
def Ge(l:List bu)(d:Nat):AC×Nat:=(aeL (IA l [] d).1,(IA l [] d).2)
def OW(f:AC->AC)(l:List bu):bu:=.c fun d=>(f (Ge l d).1,(Ge l d).2)
def aeO(f:List AI->AC)(l:List bu):bu:=.c fun d=>(f (ya l d).1,(ya l d).2)
def aG:List bu->bu:=OW fun a=>a
def fI(x:Arg)(n:Nat):bu:=.c fun d=>(.cond x .skip (.exit n),d)
def gI(x:Arg):List bu->bu:=OW fun a=> .cond x a .skip
def aX:bu:=.c fun d=>(.ret,d)
def ak5:bu:=.c fun d=>(.skip,d)
def aeU(n:Nat):bu:=.c fun d=>(.exit n,d)
def bg(x:Arg)(l:List bu):bu:=gI x (l++[aX])
def bB(x:Arg)(l k:List bu):bu:=.c fun d=>(.cond x (Ge l d).1 (Ge k (Ge l d).2).1,(Ge k (Ge l d).2).2)
def cU(n:Nat):List bu->bu:=OW fun a=> .block n a
def fG(n:Nat):List bu->bu:=OW fun a=> .block n (.loop a)
def ak6:List bu->bu:=OW fun a=> .loop a
def ea(l:List bu)(m:List Nat)(i:List (Nat×Nat)):bu:=aeO (fun l=> .yY l m i) l
def zo(l:List bu)(f:List AI->AC):bu:=aeO f l
def bw(n t:Nat)(r:List yh)(l:List bu):AF:=⟨n,t,r,(Ge l n).1⟩
def uY(x:Arg):qp:=.lR x
def df:List DV:=[cJ 0,cJ 0,fq,dN,dN]
def dy:List DV:=[fq]
def eL:List DV:=[cJ 0,dN,dN]
def lG:List DV:=[cJ 0,cJ 0]
def nw:List DV:=[cJ 0,fq,fq,cJ 0,cJ 0,cJ 0,fq,dN,dN,cJ 0,cJ 0,fq,cJ 0,dN,dN,cJ 0,cJ 0,fq,dN,dN,fq,dN,cJ 0,cJ 0,fq,dN,dN,dN,cJ 0,fq,uX,cJ 0,cJ 0,dN]
def tO:List DV:=[fq,cJ 0,cJ 0,cJ 0,fq,dN,dN]
def EP:List DV:=[cJ 0,dN,dN,cJ 0,cJ 0,fq,dN,dN,cJ 0,cJ 0,fq,dN,dN]
def ER:List DV:=[fq,cJ 0,cJ 0,fq,dN,dN]
def HO:List DV:=[.int .u8 0]
def lE(e:Arg):bu:=kT (.lR e)
def zql(e a:Nat):bu:=kT (.load e false (.t a))
def aiD(e:Nat):bu:=jL fun d=> .load e false (.t d)
def mJ(e a:Nat):bu:=kT (.load e true (.t a))
def iY(e:Nat):bu:=jL fun d=> .load e true (.t d)
def Ma(e a:Nat):bu:=kT (.mT e (.t a))
def uG(e:Nat):bu:=jL fun d=> .mT e (.t d)
def zqy(e:Nat):bu:=kT (.vI (.t e))
def Mi:bu:=jL fun d=> .vI (.t d)
def HL(e a:Nat):bu:=kT (.ext (.t a) e)
def YA(e:Nat):bu:=jL fun d=> .ext (.t d) e
def W0(e:Nat):bu:=kT (.pj (.t e))
def dA:bu:=jL fun d=> .pj (.t d)
def gO:bu:=jL fun d=> .xD (.t d)
def nq:bu:=jL fun d=> .not (.t d)
def mD(e:Nat):bu:=kT (.box (.t e))
def jx:bu:=jL fun d=> .box (.t d)
def aeR:bu:=jL fun d=> .range (.t d)
def aeT:bu:=jL fun d=> .next (.t d)
def db(e:Nat)(t:List Arg):bu:=kT (.call e t)
def cG(e:Nat):bu:=jL fun d=> .call e [.t d]
def sw(e t:Arg):bu:=kT (.eO .i64 .add e t)
def Me(e:Int):bu:=jL fun d=> .eO .i64 .add (.t d) (zi e)
def lV(e t:Arg):bu:=kT (.oL .add e t)
def pG(e:Arg):bu:=jL fun d=> .oL .add (.t d) e
def va(e:Int):bu:=jL fun d=> .eO .i64 .sub (.t d) (zi e)
def aeS(e:Int):bu:=jL fun d=> .eO .u8 .sub (.t d) (jB e)
def Mf(e t:Arg):bu:=kT (.eO .i64 .eql e t)
def gz(e:Int):bu:=jL fun d=> .eO .i64 .eql (.t d) (zi e)
def zj(e:Arg)(t:Int):bu:=kT (.eO .u8 .eql e (jB t))
def qW(e:Int):bu:=jL fun d=> .eO .u8 .eql (.t d) (jB e)
def Cm(e:Arg)(t:Int):bu:=kT (.eO .i32 .eql e (.k (.int .i32 t)))
def WY(e:Int):bu:=jL fun d=> .eO .i32 .eql (.t d) (.k (.int .i32 e))
def qd(e t:Arg):bu:=kT (.oL .eql e t)
def kg(e:Arg):bu:=jL fun d=> .oL .eql (.t d) e
def lh(e t:Arg):bu:=kT (.eO .i64 .neq e t)
def sy(e:Int):bu:=jL fun d=> .eO .i64 .neq (.t d) (zi e)
def HM(e:Int):bu:=jL fun d=> .eO .u8 .neq (.t d) (jB e)
def sM(e t:Arg):bu:=kT (.oL .neq e t)
def wZ(e:Arg):bu:=jL fun d=> .oL .neq (.t d) e
def gu(e t:Arg):bu:=kT (.eO .i64 .lss e t)
def pH(e:Int):bu:=jL fun d=> .eO .i64 .lss (.t d) (zi e)
def Mh(e:Int):bu:=jL fun d=> .eO .u8 .lss (.t d) (jB e)
def aiE(e t:Arg):bu:=kT (.oL .lss e t)
def YE(e t:Arg):bu:=kT (.eO .i64 .leq e t)
def u9(e:Int):bu:=jL fun d=> .eO .i64 .leq (.t d) (zi e)
def EO(e:Int):bu:=jL fun d=> .eO .u8 .leq (.t d) (jB e)
def aiF(e t:Arg):bu:=kT (.eO .i64 .gtr e t)
def dO(e:Int):bu:=jL fun d=> .eO .i64 .gtr (.t d) (zi e)
def Mg(e:Int):bu:=jL fun d=> .eO .u8 .gtr (.t d) (jB e)
def YD(e t:Arg):bu:=kT (.eO .i64 .geq e t)
def yd(e:Int):bu:=jL fun d=> .eO .i64 .geq (.t d) (zi e)
def EN(e:Int):bu:=jL fun d=> .eO .u8 .geq (.t d) (jB e)
def YC(e t:Arg):bu:=kT (.oL .geq e t)
def zqZ(e t a:Arg):bu:=kT (.pick e t a)
def aiC(e a:Arg):bu:=jL fun d=> .pick e a (.t d)
def Ck(e:Nat)(t a:Arg):bu:=kT (.qI e t a)
def pF(e:Nat)(a:Arg):bu:=jL fun d=> .qI e a (.t d)
def uH(e a:Nat):bu:=YB e (.lR (.t a))
def bC(e:Nat):bu:=.o fun d=>([⟨some e,none,.lR (.t (d-1))⟩],d)
def ke(e:Nat)(t a:Arg):bu:=aeN (.store e t a)
def fM(e:Nat)(a:Arg):bu:=.o fun d=>([⟨none,none,.store e a (.t (d-1))⟩],d)
def zqX(e t:Arg):bu:=kT (.Fz e t)
def mG(e:Arg):bu:=jL fun d=> .Fz e (.t d)
def x8(e:Arg)(t a:Option Arg):bu:=kT (.gR e t a)
def ji(e:List DV)(t:List (Nat×Nat×Arg)):bu:=kT (.build e t)
def zh(e:Nat)(t:List DV):bu:=kT (.alloc e t)
def oV(e:Nat)(t:List DV):bu:=YB e (.alloc 0 t)
def DE(e:Nat)(t:List DV)(a:Nat)(o:List (Nat×Arg)):bu:=kT (.vy e t a o)
def jX(e:Nat)(a:List DV):bu:=jL fun d=> .vy e a 1 [(0,.t d)]
def sI(e a:Nat)(o:List DV)(i:Arg):bu:=jL fun d=> .app e a o i (.t d)
def fk(e:qp):bu:=kT e
def EL(e:Nat)(t:qp):bu:=YB e t
def zqN(e:qp):bu:=aeN e
def cO(e:Nat)(t:List bu):bu:=aeK e true t
def dM(e:Nat)(t:List bu):bu:=aeK e false t
def bo:bu:=lE Cl
def nP:bu:=aiD 1
def gr(e t:Nat):bu:=qc [Ma e t,nP]
def di(e t:Arg):bu:=zqZ e t Cl
def cL(e:Arg):bu:=aiC e ob
def gV(e:Nat):bu:=qc [Mi,uG e]
def eG:bu:=lE (zi 0)
def eU(e:Nat):bu:=qc [gV e,nP]
def qH(e:Nat):bu:=EL e (uY Cl)
def fY(e t:Arg)(a:Nat):bu:=qc [Mf e t,bC a]
def fK:bu:=lE Ax
def fP:bu:=lE ob
def mb(e t:Nat):bu:=qc [cG e,bC t]
def iP(e t:Arg):bu:=ke 1 e t
def cA(e:Nat):bu:=gr e 1
def uZ(e t a o:Nat):bu:=qc [HL e t,HL a o]
def cC(e:Nat):bu:=gr e 2
def ek(e:Nat)(t:List Arg)(a:Nat):bu:=qc [db e t,bC a]
def dX:bu:=Me 1
def gB(e:Nat):bu:=zql 1 e
def qn(e t:Nat):bu:=qc [zqy e,uG t]
def tM(e:Nat):bu:=EL e (uY ob)
def dY(e:Nat)(t:List Arg):bu:=qc [db e t,nq]
def er(e t:Arg)(a:Nat):bu:=qc [di e t,bC a]
def aeP(e t a o i n:Nat):bu:=qc [mb e t,uZ a o i n]
def fb(e t a:Nat):bu:=qc [uH e t,bC a]
def fD(e:List DV):bu:=ji e []
def dc:bu:=eU 1
def sr:bu:=lE (zi (-1))
def nh(e:Nat)(t:Arg):bu:=Ck e t (zi 0)
def fE(e t:Nat)(a o:Arg):bu:=qc [qn e t,iP a o]
def gm(e:Nat):bu:=qc [dX,bC e]
def dD:bu:=gB 2
def oc:bu:=kg Ax
def gp(e t:Nat)(a o:Arg):bu:=qc [Ma e t,iP a o]
def iD(e:Nat):bu:=qc [cA e,dA]
def WZ:bu:=fk (.pZ 5 df (.ka df))
def fu:bu:=bC 2
def eT(e:Arg):bu:=fM 5 e
def iQ(e:Nat)(t:Arg):bu:=qc [pF e t,nP]
def fv(e:Nat):bu:=mJ 5 e
def aeQ(e t a o i:Nat):bu:=aeP e t 0 a o i
def dH(e t a o:Nat):bu:=aeQ e t a 1 o
def iR(e t a:Nat):bu:=qc [cC e,gr t a]
def su(e:Arg):bu:=sw e (zi 1)
def ja(e:Nat):bu:=oV e df
def Mb:bu:=kg (aP [102,111,108,100])
def kf(e:Nat):bu:=qc [cG e,nq]
def gy:bu:=gz 0
def gC:bu:=bC 4
def jR(e t a:Nat):bu:=qc [Ma e t,iY a]
def kY(e:Nat):bu:=qc [uG e,nP]
def gq(e:Arg)(t:Nat):bu:=fY 3 e t
def Mc:bu:=wZ (aP [101,110,100])
def EM:bu:=pG (aP [32])
def od(e:List Arg):bu:=db 191 e
def nj(e:List Arg)(t:Nat):bu:=ek 288 e t
def aqQ(_:AF):Prop:=True
theorem ajP(n:Nat):(OfNat.ofNat n:Arg)=.t n:=rfl
def agm(_:AF):Type:=AF
def aiG{x:AF}(k:aqQ x->AF):agm x:=k trivial
def aU(x:AF)(y:agm x:=by
 refine aiG fun h=>?_
 dsimp only[cJ,fq,dN,uX,ajJ,Cl,ob,Ax,qV,aP,jB,kT,jL,YB,aeN,J,aeM,ya,qc,WX,aeK,Q9,IA,aeL,Ge,OW,aeO,aG,fI,gI,aX,ak5,aeU,bg,bB,cU,fG,ak6,ea,zo,bw,uY,df,dy,eL,lG,nw,tO,EP,ER,HO,lE,zql,aiD,mJ,iY,Ma,uG,zqy,Mi,HL,YA,W0,dA,gO,nq,mD,jx,aeR,aeT,db,cG,sw,Me,lV,pG,va,aeS,Mf,gz,zj,qW,Cm,WY,qd,kg,lh,sy,HM,sM,wZ,gu,pH,Mh,aiE,YE,u9,EO,aiF,dO,Mg,YD,yd,EN,YC,zqZ,aiC,Ck,pF,uH,bC,ke,fM,zqX,mG,x8,ji,zh,oV,DE,jX,sI,fk,EL,zqN,cO,dM,bo,nP,gr,di,cL,gV,eG,eU,qH,fY,fK,fP,mb,iP,cA,uZ,cC,ek,dX,gB,qn,tM,dY,er,aeP,fb,fD,dc,sr,nh,fE,gm,dD,oc,gp,iD,WZ,fu,eT,iQ,fv,aeQ,dH,iR,su,ja,Mb,kf,gy,gC,jR,kY,gq,Mc,EM,od,nj,ajP,ak4,List.cons_append,List.nil_append,Nat.reduceAdd,Nat.reduceSub,zi]at h;exact(⟨_,h⟩:{y:AF//aqQ y}).1):AF:=y
abbrev bJ:=List (List DV)
abbrev bm:=List (Nat×Nat)
abbrev YL:=List (Option Nat)
def ov(b:Bool)(x y:Prop):Prop:=match b with|true=>x|false=>y
theorem bS{b:Bool}{x y:Prop}(e:b=true->x)(t:b=false->y):ov b x y:=by cases b<;>simp_all[ov]
def cf{α:Type}(xs:List α)(i:Int)(K:α->Prop):Prop:=∃x,0<=i/\xs[i.toNat]?=some x/\K x
def jf(a b:Int):Bool:=decide (a=b)
def qy(a b:Int):Bool:=decide (a<b)
def vF(a b:Int):Bool:=decide (a<=b)
def uh(a b:List UInt8):Bool:=a==b
def dT(a b:List UInt8):Bool:=Op.bytesLess a b
def bI(p K:Prop):Prop:=p/\K
theorem ad{p K:Prop}(h:p)(k:K):bI p K:=⟨h,k⟩
def force(v:AV)(K:AV->Prop):Prop:=
 match v with
 | .d x=>K (.d x)| .ptr b j=>K (.ptr b j)| .ru b e i j=>K (.ru b e i j)| .gA a=>K (.gA a)| .aO o t=>K (.aO o t)
 | .rC b n=>K (.rC b n)| .agg a=>K (.agg a)| .b6 s=>K (.b6 s)| .fn f c=>K (.fn f c)| .oH t v=>K (.oH t v)| .uv b=>K (.uv b)| .bM=>K .bM| .oQ o t=>K (.oQ o t)
 | .kh es p o ds zs k=>K (.kh es p o ds zs k)| .kn k C q=>K (.kn k C q)| .lit a=>K (.lit a)
 | .ni b=>K (.ni b)
def Hk(a b:IntKind)(K:Prop):Prop:=
 match a,b with
 | .i8,.i8=>K| .i16,.i16=>K| .i32,.i32=>K| .i64,.i64=>K| .u8,.u8=>K| .u16,.u16=>K| .u32,.u32=>K| .u64,.u64=>K
 |_,_=>False
def l8(k:IntKind)(op:Gt)(a b:Int)(K:DV->Prop):Prop:=
 match op with
 | .add=>K (.int k (k.wrap (a+b)))
 | .sub=>K (.int k (k.wrap (a-b)))
 | .mul=>K (.int k (k.wrap (a*b)))
 | .quo=>bI (b≠0) (K (.int k (k.wrap (Int.tdiv a b))))
 | .rem=>bI (b≠0) (K (.int k (Int.tmod a b)))
 | .eql=>K (.bool (jf a b))
 | .neq=>K (.bool (!jf a b))
 | .lss=>K (.bool (qy a b))
 | .leq=>K (.bool (vF a b))
 | .gtr=>K (.bool (qy b a))
 | .geq=>K (.bool (vF b a))
 |_=>False
def LS(op:Gt)(a b:List UInt8)(K:DV->Prop):Prop:=
 match op with
 | .add=>bI (a.length+b.length<=140737488355328) (K (.str (a++b)))
 | .eql=>K (.bool (uh a b))
 | .neq=>K (.bool (!uh a b))
 | .lss=>K (.bool (dT a b))
 | .leq=>K (.bool (dT a b||uh a b))
 | .gtr=>K (.bool (!(dT a b||uh a b)))
 | .geq=>K (.bool (!dT a b))
 |_=>False
def pz{α:Type}:List α->Nat->α->(List α->Prop)->Prop
 |[],_,_,_=>False
 |_::r,0,v,K=>K (v::r)
 |x::r,n+1,v,K=>pz r n v fun l=>K (x::l)
def tK{α:Type}:List α->α->(List α->Prop)->Prop
 |[],v,K=>K [v]
 |x::r,v,K=>tK r v fun l=>K (x::l)
def Br{α:Type}:List α->List α->(List α->Prop)->Prop
 |[],e,K=>K e
 |x::r,e,K=>Br r e fun l=>K (x::l)
def DK{α:Type}:List α->Nat
 |[]=>0
 |_::r=>DK r+1
def bW(s:List UInt8)(p:Nat)(A:Int->Prop)(B:Prop):Prop:=
 (∀b,s[p]?=some b->b.toNat<128/\A b.toNat)/\(s.length<=p->B)
def oM{α:Type}:List α->(j n:Nat)->(List α->Prop)->Prop
 |[],_,0,K=>K []
 |[],_,_+1,_=>False
 |_::r,j+1,n,K=>oM r j n K
 |_::_,0,0,K=>K []
 |x::r,0,n+1,K=>oM r 0 n fun l=>K (x::l)
def uN{α:Type}:List α->Nat->(List α->Prop)->Prop
 |l,0,K=>K l
 |_::r,n+1,K=>uN r n K
 |[],_+1,_=>False
def rq{α:Type}:List α->Nat->Prop->Prop
 |[],0,K=>K
 |_::r,n+1,K=>rq r n K
 |_,_,_=>False
def xL:List DV->(List AV->Prop)->Prop
 |[],K=>K []
 |x::r,K=>xL r fun l=>K (.d x::l)
def Ga:DV->AV
 | .sl []=> .aO [] .nil
 |v=> .d v
def UC:List DV->List AV
 |[]=>[]
 |x::r=>Ga x::UC r
def HJ:List DV->(List AV->Prop)->Prop
 |[],K=>K []
 |x::r,K=>force (Ga x) fun v=>HJ r fun l=>K (v::l)
def xJ{α:Type}:List α->(j:Nat)->List α->(List α->Prop)->Prop
 |cs,_,[],K=>K cs
 |[],_,_::_,_=>False
 |x::r,j+1,v::e,K=>xJ r j (v::e) fun l=>K (x::l)
 |_::r,0,v::e,K=>xJ r 0 e fun l=>K (v::l)
def Hs:List AV->Prop->Prop
 |[],K=>K
 | .agg _::_,_=>False
 | .b6 _::_,_=>False
 | .bM::_,_=>False
 |_::r,K=>Hs r K
def cellsOf:AV->(List AV->Prop)->Prop
 | .agg e,K=>Hs e (K e)
 |v,K=>force v fun v=>Hs [v] (K [v])
def Lx:AV->(DV->Prop)->Prop
 | .d v,K=>K v
 | .aO e _,K=>K (.sl e)
 |_,_=>False
def C4:List AV->(List DV->Prop)->Prop
 |[],K=>K []
 |v::r,K=>Lx v fun d=>C4 r fun l=>K (d::l)
def gX(b:UInt8):List DV:=[.int .u8 b.toNat]
def km:List DV->UInt8
 |[.int _ n]=>UInt8.ofNat n.toNat
 |_=>0
def chunks(es:Nat):Nat->List DV->bJ
 |0,_=>[]
 |n+1,e=>e.take es::chunks es n (e.drop es)
def zK:AV->(bJ->Prop)->Prop
 | .d (.sl e),K=>K e
 | .aO e _,K=>K e
 |_,_=>False
abbrev Env:=List (Nat×AV)
structure St where
 env:Env
 nb:Nat
 bx:List Bx
 rl:bm
def FK(t:Arg->AV):List AV->List (Nat×Nat×Arg)->(List AV->Prop)->Prop
 |cs,[],K=>K cs
 |cs,(e,m,x)::r,K=>cellsOf (t x) fun a=>rq a m<|xJ cs e a fun cs=>FK t cs r K
def Nu(e:Arg->AV)(es:Nat):Nat->List (Nat×Arg)->(bJ->Prop)->Prop
 |_,[],K=>K []
 |i,(j,x)::r,K=>match Nat.beq i j with
  |true=>cellsOf (e x) fun t=>rq t es<|C4 t fun ds=>Nu e es (i+1) r fun l=>K (ds::l)
  |false=>False
def vx(t:Arg->AV)(x:Option Arg)(e:Int)(K:Int->Prop):Prop:=
 match x with
 |none=>K e
 |some a=>match t a with
  | .d (.int _ n)=>K n
  |_=>False
section
variable(gl:Nat->List DV)(CQ:Nat->List AV->(AV->Prop)->Prop)(CK:Nat->List AV->Nat->List Bx->bm->(AV->Nat->List Bx->bm->Prop)->Prop)(LW:AC->St->(AE->St->Prop)->Prop)
def bL(env:Env):Arg->AV
 | .t i=>look env i
 | .k v=>Ga v
 | .ka e=> .agg (UC e)
 | .g i=> .gA (gl i)
 | .f i=> .fn i []
def qM(env:Env):List Arg->(List AV->Prop)->Prop
 |[],K=>K []
 |x::r,K=>force (bL gl env x) fun v=>qM env r fun l=>K (v::l)
def iO(e:Bool)(cs:List AV)(K:AV->Prop):Prop:=
 match e with
 |true=>K (.agg cs)
 |false=>match cs with|[v]=>force v K|_=>False
def oR(z:List DV)(es:Nat):Nat:=
 match z with
 |[.int .u8 _]=>1000
 |_=>es
def Xx(key:Nat):Nat:=
 match Nat.beq key 1000 with
 |true=>1
 |false=>key
def gw(key:Nat):Nat:=Xx (key%10000)
def vw(es bytes key:Nat)(v:AV)(ys:bJ)(rl:bm)(K:AV->bm->Prop):Prop:=
 match v with
 | .aO a t=>bI ((a.length+ys.length)*bytes<=140737488355328/\∀y,y∈ys->y.length=es)<|match t with
  | .nil=>tK rl (ys.length,key) fun o=>K (.aO ys (.row (DK rl))) o
  | .full=>match ys with
   |_::_=>bI (∀x,x∈a->x.length=es)<|tK rl (a.length+ys.length,key) fun o=>K (.aO (a++ys) (.row (DK rl))) o
   |[]=>K (.aO a .full) rl
  | .row k=>match nth rl k with
   |some (n,e)=>bI (a.length=n/\e=key) (pz rl k (n+ys.length,key) fun rl=>K (.aO (a++ys) (.row k)) rl)
   |none=>False
  | .fe _=>False
  | .sub _ _=>False
  | .uu _ _ _=>False
 |_=>False
def owned(e:Nat):Bool:=Nat.beq (Nat.mod (Nat.div e 10000) 10) 2
def Aj(md:Nat)(K:Bool->Prop):Prop:=
 match md with
 |1=>K false
 |2=>K true
 |_=>False
def qB(fl:Bool):AV->bm->(DV->bm->Prop)->Prop
 | .kh es p a ds zs k,t,K=>match nth t k with
  |some (c,e)=>Aj (Nat.mod (Nat.div e 10000) 10) fun o=>match o with
   |true=>bI (c=2*(a.length*es+p)+1) (Br ds zs fun y=>pz t k (2*((a.length+1)*es),e+10000) fun t=>K (.sl (a++[y])) t)
   |false=>match fl with
    |true=>False
    |false=>bI (c=2*(a.length*es+p)+1) (Br ds zs fun y=>pz t k (2*((a.length+1)*es),e) fun t=>K (.sl (a++[y])) t)
  |none=>False
 |v,t,K=>match fl with
  |false=>Lx v fun d=>K d t
  |true=>match v with
   | .d (.bool b)=>K (.bool b) t
   | .d (.int k n)=>K (.int k n) t
   | .d (.str s)=>K (.str s) t
   | .aO a .nil=>K (.sl a) t
   | .aO a (.fe j)=>match nth t j with
    |some (c,e)=>match owned e with
     |true=>bI (c=2*(a.length*gw e)) (pz t j (c,e+10000) fun t=>K (.sl a) t)
     |false=>False
    |none=>False
   | .aO a (.sub j C)=>match nth t j with
    |some (c,e)=>match owned e with
     |true=>bI (c=C) (pz t j (c,e+10000) fun t=>K (.sl a) t)
     |false=>False
    |none=>False
   |_=>False
def XV:AV->AV->Bool
 | .aO _ (.uu k C o),.aO _ (.uu e t a)=>match Nat.beq k e with
  |true=>match Nat.beq C t with
   |true=>match Nat.beq o a with|true=>false|false=>true
   |false=>false
  |false=>false
 |_,_=>false
def Jl:AV->(bJ->Nat->Nat->Prop)->Prop
 | .aO e (.uu k C _),K=>K e k C
 |_,_=>False
def Yd(v u:AV)(rl:bm)(K:DV->DV->bm->Prop):Prop:=
 Jl v fun t k C=>Jl u fun a _ _=>match nth rl k with
  |some (c,e)=>match owned e with
   |true=>bI (c=C) (pz rl k (c,e+10000) fun rl=>K (.sl t) (.sl a) rl)
   |false=>False
  |none=>False
def sa(fl:Bool):List AV->bm->(List DV->bm->Prop)->Prop
 |[],e,K=>K [] e
 |[v],e,K=>qB fl v e fun d e=>K [d] e
 |v::u::r,e,K=>match fl with
  |true=>match XV v u with
   |true=>Yd v u e fun d t e=>sa true r e fun ds e=>K (d::t::ds) e
   |false=>qB true v e fun d e=>sa true (u::r) e fun ds e=>K (d::ds) e
  |false=>qB false v e fun d e=>sa false (u::r) e fun ds e=>K (d::ds) e
def SQ(k C:Nat):Nat->List DV->(List AV->Prop)->Prop
 |_,[],K=>K []
 |o,.sl e::r,K=>SQ k C (o+1) r fun l=>K (.aO e (.uu k C o)::l)
 |o,d::r,K=>SQ k C (o+1) r fun l=>K (.d d::l)
def LV{α:Type}:List α->Nat->(List α->Prop)->Prop
 |_,0,K=>K []
 |[],_+1,_=>False
 |x::r,n+1,K=>LV r n fun l=>K (x::l)
def BB:List DV->Bool
 |[]=>true
 | .sl (_::_)::_=>false
 |_::r=>BB r
def xI(p:Option Nat)(es:Nat)(z:List DV)(fl:Bool)(xs:bJ)(cs:List AV)(rl:bm)(K:(Nat->AV)->Nat->bm->Prop):Prop:=
 rq cs es<|match p with
  |none=>sa fl cs rl fun ds rl=>K (fun k=> .aO (xs++[ds]) (.fe k)) (2*((xs.length+1)*es)) rl
  |some q=>LV cs q fun e=>uN cs q fun c2=>uN z q fun zs=>match zs with
   |[]=>False
   |_::_=>bI (c2=UC zs/\BB z=true)<|sa fl e rl fun ds rl=>K (fun k=> .kh es q xs ds zs k) (2*(xs.length*es+q)+1) rl
def vv(md:Nat)(p:Option Nat)(es bytes:Nat)(z:List DV)(v:AV)(cs:List AV)(rl:bm)(K:AV->bm->Prop):Prop:=
 Aj (Nat.mod md 10) fun o=>match v with
 | .aO _ .nil=>bI (bytes<=140737488355328/\z.length=es)<|xI p es z o [] cs rl fun f c rl=>tK rl (c,md*10000+es) fun a=>force (f (DK rl)) fun v=>K v a
 | .aO t .full=>bI (t=[]/\bytes<=140737488355328/\z.length=es)<|xI p es z o [] cs rl fun f c rl=>tK rl (c,md*10000+es) fun a=>force (f (DK rl)) fun v=>K v a
 | .aO t (.fe k)=>bI ((t.length+1)*bytes<=140737488355328/\z.length=es)<|xI p es z o t cs rl fun f c rl=>match nth rl k with
  |some (n,e)=>bI (n=2*(t.length*es)/\e=md*10000+es) (pz rl k (c,md*10000+es) fun rl=>force (f k) fun v=>K v rl)
  |none=>False
 | .kh i q t ds zs k=>Br ds zs fun y=>bI ((t.length+2)*bytes<=140737488355328/\z.length=es/\i=es)<|xI p es z o (t++[y]) cs rl fun f c rl=>match nth rl k with
  |some (n,e)=>bI (n=2*(t.length*es+q)+1/\e=md*10000+es) (pz rl k (c,md*10000+es) fun rl=>force (f k) fun v=>K v rl)
  |none=>False
 |_=>False
def F5(k m:Nat)(e:List DV)(C:Nat):List AV->(List AV->Nat->Prop)->(Prop)->Prop
 |[],_,N=>N
 | .kh es p xs ds zs k'::r,K,N=>match Nat.beq k k' with
  |true=>bI (C=2*(xs.length*es+p)+1)<|Br ds e fun ds=>uN zs m fun zs=>match zs with
   |[]=>K (.aO (xs++[ds]) (.fe k)::r) (2*((xs.length+1)*es))
   |z::zr=>K (.kh es (p+m) xs ds (z::zr) k::r) (2*(xs.length*es+(p+m))+1)
  |false=>F5 k m e C r (fun l c=>K (.kh es p xs ds zs k'::l) c) N
 |v::r,K,N=>F5 k m e C r (fun l c=>K (v::l) c) N
def F4(k m:Nat)(e:List DV)(C:Nat):List Bx->(List Bx->Nat->Prop)->Prop
 |[],_=>False
 | .var ty cs::r,K=>F5 k m e C cs (fun l c=>K (.var ty l::r) c) (F4 k m e C r fun b c=>K (.var ty cs::b) c)
 |b::r,K=>F4 k m e C r fun l c=>K (b::l) c
def ud(c:Arg)(t:Bool)(env:Env)(A B:Env->Prop):Prop:=
 match c with
 | .t i=>ov t (A ((i,.d (.bool true))::env)) (B ((i,.d (.bool false))::env))
 |_=>ov t (A env) (B env)
def cB(o:qp):St->(AV->St->Prop)->Prop
 |⟨u,E,w,g⟩,K=>match o with
  | .lR x=>force (bL gl u x) fun v=>K v ⟨u,E,w,g⟩
  | .pick c a b=>match bL gl u c with
   | .d (.bool t)=>ud c t u (fun u=>force (bL gl u a) fun v=>K v ⟨u,E,w,g⟩) (fun u=>force (bL gl u b) fun v=>K v ⟨u,E,w,g⟩)
   |_=>False
  | .alloc U z=>HJ z fun cs=>tK w (.var U cs) fun w=>K (.ptr E 0) ⟨u,E+1,w,g⟩
  | .box x=>cellsOf (bL gl u x) fun cs=>tK w (.var 0 cs) fun w=>K (.ptr E 0) ⟨u,E+1,w,g⟩
  | .load n H x=>match bL gl u x with
   | .gA cs=>oM cs 0 n fun cs=>xL cs fun cs=>iO H cs fun v=>K v ⟨u,E,w,g⟩
   | .ptr b j=>match nth w b with
    |some (.var _ cs)=>oM cs j n fun cs=>iO H cs fun v=>K v ⟨u,E,w,g⟩
    |_=>False
   |_=>False
  | .store m x v=>match bL gl u x with
   | .ptr b j=>match nth w b with
    |some (.var U cs)=>cellsOf (bL gl u v) fun A=>rq A m<|xJ cs j A fun cs=>pz w b (.var U cs) fun w=>K .bM ⟨u,E,w,g⟩
    |_=>False
   | .ru b es i j=>match nth w b with
    |some (.row e T)=>cellsOf (bL gl u v) fun A=>rq A m<|C4 A fun ds=>bI (e=es/\m=es/\j=0/\i<T.length) (pz w b (.row e (T.set i ds)) fun w=>K .bM ⟨u,E,w,g⟩)
    |_=>False
   | .kn k C q=>match nth g k with
    |some (_,e)=>Aj (Nat.mod (Nat.div e 10000) 10) fun M=>cellsOf (bL gl u v) fun A=>rq A m<|sa M A g fun ds g=>match nth g k with
     |some (n,G)=>bI (n=C/\C=2*q+1/\G=e)<|F4 k m ds C w fun w c=>pz g k (c,e) fun g=>K .bM ⟨u,E,w,g⟩
     |none=>False
    |none=>False
   |_=>False
  | .vI x=>match bL gl u x with
   | .ptr b j=>K (.ptr b j) ⟨u,E,w,g⟩
   | .kn k C q=>K (.kn k C q) ⟨u,E,w,g⟩
   | .gA cs=>K (.gA cs) ⟨u,E,w,g⟩
   | .fn f c=>K (.fn f c) ⟨u,E,w,g⟩
   |_=>False
  | .eO _ F x y=>match bL gl u x,bL gl u y with
   | .d (.int B a),.d (.int J b)=>Hk B J<|l8 B F a b fun v=>K (.d v) ⟨u,E,w,g⟩
   |_,_=>False
  | .oL F x y=>match bL gl u x,bL gl u y with
   | .d (.str a),.d (.str b)=>LS F a b fun v=>K (.d v) ⟨u,E,w,g⟩
   |_,_=>False
  | .not x=>match bL gl u x with
   | .d (.bool t)=>match x with
    | .t i=>ov t (K (.d (.bool false)) ⟨(i,.d (.bool true))::u,E,w,g⟩) (K (.d (.bool true)) ⟨(i,.d (.bool false))::u,E,w,g⟩)
    |_=>K (.d (.bool (!t))) ⟨u,E,w,g⟩
   |_=>False
  | .mT O x=>match bL gl u x with
   | .ptr b j=>K (.ptr b (j+O)) ⟨u,E,w,g⟩
   | .gA cs=>uN cs O fun cs=>K (.gA cs) ⟨u,E,w,g⟩
   | .kn k C q=>K (.kn k C (q+O)) ⟨u,E,w,g⟩
   |_=>False
  | .qI es x i=>match bL gl u x,bL gl u i with
   | .d (.sl T),.d (.int _ n)=>cf T n fun cs=>bI (cs.length=es) (K (.gA cs) ⟨u,E,w,g⟩)
   | .aO T _,.d (.int _ n)=>cf T n fun cs=>bI (cs.length=es) (K (.gA cs) ⟨u,E,w,g⟩)
   | .rC b m,.d (.int _ n)=>bI (0<=n/\n<m) (K (.ru b es n.toNat 0) ⟨u,E,w,g⟩)
   | .kh Y p T _ _ k,.d (.int _ n)=>bI (n=T.length/\Y=es) (K (.kn k (2*(T.length*es+p)+1) (T.length*es)) ⟨u,E,w,g⟩)
   |_,_=>False
  | .ext x i=>match bL gl u x with
   | .b6 A=>match nth A i with|some v=>force v fun v=>K v ⟨u,E,w,g⟩|none=>False
   |_=>False
  | .OL t x=>match bL gl u x with
   | .oH Q v=>match Nat.beq t Q with|true=>K (.b6 [v,.d (.bool true)]) ⟨u,E,w,g⟩|false=>False
   |_=>False
  | .call f T=>qM gl u T fun as=>CK f as E w g fun v E w g=>K v ⟨u,E,w,g⟩
  | .xD x=>match bL gl u x with
   | .d (.str s)=>(s.length<=140737488355328->K (.d (.int .i64 s.length)) ⟨u,E,w,g⟩)
   |_=>False
  | .pj x=>match bL gl u x with
   | .d (.sl T)=>(T.length<=140737488355328->K (.d (.int .i64 T.length)) ⟨u,E,w,g⟩)
   | .aO T _=>(T.length<=140737488355328->K (.d (.int .i64 T.length)) ⟨u,E,w,g⟩)
   | .rC _ n=>(n<=140737488355328->K (.d (.int .i64 n)) ⟨u,E,w,g⟩)
   | .kh _ _ T _ _ _=>(T.length+1<=140737488355328->K (.d (.int .i64 (T.length+1))) ⟨u,E,w,g⟩)
   |_=>False
  | .neg x=>match bL gl u x with
   | .d (.int k n)=>K (.d (.int k (k.wrap (0-n)))) ⟨u,E,w,g⟩
   |_=>False
  | .conv k x=>match bL gl u x with
   | .d (.int _ n)=>K (.d (.int k (k.wrap n))) ⟨u,E,w,g⟩
   |_=>False
  | .same x=>match bL gl u x with
   | .d (.str s)=>K (.d (.str s)) ⟨u,E,w,g⟩
   |_=>False
  | .ri N x y=>match bL gl u x,bL gl u y with
   | .d (.bool a),.d (.bool b)=>match N with
    |true=>K (.d (.bool (a !=b))) ⟨u,E,w,g⟩
    |false=>K (.d (.bool (a==b))) ⟨u,E,w,g⟩
   |_,_=>False
  | .AM N x y=>match bL gl u x,bL gl u y with
   | .ptr _ _,.d .cq=>K (.d (.bool N)) ⟨u,E,w,g⟩
   | .d .cq,.d .cq=>K (.d (.bool (!N))) ⟨u,E,w,g⟩
   |_,_=>False
  | .AL N X x y=>match X with
   |[]=>match bL gl u x,bL gl u y with
    | .d .mW,.d .mW=>K (.d (.bool (!N))) ⟨u,E,w,g⟩
    | .oH _ _,.d .mW=>K (.d (.bool N)) ⟨u,E,w,g⟩
    |_,_=>False
   |_::_=>match bL gl u x,bL gl u y with
    | .agg [.d (.int .i64 a),.d (.int .i64 b)],.agg [.d (.int .i64 c),.d (.int .i64 d)]=>K (.d (.bool (N !=(jf a c&&jf b d)))) ⟨u,E,w,g⟩
    | .agg [.ni true,.ni _],.agg [.d (.int .i64 c),.d (.int .i64 _)]=>bI (c=0) (K (.d (.bool N)) ⟨u,E,w,g⟩)
    |_,_=>False
  | .Fz x i=>match bL gl u x,bL gl u i with
   | .d (.str s),.d (.int _ n)=>cf s n fun b=>K (.d (.int .u8 b.toNat)) ⟨u,E,w,g⟩
   |_,_=>False
  | .H6 es n H x i=>match bL gl u x,bL gl u i with
   | .agg cs,.d (.int _ m)=>match es with
    |1=>match H with
     |false=>rq cs n<|cf cs m fun v=>K v ⟨u,E,w,g⟩
     |true=>False
    |_=>False
   |_,_=>False
  | .gR x S R=>match bL gl u x with
   | .d (.str s)=>vx (bL gl u) S 0 fun l=>vx (bL gl u) R s.length fun h=>
    bI (0<=l/\l<=h/\h<=s.length) (K (.d (.str ((s.take h.toNat).drop l.toNat))) ⟨u,E,w,g⟩)
   |_=>False
  | .BA es x S R=>zK (bL gl u x) fun T=>vx (bL gl u) S 0 fun l=>vx (bL gl u) R T.length fun h=>
    bI (0<=l/\l<=h/\h<=T.length/\∀x,x∈T->x.length=es) (K (.d (.sl ((T.take h.toNat).drop l.toNat))) ⟨u,E,w,g⟩)
  | .Fg es n x S R=>match bL gl u x,S,R with
   | .gA cs,none,none=>bI (cs.length=es*n) (K (.d (.sl (chunks es n cs))) ⟨u,E,w,g⟩)
   |_,_,_=>False
  | .xC es n x i=>match bL gl u x,bL gl u i with
   | .gA cs,.d (.int _ m)=>bI (cs.length=es*n) (cf (chunks es n cs) m fun c=>K (.gA c) ⟨u,E,w,g⟩)
   |_,_=>False
  | .build z D=>HJ z fun cs=>FK (bL gl u) cs D fun cs=>K (.agg cs) ⟨u,E,w,g⟩
  | .vy es _ n D=>rq D n<|Nu (bL gl u) es 0 D fun T=>K (.aO T .full) ⟨u,E,w,g⟩
  | .U' O m H x=>match bL gl u x with
   | .agg cs=>oM cs O m fun cs=>iO H cs fun v=>K v ⟨u,E,w,g⟩
   |_=>False
  | .app es bytes z x y=>zK (bL gl u y) fun Z=>vw es bytes (oR z es) (bL gl u x) Z g fun v g=>K v ⟨u,E,w,g⟩
  | .pZ es _ x=>cellsOf (bL gl u x) fun cs=>rq cs es<|K (.lit cs) ⟨u,E,w,g⟩
  | .Bt L es z x=>Aj (Nat.mod L 10) fun M=>cellsOf (bL gl u x) fun cs=>rq cs es<|bI (z.length=es)<|sa M cs g fun ds g=>tK g (2*es,L*10000+es) fun P=>K (.aO [ds] (.fe (DK g))) ⟨u,E,w,P⟩
  | .pY L p es bytes z x y=>match bL gl u y with
   | .lit cs=>rq cs es<|vv L p es bytes z (bL gl u x) cs g fun v g=>K v ⟨u,E,w,g⟩
   |_=>False
  | .H0 es S x=>match bL gl u x with
   | .aO T (.fe k)=>bI (S<=T.length/\∀x,x∈T->x.length=es) (K (.aO (T.drop S) (.sub k (2*(T.length*es)))) ⟨u,E,w,g⟩)
   |_=>False
  | .CU es x i=>match bL gl u x,bL gl u i with
   | .aO T (.fe k),.d (.int _ m)=>match nth g k with
    |some (c,e)=>bI (m=0/\0<T.length/\c=2*(T.length*es)/\gw e=es) (K (.kn k c 0) ⟨u,E,w,g⟩)
    |none=>False
   |_,_=>False
  | .Hl n x y=>match bL gl u x,bL gl u y with
   | .kn k C q,.aO T (.fe j)=>match T with
    |cs::r=>match nth g k with
     |some (c,e)=>bI (j=k/\q=0/\cs.length=n/\c=C/\c=2*((r.length+1)*n)/\gw e=n) (SQ k c 0 cs fun l=>K (.agg l) ⟨u,E,w,g⟩)
     |none=>False
    |[]=>False
   |_,_=>False
  | .HX x y=>match bL gl u y with
   | .d (.str s)=>vw 1 1 1000 (bL gl u x) (s.map gX) g fun v g=>K v ⟨u,E,w,g⟩
   |_=>False
  | .Mp x=>zK (bL gl u x) fun T=>bI (∀x,x∈T->∃n,x=[.int .u8 n]) (K (.d (.str (T.map km))) ⟨u,E,w,g⟩)
  | .uw f I=>qM gl u I fun A=>K (.fn f A) ⟨u,E,w,g⟩
  | .oB x T=>match bL gl u x with
   | .fn f I=>qM gl u T fun as=>Br as I fun as=>CK f as E w g fun v E w g=>K v ⟨u,E,w,g⟩
   |_=>False
  | .Ib t x=>force (bL gl u x) fun v=>K (.oH t v) ⟨u,E,w,g⟩
  | .panic x=>force (bL gl u x) fun v=>CK 0 [v] 1 [] [] fun _ _ _ _=>False
  | .Cb x=>match bL gl u x with
   | .aO T .nil=>K (.oQ T .nil) ⟨u,E,w,g⟩
   | .aO T (.row k)=>match nth g k with
    |some (n,_)=>bI (T.length=n) (K (.oQ T (.row k)) ⟨u,E,w,g⟩)
    |none=>False
   |_=>False
  | .Iy p m=>match bL gl u p,bL gl u m with
   | .oQ T .nil,.d (.int .i64 n)=>bI (n=T.length) (K (.d (.str [])) ⟨u,E,w,g⟩)
   | .oQ T (.row k),.d (.int .i64 n)=>match nth g k with
    |some (q,e)=>bI (n=T.length/\T.length=q/\e=1000/\∀x,x∈T->∃b:UInt8,x=gX b) (K (.d (.str (T.map km))) ⟨u,E,w,g⟩)
    |none=>False
   |_,_=>False
  | .wK es bytes z len V=>match bL gl u len,bL gl u V with
   | .d (.int _ m),.d (.int _ c)=>bI (m=c/\0<=m/\m*bytes<=140737488355328/\0<bytes/\z.length=es) (tK w (.row es (List.replicate m.toNat z)) fun w=>K (.rC E m.toNat) ⟨u,E+1,w,g⟩)
   |_,_=>False
  | .range x=>match bL gl u x with
   | .d (.str s)=>tK w (.iter s 0) fun w=>K (.uv E) ⟨u,E+1,w,g⟩
   |_=>False
  | .next x=>match bL gl u x with
   | .uv b=>match nth w b with
    |some (.iter s p)=>bW s p (fun c=>pz w b (.iter s (p+1)) fun w=>K (.b6 [.d (.bool true),.d (.int .i64 p),.d (.int .i32 c)]) ⟨u,E,w,g⟩) (K (.b6 [.d (.bool false)]) ⟨u,E,w,g⟩)
    |_=>False
   |_=>False
  |_=>False
def x7:AV:=.b6 []
def uU(d:Option Nat)(v:AV)(env:Env)(K:Env->Prop):Prop:=
 match d with
 |some i=>K ((i,v)::env)
 |none=>K env
def kW:List AI->St->(St->Prop)->Prop
 |[],σ,K=>K σ
 |⟨d,g,o⟩::r,⟨e,a,i,n⟩,K=>
  match g with
  |none=>cB gl CK o ⟨e,a,i,n⟩ fun v σ=>match σ with
   |⟨e,a,i,n⟩=>uU d v e fun e=>kW r ⟨e,a,i,n⟩ K
  |some (s,w)=>
   match look e s with
   | .d (.bool t)=>match w with
    |true=>ov t (cB gl CK o ⟨(s,.d (.bool true))::e,a,i,n⟩ fun v σ=>match σ with
      |⟨e,a,i,n⟩=>uU d v e fun e=>kW r ⟨e,a,i,n⟩ K)
     (uU d x7 ((s,.d (.bool false))::e) fun e=>kW r ⟨e,a,i,n⟩ K)
    |false=>ov t (uU d x7 ((s,.d (.bool true))::e) fun e=>kW r ⟨e,a,i,n⟩ K)
     (cB gl CK o ⟨(s,.d (.bool false))::e,a,i,n⟩ fun v σ=>match σ with
      |⟨e,a,i,n⟩=>uU d v e fun e=>kW r ⟨e,a,i,n⟩ K)
   | .b6 h=>match h with
    |[]=>uU d x7 e fun e=>kW r ⟨e,a,i,n⟩ K
    |_::_=>False
   |_=>False
def ik:qp->List Arg
 | .lR x=>[x]| .pick c a b=>[c,a,b]| .alloc .. =>[]| .box x=>[x]| .build _ e=>e.map fun p=>p.2.2| .vy _ _ _ e=>e.map fun p=>p.2
 | .load _ _ x=>[x]| .store _ x v=>[x,v]| .vI x=>[x]| .eO _ _ x y=>[x,y]| .oL _ x y=>[x,y]| .ri _ x y=>[x,y]| .AM _ x y=>[x,y]| .AL _ _ x y=>[x,y]
 | .not x=>[x]| .neg x=>[x]| .conv _ x=>[x]| .Mp x=>[x]| .s2b x=>[x]| .same x=>[x]| .uw _ o=>o| .wK _ _ _ a b=>[a,b]
 | .gR x a b=>x::(a.toList++b.toList)| .BA _ x a b=>x::(a.toList++b.toList)| .Fg _ _ x a b=>x::(a.toList++b.toList)
 | .mT _ x=>[x]| .U' _ _ _ x=>[x]| .qI _ x i=>[x,i]| .xC _ _ x i=>[x,i]| .Fz x i=>[x,i]| .H6 _ _ _ x i=>[x,i]
 | .range x=>[x]| .next x=>[x]| .ext x _=>[x]| .OL _ x=>[x]| .call _ t=>t| .oB x t=>x::t| .xD x=>[x]| .pj x=>[x]| .app _ _ _ x y=>[x,y]| .HX x y=>[x,y]
 | .Ib _ x=>[x]| .panic x=>[x]| .Cb x=>[x]| .Iy p m=>[p,m]| .other=>[]
 | .pZ _ _ x=>[x]| .Bt _ _ _ x=>[x]| .pY _ _ _ _ _ x y=>[x,y]| .H0 _ _ x=>[x]| .CU _ x i=>[x,i]| .Hl _ x y=>[x,y]
def rM(env:Env):List Arg->(Env->Prop)->Prop
 |[],K=>K []
 | .t i::r,K=>force (look env i) fun v=>rM env r fun e=>K ((i,v)::e)
 |_::r,K=>rM env r K
def oj:qp->Bool
 | .lR _| .pick .. | .build .. | .vy .. | .vI _| .eO .. | .oL .. | .ri .. | .AM .. | .not _| .neg _| .conv .. | .Mp _| .same _| .uw .. | .gR .. | .BA .. | .Fg ..
 | .mT .. | .U' .. | .qI .. | .xC .. | .Fz .. | .H6 .. | .ext .. | .Ib .. | .pZ .. | .H0 .. =>true
 |_=>false
def Dl(o:qp)(env:Env)(K:AV->Prop):Prop:=
 match o with
 | .load n i x=>match bL gl env x with
  | .gA t=>oM t 0 n fun t=>xL t fun t=>iO i t K
  |_=>False
 | .xD x=>match bL gl env x with
  | .d (.str s)=>bI (s.length<=140737488355328) (K (.d (.int .i64 s.length)))
  |_=>False
 | .pj x=>match bL gl env x with
  | .d (.sl e)=>bI (e.length<=140737488355328) (K (.d (.int .i64 e.length)))
  | .aO e _=>bI (e.length<=140737488355328) (K (.d (.int .i64 e.length)))
  | .kh _ _ e _ _ _=>bI (e.length+1<=140737488355328) (K (.d (.int .i64 (e.length+1))))
  |_=>False
 | .call f e=>qM gl env e fun as=>CQ f as K
 | .oB x e=>match bL gl env x with
  | .fn f a=>qM gl env e fun as=>Br as a fun as=>CQ f as K
  |_=>False
 |o=>match oj o with
  |true=>cB gl CK o ⟨env,0,[],[]⟩ fun v _=>K v
  |false=>False
def dU:List Nat->Nat->Bool
 |[],_=>false
 |x::r,i=>match Nat.beq x i with|true=>true|false=>dU r i
def sL:bm->Nat->Nat->Bool
 |[],_,_=>false
 |(x,y)::r,i,m=>match Nat.beq x i with
  |true=>match Nat.beq y m with|true=>true|false=>sL r i m
  |false=>sL r i m
def iW(bx:List Bx)(b j n:Nat)(cs:List AV):Prop:=
 match nth bx b with
 |some (.var _ ds)=>oM ds j n fun l=>l=cs
 |_=>False
structure Rd where
 i:Nat
 b:Nat
 j:Nat
 n:Nat
 cs:List AV
def J3(e:bm)(m:Nat)(bx:List Bx):List Rd->Prop->Prop
 |[],K=>K
 |⟨i,b,j,n,t⟩::r,K=>match sL e i m with
  |true=>bI (iW bx b j n t) (J3 e m bx r K)
  |false=>J3 e m bx r K
def R0(e:bm)(i b j n:Nat)(cs:List AV):List (Nat×List Bx)->Prop->Prop
 |[],K=>K
 |(m,t)::r,K=>match sL e i m with
  |true=>bI (iW t b j n cs) (R0 e i b j n cs r K)
  |false=>R0 e i b j n cs r K
def Ji(g:Option (Nat×Bool))(env:Env)(A B:Env->Prop):Prop:=
 match g with
 |none=>A env
 |some (s,w)=>match look env s with
  | .d (.bool t)=>match w with
   |true=>ov t (A ((s,.d (.bool true))::env)) (B ((s,.d (.bool false))::env))
   |false=>ov t (B ((s,.d (.bool true))::env)) (A ((s,.d (.bool false))::env))
  | .b6 e=>match e with
   |[]=>B env
   |_::_=>False
  |_=>False
def sY(ms:List Nat)(a:bm):Nat->List AI->St->List (Nat×List Bx)->List Rd->(St->Prop)->Prop
 |_,[],σ,_,_,K=>K σ
 |i,⟨d,g,o⟩::r,⟨t,u,s,c⟩,l,h,K=>Ji g t
   (fun t=>match dU ms i with
    |true=>rM t (ik o) fun e=>cB gl CK o ⟨e,u,s,c⟩ fun v σ=>match σ with
     |⟨_,w,m,y⟩=>J3 a i m h (uU d v t fun t=>sY ms a (i+1) r ⟨t,w,m,y⟩ ((i,s)::l) h K)
    |false=>match o with
     | .load n p x=>match bL gl t x with
      | .ptr b j=>match nth s b with
       |some (.var _ f)=>oM f j n fun f=>R0 a i b j n f l (iO p f fun v=>uU d v t fun t=>sY ms a (i+1) r ⟨t,u,s,c⟩ l (⟨i,b,j,n,f⟩::h) K)
       |_=>False
      |_=>rM t [x] fun e=>Dl gl CQ CK (.load n p x) e fun v=>uU d v t fun t=>sY ms a (i+1) r ⟨t,u,s,c⟩ l h K
     |o=>rM t (ik o) fun e=>Dl gl CQ CK o e fun v=>uU d v t fun t=>sY ms a (i+1) r ⟨t,u,s,c⟩ l h K)
   (fun t=>match dU ms i with
    |true=>J3 a i s h (uU d x7 t fun t=>sY ms a (i+1) r ⟨t,u,s,c⟩ ((i,s)::l) h K)
    |false=>uU d x7 t fun t=>sY ms a (i+1) r ⟨t,u,s,c⟩ l h K)
def Yb(ys:bJ)(es:Nat)(K:Prop):Prop:=
 match ys with
 |[y]=>rq y es K
 |_=>False
def WW:AV->(Nat->Prop)->Prop
 | .aO e .nil,K=>K e.length
 | .aO e (.fe _),K=>K e.length
 |_,_=>False
def ahR(T:uI):St->(St->Prop)->Prop
 |⟨t,h,a,o⟩,K=>match bL gl t T.n with
  | .d (.int _ m)=>zK (bL gl t T.y) fun r=>Yb r T.es<|WW (bL gl t T.x) fun l=>bI (m=l)<|cellsOf (bL gl t T.v) fun s=>rq s T.es<|
   vv T.md none T.es T.bytes T.z (bL gl t T.x) s o fun w o=>match bL gl t T.base with
    | .ptr b j=>match nth a b with
     |some (.var u i)=>xJ i (j+T.off) [w] fun i=>pz a b (.var u i) fun a=>K ⟨(T.q,.ptr b (j+T.off))::(T.e,.bM)::(T.d,w)::t,h,a,o⟩
     |_=>False
    |_=>False
  |_=>False
def evT(T:uI):St->(St->Prop)->Prop
 |⟨t,s,a,o⟩,K=>match T.md with
  |_+1=>ahR gl T ⟨t,s,a,o⟩ K
  |0=>match bL gl t T.x with
  | .aO h (.row k)=>match bL gl t T.n with
   | .d (.int _ m)=>zK (bL gl t T.y) fun l=>Yb l T.es<|bI (m=h.length)<|cellsOf (bL gl t T.v) fun r=>rq r T.es<|C4 r fun ds=>
    match bL gl t T.base with
    | .ptr b j=>match nth a b with
     |some (.var u i)=>vw T.es T.bytes (oR T.z T.es) (.aO h (.row k)) [ds] o fun w o=>xJ i (j+T.off) [w] fun i=>pz a b (.var u i) fun a=>
      K ⟨(T.q,.ptr b (j+T.off))::(T.e,.bM)::(T.d,w)::t,s,a,o⟩
     |_=>False
    |_=>False
   |_=>False
  |_=>False
variable(UD:Nat->List AV->Nat->List Bx->bm->(AV->Nat->List Bx->bm->Prop)->Prop)
def Q0{α:Type}:Nat->List α->List α
 |0,_=>[]
 |_+1,[]=>[]
 |n+1,x::r=>x::Q0 n r
def Jg(d:Option Nat):List AI->Nat
 |⟨_,none,.pj (.t i)⟩::r=>match d with
  |some j=>match Nat.beq i j with|true=>0|false=>Jg d r+1
  |none=>Jg d r+1
 |⟨_,none,.pZ _ _ (.ka _)⟩::r=>Jg d r+1
 |_=>0
def qD:Nat->List AI->List AI
 |_,[]=>[]
 |0,⟨d,_,_⟩::r=>⟨none,none,.lR (.k (.bool false))⟩::Q0 (Jg d r) r
 |p+1,x::r=>x::qD p r
def J7(p:Nat):List Nat->List Nat
 |[]=>[]
 |x::r=>match Nat.beq x p with|true=>J7 p r|false=>x::J7 p r
def Ps(ms:List Nat)(a:bm)(p:Nat)(t:List AI)(σ:St):Prop:=
 match nth t p with
 |some ⟨_,none,o⟩=>sY gl CQ UD (J7 p ms) a 0 (qD p t) σ [] [] fun i=>match i with
  |⟨n,s,h,r⟩=>rM n (ik o) fun e=>cB gl CK o ⟨e,s,h,r⟩ fun _ _=>False
 |_=>False
def agi(p q:Prop):Prop:=p/\q
theorem rj{p q:Prop}(e:p)(t:q):agi p q:=⟨e,t⟩
def ev:AC->St->(AE->St->Prop)->Prop
 | .skip,σ,Q=>Q .normal σ
 | .seq a b,σ,Q=>ev a σ fun e o=>match e with| .normal=>ev b o Q| .exit i=>Q (.exit i) o| .ret=>Q .ret o
 | .cond c a b,⟨s,u,m,f⟩,Q=>match bL gl s c with
  | .d (.bool t)=>ud c t s (fun s=>ev a ⟨s,u,m,f⟩ Q) (fun s=>ev b ⟨s,u,m,f⟩ Q)
  |_=>False
 | .block id a,σ,Q=>ev a σ fun e o=>match e with| .normal=>Q .normal o| .exit i=>(match Nat.beq i id with|true=>Q .normal o|false=>Q (.exit i) o)| .ret=>Q .ret o
 | .loop a,σ,Q=>LW a σ Q
 | .exit id,σ,Q=>Q (.exit id) σ
 | .ret,σ,Q=>Q .ret σ
 | .j9 n _,σ,Q=>kW gl CK n σ fun o=>Q .normal o
 | .yY n l h,σ,Q=>sY gl CQ UD l h 0 n σ [] [] fun o=>Q .normal o
 | .yX n l h t,σ,Q=>sY gl CQ UD l h 0 n σ [] [] fun o=>evT gl t o fun o=>Q .normal o
 | .uD n l h p,σ,Q=>(sY gl CQ UD l h 0 n σ [] [] fun o=>Q .normal o)\/Ps gl CQ CK UD l h p n σ
 | .FQ n l h t p,σ,Q=>(sY gl CQ UD l h 0 n σ [] [] fun o=>evT gl t o fun o=>Q .normal o)\/Ps gl CQ CK UD l h p n σ
 | .Bz d r,⟨s,u,m,f⟩,Q=>agi (Q .normal ⟨(r,.d (.bool true))::(d,.bM)::s,u,m,f⟩) (Q .normal ⟨(r,.d (.bool false))::(d,.bM)::s,u,m,f⟩)
 | .bad,_,_=>False
end
variable{rl:bm}{w:World}{n:Nat}{c:Value}{xs:bJ}{w':World}{bz:bm}{k b es:Nat}
def gJ:Nat:=140737488355328
def eB:IntKind->Int->Prop
 | .i8,n=> -128<=n/\n<=127
 | .i16,n=> -32768<=n/\n<=32767
 | .i32,n=> -2147483648<=n/\n<=2147483647
 | .i64,n=> -9223372036854775808<=n/\n<=9223372036854775807
 | .u8,n=>0<=n/\n<=255
 | .u16,n=>0<=n/\n<=65535
 | .u32,n=>0<=n/\n<=4294967295
 | .u64,n=>0<=n/\n<=18446744073709551615
inductive DR(mk:Nat->Nat)(w:World):DV->Value->Prop where
 |bool (b:Bool):DR mk w (.bool b) (.bool b)
 |int (k:IntKind) (n:Int) (h:eB k n):DR mk w (.int k n) (.int k n)
 |str (s:List UInt8) (h:s.length<=gJ):DR mk w (.str s) (.string ⟨s.toArray⟩)
 |cq:DR mk w .cq (.pointer none)
 |mW:DR mk w .mW .nilIface
 |Le:DR mk w .Le .nilFunc
 |Lf:DR mk w .Lf (.map none)
 |slnil:DR mk w (.sl []) (.slice none 0 0)
 |sle (a:Addr):DR mk w (.sl []) (.slice (some a) 0 0)
 |sl (xs:bJ) (aw off cap es:Nat) (c:Nat->Nat->Value) (hlen:xs.length<=gJ) (gg:xs.length<=cap)
   (dF:∀x,x∈xs->x.length=es) (gZ:off+xs.length*es<=mk aw)
   (hc:∀i j,i<xs.length->j<es->w.cell? ⟨aw,off+(i*es+j),none⟩=some (c i j))
   (hv:∀i j x y,xs[i]?=some x->x[j]?=some y->DR mk w y (c i j)):
   DR mk w (.sl xs) (.slice (some ⟨aw,off,none⟩) xs.length cap)
inductive xh where
 |out
 |root
 |at(c o:Nat)
structure Gh where
 bk:List Nat
 bD:Nat->Nat
 rw:YL
 par:Nat->xh
structure Lk where
 P:Program
 fn:Nat->FuncId
 gn:Nat->Nat
 gl:Nat->List DV
 tn:Nat->TypeId
 u8:TypeId
 ge:Nat->Option Value:=fun _=>none
def uL(g:Gh)(rl:bm)(es C k aw:Nat):Prop:=
 ∃n e,rl[k]?=some (n,e)/\10000<=e/\gw e=es/\C<=n/\(C=n->g.rw[k]?=some (some aw))
def ZT(L:Lk)(t:TypeId)(es p:Nat)(zs:List DV):Prop:=
 ∃i z,L.P.info? t=some i/\i.zero=some z/\i.size=es/\z.cells.size=es/\
  ∀j y,zs[j]?=some y->∃c,z.cells[p+j]?=some c/\(∀mk w,DR mk w y c)/\∀a l e,c≠.slice (some a) l e
def sS(g:Gh)(rl:bm)(w:World)(xs:bJ):Tag->Value->Prop
 | .nil,v=>v=.slice none 0 0
 | .full,v=>v=.slice none 0 0\/∃a,v=.slice (some a) xs.length xs.length
 | .row k,v=> ∃L e,rl[k]?=some (L,e)/\(∀x,x∈xs->x.length=gw e)/\xs.length<=L/\(xs.length=L->(v=.slice none 0 0/\g.rw[k]?=some none)\/
   ∃i s t,v=.slice (some ⟨i,0,none⟩) xs.length s/\g.rw[k]?=some (some i)/\w.shape? i=some (t,s*gw e))
 | .fe k,v=> ∃n e,rl[k]?=some (n,e)/\10000<=e/\(∀x,x∈xs->x.length=gw e)/\2*(xs.length*gw e)<=n/\(2*(xs.length*gw e)=n->(v=.slice none 0 0/\g.rw[k]?=some none)\/
   ∃i s t,v=.slice (some ⟨i,0,none⟩) xs.length s/\g.rw[k]?=some (some i)/\w.shape? i=some (t,s*gw e))
 | .sub k C,v=> ∃n e,rl[k]?=some (n,e)/\10000<=e/\C<=n/\(C=n->(∃a,v=.slice a 0 0)\/∃i h len s,v=.slice (some ⟨i,h,none⟩) len s/\g.rw[k]?=some (some i))
 | .uu k C o,v=> ∃n e,rl[k]?=some (n,e)/\10000<=e/\C<=n/\(C=n->∃i,g.rw[k]?=some (some i)/\w.cell? ⟨i,o,none⟩=some v/\o<g.bD i)
inductive VR(L:Lk)(g:Gh)(rl:bm)(w:World):AV->Value->Prop where
 |d (v:DV) (c:Value) (h:DR g.bD w v c):VR L g rl w (.d v) c
 |ptr (b j aw:Nat) (h:g.bk[b]?=some aw):VR L g rl w (.ptr b j) (.pointer (some ⟨aw,j,none⟩))
 |ru (b es i j aw:Nat) (h:g.bk[b]?=some aw):VR L g rl w (.ru b es i j) (.pointer (some ⟨aw,i*es+j,none⟩))
 |gA (cs:List DV) (aw off:Nat) (c:Nat->Value) (gZ:off+cs.length<=g.bD aw)
   (hc:∀j,j<cs.length->w.cell? ⟨aw,off+j,none⟩=some (c j)) (hv:∀j y,cs[j]?=some y->DR g.bD w y (c j)):
   VR L g rl w (.gA cs) (.pointer (some ⟨aw,off,none⟩))
 |aO (xs:bJ) (t:Tag) (v:Value) (h:DR g.bD w (.sl xs) v) (ht:sS g rl w xs t v):VR L g rl w (.aO xs t) v
 |rC (b n aw:Nat) (h:g.bk[b]?=some aw) (hn:n<=gJ):VR L g rl w (.rC b n) (.slice (some ⟨aw,0,none⟩) n n)
 |agg (cs:List AV) (vs:Array Value) (hn:vs.size=cs.length) (h:∀(j:Nat)(x:AV)(y:Value),cs[j]?=some x->vs[j]?=some y->VR L g rl w x y):VR L g rl w (.agg cs) (.agg vs)
 |b6 (cs:List AV) (vs:Array Value) (hn:vs.size=cs.length) (h:∀(j:Nat)(x:AV)(y:Value),cs[j]?=some x->vs[j]?=some y->VR L g rl w x y):VR L g rl w (.b6 cs) (.tuple vs)
 |fn (f:Nat) (cs:List AV) (vs:Array Value) (hn:vs.size=cs.length) (h:∀(j:Nat)(x:AV)(y:Value),cs[j]?=some x->vs[j]?=some y->VR L g rl w x y):
   VR L g rl w (.fn f cs) (.func (.func (L.fn f)) #[] vs)
 |oH (t:Nat) (v:AV) (y:Value) (h:VR L g rl w v y):VR L g rl w (.oH t v) (.iface (L.tn t) y)
 |oQ (xs:bJ) (t:Tag) (a:Option Addr) (ln cap:Nat) (h:DR g.bD w (.sl xs) (.slice a ln cap)) (ht:sS g rl w xs t (.slice a ln cap)):VR L g rl w (.oQ xs t) (.pointer a)
 |uv (b aw:Nat) (h:g.bk[b]?=some aw):VR L g rl w (.uv b) (.pointer (some ⟨aw,0,none⟩))
 |bM (v:Value):VR L g rl w .bM v
 |kh (es p:Nat) (xs:bJ) (ds zs:List DV) (k aw cap:Nat) (c:Nat->Value) (t:TypeId) (iw:xs.length+1<=gJ) (gg:xs.length+1<=cap) (hx:∀x,x∈xs->x.length=es) (hp:ds.length=p)
   (hz:p+zs.length=es) (hz0:zs≠[]) (hd:DR g.bD w (.sl xs) (.slice (some ⟨aw,0,none⟩) xs.length cap)) (gZ:xs.length*es+p<=g.bD aw) (hc:∀j,j<p->w.cell? ⟨aw,xs.length*es+j,none⟩=some (c j))
   (hv:∀j y,ds[j]?=some y->DR g.bD w y (c j)) (hs:w.shape? aw=some (t,cap*es)) (ht:ZT L t es p zs) (hk:uL g rl es (2*(xs.length*es+p)+1) k aw):
   VR L g rl w (.kh es p xs ds zs k) (.slice (some ⟨aw,0,none⟩) (xs.length+1) cap)
 |kn (k C q aw es:Nat) (hk:uL g rl es C k aw):VR L g rl w (.kn k C q) (.pointer (some ⟨aw,q,none⟩))
 |lit (cs:List AV) (aw:Nat) (c:Nat->Value) (aL:aw<w.heap.size) (hb:aw∉g.bk) (hr:some aw∉g.rw) (hc:∀j,j<cs.length->w.cell? ⟨aw,j,none⟩=some (c j))
   (hv:∀j x,cs[j]?=some x->VR L g rl w x (c j)):VR L g rl w (.lit cs) (.slice (some ⟨aw,0,none⟩) 1 1)
 |ni (b:Bool) (n:Int) (h:eB .i64 n) (hz:b=true->n≠0):VR L g rl w (.ni b) (.int .i64 n)
def abo(g o:Gh)(bz:bm)(k n e:Nat):Prop:=
 ∃a t,bz[k]?=some (a,t)/\n<=a/\(a=n->o.rw[k]?=g.rw[k]?)/\gw t=gw e/\(e<10000->t=e)/\(10000<=e->10000<=t)
theorem abo.of{g t:Gh}{e n':Nat}(h:bz[k]?=some (n',e))(a:n<=n')(o:n'=n->t.rw[k]?=g.rw[k]?):abo g t bz k n e:=
 ⟨n',e,h,a,o,rfl,fun _=>rfl,fun h=>h⟩
def RG(p q:xh):Prop:=(p=.out->q=.out)/\(p=.root->q=.root)
theorem RG.refl(p:xh):RG p p:=⟨fun h=>h,fun h=>h⟩
structure Step(g:Gh)(rl:bm)(w:World)(g':Gh)(bz:bm)(w':World):Prop where
 os:w'.os=w.os
 tape:w'.tape=w.tape
 output:w'.output=w.output
 size:w.heap.size<=w'.heap.size
 bD:∀b,g.bD b<=g'.bD b
 cell:∀b o,o<g.bD b->w'.cell? ⟨b,o,none⟩=w.cell? ⟨b,o,none⟩
 bk:∀(i b:Nat),g.bk[i]?=some b->g'.bk[i]?=some b
 row:∀(k n e:Nat),rl[k]?=some (n,e)->abo g g' bz k n e
 shape:∀b,b<w.heap.size->w'.shape? b=w.shape? b
 jz:∀b,b∈g'.bk->b∈g.bk\/w.heap.size<=b
 jA:∀b,some b∈g'.rw->some b∈g.rw\/w.heap.size<=b
 frame:∀b,b<w.heap.size->b∉g.bk->some b∉g.rw->w'.heap[b]?=w.heap[b]?
 lb:∀b,b<w.heap.size->b∉g.bk->some b∉g.rw->g'.bD b=g.bD b
 oi:∀b,b<w.heap.size->b∉g.bk->some b∉g.rw->RG (g.par b) (g'.par b)
theorem Step.refl(g:Gh)(rl:bm)(w:World):Step g rl w g rl w:=
 ⟨rfl,rfl,rfl,aQ _,fun _=>aQ _,fun _ _ _=>rfl,fun _ _ h=>h,fun _ _ _ h=> .of h (aQ _) fun _=>rfl,fun _ _=>rfl,fun _ h=> .inl h,fun _ h=> .inl h,fun _ _ _ _=>rfl,fun _ _ _ _=>rfl,fun _ _ _ _=> .refl _⟩
theorem Step.trans{g f y:Gh}{rl d l:bm}{w w1 p:World}(h:Step g rl w f d w1)(k:Step f d w1 y l p):Step g rl w y l p where
 os:=k.os.trans h.os
 tape:=k.tape.trans h.tape
 output:=k.output.trans h.output
 size:=gM h.size k.size
 bD b:=gM (h.bD b) (k.bD b)
 cell b o v:=(k.cell b o (jS v (h.bD b))).trans (h.cell b o v)
 bk i b a:=k.bk i b (h.bk i b a)
 row i n e t:=by
  obtain⟨x,z,E,T,A,O,j,I⟩:=h.row i n e t;obtain⟨N,S,m,H,R,D,L,U⟩:=k.row i x z E;exact⟨N,S,m,gM T H,fun C=>(R om).trans (A om),D.trans O,fun u=>by rw[<-j u];exact L (by rw[j u];exact u),fun u=>U (I u)⟩
 shape b a:=(k.shape b (jS a h.size)).trans (h.shape b a)
 jz b a:=by
  rcases k.jz b a with t|t
  .exact h.jz b t
  .exact .inr (gM h.size t)
 jA b a:=by
  rcases k.jA b a with t|t
  .exact h.jA b t
  .exact .inr (gM h.size t)
 frame b a t r:=by
  rw[k.frame b (jS a h.size) (fun s=>(h.jz b s).elim t (fun c=>by omega)) (fun s=>(h.jA b s).elim r (fun c=>by omega)),h.frame b a t r]
 lb b a t r:=by
  rw[k.lb b (jS a h.size) (fun s=>(h.jz b s).elim t (fun c=>by omega)) (fun s=>(h.jA b s).elim r (fun c=>by omega)),h.lb b a t r]
 oi b a t r:=by
  have m:=h.oi b a t r;have q:=k.oi b (jS a h.size) (fun s=>(h.jz b s).elim t (fun c=>by omega)) (fun s=>(h.jA b s).elim r (fun c=>by omega));exact⟨fun h=>q.1 (m.1 h),fun h=>q.2 (m.2 h)⟩
theorem DR.bj{mk mk':Nat->Nat}(p:∀b,mk b<=mk' b)(g:∀b o,o<mk b->w'.cell? ⟨b,o,none⟩=w.cell? ⟨b,o,none⟩){v:DV}(h:DR mk w v c):DR mk' w' v c:=by
 induction h with
 |bool b=>exact .bool b
 |int k n h=>exact .int k n h
 |str s h=>exact .str s h
 |cq=>exact .cq
 |mW=>exact .mW
 |Le=>exact .Le
 |Lf=>exact .Lf
 |slnil=>exact .slnil
 |sle a=>exact .sle a
 |sl xs e l u es c r d m f t z q=>
  refine .sl xs e l u es c r d m (gM f (p e)) ?_ q;intro i j y x;rw[g e _ ?_,t i j y x];have:(i+1)*es<=xs.length*es:=k7 _ y;rw[jb]at this;omega
theorem uL.bj{g t:Gh}(s:Step g rl w t bz w'){C aw:Nat}(h:uL g rl es C k aw):uL t bz es C k aw:=by
 obtain⟨n,e,a,o,i,r,d⟩:=h;obtain⟨l,u,c,m,f,y,v,p⟩:=s.row k n e a;exact⟨l,u,c,p o,y.trans i,gM r m,fun b=>by rw[f om];exact d om⟩
theorem Cc{x:TypeId×Nat}(e:w.shape? b=some x):b<w.heap.size:=by
 simp only[World.shape?]at e;cases t:w.heap[b]? with
 |none=>simp[t]at e
 |some o=>exact(nx.1 t).1
theorem sS.bj{g O:Gh}(s:Step g rl w O bz w'){t:Tag}{v:Value}(h:sS g rl w xs t v):sS O bz w' xs t v:=by
 cases t with
 |nil=>exact h
 |full=>exact h
 |row k=>
  obtain⟨L,e,d,z,E,l⟩:=h;obtain⟨u,c,m,T,f,r,A,j⟩:=s.row k L e d;refine⟨u,c,m,by rw[r];exact z,by omega,fun x=>?_⟩;have S:xs.length=L:=by omega
  rw[f om,r];rcases l S with⟨y,p⟩|⟨a,b,t,y,p,q⟩
  .exact .inl ⟨y,p⟩
  .refine .inr ⟨a,b,t,y,p,?_⟩;rw[s.shape a ?_,q];simp only[World.shape?]at q;cases I:w.heap[a]? with
   |none=>simp[I]at q
   |some o=>exact(nx.1 I).1
 |fe k=>
  obtain⟨n,e,d,i,z,E,l⟩:=h;obtain⟨u,c,m,T,f,r,A,j⟩:=s.row k n e d;refine⟨u,c,m,j i,by rw[r];exact z,by rw[r];omega,fun x=>?_⟩;rw[r]at x⊢;rw[f om];rcases l om with⟨y,p⟩|⟨a,b,t,y,p,q⟩
  .exact .inl ⟨y,p⟩
  .exact .inr ⟨a,b,t,y,p,by rw[s.shape a (Cc q),q]⟩
 |sub k C=>
  obtain⟨n,e,d,i,E,l⟩:=h;obtain⟨u,c,m,T,f,r,A,j⟩:=s.row k n e d;refine⟨u,c,m,j i,by omega,fun x=>?_⟩;rw[f om];exact l om
 |uu k C o=>
  obtain⟨n,e,d,i,E,l⟩:=h;obtain⟨u,c,m,T,f,r,A,j⟩:=s.row k n e d;refine⟨u,c,m,j i,by omega,fun x=>?_⟩;rw[f om];obtain⟨a,H,R,N⟩:=l om;exact⟨a,H,by rw[s.cell a o N];exact R,jS N (s.bD a)⟩
theorem VR.bj{L:Lk}{g M:Gh}{rl bz:bm}{w w':World}(s:Step g rl w M bz w'){v:AV}{c:Value}(h:VR L g rl w v c):VR L M bz w' v c:=by
 induction h with
 |d v c h=>exact .d v c (h.bj s.bD s.cell)
 |ptr b j e h=>exact .ptr b j e (s.bk _ _ h)
 |ru b es i j e h=>exact .ru b es i j e (s.bk _ _ h)
 |gA o e S c l x N=>
  exact .gA o e S c (gM l (s.bD e)) (fun j z=>by rw[s.cell e _ om,x j z]) (fun j y H=>(N j y H).bj s.bD s.cell)
 |aO xs t v h E=>exact .aO xs t v (h.bj s.bD s.cell) (E.bj s)
 |rC b n e h u=>exact .rC b n e (s.bk _ _ h) u
 |agg o T u h r=>exact .agg o T u r
 |b6 o T u h r=>exact .b6 o T u r
 |fn f o T u h r=>exact .fn f o T u r
 |oH t v y h r=>exact .oH t v y r
 |oQ xs t a V m h E=>exact .oQ xs t a V m (h.bj s.bD s.cell) (E.bj s)
 |uv b e h=>exact .uv b e (s.bk _ _ h)
 |bM v=>exact .bM v
 |kh es p xs ds zs k e m c t A O B G R D K l x N F E U=>
  exact .kh es p xs ds zs k e m c t A O B G R D (K.bj s.bD s.cell) (gM l (s.bD e)) (fun j z=>by rw[s.cell e _ om,x j z]) (fun j y H=>(N j y H).bj s.bD s.cell)
   (by rw[s.shape e (Cc F),F]) E (U.bj s)
 |kn k C q e es U=>exact .kn k C q e es (U.bj s)
 |lit o e c I Y P x N r=>
  have J:=s.frame e I Y P
  exact .lit o e c (jS I s.size) (fun h=>(s.jz e h).elim Y (fun h=>by omega)) (fun h=>(s.jA e h).elim P (fun h=>by omega))
   (fun j z=>by rw[World.cell?_of_block (a:=⟨e,j,none⟩) J];exact x j z) r
 |ni b n h R=>exact .ni b n h R
variable{L:Lk}{g:Gh}{nb:Nat}{bx:List Bx}{g':Gh}
def Gu(L:Lk)(g:Gh)(rl:bm)(w:World):Bx->Nat->Prop
 | .var o n,e=> ∃(arr:Array Value)(t:TypeId),w.heap[e]?=some (.cells arr t (0,0))/\arr.size=n.length/\
   (∀(j:Nat)(x:AV)(y:Value),n[j]?=some x->arr[j]?=some y->VR L g rl w x y)/\(o=0\/t=L.tn o)
 | .row es a,e=> ∃(arr:Array Value)(t:TypeId),w.heap[e]?=some (.cells arr t (0,0))/\arr.size=a.length*es/\(∀x,x∈a->x.length=es)/\a.length<=gJ/\
   ∀(i j:Nat)(x:List DV)(y:DV)(v:Value),a[i]?=some x->x[j]?=some y->arr[i*es+j]?=some v->DR g.bD w y v
 | .iter s p,e=>w.heap[e]?=some (.stringIter ⟨s.toArray⟩ p)/\s.length<=gJ
 | .dead,e=>e<w.heap.size
def xP(L:Lk)(g:Gh)(rl:bm)(w:World)(i:Nat):Prop:=
 VR L g rl w (.gA (L.gl i)) (.pointer (some ⟨L.gn i,0,none⟩))/\(L.gl i≠[]->∃t,w.shape? (L.gn i)=some (t,(L.gl i).length))/\∀ev,L.ge i=some ev->w.cell? ⟨L.gn i,0,none⟩=some ev/\0<g.bD (L.gn i)
theorem xP.bj{L:Lk}{g g':Gh}{rl bz:bm}{w w':World}{i:Nat}(h:xP L g rl w i)(s:Step g rl w g' bz w'):xP L g' bz w' i:=by
 refine⟨h.1.bj s,fun r=>?_,fun ev e=>⟨by rw[s.cell _ _ (h.2.2 ev e).2];exact(h.2.2 ev e).1,jS (h.2.2 ev e).2 (s.bD _)⟩⟩;obtain⟨t,a⟩:=h.2.1 r;refine⟨t,?_⟩;rw[s.shape _ ?_,a];simp only[World.shape?]at a;cases n:w.heap[L.gn i]? with
 |none=>simp[n]at a
 |some o=>exact(nx.1 n).1
def D5(n e:Nat):Nat:=if e<10000 then n*gw e else n/2
theorem vB{e:Nat}(h:e<10000):D5 n e=n*gw e:=if_pos h
theorem lJ{e:Nat}(h:10000<=e):D5 n e=n/2:=if_neg om
def ajr(e:Nat)(p:xh):Prop:=(e/10000%10<2->p=.out)/\(e/10000%10=2->p=.root)
def Bq(L:Lk)(e m:Nat)(arr:Array Value)(t:TypeId):Prop:=
 ∃i z,L.P.info? t=some i/\i.zero=some z/\i.size=gw e/\z.cells.size=gw e/\∀j,m<=j->j<arr.size->arr[j]?=z.cells[j%gw e]?
def agk(L:Lk)(e m:Nat)(arr:Array Value)(t:TypeId)(p:xh):Prop:=
 (e=1000->t=L.u8)/\ajr e p/\(10000<=e->Bq L e m arr t/\t=L.tn (e/100000))
structure MY(g:Gh)(w:World):Prop where
 fresh:∀b,w.heap.size<=b->g.par b=.out
 bk:∀b,b∈g.bk->g.par b=.out
 sep:∀c o b off len cap,g.par c≠.out->o<g.bD c->w.cell? ⟨c,o,none⟩=some (.slice (some ⟨b,off,none⟩) len cap)->len=0\/g.par b=.at c o
 F3:∀b,g.par b≠.out->∃arr t,w.heap[b]?=some (.cells arr t (0,0))
theorem MY.bj(h:MY g w)(s:Step g rl w g' bz w')(n:g'.par=g.par)(f:∀c,g.par c≠.out->g'.bD c=g.bD c)(y:∀b,g.par b≠.out->∀e t,w.heap[b]?=some (.cells e t (0,0))->∃e t,w'.heap[b]?=some (.cells e t (0,0))):MY g' w' where
 F3 b a:=by
  rw[n]at a;obtain⟨e,t,i⟩:=h.F3 b a;exact y b a e t i
 fresh b a:=by rw[n];exact h.fresh b (gM s.size a)
 bk b a:=by
  rw[n];rcases s.jz b a with i|i
  .exact h.bk b i
  .exact h.fresh b i
 sep c o b r len d l u m:=by
  rw[n]at l⊢;rw[f c l]at u;rw[s.cell c o u]at m;exact h.sep c o b r len d l u m
structure aY(L:Lk)(g:Gh)(nb:Nat)(bx:List Bx)(rl:bm)(w:World):Prop where
 nb:nb=bx.length
 kt:g.bk.length=bx.length
 box:∀(i:Nat)(x:Bx)(aw:Nat),bx[i]?=some x->g.bk[i]?=some aw->(x≠.dead->g.bD aw=0)/\Gu L g rl w x aw
 inj:∀(i j aw:Nat),g.bk[i]?=some aw->g.bk[j]?=some aw->i=j
 jv:g.rw.length=rl.length
 row:∀(k n e:Nat),rl[k]?=some (n,e)->0<gw e/\((g.rw[k]?=some none/\n=0)\/
   ∃(aw:Nat)(arr:Array Value)(t:TypeId)(fr:Nat×Nat),g.rw[k]?=some (some aw)/\w.heap[aw]?=some (.cells arr t fr)/\g.bD aw=D5 n e/\D5 n e<=arr.size/\aw∉g.bk/\fr.2<=D5 n e/\0<n/\agk L e (D5 n e) arr t (g.par aw))
 jI:∀(i j b:Nat),g.rw[i]?=some (some b)->g.rw[j]?=some (some b)->i=j
 fresh:∀b,w.heap.size<=b->g.bD b=0
 jd:∀i,xP L g rl w i
 par:MY g w
theorem lt_of_heap{o:Obj}(h:w.heap[b]?=some o):b<w.heap.size:=(nx.1 h).1
theorem aY.qf(h:aY L g nb bx rl w)(n:b∈g.bk):b<w.heap.size:=by
 obtain⟨i,o⟩:=cP.1 n;have r:i<bx.length:=by rw[<-h.kt];exact(bV.1 o).1
 have d:=(h.box i bx[i] b (dw r) o).2;revert d;cases bx[i]with
 |var l u=>rintro⟨a,t,e,_⟩;exact lt_of_heap e
 |row es c=>rintro⟨a,t,e,_⟩;exact lt_of_heap e
 |iter s p=>rintro⟨e,_⟩;exact lt_of_heap e
 |dead=>exact fun e=>e
theorem aY.tH(h:aY L g nb bx rl w)(o:some b∈g.rw):b<w.heap.size/\b∉g.bk:=by
 obtain⟨i,a⟩:=cP.1 o;have n:i<rl.length:=by rw[<-h.jv];exact(bV.1 a).1
 rcases(h.row i rl[i].1 rl[i].2 (dw n)).2 with⟨e,_⟩|⟨s,r,t,u,e,d,_,_,l,_⟩
 .rw[a]at e;cases e
 .rw[a]at e;cases e;exact⟨lt_of_heap d,l⟩
theorem Gu.bj{L:Lk}{g g':Gh}{rl bz:bm}{w w':World}(s:Step g rl w g' bz w'){x:Bx}{b:Nat}(h:Gu L g rl w x b)(a:w'.heap[b]?=w.heap[b]?):Gu L g' bz w' x b:=by
 cases x with
 |var f k=>obtain⟨e,t,o,n,r,d⟩:=h;exact⟨e,t,by rw[a];exact o,n,fun j x y l u=>(r j x y l u).bj s,d⟩
 |row es q=>obtain⟨e,t,o,n,r,c,d⟩:=h;exact⟨e,t,by rw[a];exact o,n,r,c,fun i j x y v l u m=>(d i j x y v l u m).bj s.bD s.cell⟩
 |iter z p=>exact⟨by rw[a];exact h.1,h.2⟩
 |dead=>exact jS h s.size
theorem aY.move(h:aY L g nb bx rl w)(s:Step g rl w g' rl w')(m:g'.bk=g.bk)(f:g'.rw=g.rw)(y:∀b,b<w.heap.size->g'.bD b=g.bD b)(p:∀b,b<w.heap.size->w'.heap[b]?=w.heap[b]?)(q:∀b,w'.heap.size<=b->g'.bD b=0)(v:g'.par=g.par):aY L g' nb bx rl w' where
 nb:=h.nb
 kt:=by rw[m];exact h.kt
 box i x a z d:=by
  rw[m]at d;obtain⟨o,l⟩:=h.box i x a z d;have u:=h.qf (cP.2 ⟨i,d⟩);exact⟨fun E=>by rw[y a u,o E],l.bj s (p a u)⟩
 inj i j a:=by rw[m];exact h.inj i j a
 jv:=by rw[f];exact h.jv
 row k n e d:=by
  obtain⟨T,o⟩:=h.row k n e d;refine⟨T,?_⟩;rw[f,m];rcases o with o|⟨a,r,t,A,o,l,O,I,N,S⟩
  .exact .inl o
  .exact .inr ⟨a,r,t,A,o,by rw[p a (lt_of_heap l)];exact l,by rw[y a (lt_of_heap l),O],I,N,by rw[v];exact S⟩
 jI i j b:=by rw[f];exact h.jI i j b
 fresh:=q
 jd i:=(h.jd i).bj s
 par:=h.par.bj s v (fun c H=>y c (Db fun R=>H (h.par.fresh c R))) fun b _ r t o=>⟨r,t,by rw[p b (lt_of_heap o)];exact o⟩
theorem yn(o:Obj){e:Nat}(h:b<w.heap.size):(w.alloc o).cell? ⟨b,e,none⟩=w.cell? ⟨b,e,none⟩:=World.cell?_alloc_lt _ _ _ h
theorem vJ(o:Obj)(h:b<w.heap.size):(w.alloc o).shape? b=w.shape? b:=by
 simp only[World.shape?,heap_alloc_old w o b h]
def Gh.data(g:Gh)(b n:Nat):Gh:={g with bD:=fun x=>if x=b then n else g.bD x}
theorem Step.data(g:Gh)(rl:bm)(w:World)(o:Obj)(n:Nat)(e:∀b,w.heap.size<=b->g.bD b=0):
  Step g rl w (g.data w.heap.size n) rl (w.alloc o) where
 os:=rfl
 tape:=rfl
 output:=rfl
 size:=by simp
 bD b:=by
  simp only[Gh.data];split
  .rename_i h;rw[e b om];exact cr _
  .exact aQ _
 cell b s t:=by
  by_cases a:b<w.heap.size
  .exact yn o a
  .rw[e b om]at t;omega
 bk i b h:=h
 row _ _ _ h:=.of h (aQ _) fun _=>rfl
 shape b h:=vJ o h
 jz b h:=.inl h
 jA b h:=.inl h
 frame b h _ _:=heap_alloc_old w o b h
 lb b h _ _:=by simp only[Gh.data];rw[if_neg om]
 oi _ _ _ _:=.refl _
theorem aY.data{L:Lk}{g:Gh}{nb:Nat}{bx:List Bx}{rl:bm}{w:World}(h:aY L g nb bx rl w)(o:Obj)(n:Nat):
  aY L (g.data w.heap.size n) nb bx rl (w.alloc o):=
 h.move (Step.data g rl w o n h.fresh) rfl rfl (fun b e=>by simp only[Gh.data];rw[if_neg om]) (fun b e=>heap_alloc_old w o b e)
  (fun b e=>by simp at e;simp only[Gh.data];rw[if_neg om,h.fresh b om]) rfl
def Gh.box(g:Gh)(b:Nat):Gh:={g with bk:=g.bk++[b]}
theorem Step.box(g:Gh)(rl:bm)(w:World)(o:Obj)(e:∀b,w.heap.size<=b->g.bD b=0):Step g rl w (g.box w.heap.size) rl (w.alloc o) where
 os:=rfl
 tape:=rfl
 output:=rfl
 size:=by simp
 bD b:=aQ _
 cell b n t:=by
  by_cases a:b<w.heap.size
  .exact yn o a
  .rw[e b om]at t;omega
 bk i b h:=by
  simp only[Gh.box];rw[gL (bV.1 h).1];exact h
 row _ _ _ h:=.of h (aQ _) fun _=>rfl
 shape b h:=vJ o h
 jz b h:=by
  simp only[Gh.box,nA,dP]at h;rcases h with h|h
  .exact .inl h
  .exact .inr om
 jA b h:=.inl h
 frame b h _ _:=heap_alloc_old w o b h
 lb _ _ _ _:=rfl
 oi _ _ _ _:=.refl _
theorem aY.Xg(h:aY L g nb bx rl w)(o:Obj)(x:Bx)(A:Gu L (g.box w.heap.size) rl (w.alloc o) x w.heap.size):aY L (g.box w.heap.size) (nb+1) (bx++[x]) rl (w.alloc o):=by
 have s:=Step.box g rl w o h.fresh;have c:∀i b,g.bk[i]?=some b->b<w.heap.size:=fun i b r=>h.qf (cP.2 ⟨i,r⟩)
 refine⟨by simp[h.nb],by simp[Gh.box,h.kt],?_,?_,h.jv,?_,h.jI,fun b O=>h.fresh b (by simp at O;omega),fun i=>(h.jd i).bj s,h.par.bj s rfl (fun _ _=>rfl) fun b _ m t d=>⟨m,t,by rw[heap_alloc_old w o b (lt_of_heap d)];exact d⟩⟩
 .intro i y a q u;simp only[Gh.box]at u;by_cases r:i<bx.length
  .rw[gL r]at q;rw[gL (by rw[h.kt];exact r)]at u;obtain⟨d,f⟩:=h.box i y a q u;exact⟨d,f.bj s (heap_alloc_old w o a (c i a u))⟩
  .have T:i=bx.length:=by
    have:=(bV.1 q).1;simp at this;omega
   subst T;rw[<-h.kt,List.getElem?_concat_length]at u;rw[List.getElem?_concat_length]at q;cases u;cases q;exact⟨fun _=>h.fresh _ (aQ _),A⟩
 .intro i j a r p;simp only[Gh.box]at r p;rw[vb]at r p;by_cases d:i<g.bk.length<;>by_cases f:j<g.bk.length<;>simp only[d,f,if_true,if_false]at r p
  .exact h.inj i j a r p
  .have:=c i a r
   have:a=w.heap.size:=by
    have v:=bV.1 p;obtain⟨l,z⟩:=v;simp at l;simp[l]at z;omega
   omega
  .have:=c j a p
   have:a=w.heap.size:=by
    have v:=bV.1 r;obtain⟨l,z⟩:=v;simp at l;simp[l]at z;omega
   omega
  .have v:=(bV.1 r).1;have l:=(bV.1 p).1;simp at v l;omega
 .intro k n e u;obtain⟨I,d⟩:=h.row k n e u;refine⟨I,?_⟩;rcases d with d|⟨a,m,t,N,d,f,v,l,z,E⟩
  .exact .inl d
  .refine .inr ⟨a,m,t,N,d,by rw[heap_alloc_old w o a (lt_of_heap f)];exact f,v,l,?_,E⟩;simp only[Gh.box,nA,dP];rintro(E|E)
   .exact z E
   .have:=lt_of_heap f;omega
theorem Step.drew(g:Gh)(rl:bm)(w:World):Step g rl w g rl w.drew:=
 ⟨rfl,rfl,rfl,aQ _,fun _=>aQ _,fun _ _ _=>rfl,fun _ _ h=>h,fun _ _ _ h=> .of h (aQ _) fun _=>rfl,fun _ _=>rfl,fun _ h=> .inl h,fun _ h=> .inl h,fun _ _ _ _=>rfl,fun _ _ _ _=>rfl,fun _ _ _ _=> .refl _⟩
theorem aY.drew{L:Lk}{g:Gh}{nb:Nat}{bx:List Bx}{rl:bm}{w:World}(h:aY L g nb bx rl w):aY L g nb bx rl w.drew:=
 h.move (Step.drew g rl w) rfl rfl (fun _ _=>rfl) (fun _ _=>rfl) h.fresh rfl
theorem Step.xK(r:b∈g.bk)(u:g.bD b=0)(ia cs:Array Value)(t:TypeId)(n:Nat×Nat)(s:w.heap[b]?=some (.cells ia t n))(d:cs.size=ia.size):Step g rl w g rl (w.setRow b cs) where
 os:=rfl
 tape:=rfl
 output:=rfl
 size:=by simp
 bD b:=aQ _
 cell e o c:=by
  by_cases h:e=b
  .subst h;omega
  .exact World.cell?_of_block (a:=⟨e,o,none⟩) (setRow_other w b e cs h)
 bk i b h:=h
 row _ _ _ h:=.of h (aQ _) fun _=>rfl
 shape e m:=by
  by_cases h:e=b
  .subst h;simp only[World.shape?,setRow_heap w e ia cs t n s,s,d]
  .simp only[World.shape?,setRow_other w b e cs h]
 jz b h:=.inl h
 jA b h:=.inl h
 frame e _ l _:=setRow_other w b e cs (fun h=>l (h▸r))
 lb _ _ _ _:=rfl
 oi _ _ _ _:=.refl _
theorem aY.xK{L:Lk}{g:Gh}{nb:Nat}{bx:List Bx}{rl:bm}{w:World}(h:aY L g nb bx rl w){i b:Nat}(hi:g.bk[i]?=some b)(ia cs:Array Value)(t:TypeId)(f:Nat×Nat)(E:w.heap[b]?=some (.cells ia t f))(T:cs.size=ia.size)(q:g.bD b=0)(x:Bx)(A:Gu L g rl (w.setRow b cs) x b):
  aY L g nb (bx.set i x) rl (w.setRow b cs):=by
 have a:b∈g.bk:=cP.2 ⟨i,hi⟩;have s:=Step.xK (rl:=rl) a q ia cs t f E T;refine⟨by simp[h.nb],by simp[h.kt],?_,h.inj,h.jv,?_,h.jI,fun b m=>h.fresh b (by simpa using m),fun i=>(h.jd i).bj s,h.par.bj s rfl (fun _ _=>rfl) fun c O d t r=>⟨d,t,by rw[setRow_other w b c cs (fun e=>O (e▸h.par.bk b a))];exact r⟩⟩
 .intro j y o l u;by_cases p:j=i
  .subst p;rw[hi]at u;cases u;rw[List.getElem?_set]at l;split at l
   .split at l
    .cases l;exact⟨fun _=>q,A⟩
    .cases l
   .exact absurd rfl ‹_›
  .rw[jE (k8 p)]at l;obtain⟨r,v⟩:=h.box j y o l u;exact⟨r,v.bj s (setRow_other w b o cs (fun m=>p (h.inj j i b (m▸u) hi)))⟩
 .intro k n e u;obtain⟨I,r⟩:=h.row k n e u;refine⟨I,?_⟩;rcases r with r|⟨o,d,t,f,r,v,N,S,z,H⟩
  .exact .inl r
  .exact .inr ⟨o,d,t,f,r,by rw[setRow_other w b o cs (fun m=>z (m▸a))];exact v,N,S,z,H⟩
variable{i:Nat}
def xp(w:World)(b:Nat):Nat:=match w.heap[b]? with|some (.cells e _ _)=>e.size|_=>0
section
variable{H:Type}
mutual
def Dk:DataW H->List DV
 | .lit (.bool b)=>[.bool b]
 | .lit (.int k n)=>[.int k n]
 | .lit (.string s)=>[.str s]
 | .nil=>[.sl []]
 | .slice es _=>[.sl (yq es)]
 | .agg e=>(yq e).flatten
 |_=>[]
def yq:List (DataW H)->bJ
 |[]=>[]
 |d::r=>Dk d::yq r
end
theorem yt:∀l:List (DataW H),yq l=l.map Dk
 |[]=>rfl
 |d::r=>by rw[yq,yt r];rfl
end
def Lj{α:Type}(ty off:α->Nat):Nat->List α->Nat->Bool
 |o,[],n=>Nat.beq o n
 |o,f::r,n=>Nat.beq (off f) o&&Lj ty off (o+ty f) r n
def TI(P:Program)(S:List TypeId)(t:TypeId):Bool:=
 match P.underlying t with
 |some .bool=>Nat.beq (P.cellsOf t) 1
 |some .string=>Nat.beq (P.cellsOf t) 1
 |some (.int _)=>Nat.beq (P.cellsOf t) 1
 |some (.slice e)=>Nat.beq (P.cellsOf t) 1&&Nat.blt 0 (P.cellsOf e)&&Nat.blt 0 (P.bytesOf e)&&S.contains e
 |some (.struct a)=>a.toList.all (fun f=>S.contains f.type)&&Lj (fun f=>P.cellsOf f.type) Field.offset 0 a.toList (P.cellsOf t)
 |some (.array n e)=>S.contains e&&Nat.beq (n*P.cellsOf e) (P.cellsOf t)
 |_=>false
def Xz(F:TypeId->List DV->Prop):List TypeId->bJ->Prop
 |[],[]=>True
 |t::e,l::a=>F t l/\Xz F e a
 |_,_=>False
def fit(P:Program):Nat->TypeId->List DV->Prop
 |0,_,_=>False
 |n+1,t,l=>match P.underlying t with
  |some .bool=> ∃b,l=[.bool b]
  |some (.int k)=> ∃i,eB k i/\l=[.int k i]
  |some .string=> ∃s:List UInt8,s.length<=gJ/\l=[.str s]
  |some (.slice e)=> ∃o:bJ,o.length<=gJ/\l=[.sl o]/\∀x,x∈o->fit P n e x
  |some (.struct h)=> ∃a,l=a.flatten/\Xz (fit P n) (h.toList.map (·.type)) a
  |some (.array _ e)=> ∃a:bJ,l=a.flatten/\∀x,x∈a->fit P n e x
  |_=>False
def RL(mk:Nat->Nat)(w:World)(l:List DV)(cs:List Value):Prop:=
 l.length=cs.length/\∀(j:Nat)(y:DV)(c:Value),l[j]?=some y->cs[j]?=some c->DR mk w y c
section
variable{H:Type}{mk:Nat->Nat}{w:World}
theorem RL.nil:RL mk w [] []:=⟨rfl,fun j y c h=>by simp at h⟩
theorem RL.one{y:DV}(h:DR mk w y c):RL mk w [y] [c]:=⟨rfl,fun j a o e t=>by
 cases j with
 |zero=>simp at e t;subst e;subst t;exact h
 |succ j=>simp at e⟩
theorem RL.app{a b:List DV}{x y:List Value}(t:RL mk w a x)(n:RL mk w b y):RL mk w (a++b) (x++y):=by
 refine⟨by simp[t.1,n.1],fun j d c o i=>?_⟩;by_cases s:j<a.length
 .rw[gL s]at o;rw[gL (by have:=t.1;omega)]at i;exact t.2 j d c o i
 .have e:=t.1;rw[pI om]at o;rw[pI om,<-e]at i;exact n.2 _ d c o i
theorem Tu{k:IntKind}{n:Int}(h:(Lit.int k n).wf=true):eB k n:=by
 simp only[Lit.wf,bT,decide_eq_true_eq]at h;obtain⟨e,t⟩:=h;cases k<;>exact⟨e,t⟩
theorem uS{P:Program}{e:TypeId}{x:Nat}{d:DataW H}:∀{l:List (DataW H)},d∈l->x∈d.weights P e->x∈DataW.weightsAll P e l
 |a::r,h,t=>by
  unfold DataW.weightsAll;rcases xe.1 h with rfl|h
  .exact AD _ t
  .exact AB _ (uS h t)
theorem yL{P:Program}{x:Nat}:∀{e:List TypeId}{ds:List (DataW H)}{j:Nat}{t:TypeId}{d:DataW H},e[j]?=some t->ds[j]?=some d->x∈d.weights P t->x∈DataW.weightsEach P e ds
 |[],_,_,_,_,h,_,_=>by simp at h
 |_::_,[],_,_,_,_,h,_=>by simp at h
 |t::e,d::ds,0,n,s,a,o,i=>by
  simp at a o;subst a;subst o;unfold DataW.weightsEach;exact AD _ i
 |t::e,d::ds,j+1,n,s,a,o,i=>by
  unfold DataW.weightsEach;exact AB _ (yL (j:=j) (by simpa using a) (by simpa using o) i)
theorem Ii(e:Nat):∀(k s:Nat),Lj (fun _:Nat=>e) (fun i=>i*e) (s*e) (List.range' s k) ((s+k)*e)=true
 |0,s=>by simp[Lj]
 |k+1,s=>by
  have:=Ii e k (s+1);rw[show s+1+k=s+(k+1) by omega,jb s 1 e,tU]at this;rw[Rp];simp only[Lj,bT];exact⟨Nat.beq_refl _,this⟩
theorem I5{α β:Type}{f:α->Option β}{a:α}{r:List α}{ys:List β}(h:(a::r).mapM f=some ys):∃y zs,f a=some y/\r.mapM f=some zs/\ys=y::zs:=by
 rw[JG]at h;cases e:f a with
 |none=>simp[e]at h
 |some y=>
  cases t:r.mapM f with
  |none=>simp[e,t]at h
  |some zs=>simp[e,t]at h;exact⟨y,zs,rfl,rfl,h.symm⟩
theorem B2{α:Type}{P:Program}{r:TypeId->List Value->Option (DataW H×List MemPlace)}(ty:α->TypeId)(off:α->Nat)(F:TypeId->List DV->Prop)(i:TypeId->DataW H->Prop)(s:∀t c x,i t x.1->r t c=some x->RL mk w (Dk x.1) c/\F t (Dk x.1))(cs:List Value):∀(L:List α)(o:Nat)(xs:List (DataW H×List MemPlace)),
  L.mapM (fun a=>r (ty a) ((cs.drop (off a)).take (P.cellsOf (ty a))))=some xs->Lj (fun a=>P.cellsOf (ty a)) off o L cs.length=true->
  (∀(j:Nat)(a:α)(x:DataW H×List MemPlace),L[j]?=some a->xs[j]?=some x->i (ty a) x.1)->
  RL mk w (yq (xs.map (·.1))).flatten (cs.drop o)/\Xz F (L.map ty) (yq (xs.map (·.1)))
 |[],o,xs,h,e,_=>by
  simp at h;subst h;have:o=cs.length:=dL e;subst this;exact⟨by simpa[yq]using RL.nil,trivial⟩
 |a::L,o,xs,h,e,d=>by
  obtain⟨x,zs,l,u,rfl⟩:=I5 h;simp only[Lj,bT]at e;obtain⟨n,m⟩:=e;have n:off a=o:=dL n;subst n;obtain⟨f,y⟩:=s _ _ _ (d 0 a x rfl rfl) l;obtain⟨p,v⟩:=B2 ty off F i s cs L (off a+P.cellsOf (ty a)) zs u m (fun j b g k q=>d (j+1) b g (by simpa using k) (by simpa using q));refine⟨?_,y,v⟩;have:=f.app p;rw[<-Dg,Jy]at this;exact this
theorem Nv{F:TypeId->List DV->Prop}{e:TypeId}{α:Type}:∀{L:List α}{a:bJ},Xz F (L.map fun _=>e) a->∀x,x∈a->F e x
 |[],[],_,x,t=>by simp at t
 |_::L,l::a,h,x,t=>by
  rcases xe.1 t with rfl|t
  .exact h.1
  .exact Nv (L:=L) h.2 x t
 |[],_::_,h,_,_=>h.elim
 |_::_,[],h,_,_=>h.elim
theorem DS{base:Nat}{a:Addr}{cs:List Value}(h:w.cells? base a n=some cs):cs.length=n/\∀i,i<n->∃c,cs[i]?=some c/\w.cell? (a.add i)=some c:=by
 unfold World.cells? at h;split at h
 .refine⟨by simpa using mapM_some_length h,fun i e=>?_⟩;have:=mapM_some_get h i i (by simp[e]);rw[dw (by have:=mapM_some_length h;simp at this;omega)]at this⊢;exact⟨_,rfl,this⟩
 .cases h
theorem Bu{a:Addr}(h:w.cell? (a.add i)=some c):(i=0->a.spot=none)/\w.cell? ⟨a.block,a.off+i,none⟩=some c/\a.off+i<xp w a.block:=by
 have o:(a.add i).spot=none:=by
  cases n:(a.add i).spot with
  |none=>rfl
  |some s=>
   simp only[World.cell?]at h;split at h
   .simp[n]at h
   .cases h
 have e:a.add i=⟨a.block,a.off+i,none⟩:=by
  unfold Addr.add at o⊢;split
  .rename_i r;subst r;rw[if_pos rfl]at o;cases a;simp_all
  .rfl
 refine⟨fun r=>by subst r;exact o,?_⟩;rw[e]at h;refine⟨h,?_⟩;unfold World.cell? at h;unfold xp;split at h
 .rename_i l t u d;simp only at d;rw[d];simp only[JB,jT,if_false]at h;exact(nx.1 h).1
 .cases h
theorem M5(a:Addr)(i j:Nat):(a.add i).add j=a.add (i+j):=by
 unfold Addr.add;by_cases e:i=0<;>by_cases t:j=0<;>simp[e,t,kJ]
theorem N8{P:Program}{enc:TypeId×Value->H}{B:Bool}(S:List TypeId)(hS:S.all (TI P S)=true):∀(n:Nat)(t:TypeId)(cs:List Value)(x:DataW H×List MemPlace),
  t∈S->(∀y,y∈x.1.weights P t->y<=reachBytes)->DataW.trod enc P w 0 (fun _=>true) B n t cs=some x->RL (xp w) w (Dk x.1) cs/\fit P n t (Dk x.1):=by
 intro n
 induction n with
 |zero=>intro t cs x _ _ h;simp[DataW.trod]at h
 |succ n ih=>
  intro t cs x ht G h;have g:=kI.1 hS t ht;unfold TI at g;split at g
  .rename_i p;obtain⟨b,rfl,rfl⟩:=DataW.trod_bool p h;exact⟨RL.one (.bool b),by unfold fit;rw[p];exact⟨b,rfl⟩⟩
  .rename_i p;obtain⟨s,rfl,rfl,_⟩:=DataW.trod_string p h
   have A:s.data.toList.length<=gJ:=by
    have:=G s.data.toList.length (by simp[DataW.weights]);unfold reachBytes at this;unfold gJ;omega
   refine⟨RL.one ?_,by unfold fit;rw[p];exact⟨_,A,rfl⟩⟩;have:=DR.str (mk:=xp w) (w:=w) s.data.toList A;simpa using this
  .rename_i k p;obtain⟨i,rfl,rfl,K⟩:=DataW.trod_int p h;exact⟨RL.one (.int k i (Tu K)),by unfold fit;rw[p];exact⟨i,Tu K,rfl⟩⟩
  .rename_i e p;simp only[bT]at g;obtain⟨⟨⟨_,hc⟩,hb⟩,L⟩:=g;have L:=Jz.1 L;have hc:0<P.cellsOf e:=cb hc;have hb:0<P.bytesOf e:=cb hb;rcases DataW.trod_slice p h with⟨rfl,rfl⟩|⟨a,len,U,o,O,m,hm,rfl,rfl,_,ez,_,J,em,ef,_⟩
   .exact⟨RL.one .slnil,by unfold fit;rw[p];exact⟨[],by simp,rfl,fun x u=>by simp at u⟩⟩
   .obtain rfl:m=n:=by omega
    obtain⟨e2,ey⟩:=ef rfl
    have ep:∀y,y∈DataW.weightsAll P e (o.map (·.1))->y<=reachBytes:=fun y E=>G y (by
     unfold DataW.weights;rw[p];exact iS _ (AD _ E))
    have Q:(o.length+O.length)*P.bytesOf e<=reachBytes:=G _ (by
     unfold DataW.weights;rw[p];simp)
    have X:o.length<=gJ:=by
     have:(o.length+O.length)*1<=(o.length+O.length)*P.bytesOf e:=Nat.mul_le_mul_left _ hb;unfold reachBytes at Q;unfold gJ;omega
    have one:∀(i:Nat)(x:DataW H×List MemPlace),o[i]?=some x->∃c,w.cells? 0 (a.add (i*P.cellsOf e)) (P.cellsOf e)=some c/\RL (xp w) w (Dk x.1) c/\fit P m e (Dk x.1):=by
     intro i x u;have hi:i<len:=by have:=(bV.1 u).1;omega
     have Z:=em i hi;rw[u]at Z;obtain⟨c,r,z⟩:=Option.bind_eq_some_iff.1 Z;exact⟨c,r,ih e c x L (fun y E=>ep y (uS (lH.2 ⟨x,vc u,rfl⟩) E)) z⟩
    have ee:∀l,l∈yq (o.map (·.1))->fit P m e l:=by
     intro l A;rw[yt]at A;obtain⟨d,hd,rfl⟩:=lH.1 A;obtain⟨x,u,rfl⟩:=lH.1 hd;obtain⟨i,hi⟩:=cP.1 u;exact(one i x hi).choose_spec.2.2
    have T:(yq (o.map (·.1))).length=o.length:=by rw[yt];simp
    refine⟨RL.one ?_,by unfold fit;rw[p];exact⟨_,by rw[T];exact X,rfl,ee⟩⟩;obtain⟨I,N,sp⟩:=a;by_cases h0:len=0
    .have et:o=[]:=mc om;subst et;subst h0;by_cases eo:U=0
     .subst eo;exact .sle _
     .have Z:=ey 0 om;rw[dw om]at Z;obtain⟨c,r,_⟩:=Option.bind_eq_some_iff.1 Z;obtain⟨v,_,hv⟩:=(DS r).2 0 hc;rw[M5]at hv;obtain⟨q1,q2,q3⟩:=Bu hv;have q1:sp=none:=q1 si;subst q1;refine .sl [] I N U 0 (fun _ _=> .nilFunc) si si (fun x u=>by simp at u) ?_ (fun i j hi=>by simp at hi) (fun i j x y u=>by simp at u);simp at q3⊢;omega
    .have q:∀i j,i<o.length->j<P.cellsOf e->∃c,w.cell? ((⟨I,N,sp⟩:Addr).add (i*P.cellsOf e+j))=some c/\
       ∀y,(yq (o.map (·.1)))[i]?>>=(fun l=>l[j]?)=some y->DR (xp w) w y c:=by
      intro i j hi hj;obtain⟨c,r,z,_⟩:=one i o[i] (dw hi);obtain⟨v,eg,ei⟩:=(DS r).2 j hj;rw[M5]at ei;refine⟨v,ei,fun y E=>z.2 j y v ?_ eg⟩;rw[yt]at E;simpa[dw hi]using E
     have ed:sp=none:=by
      obtain⟨c,r,_⟩:=q 0 0 om hc;exact(Bu r).1 si
     subst ed
     have C:N+o.length*P.cellsOf e<=xp w I:=by
      obtain⟨c,r,_⟩:=q (o.length-1) (P.cellsOf e-1) om om;have:=(Bu r).2.2;simp only at this
      have e1:(o.length-1)*P.cellsOf e+P.cellsOf e=o.length*P.cellsOf e:=by
       rw[<-xf];congr 1;omega
      omega
     have R:∀x,x∈yq (o.map (·.1))->x.length=P.cellsOf e:=by
      intro l A;rw[yt]at A;obtain⟨d,hd,rfl⟩:=lH.1 A;obtain⟨x,u,rfl⟩:=lH.1 hd;obtain⟨i,hi⟩:=cP.1 u;obtain⟨c,r,z,_⟩:=one i x hi;rw[z.1,(DS r).1]
     have el:=DR.sl (mk:=xp w) (w:=w) (yq (o.map (·.1))) I N U (P.cellsOf e) (fun i j=>(w.cell? ⟨I,N+(i*P.cellsOf e+j),none⟩).getD .nilFunc) (by rw[T];exact X) (by rw[T];omega) R
      (by rw[T];exact C) (fun i j hi hj=>by
       rw[T]at hi;obtain⟨c,r,_⟩:=q i j hi hj;rw[(Bu r).2.1];rfl) (fun i j x y u E=>by
       have hi:i<o.length:=by have:=(bV.1 u).1;omega
       have hj:j<P.cellsOf e:=by have:=(bV.1 E).1;rw[R x (vc u)]at this;exact this
       obtain⟨c,r,z⟩:=q i j hi hj;rw[(Bu r).2.1];exact z y (by rw[u];exact E))
     rw[T,J]at el;exact el
  .rename_i fs p;simp only[bT]at g;obtain⟨ha,ho⟩:=g;rw[DataW.trod_step]at h;unfold DataW.trodStep at h;rw[p]at h;split at h<;>first|(exfalso;simp_all;done)|skip
   rename_i M _ _ ej F;obtain rfl:fs=ej:=by injection F with F;injection F
   split at h
   .rename_i A;obtain⟨xs,u,rfl⟩:=Re.1 h;have e3:xs.length=fs.toList.length:=by simpa using mapM_some_length u
    have:=B2 (fun f:Field=>f.type) Field.offset (fit P n) (fun t d=>t∈S/\∀y,y∈DataW.weights P t d->y<=reachBytes) (fun t c x hk u=>ih t c x hk.1 hk.2 u) M fs.toList 0 xs u (by rw[A];exact ho) (fun j a x Y V=>by
     refine⟨Jz.1 (kI.1 ha a (vc Y)),fun y E=>G y ?_⟩;unfold DataW.weights;rw[p];simp only;refine yL (j:=j) (t:=a.type) (d:=x.1) ?_ ?_ E
     .rw[jU,Y];rfl
     .rw[jU,V];rfl)
    refine⟨by simpa[Dk]using this.1,?_⟩;unfold fit;rw[p];exact⟨_,by rw[Dk],this.2⟩
   .cases h
  .rename_i m e p;simp only[bT]at g;obtain⟨L,ho⟩:=g;have L:=Jz.1 L;have ho:m*P.cellsOf e=P.cellsOf t:=dL ho;rw[DataW.trod_step]at h;unfold DataW.trodStep at h;rw[p]at h;split at h<;>first|(exfalso;simp_all;done)|skip
   rename_i M _ _ m' e' F;obtain⟨rfl,rfl⟩:m=m'/\e=e':=by injection F with F;injection F with q1 q2;exact⟨q1,q2⟩
   split at h
   .rename_i A;obtain⟨xs,u,rfl⟩:=Re.1 h;have D:=Ii (P.cellsOf e) m 0;rw[Nat.zero_mul,dK,<-Mm,ho,<-A]at D
    have:=B2 (fun _:Nat=>e) (fun i=>i*P.cellsOf e) (fit P n) (fun t d=>t∈S/\∀y,y∈DataW.weights P t d->y<=reachBytes) (fun t c x hk u=>ih t c x hk.1 hk.2 u) M (List.range m) 0 xs u D (fun j a x Y V=>by
     refine⟨L,fun y E=>G y ?_⟩;unfold DataW.weights;rw[p];simp only;exact uS (d:=x.1) (lH.2 ⟨x,vc V,rfl⟩) E)
    refine⟨by simpa[Dk]using this.1,?_⟩;unfold fit;rw[p];exact⟨_,by rw[Dk],Nv this.2⟩
   .cases h
  .cases g
end
end Go.Ab
namespace Go.Ab
open Go Go.ChangeShapes Go.WideShapes
section
variable{H:Type}{enc:TypeId×Value->H}{P:Program}{W W':World}
theorem Iw(e:∀b,b<W.heap.size->W'.heap[b]?=W.heap[b]?){p:MemPlace}(h:p.block<W.heap.size):W.sameAt W' p:=by
 cases p with
 |cell b t=>simp only[World.sameAt,World.cell?];rw[e b h]
 |map b=>exact e b h
theorem Nh(a:∀b,b<W.heap.size->W'.heap[b]?=W.heap[b]?){o:Nat->Bool}:∀{i:List TypeId}{s:List Value}{ds:List (DataW H)}{ps:List MemPlace},
  DataW.TrodAll enc P W 0 o true i s ds ps->(∀p,p∈ps->p.block<W.heap.size)->DataW.TrodAll enc P W' 0 o true i s ds ps
 |[],[],[],_,h,_=>h
 |_::_,_::_,_::_,_,⟨p,q,⟨n,d⟩,l,e⟩,r=>by
  subst e;exact⟨p,q,⟨n,DataW.trod_carry n _ _ _ d fun x t=>Iw a (r x (AD _ t))⟩,Nh a l (fun x t=>r x (AB _ t)),rfl⟩
theorem J1(r:∀b,b<W.heap.size->W'.heap[b]?=W.heap[b]?)(K:Kids P (·<P.types.size))(c:∀t e,t<P.types.size->P.underlying t=some (.slice e)->0<P.cellsOf e)(m:∀(n:String)(g:Nat)(t:TypeId),P.globalNamed n=some g->(P.globals[g]?).map (·.type)=some t->t<P.types.size){s:Nat->Bool}:∀{ns:List String}{ds:List (DataW H)}{ps:List MemPlace},
  DataW.TrodVars enc P W (fun _=>true) ns ds ps->(∀p,p∈ps->p.block<W.heap.size)->(∀p,p∈ps->s p.block=true)->DataW.TrodVars enc P W' s ns ds ps
 |[],[],_,h,_,_=>h
 |n::_,_::_,_,⟨g,t,f,a,p,q,d,w,i,k,j,e⟩,y,v=>by
  subst e;refine⟨g,t,f,a,p,q,d,w,?_,?_,J1 r K c m j (fun x o=>y x (AB _ o)) (fun x o=>v x (AB _ o)),rfl⟩
  .unfold World.var? at i⊢;rw[d]at i⊢;simp only[Rq]at i⊢
   have z:g<W.heap.size:=by
    split at i
    .rename_i E;exact(nx.1 E).1
    .cases i
   rw[r g z];exact i
  .have l:∀x,x∈p->s x.block=true:=fun x o=>v x (AD _ (AB _ o))
   have u:=DataW.trod_respare (spare':=s) K c a t f.toList (_,p) (m n g t d w) k l;exact DataW.trod_carry a _ _ _ u fun x o=>Iw r (y x (AD _ (AB _ o)))
theorem aap{f:Func}{s:ChangeSpec}{d E l T:Bool}{args:Array Value}{v:Value}{ds q:List (DataW H)}{u:List MemPlace}(K:Kids P (·<P.types.size))(V:∀t e,t<P.types.size->P.underlying t=some (.slice e)->0<P.cellsOf e)(B:∀(n:String)(g:Nat)(t:TypeId),P.globalNamed n=some g->(P.globals[g]?).map (·.type)=some t->t<P.types.size)(hP:∀t,t∈f.params.toList->t<P.types.size)(L:DataW.Whole enc P f.params.toList s.vars d W args.toList ds q u)(x:∀(b:Nat)(m:Nat->Bool)(G:Bool),DataW.TrodAll enc P W' b m G f.resultTypes.toList (v.resultList f.resultTypes.size) (s.fn H (ds++q)).results [])(A:(s.fn H (ds++q)).args=ds)(O:(s.fn H (ds++q)).vars=q)(U:W'.os=W.os)(I:W'.output=W.output)(D:∀b,b<W.heap.size->W'.heap[b]?=W.heap[b]?)(C:∀(j:Nat)(t:TypeId)(r:Value),f.resultTypes[j]?=some t->(v.resultList f.resultTypes.size)[j]?=some r->Value.okWide P W' .any 0 t r):
  s.post enc P f d E l T W args v W':=by
 have w:=L.lt;have M:=L;obtain⟨y,k,J,Q,rfl,F,X⟩:=M
 have N:∀m:Nat->Bool,(∀p,p∈y++k->m p.block=true)->DataW.TrodAll enc P W' 0 m true f.params.toList args.toList (s.fn H (ds++q)).args y:=fun m h=>by
  rw[A];exact Nh D (DataW.TrodAll.respare K V hP J fun p a=>h p (AD _ a)) fun p a=>w p (AD _ a)
 have S:∀m:Nat->Bool,(∀p,p∈y++k->m p.block=true)->DataW.TrodVars enc P W' m s.vars (s.fn H (ds++q)).vars k:=fun m h=>by
  rw[O];exact J1 D K V B Q (fun p a=>w p (AB _ a)) fun p a=>h p (AB _ a)
 have z:∀p,p∈y++k->(fun b=>decide (b<W.heap.size)) p.block=true:=fun p a=>by simpa using w p a
 refine⟨ds,q,y++k,[],y,k,L,x _ _ _,N _ z,S _ z,⟨U,I,fun i Z=>?_⟩,fun _=>⟨C,_,_,([]++y)++k,⟨[]++y,k,trodAll_append (N _ (fun _ _=>rfl)) (x _ _ _),S _ (fun _ _=>rfl),rfl,?_,?_⟩,?_⟩⟩
 .rw[D i Z];cases W.heap[i]? with
  |none=>rfl
  |some o=>
   cases o with
   |cells c t fr=>exact⟨rfl,rfl,rfl,fun _ _=>rfl⟩
   |map es Y=>exact .inr ⟨rfl,rfl⟩
   |_=>rfl
 .intro b R a;have a:MemPlace.cell b R∈y++k:=by simpa using a
  have:=F b R a;unfold World.frozen? at this⊢;rw[D b (w _ a)];exact this
 .intro ha;simpa using X ha
 .intro p a _;simpa using a
end
def dE(W:World):Gh:=⟨[],xp W,[],fun _=> .out⟩
theorem ad5{L:Lk}{W:World}(a:∀i,xP L (dE W) [] W i):aY L (dE W) 0 [] [] W where
 nb:=rfl
 kt:=rfl
 box:=fun i x s h _=>by simp at h
 inj:=fun i j b h _=>by simp[dE]at h
 jv:=rfl
 row:=fun k n e h=>by simp at h
 jI:=fun i j b h _=>by simp[dE]at h
 fresh:=fun b t=>by
  show xp W b=0;unfold xp;rw[Array.getElem?_eq_none t]
 jd:=a
 par:=⟨fun _ _=>rfl,fun _ _=>rfl,fun c o b r len d l=>absurd rfl l,fun b t=>absurd rfl t⟩
theorem G3{L:Lk}{g:Gh}{rl:bm}{W:World}{i:Nat}(h:L.gl i=[])(e:L.ge i=none):xP L g rl W i:=by
 refine⟨?_,fun t=>absurd h t,fun ev q=>by rw[e]at q;cases q⟩;rw[h];exact .gA [] _ _ (fun _=> .nilFunc) (cr _) (fun j a=>by simp at a) (fun j y o=>by simp at o)
theorem Kn{L:Lk}{W:World}{i:Nat}{n:String}{d:DataW Unit}{a:List (String×DataW Unit)}(S:List TypeId)(H:S.all (TI L.P S)=true)(I:L.P.globalNamed n=some (L.gn i))(R:laidMet L.P a W)(v:(n,d)∈a)(D:∀t,(L.P.globals[L.gn i]?).map (·.type)=some t->t∈S/\(d.weights L.P t).all (fun y=>Nat.ble y reachBytes)=true)(N:L.gl i=Dk d)(U:L.ge i=none):xP L (dE W) [] W i:=by
 have A:∀(a:List (String×DataW Unit))(ps:List MemPlace),DataW.LaidVars L.P W a ps->(n,d)∈a->∃t s o p,(L.P.globals[L.gn i]?).map (·.type)=some t/\W.var? L.P n=some s/\DataW.trod (fun _=>()) L.P W 0 (fun _=>true) false o t s.toList=some (d,p):=by
  intro a
  induction a with
  |nil=>intro ps _ h;simp at h
  |cons x r C=>
   obtain⟨Z,d'⟩:=x;intro ps h v;obtain⟨g,t,s,o,p,q,f,l,O,M,F,_⟩:=h;rcases xe.1 v with e|v
   .injection e with Y V;subst Y;subst V;rw[I]at f;injection f with f;subst f;exact⟨t,s,o,p,l,O,M⟩
   .exact C q F v
 obtain⟨ps,B,_⟩:=R;obtain⟨t,s,o,p,f,l,O⟩:=A a ps B v;obtain⟨G,K⟩:=D t f;obtain⟨⟨J,Q⟩,_⟩:=N8 (w:=W) S H o t s.toList (d,p) G (fun y z=>cb (kI.1 K y z)) O
 have m:∃b E,W.heap[L.gn i]?=some (.cells s b E):=by
  unfold World.var? at l;rw[I]at l;simp only[Rq]at l;split at l
  .rename_i c b E m;injection l with l;subst l;exact⟨b,E,m⟩
  .cases l
 obtain⟨b,E,m⟩:=m;have k:(L.gl i).length=s.size:=by rw[N,J];simp
 have X:xp W (L.gn i)=s.size:=by unfold xp;rw[m]
 have u:∀j,j<s.size->s[j]?=some (s.getD j .nilFunc):=fun j T=>by simp[Array.getD,T]
 refine⟨.gA _ _ _ (fun j=>s.getD j .nilFunc) ?_ ?_ ?_,fun _=>⟨b,?_⟩,fun ev q=>by rw[U]at q;cases q⟩
 .show 0+(L.gl i).length<=xp W (L.gn i);omega
 .intro j T;unfold World.cell?;simp only[m,JB,jT,if_false,dK];exact u j om
 .intro j y z;have T:j<s.size:=by have:=(bV.1 z).1;omega
  refine Q j y _ (by rw[<-N];exact z) ?_;have:=u j T;simpa using this
 .unfold World.shape?;rw[m,k]
theorem Z0{P:Program}{W:World}{n:String}{d:DataW Unit}{a:List (String×DataW Unit)}(u:laidMet P a W)(s:(n,d)∈a):
  ∃g t i o p,P.globalNamed n=some g/\(P.globals[g]?).map (·.type)=some t/\W.var? P n=some i/\DataW.trod (fun _=>()) P W 0 (fun _=>true) false o t i.toList=some (d,p):=by
 have l:∀(a:List (String×DataW Unit))(ps:List MemPlace),DataW.LaidVars P W a ps->(n,d)∈a->∃g t i o p,P.globalNamed n=some g/\(P.globals[g]?).map (·.type)=some t/\W.var? P n=some i/\DataW.trod (fun _=>()) P W 0 (fun _=>true) false o t i.toList=some (d,p):=by
  intro a
  induction a with
  |nil=>intro ps _ h;simp at h
  |cons x r c=>
   obtain⟨z,E⟩:=x;intro ps h s;obtain⟨g,t,i,o,p,q,m,f,w,y,v,_⟩:=h;rcases xe.1 s with e|s
   .injection e with b k;subst b;subst k;exact⟨g,t,i,o,p,m,f,w,y⟩
   .exact c q v s
 obtain⟨ps,j,_⟩:=u;exact l a ps j s
theorem aeE{P:Program}{W:World}{n:String}{g:Nat}{cs:Array Value}(a:P.globalNamed n=some g)(h:W.var? P n=some cs):∃e t,W.heap[g]?=some (.cells cs e t):=by
 unfold World.var? at h;rw[a]at h;simp only[Rq]at h;split at h
 .rename_i c e t o;injection h with h;subst h;exact⟨e,t,o⟩
 .cases h
theorem Sh{P:Program}{W:World}{n nm:String}{d:DataW Unit}{e:List (String×DataW Unit)}{g:Nat}{t:TypeId}{ms:Array (String×TypeId)}(h:laidMet P e W)(r:(n,.iface nm d)∈e)(a:P.globalNamed n=some g)(l:(P.globals[g]?).map (·.type)=some t)(hi:P.underlying t=some (.interface ms)):∃c m,W.cell? ⟨g,0,none⟩=some (.iface c m)/\0<xp W g:=by
 obtain⟨j,q,o,i,p,f,w,y,b⟩:=Z0 h r;obtain rfl:=vf (a.symm.trans f);obtain rfl:=vf (l.symm.trans w);obtain⟨_,u,v,x,_⟩:=iface_of_trod hi b;obtain⟨z,E,s⟩:=aeE a y;have k:o=#[.iface u v]:=by cases o;simp_all
 subst k;exact⟨u,v,by simp[World.cell?,s],by unfold xp;rw[s];simp⟩
theorem So{L:Lk}{W:World}{i:Nat}{ev:Value}(h:L.gl i=[])(e:L.ge i=some ev)(t:W.cell? ⟨L.gn i,0,none⟩=some ev)(a:0<xp W (L.gn i)):xP L (dE W) [] W i:=by
 refine⟨?_,fun o=>absurd h o,fun x q=>by rw[e]at q;cases q;exact⟨t,a⟩⟩;rw[h];exact .gA [] _ _ (fun _=> .nilFunc) (cr _) (fun j n=>by simp at n) (fun j y s=>by simp at s)
theorem ab3{k:IntKind}{n:Int}(h:k.has n):eB k n:=by cases k<;>exact h
theorem acC{P:Program}{W:World}{g:Nat}{t:TypeId}{zero:Array Value}{k:IntKind}(h:W.ShapedOpen P)(c:g<P.globals.size)(m:((begin P (fun _ _=>0) default).world.heap[g]?).bind Obj.row?=some (zero,t))(T:zero.size=1)(f:P.buildable t=true)(w:P.cellTypes P.depth t=some [t])(y:P.underlying t=some (.int k)):∃n,eB k n/\∃p v,W.heap[g]?=some (.cells #[.int k n] p v):=by
 obtain⟨o,d,A,j⟩:=h.1 g zero t c m;obtain⟨O,s,_,r⟩:=j f;rw[w]at s;cases s;have q:0<o.size:=by omega
 obtain⟨u,l,e⟩:=r 0 o[0] (by simp[q]);have:u=t:=by simpa using l.symm
 subst this;unfold Cell.ok at e;rw[y]at e
 have x:o=#[o[0]]:=by
  apply vM
  .simp;omega
  .intro i a b;have:i=0:=by simp at b;omega
   subst this;rfl
 rw[x]at d;cases z:o[0]<;>rw[z]at e d<;>simp at e
 obtain⟨rfl,E⟩:=e;exact⟨_,ab3 E,_,_,d⟩
theorem Za{L:Lk}{W:World}{i:Nat}{k:IntKind}{n:Int}{t:TypeId}{s:Nat×Nat}(e:W.heap[L.gn i]?=some (.cells #[.int k n] t s))(h:eB k n)(a:L.gl i=[.int k n])(r:L.ge i=none):xP L (dE W) [] W i:=by
 refine⟨?_,fun _=>⟨t,by unfold World.shape?;rw[e,a];rfl⟩,fun ev q=>by rw[r]at q;cases q⟩;rw[a];refine .gA _ _ _ (fun _=> .int k n) ?_ (fun j d=>?_) fun j y o=>?_
 .show 0+1<=xp W (L.gn i);unfold xp;rw[e];exact aQ _
 .have:j=0:=by simp at d;omega
  subst this;simp[World.cell?,e]
 .have:j=0:=by have:=(bV.1 o).1;simp at this;omega
  subst this;cases o;exact .int _ _ h
end Go.Ab
namespace Go.Ab
open Go
variable{L:Lk}{g:Gh}{rl:bm}{w:World}{n:Nat}{v:AV}{a:Act}{x:Operand}{c:Value}{ax:Arg}
structure dx(L:Lk)(n:Nat)(g:Gh)(σ:St)(a:Act)(w:World):Prop where
 defers:a.defers=[]
 size:a.tmps.size=n
 slot:∀s,VR L g σ.rl w (look σ.env s) (a.tmps.getD s undef)
 sh:aY L g σ.nb σ.bx σ.rl w
theorem dx.bj{L:Lk}{n:Nat}{g e:Gh}{σ:St}{a:Act}{w w':World}{nb:Nat}{bx:List Bx}{rl:bm}(h:dx L n g σ a w)(s:Step g σ.rl w e rl w')(t:aY L e nb bx rl w'):dx L n e ⟨σ.env,nb,bx,rl⟩ a w':=
 ⟨h.defers,h.size,fun i=>(h.slot i).bj s,t⟩
theorem aE(k:Nat)(v:AV)(env:Env)(s:Nat):look ((k,v)::env) s=if k=s then v else look env s:=by
 simp only[look];by_cases h:k=s
 .subst h;simp
 .have:Nat.beq k s=false:=by cases e:Nat.beq k s with|true=>exact absurd (dL e) h|false=>rfl
  simp[this,h]
theorem GZ(xs:Array Value)(d s:Nat)(v:Value)(e:d<xs.size):(xs.setIfInBounds d v).getD s undef=if d=s then v else xs.getD s undef:=by
 simp only[dJ,w9];by_cases h:d=s
 .subst h;simp[e]
 .simp[h]
theorem dx.put{L:Lk}{n:Nat}{g:Gh}{σ:St}{a:Act}{w:World}(h:dx L n g σ a w)(d:Nat)(e:d<n){v:AV}{c:Value}(t:VR L g σ.rl w v c):
  dx L n g ⟨(d,v)::σ.env,σ.nb,σ.bx,σ.rl⟩ (a.put (some d) c) w:=by
 refine⟨h.defers,by simp[Act.put,h.size],fun s=>?_,h.sh⟩;simp only[aE,Act.put];rw[GZ _ _ _ _ (by rw[h.size];exact e)];split
 .exact t
 .exact h.slot s
theorem dx.vp{σ:St}(h:dx L n g σ a w)(i:Nat)(v:AV)(t:VR L g σ.rl w v (a.tmps.getD i undef)):
  dx L n g ⟨(i,v)::σ.env,σ.nb,σ.bx,σ.rl⟩ a w:=by
 refine⟨h.defers,h.size,fun s=>?_,h.sh⟩;simp only[aE];split
 .rename_i e;subst e;exact t
 .exact h.slot s
def KR(v:Value)(d:DV):Prop:=∀mk w,DR mk w d v
inductive cQ(L:Lk):Operand->Arg->Prop where
 |t (i:Nat):cQ L (.tmp i) (.t i)
 |k (v:Value) (d:DV) (h:KR v d) (h0:d=.sl []->v=.slice none 0 0):cQ L (.const v) (.k d)
 |ka (vs:Array Value) (ds:List DV) (hn:vs.size=ds.length) (h:∀(j:Nat)(x:DV)(y:Value),ds[j]?=some x->vs[j]?=some y->KR y x/\(x=.sl []->y=.slice none 0 0)):cQ L (.const (.agg vs)) (.ka ds)
 |g (i:Nat):cQ L (.global (L.gn i)) (.g i)
 |f (i:Nat):cQ L (.func (L.fn i)) (.f i)
theorem Gb{d:DV}{v:Value}(h:DR g.bD w d v)(e:d=.sl []->v=.slice none 0 0):VR L g rl w (Ga d) v:=by
 unfold Ga;split
 .have:=e rfl;subst this;exact .aO [] .nil _ .slnil rfl
 .exact .d _ _ h
theorem Gc:∀l:List DV,UC l=l.map Ga
 |[]=>rfl
 |x::r=>by rw[UC,Gc r];rfl
theorem cQ.val(e:cQ L x ax){σ:St}(h:dx L n g σ a w):VR L g σ.rl w (bL L.gl σ.env ax) (a.eval x):=by
 cases e with
 |t i=>exact h.slot i
 |k v d s r=>exact Gb (s _ _) r
 |ka b ds l u=>
  refine .agg _ _ (by rw[Gc];simpa using l) fun j x y e c=>?_
  rw[Gc,jU]at e;cases o:ds[j]? with
  |none=>rw[o]at e;cases e
  |some d=>
   rw[o]at e;cases e;obtain⟨m,p⟩:=u j d y o c;exact Gb (m _ _) p
 |g i=>exact(h.sh.jd i).1
 |f i=>exact .fn i [] #[] rfl (fun j x y e=>by simp at e)
def JS:TypeDesc->Bool
 | .struct _| .array _ _=>true
 |_=>false
def UL(L:Lk)(t:TypeId)(n:Nat)(e:Bool):Prop:=
 (∃i,L.P.info? t=some i/\i.size=n)/\(∃d,L.P.underlying t=some d/\JS d=e)/\(e=false->n=1)
theorem force_eq(v:AV)(K:AV->Prop):force v K=K v:=by cases v<;>rfl
theorem sj{α:Type}(xs:List α)(i:Nat)(v:α)(K:List α->Prop)(h:pz xs i v K):i<xs.length/\K (xs.set i v):=by
 induction xs generalizing i K with
 |nil=>exact h.elim
 |cons x r e=>
  cases i with
  |zero=>exact⟨by simp,h⟩
  |succ i=>obtain⟨a,t⟩:=e i _ h;exact⟨by simp;omega,t⟩
theorem pU{α:Type}(xs:List α)(v:α)(K:List α->Prop)(h:tK xs v K):K (xs++[v]):=by
 induction xs generalizing K with
 |nil=>exact h
 |cons x r e=>exact e _ h
theorem zC{α:Type}(xs:List α)(j n:Nat)(K:List α->Prop)(h:oM xs j n K):(n=0\/j+n<=xs.length)/\∃e,e.length=n/\(∀i,i<n->e[i]?=xs[j+i]?)/\K e:=by
 induction xs generalizing j n K with
 |nil=>
  cases n with
  |zero=>exact⟨.inl rfl,[],rfl,fun i t=>absurd t om,h⟩
  |succ n=>exact h.elim
 |cons x r d=>
  cases j with
  |succ j=>
   obtain⟨l,e,a,o,s⟩:=d j n K h;refine⟨by simp;omega,e,a,fun i t=>?_,s⟩;rw[o i t,show j+1+i=(j+i)+1 by omega,AA]
  |zero=>
   cases n with
   |zero=>exact⟨.inl rfl,[],rfl,fun i t=>absurd t om,h⟩
   |succ n=>
    obtain⟨l,e,a,o,s⟩:=d 0 n _ h;refine⟨by simp;omega,x::e,by simp[a],fun i t=>?_,s⟩;cases i with
    |zero=>simp
    |succ i=>simp only[AA,dK];rw[o i om,dK]
theorem kQ{α:Type}(xs:List α)(n:Nat)(K:Prop)(h:rq xs n K):xs.length=n/\K:=by
 induction xs generalizing n with
 |nil=>cases n with
  |zero=>exact⟨rfl,h⟩
  |succ n=>exact h.elim
 |cons x r e=>cases n with
  |zero=>exact h.elim
  |succ n=>obtain⟨t,a⟩:=e n h;exact⟨by simp[t],a⟩
theorem CO{α:Type}(xs:List α)(n:Nat)(K:List α->Prop)(h:uN xs n K):n<=xs.length/\K (xs.drop n):=by
 induction n generalizing xs with
 |zero=>exact⟨cr _,by simpa[uN]using h⟩
 |succ n e=>
  cases xs with
  |nil=>exact h.elim
  |cons x r=>obtain⟨a,t⟩:=e r h;exact⟨by simp;omega,t⟩
theorem HK(xs:List DV)(K:List AV->Prop)(h:HJ xs K):K (xs.map Ga):=by
 induction xs generalizing K with
 |nil=>exact h
 |cons x r e=>simp only[HJ,force_eq]at h;exact e _ h
theorem WS(xs:List DV)(K:List AV->Prop)(h:xL xs K):K (xs.map .d):=by
 induction xs generalizing K with
 |nil=>exact h
 |cons x r e=>exact e _ h
theorem FN{α:Type}(xs:List α)(j:Nat)(e:List α)(K:List α->Prop)(h:xJ xs j e K):(e=[]\/j+e.length<=xs.length)/\K (xs.take j++e++xs.drop (j+e.length)):=by
 induction xs generalizing j e K with
 |nil=>
  cases e with
  |nil=>exact⟨.inl rfl,by simpa[xJ]using h⟩
  |cons v e=>exact h.elim
 |cons x r o=>
  cases e with
  |nil=>refine⟨.inl rfl,?_⟩;simpa[xJ]using h
  |cons v e=>
   cases j with
   |succ j=>
    obtain⟨t,a⟩:=o j (v::e) _ h;refine⟨.inr (by rcases t with t|t<;>simp_all<;>omega),?_⟩;rw[show j+1+(v::e).length=(j+(v::e).length)+1 by omega];simpa using a
   |zero=>
    obtain⟨t,a⟩:=o 0 e _ h;refine⟨.inr (by rcases t with t|t<;>simp_all),?_⟩;simpa using a
def TJ:AV->Prop
 | .agg _=>False
 | .b6 _=>False
 | .bM=>False
 |_=>True
theorem VR.one(h:VR L g rl w v c)(e:TJ v):c.oneCell'=true/\c.cells=#[c]:=by
 cases h with
 |d v c h=>cases h<;>exact⟨rfl,rfl⟩
 |aO n t v h s=>cases h<;>exact⟨rfl,rfl⟩
 |agg a o i h=>exact e.elim
 |b6 a o i h=>exact e.elim
 |bM v=>exact e.elim
 |_=>exact⟨rfl,rfl⟩
theorem aal(cs:List AV)(K:Prop)(h:Hs cs K):K/\∀x,x∈cs->TJ x:=by
 induction cs with
 |nil=>exact⟨h,fun x e=>by cases e⟩
 |cons v r a=>
  have t:Hs r K->TJ v->K/\∀x,x∈v::r->TJ x:=fun o i=>
   ⟨(a o).1,fun x e=>by cases e with|head=>exact i|tail _ e=>exact(a o).2 x e⟩
  cases v<;>first|exact h.elim|exact t h trivial
theorem k9(l:VR L g rl w v c)(K:List AV->Prop)(h:cellsOf v K):
  ∃a,K a/\c.cells.size=a.length/\(∀(j:Nat)(x:AV)(y:Value),a[j]?=some x->c.cells[j]?=some y->VR L g rl w x y)/\∀y,y∈c.cells.toList->y.oneCell'=true:=by
 have single:∀u:AV,TJ u->u=v->K [u]->∃a,K a/\c.cells.size=a.length/\(∀(j:Nat)(x:AV)(y:Value),a[j]?=some x->c.cells[j]?=some y->VR L g rl w x y)/\∀y,y∈c.cells.toList->y.oneCell'=true:=by
  intro u O e I;subst e;obtain⟨N,m⟩:=l.one O;refine⟨[u],I,by rw[m];rfl,?_,?_⟩
  .rw[m];intro j x y z o;cases j with
   |zero=>simp at z o;subst z;subst o;exact l
   |succ j=>simp at z
  .rw[m];intro y o;simp at o;subst o;exact N
 cases v with
 |agg a=>
  obtain⟨S,H⟩:=aal a _ h;cases l with
  |agg _ R E T=>
   refine⟨a,S,E,T,fun y o=>?_⟩;obtain⟨j,D⟩:=cP.1 o;have s:R[j]?=some y:=by simpa[Value.cells]using D
   have A:j<a.length:=by rw[<-E];exact(nx.1 s).1
   exact((T j a[j] y (dw A) s).one (H _ (eu A))).1
 |b6 a=>exact h.elim
 |bM=>exact h.elim
 |d x=>exact single (.d x) trivial rfl h
 |ptr b j=>exact single (.ptr b j) trivial rfl h
 |ru b e i j=>exact single (.ru b e i j) trivial rfl h
 |gA a=>exact single (.gA a) trivial rfl h
 |aO r t=>exact single (.aO r t) trivial rfl h
 |rC b n=>exact single (.rC b n) trivial rfl h
 |fn f c=>exact single (.fn f c) trivial rfl h
 |oH t v=>exact single (.oH t v) trivial rfl h
 |uv b=>exact single (.uv b) trivial rfl h
 |oQ r t=>exact single (.oQ r t) trivial rfl h
 |kh es p r ds zs k=>exact single (.kh es p r ds zs k) trivial rfl h
 |kn k C q=>exact single (.kn k C q) trivial rfl h
 |lit a=>exact single (.lit a) trivial rfl h
 |ni b=>exact single (.ni b) trivial rfl h
theorem Of(a:VR L g rl w v c)(K:DV->Prop)(h:Lx v K):∃d,K d/\DR g.bD w d c:=by
 cases a with
 |d v c e=>exact⟨v,h,e⟩
 |aO o t v e i=>exact⟨.sl o,h,e⟩
 |_=>exact h.elim
theorem EB(t:List AV)(f:Nat->Value)(a:∀j x,t[j]?=some x->VR L g rl w x (f j))(K:List DV->Prop)(h:C4 t K):
  ∃ds,K ds/\ds.length=t.length/\∀j y,ds[j]?=some y->DR g.bD w y (f j):=by
 induction t generalizing f K with
 |nil=>exact⟨[],h,rfl,fun j y e=>by simp at e⟩
 |cons v r o=>
  obtain⟨d,i,n⟩:=Of (a 0 v rfl) _ h;obtain⟨ds,s,l,u⟩:=o (fun j=>f (j+1)) (fun j x c=>a (j+1) x (by simpa using c)) _ i;refine⟨d::ds,s,by simp[l],fun j y e=>?_⟩;cases j with
  |zero=>simp at e;subst e;exact n
  |succ j=>exact u j y (by simpa using e)
end Go.Ab
