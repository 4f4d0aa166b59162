/- Proved: the program's TeaRead returns the events and the code that the reference's returns, for every text, and no two slices of its result share memory: FnExactTeaRead answers true and leaves its argument as it was (the tied card). Conditions: those of the given row, with the listed package-level variables as the program's text lays them; none is added. -/
import Derived.Test.YtdcndpbmgpcgmaaGreatDoorProg
import Derived.Test.YtdcndpbmgpcgmaaGreatDoorY4
import Derived.KernelRfl
import Derived.Test.YtdcndpbmgpcgmaaGreatDoorY5
import Derived.Test.YtdcndpbmgpcgmaaGreatDoorY6
import Derived.Test.YtdcndpbmgpcgmaaGreatDoorY7
import Derived.Test.YtdcndpbmgpcgmaaGreatDoorY8
import Derived.Test.YtdcndpbmgpcgmaaGreatDoorY9
import Derived.Test.YtdcndpbmgpcgmaaGreatDoorY10
import Derived.Shelf.Strings.Search3
import Derived.Shelf.Strings.IndexAnyAll
import Derived.Shelf.Strconv.Itoa3
import Derived.Shelf.Strings.Builder1
import Derived.Test.YtdcndpbmgpcgmaaGreatDoorY11
import Derived.Shelf.Strings.OnBuilder
import Derived.Shelf.Small.Strs
import Derived.Shelf.Strings.Cut
import Derived.Shelf.Strings.Split
import Derived.Shelf.Strconv.AtoiAll
import Derived.Shelf.Small.Utf8
import Derived.Lib.OthersKept
import Derived.Lib.TrimUEq
import Derived.Lib.SpaceUEq
import Derived.Laws.RangeAny
import Derived.WalkMore
import Derived.IntWalk
import Derived.Deep.RegionWith
import Derived.RegionTactic
import Derived.Test.YtdcndpbmgpcgmaaGreatDoorY0
import Derived.Test.YtdcndpbmgpcgmaaGreatDoorCards
import Derived.Test.YtdcndpbmgpcgmaaGreatDoorTie
import Derived.WalkKit
import Derived.ProofKit
import Derived.OpenShut
import Derived.Deep.DeepHandedRow
import Derived.LaidLaws
noncomputable section
namespace Go.Ab
open Go
def Va:List Nat:=[3,3,2,3,3,3,3,3,3,3,6,4,5,7,8,3,3,3,3,3,3,3,3,3,3,3,180,3,3,163,13,9,10,11,12,14,15,16,17,18,19,20,21,22,23,24,25,26,27,28,3,3,3,3,3,3,3,3,3,3,3,3,3,3,3,62,3,3,35,96,3,85,3,126,3,3,3,97,3,86,127,38,61,3,3,3,3,3,3,67,151,109,3,137,3,3,3,3,3,3,209,3,152,138,141,3,46,47,48,49,50,29,30,31,32,33,34,36,37,39,40,41,42,43,44,45,3,53,56,3,3,3,3,3,3,3,3,3,68,3,3,3,3,3,3,3,3,3,3,3,87,115,157,3,88,156,3,3,3,3,3,3,3,102,145,149,150,161,3,3,3,3,3,3,148,146,162,168,169,76,77,78,79,80,81,82,51,52,54,55,57,58,59,60,63,64,65,66,69,70,71,72,73,74,75,84,89,90,91,92,3,3,3,3,3,3,3,3,3,3,103,104,105,3,3,3,3,3,3,3,3,3,3,3,3,3,3,116,153,177,3,3,3,170,175,179,3,3,174,171,181,195,196,197,188,112,113,114,83,93,94,95,98,99,3,101,106,107,108,110,111,117,118,119,120,121,122,123,124,125,3,3,3,3,3,3,3,3,133,134,135,136,139,140,3,3,3,3,3,3,3,3,3,3,3,3,3,3,3,3,3,154,206,198,208,185,3,3,205,199,219,128,129,3,131,132,142,143,144,147,155,3,3,3,160,164,165,166,167,3,3,3,3,3,3,3,3,3,3,3,3,3,3,3,3,3,3,3,3,3,3,3,176,228,220,187,214,3,217,224,225,226,227,3,3,159,172,173,3,3,3,3,3,178,182,183,184,186,189,190,191,192,193,194,3,3,3,3,3,3,3,231,232,235,236,237,238,239,200,201,202,203,204,207,210,211,212,213,215,216,218,3,3,240,241,221,222,223,3,3,3,3,3,3,3,3,3,3,233,234,3,3,3,3,3,3,3,3,3,3,3,3,3,3,3,3,3,3,3,3,3,3,3,3,3,3,3,3,3,3,3,3,3,3,3,3,3,3,3,3,3,3,3,3,3,3,3,3,3,3,3,278]
def aiN:List Nat:=[0,4,1,2,3,7,5,6,8,9]
def ajy:List Nat:=[9,105,221,224,251,190,92,61,94,3,56,36,59]
abbrev oS:=(Nat->List DV)×(Nat->Option Value)
def aB(gl:oS):Lk:={P:=Go.Proofs.Tryz.prog,fn:=fun i=>if Nat.ble 492 i then 3 else iL Va i,gn:=iL aiN,gl:=gl.1,ge:=gl.2,tn:=iL ajy,u8:=5}
theorem XB:((List.range 492).all fun i=>Fe Go.Proofs.Tryz.prog (iL Va i))=true:=by kernel_rfl
theorem Py(t:oS)(f:Nat):ij (aB t) f:=by
 refine RY ?_;show Fe Go.Proofs.Tryz.prog (if Nat.ble 492 f then 3 else iL Va f)=true;split
 .have:=kI.1 XB 3 (rb.2 om);exact this
 .rename_i h
  exact kI.1 XB f (rb.2 (by
   rcases nC f 492 with e|e
   .exact e
   .exact absurd (Nat.ble_eq_true_of_le e) h))
theorem mixed(e:oS):(aB e).P.follows .mixedOrders=true:=rfl
theorem fF{e:oS}{n:Nat}{c:AF}(h:II (aB e) n c=true:=by kernel_rfl):aJ (aB e) n c:=XA (Py e) (mixed e) h




set_option maxHeartbeats 4000000 in
theorem V6(gl:oS){nv:ab->Int}(ee:∀n:Int,eB .i64 n->nv (dec n)=n)(ps:UH (aB gl))(hc:∀f,ij (aB gl) f)(s0:(aB gl).gl 0=Ke)(s1:(aB gl).gl 1=ED)(s2:O2 (aB gl))(s3:O1 (aB gl))(s4:∀n:Int,eB .i64 n->CP (aB gl) 174 [dI n] (dS (dec n)))(s5:W7 (aB gl))(s6:∀l:List ab,(jn l).length<=140737488355328->CP (aB gl) 177 [.d (.sl (aR l)),dS [32]] (dS (jn l)))(s7:∀s:ab,s.length<=1000000->CP (aB gl) 33 [dS s,dS [32]] (.d (.sl (aR (pieces 32 s)))))(s8:OY (aB gl) nv)(s9:OZ (aB gl))(et:∀s:ab,s.length<=1000000->CP (aB gl) 338 [dS s,dS [58]] (dI (nV s 58)))(eo:O0 (aB gl))(ei:∀s:ab,s.length<=1000000->CP (aB gl) 33 [dS s,dS [10]] (.d (.sl (aR (pieces 10 s)))))(ed:∀s:ab,s.length<=1000000->CP (aB gl) 338 [dS s,dS [34]] (dI (xW s [34])))(el:∀s:ab,s.length<=1000000->CP (aB gl) 338 [dS s,dS Ai] (dI (xW s Ai))):
  (∀s:ab,xt (aB gl) s)/\∀s:ab,CP (aB gl) 11 [dS s] (.b6 [.d (.sl (eh s).1),dI ((eh s).2)]):=by
 have anQ:aJ (aB gl) 12 c12:=fF;have an7:aJ (aB gl) 89 c89:=fF;have alL:aJ (aB gl) 163 agC:=fF;have alE:aJ (aB gl) 138 c138:=fF;have ak7:aJ (aB gl) 220 abC:=fF;have amT:aJ (aB gl) 288 ahp:=fF;have am9:aJ (aB gl) 334 ahz:=fF;have ank:aJ (aB gl) 383 ahH:=fF;have ant:aJ (aB gl) 413 ahL:=fF;have amW:aJ (aB gl) 291 ahq:=fF;have am7:aJ (aB gl) 328 abJ:=fF;have ak8:aJ (aB gl) 290 UU:=fF;have amU:aJ (aB gl) 289 J0:=fF;have amm:aJ (aB gl) 221 agW:=fF;have aoa:aJ (aB gl) 93 c93:=fF;have alP:aJ (aB gl) 167 c167:=fF;have amt:aJ (aB gl) 245 ag2:=fF;have am2:aJ (aB gl) 314 ahv:=fF;have alf:aJ (aB gl) 103 ago:=fF;have alR:aJ (aB gl) 176 agF:=fF;have anR:aJ (aB gl) 26 c26:=fF;have amv:aJ (aB gl) 250 ag4:=fF;have anS:aJ (aB gl) 29 c29:=fF;have ama:aJ (aB gl) 198 c198:=fF;have amn:aJ (aB gl) 222 c222:=fF;have anh:aJ (aB gl) 365 ahE:=fF;have ann:aJ (aB gl) 386 ahI:=fF;have anu:aJ (aB gl) 414 ahM:=fF;have anv:aJ (aB gl) 415 ahN:=fF;have amy:aJ (aB gl) 254 ag7:=fF;have ani:aJ (aB gl) 366 ahF:=fF;have alz:aJ (aB gl) 123 agx:=fF;have anj:aJ (aB gl) 368 ahG:=fF;have am3:aJ (aB gl) 315 ahw:=fF;have aml:aJ (aB gl) 220 agV:=fF;have amV:aJ (aB gl) 290 abG:=fF;have amc:aJ (aB gl) 200 agS:=fF;have amG:aJ (aB gl) 266 ahd:=fF;have am5:aJ (aB gl) 326 abH:=fF;have am6:aJ (aB gl) 327 abI:=fF;have amI:aJ (aB gl) 268 ahf:=fF;have amH:aJ (aB gl) 267 ahe:=fF;have alM:aJ (aB gl) 164 c164:=fF;have amr:aJ (aB gl) 243 ag0:=fF;have am1:aJ (aB gl) 313 ahu:=fF;have ang:aJ (aB gl) 364 ahD:=fF;have ans:aJ (aB gl) 402 ahK:=fF;have anr:aJ (aB gl) 401 ahJ:=fF;have alQ:aJ (aB gl) 175 c175:=fF;have amu:aJ (aB gl) 249 ag3:=fF;have am4:aJ (aB gl) 319 ahx:=fF;have anl:aJ (aB gl) 384 Nc:=fF;have anc:aJ (aB gl) 337 Nb:=fF;have anx:aJ (aB gl) 417 Xk:=fF;have anz:aJ (aB gl) 418 Xl:=fF;have anA:aJ (aB gl) 419 Xm:=fF;have anw:aJ (aB gl) 416 Ng:=fF;have anm:aJ (aB gl) 385 Nf:=fF;have ano:aJ (aB gl) 387 Xj:=fF;have anp:aJ (aB gl) 388 RV:=fF;have anq:aJ (aB gl) 389 RX:=fF;have anb:aJ (aB gl) 336 ahA:=fF;have amX:aJ (aB gl) 292 xz:=fF;have ana:aJ (aB gl) 335 AO:=fF;have amY:aJ (aB gl) 293 ahr:=fF;have alg:aJ (aB gl) 104 agp:=fF;have alS:aJ (aB gl) 178 abz:=fF;have amw:aJ (aB gl) 252 ag5:=fF;have amx:aJ (aB gl) 253 ag6:=fF;have amb:aJ (aB gl) 199 agR:=fF;have alA:aJ (aB gl) 124 c124:=fF;have amd:aJ (aB gl) 202 abB:=fF;have an9:aJ (aB gl) 91 c91:=fF;have alN:aJ (aB gl) 165 agD:=fF;have ams:aJ (aB gl) 244 ag1:=fF;have alO:aJ (aB gl) 166 agE:=fF;have ame:aJ (aB gl) 203 c203:=fF;have amJ:aJ (aB gl) 270 ahg:=fF;have an8:aJ (aB gl) 90 c90:=fF;have ale:aJ (aB gl) 102 agn:=fF;have anW:aJ (aB gl) 34 RU:=fF;have alx:aJ (aB gl) 120 Xh:=fF;have al9:aJ (aB gl) 197 RT:=fF;have aly:aJ (aB gl) 121 M9:=fF;have alB:aJ (aB gl) 125 Na:=fF;have amf:aJ (aB gl) 204 Xi:=fF;have anP:aJ (aB gl) 11 c11:=fF;have anV:aJ (aB gl) 32 UW:=fF;have aln:aJ (aB gl) 111 aby:=fF;have alv:aJ (aB gl) 117 c117:=fF;have alq:aJ (aB gl) 114 M8:=fF;have alo:aJ (aB gl) 112 agt:=fF;have anY:aJ (aB gl) 68 c68:=fF;have anX:aJ (aB gl) 65 c65:=fF;have alC:aJ (aB gl) 127 c127:=fF;have amg:aJ (aB gl) 205 agT:=fF;have amD:aJ (aB gl) 259 ahb:=fF;have al6:aJ (aB gl) 191 agP:=fF;have al5:aJ (aB gl) 190 agO:=fF;have an0:aJ (aB gl) 71 c71:=fF;have alG:aJ (aB gl) 151 agA:=fF;have amp:aJ (aB gl) 238 agY:=fF;have an3:aJ (aB gl) 79 c79:=fF;have al3:aJ (aB gl) 188 agM:=fF;have alD:aJ (aB gl) 128 agy:=fF;have ami:aJ (aB gl) 207 rJ:=fF;have amK:aJ (aB gl) 271 ahh:=fF;have amj:aJ (aB gl) 208 c208:=fF;have amP:aJ (aB gl) 276 ahl:=fF;have am8:aJ (aB gl) 330 ahy:=fF;have amM:aJ (aB gl) 273 ahj:=fF;have alJ:aJ (aB gl) 155 agB:=fF;have amR:aJ (aB gl) 278 ahn:=fF;have amC:aJ (aB gl) 258 aha:=fF;have al4:aJ (aB gl) 189 agN:=fF;have al8:aJ (aB gl) 193 c193:=fF;have amF:aJ (aB gl) 261 abE:=fF;have amE:aJ (aB gl) 260 ahc:=fF;have al7:aJ (aB gl) 192 agQ:=fF;have alF:aJ (aB gl) 150 agz:=fF;have amo:aJ (aB gl) 237 agX:=fF;have amZ:aJ (aB gl) 311 ahs:=fF;have ane:aJ (aB gl) 362 ahB:=fF;have alI:aJ (aB gl) 154 c154:=fF;have an2:aJ (aB gl) 77 c77:=fF;have amL:aJ (aB gl) 272 ahi:=fF;have amQ:aJ (aB gl) 277 ahm:=fF;have amO:aJ (aB gl) 275 ahk:=fF;have amS:aJ (aB gl) 279 aho:=fF;have amN:aJ (aB gl) 274 abF:=fF;have amh:aJ (aB gl) 206 c206:=fF;have amk:aJ (aB gl) 209 agU:=fF;have an1:aJ (aB gl) 73 c73:=fF;have alH:aJ (aB gl) 152 c152:=fF;have amq:aJ (aB gl) 239 agZ:=fF;have am0:aJ (aB gl) 312 aht:=fF;have anf:aJ (aB gl) 363 ahC:=fF;have an4:aJ (aB gl) 80 c80:=fF;have alp:aJ (aB gl) 113 agu:=fF;have al1:aJ (aB gl) 186 agK:=fF;have al2:aJ (aB gl) 187 agL:=fF;have alr:aJ (aB gl) 115 agv:=fF;have alw:aJ (aB gl) 118 agw:=fF;have alu:aJ (aB gl) 116 c116:=fF;have an6:aJ (aB gl) 82 c82:=fF;have anZ:aJ (aB gl) 69 c69:=fF;have an5:aJ (aB gl) 81 c81:=fF;have anU:aJ (aB gl) 31 c31:=fF;have z0:=acG (L:=aB gl) aI;have z1:=ZB (L:=aB gl) aI aI;have z2:=Qd (L:=aB gl) aI;have z3:=Mx (L:=aB gl) aI aI;have z4:=Qa (L:=aB gl) aI aI;have z5:=afx (L:=aB gl) aI aI;have z6:=adt (L:=aB gl) aI aI;have z7:=akE (L:=aB gl) aI aI aI aI;have z8:=acK (L:=aB gl) aI aI aI aI aI;have z9:=S2 (L:=aB gl) aI aI;have em:=To (L:=aB gl) aI aI;have ef:=acT (L:=aB gl) aI aI;have ey:=SV (L:=aB gl) aI aI;have ep:=KY (L:=aB gl) aI aI;have eg:=Qm (L:=aB gl) aI aI;have ej:=MB (L:=aB gl) aI aI aI;have ez:=Zz (L:=aB gl) aI;have e1:=Qh (L:=aB gl) aI aI aI;have e2:=Qg (L:=aB gl) aI aI aI;have e3:=Qf (L:=aB gl) aI aI aI;have e4:=ac3 (L:=aB gl) aI;have e5:=Hj (L:=aB gl) aI aI;have e6:=afv (L:=aB gl) aI aI aI;have e7:=acI (L:=aB gl) aI aI aI;have te:=adi (L:=aB gl) aI aI aI;have tt:=Qe (L:=aB gl) aI;have ta:=IY (L:=aB gl) aI aI;have ti:=ac1 (L:=aB gl) aI aI;have ts:=S8 (L:=aB gl) aI aI;have tw:=afs (L:=aB gl) aI aI aI aI aI;have tb:=Mz (L:=aB gl) aI aI aI;have tg:=S9 (L:=aB gl) aI;have t0:=NV (L:=aB gl) aI [34] aI;have t1:=NV (L:=aB gl) aI Ai aI;have t2:=Tn (L:=aB gl) aI aI aI;have t3:=adg (L:=aB gl) aI aI aI aI aI aI aI aI aI;have t4:=ZC (L:=aB gl) aI;have t5:=acH (L:=aB gl) aI aI;have t6:=Tp (L:=aB gl) aI aI aI aI aI aI;have t7:=acU (L:=aB gl) aI aI;have t8:=Qj (L:=aB gl) aI aI;have t9:=SZ (L:=aB gl) aI aI;have ae:∀t:Nd,(∀i(h:i<t.kids.length),Cv (aB gl) t.kids[i])->∀(b:Bool)(d:Int)(s:ab),pw d t/\t.size<=120->t.sort=(if b=true then 5 else 4)->s.length+10000*t.size<=100000000001->CT (aB gl) 319 [aT t,.ptr 0 0] 1 [xi (.ptr 0 0) s] [(s.length,1000)] (.b6 []) 1 [xi (.ptr 0 0) (s++bQ b t.names (t.kids.map cM) t.kids.length)] [((s++bQ b t.names (t.kids.map cM) t.kids.length).length,1000)]:=fun t h b=>Qq (L:=aB gl) aI aI aI t h b
 have aa:=ME (L:=aB gl) aI aI aI aI aI;have ao:=Ql (L:=aB gl) aI aI aI;have ai:∀t:Nd,(jk t->CP (aB gl) 267 [aT t] (dS (cM t)))/\(¬jk t->CP (aB gl) 267 [aT t] (dS [])):=fun t=>KX aI aI aI t
 have an:=Qk (L:=aB gl) aI aI aI aI;have ah:ID (aB gl) nv:=⟨aI,aI,aI,aI,aI,aI,aI,aI,aI,aI,aI⟩;have ar:Gy (aB gl) nv:=ZL fun ws hl hw=>⟨⟨aI,aI,aI,aI,aI,aI,aI,aI,aI,aI,aI,aI,hl,hw⟩,aI,aI,ps,hc 335⟩
 have al:=ZS (L:=aB gl) aI aI aI;have am:=Qp (L:=aB gl) aI aI;have af:=VU (L:=aB gl) aI;have ay:=adu (L:=aB gl) aI aI aI aI aI aI;have ap:=ado (L:=aB gl) aI aI aI;have ag:=MC (L:=aB gl) aI aI aI aI aI;have aj:=ZP (L:=aB gl) aI aI;have ax:=ZN (L:=aB gl) aI;have a0:FpC (aB gl):=⟨aI,aI,aI,aI,aI,aI⟩;have a1:=Qn (L:=aB gl) aI aI;have a2:=Hi (L:=aB gl) aI aI;have a3:=Dy (L:=aB gl) aI aI;have a4:=S5 (L:=aB gl) aI aI;have a5:=ac2 (L:=aB gl) aI aI aI aI;have a6:=Qb (L:=aB gl) aI aI aI aI;have a8:=Qo (L:=aB gl) aI aI aI;have a9:∀e:Ev,(ir e->CP (aB gl) 270 [.agg (av (eD e))] (dS (DD e)))/\(¬ir e->CP (aB gl) 270 [.agg (av (eD e))] (dS [])):=fun e=>IZ aI aI aI e
 have oo:=My (L:=aB gl) aI aI aI aI aI aI aI;have on:BhC (aB gl):=⟨aI,aI,aI,aI,aI,aI⟩;have ol:RdC (aB gl):=⟨aI,aI,aI⟩;have ow:UJ (aB gl):=⟨aI,aI,aI,aI,aI,aI,aI⟩;have ox:=afB (L:=aB gl) aI;have o0:=afq (L:=aB gl) aI;have o1:=Tf (L:=aB gl) aI aI;have o2:=acS (L:=aB gl) aI;have o3:=ajg (L:=aB gl) aI;have o4:=ajf (L:=aB gl) aI;have o5:=acX (L:=aB gl) aI aI;have o6:∀s:ab,s.length<=1000000->∀n,n<=7->UG (aB gl) s n:=fun(s:ab)(a:s.length<=1000000)=>ZG aI aI aI aI s a
 have o7:=ZE (L:=aB gl) aI aI;have it:=VT (L:=aB gl) aI aI aI;have io:=SW (L:=aB gl) aI aI;have ii:=ZH (L:=aB gl) aI;have is:=MA (L:=aB gl) aI aI aI aI;have ip:=S9 (L:=aB gl) aI;have i0:=ade (L:=aB gl) aI;have i1:=ada (L:=aB gl) aI;have i2:=adk (L:=aB gl) aI;have i3:=VP (L:=aB gl) aI aI;have i4:=acN (L:=aB gl) aI aI;have i5:=KZ (L:=aB gl) aI aI aI;have i6:=adm (L:=aB gl) aI aI aI aI aI;have i7:=adn (L:=aB gl) aI aI;have i8:=aft (L:=aB gl) aI aI;have i9:∀s:ab,s.length<=1000000->∀n,n<=7->Bl (aB gl) s n:=fun(s:ab)(a:s.length<=1000000)=>adr aI aI aI aI aI s a fun n o r=>⟨acV aI aI aI aI s a n o r,acW aI aI aI s a n o r⟩
 have nr:=Td (L:=aB gl) aI;have nl:=VQ (L:=aB gl) aI aI aI aI;have nu:=VS (L:=aB gl) aI aI;have nf:=S0 (L:=aB gl) aI aI;have nk:=acO (L:=aB gl) aI;have n0:=ZF (L:=aB gl) aI aI;have u:=MD (L:=aB gl) aI aI aI aI;have c:=ZD (L:=aB gl) aI aI;have m:=afy (L:=aB gl) aI aI aI aI aI;have w:=afh (L:=aB gl) aI aI aI;have y:=adj (L:=aB gl) aI;have p:=Ta (L:=aB gl) aI;have v:=Tb (L:=aB gl) aI;have g:=VN (L:=aB gl) aI aI;have k:PsC (aB gl):=⟨aI,aI,aI,aI,aI,aI,aI,aI,aI,aI,aI,aI⟩;have j:=ZQ (L:=aB gl) aI;have q:=acP (L:=aB gl) aI;have x:=S' (L:=aB gl) aI aI aI aI aI aI aI aI aI aI aI;have z:=Tc (L:=aB gl) aI aI aI;have E:=VO (L:=aB gl) aI aI aI aI;have T:=acM (L:=aB gl) aI aI aI;have A:=SX (L:=aB gl) aI aI;have O:=KW (L:=aB gl) aI aI aI;have I:=KV (L:=aB gl) aI aI aI aI aI;have N:=Tg (L:=aB gl) aI aI;have S:=ZO (L:=aB gl) aI;have H:=ads (L:=aB gl) aI;have R:FlC (aB gl):=⟨aI,aI,aI,aI,aI⟩;have D:=VX (L:=aB gl) aI;have U:=ZI (L:=aB gl) aI aI aI;have C:=ac0 (L:=aB gl) aI;have M:=adf (L:=aB gl) aI aI aI;have F:=aji (L:=aB gl) aI;have Y:=ajk (L:=aB gl) aI aI aI aI aI aI;have P:=ajj (L:=aB gl) aI aI aI aI aI;have V:=Qc (L:=aB gl) aI aI aI aI;have B:=I1 (L:=aB gl) aI aI aI aI;have G:∀e:Ev,¬ir e->CP (aB gl) 82 [.agg (av (eD e))] (dS []):=fun e he=>I0 aI aI e he
 have K:=KU (L:=aB gl) aI aI aI aI aI aI aI;have J:=ZA (L:=aB gl) aI;have Q:=Th (L:=aB gl) aI;have X:LnC (aB gl):=⟨aI,aI,aI,aI,aI,aI,aI⟩;have Z:=acQ (L:=aB gl) aI;exact⟨fun s=>SY aI aI aI aI s,fun s=>Qi aI aI aI aI aI aI aI s⟩
set_option maxRecDepth 100000 in
theorem psF(e:oS):UH (aB e) where
 p:=⟨Go.Proofs.Tryz.f139,_,_,_,_,_,Go.Proofs.Tryz.func139,rfl,{op1:=rfl,d1:=rfl,g1:=rfl,op2:=⟨_,rfl⟩,d2:=rfl,g2:=rfl}⟩
 q:=⟨Go.Proofs.Tryz.f164,_,_,_,_,Go.Proofs.Tryz.func164,rfl,{op1:=⟨_,rfl⟩,d1:=rfl,g1:=rfl,op2:=rfl,d2:=rfl,g2:=rfl}⟩
theorem ae4(t:oS)(f:Nat)(e:lO)(h:jJ f=some e):II (aB t) f (mkM 35 e)=true:=by
 unfold jJ at h;split at h<;>first|(cases h;kernel_rfl)|cases h
theorem ae3(e:oS)(f:Nat)(t:lO)(h:jJ f=some t):aJ (aB e) (hdT f) (Zj 35 t):=by
 refine XA (Py e) (mixed e) ?_;unfold jJ at h;split at h<;>first|(cases h;kernel_rfl)|cases h
theorem aiK(e:oS):II (aB e) 4 c4=true:=by kernel_rfl
theorem adA(e:oS):∀l:List Te,CP (aB e) 10 [.d (.sl (l.map gH)),.d (.sl (l.map gH))] (dB true):=by
 have anO:aJ (aB e) 10 c10:=fF;have anT:aJ (aB e) 30 c30:=fF;have alh:aJ (aB e) 106 agq:=fF;have ali:aJ (aB e) 107 c107:=fF;have alj:aJ (aB e) 108 agr:=fF;have alk:aJ (aB e) 109 c109:=fF;have alm:aJ (aB e) 110 ags:=fF;have alU:aJ (aB e) 179 agG:=fF;have alV:aJ (aB e) 180 agH:=fF;have alW:aJ (aB e) 181 abA:=fF;have alX:aJ (aB e) 182 c182:=fF;have alY:aJ (aB e) 183 c183:=fF;have alZ:aJ (aB e) 184 agI:=fF;have al0:aJ (aB e) 185 agJ:=fF;have amz:aJ (aB e) 255 abD:=fF;have amA:aJ (aB e) 256 ag8:=fF;have amB:aJ (aB e) 257 ag9:=fF;have c:=Qt (L:=aB e) aI;have w:=ZW (L:=aB e) aI;have y:=ZY (L:=aB e) aI aI aI;have r:=MH (L:=aB e) aI aI aI;have p:=ZX (L:=aB e) aI aI aI;have f:=V0 (L:=aB e) aI aI;have m:=Tt (L:=aB e) aI aI;have t:=K4 (L:=aB e) aI aI aI;have n:=fun l=>I4 (L:=aB e) aI l (fun i h=>t l[i])
 have a:=MG (L:=aB e) aI aI;have s:=fun l=>K5 (L:=aB e) aI l (fun i h=>a l[i])
 have u:=MF (L:=aB e) aI aI aI aI;have o:=MI (L:=aB e) aI aI aI aI aI aI;exact fun l=>K7 (L:=aB e) aI l (fun i h=>o l[i])
end Go.Ab
namespace Go.Proofs
open Go.Shelf Go.Ab Go.RowKit
def Tryz.lays153_ren:Go.Shelf.Ren:=⟨fun|153=>167|152=>191|226=>192|227=>193|228=>194|137=>110|119=>218|224=>131|225=>130|217=>129|266=>158|n=>n,fun|9=>9|3=>3|4=>4|5=>5|21=>21|117=>216|116=>215|0=>0|46=>166|124=>235|n=>n,fun|n=>n⟩
theorem Tryz.lays153:Go.Proofs.Lays.n153 Tryz.prog Tryz.lays153_ren:=by repeat' first|kernel_rfl|(intros;kernel_rfl)|constructor
theorem Iv(n:oS)(s:List UInt8)(c:UInt8)(r:c.toNat<128)(d:eB .i64 (Lib.indexAny s [c])):
  CP (aB n) 338 [dS s,dS [c]] (dI (Lib.indexAny s [c])):=by
 refine CP.B0 (cv:=.int .i64 (Lib.indexAny s [c])) (fun _ _=> .int _ _ d) ?_;intro g l u m w a f o t;have e:a=#[.string ⟨s.toArray⟩,.string ⟨#[c]⟩]:=GJ o (fun v i=>(VR.iB (t 0 _ v rfl i)).1) (fun v i=>(VR.iB (t 1 _ v rfl i)).1);subst e;refine(Any.strings_IndexAny_one Tryz.lays153 ⟨s.toArray⟩ ⟨#[c]⟩ w rfl (fun j b h=>?_)).mono ?_
 .match j with
  |0=>simp at h;rw[<-h];exact r
  |j+1=>simp at h
 .rintro e y ⟨rfl,rfl⟩;exact⟨rfl,Below.refl _ _⟩
def Tryz.lays171_ren:Go.Shelf.Ren:=⟨fun|171=>148|243=>174|246=>205|283=>224|284=>225|285=>226|286=>227|129=>236|317=>235|318=>237|319=>238|320=>239|337=>240|338=>241|n=>n,fun|3=>3|9=>9|2=>2|4=>4|171=>242|0=>0|53=>236|37=>90|5=>5|173=>245|212=>255|51=>181|20=>20|213=>256|46=>166|232=>259|233=>260|n=>n,fun|17=>7|18=>8|19=>9|n=>n⟩
theorem Tryz.lays171:Go.Proofs.LaysM.n171 Tryz.prog Tryz.lays171_ren:=by repeat' first|kernel_rfl|(intros;kernel_rfl)|constructor
theorem afW(i:oS)(l:i.1 5=Lib.pow10Tab.map (.int .u64))(n:Int)(r:eB .i64 n)(u:(Lib.itoa n).length<=gJ):CP (aB i) 174 [dI n] (dS (Lib.itoa n)):=by
 refine CP.B0 (cv:=.string ⟨(Lib.itoa n).toArray⟩) (fun _ _=> .str _ u) ?_;intro g q x z w a c h o;have e:a=#[.int .i64 n]:=JT h (fun v m=>(VR.fV (o 0 _ v rfl m)).1);subst e
 have s:Lib.TabIs (aB i).P w "internal/strconv.uint64pow10" .u64 Lib.pow10Tab:=by
  obtain⟨t,E,f⟩:=Km (k:=.u64) (zs:=Lib.pow10Tab) c 5 (by simp[Lib.pow10Tab]) l;have y:(aB i).P.globalNamed "internal/strconv.uint64pow10"=some ((aB i).gn 5):=by kernel_rfl
  show World.var? _ _ _=_;rw[World.var?,y];show(match w.heap[(aB i).gn 5]? with|some (.cells p _ _)=>some p|_=>none)=_;rw[f]
 refine(Any.strconv_Itoa Tryz.lays171 n r.1 r.2 w s).mono ?_;rintro e T ⟨rfl,k,d,rfl⟩;refine⟨rfl,rfl,rfl,rfl,by show w.heap.size<=(w.heap++d).size;simp,fun b j=>?_⟩;show(w.heap++d)[b]?=_;rw[Mj j]
def Tryz.lays156_ren:Go.Shelf.Ren:=⟨fun|156=>168|165=>195|166=>180|169=>163|240=>209|241=>219|276=>229|277=>230|n=>n,fun|31=>33|9=>9|3=>3|4=>4|0=>0|20=>20|72=>190|76=>172|70=>188|37=>90|75=>171|127=>203|164=>247|5=>5|80=>111|n=>n,fun|n=>n⟩
theorem Tryz.lays156:Go.Proofs.Lays.n156 Tryz.prog Tryz.lays156_ren:=by repeat' first|kernel_rfl|(intros;kernel_rfl)|constructor
theorem Tryz.lays240:Lays.n240 Tryz.prog Tryz.lays156_ren:={Tryz.lays156 with}
theorem Tryz.EV:Builder.X72 Tryz.prog Tryz.lays156_ren where
 sizeBuilder:=by kernel_rfl
 liesBuilder:=by kernel_rfl
theorem EF(z:oS)(x:AV)(rl:bm):CT (aB z) 100 [.ptr 0 0] 1 [.var 5 [.d .cq,x]] rl (.b6 []) 1 [.var 5 [.ptr 0 0,x]] rl:=by
 intro g w n E s a;obtain⟨b,e0,l⟩:=(a 0 _ _ rfl (dZ (by rw[s];decide))).jH;have e:n=#[.pointer (some ⟨b,0,none⟩)]:=JT s (fun v c=>by obtain⟨H,T,r⟩:=(a 0 _ v rfl c).jH;rw[l]at r;cases r;exact T);subst e;obtain⟨R,i,t,m,f,A,p⟩:=E.box 0 _ b rfl l;have O:t=Tryz.lays156_ren.t 72:=by rcases p with h|h;cases h;exact h
 have k:i.size=2:=f
 have I:w.cell? ⟨b,0,none⟩=some (.pointer none):=by
  have u:i[0]?=some i[0]:=dZ om;have q:=A 0 _ i[0] rfl u;have N:∀v,VR (aB z) g rl w (.d .cq) v->v=.pointer none:=by intro v c;cases c with|d _ _ h=>cases h;rfl
  simp only[World.cell?,m];simp[u,N _ q]
 refine(Any.Builder_copyCheck_fresh Tryz.lays240 Tryz.EV b w I (by simp only[World.shape?,m];rw[O,k]) (by simp[World.frozen?,m])).mono ?_;rintro e D ⟨rfl,rfl⟩;obtain⟨u,q⟩:=OC E l (o:=0) (cs:=[.d .cq,x]) (x:=.ptr 0 0) (v:=.pointer (some ⟨b,0,none⟩)) rfl (Dc _) (.ptr _ _ _ l);exact⟨_,g,rfl,u,q,.b6 [] _ rfl fun j x y S=>by simp at S⟩
theorem FY(u:oS)(x:AV)(rl:bm):CT (aB u) 100 [.ptr 0 0] 1 [.var 5 [.ptr 0 0,x]] rl (.b6 []) 1 [.var 5 [.ptr 0 0,x]] rl:=by
 intro g w n d s a;obtain⟨b,e0,h⟩:=(a 0 _ _ rfl (dZ (by rw[s];decide))).jH;have e:n=#[.pointer (some ⟨b,0,none⟩)]:=JT s (fun v c=>by obtain⟨m,f,o⟩:=(a 0 _ v rfl c).jH;rw[h]at o;cases o;exact f);subst e;obtain⟨O,i,t,p,r,k,q⟩:=d.box 0 _ b rfl h;have z:i.size=2:=r
 have E:w.cell? ⟨b,0,none⟩=some (.pointer (some ⟨b,0,none⟩)):=by
  have l:i[0]?=some i[0]:=dZ om;obtain⟨m,T,o⟩:=(k 0 _ i[0] rfl l).jH;rw[h]at o;cases o;simp only[World.cell?,p];simp[l,T]
 refine(Any.Builder_copyCheck_used Tryz.lays240 Tryz.EV b w E).mono ?_;rintro e I ⟨rfl,rfl⟩;exact⟨_,g,rfl,Step.refl _ _ _,d,.b6 [] _ rfl fun j x y A=>by simp at A⟩
end Go.Proofs
namespace Go.Proofs
open Go.Shelf Go.Ab Go.RowKit
set_option maxRecDepth 100000 in
theorem Tryz.Bi:Builder.Extra Tryz.prog Tryz.lays156_ren where
 sizeBuilder:=by kernel_rfl
 liesBuilder:=by kernel_rfl
 t5:=Tryz.underlying5
 a5:=Tryz.isAgg5
 z5:=Tryz.sizeOf5
 v5:=Tryz.zeroValue5
 infoByte:=by kernel_rfl
 cellsByte:=by kernel_rfl
 sizeByte:=by kernel_rfl
 neB5:=by decide
theorem afX(Y:oS)(l:List (List UInt8))(s:List UInt8)(D:(Lib.join l s).length<=gJ):CP (aB Y) 177 [.d (.sl (aR l)),dS s] (dS (Lib.join l s)):=by
 refine CP.B0 (cv:=.string ⟨(Lib.join l s).toArray⟩) (fun _ _=> .str _ D) ?_;intro g J Q X w t Z O f;have I:t.size=2:=O;have N:=f 0 _ (t[0]'om) rfl (dZ om);have e:t=#[t[0]'om,.string ⟨s.toArray⟩]:=GJ I (fun v p=>by rw[dZ om]at p;cases p;rfl) (fun v p=>(VR.iB (f 1 _ v rfl p)).1);generalize (t[0]'om)=L at e N;subst e;by_cases k:l=[]
 .subst k
  have:∃a c,L=.slice a 0 c:=by
   cases N with|d _ _ h=>
   generalize m:DV.sl (aR [])=P at h;cases h with
   |slnil=>exact⟨_,_,rfl⟩
   |sle a=>exact⟨_,_,rfl⟩
   |sl V i n u es c q z E S U p=>cases m;exact⟨_,_,rfl⟩
   |_=>cases m
  obtain⟨a,c,rfl⟩:=this;refine(Any.strings_Join_none Tryz.lays156 Tryz.Bi a c ⟨s.toArray⟩ w).mono ?_;rintro e w' ⟨rfl,rfl⟩;exact⟨rfl,Below.refl _ _⟩
 .have:∃i n u,L=.slice (some ⟨i,n,none⟩) l.length u/\l.length<=u/\l.length<=gJ/\∀(j:Nat)(x:List UInt8),l[j]?=some x->w.cell? ⟨i,n+j,none⟩=some (.string ⟨x.toArray⟩):=by
   cases N with|d _ _ h=>
   generalize m:DV.sl (aR l)=P at h;cases h with
   |slnil=>cases l with|nil=>exact absurd rfl k|cons x r=>simp[aR]at m
   |sle a=>cases l with|nil=>exact absurd rfl k|cons x r=>simp[aR]at m
   |sl V i n u es c q z E S U p=>
    cases m;have H:(aR l).length=l.length:=bl l
    have T:es=1:=by
     cases l with
     |nil=>exact absurd rfl k
     |cons x r=>have:=E [.str x] (by simp[aR]);simpa using this.symm
    subst T;refine⟨i,n,u,by rw[H],by omega,by omega,fun j x A=>?_⟩;have B:=(bV.1 A).1;have C:=U j 0 om om;have M:=p j 0 [.str x] (.str x) (by simp[aR,A]) rfl;rw[show n+(j*1+0)=n+j by omega]at C;rw[C];generalize c j 0=cv at M;cases M;rfl
   |_=>cases m
  obtain⟨i,n,u,rfl,G,K,F⟩:=this
  have R:i<w.heap.size:=by
   cases l with
   |nil=>exact absurd rfl k
   |cons x r=>
    have:=F 0 x rfl;simp only[World.cell?]at this;cases b:w.heap[i]? with
    |none=>simp[b]at this
    |some o=>exact(nx.1 b).1
  have A:(l.map fun x=>(⟨x.toArray⟩:ByteArray)).map (·.data.toList)=l:=by
   rw[List.map_map];exact(Ri fun x _=>rfl).trans (List.map_id l)
  have:=Any.strings_Join Tryz.lays156 Tryz.Bi i n u (l.map fun x=>⟨x.toArray⟩) ⟨s.toArray⟩ w (fun j x m=>by
   rw[jU]at m;cases b:l[j]? with
   |none=>rw[b]at m;cases m
   |some y=>rw[b]at m;cases m;exact F j y b) R (by simpa[gJ]using K) (by simpa using G) (by rw[A];simpa[gJ]using D)
  rw[A,iT]at this;exact this
end Go.Proofs
namespace Go.Ab
open Go
theorem abP{n:Int}(h:eB .i64 n):(dec n).length<=gJ:=by have:=qt h;unfold gJ;omega
theorem af5(e:oS)(t:e.1 5=Lib.pow10Tab.map (.int .u64))(n:Int)(h:eB .i64 n):CP (aB e) 174 [dI n] (dS (dec n)):=by
 have:=Go.Proofs.afW e t n h (by rw[NN];exact abP h);rw[NN]at this;exact this
theorem ajv(t:oS)(s:ab)(a:s.length<=1000000):CP (aB t) 338 [dS s,dS [58]] (dI (nV s 58)):=by
 have e:=P7 s 58
 have:=Go.Proofs.Iv t s 58 de (by
  rw[e];have:=J4 s 58;have o: -1<=nV s 58/\nV s 58<=1000000:=by unfold nV;split<;>omega
  exact⟨by omega,by omega⟩)
 rw[e]at this;exact this
theorem af7(e:oS)(l:List ab)(h:(jn l).length<=140737488355328):CP (aB e) 177 [.d (.sl (aR l)),dS [32]] (dS (jn l)):=
 Go.Proofs.afX e l [32] h
theorem akZ(e:oS):W7 (aB e):=by
 intro o x t a;rcases a with rfl|rfl
 .exact Go.Proofs.EF e x t
 .exact Go.Proofs.FY e x t
end Go.Ab
namespace Go.Proofs
open Go.Shelf Go.Ab Go.RowKit
def Tryz.lays137_ren:Go.Shelf.Ren:=⟨fun|137=>110|217=>129|266=>158|n=>n,fun|9=>9|5=>5|3=>3|n=>n,fun|n=>n⟩
theorem Tryz.lays137:Go.Proofs.Lays.n137 Tryz.prog Tryz.lays137_ren:=by repeat' first|kernel_rfl|(intros;kernel_rfl)|constructor
theorem QQ(n:oS)(s:List UInt8)(c:UInt8)(h:eB .i64 (Lib.indexByte s c)):CP (aB n) 269 [dS s,.d (.int .u8 c.toNat)] (dI (Lib.indexByte s c)):=by
 refine CP.B0 (cv:=.int .i64 (Lib.indexByte s c)) (fun _ _=> .int _ _ h) ?_;intro g r l u w a m o t;have e:a=#[.string ⟨s.toArray⟩,.int .u8 c.toNat]:=GJ o (fun v i=>(VR.iB (t 0 _ v rfl i)).1) (fun v i=>(VR.fV (t 1 _ v rfl i)).1);subst e;refine(Any.strings_IndexByte Tryz.lays137 ⟨s.toArray⟩ c.toNat w).mono ?_;rintro e f ⟨rfl,rfl⟩;refine⟨?_,Below.refl _ _⟩;simp
def Tryz.lays145_ren:Go.Shelf.Ren:=⟨fun|145=>42|220=>72|219=>101|217=>129|225=>130|224=>131|267=>132|266=>158|314=>159|n=>n,fun|9=>9|4=>4|59=>79|3=>3|5=>5|46=>166|146=>182|51=>181|n=>n,fun|1=>1|n=>n⟩
theorem Tryz.lays145:Go.Proofs.Lays.n145 Tryz.prog Tryz.lays145_ren:=by repeat' first|kernel_rfl|(intros;kernel_rfl)|constructor
theorem CP.N4{L:Lk}{f:Nat}{a:List AV}{v:AV}{cv:Value}(r:∀g rl w,VR L g rl w v cv)(h:∀(g:Gh)(nb:Nat)(bx:List Bx)(rl:bm)(w:World)(t:Array Value),aY L g nb bx rl w->t.size=a.length->
   (∀(j:Nat)(x:AV)(y:Value),a[j]?=some x->t[j]?=some y->VR L g rl w x y)->Calls L.P (L.fn f) t w fun e n=>e=.returned cv/\Below w.heap.size w n):CP L f a v:=by
 intro nb bx rl g w t s i o;refine(h g nb bx rl w t s i o).mono ?_;rintro e n ⟨rfl,d⟩;obtain⟨l,u⟩:=Cf s d;exact⟨cv,g,rfl,l,u,r _ _ _⟩
theorem ae1(s:ab)(c:UInt8):Lib.cut s [c]=(s.take (cl s c),s.drop (cl s c+1),pb (cl s c<s.length)):=by
 have t:=J4 s c;have e:Lib.index s [c]=nV s c:=by rw[Lib.index_one,oy]
 unfold Lib.cut;rw[e];unfold nV;by_cases h:cl s c<s.length
 .rw[if_pos h,if_pos om];simp[pb,h]
 .rw[if_neg h,if_neg om];have:cl s c=s.length:=by omega
  simp[pb,this]
theorem maxLen{a:oS}{m:Int}(o:a.1 2=[.int .i64 m]){g:Gh}{nb:Nat}{bx:List Bx}{rl:bm}{w:World}(i:aY (aB a) g nb bx rl w):w.cell? ⟨1,0,none⟩=some (.int .i64 m):=by
 obtain⟨t,n,e⟩:=Km (k:=.i64) (zs:=[m]) i 2 si o;have e:w.heap[1]?=some (.cells #[.int .i64 m] t n):=e;simp[World.cell?,e]
theorem aee(h:oS){m:Int}(f:h.1 2=[.int .i64 m])(s:ab)(c:UInt8)(k:s.length<=1000000):CP (aB h) 122 [dS s,dS [c]] (.b6 [dS (s.take (cl s c)),dS (s.drop (cl s c+1)),dB (pb (cl s c<s.length))]):=by
 have b6:∀g r w,VR (aB h) g r w (.b6 [dS (s.take (cl s c)),dS (s.drop (cl s c+1)),dB (pb (cl s c<s.length))]) (.tuple #[.string ⟨(s.take (cl s c)).toArray⟩,.string ⟨(s.drop (cl s c+1)).toArray⟩,.bool (pb (cl s c<s.length))]):=by
  intro g r w;refine .b6 _ _ rfl fun j x y a i=>?_
  match j with
  |0=>simp at a i;subst a;subst i;exact .d _ _ (.str _ (by simp[gJ];omega))
  |1=>simp at a i;subst a;subst i;exact .d _ _ (.str _ (by simp[gJ];omega))
  |2=>simp at a i;subst a;subst i;exact .d _ _ (.bool _)
  |j+3=>simp at a
 refine CP.N4 b6 ?_;intro g q z r w o p l t;have e:o=#[.string ⟨s.toArray⟩,.string ⟨#[c]⟩]:=GJ l (fun v u=>(VR.iB (t 0 _ v rfl u)).1) (fun v u=>(VR.iB (t 1 _ v rfl u)).1);subst e;refine(Any.strings_Cut Tryz.lays145 ⟨s.toArray⟩ ⟨#[c]⟩ m w (by simp[ByteArray.size];omega) (maxLen f p)).mono ?_;rintro e E ⟨rfl,n,rfl⟩;have b:=ae1 s c;refine⟨?_,(Below.refl _ _).trans ⟨rfl,rfl,rfl,aQ _,fun _ _=>rfl⟩⟩;simp only[b]
end Go.Proofs
namespace Go.Ab
open Go
theorem ajw(e:oS):O1 (aB e):=by
 intro s c t
 have:=Go.Proofs.QQ e s c (by
  rw[oy];have:=J4 s c;have a: -1<=nV s c/\nV s c<=1000000:=by unfold nV;split<;>omega
  exact⟨by omega,by omega⟩)
 rw[oy]at this;exact this
theorem af3(e:oS){m:Int}(t:e.1 2=[.int .i64 m]):OZ (aB e):=fun s c _ a=>Go.Proofs.aee e t s c a
theorem af4(e:oS){m:Int}(t:e.1 2=[.int .i64 m]):O0 (aB e):=fun s a=>Go.Proofs.aee e t s 32 a
end Go.Ab
namespace Go.Ab
open Go
theorem YR{s:ab}{c:UInt8}:c∉s.take (cl s c)/\(cl s c<s.length->s=s.take (cl s c)++c::s.drop (cl s c+1))/\(¬cl s c<s.length->c∉s):=by
 induction s with
 |nil=>simp[cl]
 |cons b r a=>
  by_cases h:b=c
  .subst h;have e:cl (b::r) b=0:=by simp[cl]
   rw[e];simp
  .have e:cl (b::r) c=cl r c+1:=by simp[cl,h]
   rw[e];obtain⟨o,i,n⟩:=a;refine⟨by simp[o,k8 h],fun t=>?_,fun t=>?_⟩
   .have:=i (by simpa using t);simp only[HU,Cp,yg];rw[<-this]
   .have:=n (by simpa using t);simp[this,k8 h]
theorem Ce(c:UInt8):∀(k:Nat)(s:ab),s.count c=k->Lib.splitK [c] 0 k s=pieces c s
 |0,s,h=>by rw[Lt (Rl.1 h)];rfl
 |k+1,s,h=>by
  have e:Lib.index s [c]=nV s c:=by rw[Lib.index_one,oy]
  obtain⟨a,n,r⟩:=YR (s:=s) (c:=c)
  have t:cl s c<s.length:=by
   refine HW.1 fun d=>?_
   rw[Rl.2 (r d)]at h;omega
  unfold Lib.splitK;rw[e];have o:nV s c=(cl s c:Int):=by unfold nV;rw[if_pos t]
  have l:¬((nV s c)==-1)=true:=fun q=>by rw[o]at q;simp at q
  rw[if_neg l,o];have i:=n t
  have u:(s.drop (cl s c+1)).count c=k:=by
   rw[i,List.count_append,List.count_cons_self,Rl.2 a]at h;omega
  have m:=Ce c k _ u;simp only[qo,iU,Rf];rw[m]
  conv=>rhs;rw[i]
  rw[Ip a]
end Go.Ab
namespace Go.Proofs
open Go.Shelf Go.Ab Go.RowKit
def Tryz.lays146_ren:Go.Shelf.Ren:=⟨fun|146=>11|221=>39|268=>63|138=>64|143=>65|195=>98|197=>99|218=>100|219=>101|260=>128|217=>129|225=>130|224=>131|267=>132|266=>158|314=>159|n=>n,fun|9=>9|31=>33|3=>3|4=>4|0=>0|105=>147|21=>21|5=>5|46=>166|119=>177|139=>180|138=>179|146=>182|51=>181|n=>n,fun|1=>1|3=>2|4=>3|n=>n⟩
theorem Tryz.lays146:Go.Proofs.Lays.n146 Tryz.prog Tryz.lays146_ren:=by repeat' first|kernel_rfl|(intros;kernel_rfl)|constructor
theorem T7(A:oS){m:Int}(S:A.1 2=[.int .i64 m])(s:ab)(c:UInt8)(C:s.length<=1000000):CP (aB A) 33 [dS s,dS [c]] (.d (.sl (aR (pieces c s)))):=by
 intro M F H g w u k q a;have e:u=#[.string ⟨s.toArray⟩,.string ⟨#[c]⟩]:=GJ q (fun v z=>(VR.iB (a 0 _ v rfl z)).1) (fun v z=>(VR.iB (a 1 _ v rfl z)).1);subst e;refine(Any.strings_Split Tryz.lays146 krf ⟨s.toArray⟩ ⟨#[c]⟩ m w (by simp[ByteArray.size];omega) (maxLen S k) (by simp[ByteArray.size])).mono ?_;rintro e Y ⟨rfl,rfl⟩
 have n:Lib.countB ⟨s.toArray⟩ ⟨#[c]⟩=s.count c:=by
  show Lib.count s [c]=_;exact Lib.count_one c s
 have E:(Lib.splitB ⟨#[c]⟩ 0 (Lib.countB ⟨s.toArray⟩ ⟨#[c]⟩) ⟨s.toArray⟩).map (·.data.toList)=pieces c s:=by
  rw[Lib.splitB_data,n];exact Ce c _ s rfl
 have r:=Lib.splitB_all ⟨#[c]⟩ (by simp[ByteArray.size]) 0 _ (⟨s.toArray⟩:ByteArray) rfl;generalize Lib.splitB ⟨#[c]⟩ 0 (Lib.countB ⟨s.toArray⟩ ⟨#[c]⟩) ⟨s.toArray⟩=o at E r⊢;rw[<-r];have p:o.length=(pieces c s).length:=by rw[<-E];simp
 have R:=ld c s;have D:=Step.data g H w (.cells (o.map Value.string).toArray (Tryz.lays146_ren.t 9)) o.length k.fresh;refine⟨_,g.data w.heap.size o.length,rfl,D,k.data _ _,.d _ _ ?_⟩;have f:(aR (pieces c s)).length=o.length:=by rw[p];exact bl _
 have:=DR.sl (mk:=(g.data w.heap.size o.length).bD) (w:=w.alloc (.cells (o.map Value.string).toArray (Tryz.lays146_ren.t 9))) (aR (pieces c s)) w.heap.size 0 o.length 1 (fun i _=>(o.map Value.string).getD i undef) (by rw[f,p];simp only[gJ];omega) om (fun x l=>by
  simp only[aR,lH]at l;obtain⟨y,_,rfl⟩:=l;rfl) (by simp[Gh.data,f]) (fun i j O I=>?_) (fun i j x y l N=>?_)
 .rw[f]at this;exact this
 .have O:i<o.length:=by omega
  rw[cell_of_row _ _ _ _ _ (0,0) (heap_alloc_new w _)];have:j=0:=by omega
  subst this;simp[O]
 .simp only[aR,jU]at l;cases h:(pieces c s)[i]? with
  |none=>rw[h]at l;cases l
  |some t=>
   rw[h]at l;cases l;have I:j=0:=by have:=(bV.1 N).1;simpa using this
   subst I;cases N;have L:=tB (c:=c) (s:=s) t (cP.2 ⟨i,h⟩);rw[<-E,jU]at h;cases T:o[i]? with
   |none=>rw[T]at h;cases h
   |some b=>
    rw[T]at h
    have U:b=⟨t.toArray⟩:=by
     simp at h;subst h;cases b;simp
    simp[T,U];exact .str t (by simp only[gJ];omega)
end Go.Proofs
namespace Go.Proofs
open Go.Shelf Go.Ab Go.RowKit
def Tryz.lays172_ren:Go.Shelf.Ren:=⟨fun|172=>147|244=>172|245=>173|247=>200|279=>201|280=>202|281=>203|282=>204|287=>221|316=>222|171=>148|205=>223|321=>233|322=>234|243=>174|246=>205|283=>224|284=>225|285=>226|286=>227|129=>236|317=>235|318=>237|319=>238|320=>239|337=>240|338=>241|n=>n,fun|9=>9|3=>3|75=>171|76=>172|4=>4|5=>5|167=>221|37=>90|0=>0|85=>222|2=>2|168=>224|53=>236|175=>237|46=>166|210=>240|127=>203|145=>253|143=>251|21=>21|171=>242|173=>245|212=>255|51=>181|20=>20|213=>256|232=>259|233=>260|80=>111|n=>n,fun|15=>5|16=>6|17=>7|18=>8|19=>9|n=>n⟩
theorem Tryz.lays172:Go.Proofs.LaysC.n172 Tryz.prog Tryz.lays172_ren:=by repeat' first|kernel_rfl|(intros;kernel_rfl)|constructor
def W5(v:Value):Prop:=v=.nilIface\/∃e t,v=.iface e t
theorem Wq(u:oS)(s:ab)(f:s.length<=1000000)(v:Int)(h:Lib.atoiAll s=.ok v)(r:eB .i64 v):CP (aB u) 329 [dS s] (.b6 [dI v,.d .mW]):=by
 refine CP.N4 (cv:=.tuple #[.int .i64 v,.nilIface]) (fun g c w=> .b6 _ _ rfl fun j x y i n=>?_) ?_
 .match j with
  |0=>simp at i n;subst i;subst n;exact .d _ _ (.int _ _ r)
  |1=>simp at i n;subst i;subst n;exact .d _ _ .mW
  |j+2=>simp at i
 intro g p b c w a k l o;have e:a=#[.string ⟨s.toArray⟩]:=JT l (fun v r=>(VR.iB (o 0 _ v rfl r)).1);subst e;refine(Any.strconv_Atoi_ok Tryz.lays172 ⟨s.toArray⟩ (by simp[ByteArray.size];omega) v h w).mono ?_;rintro e q ⟨rfl,m⟩;refine⟨rfl,?_⟩;rcases m with rfl|⟨t,rfl⟩
 .exact Below.refl _ _
 .exact Lib.bytesWorld_below _ _ _
theorem LJ(r:oS)(s:ab)(v:Int)(l:eB .i64 v)(c:Nat)(ev:Value)(u:r.2 c=some ev)(h:∀w:World,w.cell? ⟨(aB r).gn c,0,none⟩=some ev->Calls Tryz.prog (Tryz.lays172_ren.f 172) #[.string ⟨s.toArray⟩] w fun e p=> ∃N,e=.returned (.tuple #[.int .i64 v,.iface (Tryz.lays172_ren.t 168) (.pointer (some ⟨N,0,none⟩))])/\Below w.heap.size w p):
  CP (aB r) 329 [dS s] (.b6 [dI v,.oH 3 .bM]):=by
 intro E T A g w a b m o;have e:a=#[.string ⟨s.toArray⟩]:=JT m (fun v l=>(VR.iB (o 0 _ v rfl l)).1);subst e;refine(h w ((b.jd c).2.2 ev u).1).mono ?_;rintro e p ⟨N,rfl,k⟩;obtain⟨q,z⟩:=Cf b k;refine⟨_,g,rfl,q,z,.b6 _ _ rfl fun j x y i n=>?_⟩
 match j with
 |0=>simp at i n;subst i;subst n;exact .d _ _ (.int _ _ l)
 |1=>simp at i n;subst i;subst n;exact .oH 3 _ _ (.bM _)
 |j+2=>simp at i
end Go.Proofs
namespace Go.Ab
open Go Go.Proofs
theorem af1(o:oS){a b:Value}(m:o.2 6=some a)(f:o.2 7=some b)(ka:W5 a)(y:W5 b):OY (aB o) Qx:=by
 intro s p;have i:(⟨s.toArray⟩:ByteArray).size<=281474976710656:=by simp[ByteArray.size];omega
 have r:∀v,isNum s->Lib.atoiAll s=.ok v->dec v=s:=fun v⟨n,t,e⟩h=>by
  rw[<-e,CB t]at h;cases h;exact e
 cases h:Lib.atoiAll s with
 |ok v=>
  have d:eB .i64 v:=by have:=Lib.atoiAll_bounds h;simp only[eB];omega
  have e:Qx s=v:=by rw[Qx,h]
  rw[e];exact⟨d,.inl ⟨Wq o s p v h d,fun t=>r v t h⟩⟩
 |range=>
  have e:Qx s=Lib.atoiSat s:=by rw[Qx,h]
  have d:eB .i64 (Lib.atoiSat s):=by have:=Lib.atoiSat_bounds s;simp only[eB];omega
  rw[e];refine⟨d,.inr ⟨(fun⟨n,t,e⟩=>by rw[<-e,CB t]at h;cases h),3,?_⟩⟩;exact LJ o s _ d 7 b f fun w l=>(Any.strconv_Atoi_range Tryz.lays172 ⟨s.toArray⟩ i h b w l y).mono fun e g⟨N,u,_,_,c⟩=>⟨N,u,c⟩
 |_=>
  have e:Qx s=0:=by rw[Qx,h]
  rw[e];refine⟨by simp only[eB];omega,.inr ⟨(fun⟨n,t,e⟩=>by rw[<-e,CB t]at h;cases h),3,?_⟩⟩;exact LJ o s 0 (by simp only[eB];omega) 6 a m fun w l=>(Any.strconv_Atoi_syntax Tryz.lays172 ⟨s.toArray⟩ i h a w l ka).mono fun e g⟨N,u,_,_,c⟩=>⟨N,u,c⟩
end Go.Ab
namespace Go.Proofs
open Go.Shelf Go.RowKit Go.Lib Go.Ab
variable{P:Program}{ρ:Ren}
theorem Mq(s:ByteArray)(pos:Nat)(h:pos<s.size)(i:128<=(s[pos]'h).toNat):
  pos+(Utf8.decode s pos).2<=s.size/\∀(j:Nat)b,pos<=j->j<pos+(Utf8.decode s pos).2->s.data.toList[j]?=some b->128<=b.toNat:=by
 have u:s.data.toList.length=s.size:=(Lib.size_eq s).symm;have o:=decodeN_conts (s.data.toList.length-pos) (s.data.toList.getD pos 0).toNat (s.data.toList.getD (pos+1) 0).toNat (s.data.toList.getD (pos+2) 0).toNat (s.data.toList.getD (pos+3) 0).toNat;rw[<-decode_N]at o;obtain⟨c2,c3,c4,n⟩:=o;obtain⟨K,r⟩:∃K,(Utf8.decode s pos).2=K:=⟨_,rfl⟩;rw[r]at c2 c3 c4 n⊢;refine⟨by omega,fun j b c m t=>?_⟩
 have a:∀k,j=pos+k->(s.data.toList.getD (pos+k) 0).toNat=b.toNat:=fun k d=>by
  rw[ny,<-d,t];rfl
 have l:s.data.toList[pos]?=some (s[pos]'h):=Lib.data_getElem? s pos h;obtain e|e|e|e:j=pos\/j=pos+1\/j=pos+2\/j=pos+3:=by omega
 .subst e;rw[l]at t;cases t;exact i
 .have:=a 1 e;have:=(c2 om).1;omega
 .have:=a 2 e;have:=(c3 om).1;omega
 .have:=a 3 e;have:=(c4 om).1;omega
theorem NoAny.skip{s t:List UInt8}{i k:Nat}(h:NoAny s t i)(a:∀(j:Nat)b,t[j]?=some b->b.toNat<128)(r:∀(j:Nat)b,i<=j->j<k->s[j]?=some b->128<=b.toNat):NoAny s t k:=fun j b d o=>by
 by_cases e:j<i
 .exact h j b e o
 .have:=r j b om d o;cases l:t.contains b with
  |false=>rfl
  |true=>
   obtain⟨n,u⟩:=cP.1 (Jz.1 l);have:=a n b u;omega
def Bj(e:ByteArray):Prop:=∃(k:Nat)(x:UInt8)(h:k+1<e.size),e.size=k+2/\k<=2/\e[k+1]'h=x/\128<=x.toNat
theorem zU{p:Prop}[Decidable p]{a b:ByteArray}(e:p->Bj a)(t:¬p->Bj b):Bj (if p then a else b):=by
 split
 .exact e ‹_›
 .exact t ‹_›
theorem Pp(c:Nat)(h:128<=c):Bj (if c<0x80 then⟨#[UInt8.ofNat c]⟩
 else if c<0x800 then⟨#[UInt8.ofNat (0xC0+c/64),UInt8.ofNat (0x80+c%64)]⟩
 else if c<0x10000 then⟨#[UInt8.ofNat (0xE0+c/4096),UInt8.ofNat (0x80+c/64%64),UInt8.ofNat (0x80+c%64)]⟩
 else⟨#[UInt8.ofNat (0xF0+c/262144),UInt8.ofNat (0x80+c/4096%64),UInt8.ofNat (0x80+c/64%64),UInt8.ofNat (0x80+c%64)]⟩):=by
 have e:128<=(UInt8.ofNat (0x80+c%64)).toNat:=by rw[Gi];omega
 refine zU (fun _=>by omega) fun _=>zU (fun _=>?_) fun _=>zU (fun _=>?_) fun _=>?_
 .exact⟨0,_,cb rfl,rfl,by omega,rfl,e⟩
 .exact⟨1,_,cb rfl,rfl,by omega,rfl,e⟩
 .exact⟨2,_,cb rfl,rfl,by omega,rfl,e⟩
theorem Pq(r:Int)(e:128<=r):Bj (Utf8.encode r):=
 Pp (if Utf8.valid r then r.toNat else Utf8.runeError) (by split;omega;decide)
theorem IX{s:List UInt8}{c:UInt8}(n:128<=c.toNat)(t:∀(j:Nat)b,s[j]?=some b->b.toNat<128):indexByte s c=-1:=by
 induction s with
 |nil=>rfl
 |cons b l a=>
  have h:=t 0 b rfl
  have o:(b==c)=false:=by
   refine beq_eq_false_iff_ne.2 fun e=>?_
   subst e;omega
  rw[indexByte,o,a fun j x i=>t (j+1) x (by simpa using i)];rfl
set_option maxHeartbeats 8000000 in
set_option maxRecDepth 1000000 in
theorem Any.zc(L:Lays.n152 P ρ)(s:ByteArray)(r:Int)(w:World)(h0:128<=r)(h1:r<=1114111)(has:∀(j:Nat)b,s.data.toList[j]?=some b->b.toNat<128):
  Calls P (ρ.f 152) #[.string s,.int .i32 r] w fun e w'=>e=.returned (.int .i64 (-1))/\Below w.heap.size w w':=by
 have mixed:=L.mixed;have HA:Aside (∀(j:Nat)b,s.data.toList[j]?=some b->b.toNat<128):=has;clear has;have t3:=L.t3;have a3:=L.a3;have z3:=L.z3;have v3:=L.v3;have t4:=L.t4;have a4:=L.a4;have z4:=L.z4;have v4:=L.v4;have t5:=L.t5;have a5:=L.a5;have z5:=L.z5;have v5:=L.v5;have t9:=L.t9;have a9:=L.a9;have z9:=L.z9;have v9:=L.v9;have t21:=L.t21;have a21:=L.a21;have z21:=L.z21;have v21:=L.v21;have e119:∀args w,(callFunc (ρ.f 119) args).run P w=.ok (.enter (ρ.f 119) args) w:=enters_of L.f119 krf rfl;have e137:∀args w,(callFunc (ρ.f 137) args).run P w=.ok (.enter (ρ.f 137) args) w:=enters_of L.f137 krf rfl;by_cases hE:r=65533
 .subst hE
  go_enter L.f152,Body.n152_ntmps ρ
  go_wp2
  go_loopg [5,6] s.size (fun g _ _ wx=> ∃i:Nat,i+g=s.size/\wx=w.iter s i)
  case atStart=>exact⟨0,by omega,rfl⟩
  case round=>
   obtain⟨i,hig,rfl⟩:=hrel;cases gk with
   |zero=>
    obtain rfl:i=s.size:=by omega
    have hnx:=run_next_end (P:=P) w s s.size
    go_wp2
    go_ret
    exact⟨rfl,(Below.refl _ _).alloc (aQ _) _⟩
   |succ g=>
    have hi:i<s.size:=by omega
    obtain⟨x,hx⟩:∃x:UInt8,s[i]'hi=x:=⟨_,rfl⟩;have hxl:s.data.toList[i]?=some x:=by rw[<-hx];exact Lib.data_getElem? s i hi
    have hx128:x.toNat<128:=HA.out i x hxl;have hnx:=fun ty=>run_next_ascii (P:=P) w s i ty hi (by rw[hx];exact hx128)
    rw[hx]at hnx;have hxz:¬((x.toNat:Int)=65533):=by omega
    go_wp2
    go_roundg g
    case measure=>omega
    case rel=>exact⟨i+1,by omega,rfl⟩
 .have cV:=Any.utf8_ValidRune {L with} r w;cases hv:Lib.validRune r with
  |false=>
   rw[hv]at cV
   go_enter L.f152,Body.n152_ntmps ρ
   go_wp2_with (go_at_fn (ρ.f 119);refine cV.mono ?_;rintro e w' ⟨rfl,hw⟩;rw[hw])
   go_ret
   exact⟨rfl,Below.refl _ _⟩
  |true=>
   rw[hv]at cV;have hEL:=Pq r h0;obtain⟨rs,hrs⟩:∃rs,Utf8.encode r=rs:=⟨_,rfl⟩;rw[hrs]at hEL;obtain⟨k,x,hk,cz,hk2,hx,hx128⟩:=hEL
   go_enter L.f152,Body.n152_ntmps ρ
   go_wp2_with (go_at_fn (ρ.f 119);refine cV.mono ?_;rintro e w' ⟨rfl,hw⟩;rw[hw])
   go_step3
   go_wp2
   go_loopg [9,10] 1 (fun g s9 s10 wx=>s9=.int .i64 ((k:Int)+2-1)/\s10=.int .i64 0/\wx=w)
   case atStart=>exact⟨rfl,rfl,rfl⟩
   case round=>
    obtain⟨rfl,rfl,rfl⟩:=hrel;by_cases hin:k+1<s.size
    .obtain⟨y,hy⟩:∃y:UInt8,s[k+1]'hin=y:=⟨_,rfl⟩;have hyl:s.data.toList[k+1]?=some y:=by rw[<-hy];exact Lib.data_getElem? s (k+1) hin
     have hy128:y.toNat<128:=HA.out _ y hyl;have hk1:((k:Int)+2-1)<(s.size:Int):=by omega
     have hk3:((k:Int)+2-1).toNat=k+1:=by omega
     have hk4:((k:Int)+2-1+1).toNat=k+2:=by omega
     have hw1:IntKind.i64.wrap ((k:Int)+2)=(k:Int)+2:=IntWalk.i64_in _ om;have hw2:0<=(k:Int)+2:=by omega
     have hw3:(k:Int)+2<=(s.size:Int):=by omega
     have hw4:((k:Int)+2).toNat=k+2:=by omega
     have hne:((y.toNat:Int) !=(x.toNat:Int))=true:=by simp;omega
     clear hyl;have hback:((x.toNat:Int)).toNat.toUInt8=x:=by simp
     have hI:indexByte (s.extract (k+2) s.size).data.toList x=-1:=IX hx128 (fun j b hb=>by
      rw[Lib.extract_data]at hb;simp only[xa,mE]at hb;split at hb
      .exact HA.out _ b hb
      .cases hb)
     have cI:∀W,Calls P (ρ.f 137) #[.string (s.extract (k+2) s.size),.int .u8 (x.toNat:Int)] W fun e w'=>e=.returned (.int .i64 (-1))/\w'=W:=fun W=>by
      have:=Any.strings_IndexByte {L with} (s.extract (k+2) s.size) (x.toNat:Int) W;rwa [hback,hI]at this
     go_wp2
     go_step3
     go_wp2
     go_region_o
     go_wp2
     go_region_with_o (go_at_fn (ρ.f 137);refine(cI _).mono ?_;rintro e w' ⟨rfl,rfl⟩)
     all_goals go_wp2
     all_goals simp only[Exit.noGoto,Exit.inBlock,Exit.then]
     all_goals go_ret
     all_goals exact⟨rfl,(Below.refl _ _).drew.drew⟩
    .have hk1:¬((k:Int)+2-1)<(s.size:Int):=by omega
     go_wp2
     go_ret
     exact⟨rfl,Below.refl _ _⟩
set_option maxHeartbeats 8000000 in
set_option maxRecDepth 1000000 in
theorem Any.Bh(L:Lays.n153 P ρ)(s chars:ByteArray)(w:World)(h2:2<=chars.size)(h8:s.size<=8)(hac:∀(j:Nat)b,chars.data.toList[j]?=some b->b.toNat<128):
  Calls P (ρ.f 153) #[.string s,.string chars] w fun e w'=>e=.returned (.int .i64 (Lib.indexAny s.data.toList chars.data.toList))/\Below w.heap.size w w':=by
 have HA:Aside (∀(j:Nat)b,chars.data.toList[j]?=some b->b.toNat<128):=hac;clear hac
 have hemp:chars.toList.isEmpty=false:=by
  rw[Lib.toList_data];cases h:chars.data.toList with
  |nil=>have:=Lib.size_eq chars;rw[h,bc]at this;omega
  |cons _ _=>rfl
 have hn1:((chars.size:Int)==1)=false:=beq_eq_false_iff_ne.2 om;have h8z:decide ((8:Int)<(s.size:Int))=false:=decide_eq_false om;have t3:=L.t3;have a3:=L.a3;have z3:=L.z3;have v3:=L.v3;have t4:=L.t4;have a4:=L.a4;have z4:=L.z4;have v4:=L.v4;have t5:=L.t5;have a5:=L.a5;have z5:=L.z5;have v5:=L.v5;have t9:=L.t9;have a9:=L.a9;have z9:=L.z9;have v9:=L.v9;have t21:=L.t21;have a21:=L.a21;have z21:=L.z21;have v21:=L.v21;have e152:∀args w,(callFunc (ρ.f 152) args).run P w=.ok (.enter (ρ.f 152) args) w:=enters_of L.f152 krf rfl;have e226:∀args w,(callFunc (ρ.f 226) args).run P w=.ok (.enter (ρ.f 226) args) w:=enters_of L.f226 krf rfl
 go_enter L.f153,Body.n153_ntmps ρ
 go_wp2_with (go_at_fn (ρ.f 226);refine(Any.strings_shouldUseASCIISet {L with} _ _).mono ?_;rintro e w' ⟨rfl,hw⟩;rw[hw,h8z])
 go_loopg [9,10] s.size (fun g _ _ wx=> ∃i:Nat,i<=s.size/\s.size<=i+g/\wx.heap[w.heap.size]?=some (.stringIter s i)/\Below w.heap.size w wx/\Lib.NoAny s.data.toList chars.data.toList i)
 case atStart=>exact⟨0,by omega,by omega,World.iter_heap w s 0,(Below.refl _ w).alloc (aQ _) _,Lib.NoAny.zero _ _⟩
 case round=>
  obtain⟨i,hi0,hig,hit,hbw,hno⟩:=hrel;have HN:Aside (Lib.NoAny s.data.toList chars.data.toList i):=hno;clear hno;by_cases hi:i<s.size
  .obtain⟨g',rfl⟩:∃g',gk=g'+1:=⟨gk-1,by omega⟩;have hnx:∀ty,(Instr.next (.pointer (some ⟨w.heap.size,0,none⟩)) true ty).run P wr=_:=fun ty=>Lib.run_next_any_at wr w.heap.size s i ty hit hi
   obtain⟨x,hx⟩:∃x:UInt8,s[i]'hi=x:=⟨_,rfl⟩;have hxl:s.data.toList[i]?=some x:=by rw[<-hx];exact Lib.data_getElem? s i hi
   have Hx:Aside (s.data.toList[i]?=some x):=hxl;clear hxl;have hK0:=Lib.width_pos s i;have hR1:=Lib.rune_le s i;by_cases hx128:x.toNat<128
   .have hd:=decode_ascii s i hi (by rw[hx];exact hx128);rw[hx]at hd;rw[hd]at hnx;have hit2:=Lib.iterAt_heap wr w.heap.size s i (i+1) hit;have hbw2:=Lib.below_iterAt hbw (k:=w.heap.size) (aQ _) s (i+1);obtain⟨W,hWd⟩:∃W,wr.iterAt w.heap.size s (i+1)=W:=⟨_,rfl⟩;simp only[hWd]at hnx hit2 hbw2;clear hit hbw hWd hx hd;have hcon:=Lib.contains_iff_indexByte chars.data.toList x;have hback:((x.toNat:Int)).toNat.toUInt8=x:=by simp
    cases hin:chars.data.toList.contains x
    .rw[hin]at hcon;have hlt:¬((0:Int)<=Lib.indexByte chars.data.toList x):=of_decide_eq_false hcon.symm;clear hcon
     go_wp2_with (go_at_fn (ρ.f 152);refine(Any.strings_IndexRune_ascii {L with} _ _ _ om om).mono ?_;rintro e w' ⟨rfl,hw⟩;rw[hw,hback])
     go_roundg g'
     case measure=>omega
     case rel=>exact⟨i+1,by omega,by omega,hit2,hbw2,HN.out.succ Hx.out hin⟩
    .rw[hin]at hcon;have hge:(0:Int)<=Lib.indexByte chars.data.toList x:=of_decide_eq_true hcon.symm;clear hcon
     go_wp2_with (go_at_fn (ρ.f 152);refine(Any.strings_IndexRune_ascii {L with} _ _ _ om om).mono ?_;rintro e w' ⟨rfl,hw⟩;rw[hw,hback])
     go_ret
     exact⟨by rw[Lib.indexAny_hit HN.out Hx.out hin];rfl,hbw2⟩
   .have hh:=decode_high s i hi (by rw[hx];omega);have hb:=Mq s i hi (by rw[hx];omega);have HS:=NoAny.skip HN.out HA.out hb.2;obtain⟨R,hR⟩:∃R,(Utf8.decode s i).1=R:=⟨_,rfl⟩;obtain⟨K,hK⟩:∃K,(Utf8.decode s i).2=K:=⟨_,rfl⟩;rw[hR,hK]at hnx hh;rw[hK]at hb HS;rw[hR]at hR1;have HS2:Aside (Lib.NoAny s.data.toList chars.data.toList (i+K)):=HS;have hle:=hb.1;clear HS hb;have hit2:=Lib.iterAt_heap wr w.heap.size s i (i+K) hit;have hbw2:=Lib.below_iterAt hbw (k:=w.heap.size) (aQ _) s (i+K);obtain⟨W,hWd⟩:∃W,wr.iterAt w.heap.size s (i+K)=W:=⟨_,rfl⟩;simp only[hWd]at hnx hit2 hbw2;clear hit hbw hWd hx;have hlt:w.heap.size<W.heap.size:=(nx.1 hit2).1;have cR:=Any.zc {L with} chars (R:Int) W om om HA.out
    go_wp2_with (go_at_fn (ρ.f 152);refine cR.mono ?_;rintro e w' ⟨rfl,hw⟩)
    go_roundg g'
    case measure=>omega
    case rel=>exact⟨i+K,by omega,by omega,(hw.block _ hlt).trans hit2,hbw2.trans (hw.mono om),HS2.out⟩
  .obtain rfl:i=s.size:=by omega
   have hnx:∀ty,(Instr.next (.pointer (some ⟨w.heap.size,0,none⟩)) true ty).run P wr=_:=fun ty=>Lib.run_next_end_at wr w.heap.size s s.size ty hit hi
   go_wp2
   go_ret
   exact⟨by rw[Lib.indexAny_none (by rw[<-Lib.size_eq];exact HN.out)];rfl,hbw⟩
theorem Any.Bg(L:Lays.n153 P ρ)(o:∀w,(zeroValue (ρ.t 116)).run P w=.ok (.agg (Array.replicate 256 (.bool false))) w)(i:(P.info? (ρ.t 116)).map (·.size)=some 256)(s a:ByteArray)(w:World)(h:2<=a.size)(d:a.size<1000)(l:s.size<4294967281)(n:∀(j:Nat)b,a.data.toList[j]?=some b->b.toNat<128):
  Calls P (ρ.f 153) #[.string s,.string a] w fun e r=>e=.returned (.int .i64 (Lib.indexAny s.data.toList a.data.toList))/\Below w.heap.size w r:=by
 by_cases u:s.size<=8
 .exact Any.Bh L s a w h u n
 .refine(Any.strings_IndexAny_long L o i s a w h om l om n).mono fun e r⟨c,m⟩=>⟨c,?_⟩
  rw[m];exact((Below.refl _ _).alloc (aQ _) _).alloc si _
end Go.Proofs
namespace Go.Proofs
open Go.Shelf Go.Ab Go.RowKit
theorem QP(d:oS)(s m:List UInt8)(l:2<=m.length)(u:m.length<1000)(c:∀(j:Nat)b,m[j]?=some b->b.toNat<128)(y:s.length<=1000000)(f:eB .i64 (Lib.indexAny s m)):
  CP (aB d) 338 [dS s,dS m] (dI (Lib.indexAny s m)):=by
 refine CP.B0 (cv:=.int .i64 (Lib.indexAny s m)) (fun _ _=> .int _ _ f) ?_;intro g p k q w n x h a;have e:n=#[.string ⟨s.toArray⟩,.string ⟨m.toArray⟩]:=GJ h (fun v r=>(VR.iB (a 0 _ v rfl r)).1) (fun v r=>(VR.iB (a 1 _ v rfl r)).1);subst e;have o:(Tryz.prog.info? (Tryz.lays153_ren.t 116)).map (fun i=>(i.zero,i.size))=some (some (.agg (Array.replicate 256 (.bool false))),256):=by kernel_rfl
 exact Any.Bg Tryz.lays153 (zero_of_info o).1 (zero_of_info o).2 ⟨s.toArray⟩ ⟨m.toArray⟩ w (by simpa[ByteArray.size]using l) (by simpa[ByteArray.size]using u) (by simp[ByteArray.size];omega) (by simpa using c)
end Go.Proofs
namespace Go.Ab
open Go Go.Proofs
theorem qz(m:ab):∀s:ab,Lib.indexAny s m=xW s m
 |[]=>rfl
 |b::l=>by
  have t:=qz m l;have a:=Jd l m;rw[Lib.indexAny,t];unfold xW rL at*;rw[List.takeWhile_cons];cases h:m.contains b with
  |true=>simp
  |false=>
   simp only[jT,if_false,Bool.not_false,if_true,aZ];generalize (l.takeWhile fun x=> !m.contains x).length=n at*;by_cases e:n<l.length
   .have o:((n:Int)==-1)=false:=by rw[beq_eq_false_iff_ne];omega
    simp only[if_pos e,if_pos (show n+1<l.length+1 by omega),o,jT,if_false];push_cast;rfl
   .simp only[if_neg e,if_neg (show¬n+1<l.length+1 by omega)];rfl
theorem XY(s m:ab)(e:s.length<=1000000):eB .i64 (xW s m):=by
 have:=Jd s m;unfold xW;simp only[eB];split<;>omega
theorem Ys(e:oS)(m:ab)(a:2<=m.length)(o:m.length<1000)(i:∀(j:Nat)b,m[j]?=some b->b.toNat<128)(s:ab)(t:s.length<=1000000):CP (aB e) 338 [dS s,dS m] (dI (xW s m)):=by
 have:=QP e s m a o i t (by rw[qz];exact XY s m t);rwa [qz]at this
theorem af2(e:oS)(c:UInt8)(t:c.toNat<128)(s:ab)(a:s.length<=1000000):CP (aB e) 338 [dS s,dS [c]] (dI (xW s [c])):=by
 have:=Iv e s c t (by rw[qz];exact XY s _ a);rwa [qz]at this
theorem akG{a b:UInt8}(e:a.toNat<128)(t:b.toNat<128):∀(j:Nat)x,[a,b][j]?=some x->x.toNat<128
 |0,x,h=>by cases h;exact e
 |1,x,h=>by cases h;exact t
 |j+2,x,h=>by simp at h
theorem af6(e:oS):O2 (aB e):=fun s t=>Ys e _ de de (akG de de) s t
theorem akH{a b c:UInt8}(e:a.toNat<128)(t:b.toNat<128)(o:c.toNat<128):∀(j:Nat)x,[a,b,c][j]?=some x->x.toNat<128
 |0,x,h=>by cases h;exact e
 |1,x,h=>by cases h;exact t
 |2,x,h=>by cases h;exact o
 |j+3,x,h=>by simp at h
theorem ajx(e:oS)(s:ab)(t:s.length<=1000000):CP (aB e) 338 [dS s,dS Ai] (dI (xW s Ai)):=Ys e _ de de (akH de de de) s t
end Go.Ab
namespace Go.Ab
open Go Go.Proofs
theorem Z2(t:oS){m:Int}{a b:Value}(g0:t.1 0=Ke)(n:t.1 1=ED)(i:t.1 2=[.int .i64 m])(h:t.1 5=Lib.pow10Tab.map (.int .u64))(r:t.2 6=some a)(d:t.2 7=some b)(ka:W5 a)(u:W5 b){s:ab}(o:s.length<=gJ){M:Nat->Nat}{w:World}(f:aY (aB t) (eR M) 0 [] [] w):
  Calls Tryz.prog 3 #[.string ⟨s.toArray⟩] w fun e y=> ∃v,e=.returned v/\v=.bool true/\mz (eR M) (fun c=>w.heap.size<=c) w y:=by
 obtain⟨p,g⟩:=V6 t adI (psF t) (Py t) g0 n (af6 t) (ajw t) (af5 t h) (akZ t) (af7 t) (fun s o=>T7 t i s 32 o) (af1 t r d ka u) (af3 t i) (ajv t) (af4 t i) (fun s o=>T7 t i s 10 o) (af2 t 34 de) (ajx t);obtain⟨l,k,_⟩:=Ok s;exact adw (L:=aB t) (Py t) (aiK t) o (p s) (g s) (by rw[k];exact adA t l) (Tk fF) (ae4 t) (ae3 t) f
end Go.Ab
namespace Go.Proofs.YtdcndpbmgpcgmaaGreatDoor.teaRead
open Go Go.ChangeShapes Go.WideShapes Go.ChangeAt Go.RowKit Go.Ab
def Pc:List TypeId:=[9]
def F6:List TypeId:=[82,230,207,206,9,255,236]
theorem UO:Pc.all (TI Tryz.prog Pc)=true:=by kernel_rfl
theorem EG:F6.all (TI Tryz.prog F6)=true:=by kernel_rfl
theorem kids:Kids Tryz.prog (·<Tryz.prog.types.size):=kids_rows krf krf
theorem full:∀t e,t<Tryz.prog.types.size->Tryz.prog.underlying t=some (.slice e)->0<Tryz.prog.cellsOf e:=slices_full_of Tryz.prog krf
theorem Sp:(Tryz.prog.globals.toList.all fun g=>Nat.blt g.type Tryz.prog.types.size)=true:=by kernel_rfl
theorem aiL(n:String)(g:Nat)(t:TypeId)(_:Tryz.prog.globalNamed n=some g)(h:(Tryz.prog.globals[g]?).map (·.type)=some t):t<Tryz.prog.types.size:=by
 obtain⟨x,e,rfl⟩:=Re.1 h;exact cb (kI.1 Sp x (Array.mem_toList_iff.2 (Array.mem_of_getElem? e)))
theorem types_size:Nat.blt 22 Tryz.prog.types.size=true:=by kernel_rfl
def Sk(m:Int)(a b:Value):oS:=(fun
 |0=>Ke
 |1=>ED
 |2=>[.int .i64 m]
 |5=>Lib.pow10Tab.map (.int .u64)
 |_=>[],fun
 |6=>some a
 |7=>some b
 |_=>none)
theorem aiJ:Ke=Dk (H:=Unit) Rows.laid_loop_example_teagle_impl_eventWords:=by kernel_rfl
theorem ad6:ED=Dk (H:=Unit) Rows.laid_loop_example_teagle_impl_opRows:=by kernel_rfl
theorem afO:Lib.pow10Tab.map (DV.int .u64)=Dk (H:=Unit) Rows.laid_internal_strconv_uint64pow10:=by kernel_rfl
theorem Wm:(Rows.fnExactTeaReadRow.laid.filter fun x=>x.2.handleName?.isSome)=[]:=by kernel_rfl
theorem BU{W:World}(h:laidMetH Tryz.prog Rows.fnExactTeaReadRow.laid W):laidMet Tryz.prog Rows.fnExactTeaReadRow.laid W:=by
 unfold laidMetH at h;rw[Wm]at h;exact h
theorem gn0:Tryz.prog.globalNamed "loop.example/teagle/impl.eventWords"=some 0:=by kernel_rfl
theorem gn1:Tryz.prog.globalNamed "loop.example/teagle/impl.opRows"=some 4:=by kernel_rfl
theorem gn5:Tryz.prog.globalNamed "internal/strconv.uint64pow10"=some 7:=by kernel_rfl
theorem gn6:Tryz.prog.globalNamed "strconv.ErrSyntax"=some 5:=by kernel_rfl
theorem gn7:Tryz.prog.globalNamed "strconv.ErrRange"=some 6:=by kernel_rfl
theorem gt0:(Tryz.prog.globals[0]?).map (·.type)=some 82:=by kernel_rfl
theorem gt1:(Tryz.prog.globals[4]?).map (·.type)=some 230:=by kernel_rfl
theorem gt5:(Tryz.prog.globals[7]?).map (·.type)=some 255:=by kernel_rfl
theorem gt6:(Tryz.prog.globals[5]?).map (·.type)=some 171:=by kernel_rfl
theorem gt7:(Tryz.prog.globals[6]?).map (·.type)=some 171:=by kernel_rfl
theorem wt0:((Rows.laid_loop_example_teagle_impl_eventWords:DataW Unit).weights Tryz.prog 82).all (fun y=>Nat.ble y reachBytes)=true:=by kernel_rfl
theorem wt1:((Rows.laid_loop_example_teagle_impl_opRows:DataW Unit).weights Tryz.prog 230).all (fun y=>Nat.ble y reachBytes)=true:=by kernel_rfl
theorem wt5:((Rows.laid_internal_strconv_uint64pow10:DataW Unit).weights Tryz.prog 255).all (fun y=>Nat.ble y reachBytes)=true:=by kernel_rfl
theorem gsz:Nat.blt 1 Tryz.prog.globals.size=true:=by kernel_rfl
theorem gm0:((begin Tryz.prog (fun _ _=>0) default).world.heap[1]?).bind Obj.row?=some (#[.int .i64 0],3):=by kernel_rfl
theorem gm1:Tryz.prog.buildable 3=true:=by kernel_rfl
theorem gm2:Tryz.prog.cellTypes Tryz.prog.depth 3=some [3]:=by kernel_rfl
theorem BR(j:Nat)(x:String×DataW Unit)(h:Rows.fnExactTeaReadRow.laid[j]?=some x):x∈Rows.fnExactTeaReadRow.laid:=vc h
theorem aiM{W:World}(h:laidMetH Tryz.prog Rows.fnExactTeaReadRow.laid W){m:Int}{a b:Value}(l:eB .i64 m)(u:∃t s,W.heap[1]?=some (.cells #[.int .i64 m] t s))(r:W.cell? ⟨5,0,none⟩=some a/\0<xp W 5)(d:W.cell? ⟨6,0,none⟩=some b/\0<xp W 6)(i:Nat):xP (aB (Sk m a b)) (dE W) [] W i:=by
 have o:=BU h
 match i with
 |0=>exact Kn (L:=aB (Sk m a b)) (i:=0) F6 EG gn0 o (BR 7 _ rfl) (fun t e=>by
   obtain rfl:=vf (gt0.symm.trans e);exact⟨by decide,wt0⟩) aiJ rfl
 |1=>exact Kn (L:=aB (Sk m a b)) (i:=1) F6 EG gn1 o (BR 6 _ rfl) (fun t e=>by
   obtain rfl:=vf (gt1.symm.trans e);exact⟨by decide,wt1⟩) ad6 rfl
 |2=>obtain⟨t,s,c⟩:=u;exact Za (L:=aB (Sk m a b)) (i:=2) c l rfl rfl
 |5=>exact Kn (L:=aB (Sk m a b)) (i:=5) F6 EG gn5 o (BR 2 _ rfl) (fun t e=>by
   obtain rfl:=vf (gt5.symm.trans e);exact⟨by decide,wt5⟩) afO rfl
 |6=>exact So (L:=aB (Sk m a b)) (i:=6) rfl rfl r.1 r.2
 |7=>exact So (L:=aB (Sk m a b)) (i:=7) rfl rfl d.1 d.2
 |3=>exact G3 rfl rfl
 |4=>exact G3 rfl rfl
 |n+8=>exact G3 rfl rfl
set_option maxRecDepth 100000 in
theorem contract(H:Type)(enc:TypeId×Value->H)(W:World)(base:Nat)(a:Array Value)(ds x:List (DataW H))(o:List MemPlace)(i:∀(j:Nat)t v,Tryz.f3.params[j]?=some t->a[j]?=some v->Value.okWide Tryz.prog W .any base t v)(G:DataW.Whole enc Tryz.prog Tryz.f3.params.toList Rows.fnExactTeaReadSpec.vars false W a.toList ds x o)(u:(DataW.weightsEach Tryz.prog (Tryz.f3.params.toList++Rows.fnExactTeaReadSpec.vars.filterMap fun n=>(Tryz.prog.globalNamed n).bind fun g=>(Tryz.prog.globals[g]?).map (·.type)) (ds++x)).all (·<=reachBytes)=true)(A:laidMetH Tryz.prog Rows.fnExactTeaReadRow.laid W)(O:W.ShapedOpen Tryz.prog):
  Calls Tryz.prog 3 a W fun e I=> ∃v,e=.returned v/\Rows.fnExactTeaReadSpec.post enc Tryz.prog Tryz.f3 false true false false W a v I:=by
 have N:=G;obtain⟨p,q,S,Q,rfl,X,Z⟩:=G;have K:DataW.TrodAll enc Tryz.prog W 0 (fun _=>true) true Tryz.f3.params.toList a.toList ds p:=S;rw[Tryz.params3]at K i u;obtain⟨z,ee,d0,et,p0,q0,R,rfl,rfl,E,r0⟩:=trodAll_cons K;obtain⟨rfl,rfl,rfl⟩:=trodAll_nil r0;obtain rfl:a=#[z]:=by cases a;simp_all
 obtain⟨g1,c,_,_,_,_,p1,q1,rfl,-,-,-,-,D,-⟩:∃(d:DataW H)(ds:List (DataW H))(_:Nat)(_:Nat)(_:Nat)(_:Nat)(p q:List MemPlace),x=d::ds/\True/\True/\True/\True/\DataW.TrodVars enc Tryz.prog W (fun _=>true) ["loop.example/teagle/impl.opRows"] ds q/\True:=by
  match x,Q with
  |d::ds,⟨g,t,cs,f,p,q,h1,h2,h3,h4,L,e⟩=>exact⟨d,ds,0,0,0,0,p,q,rfl,trivial,trivial,trivial,trivial,L,trivial⟩
 obtain⟨g2,rfl⟩:∃(d:DataW H),c=[d]:=by
  match c,D with
  |[d],_=>exact⟨d,rfl⟩
  |d::d'::ds,⟨g,t,cs,f,p,q,h1,h2,h3,h4,L,e⟩=>exact L.elim
 obtain⟨n,E⟩:=E
 obtain⟨⟨r1,r2⟩,J⟩:=N8 (w:=W) Pc UO n 9 _ (d0,p0) (iE ..) (fun y hy=>by
  have:=kI.1 u y (by
   show y∈DataW.weightsEach Tryz.prog (9::_) (d0::_);unfold DataW.weightsEach;exact AD _ hy)
  exact of_decide_eq_true this) E
 obtain⟨U,r,C,eo⟩:=DataW.trod_string Tryz.underlying9 E
 have k:U.data.toList.length<=gJ:=by
  injection C with e1 e2;subst e1;have:=r2 0 _ (.string U) rfl (by rw[r];rfl);cases this with
  |str s hs=>exact hs
 obtain rfl:z=.string U:=by
  have ok:=i 0 9 z rfl rfl;unfold Value.okWide at ok;rw[Tryz.underlying9]at ok;cases z<;>simp[Value.cells,Cell.okWide,Cell.ok,Tryz.underlying9]at ok r
  rw[r]
 obtain⟨te,pe,ha⟩:=Sh (BU A) (BR 5 _ rfl) gn6 gt6 Tryz.underlying171;obtain⟨F,Y,T⟩:=Sh (BU A) (BR 4 _ rfl) gn7 gt7 Tryz.underlying171;obtain⟨m,hm,hM⟩:=acC O (cb gsz) gm0 rfl gm1 gm2 Tryz.underlying3;have hr:=ad5 (aiM A hm hM ha T);have l:=Z2 (Sk m (.iface te pe) (.iface F Y)) rfl rfl rfl rfl rfl rfl (.inr ⟨_,_,rfl⟩) (.inr ⟨_,_,rfl⟩) k (M:=xp W) hr;refine l.mono fun e I h=>?_
 obtain⟨v,rfl,rfl,P⟩:=h;have V:∀b,b<W.heap.size->I.heap[b]?=W.heap[b]?:=fun b T=>P.frame b T (Nat.not_le_of_lt T)
 exact⟨_,rfl,aap kids full aiL (fun t B=>by
   rw[Tryz.params3]at B;simp at B;subst B;exact Nat.lt_trans de (cb types_size)) N (fun _ _ _=>trodAll_cons_mk (shut_bool Tryz.underlying4 _) trodAll_mk0) rfl rfl P.mv.os P.mv.output V (ok_one krf rfl (okWide_bool_mk Tryz.underlying4 _))⟩
mutual
def Xq:DataW Unit->List Value
 | .lit (.bool b)=>[.bool b]
 | .lit (.int k n)=>[.int k n]
 | .lit (.string s)=>[.string ⟨s.toArray⟩]
 | .agg e=>RZ e
 |_=>[]
def RZ:List (DataW Unit)->List Value
 |[]=>[]
 |d::r=>Xq d++RZ r
end
def lay(d:DataW Unit):Obj->Obj
 | .cells _ t frozen=> .cells (Xq d).toArray t frozen
 |o=>o
def aih(n:Nat):Obj->Obj
 | .cells _ t frozen=> .cells #[.iface 251 (.pointer (some ⟨n,0,none⟩))] t frozen
 |o=>o
def Ep(e:Os):World:=
 {World.holding Tryz.prog e ⟨#[],#[],[]⟩with heap:=((((((((((World.holding Tryz.prog e ⟨#[],#[],[]⟩).heap.modify 0 (lay Rows.laid_loop_example_teagle_impl_eventWords)).modify 4 (lay Rows.laid_loop_example_teagle_impl_opRows)).modify 7 (lay Rows.laid_internal_strconv_uint64pow10)).modify 8 (lay Rows.laid_math_bits_deBruijn32tab)).modify 9 (lay Rows.laid_math_bits_deBruijn64tab)).modify 2 (lay Rows.laid_unicode_utf8_first)).modify 3 (lay Rows.laid_unicode_utf8_acceptRanges)).modify 5 (aih (World.holding Tryz.prog e ⟨#[],#[],[]⟩).heap.size)).modify 6 (aih ((World.holding Tryz.prog e ⟨#[],#[],[]⟩).heap.size+1)))++#[.cells #[.string ⟨#[105,110,118,97,108,105,100,32,115,121,110,116,97,120]⟩] 253 (0,0),.cells #[.string ⟨#[118,97,108,117,101,32,111,117,116,32,111,102,32,114,97,110,103,101]⟩] 253 (0,0)]}
def Q5:Array Value:=#[.string ⟨#[]⟩]
set_option maxRecDepth 100000 in
theorem ZZ(e:Os):laidMet Tryz.prog Rows.fnExactTeaReadRow.laid ((Ep e).forCall (fun _ _=>0) ⟨#[],Q5,[]⟩).memory:=
 laidMet_of_run' 8 krf krf
set_option maxRecDepth 100000 in
theorem reads(t:Os){H:Type}(enc:TypeId×Value->H):∃e,DataW.whole enc Tryz.prog ((Ep t).forCall (fun _ _=>0) ⟨#[],Q5,[]⟩).memory Tryz.f3.params.toList Rows.fnExactTeaReadSpec.vars false Q5.toList 8=some ([.lit (.string [])],[Rows.laid_loop_example_teagle_impl_eventWords,Rows.laid_loop_example_teagle_impl_opRows],e):=
 ⟨MemPlace.row ⟨0,0,none⟩ 8++MemPlace.row ⟨4,0,none⟩ 78,by kernel_rfl⟩
theorem own:ownKnob Tryz.prog.godebug=none:=by kernel_rfl
set_option maxRecDepth 100000 in
theorem lifted(a:Os)(e:a.Started)(H:Type)(enc:TypeId×Value->H)(F:Stop.Interp):
  ReturnsInHanded {} Tryz.checked a 3 .any ((OpenSpec.ofChange Rows.fnExactTeaReadSpec).preRow enc Tryz.prog Tryz.f3 Rows.fnExactTeaReadRow.domain false Rows.fnExactTeaReadRow.laid) (((OpenSpec.ofChange Rows.fnExactTeaReadSpec).at F).post enc Tryz.prog Tryz.f3 false true false false):=by
 obtain⟨n,d⟩:=reads a enc
 refine returnsInHanded_of_row (C:=Tryz.checked) (s:=OpenSpec.ofChange Rows.fnExactTeaReadSpec) own e krf Tryz.func3
  (witness_row_at (enc:=enc) (C:=Tryz.checked) false (Ep a) Q5 rfl krf krf krf
   (OpenSpec.preRow_of_cond 8 d krf (fun k l=>by cases l) krf (ZZ a))) ?_
 intro W base o ds u t i c _ _ h m r _;exact contract H enc W base o ds u t i c h m r
theorem said:Rows.FnExactTeaReadSaid:=
 OpenClaim.holds_of_cond 3 Tryz.f3 rfl rfl rfl rfl rfl rfl rfl ⟨rfl,rfl,rfl,rfl,rfl⟩ rfl rfl rfl rfl rfl krf Tryz.func3 krf
  (of_decide_eq_true krf) (by unfold Func.isWrapper;first|(rw[if_pos (by decide+kernel)];kernel_rfl)|(rw[if_neg (by decide+kernel)];exact⟨rfl,rfl⟩))
  (fun a e H t _ F=>by rw[OpenClaim.pre_eq_preRow];exact lifted a e H t F)
theorem plain(f:FuncId)(fn:Func)(o:Tryz.pinned.checked.prog.funcNamed "loop.example/teagle/laws.FnExactTeaRead"=some f)(e:Tryz.pinned.checked.prog.funcs[f]?=some fn):
  true=Tryz.pinned.checked.prog.looks []/\∀(j:Nat)t,fn.params[j]?=some t->Tryz.pinned.checked.prog.wantsStandIn t=false:=by
 obtain rfl:f=3:=vf ((show Tryz.prog.funcNamed "loop.example/teagle/laws.FnExactTeaRead"=some 3 by kernel_rfl).symm.trans o)|>.symm
 obtain rfl:fn=Tryz.f3:=(vf (Tryz.func3.symm.trans e)).symm;refine⟨by kernel_rfl,fun j t a=>?_⟩;rw[Tryz.params3]at a;obtain rfl:t=9:=by simpa using Array.mem_of_getElem? a
 exact(show Tryz.prog.wantsStandIn 9=false by kernel_rfl)
theorem card:Rows.FnExactTeaReadCardSaid:=
 Claim7.holds_tied_plain_at .later [] _ _ _ _ said (fun _ h=>by cases h) krf (fun _ h=>by cases h) fnExactTeaRead_row_tie rfl ⟨rfl,rfl⟩ krf rfl plain krf
end Go.Proofs.YtdcndpbmgpcgmaaGreatDoor.teaRead
