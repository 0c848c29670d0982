/- Parts. -/
import Derived.Test.YtfbkameikhgciaaGreatDoorMh04
import Derived.Test.YtfbkameikhgciaaGreatDoorMh06
import Derived.Test.YtfbkameikhgciaaGreatDoorMh07
set_option linter.all false
set_option maxRecDepth 20000
set_option maxHeartbeats 8000000
open Go.RowKit.Below renaming refl → KS
open Go.Lib renaming hid → Q1
open List renaming range → Q2, getElem?_eq_getElem → K2, length_append → Vx, all_eq_true → q5, getElem_mem → q9, take_succ_eq_append_getElem → kI, length_nil → kv, getElem_cons_zero → ky, take_length → k9, getElem_toArray → vv, setIfInBounds_toArray → v4, set_cons_zero → v5, set_cons_succ → j1, mem_range → j2, length_take → yB, map_append → y5, mem_of_find?_eq_some → y6, length_map → y7, mem_cons → y8, not_mem_nil → y9
open Nat renaming le_refl → K0, lt_of_lt_of_le → K1, le_trans → Wb, zero_le → q7, add_zero → kx, zero_mul → j8, min_eq_left → yA, pow_le_pow_right → y3, mod_eq_of_lt → y4
open Go.RowKit renaming intOf → Vy
open UInt8 renaming ofNat → KL
open Go.World renaming cell? → q6, block_lt_of_cell? → q8
section
namespace Go.PH
open Go.RowKit Go.Proofs Go.ChangeShapes Go.WideShapes Go.ChangeAt Go.Deep
structure Ag where
 is:Bool
 n:Nat
 s:List UInt8
 x:Xd
 q:List Sp
 v:Vl
structure AH where
 A:Option Addr
 c:Nat
 h:VH
def agC(p:Ag×AH):List Value:=[.bool p.1.is,.int .u64 (p.1.n:Int),.string (str p.1.s),.int .u32 (p.1.x.fmt:Int),.string (str p.1.x.glob),.string (str p.1.x.bran),.slice p.2.A p.1.q.length p.2.c,
 .int .u8 (p.1.v.kind:Int),.int .u64 (p.1.v.n:Int),.string (str p.1.v.s),.slice p.2.h.A1 p.1.v.keys.length p.2.h.c1,.slice p.2.h.A2 p.1.v.list.length p.2.h.c2]
def agV(a:Ag)(h:AH):Array Value:=#[.bool a.is,.int .u64 (a.n:Int),.string (str a.s),.int .u32 (a.x.fmt:Int),.string (str a.x.glob),.string (str a.x.bran),.slice h.A a.q.length h.c,
 .int .u8 (a.v.kind:Int),.int .u64 (a.v.n:Int),.string (str a.v.s),.slice h.h.A1 a.v.keys.length h.h.c1,.slice h.h.A2 a.v.list.length h.h.c2]
theorem Qm:RecShape agC 12 where
 len _:=rfl
 one a u hu:=by simp[agC]at hu;rcases hu with rfl|rfl|rfl|rfl|rfl|rfl|rfl|rfl|rfl|rfl|rfl|rfl<;>rfl
 pos:=by omega
structure RA(w:World)(F:Nat→Prop)(a:Ag)(h:AH):Prop where
 n:a.n<18446744073709551616
 s:a.s.length≤140737488351232
 x:a.x.wf
 q:RdX w F 2 h.A a.q.length h.c (yx a.q)
 ok:spOK 4294967296 a.q
 c:a.q.length≤140737488351232
 v:RV w F a.v h.h
theorem RA.keep{w w':World}{F:Nat→Prop}{a:Ag}{h:AH}(ha:RA w F a h)(hk:∀g,F g→w'.heap[g]?=w.heap[g]?)(hs:w.heap.size≤w'.heap.size):RA w' F a h:=⟨ha.n,ha.s,ha.x,ha.q.keep hk hs,ha.ok,ha.c,ha.v.keep hk hs⟩
theorem RA.mono{w:World}{F G:Nat→Prop}{a:Ag}{h:AH}(ha:RA w F a h)(hF:∀g,F g→G g):RA w G a h:=⟨ha.n,ha.s,ha.x,ha.q.mono hF,ha.ok,ha.c,ha.v.mono hF⟩
abbrev RAw(w:World)(a:Ag)(h:AH):Prop:=RA w (fun g=>g<w.heap.size) a h
theorem RA.up{w w':World}{a:Ag}{h:AH}(ha:RAw w a h)(hB:Below w.heap.size w w'):RAw w' a h:=(ha.keep (fun g hg=>hB.block g hg) hB.size).mono (fun g hg=>K1 hg hB.size)
structure Mt where
 cls:Nat
 code:Nat
 sync:Bool
 args:List Ag
structure RM(w:World)(F:Nat→Prop)(m:Mt)(A:Option Addr)(c:Nat):Prop where
 cls:m.cls<256
 code:m.code<256
 row:∃xs:List (Ag×AH),xs.map (·.1)=m.args∧RdX w F 12 A m.args.length c (rowC agC xs)∧∀p∈xs,RA w F p.1 p.2
 c:m.args.length≤140737488351232
def mtV(m:Mt)(A:Option Addr)(c:Nat):Array Value:=#[.int .u8 (m.cls:Int),.int .u8 (m.code:Int),.bool m.sync,.slice A m.args.length c]
theorem RM.keep{w w':World}{F:Nat→Prop}{m:Mt}{A:Option Addr}{c:Nat}(hm:RM w F m A c)(hk:∀g,F g→w'.heap[g]?=w.heap[g]?)(hs:w.heap.size≤w'.heap.size):RM w' F m A c:=by
 obtain⟨h1,h2,⟨xs,e,h3,h4⟩,h5⟩:=hm;exact⟨h1,h2,⟨xs,e,h3.keep hk hs,fun p hp=>(h4 p hp).keep hk hs⟩,h5⟩
theorem RM.mono{w:World}{F G:Nat→Prop}{m:Mt}{A:Option Addr}{c:Nat}(hm:RM w F m A c)(hF:∀g,F g→G g):RM w G m A c:=by
 obtain⟨h1,h2,⟨xs,e,h3,h4⟩,h5⟩:=hm;exact⟨h1,h2,⟨xs,e,h3.mono hF,fun p hp=>(h4 p hp).mono hF⟩,h5⟩
abbrev RMw(w:World)(m:Mt)(A:Option Addr)(c:Nat):Prop:=RM w (fun g=>g<w.heap.size) m A c
theorem RM.up{w w':World}{m:Mt}{A:Option Addr}{c:Nat}(hm:RMw w m A c)(hB:Below w.heap.size w w'):RMw w' m A c:=(hm.keep (fun g hg=>hB.block g hg) hB.size).mono (fun g hg=>K1 hg hB.size)
theorem RM.elem{w:World}{m:Mt}{A:Option Addr}{c:Nat}(hm:RMw w m A c){i:Nat}(hi:i<m.args.length):∃b off hx,A=some ⟨b,off,none⟩∧RAw w m.args[i] hx∧∀W,Below w.heap.size w W→∀j u,(agC (m.args[i],hx))[j]?=some u→W.cell? ⟨b,off+i*12+j,none⟩=some u:=by
 obtain⟨_,_,⟨xs,e,h1,h2⟩,_⟩:=hm;obtain⟨b,off,hA,hb,hl,hc⟩:=qm Qm h1.1 hi;have pO:xs[i]∈xs:=q9 hl
 have hx:xs[i].1=m.args[i]:=by
  have:(xs.map (·.1))[i]'zAg=m.args[i]:=by simp only[e]
  simpa using this
 refine⟨b,off,xs[i].2,hA,hx▸h2 _ pO,fun W hW=>?_⟩;rw[←hx];exact fun j u hu=>(hW.cell hb).trans (hc j u hu)
section
variable {H : Type} {enc : TypeId × Value → H} {W : World}
end
end Go.PH
end
namespace Go.PH
open Go.RowKit Go.Proofs Go.Proofs.Tryz
variable {is : Bool} {B lb n rc rn s st : Nat} {F T U : Nat → Prop} {fv : Value} {w w' : World}
def zw(a b:Ag):Bool:=decide (a.is=b.is)&&decide (a.n=b.n)&&decide (a.s=b.s)&&decide (a.x=b.x)&&decide (a.q=b.q)&&yJ a.v b.v
theorem zL(a b:Ag):zw a b=true↔a=b:=by
 obtain⟨a1,a2,a3,a4,a5,a6⟩:=a;obtain⟨b1,b2,b3,b4,b5,b6⟩:=b;unfold zw;simp only[Bool.and_eq_true,decide_eq_true_eq,jY,Ag.mk.injEq];constructor
 ·rintro⟨⟨⟨⟨⟨a,b⟩,c⟩,d⟩,e⟩,f⟩;exact⟨a,b,c,d,e,f⟩
 rintro⟨a,b,c,d,e,f⟩;exact⟨⟨⟨⟨⟨a,b⟩,c⟩,d⟩,e⟩,f⟩
theorem JQ(A:Option Addr)(n c:Nat)(l:List Sp)(A':Option Addr)(n' c':Nat)(l':List Sp)(B:Nat)(w:World)(hr:RdS w B A n c l)(oc:RdS w B A' n' c' l')(hB:B≤w.heap.size)(hn:n≤140737488355328)(Ff:n'≤140737488355328):
  Calls prog 125 #[.slice A n c,.slice A' n' c'] w fun e w'=>e= .returned (.bool (decide (l=l')))∧Below w.heap.size w w':=by
 have hl:=hr.length;have lf:=oc.length;by_cases dg:n=n'
 ·subst dg;have h0:(((n:Nat):Int)!=((n:Nat):Int))=false:=by simp
  go_enter func125,ntmps125;go_wp2_with(with_reducible refine h_A ?_);go_loopw [13] (fun s wr=>∃(k:Nat),k≤n∧s= .int .i64 k∧l.take k=l'.take k∧Below w.heap.size w wr) (fun s _=>n-(Vy s).toNat)
  case atStart=>exact⟨0,by omega,rfl,by simp,KS _ _⟩
  obtain⟨k,hk,rfl,iY,bO⟩:=hrel;by_cases hlt:k<n
  ·obtain⟨b,off,rfl,dP,bK,ik,ck⟩:=RdS.at_k (hr.below (bO.mono hB)) hlt;obtain⟨b',off',rfl,WG,DU,W7,Re⟩:=RdS.at_k (oc.below (bO.mono hB)) hlt;have HT:=Q1 (kI bK);have IM:=Q1 (kI DU);have HE:Hid (l=l'→l[k]=l'[k]):=Q1 (fun h=>by subst h;rfl);have HK:=Q1 iY;clear iY;generalize l[k]=x at*;generalize l'[k]=x' at*;obtain⟨f,t⟩:=x;obtain⟨f',t'⟩:=x';(have nk:=fun x y=>run_eqGuard_agg (P:=prog) wr .neq 208 x y #[.int .u32 f,.int .u32 t] #[.int .u32 f',.int .u32 t'] JS);by_cases GE:(f,t)=(f',t')
   ·(have hne:∀w,(binOp .neq 208 (.agg #[.int .u32 f,.int .u32 t]) (.agg #[.int .u32 f',.int .u32 t'])).run prog w= .ok (.bool false) w:=fun w=>by rw[Q9,decide_eq_true GE];rfl);(have hy:l.take (k+1)=l'.take (k+1):=by rw[HT.out,IM.out,HK.out,GE]);clear GE;go_wp2_with(with_reducible refine h_A ?_);go_quiet(fail);go_wp2_with(with_reducible refine h_A ?_);exact⟨⟨k+1,by omega,by go_num,hy,za bO _⟩,by simp[Vy];omega⟩
   have hne:∀w,(binOp .neq 208 (.agg #[.int .u32 f,.int .u32 t]) (.agg #[.int .u32 f',.int .u32 t'])).run prog w= .ok (.bool true) w:=fun w=>by rw[Q9,decide_eq_false GE];rfl
   have BN:decide (l=l')=false:=by
    have:=HE.out;simp only[decide_eq_false_iff_not];exact fun h=>GE (this h)
   clear GE;go_wp2_with(with_reducible refine h_A ?_);go_quiet(fail);go_wp2_with(with_reducible refine h_A ?_);go_ret;rw[BN];exact⟨rfl,za bO _⟩
  obtain rfl:k=n:=by omega
  rw[←hl,k9,hl,←lf,k9]at iY;subst iY;go_wp2_with(with_reducible refine h_A ?_);go_ret;exact⟨by simp,bO⟩
 have h0:(((n:Nat):Int)!=((n':Nat):Int))=true:=by simp;omega
 have hne:decide (l=l')=false:=by
  simp;rintro rfl;omega
 go_enter func125,ntmps125;go_wp2_with(with_reducible refine h_A ?_);go_ret;rw[hne];exact⟨rfl,KS _ _⟩
theorem xI(a b:Ag)(h k:AH)(w:World)(ha:RAw w a h)(hb:RAw w b k):Calls prog 106 #[.agg (agV a h),.agg (agV b k)] w fun e w'=>e= .returned (.bool (zw a b))∧Below w.heap.size w w':=by
 unfold agV;obtain⟨xb,w1,Hg,Hi,hX,Ha⟩:=zg w #[.bool a.is,.int .u64 (a.n:Int),.string (str a.s),.int .u32 (a.x.fmt:Int),.string (str a.x.glob),.string (str a.x.bran),.slice h.A a.q.length h.c,.int .u8 (a.v.kind:Int),.int .u64 (a.v.n:Int),.string (str a.v.s),.slice h.h.A1 a.v.keys.length h.h.c1,.slice h.h.A2 a.v.list.length h.h.c2] 80;obtain⟨yb,w2,iD,dE,hY,Hc⟩:=zg w1 #[.bool b.is,.int .u64 (b.n:Int),.string (str b.s),.int .u32 (b.x.fmt:Int),.string (str b.x.glob),.string (str b.x.bran),.slice k.A b.q.length k.c,.int .u8 (b.v.kind:Int),.int .u64 (b.v.n:Int),.string (str b.v.s),.slice k.h.A1 b.v.keys.length k.h.c1,.slice k.h.A2 b.v.list.length k.h.c2] 80;have BU:xb+1=yb:=by rw[iD,Hi,Hg];simp
 have hB:=Ha.trans (Hc.mono Ha.size);have Hk:=hX.below Hc;have db:=ha.up hB;have bE:=hb.up hB;have c_0:=Hk.c0;have c_1:=Hk.c1;have c_2:=Hk.c2;have c_3:=Hk.c3;have c_4:=Hk.c4;have c_5:=Hk.c5;have c_6:=Hk.c6;have c_7:=Hk.c7;have c_8:=Hk.c8;have c_9:=Hk.c9;have c_10:=Hk.c10;have c_11:=Hk.c11;have d_0:=hY.c0;have d_1:=hY.c1;have d_2:=hY.c2;have d_3:=hY.c3;have d_4:=hY.c4;have d_5:=hY.c5;have d_6:=hY.c6;have d_7:=hY.c7;have d_8:=hY.c8;have d_9:=hY.c9;have d_10:=hY.c10;have d_11:=hY.c11;have bR:=jZ a.s b.s;have dG:((str a.s).toList !=(str b.s).toList)= !decide (a.s=b.s):=by rw[bne,jZ]
 have r9:=fun w=>zaS a.x b.x w
 unfold xdV at r9;have nk:=fun x y=>run_eqGuard_agg (P:=prog) w2 .eql 73 x y #[.int .u32 (a.x.fmt:Int),.string (str a.x.glob),.string (str a.x.bran)] #[.int .u32 (b.x.fmt:Int),.string (str b.x.glob),.string (str b.x.bran)] yw
 have wW:=JQ h.A a.q.length h.c a.q k.A b.q.length k.c b.q w2.heap.size w2 db.q.1 bE.q.1 (K0 _) (by have:=db.c;omega) (by have:=bE.c;omega);have cO:=fun(W:World) (hW:Below w2.heap.size w2 W)=>K6 a.v b.v h.h k.h W (db.v.up hW) (bE.v.up hW)
 have HS:Hid (zw a b=(decide (a.is=b.is)&&decide (a.n=b.n)&&decide (a.s=b.s)&&decide (a.x=b.x)&&decide (a.q=b.q)&&yJ a.v b.v)):=Q1 rfl;unfold vlV jI at cO;clear iD hX ha hb db bE Ha Hc;by_cases h1:a.is=b.is
 ·have g1:(a.is==b.is)=true:=by simp[h1]
  by_cases h2:a.n=b.n
  ·(have g2:((a.n:Int)==(b.n:Int))=true:=by simp[h2]);by_cases h3:a.s=b.s
   ·rw[decide_eq_true h3]at bR dG;simp only[Bool.not_true]at dG;by_cases h4:a.x=b.x
    ·simp only[decide_eq_true h4]at r9;by_cases h5:a.q=b.q
     ·exact Z1p_
     have qq90:=();exact Z1p_
    have qqdi:=();exact Z34_
   exact Z34_
  have qqdj:=();exact Z34_
 have qqdk:=();exact Z34_
section
theorem RA.under{a:Ag}{h:AH}(ha:RA w (fun g=>g<B) a h)(hB:Below B w w'):RA w' (fun g=>g<B) a h:=ha.keep (fun g hg=>hB.block g hg) hB.size
def xd0:Xd:=⟨0,[],[]⟩
def ag0(is:Bool):Ag:=⟨is,0,[],xd0,[],vl0⟩
def ah0:AH:=⟨none,0,⟨none,0,none,0⟩⟩
theorem RA.zero(w:World)(F:Nat→Prop)(is:Bool):RA w F (ag0 is) ah0:=⟨(by show(0:Nat)<_;decide),q7 _,⟨(by show(0:Nat)<_;decide),q7 _,q7 _⟩,RdX.nil _ _ _ _ _ (q7 _),(fun a ha=>absurd ha (by show ¬a∈([]:List Sp);simp)),q7 _,RV.zero _ _⟩
def agN(a:Ag):Ag:=⟨true,a.n,[],xd0,[],vl0⟩
def agS(a:Ag):Ag:=⟨true,0,a.s,xd0,[],vl0⟩
def agX(a:Ag):Ag:=⟨true,0,[],a.x,[],vl0⟩
def agQ(a:Ag):Ag:=⟨true,0,[],xd0,a.q,vl0⟩
def agX2(a:Ag):Ag:=⟨true,0,[],xd0,[],a.v⟩
def ahQ(h:AH):AH:=⟨h.A,h.c,⟨none,0,none,0⟩⟩
def ahV(h:AH):AH:=⟨none,0,h.h⟩
section
variable {w : World} {F : Nat → Prop} {a : Ag} {h : AH}
theorem RA.ofN(ha:RA w F a h):RA w F (agN a) ah0:=⟨ha.n,(RA.zero w F true).s,(RA.zero w F true).x,(RA.zero w F true).q,(RA.zero w F true).ok,(RA.zero w F true).c,(RA.zero w F true).v⟩
theorem RA.ofS(ha:RA w F a h):RA w F (agS a) ah0:=⟨(RA.zero w F true).n,ha.s,(RA.zero w F true).x,(RA.zero w F true).q,(RA.zero w F true).ok,(RA.zero w F true).c,(RA.zero w F true).v⟩
theorem RA.ofX(ha:RA w F a h):RA w F (agX a) ah0:=⟨(RA.zero w F true).n,(RA.zero w F true).s,ha.x,(RA.zero w F true).q,(RA.zero w F true).ok,(RA.zero w F true).c,(RA.zero w F true).v⟩
theorem RA.ofQ(ha:RA w F a h):RA w F (agQ a) (ahQ h):=⟨(RA.zero w F true).n,(RA.zero w F true).s,(RA.zero w F true).x,ha.q,ha.ok,ha.c,(RA.zero w F true).v⟩
theorem RA.ofV(ha:RA w F a h):RA w F (agX2 a) (ahV h):=⟨(RA.zero w F true).n,(RA.zero w F true).s,(RA.zero w F true).x,(RA.zero w F true).q,(RA.zero w F true).ok,(RA.zero w F true).c,ha.v⟩
end
theorem Zz(s:List UInt8):(zP [] s 1).length≤2000000:=by
 by_cases h:zE s.length 1=0
 ·have hs:s.length<256:=by
   unfold zE at h;simp at h;exact h
  rw[yS h];simp only[Vx,zr,kv];show 0+1+s.length≤_
  omega
 rw[yQ h];simp
theorem ZA(s:List UInt8):(zP [] s 2).length≤2000000:=by
 by_cases h:zE s.length 2=0
 ·have hs:s.length<65536:=by
   unfold zE at h;simp at h;exact h
  rw[yS h];simp only[Vx,zr,kv];show 0+2+s.length≤_
  omega
 rw[yQ h];simp
theorem ZB(x:Xd):x.put.length≤2000000:=by
 cases h:x.ok
 ·rw[Xd.put_no h];simp
 rw[Xd.put_ok h,Xd.bytes_length];have:=(Xd.ok_iff x).1 h;omega
theorem ZC(l:List Sp):(yL l).length≤2000000:=by
 unfold yL;split
 ·simp only[Vx,zr,ZN];omega
 simp
theorem Xq(v:Vl):(vlP v).length≤2000000:=by
 unfold vlP;split
 ·rename_i h
  obtain⟨hc,hm⟩:=j0 h;have:=ZH 200 hm hc;omega
 simp
def PutG(w:World)(base:Nat)(row:Option Nat)(ok:Bool)(l:List UInt8)(e:Ending)(w':World):Prop:=∃A2 n2 c2,e= .returned (.tuple #[.slice A2 n2 c2,.bool ok])∧Below base w w'∧KB w w' row∧(ok=true→n2=l.length∧OwnB w' base A2 n2 c2 l)
theorem zc9(a:Ag)(h:AH)(base:Nat)(A:Option Addr)(n c:Nat)(l:List UInt8)(w:World)(Hl:OwnB w base A n c l)(Hf:base≤w.heap.size)(hn:n≤100000000)(ha:RA w (fun g=>g<base) a h):
  Calls prog 71 #[.slice A n c,.int .u8 98,.agg (agV a h)] w (PutG w base (blk A) (zw a (ag0 a.is)) (l++ [])):=by
 have qq32:=();exact Zf_
theorem zbT(a:Ag)(h:AH)(base:Nat)(A:Option Addr)(n c:Nat)(l:List UInt8)(w:World)(Hl:OwnB w base A n c l)(Hf:base≤w.heap.size)(hn:n≤100000000)(ha:RA w (fun g=>g<base) a h):
  Calls prog 71 #[.slice A n c,.int .u8 115,.agg (agV a h)] w (PutG w base (blk A) (decide (zE a.s.length 1=0)&&zw a (agS a)) (l++zP [] a.s 1)):=by
 have qq2y:=();exact Zf_
theorem zbU(a:Ag)(h:AH)(base:Nat)(A:Option Addr)(n c:Nat)(l:List UInt8)(w:World)(Hl:OwnB w base A n c l)(Hf:base≤w.heap.size)(hn:n≤100000000)(ha:RA w (fun g=>g<base) a h):
  Calls prog 71 #[.slice A n c,.int .u8 116,.agg (agV a h)] w (PutG w base (blk A) (decide (zE a.s.length 2=0)&&zw a (agS a)) (l++zP [] a.s 2)):=by
 have qq2z:=();exact Zf_
theorem zda(a:Ag)(h:AH)(base:Nat)(A:Option Addr)(n c:Nat)(l:List UInt8)(w:World)(Hl:OwnB w base A n c l)(Hf:base≤w.heap.size)(hn:n≤100000000)(ha:RA w (fun g=>g<base) a h):
  Calls prog 71 #[.slice A n c,.int .u8 120,.agg (agV a h)] w (PutG w base (blk A) (decide (((a.x.err:Nat):Int)=0)&&zw a (agX a)) (l++a.x.put)):=by
 have qq31:=();exact Zf_
theorem zdb(a:Ag)(h:AH)(base:Nat)(A:Option Addr)(n c:Nat)(l:List UInt8)(w:World)(Hl:OwnB w base A n c l)(Hf:base≤w.heap.size)(hn:n≤100000000)(ha:RA w (fun g=>g<base) a h):
  Calls prog 71 #[.slice A n c,.int .u8 114,.agg (agV a h)] w (PutG w base (blk A) (decide (((yf a.q:Nat):Int)=0)&&zw a (agQ a)) (l++yL a.q)):=by
 have qq30:=();exact Zf_
theorem zdc(a:Ag)(h:AH)(base:Nat)(A:Option Addr)(n c:Nat)(l:List UInt8)(w:World)(Hl:OwnB w base A n c l)(Hf:base≤w.heap.size)(hn:n≤100000000)(ha:RA w (fun g=>g<base) a h)(hT:UTabs w):
  Calls prog 71 #[.slice A n c,.int .u8 118,.agg (agV a h)] w (PutG w base (blk A) (decide (errV a.v=0)&&zw a (agX2 a)) (l++vlP a.v)):=by
 exact Zf_
theorem zdd(a:Ag)(h:AH)(base:Nat)(A:Option Addr)(n c:Nat)(l:List UInt8)(w:World)(Hl:OwnB w base A n c l)(Hf:base≤w.heap.size)(hn:n≤100000000)(ha:RA w (fun g=>g<base) a h)(hv:a.n<256):
  Calls prog 71 #[.slice A n c,.int .u8 110,.agg (agV a h)] w (PutG w base (blk A) (zw a (agN a)) (l++be 1 a.n)):=by
 exact Z9_
theorem KW(a:Ag)(h:AH)(base:Nat)(A:Option Addr)(n c:Nat)(l:List UInt8)(w:World)(Hl:OwnB w base A n c l)(Hf:base≤w.heap.size)(hn:n≤100000000)(ha:RA w (fun g=>g<base) a h)(hv:256≤a.n):
  Calls prog 71 #[.slice A n c,.int .u8 110,.agg (agV a h)] w (PutG w base (blk A) false (l++be 1 a.n)):=by
 exact Zq_
theorem zbV(a:Ag)(h:AH)(base:Nat)(A:Option Addr)(n c:Nat)(l:List UInt8)(w:World)(Hl:OwnB w base A n c l)(Hf:base≤w.heap.size)(hn:n≤100000000)(ha:RA w (fun g=>g<base) a h)(hv:a.n<65536):
  Calls prog 71 #[.slice A n c,.int .u8 119,.agg (agV a h)] w (PutG w base (blk A) (zw a (agN a)) (l++be 2 a.n)):=by
 have qq2b:=();exact Z9_
theorem Xr(a:Ag)(h:AH)(base:Nat)(A:Option Addr)(n c:Nat)(l:List UInt8)(w:World)(Hl:OwnB w base A n c l)(Hf:base≤w.heap.size)(hn:n≤100000000)(ha:RA w (fun g=>g<base) a h)(hv:65536≤a.n):
  Calls prog 71 #[.slice A n c,.int .u8 119,.agg (agV a h)] w (PutG w base (blk A) false (l++be 2 a.n)):=by
 have qq4g:=();exact Zq_
theorem zde(a:Ag)(h:AH)(base:Nat)(A:Option Addr)(n c:Nat)(l:List UInt8)(w:World)(Hl:OwnB w base A n c l)(Hf:base≤w.heap.size)(hn:n≤100000000)(ha:RA w (fun g=>g<base) a h)(hv:a.n<4294967296):
  Calls prog 71 #[.slice A n c,.int .u8 100,.agg (agV a h)] w (PutG w base (blk A) (zw a (agN a)) (l++be 4 a.n)):=by
 have qq2c:=();exact Z9_
theorem KX(a:Ag)(h:AH)(base:Nat)(A:Option Addr)(n c:Nat)(l:List UInt8)(w:World)(Hl:OwnB w base A n c l)(Hf:base≤w.heap.size)(hn:n≤100000000)(ha:RA w (fun g=>g<base) a h)(hv:4294967296≤a.n):
  Calls prog 71 #[.slice A n c,.int .u8 100,.agg (agV a h)] w (PutG w base (blk A) false (l++be 4 a.n)):=by
 have qq4h:=();exact Zq_
def okA(kd:UInt8)(a:Ag):Bool:=
 if kd=98 then zw a (ag0 a.is)else if kd=110 then decide (a.n<256)&&zw a (agN a)else if kd=119 then decide (a.n<65536)&&zw a (agN a)else if kd=100 then decide (a.n<4294967296)&&zw a (agN a)
 else if kd=115 then decide (zE a.s.length 1=0)&&zw a (agS a)else if kd=116 then decide (zE a.s.length 2=0)&&zw a (agS a)
 else if kd=120 then decide (((a.x.err:Nat):Int)=0)&&zw a (agX a)else if kd=114 then decide (((yf a.q:Nat):Int)=0)&&zw a (agQ a)else decide (errV a.v=0)&&zw a (agX2 a)
def byA(kd:UInt8)(a:Ag):List UInt8:=
 if kd=98 then []else if kd=110 then be 1 a.n else if kd=119 then be 2 a.n else if kd=100 then be 4 a.n
 else if kd=115 then zP [] a.s 1 else if kd=116 then zP [] a.s 2
 else if kd=120 then a.x.put else if kd=114 then yL a.q else vlP a.v
def jX:List UInt8:=[98,110,119,100,115,116,120,114,118]
theorem ZD(kd:UInt8)(a:Ag):(byA kd a).length≤2000000:=by
 unfold byA;repeat' split
 all_goals first|exact Zz _|exact ZA _|exact ZB _|exact ZC _|exact Xq _|(rw[zr];omega)|simp
theorem zaY(kd:UInt8)(hk:kd∈jX)(a:Ag)(h:AH)(base:Nat)(A:Option Addr)(n c:Nat)(l:List UInt8)(w:World)(Hl:OwnB w base A n c l)(Hf:base≤w.heap.size)(hn:n≤100000000)(ha:RA w (fun g=>g<base) a h)(hT:UTabs w):
  Calls prog 71 #[.slice A n c,.int .u8 (kd.toNat:Int),.agg (agV a h)] w (PutG w base (blk A) (okA kd a) (l++byA kd a)):=by
 exact Z1t_
end
def toSA(a:Ag):SA:=⟨a.is,0,[]⟩
theorem zdJ(cls code:Nat)(sync:Bool)(L:List Ag)(kd:List UInt8)(pm:Nat→List UInt8)(okf:Nat→Bool)(A:Option Addr)(n c:Nat)(w:World)(he:MEnv w)
  (BF:∀(i:Nat) (hi:i<L.length),∃b off hx,A=some ⟨b,off,none⟩∧RAw w L[i] hx∧∀W,Below w.heap.size w W→∀j u,(agC (L[i],hx))[j]?=some u→W.cell? ⟨b,off+i*12+j,none⟩=some u) (hnL:n=L.length)
  (hk:yv (yp cls code)=kd) (hf:(yp cls code).isSome=true) (hn:n=kd.length) (py:n≤7) (pE:sync=true→¬cls≤2) (hc:cls<256) (te:code<256) (ek:∀i,i<n→(pm i).length≤2000000)
  (Lf:∀i (h:i<L.length) (h':i<kd.length) (hx:AH) (base:Nat) (W:World) (A':Option Addr) (n' c':Nat) (l:List UInt8),OwnB W base A' n' c' l→base≤W.heap.size→n'≤100000000→RA W (fun g=>g<base) L[i] hx→Below w.heap.size w W→Calls prog 71 #[.slice A' n' c',.int .u8 (kd[i].toNat:Int),.agg (agV L[i] hx)] W (PutG W base (blk A') (okf i) (l++pm i)))
  (RES:List UInt8) (E:Int) (mB:Hid ((∀i,i<n→okf i=true)→RES=kF cls code sync (zF (L.map toSA))++(Q2 n).flatMap pm∧E=0)) (cN:Hid (∀i,i<n→okf i=false→RES=[]∧E=80)):
  Calls prog 50 #[.agg #[.int .u8 (cls:Int),.int .u8 (code:Int),.bool sync,.slice A n c]] w fun e w'=>∃A2 c2,e= .returned (.tuple #[.slice A2 RES.length c2,.int .i64 E])∧OwnB w' w.heap.size A2 RES.length c2 RES∧Below w.heap.size w w':=by
 obtain⟨L0,Dk⟩:∃L0,L0=L.map toSA:=⟨_,rfl⟩
 rw[←Dk]at mB;have fD:L0.length=L.length:=by rw[Dk];simp
 have PD:=Q1 Dk;clear Dk;have WR:L.length≤n:=by omega
 have WF:n≤L.length:=by omega
 have AL:L0.length≤n:=by omega
 have SY:n≤L0.length:=by omega
 clear hnL fD;have Rg:n≤kd.length:=by omega
 have PU:kd.length≤n:=by omega
 have bQ:((n:Int)!=((str kd).size:Int))=false:=by rw[zh,hn];simp
 have De:((n:Int)!=(kd.length:Int))=false:=by rw[hn];simp
 clear hn;have gf:=Zy cls code;rw[hk,hf]at gf;have Mk:=gf (w.alloc (.cells #[.int .u8 (cls:Int),.int .u8 (code:Int),.bool sync,.slice A n c] 106)) (he.on ((KS _ _).alloc (K0 _) _));have dr:=zh kd;have DW:=Box.new w #[.int .u8 (cls:Int),.int .u8 (code:Int),.bool sync,.slice A n c] 106;have Hr:=(KS w.heap.size w).alloc (K0 _) (.cells #[.int .u8 (cls:Int),.int .u8 (code:Int),.bool sync,.slice A n c] 106);have I9:=Q1 Lf;have GN:=Q1 ek;have tC:=Q1 BF;have fh:=fun W=>kE cls W
 clear Lf ek hk hf gf BF he;go_enter func50,ntmps50;go_upto_region 1 with fail;obtain⟨mb,cx⟩:∃m,m=w.heap.size:=⟨_,rfl⟩
 rw[←cx]at DW ⊢;have Ol:w.heap.size≤mb:=by omega
 clear cx;generalize(w.alloc (.cells #[.int .u8 (cls:Int),.int .u8 (code:Int),.bool sync,.slice A n c] 106))=w0 at*;have x0:=DW.c0;have x1:=DW.c1;have x2:=DW.c2;have x3:=DW.c3;go_wp2_with(with_reducible refine h_A ?_);refine Mk.mono ?_;rintro e w1 ⟨rfl,Ha⟩;have re:=DW.below Ha;have iJ:=Hr.trans (Ha.mono Hr.size);clear x0 x1 x2 x3 Mk DW Hr Ha;have x0:=re.c0;have x1:=re.c1;have x2:=re.c2;have x3:=re.c3;have se:=re.lt;go_upto_region 2 with fail;go_cut [38]from 12 to 88 (fun s wx=>s= .bool false∧w1=wx)
 case first=>
  cases sync
  ·exact Z6h_
  have hd:decide (cls≤2)=false:=by simpa using pE rfl
  go_wp2_with(with_reducible refine h_A ?_);refine(fh _).mono ?_;rintro e w2 ⟨rfl,rfl⟩;rw[hd];clear hd;exact Z6h_
 obtain⟨rfl,rfl⟩:=hcut;have mi:=Q1 pE;clear pE;have cY:OwnB w1 (mb+1) none 0 0 []:=Own.none_ _ _ _ _;go_wp2_with(with_reducible refine h_A ?_);go_loopw [42,6,7] (fun s42 s6 s7 wr=>∃(k c2 m:Nat) (A2:Option Addr),k≤n∧s42= .int .i64 k∧s6= .slice A2 m c2∧s7= .int .u64 ((zF (L0.take k):Nat):Int)∧OwnB wr (mb+1) A2 m c2 ((Q2 k).flatMap pm)∧m≤2000000*k∧Box wr mb 106 #[.int .u8 (cls:Int),.int .u8 (code:Int),.bool sync,.slice A n c]∧Below w.heap.size w wr∧Hid (∀j,j<k→okf j=true)) (fun s _ _ _=>n-(Vy s).toNat)
 case atStart=>exact⟨0,0,0,none,by omega,rfl,rfl,rfl,cY,by omega,re,iJ,Q1 (fun j hj=>by omega)⟩
 obtain⟨k,c2,m,A2,hk,rfl,rfl,rfl,ho,hm,hb,hB,BA⟩:=hrel;clear cY re iJ x0 x1 x2 x3 bQ De;have hee:=hb.lt;by_cases hlt:k<n
 ·have gf:(k:Int)<(n:Int):=by omega
  have eg:k<kd.length:=by omega
  have M3:k<(str kd).size:=by rw[dr];exact eg
  have uc:k<L.length:=by omega
  have SW:k<L0.length:=by omega
  obtain⟨ab,aoff,hx,hA,eF,LI⟩:=tC.out k uc;have lm:=LI wr hB;clear LI;have NC:Hid (zF (L0.take (k+1))=zF (L0.take k)+(if L[k].is then 2 ^ k else 0)):=Q1 (by rw[kI SW,Ql,yB,yA Wq];simp only[PD.out,List.getElem_map];rfl);have dm:=xq (L0.take k);rw[yB,yA (by omega:k≤L0.length)]at dm;have co:=I9.out k uc eg hx;have BN:=cN.out k hlt;have l6:=Q1 BN;clear BN;obtain⟨okk,gx⟩:∃o,o=okf k:=⟨_,rfl⟩
  rw[←gx]at co l6;have mU:=Q1 gx;clear gx;have hgy:=GN.out k hlt;generalize L[k]=a at*;have z0:wr.cell? ⟨ab,aoff+k*12,none⟩=_:=lm 0 _ rfl;have z1:=lm 1 _ rfl;have z2:=lm 2 _ rfl;have z3:=lm 3 _ rfl;have z4:=lm 4 _ rfl;have z5:=lm 5 _ rfl;have z6:=lm 6 _ rfl;have z7:=lm 7 _ rfl;have z8:=lm 8 _ rfl;have z9:=lm 9 _ rfl;have zA:=lm 10 _ rfl;have zB:=lm 11 _ rfl;subst hA;have Hg:=Box.new wr #[.bool a.is,.int .u64 (a.n:Int),.string (str a.s),.int .u32 (a.x.fmt:Int),.string (str a.x.glob),.string (str a.x.bran),.slice hx.A a.q.length hx.c,.int .u8 (a.v.kind:Int),.int .u64 (a.v.n:Int),.string (str a.v.s),.slice hx.h.A1 a.v.keys.length hx.h.c1,.slice hx.h.A2 a.v.list.length hx.h.c2] 80;have bE:=hb.alloc (.cells #[.bool a.is,.int .u64 (a.n:Int),.string (str a.s),.int .u32 (a.x.fmt:Int),.string (str a.x.glob),.string (str a.x.bran),.slice hx.A a.q.length hx.c,.int .u8 (a.v.kind:Int),.int .u64 (a.v.n:Int),.string (str a.v.s),.slice hx.h.A1 a.v.keys.length hx.h.c1,.slice hx.h.A2 a.v.list.length hx.h.c2] 80);have Hc:=hB.alloc hB.size (.cells #[.bool a.is,.int .u64 (a.n:Int),.string (str a.s),.int .u32 (a.x.fmt:Int),.string (str a.x.glob),.string (str a.x.bran),.slice hx.A a.q.length hx.c,.int .u8 (a.v.kind:Int),.int .u64 (a.v.n:Int),.string (str a.v.s),.slice hx.h.A1 a.v.keys.length hx.h.c1,.slice hx.h.A2 a.v.list.length hx.h.c2] 80);have bW:OwnB (wr.alloc (.cells #[.bool a.is,.int .u64 (a.n:Int),.string (str a.s),.int .u32 (a.x.fmt:Int),.string (str a.x.glob),.string (str a.x.bran),.slice hx.A a.q.length hx.c,.int .u8 (a.v.kind:Int),.int .u64 (a.v.n:Int),.string (str a.v.s),.slice hx.h.A1 a.v.keys.length hx.h.c1,.slice hx.h.A2 a.v.list.length hx.h.c2] 80)) (mb+1) A2 m c2 ((Q2 k).flatMap pm):=ho.alloc _;have dR:∀g,blk A2=some g→g<wr.heap.size∧mb<g:=fun g hg=>⟨(ho.blk_lt hg).2,by have:=(ho.blk_lt hg).1;omega⟩
  clear lm;unfold agV at co;go_upto_region 10 with fail;obtain⟨xb,TO⟩:∃g,g=wr.heap.size:=⟨_,rfl⟩
  rw[←TO]at Hg dR ⊢;clear TO z0 z1 z2 z3 z4 z5 z6 z7 z8 z9 zA zB ho hb hB;generalize(wr.alloc (.cells #[.bool a.is,.int .u64 (a.n:Int),.string (str a.s),.int .u32 (a.x.fmt:Int),.string (str a.x.glob),.string (str a.x.bran),.slice hx.A a.q.length hx.c,.int .u8 (a.v.kind:Int),.int .u64 (a.v.n:Int),.string (str a.v.s),.slice hx.h.A1 a.v.keys.length hx.h.c1,.slice hx.h.A2 a.v.list.length hx.h.c2] 80))=w2 at*;go_cut [6,10]from 43 to 64 (fun s6 CD wx=>∃(A3:Option Addr) (m3 c3:Nat),s6= .slice A3 m3 c3∧CD= .bool okk∧(okk=true→m3=m+(pm k).length∧OwnB wx (mb+1) A3 m3 c3 ((Q2 k).flatMap pm++pm k))∧Box wx mb 106 #[.int .u8 (cls:Int),.int .u8 (code:Int),.bool sync,.slice (some ⟨ab,aoff,none⟩) n c]∧Box wx xb 80 #[.bool a.is,.int .u64 (a.n:Int),.string (str a.s),.int .u32 (a.x.fmt:Int),.string (str a.x.glob),.string (str a.x.bran),.slice hx.A a.q.length hx.c,.int .u8 (a.v.kind:Int),.int .u64 (a.v.n:Int),.string (str a.v.s),.slice hx.h.A1 a.v.keys.length hx.h.c1,.slice hx.h.A2 a.v.list.length hx.h.c2]∧Below w.heap.size w wx)
  case first=>
   as_aux_lemma=>
   refine zt (fun W:World=>Box W xb 80 #[.bool a.is,.int .u64 (a.n:Int),.string (str a.s),.int .u32 (a.x.fmt:Int),.string (str a.x.glob),.string (str a.x.bran),.slice hx.A a.q.length hx.c,.int .u8 (a.v.kind:Int),.int .u64 (a.v.n:Int),.string (str a.v.s),.slice hx.h.A1 a.v.keys.length hx.h.c1,.slice hx.h.A2 a.v.list.length hx.h.c2]) Wj ?_;have hS:Box w2.drew xb 80 #[.bool a.is,.int .u64 (a.n:Int),.string (str a.s),.int .u32 (a.x.fmt:Int),.string (str a.x.glob),.string (str a.x.bran),.slice hx.A a.q.length hx.c,.int .u8 (a.v.kind:Int),.int .u64 (a.v.n:Int),.string (str a.v.s),.slice hx.h.A1 a.v.keys.length hx.h.c1,.slice hx.h.A2 a.v.list.length hx.h.c2]:=Hg;have bX:Box w2.drew mb 106 #[.int .u8 (cls:Int),.int .u8 (code:Int),.bool sync,.slice (some ⟨ab,aoff,none⟩) n c]:=bE;have Bx:OwnB w2.drew (mb+1) A2 m c2 ((Q2 k).flatMap pm):=Own.drewN bW 1;have Hh:Below w.heap.size w w2.drew:=za Hc 1;clear Hg bE bW Hc;generalize w2.drew=wd at*;have EJ:=bX.lt;refine rg_t 0 hS ?_;simp only[vv,ky,Act.put,v4,v5,j1];refine rg_t 1 hS ?_;simp only[g_S];refine rg_t 2 hS ?_;simp only[g_S];refine rg_t 3 hS ?_;simp only[g_S];refine ze 4 (v:=?_) rfl Wj Wj Wj hS rfl ?_ ?_;rotate_left
   ·intro wS He;have x0:=He.c0;have x1:=He.c1;have x2:=He.c2;have x3:=He.c3;have x4:=He.c4;have x5:=He.c5;have x6:=He.c6;have x7:=He.c7;have x8:=He.c8;have x9:=He.c9;have xA:=He.c10;have xB:=He.c11;go_simp
    (with_reducible rfl)
   (try simp only[g_S]);refine zj 5 rfl Wj rfl (fun K hK=>?_);go_simp;refine(co (mb+1) wd A2 m c2 _ Bx Wq Wq ((eF.under Hh).mono (fun g hg=>by omega)) Hh).mono ?_;rintro e w5 ⟨A3,m3,c3,rfl,bz,Bt,ct⟩;have BL:=Bt.box hS (fun e=>by have:=(dR _ e).1;omega);have cH:=Bt.box bX (fun e=>by have:=(dR _ e).2;omega);have bH:=Hh.trans (bz.mono Wq);(have fC:((Q2 k).flatMap pm++pm k).length=m+(pm k).length:=by have:=RdB.length Bx.rd;rw[Vx,this]);rw[fC]at ct;refine hK _ _ BL ?_;clear hK K;(try simp only[g_S]);refine rg_t 6 BL ?_;simp only[g_S];refine rg_t 7 BL ?_;simp only[g_S];refine rg_t 8 BL ?_;simp only[g_S];refine rg_t 9 BL ?_;simp only[g_S];refine rg_t 10 BL ?_;simp only[g_S];refine zD Wj ?_;go_wp2_with fail;go_meet;exact⟨A3,m3,c3,rfl,rfl,ct,cH,BL,bH⟩
  as_aux_lemma=>
  obtain⟨A3,m3,c3,rfl,rfl,lV,cH,BL,bH⟩:=hcut
  cases okk
  ·obtain⟨e1,e2⟩:=l6.out rfl;subst e1 e2;clear lV;exact Z61_
  obtain⟨rfl,ct⟩:=lV rfl;clear lV
  have Ln:Hid (∀j,j<k+1→okf j=true):=Q1 (fun j hj=>by
   by_cases e:j=k
   ·subst e;exact mU.out.symm
   ·exact BA.out j Wq)
  have HO:Hid ((Q2 (k+1)).flatMap pm=(Q2 k).flatMap pm++pm k):=Q1 (by rw[List.range_succ,List.flatMap_append];simp);have y0:=BL.c0;generalize Sz:a.is=is at*;clear Sz
  cases is
  ·have mD:Hid (zF (L0.take (k+1))=zF (L0.take k)):=Q1 (by rw[NC.out];simp);go_wp2_with(with_reducible refine h_A ?_);exact⟨⟨k+1,c3,m+(pm k).length,A3,by omega,by go_num,rfl,by rw[mD.out],by rw[HO.out];exact ct,by omega,cH,bH,Ln⟩,by simp[Vy];omega⟩
  have mD:Hid (zF (L0.take (k+1))=zF (L0.take k)+2 ^ k):=Q1 (by rw[NC.out];simp);have Mp:(2:Nat) ^ k≤2 ^ 7:=y3 Wq Wq;have fX:=zcj ⟨k,by omega⟩ ⟨zF (L0.take k),by omega⟩ dm;simp only at fX;generalize zF (L0.take k)=fl at*;generalize hp:2 ^ k=pk at*;go_wp2_with(with_reducible refine h_A ?_)
  have hw:IntKind.u64.wrap ((2:Int) ^ k)=(pk:Int):=by
   (have e:(2:Int) ^ k=((2 ^ k:Nat):Int):=by push_cast;rfl);rw[e,hp];exact IntWalk.u64_in _ ⟨by omega,by omega⟩
  exact⟨⟨k+1,c3,m+(pm k).length,A3,by omega,by go_num,rfl,by rw[hw,fX,mD.out],by rw[HO.out];exact ct,by omega,cH,bH,Ln⟩,by simp[Vy];omega⟩
 have lM:k=n:=by omega
 have gf:¬(k:Int)<(n:Int):=by omega
 have sZ:Hid (zF (L0.take k)=zF L0):=Q1 (by rw[List.take_of_length_le Wq]);have dm:=xq L0;have Mp:(2:Nat) ^ L0.length≤2 ^ 7:=y3 Wq Wq;have hic:zF L0<256:=by omega
 clear dm Mp;rw[sZ.out];generalize zF L0=fl at*;rw[lM]at ho ⊢;obtain⟨eO,hE⟩:=mB.out (fun j hj=>BA.out j Wq);subst hE;have mB:=Q1 eO;clear eO cN BA lM sZ I9 GN tC;generalize(Q2 n).flatMap pm=I at*;have Tm:=RdB.length ho.rd;have SG:=Q1 Tm;clear Tm;have DK:=hB.size;have x0:=hb.c0;have x1:=hb.c1;have x2:=hb.c2;have x3:=hb.c3;have cR:=yq (w:=wr) (mb+1) #[.int .u8 (cls:Int),.int .u8 (code:Int)] 5 2 Wq WX (size:=1) rfl Wq;have bE:=hb.alloc (.cells #[.int .u8 (cls:Int),.int .u8 (code:Int)] 5);have Hc:=hB.alloc hB.size (.cells #[.int .u8 (cls:Int),.int .u8 (code:Int)] 5);have bW:OwnB (wr.alloc (.cells #[.int .u8 (cls:Int),.int .u8 (code:Int)] 5)) (mb+1) A2 m c2 I:=ho.alloc _;have F6:∀g,blk A2=some g→g<wr.heap.size:=fun g hg=>(ho.blk_lt hg).2
 go_upto_region 17 with fail;obtain⟨lb,cT⟩:∃g,g=wr.heap.size:=⟨_,rfl⟩
 rw[←cT]at cR F6 DK ⊢;have heu:mb<lb:=by rw[cT];exact hb.lt
 clear cT ho hb hB x0 x1 x2 x3;generalize(wr.alloc (.cells #[.int .u8 (cls:Int),.int .u8 (code:Int)] 5))=w2 at*
 have iw:OwnB w2 (mb+1) (some ⟨lb,0,none⟩) 2 2 [KL cls,KL code]:=by
  have e:([KL cls,KL code].map u8v)=(#[.int .u8 (cls:Int),.int .u8 (code:Int)]:Array Value).toList:=by
   simp[u8v,y4 hc,y4 te]
  show Own w2 (mb+1) 5 1 (some ⟨lb,0,none⟩) 2 2 _
  rw[e];exact cR
 clear cR;have x0:=bE.c0;have x1:=bE.c1;have x2:=bE.c2;have x3:=bE.c3;have DM:=fh w2;clear fh;by_cases ij:cls≤2
 ·have hd:decide (cls≤2)=true:=by simpa using ij
  have HH:Hid (RES=([KL cls,KL code]++be 2 fl)++I):=Q1 (by rw[mB.out];unfold kF;rw[if_pos ij];simp);rw[hd]at DM;clear hd ij;have hM:puts [KL cls,KL code] fl 2=[KL cls,KL code]++be 2 fl:=by unfold puts;rw[if_pos WJ];rfl
  have ca:=yR (some ⟨lb,0,none⟩) 2 2 [KL cls,KL code] fl 2 w2 iw.rd Wq Wq;rw[hM]at ca;have Uk:([KL cls,KL code]++be 2 fl).length≤10:=by simp[be]
  generalize [KL cls,KL code]++be 2 fl=M at*;clear hM;go_wp2_with(with_reducible refine h_A ?_);refine DM.mono ?_;rintro e w3 ⟨rfl,rfl⟩;clear DM;exact Z4j_
 have hd:decide (cls≤2)=false:=by simpa using ij
 have Od:Hid (RES=(([KL cls,KL code]++ [1,if sync then 1 else 0])++be 2 fl)++I):=Q1 (by rw[mB.out];unfold kF;rw[if_neg ij]);rw[hd]at DM;clear hd ij;go_wp2_with(with_reducible refine h_A ?_);refine DM.mono ?_;rintro e w3 ⟨rfl,rfl⟩;clear DM;have pD:=yq (w:=w2) (mb+1) #[.int .u8 1,.int .u8 0] 5 2 (by have:=bE.lt;omega) WX (size:=1) rfl Wq;have DL:RdB (w2.alloc (.cells #[.int .u8 1,.int .u8 0] 5)) (w2.alloc (.cells #[.int .u8 1,.int .u8 0] 5)).heap.size (some ⟨w2.heap.size,0,none⟩) 2 2 [1,0]:=pD.rd;have oq:OwnB (w2.alloc (.cells #[.int .u8 1,.int .u8 0] 5)) (mb+1) (some ⟨lb,0,none⟩) 2 2 [KL cls,KL code]:=iw.alloc _;have Bx:OwnB (w2.alloc (.cells #[.int .u8 1,.int .u8 0] 5)) (mb+1) A2 m c2 I:=bW.alloc _;have bX:=bE.alloc (.cells #[.int .u8 1,.int .u8 0] 5);have Hh:=Hc.alloc Hc.size (.cells #[.int .u8 1,.int .u8 0] 5);have EJ:mb+1≤(w2.alloc (.cells #[.int .u8 1,.int .u8 0] 5)).heap.size:=bX.lt;clear x0 x1 x2 x3 iw bW bE Hc pD;go_wp2_with(with_reducible refine h_B ?_);refine zc (yc slB rfl rfl rfl rfl oq DL (zM _) Wq Hj EJ ?_);intro A5 c5 w5 ct bc cH;have oU:∀g,blk A2=some g→some g≠blk (some ⟨lb,0,none⟩):=fun g hg e=>by have:=F6 g hg;injection e with e;simp at e;omega
 have bW:=zk Bx bc (fun g hg e=>oU g hg e.symm);have bE:=bX.grown bc (by intro e;injection e with e;simp at e;omega);have Hc:=Hh.grown bc Hh.size (fun g hg=>by injection hg with hg;simp at hg;omega);have heb:=(oq.blk_lt (g:=lb) rfl).2
 have sF:∀g,blk A2=some g→¬blk A5=some g:=fun g hg e=>by
  rcases cH with h5|h5
  ·exact oU g hg (by rw[←h5,e])
  have h6:=F6 g hg;rw[h5]at e;injection e with e;omega
 rw[←y5]at ct;clear oq Bx bX Hh DL bc cH
 cases sync
 ·have qq6j:=();exact Z11_
 exact Z11_
def xz(m:Mt):List UInt8:=yv (yp m.cls m.code)
def okI(m:Mt)(i:Nat):Bool:=match(xz m)[i]?,m.args[i]? with
 | some k,some a=>okA k a
 | _,_=>true
def byI(m:Mt)(i:Nat):List UInt8:=match(xz m)[i]?,m.args[i]? with
 | some k,some a=>byA k a
 | _,_=>[]
def kH(m:Mt):Bool:=(yp m.cls m.code).isSome&&decide (m.args.length=(xz m).length)&& !(m.sync&&decide (m.cls≤2))
def yI(m:Mt):Bool:=kH m&&(Q2 m.args.length).all (okI m)
def putM(m:Mt):List UInt8:=if yI m=true then kF m.cls m.code m.sync (zF (m.args.map toSA))++(Q2 m.args.length).flatMap (byI m)else []
def errM(m:Mt):Int:=if yI m=true then 0 else 80
theorem zcl:(Q2 9).all (fun c=>(qX c).all fun r=>r.kinds.all (fun k=>decide (k∈jX))&&decide (r.kinds.length≤3))=true:=by decide+kernel
theorem qp(c k:Nat):(∀x∈yv (yp c k),x∈jX)∧(yv (yp c k)).length≤3:=by
 cases h:yp c k with
 | none=>exact⟨fun x hx=>by simp[yv]at hx,by simp[yv]⟩
 | some r=>
  unfold yp at h;have hm:=y6 h
  have hc:c<9:=by
   have:=Q7 (c:=c) (fun e=>by rw[e]at hm;cases hm);omega
  have h1:=q5.1 zcl c (j2.2 hc);have h2:=q5.1 h1 r hm;simp only[Bool.and_eq_true,q5,decide_eq_true_eq]at h2;exact⟨fun x hx=>h2.1 x hx,h2.2⟩
def MPut(w:World)(m:Mt)(e:Ending)(w':World):Prop:=∃A2 c2,e= .returned (.tuple #[.slice A2 (putM m).length c2,.int .i64 (errM m)])∧OwnB w' w.heap.size A2 (putM m).length c2 (putM m)∧Below w.heap.size w w'
theorem Q8(m:Mt)(A:Option Addr)(c:Nat)(w:World)(he:MEnv w)(hm:RMw w m A c)
  (FL:∀kd,kd∈yv (yp m.cls m.code)→∀(a:Ag) (h:AH) (base:Nat) (A:Option Addr) (n c:Nat) (l:List UInt8) (W:World),OwnB W base A n c l→base≤W.heap.size→n≤100000000→RA W (fun g=>g<base) a h→Below w.heap.size w W→
   Calls prog 71 #[.slice A n c,.int .u8 (kd.toNat:Int),.agg (agV a h)] W (PutG W base (blk A) (okA kd a) (l++byA kd a))):Calls prog 50 #[.agg (mtV m A c)] w (MPut w m):=by
 unfold mtV;obtain⟨sx,ft⟩:=qp m.cls m.code;by_cases hf:kH m=true
 ·unfold kH at hf;simp only[Bool.and_eq_true,decide_eq_true_eq]at hf;obtain⟨⟨h1,h2⟩,h3⟩:=hf;unfold xz at h2;refine zdJ m.cls m.code m.sync m.args _ (byI m) (okI m) A m.args.length c w he (fun i hi=>hm.elem hi) rfl rfl h1 h2 Wq (fun hs hc=>?_) hm.cls hm.code (fun i hi=>?_) ?_ (putM m) (errM m) (Q1 fun bJ=>?_) (Q1 fun i hi BN=>?_)
  ·rw[hs,decide_eq_true hc]at h3;simp at h3
  ·unfold byI;split
   ·exact ZD _ _
   simp
  ·intro i h h' hx base W A' n' c' l Hl Hf Ff ha hB;(have e1:okI m i=okA (yv (yp m.cls m.code))[i] m.args[i]:=by unfold okI xz;rw[K2 h',K2 h]);(have e2:byI m i=byA (yv (yp m.cls m.code))[i] m.args[i]:=by unfold byI xz;rw[K2 h',K2 h]);rw[e1,e2];exact FL _ (q9 h') _ hx base A' n' c' l W Hl Hf Ff ha hB
  ·have hg:yI m=true:=by
    unfold yI kH xz;simp only[Bool.and_eq_true,decide_eq_true_eq];exact⟨⟨⟨h1,h2⟩,h3⟩,q5.2 fun i hi=>bJ i (j2.1 hi)⟩
   unfold putM errM;rw[if_pos hg,if_pos hg];exact⟨rfl,rfl⟩
  have qqea:=();exact Z3g_
 have hg:¬yI m=true:=by unfold yI;simp[hf]
 have HP:putM m=[]:=by unfold putM;rw[if_neg hg]
 have HE:errM m=80:=by unfold errM;rw[if_neg hg]
 unfold MPut;rw[HP,HE];clear hg HP HE;obtain⟨xb,w1,Hg,Hi,hX,Ha⟩:=zg w #[.int .u8 (m.cls:Int),.int .u8 (m.code:Int),.bool m.sync,.slice A m.args.length c] 106;have gf:=Zy m.cls m.code w1 (he.on Ha);have c0:=hX.c0;have c1:=hX.c1;have c2:=hX.c2;have c3:=hX.c3;have fh:=fun W=>kE m.cls W
 unfold kH xz at hf;generalize eg:yv (yp m.cls m.code)=kd at*;generalize(yp m.cls m.code).isSome=is at*;have dr:=zh kd;clear FL sx ft eg hm he
 cases is
 ·clear hf fh;go_enter func50,ntmps50;go_upto_region 1 with fail;rw[←Hg,←Hi];clear Hg Hi;go_wp2_with(with_reducible refine h_A ?_);refine gf.mono ?_;rintro e w2 ⟨rfl,Hc⟩;have Hk:=hX.below Hc;clear c0 c1 c2 c3;have c0:=Hk.c0;have c1:=Hk.c1;have c2:=Hk.c2;have c3:=Hk.c3;go_wp2_with(with_reducible refine h_A ?_);go_ret2;exact⟨none,0,rfl,Own.none_ _ _ _ _,Ha.trans (Hc.mono Ha.size)⟩
 have qq4o:=();exact Zs_
theorem zaX(m:Mt)(A:Option Addr)(c:Nat)(w:World)(he:MEnv w)(hT:UTabs w)(hm:RMw w m A c):Calls prog 50 #[.agg (mtV m A c)] w (MPut w m):=
 Q8 m A c w he hm fun kd hk a h base A n c l W Hl Hf hn ha hB=>zaY kd ((qp _ _).1 kd hk) a h base A n c l W Hl Hf hn ha (hT.on hB)
def wtL:List UInt8:=[119,115,116]
theorem zch(kd:UInt8)(hk:kd∈wtL)(a:Ag)(h:AH)(base:Nat)(A:Option Addr)(n c:Nat)(l:List UInt8)(w:World)(Hl:OwnB w base A n c l)(Hf:base≤w.heap.size)(hn:n≤100000000)(ha:RA w (fun g=>g<base) a h):
  Calls prog 71 #[.slice A n c,.int .u8 (kd.toNat:Int),.agg (agV a h)] w (PutG w base (blk A) (okA kd a) (l++byA kd a)):=by
 have qq9b:=();exact Z1t_
def agOf(a:SA):Ag:=⟨a.is,a.n,a.s,xd0,[],vl0⟩
def ah00:AH:=⟨none,0,⟨none,0,none,0⟩⟩
theorem zc8(L:List SA):rowC agC (L.map fun a=>(agOf a,ah00))=rowC saC L:=by
 unfold rowC;rw[List.flatMap_map];rfl
theorem rm_S{code:Nat}(te:code<256){L:List SA}{A:Option Addr}{c:Nat}(hr:Rd w w.heap.size 12 A n c (rowC saC L))(hn:∀a∈L,a.n<18446744073709551616∧a.s.length≤140737488351232)(hl:L.length≤100):n=L.length∧RMw w ⟨1,code,false,L.map agOf⟩ A c:=by
 have cX:=xr zci hr;refine⟨cX.symm,⟨by show(1:Nat)<256;omega,te,⟨L.map fun a=>(agOf a,ah00),by simp,?_,?_⟩,by simp;omega⟩⟩
 ·rw[zc8];show RdX w _ 12 A (L.map agOf).length c _
  rw[y7,cX];exact zdf hr
 intro p hp;obtain⟨a,ha,rfl⟩:=List.mem_map.1 hp;have hz:=RA.zero w (fun g=>g<w.heap.size) a.is;exact⟨(hn a ha).1,(hn a ha).2,hz.x,hz.q,hz.ok,hz.c,hz.v⟩
def startB:List UInt8:=[1,1,0,1,0,9,112,111,115,116,104,111,117,115,101]
def v6:List UInt8:=[1,5,0,3,0,255,16,0]
def Zs:List UInt8:=[1,8,0,0]
def xV(code:Nat)(text:List UInt8):List UInt8:=[1,11,0,3]++be 2 code++be 1 text.length++text
def Zt:List UInt8:=[1,12,0,0]
structure CtlG(code:Nat)(L:List SA)(bs:List UInt8):Prop where
 cd:code<256
 n:∀a∈L,a.n<18446744073709551616∧a.s.length≤140737488351232
 l:L.length≤100
 g:yI ⟨1,code,false,L.map agOf⟩=true
 p:putM ⟨1,code,false,L.map agOf⟩=bs
 k:∀kd∈yv (yp 1 code),kd∈wtL
theorem CtlG.c{code:Nat}{L:List SA}{bs:List UInt8}(hc:CtlG code L bs):CtlC code L bs:=by
 intro A n c w he hr;obtain⟨rfl,hm⟩:=rm_S hc.cd hr hc.n hc.l;have h:=Q8 ⟨1,code,false,L.map agOf⟩ A c w he hm fun kd eg a h base A n c l W Hl Hf hn ha _=>zch kd (hc.k kd eg) a h base A n c l W Hl Hf hn ha
 unfold MPut mtV errM at h;rw[hc.p,if_pos hc.g]at h;simp only[y7]at h;exact h
theorem ctlg1:CtlG 1 [⟨true,0,[112,111,115,116,104,111,117,115,101]⟩] startB:=by
 have hg:yI ⟨1,1,false,[agOf ⟨true,0,[112,111,115,116,104,111,117,115,101]⟩]⟩=true:=by
  have h:zw (agOf ⟨true,0,[112,111,115,116,104,111,117,115,101]⟩) (agS (agOf ⟨true,0,[112,111,115,116,104,111,117,115,101]⟩))=true:=(zL _ _).2 rfl;have hk:xz ⟨1,1,false,[agOf ⟨true,0,[112,111,115,116,104,111,117,115,101]⟩]⟩=[116]:=by decide
  unfold yI kH okI;rw[hk];simp[Q2,Q2.loop,okA,h];decide
 exact CtlG.mk Wq (fun a ha=>by rw[List.mem_singleton.1 ha];exact⟨by show(0:Nat)<_;omega,by simp⟩) Wz hg (by show putM ⟨1,1,false,[agOf ⟨true,0,[112,111,115,116,104,111,117,115,101]⟩]⟩=_;unfold putM;rw[if_pos hg];rfl) WJ
theorem ctlg5:CtlG 5 [⟨true,255,[]⟩,⟨true,4096,[]⟩] v6:=by
 have hg:yI ⟨1,5,false,[agOf ⟨true,255,[]⟩,agOf ⟨true,4096,[]⟩]⟩=true:=by
  have h:∀n,zw (agOf ⟨true,n,[]⟩) (agN (agOf ⟨true,n,[]⟩))=true:=fun n=>(zL _ _).2 rfl
  have hk:xz ⟨1,5,false,[agOf ⟨true,255,[]⟩,agOf ⟨true,4096,[]⟩]⟩=[119,119]:=by decide
  unfold yI kH okI;rw[hk];simp[Q2,Q2.loop,okA,h];exact⟨by decide,by show(255:Nat)<65536;omega,by show(4096:Nat)<65536;omega⟩
 exact CtlG.mk Wq (fun a ha=>by
  simp only[y8,y9,or_false]at ha;rcases ha with rfl|rfl
  ·exact⟨by show(255:Nat)<_;omega,by simp⟩
  ·exact⟨by show(4096:Nat)<_;omega,by simp⟩) Wz hg (by show putM ⟨1,5,false,[agOf ⟨true,255,[]⟩,agOf ⟨true,4096,[]⟩]⟩=_;unfold putM;rw[if_pos hg];rfl) WJ
theorem ctlg8:CtlG 8 [] Zs:=by
 have hg:yI ⟨1,8,false,[]⟩=true:=by decide
 exact CtlG.mk Wq (fun a ha=>by cases ha) Wz hg (by show putM ⟨1,8,false,[]⟩=_;unfold putM;rw[if_pos hg];rfl) WJ
theorem ctlg12:CtlG 12 [] Zt:=by
 have hg:yI ⟨1,12,false,[]⟩=true:=by decide
 exact CtlG.mk Wq (fun a ha=>by cases ha) Wz hg (by show putM ⟨1,12,false,[]⟩=_;unfold putM;rw[if_pos hg];rfl) WJ
theorem zbR(code:Nat)(text:List UInt8)(hc:code<65536)(ht:text.length<256):CtlG 11 [⟨true,code,[]⟩,⟨true,0,text⟩] (xV code text):=by
 have rT:zE text.length 1=0:=by unfold zE;rw[if_pos (.inl rfl),if_pos (by show text.length<256;omega)]
 have hg:yI ⟨1,11,false,[agOf ⟨true,code,[]⟩,agOf ⟨true,0,text⟩]⟩=true:=by
  have h:zw (agOf ⟨true,code,[]⟩) (agN (agOf ⟨true,code,[]⟩))=true:=(zL _ _).2 rfl;have h2:zw (agOf ⟨true,0,text⟩) (agS (agOf ⟨true,0,text⟩))=true:=(zL _ _).2 rfl
  have hk:xz ⟨1,11,false,[agOf ⟨true,code,[]⟩,agOf ⟨true,0,text⟩]⟩=[119,115]:=by
   (show yv (yp 1 11)=_);decide
  unfold yI kH okI;rw[hk];simp[Q2,Q2.loop,okA,h,h2];exact⟨by decide,by show code<65536;omega,rT⟩
 exact CtlG.mk Wq (fun a ha=>by
  simp only[y8,y9,or_false]at ha;rcases ha with rfl|rfl
  ·exact⟨by show code<_;omega,by simp⟩
  ·exact⟨by show(0:Nat)<_;omega,by show text.length≤_;omega⟩) Wz hg (by
   (show putM ⟨1,11,false,[agOf ⟨true,code,[]⟩,agOf ⟨true,0,text⟩]⟩=_);unfold putM;rw[if_pos hg];have e0:byI ⟨1,11,false,[agOf ⟨true,code,[]⟩,agOf ⟨true,0,text⟩]⟩ 0=be 2 code:=rfl;(have e1:byI ⟨1,11,false,[agOf ⟨true,code,[]⟩,agOf ⟨true,0,text⟩]⟩ 1=be 1 text.length++text:=by show zP [] text 1=_;unfold zP;rw[if_pos rT];rfl);simp only[List.length_cons,kv,Q2,Q2.loop,List.flatMap_cons,List.flatMap_nil,e0,e1]
   simp[xV,kF,zF,toSA,agOf,be,Q2,Q2.loop]) WJ
def hdrB:List UInt8:=[65,77,81,80,1,1,0,10]
theorem ctl1:CtlC 1 [⟨true,0,[112,111,115,116,104,111,117,115,101]⟩] startB:=ctlg1.c
theorem ctl5:CtlC 5 [⟨true,255,[]⟩,⟨true,4096,[]⟩] v6:=ctlg5.c
theorem ctl8:CtlC 8 [] Zs:=ctlg8.c
theorem zdH:CtlC 12 [] Zt:=ctlg12.c
theorem zdI(code:Nat)(text:List UInt8)(hc:code<65536)(ht:text.length<256):CtlC 11 [⟨true,code,[]⟩,⟨true,0,text⟩] (xV code text):=(zbR code text hc ht).c
structure WroteS(w:World)(lb base:Nat)(cs:Array Value)(A:Option Addr)(l:List UInt8)(st:Nat)(w':World):Prop where
 ex:∃A2 c2,Box w' lb 61 (((cs.setIfInBounds 5 (bPtr lb 5)).setIfInBounds 6 (.slice A2 l.length c2)).setIfInBounds 0 (.int .u8 (st:Int)))∧Own w' base 5 1 A2 l.length c2 (l.map u8v)∧blk A2≠some lb∧(blk A2=blk A∨∀k,blk A2=some k→w.heap.size≤k)
 keep:KeepF (fun k=>k=lb∨blk A=some k) w w'
theorem Q3(code:Nat)(text:List UInt8)(gX:code<65536)(lI:text.length<256)(lb sz base sn sc:Nat)(cs:Array Value)(p:Value)(SA:Option Addr)(l:List UInt8)(w:World)(he:MEnv w)
  (hb:Box w lb 61 cs) (hs:cs.size=8) (h4:cs[4]?=some (.int .u64 (sz:Int))) (Bm:sz≤1000000) (h5:cs[5]?=some p) (hp:p= .pointer none∨p=bPtr lb 5) (h6:cs[6]?=some (.slice SA sn sc)) (Hl:Own w base 5 1 SA sn sc (l.map u8v)) (hne:blk SA≠some lb) (Hf:base≤w.heap.size) (tF:sn≤10000000000):
  Calls prog 33 #[.pointer (some ⟨lb,0,none⟩),.int .u64 (code:Int),.string (str text)] w fun e w'=>e= .returned (.tuple #[])∧WroteS w lb base cs SA (l++ctlB sz (xV code text)) 5 w':=by
 have dD:∀W,Calls prog 37 #[.int .u64 (code:Int),.string ⟨#[]⟩] W fun e w'=>e= .returned (.agg #[.bool true,.int .u64 (code:Int),.string ⟨#[]⟩,.int .u32 0,.string ⟨#[]⟩,.string ⟨#[]⟩,.slice none 0 0,.int .u8 0,.int .u64 0,.string ⟨#[]⟩,.slice none 0 0,.slice none 0 0])∧Below W.heap.size W w':=fun W=>kW code [] W
 have db:∀W,Calls prog 37 #[.int .u64 0,.string (str text)] W fun e w'=>e= .returned (.agg #[.bool true,.int .u64 0,.string (str text),.int .u32 0,.string ⟨#[]⟩,.string ⟨#[]⟩,.slice none 0 0,.int .u8 0,.int .u64 0,.string ⟨#[]⟩,.slice none 0 0,.slice none 0 0])∧Below W.heap.size W w':=fun W=>kW 0 text W
 go_enter func33,ntmps33;go_wp2_with(with_reducible refine h_A ?_)
 (with_reducible refine(dD _).mono ?_)
 rintro e w1 ⟨rfl,Ha⟩;go_wp2_with(with_reducible refine h_A ?_)
 (with_reducible refine(db _).mono ?_)
 rintro e w2 ⟨rfl,Hc⟩;have Hh:=Ha.trans (Hc.mono Ha.size);clear dD db;obtain⟨gb,w3,bC,bh,hG,Bn⟩:=zo w2 #[.bool true,.int .u64 (code:Int),.string ⟨#[]⟩,.int .u32 0,.string ⟨#[]⟩,.string ⟨#[]⟩,.slice none 0 0,.int .u8 0,.int .u64 0,.string ⟨#[]⟩,.slice none 0 0,.slice none 0 0,.bool true,.int .u64 0,.string (str text),.int .u32 0,.string ⟨#[]⟩,.string ⟨#[]⟩,.slice none 0 0,.int .u8 0,.int .u64 0,.string ⟨#[]⟩,.slice none 0 0,.slice none 0 0] 80;have b7:=yq (w:=w2) w2.heap.size #[.bool true,.int .u64 (code:Int),.string ⟨#[]⟩,.int .u32 0,.string ⟨#[]⟩,.string ⟨#[]⟩,.slice none 0 0,.int .u8 0,.int .u64 0,.string ⟨#[]⟩,.slice none 0 0,.slice none 0 0,.bool true,.int .u64 0,.string (str text),.int .u32 0,.string ⟨#[]⟩,.string ⟨#[]⟩,.slice none 0 0,.int .u8 0,.int .u64 0,.string ⟨#[]⟩,.slice none 0 0,.slice none 0 0] 80 2 (K0 _) WX (size:=12) rfl Wq;rw[←bh,←bC]at b7;have eF:Rd w3 w3.heap.size 12 (some ⟨gb,0,none⟩) 2 2 (rowC saC [⟨true,code,[]⟩,⟨true,0,text⟩]):=b7.rd;have Hn:=Hh.trans (Bn.mono Hh.size);have fz:=Zu 11 [⟨true,code,[]⟩,⟨true,0,text⟩] (xV code text) (zdI code text gX lI) (by simp[xV,zr];omega) lb sz base sn sc cs p SA l (some ⟨gb,0,none⟩) 2 2 w3 (he.on Hn) eF (hb.below Hn) hs h4 Bm h5 hp h6 (zi Hl Hn) hne (by have:=Hn.size;omega) tF;rw[show(((11:Nat)):Int)=11 from rfl]at fz;clear b7 eF hG Bn Ha Hc;go_wp2_with(with_reducible refine h_A ?_);rw[←bC,←bh];clear bC bh
 (with_reducible refine fz.mono ?_)
 rintro e w5 ⟨rfl,hW⟩;clear fz;obtain⟨⟨A2,c2,cH,gA,mV,tk⟩,pS⟩:=hW;have O6:0<((cs.setIfInBounds 5 (bPtr lb 5)).setIfInBounds 6 (.slice A2 (l++ctlB sz (xV code text)).length c2)).size:=by rw[Array.size_setIfInBounds,Array.size_setIfInBounds,hs];omega
 go_wp2_with(with_reducible refine h_B ?_);refine zc (xx rfl rfl rfl rfl cH (j:=0) (v:=.int .u8 5) rfl Wj O6 ?_);intro w6 cJ bm ej;clear ej;go_wp2_with(with_reducible refine h_B ?_);go_end0;have hh5:=Hn;refine⟨rfl,⟨⟨A2,c2,cJ,zk gA bm (fun k hk e=>mV zAa),mV,tk.imp id (fun e k hk=>by have:=e k hk;have:=Hn.size;omega)⟩,?_⟩⟩;exact((KeepF.below Hn).trans pS (fun k hk=>.inl hk)).trans (.grown (F:=fun k=>k=lb∨blk SA=some k) bm (fun k hk=>.inl (.inl uj))) (fun k hk=>.inl hk)
theorem MEnv.onK(h:MEnv w)(hK:KeepF F w w')(hF:¬F 0):MEnv w' where
 mx:=by
  have hl:=h.lt;obtain⟨m,hm⟩:=h.mx;refine⟨m,?_⟩;have:=hK.2.1 _ hl hF;rw[←hm];simp only[q6,this]
theorem Zr(lb sz base sn sc n c B:Nat)(x2 x3 x7 p:Value)(RA SA:Option Addr)(l r:List UInt8)(w:World)(he:MEnv w)(hb:Box w lb 61 #[.int .u8 0,.slice RA n c,x2,x3,.int .u64 (sz:Int),p,.slice SA sn sc,x7])(hr:RdB w B RA n c r)(bI:B≤w.heap.size)(Bm:sz≤1000000)(hp:p= .pointer none∨p=bPtr lb 5)
  (Hl:Own w base 5 1 SA sn sc (l.map u8v)) (hne:blk SA≠some lb) (Hf:base≤w.heap.size) (tF:sn≤1000000000) (hn:n≤1000000000) (fE:0≠lb) (pc:0<base) (h8:r.take 8=hdrB):
  Calls prog 25 #[.pointer (some ⟨lb,0,none⟩)] w fun e w'=>e= .returned (.tuple #[])∧8≤n∧(∃A2 c2,Box w' lb 61 #[.int .u8 1,.slice (cutA RA 1 8 c) (n-8) (c-8),x2,x3,.int .u64 (sz:Int),bPtr lb 5,.slice A2 (l++hdrB++ctlB sz startB).length c2,x7]∧
   Own w' base 5 1 A2 (l++hdrB++ctlB sz startB).length c2 ((l++hdrB++ctlB sz startB).map u8v)∧blk A2≠some lb∧(blk A2=blk SA∨∀k,blk A2=some k→w.heap.size≤k))∧KeepF (fun k=>k=lb∨blk SA=some k) w w':=by
 exact Zb_
theorem Z8(lb sz base sn sc n c B:Nat)(x2 x3 x7 p:Value)(RA SA:Option Addr)(l r:List UInt8)(w:World)(he:MEnv w)(hb:Box w lb 61 #[.int .u8 0,.slice RA n c,x2,x3,.int .u64 (sz:Int),p,.slice SA sn sc,x7])(hr:RdB w B RA n c r)(bI:B≤w.heap.size)(Bm:sz≤1000000)(hp:p= .pointer none∨p=bPtr lb 5)
  (Hl:Own w base 5 1 SA sn sc (l.map u8v)) (hne:blk SA≠some lb) (Hf:base≤w.heap.size) (tF:sn≤1000000000) (hn:n≤1000000000) (fE:0≠lb) (pc:0<base) (h8:r.take 8≠hdrB.take n):
  Calls prog 25 #[.pointer (some ⟨lb,0,none⟩)] w fun e w'=>e= .returned (.tuple #[])∧(∃A2 c2,Box w' lb 61 #[.int .u8 5,.slice RA n c,x2,x3,.int .u64 (sz:Int),bPtr lb 5,.slice A2 (l++hdrB).length c2,x7]∧
   Own w' base 5 1 A2 (l++hdrB).length c2 ((l++hdrB).map u8v)∧blk A2≠some lb∧(blk A2=blk SA∨∀k,blk A2=some k→w.heap.size≤k))∧KeepF (fun k=>k=lb∨blk SA=some k) w w':=by
 have qq2j:=();exact Zb_
theorem Qg(lb sz base sn sc n c B:Nat)(x2 x3 x7 p:Value)(RA SA:Option Addr)(l r:List UInt8)(w:World)(he:MEnv w)(hb:Box w lb 61 #[.int .u8 0,.slice RA n c,x2,x3,.int .u64 (sz:Int),p,.slice SA sn sc,x7])(hr:RdB w B RA n c r)(bI:B≤w.heap.size)(Bm:sz≤1000000)(hp:p= .pointer none∨p=bPtr lb 5)
  (Hl:Own w base 5 1 SA sn sc (l.map u8v)) (hne:blk SA≠some lb) (Hf:base≤w.heap.size) (tF:sn≤1000000000) (hn:n≤1000000000) (fE:0≠lb) (pc:0<base) (py:n<8) (h8:r=hdrB.take n):
  Calls prog 25 #[.pointer (some ⟨lb,0,none⟩)] w fun e w'=>e= .returned (.tuple #[])∧Below w.heap.size w w':=by
 have qq2k:=();exact Zb_
theorem XG(lb n c:Nat)(x0 x2 x3 x4 x5 x6 x7:Value)(RA:Option Addr)(r:List UInt8)(w:World)(hb:Box w lb 61 #[x0,.slice RA n c,x2,x3,x4,x5,x6,x7])(hr:RdB w w.heap.size RA n c r)(hn:n≤1000000000)(AQ:zu r=([],0,0)):
  Calls prog 26 #[.pointer (some ⟨lb,0,none⟩)] w fun e w'=>e= .returned (.tuple #[])∧Box w' lb 61 #[x0,.slice RA n n,x2,x3,x4,x5,x6,x7]∧KeepF (fun k=>k=lb) w w':=by
 have hs:=Jh RA n c r w hr hn;rw[AQ]at hs;simp only[kv]at hs;have x1:=hb.c1;have nL:=hr.cap;have ny:=hr.max;have gL:n≤maxLen:=by omega
 clear AQ;go_enter func26,ntmps26;go_wp2_with(with_reducible refine h_A ?_);refine hs.mono ?_;rintro e w1 ⟨A1,c1,rfl,rO,Ha⟩;have bL:=hb.below Ha;have k1:w1.drew.cell? ⟨lb,1,none⟩=some (.slice RA n c):=bL.c1;have Eb:w1.drew.frozen? ⟨lb,1,none⟩=false:=bL.thaw 1;have hF:=xW (show Box w1.drew lb 61 _ from bL) (off:=1) (.slice RA n n);have HF:=Q1 (show Box _ lb 61 #[x0,.slice RA n n,x2,x3,x4,x5,x6,x7]from hF);have hG:=Q1 (yC w1.drew lb 1 (.slice RA n n));have HK1:KeepF (fun k=>k=lb) w w1.drew:=.below (za Ha 1);clear hb hr bL hs x1 hF;go_wp2;go_region
 all_goals
  go_wp2;refine wp_loop_rounds 1 ?_;rw[rounds_succ];go_wp2;go_end0;exact⟨rfl,HF.out,HK1.trans (.grown (F:=fun k=>k=lb) hG.out (fun k hk=>.inl uj)) (fun k hk=>.inl hk)⟩
theorem Vo(lb gp:Nat)(w:World)(he:MEnv w)(hb:Box w lb 61 (lk0 gp))(fB:0≠lb):
  Calls prog 12 #[.pointer (some ⟨lb,0,none⟩),.string (str hdrB)] w fun e w'=>e= .returned (.tuple #[.string (str (hdrB++ctlB 4096 startB)),.slice none 0 0])∧w'.cell? ⟨lb,0,none⟩=some (.int .u8 1)∧w'.cell? ⟨lb,2,none⟩=some (.pointer (some ⟨gp,0,none⟩))∧KeepF (fun k=>k=lb) w w':=by
 exact Zn_
def amxB:List UInt8:=[65,77,88]
theorem Vp(lb gp:Nat)(w:World)(he:MEnv w)(hb:Box w lb 61 (lk0 gp))(fB:0≠lb):
  Calls prog 12 #[.pointer (some ⟨lb,0,none⟩),.string (str amxB)] w fun e w'=>e= .returned (.tuple #[.string (str hdrB),.slice none 0 0])∧w'.cell? ⟨lb,0,none⟩=some (.int .u8 5)∧w'.cell? ⟨lb,2,none⟩=some (.pointer (some ⟨gp,0,none⟩))∧KeepF (fun k=>k=lb) w w':=by
 have qq3w:=();exact Zn_
theorem zcV:(ctlB 4096 startB).length=27:=by kernel_rfl
theorem km(w:World)(he:MEnv w):Calls prog 9 #[] w fun e w'=>e= .returned (.bool true)∧Below w.heap.size w w':=by
 have DJ:=he.lt;have eK:=YZ w;have i5:(hdrB++ctlB 4096 startB).length=35:=by rw[Vx,zcV];rfl
 have hot:((str ((hdrB++ctlB 4096 startB).take 8)).toList== [65,77,81,80,1,1,0,10])=true:=by rw[zn];simp[hdrB]
 obtain⟨OUT,lC⟩:∃o,o=hdrB++ctlB 4096 startB:=⟨_,rfl⟩
 rw[←lC]at i5 hot;have uP:=Q1 lC;clear lC;have dr:=zh OUT;go_enter func9,ntmps9;go_wp2_with(with_reducible refine h_A ?_);refine eK.mono ?_;rintro e w1 ⟨rfl,S5,bL,Ha⟩;clear eK;have Ci:=he.on Ha;obtain⟨lb,cT⟩:∃b,b=w.heap.size+2:=⟨_,rfl⟩
 rw[←cT]at bL;have nh:w.heap.size≤lb:=by omega
 have ix:=Vo lb _ w1 Ci bL Wq;rw[←uP.out]at ix;go_wp2_with(with_reducible refine h_A ?_);rw[←cT];clear cT;rw[show str hdrB=(⟨#[65,77,81,80,1,1,0,10]⟩:ByteArray)from rfl]at ix
 (with_reducible refine ix.mono ?_)
 rintro e w2 ⟨rfl,ik,dN,dQ⟩;clear ix;have Hc:Below w.heap.size w w2:=Ha.trans (dQ.toBelow Ha.size (fun g hg=>by omega));have eS:=YZ w2;go_wp2_with(with_reducible refine h_A ?_);refine eS.mono ?_;rintro e w3 ⟨rfl,hG3,bX,Hh⟩;clear eS;have F3:=Hc.trans (Hh.mono Hc.size);have he3:=he.on F3;obtain⟨mb,cx⟩:∃b,b=w2.heap.size+2:=⟨_,rfl⟩
 rw[←cx]at bX;have Ol:w2.heap.size≤mb:=by omega
 have Oq:lb<w2.heap.size:=q8 _ _ ik;have Ek:=Hc.size;have fJ:=Vp mb _ w3 he3 bX Wq;have d0:w3.cell? ⟨lb,0,none⟩=some (.int .u8 1):=(Hh.cell (p:=⟨lb,0,none⟩) Oq).trans ik;have d2:=(Hh.cell (p:=⟨lb,2,none⟩) Oq).trans dN;clear ik dN;go_wp2_with(with_reducible refine h_A ?_);rw[←cx];clear cx;rw[show str amxB=(⟨#[65,77,88]⟩:ByteArray)from rfl,show str hdrB=(⟨#[65,77,81,80,1,1,0,10]⟩:ByteArray)from rfl]at fJ
 (with_reducible refine fJ.mono ?_)
 rintro e w4 ⟨rfl,sL,dU,eR⟩;clear fJ;have Hn:Below w.heap.size w w4:=F3.trans (eR.toBelow F3.size (fun g hg=>by omega))
 have Fa:∀o,w4.cell? ⟨lb,o,none⟩=w3.cell? ⟨lb,o,none⟩:=fun o=>by
  have:=eR.2.1 lb (K1 Oq Hh.size) Wq;simp only[q6,this]
 have d0':=(Fa 0).trans d0;have d2':=(Fa 2).trans d2;clear Fa d0 d2;have BW:=qD lb 1 _ w4 d0' d2';have cj:=qD mb 5 _ w4 sL dU;rw[show(((1:Nat)):Int)=1 from rfl]at BW;rw[show(((5:Nat)):Int)=5 from rfl]at cj;have fZ:=YL (P:=prog) underlying9 w4 (l:=OUT) (lo:=none) (hi:=some (.int .i64 8)) 0 8 (.inl ⟨rfl,rfl⟩) (.inr ⟨_,_,rfl,rfl⟩) Wq Wq;go_wp2_with(with_reducible refine h_A ?_)
 (with_reducible refine BW.mono ?_)
 rintro e w5 ⟨rfl,rfl⟩;go_wp2_with(with_reducible refine h_A ?_)
 (with_reducible refine cj.mono ?_)
 rintro e w6 ⟨rfl,rfl⟩;go_wp2_with(with_reducible refine h_A ?_);go_ret;exact⟨rfl,Hn⟩
structure LS where
 st:Nat
 ch:Nat
 sz:Nat
 g:GS
 sent:List UInt8
 told:List As
def LS.close(L:LS)(code:Nat)(text:List UInt8):LS:={L with st:=5,sent:=L.sent++ctlB L.sz (xV code text)}
def LS.send(L:LS)(bs:List UInt8):LS:={L with sent:=L.sent++ctlB L.sz bs}
structure TAs where
 a:As
 A:Option Addr
 c:Nat
def taC(x:TAs):List Value:=[.int .u16 (x.a.chan:Int),.int .u8 (x.a.track:Int),.slice x.A x.a.segs.length x.c]
theorem Qe:RecShape taC 3:=⟨fun _=>rfl,fun a u h=>by simp[taC]at h;rcases h with rfl|rfl|rfl<;>rfl,by omega⟩
theorem slTA:SlT prog 29 42 3 32 (.agg #[.int .u16 0,.int .u8 0,.slice none 0 0]):=SlT.mk' underlying29 Wj rfl Wq
abbrev OwnT(w:World)(base:Nat)(A:Option Addr)(n c:Nat)(l:List TAs):Prop:=Own w base 42 3 A n c (rowC taC l)
structure LkM(w:World)(B:Nat)(U T:Nat→Prop)(lb n:Nat)(RA:Option Addr)(rn rc:Nat)(L:LS):Prop where
 ex:∃(gp:Nat) (p:Value) (SA:Option Addr) (sc:Nat) (TT:Option Addr) (tc:Nat) (th:List TAs) (F:Nat→Prop),
  Box w lb 61 #[.int .u8 (L.st:Int),.slice RA rn rc,.pointer (some ⟨gp,0,none⟩),.int .u64 (L.ch:Int),.int .u64 (L.sz:Int),p,.slice SA L.sent.length sc,.slice TT L.told.length tc]∧
  (p= .pointer none∨p=bPtr lb 5)∧Own w B 5 1 SA L.sent.length sc (L.sent.map u8v)∧OwnT w B TT L.told.length tc th∧L.told=th.map (·.a)∧
  (∀x∈th,OwnG w 0 x.A x.a.segs.length x.c x.a.segs∧∀b,blk x.A=some b→T b)∧Ga w F gp n L.g∧
  (∀b,F b→U b)∧(∀b,blk SA=some b→U b∧b≠lb∧¬F b∧blk TT≠some b)∧(∀b,blk TT=some b→U b∧b≠lb∧¬F b)∧¬F lb
 lb:U lb
 size:B≤w.heap.size
 uB:∀b,U b→B≤b∧b<w.heap.size
 tB:∀b,T b→b<w.heap.size
 ut:∀b,T b→¬U b
end Go.PH
namespace Go.PH
open Go.RowKit Go.Proofs Go.Proofs.Tryz
variable {is : Bool} {B lb n rc rn s st : Nat} {F T U : Nat → Prop} {RA : Option Addr} {fv : Value} {w w' : World}
theorem LkM.keep{L:LS}(h:LkM w B U T lb n RA rn rc L){G:Nat→Prop}(hk:KeepF G w w')(hU:∀k,U k→¬G k)(hT:∀k,T k→¬G k):LkM w' B U T lb n RA rn rc L where
 ex:=by
  obtain⟨gp,p,SA,sc,TT,tc,th,F,h1,h2,h3,h4,h5,h6,h7,h8,h9,dV,fa⟩:=h.ex
  exact⟨gp,p,SA,sc,TT,tc,th,F,zV h1 hk (hU _ h.lb),h2,zy h3 hk (fun b e=>hU _ (h9 b e).1),zy h4 hk (fun b e=>hU _ (dV b e).1),h5,fun x hx=>⟨zy (h6 x hx).1 hk (fun b e=>hT _ ((h6 x hx).2 b e)),(h6 x hx).2⟩,
   h7.keep (fun k hF=>hk.2.1 k (h7.lt k hF) (hU _ (h8 k hF))) hk.1,h8,h9,dV,fa⟩
 lb:=h.lb
 size:=Wb h.size hk.1
 uB:=fun b hb=>⟨(h.uB b hb).1,K1 (h.uB b hb).2 hk.1⟩
 tB:=fun b hb=>K1 (h.tB b hb) hk.1
 ut:=h.ut
theorem LkM.below{L:LS}(h:LkM w B U T lb n RA rn rc L)(hB:Below w.heap.size w w'):LkM w' B U T lb n RA rn rc L:=
 h.keep (KeepF.below (F:=fun _=>False) hB) (fun _ _ e=>e) (fun _ _ e=>e)
def LStep(w:World)(B:Nat)(U T:Nat→Prop)(lb n:Nat)(RA:Option Addr)(rn rc:Nat)(L:LS)(w':World):Prop:=
 ∃U' T',LkM w' B U' T' lb n RA rn rc L∧KeepF U w w'∧(∀k,U' k→U k∨w.heap.size≤k)∧(∀k,T' k→T k∨U k∨w.heap.size≤k)
theorem LStep.refl{L:LS}(h:LkM w B U T lb n RA rn rc L):LStep w B U T lb n RA rn rc L w:=⟨U,T,h,.refl _ _,fun _ h=>.inl h,fun _ h=>.inl h⟩
theorem LStep.of{w1 w2:World}{U1 T1:Nat→Prop}{L:LS}(hk:KeepF U w w1)(hU:∀k,U1 k→U k∨w.heap.size≤k)(hT:∀k,T1 k→T k∨U k∨w.heap.size≤k)(h:LStep w1 B U1 T1 lb n RA rn rc L w2):LStep w B U T lb n RA rn rc L w2:=by
 exact Z3a_
theorem LStep.from{w1 w2:World}{L:LS}(hB:Below w.heap.size w w1)(h:LStep w1 B U T lb n RA rn rc L w2):LStep w B U T lb n RA rn rc L w2:=
 .of (.below hB) (fun _ h=>.inl h) (fun _ h=>.inl h) h
theorem LkM.wrote{L L':LS}(h:LkM w B U T lb n RA rn rc L)(ii:L'.ch=L.ch)(Bm:L'.sz=L.sz)(hg:L'.g=L.g)(tz:L'.told=L.told)
  (hw:∀(cs:Array Value) (p:Value) (SA:Option Addr) (sc:Nat),Box w lb 61 cs→cs.size=8→cs[4]?=some (.int .u64 (L.sz:Int))→cs[5]?=some p→(p= .pointer none∨p=bPtr lb 5)→cs[6]?=some (.slice SA L.sent.length sc)→Own w B 5 1 SA L.sent.length sc (L.sent.map u8v)→blk SA≠some lb→
   cs[0]?=some (.int .u8 (L.st:Int))→
   (∃A2 c2,Box w' lb 61 (((cs.setIfInBounds 5 (bPtr lb 5)).setIfInBounds 6 (.slice A2 L'.sent.length c2)).setIfInBounds 0 (.int .u8 (L'.st:Int)))∧Own w' B 5 1 A2 L'.sent.length c2 (L'.sent.map u8v)∧blk A2≠some lb∧(blk A2=blk SA∨∀k,blk A2=some k→w.heap.size≤k))∧KeepF (fun k=>k=lb∨blk SA=some k) w w'):
  LStep w B U T lb n RA rn rc L' w':=by
 obtain⟨gp,p,SA,sc,TT,tc,th,F,h1,h2,h3,h4,h5,h6,h7,h8,h9,dV,fa⟩:=h.ex;obtain⟨⟨A2,c2,k1,k2,k3,k4⟩,hk⟩:=hw _ p SA sc h1 rfl rfl rfl h2 rfl h3 (fun e=>(h9 lb e).2.1 rfl) rfl;have hU:∀k,k=lb∨blk SA=some k→U k:=fun k e=>by rcases e with rfl|e;exact h.lb;exact(h9 k e).1
 have hT:∀k,T k→¬(k=lb∨blk SA=some k):=fun k hk e=>h.ut k hk (hU k e)
 have en:=hk.1;refine⟨fun k=>U k∨(w.heap.size≤k∧blk A2=some k),T,⟨⟨gp,bPtr lb 5,A2,c2,TT,tc,th,F,?_,.inr rfl,k2,?_,?_,?_,?_,fun b hb=>.inl (h8 b hb),fun b hb=>?_,fun b hb=>⟨.inl (dV b hb).1,(dV b hb).2⟩,fa⟩,.inl h.lb,Wb h.size en,fun b hb=>?_,fun b hb=>K1 (h.tB b hb) en,fun b hb e=>?_⟩,hk.weak (fun g hg=>.inl (hU g hg)),fun k hk=>by rcases hk with e|e;exact .inl e;exact .inr e.1,fun k hk=>.inl hk⟩
 ·rw[ii,Bm,tz];exact k1
 ·rw[tz];exact zy h4 hk (fun b hb e=>by rcases e with e|e;exact(dV b hb).2.1 e;exact(h9 b e).2.2.2 hb)
 ·rw[tz];exact h5
 ·exact fun x hx=>⟨zy (h6 x hx).1 hk (fun b e=>hT _ ((h6 x hx).2 b e)),(h6 x hx).2⟩
 ·rw[hg];exact h7.keep (fun k hF=>hk.2.1 k (h7.lt k hF) (fun e=>by rcases e with e|e;exact fa (e▸hF);exact(h9 k e).2.2.1 hF)) hk.1
 ·rcases k4 with e|e
  ·rw[e]at hb;exact⟨.inl (h9 b hb).1,(h9 b hb).2⟩
  have bE:=e b hb;exact⟨.inr ⟨bE,hb⟩,fun e2=>k3 (e2▸hb),fun hF=>by have:=h7.lt b hF;omega,fun e2=>by have:=(h4.blk_lt e2).2;omega⟩
 ·rcases hb with hb|hb
  ·exact⟨(h.uB b hb).1,K1 (h.uB b hb).2 en⟩
  exact k2.blk_lt hb.2
 rcases e with e|e
 ·exact h.ut b hb e
 have:=h.tB b hb;omega
theorem jU(code:Nat)(text:List UInt8)(gX:code<65536)(lI:text.length<256){L:LS}(h:LkM w B U T lb n RA rn rc L)(he:MEnv w)(Bm:L.sz≤1000000)(hs:L.sent.length≤10000000000):
  Calls prog 33 #[.pointer (some ⟨lb,0,none⟩),.int .u64 (code:Int),.string (str text)] w fun e w'=>e= .returned (.tuple #[])∧LStep w B U T lb n RA rn rc (L.close code text) w':=by
 have qqbu:=();exact Z2k_
theorem Qf(code:Nat)(S:List SA)(bs:List UInt8)(B6:CtlC code S bs)(iT:bs.length≤10000)(A:Option Addr)(m c:Nat){L:LS}(h:LkM w B U T lb n RA rn rc L)(he:MEnv w)(hr:Rd w w.heap.size 12 A m c (rowC saC S))(Bm:L.sz≤1000000)(hs:L.sent.length≤10000000000):
  Calls prog 36 #[.pointer (some ⟨lb,0,none⟩),.int .u8 (code:Int),.slice A m c] w fun e w'=>e= .returned (.tuple #[])∧LStep w B U T lb n RA rn rc (L.send bs) w':=by
 exact Z2k_
section
section
variable {w : World} {B : Nat} {U T : Nat → Prop} {lb n : Nat} {RA : Option Addr} {rn rc : Nat} {L : LS}
theorem LkM.c0(h:LkM w B U T lb n RA rn rc L):w.cell? ⟨lb,0,none⟩=some (.int .u8 (L.st:Int)):=by
 obtain⟨gp,p,SA,sc,TT,tc,th,F,h1,_⟩:=h.ex;exact h1.c0
theorem LkM.c1(h:LkM w B U T lb n RA rn rc L):w.cell? ⟨lb,1,none⟩=some (.slice RA rn rc):=by
 obtain⟨gp,p,SA,sc,TT,tc,th,F,h1,_⟩:=h.ex;exact h1.c1
theorem LkM.c3(h:LkM w B U T lb n RA rn rc L):w.cell? ⟨lb,3,none⟩=some (.int .u64 (L.ch:Int)):=by
 obtain⟨gp,p,SA,sc,TT,tc,th,F,h1,_⟩:=h.ex;exact h1.c3
theorem LkM.c4(h:LkM w B U T lb n RA rn rc L):w.cell? ⟨lb,4,none⟩=some (.int .u64 (L.sz:Int)):=by
 obtain⟨gp,p,SA,sc,TT,tc,th,F,h1,_⟩:=h.ex;exact h1.c4
theorem LkM.blt(h:LkM w B U T lb n RA rn rc L):lb<w.heap.size:=(h.uB _ h.lb).2
theorem LkM.more(h:LkM w B U T lb n RA rn rc L){T2:Nat→Prop}(h1:∀k,T k→T2 k)(h2:∀k,T2 k→k<w.heap.size∧¬U k):LkM w B U T2 lb n RA rn rc L where
 ex:=by
  obtain⟨gp,p,SA,sc,TT,tc,th,F,k1,k2,k3,k4,k5,k6,k7⟩:=h.ex;exact⟨gp,p,SA,sc,TT,tc,th,F,k1,k2,k3,k4,k5,fun x hx=>⟨(k6 x hx).1,fun b e=>h1 b ((k6 x hx).2 b e)⟩,k7⟩
 lb:=h.lb
 size:=h.size
 uB:=h.uB
 tB:=fun b hb=>(h2 b hb).1
 ut:=fun b hb=>(h2 b hb).2
theorem LkM.gath(h:LkM w B U T lb n RA rn rc L):∃gp F,w.cell? ⟨lb,2,none⟩=some (.pointer (some ⟨gp,0,none⟩))∧Ga w F gp n L.g∧(∀b,F b→U b)∧¬F lb∧
  ∀w' F' g',(∀k,F' k→F k∨w.heap.size≤k)→Ga w' F' gp (n+1) g'→KeepF F w w'→LkM w' B (fun k=>(U k∧¬F k)∨F' k) T lb (n+1) RA rn rc {L with g:=g'}:=by
 obtain⟨gp,p,SA,sc,TT,tc,th,F,h1,h2,h3,h4,h5,h6,h7,h8,h9,dV,fa⟩:=h.ex;refine⟨gp,F,h1.cell (j:=2) rfl,h7,h8,fa,fun w' F' g' hF cL hk=>⟨⟨gp,p,SA,sc,TT,tc,th,F',zV h1 hk fa,h2,zy h3 hk (fun b e=>(h9 b e).2.2.1),zy h4 hk (fun b e=>(dV b e).2.2),h5,fun x hx=>⟨zy (h6 x hx).1 hk (fun b e hb=>h.ut b ((h6 x hx).2 b e) (h8 b hb)),(h6 x hx).2⟩,cL,fun b hb=>.inr hb,fun b hb=>?_,fun b hb=>?_,fun e=>?_⟩,.inl ⟨h.lb,fa⟩,Wb h.size hk.1,fun b hb=>?_,fun b hb=>K1 (h.tB b hb) hk.1,fun b hb e=>?_⟩⟩
 ·refine⟨.inl ⟨(h9 b hb).1,(h9 b hb).2.2.1⟩,(h9 b hb).2.1,fun e=>?_,(h9 b hb).2.2.2⟩;rcases hF b e with e|e
  ·exact(h9 b hb).2.2.1 e
  have:=(h3.blk_lt hb).2;omega
 ·refine⟨.inl ⟨(dV b hb).1,(dV b hb).2.2⟩,(dV b hb).2.1,fun e=>?_⟩;rcases hF b e with e|e
  ·exact(dV b hb).2.2 e
  have:=(h4.blk_lt hb).2;omega
 ·rcases hF lb e with e|e
  ·exact fa e
  have:=h.blt;omega
 ·have hs:=h.size;have hkz:=hk.1;rcases hb with hb|hb
  ·exact⟨(h.uB b hb.1).1,K1 (h.uB b hb.1).2 hk.1⟩
  refine⟨?_,cL.lt b hb⟩;rcases hF b hb with e|e
  ·exact(h.uB b (h8 b e)).1
  omega
 rcases e with e|e
 ·exact h.ut b hb e.1
 rcases hF b e with e|e
 ·exact h.ut b hb (h8 b e)
 have:=h.tB b hb;omega
theorem LkM.tells(h:LkM w B U T lb n RA rn rc L):∃TT tc th cs,Box w lb 61 cs∧cs.size=8∧cs[7]?=some (.slice TT L.told.length tc)∧OwnT w B TT L.told.length tc th∧(∀b,blk TT=some b→U b∧b≠lb)∧
  ∀(a:As) (A:Option Addr) (c:Nat) w2 w3 pu Dq,OwnG w 0 A a.segs.length c a.segs→(∀b,blk A=some b→T b)→OwnT w2 B pu (L.told.length+1) Dq (th++ [⟨a,A,c⟩])→w.grownBy w2 (blk TT)→(blk pu=blk TT∨∀k,blk pu=some k→w.heap.size≤k)→
   Box w3 lb 61 (cs.setIfInBounds 7 (.slice pu (L.told.length+1) Dq))→w2.grownBy w3 (some lb)→LStep w B U T lb n RA rn rc {L with told:=L.told++ [a]} w3:=by
 obtain⟨gp,p,SA,sc,TT,tc,th,F,h1,h2,h3,h4,h5,h6,h7,h8,h9,dV,fa⟩:=h.ex;refine⟨TT,tc,th,_,h1,rfl,rfl,h4,fun b e=>⟨(dV b e).1,(dV b e).2.1⟩,fun a A c w2 w3 pu Dq hG hA hO Hm Dh bX H7=>?_⟩;have Bk:KeepF (fun k=>blk TT=some k) w w2:=.grown Hm (fun g hg=>.inl hg);have ft:KeepF (fun k=>k=lb) w2 w3:=.grown H7 (fun g hg=>.inl Hx);have hk:KeepF (fun k=>k=lb∨blk TT=some k) w w3:=(Bk.weak (fun g hg=>.inl (.inr hg))).trans (ft.weak (G:=fun k=>k=lb∨blk TT=some k) (fun g hg=>.inl (.inl hg))) (fun g hg=>.inl hg)
 have eJ:∀b,blk pu=some b→b≠lb:=fun b e e2=>by
  rcases Dh with e3|e3
  ·rw[e3]at e;exact(dV b e).2.1 e2
  have:=e3 b e;have:=h.blt;omega
 have eN:=zy hO ft eJ;have hU:∀k,k=lb∨blk TT=some k→U k:=fun k e=>by rcases e with rfl|e;exact h.lb;exact(dV k e).1
 have hT:∀k,T k→¬(k=lb∨blk TT=some k):=fun k hk e=>h.ut k hk (hU k e)
 have en:=hk.1;refine⟨fun k=>U k∨(w.heap.size≤k∧blk pu=some k),T,⟨⟨gp,p,SA,sc,pu,Dq,th++ [⟨a,A,c⟩],F,?_,h2,?_,?_,?_,?_,?_,fun b hb=>.inl (h8 b hb),fun b hb=>?_,fun b hb=>?_,fa⟩,.inl h.lb,Wb h.size en,fun b hb=>?_,fun b hb=>K1 (h.tB b hb) en,fun b hb e=>?_⟩,hk.weak (fun g hg=>.inl (hU g hg)),fun k hk=>by rcases hk with e|e;exact .inl e;exact .inr e.1,fun k hk=>.inl hk⟩
 ·rw[Vx];exact bX
 ·exact zy h3 hk (fun b hb e=>by rcases e with e|e;exact(h9 b hb).2.1 e;exact(h9 b hb).2.2.2 e)
 ·rw[Vx];exact eN
 ·rw[y5,←h5];rfl
 ·intro x hx;rcases List.mem_append.1 hx with hx|hx
  ·exact⟨zy (h6 x hx).1 hk (fun b e=>hT _ ((h6 x hx).2 b e)),(h6 x hx).2⟩
  obtain rfl:x=⟨a,A,c⟩:=by simpa using hx
  exact⟨zy hG hk (fun b e=>hT _ (hA b e)),hA⟩
 ·exact h7.keep (fun k hF=>hk.2.1 k (h7.lt k hF) (fun e=>by rcases e with e|e;exact fa (e▸hF);exact(dV k e).2.2 hF)) hk.1
 ·refine⟨.inl (h9 b hb).1,(h9 b hb).2.1,(h9 b hb).2.2.1,fun e=>?_⟩;rcases Dh with e2|e2
  ·rw[e2]at e;exact(h9 b hb).2.2.2 e
  have:=e2 b e;have:=(h3.blk_lt hb).2;omega
 ·rcases Dh with e2|e2
  ·rw[e2]at hb;exact⟨.inl (dV b hb).1,(dV b hb).2⟩
  exact⟨.inr ⟨e2 b hb,hb⟩,eJ b hb,fun hF=>by have:=h7.lt b hF;have:=e2 b hb;omega⟩
 ·rcases hb with hb|hb
  ·exact⟨(h.uB b hb).1,K1 (h.uB b hb).2 en⟩
  exact eN.blk_lt hb.2
 rcases e with e|e
 ·exact h.ut b hb e
 have:=h.tB b hb;omega
end
end
def yt:List UInt8:=[102,114,97,109,101]
def LS.take(ctl:LS→As→LS)(L:LS)(f:Fr):LS:=
 if L.sz<f.load.length+12∨L.ch<f.chan then L.close 501 yt
 else match L.g.out f with
  | none=>if L.g.err f=0 then{L with g:=L.g.next f}else LS.close {L with g:=L.g.next f} 501 yt
  | some a=>if a.chan=0 then ctl {L with g:=L.g.next f} a else if L.st=4 then{L with g:=L.g.next f,told:=L.told++ [a]}else LS.close {L with g:=L.g.next f} 501 yt
theorem LkM.mono{m:Nat}{L:LS}(h:LkM w B U T lb n RA rn rc L)(hn:n≤m):LkM w B U T lb m RA rn rc L where
 ex:=by
  obtain⟨gp,p,SA,sc,TT,tc,th,F,k1,k2,k3,k4,k5,k6,k7,k8⟩:=h.ex;exact⟨gp,p,SA,sc,TT,tc,th,F,k1,k2,k3,k4,k5,k6,k7.mono hn,k8⟩
 lb:=h.lb
 size:=h.size
 uB:=h.uB
 tB:=h.tB
 ut:=h.ut
def LTakeR(w:World)(B:Nat)(U T:Nat→Prop)(lb n:Nat)(RA:Option Addr)(rn rc:Nat)(L:LS)(f:Fr)(o:Option Nat)(cs:Array Value)(s5 s6:Value)(wx:World):Prop:=
 ∃U' T',(∀b,o=some b→¬U' b)∧LkM wx B U' T' lb (n+1) RA rn rc {L with g:=L.g.next f}∧KeepF U w wx∧(∀k,U' k→U k∨w.heap.size≤k)∧(∀k,T' k→T k∨U k∨w.heap.size≤k)∧
  ((L.g.out f=none∧s5= .bool false∧s6= .int .i64 (L.g.err f:Int)∧cs=asZ)∨
   (∃a A c,L.g.out f=some a∧s5= .bool true∧s6= .int .i64 0∧cs=asV a.chan a.track A a.segs.length c∧OwnG wx 0 A a.segs.length c a.segs∧∀b,blk A=some b→T' b))
theorem LTakeR.done{v vz v' w6:World}{L:LS}{f:Fr}{cs:Array Value}{s5 s6:Value}{G:Nat→Prop}{o:Option Nat}(h:LTakeR vz B U T lb n RA rn rc L f o cs s5 s6 v')(hU:∀k,U k→k<v.heap.size)(hT:∀k,T k→k<v.heap.size)(hB:Below v.heap.size v vz)(hk:KeepF G v' w6)
  (hG:∀k,G k→v.heap.size≤k∧(k<vz.heap.size∨v'.heap.size≤k)) (tb:Nat) (ht:v.heap.size≤tb∧(tb<vz.heap.size∨v'.heap.size≤tb)):LTakeR v B U T lb n RA rn rc L f (some tb) cs s5 s6 w6:=by
 obtain⟨U',T',_,h1,h2,h3,h4,h5⟩:=h;have hz:=hB.size;have et:=h2.1
 have gU:∀k,U' k→¬G k:=fun k hk' hg=>by
  have:=hG k hg;have:=(h1.uB k hk').2;rcases h3 k hk' with e|e
  ·have:=hU k e;omega
  omega
 have gT:∀k,T' k→¬G k:=fun k hk' hg=>by
  have:=hG k hg;have:=h1.tB k hk';rcases h4 k hk' with e|e|e
  ·have:=hT k e;omega
  ·have:=hU k e;omega
  omega
 have gt:¬U' tb:=fun e=>by
  have:=(h1.uB tb e).2;rcases h3 tb e with e|e
  ·have:=hU tb e;omega
  omega
 refine⟨U',T',fun b e=>by injection e with e;rw[←e];exact gt,h1.keep hk gU gT,((KeepF.below hB).trans h2 (fun g hg=>.inl hg)).trans hk (fun g hg=>.inr (hG g hg).1),fun k hk'=>?_,fun k hk'=>?_,?_⟩
 ·rcases h3 k hk' with e|e
  ·exact .inl e
  exact .inr Wq
 ·rcases h4 k hk' with e|e|e
  ·exact .inl e
  ·exact .inr (.inl e)
  exact .inr (.inr Wq)
 rcases h5 with h5|⟨a,A,c,e1,e2,e3,e4,e5,e6⟩
 ·exact .inl h5
 exact .inr ⟨a,A,c,e1,e2,e3,e4,zy e5 hk (fun b hb=>gT b (e6 b hb)),e6⟩
theorem XF{v v':World}{gp:Nat}{L:LS}{f:Fr}{e:Ending}(h:LkM v B U T lb n RA rn rc L)(u6:∀b,F b→U b)
  (iS:∀w' F' g',(∀k,F' k→F k∨v.heap.size≤k)→Ga w' F' gp (n+1) g'→KeepF F v w'→LkM w' B (fun k=>(U k∧¬F k)∨F' k) T lb (n+1) RA rn rc {L with g:=g'})
  (hR:Kv v F gp n L.g f e v'):∃cs s5 s6,e= .returned (.tuple #[.agg cs,s5,s6])∧LTakeR v B U T lb n RA rn rc L f none cs s5 s6 v':=by
 obtain⟨F',IR,cL,hk,fX⟩:=hR;have hM:=iS v' F' _ IR cL hk;have Nr:KeepF U v v':=hk.weak (fun g hg=>.inl (u6 g hg))
 have nW:∀k,(U k∧¬F k)∨F' k→U k∨v.heap.size≤k:=fun k e=>by
  rcases e with e|e
  ·exact .inl e.1
  rcases IR k e with e|e
  ·exact .inl (u6 k e)
  exact .inr e
 rcases fX with⟨ho,rfl⟩|⟨a,A,c,ho,rfl,hG,hA⟩
 ·exact⟨_,_,_,rfl,_,T,(fun b e=>by cases e),hM,Nr,nW,fun k e=>.inl e,.inl ⟨ho,rfl,rfl,rfl⟩⟩
 refine⟨_,_,_,rfl,_,fun k=>T k∨blk A=some k,(fun b e=>by cases e),hM.more (fun k e=>.inl e) (fun k e=>?_),Nr,nW,fun k e=>?_,.inr ⟨a,A,c,ho,rfl,rfl,rfl,hG,fun b e=>.inr e⟩⟩
 ·rcases e with e|e
  ·refine⟨hM.tB k e,hM.ut k e⟩
  refine⟨(hG.blk_lt e).2,fun e2=>?_⟩;have hh:=hA k e;rcases e2 with e2|e2
  ·rcases hh.2 with e3|e3
   ·exact e2.2 e3
   have:=(h.uB k e2.1).2;omega
  exact hh.1 e2
 rcases e with e|e
 ·exact .inl e
 rcases(hA k e).2 with e3|e3
 ·exact .inr (.inl (u6 k e3))
 exact .inr (.inr e3)
theorem ku{L:LS}{f:Fr}{cs:Array Value}{s5 s6:Value}{wx:World}{o:Option Nat}(h:LTakeR w B U T lb n RA rn rc L f o cs s5 s6 wx):∃x0 x1 x2,cs= #[x0,x1,x2]∧x0.oneCell'=true∧x1.oneCell'=true∧x2.oneCell'=true:=by
 obtain⟨U',T',_,_,_,_,_,h5⟩:=h;rcases h5 with⟨_,_,_,rfl⟩|⟨a,A,c,_,_,_,rfl,_⟩
 ·exact⟨_,_,_,rfl,rfl,rfl,rfl⟩
 exact⟨_,_,_,rfl,rfl,rfl,rfl⟩
theorem Vn(ctl:LS→As→LS)(f:Fr){L:LS}(h:LkM w B U T lb n RA rn rc L)(hi:L.g.Inv)(hf:f.wf)(hl:f.load.length≤1000000)(hn:n<1000000000)(he:MEnv w)(fB:0<B)(Bm:L.sz≤1000000)(ii:L.ch<65536)(hs:L.sent.length≤10000000000)(tz:L.told.length≤1000000000)
  (B6:∀a A c W U' T',L.g.out f=some a→a.chan=0→LkM W B U' T' lb (n+1) RA rn rc {L with g:=L.g.next f}→OwnG W 0 A a.segs.length c a.segs→(∀b,blk A=some b→T' b)→MEnv W→Below B w W→
   Calls prog 56 #[.pointer (some ⟨lb,0,none⟩),.agg (asV a.chan a.track A a.segs.length c)] W fun e w'=>e= .returned (.tuple #[])∧LStep W B U' T' lb (n+1) RA rn rc (ctl {L with g:=L.g.next f} a) w'):
  Calls prog 39 #[.pointer (some ⟨lb,0,none⟩),.agg (frV f)] w fun e w'=>e= .returned (.tuple #[])∧LStep w B U T lb (n+1) RA rn rc (L.take ctl f) w':=by
 have nh:=h.blt;obtain⟨fb,w0,uH,pj,io,Hr⟩:=zo w (frV f) 97;have nR:w.heap.size≤fb:=by omega
 have h0:=h.below Hr;have oW:=he.on Hr;have hfc:f.chan<65536:=hf.2.2;have c3:=h0.c3;have c4:=h0.c4;have dr:=zh f.load;unfold frV at pj io ⊢;have f6:=io.c6;have f7:=io.c7;go_enter func39,ntmps39;go_upto_region 1 with fail;rw[←uH,←pj];clear uH pj;by_cases q1:L.sz<f.load.length+12
 ·exact Z22_
 have d1:decide ((L.sz:Int)<(f.load.length:Int)+12)=false:=by simp;omega
 by_cases q2:L.ch<f.chan
 ·have qqa1:=();exact Z22_
 have d2:¬(L.ch:Int)<(f.chan:Int):=by omega
 have HR:=Q1 (show L.take ctl f=match L.g.out f with
  | none=>if L.g.err f=0 then{L with g:=L.g.next f}else LS.close {L with g:=L.g.next f} 501 yt
  | some a=>if a.chan=0 then ctl {L with g:=L.g.next f} a else if L.st=4 then{L with g:=L.g.next f,told:=L.told++ [a]}else LS.close {L with g:=L.g.next f} 501 yt by unfold LS.take;rw[if_neg Wq])
 try simp only[Act.put]
 go_quiet(fail);clear c3 c4 f6 f7 d1 d2;have h1:=h0.below (za (KS _ _) nq);have eH:=io.below (za (KS _ _) nq);have Ha:=za Hr nq;have Ci:=oW.on (za (KS w0.heap.size w0) nq);clear h0 oW io dr;go_upto_region 3 with fail;have uk:lb≠fb:=by omega
 have Pb:∀k,U k→k≠fb:=fun k hk=>by have:=(h.uB k hk).2;omega
 clear Hr nR;generalize w0.drewN nq=wq at*;go_cut [4,5,6]from 29 to 38 (fun s4 s5 s6 wx=>∃tb cs,s4= .pointer (some ⟨tb,0,none⟩)∧Box wx tb 42 cs∧LTakeR wq B U T lb n RA rn rc L f (some tb) cs s5 s6 wx)
 case first=>
  have CZ:∀k,U k→k<wq.heap.size:=fun k hk=>(h1.uB k hk).2
  have MO:∀k,T k→k<wq.heap.size:=h1.tB
  have B9:Below wq.heap.size wq wq.drew:=za (KS _ wq) 1;have h2:=h1.below B9;obtain⟨gp,F,dN,cL,u6,d7,iS⟩:=h2.gath;have F8:¬F fb:=fun e=>Pb _ (u6 _ e) rfl
  refine zt (fun W:World=>W.cell? ⟨lb,2,none⟩=some (.pointer (some ⟨gp,0,none⟩))∧Box W fb 97 #[.bool f.first,.bool f.last,.bool f.beg,.bool f.fin,.int .u8 (f.ty:Int),.int .u8 (f.track:Int),.int .u16 (f.chan:Int),.string (str f.load)]) Wj ?_;have hS:wq.drew.cell? ⟨lb,2,none⟩=some (.pointer (some ⟨gp,0,none⟩))∧Box wq.drew fb 97 #[.bool f.first,.bool f.last,.bool f.beg,.bool f.fin,.int .u8 (f.ty:Int),.int .u8 (f.track:Int),.int .u16 (f.chan:Int),.string (str f.load)]:=⟨dN,eH.below B9⟩;have Au:=eH.lt;clear B6 h h1 eH;refine rg_t 0 hS ?_;simp only[vv,ky,Act.put,v4,v5,j1];refine rg_t 1 hS ?_;simp only[g_S];refine rg_t 2 hS ?_;simp only[g_S];refine ze 3 (v:=?_) rfl Wj Wj Wj hS rfl ?_ ?_;rotate_left
  ·intro wS He;have k0:=He.1;go_simp;(with_reducible rfl)
  simp only[g_S];refine ze 4 (v:=?_) rfl Wj Wj Wj hS rfl ?_ ?_;rotate_left
  ·exact Z38_
  simp only[g_S];refine xO 5 10 rfl rfl Wj rfl rfl (fun K hK=>?_) (fun K hK=>?_)
  ·go_simp;refine(Xi F gp n L.g f wq.drew cL hi hf Wq hn).mono ?_;rintro e v1 hR;have rB:=hR.choose_spec.2.2.1;obtain⟨cs,s5,s6,rfl,sq⟩:=XF h2 u6 iS hR;obtain⟨x0,x1,x2,rfl,y0,y1,y2⟩:=ku sq;have BH:v1.cell? ⟨lb,2,none⟩=some (.pointer (some ⟨gp,0,none⟩))∧Box v1 fb 97 #[.bool f.first,.bool f.last,.bool f.beg,.bool f.fin,.int .u8 (f.ty:Int),.int .u8 (f.track:Int),.int .u16 (f.chan:Int),.string (str f.load)]:=⟨by have hx:=rB.2.1 lb h2.blt d7;unfold q6 at dN ⊢;rw[hx];exact dN,zV hS.2 rB F8⟩;clear hR iS cL h2 rB;refine hK _ _ BH ?_;clear hK K;refine rg_t 6 BH ?_;simp only[g_S];refine rg_t 7 BH ?_;simp only[g_S];refine rg_t 8 BH ?_;simp only[g_S];refine rg_t 9 BH ?_;simp only[g_S];have hz:=Box.new v1 #[.int .u16 0,.int .u8 0,.slice none 0 0] 42;(obtain⟨v2,fj⟩:∃v,v=v1.alloc (.cells #[.int .u16 0,.int .u8 0,.slice none 0 0] 42):=⟨_,rfl⟩);(have Hc:Below v1.heap.size v1 v2:=by rw[fj];exact(KS _ _).alloc (K0 _) _);have BI:v2.cell? ⟨lb,2,none⟩=some (.pointer (some ⟨gp,0,none⟩))∧Box v2 fb 97 #[.bool f.first,.bool f.last,.bool f.beg,.bool f.fin,.int .u8 (f.ty:Int),.int .u8 (f.track:Int),.int .u16 (f.chan:Int),.string (str f.load)]:=⟨(Hc.cell (p:=⟨lb,2,none⟩) (q8 _ _ BH.1)).trans BH.1,BH.2.below Hc⟩;rw[←fj]at hz;refine zj 10 rfl Wj rfl (fun K hK=>?_);go_simp;rw[←fj];refine hK _ _ BI ?_;clear hK K;(obtain⟨tb,gQ⟩:∃b,b=v1.heap.size:=⟨_,rfl⟩);rw[←gQ]at hz;rw[←gQ];refine zj 11 rfl Wj rfl (fun K hK=>?_);refine zK (v:=.agg #[x0,x1,x2]) (vs:=[x0,x1,x2]) rfl rfl rfl hz rfl Wj Wz (by simp[y0,y1,y2]) #[x0,x1,x2] Wz ?_;intro v3 bX H7 fV;clear fV;have Hh:Below v1.heap.size v1 v3:=Hc.grown H7 Hc.size (fun g e=>by injection e with e;omega);have dL:v3.cell? ⟨lb,2,none⟩=some (.pointer (some ⟨gp,0,none⟩))∧Box v3 fb 97 #[.bool f.first,.bool f.last,.bool f.beg,.bool f.fin,.int .u8 (f.ty:Int),.int .u8 (f.track:Int),.int .u16 (f.chan:Int),.string (str f.load)]:=⟨(Hh.cell (p:=⟨lb,2,none⟩) (q8 _ _ BH.1)).trans BH.1,BH.2.below Hh⟩;refine hK _ _ dL ?_;clear hK K;refine zj 12 rfl Wj rfl (fun K hK=>?_);go_simp;refine hK _ _ dL ?_;clear hK K;refine zj 13 rfl Wj rfl (fun K hK=>?_);go_simp;refine hK _ _ dL ?_;clear hK K;refine zD Wj ?_;go_wp2_with fail;go_meet;exact⟨tb,#[x0,x1,x2],by rw[gQ],bX,sq.done CZ MO B9 (KeepF.below (F:=fun _=>False) Hh) (fun k e=>e.elim) tb ⟨by have:=sq.choose_spec.choose_spec.2.2.1.1;have:=B9.size;omega,.inr Wq⟩⟩
  clear iS cL;have hz:=Box.new wq.drew #[.int .u16 0,.int .u8 0,.slice none 0 0] 42;obtain⟨v0,Gr⟩:∃v,v=wq.drew.alloc (.cells #[.int .u16 0,.int .u8 0,.slice none 0 0] 42):=⟨_,rfl⟩
  have Hr:Below wq.drew.heap.size wq.drew v0:=by rw[Gr];exact(KS _ _).alloc (K0 _) _
  rw[←Gr]at hz;have PI:v0.cell? ⟨lb,2,none⟩=some (.pointer (some ⟨gp,0,none⟩))∧Box v0 fb 97 #[.bool f.first,.bool f.last,.bool f.beg,.bool f.fin,.int .u8 (f.ty:Int),.int .u8 (f.track:Int),.int .u16 (f.chan:Int),.string (str f.load)]:=⟨(Hr.cell (p:=⟨lb,2,none⟩) (q8 _ _ hS.1)).trans hS.1,hS.2.below Hr⟩;obtain⟨tb,gQ⟩:∃b,b=wq.drew.heap.size:=⟨_,rfl⟩
  rw[←gQ]at hz;have Uc:tb=wq.heap.size:=gQ;go_simp;rw[show(wq.alloc (.cells #[.int .u16 0,.int .u8 0,.slice none 0 0] 42)).drew=v0 from Gr.symm,←Uc];refine hK _ _ PI ?_;clear hK K;have dM:Below wq.heap.size wq v0:=B9.trans (Hr.mono B9.size);have T3:=hz.lt;have h3:=h2.below Hr;have him:wq.heap.size≤tb:=by omega
  have hfu:tb≤wq.heap.size:=by omega
  clear Uc;clear Gr gQ h2 u6 d7 F8 F;obtain⟨gq,F,Cg,cL,u6,d7,iS⟩:=h3.gath;obtain rfl:gp=gq:=by have e:=PI.1.symm.trans Cg;injection e with e;injection e with e;injection e with e;injection e
  have F8:¬F fb:=fun e=>Pb _ (u6 _ e) rfl
  have Rx:¬F tb:=fun e=>by have:=CZ _ (u6 _ e);omega
  refine zj 5 rfl Wj rfl (fun K hK=>?_);go_simp;refine(Xi F gp n L.g f v0 cL hi hf Wq hn).mono ?_;rintro e v1 hR;have rB:=hR.choose_spec.2.2.1;obtain⟨cs,s5,s6,rfl,sq⟩:=XF h3 u6 iS hR;obtain⟨x0,x1,x2,rfl,y0,y1,y2⟩:=ku sq;have BH:v1.cell? ⟨lb,2,none⟩=some (.pointer (some ⟨gp,0,none⟩))∧Box v1 fb 97 #[.bool f.first,.bool f.last,.bool f.beg,.bool f.fin,.int .u8 (f.ty:Int),.int .u8 (f.track:Int),.int .u16 (f.chan:Int),.string (str f.load)]:=⟨by have hx:=rB.2.1 lb h3.blt d7;unfold q6 at Cg ⊢;rw[hx];exact Cg,zV PI.2 rB F8⟩;have cq:=zV hz rB Rx;clear hR iS cL rB hz;refine hK _ _ BH ?_;clear hK K;refine rg_t 6 BH ?_;simp only[g_S];refine rg_t 7 BH ?_;simp only[g_S];refine rg_t 8 BH ?_;simp only[g_S];refine rg_t 9 BH ?_;simp only[g_S];refine zj 11 rfl Wj rfl (fun K hK=>?_);refine zK (v:=.agg #[x0,x1,x2]) (vs:=[x0,x1,x2]) rfl rfl rfl cq rfl Wj Wz (by simp[y0,y1,y2]) #[x0,x1,x2] Wz ?_;intro v3 bX H7 fV;clear fV;have hlt:lb≠tb:=by have:=h3.blt;have:=CZ _ h3.lb;omega
  have Az:fb≠tb:=by have:=Au;omega
  have ft:KeepF (fun k=>k=tb) v1 v3:=.grown H7 (fun g e=>.inl uq);have dL:v3.cell? ⟨lb,2,none⟩=some (.pointer (some ⟨gp,0,none⟩))∧Box v3 fb 97 #[.bool f.first,.bool f.last,.bool f.beg,.bool f.fin,.int .u8 (f.ty:Int),.int .u8 (f.track:Int),.int .u16 (f.chan:Int),.string (str f.load)]:=⟨by have hx:=ft.2.1 lb (q8 _ _ BH.1) hlt;have hc:=BH.1;unfold q6 at hc ⊢;rw[hx];exact hc,zV BH.2 ft Az⟩;refine hK _ _ dL ?_;clear hK K;refine zj 12 rfl Wj rfl (fun K hK=>?_);go_simp;refine hK _ _ dL ?_;clear hK K;refine zj 13 rfl Wj rfl (fun K hK=>?_);go_simp;refine hK _ _ dL ?_;clear hK K;refine zD Wj ?_;go_wp2_with fail;go_meet;exact⟨tb,#[x0,x1,x2],rfl,bX,sq.done CZ MO dM ft (fun k e=>by subst e;exact⟨by omega,.inl T3⟩) tb ⟨by omega,.inl T3⟩⟩
 obtain⟨tb,cs,rfl,fe,U',T',Mf,hM,Gj,nW,sD,fX⟩:=hcut;have cq:=Ha.size;have hK:KeepF U w wc:=(KeepF.below Ha).trans Gj (fun g hg=>.inl hg);have wE:∀k,U' k→U k∨w.heap.size≤k:=fun k e=>(nW k e).imp id zAf
 have wG:∀k,T' k→T k∨U k∨w.heap.size≤k:=fun k e=>(sD k e).imp id (fun e=>e.imp id zAf)
 have EW:¬U 0:=fun e=>by have:=(h.uB _ e).1;omega
 have Ij:=Ci.onK Gj EW;have gv:∀{w9:World} {M:LS},LStep wc B U' T' lb (n+1) RA rn rc M w9→LStep w B U T lb (n+1) RA rn rc M w9:=fun bR=>LStep.of hK wE wG bR
 have k0:=hM.c0;have oR:Below B w wc:=(Ha.mono h.size).trans (Gj.toBelow (Wb h.size cq) (fun g hg=>(h.uB g hg).1));clear Gj nW sD cq hK wE wG EW Ci Ha h1 eH h Pb uk;rcases fX with⟨ho,rfl,rfl,rfl⟩|⟨a,A,c,ho,rfl,rfl,rfl,hG,hA⟩
 ·rw[ho]at HR;have HQ:=Q1 HR.out;clear HR B6 k0 fe;obtain⟨er,G0⟩:∃er,er=L.g.err f:=⟨_,rfl⟩
  rw[←G0]at HQ ⊢;by_cases h0:er=0
  ·subst h0;clear G0;go_wp2_with(with_reducible refine h_A ?_);go_end0;exact⟨rfl,by rw[HQ.out];exact gv (LStep.refl hM)⟩
  have qqao:=();exact Z25_
 rw[ho]at HR;have HQ:=Q1 HR.out;clear HR;unfold asV at fe;have b0:=fe.c0;have b1:=fe.c1;have b2:=fe.c2;by_cases h0:a.chan=0
 ·have hc:=B6 a A c wc U' T' ho h0 hM hG hA Ij oR;have i9:=Q1 (HQ.out.trans (if_pos h0));unfold asV at hc;clear HQ B6 ho hM hG hA Ij k0;have h1:(a.chan:Int)=0:=by omega
  rw[h1]at hc b0;go_wp2_with(with_reducible refine h_A ?_);refine hc.mono ?_;rintro e w9 ⟨rfl,bR⟩;clear hc;go_wp2_with(with_reducible refine h_A ?_);go_end0;exact⟨rfl,by rw[i9.out];exact gv bR⟩
 have i9:=Q1 (HQ.out.trans (if_neg h0));have h1:¬(a.chan:Int)=0:=by omega
 clear HQ B6 ho h0;by_cases h4:L.st=4
 ·have NV:=Q1 (i9.out.trans (if_pos h4));have k4:((L.st:Nat):Int)=4:=by omega
  change wc.cell? ⟨lb,0,none⟩=some (.int .u8 (L.st:Int))at k0;rw[k4]at k0;clear i9 h4 k4;go_upto_region 11 with fail;have gQ:¬U' tb:=Mf tb rfl;have B9:Below wc.heap.size wc wc.drew:=za (KS _ wc) 1;have Dz:=hM.below B9;have TY:OwnG wc.drew 0 A a.segs.length c a.segs:=zi hG B9;have iq:=fe.below B9;clear b0 b1 b2 k0 fe hG hM Ij Mf fB;obtain⟨TT,tc,th,cs,NP,fZ,h7,hO,Gb,dR⟩:=Dz.tells;have fe:=iq.lt;have hlt:lb≠tb:=fun e=>gQ (e▸Dz.lb)
  have ND:∀b,blk TT=some b→b≠tb:=fun b e e2=>gQ (e2▸(Gb b e).1)
  have iT:=Dz.size;clear Dz;have k7:=NP.cell h7;have k0:=iq.c0;have k1:=iq.c1;have k2:=iq.c2;clear k0 k1 k2;refine zt (fun W:World=>Box W tb 42 #[.int .u16 (a.chan:Int),.int .u8 (a.track:Int),.slice A a.segs.length c]) Wj ?_;have hS:=iq;generalize wc.drew=wd at*;refine rg_t 0 hS ?_;simp only[vv,ky,Act.put,v4,v5,j1];refine rg_t 1 hS ?_;simp only[g_S];refine rg_t 2 hS ?_;simp only[g_S];refine rg_t 3 hS ?_;simp only[g_S];refine ze 5 (v:=?_) rfl Wj Wj Wj hS rfl ?_ ?_;rotate_left
  ·intro wS He;have k0:=He.cell (j:=0) rfl;have k1:=He.cell (j:=1) rfl;have k2:=He.cell (j:=2) rfl;go_simp;(with_reducible rfl)
  simp only[g_S];refine xO 4 6 rfl rfl Wj rfl rfl (fun K hK=>?_) (fun K hK=>?_)
  ·have qq96:=();exact Z1r_
  exact Z1r_
 have qqap:=();exact Z25_
def LS.goes(ctl:LS→As→LS):LS→List Fr→LS
 | L,[]=>L
 | L,f::l=>if L.st=5 then L else LS.goes ctl (L.take ctl f) l
def LS.frames(ctl:LS→As→LS)(L:LS)(l:List Fr)(e:Nat):LS:=
 if e≠0∧(L.goes ctl l).st≠5 then(L.goes ctl l).close 501 yt else L.goes ctl l
theorem LS.goes_closed{ctl:LS→As→LS}{L:LS}(h:L.st=5):∀l,L.goes ctl l=L
 | []=>rfl
 | _::_=>by unfold LS.goes;rw[if_pos h]
theorem LkM.setRest{L:LS}(h:LkM w B U T lb n RA rn rc L)(A:Option Addr)(m c:Nat):LkM (w.setCell ⟨lb,1,none⟩ (.slice A m c)) B U T lb n A m c L:=by
 have hg:=yC w lb 1 (.slice A m c);have hk:KeepF (fun k=>k=lb) w (w.setCell ⟨lb,1,none⟩ (.slice A m c)):=.grown hg (fun g e=>.inl uq);obtain⟨gp,p,SA,sc,TT,tc,th,F,h1,h2,h3,h4,h5,h6,h7,h8,h9,dV,fa⟩:=h.ex
 exact⟨⟨gp,p,SA,sc,TT,tc,th,F,xW h1 _,h2,zy h3 hk (fun b e=>(h9 b e).2.1),zy h4 hk (fun b e=>(dV b e).2.1),h5,fun x hx=>⟨zy (h6 x hx).1 hk (fun b e e2=>h.ut b ((h6 x hx).2 b e) (e2▸h.lb)),(h6 x hx).2⟩,
   h7.keep (fun k hF=>hk.2.1 k (h7.lt k hF) (fun e=>fa (e▸hF))) hk.1,h8,h9,dV,fa⟩,h.lb,Wb h.size hk.1,fun b hb=>⟨(h.uB b hb).1,K1 (h.uB b hb).2 hk.1⟩,fun b hb=>K1 (h.tB b hb) hk.1,h.ut⟩
theorem LkM.thaw{L:LS}(h:LkM w B U T lb n RA rn rc L)(j:Nat):w.frozen? ⟨lb,j,none⟩=false:=by
 obtain⟨gp,p,SA,sc,TT,tc,th,F,h1,_⟩:=h.ex;exact h1.thaw j
theorem qu{size c:Nat}{A:Option Addr}{xs:List Value}(h:Rd w B size A n c xs)(hk:KeepF F w w')(hB:B≤w.heap.size)(hF:∀g,blk A=some g→¬F g):Rd w' B size A n c xs:=
 ⟨h.len,h.cap,h.max,fun hn=>by
  obtain⟨b,off,e,hb,hx⟩:=h.at_ hn;refine⟨b,off,e,hb,fun j u hj=>?_⟩;have h0:=hx j u hj;have h1:=hk.2.1 b Wq (hF b zAh);unfold q6 at h0 ⊢;rw[h1]
  exact h0⟩
theorem LS.goes_cons(ctl:LS→As→LS)(L:LS)(f:Fr)(l:List Fr)(h:¬L.st=5):L.goes ctl (f::l)=(L.take ctl f).goes ctl l:=by
 rw[LS.goes,if_neg h]
theorem LS.goes_append(ctl:LS→As→LS):∀(l m:List Fr) (L:LS),L.goes ctl (l++m)=(L.goes ctl l).goes ctl m
 | [],_,_=>rfl
 | f::l,m,L=>by
  by_cases h:L.st=5
  ·rw[LS.goes_closed h,LS.goes_closed h,LS.goes_closed h]
  rw[List.cons_append,LS.goes_cons ctl L f _ h,LS.goes_cons ctl L f _ h,LS.goes_append ctl l m]
theorem LS.goes_snoc{ctl:LS→As→LS}{L:LS}{l:List Fr}{i:Nat}(hi:i<l.length)(h:(L.goes ctl (l.take i)).st≠5):L.goes ctl (l.take (i+1))=(L.goes ctl (l.take i)).take ctl l[i]:=by
 rw[kI hi,LS.goes_append,LS.goes_cons ctl _ _ _ h];rfl
theorem LS.goes_stop{ctl:LS→As→LS}{L:LS}{l:List Fr}{i:Nat}(h:(L.goes ctl (l.take i)).st=5):L.goes ctl l=L.goes ctl (l.take i):=by
 have:=LS.goes_append ctl (l.take i) (l.drop i) L;rw[List.take_append_drop,LS.goes_closed h]at this;exact this
theorem zcu{rb off c u:Nat}{b:List UInt8}(h:RdB w B (some ⟨rb,off,none⟩) n c b)(hu:u≤n):RdB w B (some ⟨rb,off+u,none⟩) (n-u) (n-u) (b.drop u):=
 ⟨by have:=h.length;simp;omega,K0 _,by have:=h.cap;have:=h.max;omega,fun hn=>by
  obtain⟨b1,o1,e,hb,hx⟩:=Rd.at_ h Wq;injection e with e
  injection e with e1 e2 _
  subst e1 e2;refine⟨rb,off+u,rfl,hb,fun j v hj=>?_⟩;rw[List.map_drop,List.getElem?_drop]at hj;have:=hx (u+j) v hj
  rwa[←Nat.add_assoc]at this⟩
theorem LStep.mono{m:Nat}{L:LS}(h:LStep w B U T lb n RA rn rc L w')(hn:n≤m):LStep w B U T lb m RA rn rc L w':=by
 obtain⟨U',T',h1,h2⟩:=h;exact⟨U',T',h1.mono hn,h2⟩
theorem Qz(ctl:LS→As→LS)(P:Nat→LS→Prop)(b:List UInt8){L:LS}(h:LkM w B U T lb n RA rn rc L)(hr:RdB w w.heap.size RA rn rc b)(Uv:∀g,blk RA=some g→¬U g)(hn:rn≤1000000000)
  (hu:(zu b).2.1≤rn) (dg:n+(zu b).1.length<1000000000) (he:MEnv w) (fB:0<B)
  (hP:∀k M,P k M→M.g.Inv∧M.sz≤1000000∧M.ch<65536∧M.sent.length≤10000000000∧M.told.length≤1000000000)
  (DI:∀k M f,k<(zu b).1.length→f∈(zu b).1→P k M→P (k+1) (M.take ctl f)) (pP:P 0 L) (nR:∀f∈(zu b).1,f.wf∧f.load.length≤1000000)
  (B6:∀k M f a A c W U' T' m RA' rn' rc',f∈(zu b).1→P k M→M.g.out f=some a→a.chan=0→LkM W B U' T' lb m RA' rn' rc' {M with g:=M.g.next f}→OwnG W 0 A a.segs.length c a.segs→(∀b,blk A=some b→T' b)→MEnv W→Below B w W→
   Calls prog 56 #[.pointer (some ⟨lb,0,none⟩),.agg (asV a.chan a.track A a.segs.length c)] W fun e w'=>e= .returned (.tuple #[])∧LStep W B U' T' lb m RA' rn' rc' (ctl {M with g:=M.g.next f} a) w'):
  Calls prog 26 #[.pointer (some ⟨lb,0,none⟩)] w fun e w'=>e= .returned (.tuple #[])∧∃RA',LStep w B U T lb (n+(zu b).1.length) RA' (rn-(zu b).2.1) (rn-(zu b).2.1) (L.frames ctl (zu b).1 (zu b).2.2) w'∧RdB w' w'.heap.size RA' (rn-(zu b).2.1) (rn-(zu b).2.1) (b.drop (zu b).2.1)∧(blk RA'=blk RA∨blk RA'=none):=by
 have hs:=Jh RA rn rc b w hr hn;have x1:=h.c1;have nL:=hr.cap;have ny:=hr.max;have gL:rn≤maxLen:=by omega
 generalize(zu b).1=FS at*;generalize(zu b).2.1=u at*;generalize(zu b).2.2=er at*;obtain⟨N,hN⟩:∃N,N=FS.length:=⟨_,rfl⟩
 rw[←hN]at hs dg ⊢;have HN:=Q1 hN;clear hN;have EW:¬U 0:=fun e=>by have:=(h.uB _ e).1;omega
 go_enter func26,ntmps26;go_wp2_with(with_reducible refine h_A ?_);refine hs.mono ?_;rintro e w1 ⟨A1,c1,rfl,rO,Ha⟩;have h1:=h.below Ha;have dT:RdB w1.drew w.heap.size RA rn rc b:=hr.below (za Ha 1);have k1:w1.drew.cell? ⟨lb,1,none⟩=some (.slice RA rn rc):=h1.c1;have Eb:w1.drew.frozen? ⟨lb,1,none⟩=false:=h1.thaw 1;have gG:=h1.setRest;have px:=h.blt;have tf:∀(A:Option Addr) (m c:Nat),KeepF (fun k=>k=lb) w1 (w1.setCell ⟨lb,1,none⟩ (.slice A m c)).drew:=fun A m c=>(KeepF.grown (F:=fun k=>k=lb) (yC w1 lb 1 (.slice A m c)) (fun g e=>.inl uq)).trans (KeepF.below (F:=fun k=>k=lb) (za (KS _ _) 1)) (fun g e=>.inl e)
 have rP:=hr;clear hs x1 hr;go_upto_region 1 with fail;go_cut [2,4]from 16 to 34 (fun s2 s4 wx=>s2= .slice A1 N c1∧s4= .int .i64 (er:Int)∧∃RA',LkM wx B U T lb n RA' (rn-u) (rn-u) L∧KeepF (fun k=>k=lb) w1 wx∧RdB wx wx.heap.size RA' (rn-u) (rn-u) (b.drop u)∧(blk RA'=blk RA∨blk RA'=none))
 case first=>
  by_cases h0:u<rn
  ·obtain⟨rb,off,rfl⟩:∃rb off,RA=some ⟨rb,off,none⟩:=by
    obtain⟨b1,o1,e1,_⟩:=dT.at_ Wq;exact⟨b1,o1,e1⟩
   have cE:=zcu (u:=u) (rP.below Ha) Wq;go_region
   all_goals
    go_wp2_with fail;go_meet
   all_goals exact⟨rfl,rfl,some ⟨rb,off+u,none⟩,(gG _ _ _).below (za (KS _ _) 1),tf _ _ _,Rd.more (qu cE (tf _ _ _) Ha.size (fun g e e2=>Uv g e (e2▸h.lb))) (Wb Ha.size (tf _ _ _).1),.inl rfl⟩
  obtain rfl:u=rn:=by omega
  go_region
  all_goals
   go_wp2_with fail;go_meet
  all_goals
   simp only[Nat.sub_self];exact⟨trivial,trivial,RA,(gG _ _ _).below (za (KS _ _) 1),tf _ _ _,by rw[List.drop_eq_nil_of_le (by have:=rP.length;omega)];exact Rd.nil _ _ _ _ WX _,.inl rfl⟩
 obtain⟨rfl,rfl,RA',hM,tH,iL,dI⟩:=hcut;have cq:=Ha.size;have aD:=h1.blt;have wE:∀k,U k→k<w.heap.size:=fun k e=>(h.uB k e).2
 have DE:∀k,U k→B≤k:=fun k e=>(h.uB k e).1
 have I6:=h.size;have dQ:KeepF U w wc:=(KeepF.below Ha).trans (tH.weak (G:=U) (fun g e=>.inl (e▸h.lb))) (fun g e=>.inl e);have iQ:OwnF wc w.heap.size A1 N c1 FS:=zy rO tH (fun g e e2=>by have:=(rO.blk_lt e).1;omega);clear tf gG Eb k1 dT rP tH rO Ha;have tg:=dQ.1;have Fu:∀g,blk RA'=some g→¬U g:=fun g e=>by rcases dI with e2|e2;exact Uv g (e2▸e);rw[e2]at e;cases e
 clear px;go_wp2_with(with_reducible refine h_B ?_);go_loopw [37] (fun s wr=>∃i,i≤N∧s= .int .i64 (i:Int)∧LStep wc B U T lb (n+i) RA' (rn-u) (rn-u) (L.goes ctl (FS.take i)) wr∧P i (L.goes ctl (FS.take i))) (fun s _=>N-(Vy s).toNat)
 case atStart=>exact⟨0,by omega,rfl,LStep.refl hM,pP⟩
 obtain⟨i,hi,rfl,bR,Ll⟩:=hrel;obtain⟨M,Dz⟩:∃M,M=L.goes ctl (FS.take i):=⟨_,rfl⟩
 rw[←Dz]at bR Ll;have HM:=Q1 Dz;clear Dz;have iX:=bR;obtain⟨U',T',CW,hk',nW,sD⟩:=bR;have c0:=CW.c0;by_cases hlt:i<N
 ·have g1:(i:Int)<(N:Int):=by omega
  have LN:OwnF wr w.heap.size A1 N c1 FS:=zy iQ hk' (fun g e e2=>by have:=(iQ.blk_lt e).1;have:=wE g e2;omega);obtain⟨b1,off,rfl,dP,bK,bD⟩:=qm yE LN.rd hlt;have k0:=bD 0 _ rfl;have k1:=bD 1 _ rfl;have k2:=bD 2 _ rfl;have k3:=bD 3 _ rfl;have k4:=bD 4 _ rfl;have k5:=bD 5 _ rfl;have k6:=bD 6 _ rfl;have k7:=bD 7 _ rfl;have gh:=nR _ (q9 bK);have Ig:=fun h=>Q1 (LS.goes_snoc (ctl:=ctl) (L:=L) bK h)
  have mY:=fun h=>Q1 (LS.goes_stop (ctl:=ctl) (L:=L) (l:=FS) (i:=i) h)
  have MW:=q9 bK;clear bD;generalize FS[i]=f at*;simp only[kx]at k0;obtain⟨fb,w4,bC,bh,hF,Hn⟩:=zo wr #[.bool false,.bool false,.bool false,.bool false,.int .u8 0,.int .u8 0,.int .u16 0,.string ⟨#[]⟩] 97;go_wp2_with(with_reducible refine h_B ?_);rw[←bC,←bh];have Eu:wr.heap.size≤fb:=by rw[bC];exact K0 _
  clear bC bh;refine zc (zm (v:=.agg #[.bool f.first,.bool f.last,.bool f.beg,.bool f.fin,.int .u8 (f.ty:Int),.int .u8 (f.track:Int),.int .u16 (f.chan:Int),.string (str f.load)]) (vs:=[.bool f.first,.bool f.last,.bool f.beg,.bool f.fin,.int .u8 (f.ty:Int),.int .u8 (f.track:Int),.int .u16 (f.chan:Int),.string (str f.load)]) rfl rfl rfl rfl hF rfl Wj Wz WZ #[.bool f.first,.bool f.last,.bool f.beg,.bool f.fin,.int .u8 (f.ty:Int),.int .u8 (f.track:Int),.int .u16 (f.chan:Int),.string (str f.load)] Wz ?_);intro w5 iW bc en;clear en;have bz:Below wr.heap.size wr w5:=Hn.grown bc Hn.size (fun g e=>by injection e with e;omega);have tv:=CW.below bz;have pS:KeepF U wc w5:=hk'.trans (KeepF.below (F:=U) bz) (fun g e=>.inl e);have he5:MEnv w5:=(he.onK dQ EW).onK pS EW;have Fy:LStep wc B U T lb (n+i) RA' (rn-u) (rn-u) M w5:=LStep.of pS nW sD (LStep.refl tv);clear hF bc Hn c0 k0 k1 k2 k3 k4 k5 k6 k7 LN iX CW w4;have c0:=tv.c0;by_cases h5:M.st=5
  ·(have h6:((M.st:Nat):Int)=5:=by omega);have HG:=Q1 (show L.goes ctl FS=M from(mY (by rw[←HM.out];exact h5)).out.trans HM.out.symm);rw[h6]at c0;clear B6 h6 DI;go_wp2_with(with_reducible refine h_B ?_);refine bodyPost_ret (results_none rfl _ _ _) rfl ?_;(have nc:L.frames ctl FS er=M:=by unfold LS.frames;rw[HG.out,if_neg (fun e=>e.2 h5)]);exact⟨rfl,RA',by rw[nc];exact(LStep.of dQ (fun _ e=>.inl e) (fun _ e=>.inl e) Fy).mono Wq,Rd.more (qu iL pS (K0 _) Fu) pS.1,(by first|exact dI|simpa using dI)⟩
  have h6:¬((M.st:Nat):Int)=5:=by omega
  have HG:=Q1 (show L.goes ctl (FS.take (i+1))=M.take ctl f from(Ig (by rw[←HM.out];exact h5)).out.trans (by rw[←HM.out]));obtain⟨p1,p2,p3,p4,p5⟩:=hP _ _ Ll;have ip:=Vn ctl f tv p1 gh.1 gh.2 Wq he5 fB p2 p3 p4 p5 (fun a A c W U1 T1 e1 e2 e3 e4 e5 e6 e7=>B6 i M f a A c W U1 T1 _ _ _ _ MW Ll e1 e2 e3 e4 e5 e6 (((dQ.toBelow I6 DE).trans (pS.toBelow (Wb I6 dQ.1) DE)).trans e7));unfold frV at ip;have f0:=iW.c0;have f1:=iW.c1;have f2:=iW.c2;have f3:=iW.c3;have f4:=iW.c4;have f5:=iW.c5;have f6:=iW.c6;have f7:=iW.c7;clear B6 Ig mY;go_wp2_with(with_reducible refine h_B ?_);refine ip.mono ?_;rintro e w6 ⟨rfl,RH⟩;go_wp2_with(with_reducible refine h_B ?_);refine⟨⟨i+1,by omega,by go_num,?_,?_⟩,by simp[Vy];omega⟩
  ·rw[HG.out];exact LStep.of pS nW sD RH
  rw[HG.out];exact DI _ _ _ (by rw[←HN.out];exact hlt) MW Ll
 obtain rfl:i=N:=by omega
 have HG:=Q1 (show L.goes ctl FS=M by rw[HM.out,HN.out,k9]);obtain⟨p1,p2,p3,p4,p5⟩:=hP _ _ Ll;have hey:¬(i:Int)<(i:Int):=by omega
 have heR:MEnv wr:=(he.onK dQ EW).onK hk' EW;clear B6 DI;by_cases h0:er=0
 ·have qqcw:=();exact Z2w_
 have h1:¬(er:Int)=0:=by omega
 by_cases h5:M.st=5
 ·exact Z2w_
 have h6:¬((M.st:Nat):Int)=5:=by omega
 have bZ:=jU 501 yt WJ WJ CW heR p2 p4;rw[show((501:Nat):Int)=501 from rfl,show str yt=(⟨#[102,114,97,109,101]⟩:ByteArray)from rfl]at bZ;have h7:((er:Int)!=0)=true:=by simp;omega
 have h8:(((M.st:Nat):Int)!=5)=true:=by simp;omega
 go_wp2_with(with_reducible refine h_B ?_);refine bZ.mono ?_;rintro e w9 ⟨rfl,SP⟩;clear bZ;go_wp2_with(with_reducible refine h_B ?_);go_end0;have nc:L.frames ctl FS er=M.close 501 yt:=by unfold LS.frames;rw[HG.out,if_pos ⟨h0,h5⟩]
 have DP:=LStep.of hk' nW sD SP;have ID:=DP.choose_spec.choose_spec.2.1;exact⟨rfl,RA',by rw[nc];exact LStep.of dQ (fun _ e=>.inl e) (fun _ e=>.inl e) DP,Rd.more (qu iL ID (K0 _) Fu) ID.1,(by first|exact dI|simpa using dI)⟩
section
section
variable {w : World} {B : Nat} {U T : Nat → Prop} {lb n : Nat} {RA : Option Addr} {rn rc : Nat} {L : LS}
theorem LkM.setSt(h:LkM w B U T lb n RA rn rc L)(v:Nat):LkM (w.setCell ⟨lb,0,none⟩ (.int .u8 (v:Int))) B U T lb n RA rn rc {L with st:=v}:=by
 have qqai:=();exact Z24_
theorem LkM.setCh(h:LkM w B U T lb n RA rn rc L)(v:Nat):LkM (w.setCell ⟨lb,3,none⟩ (.int .u64 (v:Int))) B U T lb n RA rn rc {L with ch:=v}:=by
 exact Z24_
theorem LkM.setSz(h:LkM w B U T lb n RA rn rc L)(v:Nat):LkM (w.setCell ⟨lb,4,none⟩ (.int .u64 (v:Int))) B U T lb n RA rn rc {L with sz:=v}:=by
 have qqaj:=();exact Z24_
theorem LStep.set{w0:World}(h:LStep w0 B U T lb n RA rn rc L w)(cT:U lb)(j:Nat)(v:Value){L2:LS}(hL:∀U' T',LkM w B U' T' lb n RA rn rc L→LkM (w.setCell ⟨lb,j,none⟩ v) B U' T' lb n RA rn rc L2):LStep w0 B U T lb n RA rn rc L2 (w.setCell ⟨lb,j,none⟩ v):=by
 obtain⟨U',T',h1,h2,h3,h4⟩:=h;exact⟨U',T',hL _ _ h1,h2.trans (KeepF.grown (F:=fun k=>k=lb) (yC w lb j v) (fun g e=>.inl uq)) (fun k e=>.inl (e▸cT)),h3,h4⟩
end
theorem XE(m:Mt)(A:Option Addr)(c:Nat){L:LS}(h:LkM w B U T lb n RA rn rc L)(he:MEnv w)(Bm:L.sz≤1000000)(hs:L.sent.length≤10000000000):
  Calls prog 83 #[.pointer (some ⟨lb,0,none⟩),.agg (mtV m A c)] w fun e w'=>e= .returned (.tuple #[])∧LStep w B U T lb n RA rn rc {L.send v6 with st:=2} w':=by
 exact Zx_
theorem Qx(m:Mt)(A:Option Addr)(c:Nat){L:LS}(h:LkM w B U T lb n RA rn rc L)(he:MEnv w)(Bm:L.sz≤1000000)(hs:L.sent.length≤10000000000):
  Calls prog 86 #[.pointer (some ⟨lb,0,none⟩),.agg (mtV m A c)] w fun e w'=>e= .returned (.tuple #[])∧LStep w B U T lb n RA rn rc {L.send Zt with st:=5} w':=by
 have qq5w:=();exact Zx_
def kK:List UInt8:=[111,112,101,110]
def qi:List UInt8:=[116,117,110,101]
def LS.opened(L:LS)(s:List UInt8):LS:=if s≠ []∧s≠ [47]then L.close 402 kK else{L.send Zs with st:=4}
def LS.tuned(L:LS)(c f:Nat):LS:=if 255<c∨f<256∨4096<f then L.close 501 qi else{L with ch:=c,sz:=f,st:=3}
theorem Qy(m:Mt)(A:Option Addr)(c:Nat){L:LS}(h:LkM w B U T lb n RA rn rc L)(he:MEnv w)(hm:RMw w m A c)(hl:m.args.length=1)(a:Ag)(ha:m.args[0]?=some a)(Bm:L.sz≤1000000)(hs:L.sent.length≤10000000000):
  Calls prog 85 #[.pointer (some ⟨lb,0,none⟩),.agg (mtV m A c)] w fun e w'=>e= .returned (.tuple #[])∧LStep w B U T lb n RA rn rc (L.opened a.s) w':=by
 unfold mtV;rw[hl];obtain⟨ab,off,hx,rfl,ra,hc⟩:=hm.elem (i:=0) Wq;have e0:m.args[0]=a:=by rw[K2 Wq]at ha;injection ha
 obtain⟨xb,w0,bC,bh,hX,Hr⟩:=zo w #[.int .u8 (m.cls:Int),.int .u8 (m.code:Int),.bool m.sync,.slice (some ⟨ab,off,none⟩) 1 c] 106;have z2:=hc w0 Hr 2 _ rfl;rw[e0]at z2;simp only[j8,kx]at z2;obtain⟨s,Gw⟩:∃s,s=a.s:=⟨_,rfl⟩
 rw[←Gw]at z2 ⊢;clear Gw hc ha e0 ra hm hl;have fz:=Qf 8 [] Zs ctl8 WJ none 0 0 (h.below Hr) (he.on Hr) (Rd.nil _ _ _ _ WX _) Bm hs;rw[show(((8:Nat)):Int)=8 from rfl]at fz;have bZ:=jU 402 kK WJ WJ (h.below Hr) (he.on Hr) Bm hs;rw[show((402:Nat):Int)=402 from rfl,show str kK=(⟨#[111,112,101,110]⟩:ByteArray)from rfl]at bZ;have x3:=hX.c3;go_enter func85,ntmps85;go_upto_region 1 with fail;rw[←bC,←bh];clear bC bh hX;by_cases q1:s=[]
 ·have HR:=Q1 (show L.opened s={L.send Zs with st:=4} by unfold LS.opened;rw[if_neg (fun e=>e.1 q1)]);subst q1;have d0:(str ([]:List UInt8)).toList=[]:=by rw[zn]
  clear bZ;go_wp2_with(with_reducible refine h_A ?_)
  (with_reducible refine fz.mono ?_)
  rintro e w5 ⟨rfl,bR⟩;clear fz;have iX:=bR;obtain⟨U',T',hM,_,_,_⟩:=bR;have c0:=hM.c0;have c1:=hM.thaw 0;clear hM;go_wp2_with(with_reducible refine h_A ?_);go_end0;exact⟨rfl,by rw[HR.out];exact(LStep.from Hr iX).set h.lb 0 _ (fun _ _ hM=>hM.setSt 4)⟩
 exact Z1s_
theorem JX(m:Mt)(A:Option Addr)(c:Nat){L:LS}(h:LkM w B U T lb n RA rn rc L)(he:MEnv w)(hm:RMw w m A c)(hl:m.args.length=2)(a b:Ag)(ha:m.args[0]?=some a)(hb:m.args[1]?=some b)(Bm:L.sz≤1000000)(hs:L.sent.length≤10000000000):
  Calls prog 84 #[.pointer (some ⟨lb,0,none⟩),.agg (mtV m A c)] w fun e w'=>e= .returned (.tuple #[])∧LStep w B U T lb n RA rn rc (L.tuned a.n b.n) w':=by
 unfold mtV;rw[hl];obtain⟨ab,off,hx,rfl,ra,hc⟩:=hm.elem (i:=0) Wq;obtain⟨LE,AN,CP,FI,rb,ck⟩:=hm.elem (i:=1) Wq;injection FI with FI
 injection FI with q1 q2 _
 subst q1 q2;have e0:m.args[0]=a:=by rw[K2 Wq]at ha;injection ha
 have e1:m.args[1]=b:=by rw[K2 Wq]at hb;injection hb
 obtain⟨xb,w0,bC,bh,hX,Hr⟩:=zo w #[.int .u8 (m.cls:Int),.int .u8 (m.code:Int),.bool m.sync,.slice (some ⟨ab,off,none⟩) 2 c] 106;have z1:=hc w0 Hr 1 _ rfl;have z2:=ck w0 Hr 1 _ rfl;rw[e0]at z1;rw[e1]at z2;simp only[j8,kx,Nat.one_mul]at z1 z2;obtain⟨x,GC⟩:∃x,x=a.n:=⟨_,rfl⟩
 obtain⟨y,GU⟩:∃x,x=b.n:=⟨_,rfl⟩
 rw[←GC]at z1 ⊢;rw[←GU]at z2 ⊢;clear GC GU hc ck ha hb e0 e1 hm hl ra rb;have x3:=hX.c3;go_enter func84,ntmps84;go_upto_region 1 with fail;rw[←bC,←bh];clear bC bh hX;have h0:=h.below Hr;try simp only[Act.put]
 go_quiet(fail);clear x3 z1 z2;have h1:=h0.below (za (KS _ _) nq);have Ha:=za Hr nq;have Ci:=he.on Ha;have bZ:=jU 501 qi WJ WJ h1 Ci Bm hs;rw[show((501:Nat):Int)=501 from rfl,show str qi=(⟨#[116,117,110,101]⟩:ByteArray)from rfl]at bZ;have c0:=h1.c0;have c3:=h1.c3;have c4:=h1.c4;have f0:=h1.thaw 0;have f3:=h1.thaw 3;have f4:=h1.thaw 4;clear h0 Hr he Ci;generalize w0.drewN nq=wq at*;by_cases q1:255<x
 ·have qqbr:=();exact Z2j_
 have d1:¬(255:Int)<(x:Int):=by omega
 by_cases q2:y<256
 ·have qqbs:=();exact Z2j_
 have d2:¬(y:Int)<256:=by omega
 by_cases q3:4096<y
 ·have HR:=Q1 (show L.tuned x y=L.close 501 qi by unfold LS.tuned;rw[if_pos (.inr (.inr q3))]);have d3:(4096:Int)<(y:Int):=by omega
  go_wp2_with(with_reducible refine h_A ?_)
  (with_reducible refine bZ.mono ?_)
  rintro e w9 ⟨rfl,bR⟩;clear bZ;go_wp2_with(with_reducible refine h_A ?_);refine bodyPost_ret (results_none rfl _ _ _) rfl ?_;exact⟨rfl,by rw[HR.out];exact LStep.from Ha bR⟩
 have HR:=Q1 (show L.tuned x y={L with ch:=x,sz:=y,st:=3} by unfold LS.tuned;rw[if_neg Wq]);have d3:¬(4096:Int)<(y:Int):=by omega
 clear bZ q1 q2 q3;go_wp2_with(with_reducible refine h_A ?_);go_end0;refine⟨rfl,?_⟩;rw[HR.out];exact LStep.from Ha ((((LStep.refl h1).set h.lb 3 _ (fun _ _ hM=>hM.setCh x)).set h.lb 4 _ (fun _ _ hM=>hM.setSz y)).set h.lb 0 _ (fun _ _ hM=>hM.setSt 3))
end
def js:List UInt8:=[99,111,110,110,101,99,116,105,111,110,46,115,116,97,114,116,45,111,107]
def kf:List UInt8:=[99,111,110,110,101,99,116,105,111,110,46,116,117,110,101,45,111,107]
def Yq:List UInt8:=[99,111,110,110,101,99,116,105,111,110,46,111,112,101,110]
def vH:List UInt8:=[99,111,110,110,101,99,116,105,111,110,46,99,108,111,115,101]
def yr:List UInt8:=[99,111,110,116,114,111,108]
def ctlK(c k:Nat):Nat:=if c=1∧(k=2∨k=6∨k=7∨k=11)then k else 0
theorem zcs:(Q2 9).all (fun c=>(qX c).all fun r=>decide (ctlK c r.code=0→xi c++ [46]++r.word≠js∧xi c++ [46]++r.word≠kf∧xi c++ [46]++r.word≠Yq∧xi c++ [46]++r.word≠vH))=true:=by decide+kernel
theorem zba(c k:Nat):(ctlK c k=2∧c=1∧k=2∧qO c k=js)∨(ctlK c k=6∧c=1∧k=6∧qO c k=kf)∨(ctlK c k=7∧c=1∧k=7∧qO c k=Yq)∨(ctlK c k=11∧c=1∧k=11∧qO c k=vH)∨
  (ctlK c k=0∧qO c k≠js∧qO c k≠kf∧qO c k≠Yq∧qO c k≠vH):=by
 by_cases h:c=1∧(k=2∨k=6∨k=7∨k=11)
 ·obtain⟨rfl,h⟩:=h;rcases h with rfl|rfl|rfl|rfl
  ·exact .inl ⟨rfl,rfl,rfl,by decide⟩
  ·exact .inr (.inl ⟨rfl,rfl,rfl,by decide⟩)
  ·exact .inr (.inr (.inl ⟨rfl,rfl,rfl,by decide⟩))
  exact .inr (.inr (.inr (.inl ⟨rfl,rfl,rfl,by decide⟩)))
 have h0:ctlK c k=0:=by unfold ctlK;rw[if_neg h]
 refine .inr (.inr (.inr (.inr ⟨h0,?_⟩)))
 cases hr:yp c k with
 | none=>
  have e:qO c k=[]:=by unfold qO YQ;rw[hr];rfl
  rw[e]
  exact⟨by decide,by decide,by decide,by decide⟩
 | some r=>
  have e:qO c k=xi c++ [46]++r.word:=by unfold qO YQ;rw[hr];rfl
  rw[e];unfold yp at hr;have hm:=y6 hr;have hk:=List.find?_some hr;simp only[decide_eq_true_eq]at hk
  have hc:c<9:=by
   have:=Q7 (c:=c) (fun e=>by rw[e]at hm;cases hm);omega
  have h1:=q5.1 zcs c (j2.2 hc);have h2:=q5.1 h1 r hm;simp only[decide_eq_true_eq]at h2;exact h2 (by rw[hk];exact h0)
def LS.ctlM(L:LS)(a:As)(m:Mt)(er:Int):LS:=
 if a.track≠0∨er≠0 then L.close 501 yr
 else if ctlK m.cls m.code=2∧L.st=1 then{L.send v6 with st:=2}
 else if ctlK m.cls m.code=6∧L.st=2 then L.tuned (m.args.getD 0 (ag0 false)).n (m.args.getD 1 (ag0 false)).n
 else if ctlK m.cls m.code=7∧L.st=3 then L.opened (m.args.getD 0 (ag0 false)).s
 else if ctlK m.cls m.code=11 then{L.send Zt with st:=5}
 else L.close 501 yr
def ctlF(f:FuncId)(lb:Nat):Value:=.func (.func f) #[.pointer (some ⟨lb,0,none⟩)] #[]
def Jf(s:Nat)(f:FuncId)(lb:Nat):DataW Value:=.held (.agg #[.int .u8 (s:Int),ctlF f lb])
def CtlAt(lb st c k:Nat)(s:Nat)(fv:Value)(is:Bool):Prop:=
 (ctlK c k=2∧c=1∧k=2∧s=1∧fv=ctlF 83 lb∧is=true)∨(ctlK c k=6∧c=1∧k=6∧s=2∧fv=ctlF 84 lb∧is=true)∨
 (ctlK c k=7∧c=1∧k=7∧s=3∧fv=ctlF 85 lb∧is=true)∨(ctlK c k=11∧c=1∧k=11∧s=st∧fv=ctlF 86 lb∧is=true)∨(ctlK c k=0∧s=0∧fv= .nilFunc∧is=false)
def ctlD(lb st:Nat):DataW Value:=((((DataW.map []:DataW Value).put (.string js) (Jf 1 83 lb)).put (.string kf) (Jf 2 84 lb)).put (.string Yq) (Jf 3 85 lb)).put (.string vH) (Jf st 86 lb)
theorem CtlAt.one{c k:Nat}(h:CtlAt lb st c k s fv is):fv.oneCell'=true:=by
 rcases h with⟨_,_,_,_,rfl,_⟩|⟨_,_,_,_,rfl,_⟩|⟨_,_,_,_,rfl,_⟩|⟨_,_,_,_,rfl,_⟩|⟨_,_,rfl,_⟩<;>rfl
theorem zct(l:List UInt8)(h:l.length≤1000):keyOf prog 9 (.string (str l))=some (.string l):=by
 have:=WideMaps.keyOf_string_mk (P:=prog) underlying9 (s:=str l) (by rw[zh];unfold maxLen;omega);rw[this];congr 2
theorem zbb{l:List UInt8}(h1:l≠js)(h2:l≠kf)(h3:l≠Yq)(h4:l≠vH):Maps.has (ctlD lb st) (.string l)=false:=by
 have ne:∀{x:List UInt8},l≠x→(Lit.string l)≠ .string x:=fun h e=>h NJ
 unfold ctlD;rw[Maps.has_put_other (ne h4),Maps.has_put_other (ne h3),Maps.has_put_other (ne h2),Maps.has_put_other (ne h1)];rfl
theorem Vm(c k:Nat):(qO c k).length≤1000:=by
 unfold qO YQ
 cases hr:yp c k with
 | none=>simp
 | some r=>
  have h:=(Yc hr).2.1;show(xi c++ [46]++r.word).length≤1000
  omega
theorem zbc(lb st c k:Nat):∃s fv is,CtlAt lb st c k s fv is∧∀(W:World) (mb n:Nat),W.ownsMap prog 9 rawV mb n (ctlD lb st)→(Instr.lookup 164 (.map (some mb)) (.string (str (qO c k))) true).run prog W= .ok (.tuple #[.agg #[.int .u8 ((s:Nat):Int),fv],.bool is]) W:=by
 have iN:∀(W:World) (mb n:Nat),W.ownsMap prog 9 rawV mb n (ctlD lb st)→∃v ps,(Instr.lookup 164 (.map (some mb)) (.string (str (qO c k))) true).run prog W= .ok (.tuple #[v,.bool (Maps.has (ctlD lb st) (.string (qO c k)))]) W∧rawV v=some ((ctlD lb st).atKey (.string (qO c k)) (.held (.agg #[.int .u8 0,.nilFunc])),ps):=
  fun W mb n h=>h.look_ok (t:=164) (Maps.string_keyed underlying9) underlying164 (zeroValue163 W) (zd:=.held (.agg #[.int .u8 0,.nilFunc])) (zp:=[]) rfl (zct _ (Vm c k))
 have oJ:∀(u:Value) (is:Bool),Maps.has (ctlD lb st) (.string (qO c k))=is→(ctlD lb st).atKey (.string (qO c k)) (.held (.agg #[.int .u8 0,.nilFunc]))= .held u→∀(W:World) (mb n:Nat),W.ownsMap prog 9 rawV mb n (ctlD lb st)→
   (Instr.lookup 164 (.map (some mb)) (.string (str (qO c k))) true).run prog W= .ok (.tuple #[u,.bool is]) W:=fun u is e1 e2 W mb n h=>by
  obtain⟨v,ps,bv,hv⟩:=iN W mb n h;rw[e2]at hv;have h2:=congrArg Prod.fst (Option.some.inj hv);have h3:DataW.held v=DataW.held u:=h2;have h4:v=u:=by injection h3
  rw[e1,h4]at bv;exact bv
 rcases zba c k with⟨h0,hc,hk,e⟩|⟨h0,hc,hk,e⟩|⟨h0,hc,hk,e⟩|⟨h0,hc,hk,e⟩|⟨h0,h1,h2,h3,h4⟩
 ·exact⟨1,_,true,.inl ⟨h0,hc,hk,rfl,rfl,rfl⟩,oJ (.agg #[.int .u8 ((1:Nat):Int),ctlF 83 lb]) true (by rw[e];kernel_rfl) zAh⟩
 ·exact⟨2,_,true,.inr (.inl ⟨h0,hc,hk,rfl,rfl,rfl⟩),oJ (.agg #[.int .u8 ((2:Nat):Int),ctlF 84 lb]) true (by rw[e];kernel_rfl) zAh⟩
 ·exact⟨3,_,true,.inr (.inr (.inl ⟨h0,hc,hk,rfl,rfl,rfl⟩)),oJ (.agg #[.int .u8 ((3:Nat):Int),ctlF 85 lb]) true (by rw[e];kernel_rfl) zAh⟩
 ·exact⟨st,_,true,.inr (.inr (.inr (.inl ⟨h0,hc,hk,rfl,rfl,rfl⟩))),oJ (.agg #[.int .u8 ((st:Nat):Int),ctlF 86 lb]) true (by rw[e];kernel_rfl) zAh⟩
 have BN:=zbb (lb:=lb) (st:=st) h1 h2 h3 h4;exact⟨0,_,false,.inr (.inr (.inr (.inr ⟨h0,rfl,rfl,rfl⟩))),oJ _ false BN (Maps.atKey_of_not_has BN _)⟩
theorem CtlAt.small{c k:Nat}(h:CtlAt lb st c k s fv is)(bR:st<256):s<256:=by
 rcases h with⟨_,_,_,rfl,_⟩|⟨_,_,_,rfl,_⟩|⟨_,_,_,rfl,_⟩|⟨_,_,_,rfl,_⟩|⟨_,rfl,_⟩<;>omega
theorem CtlAt.bad{L:LS}{a:As}{m:Mt}{er:Int}(h:CtlAt lb L.st m.cls m.code s fv is)(hn:¬(a.track=0∧er=0∧is=true∧s=L.st)):L.ctlM a m er=L.close 501 yr:=by
 unfold LS.ctlM;split
 ·rfl
 rename_i h1
 have h2:a.track=0:=by omega
 have h3:er=0:=by omega
 rcases h with⟨e,_,_,rfl,_,rfl⟩|⟨e,_,_,rfl,_,rfl⟩|⟨e,_,_,rfl,_,rfl⟩|⟨e,_,_,rfl,_,rfl⟩|⟨e,rfl,_,rfl⟩
 ·have:¬L.st=1:=fun e2=>hn ⟨h2,h3,rfl,e2.symm⟩
  simp[e,this]
 ·have:¬L.st=2:=fun e2=>hn ⟨h2,h3,rfl,e2.symm⟩
  simp[e,this]
 ·have:¬L.st=3:=fun e2=>hn ⟨h2,h3,rfl,e2.symm⟩
  simp[e,this]
 ·exact absurd ⟨h2,h3,rfl,rfl⟩ hn
 simp[e]
def GetC(w0:World)(b:List UInt8)(m:Mt)(er:Int):Prop:=∀(A:Option Addr) (n c:Nat) (W:World),Below w0.heap.size w0 W→RdB W W.heap.size A n c b→MEnv W→
 Calls prog 87 #[.slice A n c] W fun e w'=>∃A2 c2,e= .returned (.tuple #[.agg (mtV m A2 c2),.int .i64 er])∧RM w' (FN W.heap.size w') m A2 c2∧Below W.heap.size W w'
theorem XD(a:As)(sg:Sg)(rest:List Sg)(gB:a.segs=sg::rest)(m:Mt)(er:Int)(uT:GetC w sg.load m er)(bQ:er=0→m.args.length=(yv (yp m.cls m.code)).length)(A:Option Addr)(c:Nat){L:LS}
  (h:LkM w B U T lb n RA rn rc L) (hO:OwnG w 0 A a.segs.length c a.segs) (GH:sg.load.length≤1000000) (he:MEnv w) (bR:L.st<256) (Bm:L.sz≤1000000) (hs:L.sent.length≤10000000000):
  Calls prog 56 #[.pointer (some ⟨lb,0,none⟩),.agg (asV a.chan a.track A a.segs.length c)] w fun e w'=>e= .returned (.tuple #[])∧LStep w B U T lb n RA rn rc (L.ctlM a m er) w':=by
 unfold asV;obtain⟨N,hN⟩:∃N,N=a.segs.length:=⟨_,rfl⟩
 rw[←hN]at hO ⊢;have uG:0<N:=by rw[hN,gB];simp
 rw[gB]at hO;obtain⟨ab,off,rfl,Br,bK,bD⟩:=qm xd hO.rd uG;have z1:=bD 1 _ rfl;simp only[j8,kx,ky]at z1;clear hN gB bK bD hO;have g0:(0:Int)<(N:Int):=by omega
 obtain⟨xb,w0,bC,bh,hX,Hr⟩:=zo w #[.int .u16 (a.chan:Int),.int .u8 (a.track:Int),.slice (some ⟨ab,off,none⟩) N c] 42;have h0:=h.below Hr;have nE:=fun W=>run_makeMap (P:=prog) 164 W
 have Hp:=World.ownsMap_made w0 prog 9 rawV;have hB:=(KS w0.heap.size w0).alloc (K0 _) (.map #[] 0);have hh:LkM (w0.alloc (.map #[] 0)) B U T lb n RA rn rc L:=h0.below ((KS w0.heap.size w0).alloc (K0 _) (.map #[] 0));go_enter func56,ntmps56;go_upto_region 1 with fail;rw[←bC,←bh];clear bC bh;go_wp2_with(with_reducible refine h_M ?_);obtain⟨mb,cx⟩:∃m,m=w0.heap.size:=⟨_,rfl⟩
 rw[←cx]at Hp ⊢;have Ol:w0.heap.size≤mb:=by omega
 clear cx nE;generalize(w0.alloc (.map #[] 0))=v1 at*;refine zc (zl (H:=Value) _ rfl _ _ _ 164 rfl 9 163 (Maps.string_keyed underlying9) underlying164 rawV _ _ _ rfl Hp WX _ _ (.string js) rfl rfl (WideMaps.keyOf_string_mk underlying9 WJ) _ [] rfl ?_);intro v2 Hs bN;have Hc:=hB.grown bN hB.size Wx;clear Hp bN hB;have Hp:=Hs;have hB:=Hc;clear Hs Hc;generalize v2=v1 at*;go_wp2_with(with_reducible refine h_M ?_);refine zc (zl (H:=Value) _ rfl _ _ _ 164 rfl 9 163 (Maps.string_keyed underlying9) underlying164 rawV _ _ _ rfl Hp WX _ _ (.string kf) rfl rfl (WideMaps.keyOf_string_mk underlying9 WJ) _ [] rfl ?_);intro v2 Hs bN;have Hc:=hB.grown bN hB.size Wx;clear Hp bN hB;have Hp:=Hs;have hB:=Hc;clear Hs Hc;generalize v2=v1 at*;go_wp2_with(with_reducible refine h_M ?_);refine zc (zl (H:=Value) _ rfl _ _ _ 164 rfl 9 163 (Maps.string_keyed underlying9) underlying164 rawV _ _ _ rfl Hp WX _ _ (.string Yq) rfl rfl (WideMaps.keyOf_string_mk underlying9 WJ) _ [] rfl ?_);intro v2 Hs bN;have Hc:=hB.grown bN hB.size Wx;clear Hp bN hB;have Hp:=Hs;have hB:=Hc;clear Hs Hc;generalize v2=v1 at*;have c0:=(h0.below hB).c0;go_wp2_with(with_reducible refine h_M ?_);refine zc (zl (H:=Value) _ rfl _ _ _ 164 rfl 9 163 (Maps.string_keyed underlying9) underlying164 rawV _ _ _ rfl Hp WX _ _ (.string vH) rfl rfl (WideMaps.keyOf_string_mk underlying9 WJ) _ [] rfl ?_);intro v2 Hs bN;have Hc:=hB.grown bN hB.size Wx;clear Hp bN hB;have Hp:=Hs;have hB:=Hc;clear Hs Hc;generalize v2=v1 at*;clear c0;have hD:v1.ownsMap prog 9 rawV mb _ (ctlD lb L.st):=Hp;have Ha:=Hr.trans (hB.mono Hr.size);have oe:=hX.below hB
 have Ps:mb<v1.heap.size:=by
  obtain⟨es,clock,hb,_⟩:=hD;exact(Array.getElem?_eq_some_iff.1 hb).1
 have x2:=oe.c2;have z2:=(Ha.cell (p:=⟨ab,off+1,none⟩) (by first|exact Br|omega)).trans z1;clear Hp hB hX h0 z1;go_wp2_with(first|(with_reducible refine zU ?_)|(with_reducible refine yl ?_)|(with_reducible refine yk ?_)|(with_reducible refine yd ?_)|(with_reducible refine ym (s:=9) (t:=55) ?_));refine zc (Q0 underlying9 underlying55 underlying5 rfl rfl rfl (l:=sg.load) Wq ?_);intro c3 w3 cl Hh;have gz:=Ha.trans (Hh.mono Ha.size);have f8:=uT _ _ c3 w3 gz cl (he.on gz);clear uT x2 z2 cl;go_wp2_with(with_reducible refine h_A ?_);refine f8.mono ?_;rintro e w4 ⟨A2,c2,rfl,mu,Hn⟩;clear f8;unfold mtV;obtain⟨rb,w5,bC,bh,hR,bz⟩:=yT w4 #[.int .u8 0,.int .u8 0,.bool false,.slice none 0 0] 106;have gG:=mu.mono (fun g hg=>hg.2);have pq:=Hh.trans (Hn.mono Hh.size);have mH:=Ha.trans (pq.mono Ha.size);have Ld:w4.heap.size≤rb:=by rw[bC];exact K0 _
 clear mu Hh Hn gz;go_wp2_with(with_reducible refine h_B ?_);rw[←bC,←bh];clear bC bh;refine zc (zm (v:=.agg #[.int .u8 (m.cls:Int),.int .u8 (m.code:Int),.bool m.sync,.slice A2 m.args.length c2]) (vs:=[.int .u8 (m.cls:Int),.int .u8 (m.code:Int),.bool m.sync,.slice A2 m.args.length c2]) rfl rfl rfl rfl hR rfl Wj Wz qP #[.int .u8 (m.cls:Int),.int .u8 (m.code:Int),.bool m.sync,.slice A2 m.args.length c2] Wz ?_);intro w6 bF bm ej;clear ej;have mF:Below w4.heap.size w4 w6:=bz.grown bm bz.size Wx;have Lt:=mH.trans (mF.mono mH.size);have O1:=pq.trans (mF.mono pq.size);have y0:=bF.c0;have y1:=bF.c1;have gL:=Vt m.cls m.code w6 (he.on Lt);clear hR bz bm;go_wp2_with(with_reducible refine h_A ?_);refine gL.mono ?_;rintro e w7 ⟨rfl,Bq⟩;obtain⟨s,fv,is,fd,iN⟩:=zbc lb L.st m.cls m.code;have tV:=mF.trans (Bq.mono mF.size);have F2:=mH.trans (tV.mono mH.size);have Cz:=pq.trans (tV.mono pq.size);have BJ:=bF.below Bq;have Rj:=iN w7 mb _ (yj hD (Cz.block mb Ps));have lF:=fd.one;clear iN gL y0 y1 bF mF Lt O1 Bq;obtain⟨qb,w8,bC,bh,hQ,Be⟩:=yT w7 #[.int .u8 0,.nilFunc] 163;have hf7:w7.heap.size≤qb:=by rw[bC];exact K0 _
 go_wp2_with(with_reducible refine h_B ?_);rw[←bC,←bh];clear bC bh;refine zc (zm (v:=.agg #[.int .u8 (s:Int),fv]) (vs:=[.int .u8 (s:Int),fv]) rfl rfl rfl rfl hQ rfl Wj Wz (by intro u hu;simp at hu;rcases hu with rfl|rfl;rfl;exact lF) #[.int .u8 (s:Int),fv] Wz ?_);intro w9 Pu du iK;clear iK;have v9:Below w7.heap.size w7 w9:=Be.grown du Be.size Wx;have EO:=tV.trans (v9.mono tV.size);have pY:=F2.trans (v9.mono F2.size);have M8:=Cz.trans (v9.mono Cz.size);have lG:=BJ.below v9;have lu:=oe.below M8;have h9:=h.below pY;clear hQ Be du Rj BJ tV F2 Cz v9 oe hD pq mH;have x1:=lu.c1;have c0:=h9.c0;have q0:=Pu.c0;have hci:=fd.small bR;go_upto_region 5 with fail;by_cases qq:a.track=0∧er=0∧is=true∧s=L.st
 ·obtain⟨q1,q2,q3,q4⟩:=qq;have HT:=Q1 q1;have HE:=Q1 q2;have d1:((a.track:Int)!=0)=false:=by rw[q1];rfl
  have d2:(er !=0)=false:=by rw[q2];rfl
  have d3:((s:Int)!=(L.st:Int))=false:=by rw[q4];simp
  subst q3;try simp only[Act.put]
  go_quiet(fail);clear d1 d2 d3 c0 q0 x1 q1 q2;have eA:=za (KS w9.heap.size w9) nq;have hn:=h9.below eA;have bI:=za pY nq;have bZ:=he.on bI;have am:=Pu.below eA;have Lc:=lG.below eA;have mK:=gG.up (EO.trans (eA.mono EO.size));have k0:=Lc.c0;have k1:=Lc.c1;have k2:=Lc.c2;have k3:=Lc.c3;have f1:=am.c1;clear h9 eA Pu lG lu gG EO pY M8 he;generalize w9.drewN nq=wq at*;rcases fd with⟨hk,hc,hd,BW,rfl,_⟩|⟨hk,hc,hd,BW,rfl,_⟩|⟨hk,hc,hd,BW,rfl,_⟩|⟨hk,hc,hd,BW,rfl,_⟩|⟨_,_,_,h⟩
  ·have qq9z:=();exact Z21_
  ·exact Z21_
  ·have HR:=Q1 (show L.ctlM a m er=L.opened (m.args.getD 0 (ag0 false)).s by unfold LS.ctlM;rw[if_neg zAc,if_neg Wq,if_neg Wq,if_pos ⟨hk,by omega⟩]);(have cR:m.args.length=1:=by rw[bQ HE.out,hc,hd];rfl);have pR:=Qy m A2 c2 hn bZ mK cR (m.args.getD 0 (ag0 false)) (by rw[List.getD_eq_getElem?_getD,K2 Wq];rfl) Bm hs;clear cR;exact Z4n_
  ·have qqa0:=();exact Z21_
  cases h
 have HR:=Q1 (fd.bad qq);clear fd;by_cases q1:a.track=0
 ·have d1:((a.track:Int)!=0)=false:=by rw[q1];rfl
  by_cases q2:er=0
  ·have d2:(er !=0)=false:=by rw[q2];rfl
   cases is
   ·have qqat:=();exact Z26_
   exact Z26_
  have qqau:=();exact Z26_
 have qqav:=();exact Z26_
end Go.PH
