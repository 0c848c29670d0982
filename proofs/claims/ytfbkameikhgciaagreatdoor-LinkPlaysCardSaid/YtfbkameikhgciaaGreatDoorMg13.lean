/- Parts. -/
import Derived.Test.YtfbkameikhgciaaGreatDoorMg08
import Derived.Test.YtfbkameikhgciaaGreatDoorMg11
import Derived.Test.YtfbkameikhgciaaGreatDoorMg12
set_option linter.all false
set_option maxRecDepth 20000
set_option maxHeartbeats 8000000
open Go.Lib renaming hid → Q1
open List renaming range → Q2, length_append → K2, length_nil → Vy, all_eq_true → Vx, getElem?_eq_getElem → q0, take_succ_eq_append_getElem → q1, getElem_mem → q2, take_length → q3, length_take → q4, mem_range → q8, length_map → q9, mem_cons → kI, not_mem_nil → kv
open Nat renaming lt_of_lt_of_le → KS, zero_le → K1, le_refl → Wb, min_eq_left → q5, pow_le_pow_right → q6, mod_eq_of_lt → q7, le_trans → ky
open Go.RowKit renaming intOf → K0
open UInt8 renaming ofNat → KL
section
namespace Go.PH
open Go.RowKit Go.Proofs Go.ChangeShapes Go.WideShapes Go.ChangeAt Go.Deep
structure Ag where
 is:Bool
 n:Nat
 s:List UInt8
 x:Xd
 q:List Sp
 v:Vl
structure AH where
 A:Option Addr
 c:Nat
 h:VH
def agC(p:Ag×AH):List Value:=[.bool p.1.is,.int .u64 (p.1.n:Int),.string (str p.1.s),.int .u32 (p.1.x.fmt:Int),.string (str p.1.x.glob),.string (str p.1.x.bran),.slice p.2.A p.1.q.length p.2.c,
 .int .u8 (p.1.v.kind:Int),.int .u64 (p.1.v.n:Int),.string (str p.1.v.s),.slice p.2.h.A1 p.1.v.keys.length p.2.h.c1,.slice p.2.h.A2 p.1.v.list.length p.2.h.c2]
def agV(a:Ag)(h:AH):Array Value:=#[.bool a.is,.int .u64 (a.n:Int),.string (str a.s),.int .u32 (a.x.fmt:Int),.string (str a.x.glob),.string (str a.x.bran),.slice h.A a.q.length h.c,
 .int .u8 (a.v.kind:Int),.int .u64 (a.v.n:Int),.string (str a.v.s),.slice h.h.A1 a.v.keys.length h.h.c1,.slice h.h.A2 a.v.list.length h.h.c2]
theorem Qf:RecShape agC 12 where
 len _:=rfl
 one a u hu:=by simp[agC]at hu;rcases hu with rfl|rfl|rfl|rfl|rfl|rfl|rfl|rfl|rfl|rfl|rfl|rfl<;>rfl
 pos:=by omega
structure RA(w:World)(F:Nat→Prop)(a:Ag)(h:AH):Prop where
 n:a.n<18446744073709551616
 s:a.s.length≤140737488351232
 x:a.x.wf
 q:RdX w F 2 h.A a.q.length h.c (yx a.q)
 ok:spOK 4294967296 a.q
 c:a.q.length≤140737488351232
 v:RV w F a.v h.h
theorem RA.keep{w w':World}{F:Nat→Prop}{a:Ag}{h:AH}(ha:RA w F a h)(hk:∀g,F g→w'.heap[g]?=w.heap[g]?)(hs:w.heap.size≤w'.heap.size):RA w' F a h:=⟨ha.n,ha.s,ha.x,ha.q.keep hk hs,ha.ok,ha.c,ha.v.keep hk hs⟩
theorem RA.mono{w:World}{F G:Nat→Prop}{a:Ag}{h:AH}(ha:RA w F a h)(hF:∀g,F g→G g):RA w G a h:=⟨ha.n,ha.s,ha.x,ha.q.mono hF,ha.ok,ha.c,ha.v.mono hF⟩
abbrev RAw(w:World)(a:Ag)(h:AH):Prop:=RA w (fun g=>g<w.heap.size) a h
theorem RA.up{w w':World}{a:Ag}{h:AH}(ha:RAw w a h)(hB:Below w.heap.size w w'):RAw w' a h:=(ha.keep (fun g hg=>hB.block g hg) hB.size).mono (fun g hg=>KS hg hB.size)
structure Mt where
 cls:Nat
 code:Nat
 sync:Bool
 args:List Ag
structure RM(w:World)(F:Nat→Prop)(m:Mt)(A:Option Addr)(c:Nat):Prop where
 cls:m.cls<256
 code:m.code<256
 row:∃xs:List (Ag×AH),xs.map (·.1)=m.args∧RdX w F 12 A m.args.length c (rowC agC xs)∧∀p∈xs,RA w F p.1 p.2
 c:m.args.length≤140737488351232
def mtV(m:Mt)(A:Option Addr)(c:Nat):Array Value:=#[.int .u8 (m.cls:Int),.int .u8 (m.code:Int),.bool m.sync,.slice A m.args.length c]
theorem RM.keep{w w':World}{F:Nat→Prop}{m:Mt}{A:Option Addr}{c:Nat}(hm:RM w F m A c)(hk:∀g,F g→w'.heap[g]?=w.heap[g]?)(hs:w.heap.size≤w'.heap.size):RM w' F m A c:=by
 obtain⟨h1,h2,⟨xs,e,h3,h4⟩,h5⟩:=hm;exact⟨h1,h2,⟨xs,e,h3.keep hk hs,fun p hp=>(h4 p hp).keep hk hs⟩,h5⟩
theorem RM.mono{w:World}{F G:Nat→Prop}{m:Mt}{A:Option Addr}{c:Nat}(hm:RM w F m A c)(hF:∀g,F g→G g):RM w G m A c:=by
 obtain⟨h1,h2,⟨xs,e,h3,h4⟩,h5⟩:=hm;exact⟨h1,h2,⟨xs,e,h3.mono hF,fun p hp=>(h4 p hp).mono hF⟩,h5⟩
abbrev RMw(w:World)(m:Mt)(A:Option Addr)(c:Nat):Prop:=RM w (fun g=>g<w.heap.size) m A c
theorem RM.up{w w':World}{m:Mt}{A:Option Addr}{c:Nat}(hm:RMw w m A c)(hB:Below w.heap.size w w'):RMw w' m A c:=(hm.keep (fun g hg=>hB.block g hg) hB.size).mono (fun g hg=>KS hg hB.size)
theorem RM.elem{w:World}{m:Mt}{A:Option Addr}{c:Nat}(hm:RMw w m A c){i:Nat}(hi:i<m.args.length):∃b off hx,A=some ⟨b,off,none⟩∧RAw w m.args[i] hx∧∀W,Below w.heap.size w W→∀j u,(agC (m.args[i],hx))[j]?=some u→W.cell? ⟨b,off+i*12+j,none⟩=some u:=by
 obtain⟨_,_,⟨xs,e,h1,h2⟩,_⟩:=hm;obtain⟨b,off,hA,hb,hl,hc⟩:=xF Qf h1.1 hi;have p8:xs[i]∈xs:=q2 hl
 have hx:xs[i].1=m.args[i]:=by
  have:(xs.map (·.1))[i]'zAh=m.args[i]:=by simp only[e]
  simpa using this
 refine⟨b,off,xs[i].2,hA,hx▸h2 _ p8,fun W hW=>?_⟩;rw[←hx];exact fun j u hu=>(hW.cell hb).trans (hc j u hu)
section
variable {H : Type} {enc : TypeId × Value → H} {W : World}
end
end Go.PH
end
namespace Go.PH
open Go.RowKit Go.Proofs Go.Proofs.Tryz
variable {B lb n rc rn : Nat} {T U : Nat → Prop} {w w' : World}
def zy(a b:Ag):Bool:=decide (a.is=b.is)&&decide (a.n=b.n)&&decide (a.s=b.s)&&decide (a.x=b.x)&&decide (a.q=b.q)&&yJ a.v b.v
theorem zL(a b:Ag):zy a b=true↔a=b:=by
 obtain⟨a1,a2,a3,a4,a5,a6⟩:=a;obtain⟨b1,b2,b3,b4,b5,b6⟩:=b;unfold zy;simp only[Bool.and_eq_true,decide_eq_true_eq,jY,Ag.mk.injEq];constructor
 ·rintro⟨⟨⟨⟨⟨a,b⟩,c⟩,d⟩,e⟩,f⟩;exact⟨a,b,c,d,e,f⟩
 rintro⟨a,b,c,d,e,f⟩;exact⟨⟨⟨⟨⟨a,b⟩,c⟩,d⟩,e⟩,f⟩
theorem JL(A:Option Addr)(n c:Nat)(l:List Sp)(A':Option Addr)(n' c':Nat)(l':List Sp)(B:Nat)(w:World)(hr:RdS w B A n c l)(i5:RdS w B A' n' c' l')(hB:B≤w.heap.size)(hn:n≤140737488355328)(Dp:n'≤140737488355328):
  Calls prog 125 #[.slice A n c,.slice A' n' c'] w fun e w'=>e= .returned (.bool (decide (l=l')))∧Below w.heap.size w w':=by
 have hl:=hr.length;have iV:=i5.length;by_cases de:n=n'
 ·subst de;have h0:(((n:Nat):Int)!=((n:Nat):Int))=false:=by simp
  go_enter func125,ntmps125;go_wp2_with(with_reducible refine h_A ?_);go_loopw [13] (fun s wr=>∃(k:Nat),k≤n∧s= .int .i64 k∧l.take k=l'.take k∧Below w.heap.size w wr) (fun s _=>n-(K0 s).toNat)
  case atStart=>exact⟨0,by omega,rfl,by simp,Below.refl _ _⟩
  obtain⟨k,hk,rfl,iP,bP⟩:=hrel;by_cases hlt:k<n
  ·obtain⟨b,off,rfl,dx,bI,gV,ca⟩:=RdS.at_k (hr.below (bP.mono hB)) hlt;obtain⟨b',off',rfl,ua,ov,hhb,R0⟩:=RdS.at_k (i5.below (bP.mono hB)) hlt;have HT:=Q1 (q1 bI);have FQ:=Q1 (q1 ov);have HE:Hid (l=l'→l[k]=l'[k]):=Q1 (fun h=>by subst h;rfl);have HK:=Q1 iP;clear iP;generalize l[k]=x at*;generalize l'[k]=x' at*;obtain⟨f,t⟩:=x;obtain⟨f',t'⟩:=x';(have mU:=fun x y=>run_eqGuard_agg (P:=prog) wr .neq 208 x y #[.int .u32 f,.int .u32 t] #[.int .u32 f',.int .u32 t'] JO);by_cases GH:(f,t)=(f',t')
   ·(have hne:∀w,(binOp .neq 208 (.agg #[.int .u32 f,.int .u32 t]) (.agg #[.int .u32 f',.int .u32 t'])).run prog w= .ok (.bool false) w:=fun w=>by rw[Q0,decide_eq_true GH];rfl);(have hy:l.take (k+1)=l'.take (k+1):=by rw[HT.out,FQ.out,HK.out,GH]);clear GH;go_wp2_with(with_reducible refine h_A ?_);go_quiet(fail);go_wp2_with(with_reducible refine h_A ?_);exact⟨⟨k+1,by omega,by go_num,hy,za bP _⟩,by simp[K0];omega⟩
   have hne:∀w,(binOp .neq 208 (.agg #[.int .u32 f,.int .u32 t]) (.agg #[.int .u32 f',.int .u32 t'])).run prog w= .ok (.bool true) w:=fun w=>by rw[Q0,decide_eq_false GH];rfl
   have BO:decide (l=l')=false:=by
    have:=HE.out;simp only[decide_eq_false_iff_not];exact fun h=>GH (this h)
   clear GH;go_wp2_with(with_reducible refine h_A ?_);go_quiet(fail);go_wp2_with(with_reducible refine h_A ?_);go_ret;rw[BO];exact⟨rfl,za bP _⟩
  obtain rfl:k=n:=by omega
  rw[←hl,q3,hl,←iV,q3]at iP;subst iP;go_wp2_with(with_reducible refine h_A ?_);go_ret;exact⟨by simp,bP⟩
 have h0:(((n:Nat):Int)!=((n':Nat):Int))=true:=by simp;omega
 have hne:decide (l=l')=false:=by
  simp;rintro rfl;omega
 go_enter func125,ntmps125;go_wp2_with(with_reducible refine h_A ?_);go_ret;rw[hne];exact⟨rfl,Below.refl _ _⟩
theorem xJ(a b:Ag)(h k:AH)(w:World)(ha:RAw w a h)(hb:RAw w b k):Calls prog 106 #[.agg (agV a h),.agg (agV b k)] w fun e w'=>e= .returned (.bool (zy a b))∧Below w.heap.size w w':=by
 unfold agV;obtain⟨xb,w1,Hg,Hi,hX,Ha⟩:=zg w #[.bool a.is,.int .u64 (a.n:Int),.string (str a.s),.int .u32 (a.x.fmt:Int),.string (str a.x.glob),.string (str a.x.bran),.slice h.A a.q.length h.c,.int .u8 (a.v.kind:Int),.int .u64 (a.v.n:Int),.string (str a.v.s),.slice h.h.A1 a.v.keys.length h.h.c1,.slice h.h.A2 a.v.list.length h.h.c2] 80;obtain⟨yb,w2,iB,dF,hY,Hc⟩:=zg w1 #[.bool b.is,.int .u64 (b.n:Int),.string (str b.s),.int .u32 (b.x.fmt:Int),.string (str b.x.glob),.string (str b.x.bran),.slice k.A b.q.length k.c,.int .u8 (b.v.kind:Int),.int .u64 (b.v.n:Int),.string (str b.v.s),.slice k.h.A1 b.v.keys.length k.h.c1,.slice k.h.A2 b.v.list.length k.h.c2] 80;have BU:xb+1=yb:=by rw[iB,Hi,Hg];simp
 have hB:=Ha.trans (Hc.mono Ha.size);have Hk:=hX.below Hc;have db:=ha.up hB;have bF:=hb.up hB;have c_0:=Hk.c0;have c_1:=Hk.c1;have c_2:=Hk.c2;have c_3:=Hk.c3;have c_4:=Hk.c4;have c_5:=Hk.c5;have c_6:=Hk.c6;have c_7:=Hk.c7;have c_8:=Hk.c8;have c_9:=Hk.c9;have c_10:=Hk.c10;have c_11:=Hk.c11;have d_0:=hY.c0;have d_1:=hY.c1;have d_2:=hY.c2;have d_3:=hY.c3;have d_4:=hY.c4;have d_5:=hY.c5;have d_6:=hY.c6;have d_7:=hY.c7;have d_8:=hY.c8;have d_9:=hY.c9;have d_10:=hY.c10;have d_11:=hY.c11;have bV:=jZ a.s b.s;have dw:((str a.s).toList !=(str b.s).toList)= !decide (a.s=b.s):=by rw[bne,jZ]
 have su:=fun w=>zaO a.x b.x w
 unfold xdV at su;have mU:=fun x y=>run_eqGuard_agg (P:=prog) w2 .eql 73 x y #[.int .u32 (a.x.fmt:Int),.string (str a.x.glob),.string (str a.x.bran)] #[.int .u32 (b.x.fmt:Int),.string (str b.x.glob),.string (str b.x.bran)] yw
 have wv:=JL h.A a.q.length h.c a.q k.A b.q.length k.c b.q w2.heap.size w2 db.q.1 bF.q.1 (Wb _) (by have:=db.c;omega) (by have:=bF.c;omega);have cM:=fun(W:World) (hW:Below w2.heap.size w2 W)=>KZ a.v b.v h.h k.h W (db.v.up hW) (bF.v.up hW)
 have HS:Hid (zy a b=(decide (a.is=b.is)&&decide (a.n=b.n)&&decide (a.s=b.s)&&decide (a.x=b.x)&&decide (a.q=b.q)&&yJ a.v b.v)):=Q1 rfl;unfold vlV jI at cM;clear iB hX ha hb db bF Ha Hc;by_cases h1:a.is=b.is
 ·have g1:(a.is==b.is)=true:=by simp[h1]
  by_cases h2:a.n=b.n
  ·(have g2:((a.n:Int)==(b.n:Int))=true:=by simp[h2]);by_cases h3:a.s=b.s
   ·rw[decide_eq_true h3]at bV dw;simp only[Bool.not_true]at dw;by_cases h4:a.x=b.x
    ·simp only[decide_eq_true h4]at su;by_cases h5:a.q=b.q
     ·exact Z1o_
     have qq8w:=();exact Z1o_
    have qqde:=();exact Z33_
   exact Z33_
  have qqdf:=();exact Z33_
 have qqdg:=();exact Z33_
section
theorem RA.under{a:Ag}{h:AH}(ha:RA w (fun g=>g<B) a h)(hB:Below B w w'):RA w' (fun g=>g<B) a h:=ha.keep (fun g hg=>hB.block g hg) hB.size
def xd0:Xd:=⟨0,[],[]⟩
def ag0(is:Bool):Ag:=⟨is,0,[],xd0,[],vl0⟩
def ah0:AH:=⟨none,0,⟨none,0,none,0⟩⟩
theorem RA.zero(w:World)(F:Nat→Prop)(is:Bool):RA w F (ag0 is) ah0:=⟨(by show(0:Nat)<_;decide),K1 _,⟨(by show(0:Nat)<_;decide),K1 _,K1 _⟩,RdX.nil _ _ _ _ _ (K1 _),(fun a ha=>absurd ha (by show ¬a∈([]:List Sp);simp)),K1 _,RV.zero _ _⟩
def agN(a:Ag):Ag:=⟨true,a.n,[],xd0,[],vl0⟩
def agS(a:Ag):Ag:=⟨true,0,a.s,xd0,[],vl0⟩
def agX(a:Ag):Ag:=⟨true,0,[],a.x,[],vl0⟩
def agQ(a:Ag):Ag:=⟨true,0,[],xd0,a.q,vl0⟩
def agX2(a:Ag):Ag:=⟨true,0,[],xd0,[],a.v⟩
def ahQ(h:AH):AH:=⟨h.A,h.c,⟨none,0,none,0⟩⟩
def ahV(h:AH):AH:=⟨none,0,h.h⟩
section
variable {w : World} {F : Nat → Prop} {a : Ag} {h : AH}
theorem RA.ofN(ha:RA w F a h):RA w F (agN a) ah0:=⟨ha.n,(RA.zero w F true).s,(RA.zero w F true).x,(RA.zero w F true).q,(RA.zero w F true).ok,(RA.zero w F true).c,(RA.zero w F true).v⟩
theorem RA.ofS(ha:RA w F a h):RA w F (agS a) ah0:=⟨(RA.zero w F true).n,ha.s,(RA.zero w F true).x,(RA.zero w F true).q,(RA.zero w F true).ok,(RA.zero w F true).c,(RA.zero w F true).v⟩
theorem RA.ofX(ha:RA w F a h):RA w F (agX a) ah0:=⟨(RA.zero w F true).n,(RA.zero w F true).s,ha.x,(RA.zero w F true).q,(RA.zero w F true).ok,(RA.zero w F true).c,(RA.zero w F true).v⟩
theorem RA.ofQ(ha:RA w F a h):RA w F (agQ a) (ahQ h):=⟨(RA.zero w F true).n,(RA.zero w F true).s,(RA.zero w F true).x,ha.q,ha.ok,ha.c,(RA.zero w F true).v⟩
theorem RA.ofV(ha:RA w F a h):RA w F (agX2 a) (ahV h):=⟨(RA.zero w F true).n,(RA.zero w F true).s,(RA.zero w F true).x,(RA.zero w F true).q,(RA.zero w F true).ok,(RA.zero w F true).c,ha.v⟩
end
theorem Zx(s:List UInt8):(zP [] s 1).length≤2000000:=by
 by_cases h:zE s.length 1=0
 ·have hs:s.length<256:=by
   unfold zE at h;simp at h;exact h
  rw[yQ h];simp only[K2,zr,Vy];show 0+1+s.length≤_
  omega
 rw[yO h];simp
theorem Zy(s:List UInt8):(zP [] s 2).length≤2000000:=by
 by_cases h:zE s.length 2=0
 ·have hs:s.length<65536:=by
   unfold zE at h;simp at h;exact h
  rw[yQ h];simp only[K2,zr,Vy];show 0+2+s.length≤_
  omega
 rw[yO h];simp
theorem Zz(x:Xd):x.put.length≤2000000:=by
 cases h:x.ok
 ·rw[Xd.put_no h];simp
 rw[Xd.put_ok h,Xd.bytes_length];have:=(Xd.ok_iff x).1 h;omega
theorem ZA(l:List Sp):(yL l).length≤2000000:=by
 unfold yL;split
 ·simp only[K2,zr,ZL];omega
 simp
theorem Xj(v:Vl):(vlP v).length≤2000000:=by
 unfold vlP;split
 ·rename_i h
  obtain⟨hc,hm⟩:=j3 h;have:=ZF 200 hm hc;omega
 simp
def PutG(w:World)(base:Nat)(row:Option Nat)(ok:Bool)(l:List UInt8)(e:Ending)(w':World):Prop:=∃A2 n2 c2,e= .returned (.tuple #[.slice A2 n2 c2,.bool ok])∧Below base w w'∧KB w w' row∧(ok=true→n2=l.length∧OwnB w' base A2 n2 c2 l)
theorem zc3(a:Ag)(h:AH)(base:Nat)(A:Option Addr)(n c:Nat)(l:List UInt8)(w:World)(Hl:OwnB w base A n c l)(Hf:base≤w.heap.size)(hn:n≤100000000)(ha:RA w (fun g=>g<base) a h):
  Calls prog 71 #[.slice A n c,.int .u8 98,.agg (agV a h)] w (PutG w base (blk A) (zy a (ag0 a.is)) (l++ [])):=by
 have qq2y:=();exact Ze_
theorem zbP(a:Ag)(h:AH)(base:Nat)(A:Option Addr)(n c:Nat)(l:List UInt8)(w:World)(Hl:OwnB w base A n c l)(Hf:base≤w.heap.size)(hn:n≤100000000)(ha:RA w (fun g=>g<base) a h):
  Calls prog 71 #[.slice A n c,.int .u8 115,.agg (agV a h)] w (PutG w base (blk A) (decide (zE a.s.length 1=0)&&zy a (agS a)) (l++zP [] a.s 1)):=by
 have qq2u:=();exact Ze_
theorem zbQ(a:Ag)(h:AH)(base:Nat)(A:Option Addr)(n c:Nat)(l:List UInt8)(w:World)(Hl:OwnB w base A n c l)(Hf:base≤w.heap.size)(hn:n≤100000000)(ha:RA w (fun g=>g<base) a h):
  Calls prog 71 #[.slice A n c,.int .u8 116,.agg (agV a h)] w (PutG w base (blk A) (decide (zE a.s.length 2=0)&&zy a (agS a)) (l++zP [] a.s 2)):=by
 have qq2v:=();exact Ze_
theorem zc4(a:Ag)(h:AH)(base:Nat)(A:Option Addr)(n c:Nat)(l:List UInt8)(w:World)(Hl:OwnB w base A n c l)(Hf:base≤w.heap.size)(hn:n≤100000000)(ha:RA w (fun g=>g<base) a h):
  Calls prog 71 #[.slice A n c,.int .u8 120,.agg (agV a h)] w (PutG w base (blk A) (decide (((a.x.err:Nat):Int)=0)&&zy a (agX a)) (l++a.x.put)):=by
 have qq2x:=();exact Ze_
theorem zc5(a:Ag)(h:AH)(base:Nat)(A:Option Addr)(n c:Nat)(l:List UInt8)(w:World)(Hl:OwnB w base A n c l)(Hf:base≤w.heap.size)(hn:n≤100000000)(ha:RA w (fun g=>g<base) a h):
  Calls prog 71 #[.slice A n c,.int .u8 114,.agg (agV a h)] w (PutG w base (blk A) (decide (((ye a.q:Nat):Int)=0)&&zy a (agQ a)) (l++yL a.q)):=by
 have qq2w:=();exact Ze_
theorem zc6(a:Ag)(h:AH)(base:Nat)(A:Option Addr)(n c:Nat)(l:List UInt8)(w:World)(Hl:OwnB w base A n c l)(Hf:base≤w.heap.size)(hn:n≤100000000)(ha:RA w (fun g=>g<base) a h)(hT:UTabs w):
  Calls prog 71 #[.slice A n c,.int .u8 118,.agg (agV a h)] w (PutG w base (blk A) (decide (errV a.v=0)&&zy a (agX2 a)) (l++vlP a.v)):=by
 exact Ze_
theorem zc7(a:Ag)(h:AH)(base:Nat)(A:Option Addr)(n c:Nat)(l:List UInt8)(w:World)(Hl:OwnB w base A n c l)(Hf:base≤w.heap.size)(hn:n≤100000000)(ha:RA w (fun g=>g<base) a h)(hv:a.n<256):
  Calls prog 71 #[.slice A n c,.int .u8 110,.agg (agV a h)] w (PutG w base (blk A) (zy a (agN a)) (l++be 1 a.n)):=by
 exact Z8_
theorem KT(a:Ag)(h:AH)(base:Nat)(A:Option Addr)(n c:Nat)(l:List UInt8)(w:World)(Hl:OwnB w base A n c l)(Hf:base≤w.heap.size)(hn:n≤100000000)(ha:RA w (fun g=>g<base) a h)(hv:256≤a.n):
  Calls prog 71 #[.slice A n c,.int .u8 110,.agg (agV a h)] w (PutG w base (blk A) false (l++be 1 a.n)):=by
 exact Zp_
theorem zbR(a:Ag)(h:AH)(base:Nat)(A:Option Addr)(n c:Nat)(l:List UInt8)(w:World)(Hl:OwnB w base A n c l)(Hf:base≤w.heap.size)(hn:n≤100000000)(ha:RA w (fun g=>g<base) a h)(hv:a.n<65536):
  Calls prog 71 #[.slice A n c,.int .u8 119,.agg (agV a h)] w (PutG w base (blk A) (zy a (agN a)) (l++be 2 a.n)):=by
 have qq27:=();exact Z8_
theorem Xk(a:Ag)(h:AH)(base:Nat)(A:Option Addr)(n c:Nat)(l:List UInt8)(w:World)(Hl:OwnB w base A n c l)(Hf:base≤w.heap.size)(hn:n≤100000000)(ha:RA w (fun g=>g<base) a h)(hv:65536≤a.n):
  Calls prog 71 #[.slice A n c,.int .u8 119,.agg (agV a h)] w (PutG w base (blk A) false (l++be 2 a.n)):=by
 have qq4b:=();exact Zp_
theorem zc8(a:Ag)(h:AH)(base:Nat)(A:Option Addr)(n c:Nat)(l:List UInt8)(w:World)(Hl:OwnB w base A n c l)(Hf:base≤w.heap.size)(hn:n≤100000000)(ha:RA w (fun g=>g<base) a h)(hv:a.n<4294967296):
  Calls prog 71 #[.slice A n c,.int .u8 100,.agg (agV a h)] w (PutG w base (blk A) (zy a (agN a)) (l++be 4 a.n)):=by
 have qq28:=();exact Z8_
theorem KU(a:Ag)(h:AH)(base:Nat)(A:Option Addr)(n c:Nat)(l:List UInt8)(w:World)(Hl:OwnB w base A n c l)(Hf:base≤w.heap.size)(hn:n≤100000000)(ha:RA w (fun g=>g<base) a h)(hv:4294967296≤a.n):
  Calls prog 71 #[.slice A n c,.int .u8 100,.agg (agV a h)] w (PutG w base (blk A) false (l++be 4 a.n)):=by
 have qq4c:=();exact Zp_
def okA(kd:UInt8)(a:Ag):Bool:=
 if kd=98 then zy a (ag0 a.is)else if kd=110 then decide (a.n<256)&&zy a (agN a)else if kd=119 then decide (a.n<65536)&&zy a (agN a)else if kd=100 then decide (a.n<4294967296)&&zy a (agN a)
 else if kd=115 then decide (zE a.s.length 1=0)&&zy a (agS a)else if kd=116 then decide (zE a.s.length 2=0)&&zy a (agS a)
 else if kd=120 then decide (((a.x.err:Nat):Int)=0)&&zy a (agX a)else if kd=114 then decide (((ye a.q:Nat):Int)=0)&&zy a (agQ a)else decide (errV a.v=0)&&zy a (agX2 a)
def byA(kd:UInt8)(a:Ag):List UInt8:=
 if kd=98 then []else if kd=110 then be 1 a.n else if kd=119 then be 2 a.n else if kd=100 then be 4 a.n
 else if kd=115 then zP [] a.s 1 else if kd=116 then zP [] a.s 2
 else if kd=120 then a.x.put else if kd=114 then yL a.q else vlP a.v
def jX:List UInt8:=[98,110,119,100,115,116,120,114,118]
theorem ZB(kd:UInt8)(a:Ag):(byA kd a).length≤2000000:=by
 unfold byA;repeat' split
 all_goals first|exact Zx _|exact Zy _|exact Zz _|exact ZA _|exact Xj _|(rw[zr];omega)|simp
theorem zaU(kd:UInt8)(hk:kd∈jX)(a:Ag)(h:AH)(base:Nat)(A:Option Addr)(n c:Nat)(l:List UInt8)(w:World)(Hl:OwnB w base A n c l)(Hf:base≤w.heap.size)(hn:n≤100000000)(ha:RA w (fun g=>g<base) a h)(hT:UTabs w):
  Calls prog 71 #[.slice A n c,.int .u8 (kd.toNat:Int),.agg (agV a h)] w (PutG w base (blk A) (okA kd a) (l++byA kd a)):=by
 exact Z1s_
end
def toSA(a:Ag):SA:=⟨a.is,0,[]⟩
theorem zdB(cls code:Nat)(sync:Bool)(L:List Ag)(kd:List UInt8)(pm:Nat→List UInt8)(okf:Nat→Bool)(A:Option Addr)(n c:Nat)(w:World)(he:MEnv w)
  (BE:∀(i:Nat) (hi:i<L.length),∃b off hx,A=some ⟨b,off,none⟩∧RAw w L[i] hx∧∀W,Below w.heap.size w W→∀j u,(agC (L[i],hx))[j]?=some u→W.cell? ⟨b,off+i*12+j,none⟩=some u) (aw:n=L.length)
  (hk:yv (ym cls code)=kd) (hf:(ym cls code).isSome=true) (hn:n=kd.length) (pn:n≤7) (wo:sync=true→¬cls≤2) (hc:cls<256) (pH:code<256) (eg:∀i,i<n→(pm i).length≤2000000)
  (MP:∀i (h:i<L.length) (h':i<kd.length) (hx:AH) (base:Nat) (W:World) (A':Option Addr) (n' c':Nat) (l:List UInt8),OwnB W base A' n' c' l→base≤W.heap.size→n'≤100000000→RA W (fun g=>g<base) L[i] hx→Below w.heap.size w W→Calls prog 71 #[.slice A' n' c',.int .u8 (kd[i].toNat:Int),.agg (agV L[i] hx)] W (PutG W base (blk A') (okf i) (l++pm i)))
  (RES:List UInt8) (E:Int) (mC:Hid ((∀i,i<n→okf i=true)→RES=kG cls code sync (zF (L.map toSA))++(Q2 n).flatMap pm∧E=0)) (cJ:Hid (∀i,i<n→okf i=false→RES=[]∧E=80)):
  Calls prog 50 #[.agg #[.int .u8 (cls:Int),.int .u8 (code:Int),.bool sync,.slice A n c]] w fun e w'=>∃A2 c2,e= .returned (.tuple #[.slice A2 RES.length c2,.int .i64 E])∧OwnB w' w.heap.size A2 RES.length c2 RES∧Below w.heap.size w w':=by
 obtain⟨L0,Du⟩:∃L0,L0=L.map toSA:=⟨_,rfl⟩
 rw[←Du]at mC;have fB:L0.length=L.length:=by rw[Du];simp
 have Ra:=Q1 Du;clear Du;have hcw:L.length≤n:=by omega
 have aE:n≤L.length:=by omega
 have Cs:L0.length≤n:=by omega
 have Rr:n≤L0.length:=by omega
 clear aw fB;have Pr:n≤kd.length:=by omega
 have Sm:kd.length≤n:=by omega
 have bQ:((n:Int)!=((str kd).size:Int))=false:=by rw[zi,hn];simp
 have DC:((n:Int)!=(kd.length:Int))=false:=by rw[hn];simp
 clear hn;have f8:=Zw cls code;rw[hk,hf]at f8;have LJ:=f8 (w.alloc (.cells #[.int .u8 (cls:Int),.int .u8 (code:Int),.bool sync,.slice A n c] 106)) (he.on ((Below.refl _ _).alloc (Wb _) _));have dD:=zi kd;have DO:=Box.new w #[.int .u8 (cls:Int),.int .u8 (code:Int),.bool sync,.slice A n c] 106;have Hy:=(Below.refl w.heap.size w).alloc (Wb _) (.cells #[.int .u8 (cls:Int),.int .u8 (code:Int),.bool sync,.slice A n c] 106);have LV:=Q1 MP;have GU:=Q1 eg;have sV:=Q1 BE;have fh:=fun W=>kF cls W
 clear MP eg hk hf f8 BE he;go_enter func50,ntmps50;go_upto_region 1 with fail;obtain⟨mb,cw⟩:∃m,m=w.heap.size:=⟨_,rfl⟩
 rw[←cw]at DO ⊢;have NK:w.heap.size≤mb:=by omega
 clear cw;generalize(w.alloc (.cells #[.int .u8 (cls:Int),.int .u8 (code:Int),.bool sync,.slice A n c] 106))=w0 at*;have x0:=DO.c0;have x1:=DO.c1;have x2:=DO.c2;have x3:=DO.c3;go_wp2_with(with_reducible refine h_A ?_);refine LJ.mono ?_;rintro e w1 ⟨rfl,Ha⟩;have rt:=DO.below Ha;have iv:=Hy.trans (Ha.mono Hy.size);clear x0 x1 x2 x3 LJ DO Hy Ha;have x0:=rt.c0;have x1:=rt.c1;have x2:=rt.c2;have x3:=rt.c3;have si:=rt.lt;go_upto_region 2 with fail;go_cut [38]from 12 to 88 (fun s wx=>s= .bool false∧w1=wx)
 case first=>
  cases sync
  ·exact Z65_
  have hd:decide (cls≤2)=false:=by simpa using wo rfl
  go_wp2_with(with_reducible refine h_A ?_);refine(fh _).mono ?_;rintro e w2 ⟨rfl,rfl⟩;rw[hd];clear hd;exact Z65_
 obtain⟨rfl,rfl⟩:=hcut;have mg:=Q1 wo;clear wo;have cV:OwnB w1 (mb+1) none 0 0 []:=Own.none_ _ _ _ _;go_wp2_with(with_reducible refine h_A ?_);go_loopw [42,6,7] (fun s42 s6 s7 wr=>∃(k c2 m:Nat) (A2:Option Addr),k≤n∧s42= .int .i64 k∧s6= .slice A2 m c2∧s7= .int .u64 ((zF (L0.take k):Nat):Int)∧OwnB wr (mb+1) A2 m c2 ((Q2 k).flatMap pm)∧m≤2000000*k∧Box wr mb 106 #[.int .u8 (cls:Int),.int .u8 (code:Int),.bool sync,.slice A n c]∧Below w.heap.size w wr∧Hid (∀j,j<k→okf j=true)) (fun s _ _ _=>n-(K0 s).toNat)
 case atStart=>exact⟨0,0,0,none,by omega,rfl,rfl,rfl,cV,by omega,rt,iv,Q1 (fun j hj=>by omega)⟩
 obtain⟨k,c2,m,A2,hk,rfl,rfl,rfl,ho,hm,hb,hB,Bz⟩:=hrel;clear cV rt iv x0 x1 x2 x3 bQ DC;have hhy:=hb.lt;by_cases hlt:k<n
 ·have f8:(k:Int)<(n:Int):=by omega
  have ee:k<kd.length:=by omega
  have MI:k<(str kd).size:=by rw[dD];exact ee
  have tQ:k<L.length:=by omega
  have Pi:k<L0.length:=by omega
  obtain⟨ab,aoff,hx,hA,fa,IM⟩:=sV.out k tQ;have lh:=IM wr hB;clear IM;have N0:Hid (zF (L0.take (k+1))=zF (L0.take k)+(if L[k].is then 2 ^ k else 0)):=Q1 (by rw[q1 Pi,Qe,q4,q5 Wq];simp only[Ra.out,List.getElem_map];rfl);have dl:=xq (L0.take k);rw[q4,q5 (by omega:k≤L0.length)]at dl;have ck:=LV.out k tQ ee hx;have BO:=cJ.out k hlt;have lv:=Q1 BO;clear BO;obtain⟨okk,gi⟩:∃o,o=okf k:=⟨_,rfl⟩
  rw[←gi]at ck lv;have mH:=Q1 gi;clear gi;have aI:=GU.out k hlt;generalize L[k]=a at*;have z0:wr.cell? ⟨ab,aoff+k*12,none⟩=_:=lh 0 _ rfl;have z1:=lh 1 _ rfl;have z2:=lh 2 _ rfl;have z3:=lh 3 _ rfl;have z4:=lh 4 _ rfl;have z5:=lh 5 _ rfl;have z6:=lh 6 _ rfl;have z7:=lh 7 _ rfl;have z8:=lh 8 _ rfl;have z9:=lh 9 _ rfl;have zA:=lh 10 _ rfl;have zB:=lh 11 _ rfl;subst hA;have Hg:=Box.new wr #[.bool a.is,.int .u64 (a.n:Int),.string (str a.s),.int .u32 (a.x.fmt:Int),.string (str a.x.glob),.string (str a.x.bran),.slice hx.A a.q.length hx.c,.int .u8 (a.v.kind:Int),.int .u64 (a.v.n:Int),.string (str a.v.s),.slice hx.h.A1 a.v.keys.length hx.h.c1,.slice hx.h.A2 a.v.list.length hx.h.c2] 80;have bF:=hb.alloc (.cells #[.bool a.is,.int .u64 (a.n:Int),.string (str a.s),.int .u32 (a.x.fmt:Int),.string (str a.x.glob),.string (str a.x.bran),.slice hx.A a.q.length hx.c,.int .u8 (a.v.kind:Int),.int .u64 (a.v.n:Int),.string (str a.v.s),.slice hx.h.A1 a.v.keys.length hx.h.c1,.slice hx.h.A2 a.v.list.length hx.h.c2] 80);have Hc:=hB.alloc hB.size (.cells #[.bool a.is,.int .u64 (a.n:Int),.string (str a.s),.int .u32 (a.x.fmt:Int),.string (str a.x.glob),.string (str a.x.bran),.slice hx.A a.q.length hx.c,.int .u8 (a.v.kind:Int),.int .u64 (a.v.n:Int),.string (str a.v.s),.slice hx.h.A1 a.v.keys.length hx.h.c1,.slice hx.h.A2 a.v.list.length hx.h.c2] 80);have bW:OwnB (wr.alloc (.cells #[.bool a.is,.int .u64 (a.n:Int),.string (str a.s),.int .u32 (a.x.fmt:Int),.string (str a.x.glob),.string (str a.x.bran),.slice hx.A a.q.length hx.c,.int .u8 (a.v.kind:Int),.int .u64 (a.v.n:Int),.string (str a.v.s),.slice hx.h.A1 a.v.keys.length hx.h.c1,.slice hx.h.A2 a.v.list.length hx.h.c2] 80)) (mb+1) A2 m c2 ((Q2 k).flatMap pm):=ho.alloc _;have dR:∀g,blk A2=some g→g<wr.heap.size∧mb<g:=fun g hg=>⟨(ho.blk_lt hg).2,by have:=(ho.blk_lt hg).1;omega⟩
  clear lh;unfold agV at ck;go_upto_region 10 with fail;obtain⟨xb,US⟩:∃g,g=wr.heap.size:=⟨_,rfl⟩
  rw[←US]at Hg dR ⊢;clear US z0 z1 z2 z3 z4 z5 z6 z7 z8 z9 zA zB ho hb hB;generalize(wr.alloc (.cells #[.bool a.is,.int .u64 (a.n:Int),.string (str a.s),.int .u32 (a.x.fmt:Int),.string (str a.x.glob),.string (str a.x.bran),.slice hx.A a.q.length hx.c,.int .u8 (a.v.kind:Int),.int .u64 (a.v.n:Int),.string (str a.v.s),.slice hx.h.A1 a.v.keys.length hx.h.c1,.slice hx.h.A2 a.v.list.length hx.h.c2] 80))=w2 at*;go_cut [6,10]from 43 to 64 (fun s6 AM wx=>∃(A3:Option Addr) (m3 c3:Nat),s6= .slice A3 m3 c3∧AM= .bool okk∧(okk=true→m3=m+(pm k).length∧OwnB wx (mb+1) A3 m3 c3 ((Q2 k).flatMap pm++pm k))∧Box wx mb 106 #[.int .u8 (cls:Int),.int .u8 (code:Int),.bool sync,.slice (some ⟨ab,aoff,none⟩) n c]∧Box wx xb 80 #[.bool a.is,.int .u64 (a.n:Int),.string (str a.s),.int .u32 (a.x.fmt:Int),.string (str a.x.glob),.string (str a.x.bran),.slice hx.A a.q.length hx.c,.int .u8 (a.v.kind:Int),.int .u64 (a.v.n:Int),.string (str a.v.s),.slice hx.h.A1 a.v.keys.length hx.h.c1,.slice hx.h.A2 a.v.list.length hx.h.c2]∧Below w.heap.size w wx)
  case first=>
   as_aux_lemma=>
   refine zt (fun W:World=>Box W xb 80 #[.bool a.is,.int .u64 (a.n:Int),.string (str a.s),.int .u32 (a.x.fmt:Int),.string (str a.x.glob),.string (str a.x.bran),.slice hx.A a.q.length hx.c,.int .u8 (a.v.kind:Int),.int .u64 (a.v.n:Int),.string (str a.v.s),.slice hx.h.A1 a.v.keys.length hx.h.c1,.slice hx.h.A2 a.v.list.length hx.h.c2]) Wj ?_;have hS:Box w2.drew xb 80 #[.bool a.is,.int .u64 (a.n:Int),.string (str a.s),.int .u32 (a.x.fmt:Int),.string (str a.x.glob),.string (str a.x.bran),.slice hx.A a.q.length hx.c,.int .u8 (a.v.kind:Int),.int .u64 (a.v.n:Int),.string (str a.v.s),.slice hx.h.A1 a.v.keys.length hx.h.c1,.slice hx.h.A2 a.v.list.length hx.h.c2]:=Hg;have bX:Box w2.drew mb 106 #[.int .u8 (cls:Int),.int .u8 (code:Int),.bool sync,.slice (some ⟨ab,aoff,none⟩) n c]:=bF;have Bv:OwnB w2.drew (mb+1) A2 m c2 ((Q2 k).flatMap pm):=Own.drewN bW 1;have Hh:Below w.heap.size w w2.drew:=za Hc 1;clear Hg bF bW Hc;generalize w2.drew=wd at*;have EZ:=bX.lt;refine rg_t 0 hS ?_;simp only[List.getElem_toArray,List.getElem_cons_zero,Act.put,List.setIfInBounds_toArray,List.set_cons_zero,List.set_cons_succ];refine rg_t 1 hS ?_;simp only[g_S];refine rg_t 2 hS ?_;simp only[g_S];refine rg_t 3 hS ?_;simp only[g_S];refine ze 4 (v:=?_) rfl Wj Wj Wj hS rfl ?_ ?_;rotate_left
   ·intro wS He;have x0:=He.c0;have x1:=He.c1;have x2:=He.c2;have x3:=He.c3;have x4:=He.c4;have x5:=He.c5;have x6:=He.c6;have x7:=He.c7;have x8:=He.c8;have x9:=He.c9;have xA:=He.c10;have xB:=He.c11;go_simp
    (with_reducible rfl)
   (try simp only[g_S]);refine zj 5 rfl Wj rfl (fun K hK=>?_);go_simp;refine(ck (mb+1) wd A2 m c2 _ Bv Wq Wq ((fa.under Hh).mono (fun g hg=>by omega)) Hh).mono ?_;rintro e w5 ⟨A3,m3,c3,rfl,bw,Br,ct⟩;have BN:=Br.box hS (fun e=>by have:=(dR _ e).1;omega);have cT:=Br.box bX (fun e=>by have:=(dR _ e).2;omega);have bG:=Hh.trans (bw.mono Wq);(have fC:((Q2 k).flatMap pm++pm k).length=m+(pm k).length:=by have:=RdB.length Bv.rd;rw[K2,this]);rw[fC]at ct;refine hK _ _ BN ?_;clear hK K;(try simp only[g_S]);refine rg_t 6 BN ?_;simp only[g_S];refine rg_t 7 BN ?_;simp only[g_S];refine rg_t 8 BN ?_;simp only[g_S];refine rg_t 9 BN ?_;simp only[g_S];refine rg_t 10 BN ?_;simp only[g_S];refine zz Wj ?_;go_wp2_with fail;go_meet;exact⟨A3,m3,c3,rfl,rfl,ct,cT,BN,bG⟩
  as_aux_lemma=>
  obtain⟨A3,m3,c3,rfl,rfl,lF,cT,BN,bG⟩:=hcut
  cases okk
  ·obtain⟨e1,e2⟩:=lv.out rfl;subst e1 e2;clear lF;exact Z5p_
  obtain⟨rfl,ct⟩:=lF rfl;clear lF
  have Nk:Hid (∀j,j<k+1→okf j=true):=Q1 (fun j hj=>by
   by_cases e:j=k
   ·subst e;exact mH.out.symm
   ·exact Bz.out j Wq)
  have HO:Hid ((Q2 (k+1)).flatMap pm=(Q2 k).flatMap pm++pm k):=Q1 (by rw[List.range_succ,List.flatMap_append];simp);have y0:=BN.c0;generalize Pg:a.is=is at*;clear Pg
  cases is
  ·have mD:Hid (zF (L0.take (k+1))=zF (L0.take k)):=Q1 (by rw[N0.out];simp);go_wp2_with(with_reducible refine h_A ?_);exact⟨⟨k+1,c3,m+(pm k).length,A3,by omega,by go_num,rfl,by rw[mD.out],by rw[HO.out];exact ct,by omega,cT,bG,Nk⟩,by simp[K0];omega⟩
  have mD:Hid (zF (L0.take (k+1))=zF (L0.take k)+2 ^ k):=Q1 (by rw[N0.out];simp);have Ip:(2:Nat) ^ k≤2 ^ 7:=q6 Wq Wq;have fY:=zce ⟨k,by omega⟩ ⟨zF (L0.take k),by omega⟩ dl;simp only at fY;generalize zF (L0.take k)=fl at*;generalize hp:2 ^ k=pk at*;go_wp2_with(with_reducible refine h_A ?_)
  have hw:IntKind.u64.wrap ((2:Int) ^ k)=(pk:Int):=by
   (have e:(2:Int) ^ k=((2 ^ k:Nat):Int):=by push_cast;rfl);rw[e,hp];exact IntWalk.u64_in _ ⟨by omega,by omega⟩
  exact⟨⟨k+1,c3,m+(pm k).length,A3,by omega,by go_num,rfl,by rw[hw,fY,mD.out],by rw[HO.out];exact ct,by omega,cT,bG,Nk⟩,by simp[K0];omega⟩
 have lT:k=n:=by omega
 have f8:¬(k:Int)<(n:Int):=by omega
 have sU:Hid (zF (L0.take k)=zF L0):=Q1 (by rw[List.take_of_length_le Wq]);have dl:=xq L0;have Ip:(2:Nat) ^ L0.length≤2 ^ 7:=q6 Wq Wq;have hed:zF L0<256:=by omega
 clear dl Ip;rw[sU.out];generalize zF L0=fl at*;rw[lT]at ho ⊢;obtain⟨eK,hE⟩:=mC.out (fun j hj=>Bz.out j Wq);subst hE;have mC:=Q1 eK;clear eK cJ Bz lT sU LV GU sV;generalize(Q2 n).flatMap pm=I at*;have Ta:=RdB.length ho.rd;have Rw:=Q1 Ta;clear Ta;have tH:=hB.size;have x0:=hb.c0;have x1:=hb.c1;have x2:=hb.c2;have x3:=hb.c3;have cN:=yn (w:=wr) (mb+1) #[.int .u8 (cls:Int),.int .u8 (code:Int)] 5 2 Wq WX (size:=1) rfl Wq;have bF:=hb.alloc (.cells #[.int .u8 (cls:Int),.int .u8 (code:Int)] 5);have Hc:=hB.alloc hB.size (.cells #[.int .u8 (cls:Int),.int .u8 (code:Int)] 5);have bW:OwnB (wr.alloc (.cells #[.int .u8 (cls:Int),.int .u8 (code:Int)] 5)) (mb+1) A2 m c2 I:=ho.alloc _;have Ec:∀g,blk A2=some g→g<wr.heap.size:=fun g hg=>(ho.blk_lt hg).2
 go_upto_region 17 with fail;obtain⟨lb,dc⟩:∃g,g=wr.heap.size:=⟨_,rfl⟩
 rw[←dc]at cN Ec tH ⊢;have ag:mb<lb:=by rw[dc];exact hb.lt
 clear dc ho hb hB x0 x1 x2 x3;generalize(wr.alloc (.cells #[.int .u8 (cls:Int),.int .u8 (code:Int)] 5))=w2 at*
 have io:OwnB w2 (mb+1) (some ⟨lb,0,none⟩) 2 2 [KL cls,KL code]:=by
  have e:([KL cls,KL code].map u8v)=(#[.int .u8 (cls:Int),.int .u8 (code:Int)]:Array Value).toList:=by
   simp[u8v,q7 hc,q7 pH]
  show Own w2 (mb+1) 5 1 (some ⟨lb,0,none⟩) 2 2 _
  rw[e];exact cN
 clear cN;have x0:=bF.c0;have x1:=bF.c1;have x2:=bF.c2;have x3:=bF.c3;have Ds:=fh w2;clear fh;by_cases gJ:cls≤2
 ·have hd:decide (cls≤2)=true:=by simpa using gJ
  have HH:Hid (RES=([KL cls,KL code]++be 2 fl)++I):=Q1 (by rw[mC.out];unfold kG;rw[if_pos gJ];simp);rw[hd]at Ds;clear hd gJ;have hM:puts [KL cls,KL code] fl 2=[KL cls,KL code]++be 2 fl:=by unfold puts;rw[if_pos WJ];rfl
  have B6:=yP (some ⟨lb,0,none⟩) 2 2 [KL cls,KL code] fl 2 w2 io.rd Wq Wq;rw[hM]at B6;have Us:([KL cls,KL code]++be 2 fl).length≤10:=by simp[be]
  generalize [KL cls,KL code]++be 2 fl=M at*;clear hM;go_wp2_with(with_reducible refine h_A ?_);refine Ds.mono ?_;rintro e w3 ⟨rfl,rfl⟩;clear Ds;exact Z4a_
 have hd:decide (cls≤2)=false:=by simpa using gJ
 have NR:Hid (RES=(([KL cls,KL code]++ [1,if sync then 1 else 0])++be 2 fl)++I):=Q1 (by rw[mC.out];unfold kG;rw[if_neg gJ]);rw[hd]at Ds;clear hd gJ;go_wp2_with(with_reducible refine h_A ?_);refine Ds.mono ?_;rintro e w3 ⟨rfl,rfl⟩;clear Ds;have pY:=yn (w:=w2) (mb+1) #[.int .u8 1,.int .u8 0] 5 2 (by have:=bF.lt;omega) WX (size:=1) rfl Wq;have CH:RdB (w2.alloc (.cells #[.int .u8 1,.int .u8 0] 5)) (w2.alloc (.cells #[.int .u8 1,.int .u8 0] 5)).heap.size (some ⟨w2.heap.size,0,none⟩) 2 2 [1,0]:=pY.rd;have o9:OwnB (w2.alloc (.cells #[.int .u8 1,.int .u8 0] 5)) (mb+1) (some ⟨lb,0,none⟩) 2 2 [KL cls,KL code]:=io.alloc _;have Bv:OwnB (w2.alloc (.cells #[.int .u8 1,.int .u8 0] 5)) (mb+1) A2 m c2 I:=bW.alloc _;have bX:=bF.alloc (.cells #[.int .u8 1,.int .u8 0] 5);have Hh:=Hc.alloc Hc.size (.cells #[.int .u8 1,.int .u8 0] 5);have EZ:mb+1≤(w2.alloc (.cells #[.int .u8 1,.int .u8 0] 5)).heap.size:=bX.lt;clear x0 x1 x2 x3 io bW bF Hc pY;go_wp2_with(with_reducible refine h_B ?_);refine zc (yc slB rfl rfl rfl rfl o9 CH (zM _) Wq Hj EZ ?_);intro A5 c5 w5 ct H9 cT;have ot:∀g,blk A2=some g→some g≠blk (some ⟨lb,0,none⟩):=fun g hg e=>by have:=Ec g hg;injection e with e;simp at e;omega
 have bW:=zk Bv H9 (fun g hg e=>ot g hg e.symm);have bF:=bX.grown H9 (by intro e;injection e with e;simp at e;omega);have Hc:=Hh.grown H9 Hh.size (fun g hg=>by injection hg with hg;simp at hg;omega);have hau:=(o9.blk_lt (g:=lb) rfl).2
 have r5:∀g,blk A2=some g→¬blk A5=some g:=fun g hg e=>by
  rcases cT with h5|h5
  ·exact ot g hg (by rw[←h5,e])
  have h6:=Ec g hg;rw[h5]at e;injection e with e;omega
 rw[←List.map_append]at ct;clear o9 Bv bX Hh CH H9 cT
 cases sync
 ·have qq6e:=();exact Zz_
 exact Zz_
def xz(m:Mt):List UInt8:=yv (ym m.cls m.code)
def okI(m:Mt)(i:Nat):Bool:=match(xz m)[i]?,m.args[i]? with
 | some k,some a=>okA k a
 | _,_=>true
def byI(m:Mt)(i:Nat):List UInt8:=match(xz m)[i]?,m.args[i]? with
 | some k,some a=>byA k a
 | _,_=>[]
def kJ(m:Mt):Bool:=(ym m.cls m.code).isSome&&decide (m.args.length=(xz m).length)&& !(m.sync&&decide (m.cls≤2))
def yI(m:Mt):Bool:=kJ m&&(Q2 m.args.length).all (okI m)
def putM(m:Mt):List UInt8:=if yI m=true then kG m.cls m.code m.sync (zF (m.args.map toSA))++(Q2 m.args.length).flatMap (byI m)else []
def errM(m:Mt):Int:=if yI m=true then 0 else 80
theorem zcg:(Q2 9).all (fun c=>(qV c).all fun r=>r.kinds.all (fun k=>decide (k∈jX))&&decide (r.kinds.length≤3))=true:=by decide+kernel
theorem qo(c k:Nat):(∀x∈yv (ym c k),x∈jX)∧(yv (ym c k)).length≤3:=by
 cases h:ym c k with
 | none=>exact⟨fun x hx=>by simp[yv]at hx,by simp[yv]⟩
 | some r=>
  unfold ym at h;have hm:=List.mem_of_find?_eq_some h
  have hc:c<9:=by
   have:=QY (c:=c) (fun e=>by rw[e]at hm;cases hm);omega
  have h1:=Vx.1 zcg c (q8.2 hc);have h2:=Vx.1 h1 r hm;simp only[Bool.and_eq_true,Vx,decide_eq_true_eq]at h2;exact⟨fun x hx=>h2.1 x hx,h2.2⟩
def MPut(w:World)(m:Mt)(e:Ending)(w':World):Prop:=∃A2 c2,e= .returned (.tuple #[.slice A2 (putM m).length c2,.int .i64 (errM m)])∧OwnB w' w.heap.size A2 (putM m).length c2 (putM m)∧Below w.heap.size w w'
theorem QZ(m:Mt)(A:Option Addr)(c:Nat)(w:World)(he:MEnv w)(hm:RMw w m A c)
  (DN:∀kd,kd∈yv (ym m.cls m.code)→∀(a:Ag) (h:AH) (base:Nat) (A:Option Addr) (n c:Nat) (l:List UInt8) (W:World),OwnB W base A n c l→base≤W.heap.size→n≤100000000→RA W (fun g=>g<base) a h→Below w.heap.size w W→
   Calls prog 71 #[.slice A n c,.int .u8 (kd.toNat:Int),.agg (agV a h)] W (PutG W base (blk A) (okA kd a) (l++byA kd a))):Calls prog 50 #[.agg (mtV m A c)] w (MPut w m):=by
 unfold mtV;obtain⟨rZ,fo⟩:=qo m.cls m.code;by_cases hf:kJ m=true
 ·unfold kJ at hf;simp only[Bool.and_eq_true,decide_eq_true_eq]at hf;obtain⟨⟨h1,h2⟩,h3⟩:=hf;unfold xz at h2;refine zdB m.cls m.code m.sync m.args _ (byI m) (okI m) A m.args.length c w he (fun i hi=>hm.elem hi) rfl rfl h1 h2 Wq (fun hs hc=>?_) hm.cls hm.code (fun i hi=>?_) ?_ (putM m) (errM m) (Q1 fun bJ=>?_) (Q1 fun i hi BO=>?_)
  ·rw[hs,decide_eq_true hc]at h3;simp at h3
  ·unfold byI;split
   ·exact ZB _ _
   simp
  ·intro i h h' hx base W A' n' c' l Hl Hf Dp ha hB;(have e1:okI m i=okA (yv (ym m.cls m.code))[i] m.args[i]:=by unfold okI xz;rw[q0 h',q0 h]);(have e2:byI m i=byA (yv (ym m.cls m.code))[i] m.args[i]:=by unfold byI xz;rw[q0 h',q0 h]);rw[e1,e2];exact DN _ (q2 h') _ hx base A' n' c' l W Hl Hf Dp ha hB
  ·have hg:yI m=true:=by
    unfold yI kJ xz;simp only[Bool.and_eq_true,decide_eq_true_eq];exact⟨⟨⟨h1,h2⟩,h3⟩,Vx.2 fun i hi=>bJ i (q8.1 hi)⟩
   unfold putM errM;rw[if_pos hg,if_pos hg];exact⟨rfl,rfl⟩
  have qqeb:=();exact Z3e_
 have hg:¬yI m=true:=by unfold yI;simp[hf]
 have HP:putM m=[]:=by unfold putM;rw[if_neg hg]
 have HE:errM m=80:=by unfold errM;rw[if_neg hg]
 unfold MPut;rw[HP,HE];clear hg HP HE;obtain⟨xb,w1,Hg,Hi,hX,Ha⟩:=zg w #[.int .u8 (m.cls:Int),.int .u8 (m.code:Int),.bool m.sync,.slice A m.args.length c] 106;have f8:=Zw m.cls m.code w1 (he.on Ha);have c0:=hX.c0;have c1:=hX.c1;have c2:=hX.c2;have c3:=hX.c3;have fh:=fun W=>kF m.cls W
 unfold kJ xz at hf;generalize ee:yv (ym m.cls m.code)=kd at*;generalize(ym m.cls m.code).isSome=is at*;have dD:=zi kd;clear DN rZ fo ee hm he
 cases is
 ·clear hf fh;go_enter func50,ntmps50;go_upto_region 1 with fail;rw[←Hg,←Hi];clear Hg Hi;go_wp2_with(with_reducible refine h_A ?_);refine f8.mono ?_;rintro e w2 ⟨rfl,Hc⟩;have Hk:=hX.below Hc;clear c0 c1 c2 c3;have c0:=Hk.c0;have c1:=Hk.c1;have c2:=Hk.c2;have c3:=Hk.c3;go_wp2_with(with_reducible refine h_A ?_);go_ret2;exact⟨none,0,rfl,Own.none_ _ _ _ _,Ha.trans (Hc.mono Ha.size)⟩
 have qq4i:=();exact Zr_
theorem zaT(m:Mt)(A:Option Addr)(c:Nat)(w:World)(he:MEnv w)(hT:UTabs w)(hm:RMw w m A c):Calls prog 50 #[.agg (mtV m A c)] w (MPut w m):=
 QZ m A c w he hm fun kd hk a h base A n c l W Hl Hf hn ha hB=>zaU kd ((qo _ _).1 kd hk) a h base A n c l W Hl Hf hn ha (hT.on hB)
def wtL:List UInt8:=[119,115,116]
theorem zcc(kd:UInt8)(hk:kd∈wtL)(a:Ag)(h:AH)(base:Nat)(A:Option Addr)(n c:Nat)(l:List UInt8)(w:World)(Hl:OwnB w base A n c l)(Hf:base≤w.heap.size)(hn:n≤100000000)(ha:RA w (fun g=>g<base) a h):
  Calls prog 71 #[.slice A n c,.int .u8 (kd.toNat:Int),.agg (agV a h)] w (PutG w base (blk A) (okA kd a) (l++byA kd a)):=by
 have qq97:=();exact Z1s_
def agOf(a:SA):Ag:=⟨a.is,a.n,a.s,xd0,[],vl0⟩
def ah00:AH:=⟨none,0,⟨none,0,none,0⟩⟩
theorem zc2(L:List SA):rowC agC (L.map fun a=>(agOf a,ah00))=rowC saC L:=by
 unfold rowC;rw[List.flatMap_map];rfl
theorem rm_S{code:Nat}(pH:code<256){L:List SA}{A:Option Addr}{c:Nat}(hr:Rd w w.heap.size 12 A n c (rowC saC L))(hn:∀a∈L,a.n<18446744073709551616∧a.s.length≤140737488351232)(hl:L.length≤100):n=L.length∧RMw w ⟨1,code,false,L.map agOf⟩ A c:=by
 have cW:=yM zcd hr;refine⟨cW.symm,⟨by show(1:Nat)<256;omega,pH,⟨L.map fun a=>(agOf a,ah00),by simp,?_,?_⟩,by simp;omega⟩⟩
 ·rw[zc2];show RdX w _ 12 A (L.map agOf).length c _
  rw[q9,cW];exact zc9 hr
 intro p hp;obtain⟨a,ha,rfl⟩:=List.mem_map.1 hp;have hz:=RA.zero w (fun g=>g<w.heap.size) a.is;exact⟨(hn a ha).1,(hn a ha).2,hz.x,hz.q,hz.ok,hz.c,hz.v⟩
def startB:List UInt8:=[1,1,0,1,0,9,112,111,115,116,104,111,117,115,101]
def vX:List UInt8:=[1,5,0,3,0,255,16,0]
def Zp:List UInt8:=[1,8,0,0]
def qx(code:Nat)(text:List UInt8):List UInt8:=[1,11,0,3]++be 2 code++be 1 text.length++text
def Zq:List UInt8:=[1,12,0,0]
structure CtlG(code:Nat)(L:List SA)(bs:List UInt8):Prop where
 cd:code<256
 n:∀a∈L,a.n<18446744073709551616∧a.s.length≤140737488351232
 l:L.length≤100
 g:yI ⟨1,code,false,L.map agOf⟩=true
 p:putM ⟨1,code,false,L.map agOf⟩=bs
 k:∀kd∈yv (ym 1 code),kd∈wtL
theorem CtlG.c{code:Nat}{L:List SA}{bs:List UInt8}(hc:CtlG code L bs):CtlC code L bs:=by
 intro A n c w he hr;obtain⟨rfl,hm⟩:=rm_S hc.cd hr hc.n hc.l;have h:=QZ ⟨1,code,false,L.map agOf⟩ A c w he hm fun kd ee a h base A n c l W Hl Hf hn ha _=>zcc kd (hc.k kd ee) a h base A n c l W Hl Hf hn ha
 unfold MPut mtV errM at h;rw[hc.p,if_pos hc.g]at h;simp only[q9]at h;exact h
theorem ctlg1:CtlG 1 [⟨true,0,[112,111,115,116,104,111,117,115,101]⟩] startB:=by
 have hg:yI ⟨1,1,false,[agOf ⟨true,0,[112,111,115,116,104,111,117,115,101]⟩]⟩=true:=by
  have h:zy (agOf ⟨true,0,[112,111,115,116,104,111,117,115,101]⟩) (agS (agOf ⟨true,0,[112,111,115,116,104,111,117,115,101]⟩))=true:=(zL _ _).2 rfl;have hk:xz ⟨1,1,false,[agOf ⟨true,0,[112,111,115,116,104,111,117,115,101]⟩]⟩=[116]:=by decide
  unfold yI kJ okI;rw[hk];simp[Q2,Q2.loop,okA,h];decide
 exact CtlG.mk Wq (fun a ha=>by rw[List.mem_singleton.1 ha];exact⟨by show(0:Nat)<_;omega,by simp⟩) Wz hg (by show putM ⟨1,1,false,[agOf ⟨true,0,[112,111,115,116,104,111,117,115,101]⟩]⟩=_;unfold putM;rw[if_pos hg];rfl) WJ
theorem ctlg5:CtlG 5 [⟨true,255,[]⟩,⟨true,4096,[]⟩] vX:=by
 have hg:yI ⟨1,5,false,[agOf ⟨true,255,[]⟩,agOf ⟨true,4096,[]⟩]⟩=true:=by
  have h:∀n,zy (agOf ⟨true,n,[]⟩) (agN (agOf ⟨true,n,[]⟩))=true:=fun n=>(zL _ _).2 rfl
  have hk:xz ⟨1,5,false,[agOf ⟨true,255,[]⟩,agOf ⟨true,4096,[]⟩]⟩=[119,119]:=by decide
  unfold yI kJ okI;rw[hk];simp[Q2,Q2.loop,okA,h];exact⟨by decide,by show(255:Nat)<65536;omega,by show(4096:Nat)<65536;omega⟩
 exact CtlG.mk Wq (fun a ha=>by
  simp only[kI,kv,or_false]at ha;rcases ha with rfl|rfl
  ·exact⟨by show(255:Nat)<_;omega,by simp⟩
  ·exact⟨by show(4096:Nat)<_;omega,by simp⟩) Wz hg (by show putM ⟨1,5,false,[agOf ⟨true,255,[]⟩,agOf ⟨true,4096,[]⟩]⟩=_;unfold putM;rw[if_pos hg];rfl) WJ
theorem ctlg8:CtlG 8 [] Zp:=by
 have hg:yI ⟨1,8,false,[]⟩=true:=by decide
 exact CtlG.mk Wq (fun a ha=>by cases ha) Wz hg (by show putM ⟨1,8,false,[]⟩=_;unfold putM;rw[if_pos hg];rfl) WJ
theorem ctlg12:CtlG 12 [] Zq:=by
 have hg:yI ⟨1,12,false,[]⟩=true:=by decide
 exact CtlG.mk Wq (fun a ha=>by cases ha) Wz hg (by show putM ⟨1,12,false,[]⟩=_;unfold putM;rw[if_pos hg];rfl) WJ
theorem zbN(code:Nat)(text:List UInt8)(hc:code<65536)(ht:text.length<256):CtlG 11 [⟨true,code,[]⟩,⟨true,0,text⟩] (qx code text):=by
 have rM:zE text.length 1=0:=by unfold zE;rw[if_pos (.inl rfl),if_pos (by show text.length<256;omega)]
 have hg:yI ⟨1,11,false,[agOf ⟨true,code,[]⟩,agOf ⟨true,0,text⟩]⟩=true:=by
  have h:zy (agOf ⟨true,code,[]⟩) (agN (agOf ⟨true,code,[]⟩))=true:=(zL _ _).2 rfl;have h2:zy (agOf ⟨true,0,text⟩) (agS (agOf ⟨true,0,text⟩))=true:=(zL _ _).2 rfl
  have hk:xz ⟨1,11,false,[agOf ⟨true,code,[]⟩,agOf ⟨true,0,text⟩]⟩=[119,115]:=by
   (show yv (ym 1 11)=_);decide
  unfold yI kJ okI;rw[hk];simp[Q2,Q2.loop,okA,h,h2];exact⟨by decide,by show code<65536;omega,rM⟩
 exact CtlG.mk Wq (fun a ha=>by
  simp only[kI,kv,or_false]at ha;rcases ha with rfl|rfl
  ·exact⟨by show code<_;omega,by simp⟩
  ·exact⟨by show(0:Nat)<_;omega,by show text.length≤_;omega⟩) Wz hg (by
   (show putM ⟨1,11,false,[agOf ⟨true,code,[]⟩,agOf ⟨true,0,text⟩]⟩=_);unfold putM;rw[if_pos hg];have e0:byI ⟨1,11,false,[agOf ⟨true,code,[]⟩,agOf ⟨true,0,text⟩]⟩ 0=be 2 code:=rfl;(have e1:byI ⟨1,11,false,[agOf ⟨true,code,[]⟩,agOf ⟨true,0,text⟩]⟩ 1=be 1 text.length++text:=by show zP [] text 1=_;unfold zP;rw[if_pos rM];rfl);simp only[List.length_cons,Vy,Q2,Q2.loop,List.flatMap_cons,List.flatMap_nil,e0,e1]
   simp[qx,kG,zF,toSA,agOf,be,Q2,Q2.loop]) WJ
def hdrB:List UInt8:=[65,77,81,80,1,1,0,10]
theorem ctl1:CtlC 1 [⟨true,0,[112,111,115,116,104,111,117,115,101]⟩] startB:=ctlg1.c
theorem ctl5:CtlC 5 [⟨true,255,[]⟩,⟨true,4096,[]⟩] vX:=ctlg5.c
theorem ctl8:CtlC 8 [] Zp:=ctlg8.c
theorem zdz:CtlC 12 [] Zq:=ctlg12.c
theorem zdA(code:Nat)(text:List UInt8)(hc:code<65536)(ht:text.length<256):CtlC 11 [⟨true,code,[]⟩,⟨true,0,text⟩] (qx code text):=(zbN code text hc ht).c
structure WroteS(w:World)(lb base:Nat)(cs:Array Value)(A:Option Addr)(l:List UInt8)(st:Nat)(w':World):Prop where
 ex:∃A2 c2,Box w' lb 61 (((cs.setIfInBounds 5 (bPtr lb 5)).setIfInBounds 6 (.slice A2 l.length c2)).setIfInBounds 0 (.int .u8 (st:Int)))∧Own w' base 5 1 A2 l.length c2 (l.map u8v)∧blk A2≠some lb∧(blk A2=blk A∨∀k,blk A2=some k→w.heap.size≤k)
 keep:KeepF (fun k=>k=lb∨blk A=some k) w w'
theorem zaL(code:Nat)(text:List UInt8)(oF:code<65536)(oZ:text.length<256)(lb sz base sn sc:Nat)(cs:Array Value)(p:Value)(SA:Option Addr)(l:List UInt8)(w:World)(he:MEnv w)
  (hb:Box w lb 61 cs) (hs:cs.size=8) (h4:cs[4]?=some (.int .u64 (sz:Int))) (Bw:sz≤1000000) (h5:cs[5]?=some p) (hp:p= .pointer none∨p=bPtr lb 5) (h6:cs[6]?=some (.slice SA sn sc)) (Hl:Own w base 5 1 SA sn sc (l.map u8v)) (hne:blk SA≠some lb) (Hf:base≤w.heap.size) (sQ:sn≤10000000000):
  Calls prog 33 #[.pointer (some ⟨lb,0,none⟩),.int .u64 (code:Int),.string (str text)] w fun e w'=>e= .returned (.tuple #[])∧WroteS w lb base cs SA (l++ctlB sz (qx code text)) 5 w':=by
 have dC:∀W,Calls prog 37 #[.int .u64 (code:Int),.string ⟨#[]⟩] W fun e w'=>e= .returned (.agg #[.bool true,.int .u64 (code:Int),.string ⟨#[]⟩,.int .u32 0,.string ⟨#[]⟩,.string ⟨#[]⟩,.slice none 0 0,.int .u8 0,.int .u64 0,.string ⟨#[]⟩,.slice none 0 0,.slice none 0 0])∧Below W.heap.size W w':=fun W=>kX code [] W
 have db:∀W,Calls prog 37 #[.int .u64 0,.string (str text)] W fun e w'=>e= .returned (.agg #[.bool true,.int .u64 0,.string (str text),.int .u32 0,.string ⟨#[]⟩,.string ⟨#[]⟩,.slice none 0 0,.int .u8 0,.int .u64 0,.string ⟨#[]⟩,.slice none 0 0,.slice none 0 0])∧Below W.heap.size W w':=fun W=>kX 0 text W
 go_enter func33,ntmps33;go_wp2_with(with_reducible refine h_A ?_)
 (with_reducible refine(dC _).mono ?_)
 rintro e w1 ⟨rfl,Ha⟩;go_wp2_with(with_reducible refine h_A ?_)
 (with_reducible refine(db _).mono ?_)
 rintro e w2 ⟨rfl,Hc⟩;have Hh:=Ha.trans (Hc.mono Ha.size);clear dC db;obtain⟨gb,w3,bD,bo,hG,BD⟩:=zq w2 #[.bool true,.int .u64 (code:Int),.string ⟨#[]⟩,.int .u32 0,.string ⟨#[]⟩,.string ⟨#[]⟩,.slice none 0 0,.int .u8 0,.int .u64 0,.string ⟨#[]⟩,.slice none 0 0,.slice none 0 0,.bool true,.int .u64 0,.string (str text),.int .u32 0,.string ⟨#[]⟩,.string ⟨#[]⟩,.slice none 0 0,.int .u8 0,.int .u64 0,.string ⟨#[]⟩,.slice none 0 0,.slice none 0 0] 80;have bZ:=yn (w:=w2) w2.heap.size #[.bool true,.int .u64 (code:Int),.string ⟨#[]⟩,.int .u32 0,.string ⟨#[]⟩,.string ⟨#[]⟩,.slice none 0 0,.int .u8 0,.int .u64 0,.string ⟨#[]⟩,.slice none 0 0,.slice none 0 0,.bool true,.int .u64 0,.string (str text),.int .u32 0,.string ⟨#[]⟩,.string ⟨#[]⟩,.slice none 0 0,.int .u8 0,.int .u64 0,.string ⟨#[]⟩,.slice none 0 0,.slice none 0 0] 80 2 (Wb _) WX (size:=12) rfl Wq;rw[←bo,←bD]at bZ;have fa:Rd w3 w3.heap.size 12 (some ⟨gb,0,none⟩) 2 2 (rowC saC [⟨true,code,[]⟩,⟨true,0,text⟩]):=bZ.rd;have Hn:=Hh.trans (BD.mono Hh.size);have fy:=Zr 11 [⟨true,code,[]⟩,⟨true,0,text⟩] (qx code text) (zdA code text oF oZ) (by simp[qx,zr];omega) lb sz base sn sc cs p SA l (some ⟨gb,0,none⟩) 2 2 w3 (he.on Hn) fa (hb.below Hn) hs h4 Bw h5 hp h6 (zh Hl Hn) hne (by have:=Hn.size;omega) sQ;rw[show(((11:Nat)):Int)=11 from rfl]at fy;clear bZ fa hG BD Ha Hc;go_wp2_with(with_reducible refine h_A ?_);rw[←bD,←bo];clear bD bo
 (with_reducible refine fy.mono ?_)
 rintro e w5 ⟨rfl,hW⟩;clear fy;obtain⟨⟨A2,c2,cT,gj,nk,wW⟩,sh⟩:=hW;have Ou:0<((cs.setIfInBounds 5 (bPtr lb 5)).setIfInBounds 6 (.slice A2 (l++ctlB sz (qx code text)).length c2)).size:=by rw[Array.size_setIfInBounds,Array.size_setIfInBounds,hs];omega
 go_wp2_with(with_reducible refine h_B ?_);refine zc (xx rfl rfl rfl rfl cT (j:=0) (v:=.int .u8 5) rfl Wj Ou ?_);intro w6 di bz fc;clear fc;go_wp2_with(with_reducible refine h_B ?_);go_end0;have Wa:=Hn;refine⟨rfl,⟨⟨A2,c2,di,zk gj bz (fun k hk e=>nk zAb),nk,wW.imp id (fun e k hk=>by have:=e k hk;have:=Hn.size;omega)⟩,?_⟩⟩;exact((KeepF.below Hn).trans sh (fun k hk=>.inl hk)).trans (.grown (F:=fun k=>k=lb∨blk SA=some k) bz (fun k hk=>.inl (.inl uj))) (fun k hk=>.inl hk)
theorem MEnv.onK{F:Nat→Prop}(h:MEnv w)(hK:KeepF F w w')(hF:¬F 0):MEnv w' where
 mx:=by
  have hl:=h.lt;obtain⟨m,hm⟩:=h.mx;refine⟨m,?_⟩;have:=hK.2.1 _ hl hF;rw[←hm];simp only[World.cell?,this]
theorem Zo(lb sz base sn sc n c B:Nat)(x2 x3 x7 p:Value)(RA SA:Option Addr)(l r:List UInt8)(w:World)(he:MEnv w)(hb:Box w lb 61 #[.int .u8 0,.slice RA n c,x2,x3,.int .u64 (sz:Int),p,.slice SA sn sc,x7])(hr:RdB w B RA n c r)(bL:B≤w.heap.size)(Bw:sz≤1000000)(hp:p= .pointer none∨p=bPtr lb 5)
  (Hl:Own w base 5 1 SA sn sc (l.map u8v)) (hne:blk SA≠some lb) (Hf:base≤w.heap.size) (sQ:sn≤1000000000) (hn:n≤1000000000) (fD:0≠lb) (pd:0<base) (h8:r.take 8=hdrB):
  Calls prog 25 #[.pointer (some ⟨lb,0,none⟩)] w fun e w'=>e= .returned (.tuple #[])∧8≤n∧(∃A2 c2,Box w' lb 61 #[.int .u8 1,.slice (cutA RA 1 8 c) (n-8) (c-8),x2,x3,.int .u64 (sz:Int),bPtr lb 5,.slice A2 (l++hdrB++ctlB sz startB).length c2,x7]∧
   Own w' base 5 1 A2 (l++hdrB++ctlB sz startB).length c2 ((l++hdrB++ctlB sz startB).map u8v)∧blk A2≠some lb∧(blk A2=blk SA∨∀k,blk A2=some k→w.heap.size≤k))∧KeepF (fun k=>k=lb∨blk SA=some k) w w':=by
 exact Za_
theorem Z5(lb sz base sn sc n c B:Nat)(x2 x3 x7 p:Value)(RA SA:Option Addr)(l r:List UInt8)(w:World)(he:MEnv w)(hb:Box w lb 61 #[.int .u8 0,.slice RA n c,x2,x3,.int .u64 (sz:Int),p,.slice SA sn sc,x7])(hr:RdB w B RA n c r)(bL:B≤w.heap.size)(Bw:sz≤1000000)(hp:p= .pointer none∨p=bPtr lb 5)
  (Hl:Own w base 5 1 SA sn sc (l.map u8v)) (hne:blk SA≠some lb) (Hf:base≤w.heap.size) (sQ:sn≤1000000000) (hn:n≤1000000000) (fD:0≠lb) (pd:0<base) (h8:r.take 8≠hdrB.take n):
  Calls prog 25 #[.pointer (some ⟨lb,0,none⟩)] w fun e w'=>e= .returned (.tuple #[])∧(∃A2 c2,Box w' lb 61 #[.int .u8 5,.slice RA n c,x2,x3,.int .u64 (sz:Int),bPtr lb 5,.slice A2 (l++hdrB).length c2,x7]∧
   Own w' base 5 1 A2 (l++hdrB).length c2 ((l++hdrB).map u8v)∧blk A2≠some lb∧(blk A2=blk SA∨∀k,blk A2=some k→w.heap.size≤k))∧KeepF (fun k=>k=lb∨blk SA=some k) w w':=by
 have qq2f:=();exact Za_
theorem X9(lb sz base sn sc n c B:Nat)(x2 x3 x7 p:Value)(RA SA:Option Addr)(l r:List UInt8)(w:World)(he:MEnv w)(hb:Box w lb 61 #[.int .u8 0,.slice RA n c,x2,x3,.int .u64 (sz:Int),p,.slice SA sn sc,x7])(hr:RdB w B RA n c r)(bL:B≤w.heap.size)(Bw:sz≤1000000)(hp:p= .pointer none∨p=bPtr lb 5)
  (Hl:Own w base 5 1 SA sn sc (l.map u8v)) (hne:blk SA≠some lb) (Hf:base≤w.heap.size) (sQ:sn≤1000000000) (hn:n≤1000000000) (fD:0≠lb) (pd:0<base) (pn:n<8) (h8:r=hdrB.take n):
  Calls prog 25 #[.pointer (some ⟨lb,0,none⟩)] w fun e w'=>e= .returned (.tuple #[])∧Below w.heap.size w w':=by
 have qq2g:=();exact Za_
theorem XA(lb n c:Nat)(x0 x2 x3 x4 x5 x6 x7:Value)(RA:Option Addr)(r:List UInt8)(w:World)(hb:Box w lb 61 #[x0,.slice RA n c,x2,x3,x4,x5,x6,x7])(hr:RdB w w.heap.size RA n c r)(hn:n≤1000000000)(Cm:zu r=([],0,0)):
  Calls prog 26 #[.pointer (some ⟨lb,0,none⟩)] w fun e w'=>e= .returned (.tuple #[])∧Box w' lb 61 #[x0,.slice RA n n,x2,x3,x4,x5,x6,x7]∧KeepF (fun k=>k=lb) w w':=by
 have hs:=Ja RA n c r w hr hn;rw[Cm]at hs;simp only[Vy]at hs;have x1:=hb.c1;have ns:=hr.cap;have nN:=hr.max;have gZ:n≤maxLen:=by omega
 clear Cm;go_enter func26,ntmps26;go_wp2_with(with_reducible refine h_A ?_);refine hs.mono ?_;rintro e w1 ⟨A1,c1,rfl,rT,Ha⟩;have bK:=hb.below Ha;have k1:w1.drew.cell? ⟨lb,1,none⟩=some (.slice RA n c):=bK.c1;have F3:w1.drew.frozen? ⟨lb,1,none⟩=false:=bK.thaw 1;have hF:=xW (show Box w1.drew lb 61 _ from bK) (off:=1) (.slice RA n n);have HF:=Q1 (show Box _ lb 61 #[x0,.slice RA n n,x2,x3,x4,x5,x6,x7]from hF);have hG:=Q1 (yC w1.drew lb 1 (.slice RA n n));have HK1:KeepF (fun k=>k=lb) w w1.drew:=.below (za Ha 1);clear hb hr bK hs x1 hF;go_wp2;go_region
 all_goals
  go_wp2;refine wp_loop_rounds 1 ?_;rw[rounds_succ];go_wp2;go_end0;exact⟨rfl,HF.out,HK1.trans (.grown (F:=fun k=>k=lb) hG.out (fun k hk=>.inl uj)) (fun k hk=>.inl hk)⟩
theorem Vj(lb gp:Nat)(w:World)(he:MEnv w)(hb:Box w lb 61 (lk0 gp))(fL:0≠lb):
  Calls prog 12 #[.pointer (some ⟨lb,0,none⟩),.string (str hdrB)] w fun e w'=>e= .returned (.tuple #[.string (str (hdrB++ctlB 4096 startB)),.slice none 0 0])∧w'.cell? ⟨lb,0,none⟩=some (.int .u8 1)∧w'.cell? ⟨lb,2,none⟩=some (.pointer (some ⟨gp,0,none⟩))∧KeepF (fun k=>k=lb) w w':=by
 exact Zm_
def amxB:List UInt8:=[65,77,88]
theorem Vk(lb gp:Nat)(w:World)(he:MEnv w)(hb:Box w lb 61 (lk0 gp))(fL:0≠lb):
  Calls prog 12 #[.pointer (some ⟨lb,0,none⟩),.string (str amxB)] w fun e w'=>e= .returned (.tuple #[.string (str hdrB),.slice none 0 0])∧w'.cell? ⟨lb,0,none⟩=some (.int .u8 5)∧w'.cell? ⟨lb,2,none⟩=some (.pointer (some ⟨gp,0,none⟩))∧KeepF (fun k=>k=lb) w w':=by
 have qq3s:=();exact Zm_
theorem zcT:(ctlB 4096 startB).length=27:=by kernel_rfl
theorem Yy(w:World)(he:MEnv w):Calls prog 9 #[] w fun e w'=>e= .returned (.bool true)∧Below w.heap.size w w':=by
 have CQ:=he.lt;have eJ:=YS w;have iX:(hdrB++ctlB 4096 startB).length=35:=by rw[K2,zcT];rfl
 have W7:((str ((hdrB++ctlB 4096 startB).take 8)).toList== [65,77,81,80,1,1,0,10])=true:=by rw[zl];simp[hdrB]
 obtain⟨OUT,ln⟩:∃o,o=hdrB++ctlB 4096 startB:=⟨_,rfl⟩
 rw[←ln]at iX W7;have tG:=Q1 ln;clear ln;have dD:=zi OUT;go_enter func9,ntmps9;go_wp2_with(with_reducible refine h_A ?_);refine eJ.mono ?_;rintro e w1 ⟨rfl,OP,bK,Ha⟩;clear eJ;have EV:=he.on Ha;obtain⟨lb,dc⟩:∃b,b=w.heap.size+2:=⟨_,rfl⟩
 rw[←dc]at bK;have AS:w.heap.size≤lb:=by omega
 have iC:=Vj lb _ w1 EV bK Wq;rw[←tG.out]at iC;go_wp2_with(with_reducible refine h_A ?_);rw[←dc];clear dc;rw[show str hdrB=(⟨#[65,77,81,80,1,1,0,10]⟩:ByteArray)from rfl]at iC
 (with_reducible refine iC.mono ?_)
 rintro e w2 ⟨rfl,gV,dK,dS⟩;clear iC;have Hc:Below w.heap.size w w2:=Ha.trans (dS.toBelow Ha.size (fun g hg=>by omega));have eO:=YS w2;go_wp2_with(with_reducible refine h_A ?_);refine eO.mono ?_;rintro e w3 ⟨rfl,hG3,bX,Hh⟩;clear eO;have E2:=Hc.trans (Hh.mono Hc.size);have he3:=he.on E2;obtain⟨mb,cw⟩:∃b,b=w2.heap.size+2:=⟨_,rfl⟩
 rw[←cw]at bX;have NK:w2.heap.size≤mb:=by omega
 have NF:lb<w2.heap.size:=World.block_lt_of_cell? _ _ gV;have EJ:=Hc.size;have fN:=Vk mb _ w3 he3 bX Wq;have d0:w3.cell? ⟨lb,0,none⟩=some (.int .u8 1):=(Hh.cell (p:=⟨lb,0,none⟩) NF).trans gV;have d2:=(Hh.cell (p:=⟨lb,2,none⟩) NF).trans dK;clear gV dK;go_wp2_with(with_reducible refine h_A ?_);rw[←cw];clear cw;rw[show str amxB=(⟨#[65,77,88]⟩:ByteArray)from rfl,show str hdrB=(⟨#[65,77,81,80,1,1,0,10]⟩:ByteArray)from rfl]at fN
 (with_reducible refine fN.mono ?_)
 rintro e w4 ⟨rfl,sI,dZ,eQ⟩;clear fN;have Hn:Below w.heap.size w w4:=E2.trans (eQ.toBelow E2.size (fun g hg=>by omega))
 have Ez:∀o,w4.cell? ⟨lb,o,none⟩=w3.cell? ⟨lb,o,none⟩:=fun o=>by
  have:=eQ.2.1 lb (KS NF Hh.size) Wq;simp only[World.cell?,this]
 have W6:=(Ez 0).trans d0;have d2':=(Ez 2).trans d2;clear Ez d0 d2;have BZ:=qU lb 1 _ w4 W6 d2';have cm:=qU mb 5 _ w4 sI dZ;rw[show(((1:Nat)):Int)=1 from rfl]at BZ;rw[show(((5:Nat)):Int)=5 from rfl]at cm;have fX:=YE (P:=prog) underlying9 w4 (l:=OUT) (lo:=none) (hi:=some (.int .i64 8)) 0 8 (.inl ⟨rfl,rfl⟩) (.inr ⟨_,_,rfl,rfl⟩) Wq Wq;go_wp2_with(with_reducible refine h_A ?_)
 (with_reducible refine BZ.mono ?_)
 rintro e w5 ⟨rfl,rfl⟩;go_wp2_with(with_reducible refine h_A ?_)
 (with_reducible refine cm.mono ?_)
 rintro e w6 ⟨rfl,rfl⟩;go_wp2_with(with_reducible refine h_A ?_);go_ret;exact⟨rfl,Hn⟩
structure LS where
 st:Nat
 ch:Nat
 sz:Nat
 g:GS
 sent:List UInt8
 told:List As
def LS.close(L:LS)(code:Nat)(text:List UInt8):LS:={L with st:=5,sent:=L.sent++ctlB L.sz (qx code text)}
def LS.send(L:LS)(bs:List UInt8):LS:={L with sent:=L.sent++ctlB L.sz bs}
structure TAs where
 a:As
 A:Option Addr
 c:Nat
def taC(x:TAs):List Value:=[.int .u16 (x.a.chan:Int),.int .u8 (x.a.track:Int),.slice x.A x.a.segs.length x.c]
theorem kE:RecShape taC 3:=⟨fun _=>rfl,fun a u h=>by simp[taC]at h;rcases h with rfl|rfl|rfl<;>rfl,by omega⟩
theorem slTA:SlT prog 29 42 3 32 (.agg #[.int .u16 0,.int .u8 0,.slice none 0 0]):=SlT.mk' underlying29 Wj rfl Wq
abbrev OwnT(w:World)(base:Nat)(A:Option Addr)(n c:Nat)(l:List TAs):Prop:=Own w base 42 3 A n c (rowC taC l)
structure LkM(w:World)(B:Nat)(U T:Nat→Prop)(lb n:Nat)(RA:Option Addr)(rn rc:Nat)(L:LS):Prop where
 ex:∃(gp:Nat) (p:Value) (SA:Option Addr) (sc:Nat) (TT:Option Addr) (tc:Nat) (th:List TAs) (F:Nat→Prop),
  Box w lb 61 #[.int .u8 (L.st:Int),.slice RA rn rc,.pointer (some ⟨gp,0,none⟩),.int .u64 (L.ch:Int),.int .u64 (L.sz:Int),p,.slice SA L.sent.length sc,.slice TT L.told.length tc]∧
  (p= .pointer none∨p=bPtr lb 5)∧Own w B 5 1 SA L.sent.length sc (L.sent.map u8v)∧OwnT w B TT L.told.length tc th∧L.told=th.map (·.a)∧
  (∀x∈th,OwnG w 0 x.A x.a.segs.length x.c x.a.segs∧∀b,blk x.A=some b→T b)∧Ga w F gp n L.g∧
  (∀b,F b→U b)∧(∀b,blk SA=some b→U b∧b≠lb∧¬F b∧blk TT≠some b)∧(∀b,blk TT=some b→U b∧b≠lb∧¬F b)∧¬F lb
 lb:U lb
 size:B≤w.heap.size
 uB:∀b,U b→B≤b∧b<w.heap.size
 tB:∀b,T b→b<w.heap.size
 ut:∀b,T b→¬U b
end Go.PH
namespace Go.PH
open Go.RowKit Go.Proofs Go.Proofs.Tryz
variable {B lb n rc rn : Nat} {T U : Nat → Prop} {RA : Option Addr} {w w' : World}
theorem LkM.keep{L:LS}(h:LkM w B U T lb n RA rn rc L){G:Nat→Prop}(hk:KeepF G w w')(hU:∀k,U k→¬G k)(hT:∀k,T k→¬G k):LkM w' B U T lb n RA rn rc L where
 ex:=by
  obtain⟨gp,p,SA,sc,TT,tc,th,F,h1,h2,h3,h4,h5,h6,h7,h8,h9,dX,eS⟩:=h.ex
  exact⟨gp,p,SA,sc,TT,tc,th,F,zU h1 hk (hU _ h.lb),h2,zw h3 hk (fun b e=>hU _ (h9 b e).1),zw h4 hk (fun b e=>hU _ (dX b e).1),h5,fun x hx=>⟨zw (h6 x hx).1 hk (fun b e=>hT _ ((h6 x hx).2 b e)),(h6 x hx).2⟩,
   h7.keep (fun k hF=>hk.2.1 k (h7.lt k hF) (hU _ (h8 k hF))) hk.1,h8,h9,dX,eS⟩
 lb:=h.lb
 size:=ky h.size hk.1
 uB:=fun b hb=>⟨(h.uB b hb).1,KS (h.uB b hb).2 hk.1⟩
 tB:=fun b hb=>KS (h.tB b hb) hk.1
 ut:=h.ut
theorem LkM.below{L:LS}(h:LkM w B U T lb n RA rn rc L)(hB:Below w.heap.size w w'):LkM w' B U T lb n RA rn rc L:=
 h.keep (KeepF.below (F:=fun _=>False) hB) (fun _ _ e=>e) (fun _ _ e=>e)
def LStep(w:World)(B:Nat)(U T:Nat→Prop)(lb n:Nat)(RA:Option Addr)(rn rc:Nat)(L:LS)(w':World):Prop:=
 ∃U' T',LkM w' B U' T' lb n RA rn rc L∧KeepF U w w'∧(∀k,U' k→U k∨w.heap.size≤k)∧(∀k,T' k→T k∨U k∨w.heap.size≤k)
theorem LStep.refl{L:LS}(h:LkM w B U T lb n RA rn rc L):LStep w B U T lb n RA rn rc L w:=⟨U,T,h,.refl _ _,fun _ h=>.inl h,fun _ h=>.inl h⟩
theorem LStep.of{w1 w2:World}{U1 T1:Nat→Prop}{L:LS}(hk:KeepF U w w1)(hU:∀k,U1 k→U k∨w.heap.size≤k)(hT:∀k,T1 k→T k∨U k∨w.heap.size≤k)(h:LStep w1 B U1 T1 lb n RA rn rc L w2):LStep w B U T lb n RA rn rc L w2:=by
 exact Z39_
theorem LStep.from{w1 w2:World}{L:LS}(hB:Below w.heap.size w w1)(h:LStep w1 B U T lb n RA rn rc L w2):LStep w B U T lb n RA rn rc L w2:=
 .of (.below hB) (fun _ h=>.inl h) (fun _ h=>.inl h) h
theorem LkM.wrote{L L':LS}(h:LkM w B U T lb n RA rn rc L)(gD:L'.ch=L.ch)(Bw:L'.sz=L.sz)(hg:L'.g=L.g)(uh:L'.told=L.told)
  (hw:∀(cs:Array Value) (p:Value) (SA:Option Addr) (sc:Nat),Box w lb 61 cs→cs.size=8→cs[4]?=some (.int .u64 (L.sz:Int))→cs[5]?=some p→(p= .pointer none∨p=bPtr lb 5)→cs[6]?=some (.slice SA L.sent.length sc)→Own w B 5 1 SA L.sent.length sc (L.sent.map u8v)→blk SA≠some lb→
   cs[0]?=some (.int .u8 (L.st:Int))→
   (∃A2 c2,Box w' lb 61 (((cs.setIfInBounds 5 (bPtr lb 5)).setIfInBounds 6 (.slice A2 L'.sent.length c2)).setIfInBounds 0 (.int .u8 (L'.st:Int)))∧Own w' B 5 1 A2 L'.sent.length c2 (L'.sent.map u8v)∧blk A2≠some lb∧(blk A2=blk SA∨∀k,blk A2=some k→w.heap.size≤k))∧KeepF (fun k=>k=lb∨blk SA=some k) w w'):
  LStep w B U T lb n RA rn rc L' w':=by
 obtain⟨gp,p,SA,sc,TT,tc,th,F,h1,h2,h3,h4,h5,h6,h7,h8,h9,dX,eS⟩:=h.ex;obtain⟨⟨A2,c2,k1,k2,k3,k4⟩,hk⟩:=hw _ p SA sc h1 rfl rfl rfl h2 rfl h3 (fun e=>(h9 lb e).2.1 rfl) rfl;have hU:∀k,k=lb∨blk SA=some k→U k:=fun k e=>by rcases e with rfl|e;exact h.lb;exact(h9 k e).1
 have hT:∀k,T k→¬(k=lb∨blk SA=some k):=fun k hk e=>h.ut k hk (hU k e)
 have ef:=hk.1;refine⟨fun k=>U k∨(w.heap.size≤k∧blk A2=some k),T,⟨⟨gp,bPtr lb 5,A2,c2,TT,tc,th,F,?_,.inr rfl,k2,?_,?_,?_,?_,fun b hb=>.inl (h8 b hb),fun b hb=>?_,fun b hb=>⟨.inl (dX b hb).1,(dX b hb).2⟩,eS⟩,.inl h.lb,ky h.size ef,fun b hb=>?_,fun b hb=>KS (h.tB b hb) ef,fun b hb e=>?_⟩,hk.weak (fun g hg=>.inl (hU g hg)),fun k hk=>by rcases hk with e|e;exact .inl e;exact .inr e.1,fun k hk=>.inl hk⟩
 ·rw[gD,Bw,uh];exact k1
 ·rw[uh];exact zw h4 hk (fun b hb e=>by rcases e with e|e;exact(dX b hb).2.1 e;exact(h9 b e).2.2.2 hb)
 ·rw[uh];exact h5
 ·exact fun x hx=>⟨zw (h6 x hx).1 hk (fun b e=>hT _ ((h6 x hx).2 b e)),(h6 x hx).2⟩
 ·rw[hg];exact h7.keep (fun k hF=>hk.2.1 k (h7.lt k hF) (fun e=>by rcases e with e|e;exact eS (e▸hF);exact(h9 k e).2.2.1 hF)) hk.1
 ·rcases k4 with e|e
  ·rw[e]at hb;exact⟨.inl (h9 b hb).1,(h9 b hb).2⟩
  have bF:=e b hb;exact⟨.inr ⟨bF,hb⟩,fun e2=>k3 (e2▸hb),fun hF=>by have:=h7.lt b hF;omega,fun e2=>by have:=(h4.blk_lt e2).2;omega⟩
 ·rcases hb with hb|hb
  ·exact⟨(h.uB b hb).1,KS (h.uB b hb).2 ef⟩
  exact k2.blk_lt hb.2
 rcases e with e|e
 ·exact h.ut b hb e
 have:=h.tB b hb;omega
theorem jU(code:Nat)(text:List UInt8)(oF:code<65536)(oZ:text.length<256){L:LS}(h:LkM w B U T lb n RA rn rc L)(he:MEnv w)(Bw:L.sz≤1000000)(hs:L.sent.length≤10000000000):
  Calls prog 33 #[.pointer (some ⟨lb,0,none⟩),.int .u64 (code:Int),.string (str text)] w fun e w'=>e= .returned (.tuple #[])∧LStep w B U T lb n RA rn rc (L.close code text) w':=by
 have qqbq:=();exact Z2j_
theorem X7(code:Nat)(S:List SA)(bs:List UInt8)(B5:CtlC code S bs)(iT:bs.length≤10000)(A:Option Addr)(m c:Nat){L:LS}(h:LkM w B U T lb n RA rn rc L)(he:MEnv w)(hr:Rd w w.heap.size 12 A m c (rowC saC S))(Bw:L.sz≤1000000)(hs:L.sent.length≤10000000000):
  Calls prog 36 #[.pointer (some ⟨lb,0,none⟩),.int .u8 (code:Int),.slice A m c] w fun e w'=>e= .returned (.tuple #[])∧LStep w B U T lb n RA rn rc (L.send bs) w':=by
 exact Z2j_
end Go.PH
