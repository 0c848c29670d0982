/- Parts. -/
import Derived.Test.YtfbkameikhgciaaGreatDoorMg02
set_option linter.all false
set_option maxRecDepth 20000
set_option maxHeartbeats 8000000
open Go.RowKit.Below renaming refl → KL
open Go.Lib renaming hid → Q1
open List renaming mem_range → K1, length_cons → K2, take_of_length_le → Vy, drop_drop → q4, getElem_toArray → q6, getElem_cons_zero → q7, setIfInBounds_toArray → q8, set_cons_zero → q9, set_cons_succ → kI, drop_zero → kv, map_take → ky, length_take → kx, map_drop → k8, getD → k9, take_succ_cons → vv, all_eq_true → vz, length_nil → v0, isEmpty_cons → v1, take_succ_eq_append_getElem → v2, range → j8, getD_cons_zero → zA, getD_cons_succ → z2, take_left' → z3, getElem?_eq_getElem → z4, drop_eq_getElem_cons → z9, getElem?_take → yB, drop_succ_cons → y3
open Nat renaming le_refl → Q2, mul_one → K0, add_zero → q5, zero_mul → v3, min_eq_left → j2, strongRecOn → zB, sub_zero → z6, two_pow_add_eq_or_of_lt → z8, add_assoc → yA
open Go.RowKit renaming intOf → KS
open Go.World renaming cell?_setCell_other → VB, cell?_setCell_far → Vx, block_lt_of_cell? → v4, cell? → v5, cell?_setCell_same → v9, grownBy → z5, frozen?_of_block → z7
namespace Go.PH
open Go.RowKit Go.Proofs Go.Proofs.Tryz
variable {bad : Bool} {x : Int} {b l : List UInt8} {k n : Nat} {F : Nat → Prop} {vb : Option Nat} {v : Value} {w w' : World}
def Zb(tr n t0 t1 t2:Nat):Bool:=(decide (tr=0)&&decide (n=1)&&decide (t0=0))||(decide (tr=1)&&decide (1≤n)&&decide (n≤3)&&decide (t0=1)&& !(decide (n=2)&&decide (t1≠2)&&decide (t1≠3))&& !(decide (n=3)&&(decide (t1≠2)||decide (t2≠3))))
def tyAt(l:List Sg)(i:Nat):Nat:=((l[i]?).map (·.ty)).getD 0
theorem refShape_iff{tr t0 t1 t2:Nat}:Zb tr n t0 t1 t2=true↔(tr=0∧n=1∧t0=0)∨(tr=1∧1≤n∧n≤3∧t0=1∧¬(n=2∧t1≠2∧t1≠3)∧¬(n=3∧(t1≠2∨t2≠3))):=by
 unfold Zb;simp only[Bool.or_eq_true,Bool.and_eq_true,Bool.not_eq_true',decide_eq_true_eq,Bool.and_eq_false_iff,Bool.or_eq_false_iff,decide_eq_false_iff_not];omega
theorem zbS(ch tr:Nat)(l:List Sg):asOk ⟨ch,tr,l⟩=(decide (yK l≤16384)&&Zb tr l.length (tyAt l 0) (tyAt l 1) (tyAt l 2)):=by
 rw[Bool.eq_iff_iff,Bool.and_eq_true,decide_eq_true_eq,refShape_iff];unfold asOk jN
 match l with
 | []=>simp
 | [s]=>
  have e1:tyAt [s] 0=s.ty:=rfl;rw[e1];generalize tyAt [s] 1=t1;generalize tyAt [s] 2=t2;simp only[xn,yK,Bool.and_eq_true,Bool.or_eq_true,decide_eq_true_eq,List.isEmpty_nil,K2,v0,and_true,or_true];constructor
  ·rintro⟨⟨h1,h2⟩,h3,h4⟩;refine⟨by omega,?_⟩;by_cases q:tr=0
   ·exact .inl ⟨q,trivial,by omega⟩
   exact .inr ⟨by omega,by omega,by omega,by omega,(fun e=>absurd e.1 WJ),(fun e=>absurd e.1 WJ)⟩
  rintro⟨h1,⟨h2,h3,h4⟩|⟨h2,h3,h4,h5,h6,h7⟩⟩
  ·exact⟨⟨by omega,by omega⟩,by omega,by omega⟩
  clear h6 h7 h3 h4
  exact⟨⟨by omega,by omega⟩,by omega,by omega⟩
 | [s,t]=>
  have e1:tyAt [s,t] 0=s.ty:=rfl;have e2:tyAt [s,t] 1=t.ty:=rfl;rw[e1,e2];generalize tyAt [s,t] 2=t2;simp only[xn,yK,Bool.and_eq_true,Bool.or_eq_true,decide_eq_true_eq,v1,K2,v0,and_true,or_false,Bool.false_eq_true];constructor
  ·rintro⟨⟨⟨h1,h2⟩,⟨h6,h7⟩,h8⟩,⟨h3,h4⟩,h5⟩;exact⟨by omega,by omega⟩
  rintro⟨h1,⟨h2,h3,h4⟩|⟨h2,h3,h4,h5,h6,h7⟩⟩
  ·omega
  have h8:t.ty=2∨t.ty=3:=by
   by_cases q2:t.ty=2
   ·exact .inl q2
   by_cases q3:t.ty=3
   ·exact .inr q3
   exact absurd ⟨trivial,q2,q3⟩ h6
  clear h6 h7 h3 h4
  exact⟨⟨⟨by omega,by omega⟩,⟨by omega,by omega⟩,by omega⟩,⟨by omega,by omega⟩,by omega⟩
 | [s,t,u]=>
  have e1:tyAt [s,t,u] 0=s.ty:=rfl;have e2:tyAt [s,t,u] 1=t.ty:=rfl;have e3:tyAt [s,t,u] 2=u.ty:=rfl;rw[e1,e2,e3];simp only[xn,yK,Bool.and_eq_true,Bool.or_eq_true,decide_eq_true_eq,v1,K2,v0,and_true,or_false,Bool.false_eq_true];constructor
  ·rintro⟨⟨⟨h1,h2⟩,⟨⟨h6,h7⟩,h8⟩,⟨h9,hA⟩,hB⟩,⟨h3,h4⟩,h5⟩;exact⟨by omega,by omega⟩
  rintro⟨h1,⟨h2,h3,h4⟩|⟨h2,h3,h4,h5,h6,h7⟩⟩
  ·omega
  have h8:t.ty=2∧u.ty=3:=by
   by_cases q2:t.ty=2
   ·by_cases q3:u.ty=3
    ·exact⟨q2,q3⟩
    exact absurd ⟨trivial,.inr q3⟩ h7
   exact absurd ⟨trivial,.inl q2⟩ h7
  clear h6 h7 h3 h4
  exact⟨⟨⟨by omega,by omega⟩,⟨⟨by omega,by omega⟩,by omega⟩,⟨by omega,by omega⟩,by omega⟩,⟨by omega,by omega⟩,by omega⟩
 | s::t::u::v::r=>
  simp only[xn,Bool.and_eq_true,Bool.or_eq_true,decide_eq_true_eq,K2,v1,Bool.false_eq_true,or_false];constructor
  ·rintro⟨⟨⟨⟨h1,_⟩,_⟩,⟨⟨h2,h3⟩,_⟩,⟨⟨h4,h5⟩,_⟩,⟨⟨h6,h7⟩,_⟩,_⟩,⟨h8,h9⟩,dX⟩;omega
  rintro⟨_,h|h⟩
  ·omega
  omega
theorem JS{l:List Sg}{i:Nat}(h:i<l.length):yK (l.take (i+1))=yK (l.take i)+l[i].load.length:=by
 rw[v2 h,jO];simp[yK]
theorem za4(l:List Sg)(i:Nat):yK (l.take i)≤yK l:=by
 have:=jO (l.take i) (l.drop i);rw[List.take_append_drop]at this;omega
theorem Qq(a:As)(A:Option Addr)(n c:Nat)(B:Nat)(w:World)(hr:RdG w B A n c a.segs)(hB:B≤w.heap.size)(hw:a.wf)(hs:∀s∈a.segs,s.load.length≤140737488351232)(hn:n≤140737488351232):
  Calls prog 18 #[.agg (asV a.chan a.track A n c)] w fun e w'=>e= .returned (.int .i64 (xQ a:Int))∧Below w.heap.size w w':=by
 have cW:=yM yW hr;obtain⟨ch,tr,l⟩:=a;obtain⟨gD,lm,mh⟩:=hw;simp only at*;obtain⟨xb,w0,bD,bo,hX,Hy⟩:=zq w (asV ch tr A n c) 42;have HN:=Q1 cW;have BE:=fun{i:Nat} (hi:i<n)=>xF yW hr hi
 have CF:=Q1 mh;have P7:=Q1 hs;have r6:w.heap.size≤xb:=by omega
 clear cW mh hs;obtain⟨E,hE⟩:∃E,E=xQ ⟨ch,tr,l⟩:=⟨_,rfl⟩
 rw[←hE];have FD:=Q1 hE;clear hE;unfold asV at*;go_enter func18,ntmps18;go_upto_region 1 with fail;rw[←bD,←bo];clear bD bo;have x2:=hX.c2;go_wp2_with(with_reducible refine h_A ?_);go_loopw [3,4] (fun s3 s4 wr=>∃(i m:Nat),i≤n∧m≤16384∧s3= .int .i64 (m:Int)∧s4= .int .i64 (i:Int)∧Hid (yK (l.take i)=m)∧Box wr xb 42 #[.int .u16 (ch:Int),.int .u8 (tr:Int),.slice A n c]∧Below w.heap.size w wr) (fun _ s4 _=>n-(KS s4).toNat)
 case atStart=>exact⟨0,0,by omega,by omega,rfl,rfl,Q1 rfl,hX,Hy⟩
 clear x2 hX Hy w0;obtain⟨i,m,hi,hm,rfl,rfl,HC,hX,bP⟩:=hrel;have x1:=hX.c1;have x2:=hX.c2;by_cases hlt:i<n
 ·have g1:(i:Int)<(n:Int):=by omega
  obtain⟨b,off,rfl,dx,bI,bC⟩:=BE hlt;have fZ:b<w.heap.size:=by omega
  have k1:wr.cell? ⟨b,off+i*2+1,none⟩=some (.string (str l[i].load)):=(bP.cell (p:=⟨b,off+i*2+1,none⟩) fZ).trans (bC 1 _ rfl);have mF:=P7.out _ (List.getElem_mem bI);have mY:=Q1 (JS bI);have HLE:=Q1 (za4 l (i+1));clear bC;generalize l[i].load=s at*;have dD:=zi s;have ft:IntKind.i64.wrap ((16384:Int)-(m:Int))=(16384:Int)-(m:Int):=IntWalk.i64_in _ ⟨by omega,by omega⟩;by_cases c3:16384<m+s.length
  ·have d3:(16384:Int)-(m:Int)<(s.length:Int):=by omega
   have HV:Hid (E=70):=Q1 (by
    rw[FD.out];have h1:=HLE.out;rw[mY.out,HC.out]at h1;unfold xQ;rw[zbS,decide_eq_false Wq]
    rfl)
   clear c3;exact Z6d_
  have d3:¬(16384:Int)-(m:Int)<(s.length:Int):=by omega
  go_wp2_with(with_reducible refine h_A ?_);exact⟨⟨i+1,m+s.length,by omega,by omega,by go_num,by go_num,Q1 (by rw[mY.out,HC.out]),hX,bP⟩,by simp[KS];omega⟩
 have g1:¬(i:Int)<(n:Int):=by omega
 obtain rfl:i=n:=by omega
 have Tu:Hid (E=if Zb tr i (tyAt l 0) (tyAt l 1) (tyAt l 2)=true then 0 else 70):=Q1 (by
  have h1:=HC.out;rw[Vy (by rw[HN.out];exact Q2 _)]at h1;rw[FD.out];unfold xQ
  rw[zbS,decide_eq_true Wq,Bool.true_and,HN.out])
 have Gy:∀j,j<i→∃b off,A=some ⟨b,off,none⟩∧wr.cell? ⟨b,off+j*2,none⟩=some (.int .u8 (tyAt l j:Int)):=fun j hj=>by
  obtain⟨b,off,e,dx,bI,bC⟩:=BE hj;refine⟨b,off,e,(bP.cell (p:=⟨b,off+j*2,none⟩) (by show b<_;omega)).trans ?_⟩;have h0:=bC 0 _ rfl;simp only[q5]at h0;rw[h0];unfold tyAt;rw[z4 bI];rfl
 have HA:=Tu;clear Tu BE FD;obtain⟨t0,OE⟩:∃x,x=tyAt l 0:=⟨_,rfl⟩
 obtain⟨t1,AX⟩:∃x,x=tyAt l 1:=⟨_,rfl⟩
 obtain⟨t2,E6⟩:∃x,x=tyAt l 2:=⟨_,rfl⟩
 rw[←OE,←AX,←E6]at HA;have H0:=Q1 OE;have H1:=Q1 AX;have H2:=Q1 E6;clear OE AX E6;by_cases a0:tr=0
 ·have qq9j:=();exact Z1x_
 have d0:¬(tr:Int)=0:=by omega
 by_cases a1:tr=1
 ·have d2:((tr:Nat):Int)=1:=by omega
  rw[d2]at x1;clear d0 d2;by_cases b0:i=0
  ·have qqdi:=();exact Z34_
  by_cases b3:3<i
  ·have qqdh:=();exact Z34_
  obtain⟨b,off,rfl,z0⟩:=Gy 0 Wq;rw[←H0.out]at z0;simp only[v3,q5]at z0;by_cases q0:t0=1
  ·rw[show((t0:Nat):Int)=1 by omega]at z0;by_cases b1:i=1
   ·have qqei:=();exact Z3g_
   obtain⟨b',off',e,z1⟩:=Gy 1 Wq;(obtain⟨rfl,rfl⟩:b=b'∧off=off':=by simpa using e);rw[←H1.out]at z1;simp only[Nat.one_mul]at z1;clear e;by_cases b2:i=2
   ·subst b2;by_cases q1:t1=2
    ·have qqej:=();exact Z3g_
    (have d5:¬(t1:Int)=2:=by omega);by_cases q2:t1=3
    ·exact Z3g_
    have qqdj:=();exact Z34_
   exact Z1x_
  exact Z34_
 have qqdk:=();exact Z34_
def lk0(gp:Nat):Array Value:=#[.int .u8 0,.slice none 0 0,.pointer (some ⟨gp,0,none⟩),.int .u64 255,.int .u64 4096,.pointer none,.slice none 0 0,.slice none 0 0]
theorem YS(w:World):Calls prog 10 #[] w fun e w'=>e= .returned (.pointer (some ⟨w.heap.size+2,0,none⟩))∧Ga w' (fun g=>g=w.heap.size∨g=w.heap.size+1) (w.heap.size+1) 0 GS.new∧Box w' (w.heap.size+2) 61 (lk0 (w.heap.size+1))∧Below w.heap.size w w':=by
 have hg:=za9 w;go_enter func10,ntmps10;go_wp2_with(with_reducible refine h_A ?_);refine hg.mono ?_;rintro e w1 ⟨rfl,hG,hB,hz⟩;have HZ:=Q1 hz;clear hz hg;obtain⟨lb,w2,bD,bo,hL,Hc⟩:=zq w1 (lk0 (w.heap.size+1)) 61;unfold lk0 at bo;go_wp2_with(with_reducible refine h_A ?_);rw[←bo,←bD];go_ret;have e1:lb=w.heap.size+2:=by rw[bD,HZ.out]
 rw[e1]at hL ⊢;exact⟨rfl,hG.below Hc,hL,hB.trans (Hc.mono hB.size)⟩
theorem qU(lb st gp:Nat)(w:World)(h0:w.cell? ⟨lb,0,none⟩=some (.int .u8 (st:Int)))(h2:w.cell? ⟨lb,2,none⟩=some (.pointer (some ⟨gp,0,none⟩))):Calls prog 15 #[.pointer (some ⟨lb,0,none⟩)] w fun e w'=>e= .returned (.int .u8 (st:Int))∧w=w':=by
 go_enter func15,ntmps15;go_wp2_with(with_reducible refine h_A ?_);go_ret;exact⟨rfl,rfl⟩
theorem jg(h:x=8∨qJ x=false):zE n x=2:=by
 unfold zE;rw[if_neg];intro h';rcases h with rfl|h
 ·omega
 have:=qK (w:=x) Wq;rw[h]at this;cases this
theorem yO{s:List UInt8}(h:zE s.length x≠0):zP l s x=[]:=by unfold zP;rw[if_neg h]
theorem yQ{s:List UInt8}(h:zE s.length x=0):zP l s x=l++be x.toNat s.length++s:=by unfold zP;rw[if_pos h]
theorem qB(A:Option Addr)(n c:Nat)(l s:List UInt8)(x:Int)(w:World)(hb:RdB w w.heap.size A n c l)(hs:s.length≤140737488351232)(hn:n≤140737488351240):
  Calls prog 102 #[.slice A n c,.string (str s),.int .i64 x] w fun e w'=>∃A2 c2,e= .returned (.tuple #[.slice A2 (zP l s x).length c2,.int .i64 (zE s.length x)])∧Own w' w.heap.size 5 1 A2 (zP l s x).length c2 ((zP l s x).map u8v)∧Below w.heap.size w w':=by
 have hl:=hb.length;have dD:=zi s;by_cases h8:x=8
 ·rw[jg (.inl h8),yO (by rw[jg (.inl h8)];omega)];subst h8;go_enter func102,ntmps102;exact Z5c_
 by_cases hw:qJ x=true
 ·rcases(show x=1∨x=2∨x=4 by rw[Zk]at hw;omega)with rfl|rfl|rfl
  ·have qq84:=();exact Z1j_
  ·have qq85:=();exact Z1j_
  exact Z1j_
 have nl:qJ x=false:=by simpa using hw
 rw[jg (.inr nl),yO (by rw[jg (.inr nl)];omega)];go_enter func102,ntmps102;go_wp2_with(with_reducible refine h_A ?_);refine(qm x w).mono ?_;rw[nl];exact Z4w_
theorem vJ(x:Int)(w:World):Calls prog 142 #[.int .i64 x] w fun e w'=>e= .returned (.bool (qJ x))∧w'=w:=by
 exact Z1z_
theorem ZM(h:Below w.heap.size w w')(row:Option Nat):w.grownBy w' row:=⟨h.os,h.tape,h.output,h.size,fun k hk _=>h.block k hk⟩
theorem ZN(w:World)(row:Option Nat):w.grownBy w.drew row:=⟨rfl,rfl,rfl,Q2 _,fun _ _ _=>rfl⟩
theorem kj(w:World)(a:Addr)(u:Value):w.grownBy (w.setCell a u) (some a.block):=
 ⟨rfl,rfl,rfl,by simp,fun k _ hk=>Below.heap_setCell _ _ _ k (fun e=>hk (by rw[e]))⟩
theorem XB(A:Option Addr)(n c:Nat)(l:List UInt8)(w:World)(hb:RdB w w.heap.size A n c l)(hn:n≤140737488351240):
  Calls prog 76 #[.slice A n c] w fun e w'=>∃A2 c2,e= .returned (.slice A2 n c2)∧Own w' w.heap.size 5 1 A2 n c2 (l.map u8v)∧Below w.heap.size w w':=by
 have hl:=hb.length;have Fh:=run_eql_slice_nil (P:=prog) w 55 _ A n c underlying55;rcases A with _|ad
 ·have oh:n=0:=by
   rcases Nat.eq_zero_or_pos n with h0|h0
   ·exact h0
   obtain⟨b,off,e,_⟩:=hb.at_ h0;cases e
  subst oh;obtain rfl:=List.eq_nil_of_length_eq_zero hl;go_enter func76,ntmps76;go_wp2_with(with_reducible refine h_A ?_);go_ret;exact⟨none,0,rfl,Own.none_ _ _ _ _,KL _ _⟩
 go_enter func76,ntmps76;go_wp2_with(with_reducible refine h_A ?_);have bZ:=yn (w:=w) w.heap.size #[] 5 0 (Q2 _) WX rfl (size:=1) Wq;have Ha:Below w.heap.size w (w.alloc (.cells #[] 5)):=(KL _ _).alloc (Q2 _) _;refine zc (yc (base:=w.heap.size) slB rfl rfl rfl rfl bZ (hb.below Ha) (zM l) Wq UJ Wz ?_);intro A2 c2 w2 bW Hm _;have Hc:Below w.heap.size w w2:=Ha.grown Hm Wz (fun g hg=>(bZ.blk_lt hg).1);simp only[Nat.zero_add,List.nil_append]at bW;go_wp2_with(with_reducible refine h_A ?_);go_ret;exact⟨A2,c2,by first|rfl|simp,bW,Hc⟩
def Rdr(F:Nat→Prop)(w:World)(v:Value)(vb:Option Nat)(l:List UInt8)(bad:Bool):Prop:=
 (v= .pointer none∧vb=none∧l=[]∧bad=true)∨
 (∃rb,v= .pointer (some ⟨rb,0,none⟩)∧vb=none∧l=[]∧bad=true∧w.cell? ⟨rb,0,none⟩=some (.pointer none)∧F rb)∨
 (∃rb b A n c,v= .pointer (some ⟨rb,0,none⟩)∧vb=some b∧rb≠b∧w.cell? ⟨rb,0,none⟩=some (.pointer (some ⟨b,0,none⟩))∧w.cell? ⟨b,0,none⟩=some (.slice A n c)∧
  w.cell? ⟨b,1,none⟩=some (.bool true)∧w.cell? ⟨b,2,none⟩=some (.bool bad)∧w.frozen? ⟨b,0,none⟩=false∧w.frozen? ⟨b,2,none⟩=false∧RdB w w.heap.size A n c l∧blk A≠some b∧n≤140737488351240∧F rb∧F b∧∀g,blk A=some g→F g)
theorem Vn(w:World):Calls prog 107 #[.pointer none] w fun e w'=>e= .returned (.bool true)∧w'=w:=by
 go_enter func107,ntmps107;go_wp2_with(with_reducible refine h_A ?_);go_ret;exact⟨rfl,rfl⟩
theorem Vo(w:World)(b:Nat)(bad:Bool)(h1:w.cell? ⟨b,1,none⟩=some (.bool true))(h2:w.cell? ⟨b,2,none⟩=some (.bool bad)):
  Calls prog 107 #[.pointer (some ⟨b,0,none⟩)] w fun e w'=>e= .returned (.bool bad)∧w'=w:=by
 cases bad
 all_goals
  go_enter func107,ntmps107;go_wp2_with(with_reducible refine h_A ?_);go_ret;exact⟨rfl,rfl⟩
theorem JU(w:World):Calls prog 108 #[.pointer none] w fun e w'=>e= .returned (.int .i64 0)∧w'=w:=by
 exact Z5r_
theorem JV(w:World)(b:Nat){A:Option Addr}{c:Nat}(h0:w.cell? ⟨b,0,none⟩=some (.slice A n c)):
  Calls prog 108 #[.pointer (some ⟨b,0,none⟩)] w fun e w'=>e= .returned (.int .i64 n)∧w'=w:=by
 exact Z5r_
theorem Rdr.kept{row:Option Nat}(h:Rdr F w v vb l bad)(hg:w.grownBy w' row)(hne:∀g,row=some g→¬F g):Rdr F w' v vb l bad:=by
 rcases h with h|⟨rb,h1,h2,h3,h4,h5,hF⟩|⟨rb,b,A,n,c,h1,h2,h3,h4,h5,h6,h7,h8,h9,hr,dX,eS,UW,wE,mK⟩
 ·exact .inl h
 ·exact .inr (.inl ⟨rb,h1,h2,h3,h4,hg.cell h5 (fun e=>hne _ e.symm hF),hF⟩)
 have hb:b<w.heap.size:=v4 w _ h5
 refine .inr (.inr ⟨rb,b,A,n,c,h1,h2,h3,hg.cell h4 (fun e=>hne _ e.symm UW),hg.cell h5 (fun e=>hne _ e.symm wE),hg.cell h6 (fun e=>hne _ e.symm wE),hg.cell h7 (fun e=>hne _ e.symm wE),
  (hg.frozen_far ⟨b,0,none⟩ hb (fun e=>hne _ e.symm wE)).trans h8,(hg.frozen_far ⟨b,2,none⟩ hb (fun e=>hne _ e.symm wE)).trans h9,(hr.grown_ne hg (Q2 _) ?_).more hg.size,dX,eS,UW,wE,mK⟩)
 rcases hA:blk A with _|g
 ·exact .inl rfl
 exact .inr fun e=>hne g e.symm (mK g hA)
theorem Rdr.below(h:Rdr F w v vb l bad)(hB:Below w.heap.size w w'):Rdr F w' v vb l bad:=h.kept (ZM hB none) Wz
theorem Rdr.drew(h:Rdr F w v vb l bad):Rdr F w.drew v vb l bad:=h.kept (ZN w none) Wz
theorem Rdr.inF(h:Rdr F w v vb l bad){g:Nat}(hg:vb=some g):F g:=by
 rcases h with⟨_,rfl,_⟩|⟨_,_,rfl,_⟩|⟨rb,b,A,n,c,_,rfl,_,_,_,_,_,_,_,_,_,_,_,hF,_⟩
 ·cases hg
 ·cases hg
 cases hg;exact hF
theorem Rdr.len(h:Rdr F w v vb l bad):l.length≤140737488351240:=by
 rcases h with⟨_,_,rfl,_⟩|⟨_,_,_,rfl,_⟩|⟨rb,b,A,n,c,_,_,_,_,_,_,_,_,_,hr,_,hn,_⟩
 ·simp
 ·simp
 rw[hr.length];exact hn
theorem yD(h:Rdr F w v vb l bad):
  Calls prog 77 #[v] w fun e w'=>e= .returned (.bool bad)∧w'=w:=by
 have qqb5:=();exact Z2b_
theorem yN(h:Rdr F w v vb l bad):
  Calls prog 78 #[v] w fun e w'=>e= .returned (.int .i64 l.length)∧w'=w:=by
 exact Z2b_
theorem xk(h:Rdr F w v vb l bad):
  Calls prog 79 #[v] w fun e w'=>e= .returned (.tuple #[])∧Rdr F w' v vb [] true∧w.grownBy w' vb:=by
 rcases h with⟨rfl,rfl,rfl,rfl⟩|⟨rb,rfl,rfl,rfl,rfl,hc,hF⟩|⟨rb,b,A,n,c,rfl,rfl,hne,hc,h0,h1,h2,mG,fN,hr,hA,hn,hF⟩
 ·go_enter func79,ntmps79;go_wp2_with(with_reducible refine h_A ?_);go_end0;exact⟨rfl,.inl ⟨rfl,rfl,rfl,rfl⟩,z5.refl _ _⟩
 ·go_enter func79,ntmps79;go_wp2_with(with_reducible refine h_A ?_);go_end0;exact⟨rfl,.inr (.inl ⟨rb,rfl,rfl,rfl,rfl,hc,hF⟩),z5.refl _ _⟩
 go_enter func79,ntmps79;go_wp2_with(with_reducible refine h_A ?_);have hS:w.drew.cell? ⟨rb,0,none⟩=some (.pointer (some ⟨b,0,none⟩)):=hc;have hhs:w.drew.frozen? ⟨b,0,none⟩=false:=mG;have Oi:w.drew.cell? ⟨b,0,none⟩=some (.slice A n c):=h0;refine zt (fun wx=>wx.cell? ⟨rb,0,none⟩=some (.pointer (some ⟨b,0,none⟩))) Wj ?_;refine rg_t 0 hS ?_;simp only[q6,q7,Act.put,q8,q9,kI];refine rg_t 1 hS ?_;simp only[g_S];refine rg_t 2 hS ?_;simp only[g_S];refine rg_t 3 hS ?_;simp only[g_S];refine rg_t 4 hS ?_;simp only[g_S];refine rg_t 5 hS ?_;simp only[g_S];refine rg_t 6 hS ?_;simp only[g_S];refine rg_t 7 hS ?_;simp only[g_S];refine rg_t 8 hS ?_;simp only[g_S];refine rg_t 9 hS ?_;simp only[g_S];refine zj 10 rfl Wj rfl (fun K hK=>?_);go_simp;have BG:(w.drew.setCell ⟨b,0,none⟩ (.slice none 0 0)).cell? ⟨rb,0,none⟩=some (.pointer (some ⟨b,0,none⟩)):=(Vx _ _ _ _ (fun e=>hne e.symm)).trans hS;have WG:(w.drew.setCell ⟨b,0,none⟩ (.slice none 0 0)).frozen? ⟨b,2,none⟩=false:=by simp[fN]
 refine hK _ _ BG ?_;clear hK K;refine rg_t 11 BG ?_;simp only[g_S];refine rg_t 12 BG ?_;simp only[g_S];refine zj 13 rfl Wj rfl (fun K hK=>?_);go_simp;refine hK _ _ ((Vx _ _ _ _ (fun e=>hne e.symm)).trans BG) ?_;clear hK K;refine zz Wj ?_;go_end0;refine⟨rfl,.inr (.inr ⟨rb,b,none,0,0,rfl,rfl,hne,?_,?_,?_,?_,?_,?_,Rd.nil _ _ _ _ WX _,by simp[blk],by omega,hF.1,hF.2.1,by simp[blk]⟩),?_⟩
 ·exact(Vx _ _ _ _ (fun e=>hne e.symm)).trans BG
 ·change v5 ((w.setCell ⟨b,0,none⟩ (.slice none 0 0)).setCell ⟨b,2,none⟩ (.bool true)) _=_;rw[VB _ _ _ _ Wz];exact v9 _ _ _ h0
 ·change v5 ((w.setCell ⟨b,0,none⟩ (.slice none 0 0)).setCell ⟨b,2,none⟩ (.bool true)) _=_;rw[VB _ _ _ _ Wz,VB _ _ _ _ Wz];exact h1
 ·change v5 ((w.setCell ⟨b,0,none⟩ (.slice none 0 0)).setCell ⟨b,2,none⟩ (.bool true)) _=_;refine v9 _ _ _ (u:=.bool bad) ?_;rw[VB _ _ _ _ Wz];exact h2
 ·simp[mG]
 ·simp[fN]
 exact((kj w ⟨b,0,none⟩ (.slice none 0 0)).trans (kj _ ⟨b,2,none⟩ (.bool true))).trans ⟨rfl,rfl,rfl,Q2 _,fun _ _ _=>rfl⟩
theorem kk(h:Rdr F w v vb l bad)(x:Int)(hx: -9223372036854775808≤x)(nH:x≤9223372036854775807):
  Calls prog 53 #[v,.int .i64 x] w fun e w'=>∃A2 c2,e= .returned (.slice A2 (xe l bad x).1.length c2)∧Own w' w.heap.size 5 1 A2 (xe l bad x).1.length c2 ((xe l bad x).1.map u8v)∧
   Rdr F w' v vb (xe l bad x).2.1 (xe l bad x).2.2∧w.grownBy w' vb:=by
 by_cases d7:bad=true
 ·have qqci:=();exact Z2t_
 obtain rfl:bad=false:=by simpa using d7
 by_cases sj:x<0
 ·have qqcj:=();exact Z2t_
 by_cases bQ:(l.length:Int)<x
 ·exact Z2t_
 obtain⟨m,rfl⟩:∃m:Nat,x=m:=⟨x.toNat,by omega⟩
 have hm:m≤l.length:=by omega
 rw[xp hm];have h':=h;rcases h with⟨_,_,_,hb⟩|⟨_,_,_,_,hb,_⟩|⟨rb,b,A,n,c,rfl,rfl,hne,hc,h0,h1,h2,mG,fN,hr,hA,hn,hF⟩
 ·cases hb
 ·cases hb
 have hl:=hr.length;have fq:=hr.cap;go_enter func53,ntmps53;go_wp2_with(with_reducible refine h_A ?_);refine(yD h').mono ?_;rintro e w' ⟨rfl,rfl⟩;go_wp2_with(with_reducible refine h_A ?_);refine(yN h').mono ?_;rintro e w' ⟨rfl,rfl⟩;go_wp2_with(with_reducible refine h_S ?_);refine zc (zbL slB rfl rfl rfl hr 0 m c (.inl ⟨rfl,rfl⟩) (.inr ⟨_,_,rfl,rfl⟩) (.inl ⟨rfl,rfl⟩) mq Wq Wq (Q2 _) Wq ?_);intro A1 dQ;simp only[v3,K0,kv,←ky,z6]at dQ;go_wp2_with(with_reducible refine h_S ?_);refine(XB A1 m c (l.take m) _ dQ Wq).mono ?_;rintro e w1 ⟨A2,c2,rfl,bW,hB⟩;go_wp2_with(with_reducible refine h_A ?_);have fZ:b<w'.heap.size:=v4 w' _ h0;have nD:rb<w'.heap.size:=v4 w' _ hc;have ca:w1.drew.cell? ⟨rb,0,none⟩=some (.pointer (some ⟨b,0,none⟩)):=(hB.cell nD).trans hc;have Gz:w1.drew.cell? ⟨b,0,none⟩=some (.slice A n c):=(hB.cell fZ).trans h0;have eS:w1.cell? ⟨b,1,none⟩=some (.bool true):=(hB.cell (p:=⟨b,1,none⟩) fZ).trans h1;have aB:w1.cell? ⟨b,2,none⟩=some (.bool false):=(hB.cell (p:=⟨b,2,none⟩) fZ).trans h2;have D6:w1.drew.frozen? ⟨b,0,none⟩=false:=(z7 (w:=w') (w':=w1.drew) (hB.block b fZ)).trans mG;have OH:w1.drew.frozen? ⟨b,2,none⟩=false:=(z7 (w:=w') (w':=w1.drew) (hB.block b fZ)).trans fN;have B1:RdB w1 w'.heap.size A n c l:=hr.below hB;have Iu:=fun wS:World=>kU (A:=A) slB wS hr.max hr.cap (lo:=some (.int .i64 (m:Int))) (hi:=none) (mx:=none) m n c (.inr ⟨_,_,rfl,rfl⟩) (.inl ⟨rfl,rfl⟩) (.inl ⟨rfl,rfl⟩) mq Wq Wq (Q2 _) (Q2 _)
 have hq:=Iu w1.drew;refine zt (fun wx=>wx.cell? ⟨rb,0,none⟩=some (.pointer (some ⟨b,0,none⟩))) Wj ?_;refine rg_t 0 ca ?_;simp only[q6,q7,Act.put,q8,q9,kI];refine rg_t 1 ca ?_;simp only[g_S];refine rg_t 2 ca ?_;simp only[g_S];refine rg_t 3 ca ?_;simp only[g_S];refine rg_t 4 ca ?_;simp only[g_S];refine rg_t 5 ca ?_;simp only[g_S];refine rg_t 6 ca ?_;simp only[g_S];refine rg_t 7 ca ?_;simp only[g_S];refine rg_t 8 ca ?_;simp only[g_S];refine rg_t 9 ca ?_;simp only[g_S];refine rg_t 11 ca ?_;simp only[g_S];refine zj 10 rfl Wj rfl (fun K hK=>?_);go_simp;refine hK _ _ ca ?_;clear hK K;refine zj 12 rfl Wj rfl (fun K hK=>?_);go_simp;refine hK _ _ ca ?_;clear hK K;refine rg_t 13 ca ?_;simp only[g_S];refine rg_t 14 ca ?_;simp only[g_S];refine zj 15 rfl Wj rfl (fun K hK=>?_);go_simp;refine hK _ _ ((Vx _ _ _ _ (fun e=>hne e.symm)).trans ca) ?_;clear hK K;refine zz Wj ?_;go_wp2_with(with_reducible refine h_A ?_);go_ret;have cf:∀g,blk A2=some g→w'.heap.size≤g:=fun g hg=>(bW.blk_lt hg).1
 have pd:=(kj w1 ⟨b,0,none⟩ (.slice (cutA A 1 m c) (n-m) (c-m))).trans (ZN _ _);refine⟨A2,c2,by simp[Array.getD,j2 hm],?_,?_,?_⟩
 ·rw[kx,j2 hm];refine bW.kept pd (.inr fun e=>?_);rw[xh]at e;have:w'.heap.size≤b:=cf _ e;omega
 ·refine .inr (.inr ⟨rb,b,cutA A 1 m c,n-m,c-m,rfl,rfl,hne,?_,?_,?_,?_,?_,?_,?_,?_,by omega,hF.1,hF.2.1,fun g hg=>hF.2.2 g (by rwa[jw]at hg)⟩)
  ·exact(Vx _ _ _ _ (fun e=>hne e.symm)).trans ca
  ·exact v9 _ _ _ Gz
  ·exact(VB _ _ _ _ Wz).trans eS
  ·exact(VB _ _ _ _ Wz).trans aB
  ·simpa using D6
  ·simpa using OH
  ·have h3:=kV B1 m n c Wq Wq (Q2 _) (Q2 _)
   have e3:(((l.map u8v).take (n*1)).drop (m*1))=(l.drop m).map u8v:=by
    rw[K0,K0,Vy Hz,k8]
   rw[e3]at h3;have h4:RdB w1 w1.heap.size (cutA A 1 m c) (n-m) (c-m) (l.drop m):=h3.more hB.size;exact(h4.grown_ne pd (Q2 _) (.inr (by rw[jw];exact hA))).more pd.size
  rw[jw];exact hA
 exact(ZM hB (some b)).trans pd
theorem qC(A:Option Addr)(n c:Nat)(l:List UInt8)(w:World)(hb:RdB w w.heap.size A n c l)(hn:n≤140737488351240):
  Calls prog 52 #[.slice A n c] w fun e w'=>∃rb b,e= .returned (.pointer (some ⟨rb,0,none⟩))∧w.heap.size≤rb∧w.heap.size≤b∧Rdr (fun g=>w.heap.size≤g∧g<w'.heap.size) w' (.pointer (some ⟨rb,0,none⟩)) (some b) l false∧Below w.heap.size w w':=by
 go_enter func52,ntmps52;go_wp2_with(with_reducible refine h_A ?_);refine(XB A n c l w hb hn).mono ?_;rintro e w1 ⟨A2,c2,rfl,bW,hB⟩;go_wp2_with(with_reducible refine h_A ?_);go_ret;have Ha:Below w.heap.size w (w1.alloc (.cells #[.slice A2 n c2,.bool true,.bool false] 151)):=hB.alloc hB.size _;refine⟨w1.heap.size+1,w1.heap.size,rfl,by have:=hB.size;omega,hB.size,.inr (.inr ⟨_,_,A2,n,c2,rfl,rfl,by omega,?_,?_,?_,?_,?_,?_,?_,?_,hn,?_,?_,?_⟩),Ha.alloc (by have:=Ha.size;omega) _⟩
 ·simp
 ·simp
 ·simp
 ·simp
 ·simp
 ·simp
 ·exact Own.rd (base:=w.heap.size) (e:=5) ((bW.alloc _).alloc _)
 ·intro e;have:=(bW.blk_lt e).2;omega
 ·have:=hB.size;simp;omega
 ·have:=hB.size;simp;omega
 intro g hg;have h1:=(bW.blk_lt hg).1;have h2:=(bW.blk_lt hg).2;simp;omega
theorem zcr(k x:Nat)(hk:k<72057594037927936)(hx:x<256):bits .or .u64 (IntKind.u64.wrap ((k:Int)*256)) (x:Int)=((256*k+x:Nat):Int):=by
 have h1:IntKind.u64.wrap ((k:Int)*256)=((256*k:Nat):Int):=by rw[IntKind.wrap_u64];omega
 rw[h1,u64_or_nat _ _ Wq Wq];have:=z8 (i:=8) (b:=x) Wq k;rw[←this]
theorem yk(h:Rdr F w v vb l bad)(x:Int)(hx: -9223372036854775808≤x)(nH:x≤9223372036854775807):
  Calls prog 54 #[v,.int .i64 x] w fun e w'=>e= .returned (.int .u64 ((mnum l bad x).1:Nat))∧Rdr F w' v vb (mnum l bad x).2.1 (mnum l bad x).2.2∧w.grownBy w' vb:=by
 have qq76:=();exact Z16_
theorem Vm{x:Nat}(hx:x=1∨x=2∨x=4∨x=8)(h:x≤l.length):mnum l false (x:Int)=(unbe (l.take x),l.drop x,false):=by
 rw[qE (qK Wq),xp h]
theorem xj{i:Nat}(h:i<l.length):zW l i=l[i].toNat:=by simp[zW,k9,z4 h]
theorem qt(l:List UInt8)(i:Nat):zW l i<256:=(l.getD i 0).toNat_lt
theorem Q9(l:List UInt8)(i:Nat)(h:i+2≤l.length):unbe ((l.drop i).take 2)=256*zW l i+zW l (i+1):=by
 rw[z9 Wq,z9 (show i+1<l.length by omega),xj (show i<l.length by omega),xj (show i+1<l.length by omega),vv,vv,List.take_zero];unfold unbe;simp only[List.foldl_cons,List.foldl_nil];omega
theorem ki(l:List UInt8)(i k:Nat)(h:i<k):zW (l.take k) i=zW l i:=by
 simp[zW,k9,yB,h]
theorem Yl(l:List UInt8):frN l=256*zW l 2+zW l 3:=rfl
theorem ve{rest:List UInt8}{l:List Fr}{u:Nat}{fs r:List Fr×Nat×Nat}(h:fs=(l++(zu rest).1,u+(zu rest).2.1,(zu rest).2.2))(hr:zu rest=r):fs=(l++r.1,u+r.2.1,r.2.2):=by rw[h,hr]
theorem Ja(A:Option Addr)(n c:Nat)(b:List UInt8)(w:World)(hr:RdB w w.heap.size A n c b)(hn:n≤1000000000):
  Calls prog 38 #[.slice A n c] w fun e w'=>∃A2 c2,e= .returned (.tuple #[.slice A2 (zu b).1.length c2,.int .i64 (zu b).2.1,.int .i64 (zu b).2.2])∧OwnF w' w.heap.size A2 (zu b).1.length c2 (zu b).1∧Below w.heap.size w w':=by
 have hl:=RdB.length hr;have fq:=hr.cap;obtain⟨fs,C1⟩:∃fs,fs=zu b:=⟨_,rfl⟩
 rw[←C1];go_enter func38,ntmps38;go_wp2_with(with_reducible refine h_A ?_);go_loopw [6,5] (fun s v wr=>∃(u N c2:Nat) (A2:Option Addr) (l:List Fr),u≤n∧s= .int .i64 u∧v= .slice A2 N c2∧l.length=N∧N≤u∧fs=(l++(zu (b.drop u)).1,u+(zu (b.drop u)).2.1,(zu (b.drop u)).2.2)∧OwnF wr w.heap.size A2 N c2 l∧Below w.heap.size w wr) (fun s _ _=>n-(KS s).toNat)
 case atStart=>exact⟨0,0,0,none,[],by omega,rfl,rfl,rfl,by omega,by rw[C1];simp,Own.none_ _ _ _ _,KL _ _⟩
 obtain⟨u,N,c2,A2,l,hu,rfl,rfl,wY,hNu,Cm,ho,bP⟩:=hrel;have N8:=Q1 Cm;have lc:=Q1 wY;clear Cm C1 wY;have hz:=bP.size;go_wp2_with(with_reducible refine h_S ?_);refine zc (kD slB rfl rfl rfl (hr.below bP) u n c (.inr ⟨_,_,rfl,rfl⟩) (.inl ⟨rfl,rfl⟩) (.inl ⟨rfl,rfl⟩) mq Wq Wq (Q2 _) (Q2 _) ?_);intro A3 cj _;simp only[K0]at cj;rw[Vy Hz,←k8]at cj;have ik:(b.drop u).length=n-u:=by simp;omega
 generalize dj:b.drop u=rest at*;have tS:=Q1 dj;clear dj;obtain⟨R,hR⟩:∃R,R=n-u:=⟨_,rfl⟩
 obtain⟨D,hD⟩:∃D,D=c-u:=⟨_,rfl⟩
 rw[←hR,←hD]at cj ⊢;rw[←hR]at ik;have Nr:R≤1000000000:=by omega
 have HRU:=Q1 (show R+u=n by omega);clear hR hD;have G5:Rd w w.heap.size 1 A3 R D (rest.map u8v):=Rd.keep cj (fun p hp=>(bP.cell hp).symm);have pe:=zaJ A3 R D rest w.heap.size wr cj hz Wq
 cases dq:zN rest
 ·have qqd0:=();exact Z2y_
 rw[dq]at pe;by_cases gc:rest.length<12
 ·exact Z2y_
 have DR:¬(R:Int)<12:=by omega
 have SM:=qe dq Wq;have cY:=xU dq (k:=0) Wq Wq Wq;have HW:=Q1 dq;clear dq;have dY:(rest.take 12).length=12:=by simp;omega
 have sI:xe (rest.take 12) false 2=((rest.take 12).take 2,(rest.take 12).drop 2,false):=xp (n:=2) Wq
 have gF:mnum ((rest.take 12).drop 2) false 2=(frN rest,(rest.take 12).drop 4,false):=by
  refine(Vm (x:=2) Wq Hz).trans ?_;rw[Q9 _ 2 Wq,ki _ _ _ Wq,ki _ _ _ Wq,Yl,q4]
 have dZ:xe ((rest.take 12).drop 4) false 2=(((rest.take 12).drop 4).take 2,(rest.take 12).drop 6,false):=(xp (n:=2) Hz).trans (by rw[q4])
 have np:mnum ((rest.take 12).drop 6) false 2=(256*zW rest 6+zW rest 7,(rest.take 12).drop 8,false):=by
  refine(Vm (x:=2) Wq Hz).trans ?_;rw[Q9 _ 6 Wq,ki _ _ _ Wq,ki _ _ _ Wq,q4]
 go_wp2_with(with_reducible refine h_A ?_);refine pe.mono ?_;rintro e w1 ⟨rfl,Ha⟩;have Hc:=bP.trans (Ha.mono hz);have bW:=zh ho Ha;have Lq:=cj.below (Ha.mono hz);have cy:=Hc.size;clear ho bP Ha;go_wp2_with(with_reducible refine h_S ?_);refine zc (kD slB rfl rfl rfl Lq 0 12 D (.inl ⟨rfl,rfl⟩) (.inr ⟨_,_,rfl,rfl⟩) (.inl ⟨rfl,rfl⟩) mq Wq (by have:=Lq.cap;omega) (Q2 _) Wq ?_);intro A4 cQ _;simp only[K0,v3,kv,←ky,z6]at cQ ⊢;go_wp2_with(with_reducible refine h_A ?_);refine(qC A4 12 D (rest.take 12) w1 (cQ.more cy) Wq).mono ?_;rintro e w2 ⟨rb,vb,rfl,cX,ig,Rl,Hh⟩;have Hn:=Hc.trans (Hh.mono cy);have Bv:=zh bW Hh;have ep:w1.heap.size≤w2.heap.size:=Hh.size;have gQ:∀g,blk A2=some g→g<w1.heap.size:=fun g hg=>(bW.blk_lt hg).2
 clear bW Hh;have GN:w1.heap.size≤vb∧vb<w2.heap.size:=Rl.inF rfl
 have gX:∀g,blk A2=some g→some vb≠some g:=by
  intro g hg e;injection e with e
  have:=gQ g hg;omega
 have Ln:∀g,some vb=some g→w.heap.size≤g:=fun g hg=>by injection hg with hg;omega
 have AX:=kk Rl 2 Wq Wq;rw[sI]at AX;go_wp2_with(with_reducible refine h_A ?_);refine AX.mono ?_;rintro e w3 ⟨A5,c5,rfl,_,Np,H6⟩;have bw:=Hn.grown H6 Hn.size Ln;have Bq:=zk Bv H6 gX;have eJ:=yk Np 2 Wq Wq;rw[gF]at eJ;obtain⟨Nn,RC⟩:∃Nn,Nn=frN rest:=⟨_,rfl⟩
 rw[←RC]at eJ SM;have uN:=Q1 RC;clear RC AX sI gF Rl H6 Bv Hn;have W9:IntKind.i64.wrap ((Nn:Nat):Int)=(Nn:Int):=IntWalk.i64_in _ ⟨by omega,by omega⟩;go_wp2_with(with_reducible refine h_A ?_);refine eJ.mono ?_;rintro e w4 ⟨rfl,Iw,Ba⟩;have bG:=bw.grown Ba bw.size Ln;have ct:=zk Bq Ba gX;clear eJ Ba Np Bq bw;by_cases UM:R<Nn
 ·have hdw:(R:Int)<(Nn:Int):=by omega
  have HF:=Q1 (ve N8.out (qg HW.out Wq (by rw[←uN.out];omega)));go_wp2_with(with_reducible refine h_A ?_);go_ret3;rw[HF.out];simp only[List.append_nil,q5];rw[lc.out];exact⟨A2,c2,rfl,ct,bG⟩
 have hdw:¬(R:Int)<(Nn:Int):=by omega
 have HF:=Q1 (ve N8.out (qh HW.out Wq (by rw[←uN.out];omega)));have E6:=kk Iw 2 Wq Wq;rw[dZ]at E6;go_wp2_with(with_reducible refine h_A ?_);refine E6.mono ?_;rintro e w5 ⟨A6,c6,rfl,_,PN,H9⟩;have Bn:=bG.grown H9 bG.size Ln;have bR:=zk ct H9 gX;have eO:=yk (Rdr.drew PN) 2 Wq Wq;rw[np]at eO;clear E6 dZ np Iw H9 ct bG;have oE:RdB w5 w.heap.size A3 R D rest:=Rd.below G5 Bn;obtain⟨xb,xo,rfl,Hg,O5,wG⟩:=RdB.at_k oE (k:=0) Wq;obtain⟨aR,xo1,e1,_,O1,CL⟩:=RdB.at_k oE (k:=1) Wq;obtain⟨xb5,WS,e5,_,OR,OL⟩:=RdB.at_k oE (k:=5) Wq;obtain⟨rfl,rfl⟩:xb=aR∧xo=xo1:=by simpa using e1
 obtain⟨rfl,rfl⟩:xb=xb5∧xo=WS:=by simpa using e5
 clear e1 e5;rw[←xj O5]at wG;rw[←xj O1]at CL;rw[←xj OR]at OL;have hy0:=qt rest 0;have hy6:=qt rest 6;have hy7:=qt rest 7;have hcut:=kV oE 12 Nn D Wq (by have:=oE.cap;omega) (Q2 _) Wq;simp only[K0,←ky,←k8]at hcut;have nt:Hid (frAt rest Nn=⟨zW rest 0 / 8 % 2==1,zW rest 0 / 4 % 2==1,zW rest 0 / 2 % 2==1,zW rest 0 % 2==1,zW rest 1,zW rest 5,256*zW rest 6+zW rest 7,(rest.take Nn).drop 12⟩):=Q1 rfl;have Pq:zW rest 0<16:=by have:xv 0=15:=rfl;omega
 have LP:=zb9 ⟨zW rest 0,Pq⟩;simp only at LP;obtain⟨ha8,rR,db,dC⟩:=LP;obtain⟨ch,gD⟩:∃ch,ch=256*zW rest 6+zW rest 7:=⟨_,rfl⟩
 rw[←gD]at eO nt;have O2:ch<65536:=by omega
 generalize zW rest 0=x0 at*;generalize zW rest 1=x1 at*;generalize zW rest 5=x5 at*;generalize(x0 / 8 % 2==1)=f1 at*;generalize(x0 / 4 % 2==1)=f2 at*;generalize(x0 / 2 % 2==1)=f3 at*;generalize(x0 % 2==1)=f4 at*;clear gD hy6 hy7;have II:IntKind.u16.wrap ((ch:Nat):Int)=(ch:Int):=IntWalk.u16_in _ ⟨by omega,by omega⟩;generalize(rest.take Nn).drop 12=ld at*
 have df:∀w':World,Below w.heap.size w5 w'→(fun wx:World=>wx.cell? ⟨xb,xo,none⟩=some (.int .u8 (x0:Int))∧wx.cell? ⟨xb,xo+1,none⟩=some (.int .u8 (x1:Int))∧wx.cell? ⟨xb,xo+5,none⟩=some (.int .u8 (x5:Int))∧RdB wx w.heap.size (cutA (some ⟨xb,xo,none⟩) 1 12 D) (Nn-12) (D-12) ld) w':=fun w' h=>
  ⟨(h.cell (p:=⟨xb,xo+0,none⟩) Hg).trans wG,(h.cell (p:=⟨xb,xo+1,none⟩) Hg).trans CL,(h.cell (p:=⟨xb,xo+5,none⟩) Hg).trans OL,Rd.below hcut h⟩
 have hS:=df w5.drew (za (KL _ _) 1);simp only at hS df;have fT:=Bn.size;have PJ:0<R:=by omega
 have iM:(1:Int)<(R:Int):=by omega
 have eo:(5:Int)<(R:Int):=by omega
 go_wp2_with(with_reducible refine h_A ?_);refine zt (fun wx:World=>wx.cell? ⟨xb,xo,none⟩=some (.int .u8 (x0:Int))∧wx.cell? ⟨xb,xo+1,none⟩=some (.int .u8 (x1:Int))∧wx.cell? ⟨xb,xo+5,none⟩=some (.int .u8 (x5:Int))∧RdB wx w.heap.size (cutA (some ⟨xb,xo,none⟩) 1 12 D) (Nn-12) (D-12) ld) Wj ?_;refine rg_t 0 hS ?_;simp only[q6,q7,Act.put,q8,q9,kI];refine rg_t 1 hS ?_;simp only[g_S];refine rg_t 2 hS ?_;simp only[g_S];refine rg_t 3 hS ?_;simp only[g_S];refine rg_t 4 hS ?_;simp only[g_S];refine rg_t 5 hS ?_;simp only[g_S];refine rg_t 6 hS ?_;simp only[g_S];refine rg_t 7 hS ?_;simp only[g_S];refine rg_t 8 hS ?_;simp only[g_S];refine rg_t 9 hS ?_;simp only[g_S];refine rg_t 10 hS ?_;simp only[g_S];refine rg_t 11 hS ?_;simp only[g_S];refine rg_t 12 hS ?_;simp only[g_S];refine rg_t 13 hS ?_;simp only[g_S];refine rg_t 14 hS ?_;simp only[g_S];refine rg_t 15 hS ?_;simp only[g_S];refine rg_t 16 hS ?_;simp only[g_S];refine rg_t 17 hS ?_;simp only[g_S];refine rg_t 18 hS ?_;simp only[g_S];refine rg_t 19 hS ?_;simp only[g_S];refine rg_t 20 hS ?_;simp only[g_S];refine rg_t 21 hS ?_;simp only[g_S];refine rg_t 22 hS ?_;simp only[g_S];refine rg_t 23 hS ?_;simp only[g_S];refine rg_t 24 hS ?_;simp only[g_S];refine rg_t 25 hS ?_;simp only[g_S];refine rg_t 26 hS ?_;simp only[g_S];refine rg_t 27 hS ?_;simp only[g_S];refine rg_t 30 hS ?_;simp only[g_S];refine rg_t 31 hS ?_;simp only[g_S];have ca:Bd (some (Value.int .i64 12)) 0 12:=.inr ⟨_,_,rfl,rfl⟩;have dK:Bd (some (Value.int .i64 (Nn:Int))) R Nn:=.inr ⟨_,_,rfl,rfl⟩;refine qF 32 slB rfl Wj Wj Wj hS rfl rfl rfl oE.max oE.cap 12 Nn D ca dK (.inl ⟨rfl,rfl⟩) Mz Wq (by have:=oE.cap;omega) (Q2 _) Wq ?_;simp only[g_S];refine ze 33 (v:=?_) rfl Wj Wj Wj hS rfl ?_ ?_;rotate_left
 ·intro wS He;have hv:=jf (w:=wS) He.2.2.2;go_simp;(with_reducible rfl)
 simp only[g_S];refine zj 28 rfl Wj rfl (fun K hK=>?_);go_simp;refine eO.mono ?_;rintro e w6 ⟨rfl,_,bz⟩;have sA:Below w.heap.size w5 w6:=(za (KL w.heap.size w5) 1).grown bz fT Ln;have Bf:=Bn.trans sA;have bY:=df w6 sA;have dI:OwnF w6 w.heap.size A2 N c2 l:=zk (w:=w5.drew) bR bz gX;have fc:=Bf.size;clear eO bz bR;refine hK _ _ bY ?_;clear hK K;refine rg_t 29 bY ?_;simp only[g_S];refine rg_t 34 bY ?_;simp only[g_S];have po:=df (w6.alloc (.cells #[.bool f1,.bool f2,.bool f3,.bool f4,.int .u8 (x1:Int),.int .u8 (x5:Int),.int .u16 (ch:Int),.string (str ld)] 97)) (sA.alloc fc _);refine zj 35 rfl Wj rfl (fun K hK=>?_);go_simp;refine hK _ _ po ?_;clear hK K;refine zj 36 rfl Wj rfl (fun K hK=>?_);refine jR (W:=w6) yE slF underlying65 rfl rfl rfl rfl ⟨f1,f2,f3,f4,x1,x5,ch,ld⟩ rfl dI Wq Wq fc ?_;intro A8 c8 w8 dP H5 _ RN;have IB:=sA.trans RN;have cE:=df w8 IB;have Bl:=Bn.trans IB;simp only[g_S];refine hK _ _ cE ?_;clear hK K;refine rg_t 37 cE ?_;simp only[g_S];refine zz Wj ?_;have hwu:IntKind.i64.wrap ((u:Int)+(Nn:Int))=((u+Nn:Nat):Int):=by rw[IntWalk.i64_in _ ⟨by omega,by omega⟩];omega
 have hdr:rest.drop Nn=b.drop (u+Nn):=by rw[←tS.out,q4]
 have MV:fs=((l++ [⟨f1,f2,f3,f4,x1,x5,ch,ld⟩])++(zu (b.drop (u+Nn))).1,(u+Nn)+(zu (b.drop (u+Nn))).2.1,(zu (b.drop (u+Nn))).2.2):=by
  rw[HF.out,←uN.out,nt.out,hdr];simp[yA]
 have N0:=Q1 MV;clear hdr MV;go_wp2_with(with_reducible refine h_A ?_);have hRU:=HRU.out;exact⟨⟨u+Nn,N+1,c8,A8,l++ [⟨f1,f2,f3,f4,x1,x5,ch,ld⟩],by omega,by first|rfl|go_num,rfl,by simp[lc.out],by omega,N0.out,dP,Bl⟩,by simp[KS];omega⟩
def YV(l:List Fr):List Fr:=l.filter Fr.ok
def kN(l:List Fr):List UInt8:=(YV l).flatMap Fr.bytes
theorem Fr.bytes_length(f:Fr):f.bytes.length=12+f.load.length:=by simp[Fr.bytes,zr];omega
def Ke(b:List UInt8)(k:Nat):Bool:=decide (zW b k≤xv k)
theorem XV(b:List UInt8):zN b=((j8 (min b.length 12)).all (Ke b)&&(decide (b.length<4)||(decide (12≤frN b)&&decide (frN b≤4096)))):=by
 rw[Bool.eq_iff_iff,Bool.and_eq_true,Bool.or_eq_true,Bool.and_eq_true];unfold zN;simp only[vz,K1,decide_eq_true_eq];have h3:zW b 3≤255:=by have:=qt b 3;omega
 constructor
 ·intro h;refine⟨fun k hk=>?_,?_⟩
  ·have:=h k hk;unfold yF at this;unfold Ke;split at this
   ·next e=>subst e;simpa[xv]using h3
   exact this
  by_cases h4:b.length<4
  ·exact .inl h4
  have:=h 3 Wq;simp[yF]at this;exact .inr this
 rintro⟨h,h4⟩ k hk;unfold yF;split
 ·next e=>
  subst e;rcases h4 with h4|h4
  ·omega
  simp[h4.1,h4.2]
 exact h k hk
theorem zdp(hk:k<min b.length 12)(h:xv k<zW b k):zN b=false:=by
 rw[XV]
 have:(j8 (min b.length 12)).all (Ke b)=false:=by
  rw[List.all_eq_false];exact⟨k,K1.2 hk,by simp[Ke];omega⟩
 rw[this];rfl
theorem zcK(hn:b.length=n)(h:∀j,j<min n 12→zW b j≤xv j):zN b=(decide (n<4)||(decide (12≤frN b)&&decide (frN b≤4096))):=by
 subst hn;rw[XV]
 have:(j8 (min b.length 12)).all (Ke b)=true:=by
  rw[vz];exact fun k hk=>by simpa[Ke]using h k (K1.1 hk)
 rw[this];rfl
theorem zD{v:Nat}(h:k=v):((k:Int)==(v:Int))=true:=by rw[beq_iff_eq];omega
theorem zS{v:Nat}(h:k≠v):((k:Int)==(v:Int))=false:=by rw[beq_eq_false_iff_ne];omega
theorem XW(A:Option Addr)(n c:Nat)(b:List UInt8)(B:Nat)(w:World)(hr:RdB w B A n c b)(hB:B≤w.heap.size)(hn:n≤140737488355328):
  Calls prog 42 #[.slice A n c] w fun e w'=>e= .returned (.bool (zN b))∧Below w.heap.size w w':=by
 have hl:=RdB.length hr;go_enter func42,ntmps42;go_wp2_with(with_reducible refine h_A ?_);go_loopw [3] (fun s wr=>∃(k:Nat),k≤min n 12∧s= .int .i64 k∧(∀j,j<k→zW b j≤xv j)∧wr=w) (fun s _=>12-(KS s).toNat)
 case atStart=>exact⟨0,by omega,rfl,by omega,rfl⟩
 obtain⟨k,hk,rfl,mw,rfl⟩:=hrel;by_cases hlt:k<min n 12
 ·have fA:(k:Int)<(n:Int):=by omega
  have o6:(k:Int)<12:=by omega
  obtain⟨bk,off,rfl,_,bI,hc⟩:=RdB.at_k hr (show k<n by omega);rw[←xj bI]at hc
  have HY:=Q1 (show zW b k≤xv k→∀j,j<k+1→zW b j≤xv j from fun h j hj=>by
   rcases Nat.lt_or_ge j k with h1|h1
   ·exact mw j h1
   ·obtain rfl:j=k:=by omega
    exact h)
  have cJ:=Q1 (show xv k<zW b k→zN b=false from fun h=>zdp Wq h);generalize zW b k=x at*;clear mw;have hM:∀v,k=v→xv k=xv v:=fun v h=>by rw[h]
  have Eo:k=0∨k=1∨k=2∨k=3∨k=4∨k=5∨k=6∨k=7∨8≤k:=by omega
  rcases Eo with dA|dA|dA|dA|dA|dA|dA|dA|dA
  ·have qq8c:=();exact Z1l_
  ·have qq8e:=();exact Z1l_
  ·have qq8f:=();exact Z1l_
  ·have qq8g:=();exact Z1l_
  ·have qq8b:=();exact Z1l_
  ·have qq8d:=();exact Z1l_
  ·have qq8h:=();exact Z1l_
  ·have qq8i:=();exact Z1l_
  exact Z1l_
 have pz:k=min n 12:=by omega
 have BL:=zcK hl (fun j hj=>mw j Wq);have Gg:=Q1 BL;clear BL mw;by_cases h4:n<4
 ·have fA:¬(k:Int)<(n:Int):=by omega
  have hd4:(n:Int)<4:=by omega
  have Bu:zN b=true:=by rw[Gg.out];simp[h4]
  clear pz h4;go_wp2_with(with_reducible refine h_A ?_);go_ret;exact⟨rfl,KL _ _⟩
 have hd4:¬(n:Int)<4:=by omega
 obtain⟨bk,off,rfl,_,RW,dK⟩:=RdB.at_k hr (show 2<n by omega);obtain⟨bk',off',e3,_,Pv,i4⟩:=RdB.at_k hr (show 3<n by omega);obtain⟨rfl,rfl⟩:bk=bk'∧off=off':=by simpa using e3
 clear e3;rw[←xj RW]at dK;rw[←xj Pv]at i4;have od:=qt b 2;have GL:=qt b 3;have HN:=Q1 (Yl b);have eO:(2:Int)<(n:Int):=by omega
 have oL:(3:Int)<(n:Int):=by omega
 generalize zW b 2=x2 at*;generalize zW b 3=x3 at*;obtain⟨N,hN⟩:∃N,N=frN b:=⟨_,rfl⟩
 have ft:IntKind.i64.wrap (256*((x2:Nat):Int))=((256*x2:Nat):Int):=by rw[IntWalk.i64_in _ ⟨by omega,by omega⟩];omega
 have nY:IntKind.i64.wrap ((x2:Nat):Int)=(x2:Int):=IntWalk.i64_in _ ⟨by omega,by omega⟩;have hw3:IntKind.i64.wrap ((x3:Nat):Int)=(x3:Int):=IntWalk.i64_in _ ⟨by omega,by omega⟩;have nU:IntKind.i64.wrap (((256*x2:Nat):Int)+(x3:Int))=((N:Nat):Int):=by rw[IntWalk.i64_in _ ⟨by omega,by omega⟩,hN,HN.out];omega
 have Bu:zN b=(decide (12≤N)&&decide (N≤4096)):=by rw[Gg.out,←hN];simp[h4]
 have sm:=Q1 Bu;clear Bu hN HN Gg h4;generalize(256*x2:Nat)=m at*;by_cases f8:k<n
 ·exact Z1u_
 have qq99:=();exact Z1u_
theorem zdo(x y:Nat)(hx:x<256)(hy:y<256):bits .or .u16 ((256*x:Nat):Int) (y:Int)=((256*x+y:Nat):Int):=by
 have e1:∀k:Nat,k<65536→(BitVec.ofInt 16 ((k:Nat):Int)).toNat=k:=fun k hk=>by rw[BitVec.toNat_ofInt];omega
 show IntKind.u16.wrap ((BitVec.ofInt 16 ((256*x:Nat):Int)|||BitVec.ofInt 16 (y:Int)).toNat:Int)=_
 have h2:=z8 (i:=8) (b:=y) Wq x;rw[BitVec.toNat_or,e1 _ Wq,e1 _ Wq,show 256*x=2 ^ 8*x by omega,←h2];exact IntWalk.u16_in _ ⟨by omega,by omega⟩
def Kd(b:List UInt8):Fr×Nat:=
 if b.length<12∨zN b=false∨b.length<frN b then(⟨false,false,false,false,0,0,0,[]⟩,0)else(frAt b (frN b),frN b)
theorem Ze(h:b.length<12∨zN b=false∨b.length<frN b):Kd b=(⟨false,false,false,false,0,0,0,[]⟩,0):=if_pos h
theorem ZX(h1:12≤b.length)(h2:zN b=true)(h3:frN b≤b.length):Kd b=(frAt b (frN b),frN b):=if_neg (by rw[h2];simp;omega)
def zf:Array Value:=#[.bool false,.bool false,.bool false,.bool false,.int .u8 0,.int .u8 0,.int .u16 0,.string ⟨#[]⟩]
theorem YX:zf= #[.bool false,.bool false,.bool false,.bool false,.int .u8 0,.int .u8 0,.int .u16 0,.string ⟨#[]⟩]:=rfl
theorem zbF(A:Option Addr)(n c:Nat)(b:List UInt8)(B:Nat)(w:World)(hr:RdB w B A n c b)(hB:B≤w.heap.size)(hn:n≤1000000000):
  Calls prog 40 #[.slice A n c] w fun e w'=>e= .returned (.tuple #[.agg (frV (Kd b).1),.int .i64 (Kd b).2])∧Below w.heap.size w w':=by
 have hl:=RdB.length hr;have fq:=hr.cap;obtain⟨w0,nY⟩:∃w0,w0=w.alloc (.cells zf 97):=⟨_,rfl⟩
 have Hy:Below w.heap.size w w0:=by rw[nY];exact(KL _ _).alloc (Q2 _) _
 have rW:=hr.below (Hy.mono hB);have Aj:Box w0 w.heap.size 97 zf:=by rw[nY];exact Box.new _ _ _
 have tm:=Hy.size;by_cases gc:n<12
 ·have DR:(n:Int)<12:=by omega
  rw[Ze (.inl Wq)];clear hl gc;go_enter func40,ntmps40;go_wp2_with(with_reducible refine h_B ?_);rw[←YX,←nY];refine zc (zn (v:=.agg zf) (vs:=zf.toList) rfl rfl rfl rfl Aj rfl Wj WJ WJ zf rfl ?_);intro w1 bK bN _;go_wp2_with(with_reducible refine h_A ?_)
  (try simp only[Exit.inBlock,Exit.then])
  refine zG rfl bK rfl rfl underlying97 rfl Wj rfl ?_;exact⟨rfl,Hy.grown bN tm Wx⟩
 have DR:¬(n:Int)<12:=by omega
 have pe:=XW A n c b B w0 rW Wq Wq
 cases dq:zN b
 ·rw[Ze (.inr (.inl dq))];rw[dq,nY,YX]at pe;clear dq hl gc;go_enter func40,ntmps40;go_wp2_with(with_reducible refine h_B ?_);rw[←YX];refine pe.mono ?_;rintro e w1 ⟨rfl,Ha⟩;rw[←YX,←nY]at Ha;have bK:=Aj.below Ha;have Hc:=Hy.trans (Ha.mono tm);go_wp2_with(with_reducible refine h_B ?_);refine zc (zn (v:=.agg zf) (vs:=zf.toList) rfl rfl rfl rfl bK rfl Wj WJ WJ zf rfl ?_);intro w2 bF Hm _;go_wp2_with(with_reducible refine h_A ?_)
  (try simp only[Exit.inBlock,Exit.then])
  refine zG rfl bF rfl rfl underlying97 rfl Wj rfl ?_;exact⟨rfl,Hc.grown Hm Hc.size Wx⟩
 have SM:=qe dq Wq;have aV:=xU dq (k:=0) Wq Wq Wq;have od:=qt b 2;have GL:=qt b 3;have Pd:=qt b 6;have Th:=qt b 7;have eO:(2:Int)<(n:Int):=by omega
 have oL:(3:Int)<(n:Int):=by omega
 obtain⟨N,hN⟩:∃N,N=frN b:=⟨_,rfl⟩
 have NV:=Yl b;have HW:=Q1 dq;rw[dq,nY,YX]at pe;clear dq;obtain⟨bk,off,rfl,aP,RW,dK⟩:=RdB.at_k rW (show 2<n by omega);obtain⟨bk',off',e3,_,Pv,i4⟩:=RdB.at_k rW (show 3<n by omega);obtain⟨rfl,rfl⟩:bk=bk'∧off=off':=by simpa using e3
 clear e3;rw[←xj RW]at dK;rw[←xj Pv]at i4;have ft:IntKind.i64.wrap (256*((zW b 2:Nat):Int))=((256*zW b 2:Nat):Int):=by rw[IntWalk.i64_in _ ⟨by omega,by omega⟩];omega
 have aW:IntKind.i64.wrap ((zW b 2:Nat):Int)=(zW b 2:Int):=IntWalk.i64_in _ ⟨by omega,by omega⟩;have hw3:IntKind.i64.wrap ((zW b 3:Nat):Int)=(zW b 3:Int):=IntWalk.i64_in _ ⟨by omega,by omega⟩;have nU:IntKind.i64.wrap (((256*zW b 2:Nat):Int)+(zW b 3:Int))=((N:Nat):Int):=by rw[IntWalk.i64_in _ ⟨by omega,by omega⟩,hN,NV];omega
 rw[←hN]at SM;have HN:=Q1 hN;clear hN NV;generalize zW b 2=x2 at*;generalize zW b 3=x3 at*;generalize(256*x2:Nat)=m at*;go_enter func40,ntmps40;go_wp2_with(with_reducible refine h_B ?_);rw[←YX];refine pe.mono ?_;rintro e w1 ⟨rfl,Ha⟩;rw[←YX,←nY]at Ha;have bK:=Aj.below Ha;have Hc:=Hy.trans (Ha.mono tm);have Re:=zo dK Ha;have SX:=zo i4 Ha;clear pe nY dK i4;go_wp2_with(with_reducible refine h_B ?_);go_quiet(fail);by_cases bQ:n<N
 ·have tn:(n:Int)<(N:Int):=by omega
  have HF:=Q1 (Ze (b:=b) (.inr (.inr MX)));clear bQ hl;go_wp2_with(with_reducible refine h_B ?_);refine zc (zn (v:=.agg zf) (vs:=zf.toList) rfl rfl rfl rfl (show Box (w1.drewN _) _ _ _ from bK) rfl Wj WJ WJ zf rfl ?_);intro w2 bF Hm _;go_wp2_with(with_reducible refine h_A ?_)
  (try simp only[Exit.inBlock,Exit.then])
  refine zG rfl bF rfl rfl underlying97 rfl Wj rfl ?_;rw[HF.out];exact⟨rfl,(za Hc _).grown Hm Hc.size Wx⟩
 have tn:¬(n:Int)<(N:Int):=by omega
 have HF:=Q1 (ZX (b:=b) Wq HW.out MX);have i8:=za Hc nq;have hzn:=i8.size;have DS:Box (w1.drewN nq) w.heap.size 97 zf:=bK;have lU:RdB (w1.drewN nq) B (some ⟨bk,off,none⟩) n c b:=hr.below (i8.mono hB);generalize w1.drewN nq=wn at*;clear Ha Hc bK Re SX Hy Aj rW;obtain⟨bk0,WU,e0,_,Wk,gV⟩:=RdB.at_k lU (show 0<n by omega);obtain⟨bk1,Ax,e1,_,W0,ca⟩:=RdB.at_k lU (show 1<n by omega);obtain⟨bk5,We,e5,_,au,rD⟩:=RdB.at_k lU (show 5<n by omega);obtain⟨bk6,hew,e6,_,h6l,sT⟩:=RdB.at_k lU (show 6<n by omega);obtain⟨bk7,hef,e7,_,h7l,u9⟩:=RdB.at_k lU (show 7<n by omega)
 cases e0;cases e1;cases e5;cases e6;cases e7;rw[←xj Wk]at gV;rw[←xj W0]at ca;rw[←xj au]at rD;rw[←xj h6l]at sT;rw[←xj h7l]at u9;rw[q5]at gV;have hcut:=kV lU 12 N c Wq Wq (Q2 _) Wq;simp only[K0,←ky,←k8]at hcut;have nt:Hid (frAt b N=⟨zW b 0 / 8 % 2==1,zW b 0 / 4 % 2==1,zW b 0 / 2 % 2==1,zW b 0 % 2==1,zW b 1,zW b 5,256*zW b 6+zW b 7,(b.take N).drop 12⟩):=Q1 rfl;have oh:(0:Int)<(n:Int):=by omega
 have eJ:(1:Int)<(n:Int):=by omega
 have nk:(5:Int)<(n:Int):=by omega
 have rO:(6:Int)<(n:Int):=by omega
 have Og:(7:Int)<(n:Int):=by omega
 have Ac:0<n:=by omega
 obtain⟨ch,gD⟩:∃ch,ch=256*zW b 6+zW b 7:=⟨_,rfl⟩
 rw[←gD]at nt;have O2:ch<65536:=by omega
 have CL:=qt b 1;generalize zW b 0=x0 at*;generalize zW b 1=x1 at*;generalize zW b 5=x5 at*;generalize zW b 6=x6 at*;generalize zW b 7=x7 at*;generalize(b.take N).drop 12=ld at*;have hw6:IntKind.u16.wrap ((x6:Nat):Int)=(x6:Int):=IntWalk.u16_in _ ⟨by omega,by omega⟩;have OC:IntKind.u16.wrap ((x7:Nat):Int)=(x7:Int):=IntWalk.u16_in _ ⟨by omega,by omega⟩;go_wp2_with(with_reducible refine h_B ?_);have lf:bk<w.heap.size:=by omega
 have NE:IntKind.u16.wrap (((x6:Nat):Int)*256)=((256*x6:Nat):Int):=by rw[IntWalk.u16_in _ ⟨by omega,by omega⟩];omega
 have fY:bits .or .u16 ((256*x6:Nat):Int) (x7:Int)=(ch:Int):=by rw[zdo x6 x7 Pd Th,gD]
 clear gD;generalize(256*x6:Nat)=m6 at*
 have df:∀w':World,Below w.heap.size wn w'→(fun wx:World=>wx.cell? ⟨bk,off,none⟩=some (.int .u8 (x0:Int))∧wx.cell? ⟨bk,off+1,none⟩=some (.int .u8 (x1:Int))∧wx.cell? ⟨bk,off+5,none⟩=some (.int .u8 (x5:Int))∧wx.cell? ⟨bk,off+6,none⟩=some (.int .u8 (x6:Int))∧wx.cell? ⟨bk,off+7,none⟩=some (.int .u8 (x7:Int))∧RdB wx B (cutA (some ⟨bk,off,none⟩) 1 12 c) (N-12) (c-12) ld) w':=fun w' h=>
  ⟨(h.cell (p:=⟨bk,off,none⟩) lf).trans gV,(h.cell (p:=⟨bk,off+1,none⟩) lf).trans ca,(h.cell (p:=⟨bk,off+5,none⟩) lf).trans rD,(h.cell (p:=⟨bk,off+6,none⟩) lf).trans sT,(h.cell (p:=⟨bk,off+7,none⟩) lf).trans u9,Rd.below hcut (h.mono hB)⟩
 have hS:=df wn.drew (za (KL _ _) 1);simp only at hS df;refine zt (fun wx:World=>wx.cell? ⟨bk,off,none⟩=some (.int .u8 (x0:Int))∧wx.cell? ⟨bk,off+1,none⟩=some (.int .u8 (x1:Int))∧wx.cell? ⟨bk,off+5,none⟩=some (.int .u8 (x5:Int))∧wx.cell? ⟨bk,off+6,none⟩=some (.int .u8 (x6:Int))∧wx.cell? ⟨bk,off+7,none⟩=some (.int .u8 (x7:Int))∧RdB wx B (cutA (some ⟨bk,off,none⟩) 1 12 c) (N-12) (c-12) ld) Wj ?_;refine rg_t 0 hS ?_;simp only[q6,q7,Act.put,q8,q9,kI];refine rg_t 1 hS ?_;simp only[g_S];refine rg_t 2 hS ?_;simp only[g_S];refine rg_t 3 hS ?_;simp only[g_S];refine rg_t 4 hS ?_;simp only[g_S];refine rg_t 5 hS ?_;simp only[g_S];refine rg_t 6 hS ?_;simp only[g_S];refine rg_t 7 hS ?_;simp only[g_S];refine rg_t 8 hS ?_;simp only[g_S];refine rg_t 9 hS ?_;simp only[g_S];refine rg_t 10 hS ?_;simp only[g_S];refine rg_t 11 hS ?_;simp only[g_S];refine rg_t 12 hS ?_;simp only[g_S];refine rg_t 13 hS ?_;simp only[g_S];refine rg_t 14 hS ?_;simp only[g_S];refine rg_t 15 hS ?_;simp only[g_S];refine rg_t 16 hS ?_;simp only[g_S];refine rg_t 17 hS ?_;simp only[g_S];have fA:Bd (some (Value.int .i64 12)) 0 12:=.inr ⟨_,_,rfl,rfl⟩;have o6:Bd (some (Value.int .i64 (N:Int))) n N:=.inr ⟨_,_,rfl,rfl⟩;refine qF 18 slB rfl Wj Wj Wj hS rfl rfl rfl lU.max lU.cap 12 N c fA o6 (.inl ⟨rfl,rfl⟩) Mz Wq Wq (Q2 _) Wq ?_;simp only[g_S];refine ze 19 (v:=?_) rfl Wj Wj Wj hS rfl ?_ ?_;rotate_left
 ·intro wS He;have hv:=jf (w:=wS) He.2.2.2.2.2;go_simp;(with_reducible rfl)
 simp only[g_S];refine rg_t 20 hS ?_;simp only[g_S];refine zj 21 rfl Wj rfl (fun K hK=>?_);go_simp;have Hh:Below w.heap.size wn (wn.alloc (.cells zf 97)).drew:=za ((KL w.heap.size wn).alloc hzn _) 1;have bX:Box (wn.alloc (.cells zf 97)).drew wn.heap.size 97 zf:=Box.new wn _ _;have Hv:Box (wn.alloc (.cells zf 97)).drew w.heap.size 97 zf:=Box.alloc (w:=wn) DS _;have dN:=df _ Hh;rw[YX]at dN;refine hK _ _ dN ?_;clear hK K;rw[←YX]at dN ⊢;have hdi:w.heap.size<wn.heap.size:=DS.lt;generalize(wn.alloc (.cells zf 97)).drew=w3 at*;refine zj 22 rfl Wj rfl (fun K hK=>?_);refine zK (v:=.agg #[.bool false,.bool false,.bool false,.bool false,.int .u8 x1,.int .u8 x5,.int .u16 ch,.string (str ld)]) (vs:=[.bool false,.bool false,.bool false,.bool false,.int .u8 x1,.int .u8 x5,.int .u16 ch,.string (str ld)]) rfl rfl rfl bX rfl Wj (by simp[zf]) (by simp;exact⟨rfl,rfl,rfl,rfl,rfl⟩) #[.bool false,.bool false,.bool false,.bool false,.int .u8 x1,.int .u8 x5,.int .u16 ch,.string (str ld)] rfl ?_;intro w4 dJ Ba _;have Hn:=Hh.grown Ba (by have:=Hh.size;omega) Wx;have Mp:=Hv.grown Ba uq;simp only[g_S];refine hK _ _ (df _ Hn) ?_;clear hK K bX Hv Hh dN Ba;refine zz Wj ?_;have P3:=(df _ Hn).1;go_wp2_with(with_reducible refine h_B ?_);refine zc (zn (v:=.bool ((x0:Int) / 8 % 2==1)) (vs:=[.bool ((x0:Int) / 8 % 2==1)]) rfl rfl rfl rfl dJ rfl Wj Wz wX #[.bool ((x0:Int) / 8 % 2==1),.bool false,.bool false,.bool false,.int .u8 x1,.int .u8 x5,.int .u16 ch,.string (str ld)] rfl ?_);intro w5 cT H9 Gk;have bw:=Hn.grown H9 (by have:=Hn.size;omega) Wx;have LM:=Mp.grown H9 uq;clear H9 Gk dJ Mp P3;have Rz:=(df _ bw).1;go_wp2_with(with_reducible refine h_B ?_);refine zc (zn (v:=.bool ((x0:Int) / 4 % 2==1)) (vs:=[.bool ((x0:Int) / 4 % 2==1)]) rfl rfl rfl rfl cT rfl Wj Wz wX #[.bool ((x0:Int) / 8 % 2==1),.bool ((x0:Int) / 4 % 2==1),.bool false,.bool false,.int .u8 x1,.int .u8 x5,.int .u16 ch,.string (str ld)] rfl ?_);intro w6 di bz Cn;have bG:=bw.grown bz (by have:=bw.size;omega) Wx;have Md:=LM.grown bz uq;clear bz Cn cT LM Rz;have RQ:=(df _ bG).1;go_wp2_with(with_reducible refine h_B ?_);refine zc (zn (v:=.bool ((x0:Int) / 2 % 2==1)) (vs:=[.bool ((x0:Int) / 2 % 2==1)]) rfl rfl rfl rfl di rfl Wj Wz wX #[.bool ((x0:Int) / 8 % 2==1),.bool ((x0:Int) / 4 % 2==1),.bool ((x0:Int) / 2 % 2==1),.bool false,.int .u8 x1,.int .u8 x5,.int .u16 ch,.string (str ld)] rfl ?_);intro w7 iR H7 u7;have Bn:=bG.grown H7 (by have:=bG.size;omega) Wx;have Ic:=Md.grown H7 uq;clear H7 u7 di Md RQ;have PS:=(df _ Bn).1;go_wp2_with(with_reducible refine h_B ?_);refine zc (zn (v:=.bool ((x0:Int) % 2==1)) (vs:=[.bool ((x0:Int) % 2==1)]) rfl rfl rfl rfl iR rfl Wj Wz wX #[.bool ((x0:Int) / 8 % 2==1),.bool ((x0:Int) / 4 % 2==1),.bool ((x0:Int) / 2 % 2==1),.bool ((x0:Int) % 2==1),.int .u8 x1,.int .u8 x5,.int .u16 ch,.string (str ld)] rfl ?_);intro w8 tg H5 GC;have Bf:=Bn.grown H5 (by have:=Bn.size;omega) Wx;have PE:=Ic.grown H5 uq;clear H5 GC iR Ic PS;obtain⟨k0,k1,k2,k3,k4,k5,k6,k7⟩:w8.cell? ⟨wn.heap.size,0,none⟩=some (.bool ((x0:Int) / 8 % 2==1))∧w8.cell? ⟨wn.heap.size,1,none⟩=some (.bool ((x0:Int) / 4 % 2==1))∧w8.cell? ⟨wn.heap.size,2,none⟩=some (.bool ((x0:Int) / 2 % 2==1))∧w8.cell? ⟨wn.heap.size,3,none⟩=some (.bool ((x0:Int) % 2==1))∧w8.cell? ⟨wn.heap.size,4,none⟩=some (.int .u8 (x1:Int))∧w8.cell? ⟨wn.heap.size,5,none⟩=some (.int .u8 (x5:Int))∧w8.cell? ⟨wn.heap.size,6,none⟩=some (.int .u16 (ch:Int))∧w8.cell? ⟨wn.heap.size,7,none⟩=some (.string (str ld)):=⟨tg.cell rfl,tg.cell rfl,tg.cell rfl,tg.cell rfl,tg.cell rfl,tg.cell rfl,tg.cell rfl,tg.cell rfl⟩;go_wp2_with(with_reducible refine h_B ?_);refine zc (zn (v:=.agg #[.bool ((x0:Int) / 8 % 2==1),.bool ((x0:Int) / 4 % 2==1),.bool ((x0:Int) / 2 % 2==1),.bool ((x0:Int) % 2==1),.int .u8 x1,.int .u8 x5,.int .u16 ch,.string (str ld)]) (vs:=(#[.bool ((x0:Int) / 8 % 2==1),.bool ((x0:Int) / 4 % 2==1),.bool ((x0:Int) / 2 % 2==1),.bool ((x0:Int) % 2==1),.int .u8 x1,.int .u8 x5,.int .u16 ch,.string (str ld)]:Array Value).toList) rfl rfl rfl rfl PE rfl Wj (by simp[zf]) (by simp;exact⟨rfl,rfl,rfl,rfl,rfl,rfl,rfl,rfl⟩) #[.bool ((x0:Int) / 8 % 2==1),.bool ((x0:Int) / 4 % 2==1),.bool ((x0:Int) / 2 % 2==1),.bool ((x0:Int) % 2==1),.int .u8 x1,.int .u8 x5,.int .u16 ch,.string (str ld)] (by simp[zf]) ?_);intro w9 gg du GD;have Bl:=Bf.grown du (by have:=Bf.size;omega) Wx;have ie:=i8.trans Bl;go_wp2_with(with_reducible refine h_A ?_)
 (try simp only[Exit.inBlock,Exit.then])
 refine zG rfl gg rfl rfl underlying97 rfl Wj rfl ?_;rw[HF.out,←HN.out,nt.out];have e8:((x0:Int) / 8 % 2==1)=(x0 / 8 % 2==1):=by rw[Bool.eq_iff_iff];simp;omega
 have e4:((x0:Int) / 4 % 2==1)=(x0 / 4 % 2==1):=by rw[Bool.eq_iff_iff];simp;omega
 have e2:((x0:Int) / 2 % 2==1)=(x0 / 2 % 2==1):=by rw[Bool.eq_iff_iff];simp;omega
 have e1:((x0:Int) % 2==1)=(x0 % 2==1):=by rw[Bool.eq_iff_iff];simp;omega
 rw[e8,e4,e2,e1];exact⟨rfl,ie⟩
end Go.PH
section
namespace Go.PH
theorem vn(b:List UInt8):(zu b).1.length*12≤(zu b).2.1∧(zu b).2.1≤b.length:=by
 induction hn:b.length using zB generalizing b with
 | ind n ih=>
  subst hn;by_cases hw:zN b=false
  ·rw[qz hw];simp
  have ft:zN b=true:=by simpa using hw
  by_cases gc:b.length<12
  ·rw[xd ft gc];simp
  by_cases hl:b.length<frN b
  ·rw[qg ft Wq hl];simp
  have hN:=(qe ft Wq).1;rw[qh ft Wq Wq];have:=ih _ mX (b.drop (frN b)) rfl;rw[List.length_drop]at this;simp only[K2];omega
end Go.PH
end
section
namespace Go.PH
theorem V0:∀x:Fin 16,bitv (x.val / 8 % 2==1) 8+bitv (x.val / 4 % 2==1) 4+bitv (x.val / 2 % 2==1) 2+bitv (x.val % 2==1) 1=x.val:=by decide
theorem jK{x:UInt8}{n:Nat}(h:n % 256=x.toNat):UInt8.ofNat n=x:=by
 apply UInt8.toNat_inj.1;rw[UInt8.toNat_ofNat'];exact h
theorem ZU{x:UInt8}(h:x.toNat≤0):x=0:=UInt8.toNat_inj.1 NQ
theorem be2(n:Nat):be 2 n=[UInt8.ofNat (n / 256),UInt8.ofNat n]:=by simp[be]
theorem J5{b:List UInt8}(hw:zN b=true)(hl:12≤b.length)(hN:frN b≤b.length):(frAt b (frN b)).bytes=b.take (frN b)∧(frAt b (frN b)).ok=true:=by
 have h0:=xU hw (k:=0) Wq Wq Wq;have h1:=xU hw (k:=1) Wq Wq Wq;have h4:=xU hw (k:=4) Wq Wq Wq;have h5:=xU hw (k:=5) Wq Wq Wq;have h8:=xU hw (k:=8) Wq Wq Wq;have h9:=xU hw (k:=9) Wq Wq Wq;have dX:=xU hw (k:=10) Wq Wq Wq;have eS:=xU hw (k:=11) Wq Wq Wq;obtain⟨eJ,eO⟩:=qe hw Wq;clear hw;have NV:=Yl b;generalize frN b=N at*
 match b,hl with
 | x0::x1::x2::x3::x4::x5::x6::x7::x8::x9::x10::x11::r,_=>
  simp only[zW,zA,z2,xv]at h0 h1 h4 h5 h8 h9 dX eS NV;have od:=x2.toNat_lt;have GL:=x3.toNat_lt;have Pd:=x6.toNat_lt;have Th:=x7.toNat_lt;have OL:=x5.toNat_lt;have CL:=x1.toNat_lt;obtain rfl:=ZU h4;obtain rfl:=ZU h8;obtain rfl:=ZU h9;obtain rfl:=ZU dX;obtain rfl:=ZU eS;obtain⟨M,rfl⟩:∃M,N=M+12:=⟨N-12,by omega⟩
  simp only[K2]at hN;have ik:(r.take M).length=M:=by rw[kx];omega
  have dl:=V0 ⟨x0.toNat,by omega⟩;simp only at dl;constructor
  ·simp only[frAt,Fr.bytes,Fr.flags,zW,zA,z2,vv,y3,kv,be2,dl,ik];rw[jK (x:=x0) Wq,jK (x:=x1) Wq,jK (x:=x2) (n:=(12+M) / 256) Wq,jK (x:=x3) (n:=12+M) Wq,jK (x:=x5) Wq,jK (x:=x6) Wq,jK (x:=x7) Wq];rfl
  simp only[frAt,Fr.ok,zW,zA,z2,vv,y3,kv,ik];simp;omega
theorem J6(b:List UInt8):YV (zu b).1=(zu b).1∧kN (zu b).1=b.take (zu b).2.1:=by
 induction hn:b.length using zB generalizing b with
 | ind n ih=>
  subst hn;by_cases hw:zN b=false
  ·rw[qz hw];simp[YV,kN]
  have ft:zN b=true:=by simpa using hw
  by_cases gc:b.length<12
  ·rw[xd ft gc];simp[YV,kN]
  by_cases hl:b.length<frN b
  ·rw[qg ft Wq hl];simp[YV,kN]
  have hN:=(qe ft Wq).1;obtain⟨hb,bJ⟩:=J5 ft Wq Wq;rw[qh ft Wq Wq];obtain⟨i1,i2⟩:=ih _ mX (b.drop (frN b)) rfl;have e1:YV (frAt b (frN b)::(zu (b.drop (frN b))).1)=frAt b (frN b)::YV (zu (b.drop (frN b))).1:=by simp[YV,bJ]
  refine⟨by rw[e1,i1],?_⟩;have e2:kN (frAt b (frN b)::(zu (b.drop (frN b))).1)=(frAt b (frN b)).bytes++kN (zu (b.drop (frN b))).1:=by unfold kN;rw[e1];simp
  rw[e2,i2,hb,←List.take_add]
theorem Yu{b:List UInt8}{j k:Nat}(h:j<k):yF (b.take k) j=yF b j:=by
 have e:∀i,i<k→(b.take k).getD i 0=b.getD i 0:=fun i hi=>by simp[k9,yB,hi]
 unfold yF;split
 ·next e3=>subst e3;unfold frN;rw[e 2 Wq,e 3 Wq]
 rw[e j h]
theorem ZV{b:List UInt8}(h:zN b=true)(k:Nat):zN (b.take k)=true:=by
 unfold zN at h ⊢;rw[vz]at h ⊢;intro j hj;have hj:=K1.1 hj;rw[kx]at hj;rw[Yu Wq];exact h j (K1.2 Wq)
theorem J7{a:List UInt8}(p:List UInt8)(h:12≤a.length):zN (a++p)=zN a:=by
 cases hw:zN a
 ·cases nU:zN (a++p)
  ·rfl
  have:=ZV nU a.length;rw[z3 rfl,hw]at this
  cases this
 unfold zN at hw ⊢;rw[vz]at hw ⊢;intro j hj;have hj:=K1.1 hj;rw[←Yu (k:=a.length) Wq,z3 rfl];exact hw j (K1.2 Wq)
theorem J8{a:List UInt8}(p:List UInt8)(h:zN a=false):zN (a++p)=false:=by
 cases nU:zN (a++p)
 ·rfl
 have:=ZV nU a.length;rw[z3 rfl,h]at this
 cases this
theorem ja{a:List UInt8}(p:List UInt8){i:Nat}(h:i<a.length):zW (a++p) i=zW a i:=by
 simp[zW,k9,List.getElem?_append_left h]
theorem QD{a:List UInt8}(p:List UInt8)(h:4≤a.length):frN (a++p)=frN a:=by
 rw[Yl,Yl,ja p Wq,ja p Wq]
theorem zbx{a:List UInt8}(p:List UInt8){n:Nat}(h:12≤a.length)(hn:n≤a.length):frAt (a++p) n=frAt a n:=by
 unfold frAt;rw[ja p Wq,ja p Wq,ja p Wq,ja p Wq,ja p Wq,List.take_append_of_le_length hn]
theorem J9(a p:List UInt8):((zu a).2.2=0→zu (a++p)=((zu a).1++(zu (a.drop (zu a).2.1++p)).1,(zu a).2.1+(zu (a.drop (zu a).2.1++p)).2.1,(zu (a.drop (zu a).2.1++p)).2.2))∧
  ((zu a).2.2≠0→zu (a++p)=zu a):=by
 induction hn:a.length using zB generalizing a with
 | ind n ih=>
  subst hn;by_cases hw:zN a=false
  ·rw[qz hw,qz (J8 p hw)];exact⟨fun h=>by simp at h,fun _=>rfl⟩
  have ft:zN a=true:=by simpa using hw
  by_cases gc:a.length<12
  ·rw[xd ft gc];exact⟨fun _=>by simp,fun h=>absurd rfl h⟩
  by_cases hl:a.length<frN a
  ·rw[qg ft Wq hl];exact⟨fun _=>by simp,fun h=>absurd rfl h⟩
  have hN:=(qe ft Wq).1;rw[qh ft Wq Wq];have nU:zN (a++p)=true:=by rw[J7 p Wq];exact ft
  have Mk:=QD (a:=a) p Wq;rw[qh nU Hz (by rw[Mk];simp;omega),Mk,zbx p Wq Wq,List.drop_append_of_le_length Wq];obtain⟨i1,i2⟩:=ih _ mX (a.drop (frN a)) rfl;simp only;refine⟨fun h=>?_,fun h=>?_⟩
  ·rw[i1 h];simp[q4,yA]
  rw[i2 h]
end Go.PH
end
section
namespace Go.PH
end Go.PH
end
namespace Go.PH
open Go.RowKit Go.Proofs Go.Proofs.Tryz
variable {bad : Bool} {x : Int} {b l : List UInt8} {k n : Nat} {F : Nat → Prop} {vb : Option Nat} {v : Value} {w w' : World}
theorem Kn:prog.underlying 84=some (.struct (prog.fieldsOf 84)):=by kernel_rfl
theorem zat:prog.stoodInHeld 84=false:=by kernel_rfl
theorem zcR(a b:Sg)(w:World):(binOp .neq 84 (.agg #[.int .u8 (a.ty:Int),.string (str a.load)]) (.agg #[.int .u8 (b.ty:Int),.string (str b.load)])).run prog w= .ok (.bool (!decide (a=b))) w:=by
 rw[run_neq_struct,run_equalIn_struct w 9999 84 _ _ Kn zat];simp only[Program.fieldsOf,underlying84];obtain⟨ty,ld⟩:=a;obtain⟨ty',ld'⟩:=b;simp only[Sg.mk.injEq];by_cases h:(ty:Int)=(ty':Int)
 ·have e:=Int.ofNat_inj.1 h;subst e;by_cases h:ld=ld'
  ·subst h;simp[Op.eqFields,part,run_equalIn_int _ 9998 5 .u8 .u8 _ _ underlying5,run_equalIn_string _ 9998 9 _ _ underlying9,Result.andThen,typeInfo,sizeOf]
  have h2:((str ld).toList==(str ld').toList)=false:=by rw[zl,zl];simpa using h
  simp[Op.eqFields,part,run_equalIn_int _ 9998 5 .u8 .u8 _ _ underlying5,run_equalIn_string _ 9998 9 _ _ underlying9,h2,Result.andThen,typeInfo,sizeOf];rw[zl,zl]at h2;simpa using h2
 simp[Op.eqFields,part,run_equalIn_int _ 9998 5 .u8 .u8 _ _ underlying5,h,Result.andThen,typeInfo,sizeOf];omega
theorem Ko(a b:As)(A:Option Addr)(c:Nat)(A':Option Addr)(c':Nat)(B:Nat)(w:World)(hr:RdG w B A a.segs.length c a.segs)(i5:RdG w B A' b.segs.length c' b.segs)(hB:B≤w.heap.size)(hn:a.segs.length≤9223372036854775807)(Dp:b.segs.length≤9223372036854775807):
  Calls prog 19 #[.agg (asV a.chan a.track A a.segs.length c),.agg (asV b.chan b.track A' b.segs.length c')] w fun e w'=>e= .returned (.bool (decide (a=b)))∧Below w.heap.size w w':=by
 obtain⟨ch,tr,l⟩:=a;obtain⟨ch',tr',l'⟩:=b;simp only at*;obtain⟨n,oh⟩:∃n,n=l.length:=⟨_,rfl⟩
 obtain⟨n',Ac⟩:∃n,n=l'.length:=⟨_,rfl⟩
 rw[←oh]at hr hn ⊢;rw[←Ac]at i5 Dp ⊢;have HN:=Q1 oh;have Ul:=Q1 Ac;clear oh Ac;obtain⟨R,hR⟩:∃R,R=decide ((⟨ch,tr,l⟩:As)=⟨ch',tr',l'⟩):=⟨_,rfl⟩
 rw[←hR];have HR:=Q1 hR;clear hR;obtain⟨xb,w0,bD,bo,hX,Hy⟩:=zq w (asV ch tr A n c) 42;obtain⟨yb,w1,LU,LH,hY,Ha⟩:=zq w0 (asV ch' tr' A' n' c') 42;have i9:=hX.below Ha;have Hc:=Hy.trans (Ha.mono Hy.size);unfold asV at*;clear hX Hy Ha;go_enter func19,ntmps19;go_upto_region 1 with fail;have e1:yb=w.heap.size+1:=by rw[LU,bo];simp
 rw[←e1,←bD,←bo,←LH];clear bD bo LU LH e1;have x0:=i9.c0;have x1:=i9.c1;have x2:=i9.c2;have y0:=hY.c0;have y1:=hY.c1;have y2:=hY.c2;by_cases q0:ch=ch'
 ·subst q0;by_cases q1:tr=tr'
  ·subst q1;by_cases q2:n=n'
   ·subst q2;go_wp2_with(with_reducible refine h_A ?_);go_loopw [5] (fun s wr=>∃(k:Nat),k≤n∧s= .int .i64 k∧Hid (l.take k=l'.take k)∧Box wr xb 42 #[.int .u16 (ch:Int),.int .u8 (tr:Int),.slice A n c]∧Box wr yb 42 #[.int .u16 (ch:Int),.int .u8 (tr:Int),.slice A' n c']∧Below w.heap.size w wr) (fun s _=>n-(KS s).toNat)
    case atStart=>exact⟨0,by omega,rfl,Q1 rfl,i9,hY,Hc⟩
    clear x0 x1 x2 y0 y1 y2 i9 hY Hc;obtain⟨k,hk,rfl,HK,hX,hY,Hc⟩:=hrel;have x2:=hX.c2;have y2:=hY.c2;by_cases hlt:k<n
    ·(have g1:(k:Int)<(n:Int):=by omega);obtain⟨b,off,rfl,dx,bI,hc⟩:=xF yW (Rd.below hr (Hc.mono hB)) hlt;obtain⟨b',off',rfl,ua,ov,GQ⟩:=xF yW (Rd.below i5 (Hc.mono hB)) hlt;have HT:=Q1 (v2 bI);have FQ:=Q1 (v2 ov);have HE:Hid (l=l'→l[k]=l'[k]):=Q1 (fun h=>by subst h;rfl);generalize l[k]=x at*;generalize l'[k]=x' at*;obtain⟨ty,ld⟩:=x;obtain⟨ty',ld'⟩:=x';(have uM:=fun w=>zcR ⟨ty,ld⟩ ⟨ty',ld'⟩ w);simp only at uM;have k0:wr.cell? ⟨b,off+k*2,none⟩=_:=hc 0 _ rfl;have k1:=hc 1 _ rfl;have j0:wr.cell? ⟨b',off'+k*2,none⟩=_:=GQ 0 _ rfl;have j1:=GQ 1 _ rfl;(obtain⟨q,hq⟩:∃q,q=decide ((⟨ty,ld⟩:Sg)=⟨ty',ld'⟩):=⟨_,rfl⟩);rw[←hq]at uM;have HQ:=Q1 hq;clear hq hc GQ;go_upto_region 6 with fail;(try simp only[Act.put]);go_quiet(fail);have bS:=hX.below (za (KL _ _) nq);have ia:=hY.below (za (KL _ _) nq);have Hh:=za Hc nq;clear k0 k1 j0 j1 x2 y2 uM
     cases q
     ·have HV:Hid (R=false):=Q1 (by
       rw[HR.out,decide_eq_false];intro e;(injection e with _ _ e);have:=HQ.out;rw[HE.out e]at this
       simp at this)
      go_wp2_with(with_reducible refine h_A ?_);go_ret;exact⟨by rw[HV.out];rfl,Hh⟩
     have ib:=of_decide_eq_true HQ.out.symm;have lH:Hid (l.take (k+1)=l'.take (k+1)):=Q1 (by rw[HT.out,FQ.out,HK.out,ib]);clear ib HE;go_wp2_with(with_reducible refine h_A ?_);exact⟨⟨k+1,by omega,by go_num,lH,bS,ia,Hh⟩,by simp[KS];omega⟩
    have g1:¬(k:Int)<(n:Int):=by omega
    have HV:Hid (R=true):=Q1 (by
     have e:=HK.out;rw[Vy Nx,Vy (by have:=Ul.out;omega)]at e;rw[HR.out,e]
     simp)
    exact Z63_
   have d2:((n:Int)!=(n':Int))=true:=by simp;omega
   have HV:Hid (R=false):=Q1 (by
    rw[HR.out,decide_eq_false];intro e;injection e with _ _ e
    exact q2 (by rw[HN.out,Ul.out,e]))
   clear q2;exact Z63_
  have d1:((tr:Int)!=(tr':Int))=true:=by simp;omega
  have HV:Hid (R=false):=Q1 (by
   rw[HR.out,decide_eq_false];intro e;injection e with _ e _
   exact q1 e)
  clear q1;exact Z63_
 have d0:((ch:Int)!=(ch':Int))=true:=by simp;omega
 have HV:Hid (R=false):=Q1 (by
  rw[HR.out,decide_eq_false];intro e;injection e with e _ _
  exact q0 e)
 clear q0;exact Z63_
theorem qD(h:Rdr F w v vb l bad)(x most:Int)(hx: -9223372036854775808≤x)(nH:x≤9223372036854775807)(hm: -9223372036854775808≤most)(pf:most≤9223372036854775807):
  Calls prog 157 #[v,.int .i64 x,.int .i64 most] w fun e w'=>e= .returned (.string (str (zT l bad x most).1))∧Rdr F w' v vb (zT l bad x most).2.1 (zT l bad x most).2.2∧w.grownBy w' vb:=by
 by_cases h8:x=8
 ·subst h8;rw[QO Wq];go_enter func157,ntmps157;go_wp2_with(with_reducible refine h_A ?_);refine(xk h).mono ?_;exact Z5o_
 have hN:=yk h x hx nH;have hlt:=xg l bad x;rw[v6 h8];generalize mnum l bad x=r at hN hlt ⊢;obtain⟨n,l',bad'⟩:=r;simp only at hN hlt ⊢;by_cases hb:bad'=true
 ·have qqbr:=();exact Z2k_
 obtain rfl:bad'=false:=by simpa using hb
 by_cases sj:most<0
 ·have qqbs:=();exact Z2k_
 by_cases Dy:most<(n:Int)
 ·have qqbt:=();exact Z2k_
 by_cases DB:l'.length<n
 ·exact Z2k_
 rw[if_neg Hz,xp Wq];have Su:(n:Int)≤9223372036854775807:=by omega
 have E4:¬((l'.length:Int)<(n:Int)):=by omega
 have MT:0≤most:=by omega
 have FM:(n:Int)≤most:=by omega
 go_enter func157,ntmps157;go_wp2_with(with_reducible refine h_A ?_);refine hN.mono ?_;rintro e w1 ⟨rfl,h1,bN⟩;have fB:=h1.len;go_wp2_with(with_reducible refine h_A ?_);refine(yD h1).mono ?_;rintro e w2 ⟨rfl,rfl⟩;go_wp2_with(with_reducible refine h_A ?_);refine(yN h1).mono ?_;rintro e w2 ⟨rfl,rfl⟩;go_wp2_with(with_reducible refine h_A ?_);have hT:=kk h1 (n:Int) Wq Wq;rw[xp Wq]at hT;simp only[kx,j2 (Nat.le_of_not_lt DB)]at hT;refine hT.mono ?_;rintro e w3 ⟨A3,c3,rfl,Bv,h3,H6⟩;have fz:=jf Bv.rd;go_wp2_with(with_reducible refine h_A ?_);go_ret;exact⟨rfl,h3,bN.trans H6⟩
end Go.PH
