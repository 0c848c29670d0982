/- Parts. -/
import Derived.Test.YtfbkameikhgciaaGreatDoorProg
import Derived.Test.YtfbkameikhgciaaGreatDoorMg04
set_option linter.all false
set_option maxRecDepth 20000
set_option maxHeartbeats 8000000
open Go.RowKit.Below renaming refl → KL
open Go.Lib renaming hid → Q1
open List renaming drop_eq_getElem_cons → K0, getElem_mem → Vy, mem_filter → Vx, take_succ_eq_append_getElem → q5, filter_append → q6, getElem_toArray → q7, getElem_cons_zero → q8, setIfInBounds_toArray → q9, set_cons_zero → kI, set_cons_succ → kv, drop_eq_nil_of_le → ky, dropLast_concat_getLast → kx, take_append_drop → k8, mem_append → k9, length_filter_le → vv, take_length → vz
open Nat renaming lt_of_lt_of_le → KS, le_trans → VB, le_refl → q0
open Go.RowKit renaming intOf → Q2
namespace Go.PH
open Go.RowKit Go.Proofs Go.Proofs.Tryz
variable {gb k : Nat} {F : Nat → Prop} {w : World}
structure RgS(w wx:World)(F:Nat→Prop)(gb fb rb nb:Nat)(A2:Option Addr)(c2:Nat)(L:List Fr)(f:Fr)(A3:Option Addr)(c3:Nat)(l3:List Fr):Prop where
 bg:Box wx gb 67 #[.slice A3 l3.length c3,.bool false]
 bf:Box wx fb 97 #[.bool f.first,.bool f.last,.bool f.beg,.bool f.fin,.int .u8 (f.ty:Int),.int .u8 (f.track:Int),.int .u16 (f.chan:Int),.string (str f.load)]
 br:Box wx rb 42 #[.int .u16 0,.int .u8 0,.slice none 0 0]
 bn:Box wx nb 42 #[.int .u16 0,.int .u8 0,.slice none 0 0]
 own:OwnF wx 0 A3 l3.length c3 l3
 ol:OwnF wx w.heap.size A2 L.length c2 L
 kp:KeepF F w wx
 bl:∀k,blk A3=some k→(F k∨w.heap.size≤k)∧k≠gb∧k≠fb∧k≠rb∧k≠nb∧blk A2≠some k
theorem XX{w':World}{g:GS}{f:Fr}{l:List Fr}{A:Option Addr}{c:Nat}(hlt:∀k,F k→k<w.heap.size)(hb:Box w' gb 67 #[.slice A 0 c,.bool true])(hO:OwnF w' 0 A 0 c [])(hA:∀k,blk A=some k→F k∧k≠gb)(hF:F gb)(hK:KeepF F w w')(he:g.err f=k)(hk:k≠0):
  Yw w F gb g l f (.returned (.tuple #[.agg asZ,.bool false,.int .i64 (k:Int)])) w':=by
 refine⟨F,[],fun _ h=>.inl h,⟨⟨A,c,?_,hO,hA⟩,hF,fun k hk=>KS (hlt k hk) hK.1,fun c t=>?_,fun f h=>by cases h⟩,by simp,hK,.inl ⟨GS.out_err Wq,by rw[he]⟩⟩
 ·rw[GS.next_err Wq];exact hb
 rw[GS.next_err Wq];rfl
theorem zcL{g:GS}{l:List Fr}(h:RGa w F gb g l)(hi:g.Inv)(hd:g.dead=true):l=[]:=by
 rcases l with _|⟨f,l⟩
 ·rfl
 have h1:=h.op f.chan f.track;rw[hi.deadE hd]at h1;have:f∈(f::l).filter (onT f.chan f.track):=Vx.2 ⟨by simp,by simp[onT]⟩;rw[←h1]at this
 cases this
theorem Kg{l:List Fr}(h:∀f,l.head?=some f→f.beg=true)(hne:l≠ []):zY l≠ []:=by
 have qqc4:=();exact Z2n_
theorem zab{l:List Fr}{f:Fr}(h:l=[]→f.beg=true)(h1:∀x,l.head?=some x→x.beg=true):∃(L0:List Sg) (s0:Sg),(if f.beg then zY l++ [⟨f.ty,[]⟩]else zY l)=L0++ [s0]∧zY (l++ [f])=L0++ [⟨s0.ty,s0.load++f.load⟩]:=by
 rw[jv]
 cases hb:f.beg with
 | true=>exact⟨zY l,⟨f.ty,[]⟩,by simp,by rw[Jy _ _ hb];simp⟩
 | false=>
  have hne:zY l≠ []:=Kg h1 (fun e=>by rw[h e]at hb;cases hb);obtain⟨L0,s0,e⟩:∃L0 s0,zY l=L0++ [s0]:=⟨_,_,(kx hne).symm⟩
  exact⟨L0,s0,by simp[e],by rw[e,Kv _ _ _ hb]⟩
theorem XY:∀(n:Nat) (l:List Fr),l.length=n→(zY l).length≤n
 | 0,l,h=>by
  obtain rfl:=List.eq_nil_of_length_eq_zero h
  exact q0 0
 | n+1,l,h=>by
  obtain⟨s,c,rfl⟩:∃t c,l=t++ [c]:=⟨l.dropLast,l.getLast (by intro e;rw[e]at h;cases h),(kx _).symm⟩
  have ih:=XY n s NQ;rw[jv,xE,jP];split
  ·simp only[List.length_append,List.length_singleton];omega
  omega
theorem zcM{LL:List Fr}(hg:∀x,LL.head?=some x→x.beg=true)(hk:k<LL.length):∃(L0:List Sg) (s0:Sg),(if LL[k].beg then zY (LL.take k)++ [⟨LL[k].ty,[]⟩]else zY (LL.take k))=L0++ [s0]∧zY (LL.take (k+1))=L0++ [⟨s0.ty,s0.load++LL[k].load⟩]:=by
 obtain⟨L0,s0,h1,h2⟩:=zab (l:=LL.take k) (f:=LL[k]) (fun h=>by
  cases LL with
  | nil=>cases hk
  | cons x r=>
   cases k with
   | zero=>exact hg x rfl
   | succ k=>cases h) (fun y hy=>by
  cases LL with
  | nil=>cases hk
  | cons x r=>
   cases k with
   | zero=>cases hy
   | succ k=>exact hg y hy)
 exact⟨L0,s0,h1,by rw[q5 hk];exact h2⟩
theorem Kh{LL:List Fr}{L0:List Sg}{t:Nat}{s x:List UInt8}(hl:zI LL≤16384)(h:zY (LL.take (k+1))=L0++ [⟨t,s++x⟩]):s.length+x.length≤16384∧L0.length≤k:=by
 have h1:=vt (LL.take (k+1));have h2:=qy (LL.take (k+1)) (LL.drop (k+1));rw[k8]at h2;have h3:=XY _ (LL.take (k+1)) rfl;rw[h,jO]at h1;rw[h]at h3;simp[yK]at h1;simp at h3;exact⟨by omega,by omega⟩
theorem zac{g:GS}{f:Fr}(hi:g.Inv)(h:g.err f=0):Goes (g.op f.chan f.track++ [f]):=by
 rcases g.err_cases f with⟨e,_⟩|⟨_,⟨e,_⟩|⟨bJ,⟨e,_⟩|⟨gE,⟨e,_⟩|⟨e,hl⟩⟩⟩⟩
 ·omega
 ·omega
 ·omega
 ·omega
 exact(hi.goes f.chan f.track).snoc bJ gE hl
theorem zcN{g:GS}{l:List Fr}{f:Fr}(cR:∀c t,g.op c t=l.filter (onT c t))(c t:Nat):(g.upd f.chan f.track (g.op f.chan f.track++ [f])).op c t=(l++ [f]).filter (onT c t):=by
 show(if c=f.chan∧t=f.track then g.op f.chan f.track++ [f]else g.op c t)=_
 rw[q6];by_cases h:c=f.chan∧t=f.track
 ·rw[if_pos h,h.1,h.2,cR];congr 1;simp[onT]
 rw[if_neg h,cR]
 have:onT c t f=false:=by
  exact Z58_
 simp[this]
theorem zbG{w2 wz:World}{fb rb nb:Nat}{A2 A3:Option Addr}{c2 c3:Nat}{L l:List Fr}{f:Fr}{g:GS}(hR:RgS w w2 F gb fb rb nb A2 c2 L f A3 c3 (l++ [f]))(hlt:∀k,F k→k<w.heap.size)(hF:F gb)(cX:w.heap.size≤rb)(BP:w2.grownBy wz (some rb))
  (he:g.err f=0) (hd:g.dead=false) (cR:∀c t,g.op c t=l.filter (onT c t)) (gG:∀x∈l,x.wf∧x.load.length≤1000000) (hf:f.wf∧f.load.length≤1000000) (hl:(f.fin&&f.last)=false):
  Yw w F gb g l f (.returned (.tuple #[.agg asZ,.bool false,.int .i64 0])) wz:=by
 have fL:=hlt gb hF
 have hn:g.next f=g.upd f.chan f.track (g.op f.chan f.track++ [f]):=by
  unfold GS.next;rw[if_neg (by simp[he]),hl];rfl
 have hK:KeepF F w wz:=hR.kp.trans (.grown (F:=fun g=>g=rb) BP (fun g hg=>.inl Hq)) (fun g hg=>.inr (by rw[hg];exact cX));refine⟨fun k=>F k∨blk A3=some k,l++ [f],?_,⟨⟨A3,c3,?_,?_,?_⟩,.inl hF,?_,?_,?_⟩,by simp,hK,.inl ⟨?_,by rw[he];rfl⟩⟩
 ·rintro k (h|h)
  ·exact .inl h
  exact(hR.bl k h).1
 ·rw[hn];show Box wz gb _ #[_,.bool g.dead];rw[hd];exact hR.bg.grown BP (sne Wq)
 ·exact zk hR.own BP (fun k e e2=>by injection e2 with e2;exact(hR.bl k e).2.2.2.1 e2.symm)
 ·exact fun k e=>⟨.inr e,(hR.bl k e).2.1⟩
 ·rintro k (h|h)
  ·exact KS (hlt k h) hK.1
  exact KS (hR.own.blk_lt h).2 BP.size
 ·rw[hn];exact zcN cR
 ·intro x hx;rcases k9.1 hx with h|h
  ·exact gG x h
  simp at h;subst h;exact hf
 unfold GS.out;rw[if_neg (fun h=>by rw[h.2.1,h.2.2]at hl;cases hl)]
theorem zcO{g:GS}{l:List Fr}{f:Fr}(cR:∀c t,g.op c t=l.filter (onT c t))(c t:Nat):(g.upd f.chan f.track []).op c t=((l++ [f]).filter (fun x=> !onT f.chan f.track x)).filter (onT c t):=by
 show(if c=f.chan∧t=f.track then []else g.op c t)=_
 rw[List.filter_filter,q6];have hz:∀(q:Bool),(q&& !q)=false:=by decide
 by_cases h:c=f.chan∧t=f.track
 ·rw[if_pos h,h.1,h.2];simp
 rw[if_neg h,cR]
 have hx:∀x:Fr,(onT c t x&& !onT f.chan f.track x)=onT c t x:=fun x=>by
  unfold onT;by_cases e1:x.chan=c
  ·by_cases e2:x.track=t
   ·have:¬(c=f.chan∧t=f.track):=h;subst e1 e2;by_cases e3:x.chan=f.chan
    ·(have e4:¬x.track=f.track:=fun e=>h ⟨e3,e⟩);simp[e4]
    simp[e3]
   simp[e2]
  simp[e1]
 have mG:onT c t f=false:=by
  exact Z58_
 simp only[hx];simp[mG]
theorem Ki{wz:World}{B7 B8:Nat}{A5 A6:Option Addr}{c5 c6:Nat}{l M LL:List Fr}{f:Fr}{g:GS}(pU:LL=g.op f.chan f.track++ [f])(hlt:∀k,F k→k<w.heap.size)(hF:F gb)(hb:Box wz gb 67 #[.slice A6 M.length c6,.bool false])(ho:OwnF wz B8 A6 M.length c6 M)(hM:M=(l++ [f]).filter (fun x=> !onT f.chan f.track x))(h8:w.heap.size≤B8)
  (hK:KeepF F w wz) (hG:OwnG wz B7 A5 (zY LL).length c5 (zY LL)) (wW:∀b,blk A5=some b→w.heap.size≤b∧b<B8)
  (he:g.err f=0) (hd:g.dead=false) (cR:∀c t,g.op c t=l.filter (onT c t)) (gG:∀x∈l,x.wf∧x.load.length≤1000000) (hf:f.wf∧f.load.length≤1000000) (hl:f.fin=true∧f.last=true):
  Yw w F gb g l f (.returned (.tuple #[.agg #[.int .u16 (f.chan:Int),.int .u8 (f.track:Int),.slice A5 (zY LL).length c5],.bool true,.int .i64 0])) wz:=by
 have fL:=hlt gb hF
 have hn:g.next f=g.upd f.chan f.track []:=by
  unfold GS.next;rw[if_neg (by simp[he]),hl.1,hl.2];rfl
 have mW:M.length≤l.length+1:=by rw[hM];exact VB (vv _ _) Wz
 refine⟨fun k=>F k∨blk A6=some k,M,?_,⟨⟨A6,c6,?_,ho.base_le (Nat.zero_le _),?_⟩,.inl hF,?_,?_,?_⟩,mW,hK,.inr ⟨⟨f.chan,f.track,zY LL⟩,A5,c5,?_,rfl,hG.base_le (Nat.zero_le _),?_⟩⟩
 ·rintro k (h|h)
  ·exact .inl h
  exact .inr (VB h8 (ho.blk_lt h).1)
 ·rw[hn];show Box wz gb _ #[_,.bool g.dead];rw[hd];exact hb
 ·exact fun k e=>⟨.inr e,by have:=(ho.blk_lt e).1;omega⟩
 ·rintro k (h|h)
  ·exact KS (hlt k h) hK.1
  exact(ho.blk_lt h).2
 ·rw[hn,hM];exact zcO cR
 ·intro x hx;rw[hM]at hx;have hx:=(Vx.1 hx).1;rcases k9.1 hx with h|h
  ·exact gG x h
  simp at h;subst h;exact hf
 ·unfold GS.out;rw[if_pos ⟨he,hl.1,hl.2⟩,pU]
 intro b bF;have h5:=wW b bF;refine⟨?_,h5.1⟩;rintro(h|h)
 ·have:=hlt b h;omega
 have:=(ho.blk_lt h).1;omega
theorem Kj(F:Nat→Prop)(gb:Nat)(g:GS)(l:List Fr)(f:Fr)(w:World)(h:RGa w F gb g l)(hi:g.Inv)(hf:f.wf)(fB:f.load.length≤1000000)(hn:l.length≤900000):
  Calls prog 57 #[.pointer (some ⟨gb,0,none⟩),.agg (frV f)] w (Yw w F gb g l f):=by
 have hd0:=Q1 (zcL h hi);obtain⟨⟨A,c,hb,hO,gX⟩,hF,hlt,cR,gG⟩:=h;have tZ:=g.err_cases f;obtain⟨fb,w0,ue,px,ie,Hy⟩:=zq w (frV f) 97;obtain⟨rb,w1,eC,Gl,bP,iv⟩:=zq w0 asZ 42;obtain⟨nb,w2,At,UK,i8,H3⟩:=zq w1 asZ 42;have Hc:=(Hy.trans (iv.mono Hy.size)).trans (H3.mono (VB Hy.size iv.size));have In:w.heap.size≤fb:=by omega
 have lp:w.heap.size≤rb:=by rw[eC];exact Hy.size
 have G9:w.heap.size≤nb:=by rw[At];exact VB Hy.size iv.size
 have nt:fb≠rb:=by have:=ie.lt;omega
 have UR:fb≠nb:=by have:=(ie.below iv).lt;omega
 have lU:rb≠nb:=by have:=bP.lt;omega
 have CQ:=hb.lt;have bF:=hb.below Hc;have fN:=(ie.below iv).below H3;have cH:=bP.below H3;have iE:=zh hO Hc;have HE:=Q1 tZ;have HF:=Q1 hf;have HW:=Q1 gG;have HO:=Q1 cR;have HQ:Hid (fb=w.heap.size∧rb=w.heap.size+1∧nb=w.heap.size+2∧w0=w.alloc (.cells (frV f) 97)∧w1=w0.alloc (.cells asZ 42)∧w2=w1.alloc (.cells asZ 42)):=Q1 ⟨ue,by rw[eC,px];simp,by rw[At,Gl,px];simp,px,Gl,UK⟩;clear tZ hf gG cR ie bP ue px eC Gl At UK Hy iv H3;unfold asZ frV at*;go_enter func57,ntmps57;go_upto_region 2 with fail;rw[←HQ.out.2.2.1,←HQ.out.2.1,←HQ.out.1,←HQ.out.2.2.2.1,←HQ.out.2.2.2.2.1,←HQ.out.2.2.2.2.2];clear HQ;clear w1 w0;have c0:=bF.c0;have c1:=bF.c1;have n0:=(i8).c0;have n1:=(i8).c1;have n2:=(i8).c2;have f0:=(fN).c0;have f1:=(fN).c1;have f2:=(fN).c2;have f3:=(fN).c3;have f4:=(fN).c4;have f5:=(fN).c5;have f6:=(fN).c6;have f7:=(fN).c7;rcases HE.out with⟨he,mf⟩|⟨mf,dj⟩
 ·have Pc:=Q1 he;obtain rfl:=hd0.out mf;rw[mf]at c1 bF;clear he mf HE;go_wp2_with(with_reducible refine h_B ?_);refine zc (zn (v:=.agg #[.int .u16 0,.int .u8 0,.slice none 0 0]) (vs:=[.int .u16 0,.int .u8 0,.slice none 0 0]) rfl rfl rfl rfl (cH) rfl Wj Wz WZ #[.int .u16 0,.int .u8 0,.slice none 0 0] Wz ?_);intro wz nu BP ef;go_wp2_with(with_reducible refine h_B ?_);have bX:=bF.grown BP (sne Wq);have eM:=zk iE BP (fun k hk e=>by injection e with e;have:=hlt k (gX k hk).1;omega);exact zv rfl nu rfl rfl rfl underlying42 rfl Wj rfl (XX hlt bX eM gX hF (KeepF.below (Hc.grown BP Hc.size Wx)) (k:=9) Pc.out Wq)
 rw[mf]at c1 bF;have cR:=Jv gb f A l.length c false l w2 bF iE.rd Wq;rw[←HO.out]at cR;obtain⟨L,hL⟩:∃L,L=g.op f.chan f.track:=⟨_,rfl⟩
 rw[←hL]at cR dj;have ae:L.length≤l.length:=by rw[hL,HO.out];exact vv _ _
 have W1:zI L≤16384:=by rw[hL];exact(hi.goes _ _).len
 have HLw:Hid (∀x∈L,x.wf∧x.load.length≤1000000):=Q1 (fun x hx=>HW.out x (by rw[hL,HO.out]at hx;exact(Vx.1 hx).1));have HL:=Q1 hL;have HR:=Q1 dj;have G0:=Q1 mf;clear HE hL dj mf hd0;have dD:=zi f.load;unfold frV at cR;go_wp2_with fail;refine cR.mono ?_;rintro e w3 ⟨A2,c2,rfl,eM,BD⟩;have bX:=bF.below BD;have wh:=fN.below BD;have cj:=cH.below BD;have oL:=i8.below BD;have Uh:=zh iE BD;have Hh:=Hc.trans (BD.mono Hc.size);have haz:w2.heap.size≤w3.heap.size:=BD.size;have nU:w.heap.size≤w2.heap.size:=Hc.size;have dl:=fN.lt;have ik:=cH.lt;have cW:=i8.lt;have gQ:∀k,blk A2=some k→w2.heap.size≤k:=fun k e=>(eM.blk_lt e).1
 clear cR bF fN cH i8 iE BD n0 n1 n2 c0 c1 f0 f1 f2 f3 f4 f5 f6 f7;have c0:=bX.c0;have c1:=bX.c1;have n0:=(oL).c0;have n1:=(oL).c1;have n2:=(oL).c2;have f0:=(wh).c0;have f1:=(wh).c1;have f2:=(wh).c2;have f3:=(wh).c3;have f4:=(wh).c4;have f5:=(wh).c5;have f6:=(wh).c6;have f7:=(wh).c7;have B4:=Q1 eM.rd;have hdm:16384+f.load.length≤1100000:=by omega
 go_wp2_with fail;go_loopw [10,9] (fun AM s9 wr=>∃k:Nat,k≤L.length∧AM= .int .i64 (k:Int)∧s9= .int .i64 ((f.load.length:Int)+(zI (L.take k):Int))∧w3=wr) (fun AM _ _=>L.length-(Q2 AM).toNat)
 case atStart=>exact⟨0,by omega,rfl,by simp[zI],rfl⟩
 obtain⟨k,hk,rfl,rfl,rfl⟩:=hrel;by_cases hlt:k<L.length
 ·have g1:(k:Int)<(L.length:Int):=by omega
  obtain⟨b,off,P6,dx,bI,bC⟩:=xF yE B4.out hlt;have k7:w3.cell? ⟨b,off+k*8+7,none⟩=some (.string (str L[k].load)):=bC 7 _ rfl;have HT:zI (L.take (k+1))=zI (L.take k)+L[k].load.length:=by rw[q5 bI,qy];simp[zI]
  have WY:zI (L.take (k+1))≤zI L:=by
   have:=qy (L.take (k+1)) (L.drop (k+1));rw[k8]at this;omega
  have u7:=zi L[k].load;generalize L[k]=x at*;subst P6;have ax:=Q1 HT;have h7:x.load.length≤16384:=by omega
  have h8:zI (L.take k)≤16384:=by omega
  clear HT WY;go_wp2_with fail;exact⟨⟨k+1,by omega,by go_num,by rw[ax.out];congr 1;omega,trivial⟩,by simp[Q2];omega⟩
 obtain rfl:k=L.length:=by omega
 have HT:L.take L.length=L:=vz;rw[HT];clear HT hlt hk;have b7:=vT f w3 HF.out Wq;unfold frV at b7;go_wp2_with fail;refine b7.mono ?_;rintro e w4 ⟨rfl,lO⟩;have AP:=Kf f A2 L.length c2 L w4 ((B4.out.below lO).more lO.size) Wq;have dJ:=bX.below lO;have rN:=wh.below lO;have cQ:=cj.below lO;have Dj:=oL.below lO;have S4:=zh Uh lO;have Hn:=Hh.trans (lO.mono Hh.size);have sD:=zh eM lO;have hhx:w3.heap.size≤w4.heap.size:=lO.size;clear b7 bX wh cj oL Uh Hh lO eM B4 c0 c1 n0 n1 n2 f0 f1 f2 f3 f4 f5 f6 f7;have c0:=dJ.c0;have c1:=dJ.c1;have n0:=(Dj).c0;have n1:=(Dj).c1;have n2:=(Dj).c2;have f0:=(rN).c0;have f1:=(rN).c1;have f2:=(rN).c2;have f3:=(rN).c3;have f4:=(rN).c4;have f5:=(rN).c5;have f6:=(rN).c6;have f7:=(rN).c7;unfold frV at AP
 obtain⟨E0,SC⟩:∃E0:Nat,(E0:Int)=f.err:=by
  unfold Fr.err;split
  ·exact⟨0,rfl⟩
  exact⟨60,rfl⟩
 obtain⟨FT,FY⟩:∃FT,FT=fitsB L f:=⟨_,rfl⟩
 rw[←FY]at AP;have Lf:=Q1 SC;have Dx:=Q1 FY;rw[←SC];clear SC FY;go_upto_region 11 with fail;go_cut [51]from 44 to 50 (fun s wx=>∃x:Bool,s= .bool x∧Hid (x=(decide (E0=0)&& !FT))∧Below w4.heap.size w4 wx)
 case first=>
  by_cases he:E0=0
  ·subst he;go_wp2_with fail;refine AP.mono ?_;rintro e w5 ⟨rfl,gH⟩;go_wp2_with fail;go_meet
   case rel=>exact⟨_,rfl,Q1 Wz,gH⟩
  have h1:((E0:Int)==0)=false:=by simp;omega
  have h2:decide (E0=0)=false:=by simp[he]
  clear he;go_wp2_with fail;go_meet
  case rel=>exact⟨_,rfl,Q1 (by simp[h2]),KL _ _⟩
 obtain⟨x,rfl,HX,gH⟩:=hcut;have cT:=dJ.below gH;have pw:=rN.below gH;have dv:=cQ.below gH;have nk:=Dj.below gH;have Lw:=zh S4 gH;have bw:=Hn.trans (gH.mono Hn.size);have gj:=zh sD gH;have WV:w4.heap.size≤wc.heap.size:=gH.size;clear AP dJ rN cQ Dj S4 Hn gH sD c0 c1 n0 n1 n2 f0 f1 f2 f3 f4 f5 f6 f7;have c0:=cT.c0;have c1:=cT.c1;have n0:=(nk).c0;have n1:=(nk).c1;have n2:=(nk).c2;have f0:=(pw).c0;have f1:=(pw).c1;have f2:=(pw).c2;have f3:=(pw).c3;have f4:=(pw).c4;have f5:=(pw).c5;have f6:=(pw).c6;have f7:=(pw).c7;obtain⟨SZ,Fe⟩:∃s,s=zI L:=⟨_,rfl⟩
 rw[←Fe]at W1 ⊢;have az:=Q1 Fe;clear Fe;obtain⟨E1,wu⟩:∃E1:Nat,E1=if x then 70 else E0:=⟨_,rfl⟩
 have L6:=Q1 wu;obtain⟨EE,Sc⟩:∃e,e=g.err f:=⟨_,rfl⟩
 have Tl:EE=if E1=0∧16384<SZ+f.load.length then 3 else E1:=by
  have hx:=HX.out;have iC:=Dx.out;have h0:=Lf.out;rw[Sc,az.out];rcases HR.out with⟨he,bJ⟩|⟨bJ,⟨he,h⟩|⟨h,⟨he,h2⟩|⟨he,h2⟩⟩⟩
  ·have:E0=60:=by
    (have:f.err=60:=by simp[Fr.err,bJ]);omega
   subst this;simp at hx;subst hx;simp at wu;subst wu;simp[he]
  ·have:E0=0:=by
    (have:f.err=0:=by simp[Fr.err,bJ]);omega
   subst this;rw[h]at iC;subst iC;simp at hx;subst hx;simp at wu;subst wu;simp[he]
  ·have:E0=0:=by
    (have:f.err=0:=by simp[Fr.err,bJ]);omega
   subst this;rw[h]at iC;subst iC;simp at hx;subst hx;simp at wu;subst wu;simp[he,h2]
  have:E0=0:=by
   (have:f.err=0:=by simp[Fr.err,bJ]);omega
  subst this;rw[h]at iC;subst iC;simp at hx;subst hx;simp at wu;subst wu;simp[he];omega
 have IR:=Q1 Tl;have Ti:=Q1 Sc;clear wu Tl Sc;go_upto_if 51 with fail;go_cut [11]from 44 to 51 (fun s wx=>s= .int .i64 (E1:Int)∧wc=wx)
 case first=>
  cases x
  ·go_wp2_with fail;go_meet
   case rel=>exact⟨by rw[L6.out];rfl,rfl⟩
  go_wp2_with fail;go_meet
  case rel=>exact⟨by rw[L6.out];rfl,rfl⟩
 obtain⟨rfl,rfl⟩:=hcut;go_upto_region 13 with fail;go_cut [57]from 44 to 56 (fun s wx=>∃y:Bool,s= .bool y∧Hid (y=(decide (E1=0)&&decide (16384<SZ+f.load.length)))∧wc=wx)
 case first=>
  by_cases he:E1=0
  ·(have h1:decide ((16384:Int)<(f.load.length:Int)+(SZ:Int))=decide (16384<SZ+f.load.length):=by rw[Bool.eq_iff_iff];simp;omega);(have h0:((E1:Int)==0)=true:=by simp;omega);(have h2:decide (E1=0)=true:=by simp[he]);exact Z5y_
  have h1:((E1:Int)==0)=false:=by simp;omega
  have h2:decide (E1=0)=false:=by simp[he]
  exact Z5y_
 obtain⟨y,rfl,HY,rfl⟩:=hcut;go_upto_if 57 with fail;go_cut [11]from 44 to 57 (fun s wx=>s= .int .i64 (EE:Int)∧wc=wx)
 case first=>
  cases y
  ·have hh:EE=E1:=by
    rw[IR.out,if_neg];intro h;have:=HY.out;simp[h.1,h.2]at this
   exact Z4v_
  have hh:EE=3:=by
   rw[IR.out,if_pos];have:=HY.out;simpa using this.symm
  exact Z4v_
 obtain⟨rfl,rfl⟩:=hcut;by_cases he:EE=0
 ·have HG:Hid (g.err f=0):=Q1 (by rw[←Ti.out];exact he);rw[he];clear he c0 c1 f0 f1 f2 f3 f4 f5 f6 f7 n0 n1 n2;replace gj:OwnF wc w.heap.size A2 L.length c2 L:=gj.base_le nU;go_upto_region 19 with fail;go_cut []from 44 to 77 (fun wx=>∃(A3:Option Addr) (c3:Nat),RgS w wx F gb fb rb nb A2 c2 L f A3 c3 (l++ [f]))
  case first=>
   have B0:Below wc.heap.size wc wc.drew:=za (KL _ wc) 1;replace cT:=cT.below B0;replace pw:=pw.below B0;replace dv:=dv.below B0;replace nk:=nk.below B0;replace Lw:=zh Lw B0;replace gj:=zh gj B0;replace bw:=bw.trans (B0.mono bw.size);have hw5:wc.heap.size≤wc.drew.heap.size:=B0.size;have k0:=cT.c0;refine zt (fun W:World=>Box W fb 97 #[.bool f.first,.bool f.last,.bool f.beg,.bool f.fin,.int .u8 (f.ty:Int),.int .u8 (f.track:Int),.int .u16 (f.chan:Int),.string (str f.load)]) Wj ?_;have hS:=pw;generalize wc.drew=wd at*;refine rg_t 0 hS ?_;simp only[q7,q8,Act.put,q9,kI,kv];refine rg_t 1 hS ?_;simp only[g_S];refine rg_t 2 hS ?_;simp only[g_S];refine rg_t 3 hS ?_;simp only[g_S];refine ze 5 (v:=?_) rfl Wj Wj Wj hS rfl ?_ ?_;rotate_left
   ·intro wS He;have k0:=He.cell (j:=0) rfl;have k1:=He.cell (j:=1) rfl;have k2:=He.cell (j:=2) rfl;have k3:=He.cell (j:=3) rfl;have k4:=He.cell (j:=4) rfl;have k5:=He.cell (j:=5) rfl;have k6:=He.cell (j:=6) rfl;have k7:=He.cell (j:=7) rfl;go_simp;(with_reducible rfl)
   simp only[g_S];refine xP 4 6 rfl rfl Wj rfl rfl (fun K hK=>?_) (fun K hK=>?_)
   ·have qq61:=();exact Zx_
   exact Zx_
  obtain⟨A3,c3,hR⟩:=hcut;clear cT pw dv nk Lw gj bw;have fx:=hR.bf;have bU:=hR.br;have DS:=hR.bn;have n0:=(DS).c0;have n1:=(DS).c1;have n2:=(DS).c2;have f1:=fx.c1;have f3:=fx.c3;by_cases Az:(f.fin&&f.last)=true
  ·have sU:Hid (f.fin=true∧f.last=true):=Q1 (by simpa using Az);clear Az;go_upto_region 20 with fail;go_cut [85]from 44 to 84 (fun s wx=>s= .bool false∧wc=wx)
   case first=>
    rw[sU.out.1]at f3;rw[sU.out.2]at f1;go_wp2_with fail;go_meet
    case rel=>exact⟨rfl,rfl⟩
   obtain⟨rfl,rfl⟩:=hcut;clear f1 f3;have f0:=(fx).c0;have f1:=(fx).c1;have f2:=(fx).c2;have f3:=(fx).c3;have f4:=(fx).c4;have f5:=(fx).c5;have f6:=(fx).c6;have f7:=(fx).c7;have iX:=hR.ol;(have hLx:L.length≤900000:=by omega);go_wp2_with(with_reducible refine h_A ?_);refine zc (jS yE slF underlying65 rfl rfl rfl rfl rfl f rfl iX Wq Wq hR.kp.1 ?_);intro A4 c4 w6 bR bz ey bG;have hh7:=hlt gb hF;have Fo:=hR.bg.grown bz (fun e=>by have:=gQ gb e.symm;omega);have lP:=hR.bf.grown bz (fun e=>by have:=gQ fb e.symm;omega);have EW:=hR.br.grown bz (fun e=>by have:=gQ rb e.symm;omega);have DQ:=zk hR.own bz (fun k e e2=>(hR.bl k e).2.2.2.2.2 e2);have il:KeepF F w w6:=hR.kp.trans (.grown (F:=fun k=>blk A2=some k) bz (fun g hg=>.inl hg)) (fun k hk=>.inr (by have:=gQ k hk;omega))
   have hA4:∀k,blk A4=some k→w.heap.size≤k∧k≠fb∧k≠rb∧blk A3≠some k:=fun k e=>by
    have z1:=hR.bf.lt;have z2:=hR.br.lt;have z3:=hR.kp.1;rcases ey with e2|e2
    ·rw[e2]at e;have:=gQ k e;exact⟨by omega,by omega,by omega,fun e3=>(hR.bl k e3).2.2.2.2.2 e⟩
    have h1:=e2 k e;exact⟨by omega,by omega,by omega,fun e3=>by have:=(hR.own.blk_lt e3).2;omega⟩
   have mr:=Q1 hR.bl;have hw6:wc.heap.size≤w6.heap.size:=bz.size;obtain⟨ab,w7,dV,DD,hBa,dU⟩:=zq w6 (asV f.chan f.track none 0 0) 42;unfold asV at DD hBa;clear hR iX fx bU DS f0 f1 f2 f3 f4 f5 f6 f7 n0 n1 n2;have f0:=(lP).c0;have f1:=(lP).c1;have f2:=(lP).c2;have f3:=(lP).c3;have f4:=(lP).c4;have f5:=(lP).c5;have f6:=(lP).c6;have f7:=(lP).c7;go_upto_region 24 with fail;rw[←dV,←DD];(have Bo:w6.heap.size≤ab:=by omega);(have PU:∀k,blk A4=some k→k<w6.heap.size:=fun k e=>(bR.blk_lt e).2);(have R6:∀k,blk A3=some k→k<w6.heap.size:=fun k e=>(DQ.blk_lt e).2);clear dV DD;(obtain⟨LL,pU⟩:∃LL,LL=L++ [f]:=⟨_,rfl⟩);(have WH:LL.length=L.length+1:=by rw[pU];simp);rw[←pU]at bR;have pJ:=Q1 pU;have TV:Hid (Goes LL):=Q1 (by rw[pU,HL.out];exact zac hi HG.out);have Sz:w6.heap.size≤w7.heap.size:=dU.size;clear pU;have Tx:=Fo.below dU;have MC:=lP.below dU;have B1:=EW.below dU;have Tz:=zh DQ dU;have dI:=zh bR dU;have iI:KeepF F w w7:=il.trans (.below (F:=F) dU) (fun g hg=>.inl hg);have oc:=lP.lt;have fp:=EW.lt;have hlg:=Fo.lt;clear Fo lP EW DQ il bR bz ey bG dU f0 f1 f2 f3 f4 f5 f6 f7;go_wp2_with fail;go_loopw [13,14] (fun OI s14 wr=>∃(k c5:Nat) (A5:Option Addr),k≤L.length+1∧OI= .int .i64 (k:Int)∧Box wr ab 42 #[.int .u16 (f.chan:Int),.int .u8 (f.track:Int),.slice A5 (zY (LL.take k)).length c5]∧OwnG wr w7.heap.size A5 (zY (LL.take k)).length c5 (zY (LL.take k))∧KeepF (fun k=>k=ab) w7 wr) (fun OI _ _=>L.length+1-(Q2 OI).toNat)
   case atStart=>exact⟨0,0,none,by omega,rfl,hBa,Own.none_ _ _ _ _,KeepF.refl _ _⟩
   obtain⟨k,c5,A5,hk,rfl,tz,bJ,mN⟩:=hrel;by_cases pY:k<L.length+1
   ·(have g1:(k:Int)<((L.length+1:Nat):Int):=by omega);obtain⟨b,off,Mr,dx,bI,bC⟩:=xF yE dI.rd pY;have dG:b<w6.heap.size:=PU b (by rw[Mr];rfl);obtain⟨L0,s0,BG,BI⟩:=zcM TV.out.first bI;obtain⟨mF,Du⟩:=Kh TV.out.len BI;(have dk:∀W,KeepF (fun k=>k=ab) w7 W→∀j u,(frC LL[k])[j]?=some u→W.cell? ⟨b,off+k*8+j,none⟩=some u:=fun W hW j u hu=>((hW.toBelow (B:=w6.heap.size) Sz (fun g hg=>by rw[hg];exact Bo)).cell (p:=⟨b,off+k*8+j,none⟩) dG).trans (bC j u hu));have TA:=Q1 BI;have HS1:=Q1 BG;have k2:wr.cell? ⟨b,off+k*8+2,none⟩=some (.bool LL[k].beg):=dk wr mN 2 _ rfl;have k4:wr.cell? ⟨b,off+k*8+4,none⟩=some (.int .u8 (LL[k].ty:Int)):=dk wr mN 4 _ rfl;have aD:Hid (∀W,KeepF (fun k=>k=ab) w7 W→W.cell? ⟨b,off+k*8+7,none⟩=some (.string (str LL[k].load))):=Q1 (fun W hW=>dk W hW 7 _ rfl);clear BG BI bC dk;generalize LL[k]=x at*;subst Mr;(obtain⟨bg,eG⟩:∃bg,bg=x.beg:=⟨_,rfl⟩);rw[←eG]at k2;have HB:=Q1 eG;clear eG;go_upto_if 106 with fail;go_cut []from 96 to 117 (fun wx=>∃(A6:Option Addr) (c6:Nat),Box wx ab 42 #[.int .u16 (f.chan:Int),.int .u8 (f.track:Int),.slice A6 (L0.length+1) c6]∧OwnG wx w7.heap.size A6 (L0.length+1) c6 (L0++ [s0])∧KeepF (fun k=>k=ab) w7 wx)
    case first=>
     have h1:=HS1.out;rw[←HB.out]at h1
     cases bg
     ·rw[if_neg Wz]at h1;rw[h1]at bJ tz;clear h1;go_wp2_with fail;go_meet
      case rel=>exact⟨A5,c5,by simpa using tz,by simpa using bJ,mN⟩
     rw[if_pos rfl]at h1;obtain⟨eN,oH⟩:=List.append_inj' h1 rfl;rw[eN]at bJ tz;have ib:Hid (s0=⟨x.ty,[]⟩):=Q1 (by injection oH with oH;exact oH.symm);clear h1 eN oH;go_upto_region 28 with fail;have UD:wr.drew.cell? ⟨b,off+k*8+4,none⟩=some (.int .u8 (x.ty:Int)):=k4;have B0:Below wr.heap.size wr wr.drew:=za (KL _ wr) 1;have Bf:=tz.below B0;have dP:=zh bJ B0;have rl:=mN.trans (.below (F:=fun k=>k=ab) B0) (fun g hg=>.inl hg);(have wW:∀k,blk A5=some k→w7.heap.size≤k:=fun k e=>(bJ.blk_lt e).1);have RF:=Bf.lt;clear tz bJ mN k2 k4 B0;refine zt (fun W:World=>W.cell? ⟨b,off+k*8+4,none⟩=some (.int .u8 (x.ty:Int))) Wj ?_;have hS:=UD;clear UD;generalize wr.drew=wd at*;refine rg_t 0 hS ?_;simp only[q7,q8,Act.put,q9,kI,kv];refine rg_t 2 hS ?_;simp only[g_S];refine rg_t 3 hS ?_;simp only[g_S];refine rg_t 4 hS ?_;simp only[g_S];refine rg_t 5 hS ?_;simp only[g_S];refine ze 6 (v:=?_) rfl Wj Wj Wj hS rfl ?_ ?_;rotate_left
     ·intro wS He;have k0:=He;go_simp;(with_reducible rfl)
     simp only[g_S];refine rg_t 7 hS ?_;simp only[g_S];refine xP 1 8 rfl rfl Wj rfl rfl (fun K hK=>?_) (fun K hK=>?_)
     ·have qq7b:=();exact Z17_
     exact Z17_
    obtain⟨A6,c6,di,bR,NO⟩:=hcut;clear tz bJ mN k2 k4;obtain⟨gs,rfl,WA,ao⟩:=QS bR Wq;have k7:=aD.out wc NO;have nD:=xF yW bR.rd (k:=L0.length) Wq;obtain⟨gs',off',cf,_,ov,bC⟩:=nD;(obtain⟨rfl,rfl⟩:gs=gs'∧0=off':=by simpa using cf);(have D1:(L0++ [s0])[L0.length]=s0:=by simp);rw[D1]at bC;have ca:=bC 1 _ rfl;simp only[Nat.zero_add]at ca;clear bC cf D1 ov;have EG:IntKind.i64.wrap (L0.length:Int)=(L0.length:Int):=IntWalk.i64_in _ ⟨by omega,by omega⟩;(have g3:(L0.length:Int)<(L0.length:Int)+1:=by omega);have z0:=di.c2;go_upto_region 30 with fail;have B0:Below wc.heap.size wc wc.drew:=za (KL _ wc) 1;have hS:Box wc.drew ab 42 #[.int .u16 (f.chan:Int),.int .u8 (f.track:Int),.slice (some ⟨gs,0,none⟩) (L0.length+1) c6]∧wc.drew.cell? ⟨b,off+k*8+7,none⟩=some (.string (str x.load)):=⟨di.below B0,k7⟩;have dK:wc.drew.cell? ⟨gs,L0.length*2+1,none⟩=some (.string (str s0.load)):=ca;have dP:=zh bR B0;have rl:=NO.trans (.below (F:=fun g=>g=ab) B0) (fun g hg=>.inl hg);have I2:=hBa.lt;clear di bR NO ca k7 z0 B0;refine zt (fun W:World=>Box W ab 42 #[.int .u16 (f.chan:Int),.int .u8 (f.track:Int),.slice (some ⟨gs,0,none⟩) (L0.length+1) c6]∧W.cell? ⟨b,off+k*8+7,none⟩=some (.string (str x.load))) Wj ?_;generalize wc.drew=wd at*;refine rg_t 0 hS ?_;simp only[q7,q8,Act.put,q9,kI,kv];refine ze 1 (v:=?_) rfl Wj Wj Wj hS rfl ?_ ?_;rotate_left
    ·intro wS He;have k0:=He.1.cell (j:=2) rfl;go_simp;(with_reducible rfl)
    simp only[g_S];refine rg_t 2 hS ?_;simp only[g_S];refine rg_t 3 hS ?_;simp only[g_S];refine ze 4 (v:=?_) rfl Wj Wj Wj hS rfl ?_ ?_;rotate_left
    ·intro wS He;have k0:=He.1.cell (j:=2) rfl;go_simp;(with_reducible rfl)
    simp only[g_S];refine rg_t 5 hS ?_;simp only[g_S];refine rg_t 6 hS ?_;simp only[g_S];refine rg_t 7 hS ?_;simp only[g_S];refine rg_t 9 hS ?_;simp only[g_S];refine rg_t 10 hS ?_;simp only[g_S];refine rg_t 11 hS ?_;simp only[g_S];refine rg_t 12 hS ?_;simp only[g_S];refine ze 13 (v:=?_) rfl Wj Wj Wj hS rfl ?_ ?_;rotate_left
    ·intro wS He;have k0:=He.2;go_simp;(with_reducible rfl)
    simp only[g_S];refine zj 8 rfl Wj rfl (fun K hK=>?_);go_simp;refine hK _ _ hS ?_;clear hK K;(try simp only[g_S]);(have o4:(9223372036854775807<s0.load.length+x.load.length)=False:=by simp;omega);have EN:=zi s0.load;have OG:=zi x.load;refine rg_t 14 hS ?_;simp only[g_S];simp only[jl];clear o4 EN OG;refine rg_t 15 hS ?_;simp only[g_S];refine rg_t 16 hS ?_;simp only[g_S];refine zj 17 rfl Wj rfl (fun K hK=>?_);refine Y9 (k:=L0.length) (i:=1) (v:=.string (str (s0.load++x.load))) (vs:=[.string (str (s0.load++x.load))]) yW rfl rfl rfl dP Wq Wz (⟨s0.ty,s0.load++x.load⟩:Sg) rfl Wj (by simp[sgC]) Wz Wq ?_;intro w9 dt du iJ;clear iJ;(have dp:(L0++ [s0]).set L0.length ⟨s0.ty,s0.load++x.load⟩=L0++ [⟨s0.ty,s0.load++x.load⟩]:=by simp);rw[dp,←TA.out]at dt;have iD:=And.intro (hS.1.grown du uq) ((((KL w7.heap.size wd).grown du rl.1 Wx).cell (p:=⟨b,off+k*8+7,none⟩) dx).trans hS.2);have hk9:=rl.trans (.grown (F:=fun g=>w7.heap.size≤g) du (fun g hg=>.inl (by injection hg with hg;omega))) (fun g hg=>.inr hg);have bQ:Hid ((zY (LL.take (k+1))).length=L0.length+1):=Q1 (by rw[TA.out];simp);refine hK _ _ iD ?_;clear hK K hS dK dP rl dp du EG g3;(try simp only[g_S]);refine zz Wj ?_;go_wp2_with(with_reducible refine h_A ?_);exact⟨⟨k+1,c6,some ⟨gs,0,none⟩,by omega,by go_num,by rw[bQ.out];exact iD.1,by rw[bQ.out];exact dt,hk9⟩,by simp[Q2];omega⟩
   (have g1:¬(k:Int)<((L.length+1:Nat):Int):=by omega);have Da:Hid (LL.take k=LL):=Q1 (List.take_of_length_le Wq);rw[Da.out]at tz bJ;(obtain⟨w8,rfl⟩:∃W,W=wr:=⟨_,rfl⟩);have H5:=zU Tx mN (show ¬gb=ab by omega);have nL:=zU B1 mN (show ¬rb=ab by omega);have hf8:=zU MC mN (show ¬fb=ab by omega);have dP:=zw Tz mN (fun g e e2=>by have:=R6 g e;omega);have gz:KeepF F w w8:=iI.trans mN (fun g hg=>.inr Wq);have OW:=iI.1;have RF:=hBa.lt;have WN:=H5.lt;have Wl:=nL.lt;(obtain⟨M,hM⟩:∃M,M=l++ [f]:=⟨_,rfl⟩);rw[←hM]at H5 dP;(have EK:M.length≤900001:=by rw[hM];simp;omega);have HM:=Q1 hM;have B4:=Q1 dP.rd;clear hM Tx B1 MC Tz iI mN hBa dI dP;have g0:=H5.c0;go_wp2_with(with_reducible refine h_A ?_);go_loopw [16,15] (fun SH s15 wr=>∃(j m c6:Nat) (A6:Option Addr),j≤M.length∧SH= .int .i64 (j:Int)∧s15= .slice A6 m c6∧m≤j∧OwnF wr w8.heap.size A6 m c6 ((M.take j).filter (fun x=> !onT f.chan f.track x))∧Below w8.heap.size w8 wr) (fun SH _ _=>M.length-(Q2 SH).toNat)
   case atStart=>exact⟨0,0,0,none,by omega,rfl,rfl,by omega,Own.none_ _ _ _ _,KL _ _⟩
   clear g0;obtain⟨j,m,c6,A6,hj,rfl,rfl,hm,hO,hB⟩:=hrel;have sH:=H5.below hB;have Ab:=hf8.below hB;have g0:=sH.c0;by_cases LC:j<M.length
   ·(have g1:(j:Int)<(M.length:Int):=by omega);have f5:=Ab.c5;have f6:=Ab.c6;obtain⟨b,off,Px,dx,bI,bC⟩:=xF yE B4.out LC;subst Px;have HT:=Q1 (q5 bI);generalize M[j]=x at*;(have dk:∀W,Below w8.heap.size w8 W→∀i u,(frC x)[i]?=some u→W.cell? ⟨b,off+j*8+i,none⟩=some u:=fun W hW i u hu=>(hW.cell (p:=⟨b,off+j*8+i,none⟩) dx).trans (bC i u hu));have pE:=Q1 dk;have hq:=dk wr hB;obtain⟨q1,q2,q3,q4,xy,xt,xc,xl⟩:=x;have k0:=hq 0 _ rfl;have k1:=hq 1 _ rfl;have k2:=hq 2 _ rfl;have k3:=hq 3 _ rfl;have k4:=hq 4 _ rfl;have k5:=hq 5 _ rfl;have k6:=hq 6 _ rfl;have k7:=hq 7 _ rfl;simp only[Nat.add_zero]at k0;clear bC dk hq;by_cases rE:xc=f.chan∧xt=f.track
    ·have mD:Hid ((M.take (j+1)).filter (fun x=> !onT f.chan f.track x)=(M.take j).filter (fun x=> !onT f.chan f.track x)):=Q1 (by
      rw[HT.out,q6];have:onT f.chan f.track ⟨q1,q2,q3,q4,xy,xt,xc,xl⟩=true:=by unfold onT;simp;omega
      simp[this])
     (have d1:((xc:Int)!=(f.chan:Int))=false:=by simp;omega);(have d2:((xt:Int)!=(f.track:Int))=false:=by simp;omega);clear rE;go_upto_region 35 with fail;(try simp only[Act.put]);go_quiet(fail);have dL:=za hB nq;clear k0 k1 k2 k3 k4 k5 k6 k7 g0 f5 f6 d1 d2;go_wp2_with(with_reducible refine h_A ?_);exact⟨⟨j+1,m,c6,A6,by omega,by go_num,rfl,by omega,by rw[mD.out];exact hO.drewN nq,dL⟩,by simp[Q2];omega⟩
    by_cases e1:xc=f.chan
    ·exact Z1k_
    have qq8a:=();exact Z1k_
   (obtain rfl:j=M.length:=by omega);rw[vz]at hO;have mW:=YD yE hO;(obtain⟨R,hR⟩:∃R,R=M.filter (fun x=> !onT f.chan f.track x):=⟨_,rfl⟩);rw[←hR]at hO mW;have eU:Hid (R=(l++ [f]).filter (fun x=> !onT f.chan f.track x)):=Q1 (by rw[hR,HM.out]);have GE:=Q1 mW;clear hR mW;have R4:=nL.below hB;have Pe:=tz.below hB;go_wp2_with(with_reducible refine h_B ?_);refine zc (zn (v:=.slice A6 m c6) (vs:=[.slice A6 m c6]) rfl rfl rfl rfl sH rfl Wj Wz WZ #[.slice A6 m c6,.bool false] Wz ?_);intro w9 gg du iJ;clear iJ g0;have Sy:=R4.grown du uq;have Ex:=Pe.grown du uq;have z0:=Ex.c0;have z1:=Ex.c1;have z2:=Ex.c2;go_wp2_with(with_reducible refine h_B ?_);refine zc (zn (v:=.agg #[.int .u16 (f.chan:Int),.int .u8 (f.track:Int),.slice A5 (zY LL).length c5]) (vs:=[.int .u16 (f.chan:Int),.int .u8 (f.track:Int),.slice A5 (zY LL).length c5]) rfl rfl rfl rfl Sy rfl Wj Wz WZ #[.int .u16 (f.chan:Int),.int .u8 (f.track:Int),.slice A5 (zY LL).length c5] Wz ?_);intro wz nu BP ef;clear ef;(have eA:Box wz gb 67 #[.slice A6 R.length c6,.bool false]:=by rw[GE.out];exact gg.grown BP uq);(have N5:OwnF wz w8.heap.size A6 R.length c6 R:=by rw[GE.out];exact zk (zk hO du (fun g e e2=>by have:=(hO.blk_lt e).1;injection e2 with e2;omega)) BP (fun g e e2=>by have:=(hO.blk_lt e).1;injection e2 with e2;omega));have r8:KeepF F w wz:=((gz.trans (.below (F:=F) hB) (fun g hg=>.inl hg)).trans (.grown (F:=F) du (fun g hg=>.inl MJ)) (fun g hg=>.inl hg)).trans (.grown (F:=fun g=>g=rb) BP (fun g hg=>.inl Hq)) (fun g hg=>.inr (by rw[hg];exact lp));have af:=zk (zk (zh bJ hB) du (fun g e e2=>by have:=(bJ.blk_lt e).1;injection e2 with e2;omega)) BP (fun g e e2=>by have:=(bJ.blk_lt e).1;injection e2 with e2;omega);go_wp2_with(with_reducible refine h_B ?_);exact zv rfl nu rfl rfl rfl underlying42 rfl Wj rfl (Ki (by rw[pJ.out,HL.out]) hlt hF eA N5 eU.out gz.1 r8 af (fun g e=>⟨VB OW (bJ.blk_lt e).1,(bJ.blk_lt e).2⟩) HG.out G0.out HO.out HW.out ⟨HF.out,fB⟩ sU.out)
  have sU:Hid ((f.fin&&f.last)=false):=Q1 (by simpa using Az);go_upto_region 20 with fail;go_cut [85]from 44 to 84 (fun s wx=>s= .bool true∧wc=wx)
  case first=>
   have h0:=sU.out;clear Az;rcases(by cases f.fin<;>simp:f.fin=false∨f.fin=true)with mO|mO
   ·rw[mO]at f3;clear mO h0;go_wp2_with fail;go_meet
    case rel=>exact⟨rfl,rfl⟩
   (have h1:f.last=false:=by rw[mO]at h0;simpa using h0);rw[mO]at f3;rw[h1]at f1;clear mO h0 h1;go_wp2_with fail;go_meet
   case rel=>exact⟨rfl,rfl⟩
  obtain⟨rfl,rfl⟩:=hcut;go_wp2_with(with_reducible refine h_B ?_);refine zc (zn (v:=.agg #[.int .u16 0,.int .u8 0,.slice none 0 0]) (vs:=[.int .u16 0,.int .u8 0,.slice none 0 0]) rfl rfl rfl rfl (bU) rfl Wj Wz WZ #[.int .u16 0,.int .u8 0,.slice none 0 0] Wz ?_);intro wz nu BP ef;go_wp2_with(with_reducible refine h_B ?_);exact zv rfl nu rfl rfl rfl underlying42 rfl Wj rfl (zbG hR hlt hF lp BP HG.out G0.out HO.out HW.out ⟨HF.out,fB⟩ sU.out)
 have HG:Hid (g.err f=EE):=Q1 Ti.out.symm;have HNE:=Q1 he;have h1:((EE:Int)!=0)=true:=by simp;omega
 have fL:=hlt gb hF;have pq:=bw.size;clear he f0 f1 f2 f3 f4 f5 f6 f7;go_wp2_with(with_reducible refine h_B ?_);refine zc (zn (v:=.bool true) (vs:=[.bool true]) rfl rfl rfl rfl cT rfl Wj Wz WZ #[.slice A l.length c,.bool true] Wz ?_);intro w6 di bz fc;have md:=dv.grown bz (sne Wq);have rO:=nk.grown bz (sne Wq);have il:KeepF F w w6:=(KeepF.below bw).trans (KeepF.grown (F:=F) bz (fun g hg=>.inl MJ)) (fun g hg=>.inl hg);clear cT dv nk bw bz c0 c1 n0 n1 n2;go_wp2_with(with_reducible refine h_B ?_);refine zc (zn (v:=.slice none 0 0) (vs:=[.slice none 0 0]) rfl rfl rfl rfl di rfl Wj Wz WZ #[.slice none 0 0,.bool true] Wz ?_);intro w7 iR H7 uv;have Ah:=md.grown H7 (sne Wq);have Og:=rO.grown H7 (sne Wq);have iI:KeepF F w w7:=il.trans (KeepF.grown (F:=F) H7 (fun g hg=>.inl MJ)) (fun g hg=>.inl hg);clear di md rO il H7;have n0:=(Og).c0;have n1:=(Og).c1;have n2:=(Og).c2;go_wp2_with(with_reducible refine h_B ?_);refine zc (zn (v:=.agg #[.int .u16 0,.int .u8 0,.slice none 0 0]) (vs:=[.int .u16 0,.int .u8 0,.slice none 0 0]) rfl rfl rfl rfl (Ah) rfl Wj Wz WZ #[.int .u16 0,.int .u8 0,.slice none 0 0] Wz ?_);intro wz nu BP ef;go_wp2_with(with_reducible refine h_B ?_);have tg:=iR.grown BP (sne Wq);have gz:KeepF F w wz:=iI.trans (.grown (F:=fun g=>g=rb) BP (fun g hg=>.inl Hq)) (fun g hg=>.inr (by rw[hg];exact lp));exact zv rfl nu rfl rfl rfl underlying42 rfl Wj rfl (XX hlt tg (Own.none_ _ _ _ _) (fun k h=>by cases h) hF gz (k:=EE) HG.out HNE.out)
end Go.PH
section
namespace Go.PH
inductive Vl where
 | mk (kind n:Nat) (s:List UInt8) (keys:List (List UInt8)) (list:List Vl)
namespace Vl
def kind:Vl→Nat|mk k _ _ _ _=>k
def n:Vl→Nat|mk _ n _ _ _=>n
def s:Vl→List UInt8|mk _ _ s _ _=>s
def keys:Vl→List (List UInt8)|mk _ _ _ k _=>k
def list:Vl→List Vl|mk _ _ _ _ l=>l
theorem eta(v:Vl):v=mk v.kind v.n v.s v.keys v.list:=by cases v;rfl
theorem lt(v:Vl){x:Vl}(h:x∈v.list):SizeOf.sizeOf x<SizeOf.sizeOf v:=by
 cases v with
 | mk k n s keys l=>
  have:=List.sizeOf_lt_of_mem (show x∈l from h);simp only[mk.sizeOf_spec];omega
theorem ind{P:Vl→Prop}(h:∀v,(∀x∈v.list,P x)→P v):∀v,P v:=by
 have key:∀(m:Nat) (v:Vl),SizeOf.sizeOf v≤m→P v:=by
  intro m
  induction m with
  | zero=>
   intro v hv;(refine h v fun x hx=>?_);have:=v.lt hx
   omega
  | succ m ih=>
   intro v hv;(refine h v fun x hx=>ih x ?_);have:=v.lt hx;omega
 exact fun v=>key _ v (q0 _)
end Vl
def vl0:Vl:=.mk 0 0 [] [] []
instance : Inhabited Vl := ⟨vl0⟩
def xK:Nat→Vl→Bool
 | 0,_=>true
 | m+1,v=>v.list.any (xK m)
mutual
def cntV:Vl→Int→Int
 | .mk _ _ _ _ l,m=>cntL l (m-1)
def cntL:List Vl→Int→Int
 | [],m=>m
 | x::l,m=>if m<0 then m else cntL l (cntV x m)
end
theorem ZC(v:Vl)(m:Int):cntV v m=cntL v.list (m-1):=by cases v;rw[cntV];rfl
theorem YL(l:List Vl){m:Int}(h:m<0):cntL l m=m:=by
 cases l with
 | nil=>rw[cntL]
 | cons x l=>rw[cntL,if_pos h]
theorem YM(x:Vl)(l:List Vl){m:Int}(h:¬m<0):cntL (x::l) m=cntL l (cntV x m):=by rw[cntL,if_neg h]
mutual
theorem jF:∀(v:Vl) (m:Int),cntV v m≤m-1
 | .mk _ _ _ _ l,m=>by rw[cntV];exact vB l (m-1)
theorem vB:∀(l:List Vl) (m:Int),cntL l m≤m
 | [],m=>by rw[cntL];omega
 | x::l,m=>by
  rw[cntL];split
  ·omega
  have h1:=jF x m;have h2:=vB l (cntV x m);omega
end
mutual
theorem Qg:∀(v:Vl) (m:Int), -1≤m→(0≤m→ -1≤cntV v m)
 | .mk _ _ _ _ l,m,h,h0=>by rw[cntV];exact KW l (m-1) Wq
theorem KW:∀(l:List Vl) (m:Int), -1≤m→ -1≤cntL l m
 | [],m,h=>by rw[cntL];omega
 | x::l,m,h=>by
  rw[cntL];split
  ·omega
  exact KW l _ (Qg x m h Wq)
end
def xC(l:List (List UInt8))(plain:List UInt8→Bool):Bool:=l.all (fun k=>decide (1≤k.length)&&decide (k.length≤255)&&plain k)&&decide l.Nodup
mutual
def mayV(plain:List UInt8→Bool):Vl→Bool
 | .mk k n s keys l=>
  (decide (k=168)||keys.isEmpty)&&(decide (k=168)||decide (k=169)||l.isEmpty)&&(decide (k=149)||decide (k=160)||s.isEmpty)&&decide (s.length≤4096)&&
  (if k=8 then decide (n≤1)else if k=2 then decide (n≤255)else if k=49∨k=50 then true
   else if k=240∨k=160 then decide (n=0)
   else if k=149 then plain s&&decide (n=0)
   else if k=168 then decide (keys.length=l.length)&&xC keys plain&&decide (n=0)
   else if k=169 then decide (n=0)else false)&&mayL plain l
def mayL(plain:List UInt8→Bool):List Vl→Bool
 | []=>true
 | x::l=>mayV plain x&&mayL plain l
end
theorem zaV(plain:List UInt8→Bool)(l:List Vl):mayL plain l=l.all (mayV plain):=by
 induction l with
 | nil=>rw[mayL];rfl
 | cons x l ih=>rw[mayL,ih];rfl
mutual
def yJ:Vl→Vl→Bool
 | .mk k n s keys l,v=>decide (k=v.kind)&&decide (n=v.n)&&decide (s=v.s)&&decide (keys=v.keys)&&xu l v.list
def xu:List Vl→List Vl→Bool
 | [],[]=>true
 | x::l,y::m=>yJ x y&&xu l m
 | _,_=>false
end
mutual
theorem jY:∀(v u:Vl),yJ v u=true↔v=u
 | .mk k n s keys l,.mk k' n' s' keys' l'=>by
  rw[yJ];simp only[Vl.kind,Vl.n,Vl.s,Vl.keys,Vl.list,Bool.and_eq_true,Xl l l',Vl.mk.injEq];constructor
  ·rintro⟨⟨⟨⟨a,b⟩,c⟩,d⟩,e⟩;exact⟨of_decide_eq_true a,of_decide_eq_true b,of_decide_eq_true c,of_decide_eq_true d,e⟩
  rintro⟨a,b,c,d,e⟩;exact⟨⟨⟨⟨decide_eq_true a,decide_eq_true b⟩,decide_eq_true c⟩,decide_eq_true d⟩,e⟩
theorem Xl:∀(l m:List Vl),xu l m=true↔l=m
 | [],[]=>by simp[xu]
 | [],y::m=>by simp[xu]
 | x::l,[]=>by simp[xu]
 | x::l,y::m=>by
  rw[xu,Bool.and_eq_true,jY x y,Xl l m,List.cons.injEq]
end
instance : DecidableEq Vl := fun v u => if h : yJ v u = true then isTrue ((jY v u).1 h) else isFalse fun e => h ((jY v u).2 e)
end Go.PH
end
section
namespace Go.PH
open Go.RowKit
structure VH where
 A1:Option Addr
 c1:Nat
 A2:Option Addr
 c2:Nat
def txV(s:List UInt8):Value:=.string (str s)
def vlC(p:Vl×VH):List Value:=[.int .u8 (p.1.kind:Int),.int .u64 (p.1.n:Int),.string (str p.1.s),.slice p.2.A1 p.1.keys.length p.2.c1,.slice p.2.A2 p.1.list.length p.2.c2]
def vlV(v:Vl)(h:VH):Array Value:=#[.int .u8 (v.kind:Int),.int .u64 (v.n:Int),.string (str v.s),.slice h.A1 v.keys.length h.c1,.slice h.A2 v.list.length h.c2]
theorem vlShape:RecShape vlC 5 where
 len _:=rfl
 one a u hu:=by simp[vlC]at hu;rcases hu with rfl|rfl|rfl|rfl|rfl<;>rfl
 pos:=by omega
def RdX(w:World)(F:Nat→Prop)(size:Nat)(A:Option Addr)(n c:Nat)(xs:List Value):Prop:=Rd w w.heap.size size A n c xs∧(0<n→∀g,blk A=some g→F g)
theorem KV{w w':World}{p:Addr}(h:w'.heap[p.block]?=w.heap[p.block]?):w'.cell? p=w.cell? p:=by
 unfold World.cell?;rw[h]
theorem RdX.keep{w w':World}{F:Nat→Prop}{size n c:Nat}{A:Option Addr}{xs:List Value}(h:RdX w F size A n c xs)(hk:∀g,F g→w'.heap[g]?=w.heap[g]?)(hs:w.heap.size≤w'.heap.size):RdX w' F size A n c xs:=by
 obtain⟨h1,h2⟩:=h;refine⟨⟨h1.len,h1.cap,h1.max,fun hn=>?_⟩,h2⟩;obtain⟨b,off,e,hb,hc⟩:=h1.at_ hn;subst e;exact⟨b,off,rfl,KS hb hs,fun j u hu=>(KV (hk b (h2 hn b rfl))).trans (hc j u hu)⟩
theorem RdX.mono{w:World}{F G:Nat→Prop}{size n c:Nat}{A:Option Addr}{xs:List Value}(h:RdX w F size A n c xs)(hF:∀g,F g→G g):RdX w G size A n c xs:=⟨h.1,fun hn g hg=>hF g (h.2 hn g hg)⟩
theorem RdX.nil(w:World)(F:Nat→Prop)(size c:Nat)(A:Option Addr)(hc:c≤maxLen):RdX w F size A 0 c []:=⟨Rd.nil _ _ _ _ hc _,fun h=>absurd h (Nat.lt_irrefl 0)⟩
theorem RdX.of_own{w:World}{F:Nat→Prop}{base e size n c:Nat}{A:Option Addr}{xs:List Value}(h:Own w base e size A n c xs)(hF:∀g,blk A=some g→F g):RdX w F size A n c xs:=⟨Rd.of_own h,fun _=>hF⟩
inductive RV (w:World) (F:Nat→Prop):Vl→VH→Prop
 | mk {v:Vl} {h:VH} (xs:List (Vl×VH)) (hk:v.kind<256) (hn:v.n<18446744073709551616) (hs:v.s.length≤140737488351232) (hK:RdX w F 1 h.A1 v.keys.length h.c1 (v.keys.map txV)) (bI:∀k∈v.keys,k.length≤140737488351232)
   (h1:v.keys.length≤140737488351232) (h2:v.list.length≤140737488351232) (hL:RdX w F 5 h.A2 v.list.length h.c2 (rowC vlC xs)) (hx:xs.map (·.1)=v.list) (hE:∀p∈xs,RV w F p.1 p.2):RV w F v h
theorem RV.keep{w w':World}{F:Nat→Prop}{v:Vl}{h:VH}(hv:RV w F v h)(hk:∀g,F g→w'.heap[g]?=w.heap[g]?)(hs:w.heap.size≤w'.heap.size):RV w' F v h:=by
 induction hv with
 | mk xs a1 a2 a3 a4 a5 a6 a7 a8 a9 _ ih=>exact⟨xs,a1,a2,a3,a4.keep hk hs,a5,a6,a7,a8.keep hk hs,a9,ih⟩
theorem RV.mono{w:World}{F G:Nat→Prop}{v:Vl}{h:VH}(hv:RV w F v h)(hF:∀g,F g→G g):RV w G v h:=by
 induction hv with
 | mk xs a1 a2 a3 a4 a5 a6 a7 a8 a9 _ ih=>exact⟨xs,a1,a2,a3,a4.mono hF,a5,a6,a7,a8.mono hF,a9,ih⟩
theorem RV.under{w w':World}{B:Nat}{v:Vl}{h:VH}(hv:RV w (fun g=>g<B) v h)(hB:Below B w w')(_hs:B≤w.heap.size):RV w' (fun g=>g<B) v h:=hv.keep (fun g hg=>hB.block g hg) hB.size
theorem RV.zero(w:World)(F:Nat→Prop):RV w F vl0 ⟨none,0,none,0⟩:=
 ⟨[],by decide,by decide,by simp[vl0,Vl.s],RdX.nil _ _ _ _ _ WX,fun k hk=>(by cases hk),by simp[vl0,Vl.keys],by simp[vl0,Vl.list],RdX.nil _ _ _ _ _ WX,rfl,fun p hp=>by cases hp⟩
theorem RV.parts{w:World}{F:Nat→Prop}{v:Vl}{h:VH}(hv:RV w F v h):∃xs:List (Vl×VH),xs.map (·.1)=v.list∧RdX w F 5 h.A2 v.list.length h.c2 (rowC vlC xs)∧(∀p∈xs,RV w F p.1 p.2)∧RdX w F 1 h.A1 v.keys.length h.c1 (v.keys.map txV):=by
 cases hv with
 | mk xs a1 a2 a3 a4 a5 a6 a7 a8 a9 a10=>exact⟨xs,a9,a8,a10,a4⟩
theorem RV.bounds{w:World}{F:Nat→Prop}{v:Vl}{h:VH}(hv:RV w F v h):v.kind<256∧v.n<18446744073709551616∧v.s.length≤140737488351232∧(∀k∈v.keys,k.length≤140737488351232)∧v.keys.length≤140737488351232∧v.list.length≤140737488351232:=by
 cases hv with
 | mk xs a1 a2 a3 a4 a5 a6 a7 a8 a9 a10=>exact⟨a1,a2,a3,a5,a6,a7⟩
abbrev RVw(w:World)(v:Vl)(h:VH):Prop:=RV w (fun g=>g<w.heap.size) v h
theorem RV.up{w w':World}{v:Vl}{h:VH}(hv:RVw w v h)(hB:Below w.heap.size w w'):RVw w' v h:=(hv.keep (fun g hg=>hB.block g hg) hB.size).mono (fun g hg=>KS hg hB.size)
theorem RV.elem{w:World}{v:Vl}{h:VH}(hv:RVw w v h){i:Nat}(hi:i<v.list.length):∃b off hx,h.A2=some ⟨b,off,none⟩∧RVw w v.list[i] hx∧∀W,Below w.heap.size w W→
  W.cell? ⟨b,off+i*5,none⟩=some (.int .u8 (v.list[i].kind:Int))∧W.cell? ⟨b,off+i*5+1,none⟩=some (.int .u64 (v.list[i].n:Int))∧W.cell? ⟨b,off+i*5+2,none⟩=some (.string (str v.list[i].s))∧
  W.cell? ⟨b,off+i*5+3,none⟩=some (.slice hx.A1 v.list[i].keys.length hx.c1)∧W.cell? ⟨b,off+i*5+4,none⟩=some (.slice hx.A2 v.list[i].list.length hx.c2):=by
 obtain⟨xs,e,h1,h2,_⟩:=hv.parts;obtain⟨b,off,hA,hb,hl,hc⟩:=xF vlShape h1.1 hi;have hm:xs[i]∈xs:=Vy hl
 have hx:xs[i].1=v.list[i]:=by
  have:(xs.map (·.1))[i]'zAh=v.list[i]:=by simp only[e]
  simpa using this
 refine⟨b,off,xs[i].2,hA,hx▸h2 _ hm,fun W hW=>?_⟩;rw[←hx];exact⟨(hW.cell hb).trans (hc 0 _ rfl),(hW.cell hb).trans (hc 1 _ rfl),(hW.cell hb).trans (hc 2 _ rfl),(hW.cell hb).trans (hc 3 _ rfl),(hW.cell hb).trans (hc 4 _ rfl)⟩
theorem RV.key{w:World}{v:Vl}{h:VH}(hv:RVw w v h){i:Nat}(hi:i<v.keys.length):∃b off,h.A1=some ⟨b,off,none⟩∧∀W,Below w.heap.size w W→W.cell? ⟨b,off+i,none⟩=some (.string (str v.keys[i])):=by
 obtain⟨xs,_,_,_,h1⟩:=hv.parts;obtain⟨b,off,u,e,hb,hu,hc⟩:=h1.1.at_k hi;refine⟨b,off,e,fun W hW=>?_⟩;rw[List.getElem?_map,List.getElem?_eq_getElem hi]at hu;injection hu with hu
 rw[hW.cell (p:=⟨b,off+i,none⟩) hb,hc,←hu];rfl
theorem zg(w:World)(cs:Array Value)(t:TypeId):∃(b:Nat) (v:World),b=w.heap.size∧v=w.alloc (.cells cs t)∧Box v b t cs∧Below w.heap.size w v:=
 ⟨_,_,rfl,rfl,Box.new w cs t,(KL _ _).alloc (q0 _) _⟩
end Go.PH
end
namespace Go.PH
open Go.RowKit Go.Proofs Go.Proofs.Tryz
variable {gb k : Nat} {F : Nat → Prop} {w : World}
def CntR(w:World)(v:Vl)(m:Int)(e:Ending)(w':World):Prop:=e= .returned (.int .i64 (cntV v m))∧Below w.heap.size w w'
theorem K3(v:Vl):∀(h:VH) (m:Int) (w:World),RVw w v h→0≤m→m≤1000000→Calls prog 148 #[.agg (vlV v h),.int .i64 m] w (CntR w v m):=by
 refine Vl.ind (P:=fun v=>∀(h:VH) (m:Int) (w:World),RVw w v h→0≤m→m≤1000000→Calls prog 148 #[.agg (vlV v h),.int .i64 m] w (CntR w v m)) ?_ v;intro v ih h m w hv sI gF;obtain⟨K1,j1,K2,j2⟩:=h;unfold vlV;have BE:=fun{i:Nat} (hi:i<v.list.length)=>hv.elem hi
 simp only at BE ⊢;obtain⟨N,hN⟩:∃N,N=v.list.length:=⟨_,rfl⟩
 have GX:N≤140737488351232:=by rw[hN];exact hv.bounds.2.2.2.2.2
 have HV:=Q1 hv;have HE:Hid (cntV v m=cntL v.list (m-1)):=Q1 (ZC v m);unfold CntR;rw[HE.out];rw[←hN];have HN:=Q1 hN;clear hN hv;have IH:=Q1 ih;clear ih;obtain⟨xb,w1,bD,bo,hX,Ha⟩:=zg w #[.int .u8 (v.kind:Int),.int .u64 (v.n:Int),.string (str v.s),.slice K1 v.keys.length j1,.slice K2 N j2] 78;have c4:=hX.c4;go_enter func148,ntmps148;go_upto_region 1 with fail;rw[←bD,←bo];clear bD bo;go_wp2_with(with_reducible refine h_A ?_);go_loopw [1,12] (fun s1 RL wr=>∃(i:Nat) (q:Int),i≤N∧RL= .int .i64 i∧s1= .int .i64 q∧ -1≤q∧q≤1000000∧Hid (cntL (v.list.drop i) q=cntL v.list (m-1))∧Below w.heap.size w wr) (fun _ RL _=>N-(Q2 RL).toNat)
 case atStart=>exact⟨0,m-1,by omega,rfl,by first|rfl|go_num,by omega,by omega,Q1 rfl,Ha⟩
 obtain⟨i,q,hi,rfl,rfl,n7,eN,HC,hB⟩:=hrel;clear c4 hX;by_cases hlt:i<N
 ·have g1:(i:Int)<(N:Int):=by omega
  have BB:i<v.list.length:=by rw[←HN.out];exact hlt
  obtain⟨b,off,hx,rfl,ek,HX⟩:=BE BB;obtain⟨k0,k1,k2,k3,k4⟩:=HX wr hB;have HD:Hid (cntL (v.list.drop i) q=if q<0 then q else cntL (v.list.drop (i+1)) (cntV v.list[i] q)):=Q1 (by rw[K0 BB,cntL]);have hm:v.list[i]∈v.list:=Vy BB;have bO:=fun(W:World) (hW:Below w.heap.size w W) (h0:0≤q)=>IH.out _ hm hx q W (ek.up hW) h0 eN
  clear HX BE ek hm;have bC:=fun h0=>Qg v.list[i] q n7 h0
  have Ty:=jF v.list[i] q;generalize v.list[i]=x at*;by_cases At:q<0
  ·have qq9q:=();exact Z1y_
  exact Z1y_
 have HQ:Hid (q=cntL v.list (m-1)):=Q1 (by rw[←HC.out,ky MX,cntL]);have g1:¬(i:Int)<(N:Int):=by omega
 clear BE;exact Z6e_
theorem za1(p:Vl→Bool)(bx:Nat)(v:Vl)(h:VH)(w:World)(hv:RVw w v h)(bC:∀x∈v.list,∀hx W,Below w.heap.size w W→RVw W x hx→Calls prog 172 (#[.agg (vlV x hx)]++ #[.pointer (some ⟨bx,0,none⟩)]) W (fun e W'=>e= .returned (.bool (p x))∧Below W.heap.size W W')):
  Calls prog 183 #[.slice h.A2 v.list.length h.c2,.func (.func 172) #[] #[.pointer (some ⟨bx,0,none⟩)]] w fun e w'=>(∃r:Int,e= .returned (.int .i64 r)∧decide (0≤r)=v.list.any p)∧Below w.heap.size w w':=by
 exact Z12_
theorem za2(p:Vl→Bool)(bx:Nat)(v:Vl)(h:VH)(w:World)(hv:RVw w v h)(bC:∀x∈v.list,∀hx W,Below w.heap.size w W→RVw W x hx→Calls prog 172 (#[.agg (vlV x hx)]++ #[.pointer (some ⟨bx,0,none⟩)]) W (fun e W'=>e= .returned (.bool (p x))∧Below W.heap.size W W')):
  Calls prog 171 #[.slice h.A2 v.list.length h.c2,.func (.func 172) #[] #[.pointer (some ⟨bx,0,none⟩)]] w fun e w'=>e= .returned (.bool (v.list.any p))∧Below w.heap.size w w':=by
 have qqdm:=();exact Z36_
def Qo(w:World)(v:Vl)(m:Nat)(e:Ending)(w':World):Prop:=e= .returned (.bool (xK m v))∧Below w.heap.size w w'
theorem K9(x:Vl)(hx:VH)(m bx:Nat)(W:World)(hb:W.cell? ⟨bx,0,none⟩=some (.int .i64 ((m+1:Nat):Int)))(hv:RVw W x hx)(hm:m≤1000)(bO:∀W',Below W.heap.size W W'→Calls prog 147 #[.agg (vlV x hx),.int .i64 (m:Int)] W' (Qo W' x m)):
  Calls prog 172 #[.agg (vlV x hx),.pointer (some ⟨bx,0,none⟩)] W (Qo W x m):=by
 exact Z1t_
theorem JR(m:Nat)(v:Vl):xK (m+1) v=v.list.any (xK m):=rfl
theorem za3(v:Vl):∀(h:VH) (m:Nat) (w:World),RVw w v h→m≤1000→Calls prog 147 #[.agg (vlV v h),.int .i64 (m:Int)] w (Qo w v m):=by
 refine Vl.ind (P:=fun v=>∀(h:VH) (m:Nat) (w:World),RVw w v h→m≤1000→Calls prog 147 #[.agg (vlV v h),.int .i64 (m:Int)] w (Qo w v m)) ?_ v;intro v ih h m w hv hm;unfold vlV;obtain⟨q,hq⟩:∃q:Int,q=(m:Int):=⟨_,rfl⟩
 rw[←hq];obtain⟨xb,w1,bD,bo,hX,Ha⟩:=zg w #[.int .u8 (v.kind:Int),.int .u64 (v.n:Int),.string (str v.s),.slice h.A1 v.keys.length h.c1,.slice h.A2 v.list.length h.c2] 78;obtain⟨yb,w2,iB,dF,hY,Hc⟩:=zg w1 #[.int .i64 q] 3;have BU:xb+1=yb:=by rw[iB,bo,bD];simp
 clear iB;have hB:=Ha.trans (Hc.mono Ha.size);have Hk:=hX.below Hc;have c4:=Hk.c4;have y0:=hY.c0;have ff:=hv.up hB;unfold Qo
 cases m with
 | zero=>
  have hd:xK 0 v=true:=rfl;rw[hd];have hz:(q==0)=true:=by rw[hq];rfl
  clear hq ih;go_enter func147,ntmps147;go_upto_region 1 with fail;rw[←bD,←bo,BU,←dF];clear bD bo BU dF;go_wp2_with(with_reducible refine h_A ?_);go_ret
  exact⟨rfl,hB⟩
 | succ m=>
  have lW:=za2 (xK m) yb v h w2 ff (fun x hx nH W hW ek=>by
   refine K9 x nH m yb W ?_ ek Wq (fun W' Gq=>ih x hx nH m W' (ek.up Gq) Wq);rw[hW.cell (p:=⟨yb,0,none⟩) hY.lt,←hq]
   exact y0)
  rw[JR];generalize v.list.any (xK m)=r at*;have hz:(q==0)=false:=by simp;omega
  clear ih hq;go_enter func147,ntmps147;go_upto_region 1 with fail;rw[←bD,←bo,BU,←dF];clear bD bo BU dF;have AR:∀(fn:Fn) (first cap:Array Value) (w:World),(Instr.makeFunc fn first cap).run prog w= .ok (.func fn first cap) w:=fun _ _ _ _=>rfl
  go_wp2_with(with_reducible refine h_A ?_);refine lW.mono ?_;rintro e w3 ⟨rfl,Hh⟩;go_wp2_with(with_reducible refine h_A ?_);go_ret;exact⟨rfl,hB.trans (Hh.mono hB.size)⟩
end Go.PH
section
namespace Go.PH
mutual
def vlB:Vl→List UInt8
 | .mk k n s keys l=>UInt8.ofNat k::(if k=8∨k=2 then be 1 n else if k=50∨k=49 then be 8 n else if k=149 then be 2 s.length++s else if k=160 then be 4 s.length++s
   else if k=168∨k=169 then be 4 (be 4 l.length++yy (decide (k=168)) keys l).length++(be 4 l.length++yy (decide (k=168)) keys l)else [])
def yy(m:Bool):List (List UInt8)→List Vl→List UInt8
 | _,[]=>[]
 | ks,x::l=>(if m then be 1 (ks.headD []).length++ks.headD []else [])++vlB x++yy m ks.tail l
end
def yu(k n:Nat)(s inn:List UInt8):List UInt8:=if k=8∨k=2 then be 1 n else if k=50∨k=49 then be 8 n else if k=149 then be 2 s.length++s else if k=160 then be 4 s.length++s
   else if k=168∨k=169 then be 4 inn.length++inn else []
def innB(v:Vl):List UInt8:=be 4 v.list.length++yy (decide (v.kind=168)) v.keys v.list
theorem Yh(v:Vl):vlB v=UInt8.ofNat v.kind::yu v.kind v.n v.s (innB v):=by
 cases v;rw[vlB];rfl
theorem xX(m:Bool)(ks:List (List UInt8)):yy m ks []=[]:=by rw[yy]
theorem qk(m:Bool)(ks:List (List UInt8))(x:Vl)(l:List Vl):yy m ks (x::l)=(if m then be 1 (ks.headD []).length++ks.headD []else [])++vlB x++yy m ks.tail l:=by rw[yy]
theorem Xu{v:Vl}{i:Nat}(hi:i<v.list.length)(hk:i<v.keys.length):yy true (v.keys.drop i) (v.list.drop i)=((be 1 v.keys[i].length++v.keys[i])++vlB v.list[i])++yy true (v.keys.drop (i+1)) (v.list.drop (i+1)):=by
 rw[K0 hi,qk,K0 hk];simp only[List.headD_cons,List.tail_cons,if_true,List.append_assoc]
theorem Yi{v:Vl}{i:Nat}(hi:i<v.list.length)(ks ks':List (List UInt8)):yy false ks (v.list.drop i)=vlB v.list[i]++yy false ks' (v.list.drop (i+1)):=by
 have key:∀(l:List Vl) (a b:List (List UInt8)),yy false a l=yy false b l:=by
  intro l
  induction l with
  | nil=>intro a b;rw[xX,xX]
  | cons x l ih=>intro a b;rw[qk,qk,ih a.tail b.tail];simp
 rw[K0 hi,qk,key _ ks.tail ks'];simp
end Go.PH
end
namespace Go.PH
open Go.RowKit Go.Proofs Go.Proofs.Tryz
variable {gb k : Nat} {F : Nat → Prop} {w : World}
theorem Vq(v:Vl):∀(h:VH) (m:Int) (w:World),RVw w v h→0≤m→m≤1000000→Calls prog 144 #[.agg (vlV v h),.int .i64 m] w (CntR w v m):=by
 refine Vl.ind (P:=fun v=>∀(h:VH) (m:Int) (w:World),RVw w v h→0≤m→m≤1000000→Calls prog 144 #[.agg (vlV v h),.int .i64 m] w (CntR w v m)) ?_ v;intro v ih h m w hv sI gF;obtain⟨K1,j1,K2,j2⟩:=h;unfold vlV;have BE:=fun{i:Nat} (hi:i<v.list.length)=>hv.elem hi
 simp only at BE ⊢;obtain⟨N,hN⟩:∃N,N=v.list.length:=⟨_,rfl⟩
 have GX:N≤140737488351232:=by rw[hN];exact hv.bounds.2.2.2.2.2
 rw[←hN];have HN:=Q1 hN;clear hN hv;have IH:=Q1 ih;clear ih;obtain⟨xb,w1,bD,bo,hX,Ha⟩:=zg w #[.int .u8 (v.kind:Int),.int .u64 (v.n:Int),.string (str v.s),.slice K1 v.keys.length j1,.slice K2 N j2] 78;have c4:=hX.c4;have HE:Hid (cntV v m=cntL v.list (m-1)):=Q1 (ZC v m);unfold CntR;rw[HE.out];go_enter func144,ntmps144;go_upto_region 1 with fail;rw[←bD,←bo];clear bD bo;go_wp2_with(with_reducible refine h_A ?_);go_loopw [1,5] (fun s1 s5 wr=>∃(i:Nat) (q:Int),i≤N∧s5= .int .i64 i∧s1= .int .i64 q∧ -1≤q∧q≤1000000∧Hid (cntL (v.list.drop i) q=cntL v.list (m-1))∧Box wr xb 78 #[.int .u8 (v.kind:Int),.int .u64 (v.n:Int),.string (str v.s),.slice K1 v.keys.length j1,.slice K2 N j2]∧Below w.heap.size w wr) (fun _ s5 _=>N-(Q2 s5).toNat)
 case atStart=>exact⟨0,m-1,by omega,rfl,by first|rfl|go_num,by omega,by omega,Q1 rfl,hX,Ha⟩
 clear c4 hX;obtain⟨i,q,hi,rfl,rfl,n7,eN,HC,hX,hB⟩:=hrel;have c4:=hX.c4;by_cases hlt:i<N∧0≤q
 ·obtain⟨hlt,At⟩:=hlt;have g1:(i:Int)<(N:Int):=by omega
  have BB:i<v.list.length:=by rw[←HN.out];exact hlt
  obtain⟨b,off,hx,rfl,ek,HX⟩:=BE BB;obtain⟨k0,k1,k2,k3,k4⟩:=HX wr hB;have HD:Hid (cntL (v.list.drop i) q=cntL (v.list.drop (i+1)) (cntV v.list[i] q)):=Q1 (by rw[K0 BB,cntL,if_neg Wq]);have hm:v.list[i]∈v.list:=Vy BB;have h1:=IH.out _ hm hx q wr (ek.up hB) At eN;clear HX BE ek hm;have bC:=Qg v.list[i] q n7 At;have Ty:=jF v.list[i] q;generalize v.list[i]=x at*;have cL:Hid (cntL (v.list.drop (i+1)) (cntV x q)=cntL v.list (m-1)):=Q1 (by rw[←HC.out,HD.out]);unfold vlV at h1;go_wp2_with(with_reducible refine h_A ?_);refine h1.mono ?_;rintro e w3 ⟨rfl,Hh⟩;have ng:=hB.trans (Hh.mono hB.size);clear h1 k0 k1 k2 k3 k4 c4;go_wp2_with(with_reducible refine h_A ?_);exact⟨⟨i+1,cntV x q,by omega,by go_num,rfl,by omega,by omega,cL,hX.below Hh,ng⟩,by simp[Q2];omega⟩
 have HQ:Hid (q=cntL v.list (m-1)):=Q1 (by
  rw[←HC.out];by_cases h0:q<0
  ·rw[YL _ h0]
  ·rw[ky MX,cntL])
 clear BE;by_cases h2:i<N
 ·have g1:(i:Int)<(N:Int):=by omega
  have g2:¬0≤q:=by omega
  exact Z5x_
 have g1:¬(i:Int)<(N:Int):=by omega
 exact Z5x_
def DeepR'(w:World)(v:Vl)(m:Nat)(e:Ending)(w':World):Prop:=e= .returned (.bool (xK m v))∧Below w.heap.size w w'
theorem Vr(v:Vl):∀(h:VH) (m:Nat) (w:World),RVw w v h→m≤1000→True→Calls prog 143 #[.agg (vlV v h),.int .i64 (m:Int)] w (DeepR' w v m):=by
 refine Vl.ind (P:=fun v=>∀(h:VH) (m:Nat) (w:World),RVw w v h→m≤1000→True→Calls prog 143 #[.agg (vlV v h),.int .i64 (m:Int)] w (DeepR' w v m)) ?_ v;intro v ih h m w hv sI gF;obtain⟨K1,j1,K2,j2⟩:=h;unfold vlV;have BE:=fun{i:Nat} (hi:i<v.list.length)=>hv.elem hi
 simp only at BE ⊢;obtain⟨N,hN⟩:∃N,N=v.list.length:=⟨_,rfl⟩
 have GX:N≤140737488351232:=by rw[hN];exact hv.bounds.2.2.2.2.2
 rw[←hN];have HN:=Q1 hN;clear hN hv;have IH:=Q1 ih;clear ih;obtain⟨xb,w1,bD,bo,hX,Ha⟩:=zg w #[.int .u8 (v.kind:Int),.int .u64 (v.n:Int),.string (str v.s),.slice K1 v.keys.length j1,.slice K2 N j2] 78;have c4:=hX.c4;unfold DeepR';obtain⟨q,hq⟩:∃q:Int,q=(m:Int):=⟨_,rfl⟩
 rw[←hq]
 cases m with
 | zero=>
  have hd:xK 0 v=true:=rfl;rw[hd];have hz:(q==0)=true:=by rw[hq];rfl
  clear hq BE;go_enter func143,ntmps143;go_upto_region 1 with fail;rw[←bD,←bo];clear bD bo;go_wp2_with(with_reducible refine h_A ?_);go_ret
  exact⟨rfl,Ha⟩
 | succ m=>
  have HE:Hid (xK (m+1) v=v.list.any (xK m)):=Q1 rfl;rw[HE.out];have hz:(q==0)=false:=by simp;omega
  have hw:IntKind.i64.wrap (q-1)=(m:Int):=by rw[IntWalk.i64_in _ ⟨by omega,by omega⟩];omega
  have oH:q-1=(m:Int):=by omega
  have FZ:0<q:=by omega
  have sZ:q≤1001:=by omega
  clear hq;go_enter func143,ntmps143;go_upto_region 1 with fail;rw[←bD,←bo];clear bD bo;go_wp2_with(with_reducible refine h_A ?_);go_loopw [5] (fun s5 wr=>∃(i:Nat),i≤N∧s5= .int .i64 i∧Hid ((v.list.drop i).any (xK m)=v.list.any (xK m))∧Box wr xb 78 #[.int .u8 (v.kind:Int),.int .u64 (v.n:Int),.string (str v.s),.slice K1 v.keys.length j1,.slice K2 N j2]∧Below w.heap.size w wr) (fun s5 _=>N-(Q2 s5).toNat)
  case atStart=>exact⟨0,by omega,rfl,Q1 rfl,hX,Ha⟩
  clear c4 hX;obtain⟨i,hi,rfl,HC,hX,hB⟩:=hrel;have c4:=hX.c4;by_cases hlt:i<N
  ·(have g1:(i:Int)<(N:Int):=by omega);(have BB:i<v.list.length:=by rw[←HN.out];exact hlt);obtain⟨b,off,hx,rfl,ek,HX⟩:=BE BB;obtain⟨k0,k1,k2,k3,k4⟩:=HX wr hB;have HD:Hid ((v.list.drop i).any (xK m)=(xK m v.list[i]||(v.list.drop (i+1)).any (xK m))):=Q1 (by rw[K0 BB,List.any_cons]);have h1:=IH.out _ (Vy BB) hx m wr (ek.up hB) Wq trivial;clear HX BE ek;generalize v.list[i]=x at*;unfold vlV DeepR' at h1
   cases hp:xK m x
   ·exact Z2q_
   have qqcb:=();exact Z2q_
  have HQ:Hid (v.list.any (xK m)=false):=Q1 (by rw[←HC.out,ky MX];rfl);have g1:¬(i:Int)<(N:Int):=by omega
  clear BE;go_wp2_with(with_reducible refine h_A ?_);go_ret;rw[HQ.out];exact⟨rfl,hB⟩
end Go.PH
