/- Parts. -/
import Derived.Test.YtfbkameikhgciaaGreatDoorMg03
set_option linter.all false
set_option maxRecDepth 20000
set_option maxHeartbeats 8000000
open Go.RowKit.Below renaming refl → KL
open Go.Lib renaming hid → Q1, bytesWorld_size → yA
open List renaming map_append → K1, length_append → K2, take_of_length_le → VB, getElem?_eq_getElem → Vy, length_take → Vx, nil_append → q6, cons_append → q7, take_succ_eq_append_getElem → q8, getD → q9, length_cons → kI, getLast?_eq_getElem? → k8, take_succ_cons → k9, drop_succ_cons → vv, mem_cons → vz, drop_append_of_le_length → v0, drop_of_length_le → v5, take_append_of_le_length → j0, map_cons → zA, filter_append → z3, getElem?_take → z4, drop_take → z6, flatMap_append → z8, drop_drop → z9, append_assoc → yB
open Nat renaming le_refl → Q2, min_eq_left → q0, zero_add → q5, mul_one → kx, mod_eq_of_lt → j8, add_comm → z0, lt_of_lt_of_le → z1, add_zero → z2, eq_zero_or_pos → z5, le_trans → z7
open UInt8 renaming ofNat → K0
open Go.World renaming block_lt_of_cell? → KS, cell?_setCell_same → kv, cell?_setCell_other → ky, frozen?_of_block → zB
namespace Go.PH
open Go.RowKit Go.Proofs Go.Proofs.Tryz
variable {bad : Bool} {l : List UInt8} {b base c e g k n x : Nat} {F : Nat → Prop} {A : Option Addr} {row : Option Nat} {w w' : World}
def Qrd(F:Nat→Prop)(w:World)(b:Nat)(l:List UInt8)(bad:Bool):Prop:=
 ∃A n c,w.cell? ⟨b,0,none⟩=some (.slice A n c)∧w.cell? ⟨b,1,none⟩=some (.bool bad)∧w.frozen? ⟨b,0,none⟩=false∧w.frozen? ⟨b,1,none⟩=false∧RdB w w.heap.size A n c l∧blk A≠some b∧n≤140737488351240∧F b∧∀g,blk A=some g→F g
theorem Qrd.len(h:Qrd F w b l bad):l.length≤140737488351240:=by
 obtain⟨A,n,c,_,_,_,_,hr,_,hn,_⟩:=h;rw[hr.length];exact hn
theorem Qrd.lt(h:Qrd F w b l bad):b<w.heap.size:=by
 obtain⟨A,n,c,h0,_⟩:=h;exact KS w _ h0
theorem Qrd.kept(h:Qrd F w b l bad)(hg:w.grownBy w' row)(hne:∀g,row=some g→¬F g):Qrd F w' b l bad:=by
 obtain⟨A,n,c,h0,h1,mG,iC,hr,hA,hn,hF,wE⟩:=h;have hb:b<w.heap.size:=KS w _ h0;refine⟨A,n,c,hg.cell h0 (fun e=>hne _ e.symm hF),hg.cell h1 (fun e=>hne _ e.symm hF),(hg.frozen_far ⟨b,0,none⟩ hb (fun e=>hne _ e.symm hF)).trans mG,(hg.frozen_far ⟨b,1,none⟩ hb (fun e=>hne _ e.symm hF)).trans iC,(hr.grown_ne hg (Q2 _) ?_).more hg.size,hA,hn,hF,wE⟩;rcases hA:blk A with _|g
 ·exact .inl rfl
 exact .inr fun e=>hne g e.symm (wE g hA)
theorem Qrd.below(h:Qrd F w b l bad)(hB:Below w.heap.size w w'):Qrd F w' b l bad:=h.kept (ZM hB none) Wz
theorem Qrd.drew(h:Qrd F w b l bad):Qrd F w.drew b l bad:=h.kept (ZN w none) Wz
theorem Qrd.inF(h:Qrd F w b l bad):F b:=by
 obtain⟨A,n,c,h0,h1,mG,iC,hr,hA,hn,hF,wE⟩:=h;exact hF
theorem xO(h:Qrd F w b l bad):
  Calls prog 163 #[.pointer (some ⟨b,0,none⟩)] w fun e w'=>e= .returned (.tuple #[])∧Qrd F w' b [] true∧w.grownBy w' (some b):=by
 obtain⟨A,n,c,h0,h1,mG,iC,hr,hA,hn,hF⟩:=h;go_enter func163,ntmps163;go_wp2_with(with_reducible refine h_A ?_);go_end0;refine⟨rfl,⟨none,0,0,?_,?_,?_,?_,Rd.nil _ _ _ _ WX _,by simp[blk],by omega,hF.1,by simp[blk]⟩,(kj w ⟨b,1,none⟩ (.bool true)).trans (kj _ ⟨b,0,none⟩ (.slice none 0 0))⟩
 ·refine kv _ _ _ (u:=.slice A n c) ?_;rw[ky _ _ _ _ Wz];exact h0
 ·rw[ky _ _ _ _ Wz];exact kv _ _ _ h1
 ·simp[mG]
 simp[iC]
theorem XI(h:Qrd F w b l bad)(x:Int)(hx: -9223372036854775808≤x)(nH:x≤9223372036854775807):
  Calls prog 164 #[.pointer (some ⟨b,0,none⟩),.int .i64 x] w fun e w'=>∃A2 c2,e= .returned (.slice A2 (xe l bad x).1.length c2)∧Own w' w.heap.size 5 1 A2 (xe l bad x).1.length c2 ((xe l bad x).1.map u8v)∧
   Qrd F w' b (xe l bad x).2.1 (xe l bad x).2.2∧w.grownBy w' (some b):=by
 have h':=h;obtain⟨A,n,c,h0,h1,mG,iC,hr,hA,hn,hF⟩:=h;have hl:=hr.length;have fq:=hr.cap;by_cases d7:bad=true
 ·have qqdy:=();exact Z3b_
 obtain rfl:bad=false:=by simpa using d7
 by_cases sj:x<0
 ·have qqdz:=();exact Z3b_
 by_cases bQ:(l.length:Int)<x
 ·exact Z3b_
 obtain⟨m,rfl⟩:∃m:Nat,x=m:=⟨x.toNat,by omega⟩
 have hm:m≤l.length:=by omega
 have mR:m≤n:=by omega
 rw[xp hm];simp only[Vx,q0 hm];go_enter func164,ntmps164;go_wp2_with(with_reducible refine h_S ?_);refine zc (zbL slB rfl rfl rfl hr 0 m c (.inl ⟨rfl,rfl⟩) (.inr ⟨_,_,rfl,rfl⟩) (.inl ⟨rfl,rfl⟩) mq Wq Wq (Q2 _) Wq ?_);intro A1 dQ;simp only[Nat.zero_mul,kx,List.drop_zero,←List.map_take,Nat.sub_zero]at dQ;go_wp2_with(with_reducible refine h_S ?_);refine zc (yc slB rfl rfl rfl rfl (Own.none_ w w.heap.size _ _) dQ (zM _) Wq UJ (Q2 _) ?_);intro A2 c2 w1 bW bN _;have hB:Below w.heap.size w w1:=(KL _ _).grown bN (Q2 _) (by simp[blk]);simp only[q5,q6]at bW;have fZ:b<w.heap.size:=KS w _ h0;have Gz:w1.cell? ⟨b,0,none⟩=some (.slice A n c):=(hB.cell (p:=⟨b,0,none⟩) fZ).trans h0;have eS:w1.cell? ⟨b,1,none⟩=some (.bool false):=(hB.cell (p:=⟨b,1,none⟩) fZ).trans h1;have D6:w1.frozen? ⟨b,0,none⟩=false:=(zB (hB.block b fZ)).trans mG;have OX:w1.frozen? ⟨b,1,none⟩=false:=(zB (hB.block b fZ)).trans iC;have B1:RdB w1 w.heap.size A n c l:=hr.below hB;go_wp2_with(with_reducible refine h_S ?_);refine zc (kD slB rfl rfl rfl B1 m n c (.inr ⟨_,_,rfl,rfl⟩) (.inl ⟨rfl,rfl⟩) (.inl ⟨rfl,rfl⟩) mq Wq Wq (Q2 _) Wq ?_);intro A3 cj Up;have mr:blk A3≠some b:=by rw[Up];exact hA
 go_wp2_with(with_reducible refine h_S ?_);go_ret;have cf:∀g,blk A2=some g→w.heap.size≤g:=fun g hg=>(bW.blk_lt hg).1
 have pd:=kj w1 ⟨b,0,none⟩ (.slice A3 (n-m) (c-m));refine⟨A2,c2,by simp[Array.getD],?_,?_,?_⟩
 ·refine bW.kept pd (.inr fun e=>?_);rw[xh]at e;have:w.heap.size≤b:=cf _ e;omega
 ·refine⟨A3,n-m,c-m,?_,?_,?_,?_,?_,mr,by omega,hF.1,fun g hg=>hF.2 g (by rwa[Up]at hg)⟩
  ·exact kv _ _ _ Gz
  ·exact(ky _ _ _ _ Wz).trans eS
  ·simpa using D6
  ·simpa using OX
  have e3:(((l.map u8v).take (n*1)).drop (m*1))=(l.drop m).map u8v:=by
   rw[kx,kx,VB Hz,List.map_drop]
  rw[e3]at cj;have h4:RdB w1 w1.heap.size A3 (n-m) (c-m) (l.drop m):=cj.more hB.size;exact(h4.grown_ne pd (Q2 _) (.inr mr)).more pd.size
 exact(ZM hB (some b)).trans pd
theorem yZ(A:Option Addr)(n c:Nat)(l:List UInt8)(w:World)(hb:RdB w w.heap.size A n c l)(hn:n≤140737488351240):
  Calls prog 136 #[.slice A n c] w fun e w'=>∃b,e= .returned (.pointer (some ⟨b,0,none⟩))∧w.heap.size≤b∧Qrd (fun g=>w.heap.size≤g∧g<w'.heap.size) w' b l false∧Below w.heap.size w w':=by
 have hl:=hb.length;go_enter func136,ntmps136;go_wp2_with(with_reducible refine h_A ?_);refine zc (yc slB rfl rfl rfl rfl (Own.none_ w w.heap.size _ _) hb (zM _) Wq UJ (Q2 _) ?_);intro A2 c2 w1 bW bN _;have hB:Below w.heap.size w w1:=(KL _ _).grown bN (Q2 _) (by simp[blk]);simp only[q5,q6]at bW;go_wp2_with(with_reducible refine h_A ?_);go_ret;refine⟨w1.heap.size,by first|rfl|simp[Array.getD],hB.size,⟨A2,n,c2,?_,?_,?_,?_,?_,?_,hn,?_,?_⟩,hB.alloc hB.size _⟩
 ·simp
 ·simp
 ·simp
 ·simp
 ·exact Own.rd (base:=w.heap.size) (e:=5) (bW.alloc _)
 ·intro e;have:=(bW.blk_lt e).2;omega
 ·have:=hB.size;simp;omega
 intro g hg;have h1:=(bW.blk_lt hg).1;have h2:=(bW.blk_lt hg).2;simp;omega
theorem yG(h:Qrd F w b l bad)(x:Int)(hx: -9223372036854775808≤x)(nH:x≤9223372036854775807):
  Calls prog 137 #[.pointer (some ⟨b,0,none⟩),.int .i64 x] w fun e w'=>e= .returned (.int .u64 ((mnum l bad x).1:Nat))∧Qrd F w' b (mnum l bad x).2.1 (mnum l bad x).2.2∧w.grownBy w' (some b):=by
 exact Z16_
theorem yd(n i:Nat)(w:World)(hn:n<18446744073709551616)(hi8:i≤8):
  Calls prog 67 #[.int .u64 n,.int .i64 i] w fun e w'=>∃A2 c2,e= .returned (.slice A2 i c2)∧Own w' w.heap.size 5 1 A2 i c2 ((be i n).map u8v)∧Below w.heap.size w w':=by
 go_enter func67,ntmps67;go_wp2_with(with_reducible refine h_A ?_);go_loopw [6,5,0] (fun x v s wr=>∃(k c2 m:Nat) (A2:Option Addr),k≤i∧x= .int .i64 k∧v= .slice A2 k c2∧s= .int .u64 (m:Nat)∧m=n / 256 ^ k∧m<18446744073709551616∧Own wr w.heap.size 5 1 A2 k c2 ((be k n).map u8v)∧Below w.heap.size w wr) (fun x _ _ _=>i-(RowKit.intOf x).toNat)
 case atStart=>exact⟨0,0,n,none,by omega,rfl,rfl,rfl,by simp,hn,by simpa[be]using Own.none_ _ _ _ _,KL _ _⟩
 obtain⟨k,c2,m,A2,hk,rfl,rfl,rfl,hm,W3,ho,hB⟩:=hrel;have HM:=Q1 hm;clear hm;by_cases hlt:k<i
 ·have bZ:=yn (w:=wr) wr.heap.size #[Value.int .u8 ((m:Int) % 256)] 5 1 (Q2 _) WX rfl (size:=1) Wq;have Ha:Below w.heap.size w (wr.alloc (.cells #[Value.int .u8 ((m:Int) % 256)] 5)):=hB.alloc hB.size _;have dQ:=Own.rd (base:=w.heap.size) (e:=5) (ho.alloc (.cells #[Value.int .u8 ((m:Int) % 256)] 5));go_wp2_with(with_reducible refine h_A ?_);refine zc (yc (base:=wr.heap.size) slB rfl rfl rfl rfl bZ dQ (zM _) Wq UJ Wz ?_);intro A3 c3 w3 Bv H6 _;have Hh:Below w.heap.size w w3:=Ha.grown H6 (by have:=hB.size;simp;omega) (fun g hg=>by have:=(bZ.blk_lt hg).1;have:=hB.size;omega)
  have e3:((#[Value.int .u8 ((m:Int) % 256)]:Array Value).toList++(be k n).map u8v)=(be (k+1) n).map u8v:=by
   simp only[be,zA,u8v,q7,q6];rw[HM.out];simp
  rw[e3,z0]at Bv;have Pf:=Bv.base_le hB.size;have UA:m / 256=n / 256 ^ (k+1):=by rw[HM.out,Nat.div_div_eq_div_mul,Nat.pow_succ]
  have HMQ:=Q1 UA;clear UA e3;go_wp2_with(with_reducible refine h_A ?_);exact⟨⟨k+1,c3,m / 256,A3,by omega,by go_num,by simp[z0],by first|rfl|simp,HMQ.out,by omega,Pf,Hh⟩,by simp[RowKit.intOf];omega⟩
 obtain rfl:k=i:=by omega
 go_wp2_with(with_reducible refine h_A ?_);go_ret;exact⟨A2,c2,rfl,ho,hB⟩
theorem vT(f:Fr)(w:World)(hw:f.wf)(hl:f.load.length≤140737488351232):
  Calls prog 65 #[.agg (frV f)] w fun e w'=>e= .returned (.int .i64 f.err)∧Below w.heap.size w w':=by
 have qq7y:=();exact Z1f_
theorem YQ(b:Bool)(n:Nat)(w:World):Calls prog 66 #[.bool b,.int .u8 n] w fun e w'=>e= .returned (.int .u8 (bitv b n))∧w'=w:=by
 cases b
 ·have e1:bitv false n=0:=rfl;exact Z5k_
 have e1:bitv true n=n:=rfl;exact Z5k_
theorem YR(b:Bool)(n:Nat):bitv b n≤n:=by cases b<;>simp[bitv]
theorem Vg(f:Fr)(w:World)(hw:f.wf)(hl:f.load.length≤140737488351232):
  Calls prog 48 #[.agg (frV f)] w fun e w'=>∃A2 c2,e= .returned (.tuple #[.slice A2 f.put.length c2,.int .i64 f.err])∧Own w' w.heap.size 5 1 A2 f.put.length c2 (f.put.map u8v)∧Below w.heap.size w w':=by
 have b7:=fun W=>vT f W hw hl
 have Ea:=f.flags_lt
 cases bJ:f.ok
 ·have qqb1:=();exact Z29_
 have e1:f.put=f.bytes:=by simp[Fr.put,bJ]
 have e2:f.err=0:=by simp[Fr.err,bJ]
 have BC:f.load.length≤4084:=by simp[Fr.ok]at bJ;omega
 have mm:Hid (f.bytes=(((([K0 f.flags,K0 f.ty]++be 2 (12+f.load.length))++ [0,K0 f.track])++be 2 f.chan)++ [0,0,0,0])++f.load):=Q1 (by rw[Fr.bytes]);have sU:Hid (f.flags=bitv f.first 8+bitv f.last 4+bitv f.beg 2+bitv f.fin 1):=Q1 rfl;rw[e1,e2];rw[e2]at b7;clear bJ e1 e2 hl;generalize f.flags=fl at*;generalize dT:f.bytes=by_ at*;clear dT;obtain⟨b1,b2,b3,b4,ty,tr,ch,ld⟩:=f;unfold frV at b7 ⊢;obtain⟨mh,lm,gD⟩:=hw;simp only at b7 BC mm sU mh lm gD;have Hy:Below w.heap.size w (w.alloc (.cells #[.bool b1,.bool b2,.bool b3,.bool b4,.int .u8 (ty:Int),.int .u8 (tr:Int),.int .u16 (ch:Int),.string (str ld)] 97)):=(KL _ _).alloc (Q2 _) _;have cY:=KA (w:=w) (b1:=b1) (b2:=b2) (b3:=b3) (b4:=b4) (ty:=ty) (tr:=tr) (ch:=ch) (ld:=ld);simp only at cY;have dD:=zi ld;have k1:=YR b1 8;have k2:=YR b2 4;have k3:=YR b3 2;have k4:=YR b4 1;have Ik:=fun W=>(⟨YQ b1 8 W,YQ b2 4 W,YQ b3 2 W,YQ b4 1 W⟩:_∧_∧_∧_)
 generalize bitv b1 8=v1 at*;generalize bitv b2 4=v2 at*;generalize bitv b3 2=v3 at*;generalize bitv b4 1=v4 at*;have C1:(v1:Int)+(v2:Int)+(v3:Int)+(v4:Int)=(fl:Int):=by have:=sU.out;omega
 have aT:IntKind.u8.wrap ((v1:Int)+(v2:Int))=(v1:Int)+(v2:Int):=IntWalk.u8_in _ ⟨by omega,by omega⟩;have Ob:IntKind.u8.wrap ((v1:Int)+(v2:Int)+(v3:Int))=(v1:Int)+(v2:Int)+(v3:Int):=IntWalk.u8_in _ ⟨by omega,by omega⟩;have Wv:IntKind.u8.wrap ((v1:Int)+(v2:Int)+(v3:Int)+(v4:Int))=(fl:Int):=by rw[C1];exact IntWalk.u8_in _ ⟨by omega,by omega⟩
 clear C1;have Cg:IntKind.i64.wrap (12+(ld.length:Int))=((12+ld.length:Nat):Int):=by rw[IntWalk.i64_in _ ⟨by omega,by omega⟩];omega
 have Eb:IntKind.u64.wrap ((12+ld.length:Nat):Int)=((12+ld.length:Nat):Int):=IntWalk.u64_in _ ⟨by omega,by omega⟩;obtain⟨sf,pG⟩:∃sf,sf=12+ld.length:=⟨_,rfl⟩
 rw[←pG]at Cg Eb mm;have hL:=Q1 pG;have v9:sf<65536:=by omega
 clear pG;go_enter func48,ntmps48;go_wp2_with(with_reducible refine h_A ?_);refine(b7 _).mono ?_;rintro e w1 ⟨rfl,Ha⟩;have Hc:=Hy.trans (Ha.mono Hy.size);have bK:=yX cY Ha;clear cY Hy Ha b7;have BG:w1.drew.cell? ⟨w.heap.size,0,none⟩=some (.bool b1)∧w1.drew.cell? ⟨w.heap.size,1,none⟩=some (.bool b2)∧w1.drew.cell? ⟨w.heap.size,2,none⟩=some (.bool b3)∧w1.drew.cell? ⟨w.heap.size,3,none⟩=some (.bool b4)∧w1.drew.cell? ⟨w.heap.size,4,none⟩=some (.int .u8 (ty:Int))∧w1.drew.cell? ⟨w.heap.size,5,none⟩=some (.int .u8 (tr:Int))∧w1.drew.cell? ⟨w.heap.size,6,none⟩=some (.int .u16 (ch:Int))∧w1.drew.cell? ⟨w.heap.size,7,none⟩=some (.string (str ld)):=bK;have rj:=za Hc 1;go_wp2_with(with_reducible refine h_A ?_);refine zt (fun wx=>wx.cell? ⟨w.heap.size,0,none⟩=some (.bool b1)∧wx.cell? ⟨w.heap.size,1,none⟩=some (.bool b2)∧wx.cell? ⟨w.heap.size,2,none⟩=some (.bool b3)∧wx.cell? ⟨w.heap.size,3,none⟩=some (.bool b4)∧wx.cell? ⟨w.heap.size,4,none⟩=some (.int .u8 (ty:Int))∧wx.cell? ⟨w.heap.size,5,none⟩=some (.int .u8 (tr:Int))∧wx.cell? ⟨w.heap.size,6,none⟩=some (.int .u16 (ch:Int))∧wx.cell? ⟨w.heap.size,7,none⟩=some (.string (str ld))) Wj ?_;refine rg_t 0 BG ?_;simp only[List.getElem_toArray,List.getElem_cons_zero,Act.put,List.setIfInBounds_toArray,List.set_cons_zero,List.set_cons_succ];refine rg_t 1 BG ?_;simp only[g_S];refine rg_t 3 BG ?_;simp only[g_S];refine rg_t 4 BG ?_;simp only[g_S];refine rg_t 7 BG ?_;simp only[g_S];refine rg_t 8 BG ?_;simp only[g_S];refine rg_t 11 BG ?_;simp only[g_S];refine rg_t 12 BG ?_;simp only[g_S];refine rg_t 15 BG ?_;simp only[g_S];refine rg_t 16 BG ?_;simp only[g_S];refine zj 2 rfl Wj rfl (fun K hK=>?_);go_simp;refine(Ik w1.drew).1.mono ?_;rintro e w2 ⟨rfl,rfl⟩;refine hK _ _ BG ?_;clear hK K;refine zj 5 rfl Wj rfl (fun K hK=>?_);go_simp;refine(Ik w1.drew).2.1.mono ?_;rintro e w2 ⟨rfl,rfl⟩;refine hK _ _ BG ?_;clear hK K;refine rg_t 6 BG ?_;simp only[g_S];refine zj 9 rfl Wj rfl (fun K hK=>?_);go_simp;refine(Ik w1.drew).2.2.1.mono ?_;rintro e w2 ⟨rfl,rfl⟩;refine hK _ _ BG ?_;clear hK K;refine rg_t 10 BG ?_;simp only[g_S];refine zj 13 rfl Wj rfl (fun K hK=>?_);go_simp;refine(Ik w1.drew).2.2.2.mono ?_;rintro e w2 ⟨rfl,rfl⟩;refine hK _ _ BG ?_;clear hK K;refine rg_t 14 BG ?_;simp only[g_S];have cy:w.heap.size+1≤w1.drew.heap.size:=KS _ _ BG.1
 have CY:Own (w1.drew.alloc (.cells #[.int .u8 (fl:Int),.int .u8 (ty:Int)] 5)) (w.heap.size+1) 5 1 (some ⟨w1.drew.heap.size,0,none⟩) 2 2 ([K0 fl,K0 ty].map u8v):=by
  have h:=yn (w:=w1.drew) (w.heap.size+1) #[.int .u8 (fl:Int),.int .u8 (ty:Int)] 5 2 cy WX rfl (size:=1) Wq;rw[JA (show fl<256 by omega),JA mh]at h ⊢;exact h
 have Eh:Below w.heap.size w (w1.drew.alloc (.cells #[.int .u8 (fl:Int),.int .u8 (ty:Int)] 5)):=rj.alloc rj.size _;have ur:=yX BG ((KL w1.drew.heap.size w1.drew).alloc (Q2 _) (.cells #[.int .u8 (fl:Int),.int .u8 (ty:Int)] 5));have he8:w.heap.size+1≤(w1.drew.alloc (.cells #[.int .u8 (fl:Int),.int .u8 (ty:Int)] 5)).heap.size:=KS _ _ ur.1;refine zj 17 rfl Wj rfl (fun K hK=>?_);go_simp;refine hK _ _ ur ?_;clear hK K;refine rg_t 18 ur ?_;simp only[g_S];refine zz Wj ?_;have fD: [K0 fl,K0 ty].length=2:=rfl;generalize [K0 fl,K0 ty]=o0 at*;have bC:(w1.alloc (.cells #[.int .u8 (fl:Int),.int .u8 (ty:Int)] 5)).drew=w1.drew.alloc (.cells #[.int .u8 (fl:Int),.int .u8 (ty:Int)] 5):=rfl;rw[bC];have UT:(some (⟨w1.heap.size,0,none⟩:Addr))=some ⟨w1.drew.heap.size,0,none⟩:=rfl;rw[UT];generalize w1.drew.alloc (.cells #[.int .u8 (fl:Int),.int .u8 (ty:Int)] 5)=wa at*;generalize some (⟨w1.drew.heap.size,0,none⟩:Addr)=Aa at*;clear bC UT BG bK Hc rj cy;clear Ik k1 k2 k3 k4 aT Ob Wv;go_wp2_with(with_reducible refine h_A ?_);refine(yd sf 2 wa Wq Wq).mono ?_;rintro e wnA ⟨AnA,cnA,rfl,Iy,AQ⟩;have D3:=Eh.trans (AQ.mono Eh.size);have Ft:=yX ur AQ;have Cp:=zh CY AQ;have PV:w.heap.size+1≤wnA.heap.size:=KS _ _ Ft.1;clear CY ur Eh AQ;go_wp2_with(with_reducible refine h_A ?_);refine zc (yc slB rfl rfl rfl rfl Cp Iy.rd (zM _) Wq WX PV ?_);intro AA cA wA Ck fg _;have rS:=D3.grown fg D3.size (fun g hg=>by have:=(Cp.blk_lt hg).1;omega);have nI:=jy Ft fg (fun e=>by have:=(Cp.blk_lt e.symm).1;omega);rw[←K1]at Ck;have Fa:w.heap.size+1≤wA.heap.size:=KS _ _ nI.1;have Li:(o0++be 2 sf).length=4:=by simp[zr,fD]
 clear Cp Iy Ft D3 fg;clear fD;generalize o0++be 2 sf=oA at*
 have CW:Own (wA.alloc (.cells #[.int .u8 0,.int .u8 (tr:Int)] 5)) (w.heap.size+1) 5 1 (some ⟨wA.heap.size,0,none⟩) 2 2 ([0,K0 tr].map u8v):=by
  have h:=yn (w:=wA) (w.heap.size+1) #[.int .u8 0,.int .u8 (tr:Int)] 5 2 Fa WX rfl (size:=1) Wq;rw[JA lm]at h ⊢;exact h
 have F0:Below w.heap.size w (wA.alloc (.cells #[.int .u8 0,.int .u8 (tr:Int)] 5)):=rS.alloc rS.size _;have E9:=yX nI ((KL wA.heap.size wA).alloc (Q2 _) (.cells #[.int .u8 0,.int .u8 (tr:Int)] 5));have AF:Own (wA.alloc (.cells #[.int .u8 0,.int .u8 (tr:Int)] 5)) (w.heap.size+1) 5 1 AA (2+2) cA (oA.map u8v):=Ck.alloc (.cells #[.int .u8 0,.int .u8 (tr:Int)] 5);have Io:w.heap.size+1≤(wA.alloc (.cells #[.int .u8 0,.int .u8 (tr:Int)] 5)).heap.size:=KS _ _ E9.1;go_wp2_with(with_reducible refine h_A ?_);refine zc (yc slB rfl rfl rfl rfl AF CW.rd (zM _) Wq WX Io ?_);intro AB cB wB F6 Fc _;have o8:=F0.grown Fc F0.size (fun g hg=>by have:=(AF.blk_lt hg).1;omega);have Ow:=jy E9 Fc (fun e=>by have:=(AF.blk_lt e.symm).1;omega);rw[←K1]at F6;have Ts:w.heap.size+1≤wB.heap.size:=KS _ _ Ow.1;have wi:(oA++ [0,K0 tr]).length=6:=by simp[Li]
 clear AF CW E9 F0 Fc Ck nI rS Io;clear Li;generalize oA++ [0,K0 tr]=oB at*;have II:IntKind.u64.wrap ((ch:Nat):Int)=(ch:Int):=IntWalk.u64_in _ ⟨by omega,by omega⟩;go_wp2_with(with_reducible refine h_A ?_);refine(yd ch 2 wB Wq Wq).mono ?_;rintro e wnC ⟨AnC,cnC,rfl,M8,AE⟩;have DW:=o8.trans (AE.mono o8.size);have EQ:=yX Ow AE;have Ca:=zh F6 AE;have R2:w.heap.size+1≤wnC.heap.size:=KS _ _ EQ.1;clear F6 Ow o8 AE;go_wp2_with(with_reducible refine h_A ?_);refine zc (yc slB rfl rfl rfl rfl Ca M8.rd (zM _) Wq WX R2 ?_);intro AC cC wC nB gA _;have wN:=DW.grown gA DW.size (fun g hg=>by have:=(Ca.blk_lt hg).1;omega);have uk:=jy EQ gA (fun e=>by have:=(Ca.blk_lt e.symm).1;omega);rw[←K1]at nB;have Fq:w.heap.size+1≤wC.heap.size:=KS _ _ uk.1;have OM:(oB++be 2 ch).length=8:=by simp[zr,wi]
 clear Ca M8 EQ DW gA;clear wi;generalize oB++be 2 ch=oC at*
 have CM:Own (wC.alloc (.cells #[.int .u8 0,.int .u8 0,.int .u8 0,.int .u8 0] 5)) (w.heap.size+1) 5 1 (some ⟨wC.heap.size,0,none⟩) 4 4 ([(0:UInt8),0,0,0].map u8v):=by
  have h:=yn (w:=wC) (w.heap.size+1) #[.int .u8 0,.int .u8 0,.int .u8 0,.int .u8 0] 5 4 Fq WX rfl (size:=1) Wq
  skip
  exact h
 have E5:Below w.heap.size w (wC.alloc (.cells #[.int .u8 0,.int .u8 0,.int .u8 0,.int .u8 0] 5)):=wN.alloc wN.size _;have Fk:=yX uk ((KL wC.heap.size wC).alloc (Q2 _) (.cells #[.int .u8 0,.int .u8 0,.int .u8 0,.int .u8 0] 5));have Ce:Own (wC.alloc (.cells #[.int .u8 0,.int .u8 0,.int .u8 0,.int .u8 0] 5)) (w.heap.size+1) 5 1 AC (2+2+2+2) cC (oC.map u8v):=nB.alloc (.cells #[.int .u8 0,.int .u8 0,.int .u8 0,.int .u8 0] 5);have Ih:w.heap.size+1≤(wC.alloc (.cells #[.int .u8 0,.int .u8 0,.int .u8 0,.int .u8 0] 5)).heap.size:=KS _ _ Fk.1;go_wp2_with(with_reducible refine h_A ?_);refine zc (yc slB rfl rfl rfl rfl Ce CM.rd (zM _) Wq WX Ih ?_);intro AD cD wD oN Lg _;have LR:=E5.grown Lg E5.size (fun g hg=>by have:=(Ce.blk_lt hg).1;omega);have IN:=jy Fk Lg (fun e=>by have:=(Ce.blk_lt e.symm).1;omega);rw[←K1]at oN;have Tg:w.heap.size+1≤wD.heap.size:=KS _ _ IN.1;have UV:(oC++ [(0:UInt8),0,0,0]).length=12:=by simp[OM]
 clear Ce CM Fk E5 Lg nB uk wN Ih;clear OM;generalize oC++ [(0:UInt8),0,0,0]=oD at*;go_wp2_with(with_reducible refine h_A ?_);refine zc (qj slB underlying9 rfl rfl rfl rfl oN Wq Tg ?_);intro nG c10 rU eV ed;have nP:=LR.grown ed LR.size (fun g hg=>by have:=(oN.blk_lt hg).1;omega);rw[←K1]at eV;have tU:=eV.base_le (Nat.le_succ _);have oc:by_.length=12+ld.length:=by rw[mm.out,K2,UV]
 have Mc:=Q1 oc;clear oc UV;exact Z5j_
theorem zbu(A:Option Addr)(n c:Nat)(l:List UInt8)(v:Nat)(x:Int)(w:World)(hb:RdB w w.heap.size A n c l)(hv:v<18446744073709551616)(hn:n≤140737488355320):
  Calls prog 114 #[.slice A n c,.int .u64 v,.int .i64 x] w fun e w'=>∃A2 c2,e= .returned (.slice A2 (puts l v x).length c2)∧Own w' w.heap.size 5 1 A2 (puts l v x).length c2 ((puts l v x).map u8v)∧Below w.heap.size w w':=by
 have hl:=hb.length;go_enter func114,ntmps114;go_wp2_with(with_reducible refine h_A ?_);refine zc (yc slB rfl rfl rfl rfl (Own.none_ w w.heap.size _ _) hb (zM _) Wq UJ (Q2 _) ?_);intro A1 c1 w1 cV bN _;have Ha:Below w.heap.size w w1:=(KL _ _).grown bN (Q2 _) (by simp[blk]);simp only[q5,q6]at cV;have cy:=Ha.size;go_wp2_with(with_reducible refine h_A ?_);refine(vJ x w1).mono ?_;rintro e w2 ⟨rfl,rfl⟩;by_cases hw:qJ x=true
 ·have h8:=j9 hw;obtain⟨i,rfl⟩:∃i:Nat,x=i:=⟨x.toNat,by omega⟩
  have HP:=Q1 (yT (b:=l) (n:=v) hw);rw[hw];go_wp2_with(with_reducible refine h_A ?_);refine(yd v i w2 hv Wq).mono ?_;rintro e w3 ⟨A3,c3,rfl,Bv,Hh⟩;have I5:Own w3 w.heap.size 5 1 A1 n c1 (l.map u8v):=cV.kept (row:=none) ⟨Hh.os,Hh.tape,Hh.output,Hh.size,fun k hk _=>Hh.block k hk⟩ (by cases hv:(Value.slice A1 n c1).ownBlock<;>simp);have gx:=Ha.trans (Hh.mono cy);go_wp2_with(with_reducible refine h_A ?_);refine zc (yc slB rfl rfl rfl rfl I5 Bv.rd (zM _) Wq UJ gx.size ?_);intro A4 c4 w4 Bq Ba _;have Hn:=gx.grown Ba gx.size (fun g hg=>(I5.blk_lt hg).1);rw[←K1]at Bq;go_wp2_with(with_reducible refine h_A ?_);go_ret;rw[HP.out];simp only[K2,zr,Int.toNat_natCast,hl];exact⟨A4,c4,by first|rfl|simp,Bq,Hn⟩
 have nl:qJ x=false:=by simpa using hw
 have HP:=Q1 (Kw (b:=l) (n:=v) nl);rw[nl];go_wp2_with(with_reducible refine h_A ?_);go_ret;rw[HP.out,hl];exact⟨A1,c1,rfl,cV,Ha⟩
theorem Jn(w:World)(x:Int)(h:x=1∨x=2∨x=4):Calls prog 113 #[.int .i64 x] w fun e w'=>e= .returned (.int .i64 ((256 ^ x.toNat-1:Nat):Int))∧w'=w:=by
 rcases h with rfl|rfl|rfl
 all_goals
  go_enter func113,ntmps113;go_wp2_with(with_reducible refine h_A ?_);go_ret;exact⟨rfl,rfl⟩
theorem vU(A:Option Addr)(n c:Nat)(l s:List UInt8)(x:Int)(w:World)(hb:RdB w w.heap.size A n c l)(hs:s.length≤140737488351232)(hn:n≤140737488351240):
  Calls prog 95 #[.slice A n c,.string (str s),.int .i64 x] w fun e w'=>∃A2 c2,e= .returned (.tuple #[.slice A2 (zP l s x).length c2,.int .i64 (zE s.length x)])∧Own w' w.heap.size 5 1 A2 (zP l s x).length c2 ((zP l s x).map u8v)∧Below w.heap.size w w':=by
 have hl:=hb.length;have dD:=zi s;by_cases hw:x=1∨x=2∨x=4
 ·have C8:=qK (w:=x) Wq;by_cases bQ:s.length<256 ^ x.toNat
  ·have he:zE s.length x=0:=by unfold zE;rw[if_pos hw,if_pos bQ]
   have mF:s.length<4294967296:=by
    (rcases hw with rfl|rfl|rfl);all_goals(simp at bQ;omega)
   have Ev:¬((256 ^ x.toNat-1:Nat):Int)<(s.length:Int):=by
    have:=Nat.pow_pos (n:=x.toNat) (show 0<256 by omega);omega
   have It:=Jn w x hw;rw[he,yQ he];have Uy:=yT (b:=l) (n:=s.length) C8;have hP:=zbu A n c l s.length x w hb Wq Wq;rw[Uy]at hP
   have dG:(l++be x.toNat s.length).length≤n+8:=by
    rw[K2,zr,hl];have:=j9 C8;omega
   generalize l++be x.toNat s.length=l2 at hP dG ⊢;generalize(256 ^ x.toNat-1:Nat)=M at It Ev;clear Uy bQ;rcases hw with rfl|rfl|rfl
   all_goals
    go_enter func95,ntmps95;go_wp2_with(with_reducible refine h_A ?_);refine It.mono ?_;rintro e w1 ⟨rfl,rfl⟩;go_wp2_with(with_reducible refine h_A ?_);refine hP.mono ?_;rintro e w2 ⟨A2,c2,rfl,bW,Hc⟩;go_wp2_with(with_reducible refine h_A ?_);refine zc (jC slB underlying9 rfl rfl rfl rfl bW Wq Wq Hc.size ?_);intro A3 c3 w3 Bv H6;have Hh:=Hc.grown H6 Hc.size (fun g hg=>(bW.blk_lt hg).1);rw[←K1]at Bv;go_wp2_with(with_reducible refine h_A ?_);go_ret2;rw[K2];exact⟨A3,c3,by first|rfl|simp,Bv,Hh⟩
  have he:zE s.length x=3:=by unfold zE;rw[if_pos hw,if_neg bQ]
  have Ev:((256 ^ x.toNat-1:Nat):Int)<(s.length:Int):=by
   have:=Nat.pow_pos (n:=x.toNat) (show 0<256 by omega);omega
  have It:=Jn w x hw;rw[he,yO (by rw[he];omega)];generalize(256 ^ x.toNat-1:Nat)=M at It Ev;clear bQ;rcases hw with rfl|rfl|rfl
  all_goals
   go_enter func95,ntmps95;go_wp2_with(with_reducible refine h_A ?_);refine It.mono ?_;rintro e w1 ⟨rfl,rfl⟩;go_wp2_with(with_reducible refine h_A ?_);go_ret2;exact⟨none,0,rfl,Own.none_ _ _ _ _,KL _ _⟩
 have he:zE s.length x=2:=by unfold zE;rw[if_neg hw]
 have b1:(x !=1)=true:=by simp;omega
 have b2:(x !=2)=true:=by simp;omega
 have b4:(x !=4)=true:=by simp;omega
 rw[he,yO (by rw[he];omega)];go_enter func95,ntmps95;exact Z5c_
theorem jc(h:Qrd F w b l bad)(x most:Int)(hx: -9223372036854775808≤x)(nH:x≤9223372036854775807)(hm: -9223372036854775808≤most)(pf:most≤9223372036854775807):
  Calls prog 138 #[.pointer (some ⟨b,0,none⟩),.int .i64 x,.int .i64 most] w fun e w'=>e= .returned (.string (str (zT l bad x most).1))∧Qrd F w' b (zT l bad x most).2.1 (zT l bad x most).2.2∧w.grownBy w' (some b):=by
 by_cases h8:¬(x=1∨x=2∨x=4)
 ·have b1:(x !=1)=true:=by simp;omega
  have b2:(x !=2)=true:=by simp;omega
  have b4:(x !=4)=true:=by simp;omega
  rw[QO h8];go_enter func138,ntmps138;go_wp2_with(with_reducible refine h_A ?_);refine(xO h).mono ?_;exact Z5o_
 have hN:=yG h x hx nH;have hlt:=xg l bad x;rw[v6 Wq];generalize mnum l bad x=r at hN hlt ⊢;obtain⟨n,l',bad'⟩:=r;simp only at hN hlt ⊢;have WC:∀{w1:World},Qrd F w1 b l' bad'→l'.length≤140737488351240:=fun h=>h.len
 rcases(show x=1∨x=2∨x=4 by omega)with rfl|rfl|rfl
 all_goals
  by_cases hb:bad'=true
  ·subst hb;rw[if_pos (.inl rfl)];go_enter func138,ntmps138;go_wp2_with(with_reducible refine h_A ?_);refine hN.mono ?_;rintro e w1 ⟨rfl,h1,bN⟩;obtain⟨A,m,c,dX,eS,mG,iC,hr,hA,hn,hF⟩:=h1;go_wp2_with(with_reducible refine h_A ?_);refine(xO ⟨A,m,c,dX,eS,mG,iC,hr,hA,hn,hF⟩).mono ?_;rintro e w3 ⟨rfl,h3,H6⟩;go_wp2_with(with_reducible refine h_A ?_);go_ret;exact⟨rfl,h3,bN.trans H6⟩
  obtain rfl:bad'=false:=by simpa using hb
  by_cases im:most<0∨most<(n:Int)∨l'.length<n
  ·rw[if_pos (.inr im)];go_enter func138,ntmps138;go_wp2_with(with_reducible refine h_A ?_);refine hN.mono ?_;rintro e w1 ⟨rfl,h1,bN⟩;have fB:=h1.len;have LQ:=h1;obtain⟨A,m,c,dX,eS,mG,iC,hr,hA,hn,hF⟩:=h1;have mW:=hr.length;by_cases sj:most<0
   ·go_wp2_with(with_reducible refine h_A ?_);refine(xO LQ).mono ?_;rintro e w3 ⟨rfl,h3,H6⟩;go_wp2_with(with_reducible refine h_A ?_);go_ret;exact⟨rfl,h3,bN.trans H6⟩
   by_cases Dy:most<(n:Int)
   ·go_wp2_with(with_reducible refine h_A ?_);refine(xO LQ).mono ?_;rintro e w3 ⟨rfl,h3,H6⟩;go_wp2_with(with_reducible refine h_A ?_);go_ret;exact⟨rfl,h3,bN.trans H6⟩
   (have TG:(m:Int)<(n:Int):=by omega);go_wp2_with(with_reducible refine h_A ?_);refine(xO LQ).mono ?_;rintro e w3 ⟨rfl,h3,H6⟩;go_wp2_with(with_reducible refine h_A ?_);go_ret;exact⟨rfl,h3,bN.trans H6⟩
  rw[if_neg Hz,xp Wq];have Su:(n:Int)≤9223372036854775807:=by omega
  have MT:0≤most:=by omega
  have FM:(n:Int)≤most:=by omega
  go_enter func138,ntmps138;go_wp2_with(with_reducible refine h_A ?_);refine hN.mono ?_;rintro e w1 ⟨rfl,h1,bN⟩;have hT:=XI h1 (n:Int) Wq Wq;rw[xp Wq]at hT;simp only[Vx,q0 (show n≤l'.length by omega)]at hT;obtain⟨A,m,c,dX,eS,mG,iC,hr,hA,hn,hF⟩:=h1;have mW:=hr.length;have E4:(n:Int)≤(m:Int):=by omega
  go_wp2_with(with_reducible refine h_A ?_);refine hT.mono ?_;rintro e w3 ⟨A3,c3,rfl,Bv,h3,H6⟩;have fz:=jf Bv.rd;go_wp2_with(with_reducible refine h_A ?_);go_ret;exact⟨rfl,h3,bN.trans H6⟩
abbrev OwnB(w:World)(base:Nat)(A:Option Addr)(n c:Nat)(l:List UInt8):Prop:=Own w base 5 1 A n c (l.map u8v)
def KB(w w':World)(row:Option Nat):Prop:=w.heap.size≤w'.heap.size∧∀g,g<w.heap.size→row≠some g→w'.heap[g]?=w.heap[g]?
theorem KB.box(h:KB w w' row){t:TypeId}{cs:Array Value}(hb:Box w g t cs)(hne:row≠some g):Box w' g t cs:=(h.2 g hb.lt hne).trans hb
def onT(c t:Nat)(f:Fr):Bool:=f.chan==c&&f.track==t
structure RGa(w:World)(F:Nat→Prop)(gb:Nat)(g:GS)(l:List Fr):Prop where
 ex:∃A c,Box w gb 67 #[.slice A l.length c,.bool g.dead]∧OwnF w 0 A l.length c l∧∀k,blk A=some k→F k∧k≠gb
 gb:F gb
 lt:∀k,F k→k<w.heap.size
 op:∀c t,g.op c t=l.filter (onT c t)
 wf:∀f∈l,f.wf∧f.load.length≤1000000
theorem RGa.keep{G:Nat→Prop}{gb:Nat}{g:GS}{l:List Fr}(h:RGa w F gb g l)(hk:KeepF G w w')(hG:∀k,F k→¬G k):RGa w' F gb g l where
 ex:=by
  obtain⟨A,c,h1,h2,h3⟩:=h.ex;exact⟨A,c,zU h1 hk (hG _ h.gb),zw h2 hk (fun k Bk=>hG _ (h3 k Bk).1),h3⟩
 gb:=h.gb
 lt:=fun k hF=>z1 (h.lt k hF) hk.1
 op:=h.op
 wf:=h.wf
theorem Jv(gb:Nat)(f:Fr)(A:Option Addr)(n c:Nat)(dead:Bool)(l:List Fr)(w:World)(hb:Box w gb 67 #[.slice A n c,.bool dead])(hr:Rd w w.heap.size 8 A n c (rowC frC l))(hn:n≤1000000):
  Calls prog 89 #[.pointer (some ⟨gb,0,none⟩),.agg (frV f)] w fun e w'=>∃A2 c2,e= .returned (.slice A2 (l.filter (onT f.chan f.track)).length c2)∧OwnF w' w.heap.size A2 (l.filter (onT f.chan f.track)).length c2 (l.filter (onT f.chan f.track))∧Below w.heap.size w w':=by
 have hl:=yM yE hr;obtain⟨xb,w1,Hg,Hi,hX,Ha⟩:=zq w (frV f) 97;have bK:=hb.below Ha;have hlt:=hb.lt;have r6:w.heap.size≤xb:=by omega
 have HR:=Q1 hr;obtain⟨R,hR⟩:∃R,R=l.filter (onT f.chan f.track):=⟨_,rfl⟩
 have mV:=Q1 hR;rw[←hR];obtain⟨b1,b2,b3,b4,ty,tr,ch,ld⟩:=f;unfold frV at*;simp only at*;clear hr hb hR;go_enter func89,ntmps89;go_upto_region 2 with fail;rw[←Hg,←Hi];clear Hg Hi;go_wp2_with(with_reducible refine h_A ?_);go_loopw [6,5] (fun s6 s5 wr=>∃(k m c2:Nat) (A2:Option Addr),k≤n∧s6= .int .i64 (k:Int)∧s5= .slice A2 m c2∧m≤k∧OwnF wr w.heap.size A2 m c2 ((l.take k).filter (onT ch tr))∧Box wr gb 67 #[.slice A n c,.bool dead]∧Box wr xb 97 #[.bool b1,.bool b2,.bool b3,.bool b4,.int .u8 (ty:Int),.int .u8 (tr:Int),.int .u16 (ch:Int),.string (str ld)]∧(∀k,blk A2=some k→k≠xb)∧Below w.heap.size w wr) (fun s6 _ _=>n-(RowKit.intOf s6).toNat)
 case atStart=>exact⟨0,0,0,none,by omega,rfl,rfl,by omega,Own.none_ _ _ _ _,bK,hX,(fun k h=>by cases h),Ha⟩
 clear bK hX Ha;obtain⟨k,m,c2,A2,hk,rfl,rfl,hm,hO,hG,hX,NB,hB⟩:=hrel;have g0:=hG.c0;have x5:=hX.c5;have x6:=hX.c6;by_cases hlt:k<n
 ·have g1:(k:Int)<(n:Int):=by omega
  obtain⟨b,off,rfl,dx,bI,bC⟩:=xF yE HR.out hlt;have HT:=Q1 (q8 bI);generalize l[k]=x at*;have dk:∀W,Below w.heap.size w W→∀j u,(frC x)[j]?=some u→W.cell? ⟨b,off+k*8+j,none⟩=some u:=fun W hW j u hu=>(hW.cell (p:=⟨b,off+k*8+j,none⟩) dx).trans (bC j u hu)
  have pE:=Q1 dk;have hq:=dk wr hB;obtain⟨q1,q2,q3,q4,xy,xt,xc,xl⟩:=x;have k0:=hq 0 _ rfl;have k1:=hq 1 _ rfl;have k2:=hq 2 _ rfl;have k3:=hq 3 _ rfl;have k4:=hq 4 _ rfl;have k5:=hq 5 _ rfl;have k6:=hq 6 _ rfl;have k7:=hq 7 _ rfl;simp only[z2]at k0;clear bC dk hq;by_cases rE:xc=ch∧xt=tr
  ·obtain⟨rfl,rfl⟩:=rE;have HF:Hid ((l.take (k+1)).filter (onT xc xt)=(l.take k).filter (onT xc xt)++ [⟨q1,q2,q3,q4,xy,xt,xc,xl⟩]):=Q1 (by rw[HT.out,z3];simp[onT]);go_upto_region 5 with fail;(try simp only[Act.put]);go_quiet(fail);have dL:=za hB nq;have ej:=pE.out _ dL;clear k0 k1 k2 k3 k4 k5 k6 k7;have k0:=ej 0 _ rfl;have k1:=ej 1 _ rfl;have k2:=ej 2 _ rfl;have k3:=ej 3 _ rfl;have k4:=ej 4 _ rfl;have k5:=ej 5 _ rfl;have k6:=ej 6 _ rfl;have k7:=ej 7 _ rfl;simp only[z2]at k0;have Cx:OwnF (wr.drewN nq) w.heap.size A2 m c2 ((l.take k).filter (onT xc xt)):=hO.drewN nq;have ON:=hG.below (za (KL _ _) nq);have O9:=hX.below (za (KL _ _) nq);have g0:=ON.c0;clear ej hO hG hX hB x5 x6;generalize wr.drewN nq=ws at*;go_wp2_with(with_reducible refine h_A ?_);refine zc (jS yE slF underlying65 rfl rfl rfl rfl rfl (⟨q1,q2,q3,q4,xy,xt,xc,xl⟩:Fr) rfl Cx Wq Wq dL.size ?_);intro A3 c3 wa tR cU mr hBa;rw[←HF.out]at tR;have Wu:=ON.grown cU (fun e=>by have:=(Cx.blk_lt e.symm).1;omega);have nV:=O9.grown cU (fun e=>NB _ e.symm rfl);have dY:=O9.lt
   have LX:∀g,blk A3=some g→g≠xb:=fun g hg=>by
    rcases mr with e|e
    ·exact NB g (by rw[←e];exact hg)
    have:=e g hg;omega
   have Hc:=dL.trans hBa;clear Cx cU mr hBa ON O9 k0 k1 k2 k3 k4 k5 k6 k7 g0;go_wp2_with(with_reducible refine h_A ?_);exact⟨⟨k+1,m+1,c3,A3,by omega,by go_num,rfl,by omega,tR,Wu,nV,LX,Hc⟩,by simp[RowKit.intOf];omega⟩
  have HF:Hid ((l.take (k+1)).filter (onT ch tr)=(l.take k).filter (onT ch tr)):=Q1 (by
   rw[HT.out,z3]
   have:onT ch tr ⟨q1,q2,q3,q4,xy,xt,xc,xl⟩=false:=by
    unfold onT;by_cases e1:xc=ch
    ·(have:¬xt=tr:=fun e2=>rE ⟨e1,e2⟩);simp[this]
    simp[e1]
   simp[this])
  have d0:¬((xc:Int)=(ch:Int)∧(xt:Int)=(tr:Int)):=by omega
  by_cases e1:xc=ch
  ·exact Z2m_
  have qqby:=();exact Z2m_
 obtain rfl:k=n:=by omega
 have HT:Hid ((l.take k).filter (onT ch tr)=R):=Q1 (by rw[mV.out,VB Wq]);rw[HT.out]at hO;have mW:=YD yE hO;go_wp2_with(with_reducible refine h_A ?_);go_ret;rw[←mW]at hO ⊢;exact⟨A2,c2,rfl,hO,hB⟩
theorem Kf(f:Fr)(A:Option Addr)(n c:Nat)(l:List Fr)(w:World)(hr:Rd w w.heap.size 8 A n c (rowC frC l))(hn:n≤1000000):
  Calls prog 90 #[.slice A n c,.agg (frV f)] w fun e w'=>e= .returned (.bool (fitsB l f))∧Below w.heap.size w w':=by
 have hl:=yM yE hr;obtain⟨xb,w1,Hg,Hi,hX,Ha⟩:=zq w (frV f) 97;obtain⟨R,hR⟩:∃R,R=fitsB l f:=⟨_,rfl⟩
 rw[←hR];unfold fitsB at hR;obtain⟨b1,b2,b3,b4,ty,tr,ch,ld⟩:=f;unfold frV at*;simp only at*;have x0:=hX.c0;have x1:=hX.c1;have x2:=hX.c2;have x4:=hX.c4;have x5:=hX.c5;by_cases g1:1<tr
 ·rw[if_pos g1]at hR;have g2:(1:Int)<(tr:Int):=by omega
  have HR:=Q1 hR;clear hr hR;go_enter func90,ntmps90;go_upto_region 1 with fail;rw[←Hg,←Hi];clear Hg Hi;go_wp2_with(with_reducible refine h_A ?_);go_ret;rw[HR.out];exact⟨rfl,Ha⟩
 rw[if_neg g1]at hR;have g2:decide ((1:Int)<(tr:Int))=false:=by simp;omega
 by_cases hz:n=0
 ·subst hz;obtain rfl:l=[]:=List.length_eq_zero_iff.1 hl;simp only[List.getLast?_nil]at hR;have HR:=Q1 hR;clear hr hR g1;have k1:((ty:Int)==(tr:Int))=decide (ty=tr):=by rw[Bool.eq_iff_iff];simp;omega
  have k2:((tr:Int)==1)=decide (tr=1):=by rw[Bool.eq_iff_iff];simp;omega
  go_enter func90,ntmps90;go_upto_region 1 with fail;rw[←Hg,←Hi];clear Hg Hi;go_wp2_with(with_reducible refine h_A ?_)
  all_goals
   go_ret;rw[HR.out];exact⟨by simp_all,Ha⟩
 have hlt:n-1<n:=by omega
 obtain⟨b,off,hA,dx,bI,bC⟩:=xF yE hr hlt;have hne:l≠ []:=fun e=>by subst e;simp at hl;omega
 have fL:l.getLast?=some l[n-1]:=by rw[k8,hl];exact Vy bI
 rw[fL]at hR;simp only at hR;generalize l[n-1]=x at*;have HR:=Q1 hR;subst hA;obtain⟨q1,q2,q3,q4,xy,xt,xc,xl⟩:=x;have pE:=Q1 (fun j u hu=>(Ha.cell (p:=⟨b,off+(n-1)*8+j,none⟩) dx).trans (bC j u hu));clear hr hR bC g1 fL hne hl;obtain⟨yb,w2,iB,dF,hY,Hc⟩:=zq w1 (frV ⟨q1,q2,q3,q4,xy,xt,xc,xl⟩) 97;have Hk:=hX.below Hc;have H3:=Ha.trans (Hc.mono Ha.size);unfold frV at*;simp only at hY dF;have k0:w1.cell? ⟨b,off+(n-1)*8,none⟩=_:=pE.out 0 _ rfl;have k1:=pE.out 1 _ rfl;have k2:=pE.out 2 _ rfl;have k3:=pE.out 3 _ rfl;have k4:=pE.out 4 _ rfl;have k5:=pE.out 5 _ rfl;have k6:=pE.out 6 _ rfl;have k7:=pE.out 7 _ rfl;have n0:¬((n:Int)=0):=by omega
 have n2:((n:Int)==0)=false:=by simp;omega
 have n3:(0:Int)≤(n:Int)-1:=by omega
 have n4:(n:Int)-1<(n:Int):=by omega
 have n5:((n:Int)-1).toNat=n-1:=by omega
 have n6:(n:Int)≤1000000:=by omega
 go_enter func90,ntmps90;go_upto_region 1 with fail;rw[←Hg,←Hi];clear Hg Hi;go_upto_region 6 with fail;rw[←iB,←dF];clear iB dF k0 k1 k2 k3 k4 k5 k6 k7 Ha Hc hX x0 x1 x2 x4 x5;have x0:=Hk.c0;have x1:=Hk.c1;have x2:=Hk.c2;have x4:=Hk.c4;have y0:=hY.c0;have y1:=hY.c1;have y3:=hY.c3;have y4:=hY.c4;have j1:((ty:Int)==(xy:Int))=decide (ty=xy):=by rw[Bool.eq_iff_iff];simp;omega
 have j2:decide ((xy:Int)<(ty:Int))=decide (xy<ty):=by rw[Bool.eq_iff_iff];simp
 cases q4
 ·have eU:Hid (R=(!b3&&decide (ty=xy)&&(b1==q1)&&(b2==q2))):=Q1 HR.out;exact Z5b_
 have eU:Hid (R=(b3&& !b1&&decide (xy<ty))):=Q1 HR.out;exact Z5b_
def Yw(w:World)(F:Nat→Prop)(gb:Nat)(g:GS)(l:List Fr)(f:Fr)(e:Ending)(w':World):Prop:=
 ∃(F':Nat→Prop) (l':List Fr),(∀k,F' k→F k∨w.heap.size≤k)∧RGa w' F' gb (g.next f) l'∧l'.length≤l.length+1∧KeepF F w w'∧
  ((g.out f=none∧e= .returned (.tuple #[.agg asZ,.bool false,.int .i64 (g.err f:Int)]))∨
   (∃a A c,g.out f=some a∧e= .returned (.tuple #[.agg (asV a.chan a.track A a.segs.length c),.bool true,.int .i64 0])∧OwnG w' 0 A a.segs.length c a.segs∧∀b,blk A=some b→¬F' b∧w.heap.size≤b))
end Go.PH
section
namespace Go.PH
abbrev Sp:=Nat×Nat
def zV:List Sp→Bool
 | []=>true
 | [a]=>decide (a.1≤a.2)
 | a::b::l=>decide (a.1≤a.2)&&decide (a.2+2≤b.1)&&zV (b::l)
end Go.PH
end
section
namespace Go.PH
def Xq(m:Nat):List Sp→Prop
 | []=>True
 | a::_=>m≤a.1
theorem spRight_cons{a:Sp}{l:List Sp}:zV (a::l)=true↔(a.1≤a.2∧Xq (a.2+2) l∧zV l=true):=by
 cases l with
 | nil=>simp[zV,Xq]
 | cons b l=>simp[zV,Xq,and_assoc]
end Go.PH
end
section
namespace Go.PH
end Go.PH
end
section
namespace Go.PH
theorem Qk(a:List Sp)(z:Sp):zV (a++ [z])=true↔(zV a=true∧z.1≤z.2∧∀b∈a.getLast?,b.2+2≤z.1):=by
 induction a with
 | nil=>simp[zV]
 | cons b a ih=>
  rw[q7,spRight_cons,ih,spRight_cons]
  cases a with
  | nil=>
   simp[Xq,zV];intro _
   exact and_comm
  | cons c a=>
   simp only[q7,Xq,List.getLast?_cons_cons];constructor
   ·rintro⟨h1,h2,h3,h4,h5⟩;exact⟨⟨h1,h2,h3⟩,h4,h5⟩
   rintro⟨⟨h1,h2,h3⟩,h4,h5⟩;exact⟨h1,h2,h3,h4,h5⟩
end Go.PH
end
section
namespace Go.PH
end Go.PH
end
section
namespace Go.PH
end Go.PH
end
section
namespace Go.PH
theorem vc:∀{a b:List Sp},zV (a++b)=true→zV a=true
 | [],_,_=>rfl
 | x::a,b,h=>by
  rw[q7]at h;obtain⟨h1,h2,h3⟩:=spRight_cons.1 h;refine spRight_cons.2 ⟨h1,?_,vc h3⟩
  cases a with
  | nil=>trivial
  | cons y a=>exact h2
theorem Xp{l:List Sp}(h:zV l=true)(k:Nat):zV (l.take k)=true:=vc (b:=l.drop k) (by rw[List.take_append_drop];exact h)
def Yb(l:List Sp)(k:Nat)(h:k<l.length):Prop:=l[k].1≤l[k].2∧∀(h0:0<k),l[k-1].2+2≤l[k].1
theorem vR{l:List Sp}{k:Nat}(hk:k<l.length)(h:zV (l.take k)=true):zV (l.take (k+1))=true↔Yb l k hk:=by
 rw[q8 hk,Qk];unfold Yb;constructor
 ·rintro⟨_,h1,h2⟩;refine⟨h1,fun h0=>h2 _ ?_⟩;rw[k8,Vx,q0 Wq,z4,if_pos Wq,Vy Wq];rfl
 rintro⟨h1,h2⟩;refine⟨h,h1,fun b hb=>?_⟩;rcases z5 k with rfl|h0
 ·simp at hb
 rw[k8,Vx,q0 Wq,z4,if_pos Wq,Vy Wq]at hb
 cases hb;exact h2 h0
theorem jG{l:List Sp}{k:Nat}(hk:k<l.length)(h:zV (l.take k)=true)(h1:Yb l k hk):zV (l.take (k+1))=true:=(vR hk h).2 h1
theorem jp{l:List Sp}{k:Nat}(hk:k<l.length)(h:zV (l.take k)=true)(h1:¬Yb l k hk):zV l=false:=by
 rcases hr:zV l with _|_
 ·rfl
 exact absurd ((vR hk h).1 (Xp hr _)) h1
theorem Yc{l:List Sp}{k:Nat}(hk:k<l.length):Yb l k hk↔(l[k].1≤l[k].2∧(k=0∨(l.getD (k-1) (0,0)).2+2≤l[k].1)):=by
 unfold Yb
 have e:l.getD (k-1) (0,0)=l[k-1]:=by
  have:k-1<l.length:=by omega
  simp[q9,Vy this]
 rw[e];constructor
 ·rintro⟨h1,h2⟩;refine⟨h1,?_⟩;rcases z5 k with h0|h0
  ·exact .inl h0
  exact .inr (h2 h0)
 rintro⟨h1,h2⟩;refine⟨h1,fun h0=>?_⟩;rcases h2 with h2|h2
 ·omega
 exact h2
def spOK(N:Nat)(l:List Sp):Prop:=∀a∈l,a.1<N∧a.2<N
end Go.PH
end
namespace Go.PH
open Go.RowKit Go.Proofs Go.Proofs.Tryz
variable {bad : Bool} {l : List UInt8} {b base c e g k n x : Nat} {F : Nat → Prop} {A : Option Addr} {row : Option Nat} {w w' : World}
section
def sp2(a:Sp):List Value:=[.int .u32 (a.1:Int),.int .u32 (a.2:Int)]
def yx(l:List Sp):List Value:=l.flatMap sp2
theorem xI(a:Sp)(l:List Sp):yx (a::l)= .int .u32 (a.1:Int):: .int .u32 (a.2:Int)::yx l:=rfl
theorem Qh(a b:List Sp):yx (a++b)=yx a++yx b:=by simp[yx]
theorem Qi(l:List Sp):(yx l).length=l.length*2:=by
 induction l with
 | nil=>rfl
 | cons a l ih=>rw[xI];simp only[kI,ih];omega
theorem vP:∀(l:List Sp) (k:Nat),(yx l).take (k*2)=yx (l.take k)
 | [],k=>by simp[yx]
 | a::l,0=>by simp[yx]
 | a::l,k+1=>by rw[xI,show(k+1)*2=k*2+1+1 by omega,k9,k9,vP l k,k9,xI]
theorem vQ:∀(l:List Sp) (k:Nat),(yx l).drop (k*2)=yx (l.drop k)
 | [],k=>by simp[yx]
 | a::l,0=>by simp
 | a::l,k+1=>by rw[xI,show(k+1)*2=k*2+1+1 by omega,vv,vv,vQ l k,vv]
theorem ZD:∀(l:List Sp) (k:Nat) (h:k<l.length),(yx l)[k*2]?=some (.int .u32 (l[k].1:Int))∧(yx l)[k*2+1]?=some (.int .u32 (l[k].2:Int))
 | a::l,0,_=>by simp[xI]
 | a::l,k+1,h=>by
  have:=ZD l k NQ;rw[xI,show(k+1)*2=k*2+1+1 by omega];simpa using this
theorem Qj(l:List Sp):∀u∈yx l,u.oneCell'=true:=by
 intro u hu;simp only[yx,List.mem_flatMap,sp2,vz,List.not_mem_nil,or_false]at hu;obtain⟨a,_,rfl|rfl⟩:=hu<;>rfl
abbrev RdS(w:World)(B:Nat)(A:Option Addr)(n c:Nat)(l:List Sp):Prop:=Rd w B 2 A n c (yx l)
variable {w w' : World} {B n c : Nat} {A : Option Addr} {l : List Sp}
theorem RdS.length(h:RdS w B A n c l):l.length=n:=by have:=h.len;rw[Qi]at this;omega
theorem RdS.at_k(h:RdS w B A n c l)(hk:k<n):∃b off,A=some ⟨b,off,none⟩∧b<B∧∃hl:k<l.length,w.cell? ⟨b,off+k*2,none⟩=some (.int .u32 (l[k].1:Int))∧w.cell? ⟨b,off+k*2+1,none⟩=some (.int .u32 (l[k].2:Int)):=by
 obtain⟨b,off,e,hb,hc⟩:=h.at_ Wq;have hl:=h.length;have hg:=ZD l k Wq;exact⟨b,off,e,hb,by omega,hc _ _ hg.1,by have:=hc _ _ hg.2;rwa[←Nat.add_assoc]at this⟩
theorem RdS.at_p(h:RdS w B A n c l)(hk:k≤n)(h0:0<k):∃b off,A=some ⟨b,off,none⟩∧b<B∧w.cell? ⟨b,off+(k-1)*2+1,none⟩=some (.int .u32 ((l.getD (k-1) (0,0)).2:Int)):=by
 obtain⟨b,off,e,hb,hl,_,hc⟩:=RdS.at_k h (k:=k-1) Wq;refine⟨b,off,e,hb,?_⟩;rw[hc];simp[q9,Vy hl]
theorem Xo{N:Nat}{l:List Sp}(h:spOK N l)(k:Nat)(hN:0<N):(l.getD k (0,0)).1<N∧(l.getD k (0,0)).2<N:=by
 rw[q9]
 cases hk:l[k]? with
 | none=>exact⟨hN,hN⟩
 | some a=>exact h a (List.mem_of_getElem? hk)
theorem RdS.cut{lo:Nat}(hr:RdS w B A n c l)(h:lo+k≤n):RdS w B (cutA A 2 lo c) k (c-lo) ((l.drop lo).take k):=by
 have h1:=kV hr lo (lo+k) c Wq (by have:=hr.cap;omega) (Q2 _) h;rw[vP,vQ,z6,Nat.add_sub_cancel_left]at h1;exact h1
theorem slS:SlT prog 74 208 2 8 (.agg #[.int .u32 0,.int .u32 0]):=SlT.mk' underlying74 Wj rfl Wq
abbrev OwnS(w:World)(base:Nat)(A:Option Addr)(n c:Nat)(l:List Sp):Prop:=Own w base 208 2 A n c (yx l)
end
theorem zcH{W:World}{ops:Array Oper}{o:Oper}{a:Act}{K:Act→World→Prop}{Q:Exit→Act→World→Prop}{s x:Operand}{t t2 e2:Nat}{out:List Sp}{fi ti:Int}(hT:SlT prog t 208 2 8 (.agg #[.int .u32 0,.int .u32 0]))(h2:prog.underlying t2=some (.slice e2))
  (ho:o.op= .call {callee:=.builtin .append,args:=#[s,x],argTypes:=#[t,t2]}) (hs:a.eval s= .slice A n c) (hx:a.eval x= .slice (some ⟨g,0,none⟩) 1 1) (hg:g=W.heap.size)
  (f u:Nat) (hf:fi=(f:Int)) (hu:ti=(u:Int)) (Hl:OwnS W base A n c out) (hn:n≤1000000000) (Hf:base≤W.heap.size)
  (h:∀A2 c2 w',OwnS w' base A2 (n+1) c2 (out++ [(f,u)])→W.grownBy w' (blk A)→(blk A2=blk A∨∀g,blk A2=some g→W.heap.size≤g)→Below base W w'→K (a.put o.dst (.slice A2 (n+1) c2)) w'):
  o.wp prog a (W.alloc (.cells #[.int .u32 fi,.int .u32 ti] 208)) K Q:=by
 subst hg hf hu;have bZ:=yn (w:=W) base #[.int .u32 (f:Int),.int .u32 (u:Int)] 208 1 Hf WX rfl (size:=2) Wq;have bW:OwnS (W.alloc (.cells #[.int .u32 (f:Int),.int .u32 (u:Int)] 208)) base A n c out:=Hl.alloc _;refine jL (ops:=ops) hT h2 ho hs hx bW bZ.rd (Qj [(f,u)]) Wq UJ Hz fun A2 c2 w' a1 a2 a3=>?_
 have e:yx out++(#[.int .u32 (f:Int),.int .u32 (u:Int)]:Array Value).toList=yx (out++ [(f,u)]):=by rw[Qh];rfl
 rw[e]at a1;have Hc:Below base W (W.alloc (.cells #[.int .u32 (f:Int),.int .u32 (u:Int)] 208)):=(KL _ _).alloc Hf _;have sH:W.grownBy w' (blk A):=⟨a2.os,a2.tape,a2.output,z7 Hc.size a2.size,fun k hk hne=>(a2.block k Hz hne).trans (((KL W.heap.size W).alloc (Q2 _) _).block k hk)⟩;refine h A2 c2 w' a1 sH ?_ ((KL _ _).grown sH Hf (fun g hg=>(Hl.blk_lt hg).1));exact Z5i_
theorem VL{W:World}{ops:Array Oper}{rest:List Oper}{o:Oper}{a:Act}{Q:Exit→Act→World→Prop}{s x:Operand}{t t2 e2:Nat}{out:List Sp}{fi ti:Int}(hT:SlT prog t 208 2 8 (.agg #[.int .u32 0,.int .u32 0]))(h2:prog.underlying t2=some (.slice e2))(hw:Region.wanted o (yielded ops a.tmps)=true)
  (ho:o.op= .call {callee:=.builtin .append,args:=#[s,x],argTypes:=#[t,t2]}) (hs:a.eval s= .slice A n c) (hx:a.eval x= .slice (some ⟨g,0,none⟩) 1 1) (hg:g=W.heap.size)
  (f u:Nat) (hf:fi=(f:Int)) (hu:ti=(u:Int)) (Hl:OwnS W base A n c out) (hn:n≤1000000000) (Hf:base≤W.heap.size)
  (h:∀A2 c2 w',OwnS w' base A2 (n+1) c2 (out++ [(f,u)])→W.grownBy w' (blk A)→(blk A2=blk A∨∀g,blk A2=some g→W.heap.size≤g)→Below base W w'→wpList prog ops Q rest (a.put o.dst (.slice A2 (n+1) c2)) w'):
  wpList prog ops Q (o::rest) a (W.alloc (.cells #[.int .u32 fi,.int .u32 ti] 208)):=by
 refine BigFrame.wpList_want hw fun K hK=>?_
 exact zcH (ops:=ops) hT h2 ho hs hx hg f u hf hu Hl hn Hf fun A2 c2 w' a1 a2 a3 a4=>hK _ _ (h A2 c2 w' a1 a2 a3 a4)
theorem Yr(A:Option Addr)(n c:Nat)(l:List Sp)(B:Nat)(w:World)(hr:RdS w B A n c l)(hb:spOK 4294967296 l)(hB:B≤w.heap.size)(hn:n≤140737488355328):
  Calls prog 116 #[.slice A n c] w fun e w'=>e= .returned (.bool (zV l))∧Below w.heap.size w w':=by
 have qq51:=();exact Zt_
theorem Ql:prog.underlying 208=some (.struct (prog.fieldsOf 208)):=by kernel_rfl
theorem JN:prog.stoodInHeld 208=false:=by kernel_rfl
theorem JO:prog.eqGuardType prog.depth 208=false:=by kernel_rfl
theorem Q0(f t f' t':Nat)(w:World):(binOp .neq 208 (.agg #[.int .u32 f,.int .u32 t]) (.agg #[.int .u32 f',.int .u32 t'])).run prog w= .ok (.bool (!decide ((f,t)=(f',t')))) w:=by
 rw[run_neq_struct,run_equalIn_struct w 9999 208 _ _ Ql JN];simp only[Program.fieldsOf,underlying208];have hb:(f,t)=(f',t')↔f=f'∧t=t':=by simp
 have hd:decide ((f,t)=(f',t'))=(((f:Int)==(f':Int))&&((t:Int)==(t':Int))):=by
  rw[Bool.eq_iff_iff];simp;omega
 rw[hd]
 cases h1:((f:Int)==(f':Int))<;>cases h2:((t:Int)==(t':Int))<;>simp[Op.eqFields,part,run_equalIn_int _ 9998 71 .u32 .u32 _ _ underlying71,h1,h2,beq_iff_eq,Result.andThen,typeInfo,sizeOf]
end Go.PH
section
namespace Go.PH
open Go.RowKit Go.Proofs Go.ChangeShapes Go.WideShapes Go.ChangeAt Go.Deep
variable {H : Type} {enc : TypeId × Value → H} {W : World}
def zdb(a:Sp)(cs:List Value):Prop:=cs=sp2 a∧a.1<4294967296∧a.2<4294967296
theorem Ya:∀(L:List Sp) (xs:List Value),xs.length=L.length*2→(∀i (h:i<L.length),zdb L[i] ((xs.drop (i*2)).take 2))→xs=yx L∧spOK 4294967296 L
 | [],xs,hl,_=>by
  have:=List.eq_nil_of_length_eq_zero zAh;subst this
  exact⟨rfl,fun z hz=>by cases hz⟩
 | a::L,xs,hl,h=>by
  rcases xs with _|⟨x,_|⟨y,xs⟩⟩
  ·simp at hl
  ·simp at hl;omega
  have h0:=h 0 Wz;obtain⟨e,b1,b2⟩:=h0;simp[sp2]at e
  obtain⟨i1,i2⟩:=Ya L xs (by simp at hl;omega) (fun i hi=>by
   have:=h (i+1) Hz
   simpa[Nat.add_mul]using this)
  refine⟨by rw[e.1,e.2,xI,i1],fun z hz=>?_⟩;rcases vz.1 hz with rfl|hz
  ·exact⟨b1,b2⟩
  exact i2 z hz
theorem RdS.of{A:Option Addr}{n c B:Nat}{xs:List Value}{L:List Sp}(hr:Rd W B 2 A n c xs)(hL:L.length=n)(hR:∀i (h:i<L.length),zdb L[i] ((xs.drop (i*2)).take 2)):RdS W B A n c L∧spOK 4294967296 L:=by
 obtain⟨h1,h2⟩:=Ya L xs (by rw[hr.len,hL]) hR;subst h1;exact⟨hr,h2⟩
end Go.PH
end
namespace Go.PH
open Go.RowKit Go.Proofs Go.Proofs.Tryz
variable {bad : Bool} {l : List UInt8} {b base c e g k n x : Nat} {F : Nat → Prop} {A : Option Addr} {row : Option Nat} {w w' : World}
theorem Xv(A:Option Addr)(n c:Nat)(l:List Sp)(B:Nat)(w:World)(hr:RdS w B A n c l)(hb:spOK 4294967296 l)(hB:B≤w.heap.size)(hn:n≤140737488355328):
  Calls prog 122 #[.slice A n c] w fun e w'=>e= .returned (.bool (zV l))∧Below w.heap.size w w':=by
 exact Zt_
def yf(l:List Sp):List UInt8:=l.flatMap fun a=>be 4 a.1++be 4 a.2
def yL(l:List Sp):List UInt8:=if zV l=true∧l.length≤1000 then be 2 (8*l.length)++yf l else []
def ye(l:List Sp):Nat:=if zV l=true then(if l.length≤1000 then 0 else 6)else 30
theorem vS{l:List Sp}(hk:k<l.length):yf (l.take (k+1))=yf (l.take k)++be 4 l[k].1++be 4 l[k].2:=by
 unfold yf;rw[q8 hk,z8];simp
theorem ZL(l:List Sp):(yf l).length=8*l.length:=by
 induction l with
 | nil=>rfl
 | cons a l ih=>
  have e:yf (a::l)=be 4 a.1++be 4 a.2++yf l:=rfl;rw[e];simp only[K2,zr,ih,kI];omega
theorem put2{b:List UInt8}{v:Nat}:puts b v 2=b++be 2 v:=yT WJ
theorem put4{b:List UInt8}{v:Nat}:puts b v 4=b++be 4 v:=yT WJ
theorem Vd(A:Option Addr)(n c:Nat)(l:List Sp)(B:Nat)(w:World)(hr:RdS w B A n c l)(hb:spOK 4294967296 l)(hB:B≤w.heap.size)(hn:n≤140737488351232):
  Calls prog 104 #[.slice A n c] w fun e w'=>∃A2 c2,e= .returned (.tuple #[.slice A2 (yL l).length c2,.int .i64 (ye l)])∧Own w' w.heap.size 5 1 A2 (yL l).length c2 ((yL l).map u8v)∧Below w.heap.size w w':=by
 exact Zd_
theorem JY(A:Option Addr)(n c:Nat)(l:List Sp)(B:Nat)(w:World)(hr:RdS w B A n c l)(hb:spOK 4294967296 l)(hB:B≤w.heap.size)(hn:n≤140737488351232):
  Calls prog 97 #[.slice A n c] w fun e w'=>∃A2 c2,e= .returned (.tuple #[.slice A2 (yL l).length c2,.int .i64 (ye l)])∧Own w' w.heap.size 5 1 A2 (yL l).length c2 ((yL l).map u8v)∧Below w.heap.size w w':=by
 have qq2t:=();exact Zd_
theorem vi{size:Nat}{xs:List Value}(ho:Own w base e size A n c xs)(hg:w.grownBy w' row)(h:∀g,blk A=some g→row≠some g):Own w' base e size A n c xs:=
 ho.kept hg (by
  rw[xh]
  cases hA:blk A with
  | none=>exact .inl rfl
  | some g=>exact .inr fun e=>h g hA e.symm)
theorem Yp{size:Nat}{xs:List Value}(ho:Own w base e size A n c xs)(hB:Below w.heap.size w w'):Own w' base e size A n c xs:=
 ho.kept (ZM hB none) (by cases hv:(Value.slice A n c).ownBlock<;>simp)
theorem vI(hx:x=1∨x=2∨x=4∨x=8)(h:x≤l.length):mnum l false (x:Int)=(unbe (l.take x),l.drop x,false):=by
 rw[qE (qK Wq),xp h]
theorem Yq(hx:x=1∨x=2∨x=4∨x=8)(h:l.length<x):mnum l false (x:Int)=(0,[],true):=by
 rw[qE (qK Wq),je (.inr (.inr Wq))];rfl
theorem xY:unbe (l.take x)<256 ^ x:=by
 have h1:=vu (l.take x);have h2:(l.take x).length≤x:=by simp;omega
 exact z1 h1 (Nat.pow_le_pow_right Wq h2)
def yl(k:Nat)(l:List UInt8):List Sp:=(List.range k).map fun i=>(unbe ((l.drop (8*i)).take 4),unbe ((l.drop (8*i+4)).take 4))
theorem vj(k:Nat)(l:List UInt8):yl (k+1) l=yl k l++ [(unbe ((l.drop (8*k)).take 4),unbe ((l.drop (8*k+4)).take 4))]:=by
 unfold yl;rw[List.range_succ,K1];rfl
theorem kM(k:Nat)(l:List UInt8):spOK 4294967296 (yl k l):=by
 intro a ha;obtain⟨i,_,rfl⟩:=List.mem_map.1 ha;exact⟨xY,xY⟩
theorem ji(k:Nat)(l:List UInt8):(yl k l).length=k:=by simp[yl]
def getN(b:List UInt8):Nat:=unbe (b.take 2)
def zO(b:List UInt8):Nat:=
 if b.length<2 then 4 else if getN b % 8≠0∨1000<getN b / 8 then 5 else if b.length<2+getN b then 4 else if zV (yl (getN b / 8) (b.drop 2))=true then 0 else 5
def xN(b:List UInt8):List Sp:=if zO b=0 then yl (getN b / 8) (b.drop 2)else []
def qu(b:List UInt8):Nat:=if zO b=0 then getN b+2 else 0
theorem xZ{b:List UInt8}(h:zO b=e)(he:e≠0):xN b=[]∧qu b=0:=by
 unfold xN qu;rw[h];simp[he]
theorem VK(A:Option Addr)(n c:Nat)(b:List UInt8)(w:World)(hr:RdB w w.heap.size A n c b)(hn:n≤140737488351232):
  Calls prog 161 #[.slice A n c] w fun e w'=>∃A2 c2,e= .returned (.tuple #[.slice A2 (xN b).length c2,.int .i64 (qu b),.int .i64 (zO b)])∧OwnS w' w.heap.size A2 (xN b).length c2 (xN b)∧Below w.heap.size w w':=by
 have qq25:=();exact Z7_
theorem JX(A:Option Addr)(n c:Nat)(b:List UInt8)(w:World)(hr:RdB w w.heap.size A n c b)(hn:n≤140737488351232):
  Calls prog 140 #[.slice A n c] w fun e w'=>∃A2 c2,e= .returned (.tuple #[.slice A2 (xN b).length c2,.int .i64 (qu b),.int .i64 (zO b)])∧OwnS w' w.heap.size A2 (xN b).length c2 (xN b)∧Below w.heap.size w w':=by
 exact Z7_
end Go.PH
section
namespace Go.PH
theorem YT(k:Nat)(l:List UInt8):yl (k+1) l=(unbe (l.take 4),unbe ((l.drop 4).take 4))::yl k (l.drop 8):=by
 unfold yl;rw[List.range_succ_eq_map,zA,List.map_map];congr 1;apply List.map_congr_left;intro i _;simp only[Function.comp,z9];rw[show 8*Nat.succ i=8+8*i by omega,show 8+8*i+4=8+(8*i+4) by omega]
theorem j6:∀(l:List Sp) (r:List UInt8),spOK 4294967296 l→yl l.length (yf l++r)=l
 | [],r,_=>rfl
 | a::l,r,h=>by
  have ha:=h a Wz
  have e:yf (a::l)++r=be 4 a.1++(be 4 a.2++(yf l++r)):=by
   (show be 4 a.1++be 4 a.2++yf l++r=_);simp
  rw[kI,YT,e];have l1:=zr 4 a.1;have l2:=zr 4 a.2;have d1:(be 4 a.1++(be 4 a.2++(yf l++r))).drop 4=be 4 a.2++(yf l++r):=by rw[v0 Wq,v5 Wq];rfl
  have d2:(be 4 a.1++(be 4 a.2++(yf l++r))).drop 8=yf l++r:=by
   rw[show(8:Nat)=4+4 from rfl,←z9,d1,v0 Wq,v5 Wq];rfl
  rw[d1,d2,j0 Wq,VB Wq,j0 Wq,VB Wq,vw,vw,j6 l r (fun z hz=>h z (by simp[hz]))];congr 1;exact Prod.ext (j8 ha.1) (j8 ha.2)
theorem Qy{l:List Sp}(r:List UInt8)(hr:zV l=true)(hn:l.length≤1000)(h:spOK 4294967296 l):zO (yL l++r)=0∧xN (yL l++r)=l∧qu (yL l++r)=(yL l).length:=by
 have e:yL l=be 2 (8*l.length)++yf l:=by rw[yL,if_pos ⟨hr,by omega⟩]
 have lb:=zr 2 (8*l.length);have ls:=ZL l
 have hN:getN (yL l++r)=8*l.length:=by
  unfold getN;rw[e,yB,j0 Wq,VB Wq,vw,j8 Wq]
 have hd:(yL l++r).drop 2=yf l++r:=by
  rw[e,yB,v0 Wq,v5 Wq];rfl
 have hl:(yL l++r).length=2+8*l.length+r.length:=by rw[e];simp only[K2,lb,ls]
 have hq:8*l.length / 8=l.length:=by omega
 have h0:zO (yL l++r)=0:=by
  rw[zO,hN,hd,hq,if_neg Wq,if_neg Wq,if_neg Wq,j6 l r h,hr];rfl
 refine⟨h0,?_,?_⟩
 ·rw[xN,h0,hN,hd,hq,j6 l r h];rfl
 rw[qu,h0,hN,e];simp only[K2,lb,ls];simp;omega
end Go.PH
end
section
namespace Go.PH
open Go.RowKit
section
variable {P : Program} {w : World} {t : TypeId}
theorem qA(l:List UInt8)(a b:Nat):(str l).extract a b=str ((l.take b).drop a):=by
 rw[z6];exact ByteArray.extract_mk l a b
theorem jl(a b:List UInt8):str a++str b=str (a++b):=by
 apply ByteArray.ext;simp[str]
theorem YE(hu:P.underlying t=some .string)(w:World){l:List UInt8}{lo hi:Option Value}(i j:Nat)(fC:Bd lo 0 i)(mT:Bd hi l.length j)(h1:i≤j)(h2:j≤l.length):
  (Instr.sliceAt t (.string (str l)) lo hi none).run P w= .ok (.string (str ((l.take j).drop i))) w:=by
 rw[run_sliceAt_string w t _ _ _ _ hu];rcases fC with⟨rfl,rfl⟩|⟨kd,X,rfl,rfl⟩
 ·rcases mT with⟨rfl,rfl⟩|⟨kd,X,rfl,rfl⟩
  ·rw[run_slice_string_all (h:=hu),zi,qA]
  rw[run_slice_string_h (ht:=hu) (h0:=by omega) (h2:=by rw[zi];omega),qA];simp
 rcases mT with⟨rfl,rfl⟩|⟨kd',X,rfl,rfl⟩
 ·rw[run_slice_string_l (ht:=hu) (h0:=by omega) (h1:=by rw[zi];omega),zi,qA];simp
 rw[run_slice_string (h:=hu) (h0:=by omega) (h1:=by omega) (h2:=by rw[zi];omega),qA];simp
variable {ops : Array Oper} {rest : List Oper} {o : Oper} {a : Act} {Q : Exit → Act → World → Prop} {x : Operand} {K : Act → World → Prop}
theorem qL{lo hi:Option Operand}(hu:P.underlying t=some .string)(ho:o.op= .slice t x lo hi none){l:List UInt8}(hx:a.eval x= .string (str l))(i j:Nat)(fC:Bd (lo.map a.eval) 0 i)(mT:Bd (hi.map a.eval) l.length j)(h1:i≤j)(h2:j≤l.length):
  (execOp a.eval o).run P w= .ok (.value (.string (str ((l.take j).drop i)))) w:=by
 have bu:=YE hu w i j fC mT h1 h2;unfold execOp;simp only[ho,hx,Sem.run_bind,Sem.run_pure,Result.andThen_ok,Option.map_none,bu]
theorem zca{lo hi:Option Operand}(hu:P.underlying t=some .string)(ho:o.op= .slice t x lo hi none){l:List UInt8}(hx:a.eval x= .string (str l))(i j:Nat)(fC:Bd (lo.map a.eval) 0 i)(mT:Bd (hi.map a.eval) l.length j)(h1:i≤j)(h2:j≤l.length)
  (hk:K (a.put o.dst (.string (str ((l.take j).drop i)))) w):o.wp P a w K Q:=by
 have bu:=YE hu w i j fC mT h1 h2;unfold Oper.wp execOp;simp only[ho,hx,Sem.run_bind,Sem.run_pure,Result.andThen_ok,Option.map_none,bu];exact hk
theorem X8{lo hi:Option Operand}(hu:P.underlying t=some .string)(hw:Region.wanted o (yielded ops a.tmps)=true)(ho:o.op= .slice t x lo hi none){l:List UInt8}(hx:a.eval x= .string (str l))(i j:Nat)(fC:Bd (lo.map a.eval) 0 i)(mT:Bd (hi.map a.eval) l.length j)(h1:i≤j)(h2:j≤l.length)
  (hk:wpList P ops Q rest (a.put o.dst (.string (str ((l.take j).drop i)))) w):wpList P ops Q (o::rest) a w:=
 BigFrame.wpList_want hw fun K hK=>zca hu ho hx i j fC mT h1 h2 (hK _ _ hk)
theorem zcb{src dst e:TypeId}(hs:P.underlying src=some .string)(hd:P.underlying dst=some (.slice e))(he:P.underlying e=some (.int .u8))(w:World)(l:List UInt8)(hl:l.length≤140737488351240):
  ∃c w',(convert src dst (.string (str l))).run P w= .ok (.slice (some ⟨w.heap.size,0,none⟩) l.length c) w'∧RdB w' w'.heap.size (some ⟨w.heap.size,0,none⟩) l.length c l∧Below w.heap.size w w':=by
 refine⟨_,_,Lib.run_convert_string_bytes w src dst e (str l) hs hd he,?_,?_⟩
 ·refine⟨by simp,?_,?_,fun hn=>⟨_,_,rfl,by rw[yA];omega,fun j u hu=>?_⟩⟩
  ·exact grownCap_ge _ _ _ _
  ·exact grownCap_le_maxLen _ _ _ _ (by simp only[maxLen,zi];omega)
  have hj:j<l.length:=by have:=(List.getElem?_eq_some_iff.1 hu).1;simpa using this
  have:=Lib.bytesWorld_cell w e (str l) j (by rw[zi];exact hj);simp only[q5];rw[this];simp[u8v,str,q9,hj]at hu ⊢;exact hu
 refine⟨?_,?_,?_,by rw[yA];omega,fun k hk=>Lib.bytesWorld_at_old w e (str l) k hk⟩;all_goals rfl
theorem zc1{src dst e:TypeId}(hs:P.underlying src=some .string)(hd:P.underlying dst=some (.slice e))(he:P.underlying e=some (.int .u8))(ho:o.op= .convert src dst x){l:List UInt8}(hx:a.eval x= .string (str l))(hl:l.length≤140737488351240)
  (hk:∀c w',RdB w' w'.heap.size (some ⟨w.heap.size,0,none⟩) l.length c l→Below w.heap.size w w'→K (a.put o.dst (.slice (some ⟨w.heap.size,0,none⟩) l.length c)) w'):o.wp P a w K Q:=by
 obtain⟨c,w',bu,h1,h2⟩:=zcb hs hd he w l hl;unfold Oper.wp execOp;simp only[ho,hx,Sem.run_bind,Sem.run_pure,Result.andThen_ok,bu];exact hk _ _ h1 h2
theorem QU{src dst e:TypeId}(hs:P.underlying src=some .string)(hd:P.underlying dst=some (.slice e))(he:P.underlying e=some (.int .u8))(hw:Region.wanted o (yielded ops a.tmps)=true)(ho:o.op= .convert src dst x){l:List UInt8}(hx:a.eval x= .string (str l))(hl:l.length≤140737488351240)
  (hk:∀c w',RdB w' w'.heap.size (some ⟨w.heap.size,0,none⟩) l.length c l→Below w.heap.size w w'→wpList P ops Q rest (a.put o.dst (.slice (some ⟨w.heap.size,0,none⟩) l.length c)) w'):wpList P ops Q (o::rest) a w:=
 BigFrame.wpList_want hw fun K hK=>zc1 hs hd he ho hx hl fun c w' h1 h2=>hK _ _ (hk c w' h1 h2)
end
end Go.PH
end
namespace Go.PH
open Go.RowKit Go.Proofs Go.Proofs.Tryz
variable {bad : Bool} {l : List UInt8} {b base c e g k n x : Nat} {F : Nat → Prop} {A : Option Addr} {row : Option Nat} {w w' : World}
def Qb:Value→Nat
 | .string z=>z.size
 | _=>0
def cutF(most:Int)(a:As):List Fr:=if xa most a=0 then vq most.toNat a else []
theorem zaM(a:As)(most:Int)(A:Option Addr)(n c:Nat)(B:Nat)(w:World)(hr:RdG w B A n c a.segs)(hB:B≤w.heap.size)(hw:a.wf)(hs:∀s∈a.segs,s.load.length≤140737488351232)(hn:n≤140737488351232):
  Calls prog 44 #[.agg (asV a.chan a.track A n c),.int .i64 most] w fun e w'=>∃A2 c2,e= .returned (.tuple #[.slice A2 (cutF most a).length c2,.int .i64 (xa most a:Int)])∧OwnF w' w.heap.size A2 (cutF most a).length c2 (cutF most a)∧Below w.heap.size w w':=by
 have qqiw:=();exact Z45_
def xw(l:List Fr):List UInt8:=l.flatMap Fr.put
theorem Qa(f:Fr):f.put.length≤4096:=by
 unfold Fr.put;split
 ·rename_i h
  have:f.bytes.length=12+f.load.length:=by simp[Fr.bytes,zr];omega
  simp[Fr.ok]at h;omega
 simp
theorem Z6(l:List Fr):(xw l).length≤4096*l.length:=by
 induction l with
 | nil=>simp[xw]
 | cons f r ih=>
  have:=Qa f;have e:xw (f::r)=f.put++xw r:=rfl;rw[e,K2,kI];omega
theorem Zs{l:List Fr}{i:Nat}(h:i<l.length):xw (l.take (i+1))=xw (l.take i)++l[i].put:=by
 unfold xw;rw[q8 h,z8,List.flatMap_singleton]
theorem KG(most:Nat):∀(k:Nat) (f:Fr) (s:List UInt8),f.wf→s.length≤16384→∀x∈cutS most k f s,x.wf∧x.load.length≤16384
 | 0,f,s,hf,hs,x,hx=>by simp[cutS]at hx;subst hx;exact⟨hf,hs⟩
 | k+1,f,s,hf,hs,x,hx=>by
  rw[cutS]at hx;split at hx
  ·simp at hx;subst hx;exact⟨hf,hs⟩
  rcases vz.1 hx with rfl|hx
  ·exact⟨hf,by simp;omega⟩
  exact KG most k ⟨f.first,f.last,false,false,f.ty,f.track,f.chan,[]⟩ (s.drop most) hf Hz x hx
theorem KH{most:Int}{a:As}(hw:a.wf):∀x∈cutF most a,x.wf∧x.load.length≤16384:=by
 intro x hx;unfold cutF at hx;split at hx
 ·rename_i h
  have bJ:asOk a=true:=by
   unfold xa at h;split at h
   ·omega
   split at h
   ·assumption
   omega
  obtain⟨_,hs,_⟩:=vZ bJ
  have key:∀(l:List Sg) (i:Nat),(∀s∈l,s.ty<256∧s.load.length≤16384)→∀x∈cutL most.toNat a.chan a.track a.segs.length i l,x.wf∧x.load.length≤16384:=by
   intro l
   induction l with
   | nil=>intro i _ x hx;simp[cutL]at hx
   | cons s r ih=>
    intro i hl x hx;rw[cutL]at hx;rcases List.mem_append.1 hx with hx|hx
    ·have:=hl s Wz;exact KG _ _ _ _ ⟨this.1,hw.2.1,hw.1⟩ this.2 x hx
    exact ih _ (fun s hs=>hl s (by simp[hs])) x hx
  exact key _ _ (fun s TI=>⟨hw.2.2 s TI,z7 (kR TI) hs⟩) x hx
 cases hx
theorem YF(most:Int)(a:As):(cutF most a).length≤16388:=by
 unfold cutF;split
 ·rename_i h
  unfold xa at h;split at h
  ·omega
  split at h
  ·rename_i h1 h2
   exact Zj Wq h2
  omega
 simp
end Go.PH
