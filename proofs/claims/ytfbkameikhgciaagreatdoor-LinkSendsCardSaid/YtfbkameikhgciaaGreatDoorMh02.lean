/- Parts. -/
import Derived.Test.YtfbkameikhgciaaGreatDoorMh01
set_option linter.all false
set_option maxRecDepth 20000
set_option maxHeartbeats 8000000
open Go.RowKit.Below renaming refl → KL
open Go.Lib renaming hid → Q1, indexByte → GX, bytesWorld_size → Gz
open List renaming length_append → K1, map_append → K2, length_take → VB, take_of_length_le → Vy, cons_append → Vx, length_cons → kI, getD → kv, getElem_toArray → k8, getElem_cons_zero → k9, setIfInBounds_toArray → vv, set_cons_zero → vz, set_cons_succ → v0, take_succ_cons → v5, drop_succ_cons → v9, getElem?_eq_getElem → zA, mem_cons → z0, drop_zero → z5, mem_range → z6, take_append_of_le_length → z7, drop_append_of_le_length → z8, drop_drop → z9, nil_append → yB, take_succ_eq_append_getElem → yA, getD_cons_zero → y5, getD_cons_succ → y6, getElem?_take → y7, take_left' → y8, map_cons → xB, getLast?_eq_getElem? → xA, drop_of_length_le → GK, mem_cons_of_mem → GZ, map_take → GR, map_drop → GT, all_eq_true → GM, filter_append → GB, drop_take → GG, flatMap_append → Gk, map_map → Gv, append_assoc → Gj, count_eq_zero → Gx
open Nat renaming le_refl → Q2, add_zero → kx, min_eq_left → j8, zero_add → zB, mul_one → z4, strongRecOn → y2, le_trans → GQ, mod_eq_of_lt → GV, add_assoc → GN, add_comm → GE, lt_of_lt_of_le → GC, eq_zero_or_pos → GA
open Go.RowKit renaming intOf → ky
open UInt8 renaming ofNat → KS, toNat_inj → GU
open Go.World renaming block_lt_of_cell? → K0, cell?_setCell_same → y9, cell?_setCell_other → xT, frozen?_of_block → GH
namespace Go.PH
open Go.RowKit Go.Proofs Go.Proofs.Tryz
variable {bad : Bool} {l : List UInt8} {b base c e g k n x : Nat} {F : Nat → Prop} {A : Option Addr} {row : Option Nat} {w w' : World}
theorem zdu(x y:Nat)(hx:x<256)(hy:y<256):bits .or .u16 ((256*x:Nat):Int) (y:Int)=((256*x+y:Nat):Int):=by
 have e1:∀k:Nat,k<65536→(BitVec.ofInt 16 ((k:Nat):Int)).toNat=k:=fun k hk=>by rw[BitVec.toNat_ofInt];omega
 show IntKind.u16.wrap ((BitVec.ofInt 16 ((256*x:Nat):Int)|||BitVec.ofInt 16 (y:Int)).toNat:Int)=_
 have h2:=Nat.two_pow_add_eq_or_of_lt (i:=8) (b:=y) Wq x;rw[BitVec.toNat_or,e1 _ Wq,e1 _ Wq,show 256*x=2 ^ 8*x by omega,←h2];exact IntWalk.u16_in _ ⟨by omega,by omega⟩
def Kh(b:List UInt8):Fr×Nat:=
 if b.length<12∨zN b=false∨b.length<frN b then(⟨false,false,false,false,0,0,0,[]⟩,0)else(frAt b (frN b),frN b)
theorem Zg{b:List UInt8}(h:b.length<12∨zN b=false∨b.length<frN b):Kh b=(⟨false,false,false,false,0,0,0,[]⟩,0):=if_pos h
theorem Z0{b:List UInt8}(h1:12≤b.length)(h2:zN b=true)(h3:frN b≤b.length):Kh b=(frAt b (frN b),frN b):=if_neg (by rw[h2];simp;omega)
def zf:Array Value:=#[.bool false,.bool false,.bool false,.bool false,.int .u8 0,.int .u8 0,.int .u16 0,.string ⟨#[]⟩]
theorem Y4:zf= #[.bool false,.bool false,.bool false,.bool false,.int .u8 0,.int .u8 0,.int .u16 0,.string ⟨#[]⟩]:=rfl
theorem zbJ(A:Option Addr)(n c:Nat)(b:List UInt8)(B:Nat)(w:World)(hr:RdB w B A n c b)(hB:B≤w.heap.size)(hn:n≤1000000000):
  Calls prog 40 #[.slice A n c] w fun e w'=>e= .returned (.tuple #[.agg (frV (Kh b).1),.int .i64 (Kh b).2])∧Below w.heap.size w w':=by
 have hl:=RdB.length hr;have fp:=hr.cap;obtain⟨w0,og⟩:∃w0,w0=w.alloc (.cells zf 97):=⟨_,rfl⟩
 have Hr:Below w.heap.size w w0:=by rw[og];exact(KL _ _).alloc (Q2 _) _
 have rP:=hr.below (Hr.mono hB);have Cv:Box w0 w.heap.size 97 zf:=by rw[og];exact Box.new _ _ _
 have td:=Hr.size;by_cases gi:n<12
 ·have Gi:(n:Int)<12:=by omega
  rw[Zg (.inl Wq)];clear hl gi;go_enter func40,ntmps40;go_wp2_with(with_reducible refine h_B ?_);rw[←Y4,←og];refine zc (zm (v:=.agg zf) (vs:=zf.toList) rfl rfl rfl rfl Cv rfl Wj WJ WJ zf rfl ?_);intro w1 bL bM _;go_wp2_with(with_reducible refine h_A ?_)
  (try simp only[Exit.inBlock,Exit.then])
  refine zG rfl bL rfl rfl underlying97 rfl Wj rfl ?_;exact⟨rfl,Hr.grown bM td Wx⟩
 have Gi:¬(n:Int)<12:=by omega
 have px:=X2 A n c b B w0 rP Wq Wq
 cases dk:zN b
 ·rw[Zg (.inr (.inl dk))];rw[dk,og,Y4]at px;clear dk hl gi;go_enter func40,ntmps40;go_wp2_with(with_reducible refine h_B ?_);rw[←Y4];refine px.mono ?_;rintro e w1 ⟨rfl,Ha⟩;rw[←Y4,←og]at Ha;have bL:=Cv.below Ha;have Hc:=Hr.trans (Ha.mono td);go_wp2_with(with_reducible refine h_B ?_);refine zc (zm (v:=.agg zf) (vs:=zf.toList) rfl rfl rfl rfl bL rfl Wj WJ WJ zf rfl ?_);intro w2 bE Hm _;go_wp2_with(with_reducible refine h_A ?_)
  (try simp only[Exit.inBlock,Exit.then])
  refine zG rfl bE rfl rfl underlying97 rfl Wj rfl ?_;exact⟨rfl,Hc.grown Hm Hc.size Wx⟩
 have PP:=qe dk Wq;have aP:=xS dk (k:=0) Wq Wq Wq;have n7:=qv b 2;have GW:=qv b 3;have SE:=qv b 6;have Tw:=qv b 7;have eS:(2:Int)<(n:Int):=by omega
 have oV:(3:Int)<(n:Int):=by omega
 obtain⟨N,hN⟩:∃N,N=frN b:=⟨_,rfl⟩
 have N8:=Yr b;have HW:=Q1 dk;rw[dk,og,Y4]at px;clear dk;obtain⟨bk,off,rfl,aU,OT,dN⟩:=RdB.at_k rP (show 2<n by omega);obtain⟨bk',off',e3,_,RO,i6⟩:=RdB.at_k rP (show 3<n by omega);obtain⟨rfl,rfl⟩:bk=bk'∧off=off':=by simpa using e3
 clear e3;rw[←xj OT]at dN;rw[←xj RO]at i6;have fw:IntKind.i64.wrap (256*((zX b 2:Nat):Int))=((256*zX b 2:Nat):Int):=by rw[IntWalk.i64_in _ ⟨by omega,by omega⟩];omega
 have Wv:IntKind.i64.wrap ((zX b 2:Nat):Int)=(zX b 2:Int):=IntWalk.i64_in _ ⟨by omega,by omega⟩;have aM:IntKind.i64.wrap ((zX b 3:Nat):Int)=(zX b 3:Int):=IntWalk.i64_in _ ⟨by omega,by omega⟩;have om:IntKind.i64.wrap (((256*zX b 2:Nat):Int)+(zX b 3:Int))=((N:Nat):Int):=by rw[IntWalk.i64_in _ ⟨by omega,by omega⟩,hN,N8];omega
 rw[←hN]at PP;have HN:=Q1 hN;clear hN N8;generalize zX b 2=x2 at*;generalize zX b 3=x3 at*;generalize(256*x2:Nat)=m at*;go_enter func40,ntmps40;go_wp2_with(with_reducible refine h_B ?_);rw[←Y4];refine px.mono ?_;rintro e w1 ⟨rfl,Ha⟩;rw[←Y4,←og]at Ha;have bL:=Cv.below Ha;have Hc:=Hr.trans (Ha.mono td);have RU:=zq dN Ha;have OU:=zq i6 Ha;clear px og dN i6;go_wp2_with(with_reducible refine h_B ?_);go_quiet(fail);by_cases bQ:n<N
 ·have sV:(n:Int)<(N:Int):=by omega
  have HF:=Q1 (Zg (b:=b) (.inr (.inr MX)));clear bQ hl;go_wp2_with(with_reducible refine h_B ?_);refine zc (zm (v:=.agg zf) (vs:=zf.toList) rfl rfl rfl rfl (show Box (w1.drewN _) _ _ _ from bL) rfl Wj WJ WJ zf rfl ?_);intro w2 bE Hm _;go_wp2_with(with_reducible refine h_A ?_)
  (try simp only[Exit.inBlock,Exit.then])
  refine zG rfl bE rfl rfl underlying97 rfl Wj rfl ?_;rw[HF.out];exact⟨rfl,(za Hc _).grown Hm Hc.size Wx⟩
 have sV:¬(n:Int)<(N:Int):=by omega
 have HF:=Q1 (Z0 (b:=b) Wq HW.out MX);have eA:=za Hc nq;have hzn:=eA.size;have Ex:Box (w1.drewN nq) w.heap.size 97 zf:=bL;have lL:RdB (w1.drewN nq) B (some ⟨bk,off,none⟩) n c b:=hr.below (eA.mono hB);generalize w1.drewN nq=wn at*;clear Ha Hc bL RU OU Hr Cv rP;obtain⟨bk0,aB,e0,_,h0l,ik⟩:=RdB.at_k lL (show 0<n by omega);obtain⟨bk1,AN,e1,_,W8,ck⟩:=RdB.at_k lL (show 1<n by omega);obtain⟨bk5,af,e5,_,h5l,rX⟩:=RdB.at_k lL (show 5<n by omega);obtain⟨bk6,aK,e6,_,Wo,sX⟩:=RdB.at_k lL (show 6<n by omega);obtain⟨bk7,WW,e7,_,W3,wg⟩:=RdB.at_k lL (show 7<n by omega)
 cases e0;cases e1;cases e5;cases e6;cases e7;rw[←xj h0l]at ik;rw[←xj W8]at ck;rw[←xj h5l]at rX;rw[←xj Wo]at sX;rw[←xj W3]at wg;rw[kx]at ik;have hcut:=kU lL 12 N c Wq Wq (Q2 _) Wq;simp only[z4,←GR,←GT]at hcut;have nP:Hid (frAt b N=⟨zX b 0 / 8 % 2==1,zX b 0 / 4 % 2==1,zX b 0 / 2 % 2==1,zX b 0 % 2==1,zX b 1,zX b 5,256*zX b 6+zX b 7,(b.take N).drop 12⟩):=Q1 rfl;have rW:(0:Int)<(n:Int):=by omega
 have eK:(1:Int)<(n:Int):=by omega
 have mV:(5:Int)<(n:Int):=by omega
 have rH:(6:Int)<(n:Int):=by omega
 have Oj:(7:Int)<(n:Int):=by omega
 have hbq:0<n:=by omega
 obtain⟨ch,ii⟩:∃ch,ch=256*zX b 6+zX b 7:=⟨_,rfl⟩
 rw[←ii]at nP;have Ov:ch<65536:=by omega
 have CP:=qv b 1;generalize zX b 0=x0 at*;generalize zX b 1=x1 at*;generalize zX b 5=x5 at*;generalize zX b 6=x6 at*;generalize zX b 7=x7 at*;generalize(b.take N).drop 12=ld at*;have ak:IntKind.u16.wrap ((x6:Nat):Int)=(x6:Int):=IntWalk.u16_in _ ⟨by omega,by omega⟩;have PF:IntKind.u16.wrap ((x7:Nat):Int)=(x7:Int):=IntWalk.u16_in _ ⟨by omega,by omega⟩;go_wp2_with(with_reducible refine h_B ?_);have lh:bk<w.heap.size:=by omega
 have Oa:IntKind.u16.wrap (((x6:Nat):Int)*256)=((256*x6:Nat):Int):=by rw[IntWalk.u16_in _ ⟨by omega,by omega⟩];omega
 have fX:bits .or .u16 ((256*x6:Nat):Int) (x7:Int)=(ch:Int):=by rw[zdu x6 x7 SE Tw,ii]
 clear ii;generalize(256*x6:Nat)=m6 at*
 have dh:∀w':World,Below w.heap.size wn w'→(fun wx:World=>wx.cell? ⟨bk,off,none⟩=some (.int .u8 (x0:Int))∧wx.cell? ⟨bk,off+1,none⟩=some (.int .u8 (x1:Int))∧wx.cell? ⟨bk,off+5,none⟩=some (.int .u8 (x5:Int))∧wx.cell? ⟨bk,off+6,none⟩=some (.int .u8 (x6:Int))∧wx.cell? ⟨bk,off+7,none⟩=some (.int .u8 (x7:Int))∧RdB wx B (cutA (some ⟨bk,off,none⟩) 1 12 c) (N-12) (c-12) ld) w':=fun w' h=>
  ⟨(h.cell (p:=⟨bk,off,none⟩) lh).trans ik,(h.cell (p:=⟨bk,off+1,none⟩) lh).trans ck,(h.cell (p:=⟨bk,off+5,none⟩) lh).trans rX,(h.cell (p:=⟨bk,off+6,none⟩) lh).trans sX,(h.cell (p:=⟨bk,off+7,none⟩) lh).trans wg,Rd.below hcut (h.mono hB)⟩
 have hS:=dh wn.drew (za (KL _ _) 1);simp only at hS dh;refine zt (fun wx:World=>wx.cell? ⟨bk,off,none⟩=some (.int .u8 (x0:Int))∧wx.cell? ⟨bk,off+1,none⟩=some (.int .u8 (x1:Int))∧wx.cell? ⟨bk,off+5,none⟩=some (.int .u8 (x5:Int))∧wx.cell? ⟨bk,off+6,none⟩=some (.int .u8 (x6:Int))∧wx.cell? ⟨bk,off+7,none⟩=some (.int .u8 (x7:Int))∧RdB wx B (cutA (some ⟨bk,off,none⟩) 1 12 c) (N-12) (c-12) ld) Wj ?_;refine rg_t 0 hS ?_;simp only[k8,k9,Act.put,vv,vz,v0];refine rg_t 1 hS ?_;simp only[g_S];refine rg_t 2 hS ?_;simp only[g_S];refine rg_t 3 hS ?_;simp only[g_S];refine rg_t 4 hS ?_;simp only[g_S];refine rg_t 5 hS ?_;simp only[g_S];refine rg_t 6 hS ?_;simp only[g_S];refine rg_t 7 hS ?_;simp only[g_S];refine rg_t 8 hS ?_;simp only[g_S];refine rg_t 9 hS ?_;simp only[g_S];refine rg_t 10 hS ?_;simp only[g_S];refine rg_t 11 hS ?_;simp only[g_S];refine rg_t 12 hS ?_;simp only[g_S];refine rg_t 13 hS ?_;simp only[g_S];refine rg_t 14 hS ?_;simp only[g_S];refine rg_t 15 hS ?_;simp only[g_S];refine rg_t 16 hS ?_;simp only[g_S];refine rg_t 17 hS ?_;simp only[g_S];have fG:Bd (some (Value.int .i64 12)) 0 12:=.inr ⟨_,_,rfl,rfl⟩;have oS:Bd (some (Value.int .i64 (N:Int))) n N:=.inr ⟨_,_,rfl,rfl⟩;refine qH 18 slB rfl Wj Wj Wj hS rfl rfl rfl lL.max lL.cap 12 N c fG oS (.inl ⟨rfl,rfl⟩) Mz Wq Wq (Q2 _) Wq ?_;simp only[g_S];refine ze 19 (v:=?_) rfl Wj Wj Wj hS rfl ?_ ?_;rotate_left
 ·intro wS He;have hv:=jh (w:=wS) He.2.2.2.2.2;go_simp;(with_reducible rfl)
 simp only[g_S];refine rg_t 20 hS ?_;simp only[g_S];refine zj 21 rfl Wj rfl (fun K hK=>?_);go_simp;have Hh:Below w.heap.size wn (wn.alloc (.cells zf 97)).drew:=za ((KL w.heap.size wn).alloc hzn _) 1;have bX:Box (wn.alloc (.cells zf 97)).drew wn.heap.size 97 zf:=Box.new wn _ _;have Hw:Box (wn.alloc (.cells zf 97)).drew w.heap.size 97 zf:=Box.alloc (w:=wn) Ex _;have dL:=dh _ Hh;rw[Y4]at dL;refine hK _ _ dL ?_;clear hK K;rw[←Y4]at dL ⊢;have hgq:w.heap.size<wn.heap.size:=Ex.lt;generalize(wn.alloc (.cells zf 97)).drew=w3 at*;refine zj 22 rfl Wj rfl (fun K hK=>?_);refine zK (v:=.agg #[.bool false,.bool false,.bool false,.bool false,.int .u8 x1,.int .u8 x5,.int .u16 ch,.string (str ld)]) (vs:=[.bool false,.bool false,.bool false,.bool false,.int .u8 x1,.int .u8 x5,.int .u16 ch,.string (str ld)]) rfl rfl rfl bX rfl Wj (by simp[zf]) (by simp;exact⟨rfl,rfl,rfl,rfl,rfl⟩) #[.bool false,.bool false,.bool false,.bool false,.int .u8 x1,.int .u8 x5,.int .u16 ch,.string (str ld)] rfl ?_;intro w4 dK Bb _;have Hn:=Hh.grown Bb (by have:=Hh.size;omega) Wx;have ML:=Hw.grown Bb ux;simp only[g_S];refine hK _ _ (dh _ Hn) ?_;clear hK K bX Hw Hh dL Bb;refine zD Wj ?_;have OV:=(dh _ Hn).1;go_wp2_with(with_reducible refine h_B ?_);refine zc (zm (v:=.bool ((x0:Int) / 8 % 2==1)) (vs:=[.bool ((x0:Int) / 8 % 2==1)]) rfl rfl rfl rfl dK rfl Wj Wz wX #[.bool ((x0:Int) / 8 % 2==1),.bool false,.bool false,.bool false,.int .u8 x1,.int .u8 x5,.int .u16 ch,.string (str ld)] rfl ?_);intro w5 cH bc GF;have bz:=Hn.grown bc (by have:=Hn.size;omega) Wx;have Mr:=ML.grown bc ux;clear bc GF dK ML OV;have Sk:=(dh _ bz).1;go_wp2_with(with_reducible refine h_B ?_);refine zc (zm (v:=.bool ((x0:Int) / 4 % 2==1)) (vs:=[.bool ((x0:Int) / 4 % 2==1)]) rfl rfl rfl rfl cH rfl Wj Wz wX #[.bool ((x0:Int) / 8 % 2==1),.bool ((x0:Int) / 4 % 2==1),.bool false,.bool false,.int .u8 x1,.int .u8 x5,.int .u16 ch,.string (str ld)] rfl ?_);intro w6 cJ bm Aw;have bH:=bz.grown bm (by have:=bz.size;omega) Wx;have IS:=Mr.grown bm ux;clear bm Aw cH Mr Sk;have Pi:=(dh _ bH).1;go_wp2_with(with_reducible refine h_B ?_);refine zc (zm (v:=.bool ((x0:Int) / 2 % 2==1)) (vs:=[.bool ((x0:Int) / 2 % 2==1)]) rfl rfl rfl rfl cJ rfl Wj Wz wX #[.bool ((x0:Int) / 8 % 2==1),.bool ((x0:Int) / 4 % 2==1),.bool ((x0:Int) / 2 % 2==1),.bool false,.int .u8 x1,.int .u8 x5,.int .u16 ch,.string (str ld)] rfl ?_);intro w7 gw H9 wh;have Bq:=bH.grown H9 (by have:=bH.size;omega) Wx;have LJ:=IS.grown H9 ux;clear H9 wh cJ IS Pi;have RJ:=(dh _ Bq).1;go_wp2_with(with_reducible refine h_B ?_);refine zc (zm (v:=.bool ((x0:Int) % 2==1)) (vs:=[.bool ((x0:Int) % 2==1)]) rfl rfl rfl rfl gw rfl Wj Wz wX #[.bool ((x0:Int) / 8 % 2==1),.bool ((x0:Int) / 4 % 2==1),.bool ((x0:Int) / 2 % 2==1),.bool ((x0:Int) % 2==1),.int .u8 x1,.int .u8 x5,.int .u16 ch,.string (str ld)] rfl ?_);intro w8 ph H5 GI;have Be:=Bq.grown H5 (by have:=Bq.size;omega) Wx;have RN:=LJ.grown H5 ux;clear H5 GI gw LJ RJ;obtain⟨k0,k1,k2,k3,k4,k5,k6,k7⟩:w8.cell? ⟨wn.heap.size,0,none⟩=some (.bool ((x0:Int) / 8 % 2==1))∧w8.cell? ⟨wn.heap.size,1,none⟩=some (.bool ((x0:Int) / 4 % 2==1))∧w8.cell? ⟨wn.heap.size,2,none⟩=some (.bool ((x0:Int) / 2 % 2==1))∧w8.cell? ⟨wn.heap.size,3,none⟩=some (.bool ((x0:Int) % 2==1))∧w8.cell? ⟨wn.heap.size,4,none⟩=some (.int .u8 (x1:Int))∧w8.cell? ⟨wn.heap.size,5,none⟩=some (.int .u8 (x5:Int))∧w8.cell? ⟨wn.heap.size,6,none⟩=some (.int .u16 (ch:Int))∧w8.cell? ⟨wn.heap.size,7,none⟩=some (.string (str ld)):=⟨ph.cell rfl,ph.cell rfl,ph.cell rfl,ph.cell rfl,ph.cell rfl,ph.cell rfl,ph.cell rfl,ph.cell rfl⟩;go_wp2_with(with_reducible refine h_B ?_);refine zc (zm (v:=.agg #[.bool ((x0:Int) / 8 % 2==1),.bool ((x0:Int) / 4 % 2==1),.bool ((x0:Int) / 2 % 2==1),.bool ((x0:Int) % 2==1),.int .u8 x1,.int .u8 x5,.int .u16 ch,.string (str ld)]) (vs:=(#[.bool ((x0:Int) / 8 % 2==1),.bool ((x0:Int) / 4 % 2==1),.bool ((x0:Int) / 2 % 2==1),.bool ((x0:Int) % 2==1),.int .u8 x1,.int .u8 x5,.int .u16 ch,.string (str ld)]:Array Value).toList) rfl rfl rfl rfl RN rfl Wj (by simp[zf]) (by simp;exact⟨rfl,rfl,rfl,rfl,rfl,rfl,rfl,rfl⟩) #[.bool ((x0:Int) / 8 % 2==1),.bool ((x0:Int) / 4 % 2==1),.bool ((x0:Int) / 2 % 2==1),.bool ((x0:Int) % 2==1),.int .u8 x1,.int .u8 x5,.int .u16 ch,.string (str ld)] (by simp[zf]) ?_);intro w9 gu du GD;have Bh:=Be.grown du (by have:=Be.size;omega) Wx;have io:=eA.trans Bh;go_wp2_with(with_reducible refine h_A ?_)
 (try simp only[Exit.inBlock,Exit.then])
 refine zG rfl gu rfl rfl underlying97 rfl Wj rfl ?_;rw[HF.out,←HN.out,nP.out];have e8:((x0:Int) / 8 % 2==1)=(x0 / 8 % 2==1):=by rw[Bool.eq_iff_iff];simp;omega
 have e4:((x0:Int) / 4 % 2==1)=(x0 / 4 % 2==1):=by rw[Bool.eq_iff_iff];simp;omega
 have e2:((x0:Int) / 2 % 2==1)=(x0 / 2 % 2==1):=by rw[Bool.eq_iff_iff];simp;omega
 have e1:((x0:Int) % 2==1)=(x0 % 2==1):=by rw[Bool.eq_iff_iff];simp;omega
 rw[e8,e4,e2,e1];exact⟨rfl,io⟩
end Go.PH
section
namespace Go.PH
theorem vo(b:List UInt8):(zu b).1.length*12≤(zu b).2.1∧(zu b).2.1≤b.length:=by
 induction hn:b.length using y2 generalizing b with
 | ind n ih=>
  subst hn;by_cases hw:zN b=false
  ·rw[qA hw];simp
  have fw:zN b=true:=by simpa using hw
  by_cases gi:b.length<12
  ·rw[xa fw gi];simp
  by_cases hl:b.length<frN b
  ·rw[qg fw Wq hl];simp
  have hN:=(qe fw Wq).1;rw[qh fw Wq Wq];have:=ih _ mz (b.drop (frN b)) rfl;rw[List.length_drop]at this;simp only[kI];omega
end Go.PH
end
section
namespace Go.PH
theorem V4:∀x:Fin 16,bitv (x.val / 8 % 2==1) 8+bitv (x.val / 4 % 2==1) 4+bitv (x.val / 2 % 2==1) 2+bitv (x.val % 2==1) 1=x.val:=by decide
theorem jK{x:UInt8}{n:Nat}(h:n % 256=x.toNat):KS n=x:=by
 apply GU.1;rw[UInt8.toNat_ofNat'];exact h
theorem ZX{x:UInt8}(h:x.toNat≤0):x=0:=GU.1 Nz
theorem be2(n:Nat):be 2 n=[KS (n / 256),KS n]:=by simp[be]
theorem J9{b:List UInt8}(hw:zN b=true)(hl:12≤b.length)(hN:frN b≤b.length):(frAt b (frN b)).bytes=b.take (frN b)∧(frAt b (frN b)).ok=true:=by
 have h0:=xS hw (k:=0) Wq Wq Wq;have h1:=xS hw (k:=1) Wq Wq Wq;have h4:=xS hw (k:=4) Wq Wq Wq;have h5:=xS hw (k:=5) Wq Wq Wq;have h8:=xS hw (k:=8) Wq Wq Wq;have h9:=xS hw (k:=9) Wq Wq Wq;have dV:=xS hw (k:=10) Wq Wq Wq;have fa:=xS hw (k:=11) Wq Wq Wq;obtain⟨eK,eS⟩:=qe hw Wq;clear hw;have N8:=Yr b;generalize frN b=N at*
 match b,hl with
 | x0::x1::x2::x3::x4::x5::x6::x7::x8::x9::x10::x11::r,_=>
  simp only[zX,y5,y6,xv]at h0 h1 h4 h5 h8 h9 dV fa N8;have n7:=x2.toNat_lt;have GW:=x3.toNat_lt;have SE:=x6.toNat_lt;have Tw:=x7.toNat_lt;have Rf:=x5.toNat_lt;have CP:=x1.toNat_lt;obtain rfl:=ZX h4;obtain rfl:=ZX h8;obtain rfl:=ZX h9;obtain rfl:=ZX dV;obtain rfl:=ZX fa;obtain⟨M,rfl⟩:∃M,N=M+12:=⟨N-12,by omega⟩
  simp only[kI]at hN;have im:(r.take M).length=M:=by rw[VB];omega
  have dm:=V4 ⟨x0.toNat,by omega⟩;simp only at dm;constructor
  ·simp only[frAt,Fr.bytes,Fr.flags,zX,y5,y6,v5,v9,z5,be2,dm,im];rw[jK (x:=x0) Wq,jK (x:=x1) Wq,jK (x:=x2) (n:=(12+M) / 256) Wq,jK (x:=x3) (n:=12+M) Wq,jK (x:=x5) Wq,jK (x:=x6) Wq,jK (x:=x7) Wq];rfl
  simp only[frAt,Fr.ok,zX,y5,y6,v5,v9,z5,im];simp;omega
theorem Ka(b:List UInt8):Y2 (zu b).1=(zu b).1∧kM (zu b).1=b.take (zu b).2.1:=by
 induction hn:b.length using y2 generalizing b with
 | ind n ih=>
  subst hn;by_cases hw:zN b=false
  ·rw[qA hw];simp[Y2,kM]
  have fw:zN b=true:=by simpa using hw
  by_cases gi:b.length<12
  ·rw[xa fw gi];simp[Y2,kM]
  by_cases hl:b.length<frN b
  ·rw[qg fw Wq hl];simp[Y2,kM]
  have hN:=(qe fw Wq).1;obtain⟨hb,bJ⟩:=J9 fw Wq Wq;rw[qh fw Wq Wq];obtain⟨i1,i2⟩:=ih _ mz (b.drop (frN b)) rfl;have e1:Y2 (frAt b (frN b)::(zu (b.drop (frN b))).1)=frAt b (frN b)::Y2 (zu (b.drop (frN b))).1:=by simp[Y2,bJ]
  refine⟨by rw[e1,i1],?_⟩;have e2:kM (frAt b (frN b)::(zu (b.drop (frN b))).1)=(frAt b (frN b)).bytes++kM (zu (b.drop (frN b))).1:=by unfold kM;rw[e1];simp
  rw[e2,i2,hb,←List.take_add]
theorem YA{b:List UInt8}{j k:Nat}(h:j<k):yF (b.take k) j=yF b j:=by
 have e:∀i,i<k→(b.take k).getD i 0=b.getD i 0:=fun i hi=>by simp[kv,y7,hi]
 unfold yF;split
 ·next e3=>subst e3;unfold frN;rw[e 2 Wq,e 3 Wq]
 rw[e j h]
theorem ZY{b:List UInt8}(h:zN b=true)(k:Nat):zN (b.take k)=true:=by
 unfold zN at h ⊢;rw[GM]at h ⊢;intro j hj;have hj:=z6.1 hj;rw[VB]at hj;rw[YA Wq];exact h j (z6.2 Wq)
theorem Kb{a:List UInt8}(p:List UInt8)(h:12≤a.length):zN (a++p)=zN a:=by
 cases hw:zN a
 ·cases om:zN (a++p)
  ·rfl
  have:=ZY om a.length;rw[y8 rfl,hw]at this
  cases this
 unfold zN at hw ⊢;rw[GM]at hw ⊢;intro j hj;have hj:=z6.1 hj;rw[←YA (k:=a.length) Wq,y8 rfl];exact hw j (z6.2 Wq)
theorem Kc{a:List UInt8}(p:List UInt8)(h:zN a=false):zN (a++p)=false:=by
 cases om:zN (a++p)
 ·rfl
 have:=ZY om a.length;rw[y8 rfl,h]at this
 cases this
theorem jc{a:List UInt8}(p:List UInt8){i:Nat}(h:i<a.length):zX (a++p) i=zX a i:=by
 simp[zX,kv,List.getElem?_append_left h]
theorem QJ{a:List UInt8}(p:List UInt8)(h:4≤a.length):frN (a++p)=frN a:=by
 rw[Yr,Yr,jc p Wq,jc p Wq]
theorem zbB{a:List UInt8}(p:List UInt8){n:Nat}(h:12≤a.length)(hn:n≤a.length):frAt (a++p) n=frAt a n:=by
 unfold frAt;rw[jc p Wq,jc p Wq,jc p Wq,jc p Wq,jc p Wq,z7 hn]
theorem Kd(a p:List UInt8):((zu a).2.2=0→zu (a++p)=((zu a).1++(zu (a.drop (zu a).2.1++p)).1,(zu a).2.1+(zu (a.drop (zu a).2.1++p)).2.1,(zu (a.drop (zu a).2.1++p)).2.2))∧
  ((zu a).2.2≠0→zu (a++p)=zu a):=by
 induction hn:a.length using y2 generalizing a with
 | ind n ih=>
  subst hn;by_cases hw:zN a=false
  ·rw[qA hw,qA (Kc p hw)];exact⟨fun h=>by simp at h,fun _=>rfl⟩
  have fw:zN a=true:=by simpa using hw
  by_cases gi:a.length<12
  ·rw[xa fw gi];exact⟨fun _=>by simp,fun h=>absurd rfl h⟩
  by_cases hl:a.length<frN a
  ·rw[qg fw Wq hl];exact⟨fun _=>by simp,fun h=>absurd rfl h⟩
  have hN:=(qe fw Wq).1;rw[qh fw Wq Wq];have om:zN (a++p)=true:=by rw[Kb p Wq];exact fw
  have Lq:=QJ (a:=a) p Wq;rw[qh om Hq (by rw[Lq];simp;omega),Lq,zbB p Wq Wq,z8 Wq];obtain⟨i1,i2⟩:=ih _ mz (a.drop (frN a)) rfl;simp only;refine⟨fun h=>?_,fun h=>?_⟩
  ·rw[i1 h];simp[z9,GN]
  rw[i2 h]
end Go.PH
end
section
namespace Go.PH
end Go.PH
end
namespace Go.PH
open Go.RowKit Go.Proofs Go.Proofs.Tryz
variable {bad : Bool} {l : List UInt8} {b base c e g k n x : Nat} {F : Nat → Prop} {A : Option Addr} {row : Option Nat} {w w' : World}
theorem qF{v:Value}{vb:Option Nat}(h:Rdr F w v vb l bad)(x most:Int)(hx: -9223372036854775808≤x)(pp:x≤9223372036854775807)(hm: -9223372036854775808≤most)(pd:most≤9223372036854775807):
  Calls prog 157 #[v,.int .i64 x,.int .i64 most] w fun e w'=>e= .returned (.string (str (zT l bad x most).1))∧Rdr F w' v vb (zT l bad x most).2.1 (zT l bad x most).2.2∧w.grownBy w' vb:=by
 by_cases h8:x=8
 ·subst h8;rw[QU Wq];go_enter func157,ntmps157;go_wp2_with(with_reducible refine h_A ?_);refine(xk h).mono ?_;exact Z60_
 have hN:=yn h x hx pp;have hlt:=xg l bad x;rw[Za h8];generalize mnum l bad x=r at hN hlt ⊢;obtain⟨n,l',bad'⟩:=r;simp only at hN hlt ⊢;by_cases hb:bad'=true
 ·have qqbv:=();exact Z2l_
 obtain rfl:bad'=false:=by simpa using hb
 by_cases sk:most<0
 ·have qqbw:=();exact Z2l_
 by_cases CJ:most<(n:Int)
 ·have qqbx:=();exact Z2l_
 by_cases C8:l'.length<n
 ·exact Z2l_
 rw[if_neg Hq,xp Wq];have Pa:(n:Int)≤9223372036854775807:=by omega
 have E4:¬((l'.length:Int)<(n:Int)):=by omega
 have Mi:0≤most:=by omega
 have Ec:(n:Int)≤most:=by omega
 go_enter func157,ntmps157;go_wp2_with(with_reducible refine h_A ?_);refine hN.mono ?_;rintro e w1 ⟨rfl,h1,bM⟩;have fD:=h1.len;go_wp2_with(with_reducible refine h_A ?_);refine(yD h1).mono ?_;rintro e w2 ⟨rfl,rfl⟩;go_wp2_with(with_reducible refine h_A ?_);refine(yN h1).mono ?_;rintro e w2 ⟨rfl,rfl⟩;go_wp2_with(with_reducible refine h_A ?_);have hT:=kj h1 (n:Int) Wq Wq;rw[xp Wq]at hT;simp only[VB,j8 (Nat.le_of_not_lt C8)]at hT;refine hT.mono ?_;rintro e w3 ⟨A3,c3,rfl,Bx,h3,H7⟩;have fF:=jh Bx.rd;go_wp2_with(with_reducible refine h_A ?_);go_ret;exact⟨rfl,h3,bM.trans H7⟩
def Qrd(F:Nat→Prop)(w:World)(b:Nat)(l:List UInt8)(bad:Bool):Prop:=
 ∃A n c,w.cell? ⟨b,0,none⟩=some (.slice A n c)∧w.cell? ⟨b,1,none⟩=some (.bool bad)∧w.frozen? ⟨b,0,none⟩=false∧w.frozen? ⟨b,1,none⟩=false∧RdB w w.heap.size A n c l∧blk A≠some b∧n≤140737488351240∧F b∧∀g,blk A=some g→F g
theorem Qrd.len(h:Qrd F w b l bad):l.length≤140737488351240:=by
 obtain⟨A,n,c,_,_,_,_,hr,_,hn,_⟩:=h;rw[hr.length];exact hn
theorem Qrd.lt(h:Qrd F w b l bad):b<w.heap.size:=by
 obtain⟨A,n,c,h0,_⟩:=h;exact K0 w _ h0
theorem Qrd.kept(h:Qrd F w b l bad)(hg:w.grownBy w' row)(hne:∀g,row=some g→¬F g):Qrd F w' b l bad:=by
 obtain⟨A,n,c,h0,h1,mM,ix,hr,hA,hn,hF,wH⟩:=h;have hb:b<w.heap.size:=K0 w _ h0;refine⟨A,n,c,hg.cell h0 (fun e=>hne _ e.symm hF),hg.cell h1 (fun e=>hne _ e.symm hF),(hg.frozen_far ⟨b,0,none⟩ hb (fun e=>hne _ e.symm hF)).trans mM,(hg.frozen_far ⟨b,1,none⟩ hb (fun e=>hne _ e.symm hF)).trans ix,(hr.grown_ne hg (Q2 _) ?_).more hg.size,hA,hn,hF,wH⟩;rcases hA:blk A with _|g
 ·exact .inl rfl
 exact .inr fun e=>hne g e.symm (wH g hA)
theorem Qrd.below(h:Qrd F w b l bad)(hB:Below w.heap.size w w'):Qrd F w' b l bad:=h.kept (ZP hB none) Wz
theorem Qrd.drew(h:Qrd F w b l bad):Qrd F w.drew b l bad:=h.kept (ZQ w none) Wz
theorem Qrd.inF(h:Qrd F w b l bad):F b:=by
 obtain⟨A,n,c,h0,h1,mM,ix,hr,hA,hn,hF,wH⟩:=h;exact hF
theorem xN(h:Qrd F w b l bad):
  Calls prog 163 #[.pointer (some ⟨b,0,none⟩)] w fun e w'=>e= .returned (.tuple #[])∧Qrd F w' b [] true∧w.grownBy w' (some b):=by
 obtain⟨A,n,c,h0,h1,mM,ix,hr,hA,hn,hF⟩:=h;go_enter func163,ntmps163;go_wp2_with(with_reducible refine h_A ?_);go_end0;refine⟨rfl,⟨none,0,0,?_,?_,?_,?_,Rd.nil _ _ _ _ WX _,by simp[blk],by omega,hF.1,by simp[blk]⟩,(ki w ⟨b,1,none⟩ (.bool true)).trans (ki _ ⟨b,0,none⟩ (.slice none 0 0))⟩
 ·refine y9 _ _ _ (u:=.slice A n c) ?_;rw[xT _ _ _ _ Wz];exact h0
 ·rw[xT _ _ _ _ Wz];exact y9 _ _ _ h1
 ·simp[mM]
 simp[ix]
theorem XO(h:Qrd F w b l bad)(x:Int)(hx: -9223372036854775808≤x)(pp:x≤9223372036854775807):
  Calls prog 164 #[.pointer (some ⟨b,0,none⟩),.int .i64 x] w fun e w'=>∃A2 c2,e= .returned (.slice A2 (xe l bad x).1.length c2)∧Own w' w.heap.size 5 1 A2 (xe l bad x).1.length c2 ((xe l bad x).1.map u8v)∧
   Qrd F w' b (xe l bad x).2.1 (xe l bad x).2.2∧w.grownBy w' (some b):=by
 have h':=h;obtain⟨A,n,c,h0,h1,mM,ix,hr,hA,hn,hF⟩:=h;have hl:=hr.length;have fp:=hr.cap;by_cases ei:bad=true
 ·have qqdz:=();exact Z3c_
 obtain rfl:bad=false:=by simpa using ei
 by_cases sk:x<0
 ·have qqe0:=();exact Z3c_
 by_cases bQ:(l.length:Int)<x
 ·exact Z3c_
 obtain⟨m,rfl⟩:∃m:Nat,x=m:=⟨x.toNat,by omega⟩
 have hm:m≤l.length:=by omega
 have mK:m≤n:=by omega
 rw[xp hm];simp only[VB,j8 hm];go_enter func164,ntmps164;go_wp2_with(with_reducible refine h_S ?_);refine zc (zbP slB rfl rfl rfl hr 0 m c (.inl ⟨rfl,rfl⟩) (.inr ⟨_,_,rfl,rfl⟩) (.inl ⟨rfl,rfl⟩) mq Wq Wq (Q2 _) Wq ?_);intro A1 dT;simp only[Nat.zero_mul,z4,z5,←GR,Nat.sub_zero]at dT;go_wp2_with(with_reducible refine h_S ?_);refine zc (yc slB rfl rfl rfl rfl (Own.none_ w w.heap.size _ _) dT (zM _) Wq UJ (Q2 _) ?_);intro A2 c2 w1 bW bM _;have hB:Below w.heap.size w w1:=(KL _ _).grown bM (Q2 _) (by simp[blk]);simp only[zB,yB]at bW;have gc:b<w.heap.size:=K0 w _ h0;have GY:w1.cell? ⟨b,0,none⟩=some (.slice A n c):=(hB.cell (p:=⟨b,0,none⟩) gc).trans h0;have fa:w1.cell? ⟨b,1,none⟩=some (.bool false):=(hB.cell (p:=⟨b,1,none⟩) gc).trans h1;have Er:w1.frozen? ⟨b,0,none⟩=false:=(GH (hB.block b gc)).trans mM;have St:w1.frozen? ⟨b,1,none⟩=false:=(GH (hB.block b gc)).trans ix;have B1:RdB w1 w.heap.size A n c l:=hr.below hB;go_wp2_with(with_reducible refine h_S ?_);refine zc (kD slB rfl rfl rfl B1 m n c (.inr ⟨_,_,rfl,rfl⟩) (.inl ⟨rfl,rfl⟩) (.inl ⟨rfl,rfl⟩) mq Wq Wq (Q2 _) Wq ?_);intro A3 cl UN;have mh:blk A3≠some b:=by rw[UN];exact hA
 go_wp2_with(with_reducible refine h_S ?_);go_ret;have cf:∀g,blk A2=some g→w.heap.size≤g:=fun g hg=>(bW.blk_lt hg).1
 have pc:=ki w1 ⟨b,0,none⟩ (.slice A3 (n-m) (c-m));refine⟨A2,c2,by simp[Array.getD],?_,?_,?_⟩
 ·refine bW.kept pc (.inr fun e=>?_);rw[xh]at e;have:w.heap.size≤b:=cf _ e;omega
 ·refine⟨A3,n-m,c-m,?_,?_,?_,?_,?_,mh,by omega,hF.1,fun g hg=>hF.2 g (by rwa[UN]at hg)⟩
  ·exact y9 _ _ _ GY
  ·exact(xT _ _ _ _ Wz).trans fa
  ·simpa using Er
  ·simpa using St
  have e3:(((l.map u8v).take (n*1)).drop (m*1))=(l.drop m).map u8v:=by
   rw[z4,z4,Vy Hq,GT]
  rw[e3]at cl;have h4:RdB w1 w1.heap.size A3 (n-m) (c-m) (l.drop m):=cl.more hB.size;exact(h4.grown_ne pc (Q2 _) (.inr mh)).more pc.size
 exact(ZP hB (some b)).trans pc
theorem yZ(A:Option Addr)(n c:Nat)(l:List UInt8)(w:World)(hb:RdB w w.heap.size A n c l)(hn:n≤140737488351240):
  Calls prog 136 #[.slice A n c] w fun e w'=>∃b,e= .returned (.pointer (some ⟨b,0,none⟩))∧w.heap.size≤b∧Qrd (fun g=>w.heap.size≤g∧g<w'.heap.size) w' b l false∧Below w.heap.size w w':=by
 have hl:=hb.length;go_enter func136,ntmps136;go_wp2_with(with_reducible refine h_A ?_);refine zc (yc slB rfl rfl rfl rfl (Own.none_ w w.heap.size _ _) hb (zM _) Wq UJ (Q2 _) ?_);intro A2 c2 w1 bW bM _;have hB:Below w.heap.size w w1:=(KL _ _).grown bM (Q2 _) (by simp[blk]);simp only[zB,yB]at bW;go_wp2_with(with_reducible refine h_A ?_);go_ret;refine⟨w1.heap.size,by first|rfl|simp[Array.getD],hB.size,⟨A2,n,c2,?_,?_,?_,?_,?_,?_,hn,?_,?_⟩,hB.alloc hB.size _⟩
 ·simp
 ·simp
 ·simp
 ·simp
 ·exact Own.rd (base:=w.heap.size) (e:=5) (bW.alloc _)
 ·intro e;have:=(bW.blk_lt e).2;omega
 ·have:=hB.size;simp;omega
 intro g hg;have h1:=(bW.blk_lt hg).1;have h2:=(bW.blk_lt hg).2;simp;omega
theorem yG(h:Qrd F w b l bad)(x:Int)(hx: -9223372036854775808≤x)(pp:x≤9223372036854775807):
  Calls prog 137 #[.pointer (some ⟨b,0,none⟩),.int .i64 x] w fun e w'=>e= .returned (.int .u64 ((mnum l bad x).1:Nat))∧Qrd F w' b (mnum l bad x).2.1 (mnum l bad x).2.2∧w.grownBy w' (some b):=by
 exact Z18_
theorem ye(n i:Nat)(w:World)(hn:n<18446744073709551616)(hi8:i≤8):
  Calls prog 67 #[.int .u64 n,.int .i64 i] w fun e w'=>∃A2 c2,e= .returned (.slice A2 i c2)∧Own w' w.heap.size 5 1 A2 i c2 ((be i n).map u8v)∧Below w.heap.size w w':=by
 go_enter func67,ntmps67;go_wp2_with(with_reducible refine h_A ?_);go_loopw [6,5,0] (fun x v s wr=>∃(k c2 m:Nat) (A2:Option Addr),k≤i∧x= .int .i64 k∧v= .slice A2 k c2∧s= .int .u64 (m:Nat)∧m=n / 256 ^ k∧m<18446744073709551616∧Own wr w.heap.size 5 1 A2 k c2 ((be k n).map u8v)∧Below w.heap.size w wr) (fun x _ _ _=>i-(ky x).toNat)
 case atStart=>exact⟨0,0,n,none,by omega,rfl,rfl,rfl,by simp,hn,by simpa[be]using Own.none_ _ _ _ _,KL _ _⟩
 obtain⟨k,c2,m,A2,hk,rfl,rfl,rfl,hm,hh4,ho,hB⟩:=hrel;have HM:=Q1 hm;clear hm;by_cases hlt:k<i
 ·have b7:=yq (w:=wr) wr.heap.size #[Value.int .u8 ((m:Int) % 256)] 5 1 (Q2 _) WX rfl (size:=1) Wq;have Ha:Below w.heap.size w (wr.alloc (.cells #[Value.int .u8 ((m:Int) % 256)] 5)):=hB.alloc hB.size _;have dT:=Own.rd (base:=w.heap.size) (e:=5) (ho.alloc (.cells #[Value.int .u8 ((m:Int) % 256)] 5));go_wp2_with(with_reducible refine h_A ?_);refine zc (yc (base:=wr.heap.size) slB rfl rfl rfl rfl b7 dT (zM _) Wq UJ Wz ?_);intro A3 c3 w3 Bx H7 _;have Hh:Below w.heap.size w w3:=Ha.grown H7 (by have:=hB.size;simp;omega) (fun g hg=>by have:=(b7.blk_lt hg).1;have:=hB.size;omega)
  have e3:((#[Value.int .u8 ((m:Int) % 256)]:Array Value).toList++(be k n).map u8v)=(be (k+1) n).map u8v:=by
   simp only[be,xB,u8v,Vx,yB];rw[HM.out];simp
  rw[e3,GE]at Bx;have OP:=Bx.base_le hB.size;have TN:m / 256=n / 256 ^ (k+1):=by rw[HM.out,Nat.div_div_eq_div_mul,Nat.pow_succ]
  have Wu:=Q1 TN;clear TN e3;go_wp2_with(with_reducible refine h_A ?_);exact⟨⟨k+1,c3,m / 256,A3,by omega,by go_num,by simp[GE],by first|rfl|simp,Wu.out,by omega,OP,Hh⟩,by simp[ky];omega⟩
 obtain rfl:k=i:=by omega
 go_wp2_with(with_reducible refine h_A ?_);go_ret;exact⟨A2,c2,rfl,ho,hB⟩
theorem vW(f:Fr)(w:World)(hw:f.wf)(hl:f.load.length≤140737488351232):
  Calls prog 65 #[.agg (frV f)] w fun e w'=>e= .returned (.int .i64 f.err)∧Below w.heap.size w w':=by
 have qq82:=();exact Z1g_
theorem YX(b:Bool)(n:Nat)(w:World):Calls prog 66 #[.bool b,.int .u8 n] w fun e w'=>e= .returned (.int .u8 (bitv b n))∧w'=w:=by
 cases b
 ·have e1:bitv false n=0:=rfl;exact Z5w_
 have e1:bitv true n=n:=rfl;exact Z5w_
theorem YY(b:Bool)(n:Nat):bitv b n≤n:=by cases b<;>simp[bitv]
theorem Vk(f:Fr)(w:World)(hw:f.wf)(hl:f.load.length≤140737488351232):
  Calls prog 48 #[.agg (frV f)] w fun e w'=>∃A2 c2,e= .returned (.tuple #[.slice A2 f.put.length c2,.int .i64 f.err])∧Own w' w.heap.size 5 1 A2 f.put.length c2 (f.put.map u8v)∧Below w.heap.size w w':=by
 have Ba:=fun W=>vW f W hw hl
 have Eu:=f.flags_lt
 cases bJ:f.ok
 ·have qqb5:=();exact Z2a_
 have e1:f.put=f.bytes:=by simp[Fr.put,bJ]
 have e2:f.err=0:=by simp[Fr.err,bJ]
 have BD:f.load.length≤4084:=by simp[Fr.ok]at bJ;omega
 have md:Hid (f.bytes=(((([KS f.flags,KS f.ty]++be 2 (12+f.load.length))++ [0,KS f.track])++be 2 f.chan)++ [0,0,0,0])++f.load):=Q1 (by rw[Fr.bytes]);have sZ:Hid (f.flags=bitv f.first 8+bitv f.last 4+bitv f.beg 2+bitv f.fin 1):=Q1 rfl;rw[e1,e2];rw[e2]at Ba;clear bJ e1 e2 hl;generalize f.flags=fl at*;generalize dX:f.bytes=by_ at*;clear dX;obtain⟨b1,b2,b3,b4,ty,tr,ch,ld⟩:=f;unfold frV at Ba ⊢;obtain⟨mr,lp,ii⟩:=hw;simp only at Ba BD md sZ mr lp ii;have Hr:Below w.heap.size w (w.alloc (.cells #[.bool b1,.bool b2,.bool b3,.bool b4,.int .u8 (ty:Int),.int .u8 (tr:Int),.int .u16 (ch:Int),.string (str ld)] 97)):=(KL _ _).alloc (Q2 _) _;have dd:=KE (w:=w) (b1:=b1) (b2:=b2) (b3:=b3) (b4:=b4) (ty:=ty) (tr:=tr) (ch:=ch) (ld:=ld);simp only at dd;have dr:=zh ld;have k1:=YY b1 8;have k2:=YY b2 4;have k3:=YY b3 2;have k4:=YY b4 1;have Iv:=fun W=>(⟨YX b1 8 W,YX b2 4 W,YX b3 2 W,YX b4 1 W⟩:_∧_∧_∧_)
 generalize bitv b1 8=v1 at*;generalize bitv b2 4=v2 at*;generalize bitv b3 2=v3 at*;generalize bitv b4 1=v4 at*;have DA:(v1:Int)+(v2:Int)+(v3:Int)+(v4:Int)=(fl:Int):=by have:=sZ.out;omega
 have Oc:IntKind.u8.wrap ((v1:Int)+(v2:Int))=(v1:Int)+(v2:Int):=IntWalk.u8_in _ ⟨by omega,by omega⟩;have NH:IntKind.u8.wrap ((v1:Int)+(v2:Int)+(v3:Int))=(v1:Int)+(v2:Int)+(v3:Int):=IntWalk.u8_in _ ⟨by omega,by omega⟩;have hwc:IntKind.u8.wrap ((v1:Int)+(v2:Int)+(v3:Int)+(v4:Int))=(fl:Int):=by rw[DA];exact IntWalk.u8_in _ ⟨by omega,by omega⟩
 clear DA;have AM:IntKind.i64.wrap (12+(ld.length:Int))=((12+ld.length:Nat):Int):=by rw[IntWalk.i64_in _ ⟨by omega,by omega⟩];omega
 have EI:IntKind.u64.wrap ((12+ld.length:Nat):Int)=((12+ld.length:Nat):Int):=IntWalk.u64_in _ ⟨by omega,by omega⟩;obtain⟨sK,pQ⟩:∃sK,sK=12+ld.length:=⟨_,rfl⟩
 rw[←pQ]at AM EI md;have hL:=Q1 pQ;have wO:sK<65536:=by omega
 clear pQ;go_enter func48,ntmps48;go_wp2_with(with_reducible refine h_A ?_);refine(Ba _).mono ?_;rintro e w1 ⟨rfl,Ha⟩;have Hc:=Hr.trans (Ha.mono Hr.size);have bL:=yX dd Ha;clear dd Hr Ha Ba;have BH:w1.drew.cell? ⟨w.heap.size,0,none⟩=some (.bool b1)∧w1.drew.cell? ⟨w.heap.size,1,none⟩=some (.bool b2)∧w1.drew.cell? ⟨w.heap.size,2,none⟩=some (.bool b3)∧w1.drew.cell? ⟨w.heap.size,3,none⟩=some (.bool b4)∧w1.drew.cell? ⟨w.heap.size,4,none⟩=some (.int .u8 (ty:Int))∧w1.drew.cell? ⟨w.heap.size,5,none⟩=some (.int .u8 (tr:Int))∧w1.drew.cell? ⟨w.heap.size,6,none⟩=some (.int .u16 (ch:Int))∧w1.drew.cell? ⟨w.heap.size,7,none⟩=some (.string (str ld)):=bL;have rC:=za Hc 1;go_wp2_with(with_reducible refine h_A ?_);refine zt (fun wx=>wx.cell? ⟨w.heap.size,0,none⟩=some (.bool b1)∧wx.cell? ⟨w.heap.size,1,none⟩=some (.bool b2)∧wx.cell? ⟨w.heap.size,2,none⟩=some (.bool b3)∧wx.cell? ⟨w.heap.size,3,none⟩=some (.bool b4)∧wx.cell? ⟨w.heap.size,4,none⟩=some (.int .u8 (ty:Int))∧wx.cell? ⟨w.heap.size,5,none⟩=some (.int .u8 (tr:Int))∧wx.cell? ⟨w.heap.size,6,none⟩=some (.int .u16 (ch:Int))∧wx.cell? ⟨w.heap.size,7,none⟩=some (.string (str ld))) Wj ?_;refine rg_t 0 BH ?_;simp only[k8,k9,Act.put,vv,vz,v0];refine rg_t 1 BH ?_;simp only[g_S];refine rg_t 3 BH ?_;simp only[g_S];refine rg_t 4 BH ?_;simp only[g_S];refine rg_t 7 BH ?_;simp only[g_S];refine rg_t 8 BH ?_;simp only[g_S];refine rg_t 11 BH ?_;simp only[g_S];refine rg_t 12 BH ?_;simp only[g_S];refine rg_t 15 BH ?_;simp only[g_S];refine rg_t 16 BH ?_;simp only[g_S];refine zj 2 rfl Wj rfl (fun K hK=>?_);go_simp;refine(Iv w1.drew).1.mono ?_;rintro e w2 ⟨rfl,rfl⟩;refine hK _ _ BH ?_;clear hK K;refine zj 5 rfl Wj rfl (fun K hK=>?_);go_simp;refine(Iv w1.drew).2.1.mono ?_;rintro e w2 ⟨rfl,rfl⟩;refine hK _ _ BH ?_;clear hK K;refine rg_t 6 BH ?_;simp only[g_S];refine zj 9 rfl Wj rfl (fun K hK=>?_);go_simp;refine(Iv w1.drew).2.2.1.mono ?_;rintro e w2 ⟨rfl,rfl⟩;refine hK _ _ BH ?_;clear hK K;refine rg_t 10 BH ?_;simp only[g_S];refine zj 13 rfl Wj rfl (fun K hK=>?_);go_simp;refine(Iv w1.drew).2.2.2.mono ?_;rintro e w2 ⟨rfl,rfl⟩;refine hK _ _ BH ?_;clear hK K;refine rg_t 14 BH ?_;simp only[g_S];have cq:w.heap.size+1≤w1.drew.heap.size:=K0 _ _ BH.1
 have Dw:Own (w1.drew.alloc (.cells #[.int .u8 (fl:Int),.int .u8 (ty:Int)] 5)) (w.heap.size+1) 5 1 (some ⟨w1.drew.heap.size,0,none⟩) 2 2 ([KS fl,KS ty].map u8v):=by
  have h:=yq (w:=w1.drew) (w.heap.size+1) #[.int .u8 (fl:Int),.int .u8 (ty:Int)] 5 2 cq WX rfl (size:=1) Wq;rw[JG (show fl<256 by omega),JG mr]at h ⊢;exact h
 have Gm:Below w.heap.size w (w1.drew.alloc (.cells #[.int .u8 (fl:Int),.int .u8 (ty:Int)] 5)):=rC.alloc rC.size _;have tR:=yX BH ((KL w1.drew.heap.size w1.drew).alloc (Q2 _) (.cells #[.int .u8 (fl:Int),.int .u8 (ty:Int)] 5));have hfo:w.heap.size+1≤(w1.drew.alloc (.cells #[.int .u8 (fl:Int),.int .u8 (ty:Int)] 5)).heap.size:=K0 _ _ tR.1;refine zj 17 rfl Wj rfl (fun K hK=>?_);go_simp;refine hK _ _ tR ?_;clear hK K;refine rg_t 18 tR ?_;simp only[g_S];refine zD Wj ?_;have fE: [KS fl,KS ty].length=2:=rfl;generalize [KS fl,KS ty]=o0 at*;have bD:(w1.alloc (.cells #[.int .u8 (fl:Int),.int .u8 (ty:Int)] 5)).drew=w1.drew.alloc (.cells #[.int .u8 (fl:Int),.int .u8 (ty:Int)] 5):=rfl;rw[bD];have U4:(some (⟨w1.heap.size,0,none⟩:Addr))=some ⟨w1.drew.heap.size,0,none⟩:=rfl;rw[U4];generalize w1.drew.alloc (.cells #[.int .u8 (fl:Int),.int .u8 (ty:Int)] 5)=wa at*;generalize some (⟨w1.drew.heap.size,0,none⟩:Addr)=Aa at*;clear bD U4 BH bL Hc rC cq;clear Iv k1 k2 k3 k4 Oc NH hwc;go_wp2_with(with_reducible refine h_A ?_);refine(ye sK 2 wa Wq Wq).mono ?_;rintro e wnA ⟨AnA,cnA,rfl,Mh,AT⟩;have D8:=Gm.trans (AT.mono Gm.size);have Ed:=yX tR AT;have Ca:=zi Dw AT;have PR:w.heap.size+1≤wnA.heap.size:=K0 _ _ Ed.1;clear Dw tR Gm AT;go_wp2_with(with_reducible refine h_A ?_);refine zc (yc slB rfl rfl rfl rfl Ca Mh.rd (zM _) Wq WX PR ?_);intro AA cA wA AP fm _;have rZ:=D8.grown fm D8.size (fun g hg=>by have:=(Ca.blk_lt hg).1;omega);have np:=jz Ed fm (fun e=>by have:=(Ca.blk_lt e.symm).1;omega);rw[←K2]at AP;have EB:w.heap.size+1≤wA.heap.size:=K0 _ _ np.1;have Ma:(o0++be 2 sK).length=4:=by simp[zr,fE]
 clear Ca Mh Ed D8 fm;clear fE;generalize o0++be 2 sK=oA at*
 have CI:Own (wA.alloc (.cells #[.int .u8 0,.int .u8 (tr:Int)] 5)) (w.heap.size+1) 5 1 (some ⟨wA.heap.size,0,none⟩) 2 2 ([0,KS tr].map u8v):=by
  have h:=yq (w:=wA) (w.heap.size+1) #[.int .u8 0,.int .u8 (tr:Int)] 5 2 EB WX rfl (size:=1) Wq;rw[JG lp]at h ⊢;exact h
 have Gq:Below w.heap.size w (wA.alloc (.cells #[.int .u8 0,.int .u8 (tr:Int)] 5)):=rZ.alloc rZ.size _;have FC:=yX np ((KL wA.heap.size wA).alloc (Q2 _) (.cells #[.int .u8 0,.int .u8 (tr:Int)] 5));have Ah:Own (wA.alloc (.cells #[.int .u8 0,.int .u8 (tr:Int)] 5)) (w.heap.size+1) 5 1 AA (2+2) cA (oA.map u8v):=AP.alloc (.cells #[.int .u8 0,.int .u8 (tr:Int)] 5);have Ih:w.heap.size+1≤(wA.alloc (.cells #[.int .u8 0,.int .u8 (tr:Int)] 5)).heap.size:=K0 _ _ FC.1;go_wp2_with(with_reducible refine h_A ?_);refine zc (yc slB rfl rfl rfl rfl Ah CI.rd (zM _) Wq WX Ih ?_);intro AB cB wB DT EV _;have oR:=Gq.grown EV Gq.size (fun g hg=>by have:=(Ah.blk_lt hg).1;omega);have SO:=jz FC EV (fun e=>by have:=(Ah.blk_lt e.symm).1;omega);rw[←K2]at DT;have Tv:w.heap.size+1≤wB.heap.size:=K0 _ _ SO.1;have wR:(oA++ [0,KS tr]).length=6:=by simp[Ma]
 clear Ah CI FC Gq EV AP np rZ Ih;clear Ma;generalize oA++ [0,KS tr]=oB at*;have MP:IntKind.u64.wrap ((ch:Nat):Int)=(ch:Int):=IntWalk.u64_in _ ⟨by omega,by omega⟩;go_wp2_with(with_reducible refine h_A ?_);refine(ye ch 2 wB Wq Wq).mono ?_;rintro e wnC ⟨AnC,cnC,rfl,Lh,Cr⟩;have Ea:=oR.trans (Cr.mono oR.size);have DY:=yX SO Cr;have Cb:=zi DT Cr;have SN:w.heap.size+1≤wnC.heap.size:=K0 _ _ DY.1;clear DT SO oR Cr;go_wp2_with(with_reducible refine h_A ?_);refine zc (yc slB rfl rfl rfl rfl Cb Lh.rd (zM _) Wq WX SN ?_);intro AC cC wC nK gJ _;have wV:=Ea.grown gJ Ea.size (fun g hg=>by have:=(Cb.blk_lt hg).1;omega);have uW:=jz DY gJ (fun e=>by have:=(Cb.blk_lt e.symm).1;omega);rw[←K2]at nK;have EL:w.heap.size+1≤wC.heap.size:=K0 _ _ uW.1;have Pk:(oB++be 2 ch).length=8:=by simp[zr,wR]
 clear Cb Lh DY Ea gJ;clear wR;generalize oB++be 2 ch=oC at*
 have CF:Own (wC.alloc (.cells #[.int .u8 0,.int .u8 0,.int .u8 0,.int .u8 0] 5)) (w.heap.size+1) 5 1 (some ⟨wC.heap.size,0,none⟩) 4 4 ([(0:UInt8),0,0,0].map u8v):=by
  have h:=yq (w:=wC) (w.heap.size+1) #[.int .u8 0,.int .u8 0,.int .u8 0,.int .u8 0] 5 4 EL WX rfl (size:=1) Wq
  skip
  exact h
 have FO:Below w.heap.size w (wC.alloc (.cells #[.int .u8 0,.int .u8 0,.int .u8 0,.int .u8 0] 5)):=wV.alloc wV.size _;have FZ:=yX uW ((KL wC.heap.size wC).alloc (Q2 _) (.cells #[.int .u8 0,.int .u8 0,.int .u8 0,.int .u8 0] 5));have Ak:Own (wC.alloc (.cells #[.int .u8 0,.int .u8 0,.int .u8 0,.int .u8 0] 5)) (w.heap.size+1) 5 1 AC (2+2+2+2) cC (oC.map u8v):=nK.alloc (.cells #[.int .u8 0,.int .u8 0,.int .u8 0,.int .u8 0] 5);have MV:w.heap.size+1≤(wC.alloc (.cells #[.int .u8 0,.int .u8 0,.int .u8 0,.int .u8 0] 5)).heap.size:=K0 _ _ FZ.1;go_wp2_with(with_reducible refine h_A ?_);refine zc (yc slB rfl rfl rfl rfl Ak CF.rd (zM _) Wq WX MV ?_);intro AD cD wD oH Lz _;have Ib:=FO.grown Lz FO.size (fun g hg=>by have:=(Ak.blk_lt hg).1;omega);have Ir:=jz FZ Lz (fun e=>by have:=(Ak.blk_lt e.symm).1;omega);rw[←K2]at oH;have Te:w.heap.size+1≤wD.heap.size:=K0 _ _ Ir.1;have Uh:(oC++ [(0:UInt8),0,0,0]).length=12:=by simp[Pk]
 clear Ak CF FZ FO Lz nK uW wV MV;clear Pk;generalize oC++ [(0:UInt8),0,0,0]=oD at*;go_wp2_with(with_reducible refine h_A ?_);refine zc (qj slB underlying9 rfl rfl rfl rfl oH Wq Te ?_);intro nt c10 rh eW ed;have lO:=Ib.grown ed Ib.size (fun g hg=>by have:=(oH.blk_lt hg).1;omega);rw[←K2]at eW;have uI:=eW.base_le (Nat.le_succ _);have nY:by_.length=12+ld.length:=by rw[md.out,K1,Uh]
 have Iz:=Q1 nY;clear nY Uh;exact Z5v_
theorem zby(A:Option Addr)(n c:Nat)(l:List UInt8)(v:Nat)(x:Int)(w:World)(hb:RdB w w.heap.size A n c l)(hv:v<18446744073709551616)(hn:n≤140737488355320):
  Calls prog 114 #[.slice A n c,.int .u64 v,.int .i64 x] w fun e w'=>∃A2 c2,e= .returned (.slice A2 (puts l v x).length c2)∧Own w' w.heap.size 5 1 A2 (puts l v x).length c2 ((puts l v x).map u8v)∧Below w.heap.size w w':=by
 have hl:=hb.length;go_enter func114,ntmps114;go_wp2_with(with_reducible refine h_A ?_);refine zc (yc slB rfl rfl rfl rfl (Own.none_ w w.heap.size _ _) hb (zM _) Wq UJ (Q2 _) ?_);intro A1 c1 w1 cY bM _;have Ha:Below w.heap.size w w1:=(KL _ _).grown bM (Q2 _) (by simp[blk]);simp only[zB,yB]at cY;have cq:=Ha.size;go_wp2_with(with_reducible refine h_A ?_);refine(vL x w1).mono ?_;rintro e w2 ⟨rfl,rfl⟩;by_cases hw:qK x=true
 ·have h8:=j7 hw;obtain⟨i,rfl⟩:∃i:Nat,x=i:=⟨x.toNat,by omega⟩
  have HP:=Q1 (yV (b:=l) (n:=v) hw);rw[hw];go_wp2_with(with_reducible refine h_A ?_);refine(ye v i w2 hv Wq).mono ?_;rintro e w3 ⟨A3,c3,rfl,Bx,Hh⟩;have M5:Own w3 w.heap.size 5 1 A1 n c1 (l.map u8v):=cY.kept (row:=none) ⟨Hh.os,Hh.tape,Hh.output,Hh.size,fun k hk _=>Hh.block k hk⟩ (by cases hv:(Value.slice A1 n c1).ownBlock<;>simp);have gz:=Ha.trans (Hh.mono cq);go_wp2_with(with_reducible refine h_A ?_);refine zc (yc slB rfl rfl rfl rfl M5 Bx.rd (zM _) Wq UJ gz.size ?_);intro A4 c4 w4 Bv Bb _;have Hn:=gz.grown Bb gz.size (fun g hg=>(M5.blk_lt hg).1);rw[←K2]at Bv;go_wp2_with(with_reducible refine h_A ?_);go_ret;rw[HP.out];simp only[K1,zr,Int.toNat_natCast,hl];exact⟨A4,c4,by first|rfl|simp,Bv,Hn⟩
 have nu:qK x=false:=by simpa using hw
 have HP:=Q1 (Kz (b:=l) (n:=v) nu);rw[nu];go_wp2_with(with_reducible refine h_A ?_);go_ret;rw[HP.out,hl];exact⟨A1,c1,rfl,cY,Ha⟩
theorem Ju(w:World)(x:Int)(h:x=1∨x=2∨x=4):Calls prog 113 #[.int .i64 x] w fun e w'=>e= .returned (.int .i64 ((256 ^ x.toNat-1:Nat):Int))∧w'=w:=by
 rcases h with rfl|rfl|rfl
 all_goals
  go_enter func113,ntmps113;go_wp2_with(with_reducible refine h_A ?_);go_ret;exact⟨rfl,rfl⟩
theorem vX(A:Option Addr)(n c:Nat)(l s:List UInt8)(x:Int)(w:World)(hb:RdB w w.heap.size A n c l)(hs:s.length≤140737488351232)(hn:n≤140737488351240):
  Calls prog 95 #[.slice A n c,.string (str s),.int .i64 x] w fun e w'=>∃A2 c2,e= .returned (.tuple #[.slice A2 (zP l s x).length c2,.int .i64 (zE s.length x)])∧Own w' w.heap.size 5 1 A2 (zP l s x).length c2 ((zP l s x).map u8v)∧Below w.heap.size w w':=by
 have hl:=hb.length;have dr:=zh s;by_cases hw:x=1∨x=2∨x=4
 ·have CT:=qL (w:=x) Wq;by_cases bQ:s.length<256 ^ x.toNat
  ·have he:zE s.length x=0:=by unfold zE;rw[if_pos hw,if_pos bQ]
   have mS:s.length<4294967296:=by
    (rcases hw with rfl|rfl|rfl);all_goals(simp at bQ;omega)
   have D2:¬((256 ^ x.toNat-1:Nat):Int)<(s.length:Int):=by
    have:=Nat.pow_pos (n:=x.toNat) (show 0<256 by omega);omega
   have LD:=Ju w x hw;rw[he,yS he];have UE:=yV (b:=l) (n:=s.length) CT;have hP:=zby A n c l s.length x w hb Wq Wq;rw[UE]at hP
   have dI:(l++be x.toNat s.length).length≤n+8:=by
    rw[K1,zr,hl];have:=j7 CT;omega
   generalize l++be x.toNat s.length=l2 at hP dI ⊢;generalize(256 ^ x.toNat-1:Nat)=M at LD D2;clear UE bQ;rcases hw with rfl|rfl|rfl
   all_goals
    go_enter func95,ntmps95;go_wp2_with(with_reducible refine h_A ?_);refine LD.mono ?_;rintro e w1 ⟨rfl,rfl⟩;go_wp2_with(with_reducible refine h_A ?_);refine hP.mono ?_;rintro e w2 ⟨A2,c2,rfl,bW,Hc⟩;go_wp2_with(with_reducible refine h_A ?_);refine zc (jC slB underlying9 rfl rfl rfl rfl bW Wq Wq Hc.size ?_);intro A3 c3 w3 Bx H7;have Hh:=Hc.grown H7 Hc.size (fun g hg=>(bW.blk_lt hg).1);rw[←K2]at Bx;go_wp2_with(with_reducible refine h_A ?_);go_ret2;rw[K1];exact⟨A3,c3,by first|rfl|simp,Bx,Hh⟩
  have he:zE s.length x=3:=by unfold zE;rw[if_pos hw,if_neg bQ]
  have D2:((256 ^ x.toNat-1:Nat):Int)<(s.length:Int):=by
   have:=Nat.pow_pos (n:=x.toNat) (show 0<256 by omega);omega
  have LD:=Ju w x hw;rw[he,yQ (by rw[he];omega)];generalize(256 ^ x.toNat-1:Nat)=M at LD D2;clear bQ;rcases hw with rfl|rfl|rfl
  all_goals
   go_enter func95,ntmps95;go_wp2_with(with_reducible refine h_A ?_);refine LD.mono ?_;rintro e w1 ⟨rfl,rfl⟩;go_wp2_with(with_reducible refine h_A ?_);go_ret2;exact⟨none,0,rfl,Own.none_ _ _ _ _,KL _ _⟩
 have he:zE s.length x=2:=by unfold zE;rw[if_neg hw]
 have b1:(x !=1)=true:=by simp;omega
 have b2:(x !=2)=true:=by simp;omega
 have b4:(x !=4)=true:=by simp;omega
 rw[he,yQ (by rw[he];omega)];go_enter func95,ntmps95;exact Z5o_
theorem je(h:Qrd F w b l bad)(x most:Int)(hx: -9223372036854775808≤x)(pp:x≤9223372036854775807)(hm: -9223372036854775808≤most)(pd:most≤9223372036854775807):
  Calls prog 138 #[.pointer (some ⟨b,0,none⟩),.int .i64 x,.int .i64 most] w fun e w'=>e= .returned (.string (str (zT l bad x most).1))∧Qrd F w' b (zT l bad x most).2.1 (zT l bad x most).2.2∧w.grownBy w' (some b):=by
 by_cases h8:¬(x=1∨x=2∨x=4)
 ·have b1:(x !=1)=true:=by simp;omega
  have b2:(x !=2)=true:=by simp;omega
  have b4:(x !=4)=true:=by simp;omega
  rw[QU h8];go_enter func138,ntmps138;go_wp2_with(with_reducible refine h_A ?_);refine(xN h).mono ?_;exact Z60_
 have hN:=yG h x hx pp;have hlt:=xg l bad x;rw[Za Wq];generalize mnum l bad x=r at hN hlt ⊢;obtain⟨n,l',bad'⟩:=r;simp only at hN hlt ⊢;have WE:∀{w1:World},Qrd F w1 b l' bad'→l'.length≤140737488351240:=fun h=>h.len
 rcases(show x=1∨x=2∨x=4 by omega)with rfl|rfl|rfl
 all_goals
  by_cases hb:bad'=true
  ·subst hb;rw[if_pos (.inl rfl)];go_enter func138,ntmps138;go_wp2_with(with_reducible refine h_A ?_);refine hN.mono ?_;rintro e w1 ⟨rfl,h1,bM⟩;obtain⟨A,m,c,dV,fa,mM,ix,hr,hA,hn,hF⟩:=h1;go_wp2_with(with_reducible refine h_A ?_);refine(xN ⟨A,m,c,dV,fa,mM,ix,hr,hA,hn,hF⟩).mono ?_;rintro e w3 ⟨rfl,h3,H7⟩;go_wp2_with(with_reducible refine h_A ?_);go_ret;exact⟨rfl,h3,bM.trans H7⟩
  obtain rfl:bad'=false:=by simpa using hb
  by_cases iq:most<0∨most<(n:Int)∨l'.length<n
  ·rw[if_pos (.inr iq)];go_enter func138,ntmps138;go_wp2_with(with_reducible refine h_A ?_);refine hN.mono ?_;rintro e w1 ⟨rfl,h1,bM⟩;have fD:=h1.len;have Np:=h1;obtain⟨A,m,c,dV,fa,mM,ix,hr,hA,hn,hF⟩:=h1;have m4:=hr.length;by_cases sk:most<0
   ·go_wp2_with(with_reducible refine h_A ?_);refine(xN Np).mono ?_;rintro e w3 ⟨rfl,h3,H7⟩;go_wp2_with(with_reducible refine h_A ?_);go_ret;exact⟨rfl,h3,bM.trans H7⟩
   by_cases CJ:most<(n:Int)
   ·go_wp2_with(with_reducible refine h_A ?_);refine(xN Np).mono ?_;rintro e w3 ⟨rfl,h3,H7⟩;go_wp2_with(with_reducible refine h_A ?_);go_ret;exact⟨rfl,h3,bM.trans H7⟩
   (have Uo:(m:Int)<(n:Int):=by omega);go_wp2_with(with_reducible refine h_A ?_);refine(xN Np).mono ?_;rintro e w3 ⟨rfl,h3,H7⟩;go_wp2_with(with_reducible refine h_A ?_);go_ret;exact⟨rfl,h3,bM.trans H7⟩
  rw[if_neg Hq,xp Wq];have Pa:(n:Int)≤9223372036854775807:=by omega
  have Mi:0≤most:=by omega
  have Ec:(n:Int)≤most:=by omega
  go_enter func138,ntmps138;go_wp2_with(with_reducible refine h_A ?_);refine hN.mono ?_;rintro e w1 ⟨rfl,h1,bM⟩;have hT:=XO h1 (n:Int) Wq Wq;rw[xp Wq]at hT;simp only[VB,j8 (show n≤l'.length by omega)]at hT;obtain⟨A,m,c,dV,fa,mM,ix,hr,hA,hn,hF⟩:=h1;have m4:=hr.length;have E4:(n:Int)≤(m:Int):=by omega
  go_wp2_with(with_reducible refine h_A ?_);refine hT.mono ?_;rintro e w3 ⟨A3,c3,rfl,Bx,h3,H7⟩;have fF:=jh Bx.rd;go_wp2_with(with_reducible refine h_A ?_);go_ret;exact⟨rfl,h3,bM.trans H7⟩
abbrev OwnB(w:World)(base:Nat)(A:Option Addr)(n c:Nat)(l:List UInt8):Prop:=Own w base 5 1 A n c (l.map u8v)
def KB(w w':World)(row:Option Nat):Prop:=w.heap.size≤w'.heap.size∧∀g,g<w.heap.size→row≠some g→w'.heap[g]?=w.heap[g]?
theorem KB.box(h:KB w w' row){t:TypeId}{cs:Array Value}(hb:Box w g t cs)(hne:row≠some g):Box w' g t cs:=(h.2 g hb.lt hne).trans hb
def onT(c t:Nat)(f:Fr):Bool:=f.chan==c&&f.track==t
structure RGa(w:World)(F:Nat→Prop)(gb:Nat)(g:GS)(l:List Fr):Prop where
 ex:∃A c,Box w gb 67 #[.slice A l.length c,.bool g.dead]∧OwnF w 0 A l.length c l∧∀k,blk A=some k→F k∧k≠gb
 gb:F gb
 lt:∀k,F k→k<w.heap.size
 op:∀c t,g.op c t=l.filter (onT c t)
 wf:∀f∈l,f.wf∧f.load.length≤1000000
theorem RGa.keep{G:Nat→Prop}{gb:Nat}{g:GS}{l:List Fr}(h:RGa w F gb g l)(hk:KeepF G w w')(hG:∀k,F k→¬G k):RGa w' F gb g l where
 ex:=by
  obtain⟨A,c,h1,h2,h3⟩:=h.ex;exact⟨A,c,zV h1 hk (hG _ h.gb),zy h2 hk (fun k Bk=>hG _ (h3 k Bk).1),h3⟩
 gb:=h.gb
 lt:=fun k hF=>GC (h.lt k hF) hk.1
 op:=h.op
 wf:=h.wf
theorem JB(gb:Nat)(f:Fr)(A:Option Addr)(n c:Nat)(dead:Bool)(l:List Fr)(w:World)(hb:Box w gb 67 #[.slice A n c,.bool dead])(hr:Rd w w.heap.size 8 A n c (rowC frC l))(hn:n≤1000000):
  Calls prog 89 #[.pointer (some ⟨gb,0,none⟩),.agg (frV f)] w fun e w'=>∃A2 c2,e= .returned (.slice A2 (l.filter (onT f.chan f.track)).length c2)∧OwnF w' w.heap.size A2 (l.filter (onT f.chan f.track)).length c2 (l.filter (onT f.chan f.track))∧Below w.heap.size w w':=by
 have hl:=xr yE hr;obtain⟨xb,w1,Hg,Hi,hX,Ha⟩:=zo w (frV f) 97;have bL:=hb.below Ha;have hlt:=hb.lt;have sw:w.heap.size≤xb:=by omega
 have HR:=Q1 hr;obtain⟨R,hR⟩:∃R,R=l.filter (onT f.chan f.track):=⟨_,rfl⟩
 have ng:=Q1 hR;rw[←hR];obtain⟨b1,b2,b3,b4,ty,tr,ch,ld⟩:=f;unfold frV at*;simp only at*;clear hr hb hR;go_enter func89,ntmps89;go_upto_region 2 with fail;rw[←Hg,←Hi];clear Hg Hi;go_wp2_with(with_reducible refine h_A ?_);go_loopw [6,5] (fun s6 s5 wr=>∃(k m c2:Nat) (A2:Option Addr),k≤n∧s6= .int .i64 (k:Int)∧s5= .slice A2 m c2∧m≤k∧OwnF wr w.heap.size A2 m c2 ((l.take k).filter (onT ch tr))∧Box wr gb 67 #[.slice A n c,.bool dead]∧Box wr xb 97 #[.bool b1,.bool b2,.bool b3,.bool b4,.int .u8 (ty:Int),.int .u8 (tr:Int),.int .u16 (ch:Int),.string (str ld)]∧(∀k,blk A2=some k→k≠xb)∧Below w.heap.size w wr) (fun s6 _ _=>n-(ky s6).toNat)
 case atStart=>exact⟨0,0,0,none,by omega,rfl,rfl,by omega,Own.none_ _ _ _ _,bL,hX,(fun k h=>by cases h),Ha⟩
 clear bL hX Ha;obtain⟨k,m,c2,A2,hk,rfl,rfl,hm,hO,hG,hX,Oh,hB⟩:=hrel;have g0:=hG.c0;have x5:=hX.c5;have x6:=hX.c6;by_cases hlt:k<n
 ·have g1:(k:Int)<(n:Int):=by omega
  obtain⟨b,off,rfl,dP,bK,bD⟩:=qm yE HR.out hlt;have HT:=Q1 (yA bK);generalize l[k]=x at*;have dx:∀W,Below w.heap.size w W→∀j u,(frC x)[j]?=some u→W.cell? ⟨b,off+k*8+j,none⟩=some u:=fun W hW j u hu=>(hW.cell (p:=⟨b,off+k*8+j,none⟩) dP).trans (bD j u hu)
  have sP:=Q1 dx;have hq:=dx wr hB;obtain⟨q1,q2,q3,q4,xy,xt,xc,xl⟩:=x;have k0:=hq 0 _ rfl;have k1:=hq 1 _ rfl;have k2:=hq 2 _ rfl;have k3:=hq 3 _ rfl;have k4:=hq 4 _ rfl;have k5:=hq 5 _ rfl;have k6:=hq 6 _ rfl;have k7:=hq 7 _ rfl;simp only[kx]at k0;clear bD dx hq;by_cases rI:xc=ch∧xt=tr
  ·obtain⟨rfl,rfl⟩:=rI;have HF:Hid ((l.take (k+1)).filter (onT xc xt)=(l.take k).filter (onT xc xt)++ [⟨q1,q2,q3,q4,xy,xt,xc,xl⟩]):=Q1 (by rw[HT.out,GB];simp[onT]);go_upto_region 5 with fail;(try simp only[Act.put]);go_quiet(fail);have dM:=za hB nq;have eo:=sP.out _ dM;clear k0 k1 k2 k3 k4 k5 k6 k7;have k0:=eo 0 _ rfl;have k1:=eo 1 _ rfl;have k2:=eo 2 _ rfl;have k3:=eo 3 _ rfl;have k4:=eo 4 _ rfl;have k5:=eo 5 _ rfl;have k6:=eo 6 _ rfl;have k7:=eo 7 _ rfl;simp only[kx]at k0;have AS:OwnF (wr.drewN nq) w.heap.size A2 m c2 ((l.take k).filter (onT xc xt)):=hO.drewN nq;have Sa:=hG.below (za (KL _ _) nq);have Sh:=hX.below (za (KL _ _) nq);have g0:=Sa.c0;clear eo hO hG hX hB x5 x6;generalize wr.drewN nq=ws at*;go_wp2_with(with_reducible refine h_A ?_);refine zc (jS yE slF underlying65 rfl rfl rfl rfl rfl (⟨q1,q2,q3,q4,xy,xt,xc,xl⟩:Fr) rfl AS Wq Wq dM.size ?_);intro A3 c3 wa uy cL mh hBa;rw[←HF.out]at uy;have hGa:=Sa.grown cL (fun e=>by have:=(AS.blk_lt e.symm).1;omega);have nT:=Sh.grown cL (fun e=>Oh _ e.symm rfl);have d9:=Sh.lt
   have Lk:∀g,blk A3=some g→g≠xb:=fun g hg=>by
    rcases mh with e|e
    ·exact Oh g (by rw[←e];exact hg)
    have:=e g hg;omega
   have Hc:=dM.trans hBa;clear AS cL mh hBa Sa Sh k0 k1 k2 k3 k4 k5 k6 k7 g0;go_wp2_with(with_reducible refine h_A ?_);exact⟨⟨k+1,m+1,c3,A3,by omega,by go_num,rfl,by omega,uy,hGa,nT,Lk,Hc⟩,by simp[ky];omega⟩
  have HF:Hid ((l.take (k+1)).filter (onT ch tr)=(l.take k).filter (onT ch tr)):=Q1 (by
   rw[HT.out,GB]
   have:onT ch tr ⟨q1,q2,q3,q4,xy,xt,xc,xl⟩=false:=by
    unfold onT;by_cases e1:xc=ch
    ·(have:¬xt=tr:=fun e2=>rI ⟨e1,e2⟩);simp[this]
    simp[e1]
   simp[this])
  have d0:¬((xc:Int)=(ch:Int)∧(xt:Int)=(tr:Int)):=by omega
  by_cases e1:xc=ch
  ·exact Z2n_
  have qqc2:=();exact Z2n_
 obtain rfl:k=n:=by omega
 have HT:Hid ((l.take k).filter (onT ch tr)=R):=Q1 (by rw[ng.out,Vy Wq]);rw[HT.out]at hO;have m4:=YK yE hO;go_wp2_with(with_reducible refine h_A ?_);go_ret;rw[←m4]at hO ⊢;exact⟨A2,c2,rfl,hO,hB⟩
theorem Kj(f:Fr)(A:Option Addr)(n c:Nat)(l:List Fr)(w:World)(hr:Rd w w.heap.size 8 A n c (rowC frC l))(hn:n≤1000000):
  Calls prog 90 #[.slice A n c,.agg (frV f)] w fun e w'=>e= .returned (.bool (fitsB l f))∧Below w.heap.size w w':=by
 have hl:=xr yE hr;obtain⟨xb,w1,Hg,Hi,hX,Ha⟩:=zo w (frV f) 97;obtain⟨R,hR⟩:∃R,R=fitsB l f:=⟨_,rfl⟩
 rw[←hR];unfold fitsB at hR;obtain⟨b1,b2,b3,b4,ty,tr,ch,ld⟩:=f;unfold frV at*;simp only at*;have x0:=hX.c0;have x1:=hX.c1;have x2:=hX.c2;have x4:=hX.c4;have x5:=hX.c5;by_cases g1:1<tr
 ·rw[if_pos g1]at hR;have g2:(1:Int)<(tr:Int):=by omega
  have HR:=Q1 hR;clear hr hR;go_enter func90,ntmps90;go_upto_region 1 with fail;rw[←Hg,←Hi];clear Hg Hi;go_wp2_with(with_reducible refine h_A ?_);go_ret;rw[HR.out];exact⟨rfl,Ha⟩
 rw[if_neg g1]at hR;have g2:decide ((1:Int)<(tr:Int))=false:=by simp;omega
 by_cases hz:n=0
 ·subst hz;obtain rfl:l=[]:=List.length_eq_zero_iff.1 hl;simp only[List.getLast?_nil]at hR;have HR:=Q1 hR;clear hr hR g1;have k1:((ty:Int)==(tr:Int))=decide (ty=tr):=by rw[Bool.eq_iff_iff];simp;omega
  have k2:((tr:Int)==1)=decide (tr=1):=by rw[Bool.eq_iff_iff];simp;omega
  go_enter func90,ntmps90;go_upto_region 1 with fail;rw[←Hg,←Hi];clear Hg Hi;go_wp2_with(with_reducible refine h_A ?_)
  all_goals
   go_ret;rw[HR.out];exact⟨by simp_all,Ha⟩
 have hlt:n-1<n:=by omega
 obtain⟨b,off,hA,dP,bK,bD⟩:=qm yE hr hlt;have hne:l≠ []:=fun e=>by subst e;simp at hl;omega
 have fB:l.getLast?=some l[n-1]:=by rw[xA,hl];exact zA bK
 rw[fB]at hR;simp only at hR;generalize l[n-1]=x at*;have HR:=Q1 hR;subst hA;obtain⟨q1,q2,q3,q4,xy,xt,xc,xl⟩:=x;have sP:=Q1 (fun j u hu=>(Ha.cell (p:=⟨b,off+(n-1)*8+j,none⟩) dP).trans (bD j u hu));clear hr hR bD g1 fB hne hl;obtain⟨yb,w2,iD,dE,hY,Hc⟩:=zo w1 (frV ⟨q1,q2,q3,q4,xy,xt,xc,xl⟩) 97;have Hk:=hX.below Hc;have H3:=Ha.trans (Hc.mono Ha.size);unfold frV at*;simp only at hY dE;have k0:w1.cell? ⟨b,off+(n-1)*8,none⟩=_:=sP.out 0 _ rfl;have k1:=sP.out 1 _ rfl;have k2:=sP.out 2 _ rfl;have k3:=sP.out 3 _ rfl;have k4:=sP.out 4 _ rfl;have k5:=sP.out 5 _ rfl;have k6:=sP.out 6 _ rfl;have k7:=sP.out 7 _ rfl;have n0:¬((n:Int)=0):=by omega
 have n2:((n:Int)==0)=false:=by simp;omega
 have n3:(0:Int)≤(n:Int)-1:=by omega
 have n4:(n:Int)-1<(n:Int):=by omega
 have n5:((n:Int)-1).toNat=n-1:=by omega
 have n6:(n:Int)≤1000000:=by omega
 go_enter func90,ntmps90;go_upto_region 1 with fail;rw[←Hg,←Hi];clear Hg Hi;go_upto_region 6 with fail;rw[←iD,←dE];clear iD dE k0 k1 k2 k3 k4 k5 k6 k7 Ha Hc hX x0 x1 x2 x4 x5;have x0:=Hk.c0;have x1:=Hk.c1;have x2:=Hk.c2;have x4:=Hk.c4;have y0:=hY.c0;have y1:=hY.c1;have y3:=hY.c3;have y4:=hY.c4;have j1:((ty:Int)==(xy:Int))=decide (ty=xy):=by rw[Bool.eq_iff_iff];simp;omega
 have j2:decide ((xy:Int)<(ty:Int))=decide (xy<ty):=by rw[Bool.eq_iff_iff];simp
 cases q4
 ·have eZ:Hid (R=(!b3&&decide (ty=xy)&&(b1==q1)&&(b2==q2))):=Q1 HR.out;exact Z5n_
 have eZ:Hid (R=(b3&& !b1&&decide (xy<ty))):=Q1 HR.out;exact Z5n_
def YC(w:World)(F:Nat→Prop)(gb:Nat)(g:GS)(l:List Fr)(f:Fr)(e:Ending)(w':World):Prop:=
 ∃(F':Nat→Prop) (l':List Fr),(∀k,F' k→F k∨w.heap.size≤k)∧RGa w' F' gb (g.next f) l'∧l'.length≤l.length+1∧KeepF F w w'∧
  ((g.out f=none∧e= .returned (.tuple #[.agg asZ,.bool false,.int .i64 (g.err f:Int)]))∨
   (∃a A c,g.out f=some a∧e= .returned (.tuple #[.agg (asV a.chan a.track A a.segs.length c),.bool true,.int .i64 0])∧OwnG w' 0 A a.segs.length c a.segs∧∀b,blk A=some b→¬F' b∧w.heap.size≤b))
end Go.PH
section
namespace Go.PH
abbrev Sp:=Nat×Nat
def zW:List Sp→Bool
 | []=>true
 | [a]=>decide (a.1≤a.2)
 | a::b::l=>decide (a.1≤a.2)&&decide (a.2+2≤b.1)&&zW (b::l)
end Go.PH
end
section
namespace Go.PH
def Xw(m:Nat):List Sp→Prop
 | []=>True
 | a::_=>m≤a.1
theorem spRight_cons{a:Sp}{l:List Sp}:zW (a::l)=true↔(a.1≤a.2∧Xw (a.2+2) l∧zW l=true):=by
 cases l with
 | nil=>simp[zW,Xw]
 | cons b l=>simp[zW,Xw,and_assoc]
end Go.PH
end
section
namespace Go.PH
end Go.PH
end
section
namespace Go.PH
theorem Qr(a:List Sp)(z:Sp):zW (a++ [z])=true↔(zW a=true∧z.1≤z.2∧∀b∈a.getLast?,b.2+2≤z.1):=by
 induction a with
 | nil=>simp[zW]
 | cons b a ih=>
  rw[Vx,spRight_cons,ih,spRight_cons]
  cases a with
  | nil=>
   simp[Xw,zW];intro _
   exact and_comm
  | cons c a=>
   simp only[Vx,Xw,List.getLast?_cons_cons];constructor
   ·rintro⟨h1,h2,h3,h4,h5⟩;exact⟨⟨h1,h2,h3⟩,h4,h5⟩
   rintro⟨⟨h1,h2,h3⟩,h4,h5⟩;exact⟨h1,h2,h3,h4,h5⟩
end Go.PH
end
section
namespace Go.PH
end Go.PH
end
section
namespace Go.PH
end Go.PH
end
section
namespace Go.PH
theorem vd:∀{a b:List Sp},zW (a++b)=true→zW a=true
 | [],_,_=>rfl
 | x::a,b,h=>by
  rw[Vx]at h;obtain⟨h1,h2,h3⟩:=spRight_cons.1 h;refine spRight_cons.2 ⟨h1,?_,vd h3⟩
  cases a with
  | nil=>trivial
  | cons y a=>exact h2
theorem Xv{l:List Sp}(h:zW l=true)(k:Nat):zW (l.take k)=true:=vd (b:=l.drop k) (by rw[List.take_append_drop];exact h)
def Yh(l:List Sp)(k:Nat)(h:k<l.length):Prop:=l[k].1≤l[k].2∧∀(h0:0<k),l[k-1].2+2≤l[k].1
theorem vU{l:List Sp}{k:Nat}(hk:k<l.length)(h:zW (l.take k)=true):zW (l.take (k+1))=true↔Yh l k hk:=by
 rw[yA hk,Qr];unfold Yh;constructor
 ·rintro⟨_,h1,h2⟩;refine⟨h1,fun h0=>h2 _ ?_⟩;rw[xA,VB,j8 Wq,y7,if_pos Wq,zA Wq];rfl
 rintro⟨h1,h2⟩;refine⟨h,h1,fun b hb=>?_⟩;rcases GA k with rfl|h0
 ·simp at hb
 rw[xA,VB,j8 Wq,y7,if_pos Wq,zA Wq]at hb
 cases hb;exact h2 h0
theorem jG{l:List Sp}{k:Nat}(hk:k<l.length)(h:zW (l.take k)=true)(h1:Yh l k hk):zW (l.take (k+1))=true:=(vU hk h).2 h1
theorem jq{l:List Sp}{k:Nat}(hk:k<l.length)(h:zW (l.take k)=true)(h1:¬Yh l k hk):zW l=false:=by
 rcases hr:zW l with _|_
 ·rfl
 exact absurd ((vU hk h).1 (Xv hr _)) h1
theorem Yi{l:List Sp}{k:Nat}(hk:k<l.length):Yh l k hk↔(l[k].1≤l[k].2∧(k=0∨(l.getD (k-1) (0,0)).2+2≤l[k].1)):=by
 unfold Yh
 have e:l.getD (k-1) (0,0)=l[k-1]:=by
  have:k-1<l.length:=by omega
  simp[kv,zA this]
 rw[e];constructor
 ·rintro⟨h1,h2⟩;refine⟨h1,?_⟩;rcases GA k with h0|h0
  ·exact .inl h0
  exact .inr (h2 h0)
 rintro⟨h1,h2⟩;refine⟨h1,fun h0=>?_⟩;rcases h2 with h2|h2
 ·omega
 exact h2
def spOK(N:Nat)(l:List Sp):Prop:=∀a∈l,a.1<N∧a.2<N
end Go.PH
end
namespace Go.PH
open Go.RowKit Go.Proofs Go.Proofs.Tryz
variable {bad : Bool} {l : List UInt8} {b base c e g k n x : Nat} {F : Nat → Prop} {A : Option Addr} {row : Option Nat} {w w' : World}
section
def sp2(a:Sp):List Value:=[.int .u32 (a.1:Int),.int .u32 (a.2:Int)]
def yx(l:List Sp):List Value:=l.flatMap sp2
theorem xH(a:Sp)(l:List Sp):yx (a::l)= .int .u32 (a.1:Int):: .int .u32 (a.2:Int)::yx l:=rfl
theorem Qo(a b:List Sp):yx (a++b)=yx a++yx b:=by simp[yx]
theorem Qp(l:List Sp):(yx l).length=l.length*2:=by
 induction l with
 | nil=>rfl
 | cons a l ih=>rw[xH];simp only[kI,ih];omega
theorem vS:∀(l:List Sp) (k:Nat),(yx l).take (k*2)=yx (l.take k)
 | [],k=>by simp[yx]
 | a::l,0=>by simp[yx]
 | a::l,k+1=>by rw[xH,show(k+1)*2=k*2+1+1 by omega,v5,v5,vS l k,v5,xH]
theorem vT:∀(l:List Sp) (k:Nat),(yx l).drop (k*2)=yx (l.drop k)
 | [],k=>by simp[yx]
 | a::l,0=>by simp
 | a::l,k+1=>by rw[xH,show(k+1)*2=k*2+1+1 by omega,v9,v9,vT l k,v9]
theorem ZF:∀(l:List Sp) (k:Nat) (h:k<l.length),(yx l)[k*2]?=some (.int .u32 (l[k].1:Int))∧(yx l)[k*2+1]?=some (.int .u32 (l[k].2:Int))
 | a::l,0,_=>by simp[xH]
 | a::l,k+1,h=>by
  have:=ZF l k Nz;rw[xH,show(k+1)*2=k*2+1+1 by omega];simpa using this
theorem Qq(l:List Sp):∀u∈yx l,u.oneCell'=true:=by
 intro u hu;simp only[yx,List.mem_flatMap,sp2,z0,List.not_mem_nil,or_false]at hu;obtain⟨a,_,rfl|rfl⟩:=hu<;>rfl
abbrev RdS(w:World)(B:Nat)(A:Option Addr)(n c:Nat)(l:List Sp):Prop:=Rd w B 2 A n c (yx l)
variable {w w' : World} {B n c : Nat} {A : Option Addr} {l : List Sp}
theorem RdS.length(h:RdS w B A n c l):l.length=n:=by have:=h.len;rw[Qp]at this;omega
theorem RdS.at_k(h:RdS w B A n c l)(hk:k<n):∃b off,A=some ⟨b,off,none⟩∧b<B∧∃hl:k<l.length,w.cell? ⟨b,off+k*2,none⟩=some (.int .u32 (l[k].1:Int))∧w.cell? ⟨b,off+k*2+1,none⟩=some (.int .u32 (l[k].2:Int)):=by
 obtain⟨b,off,e,hb,hc⟩:=h.at_ Wq;have hl:=h.length;have hg:=ZF l k Wq;exact⟨b,off,e,hb,by omega,hc _ _ hg.1,by have:=hc _ _ hg.2;rwa[←GN]at this⟩
theorem RdS.at_p(h:RdS w B A n c l)(hk:k≤n)(h0:0<k):∃b off,A=some ⟨b,off,none⟩∧b<B∧w.cell? ⟨b,off+(k-1)*2+1,none⟩=some (.int .u32 ((l.getD (k-1) (0,0)).2:Int)):=by
 obtain⟨b,off,e,hb,hl,_,hc⟩:=RdS.at_k h (k:=k-1) Wq;refine⟨b,off,e,hb,?_⟩;rw[hc];simp[kv,zA hl]
theorem Xu{N:Nat}{l:List Sp}(h:spOK N l)(k:Nat)(hN:0<N):(l.getD k (0,0)).1<N∧(l.getD k (0,0)).2<N:=by
 rw[kv]
 cases hk:l[k]? with
 | none=>exact⟨hN,hN⟩
 | some a=>exact h a (List.mem_of_getElem? hk)
theorem RdS.cut{lo:Nat}(hr:RdS w B A n c l)(h:lo+k≤n):RdS w B (cutA A 2 lo c) k (c-lo) ((l.drop lo).take k):=by
 have h1:=kU hr lo (lo+k) c Wq (by have:=hr.cap;omega) (Q2 _) h;rw[vS,vT,GG,Nat.add_sub_cancel_left]at h1;exact h1
theorem slS:SlT prog 74 208 2 8 (.agg #[.int .u32 0,.int .u32 0]):=SlT.mk' underlying74 Wj rfl Wq
abbrev OwnS(w:World)(base:Nat)(A:Option Addr)(n c:Nat)(l:List Sp):Prop:=Own w base 208 2 A n c (yx l)
end
theorem zcL{W:World}{ops:Array Oper}{o:Oper}{a:Act}{K:Act→World→Prop}{Q:Exit→Act→World→Prop}{s x:Operand}{t t2 e2:Nat}{out:List Sp}{fi ti:Int}(hT:SlT prog t 208 2 8 (.agg #[.int .u32 0,.int .u32 0]))(h2:prog.underlying t2=some (.slice e2))
  (ho:o.op= .call {callee:=.builtin .append,args:=#[s,x],argTypes:=#[t,t2]}) (hs:a.eval s= .slice A n c) (hx:a.eval x= .slice (some ⟨g,0,none⟩) 1 1) (hg:g=W.heap.size)
  (f u:Nat) (hf:fi=(f:Int)) (hu:ti=(u:Int)) (Hl:OwnS W base A n c out) (hn:n≤1000000000) (Hf:base≤W.heap.size)
  (h:∀A2 c2 w',OwnS w' base A2 (n+1) c2 (out++ [(f,u)])→W.grownBy w' (blk A)→(blk A2=blk A∨∀g,blk A2=some g→W.heap.size≤g)→Below base W w'→K (a.put o.dst (.slice A2 (n+1) c2)) w'):
  o.wp prog a (W.alloc (.cells #[.int .u32 fi,.int .u32 ti] 208)) K Q:=by
 subst hg hf hu;have b7:=yq (w:=W) base #[.int .u32 (f:Int),.int .u32 (u:Int)] 208 1 Hf WX rfl (size:=2) Wq;have bW:OwnS (W.alloc (.cells #[.int .u32 (f:Int),.int .u32 (u:Int)] 208)) base A n c out:=Hl.alloc _;refine jL (ops:=ops) hT h2 ho hs hx bW b7.rd (Qq [(f,u)]) Wq UJ Hq fun A2 c2 w' a1 a2 a3=>?_
 have e:yx out++(#[.int .u32 (f:Int),.int .u32 (u:Int)]:Array Value).toList=yx (out++ [(f,u)]):=by rw[Qo];rfl
 rw[e]at a1;have Hc:Below base W (W.alloc (.cells #[.int .u32 (f:Int),.int .u32 (u:Int)] 208)):=(KL _ _).alloc Hf _;have si:W.grownBy w' (blk A):=⟨a2.os,a2.tape,a2.output,GQ Hc.size a2.size,fun k hk hne=>(a2.block k Hq hne).trans (((KL W.heap.size W).alloc (Q2 _) _).block k hk)⟩;refine h A2 c2 w' a1 si ?_ ((KL _ _).grown si Hf (fun g hg=>(Hl.blk_lt hg).1));exact Z5u_
theorem VP{W:World}{ops:Array Oper}{rest:List Oper}{o:Oper}{a:Act}{Q:Exit→Act→World→Prop}{s x:Operand}{t t2 e2:Nat}{out:List Sp}{fi ti:Int}(hT:SlT prog t 208 2 8 (.agg #[.int .u32 0,.int .u32 0]))(h2:prog.underlying t2=some (.slice e2))(hw:Region.wanted o (yielded ops a.tmps)=true)
  (ho:o.op= .call {callee:=.builtin .append,args:=#[s,x],argTypes:=#[t,t2]}) (hs:a.eval s= .slice A n c) (hx:a.eval x= .slice (some ⟨g,0,none⟩) 1 1) (hg:g=W.heap.size)
  (f u:Nat) (hf:fi=(f:Int)) (hu:ti=(u:Int)) (Hl:OwnS W base A n c out) (hn:n≤1000000000) (Hf:base≤W.heap.size)
  (h:∀A2 c2 w',OwnS w' base A2 (n+1) c2 (out++ [(f,u)])→W.grownBy w' (blk A)→(blk A2=blk A∨∀g,blk A2=some g→W.heap.size≤g)→Below base W w'→wpList prog ops Q rest (a.put o.dst (.slice A2 (n+1) c2)) w'):
  wpList prog ops Q (o::rest) a (W.alloc (.cells #[.int .u32 fi,.int .u32 ti] 208)):=by
 refine BigFrame.wpList_want hw fun K hK=>?_
 exact zcL (ops:=ops) hT h2 ho hs hx hg f u hf hu Hl hn Hf fun A2 c2 w' a1 a2 a3 a4=>hK _ _ (h A2 c2 w' a1 a2 a3 a4)
theorem Yx(A:Option Addr)(n c:Nat)(l:List Sp)(B:Nat)(w:World)(hr:RdS w B A n c l)(hb:spOK 4294967296 l)(hB:B≤w.heap.size)(hn:n≤140737488355328):
  Calls prog 116 #[.slice A n c] w fun e w'=>e= .returned (.bool (zW l))∧Below w.heap.size w w':=by
 have qq56:=();exact Zu_
theorem Qs:prog.underlying 208=some (.struct (prog.fieldsOf 208)):=by kernel_rfl
theorem JR:prog.stoodInHeld 208=false:=by kernel_rfl
theorem JS:prog.eqGuardType prog.depth 208=false:=by kernel_rfl
theorem Q9(f t f' t':Nat)(w:World):(binOp .neq 208 (.agg #[.int .u32 f,.int .u32 t]) (.agg #[.int .u32 f',.int .u32 t'])).run prog w= .ok (.bool (!decide ((f,t)=(f',t')))) w:=by
 rw[run_neq_struct,run_equalIn_struct w 9999 208 _ _ Qs JR];simp only[Program.fieldsOf,underlying208];have hb:(f,t)=(f',t')↔f=f'∧t=t':=by simp
 have hd:decide ((f,t)=(f',t'))=(((f:Int)==(f':Int))&&((t:Int)==(t':Int))):=by
  rw[Bool.eq_iff_iff];simp;omega
 rw[hd]
 cases h1:((f:Int)==(f':Int))<;>cases h2:((t:Int)==(t':Int))<;>simp[Op.eqFields,part,run_equalIn_int _ 9998 71 .u32 .u32 _ _ underlying71,h1,h2,beq_iff_eq,Result.andThen,typeInfo,sizeOf]
end Go.PH
section
namespace Go.PH
open Go.RowKit Go.Proofs Go.ChangeShapes Go.WideShapes Go.ChangeAt Go.Deep
variable {H : Type} {enc : TypeId × Value → H} {W : World}
def zdh(a:Sp)(cs:List Value):Prop:=cs=sp2 a∧a.1<4294967296∧a.2<4294967296
theorem Yg:∀(L:List Sp) (xs:List Value),xs.length=L.length*2→(∀i (h:i<L.length),zdh L[i] ((xs.drop (i*2)).take 2))→xs=yx L∧spOK 4294967296 L
 | [],xs,hl,_=>by
  have:=List.eq_nil_of_length_eq_zero zAg;subst this
  exact⟨rfl,fun z hz=>by cases hz⟩
 | a::L,xs,hl,h=>by
  rcases xs with _|⟨x,_|⟨y,xs⟩⟩
  ·simp at hl
  ·simp at hl;omega
  have h0:=h 0 Wz;obtain⟨e,b1,b2⟩:=h0;simp[sp2]at e
  obtain⟨i1,i2⟩:=Yg L xs (by simp at hl;omega) (fun i hi=>by
   have:=h (i+1) Hq
   simpa[Nat.add_mul]using this)
  refine⟨by rw[e.1,e.2,xH,i1],fun z hz=>?_⟩;rcases z0.1 hz with rfl|hz
  ·exact⟨b1,b2⟩
  exact i2 z hz
theorem RdS.of{A:Option Addr}{n c B:Nat}{xs:List Value}{L:List Sp}(hr:Rd W B 2 A n c xs)(hL:L.length=n)(hR:∀i (h:i<L.length),zdh L[i] ((xs.drop (i*2)).take 2)):RdS W B A n c L∧spOK 4294967296 L:=by
 obtain⟨h1,h2⟩:=Yg L xs (by rw[hr.len,hL]) hR;subst h1;exact⟨hr,h2⟩
end Go.PH
end
namespace Go.PH
open Go.RowKit Go.Proofs Go.Proofs.Tryz
variable {bad : Bool} {l : List UInt8} {b base c e g k n x : Nat} {F : Nat → Prop} {A : Option Addr} {row : Option Nat} {w w' : World}
theorem XB(A:Option Addr)(n c:Nat)(l:List Sp)(B:Nat)(w:World)(hr:RdS w B A n c l)(hb:spOK 4294967296 l)(hB:B≤w.heap.size)(hn:n≤140737488355328):
  Calls prog 122 #[.slice A n c] w fun e w'=>e= .returned (.bool (zW l))∧Below w.heap.size w w':=by
 exact Zu_
def yg(l:List Sp):List UInt8:=l.flatMap fun a=>be 4 a.1++be 4 a.2
def yL(l:List Sp):List UInt8:=if zW l=true∧l.length≤1000 then be 2 (8*l.length)++yg l else []
def yf(l:List Sp):Nat:=if zW l=true then(if l.length≤1000 then 0 else 6)else 30
theorem vV{l:List Sp}(hk:k<l.length):yg (l.take (k+1))=yg (l.take k)++be 4 l[k].1++be 4 l[k].2:=by
 unfold yg;rw[yA hk,Gk];simp
theorem ZN(l:List Sp):(yg l).length=8*l.length:=by
 induction l with
 | nil=>rfl
 | cons a l ih=>
  have e:yg (a::l)=be 4 a.1++be 4 a.2++yg l:=rfl;rw[e];simp only[K1,zr,ih,kI];omega
theorem put2{b:List UInt8}{v:Nat}:puts b v 2=b++be 2 v:=yV WJ
theorem put4{b:List UInt8}{v:Nat}:puts b v 4=b++be 4 v:=yV WJ
theorem Vh(A:Option Addr)(n c:Nat)(l:List Sp)(B:Nat)(w:World)(hr:RdS w B A n c l)(hb:spOK 4294967296 l)(hB:B≤w.heap.size)(hn:n≤140737488351232):
  Calls prog 104 #[.slice A n c] w fun e w'=>∃A2 c2,e= .returned (.tuple #[.slice A2 (yL l).length c2,.int .i64 (yf l)])∧Own w' w.heap.size 5 1 A2 (yL l).length c2 ((yL l).map u8v)∧Below w.heap.size w w':=by
 exact Ze_
theorem J2(A:Option Addr)(n c:Nat)(l:List Sp)(B:Nat)(w:World)(hr:RdS w B A n c l)(hb:spOK 4294967296 l)(hB:B≤w.heap.size)(hn:n≤140737488351232):
  Calls prog 97 #[.slice A n c] w fun e w'=>∃A2 c2,e= .returned (.tuple #[.slice A2 (yL l).length c2,.int .i64 (yf l)])∧Own w' w.heap.size 5 1 A2 (yL l).length c2 ((yL l).map u8v)∧Below w.heap.size w w':=by
 have qq2x:=();exact Ze_
theorem vj{size:Nat}{xs:List Value}(ho:Own w base e size A n c xs)(hg:w.grownBy w' row)(h:∀g,blk A=some g→row≠some g):Own w' base e size A n c xs:=
 ho.kept hg (by
  rw[xh]
  cases hA:blk A with
  | none=>exact .inl rfl
  | some g=>exact .inr fun e=>h g hA e.symm)
theorem Yv{size:Nat}{xs:List Value}(ho:Own w base e size A n c xs)(hB:Below w.heap.size w w'):Own w' base e size A n c xs:=
 ho.kept (ZP hB none) (by cases hv:(Value.slice A n c).ownBlock<;>simp)
theorem vK(hx:x=1∨x=2∨x=4∨x=8)(h:x≤l.length):mnum l false (x:Int)=(unbe (l.take x),l.drop x,false):=by
 rw[qG (qL Wq),xp h]
theorem Yw(hx:x=1∨x=2∨x=4∨x=8)(h:l.length<x):mnum l false (x:Int)=(0,[],true):=by
 rw[qG (qL Wq),jg (.inr (.inr Wq))];rfl
theorem xY:unbe (l.take x)<256 ^ x:=by
 have h1:=vw (l.take x);have h2:(l.take x).length≤x:=by simp;omega
 exact GC h1 (Nat.pow_le_pow_right Wq h2)
def yo(k:Nat)(l:List UInt8):List Sp:=(List.range k).map fun i=>(unbe ((l.drop (8*i)).take 4),unbe ((l.drop (8*i+4)).take 4))
theorem vk(k:Nat)(l:List UInt8):yo (k+1) l=yo k l++ [(unbe ((l.drop (8*k)).take 4),unbe ((l.drop (8*k+4)).take 4))]:=by
 unfold yo;rw[List.range_succ,K2];rfl
theorem kL(k:Nat)(l:List UInt8):spOK 4294967296 (yo k l):=by
 intro a ha;obtain⟨i,_,rfl⟩:=List.mem_map.1 ha;exact⟨xY,xY⟩
theorem jk(k:Nat)(l:List UInt8):(yo k l).length=k:=by simp[yo]
def getN(b:List UInt8):Nat:=unbe (b.take 2)
def zO(b:List UInt8):Nat:=
 if b.length<2 then 4 else if getN b % 8≠0∨1000<getN b / 8 then 5 else if b.length<2+getN b then 4 else if zW (yo (getN b / 8) (b.drop 2))=true then 0 else 5
def xM(b:List UInt8):List Sp:=if zO b=0 then yo (getN b / 8) (b.drop 2)else []
def qw(b:List UInt8):Nat:=if zO b=0 then getN b+2 else 0
theorem xZ{b:List UInt8}(h:zO b=e)(he:e≠0):xM b=[]∧qw b=0:=by
 unfold xM qw;rw[h];simp[he]
theorem VO(A:Option Addr)(n c:Nat)(b:List UInt8)(w:World)(hr:RdB w w.heap.size A n c b)(hn:n≤140737488351232):
  Calls prog 161 #[.slice A n c] w fun e w'=>∃A2 c2,e= .returned (.tuple #[.slice A2 (xM b).length c2,.int .i64 (qw b),.int .i64 (zO b)])∧OwnS w' w.heap.size A2 (xM b).length c2 (xM b)∧Below w.heap.size w w':=by
 have qq29:=();exact Z8_
theorem J1(A:Option Addr)(n c:Nat)(b:List UInt8)(w:World)(hr:RdB w w.heap.size A n c b)(hn:n≤140737488351232):
  Calls prog 140 #[.slice A n c] w fun e w'=>∃A2 c2,e= .returned (.tuple #[.slice A2 (xM b).length c2,.int .i64 (qw b),.int .i64 (zO b)])∧OwnS w' w.heap.size A2 (xM b).length c2 (xM b)∧Below w.heap.size w w':=by
 exact Z8_
end Go.PH
section
namespace Go.PH
theorem Y0(k:Nat)(l:List UInt8):yo (k+1) l=(unbe (l.take 4),unbe ((l.drop 4).take 4))::yo k (l.drop 8):=by
 unfold yo;rw[List.range_succ_eq_map,xB,Gv];congr 1;apply List.map_congr_left;intro i _;simp only[Function.comp,z9];rw[show 8*Nat.succ i=8+8*i by omega,show 8+8*i+4=8+(8*i+4) by omega]
theorem j5:∀(l:List Sp) (r:List UInt8),spOK 4294967296 l→yo l.length (yg l++r)=l
 | [],r,_=>rfl
 | a::l,r,h=>by
  have ha:=h a Wz
  have e:yg (a::l)++r=be 4 a.1++(be 4 a.2++(yg l++r)):=by
   (show be 4 a.1++be 4 a.2++yg l++r=_);simp
  rw[kI,Y0,e];have l1:=zr 4 a.1;have l2:=zr 4 a.2;have d1:(be 4 a.1++(be 4 a.2++(yg l++r))).drop 4=be 4 a.2++(yg l++r):=by rw[z8 Wq,GK Wq];rfl
  have d2:(be 4 a.1++(be 4 a.2++(yg l++r))).drop 8=yg l++r:=by
   rw[show(8:Nat)=4+4 from rfl,←z9,d1,z8 Wq,GK Wq];rfl
  rw[d1,d2,z7 Wq,Vy Wq,z7 Wq,Vy Wq,vx,vx,j5 l r (fun z hz=>h z (by simp[hz]))];congr 1;exact Prod.ext (GV ha.1) (GV ha.2)
theorem QE{l:List Sp}(r:List UInt8)(hr:zW l=true)(hn:l.length≤1000)(h:spOK 4294967296 l):zO (yL l++r)=0∧xM (yL l++r)=l∧qw (yL l++r)=(yL l).length:=by
 have e:yL l=be 2 (8*l.length)++yg l:=by rw[yL,if_pos ⟨hr,by omega⟩]
 have lb:=zr 2 (8*l.length);have ls:=ZN l
 have hN:getN (yL l++r)=8*l.length:=by
  unfold getN;rw[e,Gj,z7 Wq,Vy Wq,vx,GV Wq]
 have hd:(yL l++r).drop 2=yg l++r:=by
  rw[e,Gj,z8 Wq,GK Wq];rfl
 have hl:(yL l++r).length=2+8*l.length+r.length:=by rw[e];simp only[K1,lb,ls]
 have hq:8*l.length / 8=l.length:=by omega
 have h0:zO (yL l++r)=0:=by
  rw[zO,hN,hd,hq,if_neg Wq,if_neg Wq,if_neg Wq,j5 l r h,hr];rfl
 refine⟨h0,?_,?_⟩
 ·rw[xM,h0,hN,hd,hq,j5 l r h];rfl
 rw[qw,h0,hN,e];simp only[K1,lb,ls];simp;omega
end Go.PH
end
section
namespace Go.PH
open Go.RowKit
section
variable {P : Program} {w : World} {t : TypeId}
theorem qB(l:List UInt8)(a b:Nat):(str l).extract a b=str ((l.take b).drop a):=by
 rw[GG];exact ByteArray.extract_mk l a b
theorem jn(a b:List UInt8):str a++str b=str (a++b):=by
 apply ByteArray.ext;simp[str]
theorem YL(hu:P.underlying t=some .string)(w:World){l:List UInt8}{lo hi:Option Value}(i j:Nat)(fC:Bd lo 0 i)(mW:Bd hi l.length j)(h1:i≤j)(h2:j≤l.length):
  (Instr.sliceAt t (.string (str l)) lo hi none).run P w= .ok (.string (str ((l.take j).drop i))) w:=by
 rw[run_sliceAt_string w t _ _ _ _ hu];rcases fC with⟨rfl,rfl⟩|⟨kd,X,rfl,rfl⟩
 ·rcases mW with⟨rfl,rfl⟩|⟨kd,X,rfl,rfl⟩
  ·rw[run_slice_string_all (h:=hu),zh,qB]
  rw[run_slice_string_h (ht:=hu) (h0:=by omega) (h2:=by rw[zh];omega),qB];simp
 rcases mW with⟨rfl,rfl⟩|⟨kd',X,rfl,rfl⟩
 ·rw[run_slice_string_l (ht:=hu) (h0:=by omega) (h1:=by rw[zh];omega),zh,qB];simp
 rw[run_slice_string (h:=hu) (h0:=by omega) (h1:=by omega) (h2:=by rw[zh];omega),qB];simp
variable {ops : Array Oper} {rest : List Oper} {o : Oper} {a : Act} {Q : Exit → Act → World → Prop} {x : Operand} {K : Act → World → Prop}
theorem qM{lo hi:Option Operand}(hu:P.underlying t=some .string)(ho:o.op= .slice t x lo hi none){l:List UInt8}(hx:a.eval x= .string (str l))(i j:Nat)(fC:Bd (lo.map a.eval) 0 i)(mW:Bd (hi.map a.eval) l.length j)(h1:i≤j)(h2:j≤l.length):
  (execOp a.eval o).run P w= .ok (.value (.string (str ((l.take j).drop i)))) w:=by
 have bv:=YL hu w i j fC mW h1 h2;unfold execOp;simp only[ho,hx,Sem.run_bind,Sem.run_pure,Result.andThen_ok,Option.map_none,bv]
theorem zcf{lo hi:Option Operand}(hu:P.underlying t=some .string)(ho:o.op= .slice t x lo hi none){l:List UInt8}(hx:a.eval x= .string (str l))(i j:Nat)(fC:Bd (lo.map a.eval) 0 i)(mW:Bd (hi.map a.eval) l.length j)(h1:i≤j)(h2:j≤l.length)
  (hk:K (a.put o.dst (.string (str ((l.take j).drop i)))) w):o.wp P a w K Q:=by
 have bv:=YL hu w i j fC mW h1 h2;unfold Oper.wp execOp;simp only[ho,hx,Sem.run_bind,Sem.run_pure,Result.andThen_ok,Option.map_none,bv];exact hk
theorem Zq{lo hi:Option Operand}(hu:P.underlying t=some .string)(hw:Region.wanted o (yielded ops a.tmps)=true)(ho:o.op= .slice t x lo hi none){l:List UInt8}(hx:a.eval x= .string (str l))(i j:Nat)(fC:Bd (lo.map a.eval) 0 i)(mW:Bd (hi.map a.eval) l.length j)(h1:i≤j)(h2:j≤l.length)
  (hk:wpList P ops Q rest (a.put o.dst (.string (str ((l.take j).drop i)))) w):wpList P ops Q (o::rest) a w:=
 BigFrame.wpList_want hw fun K hK=>zcf hu ho hx i j fC mW h1 h2 (hK _ _ hk)
theorem zcg{src dst e:TypeId}(hs:P.underlying src=some .string)(hd:P.underlying dst=some (.slice e))(he:P.underlying e=some (.int .u8))(w:World)(l:List UInt8)(hl:l.length≤140737488351240):
  ∃c w',(convert src dst (.string (str l))).run P w= .ok (.slice (some ⟨w.heap.size,0,none⟩) l.length c) w'∧RdB w' w'.heap.size (some ⟨w.heap.size,0,none⟩) l.length c l∧Below w.heap.size w w':=by
 refine⟨_,_,Lib.run_convert_string_bytes w src dst e (str l) hs hd he,?_,?_⟩
 ·refine⟨by simp,?_,?_,fun hn=>⟨_,_,rfl,by rw[Gz];omega,fun j u hu=>?_⟩⟩
  ·exact grownCap_ge _ _ _ _
  ·exact grownCap_le_maxLen _ _ _ _ (by simp only[maxLen,zh];omega)
  have hj:j<l.length:=by have:=(List.getElem?_eq_some_iff.1 hu).1;simpa using this
  have:=Lib.bytesWorld_cell w e (str l) j (by rw[zh];exact hj);simp only[zB];rw[this];simp[u8v,str,kv,hj]at hu ⊢;exact hu
 refine⟨?_,?_,?_,by rw[Gz];omega,fun k hk=>Lib.bytesWorld_at_old w e (str l) k hk⟩;all_goals rfl
theorem zc7{src dst e:TypeId}(hs:P.underlying src=some .string)(hd:P.underlying dst=some (.slice e))(he:P.underlying e=some (.int .u8))(ho:o.op= .convert src dst x){l:List UInt8}(hx:a.eval x= .string (str l))(hl:l.length≤140737488351240)
  (hk:∀c w',RdB w' w'.heap.size (some ⟨w.heap.size,0,none⟩) l.length c l→Below w.heap.size w w'→K (a.put o.dst (.slice (some ⟨w.heap.size,0,none⟩) l.length c)) w'):o.wp P a w K Q:=by
 obtain⟨c,w',bv,h1,h2⟩:=zcg hs hd he w l hl;unfold Oper.wp execOp;simp only[ho,hx,Sem.run_bind,Sem.run_pure,Result.andThen_ok,bv];exact hk _ _ h1 h2
theorem Q0{src dst e:TypeId}(hs:P.underlying src=some .string)(hd:P.underlying dst=some (.slice e))(he:P.underlying e=some (.int .u8))(hw:Region.wanted o (yielded ops a.tmps)=true)(ho:o.op= .convert src dst x){l:List UInt8}(hx:a.eval x= .string (str l))(hl:l.length≤140737488351240)
  (hk:∀c w',RdB w' w'.heap.size (some ⟨w.heap.size,0,none⟩) l.length c l→Below w.heap.size w w'→wpList P ops Q rest (a.put o.dst (.slice (some ⟨w.heap.size,0,none⟩) l.length c)) w'):wpList P ops Q (o::rest) a w:=
 BigFrame.wpList_want hw fun K hK=>zc7 hs hd he ho hx hl fun c w' h1 h2=>hK _ _ (hk c w' h1 h2)
end
end Go.PH
end
namespace Go.PH
open Go.RowKit Go.Proofs Go.Proofs.Tryz
variable {bad : Bool} {l : List UInt8} {b base c e g k n x : Nat} {F : Nat → Prop} {A : Option Addr} {row : Option Nat} {w w' : World}
def Qi:Value→Nat
 | .string z=>z.size
 | _=>0
def cutF(most:Int)(a:As):List Fr:=if yP most a=0 then vr most.toNat a else []
theorem zaQ(a:As)(most:Int)(A:Option Addr)(n c:Nat)(B:Nat)(w:World)(hr:RdG w B A n c a.segs)(hB:B≤w.heap.size)(hw:a.wf)(hs:∀s∈a.segs,s.load.length≤140737488351232)(hn:n≤140737488351232):
  Calls prog 44 #[.agg (asV a.chan a.track A n c),.int .i64 most] w fun e w'=>∃A2 c2,e= .returned (.tuple #[.slice A2 (cutF most a).length c2,.int .i64 (yP most a:Int)])∧OwnF w' w.heap.size A2 (cutF most a).length c2 (cutF most a)∧Below w.heap.size w w':=by
 have qqjk:=();exact Z4e_
def xw(l:List Fr):List UInt8:=l.flatMap Fr.put
theorem Qh(f:Fr):f.put.length≤4096:=by
 unfold Fr.put;split
 ·rename_i h
  have:f.bytes.length=12+f.load.length:=by simp[Fr.bytes,zr];omega
  simp[Fr.ok]at h;omega
 simp
theorem Ya(l:List Fr):(xw l).length≤4096*l.length:=by
 induction l with
 | nil=>simp[xw]
 | cons f r ih=>
  have:=Qh f;have e:xw (f::r)=f.put++xw r:=rfl;rw[e,K1,kI];omega
theorem Zv{l:List Fr}{i:Nat}(h:i<l.length):xw (l.take (i+1))=xw (l.take i)++l[i].put:=by
 unfold xw;rw[yA h,Gk,List.flatMap_singleton]
theorem KJ(most:Nat):∀(k:Nat) (f:Fr) (s:List UInt8),f.wf→s.length≤16384→∀x∈cutS most k f s,x.wf∧x.load.length≤16384
 | 0,f,s,hf,hs,x,hx=>by simp[cutS]at hx;subst hx;exact⟨hf,hs⟩
 | k+1,f,s,hf,hs,x,hx=>by
  rw[cutS]at hx;split at hx
  ·simp at hx;subst hx;exact⟨hf,hs⟩
  rcases z0.1 hx with rfl|hx
  ·exact⟨hf,by simp;omega⟩
  exact KJ most k ⟨f.first,f.last,false,false,f.ty,f.track,f.chan,[]⟩ (s.drop most) hf Hq x hx
theorem KK{most:Int}{a:As}(hw:a.wf):∀x∈cutF most a,x.wf∧x.load.length≤16384:=by
 intro x hx;unfold cutF at hx;split at hx
 ·rename_i h
  have bJ:asOk a=true:=by
   unfold yP at h;split at h
   ·omega
   split at h
   ·assumption
   omega
  obtain⟨_,hs,_⟩:=v8 bJ
  have key:∀(l:List Sg) (i:Nat),(∀s∈l,s.ty<256∧s.load.length≤16384)→∀x∈cutL most.toNat a.chan a.track a.segs.length i l,x.wf∧x.load.length≤16384:=by
   intro l
   induction l with
   | nil=>intro i _ x hx;simp[cutL]at hx
   | cons s r ih=>
    intro i hl x hx;rw[cutL]at hx;rcases List.mem_append.1 hx with hx|hx
    ·have:=hl s Wz;exact KJ _ _ _ _ ⟨this.1,hw.2.1,hw.1⟩ this.2 x hx
    exact ih _ (fun s hs=>hl s (by simp[hs])) x hx
  exact key _ _ (fun s TM=>⟨hw.2.2 s TM,GQ (kQ TM) hs⟩) x hx
 cases hx
theorem YM(most:Int)(a:As):(cutF most a).length≤16388:=by
 unfold cutF;split
 ·rename_i h
  unfold yP at h;split at h
  ·omega
  split at h
  ·rename_i h1 h2
   exact Zl Wq h2
  omega
 simp
theorem Xi(F:Nat→Prop)(pb n:Nat)(g:GS)(f:Fr)(w:World)(h:Ga w F pb n g)(hi:g.Inv)(hf:f.wf)(hl:f.load.length≤140737488351232)(hn:n<1000000000):
  Calls prog 55 #[.pointer (some ⟨pb,0,none⟩),.agg (frV f)] w (Kv w F pb n g f):=by
 obtain⟨⟨mb,D,hd,xf,hb,hF,hne,hm⟩,hlt⟩:=h;have tU:=g.err_cases f;obtain⟨fb,w0,uH,pj,io,Hr⟩:=zo w (frV f) 97;obtain⟨rb,w1,eB,Gy,bO,iJ⟩:=zo w0 asZ 42;have Ha:=Hr.trans (iJ.mono Hr.size);have IL:rb=w.heap.size+1:=by rw[eB,pj];simp
 have eH:=io.below iJ;have bL:=hb.below Ha;have L3:w.heap.size≤fb:=by omega
 have lz:w.heap.size≤rb:=by rw[eB];exact Hr.size
 have nP:fb≠rb:=by omega
 clear eB;have EG:=hb.lt;have m4:=fun W=>run_eql_map_nil (P:=prog) W _ _ _ (some mb) underlying86
 have Ba:=fun W=>Zo f W hf hl
 have HF:=Q1 hf;have HE:=Q1 tU;clear io tU hf;unfold asZ frV at*;go_enter func55,ntmps55;go_upto_region 1 with fail;rw[←IL,←uH,←pj,←Gy];clear IL uH pj Gy Hr iJ;clear w0;have c0:=bL.c0;have c1:=bL.c1;have f0:=(eH).c0;have f1:=(eH).c1;have f2:=(eH).c2;have f3:=(eH).c3;have f4:=(eH).c4;have f5:=(eH).c5;have f6:=(eH).c6;have f7:=(eH).c7;have HM:=Q1 hm;clear hm;rcases HE.out with⟨he,ml⟩|⟨ml,dp⟩
 ·have Ta:=Q1 he;rw[ml]at c1 bL;clear he ml HM HE;go_wp2_with(with_reducible refine h_B ?_);refine zc (zm (v:=.agg #[.int .u16 0,.int .u8 0,.slice none 0 0]) (vs:=[.int .u16 0,.int .u8 0,.slice none 0 0]) rfl rfl rfl rfl (bO) rfl Wj Wz WZ #[.int .u16 0,.int .u8 0,.slice none 0 0] Wz ?_);intro wz cE Hm et;go_wp2_with(with_reducible refine h_B ?_);have bX:=bL.grown Hm (sne Wq);exact zv rfl cE rfl rfl rfl underlying42 rfl Wj rfl (v7 hlt bX hF hne (KeepF.below (Ha.grown Hm Ha.size Wx)) (k:=9) Ta.out Wq)
 rw[ml]at c1 bL;obtain⟨pC,hm⟩:=HM.out ml;clear HM HE;rcases dp with⟨he,bJ⟩|⟨bJ,dp⟩
 ·exact Z1j_
 have su:f.err=0:=by simp[Fr.err,bJ]
 rw[su]at Ba;have GP:=Q1 ml;clear bJ su ml;obtain⟨mr,lp,ii⟩:=HF.out;obtain⟨H,x,is,iN,Wc,Uw,Wf,R4,aR,GL⟩:=hm.look ii (show f.track<65536 by omega);have ie:=fun W=>zaD H (zI (g.op f.chan f.track)) x (kA (g.op f.chan f.track)) is f W HF.out aR
 rw[GL f]at ie;obtain⟨SZ,D3⟩:∃s,s=zI (g.op f.chan f.track):=⟨_,rfl⟩
 obtain⟨GO,Rc⟩:∃s,s=kA (g.op f.chan f.track):=⟨_,rfl⟩
 obtain⟨FT,Fp⟩:∃s,s=fitsB (g.op f.chan f.track) f:=⟨_,rfl⟩
 have Oz:=(hi.goes f.chan f.track).len;rw[←D3]at iN ie dp Oz;rw[←Rc]at iN ie;rw[←Fp]at ie dp;have HMo:=Q1 (hi.goes f.chan f.track).most;have U3:=Q1 (hi.goes f.chan f.track);have HS:=Q1 D3;have HG:=Q1 Rc;have DF:=Q1 Fp;have Pm:=Q1 Wf;have DN:=Q1 Wc;have wN:=Q1 Uw;have HR:=Q1 dp;clear D3 Rc Fp Wf Wc Uw dp GL hi;unfold gkV jM Hd.v at iN;unfold jM Hd.v frV at ie;go_wp2_with(with_reducible refine h_B ?_);refine(Ba _).mono ?_;rintro e w2 ⟨rfl,H3⟩;have bE:=bL.below H3;have cE:=bO.below H3;have fJ:=eH.below H3;have Hc:=Ha.trans (H3.mono Ha.size);clear Ba bL bO eH c0 c1 f0 f1 f2 f3 f4 f5 f6 f7;have f0:=(fJ).c0;have f1:=(fJ).c1;have f2:=(fJ).c2;have f3:=(fJ).c3;have f4:=(fJ).c4;have f5:=(fJ).c5;have f6:=(fJ).c6;have f7:=(fJ).c7;obtain⟨kb,w3,Ox,lT,tM,Bn⟩:=zo w2 #[.int .i64 0,.int .i64 0] 156;have RC:fb≠kb:=by have:=fJ.lt;omega
 have NI:rb≠kb:=by have:=cE.lt;omega
 have On:pb≠kb:=by have:=bE.lt;omega
 have MS:w.heap.size≤kb:=by rw[Ox];exact Hc.size
 go_wp2_with(with_reducible refine h_B ?_);rw[←Ox,←lT];clear Ox lT;refine zc (zm (v:=.agg #[.int .i64 (f.chan:Int),.int .i64 (f.track:Int)]) (vs:=[.int .i64 (f.chan:Int),.int .i64 (f.track:Int)]) rfl rfl rfl rfl tM rfl Wj Wz WZ #[.int .i64 (f.chan:Int),.int .i64 (f.track:Int)] Wz ?_);intro w4 sE Bb eX;have dK:=(bE.below Bn).grown Bb (sne Wq);have cV:=(cE.below Bn).grown Bb (sne Wq);have r5:=(fJ.below Bn).grown Bb (sne Wq);have Hn:Below w.heap.size w w4:=(Hc.trans (Bn.mono Hc.size)).grown Bb (GQ Hc.size Bn.size) Wx;clear bE cE fJ tM Bb eX Bn H3 Ha Hc f0 f1 f2 f3 f4 f5 f6 f7;clear w3 w2 w1;go_upto_region 9 with fail;refine zt (fun W:World=>Below w4.heap.size w4 W) Wj ?_;have hS:Below w4.heap.size w4 w4.drew:=za (KL _ _) 1;generalize w4.drew=wd at*;refine rg_t 0 hS ?_;simp only[k8,k9,Act.put,vv,vz,v0];refine rg_t 1 hS ?_;simp only[g_S];refine rg_t 2 hS ?_;simp only[g_S];refine ze 3 (v:=?_) rfl Wj Wj Wj hS rfl ?_ ?_;rotate_left
 ·intro wS He;have k0:=(dK.below He).cell (j:=0) rfl;go_simp;(with_reducible rfl)
 simp only[g_S];refine ze 4 (v:=?_) rfl Wj Wj Wj hS rfl ?_ ?_;rotate_left
 ·intro wS He;have k0:=(sE.below He).cell (j:=0) rfl;have k1:=(sE.below He).cell (j:=1) rfl;go_simp;(with_reducible rfl)
 simp only[g_S];have LU:=fun(wS:World) (He:Below w4.heap.size w4 wS)=>iN wS (Hn.trans (He.mono Hn.size))
 clear iN;refine ze 5 (v:=?_) rfl Wj Wj Wj hS rfl ?_ ?_;rotate_left
 ·intro wS He;have k0:=LU _ He;go_simp;(with_reducible rfl)
 simp only[g_S];refine rg_t 6 hS ?_;simp only[g_S];refine rg_t 7 hS ?_;simp only[g_S];refine rg_t 8 hS ?_;simp only[g_S];refine zj 9 rfl Wj rfl (fun K hK=>?_);obtain⟨qb,w5,eo,Nc,dM,bz⟩:=zo wd (jM ⟨none,0,0⟩ 0 fr00 false) 158;unfold jM Hd.v fr00 at Nc dM;simp only at Nc dM;rw[show str []=(⟨#[]⟩:ByteArray)from rfl,show(((0:Nat):Int))=0 from rfl]at Nc dM;go_simp;rw[←eo,←Nc];have He:=hS.trans (bz.mono hS.size);have T4:w4.heap.size≤qb:=by rw[eo];exact hS.size
 clear eo Nc;refine hK _ _ He ?_;clear hK K hS bz;try simp only[g_S]
 refine zj 10 rfl Wj rfl (fun K hK=>?_);refine zK (g:=qb) (j:=0) (v:=.agg #[.slice H.A H.n H.c,.int .i64 (SZ:Int),.bool x.first,.bool x.last,.bool x.beg,.bool x.fin,.int .u8 (x.ty:Int),.int .u8 (x.track:Int),.int .u16 (x.chan:Int),.string (str x.load),.bool GO]) (vs:=[.slice H.A H.n H.c,.int .i64 (SZ:Int),.bool x.first,.bool x.last,.bool x.beg,.bool x.fin,.int .u8 (x.ty:Int),.int .u8 (x.track:Int),.int .u16 (x.chan:Int),.string (str x.load),.bool GO]) rfl rfl rfl dM rfl Wj Wz WZ #[.slice H.A H.n H.c,.int .i64 (SZ:Int),.bool x.first,.bool x.last,.bool x.beg,.bool x.fin,.int .u8 (x.ty:Int),.int .u8 (x.track:Int),.int .u16 (x.chan:Int),.string (str x.load),.bool GO] Wz ?_;intro w6 wL bm ej;have bY:Below w4.heap.size w4 w6:=He.grown bm He.size Wx;clear He bm ej dM LU;refine hK _ _ bY ?_;clear hK K;try simp only[g_S]
 refine rg_t 11 bY ?_;simp only[g_S];refine zD Wj ?_;have bH:=Hn.trans (bY.mono Hn.size)
 have ey:FdS w w6 H.A fb rb kb qb pb mb false f #[.slice H.A H.n H.c,.int .i64 (SZ:Int),.bool x.first,.bool x.last,.bool x.beg,.bool x.fin,.int .u8 (x.ty:Int),.int .u8 (x.track:Int),.int .u16 (x.chan:Int),.string (str x.load),.bool GO] H.A H.n H.c (zZ (g.op f.chan f.track)):=by
  have z1:=r5.lt;have z2:=cV.lt;have z3:=sE.lt;refine⟨r5.below bY,cV.below bY,sE.below bY,wL,dK.below bY,zi R4 bH,KeepF.below bH,⟨L3,lz,MS,by omega,EG⟩,⟨nP,RC,by omega,NI,by omega,by omega⟩,?_,fun k hk=>(Own.blk_lt R4 hk).2,fun k hk=>.inl hk⟩;intro e;by_cases e0:g.op f.chan f.track=[]
  ·rw[(DN.out e0).1]at e;cases e
  rw[(wN.out e0).1]at e;exact pC _ _ ii Wq e0 e
 have uw:w6.ownsMap prog 156 rawV mb n D:=yj hm.owns (bH.block mb hm.owns.lt);have u0:GaMap w6 F mb n D hd xf g.op:=hm.keep (fun k hk=>bH.block k (hm.lt k hk)) bH.size;have Cm:=hm.inF;clear r5 cV sE dK wL bY Hn R4;have q0:=ey.bq.c0;have q1:=ey.bq.c1;have q2:=ey.bq.c2;have q3:=ey.bq.c3;have q4:=ey.bq.c4;have q5:=ey.bq.c5;have q6:=ey.bq.c6;have q7:=ey.bq.c7;have q8:=ey.bq.c8;have q9:=ey.bq.c9;have CK:=ey.bq.c10;have fy:=ey.bf;unfold frV at fy;have f0:=(fy).c0;have f1:=(fy).c1;have f2:=(fy).c2;have f3:=(fy).c3;have f4:=(fy).c4;have f5:=(fy).c5;have f6:=(fy).c6;have f7:=(fy).c7;clear fy;have bK:=fun W (k:Nat) (hb:Box W pb 88 #[.map (some mb),.bool false]) (pd:W.ownsMap prog 156 rawV mb n D)=>QS pb mb n k false D W hb pd hne
 have Ba:=fun W=>ie W
 clear ie
 cases FT with
 | false=>
  have qq86:=()
  exact Z1j_
 | true=>
  go_wp2_with(with_reducible refine h_B ?_);refine(Ba _).mono ?_;rintro e w7 ⟨rfl,dY⟩;have Bq:=bH.trans (dY.mono bH.size);replace ey:=ey.below dY;replace uw:=yj uw (dY.block mb uw.lt);replace u0:GaMap w7 F mb n D hd xf g.op:=u0.keep (fun k hk=>dY.block k (u0.lt k hk)) dY.size;clear q0 q1 q2 q3 q4 q5 q6 q7 q8 q9 CK f0 f1 f2 f3 f4 f5 f6 f7;have q0:=ey.bq.c0;have q1:=ey.bq.c1;have q2:=ey.bq.c2;have q3:=ey.bq.c3;have q4:=ey.bq.c4;have q5:=ey.bq.c5;have q6:=ey.bq.c6;have q7:=ey.bq.c7;have q8:=ey.bq.c8;have q9:=ey.bq.c9;have CK:=ey.bq.c10;have fy:=ey.bf;unfold frV at fy;have f0:=(fy).c0;have f1:=(fy).c1;have f2:=(fy).c2;have f3:=(fy).c3;have f4:=(fy).c4;have f5:=(fy).c5;have f6:=(fy).c6;have f7:=(fy).c7;clear fy;clear Ba dY bH T4;clear w6 wd w4;have dr:=zh f.load;by_cases c3:16384<SZ+f.load.length
  ·have qq87:=();exact Z1j_
  have hd:decide ((16384:Int)-(SZ:Int)<(f.load.length:Int))=false:=by simp;omega
  have tW:Hid (g.err f=0):=Q1 (by rcases HR.out with h|h;cases h.2;rcases h.2 with h|h;omega;exact h.1);have BD:SZ+f.load.length≤16384:=by omega
  clear bK c3;have hir:H.n≤4:=by rw[Pm.out];exact HMo.out
  obtain⟨bg,eP⟩:∃b,b=f.beg:=⟨_,rfl⟩
  rw[←eP]at f2;have HB:=Q1 eP;clear eP;go_upto_if 75 with fail
  go_cut []from 11 (fun wx=>∃(A1:Option Addr) (c1:Nat) (L0:List Sg) (s0:Sg) (y:Fr),FdS w wx H.A fb rb kb qb pb mb false f #[.slice A1 (L0.length+1) c1,.int .i64 (SZ:Int),.bool y.first,.bool y.last,.bool y.beg,.bool y.fin,.int .u8 (y.ty:Int),.int .u8 (y.track:Int),.int .u16 (y.chan:Int),.string (str y.load),.bool GO] A1 (L0.length+1) c1 (L0++ [s0])∧
   L0.length≤4∧Hid (zZ (g.op f.chan f.track++ [f])=L0++ [⟨s0.ty,s0.load++f.load⟩])∧Hid (PartOk (g.op f.chan f.track++ [f]) y))
  case first=>
   cases bg with
   | true=>
    go_wp2_with(with_reducible refine h_B ?_);refine zc (jS xd slG underlying40 rfl rfl rfl rfl rfl (⟨f.ty,[]⟩:Sg) rfl ey.row Wq Wq (Nat.zero_le _) ?_);intro A2 c2 w8 dS H5 Al _;have dz:=ey.turn H5 dS Al;clear q0 q1 q2 q3 q4 q5 q6 q7 q8 q9 CK f0 f1 f2 f3 f4 f5 f6 f7 dS H5 Al ey;have d7:=dz.bf;unfold frV at d7;rw[←HB.out]at d7;have Wh:=dz.bq;go_wp2_with(with_reducible refine h_B ?_);refine zc (zm (v:=.slice A2 (H.n+1) c2) (vs:=[.slice A2 (H.n+1) c2]) rfl rfl rfl rfl Wh rfl Wj Wz WZ #[.slice A2 (H.n+1) c2,.int .i64 (SZ:Int),.bool x.first,.bool x.last,.bool x.beg,.bool x.fin,.int .u8 (x.ty:Int),.int .u8 (x.track:Int),.int .u16 (x.chan:Int),.string (str x.load),.bool GO] Wz ?_);intro w9 ow du _;replace dz:=dz.store du ow;replace d7:=dz.bf;unfold frV at d7;rw[←HB.out]at d7;have f0:=(d7).c0;have f1:=(d7).c1;have f2:=(d7).c2;have f3:=(d7).c3;have f4:=(d7).c4;have f5:=(d7).c5;have f6:=(d7).c6;have f7:=(d7).c7;clear Wh;go_wp2_with(with_reducible refine h_B ?_);refine zc (zm (v:=.agg #[.bool f.first,.bool f.last,.bool true,.bool f.fin,.int .u8 (f.ty:Int),.int .u8 (f.track:Int),.int .u16 (f.chan:Int),.string (str f.load)]) (vs:=[.bool f.first,.bool f.last,.bool true,.bool f.fin,.int .u8 (f.ty:Int),.int .u8 (f.track:Int),.int .u16 (f.chan:Int),.string (str f.load)]) rfl rfl rfl rfl ow rfl Wj Wz WZ #[.slice A2 (H.n+1) c2,.int .i64 (SZ:Int),.bool f.first,.bool f.last,.bool true,.bool f.fin,.int .u8 (f.ty:Int),.int .u8 (f.track:Int),.int .u16 (f.chan:Int),.string (str f.load),.bool GO] Wz ?_);intro wa dZ cL _;have iO:=dz.store cL dZ;clear f0 f1 f2 f3 f4 f5 f6 f7 dz ow du dZ cL d7;go_wp2_with(with_reducible refine h_B ?_);go_meet;obtain⟨L0,s0,e1,e2⟩:=QR U3.out DF.out.symm;rw[if_pos HB.out.symm]at e1;have e3:=congrArg List.length e1;simp only[K1,List.length_singleton]at e3;(have e4:H.n=L0.length:=by rw[Pm.out];omega);rw[e1,e4]at iO;rw[HB.out]at iO;have hP:=Y7 (x:=x) (fun h=>by rw[(wN.out h).2.1];exact hm.part _ _ ii Wq h) DF.out.symm HF.out;rw[if_pos HB.out.symm]at hP
    exact⟨A2,c2,L0,s0,f,iO,by omega,Q1 e2,Q1 hP⟩
   | false=>
    go_wp2_with(with_reducible refine h_B ?_);go_meet;obtain⟨L0,s0,e1,e2⟩:=QR U3.out DF.out.symm;rw[if_neg (by rw[←HB.out];simp)]at e1;(have e4:H.n=L0.length+1:=by rw[Pm.out,e1];simp);rw[e1,e4]at ey;have hP:=Y7 (x:=x) (fun h=>by rw[(wN.out h).2.1];exact hm.part _ _ ii Wq h) DF.out.symm HF.out;rw[if_neg (by rw[←HB.out];simp)]at hP;exact⟨_,_,L0,s0,x,ey,by omega,Q1 e2,Q1 hP⟩
  clear ey uw u0 q0 q1 q2 q3 q4 q5 q6 q7 q8 q9 CK f0 f1 f2 f3 f4 f5 f6 f7 Bq HB;obtain⟨A1,c1,L0,s0,y,ey,hL4,OG,TE⟩:=hcut;clear w7;obtain⟨gb,rfl,_,fB⟩:=QY ey.row Wq;have nO:=qm xd ey.row.rd (k:=L0.length) Wq;obtain⟨gb',off,cf,_,bK,bD⟩:=nO;obtain⟨rfl,rfl⟩:gb=gb'∧0=off:=by simpa using cf
  have Dp:(L0++ [s0])[L0.length]=s0:=by simp
  rw[Dp]at bD;have ck:=bD 1 _ rfl;simp only[zB]at ck;clear bD cf Dp bK;have EF:IntKind.i64.wrap (L0.length:Int)=(L0.length:Int):=IntWalk.i64_in _ ⟨by omega,by omega⟩;have g1:(L0.length:Int)<(L0.length:Int)+1:=by omega
  have mS:s0.load.length+f.load.length≤16384:=by
   have h1:=(vu (g.op f.chan f.track++ [f]));rw[OG.out,jO,vN,←HS.out]at h1;simp[yK]at h1;omega
  go_upto_region 17 with fail;have d7:=ey.bf;unfold frV at d7;refine zt (fun W:World=>Box W fb 97 #[.bool f.first,.bool f.last,.bool f.beg,.bool f.fin,.int .u8 (f.ty:Int),.int .u8 (f.track:Int),.int .u16 (f.chan:Int),.string (str f.load)]∧Box W qb 158 #[.slice (some ⟨gb,0,none⟩) (L0.length+1) c1,.int .i64 (SZ:Int),.bool y.first,.bool y.last,.bool y.beg,.bool y.fin,.int .u8 (y.ty:Int),.int .u8 (y.track:Int),.int .u16 (y.chan:Int),.string (str y.load),.bool GO]) Wj ?_;have hS:Box wc.drew fb 97 #[.bool f.first,.bool f.last,.bool f.beg,.bool f.fin,.int .u8 (f.ty:Int),.int .u8 (f.track:Int),.int .u16 (f.chan:Int),.string (str f.load)]∧Box wc.drew qb 158 #[.slice (some ⟨gb,0,none⟩) (L0.length+1) c1,.int .i64 (SZ:Int),.bool y.first,.bool y.last,.bool y.beg,.bool y.fin,.int .u8 (y.ty:Int),.int .u8 (y.track:Int),.int .u16 (y.chan:Int),.string (str y.load),.bool GO]:=⟨d7,ey.bq⟩;have E2:=ey.drew;have dN:wc.drew.cell? ⟨gb,L0.length*2+1,none⟩=some (.string (str s0.load)):=ck;clear ck;generalize wc.drew=wd at*;refine rg_t 0 hS ?_;simp only[k8,k9,Act.put,vv,vz,v0];refine ze 1 (v:=?_) rfl Wj Wj Wj hS rfl ?_ ?_;rotate_left
  ·intro wS He;have k0:=He.2.cell (j:=0) rfl;go_simp;(with_reducible rfl)
  simp only[g_S];refine rg_t 2 hS ?_;simp only[g_S];refine ze 3 (v:=?_) rfl Wj Wj Wj hS rfl ?_ ?_;rotate_left
  ·intro wS He;have k0:=He.2.cell (j:=0) rfl;go_simp;(with_reducible rfl)
  simp only[g_S];refine rg_t 4 hS ?_;simp only[g_S];refine rg_t 5 hS ?_;simp only[g_S];refine rg_t 6 hS ?_;simp only[g_S];refine rg_t 7 hS ?_;simp only[g_S];refine rg_t 9 hS ?_;simp only[g_S];refine ze 10 (v:=?_) rfl Wj Wj Wj hS rfl ?_ ?_;rotate_left
  ·intro wS He;have k0:=He.1.cell (j:=7) rfl;go_simp;(with_reducible rfl)
  simp only[g_S];refine zj 8 rfl Wj rfl (fun K hK=>?_);go_simp;refine hK _ _ hS ?_;clear hK K;try simp only[g_S]
  have o4:(9223372036854775807<s0.load.length+f.load.length)=False:=by simp;omega
  have D0:=zh s0.load;refine rg_t 11 hS ?_;simp only[g_S];simp only[jn];clear o4 D0;refine rg_t 12 hS ?_;simp only[g_S];refine rg_t 13 hS ?_;simp only[g_S];refine zj 14 rfl Wj rfl (fun K hK=>?_);refine Xh (k:=L0.length) (i:=1) (v:=.string (str (s0.load++f.load))) (vs:=[.string (str (s0.load++f.load))]) xd rfl rfl rfl E2.row Wq Wz (⟨s0.ty,s0.load++f.load⟩:Sg) rfl Wj (by simp[sgC]) Wz Wq ?_;intro w8 dS H5 Dc;have dj:(L0++ [s0]).set L0.length ⟨s0.ty,s0.load++f.load⟩=L0++ [⟨s0.ty,s0.load++f.load⟩]:=by simp
  rw[dj,←OG.out]at dS;have dz:=E2.turn H5 dS (.inl rfl);have cz:=dz.bf;unfold frV at cz;refine hK _ _ ⟨cz,dz.bq⟩ ?_;clear hK K hS dN E2 dS H5 Dc dj EF g1 mS d7;clear ey;try simp only[g_S]
  refine zD Wj ?_;clear wd fB;have od:=dz.bq;have f0:=(cz).c0;have f1:=(cz).c1;have f2:=(cz).c2;have f3:=(cz).c3;have f4:=(cz).c4;have f5:=(cz).c5;have f6:=(cz).c6;have f7:=(cz).c7;have q1:=od.c1;obtain⟨bf,fy⟩:∃b,b=f.fin:=⟨_,rfl⟩
  obtain⟨bl,dI⟩:∃b,b=f.last:=⟨_,rfl⟩
  go_wp2_with(with_reducible refine h_B ?_);refine zc (zm (j:=1) (v:=.int .i64 ((SZ:Int)+(f.load.length:Int))) (vs:=[.int .i64 ((SZ:Int)+(f.load.length:Int))]) rfl rfl rfl rfl od rfl Wj Wz WZ #[.slice (some ⟨gb,0,none⟩) (L0.length+1) c1,.int .i64 ((SZ:Int)+(f.load.length:Int)),.bool y.first,.bool y.last,.bool y.beg,.bool y.fin,.int .u8 (y.ty:Int),.int .u8 (y.track:Int),.int .u16 (y.chan:Int),.string (str y.load),.bool GO] Wz ?_);intro w9 ow du _;replace dz:=dz.store du ow;replace cz:=dz.bf;unfold frV at cz;clear f0 f1 f2 f3 f4 f5 f6 f7 q1 od du;rw[←fy,←dI]at cz;have SS:=Q1 fy;have T5:=Q1 dI;clear fy dI;have f0:=(cz).c0;have f1:=(cz).c1;have f2:=(cz).c2;have f3:=(cz).c3;have f4:=(cz).c4;have f5:=(cz).c5;have f6:=(cz).c6;have f7:=(cz).c7;go_wp2_with(with_reducible refine h_B ?_);refine zc (zm (j:=10) (v:=.bool (!bf)) (vs:=[.bool (!bf)]) rfl rfl rfl rfl ow rfl Wj Wz WZ #[.slice (some ⟨gb,0,none⟩) (L0.length+1) c1,.int .i64 ((SZ:Int)+(f.load.length:Int)),.bool y.first,.bool y.last,.bool y.beg,.bool y.fin,.int .u8 (y.ty:Int),.int .u8 (y.track:Int),.int .u16 (y.chan:Int),.string (str y.load),.bool (!bf)] Wz ?_);intro wa dZ cL _;replace dz:=dz.store cL dZ;replace cz:=dz.bf;unfold frV at cz;rw[←SS.out,←T5.out]at cz;clear f0 f1 f2 f3 f4 f5 f6 f7 ow cL;have f0:=(cz).c0;have f1:=(cz).c1;have f2:=(cz).c2;have f3:=(cz).c3;have f4:=(cz).c4;have f5:=(cz).c5;have f6:=(cz).c6;have f7:=(cz).c7;have dm:Hid ((f.fin&&f.last)=(bf&&bl)):=Q1 (by rw[SS.out,T5.out]);have LV:Hid (kA (g.op f.chan f.track++ [f])= !bf):=Q1 (by rw[JC,SS.out]);have Me:Hid (zI (g.op f.chan f.track++ [f])=SZ+f.load.length):=Q1 (by rw[vN,HS.out]);have dh:=fun(wz:World) (hz:wa.grownBy wz (some mb))=>(dz.keep.weak (G:=fun k=>k=mb∨blk H.A=some k) (fun k hk=>.inl (.inr hk))).trans (.grown (F:=fun k=>k=mb) hz (fun k hk=>.inl uj)) (fun k hk=>.inl (.inl hk))
  have IF:blk H.A≠some mb:=fun e=>(kr hm HF.out (show f.track≤1 by exact kC DF.out.symm) (fun e=>(DN.out e).1) (fun e=>(wN.out e).1) e).2.2.2.1 rfl
  have sJ:wa.ownsMap prog 156 rawV mb n D:=yj hm.owns (dz.keep.2.1 mb hm.owns.lt IF);have sf:f.track≤1:=kC DF.out.symm;have hhf:=hm.owns.lt;have aA:=dz.lo.2.2.2.1;have pz:kb≠mb:=by omega
  have OE:qb≠mb:=by omega
  have ny:rb≠mb:=by omega
  have Cq:fb≠mb:=by omega
  have WA:=dz.ne;have co:=dz.lo;clear m4;have r4:∀k,blk (some (⟨gb,0,none⟩:Addr))=some k→blk H.A=some k∨w.heap.size≤k:=fun k hk=>(dz.at_ k hk).imp id (fun e=>e.1)
  have mN:gb≠rb:=(dz.off rfl).2.1
  have bN:some gb≠some mb:=fun e=>by
   (have e':gb=mb:=by injection e);rcases r4 gb rfl with h|h
   ·exact IF (by rw[h,e'])
   omega
  cases ef:(bf&&bl)with
  | true=>
   have qq3z:=()
   exact Zp_
  | false=>
   (have tq:(bf=false)∨(bf=true∧bl=false):=by cases bf<;>cases bl<;>simp_all);clear ef;rcases tq with rfl|⟨rfl,rfl⟩
   ·exact Zp_
   have qq3y:=();exact Zp_
theorem Vj(a:As)(most:Int)(A:Option Addr)(n c:Nat)(B:Nat)(w:World)(hr:RdG w B A n c a.segs)(hB:B≤w.heap.size)(hw:a.wf)(hs:∀s∈a.segs,s.load.length≤140737488351232)(hn:n≤140737488351232):
  Calls prog 47 #[.agg (asV a.chan a.track A n c),.int .i64 most] w fun e w'=>∃A2 c2,e= .returned (.tuple #[.slice A2 (cutF most a).length c2,.int .i64 (yP most a:Int)])∧OwnF w' w.heap.size A2 (cutF most a).length c2 (cutF most a)∧Below w.heap.size w w':=by
 exact Z4e_
def qR(most:Int)(a:As):List UInt8:=xw (cutF most a)
theorem bplB:BPl 59 2 0:=⟨by kernel_rfl,by omega⟩
theorem Z9(lb sz:Nat)(a:As)(A:Option Addr)(n c:Nat)(w:World)(h4:w.cell? ⟨lb,4,none⟩=some (.int .u64 (sz:Int)))(Bm:sz≤1000000)(hr:RdG w w.heap.size A n c a.segs)(hw:a.wf)(hs:∀s∈a.segs,s.load.length≤140737488351232)(hn:n≤140737488351232):
  Calls prog 31 #[.pointer (some ⟨lb,0,none⟩),.agg (asV a.chan a.track A n c)] w fun e w'=>e= .returned (.tuple #[.string (str (qR ((sz:Int)-12) a)),.int .i64 (yP ((sz:Int)-12) a:Int)])∧Below w.heap.size w w':=by
 have fh:=fun(W:World) (h:Below w.heap.size w W)=>zaQ a ((sz:Int)-12) A n c w.heap.size W (hr.below h) h.size hw hs hn
 have nh:lb<w.heap.size:=K0 _ _ h4;obtain⟨xb,w0,bC,bh,hX,Hr⟩:=zo w (asV a.chan a.track A n c) 42;have NB:=Q1 (KK (most:=(sz:Int)-12) hw);have dm:=YM ((sz:Int)-12) a;unfold qR;generalize cutF ((sz:Int)-12) a=FS at*;generalize yP ((sz:Int)-12) a=ER at*;have AM:IntKind.i64.wrap ((sz:Int)-12)=(sz:Int)-12:=IntWalk.i64_in _ ⟨by omega,by omega⟩;have Du:IntKind.i64.wrap (sz:Int)=(sz:Int):=IntWalk.i64_in _ ⟨by omega,by omega⟩;clear hr hw hs;unfold asV at*;go_enter func31,ntmps31;go_upto_region 1 with fail;rw[←bC,←bh];have sw:w.heap.size≤xb:=by omega
 clear bC bh;have k4:w0.cell? ⟨lb,4,none⟩=some (.int .u64 (sz:Int)):=(Hr.cell (p:=⟨lb,4,none⟩) nh).trans h4;refine zt (fun W:World=>Below w0.heap.size w0 W) Wj ?_;have hS:Below w0.heap.size w0 w0.drew:=za (KL _ _) 1;have sE:=fun(wS:World) (He:Below w0.heap.size w0 wS)=>(He.cell (p:=⟨lb,4,none⟩) (K0 _ _ k4)).trans k4
 have IN:=fh w0.drew (za Hr 1);have Ha:Below w.heap.size w w0.drew:=za Hr 1;clear fh h4 k4;generalize w0.drew=wd at*;refine ze 0 (v:=?_) rfl Wj Wj Wj hS rfl ?_ ?_;rotate_left
 ·intro wS He;have k0:=(hX.below He).cell (j:=0) rfl;have k1:=(hX.below He).cell (j:=1) rfl;have k2:=(hX.below He).cell (j:=2) rfl;go_simp;(with_reducible rfl)
 simp only[k8,k9,Act.put,vv,vz,v0];refine rg_t 1 hS ?_;simp only[g_S];refine rg_t 2 hS ?_;simp only[g_S];refine rg_t 3 hS ?_;simp only[g_S];refine ze 4 (v:=?_) rfl Wj Wj Wj hS rfl ?_ ?_;rotate_left
 ·intro wS He;have k0:=sE _ He;go_simp;(with_reducible rfl)
 simp only[g_S];refine rg_t 5 hS ?_;simp only[g_S];refine rg_t 6 hS ?_;simp only[g_S];refine zj 7 rfl Wj rfl (fun K hK=>?_);go_simp
 (with_reducible refine IN.mono ?_)
 rintro e w1 ⟨A2,c2,rfl,hO,Hc⟩;have BH:Below w0.heap.size w0 w1:=hS.trans (Hc.mono hS.size);refine hK _ _ BH ?_;clear hK K;try simp only[g_S]
 refine rg_t 8 BH ?_;simp only[g_S];refine rg_t 9 BH ?_;simp only[g_S];refine rg_t 10 BH ?_;simp only[g_S];refine rg_t 11 BH ?_;simp only[g_S];refine rg_t 12 BH ?_;simp only[g_S];refine zD Wj ?_;replace Hc:=Ha.trans (Hc.mono Ha.size);clear hS BH IN sE Ha hX Hr;clear w0;obtain⟨bb,w2,bC,bh,l7,H3⟩:=zo w1 #[.pointer none,.slice none 0 0] 59;have iQ:=zi hO H3;have gc:w1.heap.size≤bb:=by omega
 have Hh:=Hc.trans (H3.mono Hc.size);have NH:w.heap.size≤bb:=by have:=Hc.size;omega
 have hAb:∀g,blk A2=some g→g<bb:=fun g hg=>by have:=(hO.blk_lt hg).2;omega
 go_upto_region 3 with fail;rw[←bC,←bh];clear bC bh;have eS:=xr yE iQ.rd;obtain⟨N,hN⟩:∃N,N=FS.length:=⟨_,rfl⟩
 rw[←hN]at iQ dm ⊢;have HN:=Q1 hN;have UO:=fun(W:World) (h:Below w2.heap.size w2 W) {i:Nat} (hi:i<N)=>qm yE (iQ.rd.below h) hi
 have pD:=l7.lt;have TS:Own w2 (bb+1) 5 1 none 0 0 (([]:List UInt8).map u8v):=Own.none_ _ _ _ _;have GJ:(N:Int)≤16388:=by omega
 clear eS hN hO;go_wp2_with(with_reducible refine h_B ?_);go_loopw [26] (fun Rt wr=>∃(i m c3:Nat) (p:Value) (A3:Option Addr),i≤N∧Rt= .int .i64 (i:Int)∧Hid (m=(xw (FS.take i)).length)∧Box wr bb 59 #[p,.slice A3 m c3]∧(p= .pointer none∨p=bPtr bb 0)∧Own wr (bb+1) 5 1 A3 m c3 ((xw (FS.take i)).map u8v)∧KeepF (fun g=>bb≤g) w2 wr) (fun Rt _=>N-(ky Rt).toNat)
 case atStart=>exact⟨0,0,0,.pointer none,none,by omega,rfl,Q1 rfl,l7,.inl rfl,TS,.refl _ _⟩
 clear TS l7;obtain⟨i,m,c3,p,A3,hi,rfl,HM,l7,hp,eN,BO⟩:=hrel;have LN:OwnF wr wd.heap.size A2 N c2 FS:=Zb iQ (fun g hg=>BO.2.1 g (by have:=(iQ.blk_lt hg).2;exact this) (by have:=hAb g hg;omega));have bO:Below w.heap.size w wr:=Hh.trans (BO.toBelow (by have:=Hh.size;omega) (fun g hg=>by omega));have S6:blk A3≠some bb:=fun e=>by have:=(eN.blk_lt e).1;omega
 by_cases hlt:i<N
 ·have g1:(i:Int)<(N:Int):=by omega
  obtain⟨b,off,rfl,dP,bK,bD⟩:=qm yE LN.rd hlt;have k0:=bD 0 _ rfl;have k1:=bD 1 _ rfl;have k2:=bD 2 _ rfl;have k3:=bD 3 _ rfl;have k4:=bD 4 _ rfl;have k5:=bD 5 _ rfl;have k6:=bD 6 _ rfl;have k7:=bD 7 _ rfl;have gh:=NB.out _ (List.getElem_mem bK);have HT:=Q1 (Zv bK);clear bD UO;generalize FS[i]=f at*;simp only[kx]at k0;obtain⟨fb,w4,bC,bh,hF,Hn⟩:=zo wr #[.bool false,.bool false,.bool false,.bool false,.int .u8 0,.int .u8 0,.int .u16 0,.string ⟨#[]⟩] 97;go_wp2_with(with_reducible refine h_B ?_);rw[←bC,←bh];have Eu:bb<fb:=by rw[bC];exact l7.lt
  have nR:wr.heap.size≤fb:=by rw[bC];exact Q2 _
  clear bC bh;refine zc (zm (v:=.agg #[.bool f.first,.bool f.last,.bool f.beg,.bool f.fin,.int .u8 (f.ty:Int),.int .u8 (f.track:Int),.int .u16 (f.chan:Int),.string (str f.load)]) (vs:=[.bool f.first,.bool f.last,.bool f.beg,.bool f.fin,.int .u8 (f.ty:Int),.int .u8 (f.track:Int),.int .u16 (f.chan:Int),.string (str f.load)]) rfl rfl rfl rfl hF rfl Wj Wz WZ #[.bool f.first,.bool f.last,.bool f.beg,.bool f.fin,.int .u8 (f.ty:Int),.int .u8 (f.track:Int),.int .u16 (f.chan:Int),.string (str f.load)] Wz ?_);intro w5 iW bc en;clear en;have F9:=(l7.below Hn).grown bc (sne Wq);have gA:=zk (zi eN Hn) bc (fun g hg e=>by injection e with e;have:=(eN.blk_lt hg).2;omega);have Bt:KeepF (fun g=>bb≤g) w2 w5:=BO.trans ((KeepF.below (F:=fun g=>bb≤g) Hn).trans (.grown (F:=fun g=>bb≤g) bc (fun g hg=>.inl (by injection hg with hg;omega))) (fun g hg=>.inl hg)) (fun g hg=>.inl hg);have gR:bb+1≤w5.heap.size:=F9.lt;clear hF bc Hn eN l7 BO k0 k1 k2 k3 k4 k5 k6 k7 LN nR;clear w4;have f0:=iW.c0;have f1:=iW.c1;have f2:=iW.c2;have f3:=iW.c3;have f4:=iW.c4;have f5:=iW.c5;have f6:=iW.c6;have f7:=iW.c7;have GL:=zaM f w5 gh.1 (by have:=gh.2;omega);unfold frV at GL;have ek:=Qh f
  have m4:m≤67125248:=by
   have h1:=HM.out;have h2:=Ya (FS.take i);have h3:(FS.take i).length≤i:=List.length_take_le _ _;omega
  go_wp2_with(with_reducible refine h_B ?_);refine GL.mono ?_;rintro e w6 ⟨A6,c6,rfl,lX,bH⟩;have O4:=F9.below bH;have LR:=zi gA bH;have gj:KeepF (fun g=>bb≤g) w2 w6:=Bt.trans (KeepF.below (F:=fun g=>bb≤g) bH) (fun g hg=>.inl hg);have DK:=JK bplB w6 #[p,.slice A3 m c3] O4 rfl p rfl hp A3 A6 (xw (FS.take i)) f.put rfl LR S6 (by have:=bH.size;omega) lX.rd (fun e=>by have:=(lX.blk_lt e).1;omega) Wq;clear GL f0 f1 f2 f3 f4 f5 f6 f7 iW gA F9 Bt;go_wp2_with(with_reducible refine h_B ?_);refine DK.mono ?_;rintro e w7 ⟨rfl,hW⟩;clear DK;obtain⟨⟨A7,c7,It,lE,hes,Nt⟩,WP⟩:=hW;have ic:KeepF (fun g=>bb≤g) w2 w7:=gj.trans (WP.weak (G:=fun g=>bb≤g) (fun g hg=>by rcases hg with hg|hg;exact .inl Wq;exact .inl (by have:=(LR.blk_lt hg).1;omega))) (fun g hg=>.inl hg);have HM7:Hid ((xw (FS.take i)++f.put).length=(xw (FS.take (i+1))).length):=Q1 (by rw[HT.out]);rw[←HT.out]at lE It;go_wp2_with(with_reducible refine h_B ?_);exact⟨⟨i+1,_,c7,bPtr bb 0,A7,by omega,by go_num,Q1 rfl,It,.inr rfl,lE,ic⟩,by simp[ky];omega⟩
 have g1:¬(i:Int)<(N:Int):=by omega
 have HF:Hid (xw (FS.take i)=xw FS):=Q1 (by rw[Vy NZ]);have bR:=kZ (off:=0) (n:=m) (c:=c3) wr #[p,.slice A3 m c3] l7 A3 (xw (FS.take i)) rfl eN;rw[HF.out]at bR;clear UO;go_wp2_with(with_reducible refine h_B ?_);refine bR.mono ?_;rintro e w4 ⟨rfl,eR⟩;have Hn:Below w.heap.size w w4:=bO.trans (eR.toBelow bO.size (fun g hg=>by have:=(eN.blk_lt hg).1;omega));go_wp2_with(with_reducible refine h_B ?_);go_ret2;exact⟨rfl,Hn⟩
end Go.PH
section
namespace Go.PH
structure MRow where
 code:Nat
 word:List UInt8
 kinds:List UInt8
deriving DecidableEq
structure RRow where
 cls:Nat
 code:Nat
 name:List UInt8
 kinds:List UInt8
deriving DecidableEq
def xi:Nat→List UInt8
 | 1=>[99,111,110,110,101,99,116,105,111,110]
 | 2=>[115,101,115,115,105,111,110]
 | 3=>[101,120,101,99,117,116,105,111,110]
 | 4=>[109,101,115,115,97,103,101]
 | 5=>[116,120]
 | 6=>[100,116,120]
 | 8=>[113,117,101,117,101]
 | _=>[]
def xQ:Nat→List UInt8
 | 1=>[49,32,115,116,97,114,116,32,116,59,50,32,115,116,97,114,116,45,111,107,32,116,59,53,32,116,117,110,101,32,119,119,59,54,32,116,117,110,101,45,111,107,32,119,119,59,55,32,111,112,101,110,32,115,59,56,32,111,112,101,110,45,111,107,32,59,49,49,32,99,108,111,115,101,32,119,115,59,49,50,32,99,108,111,115,101,45,111,107,32]
 | 2=>[49,32,97,116,116,97,99,104,32,116,98,59,50,32,97,116,116,97,99,104,101,100,32,116,59,51,32,100,101,116,97,99,104,32,116,59,52,32,100,101,116,97,99,104,101,100,32,116,110,59,55,32,112,111,105,110,116,32,100,59,49,48,32,99,111,109,112,108,101,116,101,100,32,114,59,49,49,32,107,110,111,119,110,32,114,59,49,50,32,102,108,117,115,104,32]
 | 3=>[49,32,115,121,110,99,32,59,50,32,114,101,115,117,108,116,32,100,118,59,51,32,101,120,99,101,112,116,105,111,110,32,119,100,116]
 | 4=>[49,32,116,114,97,110,115,102,101,114,32,115,110,59,50,32,97,99,99,101,112,116,32,114,59,51,32,114,101,106,101,99,116,32,114,119,115,59,52,32,114,101,108,101,97,115,101,32,114,98,59,55,32,115,117,98,115,99,114,105,98,101,32,115,115,59,56,32,99,97,110,99,101,108,32,115,59,49,48,32,102,108,111,119,32,115,100,59,49,50,32,115,116,111,112,32,115]
 | 5=>[49,32,115,101,108,101,99,116,32,59,50,32,99,111,109,109,105,116,32,59,51,32,114,111,108,108,98,97,99,107,32]
 | 6=>[49,32,115,101,108,101,99,116,32,59,50,32,115,116,97,114,116,32,120,98,98,59,51,32,101,110,100,32,120,98,98,59,52,32,99,111,109,109,105,116,32,120,98,59,53,32,102,111,114,103,101,116,32,120,59,54,32,103,101,116,45,116,105,109,101,111,117,116,32,120,59,55,32,112,114,101,112,97,114,101,32,120,59,56,32,114,101,99,111,118,101,114,32,59,57,32,114,111,108,108,98,97,99,107,32,120,59,49,48,32,115,101,116,45,116,105,109,101,111,117,116,32,120,100]
 | 8=>[49,32,100,101,99,108,97,114,101,32,115,98,100,59,50,32,100,101,108,101,116,101,32,115,98,59,51,32,112,117,114,103,101,32,115,59,52,32,113,117,101,114,121,32,115]
 | _=>[]
def qX:Nat→List MRow
 | 1=>[⟨1,[115,116,97,114,116],[116]⟩,⟨2,[115,116,97,114,116,45,111,107],[116]⟩,⟨5,[116,117,110,101],[119,119]⟩,⟨6,[116,117,110,101,45,111,107],[119,119]⟩,⟨7,[111,112,101,110],[115]⟩,⟨8,[111,112,101,110,45,111,107],[]⟩,⟨11,[99,108,111,115,101],[119,115]⟩,⟨12,[99,108,111,115,101,45,111,107],[]⟩]
 | 2=>[⟨1,[97,116,116,97,99,104],[116,98]⟩,⟨2,[97,116,116,97,99,104,101,100],[116]⟩,⟨3,[100,101,116,97,99,104],[116]⟩,⟨4,[100,101,116,97,99,104,101,100],[116,110]⟩,⟨7,[112,111,105,110,116],[100]⟩,⟨10,[99,111,109,112,108,101,116,101,100],[114]⟩,⟨11,[107,110,111,119,110],[114]⟩,⟨12,[102,108,117,115,104],[]⟩]
 | 3=>[⟨1,[115,121,110,99],[]⟩,⟨2,[114,101,115,117,108,116],[100,118]⟩,⟨3,[101,120,99,101,112,116,105,111,110],[119,100,116]⟩]
 | 4=>[⟨1,[116,114,97,110,115,102,101,114],[115,110]⟩,⟨2,[97,99,99,101,112,116],[114]⟩,⟨3,[114,101,106,101,99,116],[114,119,115]⟩,⟨4,[114,101,108,101,97,115,101],[114,98]⟩,⟨7,[115,117,98,115,99,114,105,98,101],[115,115]⟩,⟨8,[99,97,110,99,101,108],[115]⟩,⟨10,[102,108,111,119],[115,100]⟩,⟨12,[115,116,111,112],[115]⟩]
 | 5=>[⟨1,[115,101,108,101,99,116],[]⟩,⟨2,[99,111,109,109,105,116],[]⟩,⟨3,[114,111,108,108,98,97,99,107],[]⟩]
 | 6=>[⟨1,[115,101,108,101,99,116],[]⟩,⟨2,[115,116,97,114,116],[120,98,98]⟩,⟨3,[101,110,100],[120,98,98]⟩,⟨4,[99,111,109,109,105,116],[120,98]⟩,⟨5,[102,111,114,103,101,116],[120]⟩,⟨6,[103,101,116,45,116,105,109,101,111,117,116],[120]⟩,⟨7,[112,114,101,112,97,114,101],[120]⟩,⟨8,[114,101,99,111,118,101,114],[]⟩,⟨9,[114,111,108,108,98,97,99,107],[120]⟩,⟨10,[115,101,116,45,116,105,109,101,111,117,116],[120,100]⟩]
 | 8=>[⟨1,[100,101,99,108,97,114,101],[115,98,100]⟩,⟨2,[100,101,108,101,116,101],[115,98]⟩,⟨3,[112,117,114,103,101],[115]⟩,⟨4,[113,117,101,114,121],[115]⟩]
 | _=>[]
def refTab:List RRow:=[⟨1,1,[99,111,110,110,101,99,116,105,111,110,46,115,116,97,114,116],[116]⟩,⟨1,2,[99,111,110,110,101,99,116,105,111,110,46,115,116,97,114,116,45,111,107],[116]⟩,⟨1,5,[99,111,110,110,101,99,116,105,111,110,46,116,117,110,101],[119,119]⟩,⟨1,6,[99,111,110,110,101,99,116,105,111,110,46,116,117,110,101,45,111,107],[119,119]⟩,⟨1,7,[99,111,110,110,101,99,116,105,111,110,46,111,112,101,110],[115]⟩,⟨1,8,[99,111,110,110,101,99,116,105,111,110,46,111,112,101,110,45,111,107],[]⟩,⟨1,11,[99,111,110,110,101,99,116,105,111,110,46,99,108,111,115,101],[119,115]⟩,⟨1,12,[99,111,110,110,101,99,116,105,111,110,46,99,108,111,115,101,45,111,107],[]⟩,⟨2,1,[115,101,115,115,105,111,110,46,97,116,116,97,99,104],[116,98]⟩,⟨2,2,[115,101,115,115,105,111,110,46,97,116,116,97,99,104,101,100],[116]⟩,⟨2,3,[115,101,115,115,105,111,110,46,100,101,116,97,99,104],[116]⟩,⟨2,4,[115,101,115,115,105,111,110,46,100,101,116,97,99,104,101,100],[116,110]⟩,⟨2,7,[115,101,115,115,105,111,110,46,112,111,105,110,116],[100]⟩,⟨2,10,[115,101,115,115,105,111,110,46,99,111,109,112,108,101,116,101,100],[114]⟩,⟨2,11,[115,101,115,115,105,111,110,46,107,110,111,119,110],[114]⟩,⟨2,12,[115,101,115,115,105,111,110,46,102,108,117,115,104],[]⟩,⟨3,1,[101,120,101,99,117,116,105,111,110,46,115,121,110,99],[]⟩,⟨3,2,[101,120,101,99,117,116,105,111,110,46,114,101,115,117,108,116],[100,118]⟩,⟨3,3,[101,120,101,99,117,116,105,111,110,46,101,120,99,101,112,116,105,111,110],[119,100,116]⟩,⟨4,1,[109,101,115,115,97,103,101,46,116,114,97,110,115,102,101,114],[115,110]⟩,⟨4,2,[109,101,115,115,97,103,101,46,97,99,99,101,112,116],[114]⟩,⟨4,3,[109,101,115,115,97,103,101,46,114,101,106,101,99,116],[114,119,115]⟩,⟨4,4,[109,101,115,115,97,103,101,46,114,101,108,101,97,115,101],[114,98]⟩,⟨4,7,[109,101,115,115,97,103,101,46,115,117,98,115,99,114,105,98,101],[115,115]⟩,⟨4,8,[109,101,115,115,97,103,101,46,99,97,110,99,101,108],[115]⟩,⟨4,10,[109,101,115,115,97,103,101,46,102,108,111,119],[115,100]⟩,⟨4,12,[109,101,115,115,97,103,101,46,115,116,111,112],[115]⟩,⟨5,1,[116,120,46,115,101,108,101,99,116],[]⟩,⟨5,2,[116,120,46,99,111,109,109,105,116],[]⟩,⟨5,3,[116,120,46,114,111,108,108,98,97,99,107],[]⟩,⟨6,1,[100,116,120,46,115,101,108,101,99,116],[]⟩,⟨6,2,[100,116,120,46,115,116,97,114,116],[120,98,98]⟩,⟨6,3,[100,116,120,46,101,110,100],[120,98,98]⟩,⟨6,4,[100,116,120,46,99,111,109,109,105,116],[120,98]⟩,⟨6,5,[100,116,120,46,102,111,114,103,101,116],[120]⟩,⟨6,6,[100,116,120,46,103,101,116,45,116,105,109,101,111,117,116],[120]⟩,⟨6,7,[100,116,120,46,112,114,101,112,97,114,101],[120]⟩,⟨6,8,[100,116,120,46,114,101,99,111,118,101,114],[]⟩,⟨6,9,[100,116,120,46,114,111,108,108,98,97,99,107],[120]⟩,⟨6,10,[100,116,120,46,115,101,116,45,116,105,109,101,111,117,116],[120,100]⟩,⟨8,1,[113,117,101,117,101,46,100,101,99,108,97,114,101],[115,98,100]⟩,⟨8,2,[113,117,101,117,101,46,100,101,108,101,116,101],[115,98]⟩,⟨8,3,[113,117,101,117,101,46,112,117,114,103,101],[115]⟩,⟨8,4,[113,117,101,117,101,46,113,117,101,114,121],[115]⟩]
def yp(c k:Nat):Option MRow:=(qX c).find? fun r=>decide (r.code=k)
def YQ(c k:Nat):Option (List UInt8):=(yp c k).map fun r=>xi c++ [46]++r.word
def kG(c k:Nat):Option RRow:=refTab.find? fun r=>decide (r.cls=c∧r.code=k)
theorem Q7{c:Nat}(h:qX c≠ []):c=1∨c=2∨c=3∨c=4∨c=5∨c=6∨c=8:=by
 unfold qX at h;split at h<;>simp_all
theorem KT(c:Nat):refTab.filter (fun r=>decide (r.cls=c))=(qX c).map fun r=>⟨c,r.code,xi c++ [46]++r.word,r.kinds⟩:=by
 by_cases h:c=1∨c=2∨c=3∨c=4∨c=5∨c=6∨c=8
 ·rcases h with rfl|rfl|rfl|rfl|rfl|rfl|rfl<;>decide
 have h1:qX c=[]:=by
  cases hc:qX c with
  | nil=>rfl
  | cons _ _=>exact absurd (Q7 (by rw[hc];simp)) h
 rw[h1];simp only[List.map_nil,List.filter_eq_nil_iff,decide_eq_true_eq];have BM:∀r∈refTab,r.cls=1∨r.cls=2∨r.cls=3∨r.cls=4∨r.cls=5∨r.cls=6∨r.cls=8:=by decide
 intro r hr e;have:=BM r hr;rw[e]at this;exact h this
theorem YR(c k:Nat):kG c k=(yp c k).map fun r=>⟨c,r.code,xi c++ [46]++r.word,r.kinds⟩:=by
 have e:kG c k=(refTab.filter fun r=>decide (r.cls=c)).find? fun r=>decide (r.code=k):=by
  unfold kG;rw[List.find?_filter];congr 1;funext r;simp
 rw[e,KT,List.find?_map];rfl
theorem KU:∀r∈refTab,r.kinds.length≤3∧r.name.length≤30∧r.cls<256∧r.code<256:=by decide
theorem Yc{c k:Nat}{r:MRow}(h:yp c k=some r):r.kinds.length≤3∧(xi c++ [46]++r.word).length≤30∧c<256∧r.code<256:=by
 have hr:=YR c k;rw[h]at hr;exact KU _ (List.mem_of_find?_eq_some hr)
end Go.PH
end
section
namespace Go.PH
def xF(d:UInt8):List UInt8→List (List UInt8)
 | []=>[[]]
 | c::r=>if c=d then []::xF d r else
  match xF d r with
  | h::t=>(c::h)::t
  | []=>[[c]]
theorem Xl{d:UInt8}:∀{a:List UInt8},d∉a→xF d a=[a]
 | [],_=>rfl
 | c::a,h=>by
  have hc:c≠d:=fun e=>h (by simp[e])
  have ih:=Xl (a:=a) (fun e=>h (GZ _ e));rw[xF,if_neg hc,ih]
theorem Yb{d:UInt8}:∀{a:List UInt8} (r:List UInt8),d∉a→xF d (a++d::r)=a::xF d r
 | [],r,_=>by simp[xF]
 | c::a,r,h=>by
  have hc:c≠d:=fun e=>h (by simp[e])
  have ih:=Yb (a:=a) r (fun e=>h (GZ _ e));rw[Vx,xF,if_neg hc,ih]
theorem va:∀{a:List UInt8} {c:UInt8} (r:List UInt8),c∉a→GX (a++c::r) c=(a.length:Int)
 | [],c,r,_=>by simp[GX]
 | b::a,c,r,h=>by
  have hb:(b==c)=false:=by simp;exact fun e=>h (by simp[e])
  have ih:=va (a:=a) (c:=c) r (fun e=>h (by simp[e]));rw[Vx,GX,hb,ih];have:((a.length:Int)== -1)=false:=by rw[beq_eq_false_iff_ne];omega
  simp[this]
def sepS(d:UInt8):ByteArray:=⟨#[d]⟩
theorem vA{d:UInt8}:∀(k:Nat) (l:List UInt8),l.count d=k→(Lib.splitB (sepS d) 0 k (str l)).map (fun b=>b.data.toList)=xF d l
 | 0,l,h=>by
  rw[Lib.splitB_zero,Xl (Gx.1 h)];rfl
 | k+1,l,h=>by
  have hm:d∈l:=List.count_pos_iff.1 Wq;obtain⟨a,r,rfl,ha⟩:=List.eq_append_cons_of_mem hm
  have hc:r.count d=k:=by
   rw[List.count_append,List.count_cons_self,Gx.2 ha]at h;omega
  have hi:Lib.indexB (str (a++d::r)) (sepS d)=(a.length:Int):=by
   (show Lib.index (a++d::r) [d]=_);rw[Lib.index_one,va r ha]
  rw[Lib.splitB_hit (sepS d) 0 k _ a.length hi,xB,Yb r ha]
  have e1:(str (a++d::r)).extract (a.length+(sepS d).size) (str (a++d::r)).size=str r:=by
   rw[zh,qB];congr 1;rw[Vy (Q2 _)];(show(a++d::r).drop (a.length+1)=r);rw[←z9,List.drop_left];rfl
  have e2:((str (a++d::r)).extract 0 (a.length+0)).data.toList=a:=by
   rw[qB,kx,List.take_left,z5];rfl
  rw[e1,e2,vA k r hc]
theorem vB{d:UInt8}(l:List UInt8):Lib.countB (str l) (sepS d)=l.count d:=by
 show Lib.count l [d]=_
 exact Lib.count_one d l
theorem YO{d:UInt8}(l:List UInt8):(xF d l).length=l.count d+1:=by
 rw[←vA _ l rfl,List.length_map];exact Lib.splitB_all (sepS d) (by show 1≤1;omega) 0 _ _ (vB l)
theorem Xm{d:UInt8}(l:List UInt8):(Lib.splitB (sepS d) 0 (Lib.countB (str l) (sepS d)) (str l)).map Value.string=(xF d l).map (fun p=>Value.string (str p)):=by
 rw[vB,←vA _ l rfl,Gv];rfl
def jD(l:List UInt8):Nat:=l.foldl (fun n c=>(10*n+c.toNat+208) % 256) 0
def Zx(p:List UInt8):Option MRow:=match xF 32 p with
 | [a,b,c]=>some ⟨jD a,b,c⟩
 | _=>none
def qN(k:Nat):List (List UInt8)→Option MRow
 | []=>none
 | p::l=>match Zx p with
  | some r=>if r.code=k then some r else qN k l
  | none=>qN k l
theorem Xn(k:Nat)(a b:List (List UInt8)):qN k (a++b)=match qN k a with
 | some r=>some r
 | none=>qN k b:=by
 induction a with
 | nil=>rfl
 | cons p a ih=>
  simp only[Vx,qN]
  cases Zx p with
  | none=>exact ih
  | some r=>
   simp only;by_cases h:r.code=k
   ·rw[if_pos h,if_pos h]
   rw[if_neg h,if_neg h];exact ih
theorem Xo(k:Nat):∀l:List (List UInt8),qN k l=(l.filterMap Zx).find? fun r=>decide (r.code=k)
 | []=>rfl
 | p::l=>by
  have ih:=Xo k l;rw[qN,List.filterMap_cons]
  cases Zx p with
  | none=>exact ih
  | some r=>
   by_cases h:r.code=k
   ·simp[h]
   simp only[h,if_false,List.find?_cons,decide_false];exact ih
theorem JN(c:Nat):(xF 59 (xQ c)).filterMap Zx=qX c:=by
 by_cases h:c=1∨c=2∨c=3∨c=4∨c=5∨c=6∨c=8
 ·rcases h with rfl|rfl|rfl|rfl|rfl|rfl|rfl<;>decide+kernel
 have h1:qX c=[]:=by
  cases hc:qX c with
  | nil=>rfl
  | cons _ _=>exact absurd (Q7 (by rw[hc];simp)) h
 have h2:xQ c=[]:=by
  unfold xQ;split;all_goals first|rfl|(exfalso;apply h;simp)
 rw[h1,h2];decide+kernel
theorem KR(c k:Nat):qN k (xF 59 (xQ c))=yp c k:=by rw[Xo,JN];rfl
theorem zaV(l:List UInt8):jD l<256:=by
 unfold jD;rcases List.eq_nil_or_concat l with rfl|⟨m,x,rfl⟩
 ·decide
 rw[List.concat_eq_append,List.foldl_append];exact Nat.mod_lt _ WJ
theorem JO(l:List UInt8)(c:UInt8):jD (l++ [c])=(10*jD l+c.toNat+208) % 256:=by simp[jD]
theorem jE(c:Nat):(xQ c).length≤200∧(xi c).length≤20:=by
 unfold xQ xi;constructor<;>split<;>decide+kernel
theorem YP(d:UInt8):∀(l:List UInt8),∀p∈xF d l,p.length≤l.length
 | [],p,hp=>by simp[xF]at hp;subst hp;simp
 | c::r,p,hp=>by
  have ih:=YP d r;rw[xF]at hp;split at hp
  ·rcases z0.1 hp with rfl|hp
   ·simp
   have:=ih p hp;simp;omega
  cases hd:xF d r with
  | nil=>rw[hd]at hp;simp at hp;subst hp;simp
  | cons h t=>
   rw[hd]at hp ih;rcases z0.1 hp with rfl|hp
   ·have:=ih h (List.mem_cons_self ..);simp;omega
   have:=ih p (GZ _ hp);simp;omega
end Go.PH
end
