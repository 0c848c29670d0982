/- Parts. -/
import Derived.Test.YtfbkameikhgciaaGreatDoorCards
import Derived.Test.YtfbkameikhgciaaGreatDoorTie
import Derived.Test.YtfbkameikhgciaaGreatDoorMg04
set_option linter.all false
set_option maxRecDepth 20000
set_option maxHeartbeats 8000000
open Go.Lib renaming hid → Q2, indexByte → k9, countB → vv
open List renaming getElem_toArray → KS, getElem_cons_zero → K2, setIfInBounds_toArray → VB, set_cons_zero → Vy, set_cons_succ → Vx, getElem_mem → kv, take_of_length_le → ky, mem_cons_of_mem → kx, cons_append → k8, take_succ_eq_append_getElem → vz, count_eq_zero → v0, find?_cons → v1, mem_cons → v2, take_length → v3, take_append_drop → v4, count_le_length → v5, find?_append → v9
open Go.RowKit renaming intOf → KL
open Go.World renaming block_lt_of_cell? → kI
namespace Go.PH
open Go.RowKit Go.Proofs Go.Proofs.Tryz
variable {j k : Nat} {w : World}
theorem Xa(F:Nat→Prop)(pb n:Nat)(g:GS)(f:Fr)(w:World)(h:Ga w F pb n g)(hi:g.Inv)(hf:f.wf)(hl:f.load.length≤140737488351232)(hn:n<1000000000):
  Calls prog 55 #[.pointer (some ⟨pb,0,none⟩),.agg (frV f)] w (Ks w F pb n g f):=by
 obtain⟨⟨mb,D,hd,xf,hb,hF,hne,hm⟩,hlt⟩:=h;have tZ:=g.err_cases f;obtain⟨fb,w0,ue,px,ie,Hy⟩:=zq w (frV f) 97;obtain⟨rb,w1,eC,Gl,bP,iv⟩:=zq w0 asZ 42;have Ha:=Hy.trans (iv.mono Hy.size);have IF:rb=w.heap.size+1:=by rw[eC,px];simp
 have eD:=ie.below iv;have bK:=hb.below Ha;have In:w.heap.size≤fb:=by omega
 have lp:w.heap.size≤rb:=by rw[eC];exact Hy.size
 have nt:fb≠rb:=by omega
 clear eC;have Fy:=hb.lt;have mW:=fun W=>run_eql_map_nil (P:=prog) W _ _ _ (some mb) underlying86
 have b7:=fun W=>Zm f W hf hl
 have HF:=Q2 hf;have HE:=Q2 tZ;clear ie tZ hf;unfold asZ frV at*;go_enter func55,ntmps55;go_upto_region 1 with fail;rw[←IF,←ue,←px,←Gl];clear IF ue px Gl Hy iv;clear w0;have c0:=bK.c0;have c1:=bK.c1;have f0:=(eD).c0;have f1:=(eD).c1;have f2:=(eD).c2;have f3:=(eD).c3;have f4:=(eD).c4;have f5:=(eD).c5;have f6:=(eD).c6;have f7:=(eD).c7;have HM:=Q2 hm;clear hm;rcases HE.out with⟨he,mf⟩|⟨mf,dj⟩
 ·have Pc:=Q2 he;rw[mf]at c1 bK;clear he mf HM HE;go_wp2_with(with_reducible refine h_B ?_);refine zc (zn (v:=.agg #[.int .u16 0,.int .u8 0,.slice none 0 0]) (vs:=[.int .u16 0,.int .u8 0,.slice none 0 0]) rfl rfl rfl rfl (bP) rfl Wj Wz WZ #[.int .u16 0,.int .u8 0,.slice none 0 0] Wz ?_);intro wz cH Hm ep;go_wp2_with(with_reducible refine h_B ?_);have bX:=bK.grown Hm (sne Wq);exact zv rfl cH rfl rfl rfl underlying42 rfl Wj rfl (vY hlt bX hF hne (KeepF.below (Ha.grown Hm Ha.size Wx)) (k:=9) Pc.out Wq)
 rw[mf]at c1 bK;obtain⟨pu,hm⟩:=HM.out mf;clear HM HE;rcases dj with⟨he,bJ⟩|⟨bJ,dj⟩
 ·exact Z1i_
 have r9:f.err=0:=by simp[Fr.err,bJ]
 rw[r9]at b7;have G0:=Q2 mf;clear bJ r9 mf;obtain⟨mh,lm,gD⟩:=HF.out;obtain⟨H,x,is,iL,Td,T7,Uu,Si,hxt,Gr⟩:=hm.look gD (show f.track<65536 by omega);have gE:=fun W=>zaz H (zI (g.op f.chan f.track)) x (kA (g.op f.chan f.track)) is f W HF.out hxt
 rw[Gr f]at gE;obtain⟨SZ,Fe⟩:∃s,s=zI (g.op f.chan f.track):=⟨_,rfl⟩
 obtain⟨GO,R1⟩:∃s,s=kA (g.op f.chan f.track):=⟨_,rfl⟩
 obtain⟨FT,FY⟩:∃s,s=fitsB (g.op f.chan f.track) f:=⟨_,rfl⟩
 have Sd:=(hi.goes f.chan f.track).len;rw[←Fe]at iL gE dj Sd;rw[←R1]at iL gE;rw[←FY]at gE dj;have HMo:=Q2 (hi.goes f.chan f.track).most;have TF:=Q2 (hi.goes f.chan f.track);have HS:=Q2 Fe;have HG:=Q2 R1;have Dx:=Q2 FY;have RG:=Q2 Uu;have Dc:=Q2 Td;have u6:=Q2 T7;have HR:=Q2 dj;clear Fe R1 FY Uu Td T7 dj Gr hi;unfold gkV jM Hd.v at iL;unfold jM Hd.v frV at gE;go_wp2_with(with_reducible refine h_B ?_);refine(b7 _).mono ?_;rintro e w2 ⟨rfl,H3⟩;have bF:=bK.below H3;have cH:=bP.below H3;have fN:=eD.below H3;have Hc:=Ha.trans (H3.mono Ha.size);clear b7 bK bP eD c0 c1 f0 f1 f2 f3 f4 f5 f6 f7;have f0:=(fN).c0;have f1:=(fN).c1;have f2:=(fN).c2;have f3:=(fN).c3;have f4:=(fN).c4;have f5:=(fN).c5;have f6:=(fN).c6;have f7:=(fN).c7;obtain⟨kb,w3,Sn,lA,tz,BD⟩:=zq w2 #[.int .i64 0,.int .i64 0] 156;have OQ:fb≠kb:=by have:=fN.lt;omega
 have NU:rb≠kb:=by have:=cH.lt;omega
 have Ns:pb≠kb:=by have:=bF.lt;omega
 have G9:w.heap.size≤kb:=by rw[Sn];exact Hc.size
 go_wp2_with(with_reducible refine h_B ?_);rw[←Sn,←lA];clear Sn lA;refine zc (zn (v:=.agg #[.int .i64 (f.chan:Int),.int .i64 (f.track:Int)]) (vs:=[.int .i64 (f.chan:Int),.int .i64 (f.track:Int)]) rfl rfl rfl rfl tz rfl Wj Wz WZ #[.int .i64 (f.chan:Int),.int .i64 (f.track:Int)] Wz ?_);intro w4 r7 Ba eR;have dJ:=(bF.below BD).grown Ba (sne Wq);have cQ:=(cH.below BD).grown Ba (sne Wq);have rN:=(fN.below BD).grown Ba (sne Wq);have Hn:Below w.heap.size w w4:=(Hc.trans (BD.mono Hc.size)).grown Ba (Nat.le_trans Hc.size BD.size) Wx;clear bF cH fN tz Ba eR BD H3 Ha Hc f0 f1 f2 f3 f4 f5 f6 f7;clear w3 w2 w1;go_upto_region 9 with fail;refine zt (fun W:World=>Below w4.heap.size w4 W) Wj ?_;have hS:Below w4.heap.size w4 w4.drew:=za (Below.refl _ _) 1;generalize w4.drew=wd at*;refine rg_t 0 hS ?_;simp only[KS,K2,Act.put,VB,Vy,Vx];refine rg_t 1 hS ?_;simp only[g_S];refine rg_t 2 hS ?_;simp only[g_S];refine ze 3 (v:=?_) rfl Wj Wj Wj hS rfl ?_ ?_;rotate_left
 ·intro wS He;have k0:=(dJ.below He).cell (j:=0) rfl;go_simp;(with_reducible rfl)
 simp only[g_S];refine ze 4 (v:=?_) rfl Wj Wj Wj hS rfl ?_ ?_;rotate_left
 ·intro wS He;have k0:=(r7.below He).cell (j:=0) rfl;have k1:=(r7.below He).cell (j:=1) rfl;go_simp;(with_reducible rfl)
 simp only[g_S];have LT:=fun(wS:World) (He:Below w4.heap.size w4 wS)=>iL wS (Hn.trans (He.mono Hn.size))
 clear iL;refine ze 5 (v:=?_) rfl Wj Wj Wj hS rfl ?_ ?_;rotate_left
 ·intro wS He;have k0:=LT _ He;go_simp;(with_reducible rfl)
 simp only[g_S];refine rg_t 6 hS ?_;simp only[g_S];refine rg_t 7 hS ?_;simp only[g_S];refine rg_t 8 hS ?_;simp only[g_S];refine zj 9 rfl Wj rfl (fun K hK=>?_);obtain⟨qb,w5,ej,Nm,dL,bw⟩:=zq wd (jM ⟨none,0,0⟩ 0 fr00 false) 158;unfold jM Hd.v fr00 at Nm dL;simp only at Nm dL;rw[show str []=(⟨#[]⟩:ByteArray)from rfl,show(((0:Nat):Int))=0 from rfl]at Nm dL;go_simp;rw[←ej,←Nm];have He:=hS.trans (bw.mono hS.size);have TS:w4.heap.size≤qb:=by rw[ej];exact hS.size
 clear ej Nm;refine hK _ _ He ?_;clear hK K hS bw;try simp only[g_S]
 refine zj 10 rfl Wj rfl (fun K hK=>?_);refine zK (g:=qb) (j:=0) (v:=.agg #[.slice H.A H.n H.c,.int .i64 (SZ:Int),.bool x.first,.bool x.last,.bool x.beg,.bool x.fin,.int .u8 (x.ty:Int),.int .u8 (x.track:Int),.int .u16 (x.chan:Int),.string (str x.load),.bool GO]) (vs:=[.slice H.A H.n H.c,.int .i64 (SZ:Int),.bool x.first,.bool x.last,.bool x.beg,.bool x.fin,.int .u8 (x.ty:Int),.int .u8 (x.track:Int),.int .u16 (x.chan:Int),.string (str x.load),.bool GO]) rfl rfl rfl dL rfl Wj Wz WZ #[.slice H.A H.n H.c,.int .i64 (SZ:Int),.bool x.first,.bool x.last,.bool x.beg,.bool x.fin,.int .u8 (x.ty:Int),.int .u8 (x.track:Int),.int .u16 (x.chan:Int),.string (str x.load),.bool GO] Wz ?_;intro w6 wg bz fc;have bY:Below w4.heap.size w4 w6:=He.grown bz He.size Wx;clear He bz fc dL LT;refine hK _ _ bY ?_;clear hK K;try simp only[g_S]
 refine rg_t 11 bY ?_;simp only[g_S];refine zz Wj ?_;have bG:=Hn.trans (bY.mono Hn.size)
 have et:FdS w w6 H.A fb rb kb qb pb mb false f #[.slice H.A H.n H.c,.int .i64 (SZ:Int),.bool x.first,.bool x.last,.bool x.beg,.bool x.fin,.int .u8 (x.ty:Int),.int .u8 (x.track:Int),.int .u16 (x.chan:Int),.string (str x.load),.bool GO] H.A H.n H.c (zY (g.op f.chan f.track)):=by
  have z1:=rN.lt;have z2:=cQ.lt;have z3:=r7.lt;refine⟨rN.below bY,cQ.below bY,r7.below bY,wg,dJ.below bY,zh Si bG,KeepF.below bG,⟨In,lp,G9,by omega,Fy⟩,⟨nt,OQ,by omega,NU,by omega,by omega⟩,?_,fun k hk=>(Own.blk_lt Si hk).2,fun k hk=>.inl hk⟩;intro e;by_cases e0:g.op f.chan f.track=[]
  ·rw[(Dc.out e0).1]at e;cases e
  rw[(u6.out e0).1]at e;exact pu _ _ gD Wq e0 e
 have t7:w6.ownsMap prog 156 rawV mb n D:=yj hm.owns (bG.block mb hm.owns.lt);have tN:GaMap w6 F mb n D hd xf g.op:=hm.keep (fun k hk=>bG.block k (hm.lt k hk)) bG.size;have AG:=hm.inF;clear rN cQ r7 dJ wg bY Hn Si;have q0:=et.bq.c0;have q1:=et.bq.c1;have q2:=et.bq.c2;have q3:=et.bq.c3;have q4:=et.bq.c4;have q5:=et.bq.c5;have q6:=et.bq.c6;have q7:=et.bq.c7;have q8:=et.bq.c8;have q9:=et.bq.c9;have Dk:=et.bq.c10;have fx:=et.bf;unfold frV at fx;have f0:=(fx).c0;have f1:=(fx).c1;have f2:=(fx).c2;have f3:=(fx).c3;have f4:=(fx).c4;have f5:=(fx).c5;have f6:=(fx).c6;have f7:=(fx).c7;clear fx;have bI:=fun W (k:Nat) (hb:Box W pb 88 #[.map (some mb),.bool false]) (pf:W.ownsMap prog 156 rawV mb n D)=>QM pb mb n k false D W hb pf hne
 have b7:=fun W=>gE W
 clear gE
 cases FT with
 | false=>
  have qq82:=()
  exact Z1i_
 | true=>
  go_wp2_with(with_reducible refine h_B ?_);refine(b7 _).mono ?_;rintro e w7 ⟨rfl,dU⟩;have Bn:=bG.trans (dU.mono bG.size);replace et:=et.below dU;replace t7:=yj t7 (dU.block mb t7.lt);replace tN:GaMap w7 F mb n D hd xf g.op:=tN.keep (fun k hk=>dU.block k (tN.lt k hk)) dU.size;clear q0 q1 q2 q3 q4 q5 q6 q7 q8 q9 Dk f0 f1 f2 f3 f4 f5 f6 f7;have q0:=et.bq.c0;have q1:=et.bq.c1;have q2:=et.bq.c2;have q3:=et.bq.c3;have q4:=et.bq.c4;have q5:=et.bq.c5;have q6:=et.bq.c6;have q7:=et.bq.c7;have q8:=et.bq.c8;have q9:=et.bq.c9;have Dk:=et.bq.c10;have fx:=et.bf;unfold frV at fx;have f0:=(fx).c0;have f1:=(fx).c1;have f2:=(fx).c2;have f3:=(fx).c3;have f4:=(fx).c4;have f5:=(fx).c5;have f6:=(fx).c6;have f7:=(fx).c7;clear fx;clear b7 dU bG TS;clear w6 wd w4;have dD:=zi f.load;by_cases c3:16384<SZ+f.load.length
  ·have qq83:=();exact Z1i_
  have hd:decide ((16384:Int)-(SZ:Int)<(f.load.length:Int))=false:=by simp;omega
  have Lf:Hid (g.err f=0):=Q2 (by rcases HR.out with h|h;cases h.2;rcases h.2 with h|h;omega;exact h.1);have BC:SZ+f.load.length≤16384:=by omega
  clear bI c3;have Wt:H.n≤4:=by rw[RG.out];exact HMo.out
  obtain⟨bg,eG⟩:∃b,b=f.beg:=⟨_,rfl⟩
  rw[←eG]at f2;have HB:=Q2 eG;clear eG;go_upto_if 75 with fail
  go_cut []from 11 (fun wx=>∃(A1:Option Addr) (c1:Nat) (L0:List Sg) (s0:Sg) (y:Fr),FdS w wx H.A fb rb kb qb pb mb false f #[.slice A1 (L0.length+1) c1,.int .i64 (SZ:Int),.bool y.first,.bool y.last,.bool y.beg,.bool y.fin,.int .u8 (y.ty:Int),.int .u8 (y.track:Int),.int .u16 (y.chan:Int),.string (str y.load),.bool GO] A1 (L0.length+1) c1 (L0++ [s0])∧
   L0.length≤4∧Hid (zY (g.op f.chan f.track++ [f])=L0++ [⟨s0.ty,s0.load++f.load⟩])∧Hid (PartOk (g.op f.chan f.track++ [f]) y))
  case first=>
   cases bg with
   | true=>
    go_wp2_with(with_reducible refine h_B ?_);refine zc (jS yW slG underlying40 rfl rfl rfl rfl rfl (⟨f.ty,[]⟩:Sg) rfl et.row Wq Wq (Nat.zero_le _) ?_);intro A2 c2 w8 dP H5 Cj _;have dy:=et.turn H5 dP Cj;clear q0 q1 q2 q3 q4 q5 q6 q7 q8 q9 Dk f0 f1 f2 f3 f4 f5 f6 f7 dP H5 Cj et;have eB:=dy.bf;unfold frV at eB;rw[←HB.out]at eB;have Tn:=dy.bq;go_wp2_with(with_reducible refine h_B ?_);refine zc (zn (v:=.slice A2 (H.n+1) c2) (vs:=[.slice A2 (H.n+1) c2]) rfl rfl rfl rfl Tn rfl Wj Wz WZ #[.slice A2 (H.n+1) c2,.int .i64 (SZ:Int),.bool x.first,.bool x.last,.bool x.beg,.bool x.fin,.int .u8 (x.ty:Int),.int .u8 (x.track:Int),.int .u16 (x.chan:Int),.string (str x.load),.bool GO] Wz ?_);intro w9 oM du _;replace dy:=dy.store du oM;replace eB:=dy.bf;unfold frV at eB;rw[←HB.out]at eB;have f0:=(eB).c0;have f1:=(eB).c1;have f2:=(eB).c2;have f3:=(eB).c3;have f4:=(eB).c4;have f5:=(eB).c5;have f6:=(eB).c6;have f7:=(eB).c7;clear Tn;go_wp2_with(with_reducible refine h_B ?_);refine zc (zn (v:=.agg #[.bool f.first,.bool f.last,.bool true,.bool f.fin,.int .u8 (f.ty:Int),.int .u8 (f.track:Int),.int .u16 (f.chan:Int),.string (str f.load)]) (vs:=[.bool f.first,.bool f.last,.bool true,.bool f.fin,.int .u8 (f.ty:Int),.int .u8 (f.track:Int),.int .u16 (f.chan:Int),.string (str f.load)]) rfl rfl rfl rfl oM rfl Wj Wz WZ #[.slice A2 (H.n+1) c2,.int .i64 (SZ:Int),.bool f.first,.bool f.last,.bool true,.bool f.fin,.int .u8 (f.ty:Int),.int .u8 (f.track:Int),.int .u16 (f.chan:Int),.string (str f.load),.bool GO] Wz ?_);intro wa dV cU _;have iG:=dy.store cU dV;clear f0 f1 f2 f3 f4 f5 f6 f7 dy oM du dV cU eB;go_wp2_with(with_reducible refine h_B ?_);go_meet;obtain⟨L0,s0,e1,e2⟩:=QL TF.out Dx.out.symm;rw[if_pos HB.out.symm]at e1;have e3:=congrArg List.length e1;simp only[List.length_append,List.length_singleton]at e3;(have e4:H.n=L0.length:=by rw[RG.out];omega);rw[e1,e4]at iG;rw[HB.out]at iG;have hP:=Y0 (x:=x) (fun h=>by rw[(u6.out h).2.1];exact hm.part _ _ gD Wq h) Dx.out.symm HF.out;rw[if_pos HB.out.symm]at hP
    exact⟨A2,c2,L0,s0,f,iG,by omega,Q2 e2,Q2 hP⟩
   | false=>
    go_wp2_with(with_reducible refine h_B ?_);go_meet;obtain⟨L0,s0,e1,e2⟩:=QL TF.out Dx.out.symm;rw[if_neg (by rw[←HB.out];simp)]at e1;(have e4:H.n=L0.length+1:=by rw[RG.out,e1];simp);rw[e1,e4]at et;have hP:=Y0 (x:=x) (fun h=>by rw[(u6.out h).2.1];exact hm.part _ _ gD Wq h) Dx.out.symm HF.out;rw[if_neg (by rw[←HB.out];simp)]at hP;exact⟨_,_,L0,s0,x,et,by omega,Q2 e2,Q2 hP⟩
  clear et t7 tN q0 q1 q2 q3 q4 q5 q6 q7 q8 q9 Dk f0 f1 f2 f3 f4 f5 f6 f7 Bn HB;obtain⟨A1,c1,L0,s0,y,et,hL4,Ox,Tj⟩:=hcut;clear w7;obtain⟨gb,rfl,_,fL⟩:=QS et.row Wq;have nD:=xF yW et.row.rd (k:=L0.length) Wq;obtain⟨gb',off,cf,_,bI,bC⟩:=nD;obtain⟨rfl,rfl⟩:gb=gb'∧0=off:=by simpa using cf
  have D1:(L0++ [s0])[L0.length]=s0:=by simp
  rw[D1]at bC;have ca:=bC 1 _ rfl;simp only[Nat.zero_add]at ca;clear bC cf D1 bI;have EG:IntKind.i64.wrap (L0.length:Int)=(L0.length:Int):=IntWalk.i64_in _ ⟨by omega,by omega⟩;have g1:(L0.length:Int)<(L0.length:Int)+1:=by omega
  have mF:s0.load.length+f.load.length≤16384:=by
   have h1:=(vt (g.op f.chan f.track++ [f]));rw[Ox.out,jO,vL,←HS.out]at h1;simp[yK]at h1;omega
  go_upto_region 17 with fail;have eB:=et.bf;unfold frV at eB;refine zt (fun W:World=>Box W fb 97 #[.bool f.first,.bool f.last,.bool f.beg,.bool f.fin,.int .u8 (f.ty:Int),.int .u8 (f.track:Int),.int .u16 (f.chan:Int),.string (str f.load)]∧Box W qb 158 #[.slice (some ⟨gb,0,none⟩) (L0.length+1) c1,.int .i64 (SZ:Int),.bool y.first,.bool y.last,.bool y.beg,.bool y.fin,.int .u8 (y.ty:Int),.int .u8 (y.track:Int),.int .u16 (y.chan:Int),.string (str y.load),.bool GO]) Wj ?_;have hS:Box wc.drew fb 97 #[.bool f.first,.bool f.last,.bool f.beg,.bool f.fin,.int .u8 (f.ty:Int),.int .u8 (f.track:Int),.int .u16 (f.chan:Int),.string (str f.load)]∧Box wc.drew qb 158 #[.slice (some ⟨gb,0,none⟩) (L0.length+1) c1,.int .i64 (SZ:Int),.bool y.first,.bool y.last,.bool y.beg,.bool y.fin,.int .u8 (y.ty:Int),.int .u8 (y.track:Int),.int .u16 (y.chan:Int),.string (str y.load),.bool GO]:=⟨eB,et.bq⟩;have D8:=et.drew;have dK:wc.drew.cell? ⟨gb,L0.length*2+1,none⟩=some (.string (str s0.load)):=ca;clear ca;generalize wc.drew=wd at*;refine rg_t 0 hS ?_;simp only[KS,K2,Act.put,VB,Vy,Vx];refine ze 1 (v:=?_) rfl Wj Wj Wj hS rfl ?_ ?_;rotate_left
  ·intro wS He;have k0:=He.2.cell (j:=0) rfl;go_simp;(with_reducible rfl)
  simp only[g_S];refine rg_t 2 hS ?_;simp only[g_S];refine ze 3 (v:=?_) rfl Wj Wj Wj hS rfl ?_ ?_;rotate_left
  ·intro wS He;have k0:=He.2.cell (j:=0) rfl;go_simp;(with_reducible rfl)
  simp only[g_S];refine rg_t 4 hS ?_;simp only[g_S];refine rg_t 5 hS ?_;simp only[g_S];refine rg_t 6 hS ?_;simp only[g_S];refine rg_t 7 hS ?_;simp only[g_S];refine rg_t 9 hS ?_;simp only[g_S];refine ze 10 (v:=?_) rfl Wj Wj Wj hS rfl ?_ ?_;rotate_left
  ·intro wS He;have k0:=He.1.cell (j:=7) rfl;go_simp;(with_reducible rfl)
  simp only[g_S];refine zj 8 rfl Wj rfl (fun K hK=>?_);go_simp;refine hK _ _ hS ?_;clear hK K;try simp only[g_S]
  have o4:(9223372036854775807<s0.load.length+f.load.length)=False:=by simp;omega
  have EN:=zi s0.load;refine rg_t 11 hS ?_;simp only[g_S];simp only[jl];clear o4 EN;refine rg_t 12 hS ?_;simp only[g_S];refine rg_t 13 hS ?_;simp only[g_S];refine zj 14 rfl Wj rfl (fun K hK=>?_);refine Y9 (k:=L0.length) (i:=1) (v:=.string (str (s0.load++f.load))) (vs:=[.string (str (s0.load++f.load))]) yW rfl rfl rfl D8.row Wq Wz (⟨s0.ty,s0.load++f.load⟩:Sg) rfl Wj (by simp[sgC]) Wz Wq ?_;intro w8 dP H5 Dw;have dp:(L0++ [s0]).set L0.length ⟨s0.ty,s0.load++f.load⟩=L0++ [⟨s0.ty,s0.load++f.load⟩]:=by simp
  rw[dp,←Ox.out]at dP;have dy:=D8.turn H5 dP (.inl rfl);have cx:=dy.bf;unfold frV at cx;refine hK _ _ ⟨cx,dy.bq⟩ ?_;clear hK K hS dK D8 dP H5 Dw dp EG g1 mF eB;clear et;try simp only[g_S]
  refine zz Wj ?_;clear wd fL;have oe:=dy.bq;have f0:=(cx).c0;have f1:=(cx).c1;have f2:=(cx).c2;have f3:=(cx).c3;have f4:=(cx).c4;have f5:=(cx).c5;have f6:=(cx).c6;have f7:=(cx).c7;have q1:=oe.c1;obtain⟨bf,fx⟩:∃b,b=f.fin:=⟨_,rfl⟩
  obtain⟨bl,dG⟩:∃b,b=f.last:=⟨_,rfl⟩
  go_wp2_with(with_reducible refine h_B ?_);refine zc (zn (j:=1) (v:=.int .i64 ((SZ:Int)+(f.load.length:Int))) (vs:=[.int .i64 ((SZ:Int)+(f.load.length:Int))]) rfl rfl rfl rfl oe rfl Wj Wz WZ #[.slice (some ⟨gb,0,none⟩) (L0.length+1) c1,.int .i64 ((SZ:Int)+(f.load.length:Int)),.bool y.first,.bool y.last,.bool y.beg,.bool y.fin,.int .u8 (y.ty:Int),.int .u8 (y.track:Int),.int .u16 (y.chan:Int),.string (str y.load),.bool GO] Wz ?_);intro w9 oM du _;replace dy:=dy.store du oM;replace cx:=dy.bf;unfold frV at cx;clear f0 f1 f2 f3 f4 f5 f6 f7 q1 oe du;rw[←fx,←dG]at cx;have Pm:=Q2 fx;have Ui:=Q2 dG;clear fx dG;have f0:=(cx).c0;have f1:=(cx).c1;have f2:=(cx).c2;have f3:=(cx).c3;have f4:=(cx).c4;have f5:=(cx).c5;have f6:=(cx).c6;have f7:=(cx).c7;go_wp2_with(with_reducible refine h_B ?_);refine zc (zn (j:=10) (v:=.bool (!bf)) (vs:=[.bool (!bf)]) rfl rfl rfl rfl oM rfl Wj Wz WZ #[.slice (some ⟨gb,0,none⟩) (L0.length+1) c1,.int .i64 ((SZ:Int)+(f.load.length:Int)),.bool y.first,.bool y.last,.bool y.beg,.bool y.fin,.int .u8 (y.ty:Int),.int .u8 (y.track:Int),.int .u16 (y.chan:Int),.string (str y.load),.bool (!bf)] Wz ?_);intro wa dV cU _;replace dy:=dy.store cU dV;replace cx:=dy.bf;unfold frV at cx;rw[←Pm.out,←Ui.out]at cx;clear f0 f1 f2 f3 f4 f5 f6 f7 oM cU;have f0:=(cx).c0;have f1:=(cx).c1;have f2:=(cx).c2;have f3:=(cx).c3;have f4:=(cx).c4;have f5:=(cx).c5;have f6:=(cx).c6;have f7:=(cx).c7;have dl:Hid ((f.fin&&f.last)=(bf&&bl)):=Q2 (by rw[Pm.out,Ui.out]);have Ii:Hid (kA (g.op f.chan f.track++ [f])= !bf):=Q2 (by rw[Jw,Pm.out]);have MG:Hid (zI (g.op f.chan f.track++ [f])=SZ+f.load.length):=Q2 (by rw[vL,HS.out]);have df:=fun(wz:World) (hz:wa.grownBy wz (some mb))=>(dy.keep.weak (G:=fun k=>k=mb∨blk H.A=some k) (fun k hk=>.inl (.inr hk))).trans (.grown (F:=fun k=>k=mb) hz (fun k hk=>.inl uj)) (fun k hk=>.inl (.inl hk))
  have Ie:blk H.A≠some mb:=fun e=>(kr hm HF.out (show f.track≤1 by exact kC Dx.out.symm) (fun e=>(Dc.out e).1) (fun e=>(u6.out e).1) e).2.2.2.1 rfl
  have se:wa.ownsMap prog 156 rawV mb n D:=yj hm.owns (dy.keep.2.1 mb hm.owns.lt Ie);have sK:f.track≤1:=kC Dx.out.symm;have aO:=hm.owns.lt;have hfo:=dy.lo.2.2.2.1;have pz:kb≠mb:=by omega
  have Sk:qb≠mb:=by omega
  have nN:rb≠mb:=by omega
  have AI:fb≠mb:=by omega
  have aK:=dy.ne;have ck:=dy.lo;clear mW;have rI:∀k,blk (some (⟨gb,0,none⟩:Addr))=some k→blk H.A=some k∨w.heap.size≤k:=fun k hk=>(dy.at_ k hk).imp id (fun e=>e.1)
  have mE:gb≠rb:=(dy.off rfl).2.1
  have bM:some gb≠some mb:=fun e=>by
   (have e':gb=mb:=by injection e);rcases rI gb rfl with h|h
   ·exact Ie (by rw[h,e'])
   omega
  cases ei:(bf&&bl)with
  | true=>
   have qq3v:=()
   exact Zo_
  | false=>
   (have sN:(bf=false)∨(bf=true∧bl=false):=by cases bf<;>cases bl<;>simp_all);clear ei;rcases sN with rfl|⟨rfl,rfl⟩
   ·exact Zo_
   have qq3u:=();exact Zo_
theorem Vf(a:As)(most:Int)(A:Option Addr)(n c:Nat)(B:Nat)(w:World)(hr:RdG w B A n c a.segs)(hB:B≤w.heap.size)(hw:a.wf)(hs:∀s∈a.segs,s.load.length≤140737488351232)(hn:n≤140737488351232):
  Calls prog 47 #[.agg (asV a.chan a.track A n c),.int .i64 most] w fun e w'=>∃A2 c2,e= .returned (.tuple #[.slice A2 (cutF most a).length c2,.int .i64 (xa most a:Int)])∧OwnF w' w.heap.size A2 (cutF most a).length c2 (cutF most a)∧Below w.heap.size w w':=by
 exact Z45_
def jA(most:Int)(a:As):List UInt8:=xw (cutF most a)
theorem bplB:BPl 59 2 0:=⟨by kernel_rfl,by omega⟩
theorem JD(lb sz:Nat)(a:As)(A:Option Addr)(n c:Nat)(w:World)(h4:w.cell? ⟨lb,4,none⟩=some (.int .u64 (sz:Int)))(Bw:sz≤1000000)(hr:RdG w w.heap.size A n c a.segs)(hw:a.wf)(hs:∀s∈a.segs,s.load.length≤140737488351232)(hn:n≤140737488351232):
  Calls prog 31 #[.pointer (some ⟨lb,0,none⟩),.agg (asV a.chan a.track A n c)] w fun e w'=>e= .returned (.tuple #[.string (str (jA ((sz:Int)-12) a)),.int .i64 (xa ((sz:Int)-12) a:Int)])∧Below w.heap.size w w':=by
 have fh:=fun(W:World) (h:Below w.heap.size w W)=>zaM a ((sz:Int)-12) A n c w.heap.size W (hr.below h) h.size hw hs hn
 have AS:lb<w.heap.size:=kI _ _ h4;obtain⟨xb,w0,bD,bo,hX,Hy⟩:=zq w (asV a.chan a.track A n c) 42;have Oa:=Q2 (KH (most:=(sz:Int)-12) hw);have dl:=YF ((sz:Int)-12) a;unfold jA;generalize cutF ((sz:Int)-12) a=FS at*;generalize xa ((sz:Int)-12) a=ER at*;have Cg:IntKind.i64.wrap ((sz:Int)-12)=(sz:Int)-12:=IntWalk.i64_in _ ⟨by omega,by omega⟩;have C6:IntKind.i64.wrap (sz:Int)=(sz:Int):=IntWalk.i64_in _ ⟨by omega,by omega⟩;clear hr hw hs;unfold asV at*;go_enter func31,ntmps31;go_upto_region 1 with fail;rw[←bD,←bo];have r6:w.heap.size≤xb:=by omega
 clear bD bo;have k4:w0.cell? ⟨lb,4,none⟩=some (.int .u64 (sz:Int)):=(Hy.cell (p:=⟨lb,4,none⟩) AS).trans h4;refine zt (fun W:World=>Below w0.heap.size w0 W) Wj ?_;have hS:Below w0.heap.size w0 w0.drew:=za (Below.refl _ _) 1;have r7:=fun(wS:World) (He:Below w0.heap.size w0 wS)=>(He.cell (p:=⟨lb,4,none⟩) (kI _ _ k4)).trans k4
 have MR:=fh w0.drew (za Hy 1);have Ha:Below w.heap.size w w0.drew:=za Hy 1;clear fh h4 k4;generalize w0.drew=wd at*;refine ze 0 (v:=?_) rfl Wj Wj Wj hS rfl ?_ ?_;rotate_left
 ·intro wS He;have k0:=(hX.below He).cell (j:=0) rfl;have k1:=(hX.below He).cell (j:=1) rfl;have k2:=(hX.below He).cell (j:=2) rfl;go_simp;(with_reducible rfl)
 simp only[KS,K2,Act.put,VB,Vy,Vx];refine rg_t 1 hS ?_;simp only[g_S];refine rg_t 2 hS ?_;simp only[g_S];refine rg_t 3 hS ?_;simp only[g_S];refine ze 4 (v:=?_) rfl Wj Wj Wj hS rfl ?_ ?_;rotate_left
 ·intro wS He;have k0:=r7 _ He;go_simp;(with_reducible rfl)
 simp only[g_S];refine rg_t 5 hS ?_;simp only[g_S];refine rg_t 6 hS ?_;simp only[g_S];refine zj 7 rfl Wj rfl (fun K hK=>?_);go_simp
 (with_reducible refine MR.mono ?_)
 rintro e w1 ⟨A2,c2,rfl,hO,Hc⟩;have BG:Below w0.heap.size w0 w1:=hS.trans (Hc.mono hS.size);refine hK _ _ BG ?_;clear hK K;try simp only[g_S]
 refine rg_t 8 BG ?_;simp only[g_S];refine rg_t 9 BG ?_;simp only[g_S];refine rg_t 10 BG ?_;simp only[g_S];refine rg_t 11 BG ?_;simp only[g_S];refine rg_t 12 BG ?_;simp only[g_S];refine zz Wj ?_;replace Hc:=Ha.trans (Hc.mono Ha.size);clear hS BG MR r7 Ha hX Hy;clear w0;obtain⟨bb,w2,bD,bo,lZ,H3⟩:=zq w1 #[.pointer none,.slice none 0 0] 59;have iE:=zh hO H3;have fZ:w1.heap.size≤bb:=by omega
 have Hh:=Hc.trans (H3.mono Hc.size);have Ob:w.heap.size≤bb:=by have:=Hc.size;omega
 have aQ:∀g,blk A2=some g→g<bb:=fun g hg=>by have:=(hO.blk_lt hg).2;omega
 go_upto_region 3 with fail;rw[←bD,←bo];clear bD bo;have eO:=yM yE iE.rd;obtain⟨N,hN⟩:∃N,N=FS.length:=⟨_,rfl⟩
 rw[←hN]at iE dl ⊢;have HN:=Q2 hN;have Ue:=fun(W:World) (h:Below w2.heap.size w2 W) {i:Nat} (hi:i<N)=>xF yE (iE.rd.below h) hi
 have pY:=lZ.lt;have S5:Own w2 (bb+1) 5 1 none 0 0 (([]:List UInt8).map u8v):=Own.none_ _ _ _ _;have GX:(N:Int)≤16388:=by omega
 clear eO hN hO;go_wp2_with(with_reducible refine h_B ?_);go_loopw [26] (fun RP wr=>∃(i m c3:Nat) (p:Value) (A3:Option Addr),i≤N∧RP= .int .i64 (i:Int)∧Hid (m=(xw (FS.take i)).length)∧Box wr bb 59 #[p,.slice A3 m c3]∧(p= .pointer none∨p=bPtr bb 0)∧Own wr (bb+1) 5 1 A3 m c3 ((xw (FS.take i)).map u8v)∧KeepF (fun g=>bb≤g) w2 wr) (fun RP _=>N-(KL RP).toNat)
 case atStart=>exact⟨0,0,0,.pointer none,none,by omega,rfl,Q2 rfl,lZ,.inl rfl,S5,.refl _ _⟩
 clear S5 lZ;obtain⟨i,m,c3,p,A3,hi,rfl,HM,lZ,hp,eM,BQ⟩:=hrel;have ME:OwnF wr wd.heap.size A2 N c2 FS:=v7 iE (fun g hg=>BQ.2.1 g (by have:=(iE.blk_lt hg).2;exact this) (by have:=aQ g hg;omega));have bP:Below w.heap.size w wr:=Hh.trans (BQ.toBelow (by have:=Hh.size;omega) (fun g hg=>by omega));have Pk:blk A3≠some bb:=fun e=>by have:=(eM.blk_lt e).1;omega
 by_cases hlt:i<N
 ·have g1:(i:Int)<(N:Int):=by omega
  obtain⟨b,off,rfl,dx,bI,bC⟩:=xF yE ME.rd hlt;have k0:=bC 0 _ rfl;have k1:=bC 1 _ rfl;have k2:=bC 2 _ rfl;have k3:=bC 3 _ rfl;have k4:=bC 4 _ rfl;have k5:=bC 5 _ rfl;have k6:=bC 6 _ rfl;have k7:=bC 7 _ rfl;have gG:=Oa.out _ (kv bI);have HT:=Q2 (Zs bI);clear bC Ue;generalize FS[i]=f at*;simp only[Nat.add_zero]at k0;obtain⟨fb,w4,bD,bo,hF,Hn⟩:=zq wr #[.bool false,.bool false,.bool false,.bool false,.int .u8 0,.int .u8 0,.int .u16 0,.string ⟨#[]⟩] 97;go_wp2_with(with_reducible refine h_B ?_);rw[←bD,←bo];have Ea:bb<fb:=by rw[bD];exact lZ.lt
  have nw:wr.heap.size≤fb:=by rw[bD];exact Nat.le_refl _
  clear bD bo;refine zc (zn (v:=.agg #[.bool f.first,.bool f.last,.bool f.beg,.bool f.fin,.int .u8 (f.ty:Int),.int .u8 (f.track:Int),.int .u16 (f.chan:Int),.string (str f.load)]) (vs:=[.bool f.first,.bool f.last,.bool f.beg,.bool f.fin,.int .u8 (f.ty:Int),.int .u8 (f.track:Int),.int .u16 (f.chan:Int),.string (str f.load)]) rfl rfl rfl rfl hF rfl Wj Wz WZ #[.bool f.first,.bool f.last,.bool f.beg,.bool f.fin,.int .u8 (f.ty:Int),.int .u8 (f.track:Int),.int .u16 (f.chan:Int),.string (str f.load)] Wz ?_);intro w5 iO H9 ef;clear ef;have Fs:=(lZ.below Hn).grown H9 (sne Wq);have gj:=zk (zh eM Hn) H9 (fun g hg e=>by injection e with e;have:=(eM.blk_lt hg).2;omega);have Br:KeepF (fun g=>bb≤g) w2 w5:=BQ.trans ((KeepF.below (F:=fun g=>bb≤g) Hn).trans (.grown (F:=fun g=>bb≤g) H9 (fun g hg=>.inl (by injection hg with hg;omega))) (fun g hg=>.inl hg)) (fun g hg=>.inl hg);have gI:bb+1≤w5.heap.size:=Fs.lt;clear hF H9 Hn eM lZ BQ k0 k1 k2 k3 k4 k5 k6 k7 ME nw;clear w4;have f0:=iO.c0;have f1:=iO.c1;have f2:=iO.c2;have f3:=iO.c3;have f4:=iO.c4;have f5:=iO.c5;have f6:=iO.c6;have f7:=iO.c7;have Gr:=zaH f w5 gG.1 (by have:=gG.2;omega);unfold frV at Gr;have eg:=Qa f
  have mW:m≤67125248:=by
   have h1:=HM.out;have h2:=Z6 (FS.take i);have h3:(FS.take i).length≤i:=List.length_take_le _ _;omega
  go_wp2_with(with_reducible refine h_B ?_);refine Gr.mono ?_;rintro e w6 ⟨A6,c6,rfl,lN,bG⟩;have RR:=Fs.below bG;have Mb:=zh gj bG;have il:KeepF (fun g=>bb≤g) w2 w6:=Br.trans (KeepF.below (F:=fun g=>bb≤g) bG) (fun g hg=>.inl hg);have tH:=JF bplB w6 #[p,.slice A3 m c3] RR rfl p rfl hp A3 A6 (xw (FS.take i)) f.put rfl Mb Pk (by have:=bG.size;omega) lN.rd (fun e=>by have:=(lN.blk_lt e).1;omega) Wq;clear Gr f0 f1 f2 f3 f4 f5 f6 f7 iO gj Fs Br;go_wp2_with(with_reducible refine h_B ?_);refine tH.mono ?_;rintro e w7 ⟨rfl,hW⟩;clear tH;obtain⟨⟨A7,c7,MK,lL,hgu,Oc⟩,aC⟩:=hW;have iI:KeepF (fun g=>bb≤g) w2 w7:=il.trans (aC.weak (G:=fun g=>bb≤g) (fun g hg=>by rcases hg with hg|hg;exact .inl Wq;exact .inl (by have:=(Mb.blk_lt hg).1;omega))) (fun g hg=>.inl hg);have HM7:Hid ((xw (FS.take i)++f.put).length=(xw (FS.take (i+1))).length):=Q2 (by rw[HT.out]);rw[←HT.out]at lL MK;go_wp2_with(with_reducible refine h_B ?_);exact⟨⟨i+1,_,c7,bPtr bb 0,A7,by omega,by go_num,Q2 rfl,MK,.inr rfl,lL,iI⟩,by simp[KL];omega⟩
 have g1:¬(i:Int)<(N:Int):=by omega
 have HF:Hid (xw (FS.take i)=xw FS):=Q2 (by rw[ky Nx]);have bV:=Za (off:=0) (n:=m) (c:=c3) wr #[p,.slice A3 m c3] lZ A3 (xw (FS.take i)) rfl eM;rw[HF.out]at bV;clear Ue;go_wp2_with(with_reducible refine h_B ?_);refine bV.mono ?_;rintro e w4 ⟨rfl,eQ⟩;have Hn:Below w.heap.size w w4:=bP.trans (eQ.toBelow bP.size (fun g hg=>by have:=(eM.blk_lt hg).1;omega));go_wp2_with(with_reducible refine h_B ?_);go_ret2;exact⟨rfl,Hn⟩
end Go.PH
section
namespace Go.PH
structure MRow where
 code:Nat
 word:List UInt8
 kinds:List UInt8
deriving DecidableEq
structure RRow where
 cls:Nat
 code:Nat
 name:List UInt8
 kinds:List UInt8
deriving DecidableEq
def xi:Nat→List UInt8
 | 1=>[99,111,110,110,101,99,116,105,111,110]
 | 2=>[115,101,115,115,105,111,110]
 | 3=>[101,120,101,99,117,116,105,111,110]
 | 4=>[109,101,115,115,97,103,101]
 | 5=>[116,120]
 | 6=>[100,116,120]
 | 8=>[113,117,101,117,101]
 | _=>[]
def xR:Nat→List UInt8
 | 1=>[49,32,115,116,97,114,116,32,116,59,50,32,115,116,97,114,116,45,111,107,32,116,59,53,32,116,117,110,101,32,119,119,59,54,32,116,117,110,101,45,111,107,32,119,119,59,55,32,111,112,101,110,32,115,59,56,32,111,112,101,110,45,111,107,32,59,49,49,32,99,108,111,115,101,32,119,115,59,49,50,32,99,108,111,115,101,45,111,107,32]
 | 2=>[49,32,97,116,116,97,99,104,32,116,98,59,50,32,97,116,116,97,99,104,101,100,32,116,59,51,32,100,101,116,97,99,104,32,116,59,52,32,100,101,116,97,99,104,101,100,32,116,110,59,55,32,112,111,105,110,116,32,100,59,49,48,32,99,111,109,112,108,101,116,101,100,32,114,59,49,49,32,107,110,111,119,110,32,114,59,49,50,32,102,108,117,115,104,32]
 | 3=>[49,32,115,121,110,99,32,59,50,32,114,101,115,117,108,116,32,100,118,59,51,32,101,120,99,101,112,116,105,111,110,32,119,100,116]
 | 4=>[49,32,116,114,97,110,115,102,101,114,32,115,110,59,50,32,97,99,99,101,112,116,32,114,59,51,32,114,101,106,101,99,116,32,114,119,115,59,52,32,114,101,108,101,97,115,101,32,114,98,59,55,32,115,117,98,115,99,114,105,98,101,32,115,115,59,56,32,99,97,110,99,101,108,32,115,59,49,48,32,102,108,111,119,32,115,100,59,49,50,32,115,116,111,112,32,115]
 | 5=>[49,32,115,101,108,101,99,116,32,59,50,32,99,111,109,109,105,116,32,59,51,32,114,111,108,108,98,97,99,107,32]
 | 6=>[49,32,115,101,108,101,99,116,32,59,50,32,115,116,97,114,116,32,120,98,98,59,51,32,101,110,100,32,120,98,98,59,52,32,99,111,109,109,105,116,32,120,98,59,53,32,102,111,114,103,101,116,32,120,59,54,32,103,101,116,45,116,105,109,101,111,117,116,32,120,59,55,32,112,114,101,112,97,114,101,32,120,59,56,32,114,101,99,111,118,101,114,32,59,57,32,114,111,108,108,98,97,99,107,32,120,59,49,48,32,115,101,116,45,116,105,109,101,111,117,116,32,120,100]
 | 8=>[49,32,100,101,99,108,97,114,101,32,115,98,100,59,50,32,100,101,108,101,116,101,32,115,98,59,51,32,112,117,114,103,101,32,115,59,52,32,113,117,101,114,121,32,115]
 | _=>[]
def qV:Nat→List MRow
 | 1=>[⟨1,[115,116,97,114,116],[116]⟩,⟨2,[115,116,97,114,116,45,111,107],[116]⟩,⟨5,[116,117,110,101],[119,119]⟩,⟨6,[116,117,110,101,45,111,107],[119,119]⟩,⟨7,[111,112,101,110],[115]⟩,⟨8,[111,112,101,110,45,111,107],[]⟩,⟨11,[99,108,111,115,101],[119,115]⟩,⟨12,[99,108,111,115,101,45,111,107],[]⟩]
 | 2=>[⟨1,[97,116,116,97,99,104],[116,98]⟩,⟨2,[97,116,116,97,99,104,101,100],[116]⟩,⟨3,[100,101,116,97,99,104],[116]⟩,⟨4,[100,101,116,97,99,104,101,100],[116,110]⟩,⟨7,[112,111,105,110,116],[100]⟩,⟨10,[99,111,109,112,108,101,116,101,100],[114]⟩,⟨11,[107,110,111,119,110],[114]⟩,⟨12,[102,108,117,115,104],[]⟩]
 | 3=>[⟨1,[115,121,110,99],[]⟩,⟨2,[114,101,115,117,108,116],[100,118]⟩,⟨3,[101,120,99,101,112,116,105,111,110],[119,100,116]⟩]
 | 4=>[⟨1,[116,114,97,110,115,102,101,114],[115,110]⟩,⟨2,[97,99,99,101,112,116],[114]⟩,⟨3,[114,101,106,101,99,116],[114,119,115]⟩,⟨4,[114,101,108,101,97,115,101],[114,98]⟩,⟨7,[115,117,98,115,99,114,105,98,101],[115,115]⟩,⟨8,[99,97,110,99,101,108],[115]⟩,⟨10,[102,108,111,119],[115,100]⟩,⟨12,[115,116,111,112],[115]⟩]
 | 5=>[⟨1,[115,101,108,101,99,116],[]⟩,⟨2,[99,111,109,109,105,116],[]⟩,⟨3,[114,111,108,108,98,97,99,107],[]⟩]
 | 6=>[⟨1,[115,101,108,101,99,116],[]⟩,⟨2,[115,116,97,114,116],[120,98,98]⟩,⟨3,[101,110,100],[120,98,98]⟩,⟨4,[99,111,109,109,105,116],[120,98]⟩,⟨5,[102,111,114,103,101,116],[120]⟩,⟨6,[103,101,116,45,116,105,109,101,111,117,116],[120]⟩,⟨7,[112,114,101,112,97,114,101],[120]⟩,⟨8,[114,101,99,111,118,101,114],[]⟩,⟨9,[114,111,108,108,98,97,99,107],[120]⟩,⟨10,[115,101,116,45,116,105,109,101,111,117,116],[120,100]⟩]
 | 8=>[⟨1,[100,101,99,108,97,114,101],[115,98,100]⟩,⟨2,[100,101,108,101,116,101],[115,98]⟩,⟨3,[112,117,114,103,101],[115]⟩,⟨4,[113,117,101,114,121],[115]⟩]
 | _=>[]
def refTab:List RRow:=[⟨1,1,[99,111,110,110,101,99,116,105,111,110,46,115,116,97,114,116],[116]⟩,⟨1,2,[99,111,110,110,101,99,116,105,111,110,46,115,116,97,114,116,45,111,107],[116]⟩,⟨1,5,[99,111,110,110,101,99,116,105,111,110,46,116,117,110,101],[119,119]⟩,⟨1,6,[99,111,110,110,101,99,116,105,111,110,46,116,117,110,101,45,111,107],[119,119]⟩,⟨1,7,[99,111,110,110,101,99,116,105,111,110,46,111,112,101,110],[115]⟩,⟨1,8,[99,111,110,110,101,99,116,105,111,110,46,111,112,101,110,45,111,107],[]⟩,⟨1,11,[99,111,110,110,101,99,116,105,111,110,46,99,108,111,115,101],[119,115]⟩,⟨1,12,[99,111,110,110,101,99,116,105,111,110,46,99,108,111,115,101,45,111,107],[]⟩,⟨2,1,[115,101,115,115,105,111,110,46,97,116,116,97,99,104],[116,98]⟩,⟨2,2,[115,101,115,115,105,111,110,46,97,116,116,97,99,104,101,100],[116]⟩,⟨2,3,[115,101,115,115,105,111,110,46,100,101,116,97,99,104],[116]⟩,⟨2,4,[115,101,115,115,105,111,110,46,100,101,116,97,99,104,101,100],[116,110]⟩,⟨2,7,[115,101,115,115,105,111,110,46,112,111,105,110,116],[100]⟩,⟨2,10,[115,101,115,115,105,111,110,46,99,111,109,112,108,101,116,101,100],[114]⟩,⟨2,11,[115,101,115,115,105,111,110,46,107,110,111,119,110],[114]⟩,⟨2,12,[115,101,115,115,105,111,110,46,102,108,117,115,104],[]⟩,⟨3,1,[101,120,101,99,117,116,105,111,110,46,115,121,110,99],[]⟩,⟨3,2,[101,120,101,99,117,116,105,111,110,46,114,101,115,117,108,116],[100,118]⟩,⟨3,3,[101,120,101,99,117,116,105,111,110,46,101,120,99,101,112,116,105,111,110],[119,100,116]⟩,⟨4,1,[109,101,115,115,97,103,101,46,116,114,97,110,115,102,101,114],[115,110]⟩,⟨4,2,[109,101,115,115,97,103,101,46,97,99,99,101,112,116],[114]⟩,⟨4,3,[109,101,115,115,97,103,101,46,114,101,106,101,99,116],[114,119,115]⟩,⟨4,4,[109,101,115,115,97,103,101,46,114,101,108,101,97,115,101],[114,98]⟩,⟨4,7,[109,101,115,115,97,103,101,46,115,117,98,115,99,114,105,98,101],[115,115]⟩,⟨4,8,[109,101,115,115,97,103,101,46,99,97,110,99,101,108],[115]⟩,⟨4,10,[109,101,115,115,97,103,101,46,102,108,111,119],[115,100]⟩,⟨4,12,[109,101,115,115,97,103,101,46,115,116,111,112],[115]⟩,⟨5,1,[116,120,46,115,101,108,101,99,116],[]⟩,⟨5,2,[116,120,46,99,111,109,109,105,116],[]⟩,⟨5,3,[116,120,46,114,111,108,108,98,97,99,107],[]⟩,⟨6,1,[100,116,120,46,115,101,108,101,99,116],[]⟩,⟨6,2,[100,116,120,46,115,116,97,114,116],[120,98,98]⟩,⟨6,3,[100,116,120,46,101,110,100],[120,98,98]⟩,⟨6,4,[100,116,120,46,99,111,109,109,105,116],[120,98]⟩,⟨6,5,[100,116,120,46,102,111,114,103,101,116],[120]⟩,⟨6,6,[100,116,120,46,103,101,116,45,116,105,109,101,111,117,116],[120]⟩,⟨6,7,[100,116,120,46,112,114,101,112,97,114,101],[120]⟩,⟨6,8,[100,116,120,46,114,101,99,111,118,101,114],[]⟩,⟨6,9,[100,116,120,46,114,111,108,108,98,97,99,107],[120]⟩,⟨6,10,[100,116,120,46,115,101,116,45,116,105,109,101,111,117,116],[120,100]⟩,⟨8,1,[113,117,101,117,101,46,100,101,99,108,97,114,101],[115,98,100]⟩,⟨8,2,[113,117,101,117,101,46,100,101,108,101,116,101],[115,98]⟩,⟨8,3,[113,117,101,117,101,46,112,117,114,103,101],[115]⟩,⟨8,4,[113,117,101,117,101,46,113,117,101,114,121],[115]⟩]
def ym(c k:Nat):Option MRow:=(qV c).find? fun r=>decide (r.code=k)
def YJ(c k:Nat):Option (List UInt8):=(ym c k).map fun r=>xi c++ [46]++r.word
def kH(c k:Nat):Option RRow:=refTab.find? fun r=>decide (r.cls=c∧r.code=k)
theorem QY{c:Nat}(h:qV c≠ []):c=1∨c=2∨c=3∨c=4∨c=5∨c=6∨c=8:=by
 unfold qV at h;split at h<;>simp_all
theorem KO(c:Nat):refTab.filter (fun r=>decide (r.cls=c))=(qV c).map fun r=>⟨c,r.code,xi c++ [46]++r.word,r.kinds⟩:=by
 by_cases h:c=1∨c=2∨c=3∨c=4∨c=5∨c=6∨c=8
 ·rcases h with rfl|rfl|rfl|rfl|rfl|rfl|rfl<;>decide
 have h1:qV c=[]:=by
  cases hc:qV c with
  | nil=>rfl
  | cons _ _=>exact absurd (QY (by rw[hc];simp)) h
 rw[h1];simp only[List.map_nil,List.filter_eq_nil_iff,decide_eq_true_eq];have BL:∀r∈refTab,r.cls=1∨r.cls=2∨r.cls=3∨r.cls=4∨r.cls=5∨r.cls=6∨r.cls=8:=by decide
 intro r hr e;have:=BL r hr;rw[e]at this;exact h this
theorem YK(c k:Nat):kH c k=(ym c k).map fun r=>⟨c,r.code,xi c++ [46]++r.word,r.kinds⟩:=by
 have e:kH c k=(refTab.filter fun r=>decide (r.cls=c)).find? fun r=>decide (r.code=k):=by
  unfold kH;rw[List.find?_filter];congr 1;funext r;simp
 rw[e,KO,List.find?_map];rfl
theorem KQ:∀r∈refTab,r.kinds.length≤3∧r.name.length≤30∧r.cls<256∧r.code<256:=by decide
theorem Z8{c k:Nat}{r:MRow}(h:ym c k=some r):r.kinds.length≤3∧(xi c++ [46]++r.word).length≤30∧c<256∧r.code<256:=by
 have hr:=YK c k;rw[h]at hr;exact KQ _ (List.mem_of_find?_eq_some hr)
end Go.PH
end
section
namespace Go.PH
def xG(d:UInt8):List UInt8→List (List UInt8)
 | []=>[[]]
 | c::r=>if c=d then []::xG d r else
  match xG d r with
  | h::t=>(c::h)::t
  | []=>[[c]]
theorem Xe{d:UInt8}:∀{a:List UInt8},d∉a→xG d a=[a]
 | [],_=>rfl
 | c::a,h=>by
  have hc:c≠d:=fun e=>h (by simp[e])
  have ih:=Xe (a:=a) (fun e=>h (kx _ e));rw[xG,if_neg hc,ih]
theorem Z7{d:UInt8}:∀{a:List UInt8} (r:List UInt8),d∉a→xG d (a++d::r)=a::xG d r
 | [],r,_=>by simp[xG]
 | c::a,r,h=>by
  have hc:c≠d:=fun e=>h (by simp[e])
  have ih:=Z7 (a:=a) r (fun e=>h (kx _ e));rw[k8,xG,if_neg hc,ih]
theorem kZ:∀{a:List UInt8} {c:UInt8} (r:List UInt8),c∉a→k9 (a++c::r) c=(a.length:Int)
 | [],c,r,_=>by simp[k9]
 | b::a,c,r,h=>by
  have hb:(b==c)=false:=by simp;exact fun e=>h (by simp[e])
  have ih:=kZ (a:=a) (c:=c) r (fun e=>h (by simp[e]));rw[k8,k9,hb,ih];have:((a.length:Int)== -1)=false:=by rw[beq_eq_false_iff_ne];omega
  simp[this]
def sepS(d:UInt8):ByteArray:=⟨#[d]⟩
theorem vy{d:UInt8}:∀(k:Nat) (l:List UInt8),l.count d=k→(Lib.splitB (sepS d) 0 k (str l)).map (fun b=>b.data.toList)=xG d l
 | 0,l,h=>by
  rw[Lib.splitB_zero,Xe (v0.1 h)];rfl
 | k+1,l,h=>by
  have hm:d∈l:=List.count_pos_iff.1 Wq;obtain⟨a,r,rfl,ha⟩:=List.eq_append_cons_of_mem hm
  have hc:r.count d=k:=by
   rw[List.count_append,List.count_cons_self,v0.2 ha]at h;omega
  have hi:Lib.indexB (str (a++d::r)) (sepS d)=(a.length:Int):=by
   (show Lib.index (a++d::r) [d]=_);rw[Lib.index_one,kZ r ha]
  rw[Lib.splitB_hit (sepS d) 0 k _ a.length hi,List.map_cons,Z7 r ha]
  have e1:(str (a++d::r)).extract (a.length+(sepS d).size) (str (a++d::r)).size=str r:=by
   rw[zi,qA];congr 1;rw[ky (Nat.le_refl _)];(show(a++d::r).drop (a.length+1)=r);rw[←List.drop_drop,List.drop_left];rfl
  have e2:((str (a++d::r)).extract 0 (a.length+0)).data.toList=a:=by
   rw[qA,Nat.add_zero,List.take_left,List.drop_zero];rfl
  rw[e1,e2,vy k r hc]
theorem vA{d:UInt8}(l:List UInt8):vv (str l) (sepS d)=l.count d:=by
 show Lib.count l [d]=_
 exact Lib.count_one d l
theorem YH{d:UInt8}(l:List UInt8):(xG d l).length=l.count d+1:=by
 rw[←vy _ l rfl,List.length_map];exact Lib.splitB_all (sepS d) (by show 1≤1;omega) 0 _ _ (vA l)
theorem Xf{d:UInt8}(l:List UInt8):(Lib.splitB (sepS d) 0 (vv (str l) (sepS d)) (str l)).map Value.string=(xG d l).map (fun p=>Value.string (str p)):=by
 rw[vA,←vy _ l rfl,List.map_map];rfl
def jD(l:List UInt8):Nat:=l.foldl (fun n c=>(10*n+c.toNat+208) % 256) 0
def Zv(p:List UInt8):Option MRow:=match xG 32 p with
 | [a,b,c]=>some ⟨jD a,b,c⟩
 | _=>none
def qM(k:Nat):List (List UInt8)→Option MRow
 | []=>none
 | p::l=>match Zv p with
  | some r=>if r.code=k then some r else qM k l
  | none=>qM k l
theorem Xg(k:Nat)(a b:List (List UInt8)):qM k (a++b)=match qM k a with
 | some r=>some r
 | none=>qM k b:=by
 induction a with
 | nil=>rfl
 | cons p a ih=>
  simp only[k8,qM]
  cases Zv p with
  | none=>exact ih
  | some r=>
   simp only;by_cases h:r.code=k
   ·rw[if_pos h,if_pos h]
   rw[if_neg h,if_neg h];exact ih
theorem Xh(k:Nat):∀l:List (List UInt8),qM k l=(l.filterMap Zv).find? fun r=>decide (r.code=k)
 | []=>rfl
 | p::l=>by
  have ih:=Xh k l;rw[qM,List.filterMap_cons]
  cases Zv p with
  | none=>exact ih
  | some r=>
   by_cases h:r.code=k
   ·simp[h]
   simp only[h,if_false,v1,decide_false];exact ih
theorem JI(c:Nat):(xG 59 (xR c)).filterMap Zv=qV c:=by
 by_cases h:c=1∨c=2∨c=3∨c=4∨c=5∨c=6∨c=8
 ·rcases h with rfl|rfl|rfl|rfl|rfl|rfl|rfl<;>decide+kernel
 have h1:qV c=[]:=by
  cases hc:qV c with
  | nil=>rfl
  | cons _ _=>exact absurd (QY (by rw[hc];simp)) h
 have h2:xR c=[]:=by
  unfold xR;split;all_goals first|rfl|(exfalso;apply h;simp)
 rw[h1,h2];decide+kernel
theorem KN(c k:Nat):qM k (xG 59 (xR c))=ym c k:=by rw[Xh,JI];rfl
theorem zaR(l:List UInt8):jD l<256:=by
 unfold jD;rcases List.eq_nil_or_concat l with rfl|⟨m,x,rfl⟩
 ·decide
 rw[List.concat_eq_append,List.foldl_append];exact Nat.mod_lt _ WJ
theorem JJ(l:List UInt8)(c:UInt8):jD (l++ [c])=(10*jD l+c.toNat+208) % 256:=by simp[jD]
theorem jE(c:Nat):(xR c).length≤200∧(xi c).length≤20:=by
 unfold xR xi;constructor<;>split<;>decide+kernel
theorem YI(d:UInt8):∀(l:List UInt8),∀p∈xG d l,p.length≤l.length
 | [],p,hp=>by simp[xG]at hp;subst hp;simp
 | c::r,p,hp=>by
  have ih:=YI d r;rw[xG]at hp;split at hp
  ·rcases v2.1 hp with rfl|hp
   ·simp
   have:=ih p hp;simp;omega
  cases hd:xG d r with
  | nil=>rw[hd]at hp;simp at hp;subst hp;simp
  | cons h t=>
   rw[hd]at hp ih;rcases v2.1 hp with rfl|hp
   ·have:=ih h (List.mem_cons_self ..);simp;omega
   have:=ih p (kx _ hp);simp;omega
end Go.PH
end
namespace Go.PH
open Go.RowKit Go.Proofs Go.Proofs.Tryz
variable {j k : Nat} {w : World}
structure MEnv(w:World):Prop where
 mx:∃m:Int,w.cell? ⟨0,0,none⟩=some (.int .i64 m)
theorem MEnv.lt(h:MEnv w):0<w.heap.size:=by
 obtain⟨m,hm⟩:=h.mx;exact kI w _ hm
theorem MEnv.on{w':World}(h:MEnv w)(hB:Below w.heap.size w w'):MEnv w' where
 mx:=by
  have hl:=h.lt;obtain⟨m,hm⟩:=h.mx;exact⟨m,(hB.cell (p:=⟨0,0,none⟩) hl).trans hm⟩
theorem Zu(c:Nat)(w:World):Calls prog 111 #[.int .u8 (c:Int)] w fun e w'=>e= .returned (.tuple #[.string (str (xi c)),.string (str (xR c))])∧w=w':=by
 by_cases h:c=1∨c=2∨c=3∨c=4∨c=5∨c=6∨c=8
 ·rcases h with rfl|rfl|rfl|rfl|rfl|rfl|rfl
  all_goals
   go_enter func111,ntmps111;go_wp2_with(with_reducible refine h_A ?_);go_ret2;exact⟨rfl,rfl⟩
 have h1:xR c=[]∧xi c=[]:=by
  constructor
  ·unfold xR;split;all_goals first|rfl|(exfalso;apply h;simp)
  unfold xi;split;all_goals first|rfl|(exfalso;apply h;simp)
 have e1:((c:Int)==1)=false:=by simp;omega
 have e2:((c:Int)==2)=false:=by simp;omega
 have e3:((c:Int)==3)=false:=by simp;omega
 have e4:((c:Int)==4)=false:=by simp;omega
 have e5:((c:Int)==5)=false:=by simp;omega
 have e6:((c:Int)==6)=false:=by simp;omega
 have e8:((c:Int)==8)=false:=by simp;omega
 rw[h1.1,h1.2];clear h h1;go_enter func111,ntmps111;go_wp2_with(with_reducible refine h_A ?_);go_ret2;exact⟨rfl,rfl⟩
theorem KJ(n c:Nat):IntKind.u8.wrap (IntKind.u8.wrap (IntKind.u8.wrap (10*(n:Int))+(c:Int))-48)=(((10*n+c+208) % 256:Nat):Int):=by
 simp only[IntKind.wrap_u8];omega
theorem zaP(l:List UInt8)(w:World)(hl:l.length≤1000):Calls prog 120 #[.string (str l)] w fun e w'=>e= .returned (.int .u8 (jD l:Int))∧w=w':=by
 have dD:=zi l;go_enter func120,ntmps120;go_wp2_with(with_reducible refine h_A ?_);go_loop [3,7] (fun s3 s7=>∃k:Nat,k≤l.length∧s7= .int .i64 k∧s3= .int .u8 ((jD (l.take k):Nat):Int)) (fun _ s7=>l.length-(KL s7).toNat)
 case atStart=>exact⟨0,by omega,rfl,rfl⟩
 obtain⟨k,hk,rfl,rfl⟩:=hrel;by_cases hlt:k<l.length
 ·have f8:(k:Int)<(l.length:Int):=by omega
  have bV:=Q2 (KJ (jD (l.take k)) l[k].toNat);have sQ:Hid (jD (l.take (k+1))=(10*jD (l.take k)+l[k].toNat+208) % 256):=Q2 (by rw[vz hlt,JJ]);have MF:=zaR (l.take k);go_wp2_with(with_reducible refine h_A ?_);refine⟨⟨k+1,by omega,by go_num,?_⟩,by simp[KL];omega⟩;rw[sQ.out];show Value.int IntKind.u8 (((10*((jD (l.take k):Nat):Int)+((l[k].toNat:Nat):Int)) % 256-48) % 256)=_
  congr 1;omega
 obtain rfl:k=l.length:=by omega
 rw[v3];go_wp2_with(with_reducible refine h_A ?_);go_ret;exact⟨rfl,rfl⟩
def zcf(r:Option MRow):List UInt8:=(r.map (·.word)).getD []
def yv(r:Option MRow):List UInt8:=(r.map (·.kinds)).getD []
def zaQ(w:World)(r:Option MRow)(e:Ending)(w':World):Prop:=e= .returned (.tuple #[.string (str (zcf r)),.string (str (yv r)),.bool r.isSome])∧Below w.heap.size w w'
theorem jW{P:List (List UInt8)}(hj:j<P.length)(h:qM k (P.take j)=none):qM k (P.take (j+1))=qM k [P[j]]:=by
 rw[vz hj,Xg,h]
theorem KK{P:List (List UInt8)}(hj:j<P.length)(h:qM k (P.take j)=none){r:MRow}(hr:qM k [P[j]]=some r):qM k P=some r:=by
 have e:P=P.take (j+1)++P.drop (j+1):=(v4 _ _).symm;rw[e,Xg,jW hj h,hr]
theorem JG{p a b c:List UInt8}(h:xG 32 p=[a,b,c]):qM k [p]=if jD a=k then some ⟨jD a,b,c⟩else none:=by
 unfold qM Zv;rw[h];simp only;split<;>rfl
theorem JH{p:List UInt8}(h:(xG 32 p).length≠3):qM k [p]=none:=by
 unfold qM Zv;split
 ·rename_i h1
  split at h1
  ·rename_i h2;rw[h2]at h;exact absurd rfl h
  cases h1
 rfl
theorem len3{α:Type}{l:List α}(h:l.length=3):∃a b c,l=[a,b,c]:=by
 match l,h with
 | [a,b,c],_=>exact⟨a,b,c,rfl⟩
theorem Xc(d:UInt8)(l:List UInt8)(w:World)(he:MEnv w)(hl:l.length≤100000):
  Calls prog 119 #[.string (str l),.string (sepS d)] w fun e w'=>e= .returned (.slice (some ⟨w.heap.size,0,none⟩) (xG d l).length (xG d l).length)∧w'=w.alloc (.cells ((xG d l).map (fun p=>Value.string (str p))).toArray 9):=by
 obtain⟨m,hm⟩:=he.mx;have sN:=Tryz.strings_Split (str l) (sepS d) m w (by rw[zi];omega) hm (by show 1≤1;omega);rw[Xf]at sN;have pH:vv (str l) (sepS d)+1=(xG d l).length:=by rw[vA,YH]
 rw[pH]at sN;exact sN
theorem KM{g:Nat}{t:TypeId}{P:List (List UInt8)}(hb:Box w g t (P.map (fun p=>Value.string (str p))).toArray)(hj:j<P.length):w.cell? ⟨g,j,none⟩=some (.string (str P[j])):=by
 refine hb.cell ?_;simp[hj]
theorem QX(c k:Nat)(w:World)(he:MEnv w):
  Calls prog 101 #[.int .u8 (c:Int),.int .u8 (k:Int)] w (zaQ w (ym c k)):=by
 obtain⟨RS,sO⟩:∃RS,RS=ym c k:=⟨_,rfl⟩
 rw[←sO];have wI:Hid (RS=qM k (xG 59 (xR c))):=Q2 (by rw[sO,KN]);obtain⟨P,hP⟩:∃P,P=xG 59 (xR c):=⟨_,rfl⟩
 have aJ:∀p∈P,p.length≤200:=by
  intro p hp;rw[hP]at hp;have h1:=YI 59 (xR c) p hp;have h2:=(jE c).1;omega
 have hPn:P.length≤201:=by
  have h1:P.length=(xR c).count 59+1:=by rw[hP,YH]
  have h2:=(jE c).1;have h3:(xR c).count 59≤(xR c).length:=v5;omega
 have bC:=Zu c w;have sN:=Xc 59 (xR c) w he (by have:=(jE c).1;omega);have oP:=he;rw[←hP]at sN wI;clear sO hP he;have Hy:=(Below.refl w.heap.size w).alloc (Nat.le_refl _) (.cells (P.map (fun p=>Value.string (str p))).toArray 9);have cY:=Box.new w (P.map (fun p=>Value.string (str p))).toArray 9;go_enter func101,ntmps101;go_wp2_with(with_reducible refine h_A ?_);refine bC.mono ?_;rintro e w1 ⟨rfl,rfl⟩;go_wp2_with(with_reducible refine h_A ?_);refine sN.mono ?_;rintro e w1 ⟨rfl,rfl⟩;clear bC sN;obtain⟨g0,pd⟩:∃g,g=w.heap.size:=⟨_,rfl⟩
 rw[←pd]at cY;have CQ:g0≤w.heap.size:=by omega
 rw[←pd];clear pd;generalize(w.alloc (.cells (P.map (fun p=>Value.string (str p))).toArray 9))=w1 at*;go_wp2_with(with_reducible refine h_A ?_);go_loopw [20] (fun s wr=>∃(j:Nat),j≤P.length∧s= .int .i64 j∧Hid (qM k (P.take j)=none)∧Box wr g0 9 (P.map (fun p=>Value.string (str p))).toArray∧Below w.heap.size w wr) (fun s _=>P.length-(KL s).toNat)
 case atStart=>exact⟨0,by omega,rfl,Q2 rfl,cY,Hy⟩
 obtain⟨j,hj,rfl,HN,hb,hB⟩:=hrel;clear cY Hy;by_cases hlt:j<P.length
 ·have hjn:(j:Int)<(P.length:Int):=by omega
  have hp:=aJ P[j] (kv hlt);have gV:=KM hb hlt;have HS:=Q2 (jW hlt HN.out);have HH:Hid (∀r,qM k [P[j]]=some r→RS=some r):=Q2 (fun r hr=>by rw[wI.out];exact KK hlt HN.out hr);generalize P[j]=p at*;have sN:=Xc 32 p wr (oP.on hB) Wq;have Hc:=hB.alloc hB.size (.cells ((xG 32 p).map (fun p=>Value.string (str p))).toArray 9);have bF:=hb.alloc (.cells ((xG 32 p).map (fun p=>Value.string (str p))).toArray 9);have mc:=Box.new wr ((xG 32 p).map (fun p=>Value.string (str p))).toArray 9;go_wp2_with(with_reducible refine h_A ?_);refine sN.mono ?_;rintro e w2 ⟨rfl,rfl⟩;clear sN gV hb hB;obtain⟨g1,bN⟩:∃g,g=wr.heap.size:=⟨_,rfl⟩
  rw[←bN]at mc ⊢;clear bN;have PG:Hid ((xG 32 p).length≠3→qM k [p]=none):=Q2 (fun h=>JH h);have ry:Hid (∀a b c,xG 32 p=[a,b,c]→qM k [p]=if jD a=k then some ⟨jD a,b,c⟩else none):=Q2 (fun a b c h=>JG h);have bC:∀q∈xG 32 p,q.length≤1000:=fun q hq=>by have:=YI 32 p q hq;omega
  have Sq:(xG 32 p).length≤1000:=by
   have h1:(xG 32 p).length=p.count 32+1:=YH p;have h3:p.count 32≤p.length:=v5;omega
  generalize xG 32 p=Q at*;generalize(wr.alloc (.cells (Q.map (fun p=>Value.string (str p))).toArray 9))=w2 at*;by_cases h3:Q.length=3
  ·obtain⟨qa,qb,qc,rfl⟩:=len3 h3;have k0:=mc.c0;have k1:=mc.c1;have k2:=mc.c2;have hla:=bC qa Wz;have HQ:=Q2 (ry.out _ _ _ rfl);clear PG ry bC h3 mc;have pH:=zaP qa w2 hla;by_cases hk:jD qa=k
   ·have HR:Hid (RS=some ⟨jD qa,qb,qc⟩):=Q2 (HH.out _ (by rw[HQ.out,if_pos hk]));subst hk;clear HH HQ HS HN;go_wp2_with(with_reducible refine h_A ?_);refine pH.mono ?_;rintro e w3 ⟨rfl,rfl⟩;clear pH;go_wp2_with(with_reducible refine h_A ?_);go_quiet(fail);go_wp2_with(with_reducible refine h_A ?_);go_ret3;rw[HR.out];exact⟨rfl,za Hc _⟩
   have nh:Hid (qM k (P.take (j+1))=none):=Q2 (by rw[HS.out,HQ.out,if_neg hk]);(have hk':((jD qa:Int)==(k:Int))=false:=by simp;omega);clear HH HQ HS HN hk;go_wp2_with(with_reducible refine h_A ?_);refine pH.mono ?_;rintro e w3 ⟨rfl,rfl⟩;clear pH;exact Z54_
  have nh:Hid (qM k (P.take (j+1))=none):=Q2 (by rw[HS.out,PG.out h3]);have h3':((Q.length:Int)==3)=false:=by simp;omega
  clear HH HS HN PG ry bC mc h3;exact Z54_
 obtain rfl:j=P.length:=by omega
 have HR:Hid (RS=none):=Q2 (by rw[wI.out];have:=HN.out;rwa[v3]at this);clear HN;go_wp2_with(with_reducible refine h_A ?_);go_ret3;rw[HR.out];exact⟨rfl,hB⟩
theorem Zw(c k:Nat)(w:World)(he:MEnv w):
  Calls prog 69 #[.int .u8 (c:Int),.int .u8 (k:Int)] w fun e w'=>e= .returned (.tuple #[.string (str (yv (ym c k))),.bool (ym c k).isSome])∧Below w.heap.size w w':=by
 have hf:=QX c k w he;generalize ym c k=r at*;unfold zaQ at hf;generalize yv r=kd at*;generalize zcf r=wd at*;generalize r.isSome=is at*;go_enter func69,ntmps69;go_wp2_with(with_reducible refine h_A ?_);refine hf.mono ?_;rintro e w1 ⟨rfl,hB⟩;go_wp2_with(with_reducible refine h_A ?_);go_ret2;exact⟨rfl,hB⟩
end Go.PH
section
namespace Go.Proofs.YtfbkameikhgciaaGreatDoor
open Go.PH Go.RowKit Go.ChangeShapes Go.WideShapes Go.ChangeAt
theorem own:ownKnob Tryz.prog.godebug=none:=by kernel_rfl
theorem laidOut:laidOutB Tryz.prog=true:=by kernel_rfl
def utfList:List (String×DataW Unit):=[("unicode/utf8.acceptRanges",Rows.laid_unicode_utf8_acceptRanges),("unicode/utf8.first",Rows.laid_unicode_utf8_first)]
theorem env{W:World}(h:laidMetH Tryz.prog utfList W)(hsh:W.ShapedOpen Tryz.prog):MEnv W:=⟨Tryz.laysM146.s1_3 W hsh⟩
def u8s(l:List Nat):Array Value:=(l.map fun(n:Nat)=>Value.int .u8 (n:Int)).toArray
def accN:List Nat:=[128,191,160,191,128,159,144,191,128,143,0,0,0,0,0,0,0,0,0,0,0,0,0,0,0,0,0,0,0,0,0,0]
def withCells(h:Array Obj)(g:Nat)(cs:Array Value):Array Obj:=h.modify g fun
 | .cells _ t frozen=>.cells cs t frozen
 | o=>o
noncomputable def wit(os:Os):World:=
 let w0:=World.holding Tryz.prog os ⟨#[],#[],[]⟩
 {w0 with heap:=withCells (withCells w0.heap 2 (u8s accN)) 1 (u8s Go.Pinned.utf8FirstZ)}
theorem utf_met(os:Os)(args:Array Value):laidMet Tryz.prog utfList ((wit os).forCall (fun _ _=>0) ⟨#[],args,[]⟩).memory:=
 laidMet_of_run' 8 (by kernel_rfl) (by kernel_rfl)
end Go.Proofs.YtfbkameikhgciaaGreatDoor
end
namespace Go.PH
open Go.RowKit Go.Proofs Go.Proofs.Tryz
variable {j k : Nat} {w : World}
def qN(c k:Nat):List UInt8:=(YJ c k).getD []
theorem Vp(c k:Nat)(w:World)(he:MEnv w):
  Calls prog 88 #[.int .u8 (c:Int),.int .u8 (k:Int)] w fun e w'=>e= .returned (.tuple #[.string (str (qN c k)),.bool (YJ c k).isSome])∧Below w.heap.size w w':=by
 have bC:=Zu c w;have hf:=QX c k w he;have BC:(xi c).length≤20:=(jE c).2
 cases hr:ym c k with
 | none=>
  have qqaw:=()
  exact Z27_
 | some r=>
  exact Z27_
def rrC(r:RRow):List Value:=[.int .u8 (r.cls:Int),.int .u8 (r.code:Int),.string (str r.name),.string (str r.kinds)]
def rrV(r:RRow):Array Value:=#[.int .u8 (r.cls:Int),.int .u8 (r.code:Int),.string (str r.name),.string (str r.kinds)]
def rr0:RRow:=⟨0,0,[],[]⟩
theorem rrShape:RecShape rrC 4 where
 len _:=rfl
 one a u hu:=by simp[rrC]at hu;rcases hu with rfl|rfl|rfl|rfl<;>rfl
 pos:=by omega
def qI:Array Value:=(rowC rrC refTab).toArray
theorem zbw{g:Nat}{t:TypeId}(hb:Box w g t qI)(hj:j<refTab.length):∀i u,(rrC refTab[j])[i]?=some u→w.cell? ⟨g,j*4+i,none⟩=some u:=fun i u hu=>by
 refine hb.cell ?_;have hi:i<4:=by have:=(List.getElem?_eq_some_iff.1 hu).1;rwa[rrShape.len]at this
 have:=YC rrShape refTab j hj i hi;rw[hu]at this;simpa[qI]using this
theorem QA{P:Program}{o:Oper}{a:Act}{w':World}{K:Act→World→Prop}{Q:Exit→Act→World→Prop}{v:Value}(h:(execOp a.eval o).run P w= .ok (.value v) w')(hk:K (a.put o.dst v) w'):o.wp P a w K Q:=by
 unfold Oper.wp;simp only[h];exact hk
set_option maxRecDepth 100000 in
theorem VW(w:World):Calls prog 92 #[] w fun e w'=>e= .returned (.slice (some ⟨w.heap.size,0,none⟩) 44 44)∧w'=w.alloc (.cells qI 127):=by
 have ht:Hid (qI=(rowC rrC refTab).toArray):=Q2 rfl;go_enter func92,ntmps92;go_wp2_with(with_reducible refine h_A ?_)
 rename_i Q1 K1 h1 K0 h0
 refine QA (v:=.slice (some ⟨w.heap.size,0,none⟩) 44 44) (w':=w.alloc (.cells qI 127)) Wj ?_;refine h0 _ _ ?_;clear h0 K0;go_wp2_with(with_reducible refine h_A ?_);go_ret;exact⟨rfl,rfl⟩
theorem vV{a b:Int}{g h:ByteArray}:∀u∈ [Value.int .u8 a,.int .u8 b,.string g,.string h],u.oneCell'=true:=by
 intro u hu;simp at hu;rcases hu with rfl|rfl|rfl|rfl<;>rfl
def VU(w:World)(r:Option RRow)(e:Ending)(w':World):Prop:=e= .returned (.tuple #[.agg (rrV (r.getD rr0)),.bool r.isSome])∧Below w.heap.size w w'
theorem VV{α:Type}{p:α→Bool}{l:List α}(hj:j<l.length)(h:(l.take j).find? p=none):(p l[j]=true→l.find? p=some l[j])∧(p l[j]=false→(l.take (j+1)).find? p=none):=by
 constructor
 ·intro hp;have e:l.find? p=(l.take j++l.drop j).find? p:=by rw[v4]
  rw[e,v9,h,Option.none_or,List.drop_eq_getElem_cons hj,v1,hp]
 intro hp;rw[vz hj,v9,h];simp[hp]
theorem XN(c k:Nat)(w:World):Calls prog 59 #[.int .u8 (c:Int),.int .u8 (k:Int)] w (VU w (kH c k)):=by
 obtain⟨RS,sO⟩:∃RS,RS=kH c k:=⟨_,rfl⟩
 rw[←sO];have wI:Hid (RS=refTab.find? fun r=>decide (r.cls=c∧r.code=k)):=Q2 sO;clear sO;have Hy:=((Below.refl w.heap.size w).alloc (Nat.le_refl _) (.cells (rrV rr0) 127)).alloc Wz (.cells qI 127);have tm:=(Box.new w (rrV rr0) 127).alloc (.cells qI 127);have cY:=Box.new (w.alloc (.cells (rrV rr0) 127)) qI 127;have gN:=VW (w.alloc (.cells (rrV rr0) 127));have BZ:(w.alloc (.cells (rrV rr0) 127)).heap.size=w.heap.size+1:=by simp
 have LO:refTab.length=44:=by decide
 have HL:=Q2 LO;clear LO;rw[BZ]at cY gN;unfold rrV rr0 at tm gN cY Hy;simp only at tm gN cY Hy;clear BZ;go_enter func59,ntmps59;go_wp2_with(with_reducible refine h_A ?_);refine gN.mono ?_;rintro e w1 ⟨rfl,rfl⟩;clear gN;generalize((w.alloc (.cells #[.int .u8 ((0:Nat):Int),.int .u8 ((0:Nat):Int),.string (str []),.string (str [])] 127)).alloc (.cells qI 127))=w1 at*;go_wp2_with(with_reducible refine h_A ?_);go_loopw [7] (fun s wr=>∃(j:Nat),j≤44∧s= .int .i64 j∧Hid ((refTab.take j).find? (fun r=>decide (r.cls=c∧r.code=k))=none)∧Box wr w.heap.size 127 #[.int .u8 ((0:Nat):Int),.int .u8 ((0:Nat):Int),.string (str []),.string (str [])]∧Box wr (w.heap.size+1) 127 qI∧Below w.heap.size w wr) (fun s _=>44-(KL s).toNat)
 case atStart=>exact⟨0,by omega,rfl,Q2 rfl,tm,cY,Hy⟩
 obtain⟨j,hj,rfl,HN,hz,hb,hB⟩:=hrel;clear tm cY Hy;by_cases hlt:j<44
 ·have LC:j<refTab.length:=by rw[HL.out];exact hlt
  have hjn:(j:Int)<44:=by omega
  have hc:=zbw hb LC;have HT:=Q2 (VV LC HN.out);have cp:=KQ _ (kv LC);generalize refTab[j]=r at*;obtain⟨rc,rk,rn,rd⟩:=r;have k0:wr.cell? ⟨w.heap.size+1,j*4,none⟩=_:=hc 0 _ rfl;have k1:=hc 1 _ rfl;have k2:=hc 2 _ rfl;have k3:=hc 3 _ rfl;clear hc cp;by_cases h1:rc=c
  ·subst h1;by_cases h2:rk=k
   ·subst h2;have HR:Hid (RS=some ⟨rc,rk,rn,rd⟩):=Q2 (by rw[wI.out];exact HT.out.1 Wz);clear HT HN wI;go_wp2_with(with_reducible refine h_B ?_);refine zc (zn (v:=.agg #[.int .u8 (rc:Int),.int .u8 (rk:Int),.string (str rn),.string (str rd)]) (vs:=[.int .u8 (rc:Int),.int .u8 (rk:Int),.string (str rn),.string (str rd)]) rfl rfl rfl rfl hz rfl Wj Wz vV #[.int .u8 (rc:Int),.int .u8 (rk:Int),.string (str rn),.string (str rd)] Wz ?_);intro w5 fT H9 _;have bw:=hB.grown H9 hB.size Wx;clear k0 k1 k2 k3 hz hb hB;exact Z4t_
   have nh:Hid ((refTab.take (j+1)).find? (fun r=>decide (r.cls=rc∧r.code=k))=none):=Q2 (HT.out.2 (by simp[h2]));(have e2:((rk:Int)==(k:Int))=false:=by simp;omega);clear HT HN h2;exact Z4z_
  have nh:Hid ((refTab.take (j+1)).find? (fun r=>decide (r.cls=c∧r.code=k))=none):=Q2 (HT.out.2 (by simp[h1]));have e1:((rc:Int)==(c:Int))=false:=by simp;omega
  clear HT HN h1;exact Z4z_
 obtain rfl:j=44:=by omega
 have HR:Hid (RS=none):=Q2 (by
  rw[wI.out];have:=HN.out
  rwa[ky (by rw[HL.out];omega)]at this)
 clear HN wI;go_wp2_with(with_reducible refine h_B ?_);refine zc (zn (v:=.agg #[.int .u8 0,.int .u8 0,.string ⟨#[]⟩,.string ⟨#[]⟩]) (vs:=[.int .u8 0,.int .u8 0,.string ⟨#[]⟩,.string ⟨#[]⟩]) rfl rfl rfl rfl hz rfl Wj Wz vV #[.int .u8 0,.int .u8 0,.string ⟨#[]⟩,.string ⟨#[]⟩] Wz ?_);intro w5 fT H9 _;have bw:=hB.grown H9 hB.size Wx;clear hz hb hB;exact Z4t_
end Go.PH
