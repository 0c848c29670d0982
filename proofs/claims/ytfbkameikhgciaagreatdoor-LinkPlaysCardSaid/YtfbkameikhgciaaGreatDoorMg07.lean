/- Parts. -/
import Derived.Test.YtfbkameikhgciaaGreatDoorProg
import Derived.Test.YtfbkameikhgciaaGreatDoorMg05
import Derived.Test.YtfbkameikhgciaaGreatDoorMg06
set_option linter.all false
set_option maxRecDepth 20000
set_option maxHeartbeats 8000000
open Go.RowKit.Below renaming refl → KS
open Go.Lib renaming hid → Q1, decodeN → VB, decodeGo → vv
open List renaming take_succ_eq_append_getElem → K0, length_drop → Vy, take_of_length_le → Vx, drop_eq_nil_of_le → q5, drop_eq_getElem_cons → q7, getElem_mem → q8, length_pos_iff → kI, getElem_toArray → kv, getElem_cons_zero → ky, mem_singleton → kx, getElem_cons_succ → k7, length_append → k8, mem_append → k9, nodup_append → vz
open Nat renaming lt_of_lt_of_le → q6, le_trans → q9, le_refl → k6
open Go.RowKit renaming intOf → Q2
open Go.World renaming block_lt_of_cell? → k5
namespace Go.PH
open Go.RowKit Go.Proofs Go.Proofs.Tryz
variable {base c i k n : Nat} {A : Option Addr} {w : World}
theorem qp(v u:Vl):yJ v u=(decide (v.kind=u.kind)&&decide (v.n=u.n)&&decide (v.s=u.s)&&decide (v.keys=u.keys)&&xu v.list u.list):=by
 cases v;rw[yJ];rfl
theorem jZ(a b:List UInt8):((str a).toList==(str b).toList)=decide (a=b):=by
 rw[zl,zl];by_cases h:a=b
 ·subst h;simp
 simp[h]
theorem jH{B:Nat}{L:List (List UInt8)}(hr:Rd w B 1 A n c (L.map txV))(hk:k<n)(bI:k<L.length):∃b off,A=some ⟨b,off,none⟩∧∀W,Below B w W→W.cell? ⟨b,off+k,none⟩=some (.string (str L[k])):=by
 obtain⟨b,off,u,hA,hb,hu,ez⟩:=hr.at_k (k:=k) hk;refine⟨b,off,hA,fun W hW=>?_⟩;rw[List.getElem?_map,List.getElem?_eq_getElem bI]at hu;injection hu with hu
 rw[hW.cell (p:=⟨b,off+k,none⟩) hb,ez,←hu];rfl
theorem KX(A:Option Addr)(n c:Nat)(K:List (List UInt8))(A':Option Addr)(n' c':Nat)(K':List (List UInt8))(w:World)(hr:Rd w w.heap.size 1 A n c (K.map txV))(i5:Rd w w.heap.size 1 A' n' c' (K'.map txV))(hn:n≤140737488351232)(Dp:n'≤140737488351232):
  Calls prog 150 #[.slice A n c,.slice A' n' c'] w fun e w'=>e= .returned (.bool (decide (K=K')))∧Below w.heap.size w w':=by
 have hl:K.length=n:=by have:=hr.len;simpa using this
 have iV:K'.length=n':=by have:=i5.len;simpa using this
 have HL:=Q1 hl;have PP:=Q1 iV;clear hl iV;by_cases de:n=n'
 ·subst de;have g0:((n:Int)!=(n:Int))=false:=by simp
  go_enter func150,ntmps150;go_wp2_with(with_reducible refine h_A ?_);clear g0;go_loopw [13] (fun s wr=>∃i:Nat,i≤n∧s= .int .i64 i∧Below w.heap.size w wr∧Hid (K.take i=K'.take i)) (fun s _=>n-(Q2 s).toNat)
  case atStart=>exact⟨0,by omega,rfl,KS _ _,Q1 Wz⟩
  obtain⟨i,hi,rfl,hB,HC⟩:=hrel;by_cases hlt:i<n
  ·(have g1:(i:Int)<(n:Int):=by omega);(have BB:i<K.length:=by rw[HL.out];exact hlt);(have iZ:i<K'.length:=by rw[PP.out];exact hlt);obtain⟨b,off,rfl,hC⟩:=jH hr hlt BB;obtain⟨b',off',rfl,wM⟩:=jH i5 hlt iZ;have y0:=hC wr hB;have z0:=wM wr hB;have HT:Hid (K.take (i+1)=K.take i++ [K[i]]):=Q1 (K0 BB);have FQ:Hid (K'.take (i+1)=K'.take i++ [K'[i]]):=Q1 (K0 iZ);have HX:Hid (∀e:K=K',K[i]=K'[i]):=Q1 (fun e=>by subst e;rfl);clear hC wM;generalize K[i]=a at*;generalize K'[i]=b2 at*;have Bo:=jZ a b2;(have Bx:((str a).toList !=(str b2).toList)= !decide (a=b2):=by rw[bne,Bo]);by_cases eu:a=b2
   ·(have g2:decide (a=b2)=true:=by simpa using eu);rw[g2]at Bo Bx;have cL:Hid (K.take (i+1)=K'.take (i+1)):=Q1 (by rw[HT.out,FQ.out,HC.out,eu]);subst eu;simp only[Bool.not_true]at Bx;go_wp2_with(with_reducible refine h_A ?_);go_quiet(fail);go_wp2_with(with_reducible refine h_A ?_);exact⟨⟨i+1,by omega,by go_num,za hB _,cL⟩,by simp[Q2];omega⟩
   have qqd6:=();exact Z30_
  have g1:¬(i:Int)<(n:Int):=by omega
  have HF:Hid (decide (K=K')=true):=Q1 (decide_eq_true (by
   have:=HC.out
   rwa[Vx (by rw[HL.out];omega),Vx (by rw[PP.out];omega)]at this))
  exact Z67_
 have g0:((n:Int)!=(n':Int))=true:=by simp;omega
 have HF:Hid (decide (K=K')=false):=Q1 (decide_eq_false fun e=>de (by rw[←HL.out,←PP.out,e]));clear de;go_enter func150,ntmps150;exact Z5w_
def jI(w:World)(v u:Vl)(e:Ending)(w':World):Prop:=e= .returned (.bool (yJ v u))∧Below w.heap.size w w'
theorem vC(x y:Vl)(l m:List Vl):xu (x::l) (y::m)=(yJ x y&&xu l m):=by rw[xu]
theorem ZE:∀{l m:List Vl},l.length≠m.length→xu l m=false
 | [],[],h=>absurd rfl h
 | [],_::_,_=>by simp[xu]
 | _::_,[],_=>by simp[xu]
 | x::l,y::m,h=>by rw[vC,ZE NQ];simp
theorem KY(v u:Vl)(h k:VH)(w:World)(hv:RVw w v h)(hu:RVw w u k)(ih:∀x∈v.list,∀(y:Vl) (hx hy:VH) (W:World),RVw W x hx→RVw W y hy→Calls prog 126 #[.agg (vlV x hx),.agg (vlV y hy)] W (jI W x y)):
  Calls prog 151 #[.slice h.A2 v.list.length h.c2,.slice k.A2 u.list.length k.c2,.func (.func 126) #[] #[]] w fun e w'=>e= .returned (.bool (xu v.list u.list))∧Below w.heap.size w w':=by
 obtain⟨K1,j1,K2,j2⟩:=h;obtain⟨M1,i1,M2,i2⟩:=k;have BE:=fun{i:Nat} (hi:i<v.list.length)=>hv.elem hi
 have dl:=fun{i:Nat} (hi:i<u.list.length)=>hu.elem hi
 simp only at BE dl ⊢;obtain⟨N,hN⟩:∃N,N=v.list.length:=⟨_,rfl⟩
 have GX:N≤140737488351232:=by rw[hN];exact hv.bounds.2.2.2.2.2
 obtain⟨M,hM⟩:∃M,M=u.list.length:=⟨_,rfl⟩
 have hMm:M≤140737488351232:=by rw[hM];exact hu.bounds.2.2.2.2.2
 rw[←hN,←hM];have HN:=Q1 hN;have HM:=Q1 hM;have IH:=Q1 ih;clear hN hM hv hu ih;by_cases de:N=M
 ·subst de;have g0:((N:Int)!=(N:Int))=false:=by simp
  go_enter func151,ntmps151;go_wp2_with(with_reducible refine h_A ?_);clear g0;go_loopw [17] (fun s wr=>∃i:Nat,i≤N∧s= .int .i64 i∧Below w.heap.size w wr∧Hid (xu (v.list.drop i) (u.list.drop i)=xu v.list u.list)) (fun s _=>N-(Q2 s).toNat)
  case atStart=>exact⟨0,by omega,rfl,KS _ _,Q1 rfl⟩
  obtain⟨i,hi,rfl,hB,HC⟩:=hrel;by_cases hlt:i<N
  ·(have g1:(i:Int)<(N:Int):=by omega);(have BB:i<v.list.length:=by rw[←HN.out];exact hlt);(have iZ:i<u.list.length:=by rw[←HM.out];exact hlt);obtain⟨b,off,hx,rfl,ek,HX⟩:=BE BB;obtain⟨b',off',hy,rfl,LD,HY⟩:=dl iZ;obtain⟨k0,k1,k2,k3,k4⟩:=HX wr hB;have HD:Hid (xu (v.list.drop i) (u.list.drop i)=(yJ v.list[i] u.list[i]&&xu (v.list.drop (i+1)) (u.list.drop (i+1)))):=Q1 (by rw[q7 BB,q7 iZ,vC]);(have bO:=fun(W:World) (hW:Below w.heap.size w W)=>IH.out _ (q8 BB) u.list[i] hx hy W (ek.up hW) (LD.up hW));clear HX BE ek dl LD;generalize v.list[i]=x at*;generalize u.list[i]=y at*;obtain⟨xb,w1,Hg,Hi,hX,Ha⟩:=zg wr #[.int .u8 (x.kind:Int),.int .u64 (x.n:Int),.string (str x.s),.slice hx.A1 x.keys.length hx.c1,.slice hx.A2 x.list.length hx.c2] 78;have iS:=hB.trans (Ha.mono hB.size);obtain⟨q0,q1,q2,q3,q4⟩:=HY w1 iS;obtain⟨yb,w2,iB,dF,hY,Hc⟩:=zg w1 #[.int .u8 (y.kind:Int),.int .u64 (y.n:Int),.string (str y.s),.slice hy.A1 y.keys.length hy.c1,.slice hy.A2 y.list.length hy.c2] 78;have ng:=iS.trans (Hc.mono iS.size);have h1:=bO w2 ng;have Hk:=hX.below Hc;clear bO HY hX;unfold vlV at h1;have c0:=Hk.c0;have c1:=Hk.c1;have c2:=Hk.c2;have c3:=Hk.c3;have c4:=Hk.c4;have d0:=hY.c0;have d1:=hY.c1;have d2:=hY.c2;have d3:=hY.c3;have d4:=hY.c4;go_upto_region 6 with fail;rw[←Hg,←Hi];clear Hg Hi k0 k1 k2 k3 k4;go_upto_region 7 with fail;rw[←iB,←dF];clear iB dF q0 q1 q2 q3 q4;unfold jI at h1
   cases hs:yJ x y
   ·have qqch:=();exact Z2s_
   exact Z2s_
  have g1:¬(i:Int)<(N:Int):=by omega
  have HF:Hid (xu v.list u.list=true):=Q1 (by
   rw[←HC.out,q5 MX,q5 (by rw[←HM.out];omega),xu])
  clear BE dl;exact Z67_
 have g0:((N:Int)!=(M:Int))=true:=by simp;omega
 have HF:Hid (xu v.list u.list=false):=Q1 (ZE (by rw[←HN.out,←HM.out];exact de));clear de BE dl;go_enter func151,ntmps151;exact Z5w_
theorem KZ(v:Vl):∀(u:Vl) (h k:VH) (w:World),RVw w v h→RVw w u k→Calls prog 126 #[.agg (vlV v h),.agg (vlV u k)] w (jI w v u):=by
 refine Vl.ind (P:=fun v=>∀(u:Vl) (h k:VH) (w:World),RVw w v h→RVw w u k→Calls prog 126 #[.agg (vlV v h),.agg (vlV u k)] w (jI w v u)) ?_ v;intro v ih u h k w hv hu;unfold vlV jI;obtain⟨xb,w1,Hg,Hi,hX,Ha⟩:=zg w #[.int .u8 (v.kind:Int),.int .u64 (v.n:Int),.string (str v.s),.slice h.A1 v.keys.length h.c1,.slice h.A2 v.list.length h.c2] 78;obtain⟨yb,w2,iB,dF,hY,Hc⟩:=zg w1 #[.int .u8 (u.kind:Int),.int .u64 (u.n:Int),.string (str u.s),.slice k.A1 u.keys.length k.c1,.slice k.A2 u.list.length k.c2] 78;have BU:xb+1=yb:=by rw[iB,Hi,Hg];simp
 have hB:=Ha.trans (Hc.mono Ha.size);have Hk:=hX.below Hc;have ff:=hv.up hB;have p9:=hu.up hB;have c0:=Hk.c0;have c1:=Hk.c1;have c2:=Hk.c2;have c3:=Hk.c3;have c4:=Hk.c4;have d0:=hY.c0;have d1:=hY.c1;have d2:=hY.c2;have d3:=hY.c3;have d4:=hY.c4;have bV:=jZ v.s u.s;obtain⟨xs,_,_,_,lA⟩:=ff.parts;obtain⟨ys,_,_,_,wV⟩:=p9.parts;have mI:=KX h.A1 v.keys.length h.c1 v.keys k.A1 u.keys.length k.c1 u.keys w2 lA.1 wV.1 hv.bounds.2.2.2.2.1 hu.bounds.2.2.2.2.1;have Gj:=fun(W:World) (hW:Below w2.heap.size w2 W)=>KY v u h k W (ff.up hW) (p9.up hW) (fun x hx y=>ih x hx y)
 clear iB;by_cases hk:v.kind=u.kind
 ·have g1:((v.kind:Int)==(u.kind:Int))=true:=by simp[hk]
  by_cases hn:v.n=u.n
  ·(have g2:((v.n:Int)==(u.n:Int))=true:=by simp[hn]);by_cases hs:v.s=u.s
   ·(have g3:decide (v.s=u.s)=true:=by simpa using hs);rw[g3]at bV;clear g3;by_cases lT:v.keys=u.keys
    ·(have g4:decide (v.keys=u.keys)=true:=by simpa using lT);rw[g4]at mI;clear g4;have HF:Hid (yJ v u=xu v.list u.list):=Q1 (by rw[qp];simp[hk,hn,hs,lT]);clear hk hn hs lT ih;rw[HF.out];generalize xu v.list u.list=r at*;go_enter func126,ntmps126;go_upto_region 1 with fail;rw[←Hg,←Hi,BU,←dF];clear Hg Hi BU dF;go_wp2_with(with_reducible refine h_A ?_);refine mI.mono ?_;rintro e w3 ⟨rfl,Hh⟩;have SE:=Gj w3 Hh;have bS:=Hk.below Hh;have ia:=hY.below Hh;clear c0 c1 c2 c3 c4 d0 d1 d2 d3 d4 mI Gj;have c0:=bS.c0;have c1:=bS.c1;have c2:=bS.c2;have c3:=bS.c3;have c4:=bS.c4;have d0:=ia.c0;have d1:=ia.c1;have d2:=ia.c2;have d3:=ia.c3;have d4:=ia.c4;go_wp2_with(with_reducible refine h_A ?_);refine SE.mono ?_;rintro e w4 ⟨rfl,Hn⟩;clear c0 c1 c2 c3 c4 d0 d1 d2 d3 d4;go_wp2_with(with_reducible refine h_A ?_);go_ret;exact⟨rfl,hB.trans ((Hh.mono hB.size).trans (Hn.mono (q9 hB.size Hh.size)))⟩
    (have g4:decide (v.keys=u.keys)=false:=by simpa using lT);rw[g4]at mI;clear g4 Gj ih;have HF:Hid (yJ v u=false):=Q1 (by rw[qp];simp[lT]);clear lT hk hn hs;go_enter func126,ntmps126;go_upto_region 1 with fail;rw[←Hg,←Hi,BU,←dF];clear Hg Hi BU dF;go_wp2_with(with_reducible refine h_A ?_);refine mI.mono ?_;rintro e w3 ⟨rfl,Hh⟩;clear c0 c1 c2 c3 c4 d0 d1 d2 d3 d4 mI;go_wp2_with(with_reducible refine h_A ?_);go_ret;rw[HF.out];exact⟨rfl,hB.trans (Hh.mono hB.size)⟩
   have qqct:=();exact Z2w_
  have qqce:=();exact Z2r_
 have qqcg:=();exact Z2r_
theorem qv(v:Vl):∀(u:Vl) (h k:VH) (w:World),RVw w v h→RVw w u k→Calls prog 93 #[.agg (vlV v h),.agg (vlV u k)] w (jI w v u):=by
 refine Vl.ind (P:=fun v=>∀(u:Vl) (h k:VH) (w:World),RVw w v h→RVw w u k→Calls prog 93 #[.agg (vlV v h),.agg (vlV u k)] w (jI w v u)) ?_ v;intro v ih u h k w hv hu;obtain⟨K1,j1,K2,j2⟩:=h;obtain⟨M1,i1,M2,i2⟩:=k;unfold vlV jI;simp only;obtain⟨xb,w1,Hg,Hi,hX,Ha⟩:=zg w #[.int .u8 (v.kind:Int),.int .u64 (v.n:Int),.string (str v.s),.slice K1 v.keys.length j1,.slice K2 v.list.length j2] 78;obtain⟨yb,w2,iB,dF,hY,Hc⟩:=zg w1 #[.int .u8 (u.kind:Int),.int .u64 (u.n:Int),.string (str u.s),.slice M1 u.keys.length i1,.slice M2 u.list.length i2] 78;have BU:xb+1=yb:=by rw[iB,Hi,Hg];simp
 have hB:=Ha.trans (Hc.mono Ha.size);have Hk:=hX.below Hc;have ff:=hv.up hB;have p9:=hu.up hB;have c0:=Hk.c0;have c1:=Hk.c1;have c2:=Hk.c2;have c3:=Hk.c3;have c4:=Hk.c4;have d0:=hY.c0;have d1:=hY.c1;have d2:=hY.c2;have d3:=hY.c3;have d4:=hY.c4;have bV:((str v.s).toList !=(str u.s).toList)= !decide (v.s=u.s):=by rw[bne,jZ]
 have dw:=jZ v.s u.s;obtain⟨xs,_,_,_,lA⟩:=ff.parts;obtain⟨ys,_,_,_,wV⟩:=p9.parts;have Pj:=hv.bounds;have hbu:=hu.bounds;have BE:=fun{i:Nat} (hi:i<v.list.length)=>ff.elem hi
 have dl:=fun{i:Nat} (hi:i<u.list.length)=>p9.elem hi
 simp only at lA wV BE dl;clear iB hX hv hu;by_cases hk:v.kind=u.kind
 ·have g1:((v.kind:Int)!=(u.kind:Int))=false:=by simp[hk]
  by_cases hn:v.n=u.n
  ·(have g2:((v.n:Int)!=(u.n:Int))=false:=by simp[hn]);by_cases hs:v.s=u.s
   ·(have g3:decide (v.s=u.s)=true:=by simpa using hs);rw[g3]at bV dw;simp only[Bool.not_true]at bV;clear g3;by_cases iL:v.keys.length=u.keys.length
    ·(have g4:((v.keys.length:Int)!=(u.keys.length:Int))=false:=by simp[iL]);by_cases fB:v.list.length=u.list.length
     ·(have g5:((v.list.length:Int)!=(u.list.length:Int))=false:=by simp[fB]);have HE:Hid (yJ v u=(decide (v.keys=u.keys)&&xu v.list u.list)):=Q1 (by rw[qp];simp[hk,hn,hs]);have Ut:=Q1 iL;have pJ:=Q1 fB;have IH:=Q1 ih;have lf:=Pj.2.2.2.2.1;have dG:=Pj.2.2.2.2.2;clear hk hn hs iL fB ih Pj hbu;rw[HE.out];go_enter func93,ntmps93;go_upto_region 1 with fail;rw[←Hg,←Hi,BU,←dF];clear Hg Hi BU dF;go_wp2_with(with_reducible refine h_A ?_);clear c0 c1 c2 c3 c4 d0 d1 d2 d3 d4 g1 g2 g4 g5 bV dw;go_loopw [5] (fun s wr=>∃i:Nat,i≤v.keys.length∧s= .int .i64 i∧Box wr xb 78 #[.int .u8 (v.kind:Int),.int .u64 (v.n:Int),.string (str v.s),.slice K1 v.keys.length j1,.slice K2 v.list.length j2]∧Box wr yb 78 #[.int .u8 (u.kind:Int),.int .u64 (u.n:Int),.string (str u.s),.slice M1 u.keys.length i1,.slice M2 u.list.length i2]∧Below w.heap.size w wr∧Below w2.heap.size w2 wr∧Hid (v.keys.take i=u.keys.take i)) (fun s _=>v.keys.length-(Q2 s).toNat)
      case atStart=>exact⟨0,by omega,rfl,Hk,hY,hB,KS _ _,Q1 Wz⟩
      as_aux_lemma=>
      clear Hk hY hB;obtain⟨i,hi,rfl,bS,ia,Hh,BD,HC⟩:=hrel;have c3:=bS.c3;have d3:=ia.c3;simp only[kv,k7,ky]at c3 d3;by_cases hlt:i<v.keys.length
      ·(have g1:(i:Int)<(v.keys.length:Int):=by omega);(have iZ:i<u.keys.length:=by rw[←Ut.out];exact hlt);obtain⟨b,off,rfl,hC⟩:=jH lA.1 hlt hlt;obtain⟨b',off',rfl,wM⟩:=jH wV.1 iZ iZ;have y0:=hC wr BD;have z0:=wM wr BD;(have Gp:(i:Int)<(u.keys.length:Int):=by omega);have HT:Hid (v.keys.take (i+1)=v.keys.take i++ [v.keys[i]]):=Q1 (K0 hlt);have FQ:Hid (u.keys.take (i+1)=u.keys.take i++ [u.keys[i]]):=Q1 (K0 iZ);have HX:Hid (∀e:v.keys=u.keys,v.keys[i]=u.keys[i]):=Q1 (fun e=>by simp only[e]);clear hC wM;generalize v.keys[i]=a at*;generalize u.keys[i]=b2 at*;have Bo:=jZ a b2;(have Bx:((str a).toList !=(str b2).toList)= !decide (a=b2):=by rw[bne,Bo]);by_cases eu:a=b2
       ·(have g2:decide (a=b2)=true:=by simpa using eu);rw[g2]at Bo Bx;have cL:Hid (v.keys.take (i+1)=u.keys.take (i+1)):=Q1 (by rw[HT.out,FQ.out,HC.out,eu]);subst eu;simp only[Bool.not_true]at Bx;clear BE dl;go_wp2_with(with_reducible refine h_A ?_);go_quiet(fail);go_wp2_with(with_reducible refine h_A ?_);exact⟨⟨i+1,by omega,by go_num,bS,ia,za Hh _,za BD _,cL⟩,by simp[Q2];omega⟩
       exact Z30_
      have g1:¬(i:Int)<(v.keys.length:Int):=by omega
      have Tw:Hid (decide (v.keys=u.keys)=true):=Q1 (decide_eq_true (by
       have:=HC.out
       rwa[Vx Wq,Vx (by have:=Ut.out;omega)]at this))
      clear lA wV;go_wp2_with(with_reducible refine h_A ?_);clear c3 d3;go_loopw [6] (fun s wr=>∃i:Nat,i≤v.list.length∧s= .int .i64 i∧Box wr xb 78 #[.int .u8 (v.kind:Int),.int .u64 (v.n:Int),.string (str v.s),.slice K1 v.keys.length j1,.slice K2 v.list.length j2]∧Box wr yb 78 #[.int .u8 (u.kind:Int),.int .u64 (u.n:Int),.string (str u.s),.slice M1 u.keys.length i1,.slice M2 u.list.length i2]∧Below w.heap.size w wr∧Below w2.heap.size w2 wr∧Hid (xu (v.list.drop i) (u.list.drop i)=xu v.list u.list)) (fun s _=>v.list.length-(Q2 s).toNat)
      case atStart=>exact⟨0,by omega,rfl,bS,ia,Hh,BD,Q1 rfl⟩
      as_aux_lemma=>
      clear bS ia Hh BD;obtain⟨i,hi,rfl,bS,ia,Hh,BD,HC⟩:=hrel;have c4:=bS.c4;have d4:=ia.c4;simp only[kv,k7,ky]at c4 d4;by_cases hlt:i<v.list.length
      ·(have g1:(i:Int)<(v.list.length:Int):=by omega);(have iZ:i<u.list.length:=by rw[←pJ.out];exact hlt);(have Gp:(i:Int)<(u.list.length:Int):=by omega);obtain⟨b,off,hx,rfl,ek,HX⟩:=BE hlt;obtain⟨b',off',hy,rfl,LD,HY⟩:=dl iZ;have HD:Hid (xu (v.list.drop i) (u.list.drop i)=(yJ v.list[i] u.list[i]&&xu (v.list.drop (i+1)) (u.list.drop (i+1)))):=Q1 (by rw[q7 hlt,q7 iZ,vC]);(have bO:=fun(W:World) (hW:Below w2.heap.size w2 W)=>IH.out _ (q8 hlt) u.list[i] hx hy W (ek.up hW) (LD.up hW));clear BE ek dl LD;generalize v.list[i]=x at*;generalize u.list[i]=y at*;unfold vlV jI at bO;go_upto_region 11 with fail;clear c4 d4;refine zt (fun W:World=>Box W xb 78 #[.int .u8 (v.kind:Int),.int .u64 (v.n:Int),.string (str v.s),.slice K1 v.keys.length j1,.slice (some ⟨b,off,none⟩) v.list.length j2]∧Box W yb 78 #[.int .u8 (u.kind:Int),.int .u64 (u.n:Int),.string (str u.s),.slice M1 u.keys.length i1,.slice (some ⟨b',off',none⟩) u.list.length i2]∧Below w.heap.size w W∧Below w2.heap.size w2 W) Wj ?_;have hS:Box wr.drew xb 78 #[.int .u8 (v.kind:Int),.int .u64 (v.n:Int),.string (str v.s),.slice K1 v.keys.length j1,.slice (some ⟨b,off,none⟩) v.list.length j2]∧Box wr.drew yb 78 #[.int .u8 (u.kind:Int),.int .u64 (u.n:Int),.string (str u.s),.slice M1 u.keys.length i1,.slice (some ⟨b',off',none⟩) u.list.length i2]∧Below w.heap.size w wr.drew∧Below w2.heap.size w2 wr.drew:=⟨bS,ia,za Hh 1,za BD 1⟩;generalize wr.drew=wd at*;refine rg_t 0 hS ?_;simp only[kv,ky,Act.put,List.setIfInBounds_toArray,List.set_cons_zero,List.set_cons_succ];refine ze 1 (v:=?_) rfl Wj Wj Wj hS rfl ?_ ?_;rotate_left
       ·intro wS He;have k0:=He.1.cell (j:=4) rfl;go_simp;(with_reducible rfl)
       simp only[g_S];refine rg_t 2 hS ?_;simp only[g_S];refine rg_t 3 hS ?_;simp only[g_S];refine ze 4 (v:=?_) rfl Wj Wj Wj hS rfl ?_ ?_;rotate_left
       ·intro wS He;obtain⟨k0,k1,k2,k3,k4⟩:=HX _ He.2.2.2;go_simp;(with_reducible rfl)
       simp only[g_S];refine rg_t 5 hS ?_;simp only[g_S];refine ze 6 (v:=?_) rfl Wj Wj Wj hS rfl ?_ ?_;rotate_left
       ·intro wS He;have k0:=He.2.1.cell (j:=4) rfl;go_simp;(with_reducible rfl)
       simp only[g_S];refine rg_t 7 hS ?_;simp only[g_S];refine rg_t 8 hS ?_;simp only[g_S];refine ze 9 (v:=?_) rfl Wj Wj Wj hS rfl ?_ ?_;rotate_left
       ·intro wS He;obtain⟨k0,k1,k2,k3,k4⟩:=HY _ He.2.2.2;go_simp;(with_reducible rfl)
       simp only[g_S];refine zj 10 rfl Wj rfl (fun K hK=>?_);go_simp;refine(bO _ hS.2.2.2).mono ?_;rintro e w5 ⟨rfl,bw⟩;obtain⟨Bg,Om,Hn,nf⟩:=hS;have hS:Box w5 xb 78 #[.int .u8 (v.kind:Int),.int .u64 (v.n:Int),.string (str v.s),.slice K1 v.keys.length j1,.slice (some ⟨b,off,none⟩) v.list.length j2]∧Box w5 yb 78 #[.int .u8 (u.kind:Int),.int .u64 (u.n:Int),.string (str u.s),.slice M1 u.keys.length i1,.slice (some ⟨b',off',none⟩) u.list.length i2]∧Below w.heap.size w w5∧Below w2.heap.size w2 w5:=⟨Bg.below bw,Om.below bw,Hn.trans (bw.mono Hn.size),nf.trans (bw.mono nf.size)⟩;clear Bg Om Hn nf bw bS ia Hh BD HX HY bO;refine hK _ _ hS ?_;clear hK K;(try simp only[g_S]);refine rg_t 11 hS ?_;simp only[g_S];refine zz Wj ?_;obtain⟨Bg,Om,Hn,nf⟩:=hS
       cases hs:yJ x y
       ·have HF:Hid (xu v.list u.list=false):=Q1 Nz;clear hs;go_wp2_with(with_reducible refine h_A ?_);go_ret;rw[Tw.out,Bool.true_and,HF.out];exact⟨rfl,Hn⟩
       have cL:Hid (xu (v.list.drop (i+1)) (u.list.drop (i+1))=xu v.list u.list):=Q1 Nz;clear hs;go_wp2_with(with_reducible refine h_A ?_);exact⟨⟨i+1,by omega,by go_num,Bg,Om,Hn,nf,cL⟩,by simp[Q2];omega⟩
      have g1:¬(i:Int)<(v.list.length:Int):=by omega
      have HF:Hid (xu v.list u.list=true):=Q1 (by
       rw[←HC.out,q5 Wq,q5 (by have:=pJ.out;omega),xu])
      clear BE dl;go_wp2_with(with_reducible refine h_A ?_);go_ret;rw[Tw.out,Bool.true_and,HF.out];exact⟨rfl,Hh⟩
     have qqcc:=();exact Z2r_
    exact Z2r_
   exact Z2w_
  have qqcd:=();exact Z2r_
 have qqcf:=();exact Z2r_
end Go.PH
section
namespace Go.PH
open Go.RowKit Go.Proofs Go.ChangeShapes Go.WideShapes Go.ChangeAt Go.Deep
section
variable {H : Type} {enc : TypeId × Value → H} {P : Program} {W : World}
def ReaderN(N:Nat)(enc:TypeId×Value→H)(P:Program)(W:World)(t:TypeId){α:Type}(R:α→List Value→Prop):Prop:=
 ∀(fuel:Nat),fuel<N→∀(cs:List Value) (d:DataW H) (p:List MemPlace),DataW.trod enc P W 0 (fun _=>true) true fuel t cs=some (d,p)→(∀x∈d.weights P t,x≤reachBytes)→∃a,R a cs
theorem Reader.at{N:Nat}{t:TypeId}{α:Type}{R:α→List Value→Prop}(h:Reader enc P W t R):ReaderN N enc P W t R:=fun fuel _=>h fuel
theorem ReaderN.all{t:TypeId}{α:Type}{R:α→List Value→Prop}(h:∀N,ReaderN N enc P W t R):Reader enc P W t R:=fun fuel=>h (fuel+1) fuel (Nat.lt_succ_self _)
theorem zch{xs:List Value}:∀{L:List (List UInt8)},xs.length=L.length*1→(∀i (h:i<L.length),RStr L[i] ((xs.drop (i*1)).take 1))→xs=L.map txV∧∀k∈L,k.length≤140737488351232:=by
 intro L
 induction L generalizing xs with
 | nil=>intro hx _;exact⟨List.eq_nil_of_length_eq_zero (by simpa using hx),fun k hk=>by cases hk⟩
 | cons a L ih=>
  intro hx h
  match xs,hx with
  | x::xs,hx=>
   have h0:=h 0 Wz;obtain⟨Gz,S7⟩:=h0;simp at Gz S7
   obtain⟨e1,e2⟩:=ih (xs:=xs) (by simpa using hx) (fun i hi=>by
    have:=h (i+1) Hz;rw[show(i+1)*1=i*1+1 by omega,List.drop_succ_cons]at this
    exact this)
   refine⟨by rw[List.map_cons,←e1,Gz];rfl,fun k hk=>?_⟩;rcases List.mem_cons.1 hk with rfl|hk
   ·exact S7
   exact e2 k hk
end
variable {H : Type} {enc : TypeId × Value → H} {W : World}
theorem zc9{w:World}{size n c:Nat}{A:Option Addr}{xs:List Value}(h:Rd w w.heap.size size A n c xs):RdX w (fun g=>g<w.heap.size) size A n c xs:=⟨h,fun hn g hg=>by
 obtain⟨b,off,e,hb,_⟩:=h.at_ hn;subst e;injection hg with hg
 rw[←hg];exact hb⟩
end Go.PH
end
namespace Go.PH
open Go.RowKit Go.Proofs Go.Proofs.Tryz
variable {base c i k n : Nat} {A : Option Addr} {w : World}
end Go.PH
section
namespace Go.PH
end Go.PH
end
namespace Go.PH
open Go.RowKit Go.Proofs Go.Proofs.Tryz
variable {base c i k n : Nat} {A : Option Addr} {w : World}
theorem slTx:SlT prog 22 9 1 16 (.string ⟨#[]⟩):=SlT.mk' underlying22 Wj rfl Wq
theorem slVl:SlT prog 76 78 5 80 (.agg #[.int .u8 0,.int .u64 0,.string ⟨#[]⟩,.slice none 0 0,.slice none 0 0]):=SlT.mk' underlying76 Wj rfl Wq
def FB(base:Nat)(A:Option Addr)(w:World):Nat→Prop:=fun g=>base≤g∧g<w.heap.size∧blk A≠some g
def FN(base:Nat)(w:World):Nat→Prop:=fun g=>base≤g∧g<w.heap.size
section
def FB2(base:Nat)(A AK:Option Addr)(w:World):Nat→Prop:=fun g=>base≤g∧g<w.heap.size∧blk A≠some g∧blk AK≠some g
structure MnS(wr:World)(base:Nat)(K:List (List UInt8))(AK:Option Addr)(cK:Nat)(A:Option Addr)(c:Nat)(xs:List (Vl×VH)):Prop where
 own:Own wr base 78 5 A xs.length c (rowC vlC xs)
 kown:Own wr base 9 1 AK K.length cK (K.map txV)
 ne:∀g,blk A=some g→blk AK≠some g
 el:∀p∈xs,RV wr (FB2 base A AK wr) p.1 p.2
theorem VA{wr wr':World}{e size:Nat}{ys:List Value}(h:Own wr base e size A n c ys)(hk:∀g,base≤g→g<wr.heap.size→wr'.heap[g]?=wr.heap[g]?):Own wr' base e size A n c ys:=by
 have qqc7:=();exact Z2p_
section
variable {wr wr' w5 w6 : World} {base : Nat} {K : List (List UInt8)} {AK A A2 : Option Addr} {cK c c2 : Nat} {xs : List (Vl × VH)}
theorem MnS.on(h:MnS wr base K AK cK A c xs)(hk:∀g,base≤g→g<wr.heap.size→wr'.heap[g]?=wr.heap[g]?)(hs:wr.heap.size≤wr'.heap.size):MnS wr' base K AK cK A c xs:=by
 have hF:∀g,FB2 base A AK wr g→FB2 base A AK wr' g:=fun g hg=>⟨hg.1,q6 hg.2.1 hs,hg.2.2⟩
 exact⟨VA h.own hk,VA h.kown hk,h.ne,fun p hp=>((h.el p hp).keep (fun g hg=>hk g hg.1 hg.2.1) hs).mono hF⟩
theorem MnS.below(h:MnS wr base K AK cK A c xs)(hB:Below wr.heap.size wr wr'):MnS wr' base K AK cK A c xs:=h.on (fun g _ hg=>hB.block g hg) hB.size
theorem MnS.box{b:Nat}(h:MnS wr base K AK cK A c xs)(hg:wr.grownBy wr' (some b))(hb:b<base):MnS wr' base K AK cK A c xs:=
 h.on (fun g bN Hm=>hg.block g Hm uq) hg.size
theorem MnS.nil(wr:World)(base:Nat):MnS wr base [] none 0 none 0 []:=⟨Own.none_ _ _ _ _,Own.none_ _ _ _ _,fun g h=>(by cases h),fun p hp=>(by cases hp)⟩
theorem MnS.pushK{k:List UInt8}(h:MnS w5 base K AK cK A c xs)(ho:Own w6 base 9 1 A2 (K.length+1) c2 ((K++ [k]).map txV))(hg:w5.grownBy w6 (blk AK))(hA:blk A2=blk AK∨∀g,blk A2=some g→w5.heap.size≤g):MnS w6 base (K++ [k]) A2 c2 A c xs:=by
 have tE:∀g,blk A=some g→g<w5.heap.size:=fun g hg=>(h.own.blk_lt hg).2
 refine⟨zk h.own hg (fun g hg e=>h.ne g hg e),by rw[k8];exact ho,fun g hg e=>?_,fun p hp=>?_⟩
 ·rcases hA with e2|e2
  ·exact h.ne g hg (by rw[←e2,e])
  have:=tE g hg;have:=e2 g e;omega
 have hk:∀g,FB2 base A AK w5 g→w6.heap[g]?=w5.heap[g]?:=fun g bN=>hg.block g bN.2.1 (fun e=>bN.2.2.2 e.symm)
 have hF:∀g,FB2 base A AK w5 g→FB2 base A A2 w6 g:=fun g bN=>⟨bN.1,q6 bN.2.1 hg.size,bN.2.2.1,by
  rcases hA with e|e
  ·rw[e];exact bN.2.2.2
  ·intro e2;have:=e g e2;have:=bN.2.1;omega⟩
 exact((h.el p hp).keep hk hg.size).mono hF
theorem MnS.push{W4:Nat}{x:Vl}{hx:VH}(h:MnS w5 base K AK cK A c xs)(h4:∀g,blk A=some g∨blk AK=some g→g<W4)(iT:base≤W4)(hv:RV w5 (FN W4 w5) x hx)
  (ho:Own w6 base 78 5 A2 (xs.length+1) c2 (rowC vlC (xs++ [(x,hx)]))) (hg:w5.grownBy w6 (blk A)) (hA:blk A2=blk A∨∀g,blk A2=some g→w5.heap.size≤g):MnS w6 base K AK cK A2 c2 (xs++ [(x,hx)]):=by
 exact Z1v_
theorem MnS.fresh{W4:Nat}{x:Vl}{hx:VH}(h:MnS w5 base K AK cK A c xs)(h4:∀g,blk A=some g∨blk AK=some g→g<W4)(iT:base≤W4)(hv:RV w5 (FN W4 w5) x hx)
  (hg:w5.grownBy w6 (blk A)) (hA:blk A2=blk A∨∀g,blk A2=some g→w5.heap.size≤g):RV w6 (FB2 base A2 AK w6) x hx:=by
 have qq9a:=();exact Z1v_
theorem MnS.setlast{z:Vl×VH}{x:Vl}{hx:VH}(h:MnS w5 base K AK cK A c (xs++ [z]))(hv:RV w5 (FB2 base A AK w5) x hx)(ho:Own w6 base 78 5 A (xs.length+1) c (rowC vlC (xs++ [(x,hx)])))(hg:w5.grownBy w6 (blk A)):MnS w6 base K AK cK A c (xs++ [(x,hx)]):=by
 have hF:∀g,FB2 base A AK w5 g→FB2 base A AK w6 g:=fun g bN=>⟨bN.1,q6 bN.2.1 hg.size,bN.2.2⟩
 have hk:∀g,FB2 base A AK w5 g→w6.heap[g]?=w5.heap[g]?:=fun g bN=>hg.block g bN.2.1 (fun e=>bN.2.2.1 e.symm)
 refine⟨by rw[k8];exact ho,zk h.kown hg (fun g hg e=>h.ne g e hg),h.ne,fun p hp=>?_⟩;rcases k9.1 hp with hp|hp
 ·exact((h.el p (List.mem_append_left _ hp)).keep hk hg.size).mono hF
 obtain rfl:=kx.1 hp;exact(hv.keep hk hg.size).mono hF
theorem MnS.rv{B:Nat}(h:MnS wr base K AK cK A c xs)(hB:B≤base)(hk:k<256)(bI:∀x∈K,x.length≤140737488351232)(h1:K.length≤140737488351232)(h2:xs.length≤140737488351232):RV wr (FN B wr) (.mk k 0 [] K (xs.map (·.1))) ⟨AK,cK,A,c⟩:=by
 have Ay:∀g,FB2 base A AK wr g→FN B wr g:=fun g hg=>⟨q9 hB hg.1,hg.2.1⟩
 refine⟨xs,hk,(by show(0:Nat)<_;decide),(by show(0:Nat)≤_;omega),RdX.of_own h.kown (fun g hg=>?_),bI,h1,(by show(xs.map (·.1)).length≤_;simpa using h2),?_,rfl,fun p hp=>(h.el p hp).mono Ay⟩
 ·have:=h.kown.blk_lt hg;exact⟨by omega,this.2⟩
 have ho:=h.own;show RdX wr (FN B wr) 5 A (xs.map (·.1)).length c (rowC vlC xs)
 exact Z5e_
end
def KP(B pb vb:Nat)(w w':World):Prop:=Below B w w'∧∀g,g<w.heap.size→g≠pb→g≠vb→w'.heap[g]?=w.heap[g]?
section
variable {B pb vb : Nat} {a w w' : World}
theorem KP.refl(B pb vb:Nat)(w:World):KP B pb vb w w:=⟨KS _ _,fun _ _ _ _=>rfl⟩
theorem KP.size(h:KP B pb vb a w):a.heap.size≤w.heap.size:=h.1.size
theorem KP.trans(h:KP B pb vb a w)(k:KP B pb vb w w'):KP B pb vb a w':=⟨h.1.trans k.1,fun g hg h1 h2=>(k.2 g (q6 hg h.size) h1 h2).trans (h.2 g hg h1 h2)⟩
theorem KP.below(h:KP B pb vb a w)(hb:B≤a.heap.size)(k:Below w.heap.size w w'):KP B pb vb a w':=h.trans ⟨k.mono (q9 hb h.size),fun g hg _ _=>k.block g hg⟩
theorem KP.grown(h:KP B pb vb a w)(hb:B≤a.heap.size){row:Option Nat}(hg:w.grownBy w' row)(hr:∀g,row=some g→B≤g∧(g=pb∨g=vb∨a.heap.size≤g)):KP B pb vb a w':=
 ⟨h.1.grown hg (q9 hb h.size) (fun g e=>(hr g e).1),fun g hlt h1 h2=>(hg.block g (q6 hlt h.size) (fun e=>by rcases(hr g e.symm).2 with e|e|e<;>omega)).trans (h.2 g hlt h1 h2)⟩
theorem KP.drew(h:KP B pb vb a w):KP B pb vb a w.drew:=⟨za h.1 1,h.2⟩
theorem KP.box{g:Nat}{t:TypeId}{cs:Array Value}(h:KP B pb vb w w')(hb:Box w g t cs)(h1:g≠pb)(h2:g≠vb):Box w' g t cs:=(h.2 g hb.lt h1 h2).trans hb
theorem KP.own{e size:Nat}{ys:List Value}(h:KP B pb vb w w')(ho:Own w base e size A n c ys)(h1:pb<base)(h2:vb<base):Own w' base e size A n c ys:=VA ho (fun g bN Hm=>h.2 g Hm Wq Wq)
theorem KP.mns{K:List (List UInt8)}{AK:Option Addr}{cK:Nat}{xs:List (Vl×VH)}(h:KP B pb vb w w')(ho:MnS w base K AK cK A c xs)(h1:pb<base)(h2:vb<base):MnS w' base K AK cK A c xs:=ho.on (fun g bN Hm=>h.2 g Hm Wq Wq) h.size
end
end
def PAN:List PanicEntry:=[{v:=.iface 251 (.agg #[]),recovered:=false}]
theorem xL{F:Nat→Prop}{v:Value}{vb:Option Nat}{l:List UInt8}(h:Rdr F w v vb l false){pb:Nat}{n:Int}(hp:Box w pb 255 #[v,.int .i64 n]):
  Calls prog 178 #[.pointer (some ⟨pb,0,none⟩),.bool true] w fun e w'=>e= .returned (.tuple #[])∧w'=w:=by
 have hb:=yD h;have c0:=hp.c0;clear h hp;go_enter func178,ntmps178;go_wp2_with(with_reducible refine h_A ?_);refine hb.mono ?_;rintro e w' ⟨rfl,rfl⟩;go_wp2_with(with_reducible refine h_A ?_);go_end0;exact⟨rfl,rfl⟩
theorem xS{F:Nat→Prop}{v:Value}{vb:Option Nat}{l:List UInt8}{bad:Bool}(h:Rdr F w v vb l bad){pb:Nat}{n:Int}(hp:Box w pb 255 #[v,.int .i64 n])(is:Bool)(BO:is=false∨bad=true):
  Calls prog 178 #[.pointer (some ⟨pb,0,none⟩),.bool is] w fun e w'=>e= .panicked PAN∧w'=w:=by
 have hb:=yD h;have c0:=hp.c0;clear h hp
 cases is
 ·clear BO;go_enter func178,ntmps178;go_wp2_with(with_reducible refine h_A ?_);exact⟨rfl,rfl,rfl⟩
 obtain rfl:bad=true:=BO.resolve_left WJ;clear BO;go_enter func178,ntmps178;go_wp2_with(with_reducible refine h_A ?_);refine hb.mono ?_;rintro e w' ⟨rfl,rfl⟩;go_wp2_with(with_reducible refine h_A ?_);exact⟨rfl,rfl,rfl⟩
end Go.PH
section
namespace Go.PH
def u8N(n b0 b1 b2 b3:Nat):Nat:=
 if b0<128 then 1
 else if 194≤b0∧b0≤223∧1<n∧128≤b1∧b1≤191 then 2
 else if 224≤b0∧b0≤239∧2<n∧128≤b1∧b1≤191∧(b0=224→160≤b1)∧(b0=237→b1≤159)∧128≤b2∧b2≤191 then 3
 else if 240≤b0∧b0≤244∧3<n∧128≤b1∧b1≤191∧(b0=240→144≤b1)∧(b0=244→b1≤143)∧128≤b2∧b2≤191∧128≤b3∧b3≤191 then 4
 else 0
theorem zdc(n b0 b1 b2 b3:Nat)(hn:0<n):u8N n b0 b1 b2 b3≤n:=by
 unfold u8N;repeat' split
 all_goals omega
def yh(l:List UInt8)(k:Nat):Nat:=((l[k]?).getD 0).toNat
theorem qG(l:List UInt8)(k:Nat):yh l k<256:=UInt8.toNat_lt _
def xD(l:List UInt8):Nat:=u8N l.length (yh l 0) (yh l 1) (yh l 2) (yh l 3)
theorem Xt(n b0 b1 b2 b3:Nat)(h0:b0<256)(h1:b1<256)(h2:b2<256)(h3:b3<256):
  if u8N n b0 b1 b2 b3=0 then VB n b0 b1 b2 b3=(65533,1)else(VB n b0 b1 b2 b3).2=u8N n b0 b1 b2 b3∧((VB n b0 b1 b2 b3).1=65533→u8N n b0 b1 b2 b3≠1):=by
 unfold u8N;by_cases c1:b0<128
 ·simp only[c1,if_true];rw[if_neg Wq];unfold VB;rw[if_pos c1];exact⟨rfl,fun h=>by simp only at h;omega⟩
 rw[if_neg c1];unfold VB;rw[if_neg c1];by_cases c2:194≤b0∧b0≤223∧1<n∧128≤b1∧b1≤191
 ·rw[if_pos c2,if_neg Wq,if_pos Wq,if_pos Wq];exact⟨rfl,fun _=>by omega⟩
 rw[if_neg c2];by_cases c3:224≤b0∧b0≤239∧2<n∧128≤b1∧b1≤191∧(b0=224→160≤b1)∧(b0=237→b1≤159)∧128≤b2∧b2≤191
 ·rw[if_pos c3,if_neg Wq,if_neg Wq,if_pos Wq,if_pos Wq];exact⟨rfl,fun _=>by omega⟩
 rw[if_neg c3];by_cases c4:240≤b0∧b0≤244∧3<n∧128≤b1∧b1≤191∧(b0=240→144≤b1)∧(b0=244→b1≤143)∧128≤b2∧b2≤191∧128≤b3∧b3≤191
 ·rw[if_pos c4,if_neg Wq,if_neg Wq,if_neg Wq,if_pos Wq,if_pos Wq];exact⟨rfl,fun _=>by omega⟩
 rw[if_neg c4,if_pos rfl];by_cases d2:b0 / 32=6∧(1<n∧b1 / 64=2)
 ·rw[if_pos d2,if_neg Wq]
 rw[if_neg d2];by_cases d3:b0 / 16=14∧(1<n∧b1 / 64=2)∧(2<n∧b2 / 64=2)
 ·rw[if_pos d3,if_neg Wq]
 rw[if_neg d3];by_cases d4:b0 / 8=30∧(1<n∧b1 / 64=2)∧(2<n∧b2 / 64=2)∧(3<n∧b3 / 64=2)
 ·rw[if_pos d4,if_neg Wq]
 rw[if_neg d4]
def utfF:Nat→List UInt8→Bool
 | 0,l=>l.isEmpty
 | f+1,l=>if l=[]then true else if xD l=0 then false else utfF f (l.drop (xD l))
def zJ(l:List UInt8):Bool:=utfF l.length l
theorem ZI{l:List UInt8}(h:l≠ []):xD l≤l.length:=zdc _ _ _ _ _ (kI.2 h)
theorem K8:∀(f:Nat) (l:List UInt8),l.length≤f→utfF f l=zJ l:=by
 intro f
 induction f using Nat.strongRecOn with
 | _ f ih=>
  intro l hl;by_cases h0:l=[]
  ·subst h0
   cases f<;>rfl
  have hp:=kI.2 h0;obtain⟨k,hk⟩:∃k,l.length=k+1:=⟨l.length-1,by omega⟩
  obtain⟨f,rfl⟩:∃m,f=m+1:=⟨f-1,by omega⟩
  unfold zJ;rw[hk,utfF,utfF,if_neg h0,if_neg h0];by_cases hs:xD l=0
  ·rw[if_pos hs,if_pos hs]
  rw[if_neg hs,if_neg hs];have bQ:(l.drop (xD l)).length≤k:=by rw[Vy];omega
  rw[ih f Wq _ Wq];by_cases OQ:k=f
  ·rw[OQ,ih f Wq _ Wq]
  rw[ih k Wq _ bQ]
theorem Yg{l:List UInt8}(h0:l≠ [])(h:xD l=0):zJ l=false:=by
 obtain⟨k,hk⟩:∃k,l.length=k+1:=⟨l.length-1,by have:=kI.2 h0;omega⟩
 unfold zJ;rw[hk,utfF,if_neg h0,if_pos h]
theorem vD{l:List UInt8}(h0:l≠ [])(h:xD l≠0):zJ l=zJ (l.drop (xD l)):=by
 obtain⟨k,hk⟩:∃k,l.length=k+1:=⟨l.length-1,by have:=kI.2 h0;omega⟩
 rw[←K8 k (l.drop (xD l)) mX]
 conv=>lhs;unfold zJ
 rw[hk,utfF,if_neg h0,if_neg h]
theorem get!_str(s:List UInt8)(i:Nat):((str s).get! i).toNat=yh s i:=by
 unfold ByteArray.get! str yh;simp only[List.getElem!_toArray,List.getElem!_eq_getElem?_getD];rfl
theorem kf(s:List UInt8)(i k:Nat):yh (s.drop i) k=yh s (i+k):=by
 unfold yh;rw[List.getElem?_drop]
theorem jJ(s:List UInt8)(i:Nat):Utf8.decode (str s) i=VB (s.drop i).length (yh (s.drop i) 0) (yh (s.drop i) 1) (yh (s.drop i) 2) (yh (s.drop i) 3):=by
 rw[Lib.decode_at];simp only[get!_str,zi,Vy,kf,Nat.add_zero]
theorem Qn(s:List UInt8)(i:Nat):if xD (s.drop i)=0 then Utf8.decode (str s) i=(65533,1)else(Utf8.decode (str s) i).2=xD (s.drop i)∧((Utf8.decode (str s) i).1=65533→xD (s.drop i)≠1):=by
 rw[jJ];exact Xt _ _ _ _ _ (qG _ _) (qG _ _) (qG _ _) (qG _ _)
end Go.PH
end
namespace Go.PH
open Go.RowKit Go.Proofs Go.Proofs.Tryz
variable {base c i k n : Nat} {A : Option Addr} {w : World}
def zcm(k:Nat)(w:World):Nat:=match w.heap[k]? with|some (.stringIter _ p)=>p|_=>0
theorem YN{p:Nat}{s:ByteArray}(h:w.heap[k]?=some (.stringIter s p)):zcm k w=p:=by unfold zcm;rw[h]
abbrev UTabs(w:World):Prop:=Lib.Utf8Tabs 1 2 w
theorem K7(s:List UInt8)(i:Nat):(Utf8.decode (str s) i).1<2147483648∧1≤(Utf8.decode (str s) i).2∧(Utf8.decode (str s) i).2≤4:=by
 rw[jJ];have h0:=qG (s.drop i) 0;have h1:=qG (s.drop i) 1;have h2:=qG (s.drop i) 2;have h3:=qG (s.drop i) 3;unfold VB;repeat' split
 all_goals(refine⟨?_,?_,?_⟩<;>(simp only;omega))
theorem YO(s:List UInt8)(i:Nat)(hi:i<s.length):vv (str (s.drop i))=Utf8.decode (str s) i:=by
 have h0:(str (s.drop i)).size≠0:=by rw[zi,Vy];omega
 unfold vv;rw[if_neg h0,jJ,jJ,List.drop_zero]
theorem UTabs.on{w':World}(h:UTabs w)(hB:Below w.heap.size w w'):UTabs w':=by
 refine⟨fun c hc=>?_,fun i hi=>⟨?_,?_⟩⟩
 ·have:=h.1 c hc;exact(hB.cell (p:=⟨_,c,none⟩) (k5 w _ this)).trans this
 ·have:=(h.2 i hi).1;exact(hB.cell (p:=⟨_,2*i,none⟩) (k5 w _ this)).trans this
 have:=(h.2 i hi).2;exact(hB.cell (p:=⟨_,2*i+1,none⟩) (k5 w _ this)).trans this
theorem Xs(s:List UInt8)(w:World)(hs:s.length≤140737488351232)(hT:UTabs w):
  Calls prog 173 #[.string (str s)] w fun e w'=>e= .returned (.bool (zJ s))∧Below w.heap.size w w':=by
 have dR:=fun(w:World) (k pos:Nat) ty=>Lib.run_next_any_at (P:=prog) w k (str s) pos ty
 have hne:=fun(w:World) (k pos:Nat) ty=>Lib.run_next_end_at (P:=prog) w k (str s) pos ty
 have Bw:(str s).size=s.length:=rfl;obtain⟨k,hk⟩:∃k,k=w.heap.size:=⟨_,rfl⟩
 obtain⟨w1,ft⟩:∃w1,w1=w.iter (str s) 0:=⟨_,rfl⟩
 have dM:w1.heap[k]?=some (.stringIter (str s) 0):=by rw[ft,hk];exact World.iter_heap _ _ _
 have Ha:Below w.heap.size w w1:=by rw[ft];exact(KS _ _).alloc (k6 _) _
 have HK:=Q1 hk;go_enter func173,ntmps173;go_upto_region 2 with fail;rw[←ft,←hk];clear ft hk;go_wp2_with(with_reducible refine h_A ?_);go_loopw [9] (fun _ wr=>∃pos:Nat,pos≤s.length∧wr.heap[k]?=some (.stringIter (str s) pos)∧Hid (zJ (s.drop pos)=zJ s)∧Below w.heap.size w wr) (fun _ wr=>s.length-zcm k wr)
 case atStart=>exact⟨0,by omega,dM,Q1 rfl,Ha⟩
 clear dM Ha;obtain⟨pos,hp,dM,HC,hB⟩:=hrel;by_cases hlt:pos<s.length
 ·have hx:=fun ty=>dR wr k pos ty dM hlt
  have hd:=Qn s pos;obtain⟨ca,dK,i4⟩:=K7 s pos;have fH:=YO s pos hlt;obtain⟨c,hc⟩:∃c,(Utf8.decode (str s) pos).1=c:=⟨_,rfl⟩
  obtain⟨q,hq⟩:∃q,(Utf8.decode (str s) pos).2=q:=⟨_,rfl⟩
  have Dz:Utf8.decode (str s) pos=(c,q):=by rw[←hc,←hq]
  rw[hc]at ca;rw[hq]at dK i4;rw[Dz]at hd fH;simp only[hc,hq]at hx;have HD:=Q1 hd;have HG:=Q1 fH;clear hd hc hq Dz fH dR hne;have Hc:Below w.heap.size w (wr.iterAt k (str s) (pos+q)):=Lib.below_iterAt hB (by rw[HK.out];exact k6 _) _ _;have Bk:=Lib.iterAt_heap wr k (str s) pos (pos+q) dM;have HP:=Q1 (YN dM);generalize wr.iterAt k (str s) (pos+q)=w2 at*;have ap:=Q1 (YN Bk);have fE:Hid (s.drop pos≠ []):=Q1 (by intro e;have:=congrArg List.length e;rw[Vy]at this;simp at this;omega);by_cases GV:c=65533
  ·(have g1:((c:Int)==65533)=true:=by simp[GV]);have Fu:=Tryz.utf8_DecodeRuneInString (str (s.drop pos)) w2 (hT.on Hc);rw[HG.out]at Fu;simp only at Fu;have gu:=ZI fE.out;rw[Vy]at gu;by_cases eN:q=1
   ·have qq8q:=();exact Z1n_
   exact Z1n_
  have g1:((c:Int)==65533)=false:=by simp;omega
  have bV:xD (s.drop pos)≠0∧q=xD (s.drop pos):=by
   have h:=HD.out;split at h
   ·injection h with e1 e2;exact absurd e1 GV
   rename_i h0;exact⟨h0,h.1⟩
  have cL:Hid (zJ (s.drop (pos+q))=zJ s):=Q1 (by rw[←HC.out,vD fE.out bV.1,List.drop_drop,←bV.2]);have gu:=ZI fE.out;rw[←bV.2,Vy]at gu;clear bV GV;go_wp2_with(with_reducible refine h_A ?_);exact⟨⟨pos+q,by omega,Bk,cL,Hc⟩,by rw[HP.out,ap.out];omega⟩
 have hx:=fun ty=>hne wr k pos ty dM hlt
 have HF:Hid (zJ s=true):=Q1 (by rw[←HC.out,q5 Wq];rfl);clear dR hne;exact Z67_
end Go.PH
section
namespace Go.Proofs.YtfbkameikhgciaaGreatDoor
open Go.Lib Go.PH Go.RowKit Go.ChangeShapes Go.WideShapes Go.ChangeAt
theorem u8types:Lays.n260 Tryz.prog Tryz.lays197_ren:={Tryz.lays197 with}
theorem u8extra:U8Extra Tryz.prog Tryz.lays197_ren where
 n3:=by kernel_rfl
 n4:=by kernel_rfl
 y3:=by kernel_rfl
 y4:=by kernel_rfl
 c5:=by kernel_rfl
 c119:=by kernel_rfl
 c138:=by kernel_rfl
theorem first_same:Rows.laid_unicode_utf8_first=firstData:=by kernel_rfl
theorem accept_same:(Rows.laid_unicode_utf8_acceptRanges:DataW Unit)=acceptData:=by kernel_rfl
theorem utabs{W:World}(h:laidMetH Tryz.prog utfList W):UTabs W:=by
 have h':laidMet Tryz.prog utfList W:=h;exact utf8Tabs_of_reads u8types u8extra (first_same▸Lib.laidMet.reads h' (by unfold utfList;simp)) (accept_same▸Lib.laidMet.reads h' (by unfold utfList;simp))
end Go.Proofs.YtfbkameikhgciaaGreatDoor
end
namespace Go.PH
open Go.RowKit Go.Proofs Go.Proofs.Tryz
variable {base c i k n : Nat} {A : Option Addr} {w : World}
def jd(k:List UInt8):Bool:=decide (1≤k.length)&&decide (k.length≤255)&&zJ k
theorem qs(K:List (List UInt8)):xC K zJ=(K.all jd&&decide K.Nodup):=rfl
theorem Q3{K:List (List UInt8)}(hi:i<K.length)(h:jd K[i]=false):xC K zJ=false:=by
 rw[qs]
 have:K.all jd=false:=by
  rw[List.all_eq_false];exact⟨_,q8 hi,by rw[h];simp⟩
 rw[this];rfl
theorem Ye{K:List (List UInt8)}(hi:i<K.length)(h:K[i]∈K.take i):xC K zJ=false:=by
 rw[qs]
 have:¬K.Nodup:=fun hn=>by
  have h1:(K.take (i+1)).Nodup:=hn.sublist (List.take_sublist _ _);rw[K0 hi,vz]at h1;exact h1.2.2 _ h _ Wz rfl
 rw[decide_eq_false this,Bool.and_false]
theorem Xr{K:List (List UInt8)}(h1:∀k∈K,jd k=true)(h2:K.Nodup):xC K zJ=true:=by
 rw[qs,List.all_eq_true.2 h1,decide_eq_true h2];rfl
theorem Yf{K:List (List UInt8)}(hi:i<K.length)(h:(K.take i).Nodup)(hn:K[i]∉K.take i):(K.take (i+1)).Nodup:=by
 rw[K0 hi,vz];exact⟨h,by simp,fun a ha b hb e=>by rw[kx.1 hb]at e;rw[e]at ha;exact hn ha⟩
abbrev seenMap(w:World)(mb n:Nat)(D:DataW Unit):Prop:=w.ownsMap prog 9 (plainElem (H:=Unit) prog 3) mb n D
theorem seenMap.below{w':World}{mb:Nat}{D:DataW Unit}(h:seenMap w mb n D)(hB:Below w.heap.size w w'):seenMap w' mb n D:=by
 obtain⟨es,clock,hb,F,hs,hD⟩:=h;exact⟨es,clock,(hB.block mb (Array.getElem?_eq_some_iff.1 hb).1).trans hb,F,hs,hD⟩
theorem str_keyedM:Maps.Keyed prog 9:=Maps.string_keyed underlying9
theorem K5{a:List UInt8}(h:a.length≤140737488351232):keyOf prog 9 (.string (str a))=some (.string a):=WideMaps.keyOf_string_mk underlying9 (by rw[zi];simp[maxLen];omega)
theorem ZH(a:List UInt8):(str a).toList.isEmpty=decide (a.length=0):=by
 rw[zl]
 cases a<;>simp
theorem JQ{P:Program}{ops:Array Oper}{Q:Exit→Act→World→Prop}{rest:List Oper}{a:Act}{dst:Option Tmp}{ty:TypeId}{pos:String}{after:Array Edge}{guard:Option (Nat×Bool)}{t:TypeId}{m k v:Operand}(h:Hold (wpList P ops Q (⟨dst,.mapUpdate t m k v,ty,pos,after,guard⟩::rest) a w)):
  wpList P ops Q (⟨dst,.mapUpdate t m k v,ty,pos,after,guard⟩::rest) a w:=h
theorem K6(A:Option Addr)(n c:Nat)(K:List (List UInt8))(w:World)(hr:Rd w w.heap.size 1 A n c (K.map txV))(hn:n≤140737488351232)(bI:∀k∈K,k.length≤140737488351232)(hT:UTabs w):
  Calls prog 174 #[.slice A n c] w fun e w'=>e= .returned (.bool (xC K zJ))∧Below w.heap.size w w':=by
 have hl:K.length=n:=by have:=hr.len;simpa using this
 have HL:=Q1 hl;have nS:=Q1 bI;clear hl bI;have nE:=fun W=>run_makeMap (P:=prog) 263 W
 have Hp:=World.ownsMap_made w prog 9 (plainElem (H:=Unit) prog 3);have Hy:Below w.heap.size w (w.alloc (.map #[] 0)):=(KS _ _).alloc (k6 _) _;go_enter func174,ntmps174;go_upto_region 2 with fail;obtain⟨mb,cw⟩:∃m,m=w.heap.size:=⟨_,rfl⟩
 rw[←cw]at Hp ⊢;have L1:=Q1 cw;clear cw nE;generalize(w.alloc (.map #[] 0))=w1 at*;go_wp2_with(with_reducible refine h_A ?_);go_loopw [9] (fun s wr=>∃(i:Nat) (D:DataW Unit),i≤n∧s= .int .i64 i∧Below w.heap.size w wr∧seenMap wr mb i D∧Hid ((∀k∈K.take i,jd k=true)∧(K.take i).Nodup∧∀s:List UInt8,D.atKey (.string s) (.lit (.int .i64 0))= .lit (.int .i64 (if s∈K.take i then 1 else 0)))) (fun s _=>n-(Q2 s).toNat)
 case atStart=>exact⟨0,_,by omega,rfl,Hy,Hp,Q1 ⟨by simp,by simp,fun s=>by simp;rfl⟩⟩
 clear Hy Hp;obtain⟨i,D,hi,rfl,hB,Hp,HI⟩:=hrel;by_cases hlt:i<n
 ·have g1:(i:Int)<(n:Int):=by omega
  have BB:i<K.length:=by rw[HL.out];exact hlt
  obtain⟨b,off,rfl,hC⟩:=jH hr hlt BB;have y0:=hC wr hB;have Cy:=nS.out _ (q8 BB);have mA:Hid (jd K[i]=false→xC K zJ=false):=Q1 (Q3 BB);have RE:Hid (K[i]∈K.take i→xC K zJ=false):=Q1 (Ye BB);have Rq:Hid (K[i]∉K.take i→(K.take (i+1)).Nodup):=Q1 (Yf BB HI.out.2.1);have Da:Hid (K.take (i+1)=K.take i++ [K[i]]):=Q1 (K0 BB);clear hC;generalize K[i]=a at*;have has:=zi a;have fP:=ZH a;have eg:=Xs a wr Cy (hT.on hB);have ta:Hid (jd a=(decide (1≤a.length)&&decide (a.length≤255)&&zJ a)):=Q1 rfl;by_cases Gi:a.length=0
  ·have qqe8:=();exact Z3d_
  rw[decide_eq_false Gi]at fP;by_cases dC:255<a.length
  ·exact Z3c_
  have g2:¬(255:Int)<(a.length:Int):=by omega
  have lH:Hid (jd a=zJ a):=Q1 (by rw[ta.out,decide_eq_true (by omega:1≤a.length),decide_eq_true (by omega:a.length≤255)];rfl);clear Gi dC
  cases hu:zJ a
  ·exact Z3a_
  rw[hu]at eg;have O6:Hid (jd a=true):=Q1 (by rw[lH.out,hu]);clear hu;go_wp2_with(with_reducible refine h_A ?_);refine eg.mono ?_;rintro e w2 ⟨rfl,Hc⟩;have o8:=hB.trans (Hc.mono hB.size);have Hr:=Hp.below Hc;clear eg y0 Hp Hc hB;obtain⟨cc,bu,eY,_⟩:=Hr.lookup_int (t:=263) str_keyedM underlying263 underlying3 (zeroValue3 _) (key:=.string (str a)) (kl:=.string a) (K5 Cy);rw[HI.out.2.2 a]at eY;injection eY with eY
  injection eY with _ eY
  have lK:=Q1 eY;clear eY;by_cases hm:a∈K.take i
  ·(have ca:cc=1:=by rw[←lK.out,if_pos hm]);have HF:=Q1 (RE.out hm);subst ca;clear hm;go_wp2_with(with_reducible refine h_A ?_);go_ret;rw[HF.out];exact⟨rfl,o8⟩
  have ca:cc=0:=by rw[←lK.out,if_neg hm]
  have HM:=Q1 hm;subst ca;clear hm;go_wp2_with(first|(with_reducible refine JQ ?_));refine zc (wpList_mapUpdate_own (H:=Unit) _ rfl _ _ _ 263 rfl 9 3 str_keyedM underlying263 (plainElem (H:=Unit) prog 3) _ _ _ rfl Hr UJ _ _ (.string a) rfl rfl (K5 Cy) (.lit (.int .i64 1)) [] (plainElem_int underlying3 WJ) ?_);intro w3 LN H6;have ng:=o8.grown H6 o8.size (fun g hg=>by injection hg with hg;have:=L1.out;omega)
  have SO:Hid ((∀k∈K.take (i+1),jd k=true)∧(K.take (i+1)).Nodup∧∀s:List UInt8,(D.put (.string a) (.lit (.int .i64 1))).atKey (.string s) (.lit (.int .i64 0))= .lit (.int .i64 (if s∈K.take (i+1)then 1 else 0))):=Q1 (by
   refine⟨fun k hk=>?_,Rq.out HM.out,fun s=>?_⟩
   ·rw[Da.out]at hk;rcases k9.1 hk with hk|hk
    ·exact HI.out.1 k hk
    ·rw[kx.1 hk];exact O6.out
   ·by_cases hs:s=a
    ·subst hs;rw[Maps.atKey_put_same Hr.isMap (str_keyedM.key (K5 Cy)),if_pos (by rw[Da.out];simp)]
    ·rw[Maps.atKey_put_other (fun e=>hs NX),HI.out.2.2 s,Da.out];by_cases cm:s∈K.take i
     ·rw[if_pos cm,if_pos (by simp[cm])]
     ·rw[if_neg cm,if_neg (by simp[hs,cm])])
  clear Hr bu H6;go_wp2_with(with_reducible refine h_A ?_);exact⟨⟨i+1,_,by omega,by go_num,ng,LN,SO⟩,by simp[Q2];omega⟩
 have HF:Hid (xC K zJ=true):=Q1 (by
  have h:=HI.out;rw[Vx (by rw[HL.out];omega)]at h
  exact Xr h.1 h.2.1)
 exact Z51_
def mayF(k n sl KL LL:Nat)(ko pl al:Bool):Bool:=
 (decide (k=168)||decide (KL=0))&&(decide (k=168)||decide (k=169)||decide (LL=0))&&(decide (k=149)||decide (k=160)||decide (sl=0))&&decide (sl≤4096)&&
  (if k=8 then decide (n≤1)else if k=2 then decide (n≤255)else if k=49∨k=50 then true
   else if k=240∨k=160 then decide (n=0)
   else if k=149 then pl&&decide (n=0)
   else if k=168 then decide (KL=LL)&&ko&&decide (n=0)
   else if k=169 then decide (n=0)else false)&&al
theorem ZG{α:Type}(l:List α):l.isEmpty=decide (l.length=0):=by cases l<;>simp
theorem kK(p:List UInt8→Bool)(v:Vl):mayV p v=mayF v.kind v.n v.s.length v.keys.length v.list.length (xC v.keys p) (p v.s) (v.list.all (mayV p)):=by
 cases v;rw[mayV,zaV,ZG,ZG,ZG];rfl
def MayR(w:World)(v:Vl)(e:Ending)(w':World):Prop:=e= .returned (.bool (mayV zJ v))∧Below w.heap.size w w'
theorem zcj(p:Vl→Bool)(bx:Nat)(v:Vl)(h:VH)(w:World)(hv:RVw w v h)(bC:∀x∈v.list,∀hx W,Below w.heap.size w W→RVw W x hx→Calls prog 175 (#[.agg (vlV x hx)]++ #[]) W (fun e W'=>e= .returned (.bool (p x))∧Below W.heap.size W W')):
  Calls prog 183 #[.slice h.A2 v.list.length h.c2,.func (.func 175) #[] #[]] w fun e w'=>(∃r:Int,e= .returned (.int .i64 r)∧decide (0≤r)=v.list.any p)∧Below w.heap.size w w':=by
 exact Z12_
theorem zck(p:Vl→Bool)(bx:Nat)(v:Vl)(h:VH)(w:World)(hv:RVw w v h)(bC:∀x∈v.list,∀hx W,Below w.heap.size w W→RVw W x hx→Calls prog 175 (#[.agg (vlV x hx)]++ #[]) W (fun e W'=>e= .returned (.bool (p x))∧Below W.heap.size W W')):
  Calls prog 171 #[.slice h.A2 v.list.length h.c2,.func (.func 175) #[] #[]] w fun e w'=>e= .returned (.bool (v.list.any p))∧Below w.heap.size w w':=by
 exact Z36_
theorem Qm(p:Vl→Bool)(l:List Vl):l.any (fun x=> !p x)= !l.all p:=by
 induction l with
 | nil=>rfl
 | cons x l ih=>rw[List.any_cons,List.all_cons,ih];cases p x<;>simp
theorem za0(x:Vl)(hx:VH)(W:World)(hv:RVw W x hx)(bO:∀W',Below W.heap.size W W'→Calls prog 149 #[.agg (vlV x hx)] W' (MayR W' x)):
  Calls prog 175 #[.agg (vlV x hx)] W fun e W'=>e= .returned (.bool (!mayV zJ x))∧Below W.heap.size W W':=by
 have qq98:=();exact Z1t_
theorem zcl(v:Vl):∀(h:VH) (w:World),RVw w v h→UTabs w→Calls prog 149 #[.agg (vlV v h)] w (MayR w v):=by
 have qq7u:=()
 first
 | have qq7u:=qq7u
   refine Vl.ind (P:=fun v=>∀(h:VH) (w:World),RVw w v h→UTabs w→Calls prog 149 #[.agg (vlV v h)] w (MayR w v)) ?_ v
   intro v ih h w hv hT
 | refine Vl.ind (P:=fun v=>∀(h:VH) (w:World),RVw w v h→Calls prog 145 #[.agg (vlV v h)] w (MayR w v)) ?_ v
   intro v ih h w hv
 unfold vlV MayR;obtain⟨xb,w1,Hg,Hi,hX,Ha⟩:=zg w #[.int .u8 (v.kind:Int),.int .u64 (v.n:Int),.string (str v.s),.slice h.A1 v.keys.length h.c1,.slice h.A2 v.list.length h.c2] 78;have dE:=hv.up Ha;first|(have qq7u:=qq7u;have uK:=hT.on Ha)|(skip)
 obtain⟨_,RI,mF,mu,IA,v9⟩:=hv.bounds
 have lA:RdX w1 (fun g=>g<w1.heap.size) 1 h.A1 v.keys.length h.c1 (v.keys.map txV):=by
  obtain⟨xs,_,_,_,lA⟩:=dE.parts;exact lA
 first
 | have qq7u:=qq7u
   have eL:=K6 h.A1 v.keys.length h.c1 v.keys w1 lA.1 IA mu uK;have eg:=Xs v.s w1 mF uK;have lW:=fun W (hW:Below w1.heap.size w1 W)=>zck (fun x=> !mayV zJ x) 0 v h W (dE.up hW) (fun x hx nH W' Gq ek=>za0 x nH W' ek (fun W2 GJ=>ih x hx nH W2 (ek.up GJ) (((uK.on hW).on Gq).on GJ)))
   rw[Qm]at lW
 | have eL:=VS h.A1 v.keys.length h.c1 v.keys w1 lA.1 IA mu
   have eg:=VT v.s w1 mF;(have BE:=fun i (hi:i<v.list.length)=>dE.elem hi);have sV:=Lib.hid BE;have IH:=Lib.hid ih
 obtain⟨r,hr⟩:∃r,r=mayV zJ v:=⟨_,rfl⟩
 rw[←hr];rw[kK]at hr;have BL:v.list.length=0→v.list.all (mayV zJ)=true:=fun e=>by rw[List.length_eq_zero_iff.1 e];rfl
 have fP:=ZH v.s;first|done|(have qq7u:=qq7u)|(have cS:((str v.s).toList != [])= !decide (v.s.length=0):=by rw[zl];cases v.s<;>simp)
 have has:=zi v.s;first|(have qq7u:=qq7u;clear ih hv hT dE uK lA mu)|(clear ih hv dE lA mu BE)
 generalize xC v.keys zJ=ko at*;generalize zJ v.s=pl at*;first|(have qq7u:=qq7u;generalize v.list.all (mayV zJ)=al at*)|(generalize Cy:v.list.all (mayV zJ)=al at*)
 generalize v.keys.length=KL at*
 first
 | have qq7u:=qq7u
   generalize v.list.length=LL at*
 | obtain⟨LL,pU⟩:∃LL,LL=v.list.length:=⟨_,rfl⟩
   rw[←pU]at v9 BL Hi hX hr ⊢
 generalize v.s=s at*;obtain⟨h1,j1,h2,j2⟩:=h;simp only at*;generalize v.kind=kd at*;generalize v.n=nd at*;generalize hk:((kd:Nat):Int)=k at*;generalize de:((nd:Nat):Int)=nn at*;generalize FI:s.length=sl at*;have HR:=Lib.hid hr;have wU:=Lib.hid BL
 first
 | have qq7u:=qq7u
   clear hr BL FI
 | have Cd:=Lib.hid Cy
   have Ci:=Lib.hid pU;clear hr BL FI Cy pU
 have c0:=hX.c0;have c1:=hX.c1;have c2:=hX.c2;have c3:=hX.c3
 have c4:=hX.c4
 have tW:=Q1 lW;clear lW;by_cases Hp:kd=168
 ·subst Hp;obtain rfl:k=168:=by rw[←hk];rfl
  clear hk eg;by_cases BC:KL=LL
  ·(have gl:((KL:Int)!=(LL:Int))=false:=by simp[BC]);have lc:=Q1 BC;clear BC
   cases ko
   ·(obtain rfl:r=false:=by rw[HR.out];simp[mayF]);go_enter func149,ntmps149;go_upto_region 1 with fail;rw[←Hg,←Hi];clear Hg Hi;go_wp2_with(with_reducible refine h_A ?_);refine eL.mono ?_;rintro e w2 ⟨rfl,Hc⟩;go_wp2_with(with_reducible refine h_A ?_);go_ret;exact⟨rfl,Ha.trans (Hc.mono Ha.size)⟩
   ·by_cases hn:nd=0
    ·have HN:=Q1 hn;(have gn:(nn==0)=true:=by simp;omega);clear de hn;by_cases hs:sl=0
     ·rw[decide_eq_true hs]at fP;have HS:=Q1 hs;clear hs;(obtain rfl:r=al:=by rw[HR.out];simp[mayF,lc.out,HN.out,HS.out]);go_enter func149,ntmps149;go_upto_region 1 with fail;rw[←Hg,←Hi];clear Hg Hi;go_wp2_with(with_reducible refine h_A ?_);refine eL.mono ?_;rintro e w2 ⟨rfl,Hc⟩;have Hk:=hX.below Hc;have lW:=tW.out w2 Hc;clear c0 c1 c2 c3 c4;have c0:=Hk.c0;have c1:=Hk.c1;have c2:=Hk.c2;have c3:=Hk.c3;have c4:=Hk.c4;go_wp2_with(with_reducible refine h_A ?_);refine lW.mono ?_;rintro e w3 ⟨rfl,Hh⟩
      cases r
      ·go_wp2_with(with_reducible refine h_A ?_);go_ret;exact⟨rfl,(Ha.trans (Hc.mono Ha.size)).trans (Hh.mono (Ha.trans (Hc.mono Ha.size)).size)⟩
      ·go_wp2_with(with_reducible refine h_A ?_);go_ret;exact⟨rfl,(Ha.trans (Hc.mono Ha.size)).trans (Hh.mono (Ha.trans (Hc.mono Ha.size)).size)⟩
     ·rw[decide_eq_false hs]at fP;have HS:=Q1 hs;clear hs;(obtain rfl:r=false:=by rw[HR.out];simp[mayF,lc.out,HN.out,HS.out]);go_enter func149,ntmps149;go_upto_region 1 with fail;rw[←Hg,←Hi];clear Hg Hi;go_wp2_with(with_reducible refine h_A ?_);refine eL.mono ?_;rintro e w2 ⟨rfl,Hc⟩;have Hk:=hX.below Hc;have lW:=tW.out w2 Hc;clear c0 c1 c2 c3 c4;have c0:=Hk.c0;have c1:=Hk.c1;have c2:=Hk.c2;have c3:=Hk.c3;have c4:=Hk.c4;go_wp2_with(with_reducible refine h_A ?_);go_ret;exact⟨rfl,Ha.trans (Hc.mono Ha.size)⟩
    ·have HN:=Q1 hn;(have gn:(nn==0)=false:=by simp;omega);clear de hn;(obtain rfl:r=false:=by rw[HR.out];simp[mayF,lc.out,HN.out]);go_enter func149,ntmps149;go_upto_region 1 with fail;rw[←Hg,←Hi];clear Hg Hi;go_wp2_with(with_reducible refine h_A ?_);refine eL.mono ?_;rintro e w2 ⟨rfl,Hc⟩;have Hk:=hX.below Hc;have lW:=tW.out w2 Hc;clear c0 c1 c2 c3 c4;have c0:=Hk.c0;have c1:=Hk.c1;have c2:=Hk.c2;have c3:=Hk.c3;have c4:=Hk.c4;go_wp2_with(with_reducible refine h_A ?_);go_ret;exact⟨rfl,Ha.trans (Hc.mono Ha.size)⟩
  ·(have gl:((KL:Int)!=(LL:Int))=true:=by simp;omega);have lc:=Q1 BC;clear BC;(obtain rfl:r=false:=by rw[HR.out];simp[mayF,lc.out]);go_enter func149,ntmps149;go_upto_region 1 with fail;rw[←Hg,←Hi];clear Hg Hi;go_wp2_with(with_reducible refine h_A ?_);go_ret;exact⟨rfl,Ha⟩
 ·have gm:(k !=168)=true:=by simp;omega
  have oV:(k==168)=false:=by simp;omega
  by_cases bI:0<KL
  ·(have gk:(0:Int)<(KL:Int):=by omega);have HM:=Q1 Hp;have nS:Hid (¬KL=0):=Q1 Wq;clear bI Hp;(obtain rfl:r=false:=by rw[HR.out];simp[mayF,HM.out,nS.out]);go_enter func149,ntmps149;go_upto_region 1 with fail;rw[←Hg,←Hi];clear Hg Hi;go_wp2_with(with_reducible refine h_A ?_);go_ret;exact⟨rfl,Ha⟩
  ·(have gk:¬(0:Int)<(KL:Int):=by omega);(obtain rfl:KL=0:=by omega);by_cases B9:kd=169
   ·subst B9;(obtain rfl:k=169:=by rw[←hk];rfl);clear hk bI Hp gm oV eL eg;by_cases hn:nd=0
    ·have HN:=Q1 hn;(have gn:(nn==0)=true:=by simp;omega);clear de hn;by_cases hs:sl=0
     ·rw[decide_eq_true hs]at fP;have HS:=Q1 hs;clear hs;(obtain rfl:r=al:=by rw[HR.out];simp[mayF,HN.out,HS.out]);have lW:=tW.out w1 (KS _ _);go_enter func149,ntmps149;go_upto_region 1 with fail;rw[←Hg,←Hi];clear Hg Hi;go_wp2_with(with_reducible refine h_A ?_);refine lW.mono ?_;rintro e w3 ⟨rfl,Hh⟩
      cases r
      ·go_wp2_with(with_reducible refine h_A ?_);go_ret;exact⟨rfl,(Ha).trans (Hh.mono (Ha).size)⟩
      ·go_wp2_with(with_reducible refine h_A ?_);go_ret;exact⟨rfl,(Ha).trans (Hh.mono (Ha).size)⟩
     ·rw[decide_eq_false hs]at fP;have HS:=Q1 hs;clear hs;(obtain rfl:r=false:=by rw[HR.out];simp[mayF,HN.out,HS.out]);go_enter func149,ntmps149;go_upto_region 1 with fail;rw[←Hg,←Hi];clear Hg Hi;go_wp2_with(with_reducible refine h_A ?_);go_ret;exact⟨rfl,Ha⟩
    ·have HN:=Q1 hn;(have gn:(nn==0)=false:=by simp;omega);clear de hn;(obtain rfl:r=false:=by rw[HR.out];simp[mayF,HN.out]);go_enter func149,ntmps149;go_upto_region 1 with fail;rw[←Hg,←Hi];clear Hg Hi;go_wp2_with(with_reducible refine h_A ?_);go_ret;exact⟨rfl,Ha⟩
   ·(have gl:(k !=169)=true:=by simp;omega);(have pB:(k==169)=false:=by simp;omega);by_cases fB:0<LL
    ·(have Pw:(0:Int)<(LL:Int):=by omega);have HM:=Q1 Hp;have HL:=Q1 B9;have pJ:Hid (¬LL=0):=Q1 Wq;clear fB Hp B9;(obtain rfl:r=false:=by rw[HR.out];simp[mayF,HM.out,HL.out,pJ.out]);go_enter func149,ntmps149;go_upto_region 1 with fail;rw[←Hg,←Hi];clear Hg Hi;go_wp2_with(with_reducible refine h_A ?_);go_ret;exact⟨rfl,Ha⟩
    ·(have Pw:¬(0:Int)<(LL:Int):=by omega);(obtain rfl:LL=0:=by omega);obtain rfl:al=true:=wU.out rfl;clear tW wU fB bI eL;by_cases pW:kd=240
     ·subst pW;(obtain rfl:k=240:=by rw[←hk];rfl);clear hk Hp gm oV B9 gl pB;by_cases hn:nd=0
      ·have HN:=Q1 hn;(have gn:(nn==0)=true:=by simp;omega);clear de hn;by_cases hs:sl=0
       ·rw[decide_eq_true hs]at fP;have HS:=Q1 hs;clear hs;(obtain rfl:r=true:=by rw[HR.out];simp[mayF,HN.out,HS.out]);go_enter func149,ntmps149;go_upto_region 1 with fail;rw[←Hg,←Hi];clear Hg Hi;go_wp2_with(with_reducible refine h_A ?_);go_ret;exact⟨rfl,Ha⟩
       ·rw[decide_eq_false hs]at fP;have HS:=Q1 hs;clear hs;(obtain rfl:r=false:=by rw[HR.out];simp[mayF,HN.out,HS.out]);go_enter func149,ntmps149;go_upto_region 1 with fail;rw[←Hg,←Hi];clear Hg Hi;go_wp2_with(with_reducible refine h_A ?_);go_ret;exact⟨rfl,Ha⟩
      ·have HN:=Q1 hn;(have gn:(nn==0)=false:=by simp;omega);clear de hn;(obtain rfl:r=false:=by rw[HR.out];simp[mayF,HN.out]);go_enter func149,ntmps149;go_upto_region 1 with fail;rw[←Hg,←Hi];clear Hg Hi;go_wp2_with(with_reducible refine h_A ?_);go_ret;exact⟨rfl,Ha⟩
     ·by_cases h8:kd=8
      ·subst h8;(obtain rfl:k=8:=by rw[←hk];rfl);clear hk Hp gm oV B9 gl pB;by_cases hn:nd≤1
       ·have HN:=Q1 hn;(have gn:nn≤1:=by omega);clear de hn;by_cases hs:sl=0
        ·rw[decide_eq_true hs]at fP;have HS:=Q1 hs;clear hs;(obtain rfl:r=true:=by rw[HR.out];simp[mayF,HN.out,HS.out]);go_enter func149,ntmps149;go_upto_region 1 with fail;rw[←Hg,←Hi];clear Hg Hi;go_wp2_with(with_reducible refine h_A ?_);go_ret;exact⟨rfl,Ha⟩
        ·rw[decide_eq_false hs]at fP;have HS:=Q1 hs;clear hs;(obtain rfl:r=false:=by rw[HR.out];simp[mayF,HN.out,HS.out]);go_enter func149,ntmps149;go_upto_region 1 with fail;rw[←Hg,←Hi];clear Hg Hi;go_wp2_with(with_reducible refine h_A ?_);go_ret;exact⟨rfl,Ha⟩
       ·have HN:=Q1 hn;(have gn:¬nn≤1:=by omega);clear de hn;(obtain rfl:r=false:=by rw[HR.out];simp[mayF,HN.out]);go_enter func149,ntmps149;go_upto_region 1 with fail;rw[←Hg,←Hi];clear Hg Hi;go_wp2_with(with_reducible refine h_A ?_);go_ret;exact⟨rfl,Ha⟩
      ·by_cases h2:kd=2
       ·subst h2;(obtain rfl:k=2:=by rw[←hk];rfl);clear hk Hp gm oV B9 gl pB;by_cases hn:nd≤255
        ·have HN:=Q1 hn;(have gn:nn≤255:=by omega);clear de hn;by_cases hs:sl=0
         ·rw[decide_eq_true hs]at fP;have HS:=Q1 hs;clear hs;(obtain rfl:r=true:=by rw[HR.out];simp[mayF,HN.out,HS.out]);go_enter func149,ntmps149;go_upto_region 1 with fail;rw[←Hg,←Hi];clear Hg Hi;go_wp2_with(with_reducible refine h_A ?_);go_ret;exact⟨rfl,Ha⟩
         ·rw[decide_eq_false hs]at fP;have HS:=Q1 hs;clear hs;(obtain rfl:r=false:=by rw[HR.out];simp[mayF,HN.out,HS.out]);go_enter func149,ntmps149;go_upto_region 1 with fail;rw[←Hg,←Hi];clear Hg Hi;go_wp2_with(with_reducible refine h_A ?_);go_ret;exact⟨rfl,Ha⟩
        ·have HN:=Q1 hn;(have gn:¬nn≤255:=by omega);clear de hn;(obtain rfl:r=false:=by rw[HR.out];simp[mayF,HN.out]);go_enter func149,ntmps149;go_upto_region 1 with fail;rw[←Hg,←Hi];clear Hg Hi;go_wp2_with(with_reducible refine h_A ?_);go_ret;exact⟨rfl,Ha⟩
       ·by_cases Es:kd=49
        ·subst Es;(obtain rfl:k=49:=by rw[←hk];rfl);clear hk Hp gm oV B9 gl pB;clear de;by_cases hs:sl=0
         ·rw[decide_eq_true hs]at fP;have HS:=Q1 hs;clear hs;(obtain rfl:r=true:=by rw[HR.out];simp[mayF,HS.out]);go_enter func149,ntmps149;go_upto_region 1 with fail;rw[←Hg,←Hi];clear Hg Hi;go_wp2_with(with_reducible refine h_A ?_);go_ret;exact⟨rfl,Ha⟩
         ·rw[decide_eq_false hs]at fP;have HS:=Q1 hs;clear hs;(obtain rfl:r=false:=by rw[HR.out];simp[mayF,HS.out]);go_enter func149,ntmps149;go_upto_region 1 with fail;rw[←Hg,←Hi];clear Hg Hi;go_wp2_with(with_reducible refine h_A ?_);go_ret;exact⟨rfl,Ha⟩
        ·by_cases DV:kd=50
         ·subst DV;(obtain rfl:k=50:=by rw[←hk];rfl);clear hk Hp gm oV B9 gl pB;clear de;by_cases hs:sl=0
          ·rw[decide_eq_true hs]at fP;have HS:=Q1 hs;clear hs;(obtain rfl:r=true:=by rw[HR.out];simp[mayF,HS.out]);go_enter func149,ntmps149;go_upto_region 1 with fail;rw[←Hg,←Hi];clear Hg Hi;go_wp2_with(with_reducible refine h_A ?_);go_ret;exact⟨rfl,Ha⟩
          ·rw[decide_eq_false hs]at fP;have HS:=Q1 hs;clear hs;(obtain rfl:r=false:=by rw[HR.out];simp[mayF,HS.out]);go_enter func149,ntmps149;go_upto_region 1 with fail;rw[←Hg,←Hi];clear Hg Hi;go_wp2_with(with_reducible refine h_A ?_);go_ret;exact⟨rfl,Ha⟩
         ·by_cases pX:kd=149
          ·subst pX;(obtain rfl:k=149:=by rw[←hk];rfl);clear hk Hp gm oV B9 gl pB;by_cases hn:nd=0
           ·have HN:=Q1 hn;(have gn:(nn==0)=true:=by simp;omega);clear de hn;by_cases hs:sl≤4096
            ·have HS:=Q1 hs;(have gs:(sl:Int)≤4096:=by omega);clear hs
             cases pl
             ·(obtain rfl:r=false:=by rw[HR.out];simp[mayF,HN.out,HS.out]);go_enter func149,ntmps149;go_upto_region 1 with fail;rw[←Hg,←Hi];clear Hg Hi;go_wp2_with(with_reducible refine h_A ?_);refine eg.mono ?_;rintro e w2 ⟨rfl,Hc⟩;go_wp2_with(with_reducible refine h_A ?_);go_ret;exact⟨rfl,Ha.trans (Hc.mono Ha.size)⟩
             ·(obtain rfl:r=true:=by rw[HR.out];simp[mayF,HN.out,HS.out]);go_enter func149,ntmps149;go_upto_region 1 with fail;rw[←Hg,←Hi];clear Hg Hi;go_wp2_with(with_reducible refine h_A ?_);refine eg.mono ?_;rintro e w2 ⟨rfl,Hc⟩;go_wp2_with(with_reducible refine h_A ?_);go_ret;exact⟨rfl,Ha.trans (Hc.mono Ha.size)⟩
            ·have HS:=Q1 hs;(have gs:¬(sl:Int)≤4096:=by omega);clear hs;(obtain rfl:r=false:=by rw[HR.out];simp[mayF,HN.out,HS.out]);go_enter func149,ntmps149;go_upto_region 1 with fail;rw[←Hg,←Hi];clear Hg Hi;go_wp2_with(with_reducible refine h_A ?_);go_ret;exact⟨rfl,Ha⟩
           ·have HN:=Q1 hn;(have gn:(nn==0)=false:=by simp;omega);clear de hn;(obtain rfl:r=false:=by rw[HR.out];simp[mayF,HN.out]);go_enter func149,ntmps149;go_upto_region 1 with fail;rw[←Hg,←Hi];clear Hg Hi;go_wp2_with(with_reducible refine h_A ?_);go_ret;exact⟨rfl,Ha⟩
          ·by_cases rz:kd=160
           ·subst rz;(obtain rfl:k=160:=by rw[←hk];rfl);clear hk Hp gm oV B9 gl pB;by_cases hn:nd=0
            ·have HN:=Q1 hn;(have gn:(nn==0)=true:=by simp;omega);clear de hn;by_cases hs:sl≤4096
             ·have HS:=Q1 hs;(have gs:(sl:Int)≤4096:=by omega);clear hs;(obtain rfl:r=true:=by rw[HR.out];simp[mayF,HN.out,HS.out]);go_enter func149,ntmps149;go_upto_region 1 with fail;rw[←Hg,←Hi];clear Hg Hi;go_wp2_with(with_reducible refine h_A ?_);go_ret;exact⟨rfl,Ha⟩
             ·have HS:=Q1 hs;(have gs:¬(sl:Int)≤4096:=by omega);clear hs;(obtain rfl:r=false:=by rw[HR.out];simp[mayF,HN.out,HS.out]);go_enter func149,ntmps149;go_upto_region 1 with fail;rw[←Hg,←Hi];clear Hg Hi;go_wp2_with(with_reducible refine h_A ?_);go_ret;exact⟨rfl,Ha⟩
            ·have HN:=Q1 hn;(have gn:(nn==0)=false:=by simp;omega);clear de hn;(obtain rfl:r=false:=by rw[HR.out];simp[mayF,HN.out]);go_enter func149,ntmps149;go_upto_region 1 with fail;rw[←Hg,←Hi];clear Hg Hi;go_wp2_with(with_reducible refine h_A ?_);go_ret;exact⟨rfl,Ha⟩
           ·(have IX:(k==240)=false:=by simp;omega);(have g8:(k==8)=false:=by simp;omega);(have g2:(k==2)=false:=by simp;omega);(have TP:(k==49)=false:=by simp;omega);(have Uo:(k==50)=false:=by simp;omega);(have Ll:(k==149)=false:=by simp;omega);(have Ib:(k==160)=false:=by simp;omega);have Ad:=Q1 pW;have H8:=Q1 h8;have H2:=Q1 h2;have NY:=Q1 Es;have Nu:=Q1 DV;have Al:=Q1 pX;have Av:=Q1 rz;have L5:=Q1 Hp;have Oj:=Q1 B9;clear hk Hp B9 de pW h8 h2 Es DV pX rz;(obtain rfl:r=false:=by rw[HR.out];simp[mayF,Ad.out,H8.out,H2.out,NY.out,Nu.out,Al.out,Av.out,L5.out,Oj.out]);go_enter func149,ntmps149;go_upto_region 1 with fail;rw[←Hg,←Hi];clear Hg Hi;go_wp2_with(with_reducible refine h_A ?_);go_ret;exact⟨rfl,Ha⟩
def errV(v:Vl):Int:=if xK 6 v=true then 51 else if cntV v 200<0 then 3 else if mayV zJ v=true then 0 else 50
theorem Yd(v:Vl)(h:VH)(w:World)(hv:RVw w v h)(hT:UTabs w):Calls prog 123 #[.agg (vlV v h)] w fun e w'=>e= .returned (.int .i64 (errV v))∧Below w.heap.size w w':=by
 exact Zq_
end Go.PH
