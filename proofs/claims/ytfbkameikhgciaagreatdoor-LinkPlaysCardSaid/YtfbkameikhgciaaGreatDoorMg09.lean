/- Parts. -/
import Derived.Test.YtfbkameikhgciaaGreatDoorMg08
set_option linter.all false
set_option maxRecDepth 20000
set_option maxHeartbeats 8000000
open Go.RowKit.Below renaming refl → Q2
open Go.Lib renaming hid → Q1
open Nat renaming lt_of_lt_of_le → K0
open Go.RowKit renaming intOf → KS
namespace Go.PH
open Go.RowKit Go.Proofs Go.Proofs.Tryz
theorem VS(A:Option Addr)(n c:Nat)(K:List (List UInt8))(w:World)(hr:Rd w w.heap.size 1 A n c (K.map txV))(hn:n≤140737488351232)(bI:∀k∈K,k.length≤140737488351232):
  Calls prog 167 #[.slice A n c] w fun e w'=>e= .returned (.bool (xC K zJ))∧Below w.heap.size w w':=by
 have hl:K.length=n:=by have:=hr.len;simpa using this
 have HL:=Q1 hl;have nS:=Q1 bI;clear hl bI;go_enter func167,ntmps167;go_wp2_with(with_reducible refine h_A ?_);go_loopw [3] (fun s wr=>∃(i:Nat),i≤n∧s= .int .i64 i∧Below w.heap.size w wr∧Hid ((∀k∈K.take i,jd k=true)∧(K.take i).Nodup)) (fun s _=>n-(KS s).toNat)
 case atStart=>exact⟨0,by omega,rfl,Q2 _ _,Q1 ⟨by simp,by simp⟩⟩
 obtain⟨i,hi,rfl,hB,HI⟩:=hrel;by_cases hlt:i<n
 ·have g1:(i:Int)<(n:Int):=by omega
  have BB:i<K.length:=by rw[HL.out];exact hlt
  obtain⟨b,off,rfl,hC⟩:=jH hr hlt BB;have y0:=hC wr hB;have Cy:=nS.out _ (List.getElem_mem BB);have mA:Hid (jd K[i]=false→xC K zJ=false):=Q1 (Q3 BB);have RE:Hid (K[i]∈K.take i→xC K zJ=false):=Q1 (Ye BB);have Rq:Hid (K[i]∉K.take i→(K.take (i+1)).Nodup):=Q1 (Yf BB HI.out.2);have Da:Hid (K.take (i+1)=K.take i++ [K[i]]):=Q1 (List.take_succ_eq_append_getElem BB);generalize U2:K[i]=a at*;have fk:=Q1 U2;clear U2;have has:=zi a;have eg:=VT a wr Cy;have ta:Hid (jd a=(decide (1≤a.length)&&decide (a.length≤255)&&zJ a)):=Q1 rfl;by_cases Gi:a.length=0
  ·exact Z3d_
  have g3:¬(a.length:Int)<1:=by omega
  by_cases dC:255<a.length
  ·have qqe4:=();exact Z3c_
  have g2:¬(255:Int)<(a.length:Int):=by omega
  have lH:Hid (jd a=zJ a):=Q1 (by rw[ta.out,decide_eq_true (by omega:1≤a.length),decide_eq_true (by omega:a.length≤255)];rfl);clear Gi dC
  cases hu:zJ a
  ·have qqds:=();exact Z3a_
  rw[hu]at eg;have O6:Hid (jd a=true):=Q1 (by rw[lH.out,hu]);clear hu;go_wp2_with(with_reducible refine h_A ?_);refine eg.mono ?_;rintro e w2 ⟨rfl,rfl⟩;clear eg y0 g2 g3;go_wp2_with(with_reducible refine h_A ?_);go_loopw [4] (fun s4 wx=>∃(k:Nat),k≤i∧s4= .int .i64 k∧Below w.heap.size w wx∧Hid (∀j (h:j<k) (h':j<K.length),K[j]≠a)) (fun s4 _=>i-(KS s4).toNat)
  case atStart=>exact⟨0,by omega,rfl,hB,Q1 (fun j h _=>absurd h (Nat.not_lt_zero j))⟩
  clear hB;obtain⟨k,hk,rfl,hB,HJ⟩:=hrel;by_cases UF:k<i
  ·(have g4:(k:Int)<(i:Int):=by omega);(have g5:(k:Int)<(n:Int):=by omega);(have bI:k<K.length:=by omega);have y0:=hC wr hB;obtain⟨b',off',ei,wM⟩:=jH hr (show k<n by omega) bI;(injection ei with ei);(injection ei with e1 e2 _);subst e1 e2;have y1:=wM wr hB;have WR:Hid (K[k]∈K.take i):=Q1 (by rw[List.mem_take_iff_getElem];exact⟨k,by omega,rfl⟩)
   have UG:Hid (K[k]≠a→∀j (h:j<k+1) (h':j<K.length),K[j]≠a):=Q1 (fun hne j h h'=>by
    by_cases e:j=k
    ·subst e;exact hne
    ·exact HJ.out j Wq h')
   clear wM;generalize K[k]=d at*;have UO:=jZ d a;by_cases Gu:d=a
   ·have HF:Hid (xC K zJ=false):=Q1 (RE.out (Gu▸WR.out));rw[decide_eq_true Gu]at UO;clear Gu;go_wp2_with(with_reducible refine h_A ?_);go_quiet(fail);go_wp2_with(with_reducible refine h_A ?_);go_ret;rw[HF.out];exact⟨rfl,za hB _⟩
   have HJ3:=Q1 (UG.out Gu);rw[decide_eq_false Gu]at UO;clear Gu UG;go_wp2_with(with_reducible refine h_A ?_);go_quiet(fail);go_wp2_with(with_reducible refine h_A ?_);exact⟨⟨k+1,by omega,by go_num,za hB _,HJ3⟩,by simp[KS];omega⟩
  have g4:¬(k:Int)<(i:Int):=by omega
  have SO:Hid ((∀k∈K.take (i+1),jd k=true)∧(K.take (i+1)).Nodup):=Q1 (by
   refine⟨fun k hk=>?_,Rq.out fun hm=>?_⟩
   ·rw[Da.out]at hk;rcases List.mem_append.1 hk with hk|hk
    ·exact HI.out.1 k hk
    ·rw[List.mem_singleton.1 hk];exact O6.out
   ·rw[List.mem_take_iff_getElem]at hm;obtain⟨j,hj,e⟩:=hm
    exact HJ.out j Wq Wq e)
  go_wp2_with(with_reducible refine h_A ?_);exact⟨⟨i+1,by omega,by go_num,hB,SO⟩,by simp[KS];omega⟩
 have HF:Hid (xC K zJ=true):=Q1 (by
  have h:=HI.out;rw[List.take_of_length_le (by rw[HL.out];omega)]at h
  exact Xr h.1 h.2)
 exact Z51_
theorem zbv(v:Vl):∀(h:VH) (w:World),RVw w v h→Calls prog 145 #[.agg (vlV v h)] w (MayR w v):=by
 first
 | have qq7u:=qq7u
   refine Vl.ind (P:=fun v=>∀(h:VH) (w:World),RVw w v h→UTabs w→Calls prog 149 #[.agg (vlV v h)] w (MayR w v)) ?_ v
   intro v ih h w hv hT
 | refine Vl.ind (P:=fun v=>∀(h:VH) (w:World),RVw w v h→Calls prog 145 #[.agg (vlV v h)] w (MayR w v)) ?_ v
   intro v ih h w hv
 unfold vlV MayR;obtain⟨xb,w1,Hg,Hi,hX,Ha⟩:=zg w #[.int .u8 (v.kind:Int),.int .u64 (v.n:Int),.string (str v.s),.slice h.A1 v.keys.length h.c1,.slice h.A2 v.list.length h.c2] 78;have dE:=hv.up Ha;first|(have qq7u:=qq7u;have uK:=hT.on Ha)|(skip)
 obtain⟨_,RI,mF,mu,IA,v9⟩:=hv.bounds
 have lA:RdX w1 (fun g=>g<w1.heap.size) 1 h.A1 v.keys.length h.c1 (v.keys.map txV):=by
  obtain⟨xs,_,_,_,lA⟩:=dE.parts;exact lA
 first
 | have qq7u:=qq7u
   have eL:=K6 h.A1 v.keys.length h.c1 v.keys w1 lA.1 IA mu uK;have eg:=Xs v.s w1 mF uK;have lW:=fun W (hW:Below w1.heap.size w1 W)=>zck (fun x=> !mayV zJ x) 0 v h W (dE.up hW) (fun x hx nH W' Gq ek=>za0 x nH W' ek (fun W2 GJ=>ih x hx nH W2 (ek.up GJ) (((uK.on hW).on Gq).on GJ)))
   rw[Qm]at lW
 | have eL:=VS h.A1 v.keys.length h.c1 v.keys w1 lA.1 IA mu
   have eg:=VT v.s w1 mF;(have BE:=fun i (hi:i<v.list.length)=>dE.elem hi);have sV:=Lib.hid BE;have IH:=Lib.hid ih
 obtain⟨r,hr⟩:∃r,r=mayV zJ v:=⟨_,rfl⟩
 rw[←hr];rw[kK]at hr;have BL:v.list.length=0→v.list.all (mayV zJ)=true:=fun e=>by rw[List.length_eq_zero_iff.1 e];rfl
 have fP:=ZH v.s;first|done|(have qq7u:=qq7u)|(have cS:((str v.s).toList != [])= !decide (v.s.length=0):=by rw[zl];cases v.s<;>simp)
 have has:=zi v.s;first|(have qq7u:=qq7u;clear ih hv hT dE uK lA mu)|(clear ih hv dE lA mu BE)
 generalize xC v.keys zJ=ko at*;generalize zJ v.s=pl at*;first|(have qq7u:=qq7u;generalize v.list.all (mayV zJ)=al at*)|(generalize Cy:v.list.all (mayV zJ)=al at*)
 generalize v.keys.length=KL at*
 first
 | have qq7u:=qq7u
   generalize v.list.length=LL at*
 | obtain⟨LL,pU⟩:∃LL,LL=v.list.length:=⟨_,rfl⟩
   rw[←pU]at v9 BL Hi hX hr ⊢
 generalize v.s=s at*;obtain⟨h1,j1,h2,j2⟩:=h;simp only at*;generalize v.kind=kd at*;generalize v.n=nd at*;generalize hk:((kd:Nat):Int)=k at*;generalize de:((nd:Nat):Int)=nn at*;generalize FI:s.length=sl at*;have HR:=Lib.hid hr;have wU:=Lib.hid BL
 first
 | have qq7u:=qq7u
   clear hr BL FI
 | have Cd:=Lib.hid Cy
   have Ci:=Lib.hid pU;clear hr BL FI Cy pU
 have c0:=hX.c0;have c1:=hX.c1;have c2:=hX.c2;have c3:=hX.c3
 have c4:=hX.c4
 by_cases Hp:kd=168
 ·subst Hp;obtain rfl:k=168:=by rw[←hk];rfl
  clear hk eg;by_cases hs:sl=0
  ·rw[decide_eq_true hs]at fP cS;simp only[Bool.not_true]at cS;have HS:=Q1 hs;(have gs:¬(4096:Int)<(sl:Int):=by omega);clear hs;by_cases BC:KL=LL
   ·(have gl:((KL:Int)!=(LL:Int))=false:=by simp[BC]);have lc:=Q1 BC;clear BC
    cases ko
    ·(obtain rfl:r=false:=by rw[HR.out];simp[mayF]);go_enter func145,ntmps145;go_upto_region 1 with fail;rw[←Hg,←Hi];clear Hg Hi;go_wp2_with(with_reducible refine h_A ?_);refine eL.mono ?_;rintro e w2 ⟨rfl,Hc⟩;go_wp2_with(with_reducible refine h_A ?_);go_ret;exact⟨rfl,Ha.trans (Hc.mono Ha.size)⟩
    ·by_cases hn:nd=0
     ·have fE:=Q1 hn;(have gn:(nn !=0)=false:=by simp;omega);(have AV:(nn==0)=true:=by simp;omega);clear de hn;(obtain rfl:r=al:=by rw[HR.out];simp[mayF,lc.out,HS.out,fE.out]);go_enter func145,ntmps145;go_upto_region 1 with fail;rw[←Hg,←Hi];clear Hg Hi;go_wp2_with(with_reducible refine h_A ?_);refine eL.mono ?_;rintro e w2 ⟨rfl,Hc⟩;have Hk:=hX.below Hc;clear c0 c1 c2 c3 c4;have c0:=Hk.c0;have c1:=Hk.c1;have c2:=Hk.c2;have c3:=Hk.c3;have c4:=Hk.c4;go_wp2_with(with_reducible refine h_A ?_);clear c0 c1 c2 c3 c4;go_loopw [5] (fun s4 wr=>∃i:Nat,i≤LL∧s4= .int .i64 i∧Hid ((v.list.drop i).all (mayV zJ)=v.list.all (mayV zJ))∧Below w1.heap.size w1 wr) (fun s4 _=>LL-(KS s4).toNat)
      case atStart=>exact⟨0,by omega,rfl,Q1 rfl,Hc⟩
      case round=>
       obtain⟨i,hi,rfl,HC,hB⟩:=hrel;have CB:=hX.below hB;have c4:=CB.c4;by_cases hlt:i<LL
       ·(have g1:(i:Int)<(LL:Int):=by omega);(have BB:i<v.list.length:=by rw[←Ci.out];exact hlt);obtain⟨b,off,hx,rfl,ek,HX⟩:=sV.out i BB;obtain⟨k0,k1,k2,k3,k4⟩:=HX wr hB;have HD:Hid ((v.list.drop i).all (mayV zJ)=(mayV zJ v.list[i]&&(v.list.drop (i+1)).all (mayV zJ))):=Q1 (by rw[List.drop_eq_getElem_cons BB,List.all_cons]);have hq:=IH.out _ (List.getElem_mem BB) hx wr (ek.up hB);clear HX ek;generalize v.list[i]=x at*;unfold vlV MayR at hq
        cases hp:mayV zJ x
        ·have HQ:Hid (v.list.all (mayV zJ)=false):=Q1 NJ;rw[hp]at hq;clear hp;go_wp2_with(with_reducible refine h_A ?_);refine hq.mono ?_;rintro e w9 ⟨rfl,Bl⟩;clear hq k0 k1 k2 k3 k4 c4;go_wp2_with(with_reducible refine h_A ?_);go_ret;have h9:=Cd.out;rw[HQ.out]at h9;exact⟨(by rw[←h9];rfl),Ha.trans ((hB.trans (Bl.mono hB.size)).mono Ha.size)⟩
        ·have HQ:Hid ((v.list.drop (i+1)).all (mayV zJ)=v.list.all (mayV zJ)):=Q1 NJ;rw[hp]at hq;clear hp;go_wp2_with(with_reducible refine h_A ?_);refine hq.mono ?_;rintro e w9 ⟨rfl,Bl⟩;clear hq k0 k1 k2 k3 k4 c4;go_wp2_with(with_reducible refine h_A ?_);exact⟨⟨i+1,by omega,by go_num,HQ,hB.trans (Bl.mono hB.size)⟩,by simp[KS];omega⟩
       ·(have g1:¬(i:Int)<(LL:Int):=by omega);have HQ:Hid (v.list.all (mayV zJ)=true):=Q1 (by rw[←HC.out,List.drop_eq_nil_of_le (by rw[←Ci.out];omega)];rfl);go_wp2_with(with_reducible refine h_A ?_);go_ret;have h9:=Cd.out;rw[HQ.out]at h9;exact⟨(by rw[←h9];rfl),Ha.trans (hB.mono Ha.size)⟩
     ·have fE:=Q1 hn;(have gn:(nn !=0)=true:=by simp;omega);(have AV:(nn==0)=false:=by simp;omega);clear de hn;(obtain rfl:r=false:=by rw[HR.out];simp[mayF,lc.out,HS.out,fE.out]);go_enter func145,ntmps145;go_upto_region 1 with fail;rw[←Hg,←Hi];clear Hg Hi;go_wp2_with(with_reducible refine h_A ?_);refine eL.mono ?_;rintro e w2 ⟨rfl,Hc⟩;have Hk:=hX.below Hc;clear c0 c1 c2 c3 c4;have c0:=Hk.c0;have c1:=Hk.c1;have c2:=Hk.c2;have c3:=Hk.c3;have c4:=Hk.c4;go_wp2_with(with_reducible refine h_A ?_);go_ret;exact⟨rfl,Ha.trans ((Hc).mono Ha.size)⟩
   ·(have gl:((KL:Int)!=(LL:Int))=true:=by simp;omega);have lc:=Q1 BC;clear BC;(obtain rfl:r=false:=by rw[HR.out];simp[mayF,lc.out]);go_enter func145,ntmps145;go_upto_region 1 with fail;rw[←Hg,←Hi];clear Hg Hi;go_wp2_with(with_reducible refine h_A ?_);go_ret;exact⟨rfl,Ha⟩
  ·rw[decide_eq_false hs]at fP cS;simp only[Bool.not_false]at cS;have HS:=Q1 hs;clear hs;(obtain rfl:r=false:=by rw[HR.out];simp[mayF,HS.out]);go_enter func145,ntmps145;go_upto_region 1 with fail;rw[←Hg,←Hi];clear Hg Hi;go_wp2_with(with_reducible refine h_A ?_);go_ret;exact⟨rfl,Ha⟩
 ·have gm:(k !=168)=true:=by simp;omega
  have oV:(k==168)=false:=by simp;omega
  by_cases bI:0<KL
  ·(have gk:(0:Int)<(KL:Int):=by omega);have HM:=Q1 Hp;have nS:Hid (¬KL=0):=Q1 Wq;clear bI Hp;by_cases SD:kd=169
   ·(obtain rfl:k=169:=by rw[←hk,SD];rfl);clear hk;(obtain rfl:r=false:=by rw[HR.out];simp[mayF,HM.out,nS.out]);go_enter func145,ntmps145;go_upto_region 1 with fail;rw[←Hg,←Hi];clear Hg Hi;go_wp2_with(with_reducible refine h_A ?_);go_ret;exact⟨rfl,Ha⟩
   ·(have he6:(k==169)=false:=by simp;omega);by_cases FR:kd=149
    ·(obtain rfl:k=149:=by rw[←hk,FR];rfl);clear hk;(obtain rfl:r=false:=by rw[HR.out];simp[mayF,HM.out,nS.out]);go_enter func145,ntmps145;go_upto_region 1 with fail;rw[←Hg,←Hi];clear Hg Hi;go_wp2_with(with_reducible refine h_A ?_);go_ret;exact⟨rfl,Ha⟩
    ·(have Pz:(k==149)=false:=by simp;omega);by_cases EL:kd=160
     ·(obtain rfl:k=160:=by rw[←hk,EL];rfl);clear hk;(obtain rfl:r=false:=by rw[HR.out];simp[mayF,HM.out,nS.out]);go_enter func145,ntmps145;go_upto_region 1 with fail;rw[←Hg,←Hi];clear Hg Hi;go_wp2_with(with_reducible refine h_A ?_);go_ret;exact⟨rfl,Ha⟩
     ·(have O4:(k==160)=false:=by simp;omega);(obtain rfl:r=false:=by rw[HR.out];simp[mayF,HM.out,nS.out]);go_enter func145,ntmps145;go_upto_region 1 with fail;rw[←Hg,←Hi];clear Hg Hi;go_wp2_with(with_reducible refine h_A ?_);go_ret;exact⟨rfl,Ha⟩
  ·(have gk:¬(0:Int)<(KL:Int):=by omega);(obtain rfl:KL=0:=by omega);by_cases B9:kd=169
   ·subst B9;(obtain rfl:k=169:=by rw[←hk];rfl);clear hk bI Hp gm oV eL eg;by_cases hs:sl=0
    ·rw[decide_eq_true hs]at fP cS;simp only[Bool.not_true]at cS;have HS:=Q1 hs;(have gs:¬(4096:Int)<(sl:Int):=by omega);clear hs;by_cases hn:nd=0
     ·have fE:=Q1 hn;(have gn:(nn !=0)=false:=by simp;omega);(have AV:(nn==0)=true:=by simp;omega);clear de hn;(obtain rfl:r=al:=by rw[HR.out];simp[mayF,HS.out,fE.out]);go_enter func145,ntmps145;go_upto_region 1 with fail;rw[←Hg,←Hi];clear Hg Hi;go_wp2_with(with_reducible refine h_A ?_);clear c0 c1 c2 c3 c4;go_loopw [5] (fun s4 wr=>∃i:Nat,i≤LL∧s4= .int .i64 i∧Hid ((v.list.drop i).all (mayV zJ)=v.list.all (mayV zJ))∧Below w1.heap.size w1 wr) (fun s4 _=>LL-(KS s4).toNat)
      case atStart=>exact⟨0,by omega,rfl,Q1 rfl,Q2 _ _⟩
      case round=>
       obtain⟨i,hi,rfl,HC,hB⟩:=hrel;have CB:=hX.below hB;have c4:=CB.c4;by_cases hlt:i<LL
       ·(have g1:(i:Int)<(LL:Int):=by omega);(have BB:i<v.list.length:=by rw[←Ci.out];exact hlt);obtain⟨b,off,hx,rfl,ek,HX⟩:=sV.out i BB;obtain⟨k0,k1,k2,k3,k4⟩:=HX wr hB;have HD:Hid ((v.list.drop i).all (mayV zJ)=(mayV zJ v.list[i]&&(v.list.drop (i+1)).all (mayV zJ))):=Q1 (by rw[List.drop_eq_getElem_cons BB,List.all_cons]);have hq:=IH.out _ (List.getElem_mem BB) hx wr (ek.up hB);clear HX ek;generalize v.list[i]=x at*;unfold vlV MayR at hq
        cases hp:mayV zJ x
        ·have HQ:Hid (v.list.all (mayV zJ)=false):=Q1 NJ;rw[hp]at hq;clear hp;go_wp2_with(with_reducible refine h_A ?_);refine hq.mono ?_;rintro e w9 ⟨rfl,Bl⟩;clear hq k0 k1 k2 k3 k4 c4;go_wp2_with(with_reducible refine h_A ?_);go_ret;have h9:=Cd.out;rw[HQ.out]at h9;exact⟨(by rw[←h9];rfl),Ha.trans ((hB.trans (Bl.mono hB.size)).mono Ha.size)⟩
        ·have HQ:Hid ((v.list.drop (i+1)).all (mayV zJ)=v.list.all (mayV zJ)):=Q1 NJ;rw[hp]at hq;clear hp;go_wp2_with(with_reducible refine h_A ?_);refine hq.mono ?_;rintro e w9 ⟨rfl,Bl⟩;clear hq k0 k1 k2 k3 k4 c4;go_wp2_with(with_reducible refine h_A ?_);exact⟨⟨i+1,by omega,by go_num,HQ,hB.trans (Bl.mono hB.size)⟩,by simp[KS];omega⟩
       ·(have g1:¬(i:Int)<(LL:Int):=by omega);have HQ:Hid (v.list.all (mayV zJ)=true):=Q1 (by rw[←HC.out,List.drop_eq_nil_of_le (by rw[←Ci.out];omega)];rfl);go_wp2_with(with_reducible refine h_A ?_);go_ret;have h9:=Cd.out;rw[HQ.out]at h9;exact⟨(by rw[←h9];rfl),Ha.trans (hB.mono Ha.size)⟩
     ·have fE:=Q1 hn;(have gn:(nn !=0)=true:=by simp;omega);(have AV:(nn==0)=false:=by simp;omega);clear de hn;(obtain rfl:r=false:=by rw[HR.out];simp[mayF,HS.out,fE.out]);go_enter func145,ntmps145;go_upto_region 1 with fail;rw[←Hg,←Hi];clear Hg Hi;go_wp2_with(with_reducible refine h_A ?_);go_ret;exact⟨rfl,Ha.trans ((Q2 _ _).mono Ha.size)⟩
    ·rw[decide_eq_false hs]at fP cS;simp only[Bool.not_false]at cS;have HS:=Q1 hs;clear hs;(obtain rfl:r=false:=by rw[HR.out];simp[mayF,HS.out]);go_enter func145,ntmps145;go_upto_region 1 with fail;rw[←Hg,←Hi];clear Hg Hi;go_wp2_with(with_reducible refine h_A ?_);go_ret;exact⟨rfl,Ha⟩
   ·(have gl:(k !=169)=true:=by simp;omega);(have pB:(k==169)=false:=by simp;omega);by_cases fB:0<LL
    ·(have Pw:(0:Int)<(LL:Int):=by omega);have HM:=Q1 Hp;have HL:=Q1 B9;have pJ:Hid (¬LL=0):=Q1 Wq;clear fB Hp B9;by_cases FR:kd=149
     ·(obtain rfl:k=149:=by rw[←hk,FR];rfl);clear hk;(obtain rfl:r=false:=by rw[HR.out];simp[mayF,HM.out,HL.out,pJ.out]);go_enter func145,ntmps145;go_upto_region 1 with fail;rw[←Hg,←Hi];clear Hg Hi;go_wp2_with(with_reducible refine h_A ?_);go_ret;exact⟨rfl,Ha⟩
     ·(have Pz:(k==149)=false:=by simp;omega);by_cases EL:kd=160
      ·(obtain rfl:k=160:=by rw[←hk,EL];rfl);clear hk;(obtain rfl:r=false:=by rw[HR.out];simp[mayF,HM.out,HL.out,pJ.out]);go_enter func145,ntmps145;go_upto_region 1 with fail;rw[←Hg,←Hi];clear Hg Hi;go_wp2_with(with_reducible refine h_A ?_);go_ret;exact⟨rfl,Ha⟩
      ·(have O4:(k==160)=false:=by simp;omega);(obtain rfl:r=false:=by rw[HR.out];simp[mayF,HM.out,HL.out,pJ.out]);go_enter func145,ntmps145;go_upto_region 1 with fail;rw[←Hg,←Hi];clear Hg Hi;go_wp2_with(with_reducible refine h_A ?_);go_ret;exact⟨rfl,Ha⟩
    ·(have Pw:¬(0:Int)<(LL:Int):=by omega);(obtain rfl:LL=0:=by omega);obtain rfl:al=true:=wU.out rfl;clear fB bI eL;by_cases pW:kd=240
     ·subst pW;(obtain rfl:k=240:=by rw[←hk];rfl);clear hk Hp gm oV B9 gl pB;by_cases hs:sl=0
      ·rw[decide_eq_true hs]at fP cS;simp only[Bool.not_true]at cS;have HS:=Q1 hs;(have gs:¬(4096:Int)<(sl:Int):=by omega);clear hs;by_cases hn:nd=0
       ·have fE:=Q1 hn;(have gn:(nn !=0)=false:=by simp;omega);(have AV:(nn==0)=true:=by simp;omega);clear de hn;(obtain rfl:r=true:=by rw[HR.out];simp[mayF,HS.out,fE.out]);go_enter func145,ntmps145;go_upto_region 1 with fail;rw[←Hg,←Hi];clear Hg Hi;go_wp2_with(with_reducible refine h_A ?_);clear c0 c1 c2 c3 c4;go_loopw [5] (fun s4 wr=>s4= .int .i64 0∧Below w1.heap.size w1 wr) (fun _ _=>0)
        case atStart=>exact⟨rfl,Q2 _ _⟩
        case round=>
         obtain⟨rfl,hB⟩:=hrel;have CB:=hX.below hB;have c4:=CB.c4;go_wp2_with(with_reducible refine h_A ?_);go_ret;exact⟨rfl,Ha.trans (hB.mono Ha.size)⟩
       ·have fE:=Q1 hn;(have gn:(nn !=0)=true:=by simp;omega);(have AV:(nn==0)=false:=by simp;omega);clear de hn;(obtain rfl:r=false:=by rw[HR.out];simp[mayF,HS.out,fE.out]);go_enter func145,ntmps145;go_upto_region 1 with fail;rw[←Hg,←Hi];clear Hg Hi;go_wp2_with(with_reducible refine h_A ?_);go_ret;exact⟨rfl,Ha.trans ((Q2 _ _).mono Ha.size)⟩
      ·rw[decide_eq_false hs]at fP cS;simp only[Bool.not_false]at cS;have HS:=Q1 hs;clear hs;(obtain rfl:r=false:=by rw[HR.out];simp[mayF,HS.out]);go_enter func145,ntmps145;go_upto_region 1 with fail;rw[←Hg,←Hi];clear Hg Hi;go_wp2_with(with_reducible refine h_A ?_);go_ret;exact⟨rfl,Ha⟩
     ·by_cases h8:kd=8
      ·subst h8;(obtain rfl:k=8:=by rw[←hk];rfl);clear hk Hp gm oV B9 gl pB;by_cases hs:sl=0
       ·rw[decide_eq_true hs]at fP cS;simp only[Bool.not_true]at cS;have HS:=Q1 hs;(have gs:¬(4096:Int)<(sl:Int):=by omega);clear hs;by_cases hn:nd≤1
        ·have fE:=Q1 hn;(have gn:nn≤1:=by omega);clear de hn;(obtain rfl:r=true:=by rw[HR.out];simp[mayF,fE.out,HS.out]);go_enter func145,ntmps145;go_upto_region 1 with fail;rw[←Hg,←Hi];clear Hg Hi;go_wp2_with(with_reducible refine h_A ?_);go_ret;exact⟨rfl,Ha⟩
        ·have fE:=Q1 hn;(have gn:¬nn≤1:=by omega);clear de hn;(obtain rfl:r=false:=by rw[HR.out];simp[mayF,fE.out,HS.out]);go_enter func145,ntmps145;go_upto_region 1 with fail;rw[←Hg,←Hi];clear Hg Hi;go_wp2_with(with_reducible refine h_A ?_);go_ret;exact⟨rfl,Ha⟩
       ·rw[decide_eq_false hs]at fP cS;simp only[Bool.not_false]at cS;have HS:=Q1 hs;clear hs;(obtain rfl:r=false:=by rw[HR.out];simp[mayF,HS.out]);go_enter func145,ntmps145;go_upto_region 1 with fail;rw[←Hg,←Hi];clear Hg Hi;go_wp2_with(with_reducible refine h_A ?_);go_ret;exact⟨rfl,Ha⟩
      ·by_cases h2:kd=2
       ·subst h2;(obtain rfl:k=2:=by rw[←hk];rfl);clear hk Hp gm oV B9 gl pB;by_cases hs:sl=0
        ·rw[decide_eq_true hs]at fP cS;simp only[Bool.not_true]at cS;have HS:=Q1 hs;(have gs:¬(4096:Int)<(sl:Int):=by omega);clear hs;by_cases hn:nd≤255
         ·have fE:=Q1 hn;(have gn:nn≤255:=by omega);clear de hn;(obtain rfl:r=true:=by rw[HR.out];simp[mayF,fE.out,HS.out]);go_enter func145,ntmps145;go_upto_region 1 with fail;rw[←Hg,←Hi];clear Hg Hi;go_wp2_with(with_reducible refine h_A ?_);go_ret;exact⟨rfl,Ha⟩
         ·have fE:=Q1 hn;(have gn:¬nn≤255:=by omega);clear de hn;(obtain rfl:r=false:=by rw[HR.out];simp[mayF,fE.out,HS.out]);go_enter func145,ntmps145;go_upto_region 1 with fail;rw[←Hg,←Hi];clear Hg Hi;go_wp2_with(with_reducible refine h_A ?_);go_ret;exact⟨rfl,Ha⟩
        ·rw[decide_eq_false hs]at fP cS;simp only[Bool.not_false]at cS;have HS:=Q1 hs;clear hs;(obtain rfl:r=false:=by rw[HR.out];simp[mayF,HS.out]);go_enter func145,ntmps145;go_upto_region 1 with fail;rw[←Hg,←Hi];clear Hg Hi;go_wp2_with(with_reducible refine h_A ?_);go_ret;exact⟨rfl,Ha⟩
       ·by_cases Es:kd=49
        ·subst Es;(obtain rfl:k=49:=by rw[←hk];rfl);clear hk Hp gm oV B9 gl pB;clear de;by_cases hs:sl=0
         ·rw[decide_eq_true hs]at fP cS;simp only[Bool.not_true]at cS;have HS:=Q1 hs;(have gs:¬(4096:Int)<(sl:Int):=by omega);clear hs;(obtain rfl:r=true:=by rw[HR.out];simp[mayF,HS.out]);go_enter func145,ntmps145;go_upto_region 1 with fail;rw[←Hg,←Hi];clear Hg Hi;go_wp2_with(with_reducible refine h_A ?_);go_ret;exact⟨rfl,Ha⟩
         ·rw[decide_eq_false hs]at fP cS;simp only[Bool.not_false]at cS;have HS:=Q1 hs;clear hs;(obtain rfl:r=false:=by rw[HR.out];simp[mayF,HS.out]);go_enter func145,ntmps145;go_upto_region 1 with fail;rw[←Hg,←Hi];clear Hg Hi;go_wp2_with(with_reducible refine h_A ?_);go_ret;exact⟨rfl,Ha⟩
        ·by_cases DV:kd=50
         ·subst DV;(obtain rfl:k=50:=by rw[←hk];rfl);clear hk Hp gm oV B9 gl pB;clear de;by_cases hs:sl=0
          ·rw[decide_eq_true hs]at fP cS;simp only[Bool.not_true]at cS;have HS:=Q1 hs;(have gs:¬(4096:Int)<(sl:Int):=by omega);clear hs;(obtain rfl:r=true:=by rw[HR.out];simp[mayF,HS.out]);go_enter func145,ntmps145;go_upto_region 1 with fail;rw[←Hg,←Hi];clear Hg Hi;go_wp2_with(with_reducible refine h_A ?_);go_ret;exact⟨rfl,Ha⟩
          ·rw[decide_eq_false hs]at fP cS;simp only[Bool.not_false]at cS;have HS:=Q1 hs;clear hs;(obtain rfl:r=false:=by rw[HR.out];simp[mayF,HS.out]);go_enter func145,ntmps145;go_upto_region 1 with fail;rw[←Hg,←Hi];clear Hg Hi;go_wp2_with(with_reducible refine h_A ?_);go_ret;exact⟨rfl,Ha⟩
         ·by_cases pX:kd=149
          ·subst pX;(obtain rfl:k=149:=by rw[←hk];rfl);clear hk Hp gm oV B9 gl pB;by_cases hs:sl≤4096
           ·have HS:=Q1 hs;(have gs:¬(4096:Int)<(sl:Int):=by omega);clear hs
            cases pl
            ·(obtain rfl:r=false:=by rw[HR.out];simp[mayF,HS.out]);go_enter func145,ntmps145;go_upto_region 1 with fail;rw[←Hg,←Hi];clear Hg Hi;go_wp2_with(with_reducible refine h_A ?_);refine eg.mono ?_;rintro e w2 ⟨rfl,rfl⟩;go_wp2_with(with_reducible refine h_A ?_);go_ret;exact⟨rfl,Ha⟩
            ·by_cases hn:nd=0
             ·have fE:=Q1 hn;(have gn:(nn !=0)=false:=by simp;omega);(have AV:(nn==0)=true:=by simp;omega);clear de hn;(obtain rfl:r=true:=by rw[HR.out];simp[mayF,HS.out,fE.out]);go_enter func145,ntmps145;go_upto_region 1 with fail;rw[←Hg,←Hi];clear Hg Hi;go_wp2_with(with_reducible refine h_A ?_);refine eg.mono ?_;rintro e w2 ⟨rfl,rfl⟩;go_wp2_with(with_reducible refine h_A ?_);clear c0 c1 c2 c3 c4;go_loopw [5] (fun s4 wr=>s4= .int .i64 0∧Below w1.heap.size w1 wr) (fun _ _=>0)
              case atStart=>exact⟨rfl,Q2 _ _⟩
              case round=>
               obtain⟨rfl,hB⟩:=hrel;have CB:=hX.below hB;have c4:=CB.c4;go_wp2_with(with_reducible refine h_A ?_);go_ret;exact⟨rfl,Ha.trans (hB.mono Ha.size)⟩
             ·have fE:=Q1 hn;(have gn:(nn !=0)=true:=by simp;omega);(have AV:(nn==0)=false:=by simp;omega);clear de hn;(obtain rfl:r=false:=by rw[HR.out];simp[mayF,HS.out,fE.out]);go_enter func145,ntmps145;go_upto_region 1 with fail;rw[←Hg,←Hi];clear Hg Hi;go_wp2_with(with_reducible refine h_A ?_);refine eg.mono ?_;rintro e w2 ⟨rfl,rfl⟩;go_wp2_with(with_reducible refine h_A ?_);go_ret;exact⟨rfl,Ha.trans ((Q2 _ _).mono Ha.size)⟩
           ·have HS:=Q1 hs;(have gs:(4096:Int)<(sl:Int):=by omega);clear hs;(obtain rfl:r=false:=by rw[HR.out];simp[mayF,HS.out]);go_enter func145,ntmps145;go_upto_region 1 with fail;rw[←Hg,←Hi];clear Hg Hi;go_wp2_with(with_reducible refine h_A ?_);go_ret;exact⟨rfl,Ha⟩
          ·by_cases rz:kd=160
           ·subst rz;(obtain rfl:k=160:=by rw[←hk];rfl);clear hk Hp gm oV B9 gl pB;by_cases hs:sl≤4096
            ·have HS:=Q1 hs;(have gs:¬(4096:Int)<(sl:Int):=by omega);clear hs;by_cases hn:nd=0
             ·have fE:=Q1 hn;(have gn:(nn !=0)=false:=by simp;omega);(have AV:(nn==0)=true:=by simp;omega);clear de hn;(obtain rfl:r=true:=by rw[HR.out];simp[mayF,HS.out,fE.out]);go_enter func145,ntmps145;go_upto_region 1 with fail;rw[←Hg,←Hi];clear Hg Hi;go_wp2_with(with_reducible refine h_A ?_);clear c0 c1 c2 c3 c4;go_loopw [5] (fun s4 wr=>s4= .int .i64 0∧Below w1.heap.size w1 wr) (fun _ _=>0)
              case atStart=>exact⟨rfl,Q2 _ _⟩
              case round=>
               obtain⟨rfl,hB⟩:=hrel;have CB:=hX.below hB;have c4:=CB.c4;go_wp2_with(with_reducible refine h_A ?_);go_ret;exact⟨rfl,Ha.trans (hB.mono Ha.size)⟩
             ·have fE:=Q1 hn;(have gn:(nn !=0)=true:=by simp;omega);(have AV:(nn==0)=false:=by simp;omega);clear de hn;(obtain rfl:r=false:=by rw[HR.out];simp[mayF,HS.out,fE.out]);go_enter func145,ntmps145;go_upto_region 1 with fail;rw[←Hg,←Hi];clear Hg Hi;go_wp2_with(with_reducible refine h_A ?_);go_ret;exact⟨rfl,Ha.trans ((Q2 _ _).mono Ha.size)⟩
            ·have HS:=Q1 hs;(have gs:(4096:Int)<(sl:Int):=by omega);clear hs;(obtain rfl:r=false:=by rw[HR.out];simp[mayF,HS.out]);go_enter func145,ntmps145;go_upto_region 1 with fail;rw[←Hg,←Hi];clear Hg Hi;go_wp2_with(with_reducible refine h_A ?_);go_ret;exact⟨rfl,Ha⟩
           ·(have IX:(k==240)=false:=by simp;omega);(have g8:(k==8)=false:=by simp;omega);(have g2:(k==2)=false:=by simp;omega);(have TP:(k==49)=false:=by simp;omega);(have Uo:(k==50)=false:=by simp;omega);(have Ll:(k==149)=false:=by simp;omega);(have Ib:(k==160)=false:=by simp;omega);have Ad:=Q1 pW;have H8:=Q1 h8;have H2:=Q1 h2;have NY:=Q1 Es;have Nu:=Q1 DV;have Al:=Q1 pX;have Av:=Q1 rz;have L5:=Q1 Hp;have Oj:=Q1 B9;clear hk Hp B9 de pW h8 h2 Es DV pX rz;by_cases hs:sl=0
            ·rw[decide_eq_true hs]at fP cS;simp only[Bool.not_true]at cS;have HS:=Q1 hs;(have gs:¬(4096:Int)<(sl:Int):=by omega);clear hs;(obtain rfl:r=false:=by rw[HR.out];simp[mayF,Ad.out,H8.out,H2.out,NY.out,Nu.out,Al.out,Av.out,L5.out,Oj.out]);go_enter func145,ntmps145;go_upto_region 1 with fail;rw[←Hg,←Hi];clear Hg Hi;go_wp2_with(with_reducible refine h_A ?_);go_ret;exact⟨rfl,Ha⟩
            ·rw[decide_eq_false hs]at fP cS;simp only[Bool.not_false]at cS;have HS:=Q1 hs;clear hs;(obtain rfl:r=false:=by rw[HR.out];simp[mayF,Ad.out,H8.out,H2.out,NY.out,Nu.out,Al.out,Av.out,L5.out,Oj.out]);go_enter func145,ntmps145;go_upto_region 1 with fail;rw[←Hg,←Hi];clear Hg Hi;go_wp2_with(with_reducible refine h_A ?_);go_ret;exact⟨rfl,Ha⟩
theorem ZT(v:Vl)(h:VH)(w:World)(hv:RVw w v h):Calls prog 117 #[.agg (vlV v h)] w fun e w'=>e= .returned (.int .i64 (errV v))∧Below w.heap.size w w':=by
 have qq4d:=();exact Zq_
def zdq(w:World)(l:List UInt8)(e:Ending)(w':World):Prop:=∃(x:Vl) (h:VH) (k:Nat) (er:Int),e= .returned (.tuple #[.agg (vlV x h),.int .i64 (k:Int),.int .i64 er])∧RV w' (FN w.heap.size w') x h∧Below w.heap.size w w'∧k≤l.length∧
 ∀(y:Vl) (rest:List UInt8),l=vlB y++rest→VB y→errV y=0→x=y∧k=(vlB y).length
theorem zbX(a b:List UInt8):((str a).toList==(str b).toList)=decide (a=b):=by
 rw[zl,zl];by_cases h:a=b<;>simp[h]
theorem zan{y:Vl}{rest:List UInt8}(hv:VB y)(he:errV y=0):∃m,yz 6 200 (vlB y++rest)=some (y,rest,m):=by
 obtain⟨hc,hm⟩:=j3 he
 have hd:xK 6 y=false:=by
  unfold errV at he;split at he
  ·omega
  rename_i h;simpa using h
 exact⟨_,Jh y 6 200 rest hv hm hd (Nat.le_refl _) hc⟩
theorem zao(A:Option Addr)(n c:Nat)(l:List UInt8)(w:World)(hb:RdB w w.heap.size A n c l)(hn:n≤100000000):
  Calls prog 141 #[.slice A n c] w (zdq w l):=by
 obtain⟨zb,w1,eP,fO,hZ,Ha⟩:=zg w #[.int .u8 0,.int .u64 0,.string ⟨#[]⟩,.slice none 0 0,.slice none 0 0] 78;have BC:l.length=n:=RdB.length hb;have cR:=yZ A n c l w1 (yS (hb.below Ha) Ha.size) Wq;have sX:w.heap.size≤zb:=by omega
 go_enter func141,ntmps141;go_upto_region 1 with fail;rw[←eP,←fO];clear eP fO;go_wp2_with(with_reducible refine h_A ?_);refine cR.mono ?_;rintro e w2 ⟨ob,rfl,pO,hR,Hc⟩;have fj:=hZ.below Hc;have BK:=Ha.trans (Hc.mono Ha.size);have B4:=X0 6 1 200 _ w1.heap.size ob l false w2 Wq hR (fun g hg=>hg) Wq;have BZ:=Ha.size;have te:=hZ.lt;clear cR hZ Hc;rw[show((1:Nat):Int)=1 from rfl,show((200:Nat):Int)=200 from rfl]at B4;go_wp2_with(with_reducible refine h_A ?_);refine B4.mono ?_;rintro e w3 ⟨x,h,m,ok,l2,sC,rfl,hV,fw,BQ,gF,dZ,np,hx⟩;have gy:=BQ.box fj Wq Wq;have BH:=BK.trans (BQ.1.mono BZ);have cm:=BK.size;unfold vlV;obtain⟨vb,w4,ig,CK,hX,Hn⟩:=zg w3 #[.int .u8 (x.kind:Int),.int .u64 (x.n:Int),.string (str x.s),.slice h.A1 x.keys.length h.c1,.slice h.A2 x.list.length h.c2] 78;go_upto_region 2 with fail;rw[←ig,←CK];have ij:=gy.below Hn;have BF:=BH.trans (Hn.mono BH.size);have oK:=Hn.size;have wK:RV w4 (FN w2.heap.size w4) x h:=(hV.keep (fun g hg=>Hn.block g hg.2) oK).mono (fun g hg=>⟨hg.1,K0 hg.2 oK⟩);have LI:=gy.lt;have hvz:zb≠vb:=by omega
 have ep:=fj.lt
 have HX:Hid (∀(y:Vl) (rest:List UInt8),l=vlB y++rest→VB y→errV y=0→x=y∧ok=true):=Q1 (fun y rest e hv he=>by
  obtain⟨m',hr⟩:=zan (rest:=rest) hv he;have:=hx (y,rest,m') (by rw[e];exact hr)
  exact⟨this.1,this.2.2.2.1⟩)
 clear B4 ig CK fj gy BH Hn hV hx fw BQ hR
 cases ok
 case false=>
  have cJ:Hid (∀(y:Vl) (rest:List UInt8),l=vlB y++rest→VB y→errV y=0→False):=Q1 (fun y rest e hv he=>by
   have:=(HX.out y rest e hv he).2
   cases this)
  go_wp2_with(with_reducible refine h_B ?_);refine zc (zn (v:=.agg #[.int .u8 0,.int .u64 0,.string ⟨#[]⟩,.slice none 0 0,.slice none 0 0]) (vs:=[.int .u8 0,.int .u64 0,.string ⟨#[]⟩,.slice none 0 0,.slice none 0 0]) rfl rfl rfl rfl ij rfl Wj Wz uZ #[.int .u8 0,.int .u64 0,.string ⟨#[]⟩,.slice none 0 0,.slice none 0 0] Wz ?_);intro oq da BY _;have H3:=(BF).grown BY (BF).size Wx;exact Z4f_
 have b7:=ZT x h w4 (wK.mono (fun g hg=>hg.2));unfold vlV at b7;have z0:=hX.c0;have z1:=hX.c1;have z2:=hX.c2;have z3:=hX.c3;have z4:=hX.c4;by_cases he:errV x=0
 ·obtain⟨hc,hm⟩:=j3 he;have bQ:=ZF 200 hm hc;have bC:=jF x 200;have dT:=fun W (hW:Below w4.heap.size w4 W)=>XL x h W ((wK.mono (fun g hg=>hg.2)).up hW) hm Wq
  rw[he]at b7;unfold J2 vlV at dT;obtain⟨L,hL⟩:∃q,q=vlB x:=⟨_,rfl⟩
  have ae:L.length≤100000000:=by rw[hL];omega
  rw[←hL]at dT;have HL:=Q1 hL;have mm:=Q1 dT;clear hL dT he hc hm bQ bC;go_wp2_with(with_reducible refine h_A ?_);refine b7.mono ?_;rintro e w5 ⟨rfl,bw⟩;have dT:=mm.out w5 bw;have B3:=hX.below bw;have eZ:=ij.below bw;have bc:=BF.trans (bw.mono BF.size);have uP:RV w5 (FN w2.heap.size w5) x h:=(wK.keep (fun g hg=>bw.block g hg.2) bw.size).mono (fun g hg=>⟨hg.1,K0 hg.2 bw.size⟩);clear b7 z0 z1 z2 z3 z4 hX ij BF wK mm;have z0:=B3.c0;have z1:=B3.c1;have z2:=B3.c2;have z3:=B3.c3;have z4:=B3.c4;go_wp2_with(with_reducible refine h_A ?_);refine dT.mono ?_;rintro e w6 ⟨A2,c2,rfl,ho,bG⟩;have bA:=B3.below bG;have LA:=eZ.below bG;have en:=bc.trans (bG.mono bc.size);have dg:RV w6 (FN w2.heap.size w6) x h:=(uP.keep (fun g hg=>bG.block g hg.2) bG.size).mono (fun g hg=>⟨hg.1,K0 hg.2 bG.size⟩);have md:RdB w6 w6.heap.size A2 L.length c2 L:=ho.rd;have di:RdB w6 w6.heap.size A n c l:=yS (hb.below en) en.size;clear dT z0 z1 z2 z3 z4 B3 eZ bc uP ho;go_upto_region 5 with fail
  have OV:Hid (∀(y:Vl) (rest:List UInt8),l=vlB y++rest→VB y→errV y=0→x=y∧l=L++rest):=Q1 (fun y rest e hv hy=>by
   have:=(HX.out y rest e hv hy).1;subst this
   exact⟨rfl,by rw[HL.out];exact e⟩)
  have WH:L.length=L.length:=rfl;refine zt (fun W:World=>RdB W W.heap.size A2 L.length c2 L∧RdB W W.heap.size A n c l) Wj ?_;have hS:RdB w6.drew w6.drew.heap.size A2 L.length c2 L∧RdB w6.drew w6.drew.heap.size A n c l:=⟨md.drew,di.drew⟩;replace bA:Box w6.drew vb 78 #[.int .u8 (x.kind:Int),.int .u64 (x.n:Int),.string (str x.s),.slice h.A1 x.keys.length h.c1,.slice h.A2 x.list.length h.c2]:=bA;replace LA:Box w6.drew zb 78 #[.int .u8 0,.int .u64 0,.string ⟨#[]⟩,.slice none 0 0,.slice none 0 0]:=LA;replace en:=za en 1;have en:Below w.heap.size w w6.drew:=en;have dg:RV w6.drew (FN w2.heap.size w6.drew) x h:=dg.keep (fun g hg=>rfl) (Nat.le_refl _);clear md di bw bG;generalize w6.drew=wd at*;by_cases fV:n<L.length
  ·exact Zw_
  have g1:¬(n:Int)<(L.length:Int):=by omega
  have fq:=(show RdB wd wd.heap.size A n c l from hS.2).cap;have gC:=(show RdB wd wd.heap.size A n c l from hS.2).max
  have hcut:∀W,RdB W W.heap.size A2 L.length c2 L∧RdB W W.heap.size A n c l→RdB W W.heap.size (cutA A 1 0 c) L.length c (l.take L.length):=fun W h=>by
   have h1:=kV h.2 0 L.length c Wq Wq (Nat.le_refl _) Wq;(have e1:((l.map u8v).take (L.length*1)).drop (0*1)=(l.take L.length).map u8v:=by simp[List.map_take]);rw[e1]at h1;exact h1
  have hcA:cutA A 1 0 c=cutA A 1 0 c:=rfl;refine rg_t 0 hS ?_;simp only[List.getElem_toArray,List.getElem_cons_zero,Act.put,List.setIfInBounds_toArray,List.set_cons_zero,List.set_cons_succ];refine rg_t 1 hS ?_;simp only[g_S];refine rg_t 2 hS ?_;simp only[g_S];refine rg_t 3 hS ?_;simp only[g_S];refine rg_t 4 hS ?_;simp only[g_S];refine rg_t 5 hS ?_;simp only[g_S];refine rg_t 6 hS ?_;simp only[g_S];refine ze 7 (v:=?_) rfl Wj Wj Wj hS rfl ?_ ?_;rotate_left
  ·intro wS He;have dE:=jf (w:=wS) He.1;go_simp;(with_reducible rfl)
  simp only[g_S];refine rg_t 8 hS ?_;simp only[g_S];refine rg_t 9 hS ?_;simp only[g_S];refine rg_t 10 hS ?_;simp only[g_S];refine qF 11 slB rfl Wj Wj Wj hS rfl rfl rfl gC fq 0 L.length c (.inl ⟨rfl,rfl⟩) (.inr ⟨_,_,rfl,rfl⟩) (.inl ⟨rfl,rfl⟩) mq Wq Wq (Nat.le_refl _) Wq ?_;try simp only[g_S]
  refine ze 12 (v:=?_) rfl Wj Wj Wj hS rfl ?_ ?_;rotate_left
  ·intro wS He;have dE:=jf (w:=wS) (hcut wS He);go_simp;(with_reducible rfl)
  simp only[g_S];have DY:Hid (((str L).toList==(str (l.take L.length)).toList)=decide (L=l.take L.length)):=Q1 (zbX _ _);have Hy:=en;by_cases mI:L=l.take L.length
  ·(have hq:((str L).toList==(str (l.take L.length)).toList)=true:=by rw[DY.out,decide_eq_true mI]);have Da:=Q1 mI;clear mI hcut;refine rg_t 13 hS ?_;simp only[g_S];refine rg_t 14 hS ?_;simp only[g_S];refine zz Wj ?_;clear hq DY;have y0:=bA.c0;have y1:=bA.c1;have y2:=bA.c2;have y3:=bA.c3;have y4:=bA.c4;go_wp2_with(with_reducible refine h_B ?_);refine zc (zn (v:=.agg #[.int .u8 (x.kind:Int),.int .u64 (x.n:Int),.string (str x.s),.slice h.A1 x.keys.length h.c1,.slice h.A2 x.list.length h.c2]) (vs:=[.int .u8 (x.kind:Int),.int .u64 (x.n:Int),.string (str x.s),.slice h.A1 x.keys.length h.c1,.slice h.A2 x.list.length h.c2]) rfl rfl rfl rfl LA rfl Wj Wz (zaq x h) #[.int .u8 (x.kind:Int),.int .u64 (x.n:Int),.string (str x.s),.slice h.A1 x.keys.length h.c1,.slice h.A2 x.list.length h.c2] Wz ?_);intro oq da BY _;have H3:=en.grown BY en.size Wx;have SP:RV oq (FN w.heap.size oq) x h:=(dg.keep (fun g hg=>BY.block g hg.2 Hx) BY.size).mono (fun g hg=>⟨by have:=hg.1;omega,K0 hg.2 BY.size⟩);go_wp2_with(with_reducible refine h_A ?_);refine zv rfl da rfl rfl rfl underlying78 rfl Wj rfl ?_
   exact⟨x,h,L.length,0,rfl,SP,H3,by omega,fun y rest e hv hy=>by
    have:=(OV.out y rest e hv hy).1
    exact⟨this,by rw[HL.out,this]⟩⟩
  have qq5u:=();exact Zw_
 have hne:(errV x !=0)=true:=by simpa using he
 have cJ:Hid (∀(y:Vl) (rest:List UInt8),l=vlB y++rest→VB y→errV y=0→False):=Q1 (fun y rest e hv hy=>by
  have:=(HX.out y rest e hv hy).1;rw[this]at he
  exact he hy)
 generalize errV x=E at*;clear he;go_wp2_with(with_reducible refine h_A ?_);refine b7.mono ?_;rintro e w5 ⟨rfl,bw⟩;have eZ:=ij.below bw;have bc:=BF.trans (bw.mono BF.size);clear b7 z0 z1 z2 z3 z4;go_wp2_with(with_reducible refine h_B ?_);refine zc (zn (v:=.agg #[.int .u8 0,.int .u64 0,.string ⟨#[]⟩,.slice none 0 0,.slice none 0 0]) (vs:=[.int .u8 0,.int .u64 0,.string ⟨#[]⟩,.slice none 0 0,.slice none 0 0]) rfl rfl rfl rfl eZ rfl Wj Wz uZ #[.int .u8 0,.int .u64 0,.string ⟨#[]⟩,.slice none 0 0,.slice none 0 0] Wz ?_);intro oq da BY _;have H3:=(bc).grown BY (bc).size Wx;exact Z4f_
theorem Qz(v:Vl)(h:VH)(w:World)(hv:RVw w v h):Calls prog 98 #[.agg (vlV v h)] w fun e w'=>∃A2 c2,e= .returned (.tuple #[.slice A2 (vlP v).length c2,.int .i64 (errV v)])∧Own w' w.heap.size 5 1 A2 (vlP v).length c2 ((vlP v).map u8v)∧Below w.heap.size w w':=by
 have qq7f:=();exact Z19_
end Go.PH
