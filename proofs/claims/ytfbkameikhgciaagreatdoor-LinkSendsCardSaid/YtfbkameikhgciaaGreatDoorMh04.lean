/- Parts. -/
import Derived.Test.YtfbkameikhgciaaGreatDoorProg
import Derived.Test.YtfbkameikhgciaaGreatDoorMh03
set_option linter.all false
set_option maxRecDepth 20000
set_option maxHeartbeats 8000000
open Go.RowKit.Below renaming refl → kv
open Go.Lib renaming hid → Q1
open List renaming append_assoc → K0, length_eq_zero_iff → Vy, length_append → q8, mem_cons_self → q9, mem_cons_of_mem → ky, all_eq_true → kx, nil_append → k4, length_cons → k6, mem_of_mem_tail → k7, cons_append → k8, append_inj → k9, headD_cons → vv, length_take → vz, drop_eq_nil_of_le → v0, getElem_toArray → v1, getElem_cons_zero → v2, setIfInBounds_toArray → v3, set_cons_zero → v4, set_cons_succ → v5, length_map → v9, length_drop → j8, mem_take_iff_getElem → zB
open Nat renaming le_refl → Q2, lt_of_lt_of_le → q7, le_trans → kI, mod_eq_of_lt → k3
open Go.RowKit renaming intOf → q0
open UInt8 renaming ofNat → Vx, toNat_ofNat' → k5
namespace Go.PH
open Go.RowKit Go.Proofs Go.Proofs.Tryz
variable {l : List UInt8} {b hi k lo n : Nat}
theorem qV{sl KL LL:Nat}{ko pl al:Bool}(h:mayF k n sl KL LL ko pl al=true):
  (k=8∨k=2∨k=49∨k=50∨k=240∨k=160∨k=149∨k=168∨k=169)∧sl≤4096∧(k=168→KL=LL∧ko=true)∧al=true:=by
 unfold mayF at h;simp only[Bool.and_eq_true,Bool.or_eq_true,decide_eq_true_eq]at h;obtain⟨⟨⟨⟨⟨h1,h2⟩,h3⟩,h4⟩,h5⟩,h6⟩:=h;refine⟨?_,h4,fun hk=>?_,h6⟩
 ·repeat' split at h5
  all_goals first|omega|(exact absurd h5 Wz)
 subst hk;simp at h5;exact⟨h5.1.1,h5.1.2⟩
theorem KB.on{w w3 w4:World}{row:Option Nat}(h:KB w w3 row)(hB:Below w3.heap.size w3 w4):KB w w4 row:=⟨kI h.1 hB.size,fun g hg hne=>(hB.block g (q7 hg h.1)).trans (h.2 g hg hne)⟩
def VPut(w:World)(base:Nat)(row:Option Nat)(R:List UInt8)(e:Ending)(w':World):Prop:=∃A2 c2,e= .returned (.slice A2 R.length c2)∧OwnB w' base A2 R.length c2 R∧KB w w' row∧Below base w w'
def za2(v:Vl):Prop:=∀(h:VH) (base:Nat) (A:Option Addr) (n c:Nat) (l:List UInt8) (w:World),RV w (fun g=>g<base) v h→OwnB w base A n c l→base≤w.heap.size→mayV zJ v=true→n+(vlB v).length≤100000000→
  Calls prog 124 #[.slice A n c,.agg (vlV v h)] w (VPut w base (blk A) (l++vlB v))
theorem K8(v:Vl)(ih:∀x∈v.list,za2 x):za2 v:=by
 intro h base A n c l w hv Hl Hf gD hN;unfold vlV VPut;obtain⟨xb,w1,Hg,Hi,hX,Ha⟩:=zg w #[.int .u8 (v.kind:Int),.int .u64 (v.n:Int),.string (str v.s),.slice h.A1 v.keys.length h.c1,.slice h.A2 v.list.length h.c2] 78;rw[Yn]at hN ⊢;rw[kJ]at gD;obtain⟨fI,ot,fN,BM⟩:=qV gD;obtain⟨lK,gZ,_,mm,Lp,wO⟩:=hv.bounds;have cX:l.length=n:=RdB.length Hl.rd;have rY:∀g,blk A=some g→base≤g∧g<w.heap.size:=fun g hg=>Hl.blk_lt hg
 have BK:=zi Hl Ha;have L9:base≤xb:=by omega
 have Fj:some xb≠blk A:=by intro e;have:=(rY _ e.symm).2;omega
 have IA:Value.int .u8 (v.kind:Int)=u8v (Vx v.kind):=by rw[kS,k5];congr;omega
 have Hc:=(kv w1.heap.size w1).alloc (Q2 _) (.cells #[.int .u8 (v.kind:Int)] 5);have nG:=QV (size:=1) w1 #[.int .u8 (v.kind:Int)] 5 (0,0) 1 1 rfl Wq WX;have Bl:=zi BK Hc;have Hk:=hX.below Hc;have c0:=hX.c0;have c1:=hX.c1;have c2:=hX.c2;have c3:=hX.c3;have c4:=hX.c4;have BW:=Ha.size;have cj:=Hc.size;obtain⟨INN,pF⟩:∃I,I=innB v:=⟨_,rfl⟩
 rw[←pF]at hN ⊢;obtain⟨R,hR⟩:∃R,R=l++Vx v.kind::yu v.kind v.n v.s INN:=⟨_,rfl⟩
 rw[←hR]
 have eK:n+1≤100000000:=by
  have:=hN;rw[k6]at this;omega
 have lP:R.length≤100000000:=by rw[hR,q8,cX];exact hN
 have tO:=Q1 pF;have HR:=Q1 hR;have HX:=Q1 (And.intro fI (And.intro ot (And.intro fN (And.intro BM (And.intro IA gD)))));clear pF hR hN fI ot fN BM IA Hl BK gD;go_enter func124,ntmps124;go_upto_region 1 with fail;rw[←Hg,←Hi];clear Hg Hi;go_wp2_with(with_reducible refine h_A ?_);refine zc (yc slB rfl rfl rfl rfl Bl nG nQ Wq Hj Wq ?_);intro A3 q3 w3 Bx H7 _;have bU:=Hk.grown H7 Fj;have i7:Below base w w3:=((Ha.mono Hf).trans (Hc.mono Wq)).grown H7 Wq (fun g hg=>(rY g hg).1);have BO:KB w w3 (blk A):=⟨i7.size,fun g hg hne=>(H7.block g Wq (fun e=>hne e.symm)).trans ((Hc.block g Wq).trans (Ha.block g hg))⟩;have ee:base≤w3.heap.size:=kI Hf i7.size;rw[show l.map u8v++ #[Value.int .u8 (v.kind:Int)].toList=(l++ [Vx v.kind]).map u8v by simp[HX.out.2.2.2.2.1]]at Bx;obtain⟨l1,gg⟩:∃l1,l1=l++ [Vx v.kind]:=⟨_,rfl⟩
 rw[←gg]at Bx;have eZ:Hid (R=l1++yu v.kind v.n v.s INN):=Q1 (by rw[HR.out,gg];simp);have uE:l1.length=n+1:=by rw[gg];simp[cX]
 generalize n+1=n1 at*;have Gn:=hv.under i7 Hf;clear hX Hk Ha Hc nG Bl H7 gg HR c0 c1 c2 c3 c4 BW cj hv cX;have AW:=bU;have fI:=HX.out.1;have ot:=HX.out.2.1;have fN:=HX.out.2.2.1;have BM:=HX.out.2.2.2.1;clear HX;have Nu:=Q1 fN;have wI:=Q1 BM;clear fN BM;obtain⟨K1,j1,K2,j2⟩:=h;generalize eg:v.kind=kd at*;have u9:=Q1 eg;clear eg;rcases fI with hk|hk|hk|hk|hk|hk|hk|hk|hk
 ·have qqbc:=();exact Z2d_
 ·have qqbd:=();exact Z2d_
 ·have qqbe:=();exact Z2d_
 ·have qqbf:=();exact Z2d_
 ·subst hk;generalize dq:(((240:Nat):Int))=k at*;obtain rfl:k=240:=by rw[←dq];rfl
  clear dq;have c0:=bU.c0;have c1:=bU.c1;have c2:=bU.c2;have c3:=bU.c3;have c4:=bU.c4;obtain rfl:R=l1:=by rw[eZ.out];simp[yu]
  subst uE;go_wp2_with(with_reducible refine h_A ?_);go_ret;exact⟨A3,q3,rfl,Bx,BO,i7⟩
 ·exact Z2d_
 ·have qqbb:=();exact Z2d_
 ·exact Zi_
 have qq3c:=();exact Zi_
theorem za3(v:Vl):za2 v:=Vl.ind (P:=za2) K8 v
theorem za1{p:List UInt8→Bool}(m:Bool)(l:List Vl)(hx:∀x∈l,∀q:Int,mayV p x=true→0≤cntV x q→((vlB x).length:Int)+256≤5000*(q-cntV x q)):
  ∀(ks:List (List UInt8)) (q:Int),(m=true→∀k∈ks,k.length≤255)→l.all (mayV p)=true→0≤cntL l q→((yy m ks l).length:Int)≤5000*(q-cntL l q):=by
 induction l with
 | nil=>intro ks q _ _ _;rw[xX,cntL];simp
 | cons x l ih=>
  intro ks q hk ha hq;rw[qk];rw[List.all_cons,Bool.and_eq_true]at ha;by_cases h0:q<0
  ·rw[YS _ h0]at hq;omega
  rw[YT _ _ h0]at hq ⊢;have h1:=vC l (cntV x q);have h2:=hx x (q9 ..) q ha.1 Wq;have h3:=ih (fun y hy=>hx y (ky _ hy)) ks.tail (cntV x q) (fun e k hm=>hk e k (k7 hm)) ha.2 hq
  have h4:((if m=true then be 1 (ks.headD []).length++ks.headD []else []):List UInt8).length≤256:=by
   split
   ·rename_i hm
    have:(ks.headD []).length≤255:=by
     cases ks with
     | nil=>simp
     | cons k ks=>exact hk hm k (q9 ..)
    rw[q8,zr];omega
   simp
  rw[q8,q8];omega
theorem ZH{v:Vl}:∀q:Int,mayV zJ v=true→0≤cntV v q→((vlB v).length:Int)+256≤5000*(q-cntV v q):=by
 refine Vl.ind (P:=fun v=>∀q:Int,mayV zJ v=true→0≤cntV v q→((vlB v).length:Int)+256≤5000*(q-cntV v q)) ?_ v;intro v ih q hm hq;rw[kJ]at hm;obtain⟨hk,hs,hK,ha⟩:=qV hm;rw[Yn,k6];rw[ZE]at hq ⊢;have gF:=vC v.list (q-1)
 have uY:=za1 (decide (v.kind=168)) v.list ih v.keys (q-1) (fun e k hk'=>by
  have h1:=(hK (of_decide_eq_true e)).2;rw[qt,Bool.and_eq_true,kx]at h1;have h2:=h1.1 _ hk';unfold jf at h2;simp only[Bool.and_eq_true,decide_eq_true_eq]at h2
  exact h2.1.2) ha hq
 have hr:(yu v.kind v.n v.s (innB v)).length≤4100∨(yu v.kind v.n v.s (innB v)).length≤8+(yy (decide (v.kind=168)) v.keys v.list).length:=by
  unfold yu;split
  ·left;rw[zr];omega
  split
  ·left;rw[zr];omega
  split
  ·left;rw[q8,zr];omega
  split
  ·left;rw[q8,zr];omega
  split
  ·right;rw[q8,zr,innB,q8,zr];omega
  left;simp
 omega
def vlP(v:Vl):List UInt8:=if errV v=0 then vlB v else []
theorem j0{v:Vl}(h:errV v=0):0≤cntV v 200∧mayV zJ v=true:=by
 unfold errV at h;split at h
 ·omega
 split at h
 ·omega
 split at h
 ·rename_i h1 h2 h3
  exact⟨by omega,h3⟩
 omega
theorem JT(v:Vl)(h:VH)(w:World)(hv:RVw w v h)(hT:UTabs w):Calls prog 105 #[.agg (vlV v h)] w fun e w'=>∃A2 c2,e= .returned (.tuple #[.slice A2 (vlP v).length c2,.int .i64 (errV v)])∧Own w' w.heap.size 5 1 A2 (vlP v).length c2 ((vlP v).map u8v)∧Below w.heap.size w w':=by
 exact Z1b_
def J6(w:World)(R:List UInt8)(e:Ending)(w':World):Prop:=∃A2 c2,e= .returned (.slice A2 R.length c2)∧OwnB w' w.heap.size A2 R.length c2 R∧Below w.heap.size w w'
def Jv(v:Vl):Prop:=∀(h:VH) (w:World),RVw w v h→mayV zJ v=true→(vlB v).length≤100000000→Calls prog 118 #[.agg (vlV v h)] w (J6 w (vlB v))
theorem J7(v:Vl)(ih:∀x∈v.list,Jv x):Jv v:=by
 intro h w hv gD hN;unfold vlV J6;obtain⟨xb,w1,Hg,Hi,hX,Ha⟩:=zg w #[.int .u8 (v.kind:Int),.int .u64 (v.n:Int),.string (str v.s),.slice h.A1 v.keys.length h.c1,.slice h.A2 v.list.length h.c2] 78;rw[Yn]at hN ⊢;rw[kJ]at gD;obtain⟨fI,ot,fN,BM⟩:=qV gD;obtain⟨lK,gZ,_,mm,Lp,wO⟩:=hv.bounds;have IA:Value.int .u8 (v.kind:Int)=u8v (Vx v.kind):=by rw[kS,k5];congr;omega
 have BW:=Ha.size;have C7:=yq (w:=w1) w1.heap.size #[.int .u8 (v.kind:Int)] 5 1 (Q2 _) WX rfl (size:=1) Wq
 have b7:OwnB (w1.alloc (.cells #[.int .u8 (v.kind:Int)] 5)) w1.heap.size (some ⟨w1.heap.size,0,none⟩) 1 1 [Vx v.kind]:=by
  have e: [Vx v.kind].map u8v= #[Value.int .u8 (v.kind:Int)].toList:=by simp[IA]
  unfold OwnB;rw[e];exact C7
 have Hc:=(kv w1.heap.size w1).alloc (Q2 _) (.cells #[.int .u8 (v.kind:Int)] 5);have dF:=hv.up Ha;obtain⟨INN,pF⟩:∃I,I=innB v:=⟨_,rfl⟩
 rw[←pF]at hN ⊢;obtain⟨R,hR⟩:∃R,R=Vx v.kind::yu v.kind v.n v.s INN:=⟨_,rfl⟩
 rw[←hR]at hN ⊢;have tO:=Q1 pF;have HR:=Q1 hR;have hae:=Q1 gD;have Nu:=Q1 fN;have wI:=Q1 BM;have IH:=Q1 ih;clear pF hR fN BM IA C7 gD ih hv;obtain⟨K1,j1,K2,j2⟩:=h;generalize eg:v.kind=kd at*;have u9:=Q1 eg;clear eg;rcases fI with hk|hk|hk|hk|hk|hk|hk|hk|hk
 ·exact Z1c_
 ·have qq7q:=();exact Z1c_
 ·have qq72:=();exact Z16_
 ·have qq73:=();exact Z16_
 ·subst hk;generalize dq:(((240:Nat):Int))=k at*;obtain rfl:k=240:=by rw[←dq];rfl
  clear dq;have c0:=hX.c0;have c1:=hX.c1;have c2:=hX.c2;have c3:=hX.c3;have c4:=hX.c4;go_enter func118,ntmps118;go_upto_region 1 with fail;rw[←Hg,←Hi];clear Hg Hi;go_upto_region 2 with fail;have Hk:=hX.below Hc;generalize(w1.alloc (.cells #[.int .u8 240] 5))=w2 at*;have hB:=Ha.trans (Hc.mono BW);have fj:=dF.up Hc;have cj:=Hc.size;generalize cT:w1.heap.size=lb at*;have wP:Hid (xb≠lb):=Q1 mX;have DQ:=Q1 cT;clear c0 c1 c2 c3 c4 hX dF cT Ha;have c0:=Hk.c0;have c1:=Hk.c1;have c2:=Hk.c2;have c3:=Hk.c3;have c4:=Hk.c4;go_wp2_with(with_reducible refine h_A ?_);have iv: [Vx 240]=R:=by rw[HR.out];simp[yu]
  rw[←iv];go_ret;exact⟨_,_,rfl,b7.base_le BW,hB⟩
 ·exact Z16_
 ·have qq71:=();exact Z16_
 ·exact Za_
 have qq2g:=();exact Za_
theorem XR(v:Vl):Jv v:=Vl.ind (P:=Jv) J7 v
end Go.PH
section
namespace Go.PH
theorem QC{i n m:Nat}{R S:List UInt8}(h:be i n++R=be i m++S):be i n=be i m∧R=S:=k9 h (by rw[zr,zr])
theorem kw{i n m:Nat}{R S:List UInt8}(hn:n<256 ^ i)(hm:m<256 ^ i)(h:be i n++R=be i m++S):n=m∧R=S:=by
 obtain⟨h1,h2⟩:=QC h;have h3:=congrArg unbe h1;rw[vx,vx,k3 hn,k3 hm]at h3;exact⟨h3,h2⟩
theorem Zf{i:Nat}{s t R S:List UInt8}(hs:s.length<256 ^ i)(ht:t.length<256 ^ i)(h:(be i s.length++s)++R=(be i t.length++t)++S):s=t∧R=S:=by
 rw[K0,K0]at h;obtain⟨h1,h2⟩:=kw hs ht h;exact k9 h2 h1
theorem ZT{k n sl KL LL:Nat}{ko pl al:Bool}(h:mayF k n sl KL LL ko pl al=true):
  (k≠168→KL=0)∧(k≠168→k≠169→LL=0)∧(k≠149→k≠160→sl=0)∧(k=8→n≤1)∧(k=2→n≤255)∧(k≠8→k≠2→k≠49→k≠50→n=0):=by
 unfold mayF at h;simp only[Bool.and_eq_true,Bool.or_eq_true,decide_eq_true_eq]at h;obtain⟨⟨⟨⟨⟨h1,h2⟩,h3⟩,h4⟩,h5⟩,h6⟩:=h;refine⟨fun h=>by omega,fun h h'=>by omega,fun h h'=>by omega,fun h=>?_,fun h=>?_,fun e1 e2 e3 e4=>?_⟩
 ·subst h;simpa using h5
 ·subst h;simpa using h5
 rw[if_neg e1,if_neg e2,if_neg Wq]at h5;repeat' split at h5
 all_goals simp at h5
 all_goals first|exact h5|exact h5.2
inductive VB:Vl→Prop
 | mk {v:Vl} (hk:v.kind<256) (hn:v.n<18446744073709551616) (hl:∀x∈v.list,VB x):VB v
theorem VB.parts{v:Vl}(h:VB v):v.kind<256∧v.n<18446744073709551616∧∀x∈v.list,VB x:=by
 cases h with
 | mk a b c=>exact⟨a,b,c⟩
theorem RV.vb{w:World}{F:Nat→Prop}{v:Vl}{h:VH}(hv:RV w F v h):VB v:=by
 induction hv with
 | mk xs a1 a2 a3 a4 a5 a6 a7 a8 a9 _ ih=>
  refine⟨a1,a2,fun x hx=>?_⟩;rw[←a9]at hx;obtain⟨p,hp,rfl⟩:=List.mem_map.1 hx;exact ih p hp
def VC(v:Vl):Prop:=∃q:Int,q≤200∧0≤cntV v q
theorem vi:∀(l:List Vl) (q:Int),0≤cntL l q→(l.length:Int)≤q∧∀x∈l,∃p:Int,p≤q∧0≤cntV x p
 | [],q,h=>by rw[cntL]at h;exact⟨by simpa using h,fun x hx=>by cases hx⟩
 | y::l,q,h=>by
  by_cases h0:q<0
  ·rw[YS _ h0]at h;omega
  rw[YT _ _ h0]at h;obtain⟨h1,h2⟩:=vi l (cntV y q) h;have h3:=jF y q;have h4:=vC l (cntV y q);refine⟨by simp;omega,fun x hx=>?_⟩;rcases List.mem_cons.1 hx with rfl|hx
  ·exact⟨q,Int.le_refl _,by omega⟩
  obtain⟨p,hp,fW⟩:=h2 x hx;exact⟨p,by omega,fW⟩
theorem VC.parts{v:Vl}(h:VC v):v.list.length≤200∧∀x∈v.list,VC x:=by
 obtain⟨q,hq,h0⟩:=h;rw[ZE]at h0;obtain⟨h1,h2⟩:=vi _ _ h0;exact⟨by omega,fun x hx=>by obtain⟨p,hp,fW⟩:=h2 x hx;exact⟨p,by omega,fW⟩⟩
def Cut(v:Vl):Prop:=∀(u:Vl) (R S:List UInt8),mayV zJ u=true→VB u→VC u→vlB v++R=vlB u++S→v=u∧R=S
theorem zbt(m:Bool)(l:List Vl)(hc:∀x∈l,Cut x):∀(l':List Vl) (ks ks':List (List UInt8)) (R S:List UInt8),l.length=l'.length→(m=true→ks.length=l.length∧ks'.length=l'.length)→(m=true→(∀k∈ks,k.length≤255)∧∀k∈ks',k.length≤255)→
  (∀y∈l',mayV zJ y=true∧VB y∧VC y)→yy m ks l++R=yy m ks' l'++S→(m=true→ks=ks')∧l=l'∧R=S:=by
 induction l with
 | nil=>
  intro l' ks ks' R S hl tf hk hy h;obtain rfl:l'=[]:=Vy.1 hl.symm;rw[xX,xX]at h;refine⟨fun e=>?_,rfl,h⟩;obtain⟨h1,h2⟩:=tf e
  rw[Vy.1 h1,Vy.1 h2]
 | cons x l ih=>
  intro l' ks ks' R S hl tf hk hy h
  cases l' with
  | nil=>simp at hl
  | cons y l'=>
   rw[qk,qk]at h;have RZ:=hy y (q9 ..)
   have go:∀(R' S':List UInt8),(vlB x++yy m ks.tail l)++R'=(vlB y++yy m ks'.tail l')++S'→x=y∧(m=true→ks.tail=ks'.tail)∧l=l'∧R'=S':=by
    intro R' S' h';rw[K0,K0]at h';obtain⟨e1,h2⟩:=hc x (q9 ..) y _ _ RZ.1 RZ.2.1 RZ.2.2 h'
    obtain⟨e2,e3,e4⟩:=ih (fun z hz=>hc z (ky _ hz)) l' ks.tail ks'.tail R' S' zAg (fun e=>by obtain⟨a,b⟩:=tf e;simp at a b ⊢;omega)
     (fun e=>⟨fun k hm=>(hk e).1 k (k7 hm),fun k hm=>(hk e).2 k (k7 hm)⟩) (fun z hz=>hy z (ky _ hz)) h2
    exact⟨e1,e2,e3,e4⟩
   cases m
   ·simp only[Bool.false_eq_true,if_false,k4]at h;obtain⟨e1,_,e3,e4⟩:=go R S h;exact⟨fun e=>(by cases e),by rw[e1,e3],e4⟩
   obtain⟨n1,n2⟩:=tf rfl;obtain⟨k1,k2⟩:=hk rfl
   cases ks with
   | nil=>simp at n1
   | cons k ks=>
    cases ks' with
    | nil=>simp at n2
    | cons k' ks'=>
     simp only[if_true,vv,K0]at h;have dw:=k1 k (q9 ..);have Bk:=k2 k' (q9 ..);obtain⟨e0,h1⟩:=Zf (i:=1) (s:=k) (t:=k') (R:=vlB x++(yy true ks l++R)) (S:=vlB y++(yy true ks' l'++S)) Wq Wq (by simpa[K0]using h);obtain⟨e1,e2,e3,e4⟩:=go R S (by simpa[K0]using h1);refine⟨fun _=>?_,by rw[e1,e3],e4⟩;have:=e2 rfl;simp at this;rw[e0,this]
theorem VJ{v u:Vl}(h1:v.kind=u.kind)(h2:v.n=u.n)(h3:v.s=u.s)(h4:v.keys=u.keys)(h5:v.list=u.list):v=u:=by rw[v.eta,u.eta,h1,h2,h3,h4,h5]
theorem jj{α:Type}{l:List α}(h:l.length=0):l=[]:=Vy.1 h
theorem Jp{v:Vl}(h:xC v.keys zJ=true):∀k∈v.keys,k.length≤255:=fun k hk'=>by
 rw[qt,Bool.and_eq_true,kx]at h;have h2:=h.1 _ hk';unfold jf at h2;simp only[Bool.and_eq_true,decide_eq_true_eq]at h2;exact h2.1.2
theorem zcI(v:Vl):mayV zJ v=true→VB v→VC v→Cut v:=by
 refine Vl.ind (P:=fun v=>mayV zJ v=true→VB v→VC v→Cut v) ?_ v;intro v ih hm hb hc u R S pd mI U6 h;rw[kJ]at hm pd;obtain⟨k1,s1,m1,a1⟩:=qV hm;obtain⟨_,s2,m2,a2⟩:=qV pd;obtain⟨p1,p2,p3,p4,p5,p6⟩:=ZT hm;obtain⟨q1,q2,q3,q4,q5,q6⟩:=ZT pd;obtain⟨b1,b2,b3⟩:=hb.parts;obtain⟨d1,d2,d3⟩:=mI.parts;obtain⟨c1,c2⟩:=hc.parts;obtain⟨f1,f2⟩:=U6.parts;clear hm pd hb mI hc U6;rw[Yn,Yn,k8,k8,List.cons.injEq]at h;obtain⟨hk,h⟩:=h
 have lM:v.kind=u.kind:=by
  have:=congrArg UInt8.toNat hk;simp only[k5]at this;omega
 rw[lM]at k1 m1 p1 p2 p3 p4 p5 p6 h
 have uY:∀m:Bool,m=decide (u.kind=168)→(u.kind=168∨u.kind=169)→innB v++R=innB u++S→v=u∧R=S:=by
  intro m pO Bk oJ;unfold innB at oJ;rw[lM,←pO,K0,K0]at oJ;obtain⟨e1,h2⟩:=kw (i:=4) Wq Wq oJ
  obtain⟨e2,e3,e4⟩:=zbt m v.list (fun x hx=>ih x hx (kx.1 a1 x hx) (b3 x hx) (c2 x hx)) u.list v.keys u.keys R S e1
   (fun e=>by rw[pO]at e;have:=of_decide_eq_true e;exact⟨(m1 this).1,(m2 this).1⟩)
   (fun e=>by rw[pO]at e;have:=of_decide_eq_true e;exact⟨Jp (m1 this).2,Jp (m2 this).2⟩)
   (fun y hy=>⟨kx.1 a2 y hy,d3 y hy,f2 y hy⟩) h2
  refine⟨VJ lM ?_ ?_ ?_ e3,e4⟩
  ·rw[p6 Wq Wq Wq Wq,q6 Wq Wq Wq Wq]
  ·rw[jj (p3 Wq Wq),jj (q3 Wq Wq)]
  by_cases e:u.kind=168
  ·exact e2 (by rw[pO,decide_eq_true e])
  rw[jj (p1 e),jj (q1 e)]
 have iH:∀i:Nat,v.n<256 ^ i→u.n<256 ^ i→u.kind≠168→u.kind≠169→u.kind≠149→u.kind≠160→be i v.n++R=be i u.n++S→v=u∧R=S:=by
  intro i g1 g2 e1 e2 e3 e4 h2;obtain⟨h3,h4⟩:=kw g1 g2 h2;exact⟨VJ lM h3 (by rw[jj (p3 e3 e4),jj (q3 e3 e4)]) (by rw[jj (p1 e1),jj (q1 e1)]) (by rw[jj (p2 e1 e2),jj (q2 e1 e2)]),h4⟩
 have Nl:∀i:Nat,v.s.length<256 ^ i→u.s.length<256 ^ i→u.kind≠168→u.kind≠169→(u.kind=149∨u.kind=160)→(be i v.s.length++v.s)++R=(be i u.s.length++u.s)++S→v=u∧R=S:=by
  intro i g1 g2 e1 e2 e3 h2;obtain⟨h3,h4⟩:=Zf g1 g2 h2;exact⟨VJ lM (by rw[p6 Wq Wq Wq Wq,q6 Wq Wq Wq Wq]) h3 (by rw[jj (p1 e1),jj (q1 e1)]) (by rw[jj (p2 e1 e2),jj (q2 e1 e2)]),h4⟩
 rcases k1 with e|e|e|e|e|e|e|e|e
 ·refine iH 1 (by have:=p4 e;omega) (by have:=q4 e;omega) Wq Wq Wq Wq ?_;unfold yu at h;rw[e]at h;simpa using h
 ·refine iH 1 (by have:=p5 e;omega) (by have:=q5 e;omega) Wq Wq Wq Wq ?_;unfold yu at h;rw[e]at h;simpa using h
 ·exact Z5d_
 ·exact Z5d_
 ·refine iH 0 (by rw[p6 Wq Wq Wq Wq];decide) (by rw[q6 Wq Wq Wq Wq];decide) Wq Wq Wq Wq ?_;unfold yu at h;rw[e]at h;simpa[be]using h
 ·refine Nl 4 Wq Wq Wq Wq Wq ?_;unfold yu at h;rw[e]at h;simpa[K0]using h
 ·refine Nl 2 Wq Wq Wq Wq Wq ?_;unfold yu at h;rw[e]at h;simpa[K0]using h
 ·refine uY true zAh Wq ?_;exact Z5r_
 refine uY false zAh Wq ?_;exact Z5r_
end Go.PH
end
section
namespace Go.PH
def xm(rd:Nat→List UInt8→Option (Vl×List UInt8×Nat))(m:Bool):Nat→Nat→List UInt8→Option (List (List UInt8)×List Vl×List UInt8×Nat)
 | 0,n,l=>some ([],[],l,n)
 | c+1,n,l=>
  if m&&(zT l false 1 255).2.2 then none
  else match rd n (if m then(zT l false 1 255).2.1 else l)with
   | none=>none
   | some r=>match xm rd m c r.2.2 r.2.1 with
    | none=>none
    | some q=>some (if m then(zT l false 1 255).1::q.1 else q.1,r.1::q.2.1,q.2.2)
def yz:Nat→Nat→List UInt8→Option (Vl×List UInt8×Nat)
 | 0,_,_=>none
 | f+1,n,l=>
  if n=0∨(mnum l false 1).2.2=true then none
  else
   if(mnum l false 1).1=240 then some (.mk 240 0 [] [] [],(mnum l false 1).2.1,n-1)
   else if(mnum l false 1).1=8∨(mnum l false 1).1=2 then
    if(mnum (mnum l false 1).2.1 false 1).2.2=true then none else some (.mk (mnum l false 1).1 (mnum (mnum l false 1).2.1 false 1).1 [] [] [],(mnum (mnum l false 1).2.1 false 1).2.1,n-1)
   else if(mnum l false 1).1=50∨(mnum l false 1).1=49 then
    if(mnum (mnum l false 1).2.1 false 8).2.2=true then none else some (.mk (mnum l false 1).1 (mnum (mnum l false 1).2.1 false 8).1 [] [] [],(mnum (mnum l false 1).2.1 false 8).2.1,n-1)
   else if(mnum l false 1).1=149 then
    if(zT (mnum l false 1).2.1 false 2 4096).2.2=true then none else some (.mk 149 0 (zT (mnum l false 1).2.1 false 2 4096).1 [] [],(zT (mnum l false 1).2.1 false 2 4096).2.1,n-1)
   else if(mnum l false 1).1=160 then
    if(zT (mnum l false 1).2.1 false 4 4096).2.2=true then none else some (.mk 160 0 (zT (mnum l false 1).2.1 false 4 4096).1 [] [],(zT (mnum l false 1).2.1 false 4 4096).2.1,n-1)
   else if(mnum l false 1).1=168∨(mnum l false 1).1=169 then
    if(mnum (mnum (mnum l false 1).2.1 false 4).2.1 (mnum (mnum l false 1).2.1 false 4).2.2 4).2.2=true∨(mnum (mnum l false 1).2.1 false 4).2.1.length<(mnum (mnum l false 1).2.1 false 4).1∨200≤(mnum (mnum (mnum l false 1).2.1 false 4).2.1 (mnum (mnum l false 1).2.1 false 4).2.2 4).1 then none
    else match xm (yz f) (decide ((mnum l false 1).1=168)) (mnum (mnum (mnum l false 1).2.1 false 4).2.1 (mnum (mnum l false 1).2.1 false 4).2.2 4).1 (n-1) (mnum (mnum (mnum l false 1).2.1 false 4).2.1 (mnum (mnum l false 1).2.1 false 4).2.2 4).2.1 with
     | none=>none
     | some q=>if(mnum (mnum l false 1).2.1 false 4).2.1.length-q.2.2.1.length=(mnum (mnum l false 1).2.1 false 4).1 then some (.mk (mnum l false 1).1 0 [] q.1 q.2.1,q.2.2)else none
   else none
theorem ju(w:Nat)(hw:w=1∨w=2∨w=4)(s rest:List UInt8)(most:Nat)(hs:s.length<256 ^ w)(hm:s.length≤most):zT (be w s.length++s++rest) false (w:Int) (most:Int)=(s,rest,false):=by
 rw[Za Wq,K0,ve w (qL Wq) s.length (s++rest),k3 hs];simp only;rw[if_neg Hq,ZM]
theorem XL(l:List UInt8)(b:Bool)(x:Int):(xe l b x).2.1.length≤l.length:=by
 unfold xe;split
 ·simp
 simp
theorem xL(l:List UInt8)(b:Bool)(x:Int):(mnum l b x).2.1.length≤l.length:=by
 unfold mnum;split
 ·exact XL l b x
 simp
theorem qY(l:List UInt8)(b:Bool)(x m:Int):(zT l b x m).2.1.length≤l.length:=by
 unfold zT;split
 ·simp only;split
  ·simp
  exact kI (XL _ _ _) (xL l b x)
 simp
theorem yY(l:List UInt8)(b:Bool)(x:Int)(m:Nat):(zT l b x (m:Int)).1.length≤m:=by
 unfold zT;split
 ·simp only;split
  ·simp
  rename_i h
  unfold xe;split
  ·simp
  simp only[vz];omega
 simp
theorem XM{rd:Nat→List UInt8→Option (Vl×List UInt8×Nat)}(B4:∀n l x l' n',rd n l=some (x,l',n')→l'.length≤l.length∧n'≤n)(m:Bool):∀(c n:Nat) (l:List UInt8) (q:List (List UInt8)×List Vl×List UInt8×Nat),xm rd m c n l=some q→q.2.2.1.length≤l.length∧q.2.2.2≤n:=by
 intro c
 induction c with
 | zero=>
  intro n l q h;rw[xm]at h;injection h with h
  subst h
  exact⟨Q2 _,Q2 _⟩
 | succ c ih=>
  intro n l q h;rw[xm]at h;split at h
  ·cases h
  split at h
  ·cases h
  rename_i r hr
  split at h
  ·cases h
  rename_i q' Ny
  injection h with h
  subst h;have h1:=B4 _ _ r.1 r.2.1 r.2.2 hr;have h2:=ih _ _ _ Ny;refine⟨?_,by simp only;omega⟩;simp only;refine kI h2.1 (kI h1.1 ?_);split
  ·exact qY _ _ _ _
  exact Q2 _
theorem ZS:∀(f n:Nat) (l:List UInt8) (x:Vl) (l':List UInt8) (n':Nat),yz f n l=some (x,l',n')→l'.length≤l.length∧n'≤n:=by
 intro f
 induction f with
 | zero=>intro n l x l' n' h;rw[yz]at h;cases h
 | succ f ih=>
  intro n l x l' n' h;rw[yz]at h;have e1:=xL l false 1;generalize mnum l false 1=a at*;split at h
  ·cases h
  split at h
  ·injection h with h;injection h with _ h;injection h with h1 h2;subst h1 h2;exact⟨e1,by omega⟩
  split at h
  ·have e2:=xL a.2.1 false 1;exact Z59_
  split at h
  ·have e2:=xL a.2.1 false 8;exact Z59_
  split at h
  ·have e2:=qY a.2.1 false 2 4096;exact Z59_
  split at h
  ·have e2:=qY a.2.1 false 4 4096;exact Z59_
  split at h
  ·have e2:=xL a.2.1 false 4;have e3:=xL (mnum a.2.1 false 4).2.1 (mnum a.2.1 false 4).2.2 4;split at h
   ·cases h
   split at h
   ·cases h
   rename_i q hq
   have e4:=XM ih _ _ _ _ _ hq;split at h
   ·injection h with h;injection h with _ h;rw[h]at e4;simp only at e4;exact⟨by omega,by omega⟩
   cases h
  cases h
theorem Jn{rd:Nat→List UInt8→Option (Vl×List UInt8×Nat)}(m:Bool)(L:List Vl):∀(ks:List (List UInt8)) (n:Nat) (rest:List UInt8),
  (∀x∈L,∀(n:Nat) (rest:List UInt8),n≤200→0≤cntV x n→rd n (vlB x++rest)=some (x,rest,(cntV x n).toNat))→(m=true→ks.length=L.length∧∀k∈ks,k.length≤255)→(m=false→ks=[])→n≤200→0≤cntL L n→
  xm rd m L.length n (yy m ks L++rest)=some (ks,L,rest,(cntL L n).toNat):=by
 induction L with
 | nil=>
  intro ks n rest _ h1 h2 _ _
  have:ks=[]:=by
   cases m
   ·exact h2 rfl
   exact Vy.1 (h1 rfl).1
  subst this;rw[xX,k4,List.length_nil,xm,cntL]
  simp
 | cons x L ih=>
  intro ks n rest B4 h1 h2 hn hc;rw[YT x L Wq]at hc ⊢;have wu:0≤cntV x n:=by have:=vC L (cntV x n);omega
  have hbc:=jF x n;have hx:=fun rest=>B4 x (q9 ..) n rest hn wu
  have m8:(((cntV x n).toNat:Nat):Int)=cntV x n:=by omega
  have GM:=fun ks' Np Ou=>ih ks' (cntV x n).toNat rest (fun y hy=>B4 y (ky _ hy)) Np Ou Wq (by rw[m8];exact hc)
  rw[m8]at GM;rw[qk,k6,xm]
  cases m
  ·have hk:=h2 rfl;subst hk;simp only[Bool.false_and,Bool.false_eq_true,if_false,k4,List.tail_nil];rw[K0,hx];simp only;rw[GM [] Mz (fun _=>rfl)]
  obtain⟨hl,hk⟩:=h1 rfl
  match ks,hl,hk with
  | k::ks,hl,hk=>
   have dy:=hk k (q9 ..);have e:=ju 1 (.inl rfl) k (vlB x++(yy true ks L++rest)) 255 Wq dy;(have e2:be 1 k.length++k++vlB x++yy true ks L++rest=be 1 k.length++k++(vlB x++(yy true ks L++rest)):=by simp[K0]);simp only[if_true,vv,List.tail_cons,Bool.true_and];rw[e2];rw[show((1:Nat):Int)=1 from rfl,show((255:Nat):Int)=255 from rfl]at e;rw[e];simp only[Bool.false_eq_true,if_false];rw[hx];simp only;rw[GM ks (fun _=>⟨by simpa using hl,fun k' hk'=>hk k' (ky _ hk')⟩) Mz]
theorem zdM(k:Nat)(hk:k<256)(l:List UInt8):mnum (Vx k::l) false 1=(k,l,false):=by
 have h:=ve 1 (qL (.inl rfl)) k l;rw[show be 1 k=[Vx k]from by simp[be],show((1:Nat):Int)=1 from rfl,k3 (by simpa using hk)]at h;exact h
theorem qZ(w:Nat)(hw:w=1∨w=2∨w=4∨w=8)(n:Nat)(hn:n<256 ^ w)(l:List UInt8):mnum (be w n++l) false (w:Int)=(n,l,false):=by
 rw[ve w (qL Wq) n l,k3 hn]
theorem Jo(x:Vl):∀(f n:Nat) (rest:List UInt8),VB x→mayV zJ x=true→xJ f x=false→n≤200→0≤cntV x n→yz f n (vlB x++rest)=some (x,rest,(cntV x n).toNat):=by
 refine Vl.ind (P:=fun x=>∀(f n:Nat) (rest:List UInt8),VB x→mayV zJ x=true→xJ f x=false→n≤200→0≤cntV x n→yz f n (vlB x++rest)=some (x,rest,(cntV x n).toNat)) ?_ x;intro x ih f n rest iu gD nf hn hc;obtain⟨lK,gZ,IY⟩:=iu.parts;have dI:=ZH (v:=x) n gD hc;rw[kJ]at gD;obtain⟨fI,ot,fN,BM⟩:=qV gD;obtain⟨f1,f2,f3,f4,f5,f6⟩:=ZT gD;have gF:=jF x n;have Cg:=ZE x n
 cases f with
 | zero=>rw[xJ]at nf;cases nf
 | succ f=>
  rw[xJ]at nf
  have sV:∀y∈x.list,xJ f y=false:=fun y hy=>by
   cases h:xJ f y
   ·rfl
   have:x.list.any (xJ f)=true:=List.any_eq_true.2 ⟨y,hy,h⟩;rw[this]at nf;cases nf
  have GM:=fun(y:Vl) (hy:y∈x.list) (n:Nat) (rest:List UInt8) (h1:n≤200) (h2:0≤cntV y n)=>ih y hy f n rest (IY y hy) (kx.1 BM y hy) (sV y hy) h1 h2
  clear ih nf sV IY BM gD;have hx:=x.eta;rw[Yn]at dI ⊢;rw[k8,yz,zdM _ lK];simp only;have rW:¬(n=0∨false=true):=fun h=>h.elim (fun h=>by omega) Mz
  rw[if_neg rW];have pJ:x.list=[]→(cntV x n).toNat=n-1:=fun h=>by rw[Cg,h,cntL];omega
  rcases fI with hk|hk|hk|hk|hk|hk|hk|hk|hk
  ·have qqbz:=();exact Z2m_
  ·have qqc0:=();exact Z2m_
  ·exact Z2m_
  ·have qqby:=();exact Z2m_
  ·rw[hk]at hx f1 f2 f3 f4 f5 f6 ⊢;have a1:=Vy.1 (f1 WJ);have a2:=Vy.1 (f2 WJ WJ);have a3:=Vy.1 (f3 WJ WJ);have a4:=f6 WJ WJ WJ WJ;rw[if_pos rfl,show yu 240 x.n x.s (innB x)=[] by simp[yu],k4];rw[a1,a2,a3,a4]at hx;rw[pJ a2,←hx]
  ·rw[hk]at hx f1 f2 f3 f4 f5 f6 ⊢;have a1:=Vy.1 (f1 WJ);have a2:=Vy.1 (f2 WJ WJ);have a4:=f6 WJ WJ WJ WJ;have e:=ju 4 (.inr (.inr rfl)) x.s rest 4096 Wq ot;rw[show((4:Nat):Int)=4 from rfl,show((4096:Nat):Int)=4096 from rfl]at e;rw[if_neg WJ,if_neg WJ,if_neg WJ,if_neg WJ,if_pos rfl,show yu 160 x.n x.s (innB x)=be 4 x.s.length++x.s by simp[yu],e];simp only[Bool.false_eq_true,if_false];rw[a1,a2,a4]at hx;rw[pJ a2,←hx]
  ·rw[hk]at hx f1 f2 f3 f4 f5 f6 ⊢;have a1:=Vy.1 (f1 WJ);have a2:=Vy.1 (f2 WJ WJ);have a4:=f6 WJ WJ WJ WJ;have e:=ju 2 (.inr (.inl rfl)) x.s rest 4096 Wq ot;rw[show((2:Nat):Int)=2 from rfl,show((4096:Nat):Int)=4096 from rfl]at e;rw[if_neg WJ,if_neg WJ,if_neg WJ,if_pos rfl,show yu 149 x.n x.s (innB x)=be 2 x.s.length++x.s by simp[yu],e];simp only[Bool.false_eq_true,if_false];rw[a1,a2,a4]at hx;rw[pJ a2,←hx]
  ·have qq7j:=();exact Z1a_
  exact Z1a_
def j4(rd:Nat→List UInt8→Option (Vl×List UInt8×Nat))(m:Bool)(n:Nat)(l:List UInt8):Option (List (List UInt8)×List Vl×List UInt8×Nat):=
 if(mnum (mnum l false 4).2.1 (mnum l false 4).2.2 4).2.2=true∨(mnum l false 4).2.1.length<(mnum l false 4).1∨200≤(mnum (mnum l false 4).2.1 (mnum l false 4).2.2 4).1 then none
 else match xm rd m (mnum (mnum l false 4).2.1 (mnum l false 4).2.2 4).1 n (mnum (mnum l false 4).2.1 (mnum l false 4).2.2 4).2.1 with
  | none=>none
  | some q=>if(mnum l false 4).2.1.length-q.2.2.1.length=(mnum l false 4).1 then some q else none
theorem J0{f n:Nat}{l:List UInt8}(h:¬(n=0∨(mnum l false 1).2.2=true))(hk:(mnum l false 1).1=168∨(mnum l false 1).1=169):
  yz (f+1) n l=(j4 (yz f) (decide ((mnum l false 1).1=168)) (n-1) (mnum l false 1).2.1).map fun q=>(.mk (mnum l false 1).1 0 [] q.1 q.2.1,q.2.2):=by
 rw[yz,if_neg h];generalize mnum l false 1=a at*;rw[if_neg Wq,if_neg Wq,if_neg Wq,if_neg Wq,if_neg Wq,if_pos hk,j4];split
 ·rfl
 split
 ·rfl
 split<;>rfl
def ja(f n:Nat)(l:List UInt8)(bad:Bool):Option (Vl×List UInt8×Nat):=if bad then none else yz f n l
theorem zbs{l:List UInt8}{x:Int}:mnum l true x=(0,[],true):=by
 unfold mnum;rw[jg (.inl rfl)];split<;>rfl
theorem Ze(l:List UInt8)(bad:Bool):(mnum l bad 1).1<256:=by
 rw[qG WJ];simp only;unfold xe;split
 ·simp[kR]
 have:=vw (l.take (Int.toNat 1));have h1:(l.take (Int.toNat 1)).length≤1:=by rw[vz];exact Nat.min_le_left _ _
 simp only;refine q7 this (kI (Nat.pow_le_pow_right Wq h1) WJ)
theorem XN{rd:Nat→List UInt8→Option (Vl×List UInt8×Nat)}{c n:Nat}{l:List UInt8}(h:(zT l false 1 255).2.2=true):xm rd true (c+1) n l=none:=by
 rw[xm,h];rfl
theorem vI{rd:Nat→List UInt8→Option (Vl×List UInt8×Nat)}{m:Bool}{c n:Nat}{l:List UInt8}(h:rd n (if m then(zT l false 1 255).2.1 else l)=none):xm rd m (c+1) n l=none:=by
 rw[xm,h];split<;>rfl
theorem vJ{rd:Nat→List UInt8→Option (Vl×List UInt8×Nat)}{m:Bool}{c n:Nat}{l:List UInt8}{r:Vl×List UInt8×Nat}(hb:m=true→(zT l false 1 255).2.2=false)(h:rd n (if m then(zT l false 1 255).2.1 else l)=some r):
  xm rd m (c+1) n l=(xm rd m c r.2.2 r.2.1).map fun q=>(if m then(zT l false 1 255).1::q.1 else q.1,r.1::q.2.1,q.2.2):=by
 rw[xm,h,if_neg (by cases m<;>simp[hb])];simp only;split<;>rename_i h2
 ·rw[h2];rfl
 rw[h2];rfl
end Go.PH
end
namespace Go.PH
open Go.RowKit Go.Proofs Go.Proofs.Tryz
variable {l : List UInt8} {b hi k lo n : Nat}
theorem zbr(p q r:Addr)(w:World):
  CallsD prog 176 #[.pointer (some p),.pointer (some q),.pointer (some r)] .returning w fun e u' w'=>e= .returned (.tuple #[])∧u'= .returning∧w'=w:=by
 refine callsD_of_wpS func176 rfl fun c₀ cs hu=>?_
 apply wpS_seq;apply wpS_region;simp[wpOpsS,go_sem,recoverD,hu,ntmps176,Exit.thenS];refine wpS_of_wp ?_;have ht:(#[Value.pointer (some p),Value.pointer (some q),Value.pointer (some r)]++((Array.replicate 15 undef).setIfInBounds 3 Value.nilIface).setIfInBounds 0 Value.nilIface)= #[.pointer (some p),.pointer (some q),.pointer (some r),Value.nilIface,undef,undef,Value.nilIface,undef,undef,undef,undef,undef,undef,undef,undef,undef,undef,undef]:=by kernel_rfl
 rw[ht];clear ht;exact Z5x_
theorem XK(xT:TypeId)(w:World):(Instr.typeAssert (.iface 251 (.agg #[])) xT 251 true).run prog w= .ok (.tuple #[.agg #[],.bool true]) w:=by
 simp[Instr.typeAssert,run_underlying underlying251,go_sem,Result.andThen]
theorem Yu(p q r:Nat)(older:List PanicEntry)(w:World)(cv:Array Value)(cn ce:Value)(hp:Box w p 78 cv)(fF:cv.size=5)(hq:Box w q 3 #[cn])(hr:Box w r 45 #[ce])(NE:p≠q)(eB:q≠r)(Oo:p≠r)(B:Nat)(hBp:B≤p)(dM:B≤q)(bO:B≤r):
  CallsD prog 176 #[.pointer (some ⟨p,0,none⟩),.pointer (some ⟨q,0,none⟩),.pointer (some ⟨r,0,none⟩)] (.panicking ({v:=.iface 251 (.agg #[]),recovered:=false}::older)) w fun e u' w'=>
   e= .returned (.tuple #[])∧u'= .panicking ({v:=.iface 251 (.agg #[]),recovered:=true}::older)∧Box w' p 78 #[.int .u8 0,.int .u64 0,.string ⟨#[]⟩,.slice none 0 0,.slice none 0 0]∧Box w' q 3 #[.int .i64 0]∧Box w' r 45 #[.int .i64 5]∧Below B w w':=by
 have hta:=XK;refine callsD_of_wpS func176 rfl fun c₀ cs hu=>?_
 apply wpS_seq;apply wpS_region;simp[wpOpsS,go_sem,recoverD,hu,ntmps176,Exit.thenS];refine wpS_of_wp ?_;have ht:(#[Value.pointer (some ⟨p,0,none⟩),Value.pointer (some ⟨q,0,none⟩),Value.pointer (some ⟨r,0,none⟩)]++((Array.replicate 15 undef).setIfInBounds 3 (Value.iface 251 (.agg #[]))).setIfInBounds 0 (Value.iface 251 (.agg #[])))= #[.pointer (some ⟨p,0,none⟩),.pointer (some ⟨q,0,none⟩),.pointer (some ⟨r,0,none⟩),(Value.iface 251 (.agg #[])),undef,undef,(Value.iface 251 (.agg #[])),undef,undef,undef,undef,undef,undef,undef,undef,undef,undef,undef]:=by kernel_rfl
 rw[ht];clear ht;have hz:=Box.new w #[] 251;have EG:=hp.lt;have T4:=hq.lt;have nO:=hr.lt;have lQ:=hp.alloc (.cells #[] 251);have eQ:=hq.alloc (.cells #[] 251);have dT:=hr.alloc (.cells #[] 251);have Ha:=(kv B w).alloc Wq (.cells #[] 251);have hdr:cv.toList.drop 5=[]:=v0 Hq;go_wp2_with(with_reducible refine h_B ?_);refine zc (zm (v:=.agg #[]) (vs:=[]) rfl rfl rfl rfl hz rfl Wj Wz Wz #[] Wz ?_);intro w2 _ Hm cj;have fW:=lQ.grown Hm (sne Wq);have oo:=eQ.grown Hm (sne Wq);have cE:=dT.grown Hm (sne Wq);have Hc:=Ha.grown Hm (by have:=Ha.size;omega) Wx;clear lQ eQ dT Ha hz Hm cj hp hq hr;go_wp2_with(with_reducible refine h_B ?_);refine zc (zm (v:=.agg #[.int .u8 0,.int .u64 0,.string ⟨#[]⟩,.slice none 0 0,.slice none 0 0]) (vs:=(#[.int .u8 0,.int .u64 0,.string ⟨#[]⟩,.slice none 0 0,.slice none 0 0]).toList) rfl rfl rfl rfl fW rfl Wj Hq WQ #[.int .u8 0,.int .u64 0,.string ⟨#[]⟩,.slice none 0 0,.slice none 0 0] (by simp[hdr]) ?_);intro w3 pA H7 _;have FV:=oo.grown H7 (sne Wq);have cl:=cE.grown H7 (sne Wq);have Hh:=Hc.grown H7 (by have:=Hc.size;omega) Wx;clear fW oo cE H7;go_wp2_with(with_reducible refine h_B ?_);refine zc (zm (v:=.int .i64 0) (vs:=[.int .i64 0]) rfl rfl rfl rfl FV rfl Wj Wz wX #[.int .i64 0] Wz ?_);intro w4 tn Bb _;have me:=pA.grown Bb (sne Wq);have cV:=cl.grown Bb (sne Wq);have Hn:=Hh.grown Bb (by have:=Hh.size;omega) Wx;clear pA FV cl Bb;go_wp2_with(with_reducible refine h_B ?_);refine zc (zm (v:=.int .i64 5) (vs:=[.int .i64 5]) rfl rfl rfl rfl cV rfl Wj Wz wX #[.int .i64 5] Wz ?_);intro w5 dv bc _;have Nm:=me.grown bc (sne Wq);have pI:=tn.grown bc (sne Wq);have bz:=Hn.grown bc (by have:=Hn.size;omega) Wx;exact Z5x_
def zdN(w:World)(F:Nat→Prop)(B pb vb:Nat)(v:Value)(r:Option (Vl×List UInt8×Nat))(e:Ending)(w':World):Prop:=match r with
 | none=>e= .panicked PAN∧KP B pb vb w w'
 | some q=>∃h,e= .returned (.agg (vlV q.1 h))∧RV w' (FN w.heap.size w') q.1 h∧Rdr F w' v (some vb) q.2.1 false∧Box w' pb 255 #[v,.int .i64 (q.2.2:Int)]∧KP B pb vb w w'
def QD(f:Nat):Prop:=∀(d n:Nat) (F:Nat→Prop) (B pb vb:Nat) (v:Value) (l:List UInt8) (bad:Bool) (w:World),d+f=7→Rdr F w v (some vb) l bad→Box w pb 255 #[v,.int .i64 (n:Int)]→¬F pb→(∀g,F g→B≤g∧g<w.heap.size)→B≤pb→n≤200→
  Calls prog 177 #[.pointer (some ⟨pb,0,none⟩),.int .i64 (d:Int)] w (zdN w F B pb vb v (ja f n l bad))
def zcJ(a:World)(F:Nat→Prop)(B pb vb xb:Nat)(v:Value)(kd:Int)(r:Option (List (List UInt8)×List Vl×List UInt8×Nat))(e:Ending)(w':World):Prop:=match r with
 | none=>e= .panicked PAN∧KP B pb vb a w'
 | some q=>∃AK cK A c xs,e= .returned (.tuple #[])∧xs.map (·.1)=q.2.1∧MnS w' (xb+1) q.1 AK cK A c xs∧Rdr F w' v (some vb) q.2.2.1 false∧Box w' pb 255 #[v,.int .i64 (q.2.2.2:Int)]∧
   Box w' xb 78 #[.int .u8 kd,.int .u64 0,.string ⟨#[]⟩,.slice AK q.1.length cK,.slice A q.2.1.length c]∧KP B pb vb a w'∧(∀k∈q.1,k.length≤255)∧q.1.length≤200∧q.2.1.length≤200
structure MPre(w a:World)(F:Nat→Prop)(B pb vb xb n:Nat)(v:Value)(l:List UInt8)(kd:Int):Prop where
 hr:Rdr F w v (some vb) l false
 hp:Box w pb 255 #[v,.int .i64 (n:Int)]
 hx:Box w xb 78 #[.int .u8 kd,.int .u64 0,.string ⟨#[]⟩,.slice none 0 0,.slice none 0 0]
 hFp:¬F pb
 hF:∀g,F g→B≤g∧g<a.heap.size
 hpa:pb<a.heap.size
 hBp:B≤pb
 hBa:B≤a.heap.size
 hxa:a.heap.size≤xb
 hn:n≤200
 hK:KP B pb vb a w
theorem Js(kd:Int)(m:Bool)(pz:(kd=168∧m=true)∨(kd=169∧m=false))(f:Nat)(bP:QD f)(d n:Nat)(F:Nat→Prop)(B pb vb xb:Nat)(v:Value)(l:List UInt8)(a w:World)(hd:d+1+f=7)(my:MPre w a F B pb vb xb n v l kd):
  Calls prog 184 #[.pointer (some ⟨pb,0,none⟩),.pointer (some ⟨xb,0,none⟩),.int .i64 (d:Int)] w (zcJ a F B pb vb xb v kd (j4 (yz f) m n l)):=by
 obtain⟨hr,hp,hx,hFp,hF,hpa,hBp,hBa,hxa,hn,hK⟩:=my;have iu:=hr.inF rfl;have rL:=hF vb iu;have G3:pb≠vb:=fun e=>hFp (e▸iu)
 have sw:=hx.lt;obtain⟨q1,eQ⟩:∃q,q=mnum l false 4:=⟨_,rfl⟩
 obtain⟨r,hR⟩:∃r,r=j4 (yz f) m n l:=⟨_,rfl⟩
 rw[←hR];unfold j4 at hR;rw[←eQ]at hR;obtain⟨q2,oo⟩:∃q,q=mnum q1.2.1 q1.2.2 4:=⟨_,rfl⟩
 rw[←oo]at hR;have h1:=yn hr 4 Wq Wq;rw[←eQ]at h1;have cR:=xg l false 4;rw[←eQ]at cR;have oq:=xg q1.2.1 q1.2.2 4;have o8:=xL q1.2.1 q1.2.2 4;rw[←oo]at oq o8;obtain⟨SZ,l2,b2⟩:=q1;obtain⟨CN,l3,b3⟩:=q2;simp only at hR h1 cR oq o8;have i9:Hid ((CN,l3,b3)=mnum l2 b2 4):=Q1 oo;have HR:=Q1 hR;clear eQ oo hR;have c0:=hp.c0;go_enter func184,ntmps184;go_wp2_with(with_reducible refine h_A ?_);refine h1.mono ?_;rintro e w2 ⟨rfl,cE,Hm⟩;have fW:=hp.grown Hm (sne Wq);have n7:=hx.grown Hm (sne Wq);have dQ:=hK.grown hBa Hm UQ;clear h1 c0 hr hp hx hK Hm;have c0:=fW.c0;have h2:=yN cE;go_wp2_with(with_reducible refine h_A ?_);refine h2.mono ?_;rintro e w3 ⟨rfl,rfl⟩;clear h2;have Oq:=cE.len;have h3:=yn cE 4 Wq Wq;rw[←i9.out]at h3;go_wp2_with(with_reducible refine h_A ?_);refine h3.mono ?_;rintro e w4 ⟨rfl,cV,Bb⟩;have me:=fW.grown Bb (sne Wq);have Tz:=n7.grown Bb (sne Wq);have eR:=dQ.grown hBa Bb UQ;clear h3 c0 cE fW n7 dQ Bb;try simp only at cV
 have c0:=me.c0;by_cases Bm:l2.length<SZ
 ·have B2:Hid (r=none):=Q1 (by rw[HR.out,if_pos (.inr (.inl Bm))]);have g1:¬(SZ:Int)≤(l2.length:Int):=by omega
  clear Bm HR i9;have gY:=xR cV me false (.inl rfl);exact Z4r_
 have g1:(SZ:Int)≤(l2.length:Int):=by omega
 by_cases Pz:200≤CN
 ·exact Z2v_
 have g2:(CN:Int)<200:=by omega
 cases b3
 ·have gY:=xK cV me;have eZ:Hid (r=match xm (yz f) m CN n l3 with|none=>none|some q=>if l2.length-q.2.2.1.length=SZ then some q else none):=Q1 (by rw[HR.out,if_neg (fun h=>by rcases h with h|h|h<;>first|omega|cases h)];try(cases xm (yz f) m CN n l3<;>rfl));go_wp2_with(with_reducible refine h_A ?_);refine gY.mono ?_;rintro e w5 ⟨rfl,rfl⟩;clear gY c0 HR i9;go_wp2_with(with_reducible refine h_A ?_);go_loopw [35] (fun s wr=>∃(i:Nat) (KS:List (List UInt8)) (AK:Option Addr) (cK:Nat) (A:Option Addr) (c:Nat) (xs:List (Vl×VH)) (li:List UInt8) (ni:Nat),i≤CN∧s= .int .u64 (i:Int)∧Hid (xs.length=i)∧KS.length≤i∧Hid (∀k∈KS,k.length≤255)∧ni≤200∧MnS wr (xb+1) KS AK cK A c xs∧Rdr F wr v (some vb) li false∧Box wr pb 255 #[v,.int .i64 (ni:Int)]∧Box wr xb 78 #[.int .u8 kd,.int .u64 0,.string ⟨#[]⟩,.slice AK KS.length cK,.slice A i c]∧KP B pb vb a wr∧Hid (xm (yz f) m CN n l3=(xm (yz f) m (CN-i) ni li).map fun q=>(KS++q.1,xs.map (·.1)++q.2.1,q.2.2))) (fun s _=>CN-(q0 s).toNat)
  case atStart=>exact⟨0,[],none,0,none,0,[],l3,n,by omega,rfl,Q1 rfl,by simp,Q1 zAb,hn,MnS.nil _ _,cV,me,Tz,eR,Q1 (by
   rw[Nat.sub_zero]
   cases xm (yz f) m CN n l3<;>rfl)⟩
  clear cV me Tz eR hn;obtain⟨i,KS,AK,cK,A,c,xs,li,ni,hi,rfl,d9,bK,df,nF,hS,hR,hP,hX,bu,HC⟩:=hrel;have fG:((d+1:Nat):Int)=IntKind.i64.wrap ((d:Int)+1):=by rw[IntWalk.i64_in _ ⟨by omega,by omega⟩];omega
  by_cases hlt:i<CN
  ·(have g3:(i:Int)<(CN:Int):=by omega);(obtain⟨cn,Ev⟩:∃cn,CN-i=cn+1:=⟨CN-i-1,by omega⟩);(have Na:CN-(i+1)=cn:=by omega);(obtain⟨T,hT⟩:∃t,t=zT li false 1 255:=⟨_,rfl⟩);have pe:=yY li false 1 255;rw[show((255:Nat):Int)=255 from rfl,←hT]at pe;(have pf:=fun(W:World) (h:Rdr F W v (some vb) li false)=>qF h 1 255 Wq Wq Wq Wq);rw[←hT]at pf;obtain⟨ks,lk,bk⟩:=T;simp only at pe pf;(obtain⟨lj,FH⟩:∃q,q=(if m=true then lk else li):=⟨_,rfl⟩);(obtain⟨bj,CO⟩:∃q,q=(if m=true then bk else false):=⟨_,rfl⟩);obtain⟨rr,B1⟩:∃q,q=ja f ni lj bj:=⟨_,rfl⟩
   have HN:Hid (rr=none→r=none):=Q1 (fun e=>by
    rw[eZ.out,HC.out,Ev]
    cases m
    ·rw[vI (by rw[if_neg WJ];rw[←e,B1,CO,FH];rfl)];rfl
    ·cases bk
     ·rw[vI (by rw[if_pos rfl,←hT];rw[←e,B1,FH,CO];rfl)];rfl
     ·rw[XN (by rw[←hT])];rfl)
   have NK:Hid (∀q,rr=some q→xm (yz f) m CN n l3=(xm (yz f) m (CN-(i+1)) q.2.2 q.2.1).map fun p=>((if m=true then KS++ [ks]else KS)++p.1,(xs.map (·.1)++ [q.1])++p.2.1,p.2.2)):=Q1 (fun q e=>by
    cases m
    ·rw[HC.out,Ev,Na,vJ (r:=q) Mz (by rw[if_neg WJ];rw[←e,B1,CO,FH];rfl)]
     cases xm (yz f) false cn q.2.2 q.2.1<;>simp
    ·cases bk
     ·rw[HC.out,Ev,Na,vJ (r:=q) (fun _=>by rw[←hT]) (by rw[if_pos rfl,←hT];rw[←e,B1,FH,CO];rfl),←hT]
      cases xm (yz f) true cn q.2.2 q.2.1<;>simp
     ·rw[B1,CO]at e;cases e)
   have PG:=nF;have Ni:=hX.c0;go_upto_if 41 with fail;clear Ni HC hT;go_cut [35]from 37 to 55 (fun s wx=>s= .int .u64 (i:Int)∧∃(cu:List (List UInt8)) (fT:Option Addr) (gW:Nat),Hid (cu=if m=true then KS++ [ks]else KS)∧cu.length≤i+1∧Hid (∀k∈cu,k.length≤255)∧MnS wx (xb+1) cu fT gW A c xs∧Box wx xb 78 #[.int .u8 kd,.int .u64 0,.string ⟨#[]⟩,.slice fT cu.length gW,.slice A i c]∧Rdr F wx v (some vb) lj bj∧Box wx pb 255 #[v,.int .i64 (ni:Int)]∧KP B pb vb a wx)
   case first=>
    rcases pz with⟨rfl,rfl⟩|⟨rfl,rfl⟩
    ·obtain rfl:lj=lk:=FH;obtain rfl:bj=bk:=CO;go_upto_region 7 with fail;refine zt (fun W:World=>Box W pb 255 #[v,.int .i64 (ni:Int)]) Wj ?_;replace hS:MnS wr.drew (xb+1) KS AK cK A c xs:=hS.on (fun g _ _=>rfl) (Q2 _);replace hR:Rdr F wr.drew v (some vb) li false:=hR.drew;replace hP:Box wr.drew pb 255 #[v,.int .i64 (ni:Int)]:=hP;replace hX:Box wr.drew xb 78 #[.int .u8 168,.int .u64 0,.string ⟨#[]⟩,.slice AK KS.length cK,.slice A i c]:=hX;replace bu:KP B pb vb a wr.drew:=bu.drew;have pf:=pf wr.drew hR;generalize wr.drew=wd at*;refine rg_t 0 hP ?_;simp only[v1,v2,Act.put,v3,v4,v5];refine rg_t 1 hP ?_;simp only[g_S];refine rg_t 2 hP ?_;simp only[g_S];refine rg_t 3 hP ?_;simp only[g_S];refine rg_t 5 hP ?_;simp only[g_S];refine rg_t 6 hP ?_;simp only[g_S];refine rg_t 7 hP ?_;simp only[g_S];refine ze 8 (v:=?_) rfl Wj Wj Wj hP rfl ?_ ?_;rotate_left
     ·intro wS He;have k0:=He.cell (j:=0) rfl;go_simp;(with_reducible rfl)
     simp only[g_S];have z3:=hX.c3;refine xO 4 9 rfl rfl Wj rfl rfl (fun K bB=>?_) (fun K bB=>?_)
     ·exact Zt_
     go_simp;refine pf.mono ?_;rintro e wt ⟨rfl,Bw,Hm⟩;(try clear z3);replace hS:=hS.box Hm Wq;replace hX:=hX.grown Hm (sne Wq);replace hP:=hP.grown Hm (sne Wq);replace bu:=bu.grown hBa Hm UQ;clear hR pf;have hR:=Bw;clear Bw Hm;refine bB _ _ hP ?_;clear bB K;(try simp only[g_S]);have z3:=hX.c3;refine xO 4 10 rfl rfl Wj rfl rfl (fun K bB=>?_) (fun K bB=>?_)
     ·have qq4x:=();exact Zt_
     have qq4y:=();exact Zt_
    obtain rfl:lj=li:=FH;obtain rfl:bj=false:=CO;go_wp2_with(with_reducible refine h_A ?_);go_meet;exact⟨rfl,KS,AK,cK,Q1 (by rw[if_neg WJ]),by omega,df,hS,hX,hR,hP,bu⟩
   obtain⟨rfl,cu,fT,gW,o7,mA,Bk,hS,hX,hR,hP,bu⟩:=hcut;rw[←o7.out]at NK;clear o7 df bK pe FH CO pf;go_upto_region 8 with fail;refine VI (fun _=>True) Wj ?_;replace hS:MnS wc.drew (xb+1) cu fT gW A c xs:=hS.on (fun g _ _=>rfl) (Q2 _);replace hR:Rdr F wc.drew v (some vb) lj bj:=hR.drew;replace hP:Box wc.drew pb 255 #[v,.int .i64 (ni:Int)]:=hP;replace hX:Box wc.drew xb 78 #[.int .u8 kd,.int .u64 0,.string ⟨#[]⟩,.slice fT cu.length gW,.slice A i c]:=hX;replace bu:KP B pb vb a wc.drew:=bu.drew;generalize wc.drew=wd at*;refine ya ?_ 0 (v:=?_) rfl Wj Wj Wj trivial rfl ?_ ?_
   ·repeat(first|refine zR ?_|refine zH ?_|exact zQ _ _ _)
   rotate_left
   ·intro wS _;go_simp;(with_reducible rfl)
   (try simp only[g_S]);refine ya ?_ 1 (v:=?_) rfl Wj Wj Wj trivial rfl ?_ ?_
   ·repeat(first|refine zR ?_|refine zH ?_|exact zQ _ _ _)
   rotate_left
   ·intro wS _;go_simp;(with_reducible rfl)
   (try simp only[g_S]);refine ya ?_ 2 (v:=?_) rfl Wj Wj Wj trivial rfl ?_ ?_
   ·repeat(first|refine zR ?_|refine zH ?_|exact zQ _ _ _)
   rotate_left
   ·intro wS _;go_simp;(with_reducible rfl)
   (try simp only[g_S]);refine ya ?_ 4 (v:=?_) rfl Wj Wj Wj trivial rfl ?_ ?_
   ·repeat(first|refine zR ?_|refine zH ?_|exact zQ _ _ _)
   rotate_left
   ·intro wS _;go_simp;(with_reducible rfl)
   (try simp only[g_S]);refine ya ?_ 5 (v:=?_) rfl Wj Wj Wj trivial rfl ?_ ?_
   ·repeat(first|refine zR ?_|refine zH ?_|exact zQ _ _ _)
   rotate_left
   ·intro wS _;go_simp;(with_reducible rfl)
   (try simp only[g_S]);refine ya ?_ 6 (v:=?_) rfl Wj Wj Wj trivial rfl ?_ ?_
   ·repeat(first|refine zR ?_|refine zH ?_|exact zQ _ _ _)
   rotate_left
   ·intro wS _;go_simp;(with_reducible rfl)
   try simp only[g_S]
   cases nL:rr with
   | none=>
    have qq1:=()
    exact Z1_
   | some q=>
    exact Z1_
  have hie:i=CN:=by omega
  subst hie;have g3:¬(i:Int)<(i:Int):=by omega
  have HL:Hid (xm (yz f) m i n l3=some (KS,xs.map (·.1),li,ni)):=Q1 (by rw[HC.out,Nat.sub_self,xm];simp);have gF:=(XM (ZS f) _ _ _ _ _ HL.out).1;simp only at gF;have c0:=hP.c0;have h5:=yN hR;go_wp2_with(with_reducible refine h_A ?_);refine h5.mono ?_;rintro e w6 ⟨rfl,rfl⟩;clear h5;have pZ:IntKind.i64.wrap ((l2.length:Int)-(li.length:Int))=((l2.length-li.length:Nat):Int):=by rw[IntWalk.i64_in _ ⟨by omega,by omega⟩];omega
  by_cases mG:l2.length-li.length=SZ
  ·have B2:Hid (r=some (KS,xs.map (·.1),li,ni)):=Q1 (by rw[eZ.out,HL.out];simp only;rw[if_pos mG]);have gY:=xK hR hP;(have Sc:(((l2.length-li.length:Nat):Int)==(SZ:Int))=true:=by simp;omega);go_wp2_with(with_reducible refine h_A ?_);refine gY.mono ?_;rintro e w7 ⟨rfl,rfl⟩;go_wp2_with(with_reducible refine h_A ?_);go_end0;rw[B2.out];have BE:=d9.out;subst BE;exact⟨AK,cK,A,c,xs,rfl,rfl,hS,hR,hP,(by rw[v9];exact hX),bu,df.out,(by show KS.length≤200;omega),(by show(xs.map (·.1)).length≤200;rw[v9];omega)⟩
  have B2:Hid (r=none):=Q1 (by rw[eZ.out,HL.out];simp only;rw[if_neg mG]);have Sc:(((l2.length-li.length:Nat):Int)==(SZ:Int))=false:=by simp;omega
  have gY:=xR hR hP false (.inl rfl);go_wp2_with(with_reducible refine h_A ?_);refine gY.mono ?_;rintro e w7 ⟨rfl,rfl⟩;go_wp2_with(with_reducible refine h_A ?_);rw[B2.out];exact⟨rfl,rfl,bu⟩
 have qqcv:=();exact Z2v_
theorem VM(f:Nat)(bP:QD f)(d n:Nat)(F:Nat→Prop)(B pb vb xb:Nat)(v:Value)(l:List UInt8)(a w:World)(hd:d+1+f=7)(my:MPre w a F B pb vb xb n v l 169):
  Calls prog 184 #[.pointer (some ⟨pb,0,none⟩),.pointer (some ⟨xb,0,none⟩),.int .i64 (d:Int)] w (zcJ a F B pb vb xb v 169 (j4 (yz f) false n l)):=Js 169 false (.inr ⟨rfl,rfl⟩) f bP d n F B pb vb xb v l a w hd my
theorem zbu(f:Nat)(bP:QD f)(d n:Nat)(F:Nat→Prop)(B pb vb xb:Nat)(v:Value)(l:List UInt8)(a w:World)(hd:d+1+f=7)(my:MPre w a F B pb vb xb n v l 168):
  Calls prog 184 #[.pointer (some ⟨pb,0,none⟩),.pointer (some ⟨xb,0,none⟩),.int .i64 (d:Int)] w (zcJ a F B pb vb xb v 168 (j4 (yz f) true n l)):=Js 168 true (.inl ⟨rfl,rfl⟩) f bP d n F B pb vb xb v l a w hd my
theorem RV.leaf(w:World)(F:Nat→Prop)(k n:Nat)(s:List UInt8)(hk:k<256)(hn:n<18446744073709551616)(hs:s.length≤140737488351232):RV w F (.mk k n s [] []) ⟨none,0,none,0⟩:=
 ⟨[],hk,hn,hs,RdX.nil _ _ _ _ _ WX,fun k hk=>(by cases hk),(by show(0:Nat)≤_;omega),(by show(0:Nat)≤_;omega),RdX.nil _ _ _ _ _ WX,rfl,fun p hp=>by cases hp⟩
theorem jv(f n:Nat)(l:List UInt8)(bad:Bool)(h:n=0∨(mnum l bad 1).2.2=true∨f=0):ja f n l bad=none:=by
 unfold ja
 cases bad
 ·rw[if_neg WJ]
  cases f with
  | zero=>rw[yz]
  | succ f=>
   have h':n=0∨(mnum l false 1).2.2=true:=by
    rcases h with h|h|h
    ·exact .inl h
    ·exact .inr h
    cases h
   rw[yz,if_pos h']
 exact if_pos rfl
theorem Jq{f:Nat}{l1:List UInt8}(h:(k,l1,false)=mnum l false 1)(hn:n≠0):yz (f+1) n l=
  if k=240 then some (.mk 240 0 [] [] [],l1,n-1)
  else if k=8∨k=2 then(if(mnum l1 false 1).2.2=true then none else some (.mk k (mnum l1 false 1).1 [] [] [],(mnum l1 false 1).2.1,n-1))
  else if k=50∨k=49 then(if(mnum l1 false 8).2.2=true then none else some (.mk k (mnum l1 false 8).1 [] [] [],(mnum l1 false 8).2.1,n-1))
  else if k=149 then(if(zT l1 false 2 4096).2.2=true then none else some (.mk 149 0 (zT l1 false 2 4096).1 [] [],(zT l1 false 2 4096).2.1,n-1))
  else if k=160 then(if(zT l1 false 4 4096).2.2=true then none else some (.mk 160 0 (zT l1 false 4 4096).1 [] [],(zT l1 false 4 4096).2.1,n-1))
  else if k=168∨k=169 then(j4 (yz f) (decide (k=168)) (n-1) l1).map (fun q=>(.mk k 0 [] q.1 q.2.1,q.2.2))else none:=by
 have h':¬(n=0∨(mnum l false 1).2.2=true):=by
  rw[←h];rintro(e|e)
  ·exact hn e
  cases e
 by_cases hk:k=168∨k=169
 ·have hv:=J0 (f:=f) h' (by rw[←h];exact hk);rw[←h]at hv;rw[hv,if_neg Wq,if_neg Wq,if_neg Wq,if_neg Wq,if_neg Wq,if_pos hk]
 rw[yz,if_neg h',←h];simp only;rw[if_neg hk,if_neg hk]
theorem VK:QD 0:=by
 have qq7:=();exact Z3_
theorem VL(f:Nat)(bP:QD f):QD (f+1):=by
 exact Z3_
theorem Jr:∀f,QD f
 | 0=>VK
 | f+1=>VL f (Jr f)
abbrev getD:Nat:=176
def vget(l:List UInt8):Vl×Nat×Int:=match yz 6 200 l with
 | some q=>if errV q.1=0 then(q.1,l.length-q.2.1.length,0)else(vl0,0,5)
 | none=>(vl0,0,5)
theorem zcH{x:Vl}{rest:List UInt8}(hv:VB x)(he:errV x=0):vget (vlB x++rest)=(x,(vlB x).length,0):=by
 obtain⟨hc,hm⟩:=j0 he
 have hd:xJ 6 x=false:=by
  unfold errV at he;split at he
  ·omega
  rename_i h;simpa using h
 have h:=Jo x 6 200 rest hv hm hd (Q2 _) hc;unfold vget;rw[h];simp only;rw[if_pos he];simp
theorem yU{w:World}{B B' size c:Nat}{A:Option Addr}{xs:List Value}(h:Rd w B size A n c xs)(hB:B≤B'):Rd w B' size A n c xs:=⟨h.len,h.cap,h.max,fun hn=>by
 obtain⟨b,off,e,hb,hc⟩:=h.at_ hn
 exact⟨b,off,e,q7 hb hB,hc⟩⟩
def zdL(w:World)(r:Vl×Nat×Int)(e:Ending)(w':World):Prop:=∃h,e= .returned (.tuple #[.agg (vlV r.1 h),.int .i64 (r.2.1:Int),.int .i64 r.2.2])∧RV w' (FN w.heap.size w') r.1 h∧Below w.heap.size w w'
theorem zbq(A:Option Addr)(n c:Nat)(l:List UInt8)(w:World)(hb:RdB w w.heap.size A n c l)(hn:n≤140737488351240)(hT:UTabs w):
  Calls prog 162 #[.slice A n c] w (zdL w (vget l)):=by
 have Cp:∀(fn:Fn) (first cap:Array Value) (w:World),(Instr.makeFunc fn first cap).run prog w= .ok (.func fn first cap) w:=fun _ _ _ _=>rfl
 obtain⟨p,w1,NE,G3,lQ,Ha⟩:=zg w #[.int .u8 0,.int .u64 0,.string ⟨#[]⟩,.slice none 0 0,.slice none 0 0] 78;obtain⟨q,w2,eo,bh,oo,Hc⟩:=zg w1 #[.int .i64 0] 3;obtain⟨r,w3,N4,cg,cl,Hh⟩:=zg w2 #[.int .i64 0] 45;have e1:p+1=q:=by rw[eo,G3,NE];simp
 have e2:q+1=r:=by rw[N4,bh,eo];simp
 have e3:w3.heap.size=r+1:=by rw[cg,N4];simp
 have hB:=(Ha.trans ((Hc.mono Ha.size).trans (Hh.mono (kI Ha.size Hc.size))));have EG:w.heap.size≤p:=by omega
 have pA:=(lQ.below Hc).below Hh;have FV:=oo.below Hh;have bX:RdB w3 w3.heap.size A n c l:=yU (hb.below hB) hB.size;obtain⟨res,By⟩:∃x,x=vget l:=⟨_,rfl⟩
 rw[←By];have mB:=Q1 By;have ho:=qE A n c l w3 bX hn;have BD:l.length=n:=RdB.length hb;have Uf:=hT.on hB;have wG:=hT;clear By Ha Hc Hh lQ oo hb hT;go_enter_defers func162,ntmps162;go_upto_region 2 with fail;rw[←G3,←bh,←cg,←NE,e1,e2];clear NE G3 eo bh N4 cg;have hqp:p<q:=by omega
 have N4:q<r:=by omega
 have im:=cl.lt;clear e1 e2;go_wp2_with(with_reducible refine h_A ?_);refine ho.mono ?_;rintro e w4 ⟨ob,vb,rfl,rA,iu,B4,Hn⟩;have me:=pA.below Hn;have tn:=FV.below Hn;have cV:=cl.below Hn;have BG:=hB.trans (Hn.mono hB.size);have Ul:=Uf.on Hn;have ot:=Hn.size;clear ho pA FV cl bX Uf;have hz:=Box.new w4 #[.pointer (some ⟨ob,0,none⟩),.int .i64 200] 255;have dc:=(kv w4.heap.size w4).alloc (Q2 _) (.cells #[.pointer (some ⟨ob,0,none⟩),.int .i64 200] 255);go_wp2_with(with_reducible refine h_A ?_);obtain⟨pb,pn⟩:∃g,g=w4.heap.size:=⟨_,rfl⟩
 rw[←pn]at hz ⊢;have Nm:=me.below dc;have pI:=tn.below dc;have dv:=cV.below dc;have gP:=B4.below dc;have H6:=BG.trans (dc.mono BG.size);have Ds:=Ul.on dc;have GF:=dc.size;have hhc:w4.heap.size≤pb:=by omega
 have tD:=hz.lt;clear pn me tn cV B4 dc Ul;generalize(w4.alloc (.cells #[.pointer (some ⟨ob,0,none⟩),.int .i64 200] 255))=w5 at*;have rJ:=Jr 6 1 200 (fun g=>w3.heap.size≤g∧g<w4.heap.size) w3.heap.size pb vb (.pointer (some ⟨ob,0,none⟩)) l false w5 rfl gP hz (fun h=>by omega) (fun g hg=>⟨hg.1,by omega⟩) Wq (Q2 _);obtain⟨rr,B1⟩:∃x,x=yz 6 200 l:=⟨_,rfl⟩
 rw[show ja 6 200 l false=rr by rw[B1];rfl]at rJ;have ng:=Q1 B1;clear B1
 cases rr with
 | none=>
  have qq34:=()
  exact Zg_
 | some rq=>
  obtain⟨x,lq,nq⟩:=rq;have gF:=(ZS 6 200 l x lq nq ng.out.symm).1;have NO:Hid (res=if errV x=0 then(x,l.length-lq.length,0)else(vl0,0,5)):=Q1 (by rw[mB.out];unfold vget;rw[←ng.out]);go_wp2_with(with_reducible refine h_A ?_);refine rJ.mono ?_;rintro e w6 ⟨h,rfl,hV,bF,Bf,hK⟩;have LK:=hK.box Nm Wq Wq;have wL:=hK.box pI Wq Wq;have mo:=hK.box dv Wq Wq;have dC:=H6.trans (hK.1.mono Wq);have Aw:=hK.size;unfold vlV;clear rJ Nm pI dv hz gP hK;go_wp2_with(with_reducible refine h_B ?_);refine zc (zm (v:=.agg #[.int .u8 (x.kind:Int),.int .u64 (x.n:Int),.string (str x.s),.slice h.A1 x.keys.length h.c1,.slice h.A2 x.list.length h.c2]) (vs:=[.int .u8 (x.kind:Int),.int .u64 (x.n:Int),.string (str x.s),.slice h.A1 x.keys.length h.c1,.slice h.A2 x.list.length h.c2]) rfl rfl rfl rfl LK rfl Wj Wz WQ #[.int .u8 (x.kind:Int),.int .u64 (x.n:Int),.string (str x.s),.slice h.A1 x.keys.length h.c1,.slice h.A2 x.list.length h.c2] Wz ?_);intro w7 wv H9 _;have EP:=wL.grown H9 (sne Wq);have Ay:=mo.grown H9 (sne Wq);have fg:=Bf.grown H9 (sne Wq);have BJ:=bF.kept H9 (fun g hg bG=>by injection hg with hg;omega);have fK:=dC.grown H9 Wq Wx;have wh:=H9.size;have MF:RV w7 (FN w5.heap.size w7) x h:=(hV.keep (fun g hg=>H9.block g hg.2 Hz) wh).mono (fun g hg=>⟨hg.1,q7 hg.2 wh⟩);have R2:=wG.on fK;have Ba:=Yj x h w7 (MF.mono (fun g hg=>hg.2)) R2;unfold vlV at Ba;clear LK wL mo Bf bF dC H9 hV;have fD:=BJ.len;have x0:=wv.c0;have x1:=wv.c1;have x2:=wv.c2;have x3:=wv.c3;have x4:=wv.c4;by_cases he:errV x=0
  ·exact Zg_
  have qq33:=();exact Zg_
def txC(s:List UInt8):List Value:=[txV s]
theorem zcT:RecShape txC 1 where
 len _:=rfl
 one a u hu:=by simp[txC]at hu;subst hu;rfl
 pos:=by omega
theorem zat(l:List (List UInt8)):rowC txC l=l.map txV:=by
 induction l with
 | nil=>rfl
 | cons x l ih=>rw[qW,ih];rfl
def zdx(w:World)(F:Nat→Prop)(B b n:Nat)(r:Option (Vl×List UInt8×Nat))(e:Ending)(w':World):Prop:=
 ∃(x:Vl) (h:VH) (m:Int) (ok:Bool) (l2:List UInt8) (sT:Bool),e= .returned (.tuple #[.agg (vlV x h),.int .i64 m,.bool ok])∧RV w' (FN w.heap.size w') x h∧Qrd F w' b l2 sT∧KP B b b w w'∧ -1≤m∧m<(n:Int)∧(ok=true→0≤m)∧
  ∀q,r=some q→x=q.1∧l2=q.2.1∧m=(q.2.2:Int)∧ok=true∧sT=false
def Jz(f:Nat):Prop:=∀(d n:Nat) (F:Nat→Prop) (B b:Nat) (l:List UInt8) (bad:Bool) (w:World),d+f=7→Qrd F w b l bad→(∀g,F g→B≤g∧g<w.heap.size)→n≤200→
  Calls prog 165 #[.pointer (some ⟨b,0,none⟩),.int .i64 (d:Int),.int .i64 (n:Int)] w (zdx w F B b n (ja f n l bad))
def RMid(F:Nat→Prop)(B b n rb xb:Nat)(w:World)(r:Option (Vl×List UInt8×Nat))(s2:Value)(wx:World):Prop:=
 ∃(x:Vl) (h:VH) (m:Nat) (l2:List UInt8) (sT:Bool),s2= .int .i64 (m:Int)∧Box wx xb 78 (vlV x h)∧RV wx (FN (xb+1) wx) x h∧Qrd F wx b l2 sT∧KP B b b w wx∧Box wx rb 78 #[.int .u8 0,.int .u64 0,.string ⟨#[]⟩,.slice none 0 0,.slice none 0 0]∧m<n∧
  Hid (∀q,r=some q→x=q.1∧l2=q.2.1∧m=q.2.2∧sT=false)
theorem zau(x:Vl)(h:VH):∀u∈ [Value.int .u8 (x.kind:Int),.int .u64 (x.n:Int),.string (str x.s),.slice h.A1 x.keys.length h.c1,.slice h.A2 x.list.length h.c2],u.oneCell'=true:=by
 intro u hu;simp at hu;rcases hu with rfl|rfl|rfl|rfl|rfl<;>rfl
theorem Ko:Jz 0:=by
 have qq2:=();exact Z2_
theorem YD{rd:Nat→List UInt8→Option (Vl×List UInt8×Nat)}{m:Bool}{c:Nat}{p:List (List UInt8)×List Vl×List UInt8×Nat}(h:xm rd m (c+1) n l=some p):
  (m=true→(zT l false 1 255).2.2=false)∧∃r,rd n (if m then(zT l false 1 255).2.1 else l)=some r∧∃q,xm rd m c r.2.2 r.2.1=some q∧p=(if m then(zT l false 1 255).1::q.1 else q.1,r.1::q.2.1,q.2.2):=by
 have hb:m=true→(zT l false 1 255).2.2=false:=fun hm=>by
  subst hm
  cases hb:(zT l false 1 255).2.2
  ·rfl
  rw[XN hb]at h;cases h
 refine⟨hb,?_⟩
 cases hr:rd n (if m then(zT l false 1 255).2.1 else l)with
 | none=>rw[vI hr]at h;cases h
 | some r=>
  rw[vJ hb hr]at h;obtain⟨q,h1,h2⟩:=Option.map_eq_some_iff.1 h;exact⟨r,rfl,q,h1,h2.symm⟩
theorem QM{f:Nat}{bad:Bool}{q:Vl×List UInt8×Nat}(h:ja (f+1) n l bad=some q){l1:List UInt8}{b1:Bool}(hq:(k,l1,b1)=mnum l bad 1):bad=false∧b1=false:=by
 unfold ja at h
 cases bad
 ·rw[if_neg WJ,yz]at h;refine⟨rfl,?_⟩;split at h
  ·cases h
  rename_i BN
  rw[←hq]at BN
  cases b1
  ·rfl
  exact absurd (.inr rfl) BN
 rw[if_pos rfl]at h;cases h
theorem Kp(f:Nat)(bP:Jz f):Jz (f+1):=by
 exact Z2_
theorem X6:∀f,Jz f
 | 0=>Ko
 | f+1=>Kp f (X6 f)
def swN(b:Nat):Nat×Nat×Nat:=
 if b<128 then(1,128,191)else if 194≤b∧b≤223 then(2,128,191)
 else if 224≤b∧b≤239 then(3,if b=224 then 160 else 128,if b=237 then 159 else 191)
 else if 240≤b∧b≤244 then(4,if b=240 then 144 else 128,if b=244 then 143 else 191)else(0,128,191)
def okB(l:List UInt8)(lo hi k:Nat):Prop:=if k=1 then lo≤yh l k∧yh l k≤hi else 128≤yh l k∧yh l k≤191
theorem j6(l:List UInt8)(h:swN (yh l 0)=(n,lo,hi)):xD l=n∨(xD l=0∧((l.length<n)∨∃k,1≤k∧k<n∧¬okB l lo hi k)):=by
 exact Z12_
theorem XS(l:List UInt8)(h:swN (yh l 0)=(n,lo,hi))(hs:xD l=n)(hn:n≠0):∀k,1≤k→k<n→okB l lo hi k:=by
 have qq6m:=();exact Z12_
theorem sw_1(h:swN b=(n,lo,hi))(c:b<128):n=1∧lo=128∧hi=191:=by
 unfold swN at h;rw[if_pos c]at h;exact Z6i_
theorem sw_2(h:swN b=(n,lo,hi))(c:194≤b∧b≤223):n=2∧lo=128∧hi=191:=by
 unfold swN at h;rw[if_neg Wq,if_pos c]at h;exact Z6i_
theorem sw_3(h:swN b=(n,lo,hi))(c:224≤b∧b≤239):n=3∧lo=(if b=224 then 160 else 128)∧hi=(if b=237 then 159 else 191):=by
 unfold swN at h;rw[if_neg Wq,if_neg Wq,if_pos c]at h;exact Z6i_
theorem sw_4(h:swN b=(n,lo,hi))(c:240≤b∧b≤244):n=4∧lo=(if b=240 then 144 else 128)∧hi=(if b=244 then 143 else 191):=by
 unfold swN at h;rw[if_neg Wq,if_neg Wq,if_neg Wq,if_pos c]at h;exact Z6i_
theorem sw_0(h:swN b=(n,lo,hi))(c1:¬b<128)(c2:¬(194≤b∧b≤223))(c3:¬(224≤b∧b≤239))(c4:¬(240≤b∧b≤244)):n=0∧lo=128∧hi=191:=by
 unfold swN at h;rw[if_neg c1,if_neg c2,if_neg c3,if_neg c4]at h;exact Z6i_
theorem zdO(h:swN b=(n,lo,hi)):n≤4∧lo≤160∧hi≤191:=by
 unfold swN at h;repeat' split at h
 all_goals(injection h with h1 h;injection h with h2 h3;omega)
theorem Jw(s:List UInt8){i:Nat}(_hi:i<s.length):∀h:i<(str s).size,((str s)[i]'h).toNat=yh s i:=fun h=>by
 have h':i<s.length:=h;unfold yh;rw[List.getElem?_eq_getElem h'];rfl
theorem VX(s:List UInt8)(w:World)(hs:s.length≤140737488351232):
  Calls prog 166 #[.string (str s)] w fun e w'=>e= .returned (.bool (zJ s))∧w=w':=by
 have Bm:(str s).size=s.length:=rfl;go_enter func166,ntmps166;go_wp2_with(with_reducible refine h_A ?_);go_loopw [3] (fun s3 wr=>∃at_:Nat,at_≤s.length∧s3= .int .i64 at_∧w=wr∧Hid (zJ (s.drop at_)=zJ s)) (fun s3 _=>s.length-(q0 s3).toNat)
 case atStart=>exact⟨0,by omega,rfl,rfl,Q1 rfl⟩
 obtain⟨at_,hp,rfl,rfl,HC⟩:=hrel;by_cases hlt:at_<s.length
 ·have g1:(at_:Int)<(s.length:Int):=by omega
  have dX:=Jw s hlt;have dd:yh (s.drop at_) 0=yh s at_:=by rw[ke];rfl
  have SF:=qI s at_;obtain⟨b,hb⟩:∃b,yh s at_=b:=⟨_,rfl⟩
  rw[hb]at dX dd SF;clear hb;obtain⟨⟨n,lo,hi⟩,G8⟩:∃x,swN b=x:=⟨_,rfl⟩
  have Gz:=Q1 G8;have FG:=Q1 (show swN (yh (s.drop at_) 0)=(n,lo,hi) by rw[dd];exact G8);clear dd G8;go_upto_block 2 with fail;go_cut [5,6,7]from 10 to 81 (fun s5 s6 s7 wx=>s5= .int .i64 n∧s6= .int .i64 lo∧s7= .int .i64 hi∧w=wx)
  case first=>
   as_aux_lemma=>
   by_cases c1:b<128
   ·(have a1:(b:Int)<128:=by omega);obtain⟨rfl,rfl,rfl⟩:=sw_1 Gz.out c1;exact Z6k_
   (have a1:¬(b:Int)<128:=by omega);by_cases c2:194≤b∧b≤223
   ·(have a2:(194:Int)≤(b:Int):=by omega);(have a3:(b:Int)≤223:=by omega);obtain⟨rfl,rfl,rfl⟩:=sw_2 Gz.out c2;exact Z6k_
   by_cases c3:224≤b∧b≤239
   ·have qq9i:=();exact Z1x_
   by_cases c4:240≤b∧b≤244
   ·exact Z1x_
   obtain⟨rfl,rfl,rfl⟩:=sw_0 Gz.out c1 c2 c3 c4;by_cases f1:b<194
   ·(have a2:¬(194:Int)≤(b:Int):=by omega);(have a4:¬(224:Int)≤(b:Int):=by omega);(have a6:¬(240:Int)≤(b:Int):=by omega);exact Z6k_
   (have a2:(194:Int)≤(b:Int):=by omega);(have a3:¬(b:Int)≤223:=by omega);(have a4:(224:Int)≤(b:Int):=by omega);(have a5:¬(b:Int)≤239:=by omega);(have a6:(240:Int)≤(b:Int):=by omega);(have a7:¬(b:Int)≤244:=by omega);exact Z6k_
  as_aux_lemma=>
  obtain⟨rfl,rfl,rfl,rfl⟩:=hcut;have uv:s.drop at_≠ []:=by intro e;have:=congrArg List.length e;rw[j8]at this;simp at this;omega
  have hgj:=zdO Gz.out;have HL:Hid ((s.drop at_).length=s.length-at_):=Q1 (j8 ..);have ei:xD (s.drop at_)=0→zJ s=false:=fun h=>by rw[←HC.out,Ym uv h]
  by_cases rW:n=0
  ·have HF:Hid (zJ s=false):=Q1 (ei (by
    rcases j6 _ FG.out with h|h
    ·omega
    ·exact h.1))
   subst rW;exact Z6f_
  have a1:((n:Int)==0)=false:=by simp;omega
  by_cases gF:at_+n≤s.length
  ·(have a2:¬(s.length:Int)<(at_:Int)+(n:Int):=by omega);have fQ:=Q1 uv;have mL:=Q1 ei;clear uv ei;go_wp2_with(with_reducible refine h_A ?_);go_loopw [6,7,8] (fun s6 s7 s8 wr=>∃k L H:Nat,1≤k∧k≤n∧s6= .int .i64 L∧s7= .int .i64 H∧s8= .int .i64 k∧w=wr∧Hid (k<n→(okB (s.drop at_) lo hi k↔L≤yh s (at_+k)∧yh s (at_+k)≤H))∧Hid (∀j,1≤j→j<k→okB (s.drop at_) lo hi j)) (fun _ _ s8 _=>n-(q0 s8).toNat)
   case atStart=>exact⟨1,lo,hi,by omega,by omega,rfl,rfl,rfl,rfl,Q1 (fun _=>by unfold okB;rw[if_pos rfl,ke]),Q1 (fun j h1 h2=>by omega)⟩
   as_aux_lemma=>
   obtain⟨k,L,H,dw,Bk,rfl,rfl,rfl,rfl,HO,HA⟩:=hrel;by_cases gf:k<n
   ·(have g2:(k:Int)<(n:Int):=by omega);(have iN:at_+k<s.length:=by omega);have PN:=Jw s iN;have Nk:=qI s (at_+k);have NF:=Q1 (HO.out gf);(obtain⟨d,hd⟩:∃d,yh s (at_+k)=d:=⟨_,rfl⟩);rw[hd]at PN Nk NF;clear hd;(have e0:((at_:Int)+(k:Int)).toNat=at_+k:=by omega);(have h0:0≤(at_:Int)+(k:Int)∧(at_:Int)+(k:Int)<(s.length:Int):=by omega);by_cases q1:d<L
    ·have a3:(d:Int)<(L:Int):=by omega
     have HF:Hid (zJ s=false):=Q1 (mL.out (by
      rcases j6 _ FG.out with h|h
      ·have:=(NF.out.1 (XS _ FG.out h rW k dw gf)).1;omega
      ·exact h.1))
     exact Z6f_
    (have a3:¬(d:Int)<(L:Int):=by omega);by_cases q2:H<d
    ·have a4:(H:Int)<(d:Int):=by omega
     have HF:Hid (zJ s=false):=Q1 (mL.out (by
      rcases j6 _ FG.out with h|h
      ·have:=(NF.out.1 (XS _ FG.out h rW k dw gf)).2;omega
      ·exact h.1))
     exact Z6f_
    (have a4:¬(H:Int)<(d:Int):=by omega);have bJ:=NF.out.2 ⟨by omega,by omega⟩
    have My:Hid (∀j,1≤j→j<k+1→okB (s.drop at_) lo hi j):=Q1 (fun j h1 h2=>by
     by_cases e:j<k
     ·exact HA.out j h1 e
     ·obtain rfl:j=k:=by omega
      exact bJ)
    clear bJ;go_wp2_with(with_reducible refine h_A ?_);exact⟨⟨k+1,128,191,by omega,by omega,by first|rfl|trivial,by first|rfl|trivial,by go_num,by first|rfl|trivial,Q1 (fun _=>by unfold okB;rw[if_neg Wq,ke]),My⟩,by simp[q0];omega⟩
   have g2:¬(k:Int)<(n:Int):=by omega
   have bR:xD (s.drop at_)=n:=by
    rcases j6 _ FG.out with h|⟨_,h|⟨j,h1,h2,h3⟩⟩
    ·exact h
    ·rw[HL.out]at h;omega
    exact absurd (HA.out j h1 Wq) h3
   have cM:Hid (zJ (s.drop (at_+n))=zJ s):=Q1 (by rw[←HC.out,vF fQ.out Wq,List.drop_drop,bR]);clear bR;go_wp2_with(with_reducible refine h_A ?_);exact⟨⟨at_+n,by omega,by go_num,by first|rfl|trivial,cM⟩,by simp[q0];omega⟩
  have a2:(s.length:Int)<(at_:Int)+(n:Int):=by omega
  have HF:Hid (zJ s=false):=Q1 (ei (by
   rcases j6 _ FG.out with h|h
   ·have:=ZK uv;rw[HL.out]at this;omega
   ·exact h.1))
  clear uv ei;exact Z6f_
 have g1:¬(at_:Int)<(s.length:Int):=by omega
 have HF:Hid (zJ s=true):=Q1 (by rw[←HC.out,v0 Wq];rfl);exact Z6f_
theorem VW(A:Option Addr)(n c:Nat)(K:List (List UInt8))(w:World)(hr:Rd w w.heap.size 1 A n c (K.map txV))(hn:n≤140737488351232)(bK:∀k∈K,k.length≤140737488351232):
  Calls prog 167 #[.slice A n c] w fun e w'=>e= .returned (.bool (xC K zJ))∧Below w.heap.size w w':=by
 have hl:K.length=n:=by have:=hr.len;simpa using this
 have HL:=Q1 hl;have nS:=Q1 bK;clear hl bK;go_enter func167,ntmps167;go_wp2_with(with_reducible refine h_A ?_);go_loopw [3] (fun s wr=>∃(i:Nat),i≤n∧s= .int .i64 i∧Below w.heap.size w wr∧Hid ((∀k∈K.take i,jf k=true)∧(K.take i).Nodup)) (fun s _=>n-(q0 s).toNat)
 case atStart=>exact⟨0,by omega,rfl,kv _ _,Q1 ⟨by simp,by simp⟩⟩
 obtain⟨i,hi,rfl,hB,HI⟩:=hrel;by_cases hlt:i<n
 ·have g1:(i:Int)<(n:Int):=by omega
  have BE:i<K.length:=by rw[HL.out];exact hlt
  obtain⟨b,off,rfl,hC⟩:=jH hr hlt BE;have y0:=hC wr hB;have Cs:=nS.out _ (List.getElem_mem BE);have mL:Hid (jf K[i]=false→xC K zJ=false):=Q1 (Ja BE);have RE:Hid (K[i]∈K.take i→xC K zJ=false):=Q1 (Yk BE);have SV:Hid (K[i]∉K.take i→(K.take (i+1)).Nodup):=Q1 (Yl BE HI.out.2);have CX:Hid (K.take (i+1)=K.take i++ [K[i]]):=Q1 (List.take_succ_eq_append_getElem BE);generalize T6:K[i]=a at*;have fk:=Q1 T6;clear T6;have has:=zh a;have ek:=VX a wr Cs;have tG:Hid (jf a=(decide (1≤a.length)&&decide (a.length≤255)&&zJ a)):=Q1 rfl;by_cases Eh:a.length=0
  ·exact Z3f_
  have g3:¬(a.length:Int)<1:=by omega
  by_cases dD:255<a.length
  ·have qqe3:=();exact Z3e_
  have g2:¬(255:Int)<(a.length:Int):=by omega
  have mO:Hid (jf a=zJ a):=Q1 (by rw[tG.out,decide_eq_true (by omega:1≤a.length),decide_eq_true (by omega:a.length≤255)];rfl);clear Eh dD
  cases hu:zJ a
  ·have qqdw:=();exact Z3b_
  rw[hu]at ek;have Rs:Hid (jf a=true):=Q1 (by rw[mO.out,hu]);clear hu;go_wp2_with(with_reducible refine h_A ?_);refine ek.mono ?_;rintro e w2 ⟨rfl,rfl⟩;clear ek y0 g2 g3;go_wp2_with(with_reducible refine h_A ?_);go_loopw [4] (fun s4 wx=>∃(k:Nat),k≤i∧s4= .int .i64 k∧Below w.heap.size w wx∧Hid (∀j (h:j<k) (h':j<K.length),K[j]≠a)) (fun s4 _=>i-(q0 s4).toNat)
  case atStart=>exact⟨0,by omega,rfl,hB,Q1 (fun j h _=>absurd h (Nat.not_lt_zero j))⟩
  clear hB;obtain⟨k,hk,rfl,hB,HJ⟩:=hrel;by_cases Ur:k<i
  ·(have g4:(k:Int)<(i:Int):=by omega);(have g5:(k:Int)<(n:Int):=by omega);(have bK:k<K.length:=by omega);have y0:=hC wr hB;obtain⟨b',off',ef,wF⟩:=jH hr (show k<n by omega) bK;(injection ef with ef);(injection ef with e1 e2 _);subst e1 e2;have y1:=wF wr hB;have HKK:Hid (K[k]∈K.take i):=Q1 (by rw[zB];exact⟨k,by omega,rfl⟩)
   have TP:Hid (K[k]≠a→∀j (h:j<k+1) (h':j<K.length),K[j]≠a):=Q1 (fun hne j h h'=>by
    by_cases e:j=k
    ·subst e;exact hne
    ·exact HJ.out j Wq h')
   clear wF;generalize K[k]=d at*;have UC:=jZ d a;by_cases GV:d=a
   ·have HF:Hid (xC K zJ=false):=Q1 (RE.out (GV▸HKK.out));rw[decide_eq_true GV]at UC;clear GV;go_wp2_with(with_reducible refine h_A ?_);go_quiet(fail);go_wp2_with(with_reducible refine h_A ?_);go_ret;rw[HF.out];exact⟨rfl,za hB _⟩
   have HJ3:=Q1 (TP.out GV);rw[decide_eq_false GV]at UC;clear GV TP;go_wp2_with(with_reducible refine h_A ?_);go_quiet(fail);go_wp2_with(with_reducible refine h_A ?_);exact⟨⟨k+1,by omega,by go_num,za hB _,HJ3⟩,by simp[q0];omega⟩
  have g4:¬(k:Int)<(i:Int):=by omega
  have Rw:Hid ((∀k∈K.take (i+1),jf k=true)∧(K.take (i+1)).Nodup):=Q1 (by
   refine⟨fun k hk=>?_,SV.out fun hm=>?_⟩
   ·rw[CX.out]at hk;rcases List.mem_append.1 hk with hk|hk
    ·exact HI.out.1 k hk
    ·rw[List.mem_singleton.1 hk];exact Rs.out
   ·rw[zB]at hm;obtain⟨j,hj,e⟩:=hm
    exact HJ.out j Wq Wq e)
  go_wp2_with(with_reducible refine h_A ?_);exact⟨⟨i+1,by omega,by go_num,hB,Rw⟩,by simp[q0];omega⟩
 have HF:Hid (xC K zJ=true):=Q1 (by
  have h:=HI.out;rw[List.take_of_length_le (by rw[HL.out];omega)]at h
  exact Xx h.1 h.2)
 exact Z5c_
theorem zbz(v:Vl):∀(h:VH) (w:World),RVw w v h→Calls prog 145 #[.agg (vlV v h)] w (MayR w v):=by
 exact Z4_
theorem ZW(v:Vl)(h:VH)(w:World)(hv:RVw w v h):Calls prog 117 #[.agg (vlV v h)] w fun e w'=>e= .returned (.int .i64 (errV v))∧Below w.heap.size w w':=by
 have qq4i:=();exact Zr_
def zdw(w:World)(l:List UInt8)(e:Ending)(w':World):Prop:=∃(x:Vl) (h:VH) (k:Nat) (er:Int),e= .returned (.tuple #[.agg (vlV x h),.int .i64 (k:Int),.int .i64 er])∧RV w' (FN w.heap.size w') x h∧Below w.heap.size w w'∧k≤l.length∧
 ∀(y:Vl) (rest:List UInt8),l=vlB y++rest→VB y→errV y=0→x=y∧k=(vlB y).length
theorem zb1(a b:List UInt8):((str a).toList==(str b).toList)=decide (a=b):=by
 rw[zn,zn];by_cases h:a=b<;>simp[h]
theorem zar{y:Vl}{rest:List UInt8}(hv:VB y)(he:errV y=0):∃m,yz 6 200 (vlB y++rest)=some (y,rest,m):=by
 obtain⟨hc,hm⟩:=j0 he
 have hd:xJ 6 y=false:=by
  unfold errV at he;split at he
  ·omega
  rename_i h;simpa using h
 exact⟨_,Jo y 6 200 rest hv hm hd (Q2 _) hc⟩
theorem zas(A:Option Addr)(n c:Nat)(l:List UInt8)(w:World)(hb:RdB w w.heap.size A n c l)(hn:n≤100000000):
  Calls prog 141 #[.slice A n c] w (zdw w l):=by
 obtain⟨zb,w1,eT,fO,hZ,Ha⟩:=zg w #[.int .u8 0,.int .u64 0,.string ⟨#[]⟩,.slice none 0 0,.slice none 0 0] 78;have BD:l.length=n:=RdB.length hb;have cS:=yZ A n c l w1 (yU (hb.below Ha) Ha.size) Wq;have tg:w.heap.size≤zb:=by omega
 go_enter func141,ntmps141;go_upto_region 1 with fail;rw[←eT,←fO];clear eT fO;go_wp2_with(with_reducible refine h_A ?_);refine cS.mono ?_;rintro e w2 ⟨ob,rfl,rA,hR,Hc⟩;have fq:=hZ.below Hc;have BT:=Ha.trans (Hc.mono Ha.size);have B4:=X6 6 1 200 _ w1.heap.size ob l false w2 Wq hR (fun g hg=>hg) Wq;have BW:=Ha.size;have tD:=hZ.lt;clear cS hZ Hc;rw[show((1:Nat):Int)=1 from rfl,show((200:Nat):Int)=200 from rfl]at B4;go_wp2_with(with_reducible refine h_A ?_);refine B4.mono ?_;rintro e w3 ⟨x,h,m,ok,l2,sT,rfl,hV,fx,BO,gG,dU,m7,hx⟩;have gI:=BO.box fq Wq Wq;have Bo:=BT.trans (BO.1.mono BW);have cj:=BT.size;unfold vlV;obtain⟨vb,w4,iu,CV,hX,Hn⟩:=zg w3 #[.int .u8 (x.kind:Int),.int .u64 (x.n:Int),.string (str x.s),.slice h.A1 x.keys.length h.c1,.slice h.A2 x.list.length h.c2] 78;go_upto_region 2 with fail;rw[←iu,←CV];have ir:=gI.below Hn;have BG:=Bo.trans (Hn.mono Bo.size);have ot:=Hn.size;have wl:RV w4 (FN w2.heap.size w4) x h:=(hV.keep (fun g hg=>Hn.block g hg.2) ot).mono (fun g hg=>⟨hg.1,q7 hg.2 ot⟩);have IY:=gI.lt;have hvz:zb≠vb:=by omega
 have et:=fq.lt
 have HX:Hid (∀(y:Vl) (rest:List UInt8),l=vlB y++rest→VB y→errV y=0→x=y∧ok=true):=Q1 (fun y rest e hv he=>by
  obtain⟨m',hr⟩:=zar (rest:=rest) hv he;have:=hx (y,rest,m') (by rw[e];exact hr)
  exact⟨this.1,this.2.2.2.1⟩)
 clear B4 iu CV fq gI Bo Hn hV hx fx BO hR
 cases ok
 case false=>
  have cN:Hid (∀(y:Vl) (rest:List UInt8),l=vlB y++rest→VB y→errV y=0→False):=Q1 (fun y rest e hv he=>by
   have:=(HX.out y rest e hv he).2
   cases this)
  go_wp2_with(with_reducible refine h_B ?_);refine zc (zm (v:=.agg #[.int .u8 0,.int .u64 0,.string ⟨#[]⟩,.slice none 0 0,.slice none 0 0]) (vs:=[.int .u8 0,.int .u64 0,.string ⟨#[]⟩,.slice none 0 0,.slice none 0 0]) rfl rfl rfl rfl ir rfl Wj Wz uZ #[.int .u8 0,.int .u64 0,.string ⟨#[]⟩,.slice none 0 0,.slice none 0 0] Wz ?_);intro oG de BY _;have H3:=(BG).grown BY (BG).size Wx;exact Z4o_
 have Ba:=ZW x h w4 (wl.mono (fun g hg=>hg.2));unfold vlV at Ba;have z0:=hX.c0;have z1:=hX.c1;have z2:=hX.c2;have z3:=hX.c3;have z4:=hX.c4;by_cases he:errV x=0
 ·obtain⟨hc,hm⟩:=j0 he;have bQ:=ZH 200 hm hc;have bD:=jF x 200;have dX:=fun W (hW:Below w4.heap.size w4 W)=>XR x h W ((wl.mono (fun g hg=>hg.2)).up hW) hm Wq
  rw[he]at Ba;unfold J6 vlV at dX;obtain⟨L,hL⟩:∃q,q=vlB x:=⟨_,rfl⟩
  have hLl:L.length≤100000000:=by rw[hL];omega
  rw[←hL]at dX;have HL:=Q1 hL;have md:=Q1 dX;clear hL dX he hc hm bQ bD;go_wp2_with(with_reducible refine h_A ?_);refine Ba.mono ?_;rintro e w5 ⟨rfl,bz⟩;have dX:=md.out w5 bz;have BZ:=hX.below bz;have ff:=ir.below bz;have H6:=BG.trans (bz.mono BG.size);have Dt:RV w5 (FN w2.heap.size w5) x h:=(wl.keep (fun g hg=>bz.block g hg.2) bz.size).mono (fun g hg=>⟨hg.1,q7 hg.2 bz.size⟩);clear Ba z0 z1 z2 z3 z4 hX ir BG wl md;have z0:=BZ.c0;have z1:=BZ.c1;have z2:=BZ.c2;have z3:=BZ.c3;have z4:=BZ.c4;go_wp2_with(with_reducible refine h_A ?_);refine dX.mono ?_;rintro e w6 ⟨A2,c2,rfl,ho,bH⟩;have bA:=BZ.below bH;have IQ:=ff.below bH;have dC:=H6.trans (bH.mono H6.size);have di:RV w6 (FN w2.heap.size w6) x h:=(Dt.keep (fun g hg=>bH.block g hg.2) bH.size).mono (fun g hg=>⟨hg.1,q7 hg.2 bH.size⟩);have mo:RdB w6 w6.heap.size A2 L.length c2 L:=ho.rd;have cJ:RdB w6 w6.heap.size A n c l:=yU (hb.below dC) dC.size;clear dX z0 z1 z2 z3 z4 BZ ff H6 Dt ho;go_upto_region 5 with fail
  have Ph:Hid (∀(y:Vl) (rest:List UInt8),l=vlB y++rest→VB y→errV y=0→x=y∧l=L++rest):=Q1 (fun y rest e hv hy=>by
   have:=(HX.out y rest e hv hy).1;subst this
   exact⟨rfl,by rw[HL.out];exact e⟩)
  have aG:L.length=L.length:=rfl;refine zt (fun W:World=>RdB W W.heap.size A2 L.length c2 L∧RdB W W.heap.size A n c l) Wj ?_;have hS:RdB w6.drew w6.drew.heap.size A2 L.length c2 L∧RdB w6.drew w6.drew.heap.size A n c l:=⟨mo.drew,cJ.drew⟩;replace bA:Box w6.drew vb 78 #[.int .u8 (x.kind:Int),.int .u64 (x.n:Int),.string (str x.s),.slice h.A1 x.keys.length h.c1,.slice h.A2 x.list.length h.c2]:=bA;replace IQ:Box w6.drew zb 78 #[.int .u8 0,.int .u64 0,.string ⟨#[]⟩,.slice none 0 0,.slice none 0 0]:=IQ;replace dC:=za dC 1;have dC:Below w.heap.size w w6.drew:=dC;have di:RV w6.drew (FN w2.heap.size w6.drew) x h:=di.keep (fun g hg=>rfl) (Q2 _);clear mo cJ bz bH;generalize w6.drew=wd at*;by_cases f8:n<L.length
  ·exact Zy_
  have g1:¬(n:Int)<(L.length:Int):=by omega
  have fp:=(show RdB wd wd.heap.size A n c l from hS.2).cap;have gS:=(show RdB wd wd.heap.size A n c l from hS.2).max
  have hcut:∀W,RdB W W.heap.size A2 L.length c2 L∧RdB W W.heap.size A n c l→RdB W W.heap.size (cutA A 1 0 c) L.length c (l.take L.length):=fun W h=>by
   have h1:=kU h.2 0 L.length c Wq Wq (Q2 _) Wq;(have e1:((l.map u8v).take (L.length*1)).drop (0*1)=(l.take L.length).map u8v:=by simp[List.map_take]);rw[e1]at h1;exact h1
  have hcA:cutA A 1 0 c=cutA A 1 0 c:=rfl;refine rg_t 0 hS ?_;simp only[v1,v2,Act.put,v3,v4,v5];refine rg_t 1 hS ?_;simp only[g_S];refine rg_t 2 hS ?_;simp only[g_S];refine rg_t 3 hS ?_;simp only[g_S];refine rg_t 4 hS ?_;simp only[g_S];refine rg_t 5 hS ?_;simp only[g_S];refine rg_t 6 hS ?_;simp only[g_S];refine ze 7 (v:=?_) rfl Wj Wj Wj hS rfl ?_ ?_;rotate_left
  ·intro wS He;have dF:=jh (w:=wS) He.1;go_simp;(with_reducible rfl)
  simp only[g_S];refine rg_t 8 hS ?_;simp only[g_S];refine rg_t 9 hS ?_;simp only[g_S];refine rg_t 10 hS ?_;simp only[g_S];refine qH 11 slB rfl Wj Wj Wj hS rfl rfl rfl gS fp 0 L.length c (.inl ⟨rfl,rfl⟩) (.inr ⟨_,_,rfl,rfl⟩) (.inl ⟨rfl,rfl⟩) mq Wq Wq (Q2 _) Wq ?_;try simp only[g_S]
  refine ze 12 (v:=?_) rfl Wj Wj Wj hS rfl ?_ ?_;rotate_left
  ·intro wS He;have dF:=jh (w:=wS) (hcut wS He);go_simp;(with_reducible rfl)
  simp only[g_S];have Ft:Hid (((str L).toList==(str (l.take L.length)).toList)=decide (L=l.take L.length)):=Q1 (zb1 _ _);have Hr:=dC;by_cases mG:L=l.take L.length
  ·(have hq:((str L).toList==(str (l.take L.length)).toList)=true:=by rw[Ft.out,decide_eq_true mG]);have CX:=Q1 mG;clear mG hcut;refine rg_t 13 hS ?_;simp only[g_S];refine rg_t 14 hS ?_;simp only[g_S];refine zD Wj ?_;clear hq Ft;have y0:=bA.c0;have y1:=bA.c1;have y2:=bA.c2;have y3:=bA.c3;have y4:=bA.c4;go_wp2_with(with_reducible refine h_B ?_);refine zc (zm (v:=.agg #[.int .u8 (x.kind:Int),.int .u64 (x.n:Int),.string (str x.s),.slice h.A1 x.keys.length h.c1,.slice h.A2 x.list.length h.c2]) (vs:=[.int .u8 (x.kind:Int),.int .u64 (x.n:Int),.string (str x.s),.slice h.A1 x.keys.length h.c1,.slice h.A2 x.list.length h.c2]) rfl rfl rfl rfl IQ rfl Wj Wz (zau x h) #[.int .u8 (x.kind:Int),.int .u64 (x.n:Int),.string (str x.s),.slice h.A1 x.keys.length h.c1,.slice h.A2 x.list.length h.c2] Wz ?_);intro oG de BY _;have H3:=dC.grown BY dC.size Wx;have RG:RV oG (FN w.heap.size oG) x h:=(di.keep (fun g hg=>BY.block g hg.2 Hz) BY.size).mono (fun g hg=>⟨by have:=hg.1;omega,q7 hg.2 BY.size⟩);go_wp2_with(with_reducible refine h_A ?_);refine zv rfl de rfl rfl rfl underlying78 rfl Wj rfl ?_
   exact⟨x,h,L.length,0,rfl,RG,H3,by omega,fun y rest e hv hy=>by
    have:=(Ph.out y rest e hv hy).1
    exact⟨this,by rw[HL.out,this]⟩⟩
  have qq5y:=();exact Zy_
 have hne:(errV x !=0)=true:=by simpa using he
 have cN:Hid (∀(y:Vl) (rest:List UInt8),l=vlB y++rest→VB y→errV y=0→False):=Q1 (fun y rest e hv hy=>by
  have:=(HX.out y rest e hv hy).1;rw[this]at he
  exact he hy)
 generalize errV x=E at*;clear he;go_wp2_with(with_reducible refine h_A ?_);refine Ba.mono ?_;rintro e w5 ⟨rfl,bz⟩;have ff:=ir.below bz;have H6:=BG.trans (bz.mono BG.size);clear Ba z0 z1 z2 z3 z4;go_wp2_with(with_reducible refine h_B ?_);refine zc (zm (v:=.agg #[.int .u8 0,.int .u64 0,.string ⟨#[]⟩,.slice none 0 0,.slice none 0 0]) (vs:=[.int .u8 0,.int .u64 0,.string ⟨#[]⟩,.slice none 0 0,.slice none 0 0]) rfl rfl rfl rfl ff rfl Wj Wz uZ #[.int .u8 0,.int .u64 0,.string ⟨#[]⟩,.slice none 0 0,.slice none 0 0] Wz ?_);intro oG de BY _;have H3:=(H6).grown BY (H6).size Wx;exact Z4o_
theorem QF(v:Vl)(h:VH)(w:World)(hv:RVw w v h):Calls prog 98 #[.agg (vlV v h)] w fun e w'=>∃A2 c2,e= .returned (.tuple #[.slice A2 (vlP v).length c2,.int .i64 (errV v)])∧Own w' w.heap.size 5 1 A2 (vlP v).length c2 ((vlP v).map u8v)∧Below w.heap.size w w':=by
 have qq7k:=();exact Z1b_
end Go.PH
