/- Parts. -/
import Derived.Test.YtfbkameikhgciaaGreatDoorProg
import Derived.Test.YtfbkameikhgciaaGreatDoorMg07
set_option linter.all false
set_option maxRecDepth 20000
set_option maxHeartbeats 8000000
open Go.Lib renaming hid → Q1
open List renaming append_assoc → Q2, length_eq_zero_iff → K0, length_append → q0, mem_cons_self → q7, mem_cons_of_mem → q9, all_eq_true → kI, nil_append → k3, length_cons → k5, mem_of_mem_tail → k6, cons_append → k7, append_inj → k8, headD_cons → k9, length_take → vv, drop_eq_nil_of_le → vz, length_map → v0, length_drop → v1
open Nat renaming le_refl → Vx, le_trans → q8, mod_eq_of_lt → kv, lt_of_lt_of_le → kx
open Go.RowKit renaming intOf → ky
open UInt8 renaming ofNat → Vy, toNat_ofNat' → k4
namespace Go.PH
open Go.RowKit Go.Proofs Go.Proofs.Tryz
variable {l : List UInt8} {b hi k lo n : Nat}
theorem qT{sl KL LL:Nat}{ko pl al:Bool}(h:mayF k n sl KL LL ko pl al=true):
  (k=8∨k=2∨k=49∨k=50∨k=240∨k=160∨k=149∨k=168∨k=169)∧sl≤4096∧(k=168→KL=LL∧ko=true)∧al=true:=by
 unfold mayF at h;simp only[Bool.and_eq_true,Bool.or_eq_true,decide_eq_true_eq]at h;obtain⟨⟨⟨⟨⟨h1,h2⟩,h3⟩,h4⟩,h5⟩,h6⟩:=h;refine⟨?_,h4,fun hk=>?_,h6⟩
 ·repeat' split at h5
  all_goals first|omega|(exact absurd h5 Wz)
 subst hk;simp at h5;exact⟨h5.1.1,h5.1.2⟩
theorem KB.on{w w3 w4:World}{row:Option Nat}(h:KB w w3 row)(hB:Below w3.heap.size w3 w4):KB w w4 row:=⟨q8 h.1 hB.size,fun g hg hne=>(hB.block g (kx hg h.1)).trans (h.2 g hg hne)⟩
def VPut(w:World)(base:Nat)(row:Option Nat)(R:List UInt8)(e:Ending)(w':World):Prop:=∃A2 c2,e= .returned (.slice A2 R.length c2)∧OwnB w' base A2 R.length c2 R∧KB w w' row∧Below base w w'
def zaY(v:Vl):Prop:=∀(h:VH) (base:Nat) (A:Option Addr) (n c:Nat) (l:List UInt8) (w:World),RV w (fun g=>g<base) v h→OwnB w base A n c l→base≤w.heap.size→mayV zJ v=true→n+(vlB v).length≤100000000→
  Calls prog 124 #[.slice A n c,.agg (vlV v h)] w (VPut w base (blk A) (l++vlB v))
theorem K4(v:Vl)(ih:∀x∈v.list,zaY x):zaY v:=by
 intro h base A n c l w hv Hl Hf gv hN;unfold vlV VPut;obtain⟨xb,w1,Hg,Hi,hX,Ha⟩:=zg w #[.int .u8 (v.kind:Int),.int .u64 (v.n:Int),.string (str v.s),.slice h.A1 v.keys.length h.c1,.slice h.A2 v.list.length h.c2] 78;rw[Yh]at hN ⊢;rw[kK]at gv;obtain⟨fF,oK,fI,BL⟩:=qT gv;obtain⟨lX,gO,_,mu,IA,v9⟩:=hv.bounds;have cW:l.length=n:=RdB.length Hl.rd;have rL:∀g,blk A=some g→base≤g∧g<w.heap.size:=fun g hg=>Hl.blk_lt hg
 have BM:=zh Hl Ha;have ML:base≤xb:=by omega
 have DP:some xb≠blk A:=by intro e;have:=(rL _ e.symm).2;omega
 have I6:Value.int .u8 (v.kind:Int)=u8v (Vy v.kind):=by rw[kT,k4];congr;omega
 have Hc:=(Below.refl w1.heap.size w1).alloc (Vx _) (.cells #[.int .u8 (v.kind:Int)] 5);have nm:=QP (size:=1) w1 #[.int .u8 (v.kind:Int)] 5 (0,0) 1 1 rfl Wq WX;have Bj:=zh BM Hc;have Hk:=hX.below Hc;have c0:=hX.c0;have c1:=hX.c1;have c2:=hX.c2;have c3:=hX.c3;have c4:=hX.c4;have BZ:=Ha.size;have cm:=Hc.size;obtain⟨INN,ri⟩:∃I,I=innB v:=⟨_,rfl⟩
 rw[←ri]at hN ⊢;obtain⟨R,hR⟩:∃R,R=l++Vy v.kind::yu v.kind v.n v.s INN:=⟨_,rfl⟩
 rw[←hR]
 have eJ:n+1≤100000000:=by
  have:=hN;rw[k5]at this;omega
 have lu:R.length≤100000000:=by rw[hR,q0,cW];exact hN
 have tW:=Q1 ri;have HR:=Q1 hR;have HX:=Q1 (And.intro fF (And.intro oK (And.intro fI (And.intro BL (And.intro I6 gv)))));clear ri hR hN fF oK fI BL I6 Hl BM gv;go_enter func124,ntmps124;go_upto_region 1 with fail;rw[←Hg,←Hi];clear Hg Hi;go_wp2_with(with_reducible refine h_A ?_);refine zc (yc slB rfl rfl rfl rfl Bj nm nQ Wq Hj Wq ?_);intro A3 q3 w3 Bv H6 _;have bS:=Hk.grown H6 DP;have i6:Below base w w3:=((Ha.mono Hf).trans (Hc.mono Wq)).grown H6 Wq (fun g hg=>(rL g hg).1);have BQ:KB w w3 (blk A):=⟨i6.size,fun g hg hne=>(H6.block g Wq (fun e=>hne e.symm)).trans ((Hc.block g Wq).trans (Ha.block g hg))⟩;have d9:base≤w3.heap.size:=q8 Hf i6.size;rw[show l.map u8v++ #[Value.int .u8 (v.kind:Int)].toList=(l++ [Vy v.kind]).map u8v by simp[HX.out.2.2.2.2.1]]at Bv;obtain⟨l1,gf⟩:∃l1,l1=l++ [Vy v.kind]:=⟨_,rfl⟩
 rw[←gf]at Bv;have eU:Hid (R=l1++yu v.kind v.n v.s INN):=Q1 (by rw[HR.out,gf];simp);have u5:l1.length=n+1:=by rw[gf];simp[cW]
 generalize n+1=n1 at*;have Gd:=hv.under i6 Hf;clear hX Hk Ha Hc nm Bj H6 gf HR c0 c1 c2 c3 c4 BZ cm hv cW;have Au:=bS;have fF:=HX.out.1;have oK:=HX.out.2.1;have fI:=HX.out.2.2.1;have BL:=HX.out.2.2.2.1;clear HX;have Nw:=Q1 fI;have wU:=Q1 BL;clear fI BL;obtain⟨K1,j1,K2,j2⟩:=h;generalize ee:v.kind=kd at*;have t3:=Q1 ee;clear ee;rcases fF with hk|hk|hk|hk|hk|hk|hk|hk|hk
 ·have qqb8:=();exact Z2c_
 ·have qqb9:=();exact Z2c_
 ·have qqba:=();exact Z2c_
 ·have qqbb:=();exact Z2c_
 ·subst hk;generalize dr:(((240:Nat):Int))=k at*;obtain rfl:k=240:=by rw[←dr];rfl
  clear dr;have c0:=bS.c0;have c1:=bS.c1;have c2:=bS.c2;have c3:=bS.c3;have c4:=bS.c4;obtain rfl:R=l1:=by rw[eU.out];simp[yu]
  subst u5;go_wp2_with(with_reducible refine h_A ?_);go_ret;exact⟨A3,q3,rfl,Bv,BQ,i6⟩
 ·exact Z2c_
 ·have qqb7:=();exact Z2c_
 ·exact Zh_
 have qq38:=();exact Zh_
theorem zaZ(v:Vl):zaY v:=Vl.ind (P:=zaY) K4 v
theorem zaX{p:List UInt8→Bool}(m:Bool)(l:List Vl)(hx:∀x∈l,∀q:Int,mayV p x=true→0≤cntV x q→((vlB x).length:Int)+256≤5000*(q-cntV x q)):
  ∀(ks:List (List UInt8)) (q:Int),(m=true→∀k∈ks,k.length≤255)→l.all (mayV p)=true→0≤cntL l q→((yy m ks l).length:Int)≤5000*(q-cntL l q):=by
 induction l with
 | nil=>intro ks q _ _ _;rw[xX,cntL];simp
 | cons x l ih=>
  intro ks q hk ha hq;rw[qk];rw[List.all_cons,Bool.and_eq_true]at ha;by_cases h0:q<0
  ·rw[YL _ h0]at hq;omega
  rw[YM _ _ h0]at hq ⊢;have h1:=vB l (cntV x q);have h2:=hx x (q7 ..) q ha.1 Wq;have h3:=ih (fun y hy=>hx y (q9 _ hy)) ks.tail (cntV x q) (fun e k hm=>hk e k (k6 hm)) ha.2 hq
  have h4:((if m=true then be 1 (ks.headD []).length++ks.headD []else []):List UInt8).length≤256:=by
   split
   ·rename_i hm
    have:(ks.headD []).length≤255:=by
     cases ks with
     | nil=>simp
     | cons k ks=>exact hk hm k (q7 ..)
    rw[q0,zr];omega
   simp
  rw[q0,q0];omega
theorem ZF{v:Vl}:∀q:Int,mayV zJ v=true→0≤cntV v q→((vlB v).length:Int)+256≤5000*(q-cntV v q):=by
 refine Vl.ind (P:=fun v=>∀q:Int,mayV zJ v=true→0≤cntV v q→((vlB v).length:Int)+256≤5000*(q-cntV v q)) ?_ v;intro v ih q hm hq;rw[kK]at hm;obtain⟨hk,hs,hK,ha⟩:=qT hm;rw[Yh,k5];rw[ZC]at hq ⊢;have gu:=vB v.list (q-1)
 have t8:=zaX (decide (v.kind=168)) v.list ih v.keys (q-1) (fun e k hk'=>by
  have h1:=(hK (of_decide_eq_true e)).2;rw[qs,Bool.and_eq_true,kI]at h1;have h2:=h1.1 _ hk';unfold jd at h2;simp only[Bool.and_eq_true,decide_eq_true_eq]at h2
  exact h2.1.2) ha hq
 have hr:(yu v.kind v.n v.s (innB v)).length≤4100∨(yu v.kind v.n v.s (innB v)).length≤8+(yy (decide (v.kind=168)) v.keys v.list).length:=by
  unfold yu;split
  ·left;rw[zr];omega
  split
  ·left;rw[zr];omega
  split
  ·left;rw[q0,zr];omega
  split
  ·left;rw[q0,zr];omega
  split
  ·right;rw[q0,zr,innB,q0,zr];omega
  left;simp
 omega
def vlP(v:Vl):List UInt8:=if errV v=0 then vlB v else []
theorem j3{v:Vl}(h:errV v=0):0≤cntV v 200∧mayV zJ v=true:=by
 unfold errV at h;split at h
 ·omega
 split at h
 ·omega
 split at h
 ·rename_i h1 h2 h3
  exact⟨by omega,h3⟩
 omega
theorem JP(v:Vl)(h:VH)(w:World)(hv:RVw w v h)(hT:UTabs w):Calls prog 105 #[.agg (vlV v h)] w fun e w'=>∃A2 c2,e= .returned (.tuple #[.slice A2 (vlP v).length c2,.int .i64 (errV v)])∧Own w' w.heap.size 5 1 A2 (vlP v).length c2 ((vlP v).map u8v)∧Below w.heap.size w w':=by
 exact Z19_
def J2(w:World)(R:List UInt8)(e:Ending)(w':World):Prop:=∃A2 c2,e= .returned (.slice A2 R.length c2)∧OwnB w' w.heap.size A2 R.length c2 R∧Below w.heap.size w w'
def Jo(v:Vl):Prop:=∀(h:VH) (w:World),RVw w v h→mayV zJ v=true→(vlB v).length≤100000000→Calls prog 118 #[.agg (vlV v h)] w (J2 w (vlB v))
theorem J3(v:Vl)(ih:∀x∈v.list,Jo x):Jo v:=by
 intro h w hv gv hN;unfold vlV J2;obtain⟨xb,w1,Hg,Hi,hX,Ha⟩:=zg w #[.int .u8 (v.kind:Int),.int .u64 (v.n:Int),.string (str v.s),.slice h.A1 v.keys.length h.c1,.slice h.A2 v.list.length h.c2] 78;rw[Yh]at hN ⊢;rw[kK]at gv;obtain⟨fF,oK,fI,BL⟩:=qT gv;obtain⟨lX,gO,_,mu,IA,v9⟩:=hv.bounds;have I6:Value.int .u8 (v.kind:Int)=u8v (Vy v.kind):=by rw[kT,k4];congr;omega
 have BZ:=Ha.size;have DG:=yn (w:=w1) w1.heap.size #[.int .u8 (v.kind:Int)] 5 1 (Vx _) WX rfl (size:=1) Wq
 have bZ:OwnB (w1.alloc (.cells #[.int .u8 (v.kind:Int)] 5)) w1.heap.size (some ⟨w1.heap.size,0,none⟩) 1 1 [Vy v.kind]:=by
  have e: [Vy v.kind].map u8v= #[Value.int .u8 (v.kind:Int)].toList:=by simp[I6]
  unfold OwnB;rw[e];exact DG
 have Hc:=(Below.refl w1.heap.size w1).alloc (Vx _) (.cells #[.int .u8 (v.kind:Int)] 5);have dE:=hv.up Ha;obtain⟨INN,ri⟩:∃I,I=innB v:=⟨_,rfl⟩
 rw[←ri]at hN ⊢;obtain⟨R,hR⟩:∃R,R=Vy v.kind::yu v.kind v.n v.s INN:=⟨_,rfl⟩
 rw[←hR]at hN ⊢;have tW:=Q1 ri;have HR:=Q1 hR;have WF:=Q1 gv;have Nw:=Q1 fI;have wU:=Q1 BL;have IH:=Q1 ih;clear ri hR fI BL I6 DG gv ih hv;obtain⟨K1,j1,K2,j2⟩:=h;generalize ee:v.kind=kd at*;have t3:=Q1 ee;clear ee;rcases fF with hk|hk|hk|hk|hk|hk|hk|hk|hk
 ·exact Z1a_
 ·have qq7l:=();exact Z1a_
 ·have qq6w:=();exact Z14_
 ·have qq6x:=();exact Z14_
 ·subst hk;generalize dr:(((240:Nat):Int))=k at*;obtain rfl:k=240:=by rw[←dr];rfl
  clear dr;have c0:=hX.c0;have c1:=hX.c1;have c2:=hX.c2;have c3:=hX.c3;have c4:=hX.c4;go_enter func118,ntmps118;go_upto_region 1 with fail;rw[←Hg,←Hi];clear Hg Hi;go_upto_region 2 with fail;have Hk:=hX.below Hc;generalize(w1.alloc (.cells #[.int .u8 240] 5))=w2 at*;have hB:=Ha.trans (Hc.mono BZ);have ff:=dE.up Hc;have cm:=Hc.size;generalize dc:w1.heap.size=lb at*;have wL:Hid (xb≠lb):=Q1 mQ;have DI:=Q1 dc;clear c0 c1 c2 c3 c4 hX dE dc Ha;have c0:=Hk.c0;have c1:=Hk.c1;have c2:=Hk.c2;have c3:=Hk.c3;have c4:=Hk.c4;go_wp2_with(with_reducible refine h_A ?_);have iw: [Vy 240]=R:=by rw[HR.out];simp[yu]
  rw[←iw];go_ret;exact⟨_,_,rfl,bZ.base_le BZ,hB⟩
 ·exact Z14_
 ·have qq6v:=();exact Z14_
 ·exact Z9_
 have qq2c:=();exact Z9_
theorem XL(v:Vl):Jo v:=Vl.ind (P:=Jo) J3 v
end Go.PH
section
namespace Go.PH
theorem Qw{i n m:Nat}{R S:List UInt8}(h:be i n++R=be i m++S):be i n=be i m∧R=S:=k8 h (by rw[zr,zr])
theorem kw{i n m:Nat}{R S:List UInt8}(hn:n<256 ^ i)(hm:m<256 ^ i)(h:be i n++R=be i m++S):n=m∧R=S:=by
 obtain⟨h1,h2⟩:=Qw h;have h3:=congrArg unbe h1;rw[vw,vw,kv hn,kv hm]at h3;exact⟨h3,h2⟩
theorem Zd{i:Nat}{s t R S:List UInt8}(hs:s.length<256 ^ i)(ht:t.length<256 ^ i)(h:(be i s.length++s)++R=(be i t.length++t)++S):s=t∧R=S:=by
 rw[Q2,Q2]at h;obtain⟨h1,h2⟩:=kw hs ht h;exact k8 h2 h1
theorem ZQ{k n sl KL LL:Nat}{ko pl al:Bool}(h:mayF k n sl KL LL ko pl al=true):
  (k≠168→KL=0)∧(k≠168→k≠169→LL=0)∧(k≠149→k≠160→sl=0)∧(k=8→n≤1)∧(k=2→n≤255)∧(k≠8→k≠2→k≠49→k≠50→n=0):=by
 unfold mayF at h;simp only[Bool.and_eq_true,Bool.or_eq_true,decide_eq_true_eq]at h;obtain⟨⟨⟨⟨⟨h1,h2⟩,h3⟩,h4⟩,h5⟩,h6⟩:=h;refine⟨fun h=>by omega,fun h h'=>by omega,fun h h'=>by omega,fun h=>?_,fun h=>?_,fun e1 e2 e3 e4=>?_⟩
 ·subst h;simpa using h5
 ·subst h;simpa using h5
 rw[if_neg e1,if_neg e2,if_neg Wq]at h5;repeat' split at h5
 all_goals simp at h5
 all_goals first|exact h5|exact h5.2
inductive VB:Vl→Prop
 | mk {v:Vl} (hk:v.kind<256) (hn:v.n<18446744073709551616) (hl:∀x∈v.list,VB x):VB v
theorem VB.parts{v:Vl}(h:VB v):v.kind<256∧v.n<18446744073709551616∧∀x∈v.list,VB x:=by
 cases h with
 | mk a b c=>exact⟨a,b,c⟩
theorem RV.vb{w:World}{F:Nat→Prop}{v:Vl}{h:VH}(hv:RV w F v h):VB v:=by
 induction hv with
 | mk xs a1 a2 a3 a4 a5 a6 a7 a8 a9 _ ih=>
  refine⟨a1,a2,fun x hx=>?_⟩;rw[←a9]at hx;obtain⟨p,hp,rfl⟩:=List.mem_map.1 hx;exact ih p hp
def VC(v:Vl):Prop:=∃q:Int,q≤200∧0≤cntV v q
theorem vg:∀(l:List Vl) (q:Int),0≤cntL l q→(l.length:Int)≤q∧∀x∈l,∃p:Int,p≤q∧0≤cntV x p
 | [],q,h=>by rw[cntL]at h;exact⟨by simpa using h,fun x hx=>by cases hx⟩
 | y::l,q,h=>by
  by_cases h0:q<0
  ·rw[YL _ h0]at h;omega
  rw[YM _ _ h0]at h;obtain⟨h1,h2⟩:=vg l (cntV y q) h;have h3:=jF y q;have h4:=vB l (cntV y q);refine⟨by simp;omega,fun x hx=>?_⟩;rcases List.mem_cons.1 hx with rfl|hx
  ·exact⟨q,Int.le_refl _,by omega⟩
  obtain⟨p,hp,fW⟩:=h2 x hx;exact⟨p,by omega,fW⟩
theorem VC.parts{v:Vl}(h:VC v):v.list.length≤200∧∀x∈v.list,VC x:=by
 obtain⟨q,hq,h0⟩:=h;rw[ZC]at h0;obtain⟨h1,h2⟩:=vg _ _ h0;exact⟨by omega,fun x hx=>by obtain⟨p,hp,fW⟩:=h2 x hx;exact⟨p,by omega,fW⟩⟩
def Cut(v:Vl):Prop:=∀(u:Vl) (R S:List UInt8),mayV zJ u=true→VB u→VC u→vlB v++R=vlB u++S→v=u∧R=S
theorem zbp(m:Bool)(l:List Vl)(hc:∀x∈l,Cut x):∀(l':List Vl) (ks ks':List (List UInt8)) (R S:List UInt8),l.length=l'.length→(m=true→ks.length=l.length∧ks'.length=l'.length)→(m=true→(∀k∈ks,k.length≤255)∧∀k∈ks',k.length≤255)→
  (∀y∈l',mayV zJ y=true∧VB y∧VC y)→yy m ks l++R=yy m ks' l'++S→(m=true→ks=ks')∧l=l'∧R=S:=by
 induction l with
 | nil=>
  intro l' ks ks' R S hl tk hk hy h;obtain rfl:l'=[]:=K0.1 hl.symm;rw[xX,xX]at h;refine⟨fun e=>?_,rfl,h⟩;obtain⟨h1,h2⟩:=tk e
  rw[K0.1 h1,K0.1 h2]
 | cons x l ih=>
  intro l' ks ks' R S hl tk hk hy h
  cases l' with
  | nil=>simp at hl
  | cons y l'=>
   rw[qk,qk]at h;have PB:=hy y (q7 ..)
   have go:∀(R' S':List UInt8),(vlB x++yy m ks.tail l)++R'=(vlB y++yy m ks'.tail l')++S'→x=y∧(m=true→ks.tail=ks'.tail)∧l=l'∧R'=S':=by
    intro R' S' h';rw[Q2,Q2]at h';obtain⟨e1,h2⟩:=hc x (q7 ..) y _ _ PB.1 PB.2.1 PB.2.2 h'
    obtain⟨e2,e3,e4⟩:=ih (fun z hz=>hc z (q9 _ hz)) l' ks.tail ks'.tail R' S' zAh (fun e=>by obtain⟨a,b⟩:=tk e;simp at a b ⊢;omega)
     (fun e=>⟨fun k hm=>(hk e).1 k (k6 hm),fun k hm=>(hk e).2 k (k6 hm)⟩) (fun z hz=>hy z (q9 _ hz)) h2
    exact⟨e1,e2,e3,e4⟩
   cases m
   ·simp only[Bool.false_eq_true,if_false,k3]at h;obtain⟨e1,_,e3,e4⟩:=go R S h;exact⟨fun e=>(by cases e),by rw[e1,e3],e4⟩
   obtain⟨n1,n2⟩:=tk rfl;obtain⟨k1,k2⟩:=hk rfl
   cases ks with
   | nil=>simp at n1
   | cons k ks=>
    cases ks' with
    | nil=>simp at n2
    | cons k' ks'=>
     simp only[if_true,k9,Q2]at h;have dM:=k1 k (q7 ..);have Bk:=k2 k' (q7 ..);obtain⟨e0,h1⟩:=Zd (i:=1) (s:=k) (t:=k') (R:=vlB x++(yy true ks l++R)) (S:=vlB y++(yy true ks' l'++S)) Wq Wq (by simpa[Q2]using h);obtain⟨e1,e2,e3,e4⟩:=go R S (by simpa[Q2]using h1);refine⟨fun _=>?_,by rw[e1,e3],e4⟩;have:=e2 rfl;simp at this;rw[e0,this]
theorem VE{v u:Vl}(h1:v.kind=u.kind)(h2:v.n=u.n)(h3:v.s=u.s)(h4:v.keys=u.keys)(h5:v.list=u.list):v=u:=by rw[v.eta,u.eta,h1,h2,h3,h4,h5]
theorem jh{α:Type}{l:List α}(h:l.length=0):l=[]:=K0.1 h
theorem Ji{v:Vl}(h:xC v.keys zJ=true):∀k∈v.keys,k.length≤255:=fun k hk'=>by
 rw[qs,Bool.and_eq_true,kI]at h;have h2:=h.1 _ hk';unfold jd at h2;simp only[Bool.and_eq_true,decide_eq_true_eq]at h2;exact h2.1.2
theorem zcE(v:Vl):mayV zJ v=true→VB v→VC v→Cut v:=by
 refine Vl.ind (P:=fun v=>mayV zJ v=true→VB v→VC v→Cut v) ?_ v;intro v ih hm hb hc u R S pf nF GQ h;rw[kK]at hm pf;obtain⟨k1,s1,m1,a1⟩:=qT hm;obtain⟨_,s2,m2,a2⟩:=qT pf;obtain⟨p1,p2,p3,p4,p5,p6⟩:=ZQ hm;obtain⟨q1,q2,q3,q4,q5,q6⟩:=ZQ pf;obtain⟨b1,b2,b3⟩:=hb.parts;obtain⟨d1,d2,d3⟩:=nF.parts;obtain⟨c1,c2⟩:=hc.parts;obtain⟨f1,f2⟩:=GQ.parts;clear hm pf hb nF hc GQ;rw[Yh,Yh,k7,k7,List.cons.injEq]at h;obtain⟨hk,h⟩:=h
 have lT:v.kind=u.kind:=by
  have:=congrArg UInt8.toNat hk;simp only[k4]at this;omega
 rw[lT]at k1 m1 p1 p2 p3 p4 p5 p6 h
 have t8:∀m:Bool,m=decide (u.kind=168)→(u.kind=168∨u.kind=169)→innB v++R=innB u++S→v=u∧R=S:=by
  intro m p8 Bk oU;unfold innB at oU;rw[lT,←p8,Q2,Q2]at oU;obtain⟨e1,h2⟩:=kw (i:=4) Wq Wq oU
  obtain⟨e2,e3,e4⟩:=zbp m v.list (fun x hx=>ih x hx (kI.1 a1 x hx) (b3 x hx) (c2 x hx)) u.list v.keys u.keys R S e1
   (fun e=>by rw[p8]at e;have:=of_decide_eq_true e;exact⟨(m1 this).1,(m2 this).1⟩)
   (fun e=>by rw[p8]at e;have:=of_decide_eq_true e;exact⟨Ji (m1 this).2,Ji (m2 this).2⟩)
   (fun y hy=>⟨kI.1 a2 y hy,d3 y hy,f2 y hy⟩) h2
  refine⟨VE lT ?_ ?_ ?_ e3,e4⟩
  ·rw[p6 Wq Wq Wq Wq,q6 Wq Wq Wq Wq]
  ·rw[jh (p3 Wq Wq),jh (q3 Wq Wq)]
  by_cases e:u.kind=168
  ·exact e2 (by rw[p8,decide_eq_true e])
  rw[jh (p1 e),jh (q1 e)]
 have iz:∀i:Nat,v.n<256 ^ i→u.n<256 ^ i→u.kind≠168→u.kind≠169→u.kind≠149→u.kind≠160→be i v.n++R=be i u.n++S→v=u∧R=S:=by
  intro i g1 g2 e1 e2 e3 e4 h2;obtain⟨h3,h4⟩:=kw g1 g2 h2;exact⟨VE lT h3 (by rw[jh (p3 e3 e4),jh (q3 e3 e4)]) (by rw[jh (p1 e1),jh (q1 e1)]) (by rw[jh (p2 e1 e2),jh (q2 e1 e2)]),h4⟩
 have Lc:∀i:Nat,v.s.length<256 ^ i→u.s.length<256 ^ i→u.kind≠168→u.kind≠169→(u.kind=149∨u.kind=160)→(be i v.s.length++v.s)++R=(be i u.s.length++u.s)++S→v=u∧R=S:=by
  intro i g1 g2 e1 e2 e3 h2;obtain⟨h3,h4⟩:=Zd g1 g2 h2;exact⟨VE lT (by rw[p6 Wq Wq Wq Wq,q6 Wq Wq Wq Wq]) h3 (by rw[jh (p1 e1),jh (q1 e1)]) (by rw[jh (p2 e1 e2),jh (q2 e1 e2)]),h4⟩
 rcases k1 with e|e|e|e|e|e|e|e|e
 ·refine iz 1 (by have:=p4 e;omega) (by have:=q4 e;omega) Wq Wq Wq Wq ?_;unfold yu at h;rw[e]at h;simpa using h
 ·refine iz 1 (by have:=p5 e;omega) (by have:=q5 e;omega) Wq Wq Wq Wq ?_;unfold yu at h;rw[e]at h;simpa using h
 ·exact Z52_
 ·exact Z52_
 ·refine iz 0 (by rw[p6 Wq Wq Wq Wq];decide) (by rw[q6 Wq Wq Wq Wq];decide) Wq Wq Wq Wq ?_;unfold yu at h;rw[e]at h;simpa[be]using h
 ·refine Lc 4 Wq Wq Wq Wq Wq ?_;unfold yu at h;rw[e]at h;simpa[Q2]using h
 ·refine Lc 2 Wq Wq Wq Wq Wq ?_;unfold yu at h;rw[e]at h;simpa[Q2]using h
 ·refine t8 true zAi Wq ?_;exact Z5f_
 refine t8 false zAi Wq ?_;exact Z5f_
end Go.PH
end
section
namespace Go.PH
def xm(rd:Nat→List UInt8→Option (Vl×List UInt8×Nat))(m:Bool):Nat→Nat→List UInt8→Option (List (List UInt8)×List Vl×List UInt8×Nat)
 | 0,n,l=>some ([],[],l,n)
 | c+1,n,l=>
  if m&&(zT l false 1 255).2.2 then none
  else match rd n (if m then(zT l false 1 255).2.1 else l)with
   | none=>none
   | some r=>match xm rd m c r.2.2 r.2.1 with
    | none=>none
    | some q=>some (if m then(zT l false 1 255).1::q.1 else q.1,r.1::q.2.1,q.2.2)
def yz:Nat→Nat→List UInt8→Option (Vl×List UInt8×Nat)
 | 0,_,_=>none
 | f+1,n,l=>
  if n=0∨(mnum l false 1).2.2=true then none
  else
   if(mnum l false 1).1=240 then some (.mk 240 0 [] [] [],(mnum l false 1).2.1,n-1)
   else if(mnum l false 1).1=8∨(mnum l false 1).1=2 then
    if(mnum (mnum l false 1).2.1 false 1).2.2=true then none else some (.mk (mnum l false 1).1 (mnum (mnum l false 1).2.1 false 1).1 [] [] [],(mnum (mnum l false 1).2.1 false 1).2.1,n-1)
   else if(mnum l false 1).1=50∨(mnum l false 1).1=49 then
    if(mnum (mnum l false 1).2.1 false 8).2.2=true then none else some (.mk (mnum l false 1).1 (mnum (mnum l false 1).2.1 false 8).1 [] [] [],(mnum (mnum l false 1).2.1 false 8).2.1,n-1)
   else if(mnum l false 1).1=149 then
    if(zT (mnum l false 1).2.1 false 2 4096).2.2=true then none else some (.mk 149 0 (zT (mnum l false 1).2.1 false 2 4096).1 [] [],(zT (mnum l false 1).2.1 false 2 4096).2.1,n-1)
   else if(mnum l false 1).1=160 then
    if(zT (mnum l false 1).2.1 false 4 4096).2.2=true then none else some (.mk 160 0 (zT (mnum l false 1).2.1 false 4 4096).1 [] [],(zT (mnum l false 1).2.1 false 4 4096).2.1,n-1)
   else if(mnum l false 1).1=168∨(mnum l false 1).1=169 then
    if(mnum (mnum (mnum l false 1).2.1 false 4).2.1 (mnum (mnum l false 1).2.1 false 4).2.2 4).2.2=true∨(mnum (mnum l false 1).2.1 false 4).2.1.length<(mnum (mnum l false 1).2.1 false 4).1∨200≤(mnum (mnum (mnum l false 1).2.1 false 4).2.1 (mnum (mnum l false 1).2.1 false 4).2.2 4).1 then none
    else match xm (yz f) (decide ((mnum l false 1).1=168)) (mnum (mnum (mnum l false 1).2.1 false 4).2.1 (mnum (mnum l false 1).2.1 false 4).2.2 4).1 (n-1) (mnum (mnum (mnum l false 1).2.1 false 4).2.1 (mnum (mnum l false 1).2.1 false 4).2.2 4).2.1 with
     | none=>none
     | some q=>if(mnum (mnum l false 1).2.1 false 4).2.1.length-q.2.2.1.length=(mnum (mnum l false 1).2.1 false 4).1 then some (.mk (mnum l false 1).1 0 [] q.1 q.2.1,q.2.2)else none
   else none
theorem jt(w:Nat)(hw:w=1∨w=2∨w=4)(s rest:List UInt8)(most:Nat)(hs:s.length<256 ^ w)(hm:s.length≤most):zT (be w s.length++s++rest) false (w:Int) (most:Int)=(s,rest,false):=by
 rw[v6 Wq,Q2,vd w (qK Wq) s.length (s++rest),kv hs];simp only;rw[if_neg Hz,ZK]
theorem XF(l:List UInt8)(b:Bool)(x:Int):(xe l b x).2.1.length≤l.length:=by
 unfold xe;split
 ·simp
 simp
theorem xM(l:List UInt8)(b:Bool)(x:Int):(mnum l b x).2.1.length≤l.length:=by
 unfold mnum;split
 ·exact XF l b x
 simp
theorem qW(l:List UInt8)(b:Bool)(x m:Int):(zT l b x m).2.1.length≤l.length:=by
 unfold zT;split
 ·simp only;split
  ·simp
  exact q8 (XF _ _ _) (xM l b x)
 simp
theorem yY(l:List UInt8)(b:Bool)(x:Int)(m:Nat):(zT l b x (m:Int)).1.length≤m:=by
 unfold zT;split
 ·simp only;split
  ·simp
  rename_i h
  unfold xe;split
  ·simp
  simp only[vv];omega
 simp
theorem XG{rd:Nat→List UInt8→Option (Vl×List UInt8×Nat)}(B4:∀n l x l' n',rd n l=some (x,l',n')→l'.length≤l.length∧n'≤n)(m:Bool):∀(c n:Nat) (l:List UInt8) (q:List (List UInt8)×List Vl×List UInt8×Nat),xm rd m c n l=some q→q.2.2.1.length≤l.length∧q.2.2.2≤n:=by
 intro c
 induction c with
 | zero=>
  intro n l q h;rw[xm]at h;injection h with h
  subst h
  exact⟨Vx _,Vx _⟩
 | succ c ih=>
  intro n l q h;rw[xm]at h;split at h
  ·cases h
  split at h
  ·cases h
  rename_i r hr
  split at h
  ·cases h
  rename_i q' NH
  injection h with h
  subst h;have h1:=B4 _ _ r.1 r.2.1 r.2.2 hr;have h2:=ih _ _ _ NH;refine⟨?_,by simp only;omega⟩;simp only;refine q8 h2.1 (q8 h1.1 ?_);split
  ·exact qW _ _ _ _
  exact Vx _
theorem ZP:∀(f n:Nat) (l:List UInt8) (x:Vl) (l':List UInt8) (n':Nat),yz f n l=some (x,l',n')→l'.length≤l.length∧n'≤n:=by
 intro f
 induction f with
 | zero=>intro n l x l' n' h;rw[yz]at h;cases h
 | succ f ih=>
  intro n l x l' n' h;rw[yz]at h;have e1:=xM l false 1;generalize mnum l false 1=a at*;split at h
  ·cases h
  split at h
  ·injection h with h;injection h with _ h;injection h with h1 h2;subst h1 h2;exact⟨e1,by omega⟩
  split at h
  ·have e2:=xM a.2.1 false 1;exact Z4y_
  split at h
  ·have e2:=xM a.2.1 false 8;exact Z4y_
  split at h
  ·have e2:=qW a.2.1 false 2 4096;exact Z4y_
  split at h
  ·have e2:=qW a.2.1 false 4 4096;exact Z4y_
  split at h
  ·have e2:=xM a.2.1 false 4;have e3:=xM (mnum a.2.1 false 4).2.1 (mnum a.2.1 false 4).2.2 4;split at h
   ·cases h
   split at h
   ·cases h
   rename_i q hq
   have e4:=XG ih _ _ _ _ _ hq;split at h
   ·injection h with h;injection h with _ h;rw[h]at e4;simp only at e4;exact⟨by omega,by omega⟩
   cases h
  cases h
theorem Jg{rd:Nat→List UInt8→Option (Vl×List UInt8×Nat)}(m:Bool)(L:List Vl):∀(ks:List (List UInt8)) (n:Nat) (rest:List UInt8),
  (∀x∈L,∀(n:Nat) (rest:List UInt8),n≤200→0≤cntV x n→rd n (vlB x++rest)=some (x,rest,(cntV x n).toNat))→(m=true→ks.length=L.length∧∀k∈ks,k.length≤255)→(m=false→ks=[])→n≤200→0≤cntL L n→
  xm rd m L.length n (yy m ks L++rest)=some (ks,L,rest,(cntL L n).toNat):=by
 induction L with
 | nil=>
  intro ks n rest _ h1 h2 _ _
  have:ks=[]:=by
   cases m
   ·exact h2 rfl
   exact K0.1 (h1 rfl).1
  subst this;rw[xX,k3,List.length_nil,xm,cntL]
  simp
 | cons x L ih=>
  intro ks n rest B4 h1 h2 hn hc;rw[YM x L Wq]at hc ⊢;have wG:0≤cntV x n:=by have:=vB L (cntV x n);omega
  have ham:=jF x n;have hx:=fun rest=>B4 x (q7 ..) n rest hn wG
  have m9:(((cntV x n).toNat:Nat):Int)=cntV x n:=by omega
  have GB:=fun ks' LQ OO=>ih ks' (cntV x n).toNat rest (fun y hy=>B4 y (q9 _ hy)) LQ OO Wq (by rw[m9];exact hc)
  rw[m9]at GB;rw[qk,k5,xm]
  cases m
  ·have hk:=h2 rfl;subst hk;simp only[Bool.false_and,Bool.false_eq_true,if_false,k3,List.tail_nil];rw[Q2,hx];simp only;rw[GB [] Mz (fun _=>rfl)]
  obtain⟨hl,hk⟩:=h1 rfl
  match ks,hl,hk with
  | k::ks,hl,hk=>
   have dA:=hk k (q7 ..);have e:=jt 1 (.inl rfl) k (vlB x++(yy true ks L++rest)) 255 Wq dA;(have e2:be 1 k.length++k++vlB x++yy true ks L++rest=be 1 k.length++k++(vlB x++(yy true ks L++rest)):=by simp[Q2]);simp only[if_true,k9,List.tail_cons,Bool.true_and];rw[e2];rw[show((1:Nat):Int)=1 from rfl,show((255:Nat):Int)=255 from rfl]at e;rw[e];simp only[Bool.false_eq_true,if_false];rw[hx];simp only;rw[GB ks (fun _=>⟨by simpa using hl,fun k' hk'=>hk k' (q9 _ hk')⟩) Mz]
theorem zdE(k:Nat)(hk:k<256)(l:List UInt8):mnum (Vy k::l) false 1=(k,l,false):=by
 have h:=vd 1 (qK (.inl rfl)) k l;rw[show be 1 k=[Vy k]from by simp[be],show((1:Nat):Int)=1 from rfl,kv (by simpa using hk)]at h;exact h
theorem qX(w:Nat)(hw:w=1∨w=2∨w=4∨w=8)(n:Nat)(hn:n<256 ^ w)(l:List UInt8):mnum (be w n++l) false (w:Int)=(n,l,false):=by
 rw[vd w (qK Wq) n l,kv hn]
theorem Jh(x:Vl):∀(f n:Nat) (rest:List UInt8),VB x→mayV zJ x=true→xK f x=false→n≤200→0≤cntV x n→yz f n (vlB x++rest)=some (x,rest,(cntV x n).toNat):=by
 refine Vl.ind (P:=fun x=>∀(f n:Nat) (rest:List UInt8),VB x→mayV zJ x=true→xK f x=false→n≤200→0≤cntV x n→yz f n (vlB x++rest)=some (x,rest,(cntV x n).toNat)) ?_ x;intro x ih f n rest ig gv mS hn hc;obtain⟨lX,gO,LI⟩:=ig.parts;have dG:=ZF (v:=x) n gv hc;rw[kK]at gv;obtain⟨fF,oK,fI,BL⟩:=qT gv;obtain⟨f1,f2,f3,f4,f5,f6⟩:=ZQ gv;have gu:=jF x n;have Cb:=ZC x n
 cases f with
 | zero=>rw[xK]at mS;cases mS
 | succ f=>
  rw[xK]at mS
  have tn:∀y∈x.list,xK f y=false:=fun y hy=>by
   cases h:xK f y
   ·rfl
   have:x.list.any (xK f)=true:=List.any_eq_true.2 ⟨y,hy,h⟩;rw[this]at mS;cases mS
  have GB:=fun(y:Vl) (hy:y∈x.list) (n:Nat) (rest:List UInt8) (h1:n≤200) (h2:0≤cntV y n)=>ih y hy f n rest (LI y hy) (kI.1 BL y hy) (tn y hy) h1 h2
  clear ih mS tn LI BL gv;have hx:=x.eta;rw[Yh]at dG ⊢;rw[k7,yz,zdE _ lX];simp only;have oh:¬(n=0∨false=true):=fun h=>h.elim (fun h=>by omega) Mz
  rw[if_neg oh];have pC:x.list=[]→(cntV x n).toNat=n-1:=fun h=>by rw[Cb,h,cntL];omega
  rcases fF with hk|hk|hk|hk|hk|hk|hk|hk|hk
  ·have qqbv:=();exact Z2l_
  ·have qqbw:=();exact Z2l_
  ·exact Z2l_
  ·have qqbu:=();exact Z2l_
  ·rw[hk]at hx f1 f2 f3 f4 f5 f6 ⊢;have a1:=K0.1 (f1 WJ);have a2:=K0.1 (f2 WJ WJ);have a3:=K0.1 (f3 WJ WJ);have a4:=f6 WJ WJ WJ WJ;rw[if_pos rfl,show yu 240 x.n x.s (innB x)=[] by simp[yu],k3];rw[a1,a2,a3,a4]at hx;rw[pC a2,←hx]
  ·rw[hk]at hx f1 f2 f3 f4 f5 f6 ⊢;have a1:=K0.1 (f1 WJ);have a2:=K0.1 (f2 WJ WJ);have a4:=f6 WJ WJ WJ WJ;have e:=jt 4 (.inr (.inr rfl)) x.s rest 4096 Wq oK;rw[show((4:Nat):Int)=4 from rfl,show((4096:Nat):Int)=4096 from rfl]at e;rw[if_neg WJ,if_neg WJ,if_neg WJ,if_neg WJ,if_pos rfl,show yu 160 x.n x.s (innB x)=be 4 x.s.length++x.s by simp[yu],e];simp only[Bool.false_eq_true,if_false];rw[a1,a2,a4]at hx;rw[pC a2,←hx]
  ·rw[hk]at hx f1 f2 f3 f4 f5 f6 ⊢;have a1:=K0.1 (f1 WJ);have a2:=K0.1 (f2 WJ WJ);have a4:=f6 WJ WJ WJ WJ;have e:=jt 2 (.inr (.inl rfl)) x.s rest 4096 Wq oK;rw[show((2:Nat):Int)=2 from rfl,show((4096:Nat):Int)=4096 from rfl]at e;rw[if_neg WJ,if_neg WJ,if_neg WJ,if_pos rfl,show yu 149 x.n x.s (innB x)=be 2 x.s.length++x.s by simp[yu],e];simp only[Bool.false_eq_true,if_false];rw[a1,a2,a4]at hx;rw[pC a2,←hx]
  ·have qq7e:=();exact Z18_
  exact Z18_
def j5(rd:Nat→List UInt8→Option (Vl×List UInt8×Nat))(m:Bool)(n:Nat)(l:List UInt8):Option (List (List UInt8)×List Vl×List UInt8×Nat):=
 if(mnum (mnum l false 4).2.1 (mnum l false 4).2.2 4).2.2=true∨(mnum l false 4).2.1.length<(mnum l false 4).1∨200≤(mnum (mnum l false 4).2.1 (mnum l false 4).2.2 4).1 then none
 else match xm rd m (mnum (mnum l false 4).2.1 (mnum l false 4).2.2 4).1 n (mnum (mnum l false 4).2.1 (mnum l false 4).2.2 4).2.1 with
  | none=>none
  | some q=>if(mnum l false 4).2.1.length-q.2.2.1.length=(mnum l false 4).1 then some q else none
theorem JW{f n:Nat}{l:List UInt8}(h:¬(n=0∨(mnum l false 1).2.2=true))(hk:(mnum l false 1).1=168∨(mnum l false 1).1=169):
  yz (f+1) n l=(j5 (yz f) (decide ((mnum l false 1).1=168)) (n-1) (mnum l false 1).2.1).map fun q=>(.mk (mnum l false 1).1 0 [] q.1 q.2.1,q.2.2):=by
 rw[yz,if_neg h];generalize mnum l false 1=a at*;rw[if_neg Wq,if_neg Wq,if_neg Wq,if_neg Wq,if_neg Wq,if_pos hk,j5];split
 ·rfl
 split
 ·rfl
 split<;>rfl
def qY(f n:Nat)(l:List UInt8)(bad:Bool):Option (Vl×List UInt8×Nat):=if bad then none else yz f n l
theorem zbo{l:List UInt8}{x:Int}:mnum l true x=(0,[],true):=by
 unfold mnum;rw[je (.inl rfl)];split<;>rfl
theorem Zc(l:List UInt8)(bad:Bool):(mnum l bad 1).1<256:=by
 rw[qE WJ];simp only;unfold xe;split
 ·simp[kS]
 have:=vu (l.take (Int.toNat 1));have h1:(l.take (Int.toNat 1)).length≤1:=by rw[vv];exact Nat.min_le_left _ _
 simp only;refine kx this (q8 (Nat.pow_le_pow_right Wq h1) WJ)
theorem XH{rd:Nat→List UInt8→Option (Vl×List UInt8×Nat)}{c n:Nat}{l:List UInt8}(h:(zT l false 1 255).2.2=true):xm rd true (c+1) n l=none:=by
 rw[xm,h];rfl
theorem vG{rd:Nat→List UInt8→Option (Vl×List UInt8×Nat)}{m:Bool}{c n:Nat}{l:List UInt8}(h:rd n (if m then(zT l false 1 255).2.1 else l)=none):xm rd m (c+1) n l=none:=by
 rw[xm,h];split<;>rfl
theorem vH{rd:Nat→List UInt8→Option (Vl×List UInt8×Nat)}{m:Bool}{c n:Nat}{l:List UInt8}{r:Vl×List UInt8×Nat}(hb:m=true→(zT l false 1 255).2.2=false)(h:rd n (if m then(zT l false 1 255).2.1 else l)=some r):
  xm rd m (c+1) n l=(xm rd m c r.2.2 r.2.1).map fun q=>(if m then(zT l false 1 255).1::q.1 else q.1,r.1::q.2.1,q.2.2):=by
 rw[xm,h,if_neg (by cases m<;>simp[hb])];simp only;split<;>rename_i h2
 ·rw[h2];rfl
 rw[h2];rfl
end Go.PH
end
namespace Go.PH
open Go.RowKit Go.Proofs Go.Proofs.Tryz
variable {l : List UInt8} {b hi k lo n : Nat}
theorem zbn(p q r:Addr)(w:World):
  CallsD prog 176 #[.pointer (some p),.pointer (some q),.pointer (some r)] .returning w fun e u' w'=>e= .returned (.tuple #[])∧u'= .returning∧w'=w:=by
 refine callsD_of_wpS func176 rfl fun c₀ cs hu=>?_
 apply wpS_seq;apply wpS_region;simp[wpOpsS,go_sem,recoverD,hu,ntmps176,Exit.thenS];refine wpS_of_wp ?_;have ht:(#[Value.pointer (some p),Value.pointer (some q),Value.pointer (some r)]++((Array.replicate 15 undef).setIfInBounds 3 Value.nilIface).setIfInBounds 0 Value.nilIface)= #[.pointer (some p),.pointer (some q),.pointer (some r),Value.nilIface,undef,undef,Value.nilIface,undef,undef,undef,undef,undef,undef,undef,undef,undef,undef,undef]:=by kernel_rfl
 rw[ht];clear ht;exact Z5l_
theorem XE(xT:TypeId)(w:World):(Instr.typeAssert (.iface 251 (.agg #[])) xT 251 true).run prog w= .ok (.tuple #[.agg #[],.bool true]) w:=by
 simp[Instr.typeAssert,run_underlying underlying251,go_sem,Result.andThen]
theorem Yo(p q r:Nat)(older:List PanicEntry)(w:World)(cv:Array Value)(cn ce:Value)(hp:Box w p 78 cv)(fz:cv.size=5)(hq:Box w q 3 #[cn])(hr:Box w r 45 #[ce])(N4:p≠q)(eC:q≠r)(Ok:p≠r)(B:Nat)(hBp:B≤p)(dL:B≤q)(bP:B≤r):
  CallsD prog 176 #[.pointer (some ⟨p,0,none⟩),.pointer (some ⟨q,0,none⟩),.pointer (some ⟨r,0,none⟩)] (.panicking ({v:=.iface 251 (.agg #[]),recovered:=false}::older)) w fun e u' w'=>
   e= .returned (.tuple #[])∧u'= .panicking ({v:=.iface 251 (.agg #[]),recovered:=true}::older)∧Box w' p 78 #[.int .u8 0,.int .u64 0,.string ⟨#[]⟩,.slice none 0 0,.slice none 0 0]∧Box w' q 3 #[.int .i64 0]∧Box w' r 45 #[.int .i64 5]∧Below B w w':=by
 have hta:=XE;refine callsD_of_wpS func176 rfl fun c₀ cs hu=>?_
 apply wpS_seq;apply wpS_region;simp[wpOpsS,go_sem,recoverD,hu,ntmps176,Exit.thenS];refine wpS_of_wp ?_;have ht:(#[Value.pointer (some ⟨p,0,none⟩),Value.pointer (some ⟨q,0,none⟩),Value.pointer (some ⟨r,0,none⟩)]++((Array.replicate 15 undef).setIfInBounds 3 (Value.iface 251 (.agg #[]))).setIfInBounds 0 (Value.iface 251 (.agg #[])))= #[.pointer (some ⟨p,0,none⟩),.pointer (some ⟨q,0,none⟩),.pointer (some ⟨r,0,none⟩),(Value.iface 251 (.agg #[])),undef,undef,(Value.iface 251 (.agg #[])),undef,undef,undef,undef,undef,undef,undef,undef,undef,undef,undef]:=by kernel_rfl
 rw[ht];clear ht;have hz:=Box.new w #[] 251;have Fy:=hp.lt;have TS:=hq.lt;have nD:=hr.lt;have lz:=hp.alloc (.cells #[] 251);have eN:=hq.alloc (.cells #[] 251);have dQ:=hr.alloc (.cells #[] 251);have Ha:=(Below.refl B w).alloc Wq (.cells #[] 251);have hdr:cv.toList.drop 5=[]:=vz Hz;go_wp2_with(with_reducible refine h_B ?_);refine zc (zn (v:=.agg #[]) (vs:=[]) rfl rfl rfl rfl hz rfl Wj Wz Wz #[] Wz ?_);intro w2 _ Hm cm;have fW:=lz.grown Hm (sne Wq);have oH:=eN.grown Hm (sne Wq);have cH:=dQ.grown Hm (sne Wq);have Hc:=Ha.grown Hm (by have:=Ha.size;omega) Wx;clear lz eN dQ Ha hz Hm cm hp hq hr;go_wp2_with(with_reducible refine h_B ?_);refine zc (zn (v:=.agg #[.int .u8 0,.int .u64 0,.string ⟨#[]⟩,.slice none 0 0,.slice none 0 0]) (vs:=(#[.int .u8 0,.int .u64 0,.string ⟨#[]⟩,.slice none 0 0,.slice none 0 0]).toList) rfl rfl rfl rfl fW rfl Wj Hz WQ #[.int .u8 0,.int .u64 0,.string ⟨#[]⟩,.slice none 0 0,.slice none 0 0] (by simp[hdr]) ?_);intro w3 pp H6 _;have FZ:=oH.grown H6 (sne Wq);have cj:=cH.grown H6 (sne Wq);have Hh:=Hc.grown H6 (by have:=Hc.size;omega) Wx;clear fW oH cH H6;go_wp2_with(with_reducible refine h_B ?_);refine zc (zn (v:=.int .i64 0) (vs:=[.int .i64 0]) rfl rfl rfl rfl FZ rfl Wj Wz wX #[.int .i64 0] Wz ?_);intro w4 sZ Ba _;have mp:=pp.grown Ba (sne Wq);have cQ:=cj.grown Ba (sne Wq);have Hn:=Hh.grown Ba (by have:=Hh.size;omega) Wx;clear pp FZ cj Ba;go_wp2_with(with_reducible refine h_B ?_);refine zc (zn (v:=.int .i64 5) (vs:=[.int .i64 5]) rfl rfl rfl rfl cQ rfl Wj Wz wX #[.int .i64 5] Wz ?_);intro w5 dv H9 _;have Le:=mp.grown H9 (sne Wq);have pS:=sZ.grown H9 (sne Wq);have bw:=Hn.grown H9 (by have:=Hn.size;omega) Wx;exact Z5l_
def zdF(w:World)(F:Nat→Prop)(B pb vb:Nat)(v:Value)(r:Option (Vl×List UInt8×Nat))(e:Ending)(w':World):Prop:=match r with
 | none=>e= .panicked PAN∧KP B pb vb w w'
 | some q=>∃h,e= .returned (.agg (vlV q.1 h))∧RV w' (FN w.heap.size w') q.1 h∧Rdr F w' v (some vb) q.2.1 false∧Box w' pb 255 #[v,.int .i64 (q.2.2:Int)]∧KP B pb vb w w'
def Qx(f:Nat):Prop:=∀(d n:Nat) (F:Nat→Prop) (B pb vb:Nat) (v:Value) (l:List UInt8) (bad:Bool) (w:World),d+f=7→Rdr F w v (some vb) l bad→Box w pb 255 #[v,.int .i64 (n:Int)]→¬F pb→(∀g,F g→B≤g∧g<w.heap.size)→B≤pb→n≤200→
  Calls prog 177 #[.pointer (some ⟨pb,0,none⟩),.int .i64 (d:Int)] w (zdF w F B pb vb v (qY f n l bad))
def zcF(a:World)(F:Nat→Prop)(B pb vb xb:Nat)(v:Value)(kd:Int)(r:Option (List (List UInt8)×List Vl×List UInt8×Nat))(e:Ending)(w':World):Prop:=match r with
 | none=>e= .panicked PAN∧KP B pb vb a w'
 | some q=>∃AK cK A c xs,e= .returned (.tuple #[])∧xs.map (·.1)=q.2.1∧MnS w' (xb+1) q.1 AK cK A c xs∧Rdr F w' v (some vb) q.2.2.1 false∧Box w' pb 255 #[v,.int .i64 (q.2.2.2:Int)]∧
   Box w' xb 78 #[.int .u8 kd,.int .u64 0,.string ⟨#[]⟩,.slice AK q.1.length cK,.slice A q.2.1.length c]∧KP B pb vb a w'∧(∀k∈q.1,k.length≤255)∧q.1.length≤200∧q.2.1.length≤200
structure MPre(w a:World)(F:Nat→Prop)(B pb vb xb n:Nat)(v:Value)(l:List UInt8)(kd:Int):Prop where
 hr:Rdr F w v (some vb) l false
 hp:Box w pb 255 #[v,.int .i64 (n:Int)]
 hx:Box w xb 78 #[.int .u8 kd,.int .u64 0,.string ⟨#[]⟩,.slice none 0 0,.slice none 0 0]
 hFp:¬F pb
 hF:∀g,F g→B≤g∧g<a.heap.size
 hpa:pb<a.heap.size
 hBp:B≤pb
 hBa:B≤a.heap.size
 hxa:a.heap.size≤xb
 hn:n≤200
 hK:KP B pb vb a w
theorem Jl(kd:Int)(m:Bool)(pz:(kd=168∧m=true)∨(kd=169∧m=false))(f:Nat)(bO:Qx f)(d n:Nat)(F:Nat→Prop)(B pb vb xb:Nat)(v:Value)(l:List UInt8)(a w:World)(hd:d+1+f=7)(mw:MPre w a F B pb vb xb n v l kd):
  Calls prog 184 #[.pointer (some ⟨pb,0,none⟩),.pointer (some ⟨xb,0,none⟩),.int .i64 (d:Int)] w (zcF a F B pb vb xb v kd (j5 (yz f) m n l)):=by
 obtain⟨hr,hp,hx,hFp,hF,hpa,hBp,hBa,hxa,hn,hK⟩:=mw;have ig:=hr.inF rfl;have rH:=hF vb ig;have GZ:pb≠vb:=fun e=>hFp (e▸ig)
 have r6:=hx.lt;obtain⟨q1,eN⟩:∃q,q=mnum l false 4:=⟨_,rfl⟩
 obtain⟨r,hR⟩:∃r,r=j5 (yz f) m n l:=⟨_,rfl⟩
 rw[←hR];unfold j5 at hR;rw[←eN]at hR;obtain⟨q2,oH⟩:∃q,q=mnum q1.2.1 q1.2.2 4:=⟨_,rfl⟩
 rw[←oH]at hR;have h1:=yk hr 4 Wq Wq;rw[←eN]at h1;have cN:=xg l false 4;rw[←eN]at cN;have o9:=xg q1.2.1 q1.2.2 4;have pa:=xM q1.2.1 q1.2.2 4;rw[←oH]at o9 pa;obtain⟨SZ,l2,b2⟩:=q1;obtain⟨CN,l3,b3⟩:=q2;simp only at hR h1 cN o9 pa;have ib:Hid ((CN,l3,b3)=mnum l2 b2 4):=Q1 oH;have HR:=Q1 hR;clear eN oH hR;have c0:=hp.c0;go_enter func184,ntmps184;go_wp2_with(with_reducible refine h_A ?_);refine h1.mono ?_;rintro e w2 ⟨rfl,cH,Hm⟩;have fW:=hp.grown Hm (sne Wq);have od:=hx.grown Hm (sne Wq);have dS:=hK.grown hBa Hm UQ;clear h1 c0 hr hp hx hK Hm;have c0:=fW.c0;have h2:=yN cH;go_wp2_with(with_reducible refine h_A ?_);refine h2.mono ?_;rintro e w3 ⟨rfl,rfl⟩;clear h2;have NF:=cH.len;have h3:=yk cH 4 Wq Wq;rw[←ib.out]at h3;go_wp2_with(with_reducible refine h_A ?_);refine h3.mono ?_;rintro e w4 ⟨rfl,cQ,Ba⟩;have mp:=fW.grown Ba (sne Wq);have U4:=od.grown Ba (sne Wq);have eQ:=dS.grown hBa Ba UQ;clear h3 c0 cH fW od dS Ba;try simp only at cQ
 have c0:=mp.c0;by_cases Bw:l2.length<SZ
 ·have cI:Hid (r=none):=Q1 (by rw[HR.out,if_pos (.inr (.inl Bw))]);have g1:¬(SZ:Int)≤(l2.length:Int):=by omega
  clear Bw HR ib;have gR:=xS cQ mp false (.inl rfl);exact Z4i_
 have g1:(SZ:Int)≤(l2.length:Int):=by omega
 by_cases Sq:200≤CN
 ·exact Z2u_
 have g2:(CN:Int)<200:=by omega
 cases b3
 ·have gR:=xL cQ mp;have eU:Hid (r=match xm (yz f) m CN n l3 with|none=>none|some q=>if l2.length-q.2.2.1.length=SZ then some q else none):=Q1 (by rw[HR.out,if_neg (fun h=>by rcases h with h|h|h<;>first|omega|cases h)];try(cases xm (yz f) m CN n l3<;>rfl));go_wp2_with(with_reducible refine h_A ?_);refine gR.mono ?_;rintro e w5 ⟨rfl,rfl⟩;clear gR c0 HR ib;go_wp2_with(with_reducible refine h_A ?_);go_loopw [35] (fun s wr=>∃(i:Nat) (KS:List (List UInt8)) (AK:Option Addr) (cK:Nat) (A:Option Addr) (c:Nat) (xs:List (Vl×VH)) (li:List UInt8) (ni:Nat),i≤CN∧s= .int .u64 (i:Int)∧Hid (xs.length=i)∧KS.length≤i∧Hid (∀k∈KS,k.length≤255)∧ni≤200∧MnS wr (xb+1) KS AK cK A c xs∧Rdr F wr v (some vb) li false∧Box wr pb 255 #[v,.int .i64 (ni:Int)]∧Box wr xb 78 #[.int .u8 kd,.int .u64 0,.string ⟨#[]⟩,.slice AK KS.length cK,.slice A i c]∧KP B pb vb a wr∧Hid (xm (yz f) m CN n l3=(xm (yz f) m (CN-i) ni li).map fun q=>(KS++q.1,xs.map (·.1)++q.2.1,q.2.2))) (fun s _=>CN-(ky s).toNat)
  case atStart=>exact⟨0,[],none,0,none,0,[],l3,n,by omega,rfl,Q1 rfl,by simp,Q1 zAc,hn,MnS.nil _ _,cQ,mp,U4,eQ,Q1 (by
   rw[Nat.sub_zero]
   cases xm (yz f) m CN n l3<;>rfl)⟩
  clear cQ mp U4 eQ hn;obtain⟨i,KS,AK,cK,A,c,xs,li,ni,hi,rfl,dY,bI,dd,nK,hS,hR,hP,hX,bm,HC⟩:=hrel;have fA:((d+1:Nat):Int)=IntKind.i64.wrap ((d:Int)+1):=by rw[IntWalk.i64_in _ ⟨by omega,by omega⟩];omega
  by_cases hlt:i<CN
  ·(have g3:(i:Int)<(CN:Int):=by omega);(obtain⟨cn,F7⟩:∃cn,CN-i=cn+1:=⟨CN-i-1,by omega⟩);(have LK:CN-(i+1)=cn:=by omega);(obtain⟨T,hT⟩:∃t,t=zT li false 1 255:=⟨_,rfl⟩);have pj:=yY li false 1 255;rw[show((255:Nat):Int)=255 from rfl,←hT]at pj;(have Cq:=fun(W:World) (h:Rdr F W v (some vb) li false)=>qD h 1 255 Wq Wq Wq Wq);rw[←hT]at Cq;obtain⟨ks,lk,bk⟩:=T;simp only at pj Cq;(obtain⟨lj,Fp⟩:∃q,q=(if m=true then lk else li):=⟨_,rfl⟩);(obtain⟨bj,CD⟩:∃q,q=(if m=true then bk else false):=⟨_,rfl⟩);obtain⟨rr,B1⟩:∃q,q=qY f ni lj bj:=⟨_,rfl⟩
   have HN:Hid (rr=none→r=none):=Q1 (fun e=>by
    rw[eU.out,HC.out,F7]
    cases m
    ·rw[vG (by rw[if_neg WJ];rw[←e,B1,CD,Fp];rfl)];rfl
    ·cases bk
     ·rw[vG (by rw[if_pos rfl,←hT];rw[←e,B1,Fp,CD];rfl)];rfl
     ·rw[XH (by rw[←hT])];rfl)
   have NA:Hid (∀q,rr=some q→xm (yz f) m CN n l3=(xm (yz f) m (CN-(i+1)) q.2.2 q.2.1).map fun p=>((if m=true then KS++ [ks]else KS)++p.1,(xs.map (·.1)++ [q.1])++p.2.1,p.2.2)):=Q1 (fun q e=>by
    cases m
    ·rw[HC.out,F7,LK,vH (r:=q) Mz (by rw[if_neg WJ];rw[←e,B1,CD,Fp];rfl)]
     cases xm (yz f) false cn q.2.2 q.2.1<;>simp
    ·cases bk
     ·rw[HC.out,F7,LK,vH (r:=q) (fun _=>by rw[←hT]) (by rw[if_pos rfl,←hT];rw[←e,B1,Fp,CD];rfl),←hT]
      cases xm (yz f) true cn q.2.2 q.2.1<;>simp
     ·rw[B1,CD]at e;cases e)
   have OA:=nK;have I8:=hX.c0;go_upto_if 41 with fail;clear I8 HC hT;go_cut [35]from 37 to 55 (fun s wx=>s= .int .u64 (i:Int)∧∃(co:List (List UInt8)) (fQ:Option Addr) (gY:Nat),Hid (co=if m=true then KS++ [ks]else KS)∧co.length≤i+1∧Hid (∀k∈co,k.length≤255)∧MnS wx (xb+1) co fQ gY A c xs∧Box wx xb 78 #[.int .u8 kd,.int .u64 0,.string ⟨#[]⟩,.slice fQ co.length gY,.slice A i c]∧Rdr F wx v (some vb) lj bj∧Box wx pb 255 #[v,.int .i64 (ni:Int)]∧KP B pb vb a wx)
   case first=>
    rcases pz with⟨rfl,rfl⟩|⟨rfl,rfl⟩
    ·obtain rfl:lj=lk:=Fp;obtain rfl:bj=bk:=CD;go_upto_region 7 with fail;refine zt (fun W:World=>Box W pb 255 #[v,.int .i64 (ni:Int)]) Wj ?_;replace hS:MnS wr.drew (xb+1) KS AK cK A c xs:=hS.on (fun g _ _=>rfl) (Vx _);replace hR:Rdr F wr.drew v (some vb) li false:=hR.drew;replace hP:Box wr.drew pb 255 #[v,.int .i64 (ni:Int)]:=hP;replace hX:Box wr.drew xb 78 #[.int .u8 168,.int .u64 0,.string ⟨#[]⟩,.slice AK KS.length cK,.slice A i c]:=hX;replace bm:KP B pb vb a wr.drew:=bm.drew;have Cq:=Cq wr.drew hR;generalize wr.drew=wd at*;refine rg_t 0 hP ?_;simp only[List.getElem_toArray,List.getElem_cons_zero,Act.put,List.setIfInBounds_toArray,List.set_cons_zero,List.set_cons_succ];refine rg_t 1 hP ?_;simp only[g_S];refine rg_t 2 hP ?_;simp only[g_S];refine rg_t 3 hP ?_;simp only[g_S];refine rg_t 5 hP ?_;simp only[g_S];refine rg_t 6 hP ?_;simp only[g_S];refine rg_t 7 hP ?_;simp only[g_S];refine ze 8 (v:=?_) rfl Wj Wj Wj hP rfl ?_ ?_;rotate_left
     ·intro wS He;have k0:=He.cell (j:=0) rfl;go_simp;(with_reducible rfl)
     simp only[g_S];have z3:=hX.c3;refine xP 4 9 rfl rfl Wj rfl rfl (fun K bB=>?_) (fun K bB=>?_)
     ·exact Zs_
     go_simp;refine Cq.mono ?_;rintro e wt ⟨rfl,Bs,Hm⟩;(try clear z3);replace hS:=hS.box Hm Wq;replace hX:=hX.grown Hm (sne Wq);replace hP:=hP.grown Hm (sne Wq);replace bm:=bm.grown hBa Hm UQ;clear hR Cq;have hR:=Bs;clear Bs Hm;refine bB _ _ hP ?_;clear bB K;(try simp only[g_S]);have z3:=hX.c3;refine xP 4 10 rfl rfl Wj rfl rfl (fun K bB=>?_) (fun K bB=>?_)
     ·have qq4r:=();exact Zs_
     have qq4s:=();exact Zs_
    obtain rfl:lj=li:=Fp;obtain rfl:bj=false:=CD;go_wp2_with(with_reducible refine h_A ?_);go_meet;exact⟨rfl,KS,AK,cK,Q1 (by rw[if_neg WJ]),by omega,dd,hS,hX,hR,hP,bm⟩
   obtain⟨rfl,co,fQ,gY,ou,mM,Bk,hS,hX,hR,hP,bm⟩:=hcut;rw[←ou.out]at NA;clear ou dd bI pj Fp CD Cq;go_upto_region 8 with fail;refine VD (fun _=>True) Wj ?_;replace hS:MnS wc.drew (xb+1) co fQ gY A c xs:=hS.on (fun g _ _=>rfl) (Vx _);replace hR:Rdr F wc.drew v (some vb) lj bj:=hR.drew;replace hP:Box wc.drew pb 255 #[v,.int .i64 (ni:Int)]:=hP;replace hX:Box wc.drew xb 78 #[.int .u8 kd,.int .u64 0,.string ⟨#[]⟩,.slice fQ co.length gY,.slice A i c]:=hX;replace bm:KP B pb vb a wc.drew:=bm.drew;generalize wc.drew=wd at*;refine ya ?_ 0 (v:=?_) rfl Wj Wj Wj trivial rfl ?_ ?_
   ·repeat(first|refine zR ?_|refine zH ?_|exact zQ _ _ _)
   rotate_left
   ·intro wS _;go_simp;(with_reducible rfl)
   (try simp only[g_S]);refine ya ?_ 1 (v:=?_) rfl Wj Wj Wj trivial rfl ?_ ?_
   ·repeat(first|refine zR ?_|refine zH ?_|exact zQ _ _ _)
   rotate_left
   ·intro wS _;go_simp;(with_reducible rfl)
   (try simp only[g_S]);refine ya ?_ 2 (v:=?_) rfl Wj Wj Wj trivial rfl ?_ ?_
   ·repeat(first|refine zR ?_|refine zH ?_|exact zQ _ _ _)
   rotate_left
   ·intro wS _;go_simp;(with_reducible rfl)
   (try simp only[g_S]);refine ya ?_ 4 (v:=?_) rfl Wj Wj Wj trivial rfl ?_ ?_
   ·repeat(first|refine zR ?_|refine zH ?_|exact zQ _ _ _)
   rotate_left
   ·intro wS _;go_simp;(with_reducible rfl)
   (try simp only[g_S]);refine ya ?_ 5 (v:=?_) rfl Wj Wj Wj trivial rfl ?_ ?_
   ·repeat(first|refine zR ?_|refine zH ?_|exact zQ _ _ _)
   rotate_left
   ·intro wS _;go_simp;(with_reducible rfl)
   (try simp only[g_S]);refine ya ?_ 6 (v:=?_) rfl Wj Wj Wj trivial rfl ?_ ?_
   ·repeat(first|refine zR ?_|refine zH ?_|exact zQ _ _ _)
   rotate_left
   ·intro wS _;go_simp;(with_reducible rfl)
   try simp only[g_S]
   cases ns:rr with
   | none=>
    have qq1:=()
    exact Z1_
   | some q=>
    exact Z1_
  have hie:i=CN:=by omega
  subst hie;have g3:¬(i:Int)<(i:Int):=by omega
  have HL:Hid (xm (yz f) m i n l3=some (KS,xs.map (·.1),li,ni)):=Q1 (by rw[HC.out,Nat.sub_self,xm];simp);have gu:=(XG (ZP f) _ _ _ _ _ HL.out).1;simp only at gu;have c0:=hP.c0;have h5:=yN hR;go_wp2_with(with_reducible refine h_A ?_);refine h5.mono ?_;rintro e w6 ⟨rfl,rfl⟩;clear h5;have pR:IntKind.i64.wrap ((l2.length:Int)-(li.length:Int))=((l2.length-li.length:Nat):Int):=by rw[IntWalk.i64_in _ ⟨by omega,by omega⟩];omega
  by_cases mI:l2.length-li.length=SZ
  ·have cI:Hid (r=some (KS,xs.map (·.1),li,ni)):=Q1 (by rw[eU.out,HL.out];simp only;rw[if_pos mI]);have gR:=xL hR hP;(have Rb:(((l2.length-li.length:Nat):Int)==(SZ:Int))=true:=by simp;omega);go_wp2_with(with_reducible refine h_A ?_);refine gR.mono ?_;rintro e w7 ⟨rfl,rfl⟩;go_wp2_with(with_reducible refine h_A ?_);go_end0;rw[cI.out];have BB:=dY.out;subst BB;exact⟨AK,cK,A,c,xs,rfl,rfl,hS,hR,hP,(by rw[v0];exact hX),bm,dd.out,(by show KS.length≤200;omega),(by show(xs.map (·.1)).length≤200;rw[v0];omega)⟩
  have cI:Hid (r=none):=Q1 (by rw[eU.out,HL.out];simp only;rw[if_neg mI]);have Rb:(((l2.length-li.length:Nat):Int)==(SZ:Int))=false:=by simp;omega
  have gR:=xS hR hP false (.inl rfl);go_wp2_with(with_reducible refine h_A ?_);refine gR.mono ?_;rintro e w7 ⟨rfl,rfl⟩;go_wp2_with(with_reducible refine h_A ?_);rw[cI.out];exact⟨rfl,rfl,bm⟩
 have qqcr:=();exact Z2u_
theorem VI(f:Nat)(bO:Qx f)(d n:Nat)(F:Nat→Prop)(B pb vb xb:Nat)(v:Value)(l:List UInt8)(a w:World)(hd:d+1+f=7)(mw:MPre w a F B pb vb xb n v l 169):
  Calls prog 184 #[.pointer (some ⟨pb,0,none⟩),.pointer (some ⟨xb,0,none⟩),.int .i64 (d:Int)] w (zcF a F B pb vb xb v 169 (j5 (yz f) false n l)):=Jl 169 false (.inr ⟨rfl,rfl⟩) f bO d n F B pb vb xb v l a w hd mw
theorem zbq(f:Nat)(bO:Qx f)(d n:Nat)(F:Nat→Prop)(B pb vb xb:Nat)(v:Value)(l:List UInt8)(a w:World)(hd:d+1+f=7)(mw:MPre w a F B pb vb xb n v l 168):
  Calls prog 184 #[.pointer (some ⟨pb,0,none⟩),.pointer (some ⟨xb,0,none⟩),.int .i64 (d:Int)] w (zcF a F B pb vb xb v 168 (j5 (yz f) true n l)):=Jl 168 true (.inl ⟨rfl,rfl⟩) f bO d n F B pb vb xb v l a w hd mw
theorem RV.leaf(w:World)(F:Nat→Prop)(k n:Nat)(s:List UInt8)(hk:k<256)(hn:n<18446744073709551616)(hs:s.length≤140737488351232):RV w F (.mk k n s [] []) ⟨none,0,none,0⟩:=
 ⟨[],hk,hn,hs,RdX.nil _ _ _ _ _ WX,fun k hk=>(by cases hk),(by show(0:Nat)≤_;omega),(by show(0:Nat)≤_;omega),RdX.nil _ _ _ _ _ WX,rfl,fun p hp=>by cases hp⟩
theorem ju(f n:Nat)(l:List UInt8)(bad:Bool)(h:n=0∨(mnum l bad 1).2.2=true∨f=0):qY f n l bad=none:=by
 unfold qY
 cases bad
 ·rw[if_neg WJ]
  cases f with
  | zero=>rw[yz]
  | succ f=>
   have h':n=0∨(mnum l false 1).2.2=true:=by
    rcases h with h|h|h
    ·exact .inl h
    ·exact .inr h
    cases h
   rw[yz,if_pos h']
 exact if_pos rfl
theorem Jj{f:Nat}{l1:List UInt8}(h:(k,l1,false)=mnum l false 1)(hn:n≠0):yz (f+1) n l=
  if k=240 then some (.mk 240 0 [] [] [],l1,n-1)
  else if k=8∨k=2 then(if(mnum l1 false 1).2.2=true then none else some (.mk k (mnum l1 false 1).1 [] [] [],(mnum l1 false 1).2.1,n-1))
  else if k=50∨k=49 then(if(mnum l1 false 8).2.2=true then none else some (.mk k (mnum l1 false 8).1 [] [] [],(mnum l1 false 8).2.1,n-1))
  else if k=149 then(if(zT l1 false 2 4096).2.2=true then none else some (.mk 149 0 (zT l1 false 2 4096).1 [] [],(zT l1 false 2 4096).2.1,n-1))
  else if k=160 then(if(zT l1 false 4 4096).2.2=true then none else some (.mk 160 0 (zT l1 false 4 4096).1 [] [],(zT l1 false 4 4096).2.1,n-1))
  else if k=168∨k=169 then(j5 (yz f) (decide (k=168)) (n-1) l1).map (fun q=>(.mk k 0 [] q.1 q.2.1,q.2.2))else none:=by
 have h':¬(n=0∨(mnum l false 1).2.2=true):=by
  rw[←h];rintro(e|e)
  ·exact hn e
  cases e
 by_cases hk:k=168∨k=169
 ·have hv:=JW (f:=f) h' (by rw[←h];exact hk);rw[←h]at hv;rw[hv,if_neg Wq,if_neg Wq,if_neg Wq,if_neg Wq,if_neg Wq,if_pos hk]
 rw[yz,if_neg h',←h];simp only;rw[if_neg hk,if_neg hk]
theorem VF:Qx 0:=by
 have qq8:=();exact Z3_
theorem VG(f:Nat)(bO:Qx f):Qx (f+1):=by
 exact Z3_
theorem Jk:∀f,Qx f
 | 0=>VF
 | f+1=>VG f (Jk f)
abbrev getD:Nat:=176
def vget(l:List UInt8):Vl×Nat×Int:=match yz 6 200 l with
 | some q=>if errV q.1=0 then(q.1,l.length-q.2.1.length,0)else(vl0,0,5)
 | none=>(vl0,0,5)
theorem zcD{x:Vl}{rest:List UInt8}(hv:VB x)(he:errV x=0):vget (vlB x++rest)=(x,(vlB x).length,0):=by
 obtain⟨hc,hm⟩:=j3 he
 have hd:xK 6 x=false:=by
  unfold errV at he;split at he
  ·omega
  rename_i h;simpa using h
 have h:=Jh x 6 200 rest hv hm hd (Vx _) hc;unfold vget;rw[h];simp only;rw[if_pos he];simp
theorem yS{w:World}{B B' size c:Nat}{A:Option Addr}{xs:List Value}(h:Rd w B size A n c xs)(hB:B≤B'):Rd w B' size A n c xs:=⟨h.len,h.cap,h.max,fun hn=>by
 obtain⟨b,off,e,hb,hc⟩:=h.at_ hn
 exact⟨b,off,e,kx hb hB,hc⟩⟩
def zdD(w:World)(r:Vl×Nat×Int)(e:Ending)(w':World):Prop:=∃h,e= .returned (.tuple #[.agg (vlV r.1 h),.int .i64 (r.2.1:Int),.int .i64 r.2.2])∧RV w' (FN w.heap.size w') r.1 h∧Below w.heap.size w w'
theorem zbm(A:Option Addr)(n c:Nat)(l:List UInt8)(w:World)(hb:RdB w w.heap.size A n c l)(hn:n≤140737488351240)(hT:UTabs w):
  Calls prog 162 #[.slice A n c] w (zdD w (vget l)):=by
 have AR:∀(fn:Fn) (first cap:Array Value) (w:World),(Instr.makeFunc fn first cap).run prog w= .ok (.func fn first cap) w:=fun _ _ _ _=>rfl
 obtain⟨p,w1,N4,GZ,lz,Ha⟩:=zg w #[.int .u8 0,.int .u64 0,.string ⟨#[]⟩,.slice none 0 0,.slice none 0 0] 78;obtain⟨q,w2,ej,bo,oH,Hc⟩:=zg w1 #[.int .i64 0] 3;obtain⟨r,w3,NN,cg,cj,Hh⟩:=zg w2 #[.int .i64 0] 45;have e1:p+1=q:=by rw[ej,GZ,N4];simp
 have e2:q+1=r:=by rw[NN,bo,ej];simp
 have e3:w3.heap.size=r+1:=by rw[cg,NN];simp
 have hB:=(Ha.trans ((Hc.mono Ha.size).trans (Hh.mono (q8 Ha.size Hc.size))));have Fy:w.heap.size≤p:=by omega
 have pp:=(lz.below Hc).below Hh;have FZ:=oH.below Hh;have bX:RdB w3 w3.heap.size A n c l:=yS (hb.below hB) hB.size;obtain⟨res,Bu⟩:∃x,x=vget l:=⟨_,rfl⟩
 rw[←Bu];have mC:=Q1 Bu;have ho:=qC A n c l w3 bX hn;have BC:l.length=n:=RdB.length hb;have UN:=hT.on hB;have wT:=hT;clear Bu Ha Hc Hh lz oH hb hT;go_enter_defers func162,ntmps162;go_upto_region 2 with fail;rw[←GZ,←bo,←cg,←N4,e1,e2];clear N4 GZ ej bo NN cg;have hqp:p<q:=by omega
 have NN:q<r:=by omega
 have ik:=cj.lt;clear e1 e2;go_wp2_with(with_reducible refine h_A ?_);refine ho.mono ?_;rintro e w4 ⟨ob,vb,rfl,pO,ig,B4,Hn⟩;have mp:=pp.below Hn;have sZ:=FZ.below Hn;have cQ:=cj.below Hn;have BF:=hB.trans (Hn.mono hB.size);have UU:=UN.on Hn;have oK:=Hn.size;clear ho pp FZ cj bX UN;have hz:=Box.new w4 #[.pointer (some ⟨ob,0,none⟩),.int .i64 200] 255;have cZ:=(Below.refl w4.heap.size w4).alloc (Vx _) (.cells #[.pointer (some ⟨ob,0,none⟩),.int .i64 200] 255);go_wp2_with(with_reducible refine h_A ?_);obtain⟨pb,pg⟩:∃g,g=w4.heap.size:=⟨_,rfl⟩
 rw[←pg]at hz ⊢;have Le:=mp.below cZ;have pS:=sZ.below cZ;have dv:=cQ.below cZ;have gL:=B4.below cZ;have bc:=BF.trans (cZ.mono BF.size);have Ia:=UU.on cZ;have Gk:=cZ.size;have Wd:w4.heap.size≤pb:=by omega
 have te:=hz.lt;clear pg mp sZ cQ B4 cZ UU;generalize(w4.alloc (.cells #[.pointer (some ⟨ob,0,none⟩),.int .i64 200] 255))=w5 at*;have rJ:=Jk 6 1 200 (fun g=>w3.heap.size≤g∧g<w4.heap.size) w3.heap.size pb vb (.pointer (some ⟨ob,0,none⟩)) l false w5 rfl gL hz (fun h=>by omega) (fun g hg=>⟨hg.1,by omega⟩) Wq (Vx _);obtain⟨rr,B1⟩:∃x,x=yz 6 200 l:=⟨_,rfl⟩
 rw[show qY 6 200 l false=rr by rw[B1];rfl]at rJ;have mV:=Q1 B1;clear B1
 cases rr with
 | none=>
  have qq30:=()
  exact Zf_
 | some rq=>
  obtain⟨x,lq,nq⟩:=rq;have gu:=(ZP 6 200 l x lq nq mV.out.symm).1;have ND:Hid (res=if errV x=0 then(x,l.length-lq.length,0)else(vl0,0,5)):=Q1 (by rw[mC.out];unfold vget;rw[←mV.out]);go_wp2_with(with_reducible refine h_A ?_);refine rJ.mono ?_;rintro e w6 ⟨h,rfl,hV,bE,Be,hK⟩;have M4:=hK.box Le Wq Wq;have wg:=hK.box pS Wq Wq;have md:=hK.box dv Wq Wq;have en:=bc.trans (hK.1.mono Wq);have Cn:=hK.size;unfold vlV;clear rJ Le pS dv hz gL hK;go_wp2_with(with_reducible refine h_B ?_);refine zc (zn (v:=.agg #[.int .u8 (x.kind:Int),.int .u64 (x.n:Int),.string (str x.s),.slice h.A1 x.keys.length h.c1,.slice h.A2 x.list.length h.c2]) (vs:=[.int .u8 (x.kind:Int),.int .u64 (x.n:Int),.string (str x.s),.slice h.A1 x.keys.length h.c1,.slice h.A2 x.list.length h.c2]) rfl rfl rfl rfl M4 rfl Wj Wz WQ #[.int .u8 (x.kind:Int),.int .u64 (x.n:Int),.string (str x.s),.slice h.A1 x.keys.length h.c1,.slice h.A2 x.list.length h.c2] Wz ?_);intro w7 wR H7 _;have FL:=wg.grown H7 (sne Wq);have Ah:=md.grown H7 (sne Wq);have fd:=Be.grown H7 (sne Wq);have BJ:=bE.kept H7 (fun g hg bH=>by injection hg with hg;omega);have lS:=en.grown H7 Wq Wx;have u7:=H7.size;have On:RV w7 (FN w5.heap.size w7) x h:=(hV.keep (fun g hg=>H7.block g hg.2 Hx) u7).mono (fun g hg=>⟨hg.1,kx hg.2 u7⟩);have Ot:=wT.on lS;have b7:=Yd x h w7 (On.mono (fun g hg=>hg.2)) Ot;unfold vlV at b7;clear M4 wg md Be bE en H7 hV;have fB:=BJ.len;have x0:=wR.c0;have x1:=wR.c1;have x2:=wR.c2;have x3:=wR.c3;have x4:=wR.c4;by_cases he:errV x=0
  ·exact Zf_
  have qq2z:=();exact Zf_
def txC(s:List UInt8):List Value:=[txV s]
theorem zcP:RecShape txC 1 where
 len _:=rfl
 one a u hu:=by simp[txC]at hu;subst hu;rfl
 pos:=by omega
theorem zap(l:List (List UInt8)):rowC txC l=l.map txV:=by
 induction l with
 | nil=>rfl
 | cons x l ih=>rw[jn,ih];rfl
def zdr(w:World)(F:Nat→Prop)(B b n:Nat)(r:Option (Vl×List UInt8×Nat))(e:Ending)(w':World):Prop:=
 ∃(x:Vl) (h:VH) (m:Int) (ok:Bool) (l2:List UInt8) (sC:Bool),e= .returned (.tuple #[.agg (vlV x h),.int .i64 m,.bool ok])∧RV w' (FN w.heap.size w') x h∧Qrd F w' b l2 sC∧KP B b b w w'∧ -1≤m∧m<(n:Int)∧(ok=true→0≤m)∧
  ∀q,r=some q→x=q.1∧l2=q.2.1∧m=(q.2.2:Int)∧ok=true∧sC=false
def Js(f:Nat):Prop:=∀(d n:Nat) (F:Nat→Prop) (B b:Nat) (l:List UInt8) (bad:Bool) (w:World),d+f=7→Qrd F w b l bad→(∀g,F g→B≤g∧g<w.heap.size)→n≤200→
  Calls prog 165 #[.pointer (some ⟨b,0,none⟩),.int .i64 (d:Int),.int .i64 (n:Int)] w (zdr w F B b n (qY f n l bad))
def RMid(F:Nat→Prop)(B b n rb xb:Nat)(w:World)(r:Option (Vl×List UInt8×Nat))(s2:Value)(wx:World):Prop:=
 ∃(x:Vl) (h:VH) (m:Nat) (l2:List UInt8) (sC:Bool),s2= .int .i64 (m:Int)∧Box wx xb 78 (vlV x h)∧RV wx (FN (xb+1) wx) x h∧Qrd F wx b l2 sC∧KP B b b w wx∧Box wx rb 78 #[.int .u8 0,.int .u64 0,.string ⟨#[]⟩,.slice none 0 0,.slice none 0 0]∧m<n∧
  Hid (∀q,r=some q→x=q.1∧l2=q.2.1∧m=q.2.2∧sC=false)
theorem zaq(x:Vl)(h:VH):∀u∈ [Value.int .u8 (x.kind:Int),.int .u64 (x.n:Int),.string (str x.s),.slice h.A1 x.keys.length h.c1,.slice h.A2 x.list.length h.c2],u.oneCell'=true:=by
 intro u hu;simp at hu;rcases hu with rfl|rfl|rfl|rfl|rfl<;>rfl
theorem Kk:Js 0:=by
 have qq3:=();exact Z2_
theorem Yx{rd:Nat→List UInt8→Option (Vl×List UInt8×Nat)}{m:Bool}{c:Nat}{p:List (List UInt8)×List Vl×List UInt8×Nat}(h:xm rd m (c+1) n l=some p):
  (m=true→(zT l false 1 255).2.2=false)∧∃r,rd n (if m then(zT l false 1 255).2.1 else l)=some r∧∃q,xm rd m c r.2.2 r.2.1=some q∧p=(if m then(zT l false 1 255).1::q.1 else q.1,r.1::q.2.1,q.2.2):=by
 have hb:m=true→(zT l false 1 255).2.2=false:=fun hm=>by
  subst hm
  cases hb:(zT l false 1 255).2.2
  ·rfl
  rw[XH hb]at h;cases h
 refine⟨hb,?_⟩
 cases hr:rd n (if m then(zT l false 1 255).2.1 else l)with
 | none=>rw[vG hr]at h;cases h
 | some r=>
  rw[vH hb hr]at h;obtain⟨q,h1,h2⟩:=Option.map_eq_some_iff.1 h;exact⟨r,rfl,q,h1,h2.symm⟩
theorem QG{f:Nat}{bad:Bool}{q:Vl×List UInt8×Nat}(h:qY (f+1) n l bad=some q){l1:List UInt8}{b1:Bool}(hq:(k,l1,b1)=mnum l bad 1):bad=false∧b1=false:=by
 unfold qY at h
 cases bad
 ·rw[if_neg WJ,yz]at h;refine⟨rfl,?_⟩;split at h
  ·cases h
  rename_i BO
  rw[←hq]at BO
  cases b1
  ·rfl
  exact absurd (.inr rfl) BO
 rw[if_pos rfl]at h;cases h
theorem Kl(f:Nat)(bO:Js f):Js (f+1):=by
 exact Z2_
theorem X0:∀f,Js f
 | 0=>Kk
 | f+1=>Kl f (X0 f)
def swN(b:Nat):Nat×Nat×Nat:=
 if b<128 then(1,128,191)else if 194≤b∧b≤223 then(2,128,191)
 else if 224≤b∧b≤239 then(3,if b=224 then 160 else 128,if b=237 then 159 else 191)
 else if 240≤b∧b≤244 then(4,if b=240 then 144 else 128,if b=244 then 143 else 191)else(0,128,191)
def okB(l:List UInt8)(lo hi k:Nat):Prop:=if k=1 then lo≤yh l k∧yh l k≤hi else 128≤yh l k∧yh l k≤191
theorem j7(l:List UInt8)(h:swN (yh l 0)=(n,lo,hi)):xD l=n∨(xD l=0∧((l.length<n)∨∃k,1≤k∧k<n∧¬okB l lo hi k)):=by
 exact Z10_
theorem XM(l:List UInt8)(h:swN (yh l 0)=(n,lo,hi))(hs:xD l=n)(hn:n≠0):∀k,1≤k→k<n→okB l lo hi k:=by
 have qq6g:=();exact Z10_
theorem sw_1(h:swN b=(n,lo,hi))(c:b<128):n=1∧lo=128∧hi=191:=by
 unfold swN at h;rw[if_pos c]at h;exact Z66_
theorem sw_2(h:swN b=(n,lo,hi))(c:194≤b∧b≤223):n=2∧lo=128∧hi=191:=by
 unfold swN at h;rw[if_neg Wq,if_pos c]at h;exact Z66_
theorem sw_3(h:swN b=(n,lo,hi))(c:224≤b∧b≤239):n=3∧lo=(if b=224 then 160 else 128)∧hi=(if b=237 then 159 else 191):=by
 unfold swN at h;rw[if_neg Wq,if_neg Wq,if_pos c]at h;exact Z66_
theorem sw_4(h:swN b=(n,lo,hi))(c:240≤b∧b≤244):n=4∧lo=(if b=240 then 144 else 128)∧hi=(if b=244 then 143 else 191):=by
 unfold swN at h;rw[if_neg Wq,if_neg Wq,if_neg Wq,if_pos c]at h;exact Z66_
theorem sw_0(h:swN b=(n,lo,hi))(c1:¬b<128)(c2:¬(194≤b∧b≤223))(c3:¬(224≤b∧b≤239))(c4:¬(240≤b∧b≤244)):n=0∧lo=128∧hi=191:=by
 unfold swN at h;rw[if_neg c1,if_neg c2,if_neg c3,if_neg c4]at h;exact Z66_
theorem zdG(h:swN b=(n,lo,hi)):n≤4∧lo≤160∧hi≤191:=by
 unfold swN at h;repeat' split at h
 all_goals(injection h with h1 h;injection h with h2 h3;omega)
theorem Jp(s:List UInt8){i:Nat}(_hi:i<s.length):∀h:i<(str s).size,((str s)[i]'h).toNat=yh s i:=fun h=>by
 have h':i<s.length:=h;unfold yh;rw[List.getElem?_eq_getElem h'];rfl
theorem VT(s:List UInt8)(w:World)(hs:s.length≤140737488351232):
  Calls prog 166 #[.string (str s)] w fun e w'=>e= .returned (.bool (zJ s))∧w=w':=by
 have Bw:(str s).size=s.length:=rfl;go_enter func166,ntmps166;go_wp2_with(with_reducible refine h_A ?_);go_loopw [3] (fun s3 wr=>∃at_:Nat,at_≤s.length∧s3= .int .i64 at_∧w=wr∧Hid (zJ (s.drop at_)=zJ s)) (fun s3 _=>s.length-(ky s3).toNat)
 case atStart=>exact⟨0,by omega,rfl,rfl,Q1 rfl⟩
 obtain⟨at_,hp,rfl,rfl,HC⟩:=hrel;by_cases hlt:at_<s.length
 ·have g1:(at_:Int)<(s.length:Int):=by omega
  have dT:=Jp s hlt;have cY:yh (s.drop at_) 0=yh s at_:=by rw[kf];rfl
  have OS:=qG s at_;obtain⟨b,hb⟩:∃b,yh s at_=b:=⟨_,rfl⟩
  rw[hb]at dT cY OS;clear hb;obtain⟨⟨n,lo,hi⟩,G1⟩:∃x,swN b=x:=⟨_,rfl⟩
  have Gw:=Q1 G1;have E8:=Q1 (show swN (yh (s.drop at_) 0)=(n,lo,hi) by rw[cY];exact G1);clear cY G1;go_upto_block 2 with fail;go_cut [5,6,7]from 10 to 81 (fun s5 s6 s7 wx=>s5= .int .i64 n∧s6= .int .i64 lo∧s7= .int .i64 hi∧w=wx)
  case first=>
   as_aux_lemma=>
   by_cases c1:b<128
   ·(have a1:(b:Int)<128:=by omega);obtain⟨rfl,rfl,rfl⟩:=sw_1 Gw.out c1;exact Z68_
   (have a1:¬(b:Int)<128:=by omega);by_cases c2:194≤b∧b≤223
   ·(have a2:(194:Int)≤(b:Int):=by omega);(have a3:(b:Int)≤223:=by omega);obtain⟨rfl,rfl,rfl⟩:=sw_2 Gw.out c2;exact Z68_
   by_cases c3:224≤b∧b≤239
   ·have qq9e:=();exact Z1w_
   by_cases c4:240≤b∧b≤244
   ·exact Z1w_
   obtain⟨rfl,rfl,rfl⟩:=sw_0 Gw.out c1 c2 c3 c4;by_cases f1:b<194
   ·(have a2:¬(194:Int)≤(b:Int):=by omega);(have a4:¬(224:Int)≤(b:Int):=by omega);(have a6:¬(240:Int)≤(b:Int):=by omega);exact Z68_
   (have a2:(194:Int)≤(b:Int):=by omega);(have a3:¬(b:Int)≤223:=by omega);(have a4:(224:Int)≤(b:Int):=by omega);(have a5:¬(b:Int)≤239:=by omega);(have a6:(240:Int)≤(b:Int):=by omega);(have a7:¬(b:Int)≤244:=by omega);exact Z68_
  as_aux_lemma=>
  obtain⟨rfl,rfl,rfl,rfl⟩:=hcut;have uD:s.drop at_≠ []:=by intro e;have:=congrArg List.length e;rw[v1]at this;simp at this;omega
  have hbq:=zdG Gw.out;have HL:Hid ((s.drop at_).length=s.length-at_):=Q1 (v1 ..);have d7:xD (s.drop at_)=0→zJ s=false:=fun h=>by rw[←HC.out,Yg uD h]
  by_cases oh:n=0
  ·have HF:Hid (zJ s=false):=Q1 (d7 (by
    rcases j7 _ E8.out with h|h
    ·omega
    ·exact h.1))
   subst oh;exact Z62_
  have a1:((n:Int)==0)=false:=by simp;omega
  by_cases gu:at_+n≤s.length
  ·(have a2:¬(s.length:Int)<(at_:Int)+(n:Int):=by omega);have fE:=Q1 uD;have mA:=Q1 d7;clear uD d7;go_wp2_with(with_reducible refine h_A ?_);go_loopw [6,7,8] (fun s6 s7 s8 wr=>∃k L H:Nat,1≤k∧k≤n∧s6= .int .i64 L∧s7= .int .i64 H∧s8= .int .i64 k∧w=wr∧Hid (k<n→(okB (s.drop at_) lo hi k↔L≤yh s (at_+k)∧yh s (at_+k)≤H))∧Hid (∀j,1≤j→j<k→okB (s.drop at_) lo hi j)) (fun _ _ s8 _=>n-(ky s8).toNat)
   case atStart=>exact⟨1,lo,hi,by omega,by omega,rfl,rfl,rfl,rfl,Q1 (fun _=>by unfold okB;rw[if_pos rfl,kf]),Q1 (fun j h1 h2=>by omega)⟩
   as_aux_lemma=>
   obtain⟨k,L,H,dM,Bk,rfl,rfl,rfl,rfl,HO,HA⟩:=hrel;by_cases f8:k<n
   ·(have g2:(k:Int)<(n:Int):=by omega);(have iL:at_+k<s.length:=by omega);have R9:=Jp s iL;have M6:=qG s (at_+k);have NI:=Q1 (HO.out f8);(obtain⟨d,hd⟩:∃d,yh s (at_+k)=d:=⟨_,rfl⟩);rw[hd]at R9 M6 NI;clear hd;(have e0:((at_:Int)+(k:Int)).toNat=at_+k:=by omega);(have h0:0≤(at_:Int)+(k:Int)∧(at_:Int)+(k:Int)<(s.length:Int):=by omega);by_cases q1:d<L
    ·have a3:(d:Int)<(L:Int):=by omega
     have HF:Hid (zJ s=false):=Q1 (mA.out (by
      rcases j7 _ E8.out with h|h
      ·have:=(NI.out.1 (XM _ E8.out h oh k dM f8)).1;omega
      ·exact h.1))
     exact Z62_
    (have a3:¬(d:Int)<(L:Int):=by omega);by_cases q2:H<d
    ·have a4:(H:Int)<(d:Int):=by omega
     have HF:Hid (zJ s=false):=Q1 (mA.out (by
      rcases j7 _ E8.out with h|h
      ·have:=(NI.out.1 (XM _ E8.out h oh k dM f8)).2;omega
      ·exact h.1))
     exact Z62_
    (have a4:¬(H:Int)<(d:Int):=by omega);have bJ:=NI.out.2 ⟨by omega,by omega⟩
    have Me:Hid (∀j,1≤j→j<k+1→okB (s.drop at_) lo hi j):=Q1 (fun j h1 h2=>by
     by_cases e:j<k
     ·exact HA.out j h1 e
     ·obtain rfl:j=k:=by omega
      exact bJ)
    clear bJ;go_wp2_with(with_reducible refine h_A ?_);exact⟨⟨k+1,128,191,by omega,by omega,by first|rfl|trivial,by first|rfl|trivial,by go_num,by first|rfl|trivial,Q1 (fun _=>by unfold okB;rw[if_neg Wq,kf]),Me⟩,by simp[ky];omega⟩
   have g2:¬(k:Int)<(n:Int):=by omega
   have bV:xD (s.drop at_)=n:=by
    rcases j7 _ E8.out with h|⟨_,h|⟨j,h1,h2,h3⟩⟩
    ·exact h
    ·rw[HL.out]at h;omega
    exact absurd (HA.out j h1 Wq) h3
   have cL:Hid (zJ (s.drop (at_+n))=zJ s):=Q1 (by rw[←HC.out,vD fE.out Wq,List.drop_drop,bV]);clear bV;go_wp2_with(with_reducible refine h_A ?_);exact⟨⟨at_+n,by omega,by go_num,by first|rfl|trivial,cL⟩,by simp[ky];omega⟩
  have a2:(s.length:Int)<(at_:Int)+(n:Int):=by omega
  have HF:Hid (zJ s=false):=Q1 (d7 (by
   rcases j7 _ E8.out with h|h
   ·have:=ZI uD;rw[HL.out]at this;omega
   ·exact h.1))
  clear uD d7;exact Z62_
 have g1:¬(at_:Int)<(s.length:Int):=by omega
 have HF:Hid (zJ s=true):=Q1 (by rw[←HC.out,vz Wq];rfl);exact Z62_
end Go.PH
