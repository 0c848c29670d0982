/- Parts. -/
import Derived.Test.YtfbkameikhgciaaGreatDoorMg18
import Derived.Test.YtfbkameikhgciaaGreatDoorMg19
set_option linter.all false
set_option maxRecDepth 20000
set_option maxHeartbeats 8000000
open Go.Lib renaming hid → KL
open List renaming getElem?_eq_getElem → K2, getElem_toArray → q0, getElem_cons_zero → q2, setIfInBounds_toArray → q3, set_cons_zero → q5, set_cons_succ → q6, take_of_length_le → q7, map_drop → q8, getElem?_map → q9, length_drop → kI, length_take_le' → kv, take_succ_eq_append_getElem → ky
open Nat renaming le_refl → K0, mul_one → K1, lt_of_lt_of_le → Wb
open Go.RowKit renaming intOf → KS
namespace Go.PH
open Go.RowKit Go.Proofs Go.Proofs.Tryz
variable {b l : List UInt8} {B gb lb : Nat} {F U V : Nat → Prop} {w w' : World}
theorem vp:∀{b:Bool} {n:Int} {s:ByteArray} {f:Int} {g h:ByteArray} {A:Option Addr} {p q:Nat} {k m:Int} {t:ByteArray} {B C:Option Addr} {u v x y:Nat},∀z∈ [Value.bool b,.int .u64 n,.string s,.int .u32 f,.string g,.string h,.slice A p q,.int .u8 k,.int .u64 m,.string t,.slice B u v,.slice C x y],z.oneCell'=true:=by
 intro b n s f g h A p q k m t B C u v x y z hz;simp at hz;rcases hz with rfl|rfl|rfl|rfl|rfl|rfl|rfl|rfl|rfl|rfl|rfl|rfl<;>rfl
def agF(a:Ag):Ag:={a with is:=false}
def Z1(w:World)(F:Nat→Prop)(kd:UInt8)(l:List UInt8)(e:Ending)(w':World):Prop:=∃(a:Ag) (h:AH) (A2:Option Addr) (n2 c2:Nat) (l2:List UInt8),e= .returned (.tuple #[.agg (agV a h),.slice A2 n2 c2])∧RA w' (FN w.heap.size w') a h∧RdX w' (fun g=>F g∨FN w.heap.size w' g) 1 A2 n2 c2 (l2.map u8v)∧n2≤100000000∧Below w.heap.size w w'∧a.is=false∧
 ∀(a':Ag) (rest:List UInt8),l=byA kd a'++rest→okA kd a'=true→AB a'→a=agF a'∧l2=rest
theorem YZ(kd:UInt8)(k:Nat)(hk:k=1∨k=2∨k=4)(dT:∀a,byA kd a=be k a.n)(bJ:∀a,okA kd a=true→a.n<256 ^ k∧zy a (agN a)=true)(l:List UInt8):
  ∀(a':Ag) (rest:List UInt8),l=byA kd a'++rest→okA kd a'=true→AB a'→(⟨false,(mnum l false (k:Int)).1,[],xd0,[],vl0⟩:Ag)=agF a'∧(mnum l false (k:Int)).2.1=rest:=by
 intro a' rest hl l7 _;obtain⟨h1,h2⟩:=bJ a' l7;rw[dT]at hl;have e1:=qX k Wq a'.n h1 rest;subst hl;rw[e1];have e2:a'=agN a':=(zL _ _).1 h2;refine⟨?_,rfl⟩;rw[e2];rfl
theorem Jr(kd:UInt8)(k:Nat)(hk:k=1∨k=2)(dT:∀a,byA kd a=zP [] a.s (k:Int))(bJ:∀a,okA kd a=true→zE a.s.length (k:Int)=0∧zy a (agS a)=true)(l:List UInt8):
  ∀(a':Ag) (rest:List UInt8),l=byA kd a'++rest→okA kd a'=true→AB a'→(⟨false,0,(zT l false (k:Int) 65535).1,xd0,[],vl0⟩:Ag)=agF a'∧(zT l false (k:Int) 65535).2.1=rest:=by
 intro a' rest hl l7 _;obtain⟨h1,h2⟩:=bJ a' l7;obtain⟨h3,h4⟩:=vK hk h1;rw[dT,h4]at hl;have h5:256 ^ k≤65536:=by rcases hk with rfl|rfl<;>decide
 have e1:=jt k Wq a'.s rest 65535 h3 Wq;rw[show((65535:Nat):Int)=65535 from rfl]at e1;subst hl;rw[e1];have e2:a'=agS a':=(zL _ _).1 h2;refine⟨?_,rfl⟩;rw[e2];rfl
theorem Qrd.rdx{b:Nat}{bad:Bool}(h:Qrd F w b l bad):∃A c,w.cell? ⟨b,0,none⟩=some (.slice A l.length c)∧RdX w F 1 A l.length c (l.map u8v):=by
 obtain⟨A,n,c,h0,h1,_,_,hr,_,_,_,hF⟩:=h;have hl:=RdB.length hr;rw[hl];exact⟨A,c,h0,hr,fun _ g hg=>hF g hg⟩
theorem zae(A:Option Addr)(n c:Nat)(l:List UInt8)(w:World)(hr:RdX w F 1 A n c (l.map u8v))(hF:∀g,F g→g<w.heap.size)(hn:n≤100000000):
  Calls prog 112 #[.int .u8 110,.slice A n c] w (Z1 w F 110 l):=by
 have qq2m:=();exact Zc_
theorem zaf(A:Option Addr)(n c:Nat)(l:List UInt8)(w:World)(hr:RdX w F 1 A n c (l.map u8v))(hF:∀g,F g→g<w.heap.size)(hn:n≤100000000):
  Calls prog 112 #[.int .u8 119,.slice A n c] w (Z1 w F 119 l):=by
 have qq2n:=();exact Zc_
theorem zag(A:Option Addr)(n c:Nat)(l:List UInt8)(w:World)(hr:RdX w F 1 A n c (l.map u8v))(hF:∀g,F g→g<w.heap.size)(hn:n≤100000000):
  Calls prog 112 #[.int .u8 100,.slice A n c] w (Z1 w F 100 l):=by
 have qq2o:=();exact Zc_
theorem zah(A:Option Addr)(n c:Nat)(l:List UInt8)(w:World)(hr:RdX w F 1 A n c (l.map u8v))(hF:∀g,F g→g<w.heap.size)(hn:n≤100000000):
  Calls prog 112 #[.int .u8 115,.slice A n c] w (Z1 w F 115 l):=by
 exact Zc_
theorem zai(A:Option Addr)(n c:Nat)(l:List UInt8)(w:World)(hr:RdX w F 1 A n c (l.map u8v))(hF:∀g,F g→g<w.heap.size)(hn:n≤100000000):
  Calls prog 112 #[.int .u8 116,.slice A n c] w (Z1 w F 116 l):=by
 have qq2l:=();exact Zc_
theorem RdX.cut{A:Option Addr}{n c:Nat}(h:RdX w F 1 A n c (l.map u8v))(k:Nat)(hk:k≤n):RdX w F 1 (cutA A 1 k c) (n-k) (c-k) ((l.drop k).map u8v):=by
 have BC:l.length=n:=RdB.length (show RdB w w.heap.size A n c l from h.1);refine⟨?_,fun hp g hg=>h.2 Wq g (by rwa[jw]at hg)⟩;have h1:=kV h.1 k n c hk h.1.cap (K0 _) (K0 _);have e:((l.map u8v).take (n*1)).drop (k*1)=(l.drop k).map u8v:=by rw[K1,K1,q7 Hz,q8]
 rw[e]at h1;exact h1
theorem zbI(A:Option Addr)(n c:Nat)(l:List UInt8)(w:World)(hr:RdX w F 1 A n c (l.map u8v))(hF:∀g,F g→g<w.heap.size)(hn:n≤100000000):
  Calls prog 112 #[.int .u8 98,.slice A n c] w (Z1 w F 98 l):=by
 have qq2j:=();exact Zb_
theorem zaj(A:Option Addr)(n c:Nat)(l:List UInt8)(w:World)(hr:RdX w F 1 A n c (l.map u8v))(hF:∀g,F g→g<w.heap.size)(hn:n≤100000000):
  Calls prog 112 #[.int .u8 120,.slice A n c] w (Z1 w F 120 l):=by
 have qq2i:=();exact Zb_
theorem zak(A:Option Addr)(n c:Nat)(l:List UInt8)(w:World)(hr:RdX w F 1 A n c (l.map u8v))(hF:∀g,F g→g<w.heap.size)(hn:n≤100000000):
  Calls prog 112 #[.int .u8 114,.slice A n c] w (Z1 w F 114 l):=by
 exact Zb_
theorem zal(A:Option Addr)(n c:Nat)(l:List UInt8)(w:World)(hr:RdX w F 1 A n c (l.map u8v))(hF:∀g,F g→g<w.heap.size)(hn:n≤100000000):
  Calls prog 112 #[.int .u8 118,.slice A n c] w (Z1 w F 118 l):=by
 have qq2h:=();exact Zb_
theorem zam(kd:UInt8)(hk:kd∈jX)(A:Option Addr)(n c:Nat)(l:List UInt8)(w:World)(hr:RdX w F 1 A n c (l.map u8v))(hF:∀g,F g→g<w.heap.size)(hn:n≤100000000):
  Calls prog 112 #[.int .u8 (kd.toNat:Int),.slice A n c] w (Z1 w F kd l):=by
 unfold jX at hk;simp only[List.mem_cons,List.not_mem_nil,or_false]at hk;rcases hk with rfl|rfl|rfl|rfl|rfl|rfl|rfl|rfl|rfl
 ·exact zbI A n c l w hr hF hn
 ·exact zae A n c l w hr hF hn
 ·exact zaf A n c l w hr hF hn
 ·exact zag A n c l w hr hF hn
 ·exact zah A n c l w hr hF hn
 ·exact zai A n c l w hr hF hn
 ·exact zaj A n c l w hr hF hn
 ·exact zak A n c l w hr hF hn
 exact zal A n c l w hr hF hn
theorem XZ{p q:UInt8}{r:List UInt8}(h:l=p::q::r):mnum l false 2=(256*p.toNat+q.toNat,r,false):=by
 rw[qE WJ];have e:=xp (l:=l) (n:=2) (by rw[h];simp);rw[show((2:Nat):Int)=2 from rfl]at e;rw[e,h];simp[unbe]
theorem zbH{x y:UInt8}{r:List UInt8}(hb:b=x::y::r){p q:UInt8}(h:b.drop (atM x.toNat)=p::q::l){i:Nat}{m:Mt}(hm:Told b m)(hi:i<m.args.length):m.args[i].is=decide (q.toNat / 2 ^ i % 2=1):=by
 have h1:=XZ h;have h2:=VO hb h1 hm hi;obtain⟨_,_,_,_,h5⟩:=qZ hb hm;rw[h1]at h5;injection h5 with h5 _
 have h3:zF (m.args.map toSA)<256:=by
  have h4:=xq (m.args.map toSA);have h6:2 ^ (m.args.map toSA).length≤2 ^ 3:=Nat.pow_le_pow_right Wq (by rw[List.length_map];exact(vk hm).2);omega
 have h0:p.toNat=0:=by omega
 rw[h0,Nat.mul_zero,Nat.zero_add]at h2;exact h2
theorem zdH(q:UInt8)(i:Nat)(hi:i≤3):((q.toNat:Int) / 2 ^ i % 2==1)=decide (q.toNat / 2 ^ i % 2=1):=by
 have e:((q.toNat:Int) / 2 ^ i)=((q.toNat / 2 ^ i:Nat):Int):=by rw[Int.natCast_ediv];norm_cast
 rw[e];generalize q.toNat / 2 ^ i=t at*;by_cases h1:t % 2=1
 ·rw[decide_eq_true h1];simp;omega
 rw[decide_eq_false h1];simp;omega
theorem zad(A:Option Addr)(n c:Nat)(b:List UInt8)(w:World)(hr:RdB w w.heap.size A n c b)(hn:n≤20000):Calls prog 91 #[.slice A n c] w (zcs w b):=by
 obtain⟨zb,w0,bD,bo,hz,Hy⟩:=yR w #[.int .u8 0,.int .u8 0,.bool false,.slice none 0 0] 106;have sX:w.heap.size≤zb:=by omega
 have BC:b.length=n:=RdB.length hr;by_cases h2:n<2
 ·have qqay:=();exact Z28_
 have g2:¬(n:Int)<2:=by omega
 have g3:(1:Int)<(n:Int):=by omega
 have g4:(0:Int)<(n:Int):=by omega
 have g5:0<n:=by omega
 have g6:1<n:=by omega
 obtain⟨x,y,r,dh⟩:∃x y r,b=x::y::r:=by
  match b,BC with
  | [],h=>simp at h;omega
  | [_],h=>simp at h;omega
  | x::y::r,_=>exact⟨x,y,r,rfl⟩
 obtain⟨g,off,hA,CQ,ez⟩:=hr.at_ Wq;subst hA
 have TKC:∀W,Below w.heap.size w W→∀j (hj:j<b.length),W.cell? ⟨g,off+j,none⟩=some (.int .u8 (b[j].toNat:Int)):=fun W hW j hj=>
  (hW.cell (p:=⟨g,off+j,none⟩) CQ).trans (by have:=ez j (u8v b[j]) (by rw[q9,K2 hj];rfl);rw[kT]at this;exact this)
 have FJ:∀W,Below w.heap.size w W→W.cell? ⟨g,off,none⟩=some (.int .u8 (x.toNat:Int))∧W.cell? ⟨g,off+1,none⟩=some (.int .u8 (y.toNat:Int)):=fun W hW=>by
  have h0:=TKC W hW 0 Wq;have h1:=TKC W hW 1 Wq;simp only[dh]at h0 h1;exact⟨h0,h1⟩
 have Ir:=KL TKC;clear TKC ez;have fm:=fun W=>XN x.toNat y.toNat W
 unfold VU at fm;obtain⟨⟨rc,rk,rn,kd⟩,nD,ee,BR⟩:=VQ x.toNat y.toNat;rw[nD,BR]at fm;unfold rrV at fm;simp only at ee fm;obtain⟨Uw,FH⟩:∃q,q=(ym x.toNat y.toNat).isSome:=⟨_,rfl⟩
 rw[←FH]at fm;have AU:=KL FH;have t3:=KL ee;have tX:(b.getD 0 0).toNat=x.toNat∧(b.getD 1 0).toNat=y.toNat:=by rw[dh];exact⟨rfl,rfl⟩
 have dB:=KL tX;have uF:=KL dh;obtain⟨bI,fo⟩:=qo x.toNat y.toNat;rw[←ee]at bI fo;have nS:=KL bI;clear tX dh BR FH nD ee bI;go_enter func91,ntmps91;go_upto_region 3 with fail;rw[←bD,←bo];clear bD bo;go_cut [4,5]from 19 to 28 (fun s4 s5 wx=>∃rb,s4= .pointer (some ⟨rb,0,none⟩)∧s5= .bool Uw∧zb<rb∧Box wx rb 127 #[.int .u8 (rc:Int),.int .u8 (rk:Int),.string (str rn),.string (str kd)]∧Box wx zb 106 #[.int .u8 0,.int .u8 0,.bool false,.slice none 0 0]∧Below w.heap.size w wx)
 case first=>
  refine zt (fun W:World=>Below w.heap.size w W) Wj ?_;have hS:Below w.heap.size w w0.drew:=za Hy 1;replace hz:Box w0.drew zb 106 #[.int .u8 0,.int .u8 0,.bool false,.slice none 0 0]:=hz;clear Hy;generalize w0.drew=wd at*;refine rg_t 0 hS ?_;simp only[q0,q2,Act.put,q3,q5,q6];refine rg_t 1 hS ?_;simp only[g_S];refine ze 2 (v:=?_) rfl Wj Wj Wj hS rfl ?_ ?_;rotate_left
  ·intro wS He;have k0:=(FJ wS He).1;go_simp;(with_reducible rfl)
  simp only[g_S];refine rg_t 3 hS ?_;simp only[g_S];refine rg_t 4 hS ?_;simp only[g_S];refine ze 5 (v:=?_) rfl Wj Wj Wj hS rfl ?_ ?_;rotate_left
  ·intro wS He;have k0:=(FJ wS He).2;go_simp;(with_reducible rfl)
  simp only[g_S];refine xP 6 10 rfl rfl Wj rfl rfl (fun K hK=>?_) (fun K hK=>?_)
  ·go_simp;refine(fm wd).mono ?_;rintro e w3 ⟨rfl,Hh⟩;have dN:=hS.trans (Hh.mono hS.size);have fR:=hz.below Hh;refine hK _ _ dN ?_;clear hK K;(try simp only[g_S]);clear hS Hh hz;refine rg_t 7 dN ?_;simp only[g_S];refine rg_t 8 dN ?_;simp only[g_S];refine rg_t 9 dN ?_;simp only[g_S];refine zj 10 rfl Wj rfl (fun K hK=>?_);obtain⟨rb,w4,cX,cg,hR,Hn⟩:=yR w3 #[.int .u8 0,.int .u8 0,.string ⟨#[]⟩,.string ⟨#[]⟩] 127;have tY:=dN.trans (Hn.mono dN.size);have eR:=fR.below Hn;(have NL:zb<rb:=by rw[cX];exact fR.lt);go_simp;rw[←cX,←cg];clear cX cg Hn fR;refine hK _ _ tY ?_;clear hK K;(try simp only[g_S]);refine zj 11 rfl Wj rfl (fun K hK=>?_);refine zK (v:=.agg #[.int .u8 (rc:Int),.int .u8 (rk:Int),.string (str rn),.string (str kd)]) (vs:=[.int .u8 (rc:Int),.int .u8 (rk:Int),.string (str rn),.string (str kd)]) rfl rfl rfl hR rfl Wj Wz vV #[.int .u8 (rc:Int),.int .u8 (rk:Int),.string (str rn),.string (str kd)] Wz ?_;intro w5 eo H9 _;have BN:=tY.grown H9 tY.size Wx;have fT:=eR.grown H9 (sne Wq);exact Z4k_
  obtain⟨rb,w4,cX,cg,hR,Hn⟩:=yR wd #[.int .u8 0,.int .u8 0,.string ⟨#[]⟩,.string ⟨#[]⟩] 127;have tY:=hS.trans (Hn.mono hS.size);have eR:=hz.below Hn;have NL:zb<rb:=by rw[cX];exact hz.lt
  go_simp;rw[←cX,←cg];clear cX cg Hn hz;refine hK _ _ tY ?_;clear hK K;try simp only[g_S]
  refine zj 6 rfl Wj rfl (fun K hK=>?_);go_simp;refine(fm w4).mono ?_;rintro e w3 ⟨rfl,Hh⟩;have dN:=tY.trans (Hh.mono tY.size);have fR:=eR.below Hh;have fw:=hR.below Hh;refine hK _ _ dN ?_;clear hK K;try simp only[g_S]
  clear hS Hh eR hR;refine rg_t 7 dN ?_;simp only[g_S];refine rg_t 8 dN ?_;simp only[g_S];refine rg_t 9 dN ?_;simp only[g_S];refine zj 11 rfl Wj rfl (fun K hK=>?_);refine zK (v:=.agg #[.int .u8 (rc:Int),.int .u8 (rk:Int),.string (str rn),.string (str kd)]) (vs:=[.int .u8 (rc:Int),.int .u8 (rk:Int),.string (str rn),.string (str kd)]) rfl rfl rfl fw rfl Wj Wz vV #[.int .u8 (rc:Int),.int .u8 (rk:Int),.string (str rn),.string (str kd)] Wz ?_;intro w5 eo H9 _;have BN:=dN.grown H9 dN.size Wx;have fT:=fR.grown H9 (sne Wq);exact Z4k_
 clear hz Hy fm;obtain⟨rb,rfl,rfl,NL,hR,hz,hB⟩:=hcut
 cases Uw
 ·have HFN:Hid (ym x.toNat y.toNat=none):=KL (by
   have h:=AU.out
   cases hf:ym x.toNat y.toNat
   ·rfl
   ·rw[hf]at h;cases h)
  clear AU;go_wp2_with(with_reducible refine h_B ?_);refine zc (zn (v:=.agg #[.int .u8 0,.int .u8 0,.bool false,.slice none 0 0]) (vs:=[.int .u8 0,.int .u8 0,.bool false,.slice none 0 0]) rfl rfl rfl rfl hz rfl Wj Wz qO #[.int .u8 0,.int .u8 0,.bool false,.slice none 0 0] Wz ?_);intro oq da BY _;have H3:=hB.grown BY hB.size Wx;go_wp2_with(with_reducible refine h_A ?_);refine zG rfl da rfl rfl underlying106 rfl Wj rfl ?_;exact⟨mt0,none,0,80,rfl,RM.zero _ _,H3,.inr (.inl ⟨by omega,by rw[dB.out.1,dB.out.2];exact HFN.out,rfl,rfl⟩)⟩
 have pV:Hid ((ym x.toNat y.toNat).isSome=true):=KL AU.out.symm;clear AU;go_upto_region 6 with fail;refine zt (fun W:World=>Below w.heap.size w W) Wj ?_;have hS:Below w.heap.size w wc.drew:=za hB 1;replace hz:Box wc.drew zb 106 #[.int .u8 0,.int .u8 0,.bool false,.slice none 0 0]:=hz;replace hR:Box wc.drew rb 127 #[.int .u8 (rc:Int),.int .u8 (rk:Int),.string (str rn),.string (str kd)]:=hR;clear hB;generalize wc.drew=wd at*;refine rg_t 0 hS ?_;simp only[q0,q2,Act.put,q3,q5,q6];refine rg_t 1 hS ?_;simp only[g_S];refine ze 2 (v:=?_) rfl Wj Wj Wj hS rfl ?_ ?_;rotate_left
 ·intro wS He;have k0:=(FJ wS He).1;go_simp;(with_reducible rfl)
 simp only[g_S];refine rg_t 3 hS ?_;simp only[g_S];refine rg_t 4 hS ?_;simp only[g_S];refine ze 5 (v:=?_) rfl Wj Wj Wj hS rfl ?_ ?_;rotate_left
 ·intro wS He;have k0:=(FJ wS He).2;go_simp;(with_reducible rfl)
 simp only[g_S];refine rg_t 6 hS ?_;simp only[g_S];refine zj 7 rfl Wj rfl (fun K hK=>?_);obtain⟨mb,w1,bD,bo,hm,gM⟩:=yR wd #[.int .u8 0,.int .u8 0,.bool false,.slice none 0 0] 106;have BG:=hS.trans (gM.mono hS.size);have cy:=hz.below gM;have iM:=hR.below gM;have pu:rb<mb:=by rw[bD];exact hR.lt
 go_simp;rw[←bD,←bo];clear bD bo gM hz hR;refine hK _ _ BG ?_;clear hK K;try simp only[g_S]
 refine zj 8 rfl Wj rfl (fun K hK=>?_);refine zK (v:=.agg #[.int .u8 (x.toNat:Int),.int .u8 (y.toNat:Int),.bool false,.slice none 0 0]) (vs:=[.int .u8 (x.toNat:Int),.int .u8 (y.toNat:Int),.bool false,.slice none 0 0]) rfl rfl rfl hm rfl Wj Wz qO #[.int .u8 (x.toNat:Int),.int .u8 (y.toNat:Int),.bool false,.slice none 0 0] Wz ?_;intro w2 dZ Hm _;have Hc:=BG.grown Hm BG.size Wx;have ep:=cy.grown Hm (sne Wq);have Bs:=iM.grown Hm (sne Wq);refine hK _ _ Hc ?_;clear hK K hS BG cy iM hm Hm;refine zz Wj ?_;have x0:=dZ.c0;go_upto_if 41 with fail;clear x0;go_cut [7]from 39 to 41 (fun s7 wx=>∃at_:Nat,s7= .int .i64 (at_:Int)∧Hid (at_=atM x.toNat)∧w2=wx)
 case first=>
  by_cases hc:x.toNat≤2
  ·(have g7:¬(2:Int)<(x.toNat:Int):=by omega);have lK:Hid (2=atM x.toNat):=KL (by unfold atM;rw[if_pos hc]);go_wp2_with(with_reducible refine h_A ?_);go_meet;exact⟨2,rfl,lK,rfl⟩
  have g7:(2:Int)<(x.toNat:Int):=by omega
  have lK:Hid (4=atM x.toNat):=KL (by unfold atM;rw[if_neg hc]);go_wp2_with(with_reducible refine h_A ?_);go_meet;exact⟨4,rfl,lK,rfl⟩
 obtain⟨at_,rfl,lK,rfl⟩:=hcut;have SF:at_≤4:=by rw[lK.out];unfold atM;split<;>omega
 by_cases nW:n<at_+2
 ·have g7:(n:Int)<(at_:Int)+2:=by omega
  have nh:Hid (∀m',yI m'=true→MB m'→putM m'≠b):=KL (fun m' h1 h2 h3=>by
   obtain⟨_,_,_,q4,_⟩:=qZ uF.out ⟨h1,h2,h3⟩;rw[←lK.out]at q4
   omega)
  clear nW;go_wp2_with(with_reducible refine h_B ?_);refine zc (zn (v:=.agg #[.int .u8 0,.int .u8 0,.bool false,.slice none 0 0]) (vs:=[.int .u8 0,.int .u8 0,.bool false,.slice none 0 0]) rfl rfl rfl rfl ep rfl Wj Wz qO #[.int .u8 0,.int .u8 0,.bool false,.slice none 0 0] Wz ?_);intro oq da BY _;have H3:=(Hc).grown BY (Hc).size Wx;exact Z4g_
 have g7:¬(n:Int)<(at_:Int)+2:=by omega
 have aj:at_+2≤n:=by omega
 have x0:=dZ.c0;clear nW;go_upto_if 50 with fail;clear x0;go_cut [7]from 48 to 55 (fun s7 wx=>∃sync:Bool,s7= .int .i64 (at_:Int)∧Hid (sync=kq x.toNat b)∧Box wx mb 106 #[.int .u8 (x.toNat:Int),.int .u8 (y.toNat:Int),.bool sync,.slice none 0 0]∧Box wx zb 106 #[.int .u8 0,.int .u8 0,.bool false,.slice none 0 0]∧Box wx rb 127 #[.int .u8 (rc:Int),.int .u8 (rk:Int),.string (str rn),.string (str kd)]∧Below w.heap.size w wx)
 case first=>
  by_cases hc:x.toNat≤2
  ·(have g8:¬(2:Int)<(x.toNat:Int):=by omega);have mg:Hid (false=kq x.toNat b):=KL (by unfold kq;rw[decide_eq_true hc];rfl);go_wp2_with(with_reducible refine h_A ?_);go_meet;exact⟨false,rfl,mg,dZ,ep,Bs,Hc⟩
  have g8:(2:Int)<(x.toNat:Int):=by omega
  have rR:at_=4:=by rw[lK.out];unfold atM;rw[if_neg hc]
  have g9:(3:Int)<(n:Int):=by omega
  have g10:3<n:=by omega
  have bX:b[3]?=some b[3]:=K2 Wq;have k3:=Ir.out _ Hc 3 Wq;have mg:∀q:Bool,decide (b[3]=1)=q→Hid (q=kq x.toNat b):=fun q hq=>KL (by unfold kq;rw[decide_eq_false hc,bX,←hq];by_cases h1:b[3]=1<;>simp[h1])
  generalize b[3]=z at*;clear bX rR;by_cases cy:z=1
  ·have pM:=mg true (decide_eq_true cy);subst cy;have k4:_=some (Value.int .u8 1):=k3;clear mg k3;go_wp2_with(with_reducible refine h_B ?_);refine zc (zn (v:=.bool true) (vs:=[.bool true]) rfl rfl rfl rfl dZ rfl Wj Wz wX #[.int .u8 (x.toNat:Int),.int .u8 (y.toNat:Int),.bool true,.slice none 0 0] Wz ?_);intro w5 gr H9 _;go_wp2_with(with_reducible refine h_A ?_);go_meet;exact⟨true,rfl,pM,gr,ep.grown H9 (sne Wq),Bs.grown H9 (sne Wq),Hc.grown H9 Hc.size (fun g hg=>by injection hg with hg;have:=Hc.size;omega)⟩
  have pM:=mg false (decide_eq_false cy)
  have hzi:((z.toNat:Int)==1)=false:=by
   exact Z5m_
  clear mg cy;go_wp2_with(with_reducible refine h_B ?_);refine zc (zn (v:=.bool false) (vs:=[.bool false]) rfl rfl rfl rfl dZ rfl Wj Wz wX #[.int .u8 (x.toNat:Int),.int .u8 (y.toNat:Int),.bool false,.slice none 0 0] Wz ?_);intro w5 gr H9 _;go_wp2_with(with_reducible refine h_A ?_);go_meet;exact⟨false,rfl,pM,gr,ep.grown H9 (sne Wq),Bs.grown H9 (sne Wq),Hc.grown H9 Hc.size (fun g hg=>by injection hg with hg;have:=Hc.size;omega)⟩
 clear dZ ep Bs Hc;obtain⟨sync,rfl,mg,wP,eR,gh,Hn⟩:=hcut
 obtain⟨p,q,l0,hd⟩:∃p q l0,b.drop at_=p::q::l0:=by
  have hl:2≤(b.drop at_).length:=by rw[kI];omega
  match b.drop at_,hl with
  | [],h=>simp at h
  | [_],h=>simp at h
  | p::q::l0,_=>exact⟨p,q,l0,rfl⟩
 have eN:b[at_+1]'Wq=q:=by
  have h1:(b.drop at_)[1]?=some q:=by rw[hd];rfl
  rw[List.getElem?_drop,K2 Wq]at h1;injection h1
 have fD:b.drop (at_+2)=l0:=by rw[←List.drop_drop,hd];rfl
 have Tv:Hid (b.drop (atM x.toNat)=p::q::l0):=KL (by rw[←lK.out];exact hd);have Ra:=KL fD;have k8:=Ir.out _ Hn (at_+1) Wq;rw[eN]at k8;have g8:(at_:Int)+1<(n:Int):=by omega
 have g9:at_+1<n:=by omega
 have cQ:RdB wc w.heap.size (some ⟨g,off,none⟩) n c b:=hr.below Hn;have fq:=cQ.cap;have NW:=Hn.size;clear hd eN fD lK;go_wp2_with(with_reducible refine h_S ?_);refine zc (kD slB rfl rfl rfl cQ (at_+2) n c (.inr ⟨_,_,rfl,by omega⟩) (.inl ⟨rfl,rfl⟩) (.inl ⟨rfl,rfl⟩) mq Wq Wq (K0 _) (K0 _) ?_);intro A8 nL Cj;have e8:((b.map u8v).take (n*1)).drop ((at_+2)*1)=l0.map u8v:=by rw[K1,K1,q7 Hz,←q8,Ra.out]
 rw[e8]at nL;have hei:=wP.lt
 have oe:RdX wc (fun k=>k<wc.heap.size∧k≠mb∧k≠zb∧blk (none:Option Addr)≠some k) 1 A8 (n-(at_+2)) (c-(at_+2)) (l0.map u8v):=⟨yS nL NW,fun _ k hk=>by
  rw[Cj]at hk;have Bk:g=k:=by simpa[blk]using hk
  subst Bk
  exact⟨by omega,by omega,by omega,by simp[blk]⟩⟩
 have pn:n-(at_+2)≤100000000:=by omega
 obtain⟨bs,iT⟩:∃q,q=wc.heap.size:=⟨_,rfl⟩
 have an:mb<bs:=by omega
 have Cc:bs≤wc.heap.size:=Nat.le_of_eq iT;have hea:w.heap.size≤bs:=by omega
 have un:Hid (ReadTo b 0 [] l0 false):=KL (ReadTo.start uF.out (XZ Tv.out));have iD:MpS wc bs none 0 []:=⟨Own.none_ _ _ _ _,fun p hp=>by cases hp⟩;have dD:=zi kd;clear e8 nL cQ k8 Cj iT g8 g9;go_wp2_with(with_reducible refine h_A ?_);go_loopw [9,10] (fun s9 AM wr=>∃(i:Nat) (A3:Option Addr) (c3:Nat) (xs:List (Ag×AH)) (A9:Option Addr) (n9 c9:Nat) (l3:List UInt8),i≤kd.length∧s9= .slice A9 n9 c9∧AM= .int .i64 i∧Hid (xs.length=i)∧Hid (ReadTo b i (xs.map (·.1)) l3 false)∧MpS wr bs A3 c3 xs∧Box wr mb 106 #[.int .u8 (x.toNat:Int),.int .u8 (y.toNat:Int),.bool sync,.slice A3 i c3]∧Box wr zb 106 #[.int .u8 0,.int .u8 0,.bool false,.slice none 0 0]∧Box wr rb 127 #[.int .u8 (rc:Int),.int .u8 (rk:Int),.string (str rn),.string (str kd)]∧RdX wr (fun k=>k<wr.heap.size∧k≠mb∧k≠zb∧blk A3≠some k) 1 A9 n9 c9 (l3.map u8v)∧n9≤100000000∧Below w.heap.size w wr∧bs≤wr.heap.size) (fun _ AM _=>kd.length-(KS AM).toNat)
 case atStart=>exact⟨0,none,0,[],A8,n-(at_+2),c-(at_+2),l0,by omega,rfl,rfl,KL rfl,un,iD,wP,eR,gh,oe,pn,Hn,Cc⟩
 clear iD wP eR gh oe Hn un Cc NW pn;obtain⟨i,A3,c3,xs,A9,n9,c9,l3,hi,rfl,rfl,tD,CA,hS,hm,hz,hR,hq,hn9,hB,Bw⟩:=hrel;have r3:=hR.c3;by_cases hlt:i<kd.length
 ·have g1:(i:Int)<(kd.length:Int):=by omega
  have MI:i<(str kd).size:=by rw[dD];exact hlt
  have g2i:(i:Int)≤3:=by omega
  have mO:=zdH q i Wq;obtain⟨is,BR⟩:∃t:Bool,t=decide (q.toNat / 2 ^ i % 2=1):=⟨_,rfl⟩
  rw[←BR]at mO;have cF:Hid (∀m,Told b m→∀(h:i<m.args.length),m.args[i].is=is):=KL (fun m hm h=>by rw[BR];exact zbH uF.out Tv.out hm h);have Rp:=KL mO;clear BR mO;have pz:=nS.out kd[i] (List.getElem_mem hlt);have ic:Calls prog 112 #[.int .u8 (((str kd)[i]'MI).toNat:Int),.slice A9 n9 c9] wr _:=zam kd[i] pz A9 n9 c9 l3 wr hq (fun k hk=>hk.1) hn9;have Bx:∀g,blk A3=some g→bs≤g∧g<wr.heap.size:=fun g hg=>hS.own.blk_lt hg
  have Im:=hB.size;go_wp2_with(with_reducible refine h_A ?_);refine ic.mono ?_;rintro e w5 ⟨a,ah,nG,G4,c10,l5,rfl,uu,pS,Rh,bw,SL,Lu⟩
  have D7:Hid (ReadTo b (i+1) (xs.map (·.1)++ [{a with is:=is}]) l5 false):=KL (ReadTo.step uF.out t3.out CA.out hlt cF.out (fun a' rest _ hl hk Bo he=>by
   obtain⟨e1,e2⟩:=Lu a' rest hl hk Bo;refine⟨?_,e2,rfl⟩;rw[e1];unfold agF
   rw[←he]))
  have Gk:=bw.size;have gr:=hm.below bw;have fT:=hz.below bw;have eo:=hR.below bw;have BN:=hS.below bw;have bc:=hB.trans (bw.mono Im)
  have wg:RdX w5 (fun k=>k<w5.heap.size∧k≠mb∧k≠zb∧blk A3≠some k) 1 nG G4 c10 (l5.map u8v):=pS.mono (fun k hk=>by
   rcases hk with hk|hk
   ·exact⟨by omega,hk.2.1,hk.2.2.1,hk.2.2.2⟩
   ·have h1:=hk.1
    exact⟨hk.2,by omega,by omega,fun e=>by have:=Bx k e;omega⟩)
  have sx:RA w5 (FB bs A3 w5) {a with is:=is} ah:=by
   have h:=uu.mono (G:=FB bs A3 w5) (fun k hk=>⟨by have:=hk.1;omega,hk.2,fun e=>by have:=Bx k e;have:=hk.1;omega⟩);exact⟨h.n,h.s,h.x,h.q,h.ok,h.c,h.v⟩
  clear ic pz hq uu pS SL Lu cF CA hS hm hz hR hB r3 bw;unfold agV;obtain⟨ab,w6,Bo,f9,MO,bG⟩:=zg w5 #[.bool a.is,.int .u64 (a.n:Int),.string (str a.s),.int .u32 (a.x.fmt:Int),.string (str a.x.glob),.string (str a.x.bran),.slice ah.A a.q.length ah.c,.int .u8 (a.v.kind:Int),.int .u64 (a.v.n:Int),.string (str a.v.s),.slice ah.h.A1 a.v.keys.length ah.h.c1,.slice ah.h.A2 a.v.list.length ah.h.c2] 80;go_upto_region 20 with fail;rw[←Bo,←f9];have tN:=gr.below bG;have fc:=fT.below bG;have bE:=eo.below bG;have bY:=BN.below bG;have Na:=BN;have U8:Hid (∀k,k<w5.heap.size→w6.heap[k]?=w5.heap[k]?):=KL (fun k hk=>bG.block k hk);have en:=bc.trans (bG.mono bc.size);have Cn:=bG.size;have FL:RdX w6 (fun k=>k<w5.heap.size∧k≠mb∧k≠zb∧blk A3≠some k) 1 nG G4 c10 (l5.map u8v):=wg.keep (fun k hk=>bG.block k hk.1) Cn;have Oq:=(sx.keep (fun k hk=>bG.block k hk.2.1) Cn).mono (G:=FB bs A3 w6) (fun k hk=>⟨hk.1,Wb hk.2.1 Cn,hk.2.2⟩);have PL:w5.heap.size≤ab:=by omega
  have Ng:RA w6 (fun k=>FB bs A3 w6 k∧k<w5.heap.size) {a with is:=is} ah:=(sx.keep (fun k hk=>bG.block k hk.2.1) Cn).mono (fun k hk=>⟨⟨hk.1,Wb hk.2.1 Cn,hk.2.2⟩,hk.2.1⟩);clear Bo f9 gr fT eo BN bc bG wg sx Oq;have mO:=Rp.out;go_wp2_with(with_reducible refine h_B ?_);refine zc (zn (v:=.bool is) (vs:=[.bool is]) rfl rfl rfl (by first|rfl|exact congrArg Value.bool mO) MO rfl Wj Wz wX #[.bool is,.int .u64 (a.n:Int),.string (str a.s),.int .u32 (a.x.fmt:Int),.string (str a.x.glob),.string (str a.x.bran),.slice ah.A a.q.length ah.c,.int .u8 (a.v.kind:Int),.int .u64 (a.v.n:Int),.string (str a.v.s),.slice ah.h.A1 a.v.keys.length ah.h.c1,.slice ah.h.A2 a.v.list.length ah.h.c2] Wz ?_);intro w7 iq H7 ip;clear ip;have Nt:=tN.grown H7 (sne Wq);have uv:=fc.grown H7 (sne Wq);have BJ:=bE.grown H7 (sne Wq);have u7:=H7.size;have po:MpS w7 bs A3 c3 xs:=Na.on (fun k h1 h2=>(H7.block k Wq (sne Wq)).trans (U8.out k h2)) Wq;have lS:=en.grown H7 en.size (fun k hk=>by injection hk with hk;omega);have oM:=FL.keep (fun k hk=>H7.block k (by have:=hk.1;omega) (by intro e;injection e with e;have:=hk.1;omega)) u7;have IV:RA w7 (FB bs A3 w7) {a with is:=is} ah:=(Ng.keep (fun k hk=>H7.block k (by have:=hk.2;omega) (by intro e;injection e with e;have:=hk.2;omega)) u7).mono (fun k hk=>⟨hk.1.1,Wb hk.1.2.1 u7,hk.1.2.2⟩);clear mO tN fc bE bY Na en FL Ng MO H7;have a_0:=iq.c0;have a_1:=iq.c1;have a_2:=iq.c2;have a_3:=iq.c3;have a_4:=iq.c4;have a_5:=iq.c5;have a_6:=iq.c6;have a_7:=iq.c7;have a_8:=iq.c8;have a_9:=iq.c9;have a_10:=iq.c10;have a_11:=iq.c11;have o3:=Nt.c3;have Bp:Own w7 bs 80 12 A3 i c3 (rowC agC xs):=tD.out▸po.own;go_wp2_with(with_reducible refine h_B ?_);refine zc (jS (W:=w7) Qf slAg underlying82 rfl rfl rfl rfl rfl (({a with is:=is}:Ag),ah) rfl Bp Wq Wq Wq ?_);intro GF c11 wA dt fg rQ _;have nI:=po.push IV (by rw[tD.out];exact dt) fg rQ;have OZ:=Nt.grown fg wj;have Fa:=uv.grown fg wj;have mP:=BJ.grown fg wj;have rS:=lS.grown fg lS.size (fun k hk=>by have:=Bx k hk;omega);have S9:=fg.size
  have hqA:RdX wA (fun k=>k<wA.heap.size∧k≠mb∧k≠zb∧blk GF≠some k) 1 nG G4 c10 (l5.map u8v):=(oM.keep (fun k hk=>fg.block k (by have:=hk.1;omega) (fun e=>hk.2.2.2 e.symm)) S9).mono (fun k hk=>⟨by have:=hk.1;omega,hk.2.1,hk.2.2.1,by
   rcases rQ with e|e
   ·rw[e];exact hk.2.2.2
   ·intro e2;have:=e k e2;have:=hk.1;omega⟩)
  clear po IV Nt uv BJ lS iq Bp dt fg rQ oM a_0 a_1 a_2 a_3 a_4 a_5 a_6 a_7 a_8 a_9 a_10 a_11 o3;go_wp2_with(with_reducible refine h_B ?_);refine zc (zn (v:=.slice GF (i+1) c11) (vs:=[.slice GF (i+1) c11]) rfl rfl rfl rfl OZ rfl Wj Wz wX #[.int .u8 (x.toNat:Int),.int .u8 (y.toNat:Int),.bool sync,.slice GF (i+1) c11] Wz ?_);intro wC Rv gA hsC;have uk:=nI.box gA Wq;have Fq:=Fa.grown gA (sne Wq);have Ew:=mP.grown gA (sne Wq);have hqC:RdX wC (fun k=>k<wC.heap.size∧k≠mb∧k≠zb∧blk GF≠some k) 1 nG G4 c10 (l5.map u8v):=(hqA.keep (fun k hk=>gA.block k hk.1 (by intro e;injection e with e;have:=hk.2.1;omega)) gA.size).mono (fun k hk=>⟨by have:=hk.1;omega,hk.2⟩);have wN:=rS.grown gA rS.size (fun k hk=>by injection hk with hk;omega);go_wp2_with(with_reducible refine h_A ?_);exact⟨⟨i+1,GF,c11,xs++ [({a with is:=is},ah)],nG,G4,c10,l5,by omega,rfl,by go_num,KL (by rw[List.length_append,tD.out];rfl),KL (by rw[List.map_append];exact D7.out),uk,Rv,Fq,Ew,hqC,Rh,wN,by omega⟩,by simp[KS];omega⟩
 have qq3a:=();exact Zj_
theorem QJ(ctl:LS→As→LS):∀(a:List UInt8) (p:LS×List UInt8) (t:List UInt8),LS.ones ctl p (a++t)=LS.ones ctl (LS.ones ctl p a) t
 | [],_,_=>rfl
 | c::a,p,t=>by
  by_cases h:p.1.st=5
  ·rw[qw ctl h,qw ctl h,qw ctl h]
  have e:∀x,LS.ones ctl p (c::x)=LS.ones ctl (LS.one ctl p c) x:=fun x=>by rw[LS.ones,if_neg h]
  rw[List.cons_append,e,e];exact QJ ctl a _ t
structure RlI(w:World)(B:Nat)(V:Nat→Prop)(lb gb:Nat)(l:List Fr)(b:List UInt8)(L:LS):Prop where
 ex:∃(p q:Value) (F:Nat→Prop),Box w lb 38 #[.int .i64 (L.st:Int),.string (str b),.pointer (some ⟨gb,0,none⟩),.int .u64 (L.ch:Int),.int .u64 (L.sz:Int),p,q]∧RGa w F gb L.g l∧¬F lb∧∀k,F k→V k
 lb:V lb
 v:∀k,V k→B≤k∧k<w.heap.size
theorem RlI.keep{G:Nat→Prop}{l:List Fr}{L:LS}(h:RlI w B V lb gb l b L)(hk:KeepF G w w')(hG:∀k,V k→¬G k):RlI w' B V lb gb l b L where
 ex:=by
  obtain⟨p,q,F,h1,h2,h3,h4⟩:=h.ex;exact⟨p,q,F,zU h1 hk (hG _ h.lb),h2.keep hk (fun k e=>hG k (h4 k e)),h3,h4⟩
 lb:=h.lb
 v:=fun k hk'=>⟨(h.v k hk').1,Wb (h.v k hk').2 hk.1⟩
theorem RlX.start{l:List Fr}{L:LS}(hb:Box w lb 38 #[.int .i64 (L.st:Int),.string (str b),.pointer (some ⟨gb,0,none⟩),.int .u64 (L.ch:Int),.int .u64 (L.sz:Int),.string ⟨#[]⟩,.slice none 0 0])
  (hg:RGa w F gb L.g l) (eB:¬F lb) (hF:∀k,F k→B≤k) (dc:B≤lb):RlX w B (fun k=>k=lb∨F k) (fun _=>False) lb gb l b L.core none 0 [] F where
 box:=hb
 row:=Own.none_ _ _ _ _
 tl:=rfl
 el:=fun x hx=>by cases hx
 ga:=hg
 fu:=fun k e=>.inr e
 tt:=fun k e=>by cases e
 fl:=eB
 lb:=.inl rfl
 size:=Nat.le_trans dc (Nat.le_of_lt hb.lt)
 uB:=fun k e=>by
  rcases e with rfl|e
  ·exact⟨dc,hb.lt⟩
  exact⟨hF k e,hg.lt k e⟩
 tB:=fun k e=>e.elim
 ut:=fun k e=>e.elim
def Kp(w:World)(B:Nat)(V:Nat→Prop)(lb gb m:Nat)(p:LS×List UInt8)(e:Ending)(w':World):Prop:=
 ∃(V':Nat→Prop) (l':List Fr) (TT:Option Addr) (tc:Nat) (th:List TAs),e= .returned (.tuple #[.string (str p.1.sent),.slice TT p.1.told.length tc])∧l'.length≤m∧RlI w' B V' lb gb l' p.2 p.1∧KeepF V w w'∧(∀k,V' k→V k∨w.heap.size≤k)∧
  p.1.told=th.map (·.a)∧OwnT w' B TT p.1.told.length tc th∧(∀g,blk TT=some g→¬V' g∧(V g∨w.heap.size≤g))∧∀x∈th,OwnG w' 0 x.A x.a.segs.length x.c x.a.segs∧∀g,blk x.A=some g→¬V' g∧(V g∨w.heap.size≤g)
def RlFeedM(w:World)(B:Nat)(V:Nat→Prop)(lb gb m:Nat)(p:LS×List UInt8)(e:Ending)(w':World):Prop:=
 ∃(U T:Nat→Prop) (l':List Fr) (TT:Option Addr) (tc:Nat) (th:List TAs) (F:Nat→Prop),e= .returned (.tuple #[.string (str p.1.sent),.slice TT p.1.told.length tc])∧l'.length≤m∧RlX w' B U T lb gb l' p.2 p.1 TT tc th F∧KeepF V w w'∧(∀k,U k→V k∨w.heap.size≤k)∧∀k,T k→V k∨w.heap.size≤k
theorem RlX.idle{T:Nat→Prop}{l:List Fr}{L:LS}{TT:Option Addr}{tc:Nat}{th:List TAs}(hX:RlX w B U T lb gb l b L TT tc th F):RlI w B (fun k=>k=lb∨F k) lb gb l b L:=
 ⟨⟨_,_,F,hX.box,hX.ga,hX.fl,fun k e=>.inr e⟩,.inl rfl,fun k e=>by
  rcases e with rfl|e
  ·exact hX.uB _ hX.lb
  ·exact hX.uB k (hX.fu k e)⟩
theorem RlFeedM.r{m:Nat}{p:LS×List UInt8}{e:Ending}(h:RlFeedM w B V lb gb m p e w'):Kp w B V lb gb m p e w':=by
 obtain⟨U,T,l',TT,tc,th,F,rfl,hm,hX,hk,hU,hT⟩:=h;refine⟨fun k=>k=lb∨F k,l',TT,tc,th,rfl,hm,hX.idle,hk,fun k e=>?_,hX.tl,hX.row,fun g e=>⟨fun e2=>?_,hU g (hX.tt g e).1⟩,fun x hx=>⟨(hX.el x hx).1,fun g e=>⟨fun e2=>?_,hT g ((hX.el x hx).2 g e)⟩⟩⟩
 ·rcases e with rfl|e
  ·exact hU _ hX.lb
  exact hU k (hX.fu k e)
 ·rcases e2 with e2|e2
  ·exact(hX.tt g e).2.1 e2
  exact(hX.tt g e).2.2 e2
 have ht:=(hX.el x hx).2 g e;rcases e2 with rfl|e2
 ·exact hX.ut _ ht hX.lb
 exact hX.ut g ht (hX.fu g e2)
theorem Zf{w2 wd:World}{m:Nat}{U1 T1:Nat→Prop}{l':List Fr}{p:LS×List UInt8}{TT:Option Addr}{tc:Nat}{th:List TAs}{F1:Nat→Prop}(hX:RlX wd B U1 T1 lb gb l' p.2 p.1 TT tc th F1)(Mu:KeepF V w w2)(hK:KeepF U w2 wd)(GG:∀k,U k→V k)(GP:∀k,U1 k→U k∨w2.heap.size≤k)(uK:∀k,T1 k→(fun _=>False) k∨U k∨w2.heap.size≤k)(hm:l'.length≤m):
  RlFeedM w B V lb gb m p (.returned (.tuple #[.string (str p.1.sent),.slice TT p.1.told.length tc])) wd:=by
 have hz:=Mu.1;refine⟨U1,T1,l',TT,tc,th,F1,rfl,hm,hX,Mu.trans hK (fun g e=>.inl (GG g e)),fun k e=>(GP k e).imp (GG k) zAg,fun k e=>?_⟩;rcases uK k e with h|h|h
 ·exact h.elim
 ·exact .inl (GG k h)
 exact .inr Wq
theorem zb0(l:List UInt8)(i:Nat)(hi:i<l.length)(w:World):(Instr.index 9 (.string (str l)) (.int .i64 (i:Int))).run prog w= .ok (.int .u8 (l[i].toNat:Int)) w:=by
 have hs:=zi l;rw[run_index_string w 9 (str l) .i64 _ underlying9,dif_pos ⟨by omega,by omega⟩];rfl
theorem zav(W:World)(b:List UInt8)(hb:b.length≤20000):GetR W b (getP b).1 (getP b).2:=by
 intro A n c W' hB hr;have hl:=RdB.length hr;refine(zad A n c b W' hr Wq).mono ?_;exact Z5h_
theorem zaw(c:UInt8){T:Nat→Prop}{l:List Fr}{L:LS}(h:RlM w B U T lb gb l b L)(hid:Idle L b)(hg:LG L)(h5:L.st≠5)(dG:b.length≤900000)(hs:L.sent.length≤1000000000)(uh:L.told.length≤1000000000)(hl:l.length≤900000):
  Calls prog 28 #[.pointer (some ⟨lb,0,none⟩),.int .u8 (c.toNat:Int)] w fun e w'=>e= .returned (.tuple #[])∧∃l2,l2.length≤l.length+1∧RStep w B U T lb gb l2 (LS.one ctlG (L,b) c).2 (LS.one ctlG (L,b) c).1 w':=by
 have Bw:=hg.sz;have gD:=hg.ch;refine Kr ctlG c h hid h5 Wq Wq hs fun f b' W hf hM r9=>?_
 have dl:f.load.length≤1000000:=by
  rw[r9];show(((b++ [c]).take _).drop 12).length≤1000000
  have e1:=List.length_take_le (frN (b++ [c])) (b++ [c]);have e2:(b++ [c]).length=b.length+1:=by simp
  have e3:((b++ [c]).take (frN (b++ [c]))).length≤(b++ [c]).length:=kv _ _;rw[kI];omega
 refine QF ctlG f hM dl Wq Wq hf.2.2 Wq uh (fun W F cU=>Kj F gb L.g l f W cU hg.inv hf dl hl) fun a A c W U' T' l' cO lh tp hG=>?_
 obtain⟨sg,rest,gw,Gn⟩:=XR hg.inv cO;have fC:Z0 a=sg.load:=by unfold Z0;rw[gw]
 exact YY a sg rest gw (getP (Z0 a)).1 (getP (Z0 a)).2 (by rw[fC];exact zav W sg.load Wq) (Jq _) A c tp hG Wq (show L.sz≤1000000 by omega) (show L.sent.length≤10000000000 by omega)
theorem zax(s:List UInt8){l:List Fr}{L:LS}(h:RlI w B V lb gb l b L)(hg:LG L)(hid:Idle L b)(iT:b.length+s.length≤45000)(hl:l.length+s.length≤900000):
  Calls prog 13 #[.pointer (some ⟨lb,0,none⟩),.string (str s)] w (RlFeedM w B V lb gb (l.length+s.length) (LS.ones ctlG (L.core,b) s)):=by
 obtain⟨p,q,F,hb,cU,eB,tK⟩:=h.ex;have Po:=(h.v _ h.lb).1;have oW:∀k,V k→B≤k:=fun k e=>(h.v k e).1
 have Ig:∀k,V k→k<w.heap.size:=fun k e=>(h.v k e).2
 have EC:=h.lb;have dD:=zi s;have HON:=KL (fun(t:List UInt8)=>XQ V4 hid t);have aA:=KL (fun(t:List UInt8)=>V7 hg b t);have bV:=hg.st;clear h hid hg;go_enter func13,ntmps13;go_wp2_with(with_reducible refine h_B ?_);refine zc (zn (j:=5) (v:=.string ⟨#[]⟩) (vs:=[.string ⟨#[]⟩]) rfl rfl rfl rfl hb rfl Wj Wz WZ #[.int .i64 (L.st:Int),.string (str b),.pointer (some ⟨gb,0,none⟩),.int .u64 (L.ch:Int),.int .u64 (L.sz:Int),.string ⟨#[]⟩,q] Wz ?_);intro w1 bK bN cy;clear cy;have dM:KeepF (fun k=>k=lb) w w1:=.grown bN (fun g e=>.inl uQ);go_wp2_with(with_reducible refine h_B ?_);refine zc (zn (j:=6) (v:=.slice none 0 0) (vs:=[.slice none 0 0]) rfl rfl rfl rfl bK rfl Wj Wz WZ #[.int .i64 (L.st:Int),.string (str b),.pointer (some ⟨gb,0,none⟩),.int .u64 (L.ch:Int),.int .u64 (L.sz:Int),.string ⟨#[]⟩,.slice none 0 0] Wz ?_);intro w2 bF Hm ep;clear ep;have Bk:KeepF (fun k=>k=lb) w w2:=dM.trans (.grown (F:=fun k=>k=lb) Hm (fun g e=>.inl uQ)) (fun _ h=>.inl h);have hX:=RlX.start bF (cU.keep Bk (fun k e e2=>eB (e2▸e))) eB (fun k e=>oW k (tK k e)) Po;have Mu:KeepF V w w2:=Bk.weak (fun g e=>.inl (e▸EC));obtain⟨U,hU⟩:∃U:Nat→Prop,U=fun k=>k=lb∨F k:=⟨_,rfl⟩
 have GG:∀k,U k→V k:=fun k e=>by
  rw[hU]at e;rcases e with rfl|e
  ·exact EC
  exact tK k e
 rw[←hU]at hX;obtain⟨P0,pD⟩:∃P0:LS×List UInt8,P0=(L.core,b):=⟨_,rfl⟩
 have PJ:RStep w2 B U (fun _=>False) lb gb l P0.2 P0.1 w2:=by rw[pD];exact RStep.mk hX (.refl _ _)
 rw[←pD];have Ph:=KL pD;clear hb cU eB tK EC bK bN bF Hm dM Bk hX hU pD w1;go_wp2_with(with_reducible refine h_A ?_);go_loopw [6] (fun s6 wr=>∃(i:Nat) (l':List Fr),i≤s.length∧s6= .int .i64 (i:Int)∧l'.length≤l.length+i∧RStep w2 B U (fun _=>False) lb gb l' (LS.ones ctlG P0 (s.take i)).2 (LS.ones ctlG P0 (s.take i)).1 wr) (fun s6 _=>s.length-(KS s6).toNat)
 case atStart=>exact⟨0,l,by omega,rfl,by omega,PJ⟩
 clear PJ;obtain⟨i,l',hi,rfl,fB,hR⟩:=hrel;obtain⟨o1,o2,o3⟩:=HON.out (s.take i);obtain⟨Gp,g2',Tb,TX⟩:=aA.out (s.take i);rw[←Ph.out]at o1 o2 o3;have ic:(s.take i).length≤s.length:=kv _ _;obtain⟨p1,lz⟩:∃p1,p1=LS.ones ctlG P0 (s.take i):=⟨_,rfl⟩
 rw[←lz]at hR o1 o2 o3;rw[←o1]at Gp Tb TX o2;have tT:=KL lz;have dG:p1.1.st≠5→p1.2.length≤45000:=fun e=>by rw[o2 e];omega
 have mF:p1.1.sent.length≤1000000000:=by omega
 have uh:p1.1.told.length≤1000000000:=by omega
 have HI:=KL o3;have HG:=KL Gp;clear o1 o2 o3 Gp g2' Tb TX ic lz;obtain⟨U1,T1,⟨TT,tc,th,F1,hX⟩,hK,GP,uK⟩:=hR;have c0:=hX.box.c0;by_cases hlt:i<s.length
 ·have q1:(i:Int)<(s.length:Int):=by omega
  by_cases h5:p1.1.st=5
  ·exact Z1d_
  have d5:((p1.1.st:Int)!=5)=true:=by simp;omega
  have WM:=zb0 s i hlt;have HN:Hid (LS.ones ctlG P0 (s.take (i+1))=LS.one ctlG (p1.1,p1.2) s[i]):=KL (by rw[ky hlt,ZW,←tT.out,if_neg h5]);have rE:=zaw s[i] ⟨_,_,_,_,hX⟩ HI.out HG.out h5 (by have:=dG h5;omega) mF uh Wq;clear dG h5;generalize s[i]=x at*;go_wp2_with(with_reducible refine h_A ?_);refine rE.mono ?_;rintro e w4 ⟨rfl,l2,cN,dw⟩;clear rE WM c0 hX d5;go_wp2_with(with_reducible refine h_A ?_);exact⟨⟨i+1,l2,by omega,by go_num,by omega,by rw[HN.out];exact RStep.of hK GP uK dw⟩,by simp[KS];omega⟩
 have qq7v:=();exact Z1d_
theorem Ju(s:List UInt8){l:List Fr}{L:LS}(h:RlI w B V lb gb l b L)(hg:LG L)(hid:Idle L b)(iT:b.length+s.length≤45000)(hl:l.length+s.length≤900000):
  Calls prog 13 #[.pointer (some ⟨lb,0,none⟩),.string (str s)] w (Kp w B V lb gb (l.length+s.length) (LS.ones ctlG (L.core,b) s)):=
 (zax s h hg hid iT hl).mono fun _ _ h=>h.r
theorem zbY(ctl:LS→As→LS)(p:LS×List UInt8)(c:UInt8):(LS.one ctl p c).2.length≤p.2.length+1:=by
 unfold LS.one;repeat' split
 all_goals simp
theorem QI(ctl:LS→As→LS):∀(s:List UInt8) (p:LS×List UInt8),(LS.ones ctl p s).2.length≤p.2.length+s.length
 | [],_=>K0 _
 | c::s,p=>by
  by_cases h:p.1.st=5
  ·rw[qw ctl h];omega
  rw[LS.ones,if_neg h];have h1:=QI ctl s (LS.one ctl p c);have h2:=zbY ctl p c;simp only[List.length_cons];omega
theorem Jt{M:LS}{b':List UInt8}(hid:Idle M b')(hb:M.st≠5→b'=b)(x:List UInt8):
  (LS.ones ctlG (M.core,b') x).1=(LS.feed ctlG M b x).1∧((LS.feed ctlG M b x).1.st≠5→(LS.ones ctlG (M.core,b') x).2=(LS.feed ctlG M b x).2)∧Idle (LS.ones ctlG (M.core,b') x).1 (LS.ones ctlG (M.core,b') x).2:=by
 by_cases h5:M.st=5
 ·have e:LS.feed ctlG M b x=(M.core,b):=by unfold LS.feed;rw[if_pos h5];rfl
  rw[e,qw ctlG (show M.core.st=5 from h5)];exact⟨rfl,fun k=>absurd h5 k,⟨hid.hdr,hid.fr⟩⟩
 rw[hb h5]at hid ⊢;exact XQ V4 hid x
theorem zau:Idle LS0 []:=⟨fun _=>⟨by decide,rfl⟩,fun h=>absurd rfl h⟩
theorem zbZ(hg:Box w' gb 67 #[.slice none 0 0,.bool false])(hl:Box w' lb 38 (rlk0 gb))(hB:B≤gb)(hBl:B≤lb)(hne:gb≠lb):RlI w' B (fun k=>k=lb∨k=gb) lb gb [] [] LS0 where
 ex:=⟨_,_,fun k=>k=gb,hl,⟨⟨none,0,hg,Own.none_ _ _ _ _,fun k e=>by cases e⟩,rfl,fun k e=>e▸hg.lt,fun _ _=>rfl,fun f hf=>by cases hf⟩,fun e=>hne e.symm,fun k e=>.inr e⟩
 lb:=.inl rfl
 v:=fun k e=>by
  rcases e with rfl|rfl
  ·exact⟨hBl,hl.lt⟩
  exact⟨hB,hg.lt⟩
def PlB(w wr:World)(xb yb gb:Nat)(m k:Nat):Prop:=∃(b b':List UInt8) (M:LS) (Vx Vy:Nat→Prop) (nx:Nat) (ly:List Fr),
 LG M∧Idle M b'∧(M.st≠5→b'=b)∧b.length≤m∧b'.length≤m∧nx≤50000*k∧ly.length≤m∧LkI wr w.heap.size Vx xb nx b M∧RlI wr w.heap.size Vy yb gb ly b' M∧(∀k,Vx k→¬Vy k)∧Below w.heap.size w wr
theorem Yz(A:Option Addr)(n c:Nat)(L:List (List UInt8))(w:World)(he:MEnv w)(hT:UTabs w)(hr:Rd w w.heap.size 1 A n c (L.map txV))(hl:∀x∈L,x.length≤140737488351232)(hn:n≤140737488351232):
  Calls prog 3 #[.slice A n c] w fun e w'=>e= .returned (.bool true)∧Below w.heap.size w w':=by
 have sH:=zas A n c L w hr hl hn;have HR:=KL hr;have HL:Hid (L.length=n):=KL (by have:=hr.len;simpa using this);have HE:=KL he;have HT:=KL hT;clear hr hl;go_enter func3,ntmps3;go_wp2_with(with_reducible refine h_A ?_);refine sH.mono ?_;rintro e w' ⟨⟨g,rfl,hg⟩,rfl⟩;clear sH
 cases g
 ·obtain⟨rO,sp⟩:=hg rfl;clear hg;have eJ:=YS w;go_wp2_with(with_reducible refine h_A ?_);refine eJ.mono ?_;rintro e w1 ⟨rfl,OP,bK,Ha⟩;clear eJ;obtain⟨xb,Hg⟩:∃b,b=w.heap.size+2:=⟨_,rfl⟩
  rw[←Hg]at bK;have SR:=zcS (B:=w.heap.size) bK OP Wq (fun k hk=>by omega) Wq;have eO:=Ve w1;go_wp2_with(with_reducible refine h_A ?_);rw[←Hg];clear Hg;refine eO.mono ?_;rintro e w2 ⟨rfl,NP,bF,Hc,EJ⟩;clear eO EJ;have BZ:=Ha.size;obtain⟨gb,ph⟩:∃b,b=w1.heap.size:=⟨_,rfl⟩
  obtain⟨yb,iB⟩:∃b,b=w1.heap.size+1:=⟨_,rfl⟩
  have Oe:=zbZ (B:=w.heap.size) NP bF Wq Wq Wq;rw[←iB,←ph]at Oe;have EH:=SR.keep (G:=fun _=>False) (.below Hc) (fun _ _ e=>e);have BK:=Ha.trans (Hc.mono Ha.size);have dE:=SR.v;obtain⟨U5,Fj⟩:∃V:Nat→Prop,V=fun k=>k=xb∨(k=w.heap.size∨k=w.heap.size+1):=⟨_,rfl⟩
  obtain⟨Tq,EB⟩:∃V:Nat→Prop,V=fun k=>k=yb∨k=gb:=⟨_,rfl⟩
  have sR:∀k,U5 k→¬Tq k:=fun k hk Bk=>by
   rw[Fj]at hk;rw[EB]at Bk;have:=dE k hk;omega
  rw[←Fj]at EH;rw[←EB]at Oe;go_upto_region 4 with fail;rw[←iB];clear iB ph Fj EB SR OP bK NP bF dE BZ Ha Hc;go_wp2_with(with_reducible refine h_A ?_);go_loopw [5] (fun s5 wr=>∃i:Nat,i≤n∧s5= .int .i64 (i:Int)∧PlB w wr xb yb gb (sumL (L.take i)) i) (fun s5 _=>n-(KS s5).toNat)
  case atStart=>
   exact⟨0,by omega,rfl,[],[],LS0,U5,Tq,0,[],zds,zau,fun _=>rfl,by simp,by simp,by omega,by simp,EH,Oe,sR,BK⟩
  clear EH Oe sR BK;obtain⟨i,hi,rfl,b,b',M,Vx,Vy,nx,ly,hM,hid,ei,dG,Rk,dR,hly,hI,hJ,sR,hB⟩:=hrel;by_cases hlt:i<n
  ·(have g1:(i:Int)<(n:Int):=by omega);obtain⟨tb,toff,u,rfl,gN,hu,fh⟩:=HR.out.at_k hlt;(have bI:i<L.length:=by rw[HL.out];exact hlt);(obtain rfl:u= .string (str L[i]):=by rw[q9,K2 bI]at hu;exact(Option.some.inj hu).symm);(have uK:sumL (L.take (i+1))=sumL (L.take i)+L[i].length:=by rw[ky bI,X1]);have FA:=zar L (i+1);clear hu;generalize L[i]=x at*;have k0:=(hB.cell (p:=⟨tb,toff+i,none⟩) gN).trans fh;obtain⟨f1,f2,f3,f4⟩:=V7 hM b x;obtain⟨p1,p2,p3⟩:=Jt hid ei x;have p4:=QI ctlG x (M.core,b');have fm:=zcQ (s:=x) hB HT.out HE.out hI hM Wq Wq;(have SJ:=fun(W:World) (hJ':RlI W w.heap.size Vy yb gb ly b' M)=>Ju x hJ' hM hid Wq Wq);(obtain⟨Q,hQ⟩:∃q,q=LS.feed ctlG M b x:=⟨_,rfl⟩);(obtain⟨P,hP⟩:∃q,q=LS.ones ctlG (M.core,b') x:=⟨_,rfl⟩);rw[←hQ]at f1 f2 f3 f4 fm p1 p2;rw[←hP]at SJ p1 p2 p3 p4;simp only at p4;clear hQ hP hid ei;obtain⟨Q1,Q2⟩:=Q;obtain⟨P1,P2⟩:=P;simp only at f1 f2 f3 f4 p1 p2 p3 p4;subst p1;(obtain⟨SN,UB⟩:∃y,y=P1.sent:=⟨_,rfl⟩);(obtain⟨MN,UI⟩:∃y,y=P1.told.length:=⟨_,rfl⟩);(have EK:MN≤45000:=by omega);have Do:=KL UB;have Ol:=KL UI;have aZ:=KL p2;have bV:=f1.st;clear UB UI f3 f4 p2;have z2:=zi x;go_wp2_with(with_reducible refine h_A ?_);refine fm.mono ?_;rintro e w4 ⟨n',Dp,V',TU,tu,ti,rfl,R5,eQ,wK,La,G2,U0,PD⟩;simp only at*;rw[←Do.out,←Ol.out];rw[←Ol.out]at G2;have Ig:=hI.v;have uU:=hJ.v;have Uv:=hJ.keep eQ (fun k hk e=>sR k e hk)
   have EA:∀k,V' k→¬Vy k:=fun k hk e=>by
    rcases wK k hk with e2|e2
    ·exact sR k e2 e
    have:=(uU k e).2;omega
   have Hn:=hB.trans (eQ.toBelow hB.size (fun k hk=>(Ig k hk).1))
   have Nd:∀g,blk TU=some g→¬Vy g:=fun g e e2=>by
    rcases(U0 g e).2 with e3|e3
    ·exact sR g e3 e2
    have:=(uU g e2).2;omega
   have MD:∀y∈ti,∀g,blk y.A=some g→¬Vy g:=fun y hy g e e2=>by
    rcases((PD y hy).2 g e).2 with e3|e3
    ·exact sR g e3 e2
    have:=(uU g e2).2;omega
   have Ma:=R5.v;have k4:=(Hn.cell (p:=⟨tb,toff+i,none⟩) gN).trans fh;have LZ:=SJ w4 Uv;have NW:=Hn.size;clear fm SJ k0 hI hJ eQ wK U0 hB sR Ig;go_wp2_with(with_reducible refine h_A ?_);refine LZ.mono ?_;rintro e w5 ⟨Vy',ly',TW,tw,tj,rfl,R8,Rm,Br,uP,M0,EF,WP,Uc⟩;simp only at*;rw[←Do.out,←Ol.out];rw[←Ol.out]at EF;have PO:=R5.keep Br (fun k hk e=>EA k hk e);have gj:=zw G2 Br (fun g e e2=>Nd g e e2);(have Tt:∀y∈ti,RdG w5 w5.heap.size y.A y.a.segs.length y.c y.a.segs:=fun y hy=>(zw (PD y hy).1 Br (fun g e e2=>MD y hy g e e2)).rd);have bw:=Hn.trans (Br.toBelow NW (fun k hk=>(uU k hk).1))
   have My:∀k,V' k→¬Vy' k:=fun k hk e=>by
    rcases uP k e with e2|e2
    ·exact EA k hk e2
    have:=(Ma k hk).2;omega
   have cp:=fun(W:World) (hW:Below w5.heap.size w5 W)=>QH ti tj TU MN tu TW MN tw W ((gj.rd.below hW).more hW.size) ((EF.rd.below hW).more hW.size) (fun y hy=>((Tt y hy).below hW).more hW.size) (fun y hy=>((Uc y hy).1.rd.below hW).more hW.size) (La.symm.trans M0) Wq
   have TR:∀W,Below w5.heap.size w5 W→Calls prog 15 #[.pointer (some ⟨xb,0,none⟩)] W fun e w'=>e= .returned (.int .u8 (P1.st:Int))∧W=w':=fun W hW=>by
    obtain⟨gp,_,_,_,_,_,_,_,bK,_⟩:=PO.ex;exact qU xb P1.st gp W ((bK.below hW).cell (j:=0) rfl) ((bK.below hW).cell (j:=2) rfl)
   have TH:∀W,Below w5.heap.size w5 W→W.cell? ⟨yb,0,none⟩=some (.int .i64 (P1.st:Int)):=fun W hW=>by
    obtain⟨_,_,_,bK,_⟩:=Rm.ex;exact(bK.below hW).c0
   (have Dn:Hid (∀W,Below w5.heap.size w5 W→PlB w W xb yb gb (sumL (L.take (i+1))) (i+1)):=KL fun W hW=>⟨Q2,P2,P1,V',Vy',n',ly',f1,p3,aZ.out,by omega,by omega,by omega,by omega,PO.keep (G:=fun _=>False) (.below hW) (fun _ _ e=>e),Rm.keep (G:=fun _=>False) (.below hW) (fun _ _ e=>e),My,bw.trans (hW.mono bw.size)⟩);have aX:=KL TR;have U6:=KL TH;have lG:=KL cp;clear TR TH cp LZ R5 Uv EA Hn Nd MD Ma uU k4 Br uP La M0 G2 EF WP Uc PO Rm gj Tt bw My PD R8 Dp f1 f2 p3 p4 hly dR dG Rk hM fh gN;go_upto_region 9 with fail;(have uM:((str SN).toList !=(str SN).toList)=false:=by simp);(have dw:((P1.st:Int)!=(P1.st:Int))=false:=by simp);have tH:IntKind.i64.wrap (P1.st:Int)=(P1.st:Int):=IntWalk.i64_in _ ⟨by omega,by omega⟩;have B0:Below w5.heap.size w5 w5.drew:=za (Below.refl _ w5) 1;refine zt (fun W:World=>Below w5.heap.size w5 W) Wj ?_;have hS:=B0;clear B0;generalize w5.drew=wd at*;refine rg_t 0 hS ?_;simp only[q0,q2,Act.put,q3,q5,q6];refine rg_t 1 hS ?_;simp only[g_S];refine rg_t 2 hS ?_;simp only[g_S];refine rg_t 3 hS ?_;simp only[g_S];refine rg_t 4 hS ?_;simp only[g_S];refine rg_t 5 hS ?_;simp only[g_S];refine zj 6 rfl Wj rfl (fun K hK=>?_);go_simp
   (with_reducible refine(lG.out _ hS).mono ?_)
   rintro e w6 ⟨rfl,bG⟩;replace hS:=hS.trans (bG.mono hS.size);refine hK _ _ hS ?_;clear hK K bG;(try simp only[g_S]);refine rg_t 7 hS ?_;simp only[g_S];refine rg_t 8 hS ?_;simp only[g_S];refine rg_t 9 hS ?_;simp only[g_S];refine rg_t 10 hS ?_;simp only[g_S];refine rg_t 13 hS ?_;simp only[g_S];refine rg_t 14 hS ?_;simp only[g_S];refine rg_t 15 hS ?_;simp only[g_S];refine ze 16 (v:=?_) rfl Wj Wj Wj hS rfl ?_ ?_;rotate_left
   ·intro wS He;have k0:=U6.out _ He;go_simp;(with_reducible rfl)
   simp only[g_S];refine zj 11 rfl Wj rfl (fun K hK=>?_);go_simp
   (with_reducible refine(aX.out _ hS).mono ?_)
   rintro e w7 ⟨rfl,rfl⟩;refine hK _ _ hS ?_;clear hK K;(try simp only[g_S]);refine rg_t 12 hS ?_;simp only[g_S];(try rw[tH]);refine rg_t 17 hS ?_;simp only[g_S];refine rg_t 18 hS ?_;simp only[g_S];refine zz Wj ?_;have iN:=Dn.out _ hS;clear Dn hS dw uM tH;go_wp2_with(with_reducible refine h_A ?_);exact⟨⟨i+1,by omega,by go_num,iN⟩,by simp[KS];omega⟩
  obtain rfl:i=n:=by omega
  have hh:=Yy wr (HE.out.on hB);go_wp2_with(with_reducible refine h_A ?_);refine hh.mono ?_;rintro e w6 ⟨rfl,bG⟩;go_wp2_with(with_reducible refine h_A ?_);go_ret;exact⟨rfl,hB.trans (bG.mono hB.size)⟩
 have hh:=Yy w HE.out;go_wp2_with(with_reducible refine h_A ?_);refine hh.mono ?_;rintro e w3 ⟨rfl,Hh⟩;go_wp2_with(with_reducible refine h_A ?_);go_ret;exact⟨rfl,Hh⟩
end Go.PH
