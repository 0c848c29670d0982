/- Parts. -/
import Derived.Test.YtfbkameikhgciaaGreatDoorMh10
import Derived.Test.YtfbkameikhgciaaGreatDoorMh11
set_option linter.all false
set_option maxRecDepth 20000
set_option maxHeartbeats 8000000
open Go.Lib renaming hid → KL
open List renaming getElem?_eq_getElem → K2, take_of_length_le → q0, map_drop → q2, getElem?_map → q3, getElem_toArray → q5, getElem_cons_zero → q6, setIfInBounds_toArray → q7, set_cons_zero → q8, set_cons_succ → q9, length_drop → kI, length_take_le' → kv, take_succ_eq_append_getElem → ky
open Nat renaming le_refl → K0, mul_one → K1, lt_of_lt_of_le → Wb
open Go.RowKit renaming intOf → KS
namespace Go.PH
open Go.RowKit Go.Proofs Go.Proofs.Tryz
variable {b l : List UInt8} {B gb lb : Nat} {F T U V : Nat → Prop} {w w' : World}
theorem vq:∀{b:Bool} {n:Int} {s:ByteArray} {f:Int} {g h:ByteArray} {A:Option Addr} {p q:Nat} {k m:Int} {t:ByteArray} {B C:Option Addr} {u v x y:Nat},∀z∈ [Value.bool b,.int .u64 n,.string s,.int .u32 f,.string g,.string h,.slice A p q,.int .u8 k,.int .u64 m,.string t,.slice B u v,.slice C x y],z.oneCell'=true:=by
 intro b n s f g h A p q k m t B C u v x y z hz;simp at hz;rcases hz with rfl|rfl|rfl|rfl|rfl|rfl|rfl|rfl|rfl|rfl|rfl|rfl<;>rfl
def agF(a:Ag):Ag:={a with is:=false}
def Z4(w:World)(F:Nat→Prop)(kd:UInt8)(l:List UInt8)(e:Ending)(w':World):Prop:=∃(a:Ag) (h:AH) (A2:Option Addr) (n2 c2:Nat) (l2:List UInt8),e= .returned (.tuple #[.agg (agV a h),.slice A2 n2 c2])∧RA w' (FN w.heap.size w') a h∧RdX w' (fun g=>F g∨FN w.heap.size w' g) 1 A2 n2 c2 (l2.map u8v)∧n2≤100000000∧Below w.heap.size w w'∧a.is=false∧
 ∀(a':Ag) (rest:List UInt8),l=byA kd a'++rest→okA kd a'=true→AB a'→a=agF a'∧l2=rest
theorem Y6(kd:UInt8)(k:Nat)(hk:k=1∨k=2∨k=4)(dX:∀a,byA kd a=be k a.n)(bJ:∀a,okA kd a=true→a.n<256 ^ k∧zw a (agN a)=true)(l:List UInt8):
  ∀(a':Ag) (rest:List UInt8),l=byA kd a'++rest→okA kd a'=true→AB a'→(⟨false,(mnum l false (k:Int)).1,[],xd0,[],vl0⟩:Ag)=agF a'∧(mnum l false (k:Int)).2.1=rest:=by
 intro a' rest hl lH _;obtain⟨h1,h2⟩:=bJ a' lH;rw[dX]at hl;have e1:=qZ k Wq a'.n h1 rest;subst hl;rw[e1];have e2:a'=agN a':=(zL _ _).1 h2;refine⟨?_,rfl⟩;rw[e2];rfl
theorem Jy(kd:UInt8)(k:Nat)(hk:k=1∨k=2)(dX:∀a,byA kd a=zP [] a.s (k:Int))(bJ:∀a,okA kd a=true→zE a.s.length (k:Int)=0∧zw a (agS a)=true)(l:List UInt8):
  ∀(a':Ag) (rest:List UInt8),l=byA kd a'++rest→okA kd a'=true→AB a'→(⟨false,0,(zT l false (k:Int) 65535).1,xd0,[],vl0⟩:Ag)=agF a'∧(zT l false (k:Int) 65535).2.1=rest:=by
 intro a' rest hl lH _;obtain⟨h1,h2⟩:=bJ a' lH;obtain⟨h3,h4⟩:=vM hk h1;rw[dX,h4]at hl;have h5:256 ^ k≤65536:=by rcases hk with rfl|rfl<;>decide
 have e1:=ju k Wq a'.s rest 65535 h3 Wq;rw[show((65535:Nat):Int)=65535 from rfl]at e1;subst hl;rw[e1];have e2:a'=agS a':=(zL _ _).1 h2;refine⟨?_,rfl⟩;rw[e2];rfl
theorem Qrd.rdx{b:Nat}{bad:Bool}(h:Qrd F w b l bad):∃A c,w.cell? ⟨b,0,none⟩=some (.slice A l.length c)∧RdX w F 1 A l.length c (l.map u8v):=by
 obtain⟨A,n,c,h0,h1,_,_,hr,_,_,_,hF⟩:=h;have hl:=RdB.length hr;rw[hl];exact⟨A,c,h0,hr,fun _ g hg=>hF g hg⟩
theorem zai(A:Option Addr)(n c:Nat)(l:List UInt8)(w:World)(hr:RdX w F 1 A n c (l.map u8v))(hF:∀g,F g→g<w.heap.size)(hn:n≤100000000):
  Calls prog 112 #[.int .u8 110,.slice A n c] w (Z4 w F 110 l):=by
 have qq2q:=();exact Zd_
theorem zaj(A:Option Addr)(n c:Nat)(l:List UInt8)(w:World)(hr:RdX w F 1 A n c (l.map u8v))(hF:∀g,F g→g<w.heap.size)(hn:n≤100000000):
  Calls prog 112 #[.int .u8 119,.slice A n c] w (Z4 w F 119 l):=by
 have qq2r:=();exact Zd_
theorem zak(A:Option Addr)(n c:Nat)(l:List UInt8)(w:World)(hr:RdX w F 1 A n c (l.map u8v))(hF:∀g,F g→g<w.heap.size)(hn:n≤100000000):
  Calls prog 112 #[.int .u8 100,.slice A n c] w (Z4 w F 100 l):=by
 have qq2s:=();exact Zd_
theorem zal(A:Option Addr)(n c:Nat)(l:List UInt8)(w:World)(hr:RdX w F 1 A n c (l.map u8v))(hF:∀g,F g→g<w.heap.size)(hn:n≤100000000):
  Calls prog 112 #[.int .u8 115,.slice A n c] w (Z4 w F 115 l):=by
 exact Zd_
theorem zam(A:Option Addr)(n c:Nat)(l:List UInt8)(w:World)(hr:RdX w F 1 A n c (l.map u8v))(hF:∀g,F g→g<w.heap.size)(hn:n≤100000000):
  Calls prog 112 #[.int .u8 116,.slice A n c] w (Z4 w F 116 l):=by
 have qq2p:=();exact Zd_
theorem RdX.cut{A:Option Addr}{n c:Nat}(h:RdX w F 1 A n c (l.map u8v))(k:Nat)(hk:k≤n):RdX w F 1 (cutA A 1 k c) (n-k) (c-k) ((l.drop k).map u8v):=by
 have BD:l.length=n:=RdB.length (show RdB w w.heap.size A n c l from h.1);refine⟨?_,fun hp g hg=>h.2 Wq g (by rwa[jx]at hg)⟩;have h1:=kU h.1 k n c hk h.1.cap (K0 _) (K0 _);have e:((l.map u8v).take (n*1)).drop (k*1)=(l.drop k).map u8v:=by rw[K1,K1,q0 Hq,q2]
 rw[e]at h1;exact h1
theorem zbM(A:Option Addr)(n c:Nat)(l:List UInt8)(w:World)(hr:RdX w F 1 A n c (l.map u8v))(hF:∀g,F g→g<w.heap.size)(hn:n≤100000000):
  Calls prog 112 #[.int .u8 98,.slice A n c] w (Z4 w F 98 l):=by
 have qq2n:=();exact Zc_
theorem zan(A:Option Addr)(n c:Nat)(l:List UInt8)(w:World)(hr:RdX w F 1 A n c (l.map u8v))(hF:∀g,F g→g<w.heap.size)(hn:n≤100000000):
  Calls prog 112 #[.int .u8 120,.slice A n c] w (Z4 w F 120 l):=by
 have qq2m:=();exact Zc_
theorem zao(A:Option Addr)(n c:Nat)(l:List UInt8)(w:World)(hr:RdX w F 1 A n c (l.map u8v))(hF:∀g,F g→g<w.heap.size)(hn:n≤100000000):
  Calls prog 112 #[.int .u8 114,.slice A n c] w (Z4 w F 114 l):=by
 exact Zc_
theorem zap(A:Option Addr)(n c:Nat)(l:List UInt8)(w:World)(hr:RdX w F 1 A n c (l.map u8v))(hF:∀g,F g→g<w.heap.size)(hn:n≤100000000):
  Calls prog 112 #[.int .u8 118,.slice A n c] w (Z4 w F 118 l):=by
 have qq2l:=();exact Zc_
theorem zaq(kd:UInt8)(hk:kd∈jX)(A:Option Addr)(n c:Nat)(l:List UInt8)(w:World)(hr:RdX w F 1 A n c (l.map u8v))(hF:∀g,F g→g<w.heap.size)(hn:n≤100000000):
  Calls prog 112 #[.int .u8 (kd.toNat:Int),.slice A n c] w (Z4 w F kd l):=by
 unfold jX at hk;simp only[List.mem_cons,List.not_mem_nil,or_false]at hk;rcases hk with rfl|rfl|rfl|rfl|rfl|rfl|rfl|rfl|rfl
 ·exact zbM A n c l w hr hF hn
 ·exact zai A n c l w hr hF hn
 ·exact zaj A n c l w hr hF hn
 ·exact zak A n c l w hr hF hn
 ·exact zal A n c l w hr hF hn
 ·exact zam A n c l w hr hF hn
 ·exact zan A n c l w hr hF hn
 ·exact zao A n c l w hr hF hn
 exact zap A n c l w hr hF hn
theorem X5{p q:UInt8}{r:List UInt8}(h:l=p::q::r):mnum l false 2=(256*p.toNat+q.toNat,r,false):=by
 rw[qG WJ];have e:=xp (l:=l) (n:=2) (by rw[h];simp);rw[show((2:Nat):Int)=2 from rfl]at e;rw[e,h];simp[unbe]
theorem zbL{x y:UInt8}{r:List UInt8}(hb:b=x::y::r){p q:UInt8}(h:b.drop (atM x.toNat)=p::q::l){i:Nat}{m:Mt}(hm:Told b m)(hi:i<m.args.length):m.args[i].is=decide (q.toNat / 2 ^ i % 2=1):=by
 have h1:=X5 h;have h2:=VS hb h1 hm hi;obtain⟨_,_,_,_,h5⟩:=jb hb hm;rw[h1]at h5;injection h5 with h5 _
 have h3:zF (m.args.map toSA)<256:=by
  have h4:=xq (m.args.map toSA);have h6:2 ^ (m.args.map toSA).length≤2 ^ 3:=Nat.pow_le_pow_right Wq (by rw[List.length_map];exact(vn hm).2);omega
 have h0:p.toNat=0:=by omega
 rw[h0,Nat.mul_zero,Nat.zero_add]at h2;exact h2
theorem zdP(q:UInt8)(i:Nat)(hi:i≤3):((q.toNat:Int) / 2 ^ i % 2==1)=decide (q.toNat / 2 ^ i % 2=1):=by
 have e:((q.toNat:Int) / 2 ^ i)=((q.toNat / 2 ^ i:Nat):Int):=by rw[Int.natCast_ediv];norm_cast
 rw[e];generalize q.toNat / 2 ^ i=t at*;by_cases h1:t % 2=1
 ·rw[decide_eq_true h1];simp;omega
 rw[decide_eq_false h1];simp;omega
theorem zah(A:Option Addr)(n c:Nat)(b:List UInt8)(w:World)(hr:RdB w w.heap.size A n c b)(hn:n≤20000):Calls prog 91 #[.slice A n c] w (zcw w b):=by
 obtain⟨zb,w0,bC,bh,hz,Hr⟩:=yT w #[.int .u8 0,.int .u8 0,.bool false,.slice none 0 0] 106;have tg:w.heap.size≤zb:=by omega
 have BD:b.length=n:=RdB.length hr;by_cases h2:n<2
 ·have qqb2:=();exact Z29_
 have g2:¬(n:Int)<2:=by omega
 have g3:(1:Int)<(n:Int):=by omega
 have g4:(0:Int)<(n:Int):=by omega
 have g5:0<n:=by omega
 have g6:1<n:=by omega
 obtain⟨x,y,r,cU⟩:∃x y r,b=x::y::r:=by
  match b,BD with
  | [],h=>simp at h;omega
  | [_],h=>simp at h;omega
  | x::y::r,_=>exact⟨x,y,r,rfl⟩
 obtain⟨g,off,hA,DJ,eC⟩:=hr.at_ Wq;subst hA
 have TKC:∀W,Below w.heap.size w W→∀j (hj:j<b.length),W.cell? ⟨g,off+j,none⟩=some (.int .u8 (b[j].toNat:Int)):=fun W hW j hj=>
  (hW.cell (p:=⟨g,off+j,none⟩) DJ).trans (by have:=eC j (u8v b[j]) (by rw[q3,K2 hj];rfl);rw[kS]at this;exact this)
 have E5:∀W,Below w.heap.size w W→W.cell? ⟨g,off,none⟩=some (.int .u8 (x.toNat:Int))∧W.cell? ⟨g,off+1,none⟩=some (.int .u8 (y.toNat:Int)):=fun W hW=>by
  have h0:=TKC W hW 0 Wq;have h1:=TKC W hW 1 Wq;simp only[cU]at h0 h1;exact⟨h0,h1⟩
 have L5:=KL TKC;clear TKC eC;have eU:=fun W=>XT x.toNat y.toNat W
 unfold VY at eU;obtain⟨⟨rc,rk,rn,kd⟩,nO,eg,BQ⟩:=VU x.toNat y.toNat;rw[nO,BQ]at eU;unfold rrV at eU;simp only at eg eU;obtain⟨UF,F4⟩:∃q,q=(yp x.toNat y.toNat).isSome:=⟨_,rfl⟩
 rw[←F4]at eU;have Ck:=KL F4;have u9:=KL eg;have uC:(b.getD 0 0).toNat=x.toNat∧(b.getD 1 0).toNat=y.toNat:=by rw[cU];exact⟨rfl,rfl⟩
 have dB:=KL uC;have uU:=KL cU;obtain⟨bK,ft⟩:=qp x.toNat y.toNat;rw[←eg]at bK ft;have nS:=KL bK;clear uC cU BQ F4 nO eg bK;go_enter func91,ntmps91;go_upto_region 3 with fail;rw[←bC,←bh];clear bC bh;go_cut [4,5]from 19 to 28 (fun s4 s5 wx=>∃rb,s4= .pointer (some ⟨rb,0,none⟩)∧s5= .bool UF∧zb<rb∧Box wx rb 127 #[.int .u8 (rc:Int),.int .u8 (rk:Int),.string (str rn),.string (str kd)]∧Box wx zb 106 #[.int .u8 0,.int .u8 0,.bool false,.slice none 0 0]∧Below w.heap.size w wx)
 case first=>
  refine zt (fun W:World=>Below w.heap.size w W) Wj ?_;have hS:Below w.heap.size w w0.drew:=za Hr 1;replace hz:Box w0.drew zb 106 #[.int .u8 0,.int .u8 0,.bool false,.slice none 0 0]:=hz;clear Hr;generalize w0.drew=wd at*;refine rg_t 0 hS ?_;simp only[q5,q6,Act.put,q7,q8,q9];refine rg_t 1 hS ?_;simp only[g_S];refine ze 2 (v:=?_) rfl Wj Wj Wj hS rfl ?_ ?_;rotate_left
  ·intro wS He;have k0:=(E5 wS He).1;go_simp;(with_reducible rfl)
  simp only[g_S];refine rg_t 3 hS ?_;simp only[g_S];refine rg_t 4 hS ?_;simp only[g_S];refine ze 5 (v:=?_) rfl Wj Wj Wj hS rfl ?_ ?_;rotate_left
  ·intro wS He;have k0:=(E5 wS He).2;go_simp;(with_reducible rfl)
  simp only[g_S];refine xO 6 10 rfl rfl Wj rfl rfl (fun K hK=>?_) (fun K hK=>?_)
  ·go_simp;refine(eU wd).mono ?_;rintro e w3 ⟨rfl,Hh⟩;have dL:=hS.trans (Hh.mono hS.size);have fV:=hz.below Hh;refine hK _ _ dL ?_;clear hK K;(try simp only[g_S]);clear hS Hh hz;refine rg_t 7 dL ?_;simp only[g_S];refine rg_t 8 dL ?_;simp only[g_S];refine rg_t 9 dL ?_;simp only[g_S];refine zj 10 rfl Wj rfl (fun K hK=>?_);obtain⟨rb,w4,da,cg,hR,Hn⟩:=yT w3 #[.int .u8 0,.int .u8 0,.string ⟨#[]⟩,.string ⟨#[]⟩] 127;have uo:=dL.trans (Hn.mono dL.size);have eX:=fV.below Hn;(have Oe:zb<rb:=by rw[da];exact fV.lt);go_simp;rw[←da,←cg];clear da cg Hn fV;refine hK _ _ uo ?_;clear hK K;(try simp only[g_S]);refine zj 11 rfl Wj rfl (fun K hK=>?_);refine zK (v:=.agg #[.int .u8 (rc:Int),.int .u8 (rk:Int),.string (str rn),.string (str kd)]) (vs:=[.int .u8 (rc:Int),.int .u8 (rk:Int),.string (str rn),.string (str kd)]) rfl rfl rfl hR rfl Wj Wz vY #[.int .u8 (rc:Int),.int .u8 (rk:Int),.string (str rn),.string (str kd)] Wz ?_;intro w5 ew bc _;have BL:=uo.grown bc uo.size Wx;have fY:=eX.grown bc (sne Wq);exact Z4s_
  obtain⟨rb,w4,da,cg,hR,Hn⟩:=yT wd #[.int .u8 0,.int .u8 0,.string ⟨#[]⟩,.string ⟨#[]⟩] 127;have uo:=hS.trans (Hn.mono hS.size);have eX:=hz.below Hn;have Oe:zb<rb:=by rw[da];exact hz.lt
  go_simp;rw[←da,←cg];clear da cg Hn hz;refine hK _ _ uo ?_;clear hK K;try simp only[g_S]
  refine zj 6 rfl Wj rfl (fun K hK=>?_);go_simp;refine(eU w4).mono ?_;rintro e w3 ⟨rfl,Hh⟩;have dL:=uo.trans (Hh.mono uo.size);have fV:=eX.below Hh;have fx:=hR.below Hh;refine hK _ _ dL ?_;clear hK K;try simp only[g_S]
  clear hS Hh eX hR;refine rg_t 7 dL ?_;simp only[g_S];refine rg_t 8 dL ?_;simp only[g_S];refine rg_t 9 dL ?_;simp only[g_S];refine zj 11 rfl Wj rfl (fun K hK=>?_);refine zK (v:=.agg #[.int .u8 (rc:Int),.int .u8 (rk:Int),.string (str rn),.string (str kd)]) (vs:=[.int .u8 (rc:Int),.int .u8 (rk:Int),.string (str rn),.string (str kd)]) rfl rfl rfl fx rfl Wj Wz vY #[.int .u8 (rc:Int),.int .u8 (rk:Int),.string (str rn),.string (str kd)] Wz ?_;intro w5 ew bc _;have BL:=dL.grown bc dL.size Wx;have fY:=fV.grown bc (sne Wq);exact Z4s_
 clear hz Hr eU;obtain⟨rb,rfl,rfl,Oe,hR,hz,hB⟩:=hcut
 cases UF
 ·have WB:Hid (yp x.toNat y.toNat=none):=KL (by
   have h:=Ck.out
   cases hf:yp x.toNat y.toNat
   ·rfl
   ·rw[hf]at h;cases h)
  clear Ck;go_wp2_with(with_reducible refine h_B ?_);refine zc (zm (v:=.agg #[.int .u8 0,.int .u8 0,.bool false,.slice none 0 0]) (vs:=[.int .u8 0,.int .u8 0,.bool false,.slice none 0 0]) rfl rfl rfl rfl hz rfl Wj Wz qP #[.int .u8 0,.int .u8 0,.bool false,.slice none 0 0] Wz ?_);intro oG de BY _;have H3:=hB.grown BY hB.size Wx;go_wp2_with(with_reducible refine h_A ?_);refine zG rfl de rfl rfl underlying106 rfl Wj rfl ?_;exact⟨mt0,none,0,80,rfl,RM.zero _ _,H3,.inr (.inl ⟨by omega,by rw[dB.out.1,dB.out.2];exact WB.out,rfl,rfl⟩)⟩
 have p7:Hid ((yp x.toNat y.toNat).isSome=true):=KL Ck.out.symm;clear Ck;go_upto_region 6 with fail;refine zt (fun W:World=>Below w.heap.size w W) Wj ?_;have hS:Below w.heap.size w wc.drew:=za hB 1;replace hz:Box wc.drew zb 106 #[.int .u8 0,.int .u8 0,.bool false,.slice none 0 0]:=hz;replace hR:Box wc.drew rb 127 #[.int .u8 (rc:Int),.int .u8 (rk:Int),.string (str rn),.string (str kd)]:=hR;clear hB;generalize wc.drew=wd at*;refine rg_t 0 hS ?_;simp only[q5,q6,Act.put,q7,q8,q9];refine rg_t 1 hS ?_;simp only[g_S];refine ze 2 (v:=?_) rfl Wj Wj Wj hS rfl ?_ ?_;rotate_left
 ·intro wS He;have k0:=(E5 wS He).1;go_simp;(with_reducible rfl)
 simp only[g_S];refine rg_t 3 hS ?_;simp only[g_S];refine rg_t 4 hS ?_;simp only[g_S];refine ze 5 (v:=?_) rfl Wj Wj Wj hS rfl ?_ ?_;rotate_left
 ·intro wS He;have k0:=(E5 wS He).2;go_simp;(with_reducible rfl)
 simp only[g_S];refine rg_t 6 hS ?_;simp only[g_S];refine zj 7 rfl Wj rfl (fun K hK=>?_);obtain⟨mb,w1,bC,bh,hm,ia⟩:=yT wd #[.int .u8 0,.int .u8 0,.bool false,.slice none 0 0] 106;have BH:=hS.trans (ia.mono hS.size);have cq:=hz.below ia;have iL:=hR.below ia;have pC:rb<mb:=by rw[bC];exact hR.lt
 go_simp;rw[←bC,←bh];clear bC bh ia hz hR;refine hK _ _ BH ?_;clear hK K;try simp only[g_S]
 refine zj 8 rfl Wj rfl (fun K hK=>?_);refine zK (v:=.agg #[.int .u8 (x.toNat:Int),.int .u8 (y.toNat:Int),.bool false,.slice none 0 0]) (vs:=[.int .u8 (x.toNat:Int),.int .u8 (y.toNat:Int),.bool false,.slice none 0 0]) rfl rfl rfl hm rfl Wj Wz qP #[.int .u8 (x.toNat:Int),.int .u8 (y.toNat:Int),.bool false,.slice none 0 0] Wz ?_;intro w2 dU Hm _;have Hc:=BH.grown Hm BH.size Wx;have et:=cq.grown Hm (sne Wq);have Bw:=iL.grown Hm (sne Wq);refine hK _ _ Hc ?_;clear hK K hS BH cq iL hm Hm;refine zD Wj ?_;have x0:=dU.c0;go_upto_if 41 with fail;clear x0;go_cut [7]from 39 to 41 (fun s7 wx=>∃at_:Nat,s7= .int .i64 (at_:Int)∧Hid (at_=atM x.toNat)∧w2=wx)
 case first=>
  by_cases hc:x.toNat≤2
  ·(have g7:¬(2:Int)<(x.toNat:Int):=by omega);have lZ:Hid (2=atM x.toNat):=KL (by unfold atM;rw[if_pos hc]);go_wp2_with(with_reducible refine h_A ?_);go_meet;exact⟨2,rfl,lZ,rfl⟩
  have g7:(2:Int)<(x.toNat:Int):=by omega
  have lZ:Hid (4=atM x.toNat):=KL (by unfold atM;rw[if_neg hc]);go_wp2_with(with_reducible refine h_A ?_);go_meet;exact⟨4,rfl,lZ,rfl⟩
 obtain⟨at_,rfl,lZ,rfl⟩:=hcut;have OL:at_≤4:=by rw[lZ.out];unfold atM;split<;>omega
 by_cases nU:n<at_+2
 ·have g7:(n:Int)<(at_:Int)+2:=by omega
  have nM:Hid (∀m',yI m'=true→MB m'→putM m'≠b):=KL (fun m' h1 h2 h3=>by
   obtain⟨_,_,_,q4,_⟩:=jb uU.out ⟨h1,h2,h3⟩;rw[←lZ.out]at q4
   omega)
  clear nU;go_wp2_with(with_reducible refine h_B ?_);refine zc (zm (v:=.agg #[.int .u8 0,.int .u8 0,.bool false,.slice none 0 0]) (vs:=[.int .u8 0,.int .u8 0,.bool false,.slice none 0 0]) rfl rfl rfl rfl et rfl Wj Wz qP #[.int .u8 0,.int .u8 0,.bool false,.slice none 0 0] Wz ?_);intro oG de BY _;have H3:=(Hc).grown BY (Hc).size Wx;exact Z4p_
 have g7:¬(n:Int)<(at_:Int)+2:=by omega
 have ay:at_+2≤n:=by omega
 have x0:=dU.c0;clear nU;go_upto_if 50 with fail;clear x0;go_cut [7]from 48 to 55 (fun s7 wx=>∃sync:Bool,s7= .int .i64 (at_:Int)∧Hid (sync=kq x.toNat b)∧Box wx mb 106 #[.int .u8 (x.toNat:Int),.int .u8 (y.toNat:Int),.bool sync,.slice none 0 0]∧Box wx zb 106 #[.int .u8 0,.int .u8 0,.bool false,.slice none 0 0]∧Box wx rb 127 #[.int .u8 (rc:Int),.int .u8 (rk:Int),.string (str rn),.string (str kd)]∧Below w.heap.size w wx)
 case first=>
  by_cases hc:x.toNat≤2
  ·(have g8:¬(2:Int)<(x.toNat:Int):=by omega);have mi:Hid (false=kq x.toNat b):=KL (by unfold kq;rw[decide_eq_true hc];rfl);go_wp2_with(with_reducible refine h_A ?_);go_meet;exact⟨false,rfl,mi,dU,et,Bw,Hc⟩
  have g8:(2:Int)<(x.toNat:Int):=by omega
  have rU:at_=4:=by rw[lZ.out];unfold atM;rw[if_neg hc]
  have g9:(3:Int)<(n:Int):=by omega
  have g10:3<n:=by omega
  have bX:b[3]?=some b[3]:=K2 Wq;have k3:=L5.out _ Hc 3 Wq;have mi:∀q:Bool,decide (b[3]=1)=q→Hid (q=kq x.toNat b):=fun q hq=>KL (by unfold kq;rw[decide_eq_false hc,bX,←hq];by_cases h1:b[3]=1<;>simp[h1])
  generalize b[3]=z at*;clear bX rU;by_cases cq:z=1
  ·have pW:=mi true (decide_eq_true cq);subst cq;have k4:_=some (Value.int .u8 1):=k3;clear mi k3;go_wp2_with(with_reducible refine h_B ?_);refine zc (zm (v:=.bool true) (vs:=[.bool true]) rfl rfl rfl rfl dU rfl Wj Wz wX #[.int .u8 (x.toNat:Int),.int .u8 (y.toNat:Int),.bool true,.slice none 0 0] Wz ?_);intro w5 gC bc _;go_wp2_with(with_reducible refine h_A ?_);go_meet;exact⟨true,rfl,pW,gC,et.grown bc (sne Wq),Bw.grown bc (sne Wq),Hc.grown bc Hc.size (fun g hg=>by injection hg with hg;have:=Hc.size;omega)⟩
  have pW:=mi false (decide_eq_false cq)
  have aj:((z.toNat:Int)==1)=false:=by
   exact Z5y_
  clear mi cq;go_wp2_with(with_reducible refine h_B ?_);refine zc (zm (v:=.bool false) (vs:=[.bool false]) rfl rfl rfl rfl dU rfl Wj Wz wX #[.int .u8 (x.toNat:Int),.int .u8 (y.toNat:Int),.bool false,.slice none 0 0] Wz ?_);intro w5 gC bc _;go_wp2_with(with_reducible refine h_A ?_);go_meet;exact⟨false,rfl,pW,gC,et.grown bc (sne Wq),Bw.grown bc (sne Wq),Hc.grown bc Hc.size (fun g hg=>by injection hg with hg;have:=Hc.size;omega)⟩
 clear dU et Bw Hc;obtain⟨sync,rfl,mi,wT,eX,gy,Hn⟩:=hcut
 obtain⟨p,q,l0,hd⟩:∃p q l0,b.drop at_=p::q::l0:=by
  have hl:2≤(b.drop at_).length:=by rw[kI];omega
  match b.drop at_,hl with
  | [],h=>simp at h
  | [_],h=>simp at h
  | p::q::l0,_=>exact⟨p,q,l0,rfl⟩
 have eQ:b[at_+1]'Wq=q:=by
  have h1:(b.drop at_)[1]?=some q:=by rw[hd];rfl
  rw[List.getElem?_drop,K2 Wq]at h1;injection h1
 have fE:b.drop (at_+2)=l0:=by rw[←List.drop_drop,hd];rfl
 have U2:Hid (b.drop (atM x.toNat)=p::q::l0):=KL (by rw[←lZ.out];exact hd);have PD:=KL fE;have k8:=L5.out _ Hn (at_+1) Wq;rw[eQ]at k8;have g8:(at_:Int)+1<(n:Int):=by omega
 have g9:at_+1<n:=by omega
 have cV:RdB wc w.heap.size (some ⟨g,off,none⟩) n c b:=hr.below Hn;have fp:=cV.cap;have NM:=Hn.size;clear hd eQ fE lZ;go_wp2_with(with_reducible refine h_S ?_);refine zc (kD slB rfl rfl rfl cV (at_+2) n c (.inr ⟨_,_,rfl,by omega⟩) (.inl ⟨rfl,rfl⟩) (.inl ⟨rfl,rfl⟩) mq Wq Wq (K0 _) (K0 _) ?_);intro A8 nI Al;have e8:((b.map u8v).take (n*1)).drop ((at_+2)*1)=l0.map u8v:=by rw[K1,K1,q0 Hq,←q2,PD.out]
 rw[e8]at nI;have he2:=wT.lt
 have od:RdX wc (fun k=>k<wc.heap.size∧k≠mb∧k≠zb∧blk (none:Option Addr)≠some k) 1 A8 (n-(at_+2)) (c-(at_+2)) (l0.map u8v):=⟨yU nI NM,fun _ k hk=>by
  rw[Al]at hk;have Bk:g=k:=by simpa[blk]using hk
  subst Bk
  exact⟨by omega,by omega,by omega,by simp[blk]⟩⟩
 have py:n-(at_+2)≤100000000:=by omega
 obtain⟨bs,iT⟩:∃q,q=wc.heap.size:=⟨_,rfl⟩
 have hhq:mb<bs:=by omega
 have An:bs≤wc.heap.size:=Nat.le_of_eq iT;have hbh:w.heap.size≤bs:=by omega
 have ud:Hid (ReadTo b 0 [] l0 false):=KL (ReadTo.start uU.out (X5 U2.out));have iM:MpS wc bs none 0 []:=⟨Own.none_ _ _ _ _,fun p hp=>by cases hp⟩;have dr:=zh kd;clear e8 nI cV k8 Al iT g8 g9;go_wp2_with(with_reducible refine h_A ?_);go_loopw [9,10] (fun s9 CD wr=>∃(i:Nat) (A3:Option Addr) (c3:Nat) (xs:List (Ag×AH)) (A9:Option Addr) (n9 c9:Nat) (l3:List UInt8),i≤kd.length∧s9= .slice A9 n9 c9∧CD= .int .i64 i∧Hid (xs.length=i)∧Hid (ReadTo b i (xs.map (·.1)) l3 false)∧MpS wr bs A3 c3 xs∧Box wr mb 106 #[.int .u8 (x.toNat:Int),.int .u8 (y.toNat:Int),.bool sync,.slice A3 i c3]∧Box wr zb 106 #[.int .u8 0,.int .u8 0,.bool false,.slice none 0 0]∧Box wr rb 127 #[.int .u8 (rc:Int),.int .u8 (rk:Int),.string (str rn),.string (str kd)]∧RdX wr (fun k=>k<wr.heap.size∧k≠mb∧k≠zb∧blk A3≠some k) 1 A9 n9 c9 (l3.map u8v)∧n9≤100000000∧Below w.heap.size w wr∧bs≤wr.heap.size) (fun _ CD _=>kd.length-(KS CD).toNat)
 case atStart=>exact⟨0,none,0,[],A8,n-(at_+2),c-(at_+2),l0,by omega,rfl,rfl,KL rfl,ud,iM,wT,eX,gy,od,py,Hn,An⟩
 clear iM wT eX gy od Hn ud An NM py;obtain⟨i,A3,c3,xs,A9,n9,c9,l3,hi,rfl,rfl,un,Am,hS,hm,hz,hR,hq,hn9,hB,Bm⟩:=hrel;have r3:=hR.c3;by_cases hlt:i<kd.length
 ·have g1:(i:Int)<(kd.length:Int):=by omega
  have M3:i<(str kd).size:=by rw[dr];exact hlt
  have g2i:(i:Int)≤3:=by omega
  have mR:=zdP q i Wq;obtain⟨is,BQ⟩:∃t:Bool,t=decide (q.toNat / 2 ^ i % 2=1):=⟨_,rfl⟩
  rw[←BQ]at mR;have cF:Hid (∀m,Told b m→∀(h:i<m.args.length),m.args[i].is=is):=KL (fun m hm h=>by rw[BQ];exact zbL uU.out U2.out hm h);have Ri:=KL mR;clear BQ mR;have pz:=nS.out kd[i] (List.getElem_mem hlt);have ip:Calls prog 112 #[.int .u8 (((str kd)[i]'M3).toNat:Int),.slice A9 n9 c9] wr _:=zaq kd[i] pz A9 n9 c9 l3 wr hq (fun k hk=>hk.1) hn9;have Bz:∀g,blk A3=some g→bs≤g∧g<wr.heap.size:=fun g hg=>hS.own.blk_lt hg
  have I6:=hB.size;go_wp2_with(with_reducible refine h_A ?_);refine ip.mono ?_;rintro e w5 ⟨a,ah,nt,I4,c10,l5,rfl,uO,pI,S4,bz,SM,LC⟩
  have Es:Hid (ReadTo b (i+1) (xs.map (·.1)++ [{a with is:=is}]) l5 false):=KL (ReadTo.step uU.out u9.out Am.out hlt cF.out (fun a' rest _ hl hk Br he=>by
   obtain⟨e1,e2⟩:=LC a' rest hl hk Br;refine⟨?_,e2,rfl⟩;rw[e1];unfold agF
   rw[←he]))
  have GF:=bz.size;have gC:=hm.below bz;have fY:=hz.below bz;have ew:=hR.below bz;have BL:=hS.below bz;have H6:=hB.trans (bz.mono I6)
  have wL:RdX w5 (fun k=>k<w5.heap.size∧k≠mb∧k≠zb∧blk A3≠some k) 1 nt I4 c10 (l5.map u8v):=pI.mono (fun k hk=>by
   rcases hk with hk|hk
   ·exact⟨by omega,hk.2.1,hk.2.2.1,hk.2.2.2⟩
   ·have h1:=hk.1
    exact⟨hk.2,by omega,by omega,fun e=>by have:=Bz k e;omega⟩)
  have r8:RA w5 (FB bs A3 w5) {a with is:=is} ah:=by
   have h:=uO.mono (G:=FB bs A3 w5) (fun k hk=>⟨by have:=hk.1;omega,hk.2,fun e=>by have:=Bz k e;have:=hk.1;omega⟩);exact⟨h.n,h.s,h.x,h.q,h.ok,h.c,h.v⟩
  clear ip pz hq uO pI SM LC cF Am hS hm hz hR hB r3 bz;unfold agV;obtain⟨ab,w6,Br,gr,Ng,bH⟩:=zg w5 #[.bool a.is,.int .u64 (a.n:Int),.string (str a.s),.int .u32 (a.x.fmt:Int),.string (str a.x.glob),.string (str a.x.bran),.slice ah.A a.q.length ah.c,.int .u8 (a.v.kind:Int),.int .u64 (a.v.n:Int),.string (str a.v.s),.slice ah.h.A1 a.v.keys.length ah.h.c1,.slice ah.h.A2 a.v.list.length ah.h.c2] 80;go_upto_region 20 with fail;rw[←Br,←gr];have u0:=gC.below bH;have ej:=fY.below bH;have bF:=ew.below bH;have bY:=BL.below bH;have Nh:=BL;have az:Hid (∀k,k<w5.heap.size→w6.heap[k]?=w5.heap[k]?):=KL (fun k hk=>bH.block k hk);have dC:=H6.trans (bH.mono H6.size);have Aw:=bH.size;have EP:RdX w6 (fun k=>k<w5.heap.size∧k≠mb∧k≠zb∧blk A3≠some k) 1 nt I4 c10 (l5.map u8v):=wL.keep (fun k hk=>bH.block k hk.1) Aw;have OW:=(r8.keep (fun k hk=>bH.block k hk.2.1) Aw).mono (G:=FB bs A3 w6) (fun k hk=>⟨hk.1,Wb hk.2.1 Aw,hk.2.2⟩);have Rq:w5.heap.size≤ab:=by omega
  have Ls:RA w6 (fun k=>FB bs A3 w6 k∧k<w5.heap.size) {a with is:=is} ah:=(r8.keep (fun k hk=>bH.block k hk.2.1) Aw).mono (fun k hk=>⟨⟨hk.1,Wb hk.2.1 Aw,hk.2.2⟩,hk.2.1⟩);clear Br gr gC fY ew BL H6 bH wL r8 OW;have mR:=Ri.out;go_wp2_with(with_reducible refine h_B ?_);refine zc (zm (v:=.bool is) (vs:=[.bool is]) rfl rfl rfl (by first|rfl|exact congrArg Value.bool mR) Ng rfl Wj Wz wX #[.bool is,.int .u64 (a.n:Int),.string (str a.s),.int .u32 (a.x.fmt:Int),.string (str a.x.glob),.string (str a.x.bran),.slice ah.A a.q.length ah.c,.int .u8 (a.v.kind:Int),.int .u64 (a.v.n:Int),.string (str a.v.s),.slice ah.h.A1 a.v.keys.length ah.h.c1,.slice ah.h.A2 a.v.list.length ah.h.c2] Wz ?_);intro w7 iz H9 iB;clear iB;have Oi:=u0.grown H9 (sne Wq);have uV:=ej.grown H9 (sne Wq);have BJ:=bF.grown H9 (sne Wq);have wh:=H9.size;have pB:MpS w7 bs A3 c3 xs:=Nh.on (fun k h1 h2=>(H9.block k Wq (sne Wq)).trans (az.out k h2)) Wq;have fK:=dC.grown H9 dC.size (fun k hk=>by injection hk with hk;omega);have ow:=EP.keep (fun k hk=>H9.block k (by have:=hk.1;omega) (by intro e;injection e with e;have:=hk.1;omega)) wh;have IX:RA w7 (FB bs A3 w7) {a with is:=is} ah:=(Ls.keep (fun k hk=>H9.block k (by have:=hk.2;omega) (by intro e;injection e with e;have:=hk.2;omega)) wh).mono (fun k hk=>⟨hk.1.1,Wb hk.1.2.1 wh,hk.1.2.2⟩);clear mR u0 ej bF bY Nh dC EP Ls Ng H9;have a_0:=iz.c0;have a_1:=iz.c1;have a_2:=iz.c2;have a_3:=iz.c3;have a_4:=iz.c4;have a_5:=iz.c5;have a_6:=iz.c6;have a_7:=iz.c7;have a_8:=iz.c8;have a_9:=iz.c9;have a_10:=iz.c10;have a_11:=iz.c11;have o3:=Oi.c3;have Bu:Own w7 bs 80 12 A3 i c3 (rowC agC xs):=un.out▸pB.own;go_wp2_with(with_reducible refine h_B ?_);refine zc (jS (W:=w7) Qm slAg underlying82 rfl rfl rfl rfl rfl (({a with is:=is}:Ag),ah) rfl Bu Wq Wq Wq ?_);intro Ia c11 wA dt fm rM _;have np:=pB.push IX (by rw[un.out];exact dt) fm rM;have Pv:=Oi.grown fm wj;have EB:=uV.grown fm wj;have lc:=BJ.grown fm wj;have rZ:=fK.grown fm fK.size (fun k hk=>by have:=Bz k hk;omega);have Tf:=fm.size
  have hqA:RdX wA (fun k=>k<wA.heap.size∧k≠mb∧k≠zb∧blk Ia≠some k) 1 nt I4 c10 (l5.map u8v):=(ow.keep (fun k hk=>fm.block k (by have:=hk.1;omega) (fun e=>hk.2.2.2 e.symm)) Tf).mono (fun k hk=>⟨by have:=hk.1;omega,hk.2.1,hk.2.2.1,by
   rcases rM with e|e
   ·rw[e];exact hk.2.2.2
   ·intro e2;have:=e k e2;have:=hk.1;omega⟩)
  clear pB IX Oi uV BJ fK iz Bu dt fm rM ow a_0 a_1 a_2 a_3 a_4 a_5 a_6 a_7 a_8 a_9 a_10 a_11 o3;go_wp2_with(with_reducible refine h_B ?_);refine zc (zm (v:=.slice Ia (i+1) c11) (vs:=[.slice Ia (i+1) c11]) rfl rfl rfl rfl Pv rfl Wj Wz wX #[.int .u8 (x.toNat:Int),.int .u8 (y.toNat:Int),.bool sync,.slice Ia (i+1) c11] Wz ?_);intro wC RT gJ hsC;have uW:=np.box gJ Wq;have EL:=EB.grown gJ (sne Wq);have Fk:=lc.grown gJ (sne Wq);have hqC:RdX wC (fun k=>k<wC.heap.size∧k≠mb∧k≠zb∧blk Ia≠some k) 1 nt I4 c10 (l5.map u8v):=(hqA.keep (fun k hk=>gJ.block k hk.1 (by intro e;injection e with e;have:=hk.2.1;omega)) gJ.size).mono (fun k hk=>⟨by have:=hk.1;omega,hk.2⟩);have wV:=rZ.grown gJ rZ.size (fun k hk=>by injection hk with hk;omega);go_wp2_with(with_reducible refine h_A ?_);exact⟨⟨i+1,Ia,c11,xs++ [({a with is:=is},ah)],nt,I4,c10,l5,by omega,rfl,by go_num,KL (by rw[List.length_append,un.out];rfl),KL (by rw[List.map_append];exact Es.out),uW,RT,EL,Fk,hqC,S4,wV,by omega⟩,by simp[KS];omega⟩
 have qq3e:=();exact Zk_
theorem QP(ctl:LS→As→LS):∀(a:List UInt8) (p:LS×List UInt8) (t:List UInt8),LS.ones ctl p (a++t)=LS.ones ctl (LS.ones ctl p a) t
 | [],_,_=>rfl
 | c::a,p,t=>by
  by_cases h:p.1.st=5
  ·rw[qy ctl h,qy ctl h,qy ctl h]
  have e:∀x,LS.ones ctl p (c::x)=LS.ones ctl (LS.one ctl p c) x:=fun x=>by rw[LS.ones,if_neg h]
  rw[List.cons_append,e,e];exact QP ctl a _ t
structure RlI(w:World)(B:Nat)(V:Nat→Prop)(lb gb:Nat)(l:List Fr)(b:List UInt8)(L:LS):Prop where
 ex:∃(p q:Value) (F:Nat→Prop),Box w lb 38 #[.int .i64 (L.st:Int),.string (str b),.pointer (some ⟨gb,0,none⟩),.int .u64 (L.ch:Int),.int .u64 (L.sz:Int),p,q]∧RGa w F gb L.g l∧¬F lb∧∀k,F k→V k
 lb:V lb
 v:∀k,V k→B≤k∧k<w.heap.size
theorem RlI.keep{G:Nat→Prop}{l:List Fr}{L:LS}(h:RlI w B V lb gb l b L)(hk:KeepF G w w')(hG:∀k,V k→¬G k):RlI w' B V lb gb l b L where
 ex:=by
  obtain⟨p,q,F,h1,h2,h3,h4⟩:=h.ex;exact⟨p,q,F,zV h1 hk (hG _ h.lb),h2.keep hk (fun k e=>hG k (h4 k e)),h3,h4⟩
 lb:=h.lb
 v:=fun k hk'=>⟨(h.v k hk').1,Wb (h.v k hk').2 hk.1⟩
theorem RlX.start{l:List Fr}{L:LS}(hb:Box w lb 38 #[.int .i64 (L.st:Int),.string (str b),.pointer (some ⟨gb,0,none⟩),.int .u64 (L.ch:Int),.int .u64 (L.sz:Int),.string ⟨#[]⟩,.slice none 0 0])
  (hg:RGa w F gb L.g l) (d7:¬F lb) (hF:∀k,F k→B≤k) (cT:B≤lb):RlX w B (fun k=>k=lb∨F k) (fun _=>False) lb gb l b L.core none 0 [] F where
 box:=hb
 row:=Own.none_ _ _ _ _
 tl:=rfl
 el:=fun x hx=>by cases hx
 ga:=hg
 fu:=fun k e=>.inr e
 tt:=fun k e=>by cases e
 fl:=d7
 lb:=.inl rfl
 size:=Nat.le_trans cT (Nat.le_of_lt hb.lt)
 uB:=fun k e=>by
  rcases e with rfl|e
  ·exact⟨cT,hb.lt⟩
  exact⟨hF k e,hg.lt k e⟩
 tB:=fun k e=>e.elim
 ut:=fun k e=>e.elim
def zb4(w:World)(B:Nat)(V:Nat→Prop)(lb gb m:Nat)(p:LS×List UInt8)(e:Ending)(w':World):Prop:=
 ∃(V':Nat→Prop) (l':List Fr) (TT:Option Addr) (tc:Nat) (th:List TAs),e= .returned (.tuple #[.string (str p.1.sent),.slice TT p.1.told.length tc])∧l'.length≤m∧RlI w' B V' lb gb l' p.2 p.1∧KeepF V w w'∧(∀k,V' k→V k∨w.heap.size≤k)∧
  p.1.told=th.map (·.a)∧OwnT w' B TT p.1.told.length tc th∧(∀g,blk TT=some g→¬V' g∧(V g∨w.heap.size≤g))∧∀x∈th,OwnG w' 0 x.A x.a.segs.length x.c x.a.segs∧∀g,blk x.A=some g→¬V' g∧(V g∨w.heap.size≤g)
def RlFeedM(w:World)(B:Nat)(V:Nat→Prop)(lb gb m:Nat)(p:LS×List UInt8)(e:Ending)(w':World):Prop:=
 ∃(U T:Nat→Prop) (l':List Fr) (TT:Option Addr) (tc:Nat) (th:List TAs) (F:Nat→Prop),e= .returned (.tuple #[.string (str p.1.sent),.slice TT p.1.told.length tc])∧l'.length≤m∧RlX w' B U T lb gb l' p.2 p.1 TT tc th F∧KeepF V w w'∧(∀k,U k→V k∨w.heap.size≤k)∧∀k,T k→V k∨w.heap.size≤k
theorem RlX.idle{l:List Fr}{L:LS}{TT:Option Addr}{tc:Nat}{th:List TAs}(hX:RlX w B U T lb gb l b L TT tc th F):RlI w B (fun k=>k=lb∨F k) lb gb l b L:=
 ⟨⟨_,_,F,hX.box,hX.ga,hX.fl,fun k e=>.inr e⟩,.inl rfl,fun k e=>by
  rcases e with rfl|e
  ·exact hX.uB _ hX.lb
  ·exact hX.uB k (hX.fu k e)⟩
theorem RlFeedM.r{m:Nat}{p:LS×List UInt8}{e:Ending}(h:RlFeedM w B V lb gb m p e w'):zb4 w B V lb gb m p e w':=by
 obtain⟨U,T,l',TT,tc,th,F,rfl,hm,hX,hk,hU,hT⟩:=h;refine⟨fun k=>k=lb∨F k,l',TT,tc,th,rfl,hm,hX.idle,hk,fun k e=>?_,hX.tl,hX.row,fun g e=>⟨fun e2=>?_,hU g (hX.tt g e).1⟩,fun x hx=>⟨(hX.el x hx).1,fun g e=>⟨fun e2=>?_,hT g ((hX.el x hx).2 g e)⟩⟩⟩
 ·rcases e with rfl|e
  ·exact hU _ hX.lb
  exact hU k (hX.fu k e)
 ·rcases e2 with e2|e2
  ·exact(hX.tt g e).2.1 e2
  exact(hX.tt g e).2.2 e2
 have ht:=(hX.el x hx).2 g e;rcases e2 with rfl|e2
 ·exact hX.ut _ ht hX.lb
 exact hX.ut g ht (hX.fu g e2)
theorem Zh{w2 wd:World}{m:Nat}{U1 T1:Nat→Prop}{l':List Fr}{p:LS×List UInt8}{TT:Option Addr}{tc:Nat}{th:List TAs}{F1:Nat→Prop}(hX:RlX wd B U1 T1 lb gb l' p.2 p.1 TT tc th F1)(IJ:KeepF V w w2)(hK:KeepF U w2 wd)(G5:∀k,U k→V k)(GK:∀k,U1 k→U k∨w2.heap.size≤k)(uu:∀k,T1 k→(fun _=>False) k∨U k∨w2.heap.size≤k)(hm:l'.length≤m):
  RlFeedM w B V lb gb m p (.returned (.tuple #[.string (str p.1.sent),.slice TT p.1.told.length tc])) wd:=by
 have hz:=IJ.1;refine⟨U1,T1,l',TT,tc,th,F1,rfl,hm,hX,IJ.trans hK (fun g e=>.inl (G5 g e)),fun k e=>(GK k e).imp (G5 k) zAf,fun k e=>?_⟩;rcases uu k e with h|h|h
 ·exact h.elim
 ·exact .inl (G5 k h)
 exact .inr Wq
theorem zb5(l:List UInt8)(i:Nat)(hi:i<l.length)(w:World):(Instr.index 9 (.string (str l)) (.int .i64 (i:Int))).run prog w= .ok (.int .u8 (l[i].toNat:Int)) w:=by
 have hs:=zh l;rw[run_index_string w 9 (str l) .i64 _ underlying9,dif_pos ⟨by omega,by omega⟩];rfl
theorem zaz(W:World)(b:List UInt8)(hb:b.length≤20000):GetR W b (getP b).1 (getP b).2:=by
 intro A n c W' hB hr;have hl:=RdB.length hr;refine(zah A n c b W' hr Wq).mono ?_;exact Z5t_
theorem zaA(c:UInt8){l:List Fr}{L:LS}(h:RlM w B U T lb gb l b L)(hid:Idle L b)(hg:LG L)(h5:L.st≠5)(dI:b.length≤900000)(hs:L.sent.length≤1000000000)(tz:L.told.length≤1000000000)(hl:l.length≤900000):
  Calls prog 28 #[.pointer (some ⟨lb,0,none⟩),.int .u8 (c.toNat:Int)] w fun e w'=>e= .returned (.tuple #[])∧∃l2,l2.length≤l.length+1∧RStep w B U T lb gb l2 (LS.one ctlG (L,b) c).2 (LS.one ctlG (L,b) c).1 w':=by
 have Bm:=hg.sz;have ii:=hg.ch;refine Ku ctlG c h hid h5 Wq Wq hs fun f b' W hf hM su=>?_
 have dm:f.load.length≤1000000:=by
  rw[su];show(((b++ [c]).take _).drop 12).length≤1000000
  have e1:=List.length_take_le (frN (b++ [c])) (b++ [c]);have e2:(b++ [c]).length=b.length+1:=by simp
  have e3:((b++ [c]).take (frN (b++ [c]))).length≤(b++ [c]).length:=kv _ _;rw[kI];omega
 refine QL ctlG f hM dm Wq Wq hf.2.2 Wq tz (fun W F cL=>Kn F gb L.g l f W cL hg.inv hf dm hl) fun a A c W U' T' l' cQ lm tA hG=>?_
 obtain⟨sg,rest,gB,GH⟩:=XX hg.inv cQ;have fC:Z3 a=sg.load:=by unfold Z3;rw[gB]
 exact Y5 a sg rest gB (getP (Z3 a)).1 (getP (Z3 a)).2 (by rw[fC];exact zaz W sg.load Wq) (Jx _) A c tA hG Wq (show L.sz≤1000000 by omega) (show L.sent.length≤10000000000 by omega)
theorem zaB(s:List UInt8){l:List Fr}{L:LS}(h:RlI w B V lb gb l b L)(hg:LG L)(hid:Idle L b)(iT:b.length+s.length≤45000)(hl:l.length+s.length≤900000):
  Calls prog 13 #[.pointer (some ⟨lb,0,none⟩),.string (str s)] w (RlFeedM w B V lb gb (l.length+s.length) (LS.ones ctlG (L.core,b) s)):=by
 obtain⟨p,q,F,hb,cL,d7,r7⟩:=h.ex;have Pw:=(h.v _ h.lb).1;have oP:∀k,V k→B≤k:=fun k e=>(h.v k e).1
 have Tp:∀k,V k→k<w.heap.size:=fun k e=>(h.v k e).2
 have F7:=h.lb;have dr:=zh s;have ag:=KL (fun(t:List UInt8)=>XW V8 hid t);have WS:=KL (fun(t:List UInt8)=>zab hg b t);have bR:=hg.st;clear h hid hg;go_enter func13,ntmps13;go_wp2_with(with_reducible refine h_B ?_);refine zc (zm (j:=5) (v:=.string ⟨#[]⟩) (vs:=[.string ⟨#[]⟩]) rfl rfl rfl rfl hb rfl Wj Wz WZ #[.int .i64 (L.st:Int),.string (str b),.pointer (some ⟨gb,0,none⟩),.int .u64 (L.ch:Int),.int .u64 (L.sz:Int),.string ⟨#[]⟩,q] Wz ?_);intro w1 bL bM cq;clear cq;have dw:KeepF (fun k=>k=lb) w w1:=.grown bM (fun g e=>.inl uq);go_wp2_with(with_reducible refine h_B ?_);refine zc (zm (j:=6) (v:=.slice none 0 0) (vs:=[.slice none 0 0]) rfl rfl rfl rfl bL rfl Wj Wz WZ #[.int .i64 (L.st:Int),.string (str b),.pointer (some ⟨gb,0,none⟩),.int .u64 (L.ch:Int),.int .u64 (L.sz:Int),.string ⟨#[]⟩,.slice none 0 0] Wz ?_);intro w2 bE Hm et;clear et;have Bk:KeepF (fun k=>k=lb) w w2:=dw.trans (.grown (F:=fun k=>k=lb) Hm (fun g e=>.inl uq)) (fun _ h=>.inl h);have hX:=RlX.start bE (cL.keep Bk (fun k e e2=>d7 (e2▸e))) d7 (fun k e=>oP k (r7 k e)) Pw;have IJ:KeepF V w w2:=Bk.weak (fun g e=>.inl (e▸F7));obtain⟨U,hU⟩:∃U:Nat→Prop,U=fun k=>k=lb∨F k:=⟨_,rfl⟩
 have G5:∀k,U k→V k:=fun k e=>by
  rw[hU]at e;rcases e with rfl|e
  ·exact F7
  exact r7 k e
 rw[←hU]at hX;obtain⟨P0,pP⟩:∃P0:LS×List UInt8,P0=(L.core,b):=⟨_,rfl⟩
 have SH:RStep w2 B U (fun _=>False) lb gb l P0.2 P0.1 w2:=by rw[pP];exact RStep.mk hX (.refl _ _)
 rw[←pP];have Sw:=KL pP;clear hb cL d7 r7 F7 bL bM bE Hm dw Bk hX hU pP w1;go_wp2_with(with_reducible refine h_A ?_);go_loopw [6] (fun s6 wr=>∃(i:Nat) (l':List Fr),i≤s.length∧s6= .int .i64 (i:Int)∧l'.length≤l.length+i∧RStep w2 B U (fun _=>False) lb gb l' (LS.ones ctlG P0 (s.take i)).2 (LS.ones ctlG P0 (s.take i)).1 wr) (fun s6 _=>s.length-(KS s6).toNat)
 case atStart=>exact⟨0,l,by omega,rfl,by omega,SH⟩
 clear SH;obtain⟨i,l',hi,rfl,fD,hR⟩:=hrel;obtain⟨o1,o2,o3⟩:=ag.out (s.take i);obtain⟨GT,aF,UG,TB⟩:=WS.out (s.take i);rw[←Sw.out]at o1 o2 o3;have ip:(s.take i).length≤s.length:=kv _ _;obtain⟨p1,lQ⟩:∃p1,p1=LS.ones ctlG P0 (s.take i):=⟨_,rfl⟩
 rw[←lQ]at hR o1 o2 o3;rw[←o1]at GT UG TB o2;have t3:=KL lQ;have dI:p1.1.st≠5→p1.2.length≤45000:=fun e=>by rw[o2 e];omega
 have mS:p1.1.sent.length≤1000000000:=by omega
 have tz:p1.1.told.length≤1000000000:=by omega
 have HI:=KL o3;have HG:=KL GT;clear o1 o2 o3 GT aF UG TB ip lQ;obtain⟨U1,T1,⟨TT,tc,th,F1,hX⟩,hK,GK,uu⟩:=hR;have c0:=hX.box.c0;by_cases hlt:i<s.length
 ·have q1:(i:Int)<(s.length:Int):=by omega
  by_cases h5:p1.1.st=5
  ·exact Z1e_
  have d5:((p1.1.st:Int)!=5)=true:=by simp;omega
  have hix:=zb5 s i hlt;have HN:Hid (LS.ones ctlG P0 (s.take (i+1))=LS.one ctlG (p1.1,p1.2) s[i]):=KL (by rw[ky hlt,ZZ,←t3.out,if_neg h5]);have rI:=zaA s[i] ⟨_,_,_,_,hX⟩ HI.out HG.out h5 (by have:=dI h5;omega) mS tz Wq;clear dI h5;generalize s[i]=x at*;go_wp2_with(with_reducible refine h_A ?_);refine rI.mono ?_;rintro e w4 ⟨rfl,l2,cR,dG⟩;clear rI hix c0 hX d5;go_wp2_with(with_reducible refine h_A ?_);exact⟨⟨i+1,l2,by omega,by go_num,by omega,by rw[HN.out];exact RStep.of hK GK uu dG⟩,by simp[KS];omega⟩
 have qq7z:=();exact Z1e_
theorem zb3(ctl:LS→As→LS)(p:LS×List UInt8)(c:UInt8):(LS.one ctl p c).2.length≤p.2.length+1:=by
 unfold LS.one;repeat' split
 all_goals simp
theorem QO(ctl:LS→As→LS):∀(s:List UInt8) (p:LS×List UInt8),(LS.ones ctl p s).2.length≤p.2.length+s.length
 | [],_=>K0 _
 | c::s,p=>by
  by_cases h:p.1.st=5
  ·rw[qy ctl h];omega
  rw[LS.ones,if_neg h];have h1:=QO ctl s (LS.one ctl p c);have h2:=zb3 ctl p c;simp only[List.length_cons];omega
theorem JA{M:LS}{b':List UInt8}(hid:Idle M b')(hb:M.st≠5→b'=b)(x:List UInt8):
  (LS.ones ctlG (M.core,b') x).1=(LS.feed ctlG M b x).1∧((LS.feed ctlG M b x).1.st≠5→(LS.ones ctlG (M.core,b') x).2=(LS.feed ctlG M b x).2)∧Idle (LS.ones ctlG (M.core,b') x).1 (LS.ones ctlG (M.core,b') x).2:=by
 by_cases h5:M.st=5
 ·have e:LS.feed ctlG M b x=(M.core,b):=by unfold LS.feed;rw[if_pos h5];rfl
  rw[e,qy ctlG (show M.core.st=5 from h5)];exact⟨rfl,fun k=>absurd h5 k,⟨hid.hdr,hid.fr⟩⟩
 rw[hb h5]at hid ⊢;exact XW V8 hid x
theorem zay:Idle LS0 []:=⟨fun _=>⟨by decide,rfl⟩,fun h=>absurd rfl h⟩
def SeB(w wr:World)(xb yb gb:Nat)(m k:Nat):Prop:=∃(b b':List UInt8) (M:LS) (Vx Uy Ty:Nat→Prop) (nx:Nat) (ly:List Fr),
 LG M∧Idle M b'∧(M.st≠5→b'=b)∧b.length≤m∧b'.length≤m∧nx≤50000*k∧ly.length≤m∧LkI wr w.heap.size Vx xb nx b M∧RlM wr w.heap.size Uy Ty yb gb ly b' M∧(∀k,Vx k→¬Uy k∧¬Ty k)∧Below w.heap.size w wr
theorem zb2(hg:Box w' gb 67 #[.slice none 0 0,.bool false])(hl:Box w' lb 38 (rlk0 gb))(hB:B≤gb)(hBl:B≤lb)(hne:gb≠lb):RlM w' B (fun k=>k=lb∨k=gb) (fun _=>False) lb gb [] [] LS0:=
 ⟨none,0,[],fun k=>k=gb,RlX.start (L:=LS0) hl ⟨⟨none,0,hg,Own.none_ _ _ _ _,fun k e=>by cases e⟩,rfl,fun k e=>e▸hg.lt,fun _ _=>rfl,fun f hf=>by cases hf⟩ (fun e=>hne e.symm) (fun k e=>e▸hB) hBl⟩
theorem RlM.keep{G:Nat→Prop}{l:List Fr}{L:LS}(h:RlM w B U T lb gb l b L)(hk:KeepF G w w')(hU:∀k,U k→¬G k)(hT:∀k,T k→¬G k):RlM w' B U T lb gb l b L:=by
 obtain⟨TT,tc,th,F,hX⟩:=h;exact⟨TT,tc,th,F,hX.keep hk hU hT⟩
theorem YG(A:Option Addr)(n c:Nat)(L:List (List UInt8))(a:As)(A2:Option Addr)(n2 c2:Nat)(text:List UInt8)(w:World)(he:MEnv w)(hT:UTabs w)(hr:Rd w w.heap.size 1 A n c (L.map txV))(hl:∀x∈L,x.length≤140737488351232)(hn:n≤140737488351232)
  (eF:RdG w w.heap.size A2 n2 c2 a.segs) (Oc:a.wf) (NL:∀s∈a.segs,s.load.length≤140737488351232) (Pr:n2≤140737488351232) (pf:text.length≤140737488351232):
  Calls prog 6 #[.slice A n c,.agg (asV a.chan a.track A2 n2 c2),.string (str text)] w fun e w'=>e= .returned (.bool true)∧Below w.heap.size w w':=by
 unfold asV;obtain⟨ab,w0,bC,bh,hX,Hr⟩:=zo w #[.int .u16 (a.chan:Int),.int .u8 (a.track:Int),.slice A2 n2 c2] 42;have si:=zaw A n c L w0 ((hr.below Hr).more Hr.size) hl hn;have HR:=KL hr;have HL:Hid (L.length=n):=KL (by have:=hr.len;simpa using this);have HE:=KL he;have HT:=KL hT;have O7:=KL eF;have OH:=KL NL;have PE:=KL Oc;have dr:=zh text;have Lw:w.heap.size≤ab:=by omega
 clear hr hl eF NL Oc;go_enter func6,ntmps6;go_upto_region 1 with fail;rw[←bC,←bh];clear bC bh;have x2:=hX.c2;go_wp2_with(with_reducible refine h_A ?_);refine si.mono ?_;rintro e w' ⟨⟨g,rfl,hg⟩,rfl⟩;clear si
 cases g
 ·obtain⟨rH,sA⟩:=hg rfl;clear hg;by_cases t1:10<n2
  ·have qqe1:=();exact Z3d_
  have d1:¬(10:Int)<(n2:Int):=by omega
  by_cases t2:400<text.length
  ·exact Z3d_
  have d2:¬(400:Int)<(text.length:Int):=by omega
  have eK:=YZ w0;go_wp2_with(with_reducible refine h_A ?_);refine eK.mono ?_;rintro e w1 ⟨rfl,S5,bL,Ha⟩;clear eK;obtain⟨xb,Hg⟩:∃b,b=w0.heap.size+2:=⟨_,rfl⟩
  have Dp:=Hr.size;rw[←Hg]at bL;have R6:=zcU (B:=w0.heap.size) bL S5 Wq (fun k hk=>by omega) Wq;have eS:=Vi w1;go_wp2_with(with_reducible refine h_A ?_);rw[←Hg];have hxa:ab≠xb:=by have:=hX.lt;omega
  have IZ:ab<w0.heap.size:=hX.lt;clear Hg;refine eS.mono ?_;rintro e w2 ⟨rfl,NS,bE,Hc,Ek⟩;clear eS Ek;have BW:=Ha.size;obtain⟨gb,pw⟩:∃b,b=w1.heap.size:=⟨_,rfl⟩
  obtain⟨yb,iD⟩:∃b,b=w1.heap.size+1:=⟨_,rfl⟩
  have NN:=zb2 (B:=w0.heap.size) NS bE Wq Wq Wq;rw[←iD,←pw]at NN;have D6:=R6.keep (G:=fun _=>False) (.below Hc) (fun _ _ e=>e);have BT:=Ha.trans (Hc.mono Ha.size);have dF:=R6.v;obtain⟨TD,Ei⟩:∃V:Nat→Prop,V=fun k=>k=xb∨(k=w0.heap.size∨k=w0.heap.size+1):=⟨_,rfl⟩
  obtain⟨Wg,DZ⟩:∃V:Nat→Prop,V=fun k=>k=yb∨k=gb:=⟨_,rfl⟩
  have pi:∀k,TD k→¬Wg k∧¬(fun _=>False) k:=fun k hk=>⟨fun Bk=>by
   rw[Ei]at hk;rw[DZ]at Bk;have:=dF k hk
   omega,fun e=>e⟩
  rw[←Ei]at D6;rw[←DZ]at NN;have tW:=KL (HE.out.on Hr);have Ui:=KL (HT.out.on Hr);have Ue:=KL (HE.out.on Hr).lt;go_upto_region 4 with fail;rw[←iD];clear iD pw Ei DZ R6 S5 bL NS bE dF BW Ha Hc x2 d1 d2;go_wp2_with(with_reducible refine h_A ?_);go_loopw [9] (fun s9 wr=>∃i:Nat,i≤n∧s9= .int .i64 (i:Int)∧SeB w0 wr xb yb gb (sumL (L.take i)) i) (fun s9 _=>n-(KS s9).toNat)
  case atStart=>
   exact⟨0,by omega,rfl,[],[],LS0,TD,Wg,_,0,[],zdy,zay,fun _=>rfl,by simp,by simp,by omega,by simp,D6,NN,pi,BT⟩
  clear D6 NN pi BT;obtain⟨i,hi,rfl,b,b',M,Vx,Uy,Ty,nx,ly,hM,hid,ef,dI,So,dR,W6,hI,hJ,pi,hB⟩:=hrel
  have NA:∀k,(Uy k∨Ty k)→k<wr.heap.size:=fun k e=>by
   obtain⟨_,_,_,_,hz⟩:=hJ;rcases e with e|e
   ·exact(hz.uB k e).2
   exact hz.tB k e
  have Pp:=hI.v;by_cases hlt:i<n
  ·(have g1:(i:Int)<(n:Int):=by omega);obtain⟨tb,toff,u,rfl,gQ,hu,fh⟩:=HR.out.at_k hlt;(have bK:i<L.length:=by rw[HL.out];exact hlt);(obtain rfl:u= .string (str L[i]):=by rw[q3,K2 bK]at hu;exact(Option.some.inj hu).symm);(have uu:sumL (L.take (i+1))=sumL (L.take i)+L[i].length:=by rw[ky bK,X8]);have Dh:=X7 L (i+1);clear hu;generalize L[i]=x at*;have bI:=Hr.trans (hB.mono Hr.size);have k0:=(bI.cell (p:=⟨tb,toff+i,none⟩) gQ).trans fh;obtain⟨f1,f2,f3,f4⟩:=zab hM b x;obtain⟨p1,p2,p3⟩:=JA hid ef x;have p4:=QO ctlG x (M.core,b');have eU:=zav (s:=x) hB Ui.out tW.out hI hM Wq Wq
   have Sm:∀W,RlM W w0.heap.size Uy Ty yb gb ly b' M→∃V,(∀k,V k→Uy k)∧Calls prog 13 #[.pointer (some ⟨yb,0,none⟩),.string (str x)] W (RlFeedM W w0.heap.size V yb gb (ly.length+x.length) (LS.ones ctlG (M.core,b') x)):=fun W hJ'=>by
    obtain⟨_,_,_,F,hz⟩:=hJ';exact⟨fun k=>k=yb∨F k,fun k e=>by rcases e with rfl|e;exact hz.lb;exact hz.fu k e,zaB x hz.idle hM hid Wq Wq⟩
   (obtain⟨Q,hQ⟩:∃q,q=LS.feed ctlG M b x:=⟨_,rfl⟩);(obtain⟨P,hP⟩:∃q,q=LS.ones ctlG (M.core,b') x:=⟨_,rfl⟩);rw[←hQ]at f1 f2 f3 f4 eU p1 p2;rw[←hP]at Sm p1 p2 p3 p4;simp only at p4;clear hQ hP hid ef;obtain⟨Q1,Q2⟩:=Q;obtain⟨P1,P2⟩:=P;simp only at f1 f2 f3 f4 p1 p2 p3 p4;subst p1;have aY:=KL p2;clear f3 f4 p2;have z2:=zh x;go_wp2_with(with_reducible refine h_A ?_);refine eU.mono ?_;rintro e w4 ⟨n',Ff,V',TU,tu,ti,rfl,Px,eR,wl, -, -, -, -⟩;have ON:=hJ.keep eR (fun k hk e=>(pi k e).1 hk) (fun k hk e=>(pi k e).2 hk)
   have Cw:∀k,V' k→¬Uy k∧¬Ty k:=fun k hk=>by
    rcases wl k hk with e2|e2
    ·exact pi k e2
    exact⟨fun e=>by have:=NA k (.inl e);omega,fun e=>by have:=NA k (.inr e);omega⟩
   have Hn:=hB.trans (eR.toBelow hB.size (fun k hk=>(Pp k hk).1));have Fg:=Px.v;have k4:=((Hr.trans (Hn.mono Hr.size)).cell (p:=⟨tb,toff+i,none⟩) gQ).trans fh;have NM:=Hn.size;obtain⟨Vy,I7,ME⟩:=Sm w4 ON
   have DE:∀k,Uy k→w0.heap.size≤k:=fun k e=>by
    obtain⟨_,_,_,_,hz⟩:=ON;exact(hz.uB k e).1
   clear eU Sm k0 hI hJ eR wl hB pi bI NA Pp ON;go_wp2_with(with_reducible refine h_A ?_);refine ME.mono ?_;rintro e w5 ⟨U1,T1,ly',TW,tw,tj,FW,rfl,SD,BZ,Bt,Cy,Ds⟩;have Lg:=Px.keep Bt (fun k hk e=>(Cw k hk).1 (I7 k e));have bz:=Hn.trans (Bt.toBelow NM (fun k hk=>DE k (I7 k hk)))
   have Mw:∀k,V' k→¬U1 k∧¬T1 k:=fun k hk=>⟨fun e=>by
    rcases Cy k e with e2|e2
    ·exact(Cw k hk).1 (I7 k e2)
    ·have:=(Fg k hk).2;omega,fun e=>by
    rcases Ds k e with e2|e2
    ·exact(Cw k hk).1 (I7 k e2)
    ·have:=(Fg k hk).2;omega⟩
   have gv:SeB w0 w5 xb yb gb (sumL (L.take (i+1))) (i+1):=⟨Q2,P2,P1,V',U1,T1,n',ly',f1,p3,aY.out,by omega,by omega,by omega,by omega,Lg,⟨_,_,_,_,BZ⟩,Mw,bz⟩;clear ME Px Cw Hn Fg k4 Bt Cy Ds BZ Lg bz Mw SD Ff f1 f2 p3 p4 W6 dR dI So hM fh gQ DE I7;go_wp2_with(with_reducible refine h_A ?_);exact⟨⟨i+1,by omega,by go_num,gv⟩,by simp[KS];omega⟩
  obtain rfl:i=n:=by omega
  have Dh:=X7 L i;have bR:=hM.st;have Bm:=hM.sz;have bI:=Hr.trans (hB.mono Hr.size);obtain⟨gp,_,_,_,RA,rn,rc,F0,cU,_⟩:=id hI.ex;obtain⟨TT,tc,th,FY,hY⟩:=id hJ;have u4:=YF M xb gp a A2 n2 c2 wr (cU.cell (j:=0) rfl) (cU.cell (j:=2) rfl) (cU.cell (j:=3) rfl) (cU.cell (j:=4) rfl) bR Wq ((O7.out.below bI).more bI.size) PE.out OH.out Pr;have pE:=fun(W:World) (hW:Below wr.heap.size wr W)=>Kr M yb a A2 n2 c2 W ((hY.box.below hW).cell (j:=0) rfl) ((hY.box.below hW).cell (j:=3) rfl) ((hY.box.below hW).cell (j:=4) rfl) bR Wq ((O7.out.below (bI.trans (hW.mono bI.size))).more (bI.trans (hW.mono bI.size)).size) PE.out OH.out Pr
  obtain⟨S,hS⟩:∃S,S=M.sendA a:=⟨_,rfl⟩
  rw[←hS]at u4 pE;obtain⟨S1,S2⟩:=S;unfold asV at u4 pE;have pX:=hX.below hB;have x0:=pX.c0;have x1:=pX.c1;have x2:=pX.c2;clear hS cU hY hid ef;go_wp2_with(with_reducible refine h_A ?_);refine u4.mono ?_;rintro e w2 ⟨rfl,Hc⟩;clear u4 x0 x1 x2;have Em:=pE w2 Hc;have Hk:=pX.below Hc;have x0:=Hk.c0;have x1:=Hk.c1;have x2:=Hk.c2;clear pE pX;try simp only at Em
  go_wp2_with(with_reducible refine h_A ?_);refine Em.mono ?_;rintro e w3 ⟨rfl,Hh⟩;have Bn:=Hc.trans (Hh.mono Hc.size);have Tu:=hI.keep (G:=fun _=>False) (.below Bn) (fun _ _ e=>e);have UA:=hJ.keep (G:=fun _=>False) (.below Bn) (fun _ _ e=>e) (fun _ _ e=>e);have Bo:=hB.trans (Bn.mono hB.size);have BW:((str S1).toList !=(str S1).toList)=false:=by simp
  have cj:((S2:Int)!=(S2:Int))=false:=by simp
  clear Em Hk x0 x1 x2 Hc Hh hI hJ Bn NA hB bI;go_upto_region 13 with fail;clear BW cj;have N0:=YE 320 text Wq Wq Tu (tW.out.on Bo) Ue.out Wq bR;rw[show((320:Nat):Int)=320 from rfl]at N0;obtain⟨CR,Ow⟩:∃CR,CR=M.closeR 320 text:=⟨_,rfl⟩
  rw[←Ow]at N0;go_wp2_with(with_reducible refine h_A ?_);refine N0.mono ?_;rintro e w5 ⟨rfl,Lg,Bt⟩;have Rm:=UA.keep Bt (fun k hk e=>(pi k e).1 hk) (fun k hk e=>(pi k e).2 hk);have H6:=Bo.trans (Bt.toBelow Bo.size (fun k hk=>(Pp k hk).1));have OS:=QN 320 text Wq Wq Rm Wq
  have DE:∀k,Uy k→w0.heap.size≤k:=fun k e=>by
   obtain⟨_,_,_,_,hz⟩:=Rm;exact(hz.uB k e).1
  rw[show((320:Nat):Int)=320 from rfl,←Ow]at OS;clear N0 Tu UA Bo Bt Ow Rm;go_wp2_with(with_reducible refine h_A ?_);refine OS.mono ?_;rintro e w6 ⟨rfl,gj⟩;have SC:=Lg.keep gj (fun k hk e=>(pi k hk).1 e);have dC:=H6.trans (gj.toBelow H6.size DE);have Tx:LG {M with st:=5}:=⟨hM.inv,hM.sz,hM.ch,by show(5:Nat)<256;omega⟩;have eU:=zav (s:=[65,77,81,80]) dC Ui.out tW.out SC Tx Hq Wq;have hq:LS.feed ctlG {M with st:=5} b [65,77,81,80]=(({M with st:=5}:LS).core,b):=by unfold LS.feed;rw[if_pos rfl];rfl
  rw[hq,show str [65,77,81,80]=(⟨#[65,77,81,80]⟩:ByteArray)from rfl]at eU;have Tc:=SC.v;clear OS Lg H6 gj hq DE;go_wp2_with(with_reducible refine h_A ?_);refine eU.mono ?_;rintro e w7 ⟨n',Ff,V',TU,tu,ti,rfl,G2,ic,MF, -, -, -, -⟩;have fK:=dC.trans (ic.toBelow dC.size (fun k hk=>(Tc k hk).1));have D7:=Hr.trans (fK.mono Hr.size);obtain⟨gp7,_,_,_,_,_,_,_,gw,_⟩:=id G2.ex;have u4:=YF ({M with st:=5}:LS).core xb gp7 a A2 n2 c2 w7 (gw.cell (j:=0) rfl) (gw.cell (j:=2) rfl) (gw.cell (j:=3) rfl) (gw.cell (j:=4) rfl) (by show(5:Nat)<256;omega) (by show M.sz≤1000000;omega) ((O7.out.below D7).more D7.size) PE.out OH.out Pr;rw[show LS.sendA ({M with st:=5}:LS).core a=([],9) by unfold LS.sendA;rw[if_pos (by show(5:Nat)≠4;omega)]]at u4;unfold asV at u4;have Bp:=hX.below fK;have x0:=Bp.c0;have x1:=Bp.c1;have x2:=Bp.c2;clear eU SC dC ic gw Tc;try simp only at u4
  rw[show(({M with st:=5}:LS).core).sent=[]from rfl,show(({M with st:=5}:LS).core).told.length=0 from rfl,show str ([]:List UInt8)=(⟨#[]⟩:ByteArray)from rfl];rw[show((9:Nat):Int)=9 from rfl]at u4;go_wp2_with(with_reducible refine h_A ?_);refine u4.mono ?_;rintro e w8 ⟨rfl,Be⟩;have NY:=G2.keep (G:=fun _=>False) (.below Be) (fun _ _ e=>e);have iA:=fK.trans (Be.mono fK.size);clear u4 x0 x1 x2 Bp G2 D7 fK Be;obtain⟨gp8,_,_,_,_,_,_,_,ph,_⟩:=id NY.ex;have FQ:=qD xb 5 gp8 w8 (ph.cell (j:=0) rfl) (ph.cell (j:=2) rfl);rw[show((5:Nat):Int)=5 from rfl]at FQ;have Af:=YE 200 text Wq Wq NY (tW.out.on iA) Ue.out (by show M.sz≤1000000;omega) (by show(5:Nat)<256;omega);rw[show LS.closeR ({M with st:=5}:LS).core 200 text=[] by unfold LS.closeR;rw[if_pos (.inr rfl)],show((200:Nat):Int)=200 from rfl,show str ([]:List UInt8)=(⟨#[]⟩:ByteArray)from rfl]at Af;have RP:((str CR).toList==(str CR).toList)=true:=by simp
  have Tn:=NY.v;clear ph;go_wp2_with(with_reducible refine h_A ?_);refine FQ.mono ?_;rintro e w' ⟨rfl,rfl⟩;go_wp2_with(with_reducible refine h_A ?_);refine Af.mono ?_;rintro e w9 ⟨rfl, -,UB⟩;have gE:=iA.trans (UB.toBelow iA.size (fun k hk=>(Tn k hk).1));have hh:=km w9 (tW.out.on gE);clear FQ Af NY RP Tn UB;go_wp2_with(with_reducible refine h_A ?_);refine hh.mono ?_;rintro e rh ⟨rfl,lO⟩;go_wp2_with(with_reducible refine h_A ?_);go_ret;exact⟨rfl,Hr.trans ((gE.trans (lO.mono gE.size)).mono Hr.size)⟩
 have qqe2:=();exact Z3d_
end Go.PH
